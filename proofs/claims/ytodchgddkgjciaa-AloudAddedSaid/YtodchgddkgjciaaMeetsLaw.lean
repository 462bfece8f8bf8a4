/- The walk of the statement AloudMeets: it answers true. Conditions: lengths within the reach of the form. -/
import Derived.Test.YtodchgddkgjciaaRunsLaw
import Derived.Test.YtodchgddkgjciaaMeetsMath
namespace Go.Proofs.Ytodchgddkgjciaa
set_option linter.unusedVariables false
set_option linter.unusedSimpArgs false
open Go Go.RowKit
theorem outB_error (e : Int) : outB (.error e) = .tuple #[.bool false, .int .i64 e] := rfl
theorem outB_ok (b : Bool) : outB (.ok b) = .tuple #[.bool b, .int .i64 0] := rfl
theorem meets_next {n : Nat} {l r t : List UInt8} (ht : days n r = .ok t) : Meets (n + 1) l r ↔ Meets n l r ∧ t.head? ≠ l.getLast? := by
  constructor
  · intro h
    exact ⟨fun d hd => h d (by omega), h n (by omega) t ht⟩
  · rintro ⟨h, k⟩ d hd u hu
    by_cases hdn : d = n
    · subst hdn
      rw [ht] at hu
      cases hu
      exact k
    · exact h d (by omega) u hu
set_option maxHeartbeats 4000000 in
set_option maxRecDepth 100000 in
theorem Meets_law (s t : ByteArray) (d : Nat) (w : World) (h1 : s.size ≤ 140737488351232) (h2 : t.size ≤ 140737488351232) (h3 : d < 256) :
    Calls Try.prog 7 #[.string s, .string t, .int .u8 d] w fun e w' => e = .returned (.bool true) ∧ Below w.heap.size w w' := by
  have HA := Lib.hid (fun W => alive_any W)
  by_cases hf : s.size ≤ 1000 ∧ t.size ≤ 1000
  · have HF := Lib.hid (fun W => few_two s t true W h1 h2 (decide_eq_true hf))
    obtain ⟨hf1, hf2⟩ := hf
    obtain ⟨n, hcv⟩ : ∃ n : Nat, (d : Int) % 16 = n := ⟨d % 16, by omega⟩
    have hn : n ≤ 15 := by omega
    have hx := fun W => Apart_any s t n W h1 h2
    cases hr : apartE (ls s) (ls t) n with
    | error e =>
      have he := apartE_error hr
      have heb : (e == 0) = false := by rw [beq_eq_false_iff_ne]; exact he
      have hen : (e != 0) = true := by rw [bne, heb]; rfl
      rw [hr] at hx
      have HX := Lib.hid hx
      clear hx hr he
      go_enter Try.func7, Try.ntmps7
      go_wp2_with (first | (go_at_call 16; (with_reducible refine (HF.out _).mono ?_); rintro e w1 ⟨rfl, rfl⟩) | (go_at_call 24; (with_reducible refine (HX.out _).mono ?_); rw [outB_error]; rintro e w1 ⟨rfl, hb⟩; have HBA := Lib.hid hb; clear hb) | (go_at_call 17; (with_reducible refine (HA.out _).mono ?_); rintro e w1 ⟨rfl, hb⟩; have HB := Lib.hid hb; clear hb))
      go_ret
      exact ⟨rfl, next_below HBA.out HB.out⟩
    | ok b =>
      rw [hr] at hx
      have HX := Lib.hid hx
      have hbm := apart_meets hr
      obtain ⟨ws, wt, hn40, hst, x, y, z, e1, e2, e3, -⟩ := apartE_yes hr
      rw [length_ls, length_ls] at hst
      obtain ⟨s1, s2, s3⟩ := wordE_zero.1 ws
      obtain ⟨t1, t2, t3⟩ := wordE_zero.1 wt
      rw [length_ls] at t1
      have hsp : 0 < s.size := by rw [← length_ls]; exact List.length_pos_iff.2 s3
      have hlt1 : s.size - 1 < s.size := by omega
      obtain ⟨p, hp⟩ : ∃ p, s[s.size - 1] = p := ⟨_, rfl⟩
      have hlast := ls_last hlt1 hp
      have hday : ∀ j, j ≤ n → ∃ u : ByteArray, days j (ls t) = .ok (ls u) ∧ 0 < u.size ∧ u.size ≤ 100000 ∧ ∀ W, Calls Try.prog 27 #[.string t, .int .i64 j] W fun e w' => e = .returned (.tuple #[.string u, .int .i64 0]) ∧ Below W.heap.size W w' := by
        intro j hj
        obtain ⟨u, hu⟩ := days_before e2 hj
        obtain ⟨b, rfl⟩ : ∃ b : ByteArray, u = ls b := ⟨bs u, (ls_bs u).symm⟩
        refine ⟨b, hu, ?_, ?_, fun W => ?_⟩
        · rw [← length_ls]; exact List.length_pos_iff.2 (days_ne hu t3)
        · rw [← length_ls]; exact days_len hu (by rw [length_ls]; omega)
        · have := Days_any t j W h2
          rw [daysE_eq wt (by omega), hu, outS_ok, bs_ls] at this
          exact this
      have g3 : IntKind.i64.wrap ((s.size : Int) - 1) = (s.size : Int) - 1 := IntWalk.i64_in _ (by omega)
      have g4 : 0 ≤ (s.size : Int) - 1 := by omega
      have g5 : (s.size : Int) - 1 < (s.size : Int) := by omega
      have g6 : ((s.size : Int) - 1).toNat = s.size - 1 := by omega
      have HBM := Lib.hid hbm
      have HLAST := Lib.hid hlast
      have HDAY := Lib.hid hday
      clear hx hr hbm ws wt s1 s2 s3 t2 t3 hday e1 e2 e3 hlast
      go_enter Try.func7, Try.ntmps7
      go_wp2_with (first | (go_at_call 16; (with_reducible refine (HF.out _).mono ?_); rintro e w1 ⟨rfl, rfl⟩) | (go_at_call 24; (with_reducible refine (HX.out _).mono ?_); rw [outB_ok]; rintro e w1 ⟨rfl, hb⟩; have HBA := Lib.hid hb; clear hb))
      go_loopw [10, 11] (fun v10 v11 wr => ∃ (v : Bool) (i : Nat), v10 = .bool v ∧ v11 = .int .i64 i ∧ i ≤ n ∧ Hid (v = true ↔ Meets i (ls s) (ls t)) ∧ Below w.heap.size w wr) (fun _ v11 _ => n - (intOf v11).toNat)
      case atStart => exact ⟨true, 0, rfl, rfl, Nat.zero_le _, ⟨fun _ d hd => absurd hd (by omega), fun _ => rfl⟩, HBA.out⟩
      case round =>
        obtain ⟨v, i, rfl, rfl, hi, HV, hB⟩ := hrel
        have HB := Lib.hid hB
        clear hB
        by_cases hlt : i < n
        · obtain ⟨u, hu, hu0, hu1, huc⟩ := HDAY.out i hi
          have HU := Lib.hid hu
          have HUC := Lib.hid huc
          have hz : ((u.size : Int) == 0) = false := by rw [beq_eq_false_iff_ne]; omega
          have g7 : (0 : Int) < (u.size : Int) := by omega
          obtain ⟨q, hq⟩ : ∃ q, u[0] = q := ⟨_, rfl⟩
          have HFIRST := Lib.hid (ls_first hu0 hq)
          clear hu huc
          cases v with
          | false =>
            go_wp2_with (first | (go_at_call 27; (with_reducible refine (HUC.out _).mono ?_); rintro e w2 ⟨rfl, hb⟩; have HBU := Lib.hid hb; clear hb))
            go_quiet (fail)
            go_wp2
            go_roundw
            case rel => exact ⟨false, i + 1, rfl, by go_num, by omega, ⟨fun h => (nomatch h), fun h => HV.out.2 ((meets_next HU.out).1 h).1⟩, below_drew (HB.out.trans (HBU.out.mono HB.out.size)) _⟩
            case measure => simp [intOf]; omega
          | true =>
            by_cases hpq : q = p
            · have hxb : ((q.toNat : Int) == (p.toNat : Int)) = true := by rw [hpq]; simp
              have hxn : ((q.toNat : Int) != (p.toNat : Int)) = false := by rw [bne, hxb]; rfl
              have HT : Hid ((ls u).head? = (ls s).getLast?) := by unfold Hid; rw [HFIRST.out, HLAST.out, hpq]
              clear hpq
              go_wp2_with (first | (go_at_call 27; (with_reducible refine (HUC.out _).mono ?_); rintro e w2 ⟨rfl, hb⟩; have HBU := Lib.hid hb; clear hb))
              go_quiet (fail)
              go_wp2
              go_roundw
              case rel => exact ⟨false, i + 1, rfl, by go_num, by omega, ⟨fun h => (nomatch h), fun h => absurd HT.out ((meets_next HU.out).1 h).2⟩, below_drew (HB.out.trans (HBU.out.mono HB.out.size)) _⟩
              case measure => simp [intOf]; omega
            · have hxb : ((q.toNat : Int) == (p.toNat : Int)) = false := by
                rw [beq_eq_false_iff_ne]
                intro h
                exact hpq (UInt8.toNat_inj.1 (by omega))
              have hxn : ((q.toNat : Int) != (p.toNat : Int)) = true := by rw [bne, hxb]; rfl
              have HT : Hid ((ls u).head? ≠ (ls s).getLast?) := by
                unfold Hid
                rw [HFIRST.out, HLAST.out]
                intro h
                exact hpq (Option.some.inj h)
              clear hpq
              go_wp2_with (first | (go_at_call 27; (with_reducible refine (HUC.out _).mono ?_); rintro e w2 ⟨rfl, hb⟩; have HBU := Lib.hid hb; clear hb))
              go_quiet (fail)
              go_wp2
              go_roundw
              case rel => exact ⟨true, i + 1, rfl, by go_num, by omega, ⟨fun _ => (meets_next HU.out).2 ⟨HV.out.1 (by simp), HT.out⟩, fun _ => rfl⟩, below_drew (HB.out.trans (HBU.out.mono HB.out.size)) _⟩
              case measure => simp [intOf]; omega
        · obtain rfl : i = n := by omega
          obtain rfl : b = v := by
            rw [Bool.eq_iff_iff, HBM.out, HV.out]
          clear hlt
          have hlt : ¬ i < i := by omega
          cases b
          all_goals
            go_wp2_with (first | (go_at_call 17; (with_reducible refine (HA.out _).mono ?_); rintro e w1 ⟨rfl, hb⟩; have HBZ := Lib.hid hb; clear hb))
            go_ret
            exact ⟨rfl, HB.out.trans (HBZ.out.mono HB.out.size)⟩
  · have HF := Lib.hid (fun W => few_two s t false W h1 h2 (decide_eq_false hf))
    clear hf
    go_enter Try.func7, Try.ntmps7
    go_wp2_with (first | (go_at_call 16; (with_reducible refine (HF.out _).mono ?_); rintro e w1 ⟨rfl, rfl⟩) | (go_at_call 17; (with_reducible refine (HA.out _).mono ?_); rintro e w1 ⟨rfl, hb⟩; have HB := Lib.hid hb; clear hb))
    go_ret
    exact ⟨rfl, HB.out⟩
end Go.Proofs.Ytodchgddkgjciaa
