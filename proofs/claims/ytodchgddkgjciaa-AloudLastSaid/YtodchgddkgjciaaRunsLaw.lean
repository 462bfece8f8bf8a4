/- The walk of the statement AloudRuns: it answers true. Conditions: lengths within the reach of the form. -/
import Derived.Test.YtodchgddkgjciaaPartsLaw
import Derived.Test.YtodchgddkgjciaaRunsMath
namespace Go.Proofs.Ytodchgddkgjciaa
set_option linter.unusedVariables false
set_option linter.unusedSimpArgs false
open Go Go.RowKit
theorem ls_at {s : ByteArray} {i : Nat} {x : UInt8} (h : i < s.size) (hx : s[i] = x) : (ls s)[i]? = some x := by
  rw [List.getElem?_eq_getElem (by rw [length_ls]; exact h), ← hx]
  rfl
set_option maxHeartbeats 4000000 in
set_option maxRecDepth 100000 in
theorem Runs_law (s : ByteArray) (w : World) (h1 : s.size ≤ 140737488351232) :
    Calls Try.prog 5 #[.string s] w fun e w' => e = .returned (.bool true) ∧ Below w.heap.size w w' := by
  have HA := Lib.hid (fun W => alive_any W)
  by_cases hf : s.size ≤ 1000
  · have HF := Lib.hid (fun W => few_one s true W h1 (decide_eq_true hf))
    obtain ⟨k, hk⟩ : ∃ k, wordE (ls s) = k := ⟨_, rfl⟩
    have HK := Lib.hid (fun W => Word_of s k W h1 hk)
    by_cases h0 : k = 0
    · subst h0
      have hx := fun W => Say_any s W h1
      cases hs : say (ls s) with
      | none =>
        rw [sayE_none hk hs] at hx
        have HX := Lib.hid hx
        clear hk hx hs hf
        go_enter Try.func5, Try.ntmps5
        go_wp2_with (first | (go_at_call 16; (with_reducible refine (HF.out _).mono ?_); rintro e w1 ⟨rfl, rfl⟩) | (go_at_call 26; (with_reducible refine (HK.out _).mono ?_); rintro e w1 ⟨rfl, rfl⟩) | (go_at_call 18; (with_reducible refine (HX.out _).mono ?_); rw [outS_error]; rintro e wa ⟨rfl, hb⟩; have HBA := Lib.hid hb; clear hb) | (go_at_call 17; (with_reducible refine (HA.out _).mono ?_); rintro e w1 ⟨rfl, hb⟩; have HB := Lib.hid hb; clear hb))
        go_ret
        exact ⟨rfl, next_below HBA.out HB.out⟩
      | some u =>
        rw [sayE_some hk hs] at hx
        have hul := say_size hk hs
        obtain ⟨hnr, t, ht, htl, hte⟩ := said_twice hk hs
        have hd := fun W => Days_any s (2 : Nat) W h1
        rw [daysE_eq hk (by decide), ht] at hd
        obtain ⟨b, rfl⟩ : ∃ b : ByteArray, u = ls b := ⟨bs u, (ls_bs u).symm⟩
        obtain ⟨c, rfl⟩ : ∃ c : ByteArray, t = ls c := ⟨bs t, (ls_bs t).symm⟩
        rw [bs_ls] at hul
        rw [length_ls] at htl
        have oS : ∀ x : ByteArray, outS (.ok (ls x)) = .tuple #[.string x, .int .i64 0] := fun x => by rw [outS_ok, bs_ls]
        rw [oS] at hx hd
        have HX := Lib.hid hx
        have HD := Lib.hid (show ∀ W, Calls Try.prog 27 #[.string s, .int .i64 2] W fun e w' => e = .returned (.tuple #[.string c, .int .i64 0]) ∧ Below W.heap.size W w' from hd)
        have HNR := Lib.hid hnr
        have HTE := Lib.hid hte
        clear hk hx hd hs ht hte hnr hf oS
        go_enter Try.func5, Try.ntmps5
        go_wp2_with (first | (go_at_call 16; (with_reducible refine (HF.out _).mono ?_); rintro e w1 ⟨rfl, rfl⟩) | (go_at_call 26; (with_reducible refine (HK.out _).mono ?_); rintro e w1 ⟨rfl, rfl⟩) | (go_at_call 18; (with_reducible refine (HX.out _).mono ?_); rintro e wa ⟨rfl, hb⟩; have HBA := Lib.hid hb; clear hb))
        go_loopw [5, 6] (fun v5 v6 wr => ∃ i r : Nat, v5 = .int .i64 r ∧ v6 = .int .i64 i ∧ i ≤ b.size ∧ r ≤ 3 ∧ Hid (Trail (ls b) i r) ∧ Below w.heap.size w wr) (fun _ v6 _ => b.size - (intOf v6).toNat)
        case atStart => exact ⟨0, 0, rfl, rfl, Nat.zero_le _, by omega, ⟨Nat.le_refl _, fun j _ h => absurd h (by omega)⟩, HBA.out⟩
        case round =>
          obtain ⟨i, r, rfl, rfl, hi, hr, HT, hB⟩ := hrel
          have HB := Lib.hid hB
          clear hB
          by_cases hlt : i < b.size
          · have hlb : decide ((i : Int) < (b.size : Int)) = true := decide_eq_true (by omega)
            obtain ⟨x, hxe⟩ : ∃ x, (b[i]'hlt) = x := ⟨_, rfl⟩
            have hat := ls_at hlt hxe
            have HLE := Lib.hid (fun j q => (trail_le (l := ls b) (i := j) (r := q)))
            by_cases h0 : 0 < i
            · have g0 : ((i : Int) == 0) = false := by rw [beq_eq_false_iff_ne]; omega
              have hlt1 : i - 1 < b.size := by omega
              have g2 : (i : Int) < (b.size : Int) := by omega
              have g3 : IntKind.i64.wrap ((i : Int) - 1) = (i : Int) - 1 := IntWalk.i64_in _ (by omega)
              have g4 : 0 ≤ (i : Int) - 1 := by omega
              have g5 : (i : Int) - 1 < (b.size : Int) := by omega
              have g6 : ((i : Int) - 1).toNat = i - 1 := by omega
              obtain ⟨y, hye⟩ : ∃ y, (b[i - 1]'hlt1) = y := ⟨_, rfl⟩
              have hat1 := ls_at hlt1 hye
              by_cases hxy : x = y
              · have hxb : ((x.toNat : Int) == (y.toNat : Int)) = true := by rw [hxy]; simp
                have hT2 : Trail (ls b) (i + 1) (r + 1) := trail_more HT.out (by rw [hat, hat1, hxy])
                have hr2 : r + 1 ≤ 3 := trail_le hT2 HNR.out (by rw [length_ls]; omega)
                have HT2 := Lib.hid hT2
                clear hT2 hat hat1 hxy
                go_wp2
                go_quiet (fail)
                go_wp2
                go_roundw
                case rel => exact ⟨i + 1, r + 1, by go_num, by go_num, by omega, by omega, HT2, below_drew HB.out nq⟩
                case measure => simp [intOf]; omega
              · have hxb : ((x.toNat : Int) == (y.toNat : Int)) = false := by
                  rw [beq_eq_false_iff_ne]
                  intro h
                  exact hxy (UInt8.toNat_inj.1 (by omega))
                clear hat hat1 hxy
                go_wp2
                go_quiet (fail)
                go_wp2
                go_roundw
                case rel => exact ⟨i + 1, 1, by go_num, by go_num, by omega, by omega, trail_one, below_drew HB.out nq⟩
                case measure => simp [intOf]; omega
            · have g0 : ((i : Int) == 0) = true := by rw [beq_iff_eq]; omega
              clear hat
              go_wp2
              go_quiet (fail)
              go_wp2
              go_roundw
              case rel => exact ⟨i + 1, 1, by go_num, by go_num, by omega, by omega, trail_one, below_drew HB.out nq⟩
              case measure => simp [intOf]; omega
          · go_wp2_with (first | (go_at_call 27; (with_reducible refine (HD.out _).mono ?_); rintro e wd ⟨rfl, hb⟩; have HBD := Lib.hid hb; clear hb))
            have HB2 : Hid (Below w.heap.size w wd) := HB.out.trans (HBD.out.mono HB.out.size)
            go_loopw [8] (fun v8 wq => ∃ q : Nat, v8 = .int .i64 q ∧ q ≤ c.size + 1 ∧ q % 2 = 0 ∧ Below w.heap.size w wq) (fun v8 _ => c.size + 1 - (intOf v8).toNat)
            case atStart => exact ⟨0, rfl, by omega, rfl, HB2.out⟩
            case round =>
              obtain ⟨q, rfl, hq, hq2, hB3⟩ := hrel
              have HB3 := Lib.hid hB3
              clear hB3
              by_cases hlt : q < c.size
              · have hlb : decide ((q : Int) < (c.size : Int)) = true := decide_eq_true (by omega)
                have g2 : (q : Int) < (c.size : Int) := by omega
                obtain ⟨x, hxe⟩ : ∃ x, (c[q]'hlt) = x := ⟨_, rfl⟩
                obtain ⟨e1, e2⟩ := HTE.out q x hq2 (ls_at hlt hxe)
                have d1 : decide ((x.toNat : Int) < 49) = false := decide_eq_false (by omega)
                have d2 : decide ((51 : Int) < (x.toNat : Int)) = false := decide_eq_false (by omega)
                go_wp2
                go_roundw
                case rel => exact ⟨q + 2, by go_num, by omega, by omega, HB3.out⟩
                case measure => simp [intOf]; omega
              · go_wp2_with (first | (go_at_call 17; (with_reducible refine (HA.out _).mono ?_); rintro e w1 ⟨rfl, hb⟩; have HBZ := Lib.hid hb; clear hb))
                go_ret
                exact ⟨rfl, HB3.out.trans (HBZ.out.mono HB3.out.size)⟩
    · have hkb : (k == 0) = false := by rw [beq_eq_false_iff_ne]; exact h0
      have hkn : (k != 0) = true := by rw [bne, hkb]; rfl
      clear hk h0
      go_enter Try.func5, Try.ntmps5
      go_wp2_with (first | (go_at_call 16; (with_reducible refine (HF.out _).mono ?_); rintro e w1 ⟨rfl, rfl⟩) | (go_at_call 26; (with_reducible refine (HK.out _).mono ?_); rintro e w1 ⟨rfl, rfl⟩) | (go_at_call 17; (with_reducible refine (HA.out _).mono ?_); rintro e w1 ⟨rfl, hb⟩; have HB := Lib.hid hb; clear hb))
      go_ret
      exact ⟨rfl, HB.out⟩
  · have HF := Lib.hid (fun W => few_one s false W h1 (decide_eq_false hf))
    clear hf
    go_enter Try.func5, Try.ntmps5
    go_wp2_with (first | (go_at_call 16; (with_reducible refine (HF.out _).mono ?_); rintro e w1 ⟨rfl, rfl⟩) | (go_at_call 17; (with_reducible refine (HA.out _).mono ?_); rintro e w1 ⟨rfl, hb⟩; have HB := Lib.hid hb; clear hb))
    go_ret
    exact ⟨rfl, HB.out⟩
end Go.Proofs.Ytodchgddkgjciaa
