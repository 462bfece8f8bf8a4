/- The walk of the statement AloudParts: it answers true. Conditions: lengths within the reach of the form. -/
import Derived.Test.YtodchgddkgjciaaFew
import Derived.Test.YtodchgddkgjciaaPartsMath
namespace Go.Proofs.Ytodchgddkgjciaa
set_option linter.unusedVariables false
set_option linter.unusedSimpArgs false
open Go Go.RowKit
theorem below_drew {B : Nat} {a w : World} (h : Below B a w) (n : Nat) : Below B a (w.drewN n) := ⟨h.os, h.tape, h.output, h.size, h.block⟩
theorem say_size {s : ByteArray} {x : List UInt8} (h0 : wordE (ls s) = 0) (h : say (ls s) = some x) : (bs x).size ≤ 400 := by
  obtain ⟨h1, h2, _⟩ := wordE_zero.1 h0
  have := (say_digs h2 h).2
  have k := length_runs_le (ls s)
  rw [size_bs]
  omega
theorem ls_last {s : ByteArray} {p : UInt8} (h : s.size - 1 < s.size) (hp : s[s.size - 1] = p) : (ls s).getLast? = some p := by
  rw [List.getLast?_eq_getElem?, length_ls, List.getElem?_eq_getElem (by rw [length_ls]; exact h), ← hp]
  rfl
theorem ls_first {s : ByteArray} {p : UInt8} (h : 0 < s.size) (hp : s[0] = p) : (ls s).head? = some p := by
  rw [List.head?_eq_getElem?, List.getElem?_eq_getElem (by rw [length_ls]; exact h), ← hp]
  rfl
set_option maxHeartbeats 4000000 in
set_option maxRecDepth 100000 in
theorem Parts_law (s t : ByteArray) (w : World) (h1 : s.size ≤ 140737488351232) (h2 : t.size ≤ 140737488351232) :
    Calls Try.prog 6 #[.string s, .string t] w fun e w' => e = .returned (.bool true) ∧ Below w.heap.size w w' := by
  have HA := Lib.hid (fun W => alive_any W)
  by_cases hf : s.size ≤ 1000 ∧ t.size ≤ 1000
  · have HF := Lib.hid (fun W => few_two s t true W h1 h2 (decide_eq_true hf))
    obtain ⟨k, hk⟩ : ∃ k, wordE (ls s) = k := ⟨_, rfl⟩
    have HK := Lib.hid (fun W => Word_of s k W h1 hk)
    obtain ⟨hf1, hf2⟩ := hf
    by_cases h0 : k = 0
    · subst h0
      obtain ⟨j, hj⟩ : ∃ j, wordE (ls t) = j := ⟨_, rfl⟩
      have HJ := Lib.hid (fun W => Word_of t j W h2 hj)
      by_cases h00 : j = 0
      · subst h00
        by_cases hl : s.size + t.size ≤ 200
        · have hlb : decide ((200 : Int) < (s.size : Int) + (t.size : Int)) = false := decide_eq_false (by omega)
          obtain ⟨a1, a2, a3⟩ := wordE_zero.1 hk
          obtain ⟨b1, b2, b3⟩ := wordE_zero.1 hj
          have hsp : 0 < s.size := by rw [← length_ls]; exact List.length_pos_iff.2 a3
          have htp : 0 < t.size := by rw [← length_ls]; exact List.length_pos_iff.2 b3
          have hlt : s.size - 1 < s.size := by omega
          obtain ⟨p, hp⟩ : ∃ p, s[s.size - 1] = p := ⟨_, rfl⟩
          obtain ⟨q, hq⟩ : ∃ q, t[0] = q := ⟨_, rfl⟩
          have hlast := ls_last hlt hp
          have hfirst := ls_first htp hq
          have hw : wordE (ls (s ++ t)) = 0 := wordE_zero.2 ⟨by rw [length_ls, ByteArray.size_append]; omega, by rw [ls_append]; exact Digs.append.2 ⟨a2, b2⟩, by rw [ls_append]; simp [a3]⟩
          have hx := fun W => Say_any s W h1
          have hy := fun W => Say_any t W h2
          have hz := fun W => Say_any (s ++ t) W (by rw [ByteArray.size_append]; omega)
          have g0 : IntKind.i64.wrap ((s.size : Int) + (t.size : Int)) = (s.size : Int) + (t.size : Int) := IntWalk.i64_in _ (by omega)
          have g3 : IntKind.i64.wrap ((s.size : Int) - 1) = (s.size : Int) - 1 := IntWalk.i64_in _ (by omega)
          have g4 : 0 ≤ (s.size : Int) - 1 := by omega
          have g5 : (s.size : Int) - 1 < (s.size : Int) := by omega
          have g6 : ((s.size : Int) - 1).toNat = s.size - 1 := by omega
          have g7 : (0 : Int) < (t.size : Int) := by omega
          obtain ⟨x, hsx⟩ : ∃ x, say (ls s) = x := ⟨_, rfl⟩
          obtain ⟨y, hsy⟩ : ∃ y, say (ls t) = y := ⟨_, rfl⟩
          obtain ⟨z, hsz⟩ : ∃ z, say (ls (s ++ t)) = z := ⟨_, rfl⟩
          have main : ((p = q ∧ ∀ z', z = some z' → ∃ x' y', x = some x' ∧ y = some y' ∧ z' ≠ x' ++ y') ∨ (p ≠ q ∧ z = both x y)) := by
            by_cases hpq : p = q
            · refine .inl ⟨hpq, fun z' hz' => ?_⟩
              subst hpq
              obtain ⟨x', y', e1, e2, e3⟩ := say_touch hlast hfirst z' (by rw [← ls_append, hsz, hz'])
              exact ⟨x', y', by rw [← hsx, e1], by rw [← hsy, e2], e3⟩
            · refine .inr ⟨hpq, ?_⟩
              rw [← hsz, ls_append, say_apart (fun c hc => by rw [hlast] at hc; injection hc with hc; subst hc; rw [hfirst]; exact fun h => hpq (Option.some.inj h).symm), hsx, hsy]
          have cmp : ∀ z' x' y' : List UInt8, ((bs z').toList == (bs x' ++ bs y').toList) = decide (z' = x' ++ y') := by
            intro z' x' y'
            rw [toList_ls, toList_ls, ls_append, ls_bs, ls_bs, ls_bs]
            by_cases h : z' = x' ++ y'
            · rw [decide_eq_true h]; simpa using h
            · rw [decide_eq_false h]; simpa using h
          have HCMP := Lib.hid cmp
          have HP := Lib.hid hp
          have HQ := Lib.hid hq
          clear a1 a2 a3 b1 b2 b3 hlast hfirst cmp hf1 hf2 hl
          rcases main with ⟨hpq, hm⟩ | ⟨hpq, hm⟩
          · have hpb : ((p.toNat : Int) == (q.toNat : Int)) = true := by rw [hpq]; simp
            cases z with
            | none =>
              cases x with
              | none =>
                cases y with
                | none =>
                  rw [sayE_none hk hsx] at hx
                  have HX := Lib.hid hx
                  rw [sayE_none hj hsy] at hy
                  have HY := Lib.hid hy
                  rw [sayE_none hw hsz] at hz
                  have HZ := Lib.hid hz
                  clear hx hy hz hsx hsy hsz hk hj hw hpq hm
                  go_enter Try.func6, Try.ntmps6
                  go_wp2_with (first | (go_at_call 16; (with_reducible refine (HF.out _).mono ?_); rintro e w1 ⟨rfl, rfl⟩) | (go_at_call 26; (with_reducible refine (HK.out _).mono ?_); clear HK; rintro e w1 ⟨rfl, rfl⟩) | (go_at_call 26; (with_reducible refine (HJ.out _).mono ?_); rintro e w1 ⟨rfl, rfl⟩) | (go_at_call 18; (with_reducible refine (HX.out _).mono ?_); clear HX; rw [outS_error]; rintro e wa ⟨rfl, hb⟩; have HBX := Lib.hid hb; clear hb) | (go_at_call 18; (with_reducible refine (HY.out _).mono ?_); clear HY; rw [outS_error]; rintro e wb ⟨rfl, hb⟩; have HBY := Lib.hid hb; clear hb) | (go_at_call 18; (with_reducible refine (HZ.out _).mono ?_); clear HZ; rw [outS_error]; rintro e wc ⟨rfl, hb⟩; have HBW := Lib.hid hb; clear hb))
                  go_quiet (fail)
                  have HBW2 := Lib.hid (below_drew HBW.out nq)
                  go_wp2_with (first | (go_at_call 17; (with_reducible refine (HA.out _).mono ?_); rintro e wz ⟨rfl, hb⟩; have HBZ := Lib.hid hb; clear hb))
                  go_ret
                  exact ⟨rfl, next_below HBX.out <| next_below HBY.out <| next_below HBW2.out HBZ.out⟩
                | some y =>
                  rw [sayE_none hk hsx] at hx
                  have HX := Lib.hid hx
                  rw [sayE_some hj hsy] at hy
                  have HY := Lib.hid hy
                  rw [sayE_none hw hsz] at hz
                  have HZ := Lib.hid hz
                  clear hx hy hz hsx hsy hsz hk hj hw hpq hm
                  go_enter Try.func6, Try.ntmps6
                  go_wp2_with (first | (go_at_call 16; (with_reducible refine (HF.out _).mono ?_); rintro e w1 ⟨rfl, rfl⟩) | (go_at_call 26; (with_reducible refine (HK.out _).mono ?_); clear HK; rintro e w1 ⟨rfl, rfl⟩) | (go_at_call 26; (with_reducible refine (HJ.out _).mono ?_); rintro e w1 ⟨rfl, rfl⟩) | (go_at_call 18; (with_reducible refine (HX.out _).mono ?_); clear HX; rw [outS_error]; rintro e wa ⟨rfl, hb⟩; have HBX := Lib.hid hb; clear hb) | (go_at_call 18; (with_reducible refine (HY.out _).mono ?_); clear HY; rw [outS_ok]; rintro e wb ⟨rfl, hb⟩; have HBY := Lib.hid hb; clear hb) | (go_at_call 18; (with_reducible refine (HZ.out _).mono ?_); clear HZ; rw [outS_error]; rintro e wc ⟨rfl, hb⟩; have HBW := Lib.hid hb; clear hb))
                  go_quiet (fail)
                  have HBW2 := Lib.hid (below_drew HBW.out nq)
                  go_wp2_with (first | (go_at_call 17; (with_reducible refine (HA.out _).mono ?_); rintro e wz ⟨rfl, hb⟩; have HBZ := Lib.hid hb; clear hb))
                  go_ret
                  exact ⟨rfl, next_below HBX.out <| next_below HBY.out <| next_below HBW2.out HBZ.out⟩
              | some x =>
                cases y with
                | none =>
                  rw [sayE_some hk hsx] at hx
                  have HX := Lib.hid hx
                  rw [sayE_none hj hsy] at hy
                  have HY := Lib.hid hy
                  rw [sayE_none hw hsz] at hz
                  have HZ := Lib.hid hz
                  clear hx hy hz hsx hsy hsz hk hj hw hpq hm
                  go_enter Try.func6, Try.ntmps6
                  go_wp2_with (first | (go_at_call 16; (with_reducible refine (HF.out _).mono ?_); rintro e w1 ⟨rfl, rfl⟩) | (go_at_call 26; (with_reducible refine (HK.out _).mono ?_); clear HK; rintro e w1 ⟨rfl, rfl⟩) | (go_at_call 26; (with_reducible refine (HJ.out _).mono ?_); rintro e w1 ⟨rfl, rfl⟩) | (go_at_call 18; (with_reducible refine (HX.out _).mono ?_); clear HX; rw [outS_ok]; rintro e wa ⟨rfl, hb⟩; have HBX := Lib.hid hb; clear hb) | (go_at_call 18; (with_reducible refine (HY.out _).mono ?_); clear HY; rw [outS_error]; rintro e wb ⟨rfl, hb⟩; have HBY := Lib.hid hb; clear hb) | (go_at_call 18; (with_reducible refine (HZ.out _).mono ?_); clear HZ; rw [outS_error]; rintro e wc ⟨rfl, hb⟩; have HBW := Lib.hid hb; clear hb))
                  go_quiet (fail)
                  have HBW2 := Lib.hid (below_drew HBW.out nq)
                  go_wp2_with (first | (go_at_call 17; (with_reducible refine (HA.out _).mono ?_); rintro e wz ⟨rfl, hb⟩; have HBZ := Lib.hid hb; clear hb))
                  go_ret
                  exact ⟨rfl, next_below HBX.out <| next_below HBY.out <| next_below HBW2.out HBZ.out⟩
                | some y =>
                  rw [sayE_some hk hsx] at hx
                  have HX := Lib.hid hx
                  rw [sayE_some hj hsy] at hy
                  have HY := Lib.hid hy
                  rw [sayE_none hw hsz] at hz
                  have HZ := Lib.hid hz
                  clear hx hy hz hsx hsy hsz hk hj hw hpq hm
                  go_enter Try.func6, Try.ntmps6
                  go_wp2_with (first | (go_at_call 16; (with_reducible refine (HF.out _).mono ?_); rintro e w1 ⟨rfl, rfl⟩) | (go_at_call 26; (with_reducible refine (HK.out _).mono ?_); clear HK; rintro e w1 ⟨rfl, rfl⟩) | (go_at_call 26; (with_reducible refine (HJ.out _).mono ?_); rintro e w1 ⟨rfl, rfl⟩) | (go_at_call 18; (with_reducible refine (HX.out _).mono ?_); clear HX; rw [outS_ok]; rintro e wa ⟨rfl, hb⟩; have HBX := Lib.hid hb; clear hb) | (go_at_call 18; (with_reducible refine (HY.out _).mono ?_); clear HY; rw [outS_ok]; rintro e wb ⟨rfl, hb⟩; have HBY := Lib.hid hb; clear hb) | (go_at_call 18; (with_reducible refine (HZ.out _).mono ?_); clear HZ; rw [outS_error]; rintro e wc ⟨rfl, hb⟩; have HBW := Lib.hid hb; clear hb))
                  go_quiet (fail)
                  have HBW2 := Lib.hid (below_drew HBW.out nq)
                  go_wp2_with (first | (go_at_call 17; (with_reducible refine (HA.out _).mono ?_); rintro e wz ⟨rfl, hb⟩; have HBZ := Lib.hid hb; clear hb))
                  go_ret
                  exact ⟨rfl, next_below HBX.out <| next_below HBY.out <| next_below HBW2.out HBZ.out⟩
            | some z =>
              obtain ⟨x', y', rfl, rfl, hne⟩ := hm z rfl
              have sx := say_size hk hsx
              have sy := say_size hj hsy
              have hcz : ((bs z).toList == (bs x' ++ bs y').toList) = false := by rw [HCMP.out, decide_eq_false hne]
              rw [sayE_some hk hsx] at hx
              have HX := Lib.hid hx
              rw [sayE_some hj hsy] at hy
              have HY := Lib.hid hy
              rw [sayE_some hw hsz] at hz
              have HZ := Lib.hid hz
              clear hx hy hz hsx hsy hsz hk hj hw hpq hm hne
              go_enter Try.func6, Try.ntmps6
              go_wp2_with (first | (go_at_call 16; (with_reducible refine (HF.out _).mono ?_); rintro e w1 ⟨rfl, rfl⟩) | (go_at_call 26; (with_reducible refine (HK.out _).mono ?_); clear HK; rintro e w1 ⟨rfl, rfl⟩) | (go_at_call 26; (with_reducible refine (HJ.out _).mono ?_); rintro e w1 ⟨rfl, rfl⟩) | (go_at_call 18; (with_reducible refine (HX.out _).mono ?_); clear HX; rw [outS_ok]; rintro e wa ⟨rfl, hb⟩; have HBX := Lib.hid hb; clear hb) | (go_at_call 18; (with_reducible refine (HY.out _).mono ?_); clear HY; rw [outS_ok]; rintro e wb ⟨rfl, hb⟩; have HBY := Lib.hid hb; clear hb) | (go_at_call 18; (with_reducible refine (HZ.out _).mono ?_); clear HZ; rw [outS_ok]; rintro e wc ⟨rfl, hb⟩; have HBW := Lib.hid hb; clear hb))
              go_quiet (fail)
              have HBW2 := Lib.hid (below_drew HBW.out nq)
              go_wp2_with (first | (go_at_call 17; (with_reducible refine (HA.out _).mono ?_); rintro e wz ⟨rfl, hb⟩; have HBZ := Lib.hid hb; clear hb))
              go_ret
              exact ⟨rfl, next_below HBX.out <| next_below HBY.out <| next_below HBW2.out HBZ.out⟩
          · have hpb : ((p.toNat : Int) == (q.toNat : Int)) = false := by
              rw [beq_eq_false_iff_ne]
              intro h
              exact hpq (UInt8.toNat_inj.1 (by omega))
            cases x with
            | none =>
              cases y with
              | none =>
                replace hm : z = none := hm
                subst hm
                rw [sayE_none hk hsx] at hx
                have HX := Lib.hid hx
                rw [sayE_none hj hsy] at hy
                have HY := Lib.hid hy
                rw [sayE_none hw hsz] at hz
                have HZ := Lib.hid hz
                clear hx hy hz hsx hsy hsz hk hj hw hpq
                go_enter Try.func6, Try.ntmps6
                go_wp2_with (first | (go_at_call 16; (with_reducible refine (HF.out _).mono ?_); rintro e w1 ⟨rfl, rfl⟩) | (go_at_call 26; (with_reducible refine (HK.out _).mono ?_); clear HK; rintro e w1 ⟨rfl, rfl⟩) | (go_at_call 26; (with_reducible refine (HJ.out _).mono ?_); rintro e w1 ⟨rfl, rfl⟩) | (go_at_call 18; (with_reducible refine (HX.out _).mono ?_); clear HX; rw [outS_error]; rintro e wa ⟨rfl, hb⟩; have HBX := Lib.hid hb; clear hb) | (go_at_call 18; (with_reducible refine (HY.out _).mono ?_); clear HY; rw [outS_error]; rintro e wb ⟨rfl, hb⟩; have HBY := Lib.hid hb; clear hb) | (go_at_call 18; (with_reducible refine (HZ.out _).mono ?_); clear HZ; rw [outS_error]; rintro e wc ⟨rfl, hb⟩; have HBW := Lib.hid hb; clear hb))
                go_quiet (fail)
                have HBW2 := Lib.hid (below_drew HBW.out nq)
                go_wp2_with (first | (go_at_call 17; (with_reducible refine (HA.out _).mono ?_); rintro e wz ⟨rfl, hb⟩; have HBZ := Lib.hid hb; clear hb))
                go_ret
                exact ⟨rfl, next_below HBX.out <| next_below HBY.out <| next_below HBW2.out HBZ.out⟩
              | some y =>
                replace hm : z = none := hm
                subst hm
                rw [sayE_none hk hsx] at hx
                have HX := Lib.hid hx
                rw [sayE_some hj hsy] at hy
                have HY := Lib.hid hy
                rw [sayE_none hw hsz] at hz
                have HZ := Lib.hid hz
                clear hx hy hz hsx hsy hsz hk hj hw hpq
                go_enter Try.func6, Try.ntmps6
                go_wp2_with (first | (go_at_call 16; (with_reducible refine (HF.out _).mono ?_); rintro e w1 ⟨rfl, rfl⟩) | (go_at_call 26; (with_reducible refine (HK.out _).mono ?_); clear HK; rintro e w1 ⟨rfl, rfl⟩) | (go_at_call 26; (with_reducible refine (HJ.out _).mono ?_); rintro e w1 ⟨rfl, rfl⟩) | (go_at_call 18; (with_reducible refine (HX.out _).mono ?_); clear HX; rw [outS_error]; rintro e wa ⟨rfl, hb⟩; have HBX := Lib.hid hb; clear hb) | (go_at_call 18; (with_reducible refine (HY.out _).mono ?_); clear HY; rw [outS_ok]; rintro e wb ⟨rfl, hb⟩; have HBY := Lib.hid hb; clear hb) | (go_at_call 18; (with_reducible refine (HZ.out _).mono ?_); clear HZ; rw [outS_error]; rintro e wc ⟨rfl, hb⟩; have HBW := Lib.hid hb; clear hb))
                go_quiet (fail)
                have HBW2 := Lib.hid (below_drew HBW.out nq)
                go_wp2_with (first | (go_at_call 17; (with_reducible refine (HA.out _).mono ?_); rintro e wz ⟨rfl, hb⟩; have HBZ := Lib.hid hb; clear hb))
                go_ret
                exact ⟨rfl, next_below HBX.out <| next_below HBY.out <| next_below HBW2.out HBZ.out⟩
            | some x =>
              cases y with
              | none =>
                replace hm : z = none := hm
                subst hm
                rw [sayE_some hk hsx] at hx
                have HX := Lib.hid hx
                rw [sayE_none hj hsy] at hy
                have HY := Lib.hid hy
                rw [sayE_none hw hsz] at hz
                have HZ := Lib.hid hz
                clear hx hy hz hsx hsy hsz hk hj hw hpq
                go_enter Try.func6, Try.ntmps6
                go_wp2_with (first | (go_at_call 16; (with_reducible refine (HF.out _).mono ?_); rintro e w1 ⟨rfl, rfl⟩) | (go_at_call 26; (with_reducible refine (HK.out _).mono ?_); clear HK; rintro e w1 ⟨rfl, rfl⟩) | (go_at_call 26; (with_reducible refine (HJ.out _).mono ?_); rintro e w1 ⟨rfl, rfl⟩) | (go_at_call 18; (with_reducible refine (HX.out _).mono ?_); clear HX; rw [outS_ok]; rintro e wa ⟨rfl, hb⟩; have HBX := Lib.hid hb; clear hb) | (go_at_call 18; (with_reducible refine (HY.out _).mono ?_); clear HY; rw [outS_error]; rintro e wb ⟨rfl, hb⟩; have HBY := Lib.hid hb; clear hb) | (go_at_call 18; (with_reducible refine (HZ.out _).mono ?_); clear HZ; rw [outS_error]; rintro e wc ⟨rfl, hb⟩; have HBW := Lib.hid hb; clear hb))
                go_quiet (fail)
                have HBW2 := Lib.hid (below_drew HBW.out nq)
                go_wp2_with (first | (go_at_call 17; (with_reducible refine (HA.out _).mono ?_); rintro e wz ⟨rfl, hb⟩; have HBZ := Lib.hid hb; clear hb))
                go_ret
                exact ⟨rfl, next_below HBX.out <| next_below HBY.out <| next_below HBW2.out HBZ.out⟩
              | some y =>
                replace hm : z = some (x ++ y) := hm
                subst hm
                have sx := say_size hk hsx
                have sy := say_size hj hsy
                have hcz : ((bs (x ++ y)).toList == (bs x ++ bs y).toList) = true := by rw [HCMP.out, decide_eq_true rfl]
                rw [sayE_some hk hsx] at hx
                have HX := Lib.hid hx
                rw [sayE_some hj hsy] at hy
                have HY := Lib.hid hy
                rw [sayE_some hw hsz] at hz
                have HZ := Lib.hid hz
                clear hx hy hz hsx hsy hsz hk hj hw hpq
                go_enter Try.func6, Try.ntmps6
                go_wp2_with (first | (go_at_call 16; (with_reducible refine (HF.out _).mono ?_); rintro e w1 ⟨rfl, rfl⟩) | (go_at_call 26; (with_reducible refine (HK.out _).mono ?_); clear HK; rintro e w1 ⟨rfl, rfl⟩) | (go_at_call 26; (with_reducible refine (HJ.out _).mono ?_); rintro e w1 ⟨rfl, rfl⟩) | (go_at_call 18; (with_reducible refine (HX.out _).mono ?_); clear HX; rw [outS_ok]; rintro e wa ⟨rfl, hb⟩; have HBX := Lib.hid hb; clear hb) | (go_at_call 18; (with_reducible refine (HY.out _).mono ?_); clear HY; rw [outS_ok]; rintro e wb ⟨rfl, hb⟩; have HBY := Lib.hid hb; clear hb) | (go_at_call 18; (with_reducible refine (HZ.out _).mono ?_); clear HZ; rw [outS_ok]; rintro e wc ⟨rfl, hb⟩; have HBW := Lib.hid hb; clear hb))
                go_quiet (fail)
                have HBW2 := Lib.hid (below_drew HBW.out nq)
                go_wp2_with (first | (go_at_call 17; (with_reducible refine (HA.out _).mono ?_); rintro e wz ⟨rfl, hb⟩; have HBZ := Lib.hid hb; clear hb))
                go_ret
                exact ⟨rfl, next_below HBX.out <| next_below HBY.out <| next_below HBW2.out HBZ.out⟩
        · have hlb : decide ((200 : Int) < (s.size : Int) + (t.size : Int)) = true := decide_eq_true (by omega)
          clear hk hj
          go_enter Try.func6, Try.ntmps6
          go_wp2_with (first | (go_at_call 16; (with_reducible refine (HF.out _).mono ?_); rintro e w1 ⟨rfl, rfl⟩) | (go_at_call 26; (with_reducible refine (HK.out _).mono ?_); clear HK; rintro e w1 ⟨rfl, rfl⟩) | (go_at_call 26; (with_reducible refine (HJ.out _).mono ?_); rintro e w1 ⟨rfl, rfl⟩) | (go_at_call 17; (with_reducible refine (HA.out _).mono ?_); rintro e w1 ⟨rfl, hb⟩; have HB := Lib.hid hb; clear hb))
          go_ret
          exact ⟨rfl, HB.out⟩
      · have hjb : (j == 0) = false := by rw [beq_eq_false_iff_ne]; exact h00
        have hjn : (j != 0) = true := by rw [bne, hjb]; rfl
        clear hk hj h00
        go_enter Try.func6, Try.ntmps6
        go_wp2_with (first | (go_at_call 16; (with_reducible refine (HF.out _).mono ?_); rintro e w1 ⟨rfl, rfl⟩) | (go_at_call 26; (with_reducible refine (HK.out _).mono ?_); clear HK; rintro e w1 ⟨rfl, rfl⟩) | (go_at_call 26; (with_reducible refine (HJ.out _).mono ?_); rintro e w1 ⟨rfl, rfl⟩) | (go_at_call 17; (with_reducible refine (HA.out _).mono ?_); rintro e w1 ⟨rfl, hb⟩; have HB := Lib.hid hb; clear hb))
        go_ret
        exact ⟨rfl, HB.out⟩
    · have hkb : (k == 0) = false := by rw [beq_eq_false_iff_ne]; exact h0
      have hkn : (k != 0) = true := by rw [bne, hkb]; rfl
      clear hk h0
      go_enter Try.func6, Try.ntmps6
      go_wp2_with (first | (go_at_call 16; (with_reducible refine (HF.out _).mono ?_); rintro e w1 ⟨rfl, rfl⟩) | (go_at_call 26; (with_reducible refine (HK.out _).mono ?_); rintro e w1 ⟨rfl, rfl⟩) | (go_at_call 17; (with_reducible refine (HA.out _).mono ?_); rintro e w1 ⟨rfl, hb⟩; have HB := Lib.hid hb; clear hb))
      go_ret
      exact ⟨rfl, HB.out⟩
  · have HF := Lib.hid (fun W => few_two s t false W h1 h2 (decide_eq_false hf))
    clear hf
    go_enter Try.func6, Try.ntmps6
    go_wp2_with (first | (go_at_call 16; (with_reducible refine (HF.out _).mono ?_); rintro e w1 ⟨rfl, rfl⟩) | (go_at_call 17; (with_reducible refine (HA.out _).mono ?_); rintro e w1 ⟨rfl, hb⟩; have HB := Lib.hid hb; clear hb))
    go_ret
    exact ⟨rfl, HB.out⟩
end Go.Proofs.Ytodchgddkgjciaa
