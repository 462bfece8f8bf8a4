/- The walk of the statement AloudNever: it answers true. Conditions: lengths within the reach of the form. -/
import Derived.Test.YtodchgddkgjciaaFew
namespace Go.Proofs.Ytodchgddkgjciaa
set_option linter.unusedVariables false
set_option linter.unusedSimpArgs false
open Go Go.RowKit
set_option maxHeartbeats 1000000 in
theorem Never_law (s : ByteArray) (d : Nat) (w : World) (h1 : s.size ≤ 140737488351232) (h2 : d < 256) :
    Calls Try.prog 8 #[.string s, .int .u8 d] w fun e w' => e = .returned (.bool true) ∧ Below w.heap.size w w' := by
  have HA := Lib.hid (fun W => alive_any W)
  by_cases hf : s.size ≤ 1000
  · have HF := Lib.hid (fun W => few_one s true W h1 (decide_eq_true hf))
    obtain ⟨k, hk⟩ : ∃ k, wordE (ls s) = k := ⟨_, rfl⟩
    have HK := Lib.hid (fun W => Word_of s k W h1 hk)
    by_cases h0 : k = 0
    · subst h0
      have hd := fun W => Days_any s ((1 + d % 20 : Nat) : Int) W h1
      rw [daysE_eq hk (show 1 + d % 20 ≤ 40 by omega)] at hd
      obtain ⟨_, hdig, hne⟩ := wordE_zero.1 hk
      obtain ⟨r, hr⟩ : ∃ r, days (1 + d % 20) (ls s) = r := ⟨_, rfl⟩
      rw [hr, show ((1 + d % 20 : Nat) : Int) = 1 + (d : Int) % 20 by omega] at hd
      clear hk
      by_cases h22 : ls s = [50, 50]
      · have hb : (s.toList == [50, 50]) = true := by rw [toList_ls, h22]; rfl
        rw [h22, days_22] at hr
        subst hr
        have hself : ((bs [50, 50]).toList == s.toList) = true := by rw [toList_ls, toList_ls, h22, ls_bs]; rfl
        have HD := Lib.hid hd
        clear h22 hdig hne hd
        go_enter Try.func8, Try.ntmps8
        go_wp2_with (first | (go_at_call 16; (with_reducible refine (HF.out _).mono ?_); rintro e w1 ⟨rfl, rfl⟩) | (go_at_call 26; (with_reducible refine (HK.out _).mono ?_); rintro e w1 ⟨rfl, rfl⟩) | (go_at_call 27; (with_reducible refine (HD.out _).mono ?_); rw [outS_ok]; rintro e w1 ⟨rfl, hb1⟩; have HB1 := Lib.hid hb1; clear hb1) | (go_at_call 17; (with_reducible refine (HA.out _).mono ?_); rintro e w2 ⟨rfl, hb⟩; have HB := Lib.hid hb; clear hb))
        go_ret
        exact ⟨rfl, next_below HB1.out HB.out⟩
      · have hb : (s.toList == [50, 50]) = false := by rw [toList_ls]; simpa using h22
        have HD := Lib.hid hd
        clear hd
        cases r with
        | error e =>
          have he := days_err hr
          clear h22 hr hdig hne
          go_enter Try.func8, Try.ntmps8
          rcases he with rfl | rfl
          all_goals
            go_wp2_with (first | (go_at_call 16; (with_reducible refine (HF.out _).mono ?_); rintro e w1 ⟨rfl, rfl⟩) | (go_at_call 26; (with_reducible refine (HK.out _).mono ?_); rintro e w1 ⟨rfl, rfl⟩) | (go_at_call 27; (with_reducible refine (HD.out _).mono ?_); rw [outS_error]; rintro e w1 ⟨rfl, hb1⟩; have HB1 := Lib.hid hb1; clear hb1) | (go_at_call 17; (with_reducible refine (HA.out _).mono ?_); rintro e w2 ⟨rfl, hb⟩; have HB := Lib.hid hb; clear hb))
            go_ret
            exact ⟨rfl, next_below HB1.out HB.out⟩
        | ok r =>
          have hself : ((bs r).toList == s.toList) = false := by
            rw [toList_ls, toList_ls, ls_bs, beq_eq_false_iff_ne]
            rintro rfl
            rw [Nat.add_comm] at hr
            exact h22 (never hdig hne hr)
          clear h22 hr hdig hne
          go_enter Try.func8, Try.ntmps8
          go_wp2_with (first | (go_at_call 16; (with_reducible refine (HF.out _).mono ?_); rintro e w1 ⟨rfl, rfl⟩) | (go_at_call 26; (with_reducible refine (HK.out _).mono ?_); rintro e w1 ⟨rfl, rfl⟩) | (go_at_call 27; (with_reducible refine (HD.out _).mono ?_); rw [outS_ok]; rintro e w1 ⟨rfl, hb1⟩; have HB1 := Lib.hid hb1; clear hb1) | (go_at_call 17; (with_reducible refine (HA.out _).mono ?_); rintro e w2 ⟨rfl, hb⟩; have HB := Lib.hid hb; clear hb))
          go_ret
          exact ⟨rfl, next_below HB1.out HB.out⟩
    · have hkb : (k == 0) = false := by rw [beq_eq_false_iff_ne]; exact h0
      clear hk h0
      go_enter Try.func8, Try.ntmps8
      go_wp2_with (first | (go_at_call 16; (with_reducible refine (HF.out _).mono ?_); rintro e w1 ⟨rfl, rfl⟩) | (go_at_call 26; (with_reducible refine (HK.out _).mono ?_); rintro e w1 ⟨rfl, rfl⟩) | (go_at_call 17; (with_reducible refine (HA.out _).mono ?_); rintro e w1 ⟨rfl, hb⟩; have HB := Lib.hid hb; clear hb))
      go_ret
      exact ⟨rfl, HB.out⟩
  · have HF := Lib.hid (fun W => few_one s false W h1 (decide_eq_false hf))
    clear hf
    go_enter Try.func8, Try.ntmps8
    go_wp2_with (first | (go_at_call 16; (with_reducible refine (HF.out _).mono ?_); rintro e w1 ⟨rfl, rfl⟩) | (go_at_call 17; (with_reducible refine (HA.out _).mono ?_); rintro e w1 ⟨rfl, hb⟩; have HB := Lib.hid hb; clear hb))
    go_ret
    exact ⟨rfl, HB.out⟩
end Go.Proofs.Ytodchgddkgjciaa
