/- The walk of the statement AloudAges: it answers true. Conditions: lengths within the reach of the form. -/
import Derived.Test.YtodchgddkgjciaaFew
import Derived.Test.YtodchgddkgjciaaAgesMath
namespace Go.Proofs.Ytodchgddkgjciaa
set_option linter.unusedVariables false
set_option linter.unusedSimpArgs false
open Go Go.RowKit
theorem outI_ok (n : Int) : outI (.ok n) = .tuple #[.int .i64 n, .int .i64 0] := rfl
theorem Age_of (b : List UInt8) (r : Except Int Int) (w : World) (h : ageE b = r) (hs : (bs b).size ≤ 140737488351232) :
    Calls Try.prog 22 #[.string (bs b)] w fun e w' => e = .returned (outI r) ∧ Below w.heap.size w w' := by
  have := Age_any (bs b) w hs
  rwa [ls_bs, h] at this
theorem outI_error (n : Int) : outI (.error n) = .tuple #[.int .i64 0, .int .i64 n] := rfl
set_option maxHeartbeats 4000000 in
set_option maxRecDepth 100000 in
theorem Ages_law (s : ByteArray) (w : World) (h1 : s.size ≤ 140737488351232) :
    Calls Try.prog 9 #[.string s] w fun e w' => e = .returned (.bool true) ∧ Below w.heap.size w w' := by
  have HA := Lib.hid (fun W => alive_any W)
  by_cases hf : s.size ≤ 1000
  · have HF := Lib.hid (fun W => few_one s true W h1 (decide_eq_true hf))
    obtain ⟨k, hk⟩ : ∃ k, wordE (ls s) = k := ⟨_, rfl⟩
    have HK := Lib.hid (fun W => Word_of s k W h1 hk)
    by_cases h0 : k = 0
    · subst h0
      have hage := fun W => Age_any s W h1
      by_cases h22 : ls s = [50, 50]
      · have hb : (s.toList == [50, 50]) = true := by rw [toList_ls, h22]; rfl
        rw [show ageE (ls s) = .error 9 by rw [ageE, if_neg (by simp [hk]), if_pos h22]] at hage
        have HG := Lib.hid hage
        clear h22 hk hage hf
        go_enter Try.func9, Try.ntmps9
        go_wp2_with (first | (go_at_call 16; (with_reducible refine (HF.out _).mono ?_); rintro e w1 ⟨rfl, rfl⟩) | (go_at_call 26; (with_reducible refine (HK.out _).mono ?_); rintro e w1 ⟨rfl, rfl⟩) | (go_at_call 22; (with_reducible refine (HG.out _).mono ?_); rw [outI_error]; rintro e wa ⟨rfl, hb⟩; have HBwa := Lib.hid hb; clear hb) | (go_at_call 17; (with_reducible refine (HA.out _).mono ?_); rintro e wz ⟨rfl, hb⟩; have HBZ := Lib.hid hb; clear hb))
        go_ret
        exact ⟨rfl, next_below HBwa.out HBZ.out⟩
      · have hb : (s.toList == [50, 50]) = false := by rw [toList_ls]; simpa using h22
        obtain ⟨n, ha, hn, hE⟩ := ageE_ok hk h22
        rw [hE] at hage
        have HN := Lib.hid ha
        have hw0 := (fun W => Before_any s W h1)
        have hw1 := (fun W => Say_any s W h1)
        have hdig := (wordE_zero.1 hk).2.1
        have hsz := (wordE_zero.1 hk).1
        rw [length_ls] at hsz
        clear ha hE hf
        cases hbe : before (ls s) with
        | none =>
          rw [beforeE_none hk hbe] at hw0
          have HW0 := Lib.hid hw0
          have hn0 := ages_none HN.out hbe
          rw [hn0] at hage
          replace hage : ∀ W, Calls Try.prog 22 #[.string s] W fun e w' => e = .returned (outI (.ok 0)) ∧ Below W.heap.size W w' := hage
          have HG := Lib.hid hage
          have HNN : Hid ((n : Int) + 1 = 1) := by unfold Hid; omega
          clear hw0 hbe hage hn0
          cases hsa : say (ls s) with
          | none =>
            rw [sayE_none hk hsa] at hw1
            have HW1 := Lib.hid hw1
            clear hw1 hsa h22 hk
            go_enter Try.func9, Try.ntmps9
            go_wp2_with (first | (go_at_call 16; (with_reducible refine (HF.out _).mono ?_); rintro e w1 ⟨rfl, rfl⟩) | (go_at_call 26; (with_reducible refine (HK.out _).mono ?_); rintro e w1 ⟨rfl, rfl⟩) | (go_at_call 22; (with_reducible refine (HG.out _).mono ?_); clear HG; rw [outI_ok]; rintro e wa ⟨rfl, hb⟩; have HBwa := Lib.hid hb; clear hb) | (go_at_call 20; (with_reducible refine (HW0.out _).mono ?_); rw [outS_error]; rintro e wb ⟨rfl, hb⟩; have HBwb := Lib.hid hb; clear hb) | (go_at_call 18; (with_reducible refine (HW1.out _).mono ?_); rw [outS_error]; rintro e wd ⟨rfl, hb⟩; have HBwd := Lib.hid hb; clear hb) | (go_at_call 17; (with_reducible refine (HA.out _).mono ?_); rintro e wz ⟨rfl, hb⟩; have HBZ := Lib.hid hb; clear hb))
            go_ret
            exact ⟨rfl, next_below HBwa.out <| next_below HBwb.out <| next_below HBwd.out HBZ.out⟩
          | some t =>
            rw [sayE_some hk hsa] at hw1
            have HW1 := Lib.hid hw1
            have htl : (bs t).size = 2 * (runs (ls s)).length := by rw [size_bs]; exact (say_digs hdig hsa).2
            have htr := length_runs_le (ls s)
            rw [length_ls] at htr
            by_cases hts : t.length ≤ 200
            · have hts2 : (bs t).size ≤ 200 := by rw [size_bs]; exact hts
              have HT := Lib.hid (fun W => Age_of t _ W (age_say hk h22 HN.out hsa hts) (by omega))
              rw [HNN.out] at HT
              clear hw1 hsa hts htl htr h22 hk
              go_enter Try.func9, Try.ntmps9
              go_wp2_with (first | (go_at_call 16; (with_reducible refine (HF.out _).mono ?_); rintro e w1 ⟨rfl, rfl⟩) | (go_at_call 26; (with_reducible refine (HK.out _).mono ?_); rintro e w1 ⟨rfl, rfl⟩) | (go_at_call 22; (with_reducible refine (HG.out _).mono ?_); clear HG; rw [outI_ok]; rintro e wa ⟨rfl, hb⟩; have HBwa := Lib.hid hb; clear hb) | (go_at_call 20; (with_reducible refine (HW0.out _).mono ?_); rw [outS_error]; rintro e wb ⟨rfl, hb⟩; have HBwb := Lib.hid hb; clear hb) | (go_at_call 18; (with_reducible refine (HW1.out _).mono ?_); rw [outS_ok]; rintro e wd ⟨rfl, hb⟩; have HBwd := Lib.hid hb; clear hb) | (go_at_call 22; (with_reducible refine (HT.out _).mono ?_); rw [outI_ok]; rintro e we ⟨rfl, hb⟩; have HBwe := Lib.hid hb; clear hb) | (go_at_call 17; (with_reducible refine (HA.out _).mono ?_); rintro e wz ⟨rfl, hb⟩; have HBZ := Lib.hid hb; clear hb))
              go_ret
              exact ⟨rfl, next_below HBwa.out <| next_below HBwb.out <| next_below HBwd.out <| next_below HBwe.out HBZ.out⟩
            · have hts2 : 200 < (bs t).size := by rw [size_bs]; omega
              clear hw1 hsa hts htl htr h22 hk
              go_enter Try.func9, Try.ntmps9
              go_wp2_with (first | (go_at_call 16; (with_reducible refine (HF.out _).mono ?_); rintro e w1 ⟨rfl, rfl⟩) | (go_at_call 26; (with_reducible refine (HK.out _).mono ?_); rintro e w1 ⟨rfl, rfl⟩) | (go_at_call 22; (with_reducible refine (HG.out _).mono ?_); clear HG; rw [outI_ok]; rintro e wa ⟨rfl, hb⟩; have HBwa := Lib.hid hb; clear hb) | (go_at_call 20; (with_reducible refine (HW0.out _).mono ?_); rw [outS_error]; rintro e wb ⟨rfl, hb⟩; have HBwb := Lib.hid hb; clear hb) | (go_at_call 18; (with_reducible refine (HW1.out _).mono ?_); rw [outS_ok]; rintro e wd ⟨rfl, hb⟩; have HBwd := Lib.hid hb; clear hb) | (go_at_call 17; (with_reducible refine (HA.out _).mono ?_); rintro e wz ⟨rfl, hb⟩; have HBZ := Lib.hid hb; clear hb))
              go_ret
              exact ⟨rfl, next_below HBwa.out <| next_below HBwb.out <| next_below HBwd.out HBZ.out⟩
        | some b =>
          rw [beforeE_some hk hbe] at hw0
          have HW0 := Lib.hid hw0
          have HG := Lib.hid hage
          obtain ⟨j, hj, haj⟩ := ages_some HN.out hbe
          have hj1 : (j : Int) = (n : Int) - 1 := by omega
          have d1 : decide ((n : Int) < 0) = false := decide_eq_false (by omega)
          have d2 : decide (0 < n) = true := decide_eq_true (by omega)
          clear hage
          have hbl : (bs b).size ≤ 9 * s.size := by rw [size_bs, ← length_ls s]; exact (before_digs hdig hbe).2
          by_cases hbs : b.length ≤ 200
          · have hbs2 : (bs b).size ≤ 200 := by rw [size_bs]; exact hbs
            have HJ := Lib.hid (fun W => Age_of b _ W (age_before hk h22 haj hbe hbs) (by omega))
            rw [hj1] at HJ
            clear hw0 hbe haj hbs hj hj1
            cases hsa : say (ls s) with
            | none =>
              rw [sayE_none hk hsa] at hw1
              have HW1 := Lib.hid hw1
              clear hw1 hsa h22 hk
              go_enter Try.func9, Try.ntmps9
              go_wp2_with (first | (go_at_call 16; (with_reducible refine (HF.out _).mono ?_); rintro e w1 ⟨rfl, rfl⟩) | (go_at_call 26; (with_reducible refine (HK.out _).mono ?_); rintro e w1 ⟨rfl, rfl⟩) | (go_at_call 22; (with_reducible refine (HG.out _).mono ?_); clear HG; rw [outI_ok]; rintro e wa ⟨rfl, hb⟩; have HBwa := Lib.hid hb; clear hb) | (go_at_call 20; (with_reducible refine (HW0.out _).mono ?_); rw [outS_ok]; rintro e wb ⟨rfl, hb⟩; have HBwb := Lib.hid hb; clear hb) | (go_at_call 22; (with_reducible refine (HJ.out _).mono ?_); clear HJ; rw [outI_ok]; rintro e wc ⟨rfl, hb⟩; have HBwc := Lib.hid hb; clear hb) | (go_at_call 18; (with_reducible refine (HW1.out _).mono ?_); rw [outS_error]; rintro e wd ⟨rfl, hb⟩; have HBwd := Lib.hid hb; clear hb) | (go_at_call 17; (with_reducible refine (HA.out _).mono ?_); rintro e wz ⟨rfl, hb⟩; have HBZ := Lib.hid hb; clear hb))
              go_ret
              exact ⟨rfl, next_below HBwa.out <| next_below HBwb.out <| next_below HBwc.out <| next_below HBwd.out HBZ.out⟩
            | some t =>
              rw [sayE_some hk hsa] at hw1
              have HW1 := Lib.hid hw1
              have htl : (bs t).size = 2 * (runs (ls s)).length := by rw [size_bs]; exact (say_digs hdig hsa).2
              have htr := length_runs_le (ls s)
              rw [length_ls] at htr
              by_cases hts : t.length ≤ 200
              · have hts2 : (bs t).size ≤ 200 := by rw [size_bs]; exact hts
                have HT := Lib.hid (fun W => Age_of t _ W (age_say hk h22 HN.out hsa hts) (by omega))
                clear hw1 hsa hts htl htr h22 hk
                go_enter Try.func9, Try.ntmps9
                go_wp2_with (first | (go_at_call 16; (with_reducible refine (HF.out _).mono ?_); rintro e w1 ⟨rfl, rfl⟩) | (go_at_call 26; (with_reducible refine (HK.out _).mono ?_); rintro e w1 ⟨rfl, rfl⟩) | (go_at_call 22; (with_reducible refine (HG.out _).mono ?_); clear HG; rw [outI_ok]; rintro e wa ⟨rfl, hb⟩; have HBwa := Lib.hid hb; clear hb) | (go_at_call 20; (with_reducible refine (HW0.out _).mono ?_); rw [outS_ok]; rintro e wb ⟨rfl, hb⟩; have HBwb := Lib.hid hb; clear hb) | (go_at_call 22; (with_reducible refine (HJ.out _).mono ?_); clear HJ; rw [outI_ok]; rintro e wc ⟨rfl, hb⟩; have HBwc := Lib.hid hb; clear hb) | (go_at_call 18; (with_reducible refine (HW1.out _).mono ?_); rw [outS_ok]; rintro e wd ⟨rfl, hb⟩; have HBwd := Lib.hid hb; clear hb) | (go_at_call 22; (with_reducible refine (HT.out _).mono ?_); rw [outI_ok]; rintro e we ⟨rfl, hb⟩; have HBwe := Lib.hid hb; clear hb) | (go_at_call 17; (with_reducible refine (HA.out _).mono ?_); rintro e wz ⟨rfl, hb⟩; have HBZ := Lib.hid hb; clear hb))
                go_ret
                exact ⟨rfl, next_below HBwa.out <| next_below HBwb.out <| next_below HBwc.out <| next_below HBwd.out <| next_below HBwe.out HBZ.out⟩
              · have hts2 : 200 < (bs t).size := by rw [size_bs]; omega
                clear hw1 hsa hts htl htr h22 hk
                go_enter Try.func9, Try.ntmps9
                go_wp2_with (first | (go_at_call 16; (with_reducible refine (HF.out _).mono ?_); rintro e w1 ⟨rfl, rfl⟩) | (go_at_call 26; (with_reducible refine (HK.out _).mono ?_); rintro e w1 ⟨rfl, rfl⟩) | (go_at_call 22; (with_reducible refine (HG.out _).mono ?_); clear HG; rw [outI_ok]; rintro e wa ⟨rfl, hb⟩; have HBwa := Lib.hid hb; clear hb) | (go_at_call 20; (with_reducible refine (HW0.out _).mono ?_); rw [outS_ok]; rintro e wb ⟨rfl, hb⟩; have HBwb := Lib.hid hb; clear hb) | (go_at_call 22; (with_reducible refine (HJ.out _).mono ?_); clear HJ; rw [outI_ok]; rintro e wc ⟨rfl, hb⟩; have HBwc := Lib.hid hb; clear hb) | (go_at_call 18; (with_reducible refine (HW1.out _).mono ?_); rw [outS_ok]; rintro e wd ⟨rfl, hb⟩; have HBwd := Lib.hid hb; clear hb) | (go_at_call 17; (with_reducible refine (HA.out _).mono ?_); rintro e wz ⟨rfl, hb⟩; have HBZ := Lib.hid hb; clear hb))
                go_ret
                exact ⟨rfl, next_below HBwa.out <| next_below HBwb.out <| next_below HBwc.out <| next_below HBwd.out HBZ.out⟩
          · have hbs2 : 200 < (bs b).size := by rw [size_bs]; omega
            clear hw0 hbe haj hbs hj hj1
            cases hsa : say (ls s) with
            | none =>
              rw [sayE_none hk hsa] at hw1
              have HW1 := Lib.hid hw1
              clear hw1 hsa h22 hk
              go_enter Try.func9, Try.ntmps9
              go_wp2_with (first | (go_at_call 16; (with_reducible refine (HF.out _).mono ?_); rintro e w1 ⟨rfl, rfl⟩) | (go_at_call 26; (with_reducible refine (HK.out _).mono ?_); rintro e w1 ⟨rfl, rfl⟩) | (go_at_call 22; (with_reducible refine (HG.out _).mono ?_); clear HG; rw [outI_ok]; rintro e wa ⟨rfl, hb⟩; have HBwa := Lib.hid hb; clear hb) | (go_at_call 20; (with_reducible refine (HW0.out _).mono ?_); rw [outS_ok]; rintro e wb ⟨rfl, hb⟩; have HBwb := Lib.hid hb; clear hb) | (go_at_call 18; (with_reducible refine (HW1.out _).mono ?_); rw [outS_error]; rintro e wd ⟨rfl, hb⟩; have HBwd := Lib.hid hb; clear hb) | (go_at_call 17; (with_reducible refine (HA.out _).mono ?_); rintro e wz ⟨rfl, hb⟩; have HBZ := Lib.hid hb; clear hb))
              go_ret
              exact ⟨rfl, next_below HBwa.out <| next_below HBwb.out <| next_below HBwd.out HBZ.out⟩
            | some t =>
              rw [sayE_some hk hsa] at hw1
              have HW1 := Lib.hid hw1
              have htl : (bs t).size = 2 * (runs (ls s)).length := by rw [size_bs]; exact (say_digs hdig hsa).2
              have htr := length_runs_le (ls s)
              rw [length_ls] at htr
              by_cases hts : t.length ≤ 200
              · have hts2 : (bs t).size ≤ 200 := by rw [size_bs]; exact hts
                have HT := Lib.hid (fun W => Age_of t _ W (age_say hk h22 HN.out hsa hts) (by omega))
                clear hw1 hsa hts htl htr h22 hk
                go_enter Try.func9, Try.ntmps9
                go_wp2_with (first | (go_at_call 16; (with_reducible refine (HF.out _).mono ?_); rintro e w1 ⟨rfl, rfl⟩) | (go_at_call 26; (with_reducible refine (HK.out _).mono ?_); rintro e w1 ⟨rfl, rfl⟩) | (go_at_call 22; (with_reducible refine (HG.out _).mono ?_); clear HG; rw [outI_ok]; rintro e wa ⟨rfl, hb⟩; have HBwa := Lib.hid hb; clear hb) | (go_at_call 20; (with_reducible refine (HW0.out _).mono ?_); rw [outS_ok]; rintro e wb ⟨rfl, hb⟩; have HBwb := Lib.hid hb; clear hb) | (go_at_call 18; (with_reducible refine (HW1.out _).mono ?_); rw [outS_ok]; rintro e wd ⟨rfl, hb⟩; have HBwd := Lib.hid hb; clear hb) | (go_at_call 22; (with_reducible refine (HT.out _).mono ?_); rw [outI_ok]; rintro e we ⟨rfl, hb⟩; have HBwe := Lib.hid hb; clear hb) | (go_at_call 17; (with_reducible refine (HA.out _).mono ?_); rintro e wz ⟨rfl, hb⟩; have HBZ := Lib.hid hb; clear hb))
                go_ret
                exact ⟨rfl, next_below HBwa.out <| next_below HBwb.out <| next_below HBwd.out <| next_below HBwe.out HBZ.out⟩
              · have hts2 : 200 < (bs t).size := by rw [size_bs]; omega
                clear hw1 hsa hts htl htr h22 hk
                go_enter Try.func9, Try.ntmps9
                go_wp2_with (first | (go_at_call 16; (with_reducible refine (HF.out _).mono ?_); rintro e w1 ⟨rfl, rfl⟩) | (go_at_call 26; (with_reducible refine (HK.out _).mono ?_); rintro e w1 ⟨rfl, rfl⟩) | (go_at_call 22; (with_reducible refine (HG.out _).mono ?_); clear HG; rw [outI_ok]; rintro e wa ⟨rfl, hb⟩; have HBwa := Lib.hid hb; clear hb) | (go_at_call 20; (with_reducible refine (HW0.out _).mono ?_); rw [outS_ok]; rintro e wb ⟨rfl, hb⟩; have HBwb := Lib.hid hb; clear hb) | (go_at_call 18; (with_reducible refine (HW1.out _).mono ?_); rw [outS_ok]; rintro e wd ⟨rfl, hb⟩; have HBwd := Lib.hid hb; clear hb) | (go_at_call 17; (with_reducible refine (HA.out _).mono ?_); rintro e wz ⟨rfl, hb⟩; have HBZ := Lib.hid hb; clear hb))
                go_ret
                exact ⟨rfl, next_below HBwa.out <| next_below HBwb.out <| next_below HBwd.out HBZ.out⟩
    · have hkb : (k == 0) = false := by rw [beq_eq_false_iff_ne]; exact h0
      clear hk h0
      go_enter Try.func9, Try.ntmps9
      go_wp2_with (first | (go_at_call 16; (with_reducible refine (HF.out _).mono ?_); rintro e w1 ⟨rfl, rfl⟩) | (go_at_call 26; (with_reducible refine (HK.out _).mono ?_); rintro e w1 ⟨rfl, rfl⟩) | (go_at_call 17; (with_reducible refine (HA.out _).mono ?_); rintro e wz ⟨rfl, hb⟩; have HBZ := Lib.hid hb; clear hb))
      go_ret
      exact ⟨rfl, HBZ.out⟩
  · have HF := Lib.hid (fun W => few_one s false W h1 (decide_eq_false hf))
    clear hf
    go_enter Try.func9, Try.ntmps9
    go_wp2_with (first | (go_at_call 16; (with_reducible refine (HF.out _).mono ?_); rintro e w1 ⟨rfl, rfl⟩) | (go_at_call 17; (with_reducible refine (HA.out _).mono ?_); rintro e wz ⟨rfl, hb⟩; have HBZ := Lib.hid hb; clear hb))
    go_ret
    exact ⟨rfl, HBZ.out⟩
end Go.Proofs.Ytodchgddkgjciaa
