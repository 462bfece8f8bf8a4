/- The walk of the statement AloudBack: it answers true. Conditions: lengths within the reach of the form. -/
import Derived.Test.YtodchgddkgjciaaPairs
import Derived.Test.YtodchgddkgjciaaOfWalk
import Derived.Test.YtodchgddkgjciaaAgesMath
namespace Go.Proofs.Ytodchgddkgjciaa
set_option linter.unusedVariables false
set_option linter.unusedSimpArgs false
open Go Go.RowKit
theorem pcells_at {l : List (Int × Int)} {j : Nat} {p : Int × Int} (h : l[j]? = some p) : (pcells l)[j * 2]? = some (.int .i64 p.1) ∧ (pcells l)[j * 2 + 1]? = some (.int .i64 p.2) := by
  induction l generalizing j with
  | nil => simp at h
  | cons q l ih =>
    cases j with
    | zero => simp at h; subst h; exact ⟨rfl, rfl⟩
    | succ j =>
      have := ih (j := j) (by simpa using h)
      rw [show (j + 1) * 2 = j * 2 + 1 + 1 by omega, show pcells (q :: l) = .int .i64 q.1 :: .int .i64 q.2 :: pcells l from rfl]
      simpa using this
/-- A row of pairs that the caller owns, as an argument. -/
theorem pairs_of_owns {W : World} {B g cap : Nat} {l : List (Int × Int)} (h : W.ownsRow B 60 2 (.slice (some ⟨g, 0, none⟩) l.length cap) l.length (pcells l)) : PairsAt W (.slice (some ⟨g, 0, none⟩) l.length cap) l := by
  refine .inr ⟨g, 0, cap, rfl, (h.lt g rfl).2, fun j p hp => ?_⟩
  have hj := (List.getElem?_eq_some_iff.1 hp).1
  obtain ⟨e1, e2⟩ := pcells_at hp
  rw [Nat.zero_add, h.cellAt (j * 2) (by omega), h.cellAt (j * 2 + 1) (by omega)]
  exact ⟨e1, e2⟩
theorem Of_of_runs {s : ByteArray} {W : World} {B g cap : Nat} (h0 : wordE (ls s) = 0) (h : W.ownsRow B 60 2 (.slice (some ⟨g, 0, none⟩) (runs (ls s)).length cap) (runs (ls s)).length (pcells (rpairs (ls s)))) :
    Calls Try.prog 32 #[.slice (some ⟨g, 0, none⟩) (runs (ls s)).length cap] W fun e w' => e = .returned (.tuple #[.string s, .int .i64 0]) ∧ Below W.heap.size W w' := by
  have e : (rpairs (ls s)).length = (runs (ls s)).length := by rw [rpairs, List.length_map]
  rw [← e] at h ⊢
  have hl := length_runs_le (ls s)
  have h200 := (wordE_zero.1 h0).1
  have := Of_any (rpairs (ls s)) _ W (by rw [e]; omega) (pairs_of_owns h)
  rwa [ofE_runs h0, outS_ok, bs_ls] at this
theorem Before_of (b : List UInt8) (r : Except Int (List UInt8)) (w : World) (h : beforeE b = r) (hs : (bs b).size ≤ 140737488351232) :
    Calls Try.prog 20 #[.string (bs b)] w fun e w' => e = .returned (outS r) ∧ Below w.heap.size w w' := by
  have := Before_any (bs b) w hs
  rwa [ls_bs, h] at this
theorem Say_of (b : List UInt8) (r : Except Int (List UInt8)) (w : World) (h : sayE b = r) (hs : (bs b).size ≤ 140737488351232) :
    Calls Try.prog 18 #[.string (bs b)] w fun e w' => e = .returned (outS r) ∧ Below w.heap.size w w' := by
  have := Say_any (bs b) w hs
  rwa [ls_bs, h] at this
theorem outS_self (s : ByteArray) : outS (.ok (ls s)) = .tuple #[.string s, .int .i64 0] := by rw [outS_ok, bs_ls]
set_option maxHeartbeats 8000000 in
set_option maxRecDepth 100000 in
theorem Back_law (s : ByteArray) (w : World) (h1 : s.size ≤ 140737488351232) :
    Calls Try.prog 15 #[.string s] w fun e w' => e = .returned (.bool true) ∧ Below w.heap.size w w' := by
  have HA := Lib.hid (fun W => alive_any W)
  by_cases hf : s.size ≤ 1000
  · have HF := Lib.hid (fun W => few_one s true W h1 (decide_eq_true hf))
    obtain ⟨k, hk⟩ : ∃ k, wordE (ls s) = k := ⟨_, rfl⟩
    have HK := Lib.hid (fun W => Word_of s k W h1 hk)
    by_cases h0 : k = 0
    · subst h0
      have HW := Lib.hid hk
      have HR := Lib.hid (fun W => Runs_good s W hk)
      have hw0 := (fun W => Before_any s W h1)
      have hw1 := (fun W => Say_any s W h1)
      have hdig := (wordE_zero.1 hk).2.1
      have hsz := (wordE_zero.1 hk).1
      rw [length_ls] at hsz
      clear hf
      cases hsa : say (ls s) with
      | none =>
        rw [sayE_none hk hsa] at hw1
        have HW1 := Lib.hid hw1
        clear hw1 hsa
        cases hbe : before (ls s) with
        | none =>
          rw [beforeE_none hk hbe] at hw0
          have HW0 := Lib.hid hw0
          clear hw0 hbe hk
          go_enter Try.func15, Try.ntmps15
          go_wp2_with (first | (go_at_call 16; (with_reducible refine (HF.out _).mono ?_); rintro e w1 ⟨rfl, rfl⟩) | (go_at_call 26; (with_reducible refine (HK.out _).mono ?_); rintro e w1 ⟨rfl, rfl⟩) | (go_at_call 28; (with_reducible refine (HR.out _).mono ?_); rintro e wr ⟨⟨g, cap, rfl, hown⟩, hb⟩; have HBr := Lib.hid hb; have HOWN := Lib.hid hown; clear hb hown) | (go_at_call 32; (with_reducible refine (Of_of_runs HW.out HOWN.out).mono ?_); rintro e wo ⟨rfl, hb⟩; have HBo := Lib.hid hb; clear hb) | (go_at_call 18; (with_reducible refine (HW1.out _).mono ?_); clear HW1; rw [outS_error]; rintro e wa ⟨rfl, hb⟩; have HBwa := Lib.hid hb; clear hb) | (go_at_call 20; (with_reducible refine (HW0.out _).mono ?_); clear HW0; rw [outS_error]; rintro e wb ⟨rfl, hb⟩; have HBwb := Lib.hid hb; clear hb) | (go_at_call 17; (with_reducible refine (HA.out _).mono ?_); rintro e wz ⟨rfl, hb⟩; have HBZ := Lib.hid hb; clear hb))
          go_ret
          exact ⟨rfl, next_below HBr.out <| next_below HBo.out <| next_below HBwa.out <| next_below HBwb.out HBZ.out⟩
        | some b =>
          rw [beforeE_some hk hbe] at hw0
          have HW0 := Lib.hid hw0
          have hbl : (bs b).size ≤ 9 * s.size := by rw [size_bs, ← length_ls s]; exact (before_digs hdig hbe).2
          by_cases hbs : b.length ≤ 200
          · have hbs2 : (bs b).size ≤ 200 := by rw [size_bs]; exact hbs
            have HJ := Lib.hid (fun W => Say_of b _ W (sayE_some (before_word hk hbe hbs) (say_before hdig hbe)) (by omega))
            clear hw0 hbe hbs hk
            go_enter Try.func15, Try.ntmps15
            go_wp2_with (first | (go_at_call 16; (with_reducible refine (HF.out _).mono ?_); rintro e w1 ⟨rfl, rfl⟩) | (go_at_call 26; (with_reducible refine (HK.out _).mono ?_); rintro e w1 ⟨rfl, rfl⟩) | (go_at_call 28; (with_reducible refine (HR.out _).mono ?_); rintro e wr ⟨⟨g, cap, rfl, hown⟩, hb⟩; have HBr := Lib.hid hb; have HOWN := Lib.hid hown; clear hb hown) | (go_at_call 32; (with_reducible refine (Of_of_runs HW.out HOWN.out).mono ?_); rintro e wo ⟨rfl, hb⟩; have HBo := Lib.hid hb; clear hb) | (go_at_call 18; (with_reducible refine (HW1.out _).mono ?_); clear HW1; rw [outS_error]; rintro e wa ⟨rfl, hb⟩; have HBwa := Lib.hid hb; clear hb) | (go_at_call 20; (with_reducible refine (HW0.out _).mono ?_); clear HW0; rw [outS_ok]; rintro e wb ⟨rfl, hb⟩; have HBwb := Lib.hid hb; clear hb) | (go_at_call 18; (with_reducible refine (HJ.out _).mono ?_); clear HJ; rw [outS_self]; rintro e wj ⟨rfl, hb⟩; have HBwj := Lib.hid hb; clear hb) | (go_at_call 17; (with_reducible refine (HA.out _).mono ?_); rintro e wz ⟨rfl, hb⟩; have HBZ := Lib.hid hb; clear hb))
            go_ret
            exact ⟨rfl, next_below HBr.out <| next_below HBo.out <| next_below HBwa.out <| next_below HBwb.out <| next_below HBwj.out HBZ.out⟩
          · have hbs2 : 200 < (bs b).size := by rw [size_bs]; omega
            clear hw0 hbe hbs hk
            go_enter Try.func15, Try.ntmps15
            go_wp2_with (first | (go_at_call 16; (with_reducible refine (HF.out _).mono ?_); rintro e w1 ⟨rfl, rfl⟩) | (go_at_call 26; (with_reducible refine (HK.out _).mono ?_); rintro e w1 ⟨rfl, rfl⟩) | (go_at_call 28; (with_reducible refine (HR.out _).mono ?_); rintro e wr ⟨⟨g, cap, rfl, hown⟩, hb⟩; have HBr := Lib.hid hb; have HOWN := Lib.hid hown; clear hb hown) | (go_at_call 32; (with_reducible refine (Of_of_runs HW.out HOWN.out).mono ?_); rintro e wo ⟨rfl, hb⟩; have HBo := Lib.hid hb; clear hb) | (go_at_call 18; (with_reducible refine (HW1.out _).mono ?_); clear HW1; rw [outS_error]; rintro e wa ⟨rfl, hb⟩; have HBwa := Lib.hid hb; clear hb) | (go_at_call 20; (with_reducible refine (HW0.out _).mono ?_); clear HW0; rw [outS_ok]; rintro e wb ⟨rfl, hb⟩; have HBwb := Lib.hid hb; clear hb) | (go_at_call 17; (with_reducible refine (HA.out _).mono ?_); rintro e wz ⟨rfl, hb⟩; have HBZ := Lib.hid hb; clear hb))
            go_ret
            exact ⟨rfl, next_below HBr.out <| next_below HBo.out <| next_below HBwa.out <| next_below HBwb.out HBZ.out⟩
      | some t =>
        rw [sayE_some hk hsa] at hw1
        have HW1 := Lib.hid hw1
        have htl : (bs t).size = 2 * (runs (ls s)).length := by rw [size_bs]; exact (say_digs hdig hsa).2
        have htr := length_runs_le (ls s)
        rw [length_ls] at htr
        by_cases hts : t.length ≤ 200
        · have hts2 : (bs t).size ≤ 200 := by rw [size_bs]; exact hts
          have HT := Lib.hid (fun W => Before_of t _ W (beforeE_some (say_word hk hsa hts) (before_say hdig hsa)) (by omega))
          clear hw1 hsa hts htl htr
          cases hbe : before (ls s) with
          | none =>
            rw [beforeE_none hk hbe] at hw0
            have HW0 := Lib.hid hw0
            clear hw0 hbe hk
            go_enter Try.func15, Try.ntmps15
            go_wp2_with (first | (go_at_call 16; (with_reducible refine (HF.out _).mono ?_); rintro e w1 ⟨rfl, rfl⟩) | (go_at_call 26; (with_reducible refine (HK.out _).mono ?_); rintro e w1 ⟨rfl, rfl⟩) | (go_at_call 28; (with_reducible refine (HR.out _).mono ?_); rintro e wr ⟨⟨g, cap, rfl, hown⟩, hb⟩; have HBr := Lib.hid hb; have HOWN := Lib.hid hown; clear hb hown) | (go_at_call 32; (with_reducible refine (Of_of_runs HW.out HOWN.out).mono ?_); rintro e wo ⟨rfl, hb⟩; have HBo := Lib.hid hb; clear hb) | (go_at_call 18; (with_reducible refine (HW1.out _).mono ?_); clear HW1; rw [outS_ok]; rintro e wa ⟨rfl, hb⟩; have HBwa := Lib.hid hb; clear hb) | (go_at_call 20; (with_reducible refine (HT.out _).mono ?_); clear HT; rw [outS_self]; rintro e wt ⟨rfl, hb⟩; have HBwt := Lib.hid hb; clear hb) | (go_at_call 20; (with_reducible refine (HW0.out _).mono ?_); clear HW0; rw [outS_error]; rintro e wb ⟨rfl, hb⟩; have HBwb := Lib.hid hb; clear hb) | (go_at_call 17; (with_reducible refine (HA.out _).mono ?_); rintro e wz ⟨rfl, hb⟩; have HBZ := Lib.hid hb; clear hb))
            go_ret
            exact ⟨rfl, next_below HBr.out <| next_below HBo.out <| next_below HBwa.out <| next_below HBwt.out <| next_below HBwb.out HBZ.out⟩
          | some b =>
            rw [beforeE_some hk hbe] at hw0
            have HW0 := Lib.hid hw0
            have hbl : (bs b).size ≤ 9 * s.size := by rw [size_bs, ← length_ls s]; exact (before_digs hdig hbe).2
            by_cases hbs : b.length ≤ 200
            · have hbs2 : (bs b).size ≤ 200 := by rw [size_bs]; exact hbs
              have HJ := Lib.hid (fun W => Say_of b _ W (sayE_some (before_word hk hbe hbs) (say_before hdig hbe)) (by omega))
              clear hw0 hbe hbs hk
              go_enter Try.func15, Try.ntmps15
              go_wp2_with (first | (go_at_call 16; (with_reducible refine (HF.out _).mono ?_); rintro e w1 ⟨rfl, rfl⟩) | (go_at_call 26; (with_reducible refine (HK.out _).mono ?_); rintro e w1 ⟨rfl, rfl⟩) | (go_at_call 28; (with_reducible refine (HR.out _).mono ?_); rintro e wr ⟨⟨g, cap, rfl, hown⟩, hb⟩; have HBr := Lib.hid hb; have HOWN := Lib.hid hown; clear hb hown) | (go_at_call 32; (with_reducible refine (Of_of_runs HW.out HOWN.out).mono ?_); rintro e wo ⟨rfl, hb⟩; have HBo := Lib.hid hb; clear hb) | (go_at_call 18; (with_reducible refine (HW1.out _).mono ?_); clear HW1; rw [outS_ok]; rintro e wa ⟨rfl, hb⟩; have HBwa := Lib.hid hb; clear hb) | (go_at_call 20; (with_reducible refine (HT.out _).mono ?_); clear HT; rw [outS_self]; rintro e wt ⟨rfl, hb⟩; have HBwt := Lib.hid hb; clear hb) | (go_at_call 20; (with_reducible refine (HW0.out _).mono ?_); clear HW0; rw [outS_ok]; rintro e wb ⟨rfl, hb⟩; have HBwb := Lib.hid hb; clear hb) | (go_at_call 18; (with_reducible refine (HJ.out _).mono ?_); clear HJ; rw [outS_self]; rintro e wj ⟨rfl, hb⟩; have HBwj := Lib.hid hb; clear hb) | (go_at_call 17; (with_reducible refine (HA.out _).mono ?_); rintro e wz ⟨rfl, hb⟩; have HBZ := Lib.hid hb; clear hb))
              go_ret
              exact ⟨rfl, next_below HBr.out <| next_below HBo.out <| next_below HBwa.out <| next_below HBwt.out <| next_below HBwb.out <| next_below HBwj.out HBZ.out⟩
            · have hbs2 : 200 < (bs b).size := by rw [size_bs]; omega
              clear hw0 hbe hbs hk
              go_enter Try.func15, Try.ntmps15
              go_wp2_with (first | (go_at_call 16; (with_reducible refine (HF.out _).mono ?_); rintro e w1 ⟨rfl, rfl⟩) | (go_at_call 26; (with_reducible refine (HK.out _).mono ?_); rintro e w1 ⟨rfl, rfl⟩) | (go_at_call 28; (with_reducible refine (HR.out _).mono ?_); rintro e wr ⟨⟨g, cap, rfl, hown⟩, hb⟩; have HBr := Lib.hid hb; have HOWN := Lib.hid hown; clear hb hown) | (go_at_call 32; (with_reducible refine (Of_of_runs HW.out HOWN.out).mono ?_); rintro e wo ⟨rfl, hb⟩; have HBo := Lib.hid hb; clear hb) | (go_at_call 18; (with_reducible refine (HW1.out _).mono ?_); clear HW1; rw [outS_ok]; rintro e wa ⟨rfl, hb⟩; have HBwa := Lib.hid hb; clear hb) | (go_at_call 20; (with_reducible refine (HT.out _).mono ?_); clear HT; rw [outS_self]; rintro e wt ⟨rfl, hb⟩; have HBwt := Lib.hid hb; clear hb) | (go_at_call 20; (with_reducible refine (HW0.out _).mono ?_); clear HW0; rw [outS_ok]; rintro e wb ⟨rfl, hb⟩; have HBwb := Lib.hid hb; clear hb) | (go_at_call 17; (with_reducible refine (HA.out _).mono ?_); rintro e wz ⟨rfl, hb⟩; have HBZ := Lib.hid hb; clear hb))
              go_ret
              exact ⟨rfl, next_below HBr.out <| next_below HBo.out <| next_below HBwa.out <| next_below HBwt.out <| next_below HBwb.out HBZ.out⟩
        · have hts2 : 200 < (bs t).size := by rw [size_bs]; omega
          clear hw1 hsa hts htl htr
          cases hbe : before (ls s) with
          | none =>
            rw [beforeE_none hk hbe] at hw0
            have HW0 := Lib.hid hw0
            clear hw0 hbe hk
            go_enter Try.func15, Try.ntmps15
            go_wp2_with (first | (go_at_call 16; (with_reducible refine (HF.out _).mono ?_); rintro e w1 ⟨rfl, rfl⟩) | (go_at_call 26; (with_reducible refine (HK.out _).mono ?_); rintro e w1 ⟨rfl, rfl⟩) | (go_at_call 28; (with_reducible refine (HR.out _).mono ?_); rintro e wr ⟨⟨g, cap, rfl, hown⟩, hb⟩; have HBr := Lib.hid hb; have HOWN := Lib.hid hown; clear hb hown) | (go_at_call 32; (with_reducible refine (Of_of_runs HW.out HOWN.out).mono ?_); rintro e wo ⟨rfl, hb⟩; have HBo := Lib.hid hb; clear hb) | (go_at_call 18; (with_reducible refine (HW1.out _).mono ?_); clear HW1; rw [outS_ok]; rintro e wa ⟨rfl, hb⟩; have HBwa := Lib.hid hb; clear hb) | (go_at_call 20; (with_reducible refine (HW0.out _).mono ?_); clear HW0; rw [outS_error]; rintro e wb ⟨rfl, hb⟩; have HBwb := Lib.hid hb; clear hb) | (go_at_call 17; (with_reducible refine (HA.out _).mono ?_); rintro e wz ⟨rfl, hb⟩; have HBZ := Lib.hid hb; clear hb))
            go_ret
            exact ⟨rfl, next_below HBr.out <| next_below HBo.out <| next_below HBwa.out <| next_below HBwb.out HBZ.out⟩
          | some b =>
            rw [beforeE_some hk hbe] at hw0
            have HW0 := Lib.hid hw0
            have hbl : (bs b).size ≤ 9 * s.size := by rw [size_bs, ← length_ls s]; exact (before_digs hdig hbe).2
            by_cases hbs : b.length ≤ 200
            · have hbs2 : (bs b).size ≤ 200 := by rw [size_bs]; exact hbs
              have HJ := Lib.hid (fun W => Say_of b _ W (sayE_some (before_word hk hbe hbs) (say_before hdig hbe)) (by omega))
              clear hw0 hbe hbs hk
              go_enter Try.func15, Try.ntmps15
              go_wp2_with (first | (go_at_call 16; (with_reducible refine (HF.out _).mono ?_); rintro e w1 ⟨rfl, rfl⟩) | (go_at_call 26; (with_reducible refine (HK.out _).mono ?_); rintro e w1 ⟨rfl, rfl⟩) | (go_at_call 28; (with_reducible refine (HR.out _).mono ?_); rintro e wr ⟨⟨g, cap, rfl, hown⟩, hb⟩; have HBr := Lib.hid hb; have HOWN := Lib.hid hown; clear hb hown) | (go_at_call 32; (with_reducible refine (Of_of_runs HW.out HOWN.out).mono ?_); rintro e wo ⟨rfl, hb⟩; have HBo := Lib.hid hb; clear hb) | (go_at_call 18; (with_reducible refine (HW1.out _).mono ?_); clear HW1; rw [outS_ok]; rintro e wa ⟨rfl, hb⟩; have HBwa := Lib.hid hb; clear hb) | (go_at_call 20; (with_reducible refine (HW0.out _).mono ?_); clear HW0; rw [outS_ok]; rintro e wb ⟨rfl, hb⟩; have HBwb := Lib.hid hb; clear hb) | (go_at_call 18; (with_reducible refine (HJ.out _).mono ?_); clear HJ; rw [outS_self]; rintro e wj ⟨rfl, hb⟩; have HBwj := Lib.hid hb; clear hb) | (go_at_call 17; (with_reducible refine (HA.out _).mono ?_); rintro e wz ⟨rfl, hb⟩; have HBZ := Lib.hid hb; clear hb))
              go_ret
              exact ⟨rfl, next_below HBr.out <| next_below HBo.out <| next_below HBwa.out <| next_below HBwb.out <| next_below HBwj.out HBZ.out⟩
            · have hbs2 : 200 < (bs b).size := by rw [size_bs]; omega
              clear hw0 hbe hbs hk
              go_enter Try.func15, Try.ntmps15
              go_wp2_with (first | (go_at_call 16; (with_reducible refine (HF.out _).mono ?_); rintro e w1 ⟨rfl, rfl⟩) | (go_at_call 26; (with_reducible refine (HK.out _).mono ?_); rintro e w1 ⟨rfl, rfl⟩) | (go_at_call 28; (with_reducible refine (HR.out _).mono ?_); rintro e wr ⟨⟨g, cap, rfl, hown⟩, hb⟩; have HBr := Lib.hid hb; have HOWN := Lib.hid hown; clear hb hown) | (go_at_call 32; (with_reducible refine (Of_of_runs HW.out HOWN.out).mono ?_); rintro e wo ⟨rfl, hb⟩; have HBo := Lib.hid hb; clear hb) | (go_at_call 18; (with_reducible refine (HW1.out _).mono ?_); clear HW1; rw [outS_ok]; rintro e wa ⟨rfl, hb⟩; have HBwa := Lib.hid hb; clear hb) | (go_at_call 20; (with_reducible refine (HW0.out _).mono ?_); clear HW0; rw [outS_ok]; rintro e wb ⟨rfl, hb⟩; have HBwb := Lib.hid hb; clear hb) | (go_at_call 17; (with_reducible refine (HA.out _).mono ?_); rintro e wz ⟨rfl, hb⟩; have HBZ := Lib.hid hb; clear hb))
              go_ret
              exact ⟨rfl, next_below HBr.out <| next_below HBo.out <| next_below HBwa.out <| next_below HBwb.out HBZ.out⟩
    · have hkb : (k == 0) = false := by rw [beq_eq_false_iff_ne]; exact h0
      have hkn : (k != 0) = true := by rw [bne, hkb]; rfl
      clear hk h0
      go_enter Try.func15, Try.ntmps15
      go_wp2_with (first | (go_at_call 16; (with_reducible refine (HF.out _).mono ?_); rintro e w1 ⟨rfl, rfl⟩) | (go_at_call 26; (with_reducible refine (HK.out _).mono ?_); rintro e w1 ⟨rfl, rfl⟩) | (go_at_call 17; (with_reducible refine (HA.out _).mono ?_); rintro e wz ⟨rfl, hb⟩; have HBZ := Lib.hid hb; clear hb))
      go_ret
      exact ⟨rfl, HBZ.out⟩
  · have HF := Lib.hid (fun W => few_one s false W h1 (decide_eq_false hf))
    clear hf
    go_enter Try.func15, Try.ntmps15
    go_wp2_with (first | (go_at_call 16; (with_reducible refine (HF.out _).mono ?_); rintro e w1 ⟨rfl, rfl⟩) | (go_at_call 17; (with_reducible refine (HA.out _).mono ?_); rintro e wz ⟨rfl, hb⟩; have HBZ := Lib.hid hb; clear hb))
    go_ret
    exact ⟨rfl, HBZ.out⟩
end Go.Proofs.Ytodchgddkgjciaa
