/- The walk of the statement AloudWords: it answers true. Conditions: lengths within the reach of the form. -/
import Derived.Test.YtodchgddkgjciaaRefMore
namespace Go.Proofs.Ytodchgddkgjciaa
set_option linter.unusedVariables false
set_option linter.unusedSimpArgs false
open Go Go.RowKit
theorem longE_ok {l : List UInt8} (h : wordE l = 0) : longE l = .ok (most (runs l)) := by rw [longE, if_neg (by simp [h])]
theorem longE_err {l : List UInt8} (h : wordE l ≠ 0) : longE l = .error (wordE l) := by rw [longE, if_pos h]
theorem outI_yes (n : Int) : outI (.ok n) = .tuple #[.int .i64 n, .int .i64 0] := rfl
theorem outI_not (n : Int) : outI (.error n) = .tuple #[.int .i64 0, .int .i64 n] := rfl
theorem pairs_nil (w : World) : Calls Try.prog 34 #[.slice none 0 0, .slice none 0 0] w fun e w' => e = .returned (.bool true) ∧ Below w.heap.size w w' :=
  pairs_none _ _ w (.inl rfl) (.inl rfl)
theorem own_below {W W' : World} {B g cap : Nat} {l : List (Int × Int)} (h : W.ownsRow B 60 2 (.slice (some ⟨g, 0, none⟩) l.length cap) l.length (pcells l)) (hb : Below W.heap.size W W') : PairsAt W' (.slice (some ⟨g, 0, none⟩) l.length cap) l := (pairs_of_owns h).below hb
set_option maxHeartbeats 4000000 in
set_option maxRecDepth 100000 in
theorem Words_law (s : ByteArray) (w : World) (h1 : s.size ≤ 140737488351232) :
    Calls Try.prog 14 #[.string s] w fun e w' => e = .returned (.bool true) ∧ Below w.heap.size w w' := by
  have HA := Lib.hid (fun W => alive_any W)
  by_cases hf : s.size ≤ 1000
  · have HF := Lib.hid (fun W => few_one s true W h1 (decide_eq_true hf))
    obtain ⟨k, hk⟩ : ∃ k, wordE (ls s) = k := ⟨_, rfl⟩
    have HK := Lib.hid (fun W => Word_of s k W h1 hk)
    have hi := fun W => ProgIs_any s W h1
    have hl := fun W => Longest_any s W h1
    have hrl := fun W => RefLongest_any s W h1
    rw [hk] at hi
    by_cases h0 : k = 0
    · subst h0
      rw [longE_ok hk, outI_yes] at hl hrl
      have HR := Lib.hid (fun W => Runs_good s W hk)
      have HRR := Lib.hid (fun W => RefRuns_good s W hk)
      obtain ⟨r, hr⟩ : ∃ r, rpairs (ls s) = r := ⟨_, rfl⟩
      have hrl2 : (runs (ls s)).length = r.length := by rw [← hr, rpairs, List.length_map]
      have hlen := length_runs_le (ls s)
      rw [length_ls, hrl2] at hlen
      rw [hrl2, hr] at HR HRR
      obtain ⟨m, hm⟩ : ∃ m, most (runs (ls s)) = m := ⟨_, rfl⟩
      rw [hm] at hl hrl
      have HI := Lib.hid hi
      have HL := Lib.hid hl
      have HRL := Lib.hid hrl
      clear hi hl hrl hr hrl2 hm hk
      go_enter Try.func14, Try.ntmps14
      go_wp2_with (first | (go_at_call 16; (with_reducible refine (HF.out _).mono ?_); rintro e w1 ⟨rfl, rfl⟩) | (go_at_call 26; (with_reducible refine (HK.out _).mono ?_); rintro e w1 ⟨rfl, rfl⟩) | (go_at_call 35; (with_reducible refine (HI.out _).mono ?_); rintro e w2 ⟨rfl, hb⟩; have HB2 := Lib.hid hb; clear hb) | (go_at_call 28; (with_reducible refine (HR.out _).mono ?_); rintro e w3 ⟨⟨g, cap, rfl, hown⟩, hb⟩; have HB3 := Lib.hid hb; have HO3 := Lib.hid hown; clear hb hown) | (go_at_call 36; (with_reducible refine (HRR.out _).mono ?_); rintro e w4 ⟨⟨g', cap', rfl, hown⟩, hb⟩; have HB4 := Lib.hid hb; have HO4 := Lib.hid hown; clear hb hown) | (go_at_call 34; (with_reducible refine (pairs_same _ _ _ _ (by omega) (own_below HO3.out HB4.out) (pairs_of_owns HO4.out)).mono ?_); rintro e w5 ⟨rfl, hb⟩; have HB5 := Lib.hid hb; clear hb) | (go_at_call 37; (with_reducible refine (HL.out _).mono ?_); rintro e w6 ⟨rfl, hb⟩; have HB6 := Lib.hid hb; clear hb) | (go_at_call 38; (with_reducible refine (HRL.out _).mono ?_); rintro e w7 ⟨rfl, hb⟩; have HB7 := Lib.hid hb; clear hb) | (go_at_call 17; (with_reducible refine (HA.out _).mono ?_); rintro e w8 ⟨rfl, hb⟩; have HB8 := Lib.hid hb; clear hb))
      go_ret
      exact ⟨rfl, next_below HB2.out <| next_below HB3.out <| next_below HB4.out <| next_below HB5.out <| next_below HB6.out <| next_below HB7.out HB8.out⟩
    · have hkb : (k == 0) = false := by rw [beq_eq_false_iff_ne]; exact h0
      have hkn : (k != 0) = true := by rw [bne, hkb]; rfl
      have hr := fun W => Runs_bad s W h1 (by rw [hk]; exact h0)
      have hrr := fun W => RefRuns_bad s W h1 (by rw [hk]; exact h0)
      rw [longE_err (by rw [hk]; exact h0), outI_not, hk] at hl hrl
      rw [hk] at hr hrr
      have HI := Lib.hid hi
      have HL := Lib.hid hl
      have HRL := Lib.hid hrl
      have HR := Lib.hid hr
      have HRR := Lib.hid hrr
      clear hi hl hrl hr hrr hk h0
      go_enter Try.func14, Try.ntmps14
      go_wp2_with (first | (go_at_call 16; (with_reducible refine (HF.out _).mono ?_); rintro e w1 ⟨rfl, rfl⟩) | (go_at_call 26; (with_reducible refine (HK.out _).mono ?_); rintro e w1 ⟨rfl, rfl⟩) | (go_at_call 35; (with_reducible refine (HI.out _).mono ?_); rintro e w2 ⟨rfl, hb⟩; have HB2 := Lib.hid hb; clear hb) | (go_at_call 28; (with_reducible refine (HR.out _).mono ?_); rintro e w3 ⟨rfl, hb⟩; have HB3 := Lib.hid hb; clear hb) | (go_at_call 36; (with_reducible refine (HRR.out _).mono ?_); rintro e w4 ⟨rfl, rfl⟩) | (go_at_call 34; (with_reducible refine (pairs_nil _).mono ?_); rintro e w5 ⟨rfl, hb⟩; have HB5 := Lib.hid hb; clear hb) | (go_at_call 37; (with_reducible refine (HL.out _).mono ?_); rintro e w6 ⟨rfl, hb⟩; have HB6 := Lib.hid hb; clear hb) | (go_at_call 38; (with_reducible refine (HRL.out _).mono ?_); rintro e w7 ⟨rfl, hb⟩; have HB7 := Lib.hid hb; clear hb) | (go_at_call 17; (with_reducible refine (HA.out _).mono ?_); rintro e w8 ⟨rfl, hb⟩; have HB8 := Lib.hid hb; clear hb))
      go_ret
      exact ⟨rfl, next_below HB2.out <| next_below HB3.out <| next_below HB5.out <| next_below HB6.out <| next_below HB7.out HB8.out⟩
  · have HF := Lib.hid (fun W => few_one s false W h1 (decide_eq_false hf))
    clear hf
    go_enter Try.func14, Try.ntmps14
    go_wp2_with (first | (go_at_call 16; (with_reducible refine (HF.out _).mono ?_); rintro e w1 ⟨rfl, rfl⟩) | (go_at_call 17; (with_reducible refine (HA.out _).mono ?_); rintro e w1 ⟨rfl, hb⟩; have HB := Lib.hid hb; clear hb))
    go_ret
    exact ⟨rfl, HB.out⟩
end Go.Proofs.Ytodchgddkgjciaa
