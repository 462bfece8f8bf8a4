/- The walk of the statement AloudApart: it answers true. Conditions: lengths within the reach of the form. -/
import Derived.Test.YtodchgddkgjciaaRefApart
namespace Go.Proofs.Ytodchgddkgjciaa
set_option linter.unusedVariables false
set_option linter.unusedSimpArgs false
open Go Go.RowKit
theorem outB_parts (r : Except Int Bool) : ∃ (x : Bool) (e : Int), outB r = .tuple #[.bool x, .int .i64 e] := ⟨_, _, rfl⟩
set_option maxHeartbeats 4000000 in
set_option maxRecDepth 100000 in
theorem Apart_law (s t : ByteArray) (many : Int) (w : World) (h1 : s.size ≤ 140737488351232) (h2 : t.size ≤ 140737488351232) :
    Calls Try.prog 4 #[.string s, .string t, .int .i64 many] w fun e w' => e = .returned (.bool true) ∧ Below w.heap.size w w' := by
  have HA := Lib.hid (fun W => alive_any W)
  by_cases hf : s.size ≤ 1000 ∧ t.size ≤ 1000
  · have HF := Lib.hid (fun W => few_two s t true W h1 h2 (decide_eq_true hf))
    obtain ⟨x, e, hx⟩ := outB_parts (apartE (ls s) (ls t) many)
    have ha := fun W => Apart_any s t many W h1 h2
    have hb := fun W => RefApart_any s t many W h1 h2
    rw [hx] at ha hb
    have H1 := Lib.hid ha
    have H2 := Lib.hid hb
    clear ha hb hx hf
    go_enter Try.func4, Try.ntmps4
    go_wp2_with (first | (go_at_call 16; (with_reducible refine (HF.out _).mono ?_); rintro e w1 ⟨rfl, rfl⟩) | (go_at_call 24; (with_reducible refine (H1.out _).mono ?_); rintro e w1 ⟨rfl, hb⟩; have HB1 := Lib.hid hb; clear hb) | (go_at_call 25; (with_reducible refine (H2.out _).mono ?_); rintro e w2 ⟨rfl, hb⟩; have HB2 := Lib.hid hb; clear hb) | (go_at_call 17; (with_reducible refine (HA.out _).mono ?_); rintro e w8 ⟨rfl, hb⟩; have HB8 := Lib.hid hb; clear hb))
    go_ret
    exact ⟨rfl, next_below HB1.out <| next_below HB2.out HB8.out⟩
  · have HF := Lib.hid (fun W => few_two s t false W h1 h2 (decide_eq_false hf))
    clear hf
    go_enter Try.func4, Try.ntmps4
    go_wp2_with (first | (go_at_call 16; (with_reducible refine (HF.out _).mono ?_); rintro e w1 ⟨rfl, rfl⟩) | (go_at_call 17; (with_reducible refine (HA.out _).mono ?_); rintro e w1 ⟨rfl, hb⟩; have HB := Lib.hid hb; clear hb))
    go_ret
    exact ⟨rfl, HB.out⟩
end Go.Proofs.Ytodchgddkgjciaa
