/- The walk of the statement AloudSays: it answers true. Conditions: lengths within the reach of the form. -/
import Derived.Test.YtodchgddkgjciaaRefSays
namespace Go.Proofs.Ytodchgddkgjciaa
set_option linter.unusedVariables false
set_option linter.unusedSimpArgs false
open Go Go.RowKit
theorem outS_parts (r : Except Int (List UInt8)) : ∃ (x : ByteArray) (e : Int), outS r = .tuple #[.string x, .int .i64 e] := ⟨_, _, rfl⟩
theorem outI_parts (r : Except Int Int) : ∃ (x : Int) (e : Int), outI r = .tuple #[.int .i64 x, .int .i64 e] := ⟨_, _, rfl⟩
set_option maxHeartbeats 4000000 in
set_option maxRecDepth 100000 in
theorem Says_law (s : ByteArray) (w : World) (h1 : s.size ≤ 140737488351232) :
    Calls Try.prog 3 #[.string s] w fun e w' => e = .returned (.bool true) ∧ Below w.heap.size w w' := by
  have HA := Lib.hid (fun W => alive_any W)
  by_cases hf : s.size ≤ 1000
  · have HF := Lib.hid (fun W => few_one s true W h1 (decide_eq_true hf))
    obtain ⟨x, e, hx⟩ := outS_parts (sayE (ls s))
    obtain ⟨y, f, hy⟩ := outS_parts (beforeE (ls s))
    obtain ⟨z, g, hz⟩ := outI_parts (ageE (ls s))
    have ha := fun W => Say_any s W h1
    have hb := fun W => RefSay_any s W h1
    have hc := fun W => Before_any s W h1
    have hd := fun W => RefBefore_any s W h1
    have he := fun W => Age_any s W h1
    have hg := fun W => RefAge_any s W h1
    rw [hx] at ha hb
    rw [hy] at hc hd
    rw [hz] at he hg
    have H1 := Lib.hid ha
    have H2 := Lib.hid hb
    have H3 := Lib.hid hc
    have H4 := Lib.hid hd
    have H5 := Lib.hid he
    have H6 := Lib.hid hg
    clear ha hb hc hd he hg hx hy hz hf
    go_enter Try.func3, Try.ntmps3
    go_wp2_with (first | (go_at_call 16; (with_reducible refine (HF.out _).mono ?_); rintro e w1 ⟨rfl, rfl⟩) | (go_at_call 18; (with_reducible refine (H1.out _).mono ?_); rintro e w1 ⟨rfl, hb⟩; have HB1 := Lib.hid hb; clear hb) | (go_at_call 19; (with_reducible refine (H2.out _).mono ?_); rintro e w2 ⟨rfl, hb⟩; have HB2 := Lib.hid hb; clear hb) | (go_at_call 20; (with_reducible refine (H3.out _).mono ?_); rintro e w3 ⟨rfl, hb⟩; have HB3 := Lib.hid hb; clear hb) | (go_at_call 21; (with_reducible refine (H4.out _).mono ?_); rintro e w4 ⟨rfl, hb⟩; have HB4 := Lib.hid hb; clear hb) | (go_at_call 22; (with_reducible refine (H5.out _).mono ?_); rintro e w5 ⟨rfl, hb⟩; have HB5 := Lib.hid hb; clear hb) | (go_at_call 23; (with_reducible refine (H6.out _).mono ?_); rintro e w6 ⟨rfl, hb⟩; have HB6 := Lib.hid hb; clear hb) | (go_at_call 17; (with_reducible refine (HA.out _).mono ?_); rintro e w8 ⟨rfl, hb⟩; have HB8 := Lib.hid hb; clear hb))
    go_ret
    exact ⟨rfl, next_below HB1.out <| next_below HB2.out <| next_below HB3.out <| next_below HB4.out <| next_below HB5.out <| next_below HB6.out HB8.out⟩
  · have HF := Lib.hid (fun W => few_one s false W h1 (decide_eq_false hf))
    clear hf
    go_enter Try.func3, Try.ntmps3
    go_wp2_with (first | (go_at_call 16; (with_reducible refine (HF.out _).mono ?_); rintro e w1 ⟨rfl, rfl⟩) | (go_at_call 17; (with_reducible refine (HA.out _).mono ?_); rintro e w1 ⟨rfl, hb⟩; have HB := Lib.hid hb; clear hb))
    go_ret
    exact ⟨rfl, HB.out⟩
end Go.Proofs.Ytodchgddkgjciaa
