/- The walk of the statement AloudDays: it answers true. Conditions: lengths within the reach of the form. -/
import Derived.Test.YtodchgddkgjciaaRefCount
import Derived.ChangeKeysEq
namespace Go.Proofs.Ytodchgddkgjciaa
set_option linter.unusedVariables false
set_option linter.unusedSimpArgs false
open Go Go.RowKit
theorem outS_shape (r : Except Int (List UInt8)) : ∃ (x : ByteArray) (e : Int), outS r = .tuple #[.string x, .int .i64 e] := ⟨_, _, rfl⟩
theorem outC_shape (r : Except Int (List UInt8)) : ∃ (x y z : Int) (e : Int), outC r = .tuple #[.agg #[.int .i64 x, .int .i64 y, .int .i64 z], .int .i64 e] := ⟨_, _, _, _, rfl⟩
theorem cells3 : Try.prog.cellsOf 3 = 1 := by kernel_rfl
theorem plain3 : Try.prog.plainKey 3 = true := by kernel_rfl
theorem eq_three (a b c : Int) (w : World) : (Op.equalIn 10000 40 (.agg #[.int .i64 a, .int .i64 b, .int .i64 c]) (.agg #[.int .i64 a, .int .i64 b, .int .i64 c])).run Try.prog w = .ok true w := by
  obtain ⟨i, hi⟩ : ∃ i, Try.prog.info? 3 = some i := Option.isSome_iff_exists.1 (by kernel_rfl)
  have hu : Try.prog.underlying 40 = some (.array 3 3) := by kernel_rfl
  have h3 : Try.prog.underlying 3 = some (.int .i64) := by kernel_rfl
  have p := fun (xs : Array Value) (off : Nat) (v : Value) (h : xs[off]? = some v) => run_part_plain w plain3 h
  have q := fun (x : Int) => run_equalIn_int w 9998 3 .i64 .i64 x x h3
  rw [show (10000 : Nat) = 9999 + 1 from rfl, run_equalIn_array w 9999 _ _ hu hi, cells3, show List.range 3 = [0, 1, 2] from rfl]
  simp only [Op.eqItems, Sem.run_bind, p _ _ _ (show (#[Value.int .i64 a, .int .i64 b, .int .i64 c])[0 * 1]? = some (.int .i64 a) from rfl), p _ _ _ (show (#[Value.int .i64 a, .int .i64 b, .int .i64 c])[1 * 1]? = some (.int .i64 b) from rfl), p _ _ _ (show (#[Value.int .i64 a, .int .i64 b, .int .i64 c])[2 * 1]? = some (.int .i64 c) from rfl), Result.andThen_ok, q, beq_self_eq_true, Bool.not_true, Bool.false_eq_true, if_false]
  rfl
set_option maxHeartbeats 4000000 in
set_option maxRecDepth 100000 in
theorem Days_law (s : ByteArray) (many : Int) (w : World) (h1 : s.size ≤ 140737488351232) :
    Calls Try.prog 11 #[.string s, .int .i64 many] w fun e w' => e = .returned (.bool true) ∧ Below w.heap.size w w' := by
  have HA := Lib.hid (fun W => alive_any W)
  by_cases hf : s.size ≤ 1000
  · have HF := Lib.hid (fun W => few_one s true W h1 (decide_eq_true hf))
    obtain ⟨x, e, hx⟩ := outS_shape (daysE many (ls s))
    obtain ⟨a, b, c, f, hy⟩ := outC_shape (daysE many (ls s))
    have ha := fun W => Days_any s many W h1
    have hb := fun W => RefDays_any s many W h1
    have hc := fun W => Count_any s many W h1
    have hd := fun W => RefCount_any s many W h1
    rw [hx] at ha hb
    rw [hy] at hc hd
    have H1 := Lib.hid ha
    have H2 := Lib.hid hb
    have H3 := Lib.hid hc
    have H4 := Lib.hid hd
    clear ha hb hc hd hx hy hf
    go_enter Try.func11, Try.ntmps11
    go_wp2_with (first | (go_at_call 16; (with_reducible refine (HF.out _).mono ?_); rintro e w1 ⟨rfl, rfl⟩) | (go_at_call 27; (with_reducible refine (H1.out _).mono ?_); rintro e w1 ⟨rfl, hb⟩; have HB1 := Lib.hid hb; clear hb) | (go_at_call 29; (with_reducible refine (H2.out _).mono ?_); rintro e w2 ⟨rfl, hb⟩; have HB2 := Lib.hid hb; clear hb) | (go_at_call 30; (with_reducible refine (H3.out _).mono ?_); rintro e w3 ⟨rfl, hb⟩; have HB3 := Lib.hid hb; clear hb) | (go_at_call 31; (with_reducible refine (H4.out _).mono ?_); rintro e w4 ⟨rfl, hb⟩; have HB4 := Lib.hid hb; have ht : Three w4 w3.heap.size a b c := Three.below (World.alloc_heap_new _ _) hb (by simp); have hu : Three (w4.alloc (.cells #[.int .i64 a, .int .i64 b, .int .i64 c] 40)) w3.heap.size a b c := (Below.heap_alloc _ _ _ (by have := ht.lt; omega)).trans ht; have hv : Three (w4.alloc (.cells #[.int .i64 a, .int .i64 b, .int .i64 c] 40)) w4.heap.size a b c := World.alloc_heap_new _ _; have c0 := hu.cell0; have c1 := hu.cell1; have c2 := hu.cell2; have d0 := hv.cell0; have d1 := hv.cell1; have d2 := hv.cell2; have HT := Lib.hid ht; have heq := eq_three a b c (w4.alloc (.cells #[.int .i64 a, .int .i64 b, .int .i64 c] 40)); clear hb hu hv ht) | (go_at_call 17; (with_reducible refine (HA.out _).mono ?_); rintro e w8 ⟨rfl, hb⟩; have HB8 := Lib.hid hb; clear hb))
    go_ret
    have k3 : Below w.heap.size w w3 := next_below HB1.out <| next_below HB2.out HB3.out
    have k4 : Below w.heap.size w w4 := (k3.alloc k3.size _).trans (HB4.out.mono (by have := k3.size; simp; omega))
    exact ⟨rfl, (k4.alloc k4.size _).trans (HB8.out.mono (by have := k4.size; simp; omega))⟩
  · have HF := Lib.hid (fun W => few_one s false W h1 (decide_eq_false hf))
    clear hf
    go_enter Try.func11, Try.ntmps11
    go_wp2_with (first | (go_at_call 16; (with_reducible refine (HF.out _).mono ?_); rintro e w1 ⟨rfl, rfl⟩) | (go_at_call 17; (with_reducible refine (HA.out _).mono ?_); rintro e w1 ⟨rfl, hb⟩; have HB := Lib.hid hb; clear hb))
    go_ret
    exact ⟨rfl, HB.out⟩
end Go.Proofs.Ytodchgddkgjciaa
