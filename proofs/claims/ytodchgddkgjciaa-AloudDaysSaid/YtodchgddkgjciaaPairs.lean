/- What Runs of package aloud answers. Conditions: lengths within the reach of the form. -/
import Derived.Test.YtodchgddkgjciaaFew
import Derived.Test.YtodchgddkgjciaaRefRuns
namespace Go.Proofs.Ytodchgddkgjciaa
set_option linter.unusedVariables false
set_option linter.unusedSimpArgs false
open Go Go.RowKit
attribute [local go_sem] Oper.semAt_some
/-- The box B holds a slice that owns the pairs so far; the iterator keeps its word in box c. -/
def RowI (n₀ B c : Nat) (pre : List (Nat × UInt8)) (W : World) : Prop :=
  (∃ v, Boxed W B 37 v ∧ W.ownsRow n₀ 60 2 v pre.length (pcells (pre.map ipair)) ∧ True) ∧ ∃ v, Boxed W c 9 v
theorem rowI_own (n₀ B c D : Nat) : OwnFrom D (RowI n₀ B c) :=
  ((holdsRow_own n₀ B 37 60 2 (fun pre : List (Nat × UInt8) => pre.length) (fun pre => pcells (pre.map ipair)) (fun _ _ => True)).from D).and (boxed_any_ofrom D c 9)
theorem rowI_step {n₀ B c : Nat} (hne : B ≠ c) : ∀ s A X, RowI n₀ B c s A → IterStep c A X → RowI n₀ B c s X := by
  rintro s A X ⟨⟨v, hv, hr, _⟩, hc⟩ st
  refine ⟨⟨v, st.boxed hv hne, hr.kept st.grown ?_, trivial⟩, st.there⟩
  obtain ⟨u, hu⟩ := st.here
  exact .inr (hu.not_row (by decide) hr).symm
theorem Runs_bad (s : ByteArray) (w : World) (hlen : s.size ≤ 140737488351232) (h0 : wordE (ls s) ≠ 0) :
    Calls Try.prog 28 #[.string s] w fun e w' => e = .returned (.tuple #[.slice none 0 0, .int .i64 (wordE (ls s))]) ∧ Below w.heap.size w w' := by
  have hcr := read_new s w hlen
  obtain ⟨k, hk⟩ : ∃ k, wordE (ls s) = k := ⟨_, rfl⟩
  rw [hk] at hcr h0 ⊢
  have hkb : (k == 0) = false := by rw [beq_eq_false_iff_ne]; exact h0
  have hkn : (k != 0) = true := by rw [bne, hkb]; rfl
  have HC := Lib.hid hcr
  clear hk hcr h0
  go_enter Try.func28, Try.ntmps28
  go_wp2_with (first | (go_at_call 39; (with_reducible refine HC.out.mono ?_); rintro e w1 ⟨rfl, hb1⟩; have HB1 := Lib.hid hb1; clear hb1))
  go_ret2
  exact ⟨rfl, HB1.out⟩
set_option maxRecDepth 100000 in
set_option maxHeartbeats 2000000 in
theorem Runs_in (s : ByteArray) (w : World) (h0 : wordE (ls s) = 0) :
    CallsIn Fence.wide 3 Try.prog 28 #[.string s] w fun e w' => (∃ v, e = .returned (.tuple #[v, .int .i64 0]) ∧ w'.ownsRow w.heap.size 60 2 v (rpairs (ls s)).length (pcells (rpairs (ls s)))) ∧ Below w.heap.size w w' := by
  obtain ⟨hl, hd, _⟩ := wordE_zero.1 h0
  rw [length_ls] at hl
  obtain ⟨i0, hi, hz0, hz1, hz2⟩ := info_parts info60
  have hcr := read_new s w (by omega)
  rw [h0] at hcr
  have HC := Lib.hid hcr
  have HD := Lib.hid hd
  clear hcr hd h0
  refine callsIn_of_wp_marks Try.func28 rfl trivial ?_ rfl
  simp only [Try.ntmps28, List.size_toArray, List.length_cons, List.length_nil, Nat.reduceAdd, Nat.reduceSub, Array.replicate_succ, Array.replicate_zero, List.push_toArray, List.append_toArray, List.nil_append, List.cons_append]
  gi_wp2_with (first | (refine ⟨trivial, ?_⟩; gi_at_call 39; (with_reducible refine (callsIn_wide.2 HC.out).mono ?_); rintro e w1 ⟨rfl, hb1⟩; have HB1 := Lib.hid hb1; clear hb1) | (refine ⟨trivial, ?_⟩; gi_at_call 48; (with_reducible refine (callsIn_wide.2 (runs_any _ _)).mono ?_); rintro e w1 ⟨rfl, rfl⟩))
  have hs1 := HB1.out.size
  have h1 : 1 ≤ 3 := by omega
  obtain ⟨w0, hw0⟩ : ∃ w0, (w1.alloc (.cells #[.slice none 0 0] 37)).alloc (.cells #[.string s] 9) = w0 := ⟨_, rfl⟩
  rw [hw0]
  have hsz : w0.heap.size = w1.heap.size + 1 + 1 := by rw [← hw0]; simp
  have hc0 : Boxed w0 (w1.heap.size + 1) 9 (.string s) := by
    rw [← hw0]
    have := Boxed.new (w1.alloc (.cells #[.slice none 0 0] 37)) 9 (.string s)
    simpa using this
  have hI0 : RowI w.heap.size w1.heap.size (w1.heap.size + 1) [] w0 := by
    refine ⟨⟨.slice none 0 0, ?_, World.ownsRow_nil _ _ _ _, trivial⟩, _, hc0⟩
    rw [← hw0]
    exact (Boxed.new w1 37 _).alloc _
  have hB0 : Below w.heap.size w w0 := by
    rw [← hw0]
    exact (HB1.out.alloc hs1 _).alloc (by simp; omega) _
  refine wpIn_rangeFunc_state rfl h1 (gf := 55) (lb := #[.pointer (some ⟨w1.heap.size + 1, 0, none⟩)]) rfl trivial (enters_of Try.func55 (by kernel_rfl) rfl)
    (runs1_seq 2 (w1.heap.size + 1) s w0 hc0 HD.out (by omega)) (by omega) (fun _ => rfl)
    (fun pre W => RowI w.heap.size w1.heap.size (w1.heap.size + 1) pre W ∧ Below w.heap.size w W) (fun _ _ _ => False)
    ((rowI_own _ _ _ _).and (ownFrom_below (Nat.le_refl _) (by omega))) (fun j _ _ _ _ h => h.elim)
    (fun s A B h st => ⟨rowI_step (by omega) s A B h.1 st, st.below (by omega) (Nat.le_refl _) h.2⟩) (fun j s A B h st => h.elim)
    ⟨hI0, hB0⟩
    (fun x => { tmps := #[.string s, undef, .slice none 0 0, .int .i64 0, .int .i64 0, .pointer (some ⟨w1.heap.size, 0, none⟩), .int .i64 x.1, .int .u8 x.2.toNat, .string s, .slice (some ⟨w.heap.size, 0, none⟩) 1 1, .int .i64 0, .int .i64 0, .bool false, undef, .string s,
      .func (.func 55) #[] #[.pointer (some ⟨w1.heap.size + 1, 0, none⟩)], .int .i64 x.1, .int .u8 x.2.toNat, undef, undef, undef, undef, undef, undef, undef, undef, undef], defers := [] }) ?assign ?body ?done ?stop
  case assign =>
    intro l x W K hK
    unfold encRun
    gi_wp2
    exact hK
  case body =>
    rintro l pre x suf W hx ⟨⟨⟨v, hv, hr, _⟩, hc⟩, hB⟩
    obtain ⟨k, d⟩ := x
    dsimp only
    have hmem : (k, d) ∈ runs (ls s) := by rw [hx]; simp
    have hkb := runs_mem hmem
    have hsz2 := hB.size
    rw [length_ls] at hkb
    have hdd := HD.out d hkb.1
    obtain ⟨hd1, hd2⟩ := hdd
    obtain ⟨_, hk1, hk2⟩ := hkb
    have hlen2 : pre.length + 1 + suf.length ≤ s.size := by
      have := length_runs_le (ls s)
      rw [hx, length_ls] at this
      simp at this; omega
    have HX := Lib.hid hx
    have HB := Lib.hid hB
    have HV := Lib.hid hv
    have HR := Lib.hid hr
    have HC := Lib.hid hc
    have c1 := hv.cell
    clear hx hB hc hmem hv hr
    gi_wp2_with (gi_at_builtin; refine wpListIn_append_own _ rfl _ _ 37 rfl w.heap.size 60 i0 (.agg #[.int .i64 0, .int .i64 0]) 2 16 Try.underlying37 hi hz0 hz1 hz2 rfl (by decide) _ _ _ rfl (HR.out.alloc _) ⟨W.heap.size, 0, none⟩ 1 1 [.int .i64 k, .int .i64 ((d.toNat : Int) - 48)] rfl rfl (fun j u hj => pair_new (World.alloc_heap_new W (.cells #[.int .i64 k, .int .i64 ((d.toNat : Int) - 48)] 60)) hj) (by intro u hu; simp at hu; rcases hu with rfl | rfl <;> rfl) (by unfold maxLen; omega) (by omega) (by have := HB.out.size; simp; omega) ?_)
    intro v' w2 hown' hgrow _
    obtain ⟨g', cap', rfl⟩ := ownsRow_succ hown'
    obtain ⟨hv1, hv2, hr2, hk2, hb2⟩ := HV.out.appended (by decide) HR.out HB.out.size (by omega) hown' hgrow
    obtain ⟨u, hu⟩ := HC.out
    have hu2 := ((hu.alloc _).kept hgrow (hu.not_row (by decide) HR.out)).kept (grownBy_setCell' w2 w1.heap.size (.slice (some ⟨g', 0, none⟩) (pre.length + 1) cap')) (by simp)
    have HU := Lib.hid hu
    have HU2 := Lib.hid hu2
    have hc1 := hv1.cell
    have hf1 := hv1.frozen
    have HV2 := Lib.hid hv2
    have HR2 := Lib.hid hr2
    have HK2 := Lib.hid hk2
    have HB2 := Lib.hid hb2
    clear hown' hgrow hv1 hv2 hr2 hk2 hb2 hu hu2
    gi_wp2
    refine ⟨HK2.out, HU2.out.trans (show W.heap[w1.heap.size + 1]? = _ from HU.out).symm, ⟨⟨_, HV2.out, ?_, trivial⟩, _, HU2.out⟩, HB.out.trans HB2.out⟩
    rw [List.map_append, List.map_cons, List.map_nil, List.length_append]
    show World.ownsRow _ _ _ _ _ _ (pcells (List.map ipair pre ++ [((k : Int), (d.toNat : Int) - 48)]))
    rw [pcells_snoc]
    exact HR2.out
  case done =>
    rintro D W hD ⟨⟨⟨v, hv, hr, _⟩, hc⟩, hB⟩ hK
    have hvc := hv.cell
    have HV := Lib.hid hv
    have HR := Lib.hid hr
    clear hv hr hc
    gi_wp2
    refine ⟨by simp, .inl ⟨_, _, rfl, run_takeDeferred hK, ?_⟩⟩
    refine ⟨_, results_tmp2 rfl _ _ _, ⟨v, rfl, ?_⟩, hB.trans (belowK_b (w := w) (Nat.le_refl _) W D _ _ (by omega) hK rfl rfl)⟩
    have := ownsRow_putObj HR.out (.deferred none) hK rfl
    rw [rpairs, List.length_map]
    exact this
  case stop =>
    rintro D j pre suf W hD hx h hK
    exact h.elim
theorem Runs_good (s : ByteArray) (w : World) (h0 : wordE (ls s) = 0) :
    Calls Try.prog 28 #[.string s] w fun e w' => (∃ g cap, e = .returned (.tuple #[.slice (some ⟨g, 0, none⟩) (runs (ls s)).length cap, .int .i64 0]) ∧ w'.ownsRow w.heap.size 60 2 (.slice (some ⟨g, 0, none⟩) (runs (ls s)).length cap) (runs (ls s)).length (pcells (rpairs (ls s)))) ∧ Below w.heap.size w w' := by
  refine (callsIn_wide.1 (Runs_in s w h0)).mono ?_
  rintro e w' ⟨⟨v, rfl, hr⟩, hB⟩
  obtain ⟨n, hn⟩ : ∃ n, (runs (ls s)).length = n + 1 := ⟨(runs (ls s)).length - 1, by
    have := List.length_pos_iff.2 (runs_ne (wordE_zero.1 h0).2.2)
    omega⟩
  rw [rpairs, List.length_map, hn] at hr
  obtain ⟨g, cap, rfl⟩ := ownsRow_succ hr
  rw [hn]
  exact ⟨⟨g, cap, rfl, hr⟩, hB⟩
end Go.Proofs.Ytodchgddkgjciaa
