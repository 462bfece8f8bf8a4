/- What Longest and IsWord of package aloud answer. Conditions: lengths within the reach of the form. -/
import Derived.Test.YtodchgddkgjciaaPairs
import Derived.Test.YtodchgddkgjciaaApart
namespace Go.Proofs.Ytodchgddkgjciaa
set_option linter.unusedVariables false
set_option linter.unusedSimpArgs false
open Go Go.RowKit
attribute [local go_sem] Oper.semAt_some
/-- The greatest number of a list of runs. -/
def most (r : List (Nat × UInt8)) : Nat := r.foldl (fun m p => max m p.1) 0
theorem most_snoc (r : List (Nat × UInt8)) (p : Nat × UInt8) : most (r ++ [p]) = max (most r) p.1 := by simp [most]
def longE (l : List UInt8) : Except Int Int := if wordE l ≠ 0 then .error (wordE l) else .ok (most (runs l))
theorem most_le : ∀ (r : List (Nat × UInt8)) (k : Nat), (∀ p ∈ r, p.1 ≤ k) → most r ≤ k := by
  have key : ∀ (r : List (Nat × UInt8)) (m k : Nat), m ≤ k → (∀ p ∈ r, p.1 ≤ k) → r.foldl (fun m p => max m p.1) m ≤ k := by
    intro r
    induction r with
    | nil => intro m k h _; exact h
    | cons p r ih => intro m k h hr; exact ih _ _ (Nat.max_le.2 ⟨h, hr p (by simp)⟩) (fun q hq => hr q (by simp [hq]))
  exact fun r k h => key r 0 k (Nat.zero_le _) h
def MostI (B c : Nat) (pre : List (Nat × UInt8)) (W : World) : Prop := Boxed W B 3 (.int .i64 (most pre)) ∧ ∃ v, Boxed W c 9 v
theorem mostI_own (B c D : Nat) : OwnFrom D (MostI B c) :=
  ((boxed_own B 3 fun pre : List (Nat × UInt8) => .int .i64 (most pre)).from D).and (boxed_any_ofrom D c 9)
theorem mostI_step {B c : Nat} (hne : B ≠ c) : ∀ s A X, MostI B c s A → IterStep c A X → MostI B c s X :=
  fun s A X h st => ⟨st.boxed h.1 hne, st.there⟩
theorem Longest_bad (s : ByteArray) (w : World) (hlen : s.size ≤ 140737488351232) (h0 : wordE (ls s) ≠ 0) :
    Calls Try.prog 37 #[.string s] w fun e w' => e = .returned (.tuple #[.int .i64 0, .int .i64 (wordE (ls s))]) ∧ Below w.heap.size w w' := by
  have hcr := read_new s w hlen
  obtain ⟨k, hk⟩ : ∃ k, wordE (ls s) = k := ⟨_, rfl⟩
  rw [hk] at hcr h0 ⊢
  have hkb : (k == 0) = false := by rw [beq_eq_false_iff_ne]; exact h0
  have hkn : (k != 0) = true := by rw [bne, hkb]; rfl
  have HC := Lib.hid hcr
  clear hk hcr h0
  go_enter Try.func37, Try.ntmps37
  go_wp2_with (first | (go_at_call 39; (with_reducible refine HC.out.mono ?_); rintro e w1 ⟨rfl, hb1⟩; have HB1 := Lib.hid hb1; clear hb1))
  go_ret2
  exact ⟨rfl, HB1.out⟩
set_option maxRecDepth 100000 in
set_option maxHeartbeats 2000000 in
theorem Longest_in (s : ByteArray) (w : World) (h0 : wordE (ls s) = 0) :
    CallsIn Fence.wide 3 Try.prog 37 #[.string s] w fun e w' => e = .returned (.tuple #[.int .i64 (most (runs (ls s))), .int .i64 0]) ∧ Below w.heap.size w w' := by
  obtain ⟨hl, hd, _⟩ := wordE_zero.1 h0
  rw [length_ls] at hl
  have hcr := read_new s w (by omega)
  rw [h0] at hcr
  have HC := Lib.hid hcr
  have HD := Lib.hid hd
  clear hcr hd h0
  refine callsIn_of_wp_marks Try.func37 rfl trivial ?_ rfl
  simp only [Try.ntmps37, List.size_toArray, List.length_cons, List.length_nil, Nat.reduceAdd, Nat.reduceSub, Array.replicate_succ, Array.replicate_zero, List.push_toArray, List.append_toArray, List.nil_append, List.cons_append]
  gi_wp2_with (first | (refine ⟨trivial, ?_⟩; gi_at_call 39; (with_reducible refine (callsIn_wide.2 HC.out).mono ?_); rintro e w1 ⟨rfl, hb1⟩; have HB1 := Lib.hid hb1; clear hb1) | (refine ⟨trivial, ?_⟩; gi_at_call 48; (with_reducible refine (callsIn_wide.2 (runs_any _ _)).mono ?_); rintro e w1 ⟨rfl, rfl⟩))
  have hs1 := HB1.out.size
  have h1 : 1 ≤ 3 := by omega
  obtain ⟨w0, hw0⟩ : ∃ w0, (w1.alloc (.cells #[.int .i64 0] 3)).alloc (.cells #[.string s] 9) = w0 := ⟨_, rfl⟩
  rw [hw0]
  have hsz : w0.heap.size = w1.heap.size + 1 + 1 := by rw [← hw0]; simp
  have hc0 : Boxed w0 (w1.heap.size + 1) 9 (.string s) := by
    rw [← hw0]
    have := Boxed.new (w1.alloc (.cells #[.int .i64 0] 3)) 9 (.string s)
    simpa using this
  have hI0 : MostI w1.heap.size (w1.heap.size + 1) [] w0 := by
    refine ⟨?_, _, hc0⟩
    rw [← hw0]
    exact (Boxed.new w1 3 _).alloc _
  have hB0 : Below w.heap.size w w0 := by
    rw [← hw0]
    exact (HB1.out.alloc hs1 _).alloc (by simp; omega) _
  refine wpIn_rangeFunc_state rfl h1 (gf := 55) (lb := #[.pointer (some ⟨w1.heap.size + 1, 0, none⟩)]) rfl trivial (enters_of Try.func55 (by kernel_rfl) rfl)
    (runs1_seq 2 (w1.heap.size + 1) s w0 hc0 HD.out (by omega)) (by omega) (fun _ => rfl)
    (fun pre W => MostI w1.heap.size (w1.heap.size + 1) pre W ∧ Below w.heap.size w W) (fun _ _ _ => False)
    ((mostI_own _ _ _).and (ownFrom_below (Nat.le_refl _) (by omega))) (fun j _ _ _ _ h => h.elim)
    (fun s A B h st => ⟨mostI_step (by omega) s A B h.1 st, st.below (by omega) (Nat.le_refl _) h.2⟩) (fun j s A B h st => h.elim)
    ⟨hI0, hB0⟩
    (fun x => { tmps := #[.string s, undef, .int .i64 0, .int .i64 0, .int .i64 0, .pointer (some ⟨w1.heap.size, 0, none⟩), .int .i64 x.1, .string s, .slice (some ⟨w.heap.size, 0, none⟩) 1 1, .int .i64 0, .int .i64 0, .bool false, undef, .string s,
      .func (.func 55) #[] #[.pointer (some ⟨w1.heap.size + 1, 0, none⟩)], .int .i64 x.1, .int .u8 x.2.toNat, undef, undef, undef, undef], defers := [] }) ?assign ?body ?done ?stop
  case assign =>
    intro l x W K hK
    unfold encRun
    gi_wp2
    exact hK
  case body =>
    rintro l pre x suf W hx ⟨⟨hv, hc⟩, hB⟩
    obtain ⟨k, d⟩ := x
    dsimp only
    have hsz2 := hB.size
    have HX := Lib.hid hx
    have HB := Lib.hid hB
    have HV := Lib.hid hv
    have HC := Lib.hid hc
    have c1 := hv.cell
    have f1 := hv.frozen
    obtain ⟨m, hm⟩ : ∃ m, most pre = m := ⟨_, rfl⟩
    rw [hm] at c1
    have HM := Lib.hid hm
    clear hx hB hc hv hm
    gi_wp2
    have he : max (m : Int) (k : Int) = ((max m k : Nat) : Int) := by omega
    rw [he]
    refine ⟨KeepsOthers.setCell _ _ _, Below.heap_setCell _ _ _ _ (by simp), ⟨?_, ?_⟩, HB.out.setCell (p := ⟨w1.heap.size, 0, none⟩) (by omega) _⟩
    · rw [most_snoc, HM.out]
      exact HV.out.set _
    · obtain ⟨u, hu⟩ := HC.out
      exact ⟨u, hu.kept (grownBy_setCell' _ _ _) (by simp)⟩
  case done =>
    rintro D W hD ⟨⟨hv, hc⟩, hB⟩ hK
    have hvc := hv.cell
    gi_wp2
    refine ⟨by simp, .inl ⟨_, _, rfl, run_takeDeferred hK, ?_⟩⟩
    exact ⟨_, results_tmp2 rfl _ _ _, rfl, hB.trans (belowK_b (w := w) (Nat.le_refl _) W D _ _ (by omega) hK rfl rfl)⟩
  case stop =>
    rintro D j pre suf W hD hx h hK
    exact h.elim
theorem Longest_any (s : ByteArray) (w : World) (hlen : s.size ≤ 140737488351232) :
    Calls Try.prog 37 #[.string s] w fun e w' => e = .returned (outI (longE (ls s))) ∧ Below w.heap.size w w' := by
  by_cases h0 : wordE (ls s) = 0
  · have := callsIn_wide.1 (Longest_in s w h0)
    rwa [show outI (longE (ls s)) = .tuple #[.int .i64 (most (runs (ls s))), .int .i64 0] from by rw [longE, if_neg (by simp [h0])]; rfl]
  · have := Longest_bad s w hlen h0
    rwa [show outI (longE (ls s)) = .tuple #[.int .i64 0, .int .i64 (wordE (ls s))] from by rw [longE, if_pos h0]; rfl]
theorem ProgIs_any (s : ByteArray) (w : World) (hlen : s.size ≤ 140737488351232) :
    Calls Try.prog 35 #[.string s] w fun e w' => e = .returned (.bool (wordE (ls s) == 0)) ∧ Below w.heap.size w w' := by
  have hcr := read_new s w hlen
  obtain ⟨k, hk⟩ : ∃ k, wordE (ls s) = k := ⟨_, rfl⟩
  rw [hk] at hcr ⊢
  have HC := Lib.hid hcr
  clear hk hcr
  go_enter Try.func35, Try.ntmps35
  go_wp2_with (first | (go_at_call 39; (with_reducible refine HC.out.mono ?_); rintro e w1 ⟨rfl, hb1⟩; have HB1 := Lib.hid hb1; clear hb1))
  go_ret
  exact ⟨rfl, HB1.out⟩
end Go.Proofs.Ytodchgddkgjciaa
