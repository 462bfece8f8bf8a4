/- The plain law of the statement AloudParts: what is said of two words put together. No program in sight, no condition. -/
import Derived.Test.YtodchgddkgjciaaAgesMath
namespace Go.Proofs.Ytodchgddkgjciaa
theorem good_append {A B : List (Nat × UInt8)} (hA : Good A) (hB : Good B) (h : ∀ A' n d m e B', A = A' ++ [(n, d)] → B = (m, e) :: B' → d ≠ e) : Good (A ++ B) := by
  induction A with
  | nil => exact hB
  | cons p r ih =>
    obtain ⟨n, d⟩ := p
    obtain ⟨h1, h2, h3⟩ := hA
    refine ⟨h1, ?_, ih h3 (fun A' n' d' m e B' ha hb => h ((n, d) :: A') n' d' m e B' (by rw [ha]; rfl) hb)⟩
    intro m e r' hr
    cases r with
    | nil => exact h [] n d m e r' rfl hr
    | cons q r'' =>
      injection hr with hq _
      exact h2 m e r'' (by rw [hq])
theorem head_runs {b : List UInt8} {m : Nat} {e : UInt8} {B : List (Nat × UInt8)} (h : runs b = (m, e) :: B) : b.head? = some e := by
  have := unruns_runs b
  have hg := good_runs b
  rw [h] at this hg
  rw [← this, unruns_cons]
  obtain ⟨k, rfl⟩ : ∃ k, m = k + 1 := ⟨m - 1, by have := hg.1; omega⟩
  simp [List.replicate_succ]
theorem last_runs {a : List UInt8} {n : Nat} {d : UInt8} {A : List (Nat × UInt8)} (h : runs a = A ++ [(n, d)]) : a.getLast? = some d := by
  have := unruns_runs a
  have hg : Good (A ++ [(n, d)]) := h ▸ good_runs a
  rw [h] at this
  have hn : 1 ≤ n := by
    clear this h
    induction A with
    | nil => exact hg.1
    | cons p r ih => exact ih hg.2.2
  rw [← this, unruns_append]
  obtain ⟨k, rfl⟩ : ∃ k, n = k + 1 := ⟨n - 1, by omega⟩
  have : unruns [(k + 1, d)] = List.replicate k d ++ [d] := by simp [unruns, List.replicate_succ']
  rw [this, ← List.append_assoc]
  simp
/-- Two words that do not touch: the runs of both, one behind the other. -/
theorem runs_apart {a b : List UInt8} (h : ∀ c, a.getLast? = some c → b.head? ≠ some c) : runs (a ++ b) = runs a ++ runs b := by
  have hg : Good (runs a ++ runs b) := good_append (good_runs a) (good_runs b) (fun A' n d m e B' ha hb hde => by
    refine h d (last_runs ha) ?_
    rw [head_runs hb, hde])
  have := runs_unruns hg
  rw [unruns_append, unruns_runs, unruns_runs] at this
  exact this
theorem good_front {A : List (Nat × UInt8)} {n m : Nat} {c : UInt8} {B : List (Nat × UInt8)} (h : Good (A ++ [(n, c)])) (hm : 1 ≤ m) (k : Good ((1, c) :: B)) : Good (A ++ (m, c) :: B) := by
  have : Good ((A ++ [(m, c)]) ++ B) := good_append (good_snoc h hm) k.2.2 (fun A' n' d m' e B' ha hb hde => by
    have := congrArg List.getLast? ha
    simp at this
    exact k.2.1 m' e B' hb (by rw [this.2]; exact hde))
  simpa using this
/-- Two words that touch: one run fewer. -/
theorem runs_touch {a b : List UInt8} {c : UInt8} (ha : a.getLast? = some c) (hb : b.head? = some c) :
    ∃ A n m B, runs a = A ++ [(n, c)] ∧ runs b = (m, c) :: B ∧ runs (a ++ b) = A ++ (n + m, c) :: B := by
  obtain ⟨a', rfl⟩ : ∃ a', a = a' ++ [c] := by
    refine ⟨a.dropLast, ?_⟩
    have hne : a ≠ [] := by rintro rfl; simp at ha
    have := List.dropLast_concat_getLast hne
    rw [List.getLast?_eq_some_getLast hne] at ha
    injection ha with ha
    rw [ha] at this
    exact this.symm
  obtain ⟨b', rfl⟩ : ∃ b', b = c :: b' := by
    cases b with
    | nil => simp at hb
    | cons d b' => simp at hb; exact ⟨b', by rw [hb]⟩
  obtain ⟨A, n, hA, hn⟩ := runs_last (l := a') (d := c)
  obtain ⟨m, B, hB, hm⟩ := runs_head (c := c) (l := b')
  refine ⟨A, n, m, B, hA, hB, ?_⟩
  have g1 : Good (A ++ [(n, c)]) := hA ▸ good_runs _
  have g2 : Good ((m, c) :: B) := hB ▸ good_runs _
  have hg : Good (A ++ (n + m, c) :: B) := good_front g1 (by omega) ⟨Nat.le_refl _, g2.2.1, g2.2.2⟩
  have := runs_unruns hg
  rw [unruns_append, unruns_cons] at this
  have e1 := unruns_runs (a' ++ [c])
  have e2 := unruns_runs (c :: b')
  rw [hA, unruns_append, unruns_cons] at e1
  rw [hB, unruns_cons] at e2
  rw [← e1, ← e2, ← this]
  congr 1
  simp only [unruns, List.flatMap_nil, List.append_nil, ← List.append_assoc]
  rw [List.append_assoc (List.flatMap _ A), List.replicate_append_replicate]
def both : Option (List UInt8) → Option (List UInt8) → Option (List UInt8)
  | some x, some y => some (x ++ y)
  | _, _ => none
theorem both_none (x : Option (List UInt8)) : both x none = none := by cases x <;> rfl
/-- What is said of both, where they do not touch. -/
theorem say_apart {a b : List UInt8} (h : ∀ c, a.getLast? = some c → b.head? ≠ some c) : say (a ++ b) = both (say a) (say b) := by
  simp only [say, runs_apart h, List.all_append]
  cases h1 : (runs a).all fun p => decide (p.1 ≤ 9) with
  | false => simp [both]
  | true => cases h2 : (runs b).all fun p => decide (p.1 ≤ 9) with
    | false => simp [both]
    | true => simp [saidOf, both]
/-- Where they touch: too long a run, or two digits fewer. -/
theorem say_touch {a b : List UInt8} {c : UInt8} (ha : a.getLast? = some c) (hb : b.head? = some c) :
    (∀ z, say (a ++ b) = some z → ∃ x y, say a = some x ∧ say b = some y ∧ z ≠ x ++ y) := by
  obtain ⟨A, n, m, B, h1, h2, h3⟩ := runs_touch ha hb
  intro z hz
  simp only [say, h1, h2, h3, List.all_append, List.all_cons, List.all_nil, Bool.and_true] at hz ⊢
  split at hz
  · rename_i hc
    injection hz with hz
    simp only [Bool.and_eq_true, decide_eq_true_eq] at hc
    obtain ⟨c1, c2, c3⟩ := hc
    refine ⟨_, _, if_pos ?_, if_pos ?_, ?_⟩
    · simp only [c1, Bool.true_and, decide_eq_true_eq]; omega
    · simp only [c3, Bool.and_true, decide_eq_true_eq]; omega
    · intro he
      have := congrArg List.length (hz.trans he)
      simp [saidOf_len] at this
      omega
  · cases hz
end Go.Proofs.Ytodchgddkgjciaa
