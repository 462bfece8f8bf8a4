/- The plain law of the statement AloudRuns: the runs of what is said. No program in sight, no condition. -/
import Derived.Test.YtodchgddkgjciaaPartsMath
namespace Go.Proofs.Ytodchgddkgjciaa
/-- Neighbours among the odd places differ. -/
def NoRep (l : List UInt8) : Prop := ∀ i, i % 2 = 1 → ∀ x, l[i]? = some x → l[i + 2]? ≠ some x
theorem norep_said : ∀ (r : List (Nat × UInt8)), Good r → NoRep (saidOf r) := by
  intro r
  induction r with
  | nil => intro _ i hi x hx; simp [saidOf] at hx
  | cons p r ih =>
    obtain ⟨n, d⟩ := p
    intro hg i hi x hx hy
    rw [saidOf_cons] at hx hy
    obtain ⟨k, rfl⟩ : ∃ k, i = k + 1 := ⟨i - 1, by omega⟩
    cases k with
    | zero =>
      simp at hx hy
      cases r with
      | nil => simp [saidOf] at hy
      | cons q r =>
        obtain ⟨m, e⟩ := q
        rw [saidOf_cons] at hy
        simp at hy
        exact hg.2.1 m e r rfl (by rw [hx, hy])
    | succ k =>
      have h1 : (saidOf r)[k]? = some x := by simpa using hx
      have h2 : (saidOf r)[k + 2]? = some x := by simpa using hy
      exact ih hg.2.2 k (by omega) x h1 h2
/-- The last r places ahead of place i bear one digit. -/
def Trail (l : List UInt8) (i r : Nat) : Prop := r ≤ i ∧ ∀ j, i ≤ j + r → j < i → l[j]? = l[i - 1]?
theorem trail_one {l : List UInt8} {i : Nat} : Trail l (i + 1) 1 := ⟨by omega, fun j h1 h2 => by rw [show j = i by omega]; rfl⟩
theorem trail_more {l : List UInt8} {i r : Nat} (h : Trail l i r) (e : l[i]? = l[i - 1]?) : Trail l (i + 1) (r + 1) := by
  refine ⟨by have := h.1; omega, fun j h1 h2 => ?_⟩
  rw [show i + 1 - 1 = i by omega]
  by_cases hj : j = i
  · rw [hj]
  · rw [h.2 j (by omega) (by omega), e]
theorem trail_le {l : List UInt8} {i r : Nat} (h : Trail l i r) (hn : NoRep l) (hi : i ≤ l.length) : r ≤ 3 := by
  by_cases h4 : r ≤ 3
  · exact h4
  · exfalso
    obtain ⟨k, hk, h1, h2⟩ : ∃ k, k % 2 = 1 ∧ i ≤ k + r ∧ k + 2 < i := by
      have := h.1
      by_cases hp : (i - 4) % 2 = 1
      · exact ⟨i - 4, hp, by omega, by omega⟩
      · exact ⟨i - 3, by omega, by omega, by omega⟩
    have e1 := h.2 k h1 (by omega)
    have e2 := h.2 (k + 2) (by omega) h2
    refine hn k hk (l[k]'(by omega)) (List.getElem?_eq_getElem _) ?_
    rw [e2, ← e1, List.getElem?_eq_getElem]
theorem runs_three {l : List UInt8} (hn : NoRep l) {p : Nat × UInt8} (hp : p ∈ runs l) : p.1 ≤ 3 := by
  obtain ⟨n, d⟩ := p
  obtain ⟨A, B, hr⟩ := List.append_of_mem hp
  have hl := unruns_runs l
  rw [hr, unruns_append, unruns_cons] at hl
  have ht : Trail l ((unruns A).length + n) n := by
    refine ⟨by omega, fun j h1 h2 => ?_⟩
    have at_ : ∀ j, (unruns A).length ≤ j → j < (unruns A).length + n → l[j]? = some d := by
      intro j h1 h2
      rw [← hl, List.getElem?_append_right h1, List.getElem?_append_left (by simp; omega), List.getElem?_replicate, if_pos (by omega)]
    rw [at_ j (by omega) h2, at_ _ (by omega) (by omega)]
  exact trail_le ht hn (by rw [← hl]; simp)
theorem said_even : ∀ (r : List (Nat × UInt8)) (i : Nat) (x : UInt8), i % 2 = 0 → (saidOf r)[i]? = some x → ∃ p ∈ r, x = cd p.1 := by
  intro r
  induction r with
  | nil => intro i x _ hx; simp [saidOf] at hx
  | cons p r ih =>
    intro i x hi hx
    rw [saidOf_cons] at hx
    match i with
    | 0 => simp at hx; exact ⟨p, by simp, hx.symm⟩
    | 1 => simp at hi
    | k + 2 =>
      obtain ⟨q, hq, e⟩ := ih k x (by omega) (by simpa using hx)
      exact ⟨q, by simp [hq], e⟩
/-- What is said twice: there, and its odd places bear 1, 2 or 3. -/
theorem said_twice {l s : List UInt8} (h0 : wordE l = 0) (h : say l = some s) : NoRep s ∧ ∃ t, days 2 l = .ok t ∧ t.length ≤ 100000 ∧ ∀ i x, i % 2 = 0 → t[i]? = some x → 49 ≤ x.toNat ∧ x.toNat ≤ 51 := by
  obtain ⟨h1, h2, _⟩ := wordE_zero.1 h0
  have hs := say_runs h
  have hn : NoRep s := by rw [hs]; exact norep_said _ (good_runs l)
  obtain ⟨hd, hl⟩ := say_digs h2 h
  have hl2 := length_runs_le l
  have hl3 := length_runs_le s
  have ht : say s = some (saidOf (runs s)) := by
    rw [say, if_pos]
    rw [List.all_eq_true]
    intro p hp
    have := runs_three hn hp
    simp; omega
  have hlt := (say_digs hd ht).2
  refine ⟨hn, saidOf (runs s), ?_, by omega, ?_⟩
  · rw [days_step h (by omega), days_step ht (by omega)]
    rfl
  · intro i x hi hx
    obtain ⟨p, hp, rfl⟩ := said_even _ i x hi hx
    have a := runs_three hn hp
    have b := (runs_mem hp).2.1
    rw [cd_toNat (by omega)]
    omega
end Go.Proofs.Ytodchgddkgjciaa
