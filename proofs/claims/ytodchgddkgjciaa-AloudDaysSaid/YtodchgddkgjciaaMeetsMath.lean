/- The plain law of the statement AloudMeets: two words stay apart while they do not touch. No program in sight, no condition. -/
import Derived.Test.YtodchgddkgjciaaApart
import Derived.Test.YtodchgddkgjciaaRunsMath
namespace Go.Proofs.Ytodchgddkgjciaa
theorem say_last {l s : List UInt8} (h : say l = some s) : s.getLast? = l.getLast? := by
  rw [say_runs h]
  rcases List.eq_nil_or_concat l with rfl | ⟨a, d, rfl⟩
  · rfl
  · obtain ⟨A, n, hr, _⟩ := runs_last (l := a) (d := d)
    rw [List.concat_eq_append, hr]
    have : saidOf (A ++ [(n, d)]) = (saidOf A ++ [cd n]) ++ [d] := by simp [saidOf, cd]
    rw [this]
    simp
theorem say_ne {l s : List UInt8} (h : say l = some s) (hne : l ≠ []) : s ≠ [] := by
  rintro rfl
  have := say_last h
  cases hl : l.getLast? with
  | none => exact hne (List.getLast?_eq_none_iff.1 hl)
  | some c => rw [hl] at this; cases this
theorem days_last : ∀ {n : Nat} {l s : List UInt8}, days n l = .ok s → s.getLast? = l.getLast? := by
  intro n
  induction n with
  | zero => intro l s h; simp only [days] at h; cases h; rfl
  | succ n ih =>
    intro l s h
    obtain ⟨t, h1, _, h3⟩ := days_succ h
    rw [ih h3, say_last h1]
theorem days_ne {n : Nat} {l s : List UInt8} (h : days n l = .ok s) (hne : l ≠ []) : s ≠ [] := by
  rintro rfl
  have := days_last h
  cases hl : l.getLast? with
  | none => exact hne (List.getLast?_eq_none_iff.1 hl)
  | some c => rw [hl] at this; cases this
theorem days_len : ∀ {n : Nat} {l s : List UInt8}, days n l = .ok s → l.length ≤ 100000 → s.length ≤ 100000 := by
  intro n
  induction n with
  | zero => intro l s h hl; simp only [days] at h; cases h; exact hl
  | succ n ih =>
    intro l s h hl
    obtain ⟨t, h1, h2, h3⟩ := days_succ h
    exact ih h3 h2
theorem days_before {n d : Nat} {l s : List UInt8} (h : days n l = .ok s) (hd : d ≤ n) : ∃ t, days d l = .ok t := by
  rw [show n = d + (n - d) by omega] at h
  obtain ⟨t, h1, _⟩ := days_split h
  exact ⟨t, h1⟩
/-- On no day of the first n does the last digit of one word meet the first of the other. -/
def Meets (n : Nat) (l r : List UInt8) : Prop := ∀ d, d < n → ∀ t, days d r = .ok t → t.head? ≠ l.getLast?
theorem apartL_iff : ∀ {n : Nat} {l r x y z : List UInt8}, l ≠ [] → days n l = .ok x → days n r = .ok y → days n (l ++ r) = .ok z → (apartL n l r (l ++ r) = true ↔ Meets n l r) := by
  intro n
  induction n with
  | zero => intro l r x y z _ _ _ _; simp [apartL, Meets]
  | succ n ih =>
    intro l r x y z hne hl hr hz
    obtain ⟨l1, a1, a2, a3⟩ := days_succ hl
    obtain ⟨r1, b1, b2, b3⟩ := days_succ hr
    obtain ⟨z1, c1, c2, c3⟩ := days_succ hz
    simp only [apartL, a1, b1, c1, Option.getD_some]
    by_cases ht : r.head? = l.getLast?
    · obtain ⟨c, hc⟩ : ∃ c, l.getLast? = some c := by
        cases hl : l.getLast? with
        | none => exact absurd (List.getLast?_eq_none_iff.1 hl) hne
        | some c => exact ⟨c, rfl⟩
      obtain ⟨x', y', e1, e2, e3⟩ := say_touch hc (ht.trans hc) z1 c1
      rw [a1] at e1
      rw [b1] at e2
      cases e1
      cases e2
      rw [if_neg e3]
      constructor
      · intro h; cases h
      · intro h; exact absurd ht (h 0 (by omega) r rfl)
    · have := say_apart (a := l) (b := r) (fun c hc hb => ht (by rw [hc, hb]))
      rw [a1, b1, c1] at this
      replace this : z1 = l1 ++ r1 := Option.some.inj this
      rw [if_pos this]
      subst this
      rw [ih (say_ne a1 hne) a3 b3 c3]
      constructor
      · intro h d hd t hdt
        cases d with
        | zero => simp only [days] at hdt; cases hdt; exact ht
        | succ d =>
          rw [days_step b1 b2] at hdt
          have := h d (by omega) t hdt
          rwa [say_last a1] at this
      · intro h d hd t hdt
        have := h (d + 1) (by omega) t (by rw [days_step b1 b2]; exact hdt)
        rwa [say_last a1]
theorem apartE_error {l r : List UInt8} {n : Int} {e : Int} (h : apartE l r n = .error e) : e ≠ 0 := by
  unfold apartE at h
  by_cases h1 : askedE n [l, r] ≠ 0
  · rw [if_pos h1] at h
    cases h
    exact h1
  · rw [if_neg h1] at h
    by_cases h2 : l.length + r.length > 200
    · rw [if_pos h2] at h
      cases h
      decide
    · rw [if_neg h2] at h
      split at h
      · rename_i he; cases h; rcases days_err he with rfl | rfl <;> decide
      · rename_i he; cases h; rcases days_err he with rfl | rfl <;> decide
      · rename_i he; cases h; rcases days_err he with rfl | rfl <;> decide
      · cases h
theorem apartE_yes {l r : List UInt8} {n : Nat} {b : Bool} (h : apartE l r n = .ok b) :
    wordE l = 0 ∧ wordE r = 0 ∧ n ≤ 40 ∧ l.length + r.length ≤ 200 ∧ ∃ x y z, days n l = .ok x ∧ days n r = .ok y ∧ days n (l ++ r) = .ok z ∧ b = apartL n l r (l ++ r) := by
  unfold apartE at h
  by_cases h1 : askedE n [l, r] ≠ 0
  · rw [if_pos h1] at h; cases h
  · rw [if_neg h1] at h
    by_cases h2 : l.length + r.length > 200
    · rw [if_pos h2] at h; cases h
    · rw [if_neg h2] at h
      obtain ⟨k1, k2, k3, k4⟩ := askedE_two (show askedE n [l, r] = 0 by omega)
      refine ⟨k1, k2, by omega, by omega, ?_⟩
      rw [Int.toNat_natCast] at h
      split at h
      · cases h
      · cases h
      · cases h
      · rename_i x y z e1 e2 e3
        cases h
        exact ⟨x, y, z, e1, e2, e3, rfl⟩
theorem apart_meets {l r : List UInt8} {n : Nat} {b : Bool} (h : apartE l r n = .ok b) : b = true ↔ Meets n l r := by
  obtain ⟨h1, h2, _, _, x, y, z, e1, e2, e3, rfl⟩ := apartE_yes h
  exact apartL_iff (wordE_zero.1 h1).2.2 e1 e2 e3
end Go.Proofs.Ytodchgddkgjciaa
