/- The plain law of the statement AloudAdded: words that stay apart are counted each for itself. No program in sight, no condition. -/
import Derived.Test.YtodchgddkgjciaaMeetsMath
namespace Go.Proofs.Ytodchgddkgjciaa
/-- How many digits 1 + i. -/
def cntN (l : List UInt8) (i : Nat) : Nat := l.count (UInt8.ofNat (49 + i))
theorem cntN_append (a b : List UInt8) (i : Nat) : cntN (a ++ b) i = cntN a i + cntN b i := by simp [cntN, List.count_append]
theorem cntN_le (a : List UInt8) (i : Nat) : cntN a i ≤ a.length := List.count_le_length
theorem apart_sum : ∀ {n : Nat} {l r x y z : List UInt8}, apartL n l r (l ++ r) = true → days n l = .ok x → days n r = .ok y → days n (l ++ r) = .ok z → z = x ++ y := by
  intro n
  induction n with
  | zero => intro l r x y z _ h1 h2 h3; simp only [days] at h1 h2 h3; cases h1; cases h2; cases h3; rfl
  | succ n ih =>
    intro l r x y z h hl hr hz
    obtain ⟨l1, a1, a2, a3⟩ := days_succ hl
    obtain ⟨r1, b1, b2, b3⟩ := days_succ hr
    obtain ⟨z1, c1, c2, c3⟩ := days_succ hz
    simp only [apartL, a1, b1, c1, Option.getD_some] at h
    split at h
    · rename_i he
      subst he
      exact ih h a3 b3 c3
    · cases h
theorem meets_less {n m : Nat} {l r : List UInt8} (h : Meets n l r) (hm : m ≤ n) : Meets m l r := fun d hd => h d (by omega)
theorem apart_less {n m : Nat} {l r : List UInt8} (h : apartE l r n = .ok true) (hm : m ≤ n) : apartE l r m = .ok true := by
  have hM := (apart_meets h).1 rfl
  obtain ⟨h1, h2, h3, h4, x, y, z, e1, e2, e3, -⟩ := apartE_yes h
  obtain ⟨x', f1⟩ := days_before e1 hm
  obtain ⟨y', f2⟩ := days_before e2 hm
  obtain ⟨z', f3⟩ := days_before e3 hm
  have hk : askedE m [l, r] = 0 := by
    have : readE [l, r] = 0 := by simp [readE, h1, h2]
    rw [askedE, if_neg (by omega), this]
  have hE : apartE l r m = .ok (apartL m l r (l ++ r)) := by
    rw [apartE, if_neg (by simp [hk]), if_neg (by omega), Int.toNat_natCast, f1, f2, f3]
  rw [hE, (apartL_iff (wordE_zero.1 h1).2.2 f1 f2 f3).2 (meets_less hM hm)]
theorem both_word {l r : List UInt8} (h1 : wordE l = 0) (h2 : wordE r = 0) (h : l.length + r.length ≤ 200) : wordE (l ++ r) = 0 := by
  obtain ⟨a1, a2, a3⟩ := wordE_zero.1 h1
  obtain ⟨b1, b2, b3⟩ := wordE_zero.1 h2
  exact wordE_zero.2 ⟨by rw [List.length_append]; omega, Digs.append.2 ⟨a2, b2⟩, by simp [a3]⟩
end Go.Proofs.Ytodchgddkgjciaa
