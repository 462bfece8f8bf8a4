/- The plain law of the statement AloudAges: how the ages of a word, of the word before it and of what is said of it hang together. No program in sight, no condition. -/
import Derived.Test.YtodchgddkgjciaaMath
namespace Go.Proofs.Ytodchgddkgjciaa
theorem sayE_some {l s : List UInt8} (h : wordE l = 0) (k : say l = some s) : sayE l = .ok s := by simp [sayE, h, k]
theorem sayE_none {l : List UInt8} (h : wordE l = 0) (k : say l = none) : sayE l = .error 4 := by simp [sayE, h, k]
theorem beforeE_some {l s : List UInt8} (h : wordE l = 0) (k : before l = some s) : beforeE l = .ok s := by simp [beforeE, h, k]
theorem beforeE_none {l : List UInt8} (h : wordE l = 0) (k : before l = none) : beforeE l = .error 10 := by simp [beforeE, h, k]
theorem say_word {l s : List UInt8} (h : wordE l = 0) (k : say l = some s) (hs : s.length ≤ 200) : wordE s = 0 := by
  obtain ⟨h1, h2, h3⟩ := wordE_zero.1 h
  obtain ⟨a, b⟩ := say_digs h2 k
  refine wordE_zero.2 ⟨hs, a, ?_⟩
  rintro rfl
  have := runs_ne h3
  cases hr : runs l with
  | nil => exact this hr
  | cons p r => rw [hr] at b; simp at b
theorem before_word {l s : List UInt8} (h : wordE l = 0) (k : before l = some s) (hs : s.length ≤ 200) : wordE s = 0 := by
  obtain ⟨h1, h2, h3⟩ := wordE_zero.1 h
  exact wordE_zero.2 ⟨hs, (before_digs h2 k).1, before_ne h2 k h3⟩
theorem ages_none {l : List UInt8} {n : Nat} (ha : Ages l n) (k : before l = none) : n = 0 := ha.det (.zero k)
theorem ages_some {l b : List UInt8} {n : Nat} (ha : Ages l n) (k : before l = some b) : ∃ j, n = j + 1 ∧ Ages b j := by
  cases ha with
  | zero h => rw [h] at k; cases k
  | succ h h' => rw [h] at k; cases k; exact ⟨_, rfl, h'⟩
theorem age_before {l b : List UInt8} {j : Nat} (h : wordE l = 0) (h22 : l ≠ [50, 50]) (ha : Ages b j) (k : before l = some b) (hb : b.length ≤ 200) : ageE b = .ok j := by
  have h2 := (wordE_zero.1 h).2.1
  obtain ⟨m, hm, _, he⟩ := ageE_ok (before_word h k hb) (by
    rintro rfl
    have := say_before h2 k
    rw [say_22] at this
    exact h22 (Option.some.inj this).symm)
  rw [he, hm.det ha]
theorem age_say {l s : List UInt8} {n : Nat} (h : wordE l = 0) (h22 : l ≠ [50, 50]) (ha : Ages l n) (k : say l = some s) (hs : s.length ≤ 200) : ageE s = .ok ((n : Int) + 1) := by
  have h2 := (wordE_zero.1 h).2.1
  have hb := before_say h2 k
  obtain ⟨m, hm, _, he⟩ := ageE_ok (say_word h k hs) (by
    rintro rfl
    rw [show before [50, 50] = some [50, 50] from by decide] at hb
    exact h22 (Option.some.inj hb).symm)
  rw [he, hm.det (.succ hb ha)]
  rfl
end Go.Proofs.Ytodchgddkgjciaa
