/- What few, the guard of the statements, answers, and small facts on the errors of days. Conditions: lengths within the form's reach. -/
import Derived.Test.YtodchgddkgjciaaRefWord
namespace Go.Proofs.Ytodchgddkgjciaa
set_option linter.unusedVariables false
set_option linter.unusedSimpArgs false
open Go Go.RowKit
set_option maxHeartbeats 1000000 in
theorem few_any (s t : ByteArray) (w : World) (h1 : s.size ≤ 140737488351232) (h2 : t.size ≤ 140737488351232) :
    Calls Try.prog 16 #[.string s, .string t] w fun e w' => e = .returned (.bool (decide ((s.size : Int) ≤ 1000) && decide ((t.size : Int) ≤ 1000))) ∧ w = w' := by
  by_cases h : (s.size : Int) ≤ 1000
  · go_enter Try.func16, Try.ntmps16
    go_wp2
    go_ret
    exact ⟨by rw [decide_eq_true h]; rfl, rfl⟩
  · go_enter Try.func16, Try.ntmps16
    go_wp2
    go_ret
    exact ⟨by rw [decide_eq_false (show ¬ (s.size : Int) ≤ 1000 by omega)]; rfl, rfl⟩
/-- Short enough, in a statement about one word. -/
theorem few_one (s : ByteArray) (b : Bool) (w : World) (h1 : s.size ≤ 140737488351232) (hb : decide (s.size ≤ 1000) = b) :
    Calls Try.prog 16 #[.string s, .string ⟨#[]⟩] w fun e w' => e = .returned (.bool b) ∧ w = w' := by
  have := few_any s ⟨#[]⟩ w h1 (by decide)
  rwa [show decide (((⟨#[]⟩ : ByteArray).size : Int) ≤ 1000) = true from by decide, Bool.and_true, show decide ((s.size : Int) ≤ 1000) = decide (s.size ≤ 1000) from decide_eq_decide.2 (by omega), hb] at this
theorem few_two (s t : ByteArray) (b : Bool) (w : World) (h1 : s.size ≤ 140737488351232) (h2 : t.size ≤ 140737488351232) (hb : decide (s.size ≤ 1000 ∧ t.size ≤ 1000) = b) :
    Calls Try.prog 16 #[.string s, .string t] w fun e w' => e = .returned (.bool b) ∧ w = w' := by
  have := few_any s t w h1 h2
  rwa [show (decide ((s.size : Int) ≤ 1000) && decide ((t.size : Int) ≤ 1000)) = decide (s.size ≤ 1000 ∧ t.size ≤ 1000) from by rw [← Bool.decide_and]; exact decide_eq_decide.2 (by omega), hb] at this
theorem Word_of (s : ByteArray) (k : Int) (w : World) (h1 : s.size ≤ 140737488351232) (hb : wordE (ls s) = k) :
    Calls Try.prog 26 #[.string s] w fun e w' => e = .returned (.int .i64 k) ∧ w = w' := hb ▸ Word_any s w h1
theorem daysE_eq {n : Nat} {l : List UInt8} (h : wordE l = 0) (hn : n ≤ 40) : daysE n l = days n l := by
  have : askedE n [l] = 0 := by
    have h1 : readE [l] = 0 := by simp [readE, h]
    rw [askedE, if_neg (by omega), h1]
  rw [daysE, if_neg (by simp [this]), Int.toNat_natCast]
theorem days_22 (n : Nat) : days n [50, 50] = .ok [50, 50] := by
  induction n with
  | zero => rfl
  | succ n ih => rw [days_step say_22 (by decide), ih]
end Go.Proofs.Ytodchgddkgjciaa
