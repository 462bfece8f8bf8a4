/- What the walks of this seat import, and small facts on worlds. No condition. -/
import Derived.Test.YtodchgddkgjciaaShelf
import Derived.Test.YtodchgddkgjciaaSpec
import Derived.Test.YtodchgddkgjciaaRange
import Derived.Below
import Derived.Deep.Draws
import Derived.Maps.AppendAt
import Derived.OwnWalk
import Derived.Laws.BytesArg
import Derived.Laws.MakeOwn
import Derived.Laws.OwnMore
import Derived.Deep.OwnRows
import Derived.Tactics
import Derived.Lib.ConvBytes
import Derived.Lib.Hide
import Derived.Laws.Slices
import Derived.WalkKit
import Derived.KernelRfl
import Derived.RowKit3
import Derived.Deep.LoopGhost
import Derived.Deep.QuietTactic
import Derived.BigQuiet
import Derived.BigCall
import Derived.WideLaws
import Derived.Deep.DeepCutAuto
import Derived.Deep.CutBlock
import Derived.Deep.DeepFit
import Derived.Deep.RegionHeld3
import Derived.Outline
import Derived.Laws.Rows
import Derived.Lib.AppendStr
import Derived.OrdersHeld
import Derived.WalkLawsBesides
import Derived.WalkSpells
namespace Go.Proofs.Ytodchgddkgjciaa
set_option linter.unusedVariables false
set_option linter.unusedSimpArgs false
open Go Go.RowKit
/-- A fact kept from the walk. -/
theorem decode_at (s : ByteArray) (i : Nat) (h : i < s.size) : ((s[i]'h).toNat < 128 → Utf8.decode s i = ((s[i]'h).toNat, 1)) ∧ (¬ (s[i]'h).toNat < 128 → 57 < (Utf8.decode s i).1) := by
  refine ⟨fun ha => decode_ascii s i h ha, fun ha => ?_⟩
  have := decode_high s i h (by omega)
  omega
theorem toList_ls (s : ByteArray) : s.toList = ls s := ByteArray.toList_eq s
theorem isEmpty_of_pos {s : ByteArray} (h : s.size ≠ 0) : s.toList.isEmpty = false := by
  rw [toList_ls]
  have := length_ls s
  cases h' : ls s with
  | nil => rw [h'] at this; simp at this; omega
  | cons a l => rfl
theorem isEmpty_of_zero {s : ByteArray} (h : s.size = 0) : s.toList.isEmpty = true := by
  rw [toList_ls]
  have := length_ls s
  cases h' : ls s with
  | nil => rfl
  | cons a l => rw [h'] at this; simp at this; omega
theorem decode_dig {s : ByteArray} {i : Nat} (h : i < s.size) (hd : isDig (s[i]'h) = true) : Utf8.decode s i = ((s[i]'h).toNat, 1) :=
  (decode_at s i h).1 (by have := isDig_iff.1 hd; omega)
theorem decode_not {s : ByteArray} {i : Nat} (h : i < s.size) (hd : isDig (s[i]'h) = false) : (Utf8.decode s i).1 < 49 ∨ 57 < (Utf8.decode s i).1 := by
  by_cases ha : (s[i]'h).toNat < 128
  · rw [(decode_at s i h).1 ha]
    simp only
    have h2 : ¬ (49 ≤ (s[i]'h).toNat ∧ (s[i]'h).toNat ≤ 57) := fun h' => by rw [isDig_iff.2 h'] at hd; cases hd
    omega
  · exact .inr ((decode_at s i h).2 ha)
theorem readE_step {ss : List ByteArray} {k : Nat} (h : k < ss.length) : readE ((ss.drop k).map ls) = if wordE (ls ss[k]) = 0 then readE ((ss.drop (k + 1)).map ls) else wordE (ls ss[k]) := by
  rw [List.drop_eq_getElem_cons h]
  rfl
theorem wordE_long {s : ByteArray} (h : 200 < s.size) : wordE (ls s) = 3 := by
  unfold wordE
  rw [length_ls, if_pos (by omega)]
theorem wordE_none {s : ByteArray} (h : s.size = 0) : wordE (ls s) = 5 := by
  have h2 := length_ls s
  have h3 : ls s = [] := List.length_eq_zero_iff.1 (by omega)
  rw [h3]; rfl
theorem wordE_bad {s : ByteArray} (h : ¬ 200 < s.size) {i : Nat} (hi : i < s.size) (hd : isDig (s[i]'hi) = false) : wordE (ls s) = 5 := by
  unfold wordE
  rw [length_ls, if_neg (by omega)]
  have h2 : (ls s).all isDig = false := by
    rw [Bool.eq_false_iff]
    intro h3
    have h4 := List.all_eq_true.1 h3 _ (List.getElem_mem (by rw [length_ls]; exact hi) : (ls s)[i]'(by rw [length_ls]; exact hi) ∈ ls s)
    rw [get_ls s i hi, hd] at h4
    cases h4
  rw [h2]; rfl
theorem wordE_good {s : ByteArray} (h : ¬ 200 < s.size) (h0 : s.size ≠ 0) (hd : ∀ i (hi : i < s.size), isDig (s[i]'hi) = true) : wordE (ls s) = 0 := by
  refine wordE_zero.2 ⟨by rw [length_ls]; omega, all_dig.1 ?_, fun h2 => ?_⟩
  · rw [List.all_eq_true]
    intro c hc
    obtain ⟨i, hi, rfl⟩ := List.getElem_of_mem hc
    rw [length_ls] at hi
    exact hd i hi
  · have := length_ls s
    rw [h2] at this; simp at this; omega
end Go.Proofs.Ytodchgddkgjciaa
