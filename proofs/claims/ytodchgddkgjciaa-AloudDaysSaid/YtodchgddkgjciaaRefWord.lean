/- What Word, IsWord and runs of the reference answer. Conditions: lengths within the form's reach. -/
import Derived.Test.YtodchgddkgjciaaAlive
namespace Go.Proofs.Ytodchgddkgjciaa
set_option linter.unusedVariables false
set_option linter.unusedSimpArgs false
open Go Go.RowKit
set_option maxHeartbeats 1000000 in
theorem IsWord_any (s : ByteArray) (w : World) (hlen : s.size ≤ 140737488351232) :
    Calls Try.prog 47 #[.string s] w fun e w' => e = .returned (.bool ((ls s).all isDig && decide (1 ≤ s.size))) ∧ w = w' := by
  go_enter Try.func47, Try.ntmps47
  go_wp2
  go_loop [3] (fun v3 => ∃ i : Nat, v3 = .int .i64 i ∧ i ≤ s.size ∧ Hid (∀ j (h : j < s.size), j < i → isDig (s[j]'h) = true)) (fun v3 => s.size - (intOf v3).toNat)
  case atStart => exact ⟨0, rfl, Nat.zero_le _, fun j _ h => absurd h (by omega)⟩
  case round =>
    obtain ⟨i, rfl, hi, HALL⟩ := hrel
    by_cases hlt : i < s.size
    · obtain ⟨x, hx⟩ : ∃ x, (s[i]'hlt) = x := ⟨_, rfl⟩
      have HX := Lib.hid hx
      by_cases hd : isDig x = true
      · have hdd := isDig_iff.1 hd
        have HD := Lib.hid hd
        clear hd
        go_wp2
        go_round
        case rel =>
          refine ⟨i + 1, by go_num, by omega, fun j hj hji => ?_⟩
          by_cases e : j = i
          · subst e; rw [HX.out]; exact HD.out
          · exact HALL.out j hj (by omega)
        case measure => simp [intOf]; omega
      · have hdd : x.toNat < 49 ∨ 57 < x.toNat := by
          have : ¬ (49 ≤ x.toNat ∧ x.toNat ≤ 57) := fun h => hd (isDig_iff.2 h)
          omega
        have HD := Lib.hid hd
        clear hd
        have hres : Hid (((ls s).all isDig && decide (1 ≤ s.size)) = false) := by
          unfold Hid
          have : (ls s).all isDig = false := by
            rw [Bool.eq_false_iff]
            intro h
            have := List.all_eq_true.1 h _ (mem_ls s i hlt)
            rw [HX.out] at this
            exact HD.out this
          rw [this]; rfl
        rcases hdd with h | h
        all_goals
          go_wp2
          go_ret
          exact ⟨by rw [hres.out]; rfl, rfl⟩
    · go_wp2
      go_ret
      refine ⟨?_, rfl⟩
      have : (ls s).all isDig = true := by
        rw [List.all_eq_true]
        intro c hc
        obtain ⟨j, hj, rfl⟩ := List.getElem_of_mem hc
        rw [length_ls] at hj
        exact HALL.out j hj (by omega)
      rw [this]
      simp
      omega
theorem wordE_bool (s : ByteArray) (h : ¬ 200 < s.size) : wordE (ls s) = if ((ls s).all isDig && decide (1 ≤ s.size)) = true then 0 else 5 := by
  unfold wordE
  rw [length_ls, if_neg (by omega)]
  have : (!(ls s).isEmpty) = decide (1 ≤ s.size) := by
    rw [← length_ls]
    cases ls s <;> simp
  rw [this]
set_option maxHeartbeats 1000000 in
theorem Word_any (s : ByteArray) (w : World) (hlen : s.size ≤ 140737488351232) :
    Calls Try.prog 26 #[.string s] w fun e w' => e = .returned (.int .i64 (wordE (ls s))) ∧ w = w' := by
  by_cases h : 200 < s.size
  · go_enter Try.func26, Try.ntmps26
    go_wp2
    go_ret
    exact ⟨by rw [wordE_long h]; rfl, rfl⟩
  · have hI := IsWord_any s w hlen
    have HW := Lib.hid (wordE_bool s h)
    obtain ⟨b, hb⟩ : ∃ b, ((ls s).all isDig && decide (1 ≤ s.size)) = b := ⟨_, rfl⟩
    rw [hb] at hI
    have HB := Lib.hid hb
    have HI := Lib.hid hI
    clear hb hI
    cases b with
    | true =>
      go_enter Try.func26, Try.ntmps26
      go_wp2_with (first | (go_at_call 47; (with_reducible refine HI.out.mono ?_); rintro e w1 ⟨rfl, rfl⟩))
      go_ret
      exact ⟨by rw [HW.out, HB.out]; rfl, rfl⟩
    | false =>
      go_enter Try.func26, Try.ntmps26
      go_wp2_with (first | (go_at_call 47; (with_reducible refine HI.out.mono ?_); rintro e w1 ⟨rfl, rfl⟩))
      go_ret
      exact ⟨by rw [HW.out, HB.out]; rfl, rfl⟩
end Go.Proofs.Ytodchgddkgjciaa
