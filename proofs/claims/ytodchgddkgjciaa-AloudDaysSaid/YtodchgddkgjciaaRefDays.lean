/- What Days and Apart of the reference answer. Conditions: lengths within the reach of the form. -/
import Derived.Test.YtodchgddkgjciaaRefAll
namespace Go.Proofs.Ytodchgddkgjciaa
set_option linter.unusedVariables false
set_option linter.unusedSimpArgs false
open Go Go.RowKit
theorem All_err (s : ByteArray) (n : Nat) (c : Int) (w : World) (h0 : wordE (ls s) = 0) (hn : n ≤ 40) (hc : days n (ls s) = .error c) :
    Calls Try.prog 46 #[.string s, .int .i64 n] w fun e w' => e = .returned (.tuple #[.slice none 0 0, .int .i64 c]) ∧ Below w.heap.size w w' := by
  refine (All_walk s n w h0 hn).mono ?_
  rintro e w' ⟨h, hb⟩
  refine ⟨?_, hb⟩
  rcases h with ⟨c', h1, h2⟩ | ⟨R, g, cap, h1, h2, h3, _⟩
  · rw [hc] at h1; cases h1; exact h2
  · have := h2 n (R[n]'(by omega)) (List.getElem?_eq_getElem _)
    rw [hc] at this
    cases this
theorem All_ok (s : ByteArray) (n : Nat) (r : List UInt8) (w : World) (h0 : wordE (ls s) = 0) (hn : n ≤ 40) (hc : days n (ls s) = .ok r) :
    Calls Try.prog 46 #[.string s, .int .i64 n] w fun e w' => (∃ R g cap, R.length = n + 1 ∧ DayRow (ls s) R ∧ e = .returned (.tuple #[.slice (some ⟨g, 0, none⟩) (n + 1) cap, .int .i64 0]) ∧
      w'.ownsRow w.heap.size 9 1 (.slice (some ⟨g, 0, none⟩) (n + 1) cap) (n + 1) (strs R)) ∧ Below w.heap.size w w' := by
  refine (All_walk s n w h0 hn).mono ?_
  rintro e w' ⟨h, hb⟩
  refine ⟨?_, hb⟩
  rcases h with ⟨c', h1, h2⟩ | h
  · rw [hc] at h1; cases h1
  · exact h
theorem askedE_one {many : Int} {a : List UInt8} (h : wordE a = 0) : askedE many [a] = if many < 0 ∨ 40 < many then 2 else 0 := by
  simp [askedE, readE, h]
set_option maxHeartbeats 1000000 in
theorem All_bad (s : ByteArray) (many : Int) (w : World) (hlen : s.size ≤ 140737488351232) (h : askedE many [ls s] ≠ 0) :
    Calls Try.prog 46 #[.string s, .int .i64 many] w fun e w' => e = .returned (.tuple #[.slice none 0 0, .int .i64 (askedE many [ls s])]) ∧ Below w.heap.size w w' := by
  obtain ⟨k, hk⟩ : ∃ k, wordE (ls s) = k := ⟨_, rfl⟩
  have HW := Lib.hid (fun W => Word_of s k W hlen hk)
  by_cases h0 : k = 0
  · subst h0
    rw [askedE_one hk] at h
    have HE := Lib.hid (askedE_one (many := many) hk)
    by_cases ha : many < 0
    · have d1 : decide (many < 0) = true := decide_eq_true ha
      have HA := Lib.hid ha
      clear hk h ha
      go_enter Try.func46, Try.ntmps46
      go_wp2_with (first | (go_at_call 26; (with_reducible refine (HW.out _).mono ?_); rintro e w1 ⟨rfl, rfl⟩))
      go_ret2
      exact ⟨by rw [HE.out, if_pos (.inl HA.out)]; rfl, Below.refl _ _⟩
    · have d1 : decide (many < 0) = false := decide_eq_false ha
      have hb : 40 < many := by
        by_cases hb : 40 < many
        · exact hb
        · rw [if_neg (by omega)] at h; exact absurd rfl h
      have d2 : decide (40 < many) = true := decide_eq_true hb
      have HA := Lib.hid ha
      have HB := Lib.hid hb
      clear hk h ha hb
      go_enter Try.func46, Try.ntmps46
      go_wp2_with (first | (go_at_call 26; (with_reducible refine (HW.out _).mono ?_); rintro e w1 ⟨rfl, rfl⟩))
      go_ret2
      exact ⟨by rw [HE.out, if_pos (.inr HB.out)]; rfl, Below.refl _ _⟩
  · have hkb : (k == 0) = false := by rw [beq_eq_false_iff_ne]; exact h0
    have hkn : (k != 0) = true := by rw [bne, hkb]; rfl
    have HE := Lib.hid (show askedE many [ls s] = k by simp [askedE, readE, hk, h0])
    clear hk h h0
    go_enter Try.func46, Try.ntmps46
    go_wp2_with (first | (go_at_call 26; (with_reducible refine (HW.out _).mono ?_); rintro e w1 ⟨rfl, rfl⟩))
    go_ret2
    exact ⟨by rw [HE.out]; rfl, Below.refl _ _⟩
theorem All_error (s : ByteArray) (many : Int) (c : Int) (w : World) (hlen : s.size ≤ 140737488351232) (h : daysE many (ls s) = .error c) :
    Calls Try.prog 46 #[.string s, .int .i64 many] w fun e w' => e = .returned (.tuple #[.slice none 0 0, .int .i64 c]) ∧ Below w.heap.size w w' := by
  by_cases ha : askedE many [ls s] = 0
  · obtain ⟨h2, h3, h4⟩ := daysE_ok ha
    obtain ⟨n, rfl⟩ : ∃ n : Nat, many = n := ⟨many.toNat, by omega⟩
    rw [daysE_eq h2 (by omega)] at h
    exact All_err s n c w h2 (by omega) h
  · have hb := All_bad s many w hlen ha
    rw [daysE, if_pos ha] at h
    cases h
    exact hb
set_option maxHeartbeats 1000000 in
theorem RefDays_any (s : ByteArray) (many : Int) (w : World) (hlen : s.size ≤ 140737488351232) :
    Calls Try.prog 29 #[.string s, .int .i64 many] w fun e w' => e = .returned (outS (daysE many (ls s))) ∧ Below w.heap.size w w' := by
  cases hr : daysE many (ls s) with
  | error c =>
    have HC := Lib.hid (fun W => All_error s many c W hlen hr)
    have hc := daysE_error hr
    have hkb : (c == 0) = false := by rw [beq_eq_false_iff_ne]; exact hc
    have hkn : (c != 0) = true := by rw [bne, hkb]; rfl
    clear hr hc
    go_enter Try.func29, Try.ntmps29
    go_wp2_with (first | (go_at_call 46; (with_reducible refine (HC.out _).mono ?_); rintro e w1 ⟨rfl, hb⟩; have HB := Lib.hid hb; clear hb))
    go_ret2
    exact ⟨rfl, HB.out⟩
  | ok r =>
    obtain ⟨h0, n, rfl, hn, hd⟩ := daysE_yes hr
    have HC := Lib.hid (fun W => All_ok s n r W h0 hn hd)
    have HD := Lib.hid hd
    have f1 : (n : Int) < (n : Int) + 1 := by omega
    clear hr hd h0
    go_enter Try.func29, Try.ntmps29
    go_wp2_with (first | (go_at_call 46; (with_reducible refine (HC.out _).mono ?_); rintro e w1 ⟨⟨R, g, cap, hl, hrow, rfl, hown⟩, hb⟩; have HB := Lib.hid hb; have HO := Lib.hid hown; have hx := List.getElem?_eq_getElem (l := R) (i := n) (by omega); have HX := Lib.hid (hrow n _ hx); have hcell : w1.cell? ⟨g, n, none⟩ = some (.string (bs (R[n]'(by omega)))) := (hown.cellAt n (by omega)).trans (strs_get hx); clear hb hown hrow hx))
    go_ret2
    have he : Except.ok (R[n]'(by omega)) = (Except.ok r : Except Int (List UInt8)) := HX.out.symm.trans HD.out
    cases he
    exact ⟨rfl, HB.out⟩
end Go.Proofs.Ytodchgddkgjciaa
