/- What Say, Before and Age of the reference answer. Conditions: lengths within the reach of the form. -/
import Derived.Test.YtodchgddkgjciaaSaid
import Derived.Test.YtodchgddkgjciaaHeard
namespace Go.Proofs.Ytodchgddkgjciaa
set_option linter.unusedVariables false
set_option linter.unusedSimpArgs false
open Go Go.RowKit
set_option maxHeartbeats 1000000 in
theorem RefSay_any (s : ByteArray) (w : World) (hlen : s.size ≤ 140737488351232) :
    Calls Try.prog 19 #[.string s] w fun e w' => e = .returned (outS (sayE (ls s))) ∧ Below w.heap.size w w' := by
  obtain ⟨k, hk⟩ : ∃ k, wordE (ls s) = k := ⟨_, rfl⟩
  have HW := Lib.hid (fun W => Word_of s k W hlen hk)
  by_cases h0 : k = 0
  · subst h0
    obtain ⟨h1, h2, h3⟩ := wordE_zero.1 hk
    rw [length_ls] at h1
    have hs := fun W => Said_any s W h2 h3 (by omega)
    cases hq : say (ls s) with
    | none =>
      rw [hq, beforeV_none] at hs
      have HS := Lib.hid hs
      have HE := Lib.hid (show sayE (ls s) = .error 4 by unfold sayE; rw [hk, hq]; rfl)
      clear hs hq hk h2 h3
      go_enter Try.func19, Try.ntmps19
      go_wp2_with (first | (go_at_call 26; (with_reducible refine (HW.out _).mono ?_); rintro e w1 ⟨rfl, rfl⟩) | (go_at_call 41; (with_reducible refine (HS.out _).mono ?_); rintro e w2 ⟨rfl, hb⟩; have HB := Lib.hid hb; clear hb))
      go_ret2
      exact ⟨by rw [HE.out]; rfl, HB.out⟩
    | some t =>
      rw [hq, beforeV_some] at hs
      have HS := Lib.hid hs
      have HE := Lib.hid (show sayE (ls s) = .ok t by unfold sayE; rw [hk, hq]; rfl)
      clear hs hq hk h2 h3
      go_enter Try.func19, Try.ntmps19
      go_wp2_with (first | (go_at_call 26; (with_reducible refine (HW.out _).mono ?_); rintro e w1 ⟨rfl, rfl⟩) | (go_at_call 41; (with_reducible refine (HS.out _).mono ?_); rintro e w2 ⟨rfl, hb⟩; have HB := Lib.hid hb; clear hb))
      go_ret2
      exact ⟨by rw [HE.out]; rfl, HB.out⟩
  · have hkb : (k == 0) = false := by rw [beq_eq_false_iff_ne]; exact h0
    have hkn : (k != 0) = true := by rw [bne, hkb]; rfl
    have HE := Lib.hid (show sayE (ls s) = .error k by unfold sayE; rw [hk, if_pos h0])
    clear hk h0
    go_enter Try.func19, Try.ntmps19
    go_wp2_with (first | (go_at_call 26; (with_reducible refine (HW.out _).mono ?_); rintro e w1 ⟨rfl, rfl⟩))
    go_ret2
    exact ⟨by rw [HE.out]; rfl, Below.refl _ _⟩
set_option maxHeartbeats 1000000 in
theorem RefBefore_any (s : ByteArray) (w : World) (hlen : s.size ≤ 140737488351232) :
    Calls Try.prog 21 #[.string s] w fun e w' => e = .returned (outS (beforeE (ls s))) ∧ Below w.heap.size w w' := by
  obtain ⟨k, hk⟩ : ∃ k, wordE (ls s) = k := ⟨_, rfl⟩
  have HW := Lib.hid (fun W => Word_of s k W hlen hk)
  by_cases h0 : k = 0
  · subst h0
    obtain ⟨h1, h2, h3⟩ := wordE_zero.1 hk
    rw [length_ls] at h1
    have hs := fun W => Heard_any s W h2 h3 (by omega)
    cases hq : before (ls s) with
    | none =>
      rw [hq, beforeV_none] at hs
      have HS := Lib.hid hs
      have HE := Lib.hid (show beforeE (ls s) = .error 10 by unfold beforeE; rw [hk, hq]; rfl)
      clear hs hq hk h2 h3
      go_enter Try.func21, Try.ntmps21
      go_wp2_with (first | (go_at_call 26; (with_reducible refine (HW.out _).mono ?_); rintro e w1 ⟨rfl, rfl⟩) | (go_at_call 43; (with_reducible refine (HS.out _).mono ?_); rintro e w2 ⟨rfl, hb⟩; have HB := Lib.hid hb; clear hb))
      go_ret2
      exact ⟨by rw [HE.out]; rfl, HB.out⟩
    | some t =>
      rw [hq, beforeV_some] at hs
      have HS := Lib.hid hs
      have HE := Lib.hid (show beforeE (ls s) = .ok t by unfold beforeE; rw [hk, hq]; rfl)
      clear hs hq hk h2 h3
      go_enter Try.func21, Try.ntmps21
      go_wp2_with (first | (go_at_call 26; (with_reducible refine (HW.out _).mono ?_); rintro e w1 ⟨rfl, rfl⟩) | (go_at_call 43; (with_reducible refine (HS.out _).mono ?_); rintro e w2 ⟨rfl, hb⟩; have HB := Lib.hid hb; clear hb))
      go_ret2
      exact ⟨by rw [HE.out]; rfl, HB.out⟩
  · have hkb : (k == 0) = false := by rw [beq_eq_false_iff_ne]; exact h0
    have hkn : (k != 0) = true := by rw [bne, hkb]; rfl
    have HE := Lib.hid (show beforeE (ls s) = .error k by unfold beforeE; rw [hk, if_pos h0])
    clear hk h0
    go_enter Try.func21, Try.ntmps21
    go_wp2_with (first | (go_at_call 26; (with_reducible refine (HW.out _).mono ?_); rintro e w1 ⟨rfl, rfl⟩))
    go_ret2
    exact ⟨by rw [HE.out]; rfl, Below.refl _ _⟩
/-- What Age holds before it asks: the last word that was heard, and how many there are still. -/
def AgeS (n a : Nat) : Option (List UInt8) → Prop
  | none => a = n
  | some r => a < n ∧ Digs r ∧ r ≠ [] ∧ r.length ≤ 1800 ∧ (r.length ≤ 200 ∨ before r = none) ∧ Ages r (n - (a + 1))
theorem ageS_step {n a : Nat} {x : List UInt8} (hle : a ≤ n) (hd : Digs x) (hne : x ≠ []) (hs : x.length ≤ 200 ∨ before x = none) (ha : Ages x (n - a)) : AgeS n a (before x) := by
  cases hb : before x with
  | none =>
    have : n - a = 0 := ha.det (.zero hb)
    show a = n
    omega
  | some r =>
    have h200 : x.length ≤ 200 := by
      rcases hs with h | h
      · exact h
      · rw [hb] at h; cases h
    obtain ⟨hdr, hlr⟩ := before_digs hd hb
    cases hq : n - a with
    | zero =>
      rw [hq] at ha
      cases ha with
      | zero h => rw [hb] at h; cases h
    | succ j =>
      rw [hq] at ha
      cases ha with
      | succ h h' =>
        rw [hb] at h
        cases h
        refine ⟨by omega, hdr, before_ne hd hb hne, by omega, ?_, by rw [show n - (a + 1) = j by omega]; exact h'⟩
        cases hr : before r with
        | none => exact .inr rfl
        | some r' =>
          have := before_shrinks hd hb hr
          exact .inl (by omega)
theorem heard_at (x : ByteArray) (o : Option (List UInt8)) (w : World) (ho : before (ls x) = o) (hd : Digs (ls x)) (hne : ls x ≠ []) (hlen : x.size ≤ 1000000) :
    Calls Try.prog 43 #[.string x] w fun e w' => e = .returned (.tuple #[.string (bs (o.getD [])), .bool o.isSome]) ∧ Below w.heap.size w w' := ho ▸ Heard_any x w hd hne hlen
set_option maxHeartbeats 1000000 in
theorem RefAge_any (s : ByteArray) (w : World) (hlen : s.size ≤ 140737488351232) :
    Calls Try.prog 23 #[.string s] w fun e w' => e = .returned (outI (ageE (ls s))) ∧ Below w.heap.size w w' := by
  obtain ⟨k, hk⟩ : ∃ k, wordE (ls s) = k := ⟨_, rfl⟩
  have HW := Lib.hid (fun W => Word_of s k W hlen hk)
  by_cases h0 : k = 0
  · subst h0
    obtain ⟨h1, h2, h3⟩ := wordE_zero.1 hk
    by_cases h22 : ls s = [50, 50]
    · have hb : (s.toList == [50, 50]) = true := by rw [toList_ls, h22]; rfl
      have HE := Lib.hid (show ageE (ls s) = .error 9 by rw [ageE, if_neg (by simp [hk]), if_pos h22])
      clear hk h2 h3 h22
      go_enter Try.func23, Try.ntmps23
      go_wp2_with (first | (go_at_call 26; (with_reducible refine (HW.out _).mono ?_); rintro e w1 ⟨rfl, rfl⟩))
      go_ret2
      exact ⟨by rw [HE.out]; rfl, Below.refl _ _⟩
    · have hb : (s.toList == [50, 50]) = false := by rw [toList_ls]; simpa using h22
      obtain ⟨n, ha, hn, hE⟩ := ageE_ok hk h22
      obtain ⟨o, ho⟩ : ∃ o, before (ls s) = o := ⟨_, rfl⟩
      have hst := ageS_step (n := n) (a := 0) (Nat.zero_le _) h2 h3 (.inl h1) ha
      rw [ho] at hst
      rw [length_ls] at h1
      have HS := Lib.hid (fun W => heard_at s o W ho h2 h3 (by omega))
      have HST := Lib.hid hst
      have HE := Lib.hid hE
      clear hk h2 h3 h22 ha ho hst hE
      go_enter Try.func23, Try.ntmps23
      go_wp2_with (first | (go_at_call 26; (with_reducible refine (HW.out _).mono ?_); rintro e w1 ⟨rfl, rfl⟩) | (go_at_call 43; (with_reducible refine (HS.out _).mono ?_); rintro e w2 ⟨rfl, hb⟩; have HB := Lib.hid hb; clear hb))
      go_loopw [5, 6, 7] (fun v5 v6 v7 wr => ∃ (a : Nat) (o : Option (List UInt8)), v5 = .int .i64 a ∧ v6 = .string (bs (o.getD [])) ∧ v7 = .bool o.isSome ∧ a ≤ n ∧ Hid (AgeS n a o) ∧ Below w.heap.size w wr) (fun v5 _ _ _ => n - (intOf v5).toNat)
      case atStart => exact ⟨0, o, rfl, rfl, rfl, Nat.zero_le _, HST, HB.out⟩
      case round =>
        obtain ⟨a, q, rfl, rfl, rfl, hle, HAS, hB⟩ := hrel
        have HBR := Lib.hid hB
        clear hB
        cases q with
        | none =>
          have he : a = n := HAS.out
          subst he
          go_wp2
          go_ret2
          exact ⟨by rw [HE.out]; rfl, HBR.out⟩
        | some r =>
          obtain ⟨g1, g2, g3, g4, g5, g6⟩ := HAS.out
          obtain ⟨x, rfl⟩ : ∃ x : ByteArray, r = ls x := ⟨bs r, (ls_bs r).symm⟩
          obtain ⟨o', ho'⟩ : ∃ o', before (ls x) = o' := ⟨_, rfl⟩
          have hst := ageS_step (n := n) (a := a + 1) (by omega) g2 g3 g5 g6
          rw [ho'] at hst
          rw [length_ls] at g4
          have HS2 := Lib.hid (fun W => heard_at x o' W ho' g2 g3 (by omega))
          have HST2 := Lib.hid hst
          have hx : bs ((some (ls x)).getD []) = x := bs_ls x
          rw [hx]
          clear g2 g3 g5 g6 ho' hst hx HAS HS
          go_wp2_with (first | (go_at_call 43; (with_reducible refine (HS2.out _).mono ?_); rintro e w2 ⟨rfl, hb⟩; have HB2 := Lib.hid hb; clear hb))
          go_roundw
          case rel => exact ⟨a + 1, o', by go_num, rfl, rfl, by omega, HST2, HBR.out.trans (HB2.out.mono HBR.out.size)⟩
          case measure => simp [intOf]; omega
  · have hkb : (k == 0) = false := by rw [beq_eq_false_iff_ne]; exact h0
    have hkn : (k != 0) = true := by rw [bne, hkb]; rfl
    have HE := Lib.hid (show ageE (ls s) = .error k by rw [ageE, hk, if_pos h0])
    clear hk h0
    go_enter Try.func23, Try.ntmps23
    go_wp2_with (first | (go_at_call 26; (with_reducible refine (HW.out _).mono ?_); rintro e w1 ⟨rfl, rfl⟩))
    go_ret2
    exact ⟨by rw [HE.out]; rfl, Below.refl _ _⟩
end Go.Proofs.Ytodchgddkgjciaa
