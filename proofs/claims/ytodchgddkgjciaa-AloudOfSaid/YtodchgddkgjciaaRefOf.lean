/- What Of of the reference answers. Conditions: the pairs lie where the slice says. -/
import Derived.Test.YtodchgddkgjciaaSpelled
namespace Go.Proofs.Ytodchgddkgjciaa
set_option linter.unusedVariables false
set_option linter.unusedSimpArgs false
open Go Go.RowKit
theorem allOk_mem : ∀ (l : List (Int × Int)) (q : Option Int), allOk q l = true → ∀ p ∈ l, 1 ≤ p.1 ∧ p.1 ≤ 200 ∧ 1 ≤ p.2 ∧ p.2 ≤ 9 := by
  intro l
  induction l with
  | nil => intro q _ p hp; cases hp
  | cons a l ih =>
    intro q h p hp
    simp only [allOk, Bool.and_eq_true, Bool.not_eq_true'] at h
    rcases List.mem_cons.1 hp with rfl | hp
    · have := h.1
      simp only [badPair, Bool.or_eq_false_iff, decide_eq_false_iff_not] at this
      omega
    · exact ih _ h.2 p hp
set_option maxRecDepth 100000 in
set_option maxHeartbeats 4000000 in
theorem RefOf_some (l : List (Int × Int)) (g o cap : Nat) (w : World) (hlen : l.length ≤ 140737488351232) (hg : g < w.heap.size)
    (hc : ∀ j p, l[j]? = some p → w.cell? ⟨g, o + j * 2, none⟩ = some (.int .i64 p.1) ∧ w.cell? ⟨g, o + j * 2 + 1, none⟩ = some (.int .i64 p.2)) :
    Calls Try.prog 33 #[.slice (some ⟨g, o, none⟩) l.length cap] w fun e w' => e = .returned (outS (ofE l)) ∧ Below w.heap.size w w' := by
  have HC := Lib.hid hc
  clear hc
  obtain ⟨n, hn⟩ : ∃ n, l.length = n := ⟨_, rfl⟩
  rw [hn] at hlen ⊢
  by_cases h200 : 200 < n
  · have HO := Lib.hid (show ofE l = .error 3 by rw [ofE, if_pos (by omega)])
    clear hn
    go_enter Try.func33, Try.ntmps33
    go_wp2
    go_ret2
    exact ⟨by rw [HO.out]; rfl, Below.refl _ _⟩
  · have HN := Lib.hid hn
    clear hn
    go_enter Try.func33, Try.ntmps33
    go_wp2
    go_loopw [4, 5] (fun v4 v5 wr => ∃ i q : Nat, v5 = .int .i64 i ∧ v4 = .int .i64 q ∧ i ≤ n ∧ q ≤ 200 * i ∧ Hid (allOk none l = allOk (lastB l i) (l.drop i)) ∧ Hid ((spell (l.take i)).length = q) ∧ Below w.heap.size w wr) (fun _ v5 _ => n - (intOf v5).toNat)
    case atStart => exact ⟨0, 0, rfl, rfl, Nat.zero_le _, Nat.zero_le _, rfl, rfl, Below.refl _ _⟩
    case round =>
      obtain ⟨i, q, rfl, rfl, hi, hq, HA, HL, hB⟩ := hrel
      have HB := Lib.hid hB
      have hsz := hB.size
      by_cases hlt : i < n
      · obtain ⟨p, hp⟩ : ∃ p, l[i]? = some p := ⟨l[i]'(by rw [HN.out]; exact hlt), List.getElem?_eq_getElem _⟩
        obtain ⟨A, B⟩ := p
        obtain ⟨c1, c2⟩ := HC.out i _ hp
        rw [← hB.cell (show (⟨g, o + i * 2, none⟩ : Addr).block < w.heap.size from hg)] at c1
        rw [← hB.cell (show (⟨g, o + i * 2 + 1, none⟩ : Addr).block < w.heap.size from hg)] at c2
        dsimp only at c1 c2
        have HP := Lib.hid hp
        clear hp hB
        have HBAD : Hid (badPair (lastB l i) (A, B) = true → ofE l = .error 2) := by
          intro hb
          rw [ofE, if_neg (by rw [HN.out]; omega), if_pos ((allOk_at HP.out HA.out).1 hb)]
        have g2 : (i : Int) < (n : Int) := by omega
        by_cases a1 : A < 1
        · have d1 : decide (A < 1) = true := decide_eq_true a1
          have HE : Hid (ofE l = .error 2) := HBAD.out (by simp [badPair, a1])
          clear a1
          go_wp2
          go_quiet (fail)
          go_wp2
          go_ret2
          exact ⟨by rw [HE.out]; rfl, below_dn HB.out nq⟩
        · have d1 : decide (A < 1) = false := decide_eq_false a1
          by_cases a2 : 200 < A
          · have d2 : decide (200 < A) = true := decide_eq_true a2
            have HE : Hid (ofE l = .error 2) := HBAD.out (by simp [badPair, a2])
            clear a1 a2
            go_wp2
            go_quiet (fail)
            go_wp2
            go_ret2
            exact ⟨by rw [HE.out]; rfl, below_dn HB.out nq⟩
          · have d2 : decide (200 < A) = false := decide_eq_false a2
            by_cases a3 : B < 1
            · have d3 : decide (B < 1) = true := decide_eq_true a3
              have HE : Hid (ofE l = .error 2) := HBAD.out (by simp [badPair, a3])
              clear a1 a2 a3
              go_wp2
              go_quiet (fail)
              go_wp2
              go_ret2
              exact ⟨by rw [HE.out]; rfl, below_dn HB.out nq⟩
            · have d3 : decide (B < 1) = false := decide_eq_false a3
              by_cases a4 : 9 < B
              · have d4 : decide (9 < B) = true := decide_eq_true a4
                have HE : Hid (ofE l = .error 2) := HBAD.out (by simp [badPair, a4])
                clear a1 a2 a3 a4
                go_wp2
                go_quiet (fail)
                go_wp2
                go_ret2
                exact ⟨by rw [HE.out]; rfl, below_dn HB.out nq⟩
              · have d4 : decide (9 < B) = false := decide_eq_false a4
                by_cases h0 : 0 < i
                · have d5 : decide (0 < i) = true := decide_eq_true h0
                  obtain ⟨p', hp'⟩ : ∃ p', l[i - 1]? = some p' := ⟨l[i - 1]'(by rw [HN.out]; omega), List.getElem?_eq_getElem _⟩
                  obtain ⟨A', B'⟩ := p'
                  have hlast : lastB l i = some B' := by
                    obtain ⟨k, rfl⟩ : ∃ k, i = k + 1 := ⟨i - 1, by omega⟩
                    show (l[k]?).map _ = _
                    rw [show k = k + 1 - 1 by omega, hp']
                    rfl
                  have e2 := (HC.out (i - 1) _ hp').2
                  rw [← HB.out.cell (show (⟨g, o + (i - 1) * 2 + 1, none⟩ : Addr).block < w.heap.size from hg)] at e2
                  dsimp only at e2
                  have g3 : IntKind.i64.wrap ((i : Int) - 1) = (i : Int) - 1 := IntWalk.i64_in _ (by omega)
                  have g4 : 0 ≤ (i : Int) - 1 := by omega
                  have g5 : (i : Int) - 1 < (n : Int) := by omega
                  have g6 : ((i : Int) - 1).toNat = i - 1 := by omega
                  by_cases a5 : B = B'
                  · have d6 : (B == B') = true := by rw [beq_iff_eq]; exact a5
                    have HE : Hid (ofE l = .error 2) := HBAD.out (by rw [hlast]; simp [badPair, a5])
                    clear a1 a2 a3 a4 a5 hp' hlast
                    go_wp2
                    go_quiet (fail)
                    go_wp2
                    go_ret2
                    exact ⟨by rw [HE.out]; rfl, below_dn HB.out nq⟩
                  · have d6 : (B == B') = false := by rw [beq_eq_false_iff_ne]; exact a5
                    have HOK : Hid (badPair (lastB l i) (A, B) = false) := by
                      unfold Hid
                      rw [hlast, badPair, d1, d2, d3, d4, decide_eq_false (by simpa using fun h => a5 h.symm)]
                      rfl
                    clear a5 hp' hlast
                    have hst := spell_take HP.out
                    dsimp only at hst
                    have HST := Lib.hid hst
                    clear hst
                    go_wp2
                    go_quiet (fail)
                    go_wp2
                    go_roundw
                    case rel =>
                      refine ⟨i + 1, q + A.toNat, by go_num, by go_num, by omega, by omega, ?_, ?_, below_dn HB.out nq⟩
                      · unfold Hid
                        rw [HA.out, ← HA.out]
                        exact (allOk_at HP.out HA.out).2 HOK.out
                      · unfold Hid
                        rw [HST.out, List.length_append, HL.out, List.length_replicate]
                    case measure => simp [intOf]; omega
                · have d5 : decide (0 < i) = false := decide_eq_false h0
                  have HOK : Hid (badPair (lastB l i) (A, B) = false) := by
                    unfold Hid
                    obtain rfl : i = 0 := by omega
                    rw [badPair, d1, d2, d3, d4, decide_eq_false (by simp [lastB])]
                    rfl
                  have hst := spell_take HP.out
                  dsimp only at hst
                  have HST := Lib.hid hst
                  clear hst
                  go_wp2
                  go_quiet (fail)
                  go_wp2
                  go_roundw
                  case rel =>
                    refine ⟨i + 1, q + A.toNat, by go_num, by go_num, by omega, by omega, ?_, ?_, below_dn HB.out nq⟩
                    · unfold Hid
                      rw [HA.out, ← HA.out]
                      exact (allOk_at HP.out HA.out).2 HOK.out
                    · unfold Hid
                      rw [HST.out, List.length_append, HL.out, List.length_replicate]
                  case measure => simp [intOf]; omega
      · have hok : allOk none l = true := by
          rw [HA.out, List.drop_of_length_le (by rw [HN.out]; omega)]
          rfl
        have hall : l.take i = l := List.take_of_length_le (by rw [HN.out]; omega)
        have hL := HL.out
        rw [hall] at hL
        have HT := Lib.hid (show ofE l = if 200 < (spell l).length then .error 3 else if spell l = [] then .error 5 else .ok (spell l) by rw [ofE, if_neg (by rw [HN.out]; omega), if_neg (by simp [hok])])
        have HL2 := Lib.hid hL
        have HG := Lib.hid (allOk_mem l none hok)
        clear hok hall hL hB
        by_cases h1 : 200 < q
        · have HE : Hid (ofE l = .error 3) := by unfold Hid; rw [HT.out, if_pos (by rw [HL2.out]; exact h1)]
          go_wp2
          go_ret2
          exact ⟨by rw [HE.out]; rfl, HB.out⟩
        · by_cases h2 : q = 0
          · have HE : Hid (ofE l = .error 5) := by unfold Hid; rw [HT.out, if_neg (by rw [HL2.out]; exact h1), if_pos (List.eq_nil_of_length_eq_zero (by rw [HL2.out]; exact h2))]
            have d7 : ((q : Int) == 0) = true := by rw [beq_iff_eq]; omega
            clear h2
            go_wp2
            go_ret2
            exact ⟨by rw [HE.out]; rfl, HB.out⟩
          · have HE : Hid (ofE l = .ok (spell l)) := by unfold Hid; rw [HT.out, if_neg (by rw [HL2.out]; exact h1), if_neg (fun h => h2 (by rw [← HL2.out, h]; rfl))]
            have d7 : ((q : Int) == 0) = false := by rw [beq_eq_false_iff_ne]; omega
            have hsp := spelled_any l g o cap wr (by rw [HN.out]; omega) (Nat.lt_of_lt_of_le hg hsz) (fun j p hp => by rw [HB.out.cell hg, HB.out.cell hg]; exact HC.out j p hp) (fun p hp => by have := HG.out p hp; omega) (by rw [HL2.out]; omega)
            rw [HN.out] at hsp
            have HSP := Lib.hid hsp
            clear h2 hsp
            go_wp2_with (first | (go_at_call 52; (with_reducible refine HSP.out.mono ?_); rintro e w1 ⟨rfl, hb⟩; have HB1 := Lib.hid hb; clear hb))
            go_ret2
            exact ⟨by rw [HE.out]; rfl, HB.out.trans (HB1.out.mono hsz)⟩
theorem RefOf_any (l : List (Int × Int)) (v : Value) (w : World) (hlen : l.length ≤ 140737488351232) (hv : PairsAt w v l) :
    Calls Try.prog 33 #[v] w fun e w' => e = .returned (outS (ofE l)) ∧ Below w.heap.size w w' := by
  rcases hv with ⟨rfl, rfl⟩ | ⟨g, o, cap, rfl, hg, hc⟩
  · go_enter Try.func33, Try.ntmps33
    go_wp2
    go_loopw [4, 5] (fun v4 v5 wr => v4 = .int .i64 0 ∧ v5 = .int .i64 0 ∧ wr = w) (fun _ _ _ => 0)
    case atStart => exact ⟨rfl, rfl, rfl⟩
    case round =>
      obtain ⟨rfl, rfl, rfl⟩ := hrel
      go_wp2
      go_ret2
      exact ⟨rfl, Below.refl _ _⟩
  · exact RefOf_some l g o cap w hlen hg hc
end Go.Proofs.Ytodchgddkgjciaa

