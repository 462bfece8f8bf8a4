/- What Of of package aloud answers. Conditions: the pairs lie where the slice says. -/
import Derived.Test.YtodchgddkgjciaaFew
import Derived.Test.YtodchgddkgjciaaOfMath
namespace Go.Proofs.Ytodchgddkgjciaa
set_option linter.unusedVariables false
set_option linter.unusedSimpArgs false
open Go Go.RowKit
/-- A slice of pairs. -/
def PairsAt (W : World) (v : Value) (l : List (Int × Int)) : Prop :=
  (v = .slice none 0 0 ∧ l = []) ∨ ∃ g o cap, v = .slice (some ⟨g, o, none⟩) l.length cap ∧ g < W.heap.size ∧
    ∀ j p, l[j]? = some p → W.cell? ⟨g, o + j * 2, none⟩ = some (.int .i64 p.1) ∧ W.cell? ⟨g, o + j * 2 + 1, none⟩ = some (.int .i64 p.2)
theorem PairsAt.below {W W' : World} {v : Value} {l : List (Int × Int)} (h : PairsAt W v l) (hb : Below W.heap.size W W') : PairsAt W' v l := by
  rcases h with h | ⟨g, o, cap, h1, h2, h3⟩
  · exact .inl h
  · refine .inr ⟨g, o, cap, h1, Nat.lt_of_lt_of_le h2 hb.size, fun j p hp => ?_⟩
    rw [hb.cell h2, hb.cell h2]
    exact h3 j p hp
theorem enc_dig {B : Int} (h1 : 1 ≤ B) (h2 : B ≤ 9) : ls (Utf8.encode (48 + B)) = [UInt8.ofNat (48 + B.toNat)] := by
  obtain rfl | rfl | rfl | rfl | rfl | rfl | rfl | rfl | rfl : B = 1 ∨ B = 2 ∨ B = 3 ∨ B = 4 ∨ B = 5 ∨ B = 6 ∨ B = 7 ∨ B = 8 ∨ B = 9 := by omega
  all_goals rfl
set_option maxRecDepth 100000 in
set_option maxHeartbeats 4000000 in
theorem Of_some (l : List (Int × Int)) (g o cap : Nat) (w : World) (hlen : l.length ≤ 140737488351232) (hg : g < w.heap.size)
    (hc : ∀ j p, l[j]? = some p → w.cell? ⟨g, o + j * 2, none⟩ = some (.int .i64 p.1) ∧ w.cell? ⟨g, o + j * 2 + 1, none⟩ = some (.int .i64 p.2)) :
    Calls Try.prog 32 #[.slice (some ⟨g, o, none⟩) l.length cap] w fun e w' => e = .returned (outS (ofE l)) ∧ Below w.heap.size w w' := by
  have HC := Lib.hid hc
  clear hc
  obtain ⟨n, hn⟩ : ∃ n, l.length = n := ⟨_, rfl⟩
  rw [hn] at hlen ⊢
  by_cases h200 : 200 < n
  · have HO := Lib.hid (show ofE l = .error 3 by rw [ofE, if_pos (by omega)])
    clear hn
    go_enter Try.func32, Try.ntmps32
    go_wp2
    go_ret2
    exact ⟨by rw [HO.out]; rfl, Below.refl _ _⟩
  · have HN := Lib.hid hn
    clear hn
    go_enter Try.func32, Try.ntmps32
    go_wp2
    go_loopw [13] (fun v13 wr => ∃ i : Nat, v13 = .int .i64 i ∧ i ≤ n ∧ Hid (allOk none l = allOk (lastB l i) (l.drop i)) ∧ Hid ((spell (l.take i)).length ≤ 200 * i) ∧
        Lib.IsBuilderF 64 5 w.heap.size w.heap.size (Lib.byteCells (spell (l.take i))) wr ∧ Below w.heap.size w wr) (fun v13 _ => n - (intOf v13).toNat)
    case atStart =>
      refine ⟨0, rfl, Nat.zero_le _, rfl, Nat.zero_le _, builder_fresh (Nat.le_refl _) (World.alloc_heap_new w _), (Below.refl _ _).alloc (Nat.le_refl _) _⟩
    case round =>
      obtain ⟨i, rfl, hi, HA, HL, hbu, hB⟩ := hrel
      have HBU := Lib.hid hbu
      have HB := Lib.hid hB
      have hsz := hB.size
      by_cases hlt : i < n
      · obtain ⟨p, hp⟩ : ∃ p, l[i]? = some p := ⟨l[i]'(by rw [HN.out]; exact hlt), List.getElem?_eq_getElem _⟩
        obtain ⟨A, B⟩ := p
        obtain ⟨c1, c2⟩ := HC.out i _ hp
        rw [← hB.cell (show (⟨g, o + i * 2, none⟩ : Addr).block < w.heap.size from hg)] at c1
        rw [← hB.cell (show (⟨g, o + i * 2 + 1, none⟩ : Addr).block < w.heap.size from hg)] at c2
        dsimp only at c1 c2
        have HP := Lib.hid hp
        clear hp hbu hB
        go_wp2
        obtain ⟨w2, hw2⟩ : ∃ w2, wr.alloc (.cells #[.int .i64 A, .int .i64 B] 60) = w2 := ⟨_, rfl⟩
        have b0 : w2.cell? ⟨wr.heap.size, 0, none⟩ = some (.int .i64 A) := by rw [← hw2]; exact pair_new (World.alloc_heap_new wr (.cells #[.int .i64 A, .int .i64 B] 60)) (j := 0) rfl
        have b1 : w2.cell? ⟨wr.heap.size, 1, none⟩ = some (.int .i64 B) := by rw [← hw2]; exact pair_new (World.alloc_heap_new wr (.cells #[.int .i64 A, .int .i64 B] 60)) (j := 1) rfl
        have HB2 : Hid (Below w.heap.size w w2) := by unfold Hid; rw [← hw2]; exact HB.out.alloc hsz _
        have HU2 : Hid (Lib.IsBuilderF 64 5 w.heap.size w.heap.size (Lib.byteCells (spell (l.take i))) w2) := by
          unfold Hid
          rw [← hw2]
          exact builder_kept HBU.out fun k cs t fz hk _ => Below.heap_alloc _ _ _ (Array.getElem?_eq_some_iff.1 hk).1
        have hs2 : w2.heap.size = wr.heap.size + 1 := by rw [← hw2]; simp
        rw [hw2]
        have HBAD : Hid (badPair (lastB l i) (A, B) = true → ofE l = .error 2) := by
          intro hb
          rw [ofE, if_neg (by rw [HN.out]; omega), if_pos ((allOk_at HP.out HA.out).1 hb)]
        clear c1 c2 hw2
        by_cases a1 : A < 1
        · have d1 : decide (A < 1) = true := decide_eq_true a1
          have HE : Hid (ofE l = .error 2) := HBAD.out (by simp [badPair, a1])
          clear a1
          go_quiet (fail)
          go_wp2
          go_ret2
          exact ⟨by rw [HE.out]; rfl, below_dn HB2.out nq⟩
        · have d1 : decide (A < 1) = false := decide_eq_false a1
          by_cases a2 : 200 < A
          · have d2 : decide (200 < A) = true := decide_eq_true a2
            have HE : Hid (ofE l = .error 2) := HBAD.out (by simp [badPair, a2])
            clear a1 a2
            go_quiet (fail)
            go_wp2
            go_ret2
            exact ⟨by rw [HE.out]; rfl, below_dn HB2.out nq⟩
          · have d2 : decide (200 < A) = false := decide_eq_false a2
            by_cases a3 : B < 1
            · have d3 : decide (B < 1) = true := decide_eq_true a3
              have HE : Hid (ofE l = .error 2) := HBAD.out (by simp [badPair, a3])
              clear a1 a2 a3
              go_quiet (fail)
              go_wp2
              go_ret2
              exact ⟨by rw [HE.out]; rfl, below_dn HB2.out nq⟩
            · have d3 : decide (B < 1) = false := decide_eq_false a3
              by_cases a4 : 9 < B
              · have d4 : decide (9 < B) = true := decide_eq_true a4
                have HE : Hid (ofE l = .error 2) := HBAD.out (by simp [badPair, a4])
                clear a1 a2 a3 a4
                go_quiet (fail)
                go_wp2
                go_ret2
                exact ⟨by rw [HE.out]; rfl, below_dn HB2.out nq⟩
              · have d4 : decide (9 < B) = false := decide_eq_false a4
                by_cases h0 : 0 < i
                · have d5 : decide (0 < i) = true := decide_eq_true h0
                  obtain ⟨p', hp'⟩ : ∃ p', l[i - 1]? = some p' := ⟨l[i - 1]'(by rw [HN.out]; omega), List.getElem?_eq_getElem _⟩
                  obtain ⟨A', B'⟩ := p'
                  have hlast : lastB l i = some B' := by
                    obtain ⟨k, rfl⟩ : ∃ k, i = k + 1 := ⟨i - 1, by omega⟩
                    show (l[k]?).map _ = _
                    rw [show k = k + 1 - 1 by omega, hp']
                    rfl
                  have e2 := (HC.out (i - 1) _ hp').2
                  rw [← HB2.out.cell (show (⟨g, o + (i - 1) * 2 + 1, none⟩ : Addr).block < w.heap.size from hg)] at e2
                  dsimp only at e2
                  have g2 : (i : Int) < (n : Int) := by omega
                  have g3 : IntKind.i64.wrap ((i : Int) - 1) = (i : Int) - 1 := IntWalk.i64_in _ (by omega)
                  have g4 : 0 ≤ (i : Int) - 1 := by omega
                  have g5 : (i : Int) - 1 < (n : Int) := by omega
                  have g6 : ((i : Int) - 1).toNat = i - 1 := by omega
                  by_cases a5 : B = B'
                  · have d6 : (B == B') = true := by rw [beq_iff_eq]; exact a5
                    have HE : Hid (ofE l = .error 2) := HBAD.out (by rw [hlast]; simp [badPair, a5])
                    clear a1 a2 a3 a4 a5 hp' hlast
                    go_quiet (fail)
                    go_wp2
                    go_ret2
                    exact ⟨by rw [HE.out]; rfl, below_dn HB2.out nq⟩
                  · have d6 : (B == B') = false := by rw [beq_eq_false_iff_ne]; exact a5
                    have HOK : Hid (badPair (lastB l i) (A, B) = false) := by
                      unfold Hid
                      rw [hlast, badPair, d1, d2, d3, d4, decide_eq_false (by simpa using fun h => a5 h.symm)]
                      rfl
                    clear a5 hp' hlast
                    go_quiet (fail)
                    have hen := enc_dig (B := B) (by omega) (by omega)
                    have hspt := spell_take HP.out
                    dsimp only at hspt
                    obtain ⟨y, hy⟩ : ∃ y, UInt8.ofNat (48 + B.toNat) = y := ⟨_, rfl⟩
                    rw [hy] at hen hspt
                    go_wp2_with fail
                    refine (rep_any (Utf8.encode (48 + B)) y A A.toNat (by omega) hen (by omega) _).mono ?_
                    rintro e w3 ⟨rfl, hb3⟩
                    have hbu3 := builder_kept (W' := w3) HU2.out fun k cs t fz hk _ => hb3.block k (Array.getElem?_eq_some_iff.1 hk).1
                    have HU3 := Lib.hid hbu3
                    have HB3 := Lib.hid hb3
                    have hs3 : w2.heap.size ≤ w3.heap.size := hb3.size
                    have HSP := Lib.hid hspt
                    clear hbu3 hb3 hen hspt hy
                    go_wp2_with fail
                    refine (wstring w.heap.size w.heap.size (spell (l.take i)) (List.replicate A.toNat y) w3 HU3.out (by have := HL.out; simp; omega) (by omega)).mono ?_
                    rintro e w4 ⟨rfl, hu4, hb4, _⟩
                    have HU4 := Lib.hid hu4
                    have HB4 := Lib.hid hb4
                    clear hu4 hb4
                    go_wp2
                    go_roundw
                    case rel =>
                      refine ⟨i + 1, by go_num, by omega, ?_, ?_, ?_, ?_⟩
                      · unfold Hid
                        rw [HA.out, ← HA.out]
                        exact (allOk_at HP.out HA.out).2 HOK.out
                      · unfold Hid
                        have := HL.out
                        rw [HSP.out, List.length_append]
                        simp
                        omega
                      · rw [HSP.out]
                        exact HU4.out
                      · exact ((below_dn HB2.out nq).trans (HB3.out.mono (show w.heap.size ≤ w2.heap.size by omega))).trans HB4.out
                    case measure => simp [intOf]; omega
                · have d5 : decide (0 < i) = false := decide_eq_false h0
                  have HOK : Hid (badPair (lastB l i) (A, B) = false) := by
                    unfold Hid
                    obtain rfl : i = 0 := by omega
                    rw [badPair, d1, d2, d3, d4, decide_eq_false (by simp [lastB])]
                    rfl
                  go_quiet (fail)
                  have hen := enc_dig (B := B) (by omega) (by omega)
                  have hspt := spell_take HP.out
                  dsimp only at hspt
                  obtain ⟨y, hy⟩ : ∃ y, UInt8.ofNat (48 + B.toNat) = y := ⟨_, rfl⟩
                  rw [hy] at hen hspt
                  go_wp2_with fail
                  refine (rep_any (Utf8.encode (48 + B)) y A A.toNat (by omega) hen (by omega) _).mono ?_
                  rintro e w3 ⟨rfl, hb3⟩
                  have hbu3 := builder_kept (W' := w3) HU2.out fun k cs t fz hk _ => hb3.block k (Array.getElem?_eq_some_iff.1 hk).1
                  have HU3 := Lib.hid hbu3
                  have HB3 := Lib.hid hb3
                  have hs3 : w2.heap.size ≤ w3.heap.size := hb3.size
                  have HSP := Lib.hid hspt
                  clear hbu3 hb3 hen hspt hy
                  go_wp2_with fail
                  refine (wstring w.heap.size w.heap.size (spell (l.take i)) (List.replicate A.toNat y) w3 HU3.out (by have := HL.out; simp; omega) (by omega)).mono ?_
                  rintro e w4 ⟨rfl, hu4, hb4, _⟩
                  have HU4 := Lib.hid hu4
                  have HB4 := Lib.hid hb4
                  clear hu4 hb4
                  go_wp2
                  go_roundw
                  case rel =>
                    refine ⟨i + 1, by go_num, by omega, ?_, ?_, ?_, ?_⟩
                    · unfold Hid
                      rw [HA.out, ← HA.out]
                      exact (allOk_at HP.out HA.out).2 HOK.out
                    · unfold Hid
                      have := HL.out
                      rw [HSP.out, List.length_append]
                      simp
                      omega
                    · rw [HSP.out]
                      exact HU4.out
                    · exact ((below_dn HB2.out nq).trans (HB3.out.mono (show w.heap.size ≤ w2.heap.size by omega))).trans HB4.out
                  case measure => simp [intOf]; omega
      · have HOK : Hid (allOk none l = true) := by
          unfold Hid
          rw [HA.out, List.drop_of_length_le (by rw [HN.out]; omega)]
          rfl
        have hall : l.take i = l := List.take_of_length_le (by rw [HN.out]; omega)
        rw [hall] at hbu HL
        have hsl := HL.out
        have HBU2 := Lib.hid hbu
        have HT := Lib.hid (show ofE l = if 200 < (spell l).length then .error 3 else if spell l = [] then .error 5 else .ok (spell l) by rw [ofE, if_neg (by rw [HN.out]; omega), if_neg (by simp [HOK.out])])
        obtain ⟨x, hx⟩ : ∃ x, spell l = x := ⟨_, rfl⟩
        rw [hx] at HBU2 HT hsl
        clear hall hbu hB hx HBU HL
        go_wp2_with (go_at_call 51; refine (Try.bString w.heap.size w.heap.size x _ HBU2.out (by omega)).mono ?_; rintro e w1 ⟨rfl, _, hb1, _⟩; have HB1 := Lib.hid hb1; clear hb1; fail)
        refine (Try.bString w.heap.size w.heap.size x _ HBU2.out (by omega)).mono ?_
        rintro e w1 ⟨rfl, _, hb1, _⟩
        have HB1 := Lib.hid hb1
        clear hb1
        obtain ⟨X, hX⟩ : ∃ X : ByteArray, (⟨x.toArray⟩ : ByteArray) = X := ⟨_, rfl⟩
        have hlX : ls X = x := by rw [← hX]; exact ls_bs x
        have hsX : X.size = x.length := by rw [← hX]; exact size_bs x
        have HXX := Lib.hid hX
        rw [hX]
        clear hX
        by_cases h1 : 200 < X.size
        · have HE : Hid (ofE l = .error 3) := by unfold Hid; rw [HT.out, if_pos (by omega)]
          clear hlX hsX
          go_wp2
          go_ret2
          exact ⟨by rw [HE.out]; rfl, HB.out.trans HB1.out⟩
        · by_cases h2 : X.size = 0
          · have d2 := isEmpty_of_zero h2
            have HE : Hid (ofE l = .error 5) := by unfold Hid; rw [HT.out, if_neg (by omega), if_pos (by apply List.eq_nil_of_length_eq_zero; omega)]
            clear hlX hsX
            go_wp2
            go_ret2
            exact ⟨by rw [HE.out]; rfl, HB.out.trans HB1.out⟩
          · have d2 := isEmpty_of_pos h2
            have HE : Hid (ofE l = .ok x) := by unfold Hid; rw [HT.out, if_neg (by omega), if_neg (fun h => h2 (by rw [hsX, h]; rfl))]
            clear hlX hsX
            go_wp2
            go_ret2
            exact ⟨by rw [HE.out, outS_ok, bs, HXX.out]; rfl, HB.out.trans HB1.out⟩
theorem Of_any (l : List (Int × Int)) (v : Value) (w : World) (hlen : l.length ≤ 140737488351232) (hv : PairsAt w v l) :
    Calls Try.prog 32 #[v] w fun e w' => e = .returned (outS (ofE l)) ∧ Below w.heap.size w w' := by
  rcases hv with ⟨rfl, rfl⟩ | ⟨g, o, cap, rfl, hg, hc⟩
  · go_enter Try.func32, Try.ntmps32
    go_wp2
    go_loopw [13] (fun v13 wr => v13 = .int .i64 0 ∧ Lib.IsBuilderF 64 5 w.heap.size w.heap.size (Lib.byteCells []) wr ∧ Below w.heap.size w wr) (fun v13 _ => 0)
    case atStart => exact ⟨rfl, builder_fresh (Nat.le_refl _) (World.alloc_heap_new w _), (Below.refl _ _).alloc (Nat.le_refl _) _⟩
    case round =>
      obtain ⟨rfl, hbu, hB⟩ := hrel
      have HBU := Lib.hid hbu
      have HB := Lib.hid hB
      have hsz := hB.size
      clear hbu hB
      go_wp2_with fail
      refine (Try.bString w.heap.size w.heap.size [] _ HBU.out hsz).mono ?_
      rintro e w1 ⟨rfl, _, hb1, _⟩
      have HB1 := Lib.hid hb1
      clear hb1
      have d2 : ((⟨#[]⟩ : ByteArray).toList == []) = true := by rw [toList_ls]; rfl
      go_wp2
      go_ret2
      exact ⟨rfl, HB.out.trans HB1.out⟩
  · exact Of_some l g o cap w hlen hg hc
end Go.Proofs.Ytodchgddkgjciaa
