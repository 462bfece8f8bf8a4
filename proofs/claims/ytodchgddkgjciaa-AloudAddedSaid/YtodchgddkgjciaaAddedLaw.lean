/- The walk of the statement AloudAdded: it answers true. Conditions: lengths within the reach of the form. -/
import Derived.Test.YtodchgddkgjciaaMeetsLaw
import Derived.Test.YtodchgddkgjciaaCount
import Derived.Test.YtodchgddkgjciaaAddedMath
namespace Go.Proofs.Ytodchgddkgjciaa
set_option linter.unusedVariables false
set_option linter.unusedSimpArgs false
open Go Go.RowKit
theorem outC_ok (l : List UInt8) : outC (.ok l) = .tuple #[.agg #[.int .i64 (cntN l 0), .int .i64 (cntN l 1), .int .i64 (cntN l 2)], .int .i64 0] := rfl
theorem Count_of (s : ByteArray) (n : Nat) (x : List UInt8) (w : World) (h : s.size ≤ 140737488351232) (h0 : wordE (ls s) = 0) (hn : n ≤ 40) (hx : days n (ls s) = .ok x) :
    Calls Try.prog 30 #[.string s, .int .i64 n] w fun e w' => e = .returned (.tuple #[.agg #[.int .i64 (cntN x 0), .int .i64 (cntN x 1), .int .i64 (cntN x 2)], .int .i64 0]) ∧ Below w.heap.size w w' := by
  have := Count_any s n w h
  rwa [daysE_eq h0 hn, hx, outC_ok] at this
def Cnt (W : World) (b : Nat) (l : List UInt8) : Prop := Three W b (cntN l 0) (cntN l 1) (cntN l 2)
theorem Cnt.cellAt {W : World} {b : Nat} {l : List UInt8} (h : Cnt W b l) {i : Nat} (hi : i < 3) : W.cell? ⟨b, i, none⟩ = some (.int .i64 (cntN l i)) := by
  match i, hi with
  | 0, _ => exact Three.cell0 h
  | 1, _ => exact Three.cell1 h
  | 2, _ => exact Three.cell2 h
theorem Cnt.new (W : World) (l : List UInt8) : Cnt ((((W.alloc (.cells #[.int .i64 0, .int .i64 0, .int .i64 0] 40)).setCell ⟨W.heap.size, 0, none⟩ (.int .i64 (cntN l 0))).setCell ⟨W.heap.size, 1, none⟩ (.int .i64 (cntN l 1))).setCell ⟨W.heap.size, 2, none⟩ (.int .i64 (cntN l 2))) W.heap.size l :=
  Three.set2 (Three.set1 (Three.set0 (show Three _ _ 0 0 0 from World.alloc_heap_new _ _) _) _) _
set_option maxHeartbeats 4000000 in
set_option maxRecDepth 100000 in
theorem Added_law (s t : ByteArray) (d f : Nat) (w : World) (h1 : s.size ≤ 140737488351232) (h2 : t.size ≤ 140737488351232) (h3 : d < 256) (h4 : f < 256) :
    Calls Try.prog 12 #[.string s, .string t, .int .u8 d, .int .u8 f] w fun e w' => e = .returned (.bool true) ∧ Below w.heap.size w w' := by
  have HA := Lib.hid (fun W => alive_any W)
  by_cases hf : s.size ≤ 1000 ∧ t.size ≤ 1000
  · have HF := Lib.hid (fun W => few_two s t true W h1 h2 (decide_eq_true hf))
    obtain ⟨hf1, hf2⟩ := hf
    obtain ⟨n, hcv⟩ : ∃ n : Nat, (d : Int) % 20 = n := ⟨d % 20, by omega⟩
    have hn : n ≤ 19 := by omega
    have hx := fun W => Apart_any s t n W h1 h2
    cases hr : apartE (ls s) (ls t) n with
    | error e =>
      have he := apartE_error hr
      have heb : (e == 0) = false := by rw [beq_eq_false_iff_ne]; exact he
      have hen : (e != 0) = true := by rw [bne, heb]; rfl
      rw [hr] at hx
      have HX := Lib.hid hx
      clear hx hr he
      go_enter Try.func12, Try.ntmps12
      go_wp2_with (first | (go_at_call 16; (with_reducible refine (HF.out _).mono ?_); rintro e w1 ⟨rfl, rfl⟩) | (go_at_call 24; (with_reducible refine (HX.out _).mono ?_); rw [outB_error]; rintro e w1 ⟨rfl, hb⟩; have HBA := Lib.hid hb; clear hb) | (go_at_call 17; (with_reducible refine (HA.out _).mono ?_); rintro e w1 ⟨rfl, hb⟩; have HB := Lib.hid hb; clear hb))
      go_ret
      exact ⟨rfl, next_below HBA.out HB.out⟩
    | ok b =>
      rw [hr] at hx
      cases b with
      | false =>
        have HX := Lib.hid hx
        clear hx hr
        go_enter Try.func12, Try.ntmps12
        go_wp2_with (first | (go_at_call 16; (with_reducible refine (HF.out _).mono ?_); rintro e w1 ⟨rfl, rfl⟩) | (go_at_call 24; (with_reducible refine (HX.out _).mono ?_); rw [outB_ok]; rintro e w1 ⟨rfl, hb⟩; have HBA := Lib.hid hb; clear hb) | (go_at_call 17; (with_reducible refine (HA.out _).mono ?_); rintro e w1 ⟨rfl, hb⟩; have HB := Lib.hid hb; clear hb))
        go_ret
        exact ⟨rfl, next_below HBA.out HB.out⟩
      | true =>
        obtain ⟨ws, wt, hn40, hst, x, y, z, e1, e2, e3, hap⟩ := apartE_yes hr
        obtain ⟨m, hm⟩ : ∃ m : Nat, (f : Int) % ((n : Int) + 1) = m := ⟨f % (n + 1), by rw [Int.natCast_emod]; rfl⟩
        have hmn : m ≤ n := by
          have := Int.emod_lt_of_pos (f : Int) (show (0 : Int) < (n : Int) + 1 by omega)
          omega
        have hxl := apart_less hr hmn
        have hy := fun W => Apart_any s t m W h1 h2
        rw [hxl] at hy
        have hz := apart_sum hap.symm e1 e2 e3
        have hst2 := hst
        rw [length_ls, length_ls] at hst2
        have c1 := fun W => Count_of s n x W h1 ws hn40 e1
        have c2 := fun W => Count_of t n y W h2 wt hn40 e2
        have c3 := fun W => Count_of (s ++ t) n z W (by rw [ByteArray.size_append]; omega) (by rw [ls_append]; exact both_word ws wt hst) hn40 (by rw [ls_append]; exact e3)
        have xl := days_len e1 (by omega)
        have yl := days_len e2 (by omega)
        have hcx := fun i => Nat.le_trans (cntN_le x i) xl
        have hcy := fun i => Nat.le_trans (cntN_le y i) yl
        have hcz : ∀ i, cntN z i = cntN x i + cntN y i := fun i => by rw [hz, cntN_append]
        have HX := Lib.hid hx
        have HY := Lib.hid hy
        have HC1 := Lib.hid c1
        have HC2 := Lib.hid c2
        have HC3 := Lib.hid c3
        have HCX := Lib.hid hcx
        have HCY := Lib.hid hcy
        have HCZ := Lib.hid hcz
        clear hx hy c1 c2 c3 hcx hcy hcz hz xl yl e1 e2 e3 hap hxl hr ws wt hst
        go_enter Try.func12, Try.ntmps12
        go_wp2_with (first | (go_at_call 16; (with_reducible refine (HF.out _).mono ?_); rintro e w1 ⟨rfl, rfl⟩) | (go_at_call 24; (with_reducible refine (HX.out _).mono ?_); rw [outB_ok]; rintro e w1 ⟨rfl, hb⟩; have HBA := Lib.hid hb; clear hb) | (go_at_call 30; (with_reducible refine (HC1.out _).mono ?_); rintro e w2 ⟨rfl, hb⟩; have HB2 := Lib.hid hb; clear hb HC1) | (go_at_call 30; (with_reducible refine (HC2.out _).mono ?_); rintro e w3 ⟨rfl, hb⟩; have HB3 := Lib.hid hb; clear hb HC2) | (go_at_call 30; (with_reducible refine (HC3.out _).mono ?_); rintro e w4 ⟨rfl, hb⟩; have HB4 := Lib.hid hb; clear hb HC3))
        have k1 := HBA.out.size
        have k2 := HB2.out.size
        have k3 : w2.heap.size + 1 ≤ w3.heap.size := by have := HB3.out.size; simpa using this
        have k4 : w3.heap.size + 1 ≤ w4.heap.size := by have := HB4.out.size; simpa using this
        have HU3 : Hid (Cnt w3 w2.heap.size x) := Three.below (World.alloc_heap_new _ _) HB3.out (by simp)
        have HU4 : Hid (Cnt w4 w2.heap.size x) := Three.below ((Below.heap_alloc _ _ _ (by omega)).trans HU3.out) HB4.out (by simp; omega)
        have HV4 : Hid (Cnt w4 w3.heap.size y) := Three.below (World.alloc_heap_new _ _) HB4.out (by simp)
        have D2 : Hid (Below w.heap.size w w2) := HBA.out.trans (HB2.out.mono k1)
        have D3 : Hid (Below w.heap.size w w3) := (D2.out.alloc D2.out.size _).trans (HB3.out.mono (by have := D2.out.size; simp; omega))
        have D4 : Hid (Below w.heap.size w w4) := (D3.out.alloc D3.out.size _).trans (HB4.out.mono (by have := D3.out.size; simp; omega))
        go_loopw [17] (fun v17 wr => ∃ i : Nat, v17 = .int .i64 i ∧ i ≤ 3 ∧ Cnt wr w2.heap.size x ∧ Cnt wr w3.heap.size y ∧ Cnt wr w4.heap.size z ∧ Below w.heap.size w wr) (fun v17 _ => 3 - (intOf v17).toNat)
        case atStart =>
          refine ⟨0, rfl, by omega, (Below.heap_alloc _ _ _ (by omega)).trans HU4.out, (Below.heap_alloc _ _ _ (by omega)).trans HV4.out, World.alloc_heap_new _ _, D4.out.alloc D4.out.size _⟩
        case round =>
          obtain ⟨i, rfl, hi, hA, hB, hC, hD⟩ := hrel
          have HD := Lib.hid hD
          by_cases hlt : i < 3
          · have ca := hA.cellAt hlt
            have cb := hB.cellAt hlt
            have cc := hC.cellAt hlt
            rw [HCZ.out i] at cc
            have ax := HCX.out i
            have ay := HCY.out i
            obtain ⟨p, hp⟩ : ∃ p, cntN x i = p := ⟨_, rfl⟩
            obtain ⟨q, hq⟩ : ∃ q, cntN y i = q := ⟨_, rfl⟩
            rw [hp] at ca cc ax
            rw [hq] at cb cc ay
            have hsum : ((p + q : Nat) : Int) = (p : Int) + (q : Int) := by omega
            rw [hsum] at cc
            have g1 : IntKind.i64.wrap ((p : Int) + (q : Int)) = (p : Int) + (q : Int) := IntWalk.i64_in _ (by omega)
            have g2 : decide ((p : Int) < 0) = false := decide_eq_false (by omega)
            have g3 : decide ((q : Int) < 0) = false := decide_eq_false (by omega)
            have g4 : (i : Int) < 3 := by omega
            have HCA := Lib.hid hA
            have HCB := Lib.hid hB
            have HCC := Lib.hid hC
            clear hA hB hC hD hp hq hsum
            go_wp2
            go_quiet (fail)
            go_wp2
            go_roundw
            case rel => exact ⟨i + 1, by go_num, by omega, HCA.out, HCB.out, HCC.out, below_drew HD.out nq⟩
            case measure => simp [intOf]; omega
          · have g9 : IntKind.i64.wrap ((n : Int) + 1) = (n : Int) + 1 := IntWalk.i64_in _ (by omega)
            clear hA hB hC hD
            go_wp2_with (first | (go_at_call 24; (with_reducible refine (HY.out _).mono ?_); rw [outB_ok]; rintro e w5 ⟨rfl, hb⟩; have HB5 := Lib.hid hb; clear hb) | (go_at_call 17; (with_reducible refine (HA.out _).mono ?_); rintro e w6 ⟨rfl, hb⟩; have HB6 := Lib.hid hb; clear hb))
            go_ret
            exact ⟨rfl, HD.out.trans ((next_below HB5.out HB6.out).mono HD.out.size)⟩
  · have HF := Lib.hid (fun W => few_two s t false W h1 h2 (decide_eq_false hf))
    clear hf
    go_enter Try.func12, Try.ntmps12
    go_wp2_with (first | (go_at_call 16; (with_reducible refine (HF.out _).mono ?_); rintro e w1 ⟨rfl, rfl⟩) | (go_at_call 17; (with_reducible refine (HA.out _).mono ?_); rintro e w1 ⟨rfl, hb⟩; have HB := Lib.hid hb; clear hb))
    go_ret
    exact ⟨rfl, HB.out⟩
end Go.Proofs.Ytodchgddkgjciaa
