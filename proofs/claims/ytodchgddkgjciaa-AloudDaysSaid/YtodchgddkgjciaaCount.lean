/- What Count of package aloud answers. Conditions: lengths within the reach of the form. -/
import Derived.Test.YtodchgddkgjciaaFew
import Derived.Test.YtodchgddkgjciaaMeetsMath
namespace Go.Proofs.Ytodchgddkgjciaa
set_option linter.unusedVariables false
set_option linter.unusedSimpArgs false
open Go Go.RowKit
/-- How many digits 1, 2 and 3. -/
def cnt (l : List UInt8) : Value := .agg #[.int .i64 (l.count 49), .int .i64 (l.count 50), .int .i64 (l.count 51)]
def outC (r : Except Int (List UInt8)) : Value := .tuple #[cnt (wordOf r), .int .i64 (errOf r)]
theorem outC_error (e : Int) : outC (.error e) = .tuple #[.agg #[.int .i64 0, .int .i64 0, .int .i64 0], .int .i64 e] := rfl
/-- A block of three numbers. -/
def Three (W : World) (b : Nat) (x y z : Int) : Prop := W.heap[b]? = some (.cells #[.int .i64 x, .int .i64 y, .int .i64 z] 40 (0, 0))
theorem Three.cell0 {W : World} {b : Nat} {x y z : Int} (h : Three W b x y z) : W.cell? ⟨b, 0, none⟩ = some (.int .i64 x) := by simp [World.cell?, show W.heap[b]? = _ from h]
theorem Three.cell1 {W : World} {b : Nat} {x y z : Int} (h : Three W b x y z) : W.cell? ⟨b, 1, none⟩ = some (.int .i64 y) := by simp [World.cell?, show W.heap[b]? = _ from h]
theorem Three.cell2 {W : World} {b : Nat} {x y z : Int} (h : Three W b x y z) : W.cell? ⟨b, 2, none⟩ = some (.int .i64 z) := by simp [World.cell?, show W.heap[b]? = _ from h]
theorem Three.frozen {W : World} {b : Nat} {x y z : Int} (h : Three W b x y z) (o : Nat) : W.frozen? ⟨b, o, none⟩ = false := by simp [World.frozen?, show W.heap[b]? = _ from h]
theorem Three.lt {W : World} {b : Nat} {x y z : Int} (h : Three W b x y z) : b < W.heap.size := (Array.getElem?_eq_some_iff.1 (show W.heap[b]? = _ from h)).1
theorem Three.below {W W' : World} {B b : Nat} {x y z : Int} (h : Three W b x y z) (hb : Below B W W') (hB : b < B) : Three W' b x y z := (hb.block b hB).trans h
theorem Three.set0 {W : World} {b : Nat} {x y z : Int} (h : Three W b x y z) (v : Int) : Three (W.setCell ⟨b, 0, none⟩ (.int .i64 v)) b v y z := by
  simp [Three, World.setCell, Array.getElem?_modify, show W.heap[b]? = _ from h]
theorem Three.set1 {W : World} {b : Nat} {x y z : Int} (h : Three W b x y z) (v : Int) : Three (W.setCell ⟨b, 1, none⟩ (.int .i64 v)) b x v z := by
  simp [Three, World.setCell, Array.getElem?_modify, show W.heap[b]? = _ from h]
theorem Three.set2 {W : World} {b : Nat} {x y z : Int} (h : Three W b x y z) (v : Int) : Three (W.setCell ⟨b, 2, none⟩ (.int .i64 v)) b x y v := by
  simp [Three, World.setCell, Array.getElem?_modify, show W.heap[b]? = _ from h]
theorem results_three {fn : Func} {p u : Tmp} (h : fn.results = #[.cell p 40, .tmp u]) (tmps : Array Value) (w : World) (g : Nat) {x y z : Int}
    (hp : tmps.getD p undef = .pointer (some ⟨g, 0, none⟩)) (hg : Three w g x y z) :
    (results fn tmps).run Try.prog w = .ok (.tuple #[.agg #[.int .i64 x, .int .i64 y, .int .i64 z], tmps.getD u undef]) w := by
  have hp' : tmps[p]?.getD undef = .pointer (some ⟨g, 0, none⟩) := by simpa using hp
  have hu : Try.prog.underlying 40 = some (.array 3 3) := by kernel_rfl
  simp [results, h, hp', asAddr, run_loadVar_row w g 40 40 _ (0, 0) _ hg hu rfl (by kernel_rfl)]
theorem count_add (l : List UInt8) (i : Nat) (c d : UInt8) (h : l[i]? = some c) : (l.take (i + 1)).count d = (l.take i).count d + (if c = d then 1 else 0) := by
  rw [List.take_add_one, h]
  simp [List.count_append, List.count_singleton, beq_iff_eq]
theorem daysE_error {many : Int} {l : List UInt8} {e : Int} (h : daysE many l = .error e) : e ≠ 0 := by
  unfold daysE at h
  by_cases h1 : askedE many [l] ≠ 0
  · rw [if_pos h1] at h
    cases h
    exact h1
  · rw [if_neg h1] at h
    rcases days_err h with rfl | rfl <;> decide
theorem daysE_yes {many : Int} {l s : List UInt8} (h : daysE many l = .ok s) : wordE l = 0 ∧ ∃ n : Nat, many = n ∧ n ≤ 40 ∧ days n l = .ok s := by
  unfold daysE at h
  by_cases h1 : askedE many [l] ≠ 0
  · rw [if_pos h1] at h; cases h
  · rw [if_neg h1] at h
    obtain ⟨h2, h3, h4⟩ := daysE_ok (Classical.not_not.1 h1)
    exact ⟨h2, many.toNat, by omega, by omega, h⟩
set_option maxHeartbeats 4000000 in
set_option maxRecDepth 100000 in
theorem Count_any (s : ByteArray) (many : Int) (w : World) (hlen : s.size ≤ 140737488351232) :
    Calls Try.prog 30 #[.string s, .int .i64 many] w fun e w' => e = .returned (outC (daysE many (ls s))) ∧ Below w.heap.size w w' := by
  have hd := fun W => Days_any s many W hlen
  cases hr : daysE many (ls s) with
  | error e =>
    rw [hr] at hd
    have HD := Lib.hid hd
    have he := daysE_error hr
    have heb : (e == 0) = false := by rw [beq_eq_false_iff_ne]; exact he
    have hen : (e != 0) = true := by rw [bne, heb]; rfl
    clear hd hr he
    go_enter Try.func30, Try.ntmps30
    go_wp2_with (first | (go_at_call 27; (with_reducible refine (HD.out _).mono ?_); rw [outS_error]; rintro e w1 ⟨rfl, hb⟩; have HBA := Lib.hid hb; clear hb; have ht : Three w1 w.heap.size 0 0 0 := (HBA.out.block _ (by simp)).trans (World.alloc_heap_new _ _); have c0 := ht.cell0; have c1 := ht.cell1; have c2 := ht.cell2; have f0 := ht.frozen 0; have f1 := ht.frozen 1; have f2 := ht.frozen 2))
    refine bodyPost_ret (results_three rfl _ _ w.heap.size rfl (((ht.set0 0).set1 0).set2 0)) rfl ?_
    refine ⟨rfl, ?_⟩
    have hB : Below w.heap.size w w1 := ((Below.refl _ _).alloc (Nat.le_refl _) _).trans (HBA.out.mono (by simp))
    exact ((hB.setCell (p := ⟨w.heap.size, 0, none⟩) (Nat.le_refl _) _).setCell (p := ⟨w.heap.size, 1, none⟩) (Nat.le_refl _) _).setCell (p := ⟨w.heap.size, 2, none⟩) (Nat.le_refl _) _
  | ok l =>
    rw [hr] at hd
    obtain ⟨h0, n, rfl, hn, hdy⟩ := daysE_yes hr
    obtain ⟨h1, h2, h3⟩ := wordE_zero.1 h0
    have hdg := days_digs h2 hdy
    have hll := days_len hdy (by omega)
    obtain ⟨b, rfl⟩ : ∃ b : ByteArray, l = ls b := ⟨bs l, (ls_bs l).symm⟩
    rw [length_ls] at hll
    rw [outS_ok, bs_ls] at hd
    have HD := Lib.hid hd
    have HDG := Lib.hid hdg
    clear hd hr hdg hdy h0 h2 h3
    go_enter Try.func30, Try.ntmps30
    go_wp2_with (first | (go_at_call 27; (with_reducible refine (HD.out _).mono ?_); rintro e w1 ⟨rfl, hb⟩; have HBA := Lib.hid hb; clear hb; have ht : Three w1 w.heap.size 0 0 0 := (HBA.out.block _ (by simp)).trans (World.alloc_heap_new _ _); have hlt0 : w.heap.size < w1.heap.size := ht.lt))
    go_loopw [] (fun wi => ∃ (pos x y z : Nat), pos ≤ b.size ∧ Hid (x = ((ls b).take pos).count 49 ∧ y = ((ls b).take pos).count 50 ∧ z = ((ls b).take pos).count 51) ∧ x ≤ pos ∧ y ≤ pos ∧ z ≤ pos ∧ wi.heap[w1.heap.size + 1]? = some (.stringIter b pos) ∧ Three wi w1.heap.size x y z ∧ Three wi w.heap.size 0 0 0 ∧ Below w.heap.size w wi) (fun wi => b.size - wi.iterPos (w1.heap.size + 1))
    case atStart =>
      refine ⟨0, 0, 0, 0, Nat.zero_le _, ⟨rfl, rfl, rfl⟩, Nat.le_refl _, Nat.le_refl _, Nat.le_refl _, ?_, ?_, ?_, ?_⟩
      · have := World.iter_heap (w1.alloc (.cells #[.int .i64 0, .int .i64 0, .int .i64 0] 40)) b 0
        rwa [show (w1.alloc (.cells #[.int .i64 0, .int .i64 0, .int .i64 0] 40)).heap.size = w1.heap.size + 1 from by simp] at this
      · exact (Below.heap_alloc (w1.alloc (.cells #[.int .i64 0, .int .i64 0, .int .i64 0] 40)) (.stringIter b 0) _ (by simp)).trans (World.alloc_heap_new _ _)
      · exact (Below.heap_alloc (w1.alloc (.cells #[.int .i64 0, .int .i64 0, .int .i64 0] 40)) (.stringIter b 0) _ (by simp; omega)).trans ((Below.heap_alloc _ _ _ (by omega)).trans ht)
      · have hB : Below w.heap.size w w1 := ((Below.refl _ _).alloc (Nat.le_refl _) _).trans (HBA.out.mono (by simp))
        exact (hB.alloc hB.size _).alloc (by simp; omega) _
    case round =>
      obtain ⟨pos, x, y, z, hp, HC, hx, hy, hz, hit, hT, hR, hB⟩ := hrel
      by_cases hlt : pos < b.size
      · have hnx := fun ty => Lib.run_next_any_at (P := Try.prog) wr (w1.heap.size + 1) b pos ty hit hlt
        have hdd := HDG.out _ (mem_ls b pos hlt)
        rw [decode_dig hlt (isDig_iff.2 hdd)] at hnx
        obtain ⟨c, hc⟩ : ∃ c, (b[pos]'hlt) = c := ⟨_, rfl⟩
        rw [hc] at hnx hdd
        have HAT := Lib.hid (show (ls b)[pos]? = some c by rw [List.getElem?_eq_getElem (by rw [length_ls]; exact hlt), ← hc]; rfl)
        have HI : Hid (wr.heap[w1.heap.size + 1]? = some (.stringIter b pos)) := hit
        have HT := Lib.hid hT
        have HR := Lib.hid hR
        have HB := Lib.hid hB
        clear hc hit hT hR hB
        by_cases h49 : c.toNat = 49
        · skip
          have hci : ∀ d : UInt8, c = d ↔ 49 = d.toNat := fun d => by rw [← h49, UInt8.toNat_inj]
          rw [h49] at hnx
          have HCI := Lib.hid hci
          clear hci h49
          have hTi : Three (wr.iterAt (w1.heap.size + 1) b (pos + 1)) w1.heap.size x y z := (Lib.iterAt_other _ _ _ _ _ (by omega)).trans HT.out
          have hRi : Three (wr.iterAt (w1.heap.size + 1) b (pos + 1)) w.heap.size 0 0 0 := (Lib.iterAt_other _ _ _ _ _ (by omega)).trans HR.out
          have hc0 := hTi.cell0
          have hf0 := hTi.frozen 0
          have HTI := Lib.hid hTi
          have HRI := Lib.hid hRi
          clear hTi hRi
          go_wp2
          go_roundw
          case rel =>
            refine ⟨pos + 1, x + 1, y, z, by omega, ?_, by omega, by omega, by omega, ?_, HTI.out.set0 _, ?_, ?_⟩
            · obtain ⟨e1, e2, e3⟩ := HC.out
              refine ⟨?_, ?_, ?_⟩
              · rw [count_add _ _ _ _ HAT.out, e1, if_pos ((HCI.out 49).2 (by decide))]
              · rw [count_add _ _ _ _ HAT.out, e2, if_neg (fun h => absurd ((HCI.out 50).1 h) (by decide))]; rfl
              · rw [count_add _ _ _ _ HAT.out, e3, if_neg (fun h => absurd ((HCI.out 51).1 h) (by decide))]; rfl
            · rw [Below.heap_setCell _ _ _ _ (show w1.heap.size + 1 ≠ w1.heap.size by omega)]
              exact Lib.iterAt_heap wr (w1.heap.size + 1) b pos (pos + 1) HI.out
            · show _ = _
              rw [Below.heap_setCell _ _ _ _ (show w.heap.size ≠ w1.heap.size by omega)]
              exact HRI.out
            · exact (Lib.below_iterAt HB.out (show w.heap.size ≤ w1.heap.size + 1 by omega) b (pos + 1)).setCell (p := ⟨w1.heap.size, 0, none⟩) (show w.heap.size ≤ w1.heap.size by omega) _
          case measure =>
            have e1 := Lib.iterAt_heap wr (w1.heap.size + 1) b pos (pos + 1) HI.out
            rw [← Below.heap_setCell _ ⟨w1.heap.size, 0, none⟩ (.int .i64 ((x : Int) + 1)) _ (show w1.heap.size + 1 ≠ w1.heap.size by omega)] at e1
            simp only [World.iterPos, HI.out, e1]
            omega
        · by_cases h50 : c.toNat = 50
          · skip
            have hci : ∀ d : UInt8, c = d ↔ 50 = d.toNat := fun d => by rw [← h50, UInt8.toNat_inj]
            rw [h50] at hnx
            have HCI := Lib.hid hci
            clear hci h50
            have hTi : Three (wr.iterAt (w1.heap.size + 1) b (pos + 1)) w1.heap.size x y z := (Lib.iterAt_other _ _ _ _ _ (by omega)).trans HT.out
            have hRi : Three (wr.iterAt (w1.heap.size + 1) b (pos + 1)) w.heap.size 0 0 0 := (Lib.iterAt_other _ _ _ _ _ (by omega)).trans HR.out
            have hc0 := hTi.cell1
            have hf0 := hTi.frozen 1
            have HTI := Lib.hid hTi
            have HRI := Lib.hid hRi
            clear hTi hRi
            go_wp2
            go_roundw
            case rel =>
              refine ⟨pos + 1, x, y + 1, z, by omega, ?_, by omega, by omega, by omega, ?_, HTI.out.set1 _, ?_, ?_⟩
              · obtain ⟨e1, e2, e3⟩ := HC.out
                refine ⟨?_, ?_, ?_⟩
                · rw [count_add _ _ _ _ HAT.out, e1, if_neg (fun h => absurd ((HCI.out 49).1 h) (by decide))]; rfl
                · rw [count_add _ _ _ _ HAT.out, e2, if_pos ((HCI.out 50).2 (by decide))]
                · rw [count_add _ _ _ _ HAT.out, e3, if_neg (fun h => absurd ((HCI.out 51).1 h) (by decide))]; rfl
              · rw [Below.heap_setCell _ _ _ _ (show w1.heap.size + 1 ≠ w1.heap.size by omega)]
                exact Lib.iterAt_heap wr (w1.heap.size + 1) b pos (pos + 1) HI.out
              · show _ = _
                rw [Below.heap_setCell _ _ _ _ (show w.heap.size ≠ w1.heap.size by omega)]
                exact HRI.out
              · exact (Lib.below_iterAt HB.out (show w.heap.size ≤ w1.heap.size + 1 by omega) b (pos + 1)).setCell (p := ⟨w1.heap.size, 1, none⟩) (show w.heap.size ≤ w1.heap.size by omega) _
            case measure =>
              have e1 := Lib.iterAt_heap wr (w1.heap.size + 1) b pos (pos + 1) HI.out
              rw [← Below.heap_setCell _ ⟨w1.heap.size, 1, none⟩ (.int .i64 ((y : Int) + 1)) _ (show w1.heap.size + 1 ≠ w1.heap.size by omega)] at e1
              simp only [World.iterPos, HI.out, e1]
              omega
          · by_cases h51 : c.toNat = 51
            · skip
              have hci : ∀ d : UInt8, c = d ↔ 51 = d.toNat := fun d => by rw [← h51, UInt8.toNat_inj]
              rw [h51] at hnx
              have HCI := Lib.hid hci
              clear hci h51
              have hTi : Three (wr.iterAt (w1.heap.size + 1) b (pos + 1)) w1.heap.size x y z := (Lib.iterAt_other _ _ _ _ _ (by omega)).trans HT.out
              have hRi : Three (wr.iterAt (w1.heap.size + 1) b (pos + 1)) w.heap.size 0 0 0 := (Lib.iterAt_other _ _ _ _ _ (by omega)).trans HR.out
              have hc0 := hTi.cell2
              have hf0 := hTi.frozen 2
              have HTI := Lib.hid hTi
              have HRI := Lib.hid hRi
              clear hTi hRi
              go_wp2
              go_roundw
              case rel =>
                refine ⟨pos + 1, x, y, z + 1, by omega, ?_, by omega, by omega, by omega, ?_, HTI.out.set2 _, ?_, ?_⟩
                · obtain ⟨e1, e2, e3⟩ := HC.out
                  refine ⟨?_, ?_, ?_⟩
                  · rw [count_add _ _ _ _ HAT.out, e1, if_neg (fun h => absurd ((HCI.out 49).1 h) (by decide))]; rfl
                  · rw [count_add _ _ _ _ HAT.out, e2, if_neg (fun h => absurd ((HCI.out 50).1 h) (by decide))]; rfl
                  · rw [count_add _ _ _ _ HAT.out, e3, if_pos ((HCI.out 51).2 (by decide))]
                · rw [Below.heap_setCell _ _ _ _ (show w1.heap.size + 1 ≠ w1.heap.size by omega)]
                  exact Lib.iterAt_heap wr (w1.heap.size + 1) b pos (pos + 1) HI.out
                · show _ = _
                  rw [Below.heap_setCell _ _ _ _ (show w.heap.size ≠ w1.heap.size by omega)]
                  exact HRI.out
                · exact (Lib.below_iterAt HB.out (show w.heap.size ≤ w1.heap.size + 1 by omega) b (pos + 1)).setCell (p := ⟨w1.heap.size, 2, none⟩) (show w.heap.size ≤ w1.heap.size by omega) _
              case measure =>
                have e1 := Lib.iterAt_heap wr (w1.heap.size + 1) b pos (pos + 1) HI.out
                rw [← Below.heap_setCell _ ⟨w1.heap.size, 2, none⟩ (.int .i64 ((z : Int) + 1)) _ (show w1.heap.size + 1 ≠ w1.heap.size by omega)] at e1
                simp only [World.iterPos, HI.out, e1]
                omega
            · have hci : ∀ d : UInt8, d.toNat ≤ 51 → 49 ≤ d.toNat → c ≠ d := fun d h1 h2 h => by subst h; omega
              have HCI := Lib.hid hci
              have hd1 : decide ((c.toNat : Int) ≤ 51) = false := decide_eq_false (by omega)
              clear hci
              go_wp2
              go_roundw
              case rel =>
                refine ⟨pos + 1, x, y, z, by omega, ?_, by omega, by omega, by omega, Lib.iterAt_heap wr (w1.heap.size + 1) b pos (pos + 1) HI.out, (Lib.iterAt_other _ _ _ _ _ (by omega)).trans HT.out, (Lib.iterAt_other _ _ _ _ _ (by omega)).trans HR.out, Lib.below_iterAt HB.out (show w.heap.size ≤ w1.heap.size + 1 by omega) b (pos + 1)⟩
                obtain ⟨e1, e2, e3⟩ := HC.out
                refine ⟨?_, ?_, ?_⟩
                · rw [count_add _ _ _ _ HAT.out, e1, if_neg (HCI.out 49 (by decide) (by decide))]; rfl
                · rw [count_add _ _ _ _ HAT.out, e2, if_neg (HCI.out 50 (by decide) (by decide))]; rfl
                · rw [count_add _ _ _ _ HAT.out, e3, if_neg (HCI.out 51 (by decide) (by decide))]; rfl
              case measure =>
                simp only [World.iterPos, HI.out, Lib.iterAt_heap wr (w1.heap.size + 1) b pos (pos + 1) HI.out]
                omega
      · have hnx := fun ty => Lib.run_next_end_at (P := Try.prog) wr (w1.heap.size + 1) b pos ty hit hlt
        have HI : Hid (wr.heap[w1.heap.size + 1]? = some (.stringIter b pos)) := hit
        have HT := Lib.hid hT
        have HR := Lib.hid hR
        have HB := Lib.hid hB
        have c0 := hT.cell0
        have c1 := hT.cell1
        have c2 := hT.cell2
        have f0 := hR.frozen 0
        have f1 := hR.frozen 1
        have f2 := hR.frozen 2
        have r0 := hR.cell0
        have r1 := hR.cell1
        have r2 := hR.cell2
        clear hit hT hR hB
        go_wp2
        refine bodyPost_ret (results_three rfl _ _ w.heap.size rfl (((HR.out.set0 x).set1 y).set2 z)) rfl ?_
        refine ⟨?_, ((HB.out.setCell (p := ⟨w.heap.size, 0, none⟩) (Nat.le_refl _) _).setCell (p := ⟨w.heap.size, 1, none⟩) (Nat.le_refl _) _).setCell (p := ⟨w.heap.size, 2, none⟩) (Nat.le_refl _) _⟩
        obtain ⟨e1, e2, e3⟩ := HC.out
        rw [List.take_of_length_le (by rw [length_ls]; omega)] at e1 e2 e3
        rw [e1, e2, e3]
        rfl
end Go.Proofs.Ytodchgddkgjciaa
