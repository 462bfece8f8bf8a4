/- What Count of the reference answers. Conditions: lengths within the reach of the form. -/
import Derived.Test.YtodchgddkgjciaaRefDays
namespace Go.Proofs.Ytodchgddkgjciaa
set_option linter.unusedVariables false
set_option linter.unusedSimpArgs false
open Go Go.RowKit
theorem outS_digs {s : ByteArray} {many : Int} {r : Except Int (List UInt8)} (hr : daysE many (ls s) = r) : ∃ b : ByteArray, bs (wordOf r) = b ∧ wordOf r = ls b ∧ Digs (ls b) ∧ b.size ≤ 100000 := by
  refine ⟨_, rfl, (ls_bs _).symm, ?_⟩
  rw [ls_bs, size_bs]
  cases r with
  | error e => exact ⟨Digs.nil, Nat.zero_le _⟩
  | ok l =>
    obtain ⟨h0, n, rfl, hn, hdy⟩ := daysE_yes hr
    obtain ⟨h1, h2, h3⟩ := wordE_zero.1 h0
    exact ⟨days_digs h2 hdy, days_len hdy (by omega)⟩
set_option maxHeartbeats 4000000 in
set_option maxRecDepth 100000 in
theorem RefCount_any (s : ByteArray) (many : Int) (w : World) (hlen : s.size ≤ 140737488351232) :
    Calls Try.prog 31 #[.string s, .int .i64 many] w fun e w' => e = .returned (outC (daysE many (ls s))) ∧ Below w.heap.size w w' := by
  obtain ⟨r, hr⟩ : ∃ r, daysE many (ls s) = r := ⟨_, rfl⟩
  obtain ⟨b, hb1, hb2, hb3, hb4⟩ := outS_digs hr
  obtain ⟨k, hk⟩ : ∃ k, errOf r = k := ⟨_, rfl⟩
  have hd := fun W => RefDays_any s many W hlen
  rw [hr, outS, hb1, hk] at hd
  rw [hr, outC, hb2, hk]
  have HD := Lib.hid hd
  have HDG := Lib.hid hb3
  clear hr hb1 hb2 hk hd hb3
  go_enter Try.func31, Try.ntmps31
  go_wp2_with (first | (go_at_call 29; (with_reducible refine (HD.out _).mono ?_); rintro e w1 ⟨rfl, hb⟩; have HBA := Lib.hid hb; clear hb; have ht : Three w1 w.heap.size 0 0 0 := (HBA.out.block _ (by simp)).trans (World.alloc_heap_new _ _); have hlt0 : w.heap.size < w1.heap.size := ht.lt))
  go_loopw [9] (fun v9 wi => ∃ (pos x y z : Nat), v9 = .int .i64 pos ∧ pos ≤ b.size ∧ Hid (x = ((ls b).take pos).count 49 ∧ y = ((ls b).take pos).count 50 ∧ z = ((ls b).take pos).count 51) ∧ x ≤ pos ∧ y ≤ pos ∧ z ≤ pos ∧ Three wi w1.heap.size x y z ∧ Three wi w.heap.size 0 0 0 ∧ Below w.heap.size w wi) (fun v9 _ => b.size - (intOf v9).toNat)
  case atStart =>
    refine ⟨0, 0, 0, 0, rfl, Nat.zero_le _, ⟨rfl, rfl, rfl⟩, Nat.le_refl _, Nat.le_refl _, Nat.le_refl _, World.alloc_heap_new _ _, (Below.heap_alloc _ _ _ (by omega)).trans ht, ?_⟩
    have hB : Below w.heap.size w w1 := ((Below.refl _ _).alloc (Nat.le_refl _) _).trans (HBA.out.mono (by simp))
    exact hB.alloc hB.size _
  case round =>
    obtain ⟨pos, x, y, z, rfl, hp, HC, hx, hy, hz, hT, hR, hB⟩ := hrel
    have HT := Lib.hid hT
    have HR := Lib.hid hR
    have HB := Lib.hid hB
    by_cases hlt : pos < b.size
    · have hdd := HDG.out _ (mem_ls b pos hlt)
      obtain ⟨c, hc⟩ : ∃ c, (b[pos]'hlt) = c := ⟨_, rfl⟩
      rw [hc] at hdd
      have HAT := Lib.hid (show (ls b)[pos]? = some c by rw [List.getElem?_eq_getElem (by rw [length_ls]; exact hlt), ← hc]; rfl)
      have f1 : (pos : Int) < (b.size : Int) := by omega
      by_cases h49 : c.toNat = 49
      · have hci : ∀ d : UInt8, c = d ↔ 49 = d.toNat := fun d => by rw [← h49, UInt8.toNat_inj]
        have HCI := Lib.hid hci
        have hc0 := hT.cell0
        have hf0 := hT.frozen 0
        clear hci hT hR hB
        go_wp2
        go_roundw
        case rel =>
          refine ⟨pos + 1, x + 1, y, z, by go_num, by omega, ?_, by omega, by omega, by omega, HT.out.set0 _, ?_, ?_⟩
          · obtain ⟨e1, e2, e3⟩ := HC.out
            refine ⟨?_, ?_, ?_⟩
            · rw [count_add _ _ _ _ HAT.out, e1, if_pos ((HCI.out 49).2 (by decide))]
            · rw [count_add _ _ _ _ HAT.out, e2, if_neg (fun h => absurd ((HCI.out 50).1 h) (by decide))]; rfl
            · rw [count_add _ _ _ _ HAT.out, e3, if_neg (fun h => absurd ((HCI.out 51).1 h) (by decide))]; rfl
          · show _ = _
            rw [Below.heap_setCell _ _ _ _ (show w.heap.size ≠ w1.heap.size by omega)]
            exact HR.out
          · exact HB.out.setCell (p := ⟨w1.heap.size, 0, none⟩) (show w.heap.size ≤ w1.heap.size by omega) _
        case measure => simp [intOf]; omega
      · skip
        by_cases h50 : c.toNat = 50
        · have hci : ∀ d : UInt8, c = d ↔ 50 = d.toNat := fun d => by rw [← h50, UInt8.toNat_inj]
          have HCI := Lib.hid hci
          have hc0 := hT.cell1
          have hf0 := hT.frozen 1
          clear hci hT hR hB
          go_wp2
          go_roundw
          case rel =>
            refine ⟨pos + 1, x, y + 1, z, by go_num, by omega, ?_, by omega, by omega, by omega, HT.out.set1 _, ?_, ?_⟩
            · obtain ⟨e1, e2, e3⟩ := HC.out
              refine ⟨?_, ?_, ?_⟩
              · rw [count_add _ _ _ _ HAT.out, e1, if_neg (fun h => absurd ((HCI.out 49).1 h) (by decide))]; rfl
              · rw [count_add _ _ _ _ HAT.out, e2, if_pos ((HCI.out 50).2 (by decide))]
              · rw [count_add _ _ _ _ HAT.out, e3, if_neg (fun h => absurd ((HCI.out 51).1 h) (by decide))]; rfl
            · show _ = _
              rw [Below.heap_setCell _ _ _ _ (show w.heap.size ≠ w1.heap.size by omega)]
              exact HR.out
            · exact HB.out.setCell (p := ⟨w1.heap.size, 1, none⟩) (show w.heap.size ≤ w1.heap.size by omega) _
          case measure => simp [intOf]; omega
        · skip
          by_cases h51 : c.toNat = 51
          · have hci : ∀ d : UInt8, c = d ↔ 51 = d.toNat := fun d => by rw [← h51, UInt8.toNat_inj]
            have HCI := Lib.hid hci
            have hc0 := hT.cell2
            have hf0 := hT.frozen 2
            clear hci hT hR hB
            go_wp2
            go_roundw
            case rel =>
              refine ⟨pos + 1, x, y, z + 1, by go_num, by omega, ?_, by omega, by omega, by omega, HT.out.set2 _, ?_, ?_⟩
              · obtain ⟨e1, e2, e3⟩ := HC.out
                refine ⟨?_, ?_, ?_⟩
                · rw [count_add _ _ _ _ HAT.out, e1, if_neg (fun h => absurd ((HCI.out 49).1 h) (by decide))]; rfl
                · rw [count_add _ _ _ _ HAT.out, e2, if_neg (fun h => absurd ((HCI.out 50).1 h) (by decide))]; rfl
                · rw [count_add _ _ _ _ HAT.out, e3, if_pos ((HCI.out 51).2 (by decide))]
              · show _ = _
                rw [Below.heap_setCell _ _ _ _ (show w.heap.size ≠ w1.heap.size by omega)]
                exact HR.out
              · exact HB.out.setCell (p := ⟨w1.heap.size, 2, none⟩) (show w.heap.size ≤ w1.heap.size by omega) _
            case measure => simp [intOf]; omega
          · skip
            have h52 : ¬ c.toNat ≤ 51 := by omega
            have h52' : ¬ (c.toNat : Int) ≤ 51 := by omega
            clear hT hR hB h49 h50 h51
            go_wp2
            go_roundw
            case rel =>
              refine ⟨pos + 1, x, y, z, by go_num, by omega, ?_, by omega, by omega, by omega, HT.out, HR.out, HB.out⟩
              obtain ⟨e1, e2, e3⟩ := HC.out
              have hno : ∀ d : UInt8, d.toNat ≤ 51 → ¬ c = d := fun d hd h => by rw [h] at h52; exact h52 hd
              refine ⟨?_, ?_, ?_⟩
              · rw [count_add _ _ _ _ HAT.out, e1, if_neg (hno 49 (by decide))]; rfl
              · rw [count_add _ _ _ _ HAT.out, e2, if_neg (hno 50 (by decide))]; rfl
              · rw [count_add _ _ _ _ HAT.out, e3, if_neg (hno 51 (by decide))]; rfl
            case measure => simp [intOf]; omega
    · obtain ⟨e1, e2, e3⟩ := HC.out
      rw [List.take_of_length_le (by rw [length_ls]; omega)] at e1 e2 e3
      have HE := Lib.hid (And.intro e1 (And.intro e2 e3))
      have c0 := hT.cell0
      have c1 := hT.cell1
      have c2 := hT.cell2
      have f0 := hR.frozen 0
      have f1 := hR.frozen 1
      have f2 := hR.frozen 2
      have r0 := hR.cell0
      have r1 := hR.cell1
      have r2 := hR.cell2
      clear hT hR hB e1 e2 e3
      go_wp2
      refine bodyPost_ret (results_three rfl _ _ w.heap.size rfl (((HR.out.set0 x).set1 y).set2 z)) rfl ?_
      refine ⟨?_, ?_⟩
      · obtain ⟨e1, e2, e3⟩ := HE.out
        rw [cnt, ← e1, ← e2, ← e3]
        rfl
      · exact ((HB.out.setCell (p := ⟨w.heap.size, 0, none⟩) (Nat.le_refl _) _).setCell (p := ⟨w.heap.size, 1, none⟩) (Nat.le_refl _) _).setCell (p := ⟨w.heap.size, 2, none⟩) (Nat.le_refl _) _
end Go.Proofs.Ytodchgddkgjciaa
