/- What the functions read and cutLeft of package aloud answer. Conditions: lengths within the form's reach. -/
import Derived.Test.YtodchgddkgjciaaBase
namespace Go.Proofs.Ytodchgddkgjciaa
set_option linter.unusedVariables false
set_option linter.unusedSimpArgs false
open Go Go.RowKit
set_option maxHeartbeats 800000 in
theorem read_any (ss : List ByteArray) (b off cap : Nat) (w : World) (hn : ss.length ≤ 1000) (hcell : ∀ j (h: j < ss.length), w.cell? ⟨b, off + j, none⟩ = some (.string ss[j])) (hb : b < w.heap.size) (hlen : ∀ s ∈ ss, s.size ≤ 140737488351232) :
    Calls Try.prog 39 #[.slice (some ⟨b, off, none⟩) ss.length cap] w fun e w' => e = .returned (.int .i64 (readE (ss.map ls))) ∧ Below w.heap.size w w' := by
  go_enter Try.func39, Try.ntmps39
  go_wp2
  go_loopw [9] (fun i wr => ∃ k : Nat, k ≤ ss.length ∧ i = .int .i64 k ∧ Below w.heap.size w wr ∧ readE ((ss.drop k).map ls) = readE (ss.map ls)) (fun i _ => ss.length - (intOf i).toNat)
  case atStart => exact ⟨0, Nat.zero_le _, rfl, Below.refl _ _, rfl⟩
  case round =>
    obtain ⟨k, hk, rfl, hB, hR⟩ := hrel
    by_cases hlt : k < ss.length
    · have hc := (hB.cell (p := ⟨b, off + k, none⟩) hb).trans (hcell k hlt)
      have hsl : (ss[k]).size ≤ 140737488351232 := hlen _ (List.getElem_mem hlt)
      have HR : Hid (readE ((ss.drop k).map ls) = readE (ss.map ls)) := hR
      clear hR hcell hlen
      obtain ⟨s, hs⟩ : ∃ s, ss[k] = s := ⟨_, rfl⟩
      rw [hs] at hc hsl
      have HS : Hid (ss[k] = s) := hs
      clear hs
      by_cases h200 : 200 < s.size
      · go_wp2
        go_ret
        exact ⟨by rw [← HR.out, readE_step hlt, HS.out, wordE_long h200]; rfl, hB⟩
      · by_cases h0 : s.size = 0
        · have h01 := isEmpty_of_zero h0
          go_wp2
          go_ret
          exact ⟨by rw [← HR.out, readE_step hlt, HS.out, wordE_none h0]; rfl, hB⟩
        · have h01 := isEmpty_of_pos h0
          obtain ⟨wo, rfl⟩ : ∃ wo : World, wo = wr := ⟨_, rfl⟩
          have hsz := hB.size
          go_wp2
          go_loopw [] (fun wi => ∃ pos : Nat, pos ≤ s.size ∧ (∀ i (hi : i < s.size), i < pos → isDig (s[i]'hi) = true) ∧ wi.heap[wo.heap.size]? = some (.stringIter s pos) ∧ Below w.heap.size w wi) (fun wi => s.size - wi.iterPos wo.heap.size)
          case atStart => exact ⟨0, Nat.zero_le _, fun i _ h => absurd h (by omega), World.iter_heap wo s 0, hB.alloc hsz _⟩
          case round =>
            obtain ⟨pos, hp, hall, hit, hBi⟩ := hrel
            by_cases hlt2 : pos < s.size
            · have hnx := fun ty => Lib.run_next_any_at (P := Try.prog) wr wo.heap.size s pos ty hit hlt2
              by_cases hd : isDig (s[pos]'hlt2) = true
              · rw [decode_dig hlt2 hd] at hnx
                have hdd := isDig_iff.1 hd
                have HA : Hid (∀ i (hi : i < s.size), i < pos → isDig (s[i]'hi) = true) := hall
                have HD : Hid (isDig (s[pos]'hlt2) = true) := hd
                have HI : Hid (wr.heap[wo.heap.size]? = some (.stringIter s pos)) := hit
                clear hall hd hit
                go_wp2
                go_roundw
                case rel =>
                  refine ⟨pos + 1, by omega, fun i hi hlt3 => ?_, Lib.iterAt_heap wr wo.heap.size s pos (pos + 1) HI.out, Lib.below_iterAt hBi hsz s (pos + 1)⟩
                  by_cases e : i = pos
                  · subst e; exact HD.out
                  · exact HA.out i hi (by omega)
                case measure =>
                  simp only [World.iterPos, HI.out, Lib.iterAt_heap wr wo.heap.size s pos (pos + 1) HI.out]
                  omega
              · replace hd := by simpa using hd
                have hr := decode_not hlt2 hd
                obtain ⟨r, wd, hdec⟩ : ∃ r wd, Utf8.decode s pos = (r, wd) := ⟨_, _, rfl⟩
                rw [hdec] at hnx hr
                have HD : Hid (isDig (s[pos]'hlt2) = false) := hd
                have HI : Hid (wr.heap[wo.heap.size]? = some (.stringIter s pos)) := hit
                clear hall hd hit hdec
                have hbel := Lib.below_iterAt hBi hsz s (pos + wd)
                rcases hr with hr | hr
                all_goals
                  go_wp2
                  go_ret
                  exact ⟨by rw [← HR.out, readE_step hlt, HS.out, wordE_bad h200 hlt2 HD.out]; rfl, hbel⟩
            · have hnx := fun ty => Lib.run_next_end_at (P := Try.prog) wr wo.heap.size s pos ty hit hlt2
              have HA : Hid (∀ i (hi : i < s.size), i < pos → isDig (s[i]'hi) = true) := hall
              clear hall hit
              go_wp2
              go_roundw
              case rel => exact ⟨k + 1, by omega, by go_num, hBi, by rw [← HR.out, readE_step hlt, HS.out, if_pos (wordE_good h200 h0 fun i hi => HA.out i hi (by omega))]⟩
              case measure => simp [intOf]; omega
    · go_wp2
      go_ret
      exact ⟨by rw [← hR, List.drop_of_length_le (by omega)]; rfl, hB⟩
theorem dropWhile_none {c : UInt8} {l : List UInt8} (h : ∀ d ∈ l, d = c) : l.dropWhile (· == c) = [] := by
  induction l with
  | nil => rfl
  | cons d l ih =>
    rw [List.dropWhile_cons_of_pos (by simp [h d (by simp)])]
    exact ih fun e he => h e (by simp [he])
theorem dropWhile_all {s : ByteArray} {c : UInt8} (h : ∀ i (hi : i < s.size), (s[i]'hi) = c) : (ls s).dropWhile (· == c) = [] := by
  refine dropWhile_none fun d hd => ?_
  obtain ⟨i, hi, rfl⟩ := List.getElem_of_mem hd
  rw [length_ls] at hi
  rw [get_ls s i hi]
  exact h i hi
theorem dropWhile_from {c : UInt8} {l : List UInt8} {k : Nat} (hk : k < l.length) (h : ∀ i (hi : i < l.length), i < k → l[i] = c) (hne : l[k] ≠ c) : l.dropWhile (· == c) = l.drop k := by
  induction l generalizing k with
  | nil => simp at hk
  | cons d l ih =>
    cases k with
    | zero => rw [List.dropWhile_cons_of_neg (by simpa using hne)]; rfl
    | succ k =>
      have h0 := h 0 (by simp) (by omega)
      rw [List.dropWhile_cons_of_pos (by simpa using h0)]
      exact ih (by simpa using hk) (fun i hi hik => h (i + 1) (by simpa using hi) (by omega)) (by simpa using hne)
theorem ls_extract (s : ByteArray) (a b : Nat) : ls (s.extract a b) = ((ls s).take b).drop a := by
  simp [ls, ByteArray.data_extract, List.drop_take]
theorem extract_cut {s : ByteArray} {c : UInt8} {k : Nat} (hk : k < s.size) (h : ∀ i (hi : i < s.size), i < k → (s[i]'hi) = c) (hne : (s[k]'hk) ≠ c) : s.extract k s.size = bs ((ls s).dropWhile (· == c)) := by
  have hl : k < (ls s).length := by rw [length_ls]; exact hk
  have h2 : ∀ i (hi : i < (ls s).length), i < k → (ls s)[i] = c := fun i hi hik => h i (by rw [length_ls] at hi; exact hi) hik
  have h3 := dropWhile_from (l := ls s) hl h2 hne
  apply ls_inj
  rw [ls_bs, ls_extract, List.take_of_length_le (by rw [length_ls]; omega), h3]
theorem ret_string {a b : ByteArray} (h : a = b) : Ending.returned (.string a) = Ending.returned (.string b) := by rw [h]
set_option maxHeartbeats 800000 in
theorem cutLeft_any (s t : ByteArray) (c : UInt8) (w : World) (ht : ls t = [c]) (hc : 49 ≤ c.toNat ∧ c.toNat ≤ 57) (hs : Digs (ls s)) (hlen : s.size ≤ 140737488351232) :
    Calls Try.prog 56 #[.string s, .string t] w fun e w' => e = .returned (.string (bs ((ls s).dropWhile (· == c)))) ∧ Below w.heap.size w w' := by
  have ht1 : t.size = 1 := by rw [← length_ls, ht]; rfl
  have ht0 : ∀ h : 0 < t.size, (t[0]'h) = c := by
    intro h
    rw [← get_ls t 0 h]
    simp [ht]
  have HDS : Hid (Digs (ls s)) := hs
  have HT : Hid (ls t = [c]) := ht
  have HT1 : Hid (t.size = 1) := ht1
  have HT0 : Hid (∀ h : 0 < t.size, (t[0]'h) = c) := ht0
  clear hs ht ht0 ht1
  go_enter Try.func56, Try.ntmps56
  go_wp2
  go_loopw [] (fun wr => ∃ pos : Nat, pos ≤ s.size ∧ (∀ i (hi : i < s.size), i < pos → (s[i]'hi) = c) ∧ wr.heap[w.heap.size]? = some (.stringIter s pos) ∧ Below w.heap.size w wr) (fun wr => s.size - wr.iterPos w.heap.size)
  case atStart => exact ⟨0, Nat.zero_le _, fun i _ h => absurd h (by omega), World.iter_heap w s 0, (Below.refl _ _).alloc (Nat.le_refl _) _⟩
  case round =>
    obtain ⟨pos, hp, hall, hit, hB⟩ := hrel
    obtain ⟨wo, rfl⟩ : ∃ wo : World, wo = wr := ⟨_, rfl⟩
    have HA : Hid (∀ i (hi : i < s.size), i < pos → (s[i]'hi) = c) := hall
    clear hall
    by_cases hlt : pos < s.size
    · have hdd : 49 ≤ (s[pos]'hlt).toNat ∧ (s[pos]'hlt).toNat ≤ 57 := HDS.out _ (by rw [← get_ls s pos hlt]; exact List.getElem_mem _)
      have hnx := fun ty => Lib.run_next_any_at (P := Try.prog) wo w.heap.size s pos ty hit hlt
      rw [decode_dig hlt (isDig_iff.2 hdd)] at hnx
      have HI : Hid (wo.heap[w.heap.size]? = some (.stringIter s pos)) := hit
      clear hit
      obtain ⟨x, hx⟩ : ∃ x, (s[pos]'hlt) = x := ⟨_, rfl⟩
      rw [hx] at hnx hdd
      have HX : Hid ((s[pos]'hlt) = x) := hx
      clear hx
      have hsz := hB.size
      have hsw : (wo.iterAt w.heap.size s (pos + 1)).heap.size = wo.heap.size := Lib.iterAt_size _ _ _ _
      have HB1 : Hid (Below w.heap.size w (wo.iterAt w.heap.size s (pos + 1))) := Lib.below_iterAt hB (Nat.le_refl _) s (pos + 1)
      have HI1 : Hid ((wo.iterAt w.heap.size s (pos + 1)).heap[w.heap.size]? = some (.stringIter s (pos + 1))) := Lib.iterAt_heap wo w.heap.size s pos (pos + 1) HI.out
      have hlt' : w.heap.size < wo.heap.size := (Array.getElem?_eq_some_iff.1 HI.out).1
      by_cases hxc : x = c
      · have hxb : ((x.toNat : Int) == (c.toNat : Int)) = true := by rw [hxc]; simp
        have HXC : Hid (x = c) := hxc
        clear hxc
        go_wp2
        go_loopw [7] (fun v wi => ∃ p2 : Nat, ((p2 = 0 ∧ v = .bool false) ∨ (p2 = 1 ∧ v = .bool true)) ∧ wi.heap[wo.heap.size]? = some (.stringIter t p2) ∧ wi.heap[w.heap.size]? = some (.stringIter s (pos + 1)) ∧ Below w.heap.size w wi) (fun _ wi => 1 - wi.iterPos wo.heap.size)
        case atStart =>
          refine ⟨0, .inl ⟨rfl, rfl⟩, ?_, ?_, ?_⟩
          · have := World.iter_heap (wo.iterAt w.heap.size s (pos + 1)) t 0
            rw [hsw] at this; exact this
          · exact (Below.heap_alloc _ _ _ (by rw [hsw]; exact hlt')).trans HI1.out
          · exact HB1.out.alloc (by rw [hsw]; exact hsz) _
        case round =>
          obtain ⟨p2, hp2, hit2, hits, hB2⟩ := hrel
          rcases hp2 with ⟨rfl, rfl⟩ | ⟨rfl, rfl⟩
          · have hnx2 := fun ty => Lib.run_next_any_at (P := Try.prog) wr wo.heap.size t 0 ty hit2 (by have := HT1.out; omega)
            rw [decode_dig (by have := HT1.out; omega) (isDig_iff.2 (by rw [HT0.out]; exact hc)), HT0.out] at hnx2
            have HI2 : Hid (wr.heap[wo.heap.size]? = some (.stringIter t 0)) := hit2
            have HIS : Hid (wr.heap[w.heap.size]? = some (.stringIter s (pos + 1))) := hits
            clear hit2 hits
            go_wp2
            go_roundw
            case rel =>
              exact ⟨1, .inr ⟨rfl, rfl⟩, Lib.iterAt_heap wr wo.heap.size t 0 1 HI2.out, (Lib.iterAt_other wr wo.heap.size w.heap.size t 1 (by omega)).trans HIS.out, Lib.below_iterAt hB2 hsz t 1⟩
            case measure =>
              simp only [World.iterPos, HI2.out, Lib.iterAt_heap wr wo.heap.size t 0 1 HI2.out]
              omega
          · have hnx2 := fun ty => Lib.run_next_end_at (P := Try.prog) wr wo.heap.size t 1 ty hit2 (by have := HT1.out; omega)
            have HIS : Hid (wr.heap[w.heap.size]? = some (.stringIter s (pos + 1))) := hits
            clear hit2 hits
            go_wp2
            go_roundw
            case rel =>
              refine ⟨pos + 1, by omega, fun i hi hlt3 => ?_, HIS.out, hB2⟩
              by_cases e : i = pos
              · subst e; exact HX.out.trans HXC.out
              · exact HA.out i hi (by omega)
            case measure =>
              simp only [World.iterPos, HI.out, HIS.out]
              omega
      · have hxb : ((x.toNat : Int) == (c.toNat : Int)) = false := by
          rw [beq_eq_false_iff_ne]
          intro h
          exact hxc (UInt8.toNat_inj.1 (by omega))
        have HXC : Hid (x ≠ c) := hxc
        clear hxc
        go_wp2
        go_loopw [7] (fun v wi => ∃ p2 : Nat, ((p2 = 0 ∧ v = .bool false) ∨ (p2 = 1 ∧ v = .bool false)) ∧ wi.heap[wo.heap.size]? = some (.stringIter t p2) ∧ wi.heap[w.heap.size]? = some (.stringIter s (pos + 1)) ∧ Below w.heap.size w wi) (fun _ wi => 1 - wi.iterPos wo.heap.size)
        case atStart =>
          refine ⟨0, .inl ⟨rfl, rfl⟩, ?_, ?_, ?_⟩
          · have := World.iter_heap (wo.iterAt w.heap.size s (pos + 1)) t 0
            rw [hsw] at this; exact this
          · exact (Below.heap_alloc _ _ _ (by rw [hsw]; exact hlt')).trans HI1.out
          · exact HB1.out.alloc (by rw [hsw]; exact hsz) _
        case round =>
          obtain ⟨p2, hp2, hit2, hits, hB2⟩ := hrel
          rcases hp2 with ⟨rfl, rfl⟩ | ⟨rfl, rfl⟩
          · have hnx2 := fun ty => Lib.run_next_any_at (P := Try.prog) wr wo.heap.size t 0 ty hit2 (by have := HT1.out; omega)
            rw [decode_dig (by have := HT1.out; omega) (isDig_iff.2 (by rw [HT0.out]; exact hc)), HT0.out] at hnx2
            have HI2 : Hid (wr.heap[wo.heap.size]? = some (.stringIter t 0)) := hit2
            have HIS : Hid (wr.heap[w.heap.size]? = some (.stringIter s (pos + 1))) := hits
            clear hit2 hits
            go_wp2
            go_roundw
            case rel =>
              exact ⟨1, .inr ⟨rfl, rfl⟩, Lib.iterAt_heap wr wo.heap.size t 0 1 HI2.out, (Lib.iterAt_other wr wo.heap.size w.heap.size t 1 (by omega)).trans HIS.out, Lib.below_iterAt hB2 hsz t 1⟩
            case measure =>
              simp only [World.iterPos, HI2.out, Lib.iterAt_heap wr wo.heap.size t 0 1 HI2.out]
              omega
          · have hnx2 := fun ty => Lib.run_next_end_at (P := Try.prog) wr wo.heap.size t 1 ty hit2 (by have := HT1.out; omega)
            have HIS : Hid (wr.heap[w.heap.size]? = some (.stringIter s (pos + 1))) := hits
            clear hit2 hits
            go_wp2
            go_ret
            exact ⟨ret_string (extract_cut hlt (fun i hi h => HA.out i hi h) (fun h => HXC.out (HX.out.symm.trans h))), hB2⟩
    · have hnx := fun ty => Lib.run_next_end_at (P := Try.prog) wo w.heap.size s pos ty hit hlt
      go_wp2
      go_ret
      exact ⟨by
        have : (ls s).dropWhile (· == c) = [] := by
          exact dropWhile_all fun i hi => HA.out i hi (by omega)
        rw [this]; rfl, hB⟩
end Go.Proofs.Ytodchgddkgjciaa
