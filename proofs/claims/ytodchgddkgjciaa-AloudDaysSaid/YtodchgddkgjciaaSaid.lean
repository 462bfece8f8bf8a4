/- What Said of the reference answers: the word that is said, or none. Conditions: the word has digits only, at least one and at most 1000000 of them. -/
import Derived.Test.YtodchgddkgjciaaSpelled
import Derived.Deep.AppendLies
import Derived.Deep.RegionHeld3
namespace Go.Proofs.Ytodchgddkgjciaa
set_option linter.unusedVariables false
set_option linter.unusedSimpArgs false
open Go Go.RowKit
theorem saidOf_take {R : List (Nat × UInt8)} {i : Nat} (h : i < R.length) : saidOf (R.take (i + 1)) = saidOf (R.take i) ++ [cd R[i].1, R[i].2] := by
  rw [List.take_succ_eq_append_getElem h]
  unfold saidOf
  rw [List.flatMap_append]
  rfl
set_option maxRecDepth 100000 in
set_option maxHeartbeats 2000000 in
theorem Said_any (s : ByteArray) (w : World) (hd : Digs (ls s)) (hne : ls s ≠ []) (hlen : s.size ≤ 1000000) :
    Calls Try.prog 41 #[.string s] w fun e w' => e = .returned (beforeV (say (ls s))) ∧ Below w.heap.size w w' := by
  obtain ⟨i0, hi, hz0, hz1, hz2⟩ := info_parts info5
  obtain ⟨R, hR⟩ : ∃ R, runs (ls s) = R := ⟨_, rfl⟩
  obtain ⟨n, hn⟩ : ∃ n, (rpairs (ls s)).length = n + 1 := by
    have := runs_ne hne
    refine ⟨(runs (ls s)).length - 1, ?_⟩
    unfold rpairs
    rw [List.length_map]
    have : (runs (ls s)).length ≠ 0 := by simpa using this
    omega
  have hnl : n + 1 ≤ s.size := by
    rw [← hn]
    unfold rpairs
    rw [List.length_map]
    have := length_runs_le (ls s)
    rw [length_ls] at this
    omega
  have hcr := refRuns_any s w hd hlen
  rw [hn] at hcr
  have HD := Lib.hid hd
  have HR := Lib.hid hR
  have HN := Lib.hid hn
  have HC := Lib.hid hcr
  clear hd hR hn hcr hne
  go_enter Try.func41, Try.ntmps41
  go_wp2_with (go_at_call 53; (with_reducible refine HC.out.mono ?_); rintro e w1 ⟨⟨v, rfl, hown⟩, hb1⟩; obtain ⟨g, cap, rfl⟩ := ownsRow_succ hown; have HOWN := Lib.hid hown; have HB1 := Lib.hid hb1; clear hown hb1)
  go_loopw [5, 6] (fun v5 v6 wr => ∃ i : Nat, v6 = .int .i64 i ∧ i ≤ n + 1 ∧ wr.ownsRow w.heap.size 5 1 v5 (saidOf (R.take i)).length (Lib.byteCells (saidOf (R.take i))) ∧ Hid (∀ p ∈ R.take i, p.1 ≤ 9) ∧
      Hid (wr.ownsRow w.heap.size 60 2 (.slice (some ⟨g, 0, none⟩) (n + 1) cap) (n + 1) (pcells (rpairs (ls s)))) ∧ Below w.heap.size w wr) (fun _ v6 _ => n + 1 - (intOf v6).toNat)
  case atStart => exact ⟨0, rfl, Nat.zero_le _, World.ownsRow_nil _ _ _ _, by intro p hp; simp at hp, HOWN, HB1.out⟩
  case round =>
    obtain ⟨i, rfl, hi2, hown, HALL, HP, hB⟩ := hrel
    have HB := Lib.hid hB
    have hsz := hB.size
    clear hB
    by_cases hlt : i < n + 1
    · have hLi : i < (rpairs (ls s)).length := by rw [HN.out]; exact hlt
      have hRi : i < R.length := by
        rw [← HR.out]
        unfold rpairs at hLi
        rwa [List.length_map] at hLi
      obtain ⟨p, hp⟩ : ∃ p, R[i] = p := ⟨_, rfl⟩
      have hpm : p ∈ runs (ls s) := by rw [HR.out, ← hp]; exact List.getElem_mem _
      have hpg : (rpairs (ls s))[i] = ((p.1 : Int), (p.2.toNat : Int) - 48) := by
        have e : (rpairs (ls s))[i]? = some (ipair (R[i])) := by rw [rpairs, HR.out, List.getElem?_map, List.getElem?_eq_getElem hRi]; rfl
        rw [hp] at e
        exact (List.getElem?_eq_some_iff.1 e).2
      have hpb := runs_mem hpm
      have hpd := runs_digs HD.out hpm
      rw [length_ls] at hpb
      obtain ⟨k, d⟩ := p
      obtain ⟨_, hk1, hk2⟩ := hpb
      simp only at hk1 hk2 hpd hpg
      have hg := pcells_get (rpairs (ls s)) i hLi
      rw [hpg] at hg
      have hc1 : wr.cell? ⟨g, i * 2, none⟩ = some (.int .i64 k) := by rw [HP.out.cellAt (i * 2) (by omega), hg.1]
      have hc2 : wr.cell? ⟨g, i * 2 + 1, none⟩ = some (.int .i64 ((d.toNat : Int) - 48)) := by rw [HP.out.cellAt (i * 2 + 1) (by omega), hg.2]
      have HPE := Lib.hid hp
      clear hg hpg hp hpm hLi
      by_cases h9 : 9 < k
      · have HOWN := Lib.hid hown
        clear hown
        go_wp2
        go_ret2
        refine ⟨?_, HB.out⟩
        have : say (ls s) = none := by
          unfold say
          rw [HR.out, if_neg]
          intro h
          have := List.all_eq_true.1 h (k, d) (by rw [← HPE.out]; exact List.getElem_mem _)
          simp at this
          omega
        rw [this, beforeV_none]
        rfl
      · obtain ⟨x, hx⟩ : ∃ x, saidOf (R.take i) = x := ⟨_, rfl⟩
        rw [hx] at hown
        have HOWN := Lib.hid hown
        clear hown
        go_wp2
        have g1 : IntKind.i64.wrap (48 + (k : Int)) = 48 + (k : Int) := IntWalk.i64_in _ (by omega)
        have g2 : IntKind.i64.wrap (48 + ((d.toNat : Int) - 48)) = 48 + ((d.toNat : Int) - 48) := IntWalk.i64_in _ (by omega)
        have g3 : (i : Int) < (n : Int) + 1 := by omega
        have e1 : IntKind.u8.wrap (48 + (k : Int)) = 48 + (k : Int) := IntWalk.u8_in _ (by omega)
        have e2 : IntKind.u8.wrap (48 + ((d.toNat : Int) - 48)) = (d.toNat : Int) := by rw [IntWalk.u8_in _ (by omega)]; omega
        have hglt : g < wr.heap.size := (HP.out.lt g rfl).2
        have ag : u5.ownBlock ≠ some g := by
          rcases rows_apart HOWN.out HP.out (by decide) with h | h
          · rw [h]; simp
          · simpa [Value.ownBlock] using h
        have hxl : x.length ≤ 2 * s.size := by
          rw [← hx, saidOf_length, List.length_take]
          omega
        have HXX := Lib.hid hx
        have hw0 : w.heap.size ≤ wr.heap.size := HB.out.size
        clear hx
        go_region_held3 (fun w' => w'.cell? ⟨g, i * 2, none⟩ = some (.int .i64 k) ∧ w'.cell? ⟨g, i * 2 + 1, none⟩ = some (.int .i64 ((d.toNat : Int) - 48)))
          (first
            | go_keep
            | (go_split_ands
               refine ⟨?_, ?_⟩
               · (rw [hgrow.cell_far _ (by simp; omega) (Ne.symm ag)]; assumption)
               · (rw [hgrow.cell_far _ (by simp; omega) (Ne.symm ag)]; assumption)))
          ((refine step_append_lies _ (by rfl) _ _ _ (by rfl) w.heap.size 5 i0 _ 1 1 Try.underlying62 hi hz0 hz1 hz2 rfl (by omega) u5 x.length (Lib.byteCells x) (by rfl) ((HOWN.out.alloc _).drew) ⟨wr.heap.size, 0, none⟩ 2 2 [.int .u8 (48 + (k : Int)), .int .u8 d.toNat] (by rfl) (by rfl) (World.news_of_block (cs := #[.int .u8 (48 + (k : Int)), .int .u8 d.toNat]) (t := 5) (fr := (0, 0)) (heap_alloc_new wr _)) (by simp [Value.oneCell']) (by omega) (by unfold maxLen; omega) (by omega) (by simp; omega) (wr.heap.size + 1) (by simp) ?_; intro gg cap1 w2 hown1 hgrow hat hlt1))
        have HO := Lib.hid hown1
        have HG := Lib.hid hgrow
        clear hown1 hgrow hat hlt1 g1 g2 e1 e2
        go_wp2
        go_roundw
        case rel =>
          have hst : saidOf (R.take (i + 1)) = x ++ [cd k, d] := by rw [saidOf_take hRi, HXX.out, HPE.out]
          have hcd : ((cd k).toNat : Int) = 48 + (k : Int) := by rw [cd_toNat (by omega)]; omega
          refine ⟨i + 1, by go_num, by omega, ?_, ?_, ?_, ?_⟩
          · rw [hst, List.length_append]
            have e : Lib.byteCells (x ++ [cd k, d]) = Lib.byteCells x ++ [.int .u8 (48 + (k : Int)), .int .u8 d.toNat] := by
              rw [← hcd]; simp [Lib.byteCells]
            rw [e]
            exact HO.out
          · intro p hp
            rw [List.take_succ_eq_append_getElem hRi, HPE.out] at hp
            rcases List.mem_append.1 hp with hp | hp
            · exact HALL.out p hp
            · simp at hp; subst hp; simp; omega
          · refine ((HP.out.alloc _).drew).kept HG.out ?_
            exact .inr fun e => ag e.symm
          · exact ((HB.out.alloc hw0 _).drew).grown HG.out (by simp; omega) (fun j hj => (HOWN.out.lt j hj).1)
        case measure => simp [intOf]; omega
    · have hall : R.take i = R := by
        refine List.take_of_length_le ?_
        have := HN.out
        rw [rpairs, List.length_map, HR.out] at this
        omega
      rw [hall] at hown
      have hcv := conv_own hown
      have HALL2 := HALL.out
      rw [hall] at HALL2
      have HA2 := Lib.hid HALL2
      clear hown HALL2 hall
      go_wp2
      go_ret2
      refine ⟨?_, HB.out⟩
      have : say (ls s) = some (saidOf R) := by
        unfold say
        rw [HR.out, if_pos]
        rw [List.all_eq_true]
        intro p hp
        simpa using HA2.out p hp
      rw [this, beforeV_some]
      rfl
end Go.Proofs.Ytodchgddkgjciaa
