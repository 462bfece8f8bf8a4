/- What Heard of the reference answers: the word of which a word is said, or that there is none. Conditions: the word has digits only, at least one and at most 1000000 of them. -/
import Derived.Test.YtodchgddkgjciaaSpelled
import Derived.Deep.AppendLies
import Derived.Deep.RegionHeld3
namespace Go.Proofs.Ytodchgddkgjciaa
set_option linter.unusedVariables false
set_option linter.unusedSimpArgs false
open Go Go.RowKit
/-- Two digits as a pair of numbers. -/
def hpair (x y : UInt8) : Int × Int := ((x.toNat : Int) - 48, (y.toNat : Int) - 48)
theorem spell_snoc (P : List (Int × Int)) {x y : UInt8} (hy : 48 ≤ y.toNat) : spell (P ++ [hpair x y]) = spell P ++ List.replicate (x.toNat - 48) y := by
  unfold spell hpair
  rw [List.flatMap_append]
  congr 1
  have e1 : ((x.toNat : Int) - 48).toNat = x.toNat - 48 := by omega
  have e2 : UInt8.ofNat (48 + ((y.toNat : Int) - 48).toNat) = y := by
    rw [show 48 + ((y.toNat : Int) - 48).toNat = y.toNat by omega]
    simp
  simp only [List.flatMap_cons, List.flatMap_nil, List.append_nil]
  rw [e1, e2]
theorem spell_len : ∀ (P : List (Int × Int)), (∀ p ∈ P, p.1 ≤ 9) → (spell P).length ≤ 9 * P.length
  | [], _ => Nat.le_refl _
  | p :: P, h => by
    have h1 := spell_len P (fun q hq => h q (List.mem_cons_of_mem _ hq))
    have h2 := h p (List.mem_cons_self ..)
    have e : spell (p :: P) = List.replicate p.1.toNat (UInt8.ofNat (48 + p.2.toNat)) ++ spell P := rfl
    rw [e, List.length_append, List.length_replicate, List.length_cons]
    omega
/-- The digit ahead of place i; 0 at the first place. -/
def lastC (l : List UInt8) (i : Nat) : UInt8 := if i = 0 then 0 else l.getD (i - 1) 0
def SmallPairs (P : List (Int × Int)) : Prop := ∀ p ∈ P, 1 ≤ p.1 ∧ p.1 ≤ 9 ∧ 1 ≤ p.2 ∧ p.2 ≤ 9
theorem heard_go {l : List UInt8} {i : Nat} {P : List (Int × Int)} {x y : UInt8} {r : List UInt8} (hB : before l = (beforeA (lastC l i) (l.drop i)).map (spell P ++ ·))
    (hd : l.drop i = x :: y :: r) (hr : r = l.drop (i + 2)) (hy : 48 ≤ y.toNat) (hne : y ≠ lastC l i) : before l = (beforeA (lastC l (i + 2)) (l.drop (i + 2))).map (spell (P ++ [hpair x y]) ++ ·) := by
  have hl : lastC l (i + 2) = y := by
    unfold lastC
    rw [if_neg (by omega)]
    have h : (l.drop i)[1]? = some y := by rw [hd]; rfl
    rw [List.getElem?_drop] at h
    rw [List.getD, show i + 2 - 1 = i + 1 by omega, h]
    rfl
  rw [hB, hd, beforeA_step hne, Option.map_map, hl, hr, spell_snoc P hy]
  congr 1
  funext t
  simp
theorem heard_stop {l : List UInt8} {i : Nat} {P : List (Int × Int)} {x y : UInt8} {r : List UInt8} (hB : before l = (beforeA (lastC l i) (l.drop i)).map (spell P ++ ·))
    (hd : l.drop i = x :: y :: r) (he : y = lastC l i) : before l = none := by
  rw [hB, hd, he, beforeA_stop]
  rfl
set_option maxRecDepth 100000 in
set_option maxHeartbeats 4000000 in
theorem Heard_any (s : ByteArray) (w : World) (hd : Digs (ls s)) (hne : ls s ≠ []) (hlen : s.size ≤ 1000000) :
    Calls Try.prog 43 #[.string s] w fun e w' => e = .returned (beforeV (before (ls s))) ∧ Below w.heap.size w w' := by
  obtain ⟨i0, hi, hz0, hz1, hz2⟩ := info_parts info60
  have hpos : 0 < s.size := by
    rw [← length_ls]
    exact List.length_pos_iff.2 hne
  have HD := Lib.hid hd
  clear hd hne
  by_cases hodd : s.size % 2 = 1
  · have hob : ((s.size : Int) % 2 == 1) = true := by
      rw [beq_iff_eq]
      omega
    go_enter Try.func43, Try.ntmps43
    go_wp2
    go_ret2
    exact ⟨by rw [before_odd (by rw [length_ls]; exact hodd)]; rfl, Below.refl _ _⟩
  · have hob : ((s.size : Int) % 2 == 1) = false := by
      rw [beq_eq_false_iff_ne]
      omega
    go_enter Try.func43, Try.ntmps43
    go_wp2
    go_loopw [4, 5] (fun v4 v5 wr => ∃ (i : Nat) (P : List (Int × Int)), v5 = .int .i64 i ∧ i % 2 = 0 ∧ i ≤ s.size ∧ P.length * 2 = i ∧ wr.ownsRow w.heap.size 60 2 v4 P.length (pcells P) ∧ Hid (SmallPairs P) ∧
        Hid (before (ls s) = (beforeA (lastC (ls s) i) ((ls s).drop i)).map (spell P ++ ·)) ∧ Below w.heap.size w wr) (fun _ v5 _ => s.size - (intOf v5).toNat)
    case atStart =>
      refine ⟨0, [], rfl, rfl, Nat.zero_le _, rfl, World.ownsRow_nil _ _ _ _, (by intro p hp; cases hp), ?_, Below.refl _ _⟩
      unfold Hid
      simp [before, lastC, spell]
    case round =>
      obtain ⟨i, P, rfl, hi2, hile, hPl, hown, HSM, HBE, hB⟩ := hrel
      have HB := Lib.hid hB
      have hsz := hB.size
      clear hB
      by_cases hlt : i < s.size
      · have hlt1 : i + 1 < s.size := by omega
        have hd0 := HD.out _ (mem_ls s i hlt)
        have hd1 := HD.out _ (mem_ls s (i + 1) hlt1)
        have hdrop := drop_two (l := ls s) (i := i) (by rw [length_ls]; exact hlt1)
        rw [get_ls s i hlt, get_ls s (i + 1) hlt1] at hdrop
        obtain ⟨x, hx⟩ : ∃ x, (s[i]'hlt) = x := ⟨_, rfl⟩
        obtain ⟨y, hy⟩ : ∃ y, (s[i + 1]'hlt1) = y := ⟨_, rfl⟩
        rw [hx] at hd0 hdrop
        rw [hy] at hd1 hdrop
        have HDR := Lib.hid hdrop
        have f1 : IntKind.i64.wrap ((i : Int) + 1) = (i : Int) + 1 := IntWalk.i64_in _ (by omega)
        have f2 : 0 ≤ (i : Int) + 1 := by omega
        have f3 : (i : Int) + 1 < (s.size : Int) := by omega
        have f4 : ((i : Int) + 1).toNat = i + 1 := by omega
        have f5 : (i : Int) < (s.size : Int) := by omega
        clear hdrop
        by_cases h0 : 0 < i
        · have d5 : decide (0 < i) = true := decide_eq_true h0
          have d5' : decide ((0 : Int) < (i : Int)) = true := decide_eq_true (by omega)
          have hlt0 : i - 1 < s.size := by omega
          obtain ⟨z, hz⟩ : ∃ z, (s[i - 1]'hlt0) = z := ⟨_, rfl⟩
          have g3 : IntKind.i64.wrap ((i : Int) - 1) = (i : Int) - 1 := IntWalk.i64_in _ (by omega)
          have g4 : 0 ≤ (i : Int) - 1 := by omega
          have g5 : (i : Int) - 1 < (s.size : Int) := by omega
          have g6 : ((i : Int) - 1).toNat = i - 1 := by omega
          have HLC : Hid (lastC (ls s) i = z) := by
            unfold Hid lastC
            rw [if_neg (by omega), List.getD, List.getElem?_eq_getElem (by rw [length_ls]; exact hlt0), get_ls s (i - 1) hlt0, hz]
            rfl
          by_cases hyz : y = z
          · have hyb : ((y.toNat : Int) == (z.toNat : Int)) = true := by rw [hyz]; simp
            have HST := Lib.hid (heard_stop HBE.out HDR.out (hyz.trans HLC.out.symm))
            have HOW := Lib.hid hown
            have HPL := Lib.hid hPl
            have HPOS := Lib.hid hpos
            clear hyz hown hPl hpos
            go_wp2
            go_quiet (fail)
            go_wp2
            go_ret2
            exact ⟨by rw [HST.out]; rfl, below_dn HB.out nq⟩
          · have hyb : ((y.toNat : Int) == (z.toNat : Int)) = false := by
              rw [beq_eq_false_iff_ne]
              intro h
              exact hyz (UInt8.toNat_inj.1 (by omega))
            have HYZ := Lib.hid hyz
            clear hyz
            have HNE : Hid (y ≠ lastC (ls s) i) := by unfold Hid; rw [HLC.out]; exact HYZ.out
            have HGO := Lib.hid (heard_go HBE.out HDR.out rfl (by omega) HNE.out)
            have HSM2 : Hid (SmallPairs (P ++ [hpair x y])) := by
              intro p hp
              rcases List.mem_append.1 hp with hp | hp
              · exact HSM.out p hp
              · simp only [List.mem_singleton] at hp
                subst hp
                unfold hpair
                refine ⟨?_, ?_, ?_, ?_⟩ <;> simp only <;> omega
            have e1 : IntKind.u8.wrap ((x.toNat : Int) - 48) = (x.toNat : Int) - 48 := IntWalk.u8_in _ (by omega)
            have e2 : IntKind.u8.wrap ((y.toNat : Int) - 48) = (y.toNat : Int) - 48 := IntWalk.u8_in _ (by omega)
            have e3 : IntKind.i64.wrap ((x.toNat : Int) - 48) = (x.toNat : Int) - 48 := IntWalk.i64_in _ (by omega)
            have e4 : IntKind.i64.wrap ((y.toNat : Int) - 48) = (y.toNat : Int) - 48 := IntWalk.i64_in _ (by omega)
            have HPL := Lib.hid hPl
            have hPle : P.length ≤ 1000000 := by omega
            obtain ⟨m, hm⟩ : ∃ m, P.length = m := ⟨_, rfl⟩
            obtain ⟨pc, hpc⟩ : ∃ pc, pcells P = pc := ⟨_, rfl⟩
            rw [hm] at hown hPle
            rw [hpc] at hown
            have HM := Lib.hid hm
            have HPC := Lib.hid hpc
            have HOW := Lib.hid hown
            have HPOS := Lib.hid hpos
            clear hm hpc hown hPl hpos
            go_wp2
            go_quiet (fail)
            have hownq : (wr.drewN nq).ownsRow w.heap.size 60 2 _ m pc := HOW.out
            obtain ⟨wq, hwq⟩ : ∃ wq, wr.drewN nq = wq := ⟨_, rfl⟩
            have HBQ : Hid (Below w.heap.size w (wr.drewN nq)) := below_dn HB.out nq
            rw [hwq] at hownq HBQ
            have HOWN := Lib.hid hownq
            clear hownq
            have hszq := HBQ.out.size
            go_wp2
            go_region_held3 (fun _ => True)
              (first
                | go_keep
                | trivial)
              ((refine step_append_lies _ (by rfl) _ _ _ (by rfl) w.heap.size 60 i0 _ 2 16 Try.underlying37 hi hz0 hz1 hz2 rfl (by omega) u4 m pc (by rfl) ((HOWN.out.alloc _).drew) ⟨wq.heap.size, 0, none⟩ 1 1 [.int .i64 ((x.toNat : Int) - 48), .int .i64 ((y.toNat : Int) - 48)] (by rfl) (by rfl) (World.news_of_block (cs := #[.int .i64 ((x.toNat : Int) - 48), .int .i64 ((y.toNat : Int) - 48)]) (t := 60) (fr := (0, 0)) (heap_alloc_new wq _)) (by simp [Value.oneCell']) (by omega) (by unfold maxLen; omega) (by omega) (by simp; omega) (wq.heap.size + 1) (by simp) ?_; intro gg cap1 w2 hown1 hgrow hat hlt1))
            all_goals
              have HO := Lib.hid hown1
              have HG := Lib.hid hgrow
              clear hown1 hgrow hat hlt1 e1 e2 e3 e4
              go_wp2
              go_roundw
              case rel =>
                refine ⟨i + 2, P ++ [hpair x y], by go_num, by omega, by omega, by rw [List.length_append]; have := HPL.out; simp; omega, ?_, HSM2, HGO, ?_⟩
                · rw [show P ++ [hpair x y] = P ++ [((x.toNat : Int) - 48, (y.toNat : Int) - 48)] from rfl, pcells_snoc, HPC.out, List.length_append, HM.out]
                  exact HO.out
                · exact ((HBQ.out.alloc HBQ.out.size _).drew).grown HG.out (by simp; omega) (fun j hj => (HOWN.out.lt j hj).1)
              case measure => simp [intOf]; omega
        · have d5 : decide (0 < i) = false := decide_eq_false h0
          have d5' : decide ((0 : Int) < (i : Int)) = false := decide_eq_false (by omega)
          have HNE : Hid (y ≠ lastC (ls s) i) := by
            unfold Hid lastC
            rw [if_pos (by omega)]
            intro h
            rw [h] at hd1
            exact absurd hd1.1 (by decide)
          have HGO := Lib.hid (heard_go HBE.out HDR.out rfl (by omega) HNE.out)
          have HSM2 : Hid (SmallPairs (P ++ [hpair x y])) := by
            intro p hp
            rcases List.mem_append.1 hp with hp | hp
            · exact HSM.out p hp
            · simp only [List.mem_singleton] at hp
              subst hp
              unfold hpair
              refine ⟨?_, ?_, ?_, ?_⟩ <;> simp only <;> omega
          have e1 : IntKind.u8.wrap ((x.toNat : Int) - 48) = (x.toNat : Int) - 48 := IntWalk.u8_in _ (by omega)
          have e2 : IntKind.u8.wrap ((y.toNat : Int) - 48) = (y.toNat : Int) - 48 := IntWalk.u8_in _ (by omega)
          have e3 : IntKind.i64.wrap ((x.toNat : Int) - 48) = (x.toNat : Int) - 48 := IntWalk.i64_in _ (by omega)
          have e4 : IntKind.i64.wrap ((y.toNat : Int) - 48) = (y.toNat : Int) - 48 := IntWalk.i64_in _ (by omega)
          have HPL := Lib.hid hPl
          have hPle : P.length ≤ 1000000 := by omega
          obtain ⟨m, hm⟩ : ∃ m, P.length = m := ⟨_, rfl⟩
          obtain ⟨pc, hpc⟩ : ∃ pc, pcells P = pc := ⟨_, rfl⟩
          rw [hm] at hown hPle
          rw [hpc] at hown
          have HM := Lib.hid hm
          have HPC := Lib.hid hpc
          have HOW := Lib.hid hown
          have HPOS := Lib.hid hpos
          clear hm hpc hown hPl hpos
          go_wp2
          go_quiet (fail)
          have hownq : (wr.drewN nq).ownsRow w.heap.size 60 2 _ m pc := HOW.out
          obtain ⟨wq, hwq⟩ : ∃ wq, wr.drewN nq = wq := ⟨_, rfl⟩
          have HBQ : Hid (Below w.heap.size w (wr.drewN nq)) := below_dn HB.out nq
          rw [hwq] at hownq HBQ
          have HOWN := Lib.hid hownq
          clear hownq
          have hszq := HBQ.out.size
          go_wp2
          go_region_held3 (fun _ => True)
            (first
              | go_keep
              | trivial)
            ((refine step_append_lies _ (by rfl) _ _ _ (by rfl) w.heap.size 60 i0 _ 2 16 Try.underlying37 hi hz0 hz1 hz2 rfl (by omega) u4 m pc (by rfl) ((HOWN.out.alloc _).drew) ⟨wq.heap.size, 0, none⟩ 1 1 [.int .i64 ((x.toNat : Int) - 48), .int .i64 ((y.toNat : Int) - 48)] (by rfl) (by rfl) (World.news_of_block (cs := #[.int .i64 ((x.toNat : Int) - 48), .int .i64 ((y.toNat : Int) - 48)]) (t := 60) (fr := (0, 0)) (heap_alloc_new wq _)) (by simp [Value.oneCell']) (by omega) (by unfold maxLen; omega) (by omega) (by simp; omega) (wq.heap.size + 1) (by simp) ?_; intro gg cap1 w2 hown1 hgrow hat hlt1))
          all_goals
            have HO := Lib.hid hown1
            have HG := Lib.hid hgrow
            clear hown1 hgrow hat hlt1 e1 e2 e3 e4
            go_wp2
            go_roundw
            case rel =>
              refine ⟨i + 2, P ++ [hpair x y], by go_num, by omega, by omega, by rw [List.length_append]; have := HPL.out; simp; omega, ?_, HSM2, HGO, ?_⟩
              · rw [show P ++ [hpair x y] = P ++ [((x.toNat : Int) - 48, (y.toNat : Int) - 48)] from rfl, pcells_snoc, HPC.out, List.length_append, HM.out]
                exact HO.out
              · exact ((HBQ.out.alloc HBQ.out.size _).drew).grown HG.out (by simp; omega) (fun j hj => (HOWN.out.lt j hj).1)
            case measure => simp [intOf]; omega
      · have hall : i = s.size := by omega
        obtain ⟨k, hk⟩ : ∃ k, P.length = k + 1 := ⟨P.length - 1, by omega⟩
        rw [hk] at hown
        obtain ⟨g, cap, rfl⟩ := ownsRow_succ hown
        have hsl := spell_len P (fun p hp => (HSM.out p hp).2.1)
        have HSP := Lib.hid (fun W (hw : W = wr) => hw ▸ spelled_any P g 0 cap wr (by omega) (hown.lt g rfl).2 (fun j p hp => by
          have hj := (List.getElem?_eq_some_iff.1 hp).1
          obtain ⟨e1, e2⟩ := pcells_at hp
          rw [Nat.zero_add, hown.cellAt (j * 2) (by omega), hown.cellAt (j * 2 + 1) (by omega)]
          exact ⟨e1, e2⟩) (fun p hp => by have := HSM.out p hp; omega) (by omega))
        rw [hk] at HSP
        have HK := Lib.hid hk
        have HOW := Lib.hid hown
        have HPL := Lib.hid hPl
        have HPOS := Lib.hid hpos
        clear hk hown hsl hPl hpos
        go_wp2_with (first | (go_at_call 52; (with_reducible refine (HSP.out _ rfl).mono ?_); rintro e w1 ⟨rfl, hb⟩; have HB1 := Lib.hid hb; clear hb))
        go_ret2
        refine ⟨?_, HB.out.trans (HB1.out.mono hsz)⟩
        rw [HBE.out, List.drop_of_length_le (by rw [length_ls]; omega)]
        simp [beforeA, beforeV]
end Go.Proofs.Ytodchgddkgjciaa
