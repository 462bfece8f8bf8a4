/- The iterator that the function runs of package aloud makes: it gives the runs of the word, one by one. Conditions: the word has digits only; its length is within the form's reach. -/
import Derived.Test.YtodchgddkgjciaaRead
import Derived.RangeFuncBound
import Derived.RangeFuncCalls
import Derived.RangeFuncLeaves
import Derived.Shelf.Abstract
import Derived.Shelf.RegionOpen
import Derived.OwnWalkIn
import Derived.TacticsInMore
import Derived.LoopNIn
import Derived.LoopIn
import Derived.Test.YtodchgddkgjciaaTail
namespace Go.Proofs.Ytodchgddkgjciaa
set_option linter.unusedVariables false
set_option linter.unusedSimpArgs false
open Go Go.RowKit Go.Shelf
attribute [local go_sem] Oper.semAt_some
def curLen (c : Nat) (w : World) : Nat := match w.cell? ⟨c, 0, none⟩ with | some (.string s) => s.size | _ => 0
theorem curLen_of {c : Nat} {w : World} {s : ByteArray} (h : Boxed w c 9 (.string s)) : curLen c w = s.size := by
  unfold curLen
  rw [h.cell]
def encRun (p : Nat × UInt8) : Array Value := #[.int .i64 p.1, .int .u8 p.2.toNat]
theorem split_first (x : UInt8) (l : List UInt8) : ∃ m, l = List.replicate m x ++ l.dropWhile (· == x) ∧ (l.dropWhile (· == x)).head? ≠ some x := by
  induction l with
  | nil => exact ⟨0, rfl, by simp⟩
  | cons d l ih =>
    by_cases h : d = x
    · subst h
      obtain ⟨m, h1, h2⟩ := ih
      rw [List.dropWhile_cons_of_pos (by simp)]
      exact ⟨m + 1, by rw [List.replicate_succ, List.cons_append, ← h1], h2⟩
    · rw [List.dropWhile_cons_of_neg (by simpa using h)]
      exact ⟨0, rfl, by simpa using h⟩
theorem cut_facts {s r : ByteArray} {x : UInt8} {tl : List UInt8} (hx : ls s = x :: tl) (hr : bs ((ls s).dropWhile (· == x)) = r) :
    ∃ k : Nat, runs (x :: tl) = (k, x) :: runs (ls r) ∧ s.size = k + r.size ∧ (Digs (ls s) → Digs (ls r)) ∧ (∀ h : 0 < s.size, (s[0]'h) = x) ∧ 1 ≤ k := by
  subst hr
  rw [hx, ls_bs, List.dropWhile_cons_of_pos (by simp), size_bs]
  obtain ⟨m, h1, h2⟩ := split_first x tl
  have h3 : x :: tl = List.replicate (m + 1) x ++ tl.dropWhile (· == x) := by rw [List.replicate_succ, List.cons_append, ← h1]
  refine ⟨m + 1, ?_, ?_, ?_, ?_, by omega⟩
  · conv => lhs; rw [h3]
    exact runs_replicate m h2
  · rw [← length_ls, hx]
    conv => lhs; rw [h3]
    simp
  · rw [h3]
    exact fun h => (Digs.append.1 h).2
  · intro h
    rw [← get_ls s 0 h]
    simp [hx]
set_option maxRecDepth 100000 in
set_option maxHeartbeats 2000000 in
theorem runs1_seq (n : Nat) (c : Nat) (word : ByteArray) (w : World) (hc : Boxed w c 9 (.string word)) (hd : Digs (ls word)) (hlen : word.size ≤ 140737488351232) :
    StateSeq Fence.wide n Try.prog 55 #[.pointer (some ⟨c, 0, none⟩)] encRun (runs (ls word)) c w := by
  intro l J Jx W hW hJ hJx hY h0
  have hcW : Boxed W c 9 (.string word) := (hW.block c hc.lt).trans hc
  have HY := Lib.hid hY
  have HJ := Lib.hid hJ
  have HJx := Lib.hid hJx
  have HD := Lib.hid hd
  clear hY hJ hJx hd
  refine callsIn_of_wp Try.func55 rfl trivial ?_ rfl
  simp only [Try.ntmps55, List.size_toArray, List.length_cons, List.length_nil, Nat.reduceAdd, Nat.reduceSub, Array.replicate_succ, Array.replicate_zero, List.push_toArray, List.append_toArray, List.nil_append, List.cons_append]
  gi_wp2
  gi_loopw [] (fun wr => ∃ (pre : List (Nat × UInt8)) (s : ByteArray), runs (ls word) = pre ++ runs (ls s) ∧ Boxed wr c 9 (.string s) ∧ J pre wr ∧ Digs (ls s) ∧ s.size ≤ word.size) (fun wr => curLen c wr)
  case atStart => exact ⟨[], word, rfl, hcW, h0, HD.out, Nat.le_refl _⟩
  case round =>
    obtain ⟨pre, s, hr, hb, hj, hds, hsz⟩ := hrel
    have hcell := hb.cell
    have hfro := hb.frozen
    have HR := Lib.hid hr
    have HB := Lib.hid hb
    have HJ0 := Lib.hid hj
    have HDS := Lib.hid hds
    clear hr hb hj hds
    by_cases h0 : s.size = 0
    · have he := isEmpty_of_zero h0
      gi_wp2
      go_end0
      refine ⟨⟨_, rfl⟩, .inl ?_⟩
      have hr := HR.out
      have h3 := length_ls s
      have h4 : ls s = [] := List.length_eq_zero_iff.1 (by omega)
      rw [h4] at hr
      rw [hr]
      simpa [runs] using HJ0.out
    · have he := isEmpty_of_pos h0
      have h1 : 1 ≤ s.size := by omega
      gi_wp2_with fail
      have mixed : Try.prog.follows .mixedOrders = true := by kernel_rfl
      obtain ⟨x, tl, hx⟩ : ∃ x tl, ls s = x :: tl := by
        cases h : ls s with
        | nil => have := length_ls s; rw [h] at this; simp at this; omega
        | cons x tl => exact ⟨x, tl, rfl⟩
      have hx1 : ls (s.extract 0 1) = [x] := by rw [ls_extract, hx]; rfl
      have hxd : 49 ≤ x.toNat ∧ x.toNat ≤ 57 := HDS.out x (by rw [hx]; simp)
      have HX := Lib.hid hx
      have HX1 := Lib.hid hx1
      clear hx hx1
      have hcl : ∀ W0, Calls Try.prog 56 #[.string s, .string (s.extract 0 1)] W0 fun e w' => e = .returned (.string (bs ((ls s).dropWhile (· == x)))) ∧ Below W0.heap.size W0 w' := fun W0 => cutLeft_any s (s.extract 0 1) x W0 HX1.out hxd HDS.out (by omega)
      obtain ⟨r, hr⟩ : ∃ r, bs ((ls s).dropWhile (· == x)) = r := ⟨_, rfl⟩
      rw [hr] at hcl
      obtain ⟨k, hk1, hk2, hk3, hk4, hk5⟩ := cut_facts HX.out hr
      have HRr := Lib.hid hr
      clear hr
      have HRK : Hid (runs (ls word) = pre ++ (k, x) :: runs (ls r)) := by
        unfold Hid; rw [HR.out, HX.out, hk1]
      have HRD := Lib.hid hk3
      clear hk1 hk3
      have hwr : IntKind.i64.wrap ((s.size : Int) - (r.size : Int)) = (k : Int) := by
        rw [show (s.size : Int) - (r.size : Int) = (k : Int) from by omega]
        exact IntWalk.i64_in _ (by omega)
      have hs0 : (s[0]'h1) = x := hk4 h1
      have hrs : r.size ≤ s.size := by omega
      have HK2 := Lib.hid hk2
      clear hk2
      have h1i : (1 : Int) ≤ (s.size : Int) := by omega
      have h1n : 0 < s.size := h1
      refine wpIn_region_still_tail 3 mixed (by kernel_rfl) ?_
      simp only [List.take_succ_cons, List.take_zero, List.drop_succ_cons, List.drop_zero]
      still_step
      still_step
      still_step
      refine wpStill_nil ?_
      gi_wp2_with (first | (refine ⟨trivial, (fun h => nomatch h), ?_⟩; gi_at_call 56; (with_reducible refine (callsIn_wide.2 (hcl _)).mono ?_); rintro e w1 ⟨rfl, hb1⟩))
      obtain ⟨hbx, hfx⟩ : w1.cell? ⟨c, 0, none⟩ = some (.string s) ∧ w1.frozen? ⟨c, 0, none⟩ = false := by
        have hb2 : Boxed w1 c 9 (.string s) := (hb1.block c HB.out.lt).trans HB.out
        exact ⟨hb2.cell, hb2.frozen⟩
      have HB1 := Lib.hid hb1
      clear hb1 hcl
      have hstep : IterStep c wr w1.drew := ⟨⟨HB1.out.os, HB1.out.tape, HB1.out.output, HB1.out.size, fun q hq _ => HB1.out.block q hq⟩, ⟨_, HB.out⟩, ⟨_, (HB1.out.block c HB.out.lt).trans HB.out⟩⟩
      have hj1 := HJ.out _ _ _ HJ0.out hstep
      obtain ⟨fn, tmps, assign, body, hy, hR⟩ := HY.out pre (k, x) (runs (ls r)) w1.drew HRK.out hj1
      have HRound := Lib.hid hR
      clear hR hj1 hstep
      dsimp only [encRun] at hy
      refine wpIn_region_still_tail 8 mixed (by kernel_rfl) ?_
      simp only [List.take_succ_cons, List.take_zero, List.drop_succ_cons, List.drop_zero]
      iterate 8 still_step
      refine wpStill_nil ?_
      have HBX : Hid (Boxed w1 c 9 (.string s)) := (HB1.out.block c HB.out.lt).trans HB.out
      gi_wp2_with (first | ((with_reducible refine ⟨(fun h => nomatch h), ?_⟩); (with_reducible refine HRound.out.mono ?_); (rintro e W3 (⟨rfl, hJ3, hk3⟩ | ⟨rfl, hJx3⟩)) <;> first | (have hB3 : Boxed W3 c 9 (.string s) := hk3.trans HBX.out; have hc3 := hB3.cell; have hf3 := hB3.frozen; have HB3 := Lib.hid hB3; have HJ3 := Lib.hid hJ3; clear hB3 hk3 hJ3) | (have HJ3 := Lib.hid hJx3; clear hJx3)))
      · go_roundw
        case rel =>
          refine ⟨pre ++ [(k, x)], r, by rw [HRK.out]; simp, HB3.out.set _, HJ.out _ _ _ HJ3.out ⟨grownBy_setCell' W3 c _, ⟨_, HB3.out⟩, ⟨_, HB3.out.set _⟩⟩, HRD.out HDS.out, by omega⟩
        case measure =>
          rw [curLen_of (HB3.out.set _), curLen_of HB.out]
          have := HK2.out
          omega
      · refine bodyPost_ret (results_none rfl _ _ _) rfl ?_
        exact ⟨⟨_, rfl⟩, .inr ⟨pre ++ [(k, x)], runs (ls r), by rw [HRK.out]; simp, HJ3.out⟩⟩
end Go.Proofs.Ytodchgddkgjciaa
