/- What runs of the reference answers: the runs of the word, as a slice of pairs of its own. Conditions: digits only, at most 1000000 of them. -/
import Derived.Test.YtodchgddkgjciaaRefWord
namespace Go.Proofs.Ytodchgddkgjciaa
set_option linter.unusedVariables false
set_option linter.unusedSimpArgs false
open Go Go.RowKit
theorem info60 : (Try.prog.info? 60).map (fun i => (i.zero, i.size, i.bytes)) = some (some (.agg #[.int .i64 0, .int .i64 0]), 2, 16) := by kernel_rfl
/-- Pairs as cells. -/
def pcells (l : List (Int × Int)) : List Value := l.flatMap fun p => [.int .i64 p.1, .int .i64 p.2]
theorem pcells_length (l : List (Int × Int)) : (pcells l).length = l.length * 2 := by
  induction l with
  | nil => rfl
  | cons p l ih => simp [pcells] at ih ⊢; omega
theorem pcells_snoc (l : List (Int × Int)) (a b : Int) : pcells (l ++ [(a, b)]) = pcells l ++ [.int .i64 a, .int .i64 b] := by simp [pcells]
def ipair (p : Nat × UInt8) : Int × Int := (p.1, (p.2.toNat : Int) - 48)
def rpairs (l : List UInt8) : List (Int × Int) := (runs l).map ipair
theorem take_last {s : ByteArray} {i : Nat} (h : i < s.size) : (ls s).take (i + 1) = (ls s).take i ++ [(s[i]'h)] := by
  rw [List.take_succ_eq_append_getElem (by rw [length_ls]; exact h)]
  rfl
theorem rpairs_last {s : ByteArray} {i : Nat} {y : UInt8} (h0 : 0 < i) (hi : i - 1 < s.size) (hy : (s[i - 1]'hi) = y) :
    ∃ (init : List (Nat × UInt8)) (n : Nat), runs ((ls s).take i) = init ++ [(n, y)] ∧ 1 ≤ n ∧ n ≤ s.size ∧ init.length < i := by
  have h1 := take_last hi
  rw [show i - 1 + 1 = i by omega, hy] at h1
  obtain ⟨init, n, h2, h3⟩ := runs_last (l := (ls s).take (i - 1)) (d := y)
  rw [← h1] at h2
  refine ⟨init, n, h2, h3, ?_, ?_⟩
  · have := (runs_mem (l := (ls s).take i) (p := (n, y)) (by rw [h2]; simp)).2.2
    have h4 : ((ls s).take i).length ≤ s.size := by rw [List.length_take, length_ls]; omega
    omega
  · have := length_runs_le ((ls s).take i)
    rw [h2] at this
    simp at this
    omega
theorem pair_new {w : World} {b : Nat} {c0 c1 : Value} {t : TypeId} (hh : w.heap[b]? = some (.cells #[c0, c1] t (0, 0))) {j : Nat} {u : Value} (hj : [c0, c1][j]? = some u) : w.cell? ((⟨b, 0, none⟩ : Addr).add j) = some u := by
  match j, hj with
  | 0, hj => simp at hj; subst hj; simp [Addr.add, World.cell?, hh]
  | 1, hj => simp at hj; subst hj; simp [Addr.add, World.cell?, hh]
theorem below_dn {B : Nat} {a w : World} (h : Below B a w) (n : Nat) : Below B a (w.drewN n) := ⟨h.os, h.tape, h.output, h.size, h.block⟩
theorem rpairs_len (s : ByteArray) (i : Nat) : (rpairs ((ls s).take i)).length ≤ s.size := by
  unfold rpairs
  rw [List.length_map]
  have := length_runs_le ((ls s).take i)
  rw [List.length_take, length_ls] at this
  omega
set_option maxRecDepth 100000 in
set_option maxHeartbeats 1000000 in
theorem refRuns_any (s : ByteArray) (w : World) (hd : Digs (ls s)) (hlen : s.size ≤ 1000000) :
    Calls Try.prog 53 #[.string s] w fun e w' => (∃ v, e = .returned v ∧ w'.ownsRow w.heap.size 60 2 v (rpairs (ls s)).length (pcells (rpairs (ls s)))) ∧ Below w.heap.size w w' := by
  obtain ⟨i0, hi, hz0, hz1, hz2⟩ := info_parts info60
  have HD := Lib.hid hd
  clear hd
  go_enter Try.func53, Try.ntmps53
  go_wp2
  go_loopw [3, 4] (fun v3 v4 wr => ∃ i : Nat, v4 = .int .i64 i ∧ i ≤ s.size ∧ wr.ownsRow w.heap.size 60 2 v3 (rpairs ((ls s).take i)).length (pcells (rpairs ((ls s).take i))) ∧ Below w.heap.size w wr) (fun _ v4 _ => s.size - (intOf v4).toNat)
  case atStart => exact ⟨0, rfl, Nat.zero_le _, World.ownsRow_nil _ _ _ _, Below.refl _ _⟩
  case round =>
    obtain ⟨i, rfl, hi2, hown, hB⟩ := hrel
    have HB := Lib.hid hB
    have hsz := hB.size
    clear hB
    by_cases hlt : i < s.size
    · have hx := HD.out _ (mem_ls s i hlt)
      obtain ⟨x, hxe⟩ : ∃ x, (s[i]'hlt) = x := ⟨_, rfl⟩
      rw [hxe] at hx
      by_cases h0 : 0 < i
      · have hlt1 : i - 1 < s.size := by omega
        obtain ⟨y, hye⟩ : ∃ y, (s[i - 1]'hlt1) = y := ⟨_, rfl⟩
        by_cases hxy : x = y
        · have hxb : ((x.toNat : Int) == (y.toNat : Int)) = true := by rw [hxy]; simp
          have g1 : decide ((0 : Int) < (i : Int)) = true := decide_eq_true (by omega)
          have g2 : (i : Int) < (s.size : Int) := by omega
          have g3 : IntKind.i64.wrap ((i : Int) - 1) = (i : Int) - 1 := IntWalk.i64_in _ (by omega)
          have g4 : 0 ≤ (i : Int) - 1 := by omega
          have g5 : (i : Int) - 1 < (s.size : Int) := by omega
          have g6 : ((i : Int) - 1).toNat = i - 1 := by omega
          obtain ⟨init, n, hr, hn1, hn2, hil⟩ := rpairs_last h0 hlt1 hye
          have hL : rpairs ((ls s).take i) = init.map ipair ++ [((n : Int), (y.toNat : Int) - 48)] := by
            unfold rpairs
            rw [hr]
            simp [ipair]
          rw [hL, pcells_snoc] at hown
          have e1 : (init.map ipair ++ [((n : Int), (y.toNat : Int) - 48)]).length = init.length + 1 := by simp
          obtain ⟨m, hm⟩ : ∃ m, init.length = m := ⟨_, rfl⟩
          rw [hm] at e1 hil
          rw [e1] at hown
          obtain ⟨g, cap, rfl⟩ := ownsRow_succ hown
          have hc1 : wr.cell? ⟨g, m * 2, none⟩ = some (.int .i64 n) := by
            rw [hown.cellAt (m * 2) (by omega), List.getElem?_append_right (by rw [pcells_length]; simp; omega), pcells_length]
            simp [hm]
          have hf1 : wr.frozen? ⟨g, m * 2, none⟩ = false := hown.frozenAt _
          have HXY := Lib.hid hxy
          have HOWN := Lib.hid hown
          have HL := Lib.hid hL
          have HR := Lib.hid hr
          have HM := Lib.hid hm
          clear hxy hown hL hr hm e1
          go_wp2
          go_quiet (fail)
          go_wp2
          go_roundw
          case rel =>
            have hown2 : (wr.drewN nq).ownsRow w.heap.size 60 2 (.slice (some ⟨g, 0, none⟩) (m + 1) cap) (m + 1) (pcells (init.map ipair) ++ [.int .i64 n, .int .i64 ((y.toNat : Int) - 48)]) := HOWN.out
            have hst := hown2.stored (m * 2) (.int .i64 ((n : Int) + 1))
            have hpl : (pcells (init.map ipair)).length = m * 2 := by rw [pcells_length, List.length_map, HM.out]
            have hL2 : rpairs ((ls s).take (i + 1)) = init.map ipair ++ [((n : Int) + 1, (y.toNat : Int) - 48)] := by
              unfold rpairs
              rw [take_last hlt, hxe, HXY.out, runs_snoc_same HR.out]
              simp [ipair]
            have hset : (pcells (init.map ipair) ++ ([.int .i64 n, .int .i64 ((y.toNat : Int) - 48)] : List Value)).set (m * 2) (.int .i64 ((n : Int) + 1)) = pcells (rpairs ((ls s).take (i + 1))) := by
              rw [hL2, pcells_snoc, List.set_append_right _ _ (by omega), hpl]
              simp
            refine ⟨i + 1, by go_num, by omega, ?_, ?_⟩
            · rw [← hset, hL2]
              have e2 : (init.map ipair ++ [((n : Int) + 1, (y.toNat : Int) - 48)]).length = m + 1 := by simp [HM.out]
              rw [e2]
              exact hst.1
            · exact (below_dn HB.out nq).setCell (p := ⟨g, m * 2, none⟩) (HOWN.out.lt g rfl).1 _
          case measure => simp [intOf]; omega
        · have hxb : ((x.toNat : Int) == (y.toNat : Int)) = false := by
            rw [beq_eq_false_iff_ne]
            intro h
            exact hxy (UInt8.toNat_inj.1 (by omega))
          have g1 : decide ((0 : Int) < (i : Int)) = true := decide_eq_true (by omega)
          have g2 : (i : Int) < (s.size : Int) := by omega
          have g3 : IntKind.i64.wrap ((i : Int) - 1) = (i : Int) - 1 := IntWalk.i64_in _ (by omega)
          have g4 : 0 ≤ (i : Int) - 1 := by omega
          have g5 : (i : Int) - 1 < (s.size : Int) := by omega
          have g6 : ((i : Int) - 1).toNat = i - 1 := by omega
          have hL2 : rpairs ((ls s).take (i + 1)) = rpairs ((ls s).take i) ++ [(1, (x.toNat : Int) - 48)] := by
            unfold rpairs
            rw [take_last hlt, hxe, runs_snoc_other (fun l' e => by rw [show i = i - 1 + 1 by omega, take_last hlt1, hye] at e; have := congrArg List.getLast? e; simp at this; exact hxy this.symm)]
            simp [ipair]
          have hlr := rpairs_len s i
          have HL2 := Lib.hid hL2
          have HXE := Lib.hid hxe
          clear hL2
          go_wp2
          go_quiet (fail)
          have hownq : (wr.drewN nq).ownsRow w.heap.size 60 2 _ (rpairs ((ls s).take i)).length (pcells (rpairs ((ls s).take i))) := hown
          obtain ⟨wq, hwq⟩ : ∃ wq, wr.drewN nq = wq := ⟨_, rfl⟩
          have HBQ : Hid (Below w.heap.size w (wr.drewN nq)) := below_dn HB.out nq
          rw [hwq] at hownq HBQ
          go_wp2_with (at_builtin; refine wpList_append_own _ rfl _ _ 37 rfl w.heap.size 60 i0 (.agg #[.int .i64 0, .int .i64 0]) 2 16 Try.underlying37 hi hz0 hz1 hz2 rfl (by decide) _ _ _ rfl (hownq.alloc _) ⟨wq.heap.size, 0, none⟩ 1 1 [.int .i64 1, .int .i64 ((x.toNat : Int) - 48)] rfl rfl ?c1 ?c2 ?c3 ?c4 ?c5 ?_)
          case c1 =>
            intro j u hj
            have hh := World.alloc_heap_new wq (.cells #[.int .i64 1, .int .i64 ((x.toNat : Int) - 48)] 60)
            exact pair_new hh hj
          case c2 => intro u hu; simp at hu; rcases hu with rfl | rfl <;> rfl
          case c3 => unfold maxLen; omega
          case c4 => omega
          case c5 => have := HBQ.out.size; simp; omega
          intro v' w1 hown' hgrow _
          have HO := Lib.hid hown'
          have HG := Lib.hid hgrow
          clear hown' hgrow hown
          go_wp2
          go_roundw
          case rel =>
            refine ⟨i + 1, by go_num, by omega, ?_, ?_⟩
            · rw [HL2.out, pcells_snoc, List.length_append]
              exact HO.out
            · exact (HBQ.out.alloc HBQ.out.size _).grown HG.out (by have := HBQ.out.size; simp; omega) (fun k hk => (hownq.lt k hk).1)
          case measure => simp [intOf]; omega
      · have g1 : decide ((0 : Int) < (i : Int)) = false := decide_eq_false (by omega)
        have g2 : (i : Int) < (s.size : Int) := by omega
        have hL2 : rpairs ((ls s).take (i + 1)) = rpairs ((ls s).take i) ++ [(1, (x.toNat : Int) - 48)] := by
          unfold rpairs
          rw [take_last hlt, hxe, runs_snoc_other (fun l' e => by rw [show i = 0 by omega] at e; simp at e)]
          simp [ipair]
        have hlr := rpairs_len s i
        have HL2 := Lib.hid hL2
        have HXE := Lib.hid hxe
        clear hL2
        go_wp2
        go_quiet (fail)
        have hownq : (wr.drewN nq).ownsRow w.heap.size 60 2 _ (rpairs ((ls s).take i)).length (pcells (rpairs ((ls s).take i))) := hown
        obtain ⟨wq, hwq⟩ : ∃ wq, wr.drewN nq = wq := ⟨_, rfl⟩
        have HBQ : Hid (Below w.heap.size w (wr.drewN nq)) := below_dn HB.out nq
        rw [hwq] at hownq HBQ
        go_wp2_with (at_builtin; refine wpList_append_own _ rfl _ _ 37 rfl w.heap.size 60 i0 (.agg #[.int .i64 0, .int .i64 0]) 2 16 Try.underlying37 hi hz0 hz1 hz2 rfl (by decide) _ _ _ rfl (hownq.alloc _) ⟨wq.heap.size, 0, none⟩ 1 1 [.int .i64 1, .int .i64 ((x.toNat : Int) - 48)] rfl rfl ?c1 ?c2 ?c3 ?c4 ?c5 ?_)
        case c1 =>
          intro j u hj
          have hh := World.alloc_heap_new wq (.cells #[.int .i64 1, .int .i64 ((x.toNat : Int) - 48)] 60)
          exact pair_new hh hj
        case c2 => intro u hu; simp at hu; rcases hu with rfl | rfl <;> rfl
        case c3 => unfold maxLen; omega
        case c4 => omega
        case c5 => have := HBQ.out.size; simp; omega
        intro v' w1 hown' hgrow _
        have HO := Lib.hid hown'
        have HG := Lib.hid hgrow
        clear hown' hgrow hown
        go_wp2
        go_roundw
        case rel =>
          refine ⟨i + 1, by go_num, by omega, ?_, ?_⟩
          · rw [HL2.out, pcells_snoc, List.length_append]
            exact HO.out
          · exact (HBQ.out.alloc HBQ.out.size _).grown HG.out (by have := HBQ.out.size; simp; omega) (fun k hk => (hownq.lt k hk).1)
        case measure => simp [intOf]; omega
    · have hL : (ls s).take i = ls s := List.take_of_length_le (by rw [length_ls]; omega)
      rw [hL] at hown
      have HOWN := Lib.hid hown
      clear hown hL
      go_wp2
      go_ret
      exact ⟨⟨_, rfl, HOWN.out⟩, HB.out⟩
end Go.Proofs.Ytodchgddkgjciaa
