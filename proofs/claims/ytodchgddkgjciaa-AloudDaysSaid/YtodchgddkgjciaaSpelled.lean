/- Rows of bytes that a function of the reference owns, and what spelled of the reference answers. Conditions: the pairs lie where the slice says, their numbers are small. -/
import Derived.Test.YtodchgddkgjciaaRefMore
import Derived.StillTailTactics
namespace Go.Proofs.Ytodchgddkgjciaa
set_option linter.unusedVariables false
set_option linter.unusedSimpArgs false
open Go Go.RowKit
theorem info5 : (Try.prog.info? 5).map (fun i => (i.zero, i.size, i.bytes)) = some (some (.int .u8 0), 1, 1) := by kernel_rfl
theorem ofNums (l : List UInt8) : strOfNums (l.map fun c => (c.toNat : Int)) = bs l := by
  apply ls_inj
  rw [ls_bs]
  show (strOfNums _).data.toList = l
  rw [strOfNums_data, List.map_map]
  conv => rhs; rw [← List.map_id l]
  congr 1
  funext c
  simp
theorem byteCells_get (l : List UInt8) (i : Nat) (h : i < l.length) : (Lib.byteCells l)[i]? = some (.int .u8 ((l.map fun c => (c.toNat : Int)).getD i 0)) := by
  simp [Lib.byteCells, h]
/-- string(out) of bytes that the call owns. -/
theorem conv_own {w : World} {base : Nat} {v : Value} {l : List UInt8} (h : w.ownsRow base 5 1 v l.length (Lib.byteCells l)) : (convert 62 9 v).run Try.prog w = .ok (.string (bs l)) w := by
  rcases h.2 with ⟨rfl, h0⟩ | ⟨g, cap, cur, rfl, _⟩
  · obtain rfl : l = [] := List.length_eq_zero_iff.1 h0
    exact run_convert_bytes_nil w 62 5 Try.underlying62 Try.underlying5 0 0 9 Try.underlying9
  · have := run_convert_bytes_arg (P := Try.prog) w 62 5 Try.underlying62 Try.underlying5 g 0 l.length cap (l.map fun c => (c.toNat : Int)) (by simp) (fun i hi => by
      rw [Nat.zero_add, h.cellAt i (by omega), byteCells_get l i hi]) 9 Try.underlying9
    rwa [ofNums] at this
theorem rows_apart {w : World} {b1 b2 n1 n2 s1 s2 : Nat} {e1 e2 : TypeId} {v1 v2 : Value} {x1 x2 : List Value} (h1 : w.ownsRow b1 e1 s1 v1 n1 x1) (h2 : w.ownsRow b2 e2 s2 v2 n2 x2) (hne : e1 ≠ e2) : v1.ownBlock = none ∨ v1.ownBlock ≠ v2.ownBlock := by
  rcases h1.2 with ⟨rfl, _⟩ | ⟨g, cap, cur, rfl, _, hg, _⟩
  · exact .inl rfl
  · refine .inr fun e => ?_
    rcases h2.2 with ⟨rfl, _⟩ | ⟨g', cap', cur', rfl, _, hg', _⟩
    · simp [Value.ownBlock] at e
    · obtain rfl : g = g' := by simpa [Value.ownBlock] using e
      rw [hg] at hg'
      simp at hg'
      exact hne hg'.2
theorem pcells_get (l : List (Int × Int)) : ∀ (i : Nat) (h : i < l.length), (pcells l)[i * 2]? = some (.int .i64 l[i].1) ∧ (pcells l)[i * 2 + 1]? = some (.int .i64 l[i].2) := by
  induction l with
  | nil => intro i h; simp at h
  | cons p l ih =>
    intro i h
    cases i with
    | zero => exact ⟨rfl, rfl⟩
    | succ i =>
      have := ih i (by simpa using h)
      rw [show (i + 1) * 2 = i * 2 + 1 + 1 by omega]
      exact this
theorem byteCells_snoc (l : List UInt8) (c : UInt8) : Lib.byteCells (l ++ [c]) = Lib.byteCells l ++ [.int .u8 c.toNat] := by simp [Lib.byteCells]
theorem len_snoc {α : Type} (l : List α) (c : α) : (l ++ [c]).length = l.length + 1 := by simp
set_option maxRecDepth 100000 in
set_option maxHeartbeats 2000000 in
theorem spelled_any (l : List (Int × Int)) (g o cap : Nat) (w : World) (hlen : l.length ≤ 1000000) (hg : g < w.heap.size)
    (hc : ∀ j p, l[j]? = some p → w.cell? ⟨g, o + j * 2, none⟩ = some (.int .i64 p.1) ∧ w.cell? ⟨g, o + j * 2 + 1, none⟩ = some (.int .i64 p.2))
    (hp : ∀ p ∈ l, 0 ≤ p.1 ∧ p.1 ≤ 1000000 ∧ 1 ≤ p.2 ∧ p.2 ≤ 9) (hsp : (spell l).length ≤ 100000000) :
    Calls Try.prog 52 #[.slice (some ⟨g, o, none⟩) l.length cap] w fun e w' => e = .returned (.string (bs (spell l))) ∧ Below w.heap.size w w' := by
  obtain ⟨i0, hi, hz0, hz1, hz2⟩ := info_parts info5
  obtain ⟨n, hn⟩ : ∃ n, l.length = n := ⟨_, rfl⟩
  rw [hn] at hlen ⊢
  have HN := Lib.hid hn
  have HC := Lib.hid hc
  have HP := Lib.hid hp
  have HSP := Lib.hid hsp
  clear hn hc hp hsp
  go_enter Try.func52, Try.ntmps52
  go_wp2
  go_loopw [3, 4] (fun v3 v4 wr => ∃ i : Nat, v4 = .int .i64 i ∧ i ≤ n ∧ wr.ownsRow w.heap.size 5 1 v3 (spell (l.take i)).length (Lib.byteCells (spell (l.take i))) ∧ Below w.heap.size w wr) (fun _ v4 _ => n - (intOf v4).toNat)
  case atStart => exact ⟨0, rfl, Nat.zero_le _, World.ownsRow_nil _ _ _ _, Below.refl _ _⟩
  case round =>
    obtain ⟨i, rfl, hi2, hown, hB⟩ := hrel
    by_cases hlt : i < n
    · obtain ⟨p, hp⟩ : ∃ p, l[i]? = some p := ⟨l[i]'(by rw [HN.out]; exact hlt), List.getElem?_eq_getElem _⟩
      obtain ⟨A, B⟩ := p
      obtain ⟨p1, p2, p3, p4⟩ := HP.out _ (List.mem_of_getElem? hp)
      obtain ⟨c1, c2⟩ := HC.out i _ hp
      have hst := spell_take hp
      dsimp only at p1 p2 p3 p4 c1 c2 hst
      obtain ⟨a, rfl⟩ : ∃ a : Nat, A = a := ⟨A.toNat, by omega⟩
      rw [Int.toNat_natCast] at hst
      obtain ⟨y, hy⟩ : ∃ y : UInt8, UInt8.ofNat (48 + B.toNat) = y := ⟨_, rfl⟩
      have hyB : (y.toNat : Int) = 48 + B := by
        rw [← hy, UInt8.toNat_ofNat_of_lt' (by simp [UInt8.size]; omega)]
        omega
      rw [hy] at hst
      have hle : (spell (l.take (i + 1))).length ≤ 100000000 := by
        refine Nat.le_trans ?_ HSP.out
        have e : spell l = spell (l.take (i + 1)) ++ spell (l.drop (i + 1)) := by
          conv => lhs; rw [← List.take_append_drop (i + 1) l]
          unfold spell
          rw [List.flatMap_append]
        rw [e, List.length_append]
        omega
      rw [hst, List.length_append, List.length_replicate] at hle
      obtain ⟨x, hx⟩ : ∃ x, spell (l.take i) = x := ⟨_, rfl⟩
      rw [hx] at hown hst hle
      have HST := Lib.hid hst
      have HYB := Lib.hid hyB
      have HB := Lib.hid hB
      have HOWN := Lib.hid hown
      have HC1 := Lib.hid c1
      have HC2 := Lib.hid c2
      clear hst hyB hB hown hp hx hy c1 c2
      obtain ⟨wo, rfl⟩ : ∃ wo : World, wo = wr := ⟨_, rfl⟩
      go_wp2
      go_loopw [3, 5] (fun v3 v5 wi => ∃ k : Nat, v5 = .int .i64 k ∧ k ≤ a ∧ wi.ownsRow w.heap.size 5 1 v3 (x ++ List.replicate k y).length (Lib.byteCells (x ++ List.replicate k y)) ∧ Below w.heap.size w wi) (fun _ v5 _ => a - (intOf v5).toNat)
      case atStart => exact ⟨0, rfl, Nat.zero_le _, by simpa using HOWN.out, HB.out⟩
      case round =>
        obtain ⟨k, rfl, hk, hown, hB⟩ := hrel
        have HBI := Lib.hid hB
        have hsz := hB.size
        have c1 := (hB.cell (p := ⟨g, o + i * 2, none⟩) hg).trans HC1.out
        have c2 := (hB.cell (p := ⟨g, o + i * 2 + 1, none⟩) hg).trans HC2.out
        have g2 : (i : Int) < (n : Int) := by omega
        clear hB
        by_cases hlt2 : k < a
        · have hlk : (x ++ List.replicate k y).length ≤ 100000000 := by simp; omega
          obtain ⟨z, hz⟩ : ∃ z, x ++ List.replicate k y = z := ⟨_, rfl⟩
          rw [hz] at hown hlk
          have HZ := Lib.hid hz
          have HOW := Lib.hid hown
          clear hz hown
          go_wp2_with (at_builtin; refine wpList_append_own _ rfl _ _ 62 rfl w.heap.size 5 i0 (.int .u8 0) 1 1 Try.underlying62 hi hz0 hz1 hz2 rfl (by decide) _ _ _ rfl (HOW.out.alloc _) ⟨wr.heap.size, 0, none⟩ 1 1 [.int .u8 (48 + B)] rfl rfl ?c1 ?c2 ?c3 ?c4 ?c5 ?_)
          case c1 => exact cell_one_new _ _ _
          case c2 => intro u hu; simp at hu; subst hu; rfl
          case c3 => unfold maxLen; omega
          case c4 => omega
          case c5 => have := HBI.out.size; simp; omega
          intro v' w1 hown' hgrow _
          have HO := Lib.hid hown'
          have HG := Lib.hid hgrow
          clear hown' hgrow
          go_wp2
          go_roundw
          case rel =>
            refine ⟨k + 1, by go_num, by omega, ?_, ?_⟩
            · rw [List.replicate_succ', ← List.append_assoc, HZ.out, len_snoc, byteCells_snoc, HYB.out]
              exact HO.out
            · exact (HBI.out.alloc HBI.out.size _).grown HG.out (by have := HBI.out.size; simp; omega) (fun j hj => (HOW.out.lt j hj).1)
          case measure => simp [intOf]; omega
        · go_wp2
          go_roundw
          case rel =>
            obtain rfl : k = a := by omega
            refine ⟨i + 1, by go_num, by omega, ?_, HBI.out⟩
            rw [HST.out]
            exact hown
          case measure => simp [intOf]; omega
    · have HB := Lib.hid hB
      have hsz := hB.size
      rw [List.take_of_length_le (by rw [HN.out]; omega)] at hown
      have hcv := conv_own hown
      clear hB hown
      go_wp2
      go_ret
      exact ⟨rfl, HB.out⟩
end Go.Proofs.Ytodchgddkgjciaa
