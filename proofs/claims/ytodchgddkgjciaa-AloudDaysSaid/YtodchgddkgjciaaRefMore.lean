/- What Runs and Longest of the reference and pairs, the comparison of the statements, answer. Conditions: lengths within the reach of the form. -/
import Derived.Test.YtodchgddkgjciaaLongest
import Derived.Test.YtodchgddkgjciaaOfWalk
import Derived.Test.YtodchgddkgjciaaAgesMath
namespace Go.Proofs.Ytodchgddkgjciaa
set_option linter.unusedVariables false
set_option linter.unusedSimpArgs false
open Go Go.RowKit
theorem pcells_at {l : List (Int × Int)} {j : Nat} {p : Int × Int} (h : l[j]? = some p) : (pcells l)[j * 2]? = some (.int .i64 p.1) ∧ (pcells l)[j * 2 + 1]? = some (.int .i64 p.2) := by
  induction l generalizing j with
  | nil => simp at h
  | cons q l ih =>
    cases j with
    | zero => simp at h; subst h; exact ⟨rfl, rfl⟩
    | succ j =>
      have := ih (j := j) (by simpa using h)
      rw [show (j + 1) * 2 = j * 2 + 1 + 1 by omega, show pcells (q :: l) = .int .i64 q.1 :: .int .i64 q.2 :: pcells l from rfl]
      simpa using this
/-- A row of pairs that the caller owns, as an argument. -/
theorem pairs_of_owns {W : World} {B g cap : Nat} {l : List (Int × Int)} (h : W.ownsRow B 60 2 (.slice (some ⟨g, 0, none⟩) l.length cap) l.length (pcells l)) : PairsAt W (.slice (some ⟨g, 0, none⟩) l.length cap) l := by
  refine .inr ⟨g, 0, cap, rfl, (h.lt g rfl).2, fun j p hp => ?_⟩
  have hj := (List.getElem?_eq_some_iff.1 hp).1
  obtain ⟨e1, e2⟩ := pcells_at hp
  rw [Nat.zero_add, h.cellAt (j * 2) (by omega), h.cellAt (j * 2 + 1) (by omega)]
  exact ⟨e1, e2⟩
theorem RefRuns_bad (s : ByteArray) (w : World) (hlen : s.size ≤ 140737488351232) (h0 : wordE (ls s) ≠ 0) :
    Calls Try.prog 36 #[.string s] w fun e w' => e = .returned (.tuple #[.slice none 0 0, .int .i64 (wordE (ls s))]) ∧ w = w' := by
  obtain ⟨k, hk⟩ : ∃ k, wordE (ls s) = k := ⟨_, rfl⟩
  have HK := Lib.hid (fun W => Word_of s k W hlen hk)
  rw [hk] at h0 ⊢
  have hkb : (k == 0) = false := by rw [beq_eq_false_iff_ne]; exact h0
  have hkn : (k != 0) = true := by rw [bne, hkb]; rfl
  clear hk h0
  go_enter Try.func36, Try.ntmps36
  go_wp2_with (first | (go_at_call 26; (with_reducible refine (HK.out _).mono ?_); rintro e w1 ⟨rfl, rfl⟩))
  go_ret2
  exact ⟨rfl, rfl⟩
theorem RefRuns_good (s : ByteArray) (w : World) (h0 : wordE (ls s) = 0) :
    Calls Try.prog 36 #[.string s] w fun e w' => (∃ g cap, e = .returned (.tuple #[.slice (some ⟨g, 0, none⟩) (runs (ls s)).length cap, .int .i64 0]) ∧ w'.ownsRow w.heap.size 60 2 (.slice (some ⟨g, 0, none⟩) (runs (ls s)).length cap) (runs (ls s)).length (pcells (rpairs (ls s)))) ∧ Below w.heap.size w w' := by
  obtain ⟨q1, q2, q3⟩ := wordE_zero.1 h0
  rw [length_ls] at q1
  have HK := Lib.hid (fun W => Word_of s 0 W (by omega) h0)
  have HR := Lib.hid (fun W => refRuns_any s W q2 (by omega))
  have HNE := Lib.hid (runs_ne q3)
  clear q2 q3 h0
  go_enter Try.func36, Try.ntmps36
  go_wp2_with (first | (go_at_call 26; (with_reducible refine (HK.out _).mono ?_); rintro e w1 ⟨rfl, rfl⟩) | (go_at_call 53; (with_reducible refine (HR.out _).mono ?_); rintro e w1 ⟨⟨v, rfl, hown⟩, hb⟩; have HB := Lib.hid hb; have HO := Lib.hid hown; clear hb hown))
  go_ret2
  refine ⟨?_, HB.out⟩
  obtain ⟨n, hn⟩ : ∃ n, (runs (ls s)).length = n + 1 := ⟨(runs (ls s)).length - 1, by
    have := List.length_pos_iff.2 HNE.out
    omega⟩
  have hr := HO.out
  rw [rpairs, List.length_map, hn] at hr
  rw [hn]
  obtain ⟨g, cap, rfl⟩ := ownsRow_succ hr
  exact ⟨g, cap, rfl, hr⟩
set_option maxRecDepth 100000 in
set_option maxHeartbeats 2000000 in
theorem pairs_some (l : List (Int × Int)) (g o cap g' o' cap' : Nat) (w : World) (hlen : l.length ≤ 140737488351232)
    (hc : ∀ j p, l[j]? = some p → w.cell? ⟨g, o + j * 2, none⟩ = some (.int .i64 p.1) ∧ w.cell? ⟨g, o + j * 2 + 1, none⟩ = some (.int .i64 p.2))
    (hc' : ∀ j p, l[j]? = some p → w.cell? ⟨g', o' + j * 2, none⟩ = some (.int .i64 p.1) ∧ w.cell? ⟨g', o' + j * 2 + 1, none⟩ = some (.int .i64 p.2)) :
    Calls Try.prog 34 #[.slice (some ⟨g, o, none⟩) l.length cap, .slice (some ⟨g', o', none⟩) l.length cap'] w fun e w' => e = .returned (.bool true) ∧ Below w.heap.size w w' := by
  obtain ⟨n, hn⟩ : ∃ n, l.length = n := ⟨_, rfl⟩
  rw [hn] at hlen ⊢
  have HN := Lib.hid hn
  have HC := Lib.hid hc
  have HC' := Lib.hid hc'
  clear hn hc hc'
  go_enter Try.func34, Try.ntmps34
  go_wp2
  go_loopw [5] (fun v5 wr => ∃ i : Nat, v5 = .int .i64 i ∧ i ≤ n ∧ (∀ a : Addr, wr.cell? a = w.cell? a) ∧ Below w.heap.size w wr) (fun v5 _ => n - (intOf v5).toNat)
  case atStart => exact ⟨0, rfl, Nat.zero_le _, fun _ => rfl, Below.refl _ _⟩
  case round =>
    obtain ⟨i, rfl, hi, hcell, hB⟩ := hrel
    have HB := Lib.hid hB
    have HCELL := Lib.hid hcell
    clear hB hcell
    by_cases hlt : i < n
    · obtain ⟨p, hp⟩ : ∃ p, l[i]? = some p := ⟨l[i]'(by rw [HN.out]; exact hlt), List.getElem?_eq_getElem _⟩
      obtain ⟨A, B⟩ := p
      obtain ⟨c1, c2⟩ := HC.out i _ hp
      obtain ⟨d1, d2⟩ := HC'.out i _ hp
      rw [← HCELL.out] at c1 c2 d1 d2
      dsimp only at c1 c2 d1 d2
      have g2 : (i : Int) < (n : Int) := by omega
      clear hp
      go_wp2
      go_quiet (fail)
      go_wp2
      go_roundw
      case rel => exact ⟨i + 1, by go_num, by omega, HCELL.out, below_dn HB.out nq⟩
      case measure => simp [intOf]; omega
    · go_wp2
      go_ret
      exact ⟨rfl, HB.out⟩
/-- No pairs. -/
def NoPairs (v : Value) : Prop := v = .slice none 0 0 ∨ ∃ g o cap, v = .slice (some ⟨g, o, none⟩) 0 cap
theorem pairs_none (a b : Value) (w : World) (ha : NoPairs a) (hb : NoPairs b) :
    Calls Try.prog 34 #[a, b] w fun e w' => e = .returned (.bool true) ∧ Below w.heap.size w w' := by
  rcases ha with rfl | ⟨g, o, cap, rfl⟩ <;> rcases hb with rfl | ⟨g', o', cap', rfl⟩
  all_goals
    go_enter Try.func34, Try.ntmps34
    go_wp2
    go_loopw [5] (fun v5 wr => v5 = .int .i64 0 ∧ Below w.heap.size w wr) (fun v5 _ => 0)
    case atStart => exact ⟨rfl, Below.refl _ _⟩
    case round =>
      obtain ⟨rfl, hB⟩ := hrel
      have HB := Lib.hid hB
      clear hB
      go_wp2
      go_ret
      exact ⟨rfl, HB.out⟩
theorem pairs_same (l : List (Int × Int)) (a b : Value) (w : World) (hlen : l.length ≤ 140737488351232) (ha : PairsAt w a l) (hb : PairsAt w b l) :
    Calls Try.prog 34 #[a, b] w fun e w' => e = .returned (.bool true) ∧ Below w.heap.size w w' := by
  rcases ha with ⟨rfl, rfl⟩ | ⟨g, o, cap, rfl, hg, hc⟩
  · refine pairs_none _ _ w (.inl rfl) ?_
    rcases hb with ⟨rfl, _⟩ | ⟨g', o', cap', rfl, _, _⟩
    · exact .inl rfl
    · exact .inr ⟨g', o', cap', rfl⟩
  · rcases hb with ⟨rfl, rfl⟩ | ⟨g', o', cap', rfl, hg', hc'⟩
    · exact pairs_none _ _ w (.inr ⟨g, o, cap, rfl⟩) (.inl rfl)
    · exact pairs_some l g o cap g' o' cap' w hlen hc hc'
theorem most_take {r : List (Nat × UInt8)} {i : Nat} {p : Nat × UInt8} (h : r[i]? = some p) : most (r.take (i + 1)) = max (most (r.take i)) p.1 := by
  rw [List.take_add_one, h, Option.toList_some, most_snoc]
set_option maxRecDepth 100000 in
set_option maxHeartbeats 2000000 in
theorem RefLongest_any (s : ByteArray) (w : World) (hlen : s.size ≤ 140737488351232) :
    Calls Try.prog 38 #[.string s] w fun e w' => e = .returned (outI (longE (ls s))) ∧ Below w.heap.size w w' := by
  by_cases h0 : wordE (ls s) = 0
  · have HR := Lib.hid (fun W => RefRuns_good s W h0)
    have HE := Lib.hid (show outI (longE (ls s)) = .tuple #[.int .i64 (most (runs (ls s))), .int .i64 0] from by rw [longE, if_neg (by simp [h0])]; rfl)
    have hl := length_runs_le (ls s)
    have h200 := (wordE_zero.1 h0).1
    have hML := Lib.hid (fun k => most_le ((runs (ls s)).take k) 200 (fun p hp => by
      have := (runs_mem (List.mem_of_mem_take hp)).2.2
      omega))
    obtain ⟨r, hr⟩ : ∃ r, runs (ls s) = r := ⟨_, rfl⟩
    obtain ⟨n, hn⟩ : ∃ n, r.length = n := ⟨_, rfl⟩
    have hrp : rpairs (ls s) = r.map ipair := by rw [rpairs, hr]
    rw [hrp] at HR
    rw [hr, hn] at HR
    rw [hr] at HE hML
    rw [hr, hn] at hl
    have HN := Lib.hid hn
    clear h0 hr hn hrp
    go_enter Try.func38, Try.ntmps38
    go_wp2_with (first | (go_at_call 36; (with_reducible refine (HR.out _).mono ?_); rintro e w1 ⟨⟨g, cap, rfl, hown⟩, hb⟩; have HB := Lib.hid hb; have HO := Lib.hid hown; clear hb hown))
    go_loopw [6, 7] (fun v6 v7 wr => ∃ i m : Nat, v6 = .int .i64 m ∧ v7 = .int .i64 i ∧ i ≤ n ∧ m ≤ 200 ∧ Hid (m = most (r.take i)) ∧ wr = w1) (fun _ v7 _ => n - (intOf v7).toNat)
    case atStart => exact ⟨0, 0, rfl, rfl, Nat.zero_le _, by omega, rfl, rfl⟩
    case round =>
      obtain ⟨i, m, rfl, rfl, hi, hm, HM, rfl⟩ := hrel
      by_cases hlt : i < n
      · obtain ⟨p, hp⟩ : ∃ p, r[i]? = some p := ⟨r[i]'(by rw [HN.out]; exact hlt), List.getElem?_eq_getElem _⟩
        obtain ⟨k, d⟩ := p
        have c1 : wr.cell? ⟨g, i * 2, none⟩ = some (.int .i64 k) := by
          rw [HO.out.cellAt (i * 2) (by omega)]
          exact (pcells_at (p := ipair (k, d)) (by rw [List.getElem?_map, hp]; rfl)).1
        have g2 : (i : Int) < (n : Int) := by omega
        have HT := Lib.hid (most_take hp)
        have hb2 := hML.out (i + 1)
        rw [HT.out, ← HM.out] at hb2
        dsimp only at hb2
        have he : max (m : Int) (k : Int) = ((max m k : Nat) : Int) := by omega
        clear hp
        go_wp2
        go_roundw
        case rel => exact ⟨i + 1, max m k, by go_num, by go_num, by omega, by omega, by unfold Hid; rw [HT.out, HM.out], trivial⟩
        case measure => simp [intOf]; omega
      · go_wp2
        go_ret2
        refine ⟨?_, HB.out⟩
        rw [HE.out]
        have e := HM.out
        rw [List.take_of_length_le (by rw [HN.out]; omega)] at e
        rw [← e]
        rfl
  · have HE := Lib.hid (show outI (longE (ls s)) = .tuple #[.int .i64 0, .int .i64 (wordE (ls s))] from by rw [longE, if_pos h0]; rfl)
    have hr := fun W => RefRuns_bad s W hlen h0
    obtain ⟨k, hk⟩ : ∃ k, wordE (ls s) = k := ⟨_, rfl⟩
    rw [hk] at hr HE h0
    have HR := Lib.hid hr
    clear hr hk h0
    go_enter Try.func38, Try.ntmps38
    go_wp2_with (first | (go_at_call 36; (with_reducible refine (HR.out _).mono ?_); rintro e w1 ⟨rfl, rfl⟩))
    go_loopw [6, 7] (fun v6 v7 wr => v6 = .int .i64 0 ∧ v7 = .int .i64 0 ∧ wr = w) (fun _ _ _ => 0)
    case atStart => exact ⟨rfl, rfl, rfl⟩
    case round =>
      obtain ⟨rfl, rfl, rfl⟩ := hrel
      go_wp2
      go_ret2
      exact ⟨by rw [HE.out]; rfl, Below.refl _ _⟩
end Go.Proofs.Ytodchgddkgjciaa
