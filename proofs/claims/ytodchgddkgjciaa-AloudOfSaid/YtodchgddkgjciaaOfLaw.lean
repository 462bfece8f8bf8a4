/- The walk of the statement AloudOf: it answers true. Conditions: the pairs lie where the slice says. -/
import Derived.Test.YtodchgddkgjciaaRefOf
import Derived.Laws.AppendOwnNone
namespace Go.Proofs.Ytodchgddkgjciaa
set_option linter.unusedVariables false
set_option linter.unusedSimpArgs false
open Go Go.RowKit
theorem pairs_of_row {W : World} {B : Nat} {v : Value} {l : List (Int × Int)} (h : W.ownsRow B 60 2 v l.length (pcells l)) : PairsAt W v l := by
  rcases h.2 with ⟨rfl, h0⟩ | ⟨g, cap, cur, rfl, _⟩
  · exact .inl ⟨rfl, List.length_eq_zero_iff.1 h0⟩
  · exact pairs_of_owns h
theorem pcells_cells {W : World} {g o : Nat} {l : List (Int × Int)} (hc : ∀ j p, l[j]? = some p → W.cell? ⟨g, o + j * 2, none⟩ = some (.int .i64 p.1) ∧ W.cell? ⟨g, o + j * 2 + 1, none⟩ = some (.int .i64 p.2)) :
    ∀ j u, (pcells l)[j]? = some u → W.cell? ((⟨g, o, none⟩ : Addr).add j) = some u := by
  intro j u hj
  have hlt := (List.getElem?_eq_some_iff.1 hj).1
  rw [pcells_length] at hlt
  obtain ⟨p, hp⟩ : ∃ p, l[j / 2]? = some p := ⟨l[j / 2]'(by omega), List.getElem?_eq_getElem _⟩
  obtain ⟨e1, e2⟩ := pcells_at hp
  obtain ⟨f1, f2⟩ := hc _ _ hp
  rw [show (⟨g, o, none⟩ : Addr).add j = ⟨g, o + j, none⟩ from by simp [Addr.add]]
  by_cases h : j % 2 = 0
  · have hj2 : j / 2 * 2 = j := by omega
    rw [hj2] at e1 f1
    rw [f1, ← e1, hj]
  · have hj2 : j / 2 * 2 + 1 = j := by omega
    rw [hj2] at e2
    rw [show o + j / 2 * 2 + 1 = o + j by omega] at f2
    rw [f2, ← e2, hj]
theorem pcells_one (l : List (Int × Int)) : ∀ u ∈ pcells l, u.oneCell' = true := by
  intro u hu
  simp only [pcells, List.mem_flatMap] at hu
  obtain ⟨p, _, hp⟩ := hu
  simp at hp
  rcases hp with rfl | rfl <;> rfl
theorem outS_pair (r : Except Int (List UInt8)) : ∃ (s : ByteArray) (e : Int), outS r = .tuple #[.string s, .int .i64 e] := ⟨_, _, rfl⟩
set_option maxHeartbeats 4000000 in
set_option maxRecDepth 100000 in
theorem Of_law (l : List (Int × Int)) (v : Value) (w : World) (hlen : l.length ≤ 140737488351232) (hv : PairsAt w v l) :
    Calls Try.prog 13 #[v] w fun e w' => e = .returned (.bool true) ∧ Below w.heap.size w w' := by
  have HA := Lib.hid (fun W => alive_any W)
  obtain ⟨i0, hi, hz0, hz1, hz2⟩ := info_parts info60
  have HV := Lib.hid hv
  obtain ⟨s, e, hse⟩ := outS_pair (ofE l)
  have h1 := fun W u (hu : PairsAt W u l) => Of_any l u W hlen hu
  have h2 := fun W u (hu : PairsAt W u l) => RefOf_any l u W hlen hu
  rw [hse] at h1 h2
  have HO := Lib.hid h1
  have HR := Lib.hid h2
  clear h1 h2 hse
  rcases hv with ⟨rfl, rfl⟩ | ⟨g, o, cap, rfl, hg, hc⟩
  · go_enter Try.func13, Try.ntmps13
    have HPO : Hid (PairsAt (w.alloc (.cells #[] 60)) (.slice (some ⟨w.heap.size, 0, none⟩) 0 0) []) := .inr ⟨w.heap.size, 0, 0, rfl, by simp, fun j p hp => by simp at hp⟩
    have HB0 : Hid (Below w.heap.size w (w.alloc (.cells #[] 60))) := (Below.refl _ _).alloc (Nat.le_refl _) _
    go_wp2_with fail
    (with_reducible refine (HO.out _ _ HPO.out).mono ?_)
    rintro _ w2 ⟨rfl, hb⟩
    have HB2 := Lib.hid hb
    have HBO : Hid (Below w.heap.size w w2) := HB0.out.trans (HB2.out.mono (by simp))
    clear hb
    go_wp2_with fail
    (with_reducible refine (HR.out _ _ (HV.out.below HBO.out)).mono ?_)
    rintro _ w3 ⟨rfl, hb⟩
    have HB3 := Lib.hid hb
    have HBQ : Hid (Below w.heap.size w w3) := HBO.out.trans (HB3.out.mono HBO.out.size)
    clear hb
    go_wp2_with fail
    (with_reducible refine (pairs_same _ _ _ _ (Nat.zero_le _) ((HPO.out.below HB2.out).below HB3.out) (HV.out.below HBQ.out)).mono ?_)
    rintro _ w4 ⟨rfl, hb⟩
    have HB4 := Lib.hid hb
    clear hb
    go_wp2_with fail
    (with_reducible refine (HA.out _).mono ?_)
    rintro _ w5 ⟨rfl, hb⟩
    have HB5 := Lib.hid hb
    clear hb
    go_wp2
    go_ret
    exact ⟨rfl, HBQ.out.trans ((next_below HB4.out HB5.out).mono HBQ.out.size)⟩
  · obtain ⟨n, hn⟩ : ∃ n, l.length = n := ⟨_, rfl⟩
    rw [hn] at HV hlen ⊢
    by_cases h1000 : 1000 < n
    · clear hc hn
      go_enter Try.func13, Try.ntmps13
      go_wp2_with (first | (go_at_call 17; (with_reducible refine (HA.out _).mono ?_); rintro e w1 ⟨rfl, hb⟩; have HB := Lib.hid hb; clear hb))
      go_ret
      exact ⟨rfl, HB.out⟩
    · have HN := Lib.hid hn
      have HC := Lib.hid (pcells_cells hc)
      clear hc hn
      go_enter Try.func13, Try.ntmps13
      have hbase := (World.ownsRow_made (base := w.heap.size) (e := 60) (size := 2) w #[] 0 (Nat.le_refl _) (by decide) rfl)
      have HBASE := Lib.hid hbase
      have hcl : ∀ j u, (pcells l)[j]? = some u → (w.alloc (.cells #[] 60)).cell? ((⟨g, o, none⟩ : Addr).add j) = some u := by
        intro j u hj
        have h := HC.out j u hj
        rw [show (⟨g, o, none⟩ : Addr).add j = ⟨g, o + j, none⟩ from by simp [Addr.add]] at h ⊢
        rw [((Below.refl w.heap.size w).alloc (Nat.le_refl _) (.cells #[] 60)).cell (show (⟨g, o + j, none⟩ : Addr).block < w.heap.size from hg)]
        exact h
      have HCL := Lib.hid hcl
      have HONE := Lib.hid (pcells_one l)
      have HPL := Lib.hid (show (pcells l).length = n * 2 by rw [pcells_length, HN.out])
      clear hbase hcl
      go_wp2_with (at_builtin; refine wpList_append_own _ rfl _ _ 37 rfl w.heap.size 60 i0 (.agg #[.int .i64 0, .int .i64 0]) 2 16 Try.underlying37 hi hz0 hz1 hz2 rfl (by decide) _ _ _ rfl HBASE.out ⟨g, o, none⟩ n cap (pcells l) rfl HPL.out HCL.out HONE.out ?c3 ?c4 ?c5 ?_)
      case c3 => unfold maxLen; omega
      case c4 => omega
      case c5 => simp
      intro v' w1 hown' hgrow _
      rw [← HN.out] at hown'
      have HPO := Lib.hid (pairs_of_row hown')
      have HB1 : Hid (Below w.heap.size w w1) := ((Below.refl _ _).alloc (Nat.le_refl _) _).grown hgrow (by simp) (fun k hk => (HBASE.out.lt k hk).1)
      clear hown' hgrow
      go_wp2_with fail
      (with_reducible refine (HO.out _ _ HPO.out).mono ?_)
      rintro _ w2 ⟨rfl, hb⟩
      have HB2 := Lib.hid hb
      have HBO : Hid (Below w.heap.size w w2) := HB1.out.trans (HB2.out.mono HB1.out.size)
      clear hb
      go_wp2_with fail
      (with_reducible refine (HR.out _ _ (HV.out.below HBO.out)).mono ?_)
      rintro _ w3 ⟨rfl, hb⟩
      have HB3 := Lib.hid hb
      have HBQ : Hid (Below w.heap.size w w3) := HBO.out.trans (HB3.out.mono HBO.out.size)
      clear hb
      go_wp2_with fail
      (with_reducible refine (pairs_same _ _ _ _ (by rw [HN.out]; exact hlen) ((HPO.out.below HB2.out).below HB3.out) (HV.out.below HBQ.out)).mono ?_)
      rintro _ w4 ⟨rfl, hb⟩
      have HB4 := Lib.hid hb
      clear hb
      go_wp2_with fail
      (with_reducible refine (HA.out _).mono ?_)
      rintro _ w5 ⟨rfl, hb⟩
      have HB5 := Lib.hid hb
      clear hb
      go_wp2
      go_ret
      exact ⟨rfl, HBQ.out.trans ((next_below HB4.out HB5.out).mono HBQ.out.size)⟩
/-- No pairs, wherever the slice points. -/
def NoP (v : Value) : Prop := v = .slice none 0 0 ∨ ∃ a cap, v = .slice (some a) 0 cap
theorem nop_slice (a : Addr) (cap : Nat) : NoP (.slice (some a) 0 cap) := .inr ⟨a, cap, rfl⟩
theorem nop_of {W : World} {v : Value} (h : PairsAt W v []) : NoP v := by
  rcases h with ⟨rfl, _⟩ | ⟨g, o, cap, rfl, _⟩
  · exact .inl rfl
  · exact .inr ⟨_, _, rfl⟩
theorem pairs_nop (a b : Value) (w : World) (ha : NoP a) (hb : NoP b) :
    Calls Try.prog 34 #[a, b] w fun e w' => e = .returned (.bool true) ∧ Below w.heap.size w w' := by
  rcases ha with rfl | ⟨x, cap, rfl⟩ <;> rcases hb with rfl | ⟨y, cap', rfl⟩
  all_goals
    go_enter Try.func34, Try.ntmps34
    go_wp2
    go_loopw [5] (fun v5 wr => v5 = .int .i64 0 ∧ Below w.heap.size w wr) (fun v5 _ => 0)
    case atStart => exact ⟨rfl, Below.refl _ _⟩
    case round =>
      obtain ⟨rfl, hB⟩ := hrel
      have HB := Lib.hid hB
      clear hB
      go_wp2
      go_ret
      exact ⟨rfl, HB.out⟩
theorem RefOf_nop (a : Addr) (cap : Nat) (w : World) :
    Calls Try.prog 33 #[.slice (some a) 0 cap] w fun e w' => e = .returned (.tuple #[.string ⟨#[]⟩, .int .i64 5]) ∧ Below w.heap.size w w' := by
  go_enter Try.func33, Try.ntmps33
  go_wp2
  go_loopw [4, 5] (fun v4 v5 wr => v4 = .int .i64 0 ∧ v5 = .int .i64 0 ∧ wr = w) (fun _ _ _ => 0)
  case atStart => exact ⟨rfl, rfl, rfl⟩
  case round =>
    obtain ⟨rfl, rfl, rfl⟩ := hrel
    go_wp2
    go_ret2
    exact ⟨rfl, Below.refl _ _⟩
set_option maxHeartbeats 4000000 in
set_option maxRecDepth 100000 in
theorem Of_law_none (a : Addr) (cap : Nat) (w : World) :
    Calls Try.prog 13 #[.slice (some a) 0 cap] w fun e w' => e = .returned (.bool true) ∧ Below w.heap.size w w' := by
  have HA := Lib.hid (fun W => alive_any W)
  obtain ⟨i0, hi, hz0, hz1, hz2⟩ := info_parts info60
  have HBASE := Lib.hid (World.ownsRow_made (base := w.heap.size) (e := 60) (size := 2) w #[] 0 (Nat.le_refl _) (by decide) rfl)
  have HO := Lib.hid (fun W u (hu : PairsAt W u []) => show Calls Try.prog 32 #[u] W fun e w' => e = .returned (.tuple #[.string ⟨#[]⟩, .int .i64 5]) ∧ Below W.heap.size W w' from Of_any [] u W (Nat.zero_le _) hu)
  go_enter Try.func13, Try.ntmps13
  go_wp2_with (at_builtin; refine wpList_append_own _ rfl _ _ 37 rfl w.heap.size 60 i0 (.agg #[.int .i64 0, .int .i64 0]) 2 16 Try.underlying37 hi hz0 hz1 hz2 rfl (by decide) _ _ _ rfl HBASE.out a 0 cap [] rfl rfl (by intro j u hj; simp at hj) (by intro u hu; simp at hu) ?c3 ?c4 ?c5 ?_)
  case c3 => decide
  case c4 => decide
  case c5 => simp
  intro v' w1 hown' hgrow _
  have HPO : Hid (PairsAt w1 v' []) := pairs_of_row hown'
  have HB1 : Hid (Below w.heap.size w w1) := ((Below.refl _ _).alloc (Nat.le_refl _) _).grown hgrow (by simp) (fun k hk => (HBASE.out.lt k hk).1)
  clear hown' hgrow
  go_wp2_with fail
  (with_reducible refine (HO.out _ _ HPO.out).mono ?_)
  rintro _ w2 ⟨rfl, hb⟩
  have HB2 := Lib.hid hb
  have HBO : Hid (Below w.heap.size w w2) := HB1.out.trans (HB2.out.mono HB1.out.size)
  clear hb
  go_wp2_with fail
  (with_reducible refine (RefOf_nop _ _ _).mono ?_)
  rintro _ w3 ⟨rfl, hb⟩
  have HB3 := Lib.hid hb
  have HBQ : Hid (Below w.heap.size w w3) := HBO.out.trans (HB3.out.mono HBO.out.size)
  clear hb
  go_wp2_with fail
  (with_reducible refine (pairs_nop _ _ _ (nop_of HPO.out) (nop_slice _ _)).mono ?_)
  rintro _ w4 ⟨rfl, hb⟩
  have HB4 := Lib.hid hb
  clear hb
  go_wp2_with fail
  (with_reducible refine (HA.out _).mono ?_)
  rintro _ w5 ⟨rfl, hb⟩
  have HB5 := Lib.hid hb
  clear hb
  go_wp2
  go_ret
  exact ⟨rfl, HBQ.out.trans ((next_below HB4.out HB5.out).mono HBQ.out.size)⟩
end Go.Proofs.Ytodchgddkgjciaa
