/- What All and Days of the reference answer: the words of all days, or the error. Conditions: lengths within the reach of the form. -/
import Derived.Test.YtodchgddkgjciaaSaid
import Derived.Test.YtodchgddkgjciaaCount
namespace Go.Proofs.Ytodchgddkgjciaa
set_option linter.unusedVariables false
set_option linter.unusedSimpArgs false
open Go Go.RowKit
theorem info9 : (Try.prog.info? 9).map (fun i => (i.zero, i.size, i.bytes)) = some (some (.string ⟨#[]⟩), 1, 16) := by kernel_rfl
/-- Words as cells. -/
def strs (R : List (List UInt8)) : List Value := R.map fun l => .string (bs l)
theorem strs_snoc (R : List (List UInt8)) (t : List UInt8) : strs (R ++ [t]) = strs R ++ [.string (bs t)] := by simp [strs]
theorem strs_get {R : List (List UInt8)} {k : Nat} {x : List UInt8} (h : R[k]? = some x) : (strs R)[k]? = some (.string (bs x)) := by simp [strs, h]
/-- A list of the words of the days from 0 on. -/
def DayRow (l : List UInt8) (R : List (List UInt8)) : Prop := ∀ k x, R[k]? = some x → days k l = .ok x
theorem dayRow_one (l : List UInt8) : DayRow l [l] := by
  intro k x h
  cases k with
  | zero => simp at h; subst h; rfl
  | succ k => simp at h
theorem dayRow_snoc {l : List UInt8} {R : List (List UInt8)} {d : Nat} {x t : List UInt8} (h : DayRow l R) (hl : R.length = d + 1) (hx : days d l = .ok x) (hs : say x = some t) (ht : t.length ≤ 100000) : DayRow l (R ++ [t]) := by
  intro k y hk
  by_cases hlt : k < R.length
  · rw [List.getElem?_append_left hlt] at hk
    exact h k y hk
  · rw [List.getElem?_append_right (by omega)] at hk
    obtain ⟨hj, _⟩ := List.getElem?_eq_some_iff.1 hk
    simp at hj
    obtain rfl : k = d + 1 := by omega
    rw [hl, Nat.sub_self] at hk
    simp at hk
    subst hk
    rw [days_add hx, days_step hs ht]
    rfl
theorem days_no {l x : List UInt8} {d n : Nat} (hx : days d l = .ok x) (hd : d < n) (hs : say x = none) : days n l = .error 4 := by
  rw [show n = d + ((n - d - 1) + 1) by omega, days_add hx]
  simp only [days, dayE, hs]
theorem days_far {l x t : List UInt8} {d n : Nat} (hx : days d l = .ok x) (hd : d < n) (hs : say x = some t) (ht : 100000 < t.length) : days n l = .error 8 := by
  rw [show n = d + ((n - d - 1) + 1) by omega, days_add hx]
  simp only [days, dayE, hs]
  rw [if_pos ht]
theorem row_below {w w' : World} {B e size n : Nat} {v : Value} {xs : List Value} (h : w.ownsRow B e size v n xs) (hb : Below w.heap.size w w') : w'.ownsRow B e size v n xs := by
  refine ⟨h.1, ?_⟩
  rcases h.2 with hn | ⟨g, cap, cur, rfl, hB, hg, rest⟩
  · exact .inl hn
  · exact .inr ⟨g, cap, cur, rfl, hB, (hb.block g (Array.getElem?_eq_some_iff.1 hg).1).trans hg, rest⟩
/-- How All ends. -/
def AllEnd (l : List UInt8) (n B : Nat) (e : Ending) (W : World) : Prop :=
  (∃ c, days n l = .error c ∧ e = .returned (.tuple #[.slice none 0 0, .int .i64 c])) ∨
  (∃ R g cap, R.length = n + 1 ∧ DayRow l R ∧ e = .returned (.tuple #[.slice (some ⟨g, 0, none⟩) (n + 1) cap, .int .i64 0]) ∧ W.ownsRow B 9 1 (.slice (some ⟨g, 0, none⟩) (n + 1) cap) (n + 1) (strs R))
set_option maxRecDepth 100000 in
set_option maxHeartbeats 4000000 in
theorem All_walk (s : ByteArray) (n : Nat) (w : World) (h0 : wordE (ls s) = 0) (hn : n ≤ 40) :
    Calls Try.prog 46 #[.string s, .int .i64 n] w fun e w' => AllEnd (ls s) n w.heap.size e w' ∧ Below w.heap.size w w' := by
  obtain ⟨i0, hi, hz0, hz1, hz2⟩ := info_parts info9
  obtain ⟨h1, h2, h3⟩ := wordE_zero.1 h0
  rw [length_ls] at h1
  have HW := Lib.hid (fun W => Word_of s 0 W (by omega) h0)
  have HD := Lib.hid h2
  have HNE := Lib.hid h3
  have g1 : decide ((n : Int) < 0) = false := decide_eq_false (by omega)
  have g2 : decide ((40 : Int) < (n : Int)) = false := decide_eq_false (by omega)
  have g3 : decide (40 < n) = false := decide_eq_false (by omega)
  clear h0 h2 h3
  go_enter Try.func46, Try.ntmps46
  go_wp2_with (first | (go_at_call 26; (with_reducible refine (HW.out _).mono ?_); rintro e w1 ⟨rfl, rfl⟩))
  go_loopw [7, 8] (fun v7 v8 wr => ∃ (d : Nat) (R : List (List UInt8)) (g cap : Nat), v8 = .int .i64 d ∧ d ≤ n ∧ v7 = .slice (some ⟨g, 0, none⟩) (d + 1) cap ∧ Hid (R.length = d + 1) ∧ Hid (DayRow (ls s) R) ∧ Hid (wr.ownsRow w.heap.size 9 1 (.slice (some ⟨g, 0, none⟩) (d + 1) cap) (d + 1) (strs R)) ∧ Hid (Below w.heap.size w wr)) (fun _ v8 _ => n - (intOf v8).toNat)
  case atStart =>
    refine ⟨0, [ls s], w.heap.size, 1, rfl, Nat.zero_le _, rfl, rfl, dayRow_one _, ?_, (Below.refl _ _).alloc (Nat.le_refl _) _⟩
    have := World.ownsRow_lit (base := w.heap.size) (e := 9) (size := 1) w #[.string s] 1 (Nat.le_refl _) (by decide) rfl
    unfold Hid
    rw [show strs [ls s] = [.string s] by simp [strs, bs_ls]]
    exact this
  case round =>
    obtain ⟨d, R, g, cap, rfl, hd, rfl, HRL, HDR, HOW, HB⟩ := hrel
    have hsz := HB.out.size
    by_cases hlt : d < n
    · obtain ⟨x, hx⟩ : ∃ x, R[d]? = some x := ⟨R[d]'(by rw [HRL.out]; omega), List.getElem?_eq_getElem _⟩
      have hxd := HDR.out d x hx
      have hxg := days_digs HD.out hxd
      have hxn := days_ne hxd HNE.out
      have hxl := days_len hxd (by rw [length_ls]; omega)
      have hxc : wr.cell? ⟨g, d, none⟩ = some (.string (bs x)) := by rw [HOW.out.cellAt d (by omega)]; exact strs_get hx
      obtain ⟨b, rfl⟩ : ∃ b : ByteArray, x = ls b := ⟨bs x, (ls_bs x).symm⟩
      rw [bs_ls] at hxc
      rw [length_ls] at hxl
      have f1 : (d : Int) < (d : Int) + 1 := by omega
      have hs := fun W => Said_any b W hxg hxn (by omega)
      have HXD := Lib.hid hxd
      have HXG := Lib.hid hxg
      cases hq : say (ls b) with
      | none =>
        rw [hq, beforeV_none] at hs
        have HS := Lib.hid hs
        have HE := Lib.hid (days_no hxd hlt hq)
        clear hs hq hxn hxg hxd hx
        go_wp2_with (first | (go_at_call 41; (with_reducible refine (HS.out _).mono ?_); rintro e w2 ⟨rfl, hb⟩; have HB2 := Lib.hid hb; clear hb))
        go_ret2
        exact ⟨.inl ⟨4, HE.out, rfl⟩, HB.out.trans (HB2.out.mono hsz)⟩
      | some t =>
        rw [hq, beforeV_some] at hs
        obtain ⟨u, rfl⟩ : ∃ u : ByteArray, t = ls u := ⟨bs t, (ls_bs t).symm⟩
        rw [bs_ls] at hs
        have HS := Lib.hid hs
        have HQ := Lib.hid hq
        have hul := (say_digs hxg hq).2
        rw [length_ls] at hul
        have hrl := length_runs_le (ls b)
        rw [length_ls] at hrl
        by_cases hfar : 100000 < u.size
        · have HE := Lib.hid (days_far hxd hlt hq (by rw [length_ls]; exact hfar))
          clear hs hq hxn hxg hxd hx
          go_wp2_with (first | (go_at_call 41; (with_reducible refine (HS.out _).mono ?_); rintro e w2 ⟨rfl, hb⟩; have HB2 := Lib.hid hb; clear hb))
          go_ret2
          exact ⟨.inl ⟨8, HE.out, rfl⟩, HB.out.trans (HB2.out.mono hsz)⟩
        · have HR2 := Lib.hid (dayRow_snoc HDR.out HRL.out hxd hq (by rw [length_ls]; omega))
          clear hs hq hxn hxg hxd hx
          go_wp2_with (first | (go_at_call 41; (with_reducible refine (HS.out _).mono ?_); rintro e w2 ⟨rfl, hb⟩; have HB2 := Lib.hid hb; clear hb) | (at_builtin; refine wpList_append_own _ rfl _ _ 53 rfl w.heap.size 9 i0 (.string ⟨#[]⟩) 1 16 Try.underlying53 hi hz0 hz1 hz2 rfl (by decide) _ _ _ rfl ((row_below HOW.out HB2.out).alloc _) ⟨w2.heap.size, 0, none⟩ 1 1 [.string u] rfl rfl ?c1 ?c2 ?c3 ?c4 ?c5 ?_))
          case c1 => exact cell_one_new _ _ _
          case c2 => intro u hu; simp at hu; subst hu; rfl
          case c3 => unfold maxLen; omega
          case c4 => omega
          case c5 => have := HB2.out.size; simp; omega
          intro v' w3 hown' hgrow _
          obtain ⟨g', cap', rfl⟩ := ownsRow_succ hown'
          have HO := Lib.hid hown'
          have HG := Lib.hid hgrow
          clear hown' hgrow
          go_wp2
          go_roundw
          case rel =>
            refine ⟨d + 1, R ++ [ls u], g', cap', by go_num, by omega, by go_num, ?_, HR2.out, ?_, ?_⟩
            · unfold Hid; rw [List.length_append, HRL.out]; rfl
            · unfold Hid; rw [strs_snoc, bs_ls]; exact HO.out
            · have hB2 := HB.out.trans (HB2.out.mono hsz)
              exact (hB2.alloc hB2.size _).grown HG.out (by have := HB2.out.size; simp; omega) (fun j hj => ((row_below HOW.out HB2.out).lt j hj).1)
          case measure => simp [intOf]; omega
    · obtain rfl : d = n := by omega
      go_wp2
      go_ret2
      exact ⟨.inr ⟨R, g, cap, HRL.out, HDR.out, rfl, HOW.out⟩, HB.out⟩
end Go.Proofs.Ytodchgddkgjciaa
