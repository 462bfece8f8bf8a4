/- What Age and Apart of package aloud answer. Conditions: lengths within the form's reach. -/
import Derived.Test.YtodchgddkgjciaaDays
namespace Go.Proofs.Ytodchgddkgjciaa
set_option linter.unusedVariables false
set_option linter.unusedSimpArgs false
open Go Go.RowKit
def outI (r : Except Int Int) : Value := .tuple #[.int .i64 (numOf r), .int .i64 (errOf r)]
set_option maxHeartbeats 1000000 in
theorem Age_any (s : ByteArray) (w : World) (hlen : s.size ≤ 140737488351232) :
    Calls Try.prog 22 #[.string s] w fun e w' => e = .returned (outI (ageE (ls s))) ∧ Below w.heap.size w w' := by
  have hcr := read_new s w hlen
  by_cases h0 : wordE (ls s) = 0
  · obtain ⟨h1, h2, _⟩ := wordE_zero.1 h0
    rw [length_ls] at h1
    rw [h0] at hcr
    have HD := Lib.hid h2
    have H0 := Lib.hid h0
    have HC := Lib.hid hcr
    clear h0 h2 hcr
    by_cases h22 : ls s = [50, 50]
    · have hb : (s.toList == [50, 50]) = true := by rw [toList_ls, h22]; rfl
      have H22 := Lib.hid h22
      clear h22
      go_enter Try.func22, Try.ntmps22
      go_wp2_with (first | (go_at_call 39; (with_reducible refine HC.out.mono ?_); rintro e w1 ⟨rfl, hb1⟩; have HB1 := Lib.hid hb1; clear hb1))
      go_ret2
      exact ⟨by rw [ageE, if_neg (by simp [H0.out]), if_pos H22.out]; rfl, HB1.out⟩
    · have hb : (s.toList == [50, 50]) = false := by rw [toList_ls]; simpa using h22
      obtain ⟨n, ha, hn, hE⟩ := ageE_ok H0.out h22
      have HA := Lib.hid ha
      have HE := Lib.hid hE
      clear h22 ha hE
      go_enter Try.func22, Try.ntmps22
      go_wp2_with (first | (go_at_call 39; (with_reducible refine HC.out.mono ?_); rintro e w1 ⟨rfl, hb1⟩; have HB1 := Lib.hid hb1; clear hb1))
      go_loopw [0, 5] (fun v0 v5 wr => ∃ (a : Nat) (x : ByteArray), v0 = .string x ∧ v5 = .int .i64 a ∧ a ≤ n ∧ x.size ≤ 1800 ∧ Hid (x.size ≤ 200 ∨ before (ls x) = none) ∧ Hid (Digs (ls x)) ∧ Hid (Ages (ls x) (n - a)) ∧ Below w.heap.size w wr) (fun _ v5 _ => n - (intOf v5).toNat)
      case atStart => exact ⟨0, s, rfl, rfl, Nat.zero_le _, by omega, .inl h1, HD, HA, HB1.out⟩
      case round =>
        obtain ⟨a, x, rfl, rfl, hle, hx, HX, HDX, HAX, hB⟩ := hrel
        have HB := Lib.hid hB
        clear hB
        cases hs : before (ls x) with
        | none =>
          have HS := Lib.hid hs
          clear hs
          go_wp2_with (first | (go_at_call 42; (with_reducible refine (before_none x _ HS.out HDX.out (by omega)).mono ?_); rintro e w2 ⟨rfl, hb2⟩; have HB2 := Lib.hid hb2; clear hb2))
          go_ret2
          have he : n - a = 0 := HAX.out.det (.zero HS.out)
          have he' : n = a := by omega
          subst he'
          exact ⟨by rw [HE.out]; rfl, HB.out.trans (HB2.out.mono HB.out.size)⟩
        | some r =>
          have HS := Lib.hid hs
          clear hs
          obtain ⟨j, hj, haj⟩ : ∃ j, n - a = j + 1 ∧ Ages r j := by
            have := HAX.out
            cases hq : n - a with
            | zero => rw [hq] at this; cases this with
              | zero h => rw [HS.out] at h; cases h
            | succ j => rw [hq] at this; cases this with
              | succ h h' => rw [HS.out] at h; cases h; exact ⟨j, rfl, h'⟩
          have h200 : x.size ≤ 200 := by
            rcases HX.out with h | h
            · exact h
            · rw [HS.out] at h; cases h
          obtain ⟨hdr, hlr⟩ := before_digs HDX.out HS.out
          rw [length_ls] at hlr
          have HAJ := Lib.hid haj
          have HDR := Lib.hid hdr
          clear haj hdr
          go_wp2_with (first | (go_at_call 42; (with_reducible refine (before_some x _ HS.out HDX.out (by omega)).mono ?_); rintro e w2 ⟨rfl, hb2⟩; have HB2 := Lib.hid hb2; clear hb2))
          go_roundw
          case rel =>
            refine ⟨a + 1, bs r, rfl, by go_num, by omega, by rw [size_bs]; omega, ?_, ?_, ?_, HB.out.trans (HB2.out.mono HB.out.size)⟩
            · unfold Hid
              rw [ls_bs, size_bs]
              cases hr : before r with
              | none => exact .inr rfl
              | some r' =>
                have := before_shrinks HDX.out HS.out hr
                rw [length_ls] at this
                exact .inl (by omega)
            · unfold Hid; rw [ls_bs]; exact HDR.out
            · unfold Hid; rw [ls_bs, show n - (a + 1) = j by omega]; exact HAJ.out
          case measure => simp [intOf]; omega
  · obtain ⟨k, hk⟩ : ∃ k, wordE (ls s) = k := ⟨_, rfl⟩
    rw [hk] at hcr h0
    have hkb : (k == 0) = false := by rw [beq_eq_false_iff_ne]; exact h0
    have HK := Lib.hid hk
    have H0 := Lib.hid h0
    have HC := Lib.hid hcr
    clear hk hcr h0
    go_enter Try.func22, Try.ntmps22
    go_wp2_with (first | (go_at_call 39; (with_reducible refine HC.out.mono ?_); rintro e w1 ⟨rfl, hb1⟩; have HB1 := Lib.hid hb1; clear hb1))
    go_ret2
    exact ⟨by rw [ageE, HK.out, if_pos H0.out]; rfl, HB1.out⟩
theorem ls_append (s t : ByteArray) : ls (s ++ t) = ls s ++ ls t := by simp [ls]
def outB (r : Except Int Bool) : Value := .tuple #[.bool (boolOf r), .int .i64 (errOf r)]
theorem askedE_two {many : Int} {a b : List UInt8} (h : askedE many [a, b] = 0) : wordE a = 0 ∧ wordE b = 0 ∧ 0 ≤ many ∧ many ≤ 40 := by
  unfold askedE at h
  split at h
  · cases h
  · rename_i h1
    simp only [readE] at h h1
    by_cases h2 : wordE a = 0
    · by_cases h3 : wordE b = 0
      · simp only [h2, h3, if_true, true_and] at h1
        exact ⟨h2, h3, by omega, by omega⟩
      · rw [if_pos h2, if_neg h3] at h
        exact absurd h h3
    · rw [if_neg h2] at h
      exact absurd h h2
def three (s t : ByteArray) : Nat → ByteArray
  | 0 => s
  | 1 => t
  | _ => s ++ t
theorem days_err {n : Nat} {l : List UInt8} {e : Int} (h : days n l = .error e) : e = 4 ∨ e = 8 := by
  induction n generalizing l with
  | zero => cases h
  | succ n ih =>
    simp only [days, dayE] at h
    cases hs : say l with
    | none => rw [hs] at h; cases h; exact .inl rfl
    | some t =>
      rw [hs] at h
      simp only at h
      by_cases hl : t.length > 100000
      · rw [if_pos hl] at h; cases h; exact .inr rfl
      · rw [if_neg hl] at h; exact ih h
theorem days_now {n k : Nat} {l : List UInt8} (h : ∃ r, days (n - k) l = .ok r) (hk : k < n) : ∃ t, say l = some t ∧ t.length ≤ 100000 ∧ ∃ r, days (n - (k + 1)) t = .ok r := by
  obtain ⟨r, hr⟩ := h
  rw [show n - k = (n - (k + 1)) + 1 by omega] at hr
  obtain ⟨t, h1, h2, h3⟩ := days_succ hr
  exact ⟨t, h1, h2, r, h3⟩
theorem apart_err {s t : ByteArray} {n i : Nat} {e : Int} (hk : askedE n [ls s, ls t] = 0) (hl : (ls s).length + (ls t).length ≤ 200) (hi : i < 3) (hall : ∀ j, j < i → ∃ r, days n (ls (three s t j)) = .ok r) (he : days n (ls (three s t i)) = .error e) :
    apartE (ls s) (ls t) n = .error e := by
  rw [apartE, if_neg (by simp [hk]), if_neg (by omega), Int.toNat_natCast, ← ls_append]
  match i, hi with
  | 0, _ =>
    have he' : days n (ls s) = .error e := he
    rw [he']
  | 1, _ =>
    obtain ⟨r0, h0⟩ := hall 0 (by omega)
    have h0' : days n (ls s) = .ok r0 := h0
    have he' : days n (ls t) = .error e := he
    rw [h0', he']
  | 2, _ =>
    obtain ⟨r0, h0⟩ := hall 0 (by omega)
    obtain ⟨r1, h1⟩ := hall 1 (by omega)
    have h0' : days n (ls s) = .ok r0 := h0
    have h1' : days n (ls t) = .ok r1 := h1
    have he' : days n (ls (s ++ t)) = .error e := he
    rw [h0', h1', he']
theorem apart_ok {s t : ByteArray} {n : Nat} {r0 r1 r2 : List UInt8} (hk : askedE n [ls s, ls t] = 0) (hl : (ls s).length + (ls t).length ≤ 200) (h0 : days n (ls (three s t 0)) = .ok r0) (h1 : days n (ls (three s t 1)) = .ok r1) (h2 : days n (ls (three s t 2)) = .ok r2) :
    apartE (ls s) (ls t) n = .ok (apartL n (ls s) (ls t) (ls (s ++ t))) := by
  have h0' : days n (ls s) = .ok r0 := h0
  have h1' : days n (ls t) = .ok r1 := h1
  have h2' : days n (ls (s ++ t)) = .ok r2 := h2
  rw [apartE, if_neg (by simp [hk]), if_neg (by omega), Int.toNat_natCast, ← ls_append, h0', h1', h2']
set_option maxHeartbeats 2000000 in
theorem Apart_any (s t : ByteArray) (many : Int) (w : World) (h1 : s.size ≤ 140737488351232) (h2 : t.size ≤ 140737488351232) :
    Calls Try.prog 24 #[.string s, .string t, .int .i64 many] w fun e w' => e = .returned (outB (apartE (ls s) (ls t) many)) ∧ Below w.heap.size w w' := by
  have hcr := asked_of many _ [ls s, ls t] _ w (read_two s t w h1 h2)
  obtain ⟨k, hk⟩ : ∃ k, askedE many [ls s, ls t] = k := ⟨_, rfl⟩
  rw [hk] at hcr
  have HC := Lib.hid hcr
  clear hcr
  by_cases h0 : k = 0
  · subst h0
    obtain ⟨w1, w2, h3, h4⟩ := askedE_two hk
    obtain ⟨a1, a2, _⟩ := wordE_zero.1 w1
    obtain ⟨b1, b2, _⟩ := wordE_zero.1 w2
    rw [length_ls] at a1 b1
    obtain ⟨n, rfl⟩ : ∃ n : Nat, many = n := ⟨many.toNat, by omega⟩
    have HDS := Lib.hid a2
    have HDT := Lib.hid b2
    have HK := Lib.hid hk
    clear w1 w2 a2 b2 hk
    by_cases hlong : 200 < s.size + t.size
    · go_enter Try.func24, Try.ntmps24
      go_wp2_with (first | (go_at_call 44; (with_reducible refine HC.out.mono ?_); rintro e w1 ⟨rfl, hb1⟩; have HB1 := Lib.hid hb1; clear hb1))
      go_ret2
      exact ⟨by rw [apartE, HK.out, if_neg (by simp), if_pos (by rw [length_ls, length_ls]; omega)]; rfl, HB1.out⟩
    · have hdl : decide ((200 : Int) < (s.size : Int) + (t.size : Int)) = false := decide_eq_false (by omega)
      have hd3 : ∀ j, Digs (ls (three s t j)) ∧ (three s t j).size ≤ 200 := by
        intro j
        match j with
        | 0 => exact ⟨HDS.out, a1⟩
        | 1 => exact ⟨HDT.out, b1⟩
        | _ + 2 =>
          refine ⟨?_, ?_⟩
          · show Digs (ls (s ++ t))
            rw [ls_append]
            exact Digs.append.2 ⟨HDS.out, HDT.out⟩
          · show (s ++ t).size ≤ 200
            rw [ByteArray.size_append]; omega
      have HD3 := Lib.hid hd3
      clear hd3
      have i0 : ∀ w, (Instr.index 52 (.agg #[.string s, .string t, .string (s ++ t)]) (.int .i64 0)).run Try.prog w = .ok (.string s) w := fun _ => by kernel_rfl
      have i1 : ∀ w, (Instr.index 52 (.agg #[.string s, .string t, .string (s ++ t)]) (.int .i64 1)).run Try.prog w = .ok (.string t) w := fun _ => by kernel_rfl
      have i2 : ∀ w, (Instr.index 52 (.agg #[.string s, .string t, .string (s ++ t)]) (.int .i64 2)).run Try.prog w = .ok (.string (s ++ t)) w := fun _ => by kernel_rfl
      go_enter Try.func24, Try.ntmps24
      go_wp2_with (first | (go_at_call 44; (with_reducible refine HC.out.mono ?_); rintro e w1 ⟨rfl, hb1⟩; have HB1 := Lib.hid hb1; clear hb1))
      go_loopw [34] (fun v34 wr => ∃ (i : Nat), v34 = .int .i64 i ∧ i ≤ 3 ∧ Below w.heap.size w wr ∧ Hid (∀ j, j < i → ∃ r, days n (ls (three s t j)) = .ok r)) (fun v34 _ => 3 - (intOf v34).toNat)
      case atStart => exact ⟨0, rfl, by omega, HB1.out, fun j hj => absurd hj (by omega)⟩
      case round =>
        obtain ⟨i, rfl, hi, hB, HALL⟩ := hrel
        have HB := Lib.hid hB
        clear hB
        by_cases hlt : i < 3
        · obtain ⟨x, hx⟩ : ∃ x, three s t i = x := ⟨_, rfl⟩
          obtain ⟨hxd, hxl⟩ := HD3.out i
          rw [hx] at hxd hxl
          obtain ⟨r, hr⟩ : ∃ r, days n (ls x) = r := ⟨_, rfl⟩
          have hda := fun W => days_any x n W hxd (by omega) (by omega)
          rw [hr] at hda
          have HX := Lib.hid hx
          have HR := Lib.hid hr
          have HDA := Lib.hid hda
          clear hx hr hda hxd
          have hidx : ∀ w, (Instr.index 52 (.agg #[.string s, .string t, .string (s ++ t)]) (.int .i64 i)).run Try.prog w = .ok (.string x) w := by
            match i, hlt, HX.out with
            | 0, _, e => subst e; exact i0
            | 1, _, e => subst e; exact i1
            | 2, _, e => subst e; exact i2
          cases r with
          | error e =>
            have HAP : Hid (apartE (ls s) (ls t) n = .error e) := apart_err HK.out (by rw [length_ls, length_ls]; omega) hlt HALL.out (by rw [HX.out]; exact HR.out)
            rcases days_err HR.out with rfl | rfl
            all_goals
              go_wp2_with (first | (go_at_call 45; (with_reducible refine (HDA.out _).mono ?_); rw [outS_error]; rintro e w2 ⟨rfl, hb2⟩; have HB2 := Lib.hid hb2; clear hb2))
              go_ret2
              exact ⟨by rw [HAP.out]; rfl, HB.out.trans (HB2.out.mono HB.out.size)⟩
          | ok r =>
            go_wp2_with (first | (go_at_call 45; (with_reducible refine (HDA.out _).mono ?_); rw [outS_ok]; rintro e w2 ⟨rfl, hb2⟩; have HB2 := Lib.hid hb2; clear hb2))
            go_roundw
            case rel =>
              refine ⟨i + 1, by go_num, by omega, HB.out.trans (HB2.out.mono HB.out.size), fun j hj => ?_⟩
              by_cases e : j = i
              · subst e; exact ⟨r, by rw [HX.out]; exact HR.out⟩
              · exact HALL.out j (by omega)
            case measure => simp [intOf]; omega
        · have hdi : decide ((i : Int) < 3) = false := decide_eq_false (by omega)
          obtain ⟨r0, hr0⟩ := HALL.out 0 (by omega)
          obtain ⟨r1, hr1⟩ := HALL.out 1 (by omega)
          obtain ⟨r2, hr2⟩ := HALL.out 2 (by omega)
          have HAP : Hid (apartE (ls s) (ls t) n = .ok (apartL n (ls s) (ls t) (ls (s ++ t)))) := apart_ok HK.out (by rw [length_ls, length_ls]; omega) hr0 hr1 hr2
          have HR0 := Lib.hid hr0
          have HR1 := Lib.hid hr1
          have HR2 := Lib.hid hr2
          obtain ⟨hd2, hl2⟩ := HD3.out 2
          have HD2 : Hid (Digs (ls (s ++ t))) := hd2
          have hl2' : (s ++ t).size ≤ 200 := hl2
          clear hr0 hr1 hr2 hlt hi hd2 hl2
          obtain ⟨wo, rfl⟩ : ∃ wo : World, wo = wr := ⟨_, rfl⟩
          go_wp2
          go_loopw [0, 1, 13, 51] (fun v0 v1 v13 v51 wi => ∃ (k : Nat) (x y z : ByteArray), v0 = .string x ∧ v1 = .string y ∧ v13 = .string z ∧ v51 = .int .i64 k ∧ k ≤ n ∧ x.size ≤ 100000 ∧ y.size ≤ 100000 ∧ z.size ≤ 100000 ∧
              Hid (Digs (ls x)) ∧ Hid (Digs (ls y)) ∧ Hid (Digs (ls z)) ∧ Hid (∃ r, days (n - k) (ls x) = .ok r) ∧ Hid (∃ r, days (n - k) (ls y) = .ok r) ∧ Hid (∃ r, days (n - k) (ls z) = .ok r) ∧
              Hid (apartL (n - k) (ls x) (ls y) (ls z) = apartL n (ls s) (ls t) (ls (s ++ t))) ∧ Below w.heap.size w wi) (fun _ _ _ v51 _ => n - (intOf v51).toNat)
          case atStart => exact ⟨0, s, t, s ++ t, rfl, rfl, rfl, rfl, Nat.zero_le _, by omega, by omega, by omega, HDS, HDT, HD2, ⟨r0, HR0.out⟩, ⟨r1, HR1.out⟩, ⟨r2, HR2.out⟩, rfl, HB.out⟩
          case round =>
            obtain ⟨k, x, y, z, rfl, rfl, rfl, rfl, hk, hx, hy, hz, HDX, HDY, HDZ, HEX, HEY, HEZ, HE, hB2⟩ := hrel
            have HBW := Lib.hid hB2
            clear hB2
            by_cases hlt : k < n
            · obtain ⟨x', hx1, hx2, hx3⟩ := days_now HEX.out hlt
              obtain ⟨y', hy1, hy2, hy3⟩ := days_now HEY.out hlt
              obtain ⟨z', hz1, hz2, hz3⟩ := days_now HEZ.out hlt
              have HX1 := Lib.hid hx1
              have HY1 := Lib.hid hy1
              have HZ1 := Lib.hid hz1
              have HX3 := Lib.hid hx3
              have HY3 := Lib.hid hy3
              have HZ3 := Lib.hid hz3
              have sx := size_le x'
              have sy := size_le y'
              have sz := size_le z'
              clear hx1 hy1 hz1 hx3 hy3 hz3
              have htl : ((bs z').toList == (bs x' ++ bs y').toList) = decide (z' = x' ++ y') := by
                rw [toList_ls, toList_ls, ls_append, ls_bs, ls_bs, ls_bs]
                by_cases h : z' = x' ++ y'
                · rw [decide_eq_true h]; simpa using h
                · rw [decide_eq_false h]; simpa using h
              have HTL := Lib.hid htl
              clear htl
              go_wp2_with fail
              (with_reducible refine (say_some x _ HX1.out HDX.out (by omega)).mono ?_); rintro e wa ⟨rfl, hba⟩; have HBA := Lib.hid hba; clear hba
              go_wp2_with fail
              (with_reducible refine (say_some y _ HY1.out HDY.out (by omega)).mono ?_); rintro e wb ⟨rfl, hbb⟩; have HBB := Lib.hid hbb; clear hbb
              go_wp2_with fail
              (with_reducible refine (say_some z _ HZ1.out HDZ.out (by omega)).mono ?_); rintro e wc ⟨rfl, hbc⟩; have HBC := Lib.hid hbc; clear hbc
              have HBZ : Hid (Below w.heap.size w wc) := ((HBW.out.trans (HBA.out.mono HBW.out.size)).trans (HBB.out.mono (Nat.le_trans HBW.out.size HBA.out.size))).trans (HBC.out.mono (Nat.le_trans (Nat.le_trans HBW.out.size HBA.out.size) HBB.out.size))
              by_cases hz : z' = x' ++ y'
              · have hcmp : ((bs z').toList == (bs x' ++ bs y').toList) = true := by rw [HTL.out, decide_eq_true hz]
                have HZ := Lib.hid hz
                clear hz
                go_wp2
                go_roundw
                case rel =>
                  refine ⟨k + 1, bs x', bs y', bs z', rfl, rfl, rfl, by go_num, by omega, by omega, by omega, by omega, ?_, ?_, ?_, ?_, ?_, ?_, ?_, HBZ.out⟩
                  · unfold Hid; rw [ls_bs]; exact (say_digs HDX.out HX1.out).1
                  · unfold Hid; rw [ls_bs]; exact (say_digs HDY.out HY1.out).1
                  · unfold Hid; rw [ls_bs]; exact (say_digs HDZ.out HZ1.out).1
                  · unfold Hid; rw [ls_bs]; exact HX3.out
                  · unfold Hid; rw [ls_bs]; exact HY3.out
                  · unfold Hid; rw [ls_bs]; exact HZ3.out
                  · unfold Hid
                    rw [← HE.out, show n - k = (n - (k + 1)) + 1 by omega, ls_bs, ls_bs, ls_bs]
                    conv => rhs; simp only [apartL, HX1.out, HY1.out, HZ1.out, Option.getD_some]
                    rw [if_pos HZ.out]
                case measure => simp [intOf]; omega
              · have hcmp : ((bs z').toList == (bs x' ++ bs y').toList) = false := by rw [HTL.out, decide_eq_false hz]
                have HZ := Lib.hid hz
                clear hz
                go_wp2
                go_ret2
                refine ⟨?_, HBZ.out⟩
                have : apartL n (ls s) (ls t) (ls (s ++ t)) = false := by
                  rw [← HE.out, show n - k = (n - (k + 1)) + 1 by omega]
                  simp only [apartL, HX1.out, HY1.out, HZ1.out, Option.getD_some]
                  rw [if_neg HZ.out]
                rw [HAP.out, this]
                rfl
            · go_wp2
              go_ret2
              refine ⟨?_, HBW.out⟩
              have : apartL n (ls s) (ls t) (ls (s ++ t)) = true := by
                rw [← HE.out, show n - k = 0 by omega]
                rfl
              rw [HAP.out, this]
              rfl
  · have hkb : (k == 0) = false := by rw [beq_eq_false_iff_ne]; exact h0
    have HK := Lib.hid hk
    have H0 := Lib.hid h0
    clear hk h0
    go_enter Try.func24, Try.ntmps24
    go_wp2_with (first | (go_at_call 44; (with_reducible refine HC.out.mono ?_); rintro e w1 ⟨rfl, hb1⟩; have HB1 := Lib.hid hb1; clear hb1))
    go_ret2
    exact ⟨by rw [apartE, HK.out, if_pos H0.out]; rfl, HB1.out⟩
end Go.Proofs.Ytodchgddkgjciaa
