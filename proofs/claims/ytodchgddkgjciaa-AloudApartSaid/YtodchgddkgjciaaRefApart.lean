/- What Apart of the reference answers. Conditions: lengths within the reach of the form. -/
import Derived.Test.YtodchgddkgjciaaRefDays
namespace Go.Proofs.Ytodchgddkgjciaa
set_option linter.unusedVariables false
set_option linter.unusedSimpArgs false
open Go Go.RowKit
/-- A row of words that lies at a slice. -/
def RowAt (W : World) (g : Nat) (R : List (List UInt8)) : Prop := g < W.heap.size ∧ ∀ k x, R[k]? = some x → W.cell? ⟨g, k, none⟩ = some (.string (bs x))
theorem rowAt_of {W : World} {B g cap n : Nat} {R : List (List UInt8)} (h : W.ownsRow B 9 1 (.slice (some ⟨g, 0, none⟩) (n + 1) cap) (n + 1) (strs R)) (hl : R.length = n + 1) : RowAt W g R := by
  refine ⟨(h.lt g rfl).2, fun k x hx => ?_⟩
  have hk := (List.getElem?_eq_some_iff.1 hx).1
  rw [h.cellAt k (by omega)]
  exact strs_get hx
theorem RowAt.below {W W' : World} {g : Nat} {R : List (List UInt8)} (h : RowAt W g R) (hb : Below W.heap.size W W') : RowAt W' g R :=
  ⟨Nat.lt_of_lt_of_le h.1 hb.size, fun k x hx => (hb.cell h.1).trans (h.2 k x hx)⟩
/-- What is known of two words before day d is looked at. -/
def ApartS (n : Nat) (l r : List UInt8) (X Y Z : List (List UInt8)) (d : Nat) : Prop :=
  (∀ x y z, X[d]? = some x → Y[d]? = some y → Z[d]? = some z → apartL n l r (l ++ r) = if z = x ++ y then apartL (n - d) x y z else false) ∧ (d = n + 1 → apartL n l r (l ++ r) = true)
theorem apartS_start {n : Nat} {l r : List UInt8} {X Y Z : List (List UInt8)} (hX : DayRow l X) (hY : DayRow r Y) (hZ : DayRow (l ++ r) Z) : ApartS n l r X Y Z 0 := by
  refine ⟨fun x y z h1 h2 h3 => ?_, fun h => by omega⟩
  have e1 := hX 0 x h1
  have e2 := hY 0 y h2
  have e3 := hZ 0 z h3
  simp only [days] at e1 e2 e3
  cases e1
  cases e2
  cases e3
  rw [if_pos rfl]
  rfl
theorem day_next {l : List UInt8} {R : List (List UInt8)} {d : Nat} {x x' : List UInt8} (hR : DayRow l R) (h1 : R[d]? = some x) (h2 : R[d + 1]? = some x') : say x = some x' := by
  have e := hR (d + 1) x' h2
  rw [days_add (hR d x h1)] at e
  obtain ⟨t, e1, _, e2⟩ := days_succ e
  simp only [days] at e2
  cases e2
  exact e1
theorem apartS_step {n d : Nat} {l r x y z : List UInt8} {X Y Z : List (List UInt8)} (hX : DayRow l X) (hY : DayRow r Y) (hZ : DayRow (l ++ r) Z) (h : ApartS n l r X Y Z d) (hd : d ≤ n) (hXl : X.length = n + 1)
    (h1 : X[d]? = some x) (h2 : Y[d]? = some y) (h3 : Z[d]? = some z) (he : z = x ++ y) : ApartS n l r X Y Z (d + 1) := by
  have hA := h.1 x y z h1 h2 h3
  rw [if_pos he] at hA
  refine ⟨fun x' y' z' k1 k2 k3 => ?_, fun e => ?_⟩
  · have s1 := day_next hX h1 k1
    have s2 := day_next hY h2 k2
    have s3 := day_next hZ h3 k3
    by_cases hn : d = n
    · have := (List.getElem?_eq_some_iff.1 k1).1
      omega
    · rw [hA, show n - d = (n - (d + 1)) + 1 by omega]
      simp only [apartL, s1, s2, s3, Option.getD_some]
  · obtain rfl : d = n := by omega
    rw [hA, Nat.sub_self]
    rfl
theorem apartS_no {n d : Nat} {l r x y z : List UInt8} {X Y Z : List (List UInt8)} (h : ApartS n l r X Y Z d) (h1 : X[d]? = some x) (h2 : Y[d]? = some y) (h3 : Z[d]? = some z) (he : z ≠ x ++ y) : apartL n l r (l ++ r) = false := by
  rw [h.1 x y z h1 h2 h3, if_neg he]
set_option maxRecDepth 100000 in
set_option maxHeartbeats 4000000 in
theorem RefApart_any (s t : ByteArray) (many : Int) (w : World) (h1 : s.size ≤ 140737488351232) (h2 : t.size ≤ 140737488351232) :
    Calls Try.prog 25 #[.string s, .string t, .int .i64 many] w fun e w' => e = .returned (outB (apartE (ls s) (ls t) many)) ∧ Below w.heap.size w w' := by
  obtain ⟨k, hk⟩ : ∃ k, wordE (ls s) = k := ⟨_, rfl⟩
  obtain ⟨m, hm⟩ : ∃ m, wordE (ls t) = m := ⟨_, rfl⟩
  have HW := Lib.hid (fun W => Word_of s k W h1 hk)
  have HV := Lib.hid (fun W => Word_of t m W h2 hm)
  by_cases h0 : k = 0
  · subst h0
    by_cases h3 : m = 0
    · subst h3
      obtain ⟨a1, a2, a3⟩ := wordE_zero.1 hk
      obtain ⟨b1, b2, b3⟩ := wordE_zero.1 hm
      rw [length_ls] at a1 b1
      have hask : askedE many [ls s, ls t] = if many < 0 ∨ 40 < many then 2 else 0 := by simp [askedE, readE, hk, hm]
      by_cases ha : many < 0
      · have d1 : decide (many < 0) = true := decide_eq_true ha
        have HE := Lib.hid (show apartE (ls s) (ls t) many = .error 2 by rw [apartE, hask, if_pos (Or.inl ha), if_pos (by decide)])
        clear hk hm a2 a3 b2 b3 hask ha
        go_enter Try.func25, Try.ntmps25
        go_wp2_with (first | (go_at_call 26; (with_reducible refine (HW.out _).mono ?_); rintro e w1 ⟨rfl, rfl⟩) | (go_at_call 26; (with_reducible refine (HV.out _).mono ?_); rintro e w1 ⟨rfl, rfl⟩))
        go_ret2
        exact ⟨by rw [HE.out]; rfl, Below.refl _ _⟩
      · have d1 : decide (many < 0) = false := decide_eq_false ha
        by_cases hb : 40 < many
        · have d2 : decide (40 < many) = true := decide_eq_true hb
          have HE := Lib.hid (show apartE (ls s) (ls t) many = .error 2 by rw [apartE, hask, if_pos (Or.inr hb), if_pos (by decide)])
          clear hk hm a2 a3 b2 b3 hask ha hb
          go_enter Try.func25, Try.ntmps25
          go_wp2_with (first | (go_at_call 26; (with_reducible refine (HW.out _).mono ?_); rintro e w1 ⟨rfl, rfl⟩) | (go_at_call 26; (with_reducible refine (HV.out _).mono ?_); rintro e w1 ⟨rfl, rfl⟩))
          go_ret2
          exact ⟨by rw [HE.out]; rfl, Below.refl _ _⟩
        · have d2 : decide (40 < many) = false := decide_eq_false hb
          have h00 : askedE many [ls s, ls t] = 0 := by rw [hask, if_neg (by omega)]
          obtain ⟨n, rfl⟩ : ∃ n : Nat, many = n := ⟨many.toNat, by omega⟩
          have hn : n ≤ 40 := by omega
          have d2' : decide (40 < n) = false := decide_eq_false (by omega)
          by_cases hlong : 200 < s.size + t.size
          · have d3 : decide ((200 : Int) < (s.size : Int) + (t.size : Int)) = true := decide_eq_true (by omega)
            have HE := Lib.hid (show apartE (ls s) (ls t) n = .error 3 by rw [apartE, if_neg (by simp [h00]), if_pos (by rw [length_ls, length_ls]; omega)])
            clear hk hm a2 a3 b2 b3 hask ha hb h00
            go_enter Try.func25, Try.ntmps25
            go_wp2_with (first | (go_at_call 26; (with_reducible refine (HW.out _).mono ?_); rintro e w1 ⟨rfl, rfl⟩) | (go_at_call 26; (with_reducible refine (HV.out _).mono ?_); rintro e w1 ⟨rfl, rfl⟩))
            go_ret2
            exact ⟨by rw [HE.out]; rfl, Below.refl _ _⟩
          · have d3 : decide ((200 : Int) < (s.size : Int) + (t.size : Int)) = false := decide_eq_false (by omega)
            have hst : wordE (ls (s ++ t)) = 0 := wordE_zero.2 ⟨by rw [length_ls, ByteArray.size_append]; omega, by rw [ls_append]; exact Digs.append.2 ⟨a2, b2⟩, by rw [ls_append]; intro h; exact a3 (List.append_eq_nil_iff.1 h).1⟩
            have hap : ∀ {u}, (match days n (ls s), days n (ls t), days n (ls (s ++ t)) with
              | .error e, _, _ => .error e
              | .ok _, .error e, _ => .error e
              | .ok _, .ok _, .error e => .error e
              | .ok _, .ok _, .ok _ => .ok (apartL n (ls s) (ls t) (ls (s ++ t)))) = u → apartE (ls s) (ls t) n = u := by
              intro u h
              rw [apartE, if_neg (by simp [h00]), if_neg (by rw [length_ls, length_ls]; omega), Int.toNat_natCast, ← ls_append]
              exact h
            cases hx : days n (ls s) with
            | error c =>
              have HC1 := Lib.hid (fun W => All_err s n c W hk hn hx)
              have HE := Lib.hid (hap (by rw [hx]))
              have hce := days_err hx
              have hkb : (c == 0) = false := by rcases hce with rfl | rfl <;> rfl
              have hkn : (c != 0) = true := by rw [bne, hkb]; rfl
              clear hk hm a2 a3 b2 b3 hask ha hb h00 hst hap hx hce
              go_enter Try.func25, Try.ntmps25
              go_wp2_with (first | (go_at_call 26; (with_reducible refine (HW.out _).mono ?_); rintro e w1 ⟨rfl, rfl⟩) | (go_at_call 26; (with_reducible refine (HV.out _).mono ?_); rintro e w1 ⟨rfl, rfl⟩) | (go_at_call 46; (with_reducible refine (HC1.out _).mono ?_); rintro e v1 ⟨rfl, hb⟩; have HB1 := Lib.hid hb; clear hb))
              go_ret2
              exact ⟨by rw [HE.out]; rfl, HB1.out⟩
            | ok x0 =>
              have HC1 := Lib.hid (fun W => All_ok s n x0 W hk hn hx)
              cases hy : days n (ls t) with
              | error c =>
                have HC2 := Lib.hid (fun W => All_err t n c W hm hn hy)
                have HE := Lib.hid (hap (by rw [hx, hy]))
                have hce := days_err hy
                have hkb : (c == 0) = false := by rcases hce with rfl | rfl <;> rfl
                have hkn : (c != 0) = true := by rw [bne, hkb]; rfl
                clear hk hm a2 a3 b2 b3 hask ha hb h00 hst hap hx hy hce
                go_enter Try.func25, Try.ntmps25
                go_wp2_with (first | (go_at_call 26; (with_reducible refine (HW.out _).mono ?_); rintro e w1 ⟨rfl, rfl⟩) | (go_at_call 26; (with_reducible refine (HV.out _).mono ?_); rintro e w1 ⟨rfl, rfl⟩) | (go_at_call 46; (with_reducible refine (HC1.out _).mono ?_); rintro e v1 ⟨⟨X, gX, cX, hl, hr, rfl, ho⟩, hb⟩; have HB1 := Lib.hid hb; have HLX := Lib.hid hl; have HRX := Lib.hid hr; have HOX := Lib.hid (rowAt_of ho hl); clear hb hl hr ho) | (go_at_call 46; (with_reducible refine (HC2.out _).mono ?_); rintro e v2 ⟨rfl, hb⟩; have HB2 := Lib.hid hb; clear hb))
                go_ret2
                exact ⟨by rw [HE.out]; rfl, HB1.out.trans (HB2.out.mono HB1.out.size)⟩
              | ok y0 =>
                have HC2 := Lib.hid (fun W => All_ok t n y0 W hm hn hy)
                cases hz : days n (ls (s ++ t)) with
                | error c =>
                  have HC3 := Lib.hid (fun W => All_err (s ++ t) n c W hst hn hz)
                  have HE := Lib.hid (hap (by rw [hx, hy, hz]))
                  have hce := days_err hz
                  have hkb : (c == 0) = false := by rcases hce with rfl | rfl <;> rfl
                  have hkn : (c != 0) = true := by rw [bne, hkb]; rfl
                  clear hk hm a2 a3 b2 b3 hask ha hb h00 hst hap hx hy hz hce
                  go_enter Try.func25, Try.ntmps25
                  go_wp2_with (first | (go_at_call 26; (with_reducible refine (HW.out _).mono ?_); rintro e w1 ⟨rfl, rfl⟩) | (go_at_call 26; (with_reducible refine (HV.out _).mono ?_); rintro e w1 ⟨rfl, rfl⟩) | (go_at_call 46; (with_reducible refine (HC1.out _).mono ?_); rintro e v1 ⟨⟨X, gX, cX, hl, hr, rfl, ho⟩, hb⟩; have HB1 := Lib.hid hb; have HLX := Lib.hid hl; have HRX := Lib.hid hr; have HOX := Lib.hid (rowAt_of ho hl); clear hb hl hr ho) | (go_at_call 46; (with_reducible refine (HC2.out _).mono ?_); rintro e v2 ⟨⟨Y, gY, cY, hl, hr, rfl, ho⟩, hb⟩; have HB2 := Lib.hid hb; have HLY := Lib.hid hl; have HRY := Lib.hid hr; have HOY := Lib.hid (rowAt_of ho hl); clear hb hl hr ho) | (go_at_call 46; (with_reducible refine (HC3.out _).mono ?_); rintro e v3 ⟨rfl, hb⟩; have HB3 := Lib.hid hb; clear hb))
                  go_ret2
                  exact ⟨by rw [HE.out]; rfl, (HB1.out.trans (HB2.out.mono HB1.out.size)).trans (HB3.out.mono (Nat.le_trans HB1.out.size HB2.out.size))⟩
                | ok z0 =>
                  have HC3 := Lib.hid (fun W => All_ok (s ++ t) n z0 W hst hn hz)
                  have HE := Lib.hid (hap (by rw [hx, hy, hz]))
                  clear hk hm a2 a3 b2 b3 hask ha hb h00 hst hap hx hy hz
                  go_enter Try.func25, Try.ntmps25
                  go_wp2_with (first | (go_at_call 26; (with_reducible refine (HW.out _).mono ?_); rintro e w1 ⟨rfl, rfl⟩) | (go_at_call 26; (with_reducible refine (HV.out _).mono ?_); rintro e w1 ⟨rfl, rfl⟩) | (go_at_call 46; (with_reducible refine (HC1.out _).mono ?_); rintro e v1 ⟨⟨X, gX, cX, hl, hr, rfl, ho⟩, hb⟩; have HB1 := Lib.hid hb; have HLX := Lib.hid hl; have HRX := Lib.hid hr; have HOX := Lib.hid (rowAt_of ho hl); clear hb hl hr ho) | (go_at_call 46; (with_reducible refine (HC2.out _).mono ?_); rintro e v2 ⟨⟨Y, gY, cY, hl, hr, rfl, ho⟩, hb⟩; have HB2 := Lib.hid hb; have HLY := Lib.hid hl; have HRY := Lib.hid hr; have HOY := Lib.hid (rowAt_of ho hl); clear hb hl hr ho) | (go_at_call 46; (with_reducible refine (HC3.out _).mono ?_); rintro e v3 ⟨⟨Z, gZ, cZ, hl, hr, rfl, ho⟩, hb⟩; have HB3 := Lib.hid hb; have HLZ := Lib.hid hl; have HRZ := Lib.hid hr; have HOZ := Lib.hid (rowAt_of ho hl); clear hb hl hr ho))
                  have HBL : Hid (Below w.heap.size w v3) := (HB1.out.trans (HB2.out.mono HB1.out.size)).trans (HB3.out.mono (Nat.le_trans HB1.out.size HB2.out.size))
                  have HX3 : Hid (RowAt v3 gX X) := (HOX.out.below HB2.out).below HB3.out
                  have HY3 : Hid (RowAt v3 gY Y) := HOY.out.below HB3.out
                  have HRZ' : Hid (DayRow (ls s ++ ls t) Z) := by unfold Hid; rw [← ls_append]; exact HRZ.out
                  go_loopw [12] (fun v12 wr => ∃ d : Nat, v12 = .int .i64 d ∧ d ≤ n + 1 ∧ Hid (ApartS n (ls s) (ls t) X Y Z d) ∧ Hid (∀ a : Addr, wr.cell? a = v3.cell? a) ∧ Hid (Below w.heap.size w wr)) (fun v12 _ => n + 1 - (intOf v12).toNat)
                  case atStart => exact ⟨0, rfl, Nat.zero_le _, apartS_start HRX.out HRY.out HRZ'.out, fun _ => rfl, HBL.out⟩
                  case round =>
                    obtain ⟨d, rfl, hd, HS, HCE, HBR⟩ := hrel
                    by_cases hlt : d ≤ n
                    · obtain ⟨x, hx⟩ : ∃ x, X[d]? = some x := ⟨X[d]'(by rw [HLX.out]; omega), List.getElem?_eq_getElem _⟩
                      obtain ⟨y, hy⟩ : ∃ y, Y[d]? = some y := ⟨Y[d]'(by rw [HLY.out]; omega), List.getElem?_eq_getElem _⟩
                      obtain ⟨z, hz⟩ : ∃ z, Z[d]? = some z := ⟨Z[d]'(by rw [HLZ.out]; omega), List.getElem?_eq_getElem _⟩
                      have cx := (HCE.out _).trans (HX3.out.2 d x hx)
                      have cy := (HCE.out _).trans (HY3.out.2 d y hy)
                      have cz := (HCE.out _).trans (HOZ.out.2 d z hz)
                      have htl : ((bs z).toList == (bs x ++ bs y).toList) = decide (z = x ++ y) := by
                        rw [toList_ls, toList_ls, ls_append, ls_bs, ls_bs, ls_bs]
                        by_cases h : z = x ++ y
                        · rw [decide_eq_true h]; simpa using h
                        · rw [decide_eq_false h]; simpa using h
                      have hX200 : x.length ≤ 100000 := days_len (HRX.out d x hx) (by rw [length_ls]; omega)
                      have hY200 : y.length ≤ 100000 := days_len (HRY.out d y hy) (by rw [length_ls]; omega)
                      have sx := size_le x
                      have sy := size_le y
                      have f1 : (d : Int) < (n : Int) + 1 := by omega
                      have f2 : (d : Int) ≤ (n : Int) := by omega
                      by_cases he : z = x ++ y
                      · have HS2 := Lib.hid (apartS_step HRX.out HRY.out HRZ'.out HS.out hlt HLX.out hx hy hz he)
                        have hcmp : ((bs z).toList == (bs x ++ bs y).toList) = true := by rw [htl, decide_eq_true he]
                        have hcmn : ((bs z).toList != (bs x ++ bs y).toList) = false := by rw [bne, hcmp]; rfl
                        clear hx hy hz he htl
                        go_wp2
                        go_quiet (fail)
                        go_wp2
                        go_roundw
                        case rel => exact ⟨d + 1, by go_num, by omega, HS2, HCE, below_dn HBR.out nq⟩
                        case measure => simp [intOf]; omega
                      · have HS2 := Lib.hid (apartS_no HS.out hx hy hz he)
                        have hcmp : ((bs z).toList == (bs x ++ bs y).toList) = false := by rw [htl, decide_eq_false he]
                        have hcmn : ((bs z).toList != (bs x ++ bs y).toList) = true := by rw [bne, hcmp]; rfl
                        clear hx hy hz he htl
                        go_wp2
                        go_quiet (fail)
                        go_wp2
                        go_ret2
                        exact ⟨by rw [HE.out, ls_append, HS2.out]; rfl, below_dn HBR.out nq⟩
                    · have HS2 := Lib.hid (HS.out.2 (by omega))
                      have f2 : ¬ (d : Int) ≤ (n : Int) := by omega
                      go_wp2
                      go_ret2
                      exact ⟨by rw [HE.out, ls_append, HS2.out]; rfl, HBR.out⟩
    · have hkb : (m == 0) = false := by rw [beq_eq_false_iff_ne]; exact h3
      have hkn : (m != 0) = true := by rw [bne, hkb]; rfl
      have HE := Lib.hid (show apartE (ls s) (ls t) many = .error m by
        have ha : askedE many [ls s, ls t] = m := by simp [askedE, readE, hk, hm, h3]
        rw [apartE, ha, if_pos h3])
      clear hk hm h3
      go_enter Try.func25, Try.ntmps25
      go_wp2_with (first | (go_at_call 26; (with_reducible refine (HW.out _).mono ?_); rintro e w1 ⟨rfl, rfl⟩) | (go_at_call 26; (with_reducible refine (HV.out _).mono ?_); rintro e w1 ⟨rfl, rfl⟩))
      go_ret2
      exact ⟨by rw [HE.out]; rfl, Below.refl _ _⟩
  · have hkb : (k == 0) = false := by rw [beq_eq_false_iff_ne]; exact h0
    have hkn : (k != 0) = true := by rw [bne, hkb]; rfl
    have HE := Lib.hid (show apartE (ls s) (ls t) many = .error k by
      have ha : askedE many [ls s, ls t] = k := by simp [askedE, readE, hk, h0]
      rw [apartE, ha, if_pos h0])
    clear hk hm h0
    go_enter Try.func25, Try.ntmps25
    go_wp2_with (first | (go_at_call 26; (with_reducible refine (HW.out _).mono ?_); rintro e w1 ⟨rfl, rfl⟩) | (go_at_call 26; (with_reducible refine (HV.out _).mono ?_); rintro e w1 ⟨rfl, rfl⟩))
    go_ret2
    exact ⟨by rw [HE.out]; rfl, Below.refl _ _⟩
end Go.Proofs.Ytodchgddkgjciaa
