/- What Say, Before, Days (and asked, days) of package aloud answer. Conditions: lengths within the form's reach. -/
import Derived.Test.YtodchgddkgjciaaBefore
import Derived.Test.YtodchgddkgjciaaMath
namespace Go.Proofs.Ytodchgddkgjciaa
set_option linter.unusedVariables false
set_option linter.unusedSimpArgs false
open Go Go.RowKit
/-- A word, or an error, as the functions of the package hand them back. -/
def outS (r : Except Int (List UInt8)) : Value := .tuple #[.string (bs (wordOf r)), .int .i64 (errOf r)]
theorem outS_error (e : Int) : outS (.error e) = .tuple #[.string ⟨#[]⟩, .int .i64 e] := rfl
theorem outS_ok (l : List UInt8) : outS (.ok l) = .tuple #[.string (bs l), .int .i64 0] := rfl
theorem size_le (l : List UInt8) : (bs l).size ≤ l.length := Nat.le_of_eq (size_bs l)
theorem read_new (s : ByteArray) (w : World) (hlen : s.size ≤ 140737488351232) :
    Calls Try.prog 39 #[.slice (some ⟨w.heap.size, 0, none⟩) 1 1] (w.alloc (.cells #[.string s] 9)) fun e w' => e = .returned (.int .i64 (wordE (ls s))) ∧ Below w.heap.size w w' := by
  refine (read_any [s] w.heap.size 0 1 _ (by simp) (fun j hj => ?_) (by simp) (by simpa using hlen)).mono ?_
  · obtain rfl : j = 0 := by simpa using hj
    exact (Boxed.new w 9 (.string s)).cell
  · rintro e w' ⟨rfl, h⟩
    refine ⟨?_, ((Below.refl _ w).alloc (Nat.le_refl _) _).trans (h.mono (by simp))⟩
    simp only [readE, List.map_cons, List.map_nil]
    split
    · rename_i h0; rw [h0]
    · rfl
theorem read_two (s t : ByteArray) (w : World) (h1 : s.size ≤ 140737488351232) (h2 : t.size ≤ 140737488351232) :
    Calls Try.prog 39 #[.slice (some ⟨w.heap.size, 0, none⟩) 2 2] (w.alloc (.cells #[.string s, .string t] 9)) fun e w' => e = .returned (.int .i64 (readE [ls s, ls t])) ∧ Below w.heap.size w w' := by
  refine (read_any [s, t] w.heap.size 0 2 _ (by simp) (fun j hj => ?_) (by simp) (by simp; exact ⟨h1, h2⟩)).mono ?_
  · have hh := World.alloc_heap_new w (.cells #[.string s, .string t] 9)
    match j, hj with
    | 0, _ => unfold World.cell?; rw [show (w.alloc (.cells #[.string s, .string t] 9)).heap[(⟨w.heap.size, 0 + 0, none⟩ : Addr).block]? = _ from hh]; rfl
    | 1, _ => unfold World.cell?; rw [show (w.alloc (.cells #[.string s, .string t] 9)).heap[(⟨w.heap.size, 0 + 1, none⟩ : Addr).block]? = _ from hh]; rfl
  · rintro e w' ⟨rfl, h⟩
    exact ⟨rfl, ((Below.refl _ w).alloc (Nat.le_refl _) _).trans (h.mono (by simp))⟩
theorem say_some (s : ByteArray) (w : World) {r : List UInt8} (h : say (ls s) = some r) (hd : Digs (ls s)) (hlen : s.size ≤ 1000000) :
    Calls Try.prog 40 #[.string s] w fun e w' => e = .returned (.tuple #[.string (bs r), .int .i64 0]) ∧ Below w.heap.size w w' := by
  have := say_any s w hd hlen
  rwa [h, sayV_some] at this
theorem say_none (s : ByteArray) (w : World) (h : say (ls s) = none) (hd : Digs (ls s)) (hlen : s.size ≤ 1000000) :
    Calls Try.prog 40 #[.string s] w fun e w' => e = .returned (.tuple #[.string ⟨#[]⟩, .int .i64 4]) ∧ Below w.heap.size w w' := by
  have := say_any s w hd hlen
  rwa [h, sayV_none] at this
theorem before_some (s : ByteArray) (w : World) {r : List UInt8} (h : before (ls s) = some r) (hd : Digs (ls s)) (hlen : s.size ≤ 1000000) :
    Calls Try.prog 42 #[.string s] w fun e w' => e = .returned (.tuple #[.string (bs r), .bool true]) ∧ Below w.heap.size w w' := by
  have := before_any s w hd hlen
  rwa [h, beforeV_some] at this
theorem before_none (s : ByteArray) (w : World) (h : before (ls s) = none) (hd : Digs (ls s)) (hlen : s.size ≤ 1000000) :
    Calls Try.prog 42 #[.string s] w fun e w' => e = .returned (.tuple #[.string ⟨#[]⟩, .bool false]) ∧ Below w.heap.size w w' := by
  have := before_any s w hd hlen
  rwa [h, beforeV_none] at this
theorem wordE_cases (l : List UInt8) : wordE l = 0 ∨ wordE l = 3 ∨ wordE l = 5 := by
  unfold wordE
  split
  · exact .inr (.inl rfl)
  · split
    · exact .inl rfl
    · exact .inr (.inr rfl)
set_option maxHeartbeats 1000000 in
theorem Say_any (s : ByteArray) (w : World) (hlen : s.size ≤ 140737488351232) :
    Calls Try.prog 18 #[.string s] w fun e w' => e = .returned (outS (sayE (ls s))) ∧ Below w.heap.size w w' := by
  have hcr := read_new s w hlen
  by_cases h0 : wordE (ls s) = 0
  · obtain ⟨h1, h2, _⟩ := wordE_zero.1 h0
    rw [length_ls] at h1
    rw [h0] at hcr
    have HD := Lib.hid h2
    have H0 := Lib.hid h0
    have HC := Lib.hid hcr
    clear h0 h2 hcr
    cases hs : say (ls s) with
    | none =>
      have HS := Lib.hid hs
      clear hs
      go_enter Try.func18, Try.ntmps18
      go_wp2_with (first | (go_at_call 39; (with_reducible refine HC.out.mono ?_); rintro e w1 ⟨rfl, hb1⟩; have HB1 := Lib.hid hb1; clear hb1) | (go_at_call 40; (with_reducible refine (say_none s _ HS.out HD.out (by omega)).mono ?_); rintro e w2 ⟨rfl, hb2⟩; have HB2 := Lib.hid hb2; clear hb2))
      go_ret2
      exact ⟨by rw [sayE, if_neg (by simp [H0.out]), HS.out]; rfl, HB1.out.trans (HB2.out.mono HB1.out.size)⟩
    | some r =>
      have HS := Lib.hid hs
      clear hs
      go_enter Try.func18, Try.ntmps18
      go_wp2_with (first | (go_at_call 39; (with_reducible refine HC.out.mono ?_); rintro e w1 ⟨rfl, hb1⟩; have HB1 := Lib.hid hb1; clear hb1) | (go_at_call 40; (with_reducible refine (say_some s _ HS.out HD.out (by omega)).mono ?_); rintro e w2 ⟨rfl, hb2⟩; have HB2 := Lib.hid hb2; clear hb2))
      go_ret2
      exact ⟨by rw [sayE, if_neg (by simp [H0.out]), HS.out]; rfl, HB1.out.trans (HB2.out.mono HB1.out.size)⟩
  · obtain ⟨k, hk⟩ : ∃ k, wordE (ls s) = k := ⟨_, rfl⟩
    rw [hk] at hcr h0
    have hkb : (k == 0) = false := by rw [beq_eq_false_iff_ne]; exact h0
    have HK := Lib.hid hk
    have H0 := Lib.hid h0
    have HC := Lib.hid hcr
    clear hk hcr h0
    go_enter Try.func18, Try.ntmps18
    go_wp2_with (first | (go_at_call 39; (with_reducible refine HC.out.mono ?_); rintro e w1 ⟨rfl, hb1⟩; have HB1 := Lib.hid hb1; clear hb1))
    go_ret2
    exact ⟨by rw [sayE, HK.out, if_pos H0.out]; rfl, HB1.out⟩

set_option maxHeartbeats 1000000 in
theorem Before_any (s : ByteArray) (w : World) (hlen : s.size ≤ 140737488351232) :
    Calls Try.prog 20 #[.string s] w fun e w' => e = .returned (outS (beforeE (ls s))) ∧ Below w.heap.size w w' := by
  have hcr := read_new s w hlen
  by_cases h0 : wordE (ls s) = 0
  · obtain ⟨h1, h2, _⟩ := wordE_zero.1 h0
    rw [length_ls] at h1
    rw [h0] at hcr
    have HD := Lib.hid h2
    have H0 := Lib.hid h0
    have HC := Lib.hid hcr
    clear h0 h2 hcr
    cases hs : before (ls s) with
    | none =>
      have HS := Lib.hid hs
      clear hs
      go_enter Try.func20, Try.ntmps20
      go_wp2_with (first | (go_at_call 39; (with_reducible refine HC.out.mono ?_); rintro e w1 ⟨rfl, hb1⟩; have HB1 := Lib.hid hb1; clear hb1) | (go_at_call 42; (with_reducible refine (before_none s _ HS.out HD.out (by omega)).mono ?_); rintro e w2 ⟨rfl, hb2⟩; have HB2 := Lib.hid hb2; clear hb2))
      go_ret2
      exact ⟨by rw [beforeE, if_neg (by simp [H0.out]), HS.out]; rfl, HB1.out.trans (HB2.out.mono HB1.out.size)⟩
    | some r =>
      have HS := Lib.hid hs
      clear hs
      go_enter Try.func20, Try.ntmps20
      go_wp2_with (first | (go_at_call 39; (with_reducible refine HC.out.mono ?_); rintro e w1 ⟨rfl, hb1⟩; have HB1 := Lib.hid hb1; clear hb1) | (go_at_call 42; (with_reducible refine (before_some s _ HS.out HD.out (by omega)).mono ?_); rintro e w2 ⟨rfl, hb2⟩; have HB2 := Lib.hid hb2; clear hb2))
      go_ret2
      exact ⟨by rw [beforeE, if_neg (by simp [H0.out]), HS.out]; rfl, HB1.out.trans (HB2.out.mono HB1.out.size)⟩
  · obtain ⟨k, hk⟩ : ∃ k, wordE (ls s) = k := ⟨_, rfl⟩
    rw [hk] at hcr h0
    have hkb : (k == 0) = false := by rw [beq_eq_false_iff_ne]; exact h0
    have HK := Lib.hid hk
    have H0 := Lib.hid h0
    have HC := Lib.hid hcr
    clear hk hcr h0
    go_enter Try.func20, Try.ntmps20
    go_wp2_with (first | (go_at_call 39; (with_reducible refine HC.out.mono ?_); rintro e w1 ⟨rfl, hb1⟩; have HB1 := Lib.hid hb1; clear hb1))
    go_ret2
    exact ⟨by rw [beforeE, HK.out, if_pos H0.out]; rfl, HB1.out⟩
set_option maxHeartbeats 1000000 in
/-- asked, from what read answers. -/
theorem asked_of (many : Int) (v : Value) (ws : List (List UInt8)) (w w0 : World) (hcr : Calls Try.prog 39 #[v] w fun e w' => e = .returned (.int .i64 (readE ws)) ∧ Below w0.heap.size w0 w') :
    Calls Try.prog 44 #[.int .i64 many, v] w fun e w' => e = .returned (.int .i64 (askedE many ws)) ∧ Below w0.heap.size w0 w' := by
  obtain ⟨k, hk⟩ : ∃ k, readE ws = k := ⟨_, rfl⟩
  rw [hk] at hcr
  have HC := Lib.hid hcr
  clear hcr
  by_cases h0 : k = 0
  · subst h0
    have HK := Lib.hid hk
    clear hk
    by_cases h1 : many < 0
    · go_enter Try.func44, Try.ntmps44
      go_wp2_with (first | (go_at_call 39; (with_reducible refine HC.out.mono ?_); rintro e w1 ⟨rfl, hb1⟩; have HB1 := Lib.hid hb1; clear hb1))
      go_ret
      exact ⟨by rw [askedE, HK.out, if_pos ⟨rfl, .inl h1⟩]; rfl, HB1.out⟩
    · by_cases h2 : 40 < many
      · go_enter Try.func44, Try.ntmps44
        go_wp2_with (first | (go_at_call 39; (with_reducible refine HC.out.mono ?_); rintro e w1 ⟨rfl, hb1⟩; have HB1 := Lib.hid hb1; clear hb1))
        go_ret
        exact ⟨by rw [askedE, HK.out, if_pos ⟨rfl, .inr h2⟩]; rfl, HB1.out⟩
      · go_enter Try.func44, Try.ntmps44
        go_wp2_with (first | (go_at_call 39; (with_reducible refine HC.out.mono ?_); rintro e w1 ⟨rfl, hb1⟩; have HB1 := Lib.hid hb1; clear hb1))
        go_ret
        exact ⟨by rw [askedE, HK.out, if_neg (by omega)]; rfl, HB1.out⟩
  · have hkb : (k == 0) = false := by rw [beq_eq_false_iff_ne]; exact h0
    have HK := Lib.hid hk
    have H0 := Lib.hid h0
    clear hk h0
    go_enter Try.func44, Try.ntmps44
    go_wp2_with (first | (go_at_call 39; (with_reducible refine HC.out.mono ?_); rintro e w1 ⟨rfl, hb1⟩; have HB1 := Lib.hid hb1; clear hb1))
    go_ret
    exact ⟨by rw [askedE, HK.out, if_neg (fun h => H0.out h.1)]; rfl, HB1.out⟩
set_option maxHeartbeats 1000000 in
theorem days_any (s : ByteArray) (n : Nat) (w : World) (hd : Digs (ls s)) (hlen : s.size ≤ 100000) (hn : n ≤ 1000) :
    Calls Try.prog 45 #[.string s, .int .i64 n] w fun e w' => e = .returned (outS (days n (ls s))) ∧ Below w.heap.size w w' := by
  have HD := Lib.hid hd
  clear hd
  go_enter Try.func45, Try.ntmps45
  go_wp2
  go_loopw [0, 9] (fun v0 v9 wr => ∃ (k : Nat) (x : ByteArray), v0 = .string x ∧ v9 = .int .i64 k ∧ k ≤ n ∧ x.size ≤ 100000 ∧ Hid (Digs (ls x)) ∧ Below w.heap.size w wr ∧ Hid (days (n - k) (ls x) = days n (ls s))) (fun _ v9 _ => n - (intOf v9).toNat)
  case atStart => exact ⟨0, s, rfl, rfl, Nat.zero_le _, hlen, HD, Below.refl _ _, rfl⟩
  case round =>
    obtain ⟨k, x, rfl, rfl, hk, hx, HX, hB, HE⟩ := hrel
    have HB := Lib.hid hB
    clear hB
    by_cases hlt : k < n
    · cases hs : say (ls x) with
      | none =>
        have HS := Lib.hid hs
        clear hs
        go_wp2_with (first | (go_at_call 40; (with_reducible refine (say_none x _ HS.out HX.out (by omega)).mono ?_); rintro e w2 ⟨rfl, hb2⟩; have HB2 := Lib.hid hb2; clear hb2))
        go_ret2
        exact ⟨by rw [← HE.out, show n - k = (n - k - 1) + 1 by omega]; simp only [days, dayE, HS.out]; rfl, HB.out.trans (HB2.out.mono HB.out.size)⟩
      | some r =>
        have HS := Lib.hid hs
        have hr := size_bs r
        obtain ⟨y, hy⟩ : ∃ y, bs r = y := ⟨_, rfl⟩
        rw [hy] at hr
        have HR := Lib.hid hr
        have HY := Lib.hid hy
        clear hs hr hy
        by_cases h1 : 100000 < y.size
        · go_wp2_with (first | (go_at_call 40; (with_reducible refine (say_some x _ HS.out HX.out (by omega)).mono ?_); rw [HY.out]; rintro e w2 ⟨rfl, hb2⟩; have HB2 := Lib.hid hb2; clear hb2))
          go_ret2
          exact ⟨by rw [← HE.out, show n - k = (n - k - 1) + 1 by omega]; simp only [days, dayE, HS.out]; rw [if_pos (by have := HR.out; omega)]; rfl, HB.out.trans (HB2.out.mono HB.out.size)⟩
        · go_wp2_with (first | (go_at_call 40; (with_reducible refine (say_some x _ HS.out HX.out (by omega)).mono ?_); rw [HY.out]; rintro e w2 ⟨rfl, hb2⟩; have HB2 := Lib.hid hb2; clear hb2))
          go_roundw
          case rel =>
            refine ⟨k + 1, y, rfl, by go_num, by omega, by omega, ?_, HB.out.trans (HB2.out.mono HB.out.size), ?_⟩
            · unfold Hid
              rw [← HY.out, ls_bs]
              exact (say_digs HX.out HS.out).1
            · unfold Hid
              rw [← HE.out, show n - k = (n - (k + 1)) + 1 by omega, days_step HS.out (by have := HR.out; omega), ← HY.out, ls_bs]
          case measure => simp [intOf]; omega
    · go_wp2
      go_ret2
      exact ⟨by rw [← HE.out, show n - k = 0 by omega]; simp only [days, outS_ok, bs_ls]; rfl, HB.out⟩
theorem daysE_ok {many : Int} {l : List UInt8} (h : askedE many [l] = 0) : wordE l = 0 ∧ 0 ≤ many ∧ many ≤ 40 := by
  unfold askedE at h
  split at h
  · cases h
  · rename_i h1
    simp only [readE] at h h1
    by_cases h2 : wordE l = 0
    · simp only [h2, if_true, true_and] at h1
      exact ⟨h2, by omega, by omega⟩
    · rw [if_neg h2] at h
      exact absurd h h2
set_option maxHeartbeats 1000000 in
theorem Days_any (s : ByteArray) (many : Int) (w : World) (hlen : s.size ≤ 140737488351232) :
    Calls Try.prog 27 #[.string s, .int .i64 many] w fun e w' => e = .returned (outS (daysE many (ls s))) ∧ Below w.heap.size w w' := by
  have hcr := asked_of many _ [ls s] _ w ((read_new s w hlen).mono fun e w' h => ⟨by rw [h.1]; simp only [readE]; split <;> first | rfl | (rename_i h0; rw [h0]), h.2⟩)
  obtain ⟨k, hk⟩ : ∃ k, askedE many [ls s] = k := ⟨_, rfl⟩
  rw [hk] at hcr
  have HC := Lib.hid hcr
  clear hcr
  by_cases h0 : k = 0
  · subst h0
    obtain ⟨h1, h2, h3⟩ := daysE_ok hk
    obtain ⟨h4, h5, _⟩ := wordE_zero.1 h1
    rw [length_ls] at h4
    obtain ⟨n, rfl⟩ : ∃ n : Nat, many = n := ⟨many.toNat, by omega⟩
    have HD := Lib.hid h5
    have HK := Lib.hid hk
    clear h1 h5 hk
    have hda := fun W => days_any s n W HD.out (by omega) (by omega)
    obtain ⟨r, hr⟩ : ∃ r, days n (ls s) = r := ⟨_, rfl⟩
    rw [hr] at hda
    have HR := Lib.hid hr
    clear hr
    have HDA := Lib.hid hda
    clear hda
    cases r with
    | error e =>
      go_enter Try.func27, Try.ntmps27
      go_wp2_with (first | (go_at_call 44; (with_reducible refine HC.out.mono ?_); rintro e w1 ⟨rfl, hb1⟩; have HB1 := Lib.hid hb1; clear hb1) | (go_at_call 45; (with_reducible refine (HDA.out _).mono ?_); rw [outS_error]; rintro e w2 ⟨rfl, hb2⟩; have HB2 := Lib.hid hb2; clear hb2))
      go_ret2
      exact ⟨by rw [daysE, HK.out]; simp [HR.out, outS_error], HB1.out.trans (HB2.out.mono HB1.out.size)⟩
    | ok r =>
      go_enter Try.func27, Try.ntmps27
      go_wp2_with (first | (go_at_call 44; (with_reducible refine HC.out.mono ?_); rintro e w1 ⟨rfl, hb1⟩; have HB1 := Lib.hid hb1; clear hb1) | (go_at_call 45; (with_reducible refine (HDA.out _).mono ?_); rw [outS_ok]; rintro e w2 ⟨rfl, hb2⟩; have HB2 := Lib.hid hb2; clear hb2))
      go_ret2
      exact ⟨by rw [daysE, HK.out]; simp [HR.out, outS_ok], HB1.out.trans (HB2.out.mono HB1.out.size)⟩
  · have hkb : (k == 0) = false := by rw [beq_eq_false_iff_ne]; exact h0
    have HK := Lib.hid hk
    have H0 := Lib.hid h0
    clear hk h0
    go_enter Try.func27, Try.ntmps27
    go_wp2_with (first | (go_at_call 44; (with_reducible refine HC.out.mono ?_); rintro e w1 ⟨rfl, hb1⟩; have HB1 := Lib.hid hb1; clear hb1))
    go_ret2
    exact ⟨by rw [daysE, HK.out, if_pos H0.out]; rfl, HB1.out⟩
end Go.Proofs.Ytodchgddkgjciaa
