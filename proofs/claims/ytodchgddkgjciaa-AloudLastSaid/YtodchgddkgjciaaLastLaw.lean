/- The walk of the statement AloudLast: it answers true. Conditions: lengths within the reach of the form. -/
import Derived.Test.YtodchgddkgjciaaRunsLaw
import Derived.Test.YtodchgddkgjciaaMeetsMath
import Derived.Test.YtodchgddkgjciaaPairs
namespace Go.Proofs.Ytodchgddkgjciaa
set_option linter.unusedVariables false
set_option linter.unusedSimpArgs false
open Go Go.RowKit
set_option maxHeartbeats 4000000 in
set_option maxRecDepth 100000 in
theorem Last_law (s : ByteArray) (d : Nat) (w : World) (h1 : s.size ≤ 140737488351232) (h2 : d < 256) :
    Calls Try.prog 10 #[.string s, .int .u8 d] w fun e w' => e = .returned (.bool true) ∧ Below w.heap.size w w' := by
  have HA := Lib.hid (fun W => alive_any W)
  by_cases hf : s.size ≤ 1000
  · have HF := Lib.hid (fun W => few_one s true W h1 (decide_eq_true hf))
    obtain ⟨k, hk⟩ : ∃ k, wordE (ls s) = k := ⟨_, rfl⟩
    have HK := Lib.hid (fun W => Word_of s k W h1 hk)
    by_cases h0 : k = 0
    · subst h0
      obtain ⟨n, hcv⟩ : ∃ n : Nat, (d : Int) % 20 = n := ⟨d % 20, by omega⟩
      have hn : n ≤ 19 := by omega
      have HR := Lib.hid (fun W => Runs_good s W hk)
      have hsay := fun W => Say_any s W h1
      have hday := fun W => Days_any s n W h1
      rw [daysE_eq hk (by omega)] at hday
      obtain ⟨q1, q2, q3⟩ := wordE_zero.1 hk
      rw [length_ls] at q1
      have hrl := length_runs_le (ls s)
      rw [length_ls] at hrl
      obtain ⟨m, hm⟩ : ∃ m, (runs (ls s)).length = m := ⟨_, rfl⟩
      rw [hm] at HR hrl
      have hsp : 0 < s.size := by rw [← length_ls]; exact List.length_pos_iff.2 q3
      have hlt1 : s.size - 1 < s.size := by omega
      obtain ⟨p, hp⟩ : ∃ p, s[s.size - 1] = p := ⟨_, rfl⟩
      have hlast := ls_last hlt1 hp
      have g3 : IntKind.i64.wrap ((s.size : Int) - 1) = (s.size : Int) - 1 := IntWalk.i64_in _ (by omega)
      have g4 : 0 ≤ (s.size : Int) - 1 := by omega
      have g5 : (s.size : Int) - 1 < (s.size : Int) := by omega
      have g6 : ((s.size : Int) - 1).toNat = s.size - 1 := by omega
      have g7 : IntKind.i64.wrap (2 * (m : Int)) = 2 * (m : Int) := IntWalk.i64_in _ (by omega)
      have g9 : (1 : Int) ≤ (s.size : Int) := by omega
      cases hs : say (ls s) with
      | none =>
        rw [sayE_none hk hs, outS_error] at hsay
        have HS := Lib.hid hsay
        clear hsay hs
        cases ht : days n (ls s) with
        | error e =>
          rw [ht, outS_error] at hday
          have he := days_err ht
          have HD := Lib.hid hday
          clear hday ht hlast q2 q3 hk hm
          go_enter Try.func10, Try.ntmps10
          rcases he with rfl | rfl
          all_goals
            go_wp2_with (first | (go_at_call 16; (with_reducible refine (HF.out _).mono ?_); rintro e w1 ⟨rfl, rfl⟩) | (go_at_call 26; (with_reducible refine (HK.out _).mono ?_); rintro e w1 ⟨rfl, rfl⟩) | (go_at_call 28; (with_reducible refine (HR.out _).mono ?_); rintro e w1 ⟨⟨g, cap, rfl, -⟩, hb⟩; have HB1 := Lib.hid hb; clear hb) | (go_at_call 18; (with_reducible refine (HS.out _).mono ?_); rintro e w2 ⟨rfl, hb⟩; have HB2 := Lib.hid hb; clear hb) | (go_at_call 27; (with_reducible refine (HD.out _).mono ?_); rintro e w3 ⟨rfl, hb⟩; have HB3 := Lib.hid hb; clear hb) | (go_at_call 17; (with_reducible refine (HA.out _).mono ?_); rintro e w4 ⟨rfl, hb⟩; have HB4 := Lib.hid hb; clear hb))
            go_ret
            exact ⟨rfl, next_below HB1.out <| next_below HB2.out <| next_below HB3.out HB4.out⟩
        | ok t =>
          have hte := days_ne ht q3
          have htl := days_last ht
          have hlen := days_len ht (by rw [length_ls]; omega)
          obtain ⟨b, rfl⟩ : ∃ b : ByteArray, t = ls b := ⟨bs t, (ls_bs t).symm⟩
          rw [ht, outS_ok, bs_ls] at hday
          rw [length_ls] at hlen
          have hbp : 0 < b.size := by rw [← length_ls]; exact List.length_pos_iff.2 hte
          have hblt1 : b.size - 1 < b.size := by omega
          obtain ⟨q, hq⟩ : ∃ q, b[b.size - 1] = q := ⟨_, rfl⟩
          have hblast := ls_last hblt1 hq
          obtain rfl : q = p := by
            rw [hlast, hblast] at htl
            exact Option.some.inj htl
          have f3 : IntKind.i64.wrap ((b.size : Int) - 1) = (b.size : Int) - 1 := IntWalk.i64_in _ (by omega)
          have f4 : (1 : Int) ≤ (b.size : Int) := by omega
          have f5 : (b.size : Int) - 1 < (b.size : Int) := by omega
          have f6 : ((b.size : Int) - 1).toNat = b.size - 1 := by omega
          have f8 : decide (0 < b.size) = true := decide_eq_true (by omega)
          have HD := Lib.hid hday
          clear hday ht hte htl hlast hblast q2 q3 hk hm
          go_enter Try.func10, Try.ntmps10
          go_wp2_with (first | (go_at_call 16; (with_reducible refine (HF.out _).mono ?_); rintro e w1 ⟨rfl, rfl⟩) | (go_at_call 26; (with_reducible refine (HK.out _).mono ?_); rintro e w1 ⟨rfl, rfl⟩) | (go_at_call 28; (with_reducible refine (HR.out _).mono ?_); rintro e w1 ⟨⟨g, cap, rfl, -⟩, hb⟩; have HB1 := Lib.hid hb; clear hb) | (go_at_call 18; (with_reducible refine (HS.out _).mono ?_); rintro e w2 ⟨rfl, hb⟩; have HB2 := Lib.hid hb; clear hb) | (go_at_call 27; (with_reducible refine (HD.out _).mono ?_); rintro e w3 ⟨rfl, hb⟩; have HB3 := Lib.hid hb; clear hb))
          go_still_tail 16, (by kernel_rfl)
          have HB5 := Lib.hid (HB3.out.drew)
          go_wp2_with (first | (go_at_call 17; (with_reducible refine (HA.out _).mono ?_); rintro e w4 ⟨rfl, hb⟩; have HB4 := Lib.hid hb; clear hb))
          go_ret
          exact ⟨rfl, next_below HB1.out <| next_below HB2.out <| next_below HB5.out HB4.out⟩
      | some u =>
        rw [sayE_some hk hs, outS_ok] at hsay
        have hul : ((bs u).size : Int) = 2 * (m : Int) := by
          have := (say_digs q2 hs).2
          rw [size_bs, this, hm]
          omega
        have hun : (((bs u).size : Int) != 2 * (m : Int)) = false := by rw [hul]; simp
        obtain ⟨v, hv⟩ : ∃ v, bs u = v := ⟨_, rfl⟩
        rw [hv] at hsay hun hul
        have HS := Lib.hid hsay
        have HUL := Lib.hid hul
        clear hsay hul hs hv
        cases ht : days n (ls s) with
        | error e =>
          rw [ht, outS_error] at hday
          have he := days_err ht
          have HD := Lib.hid hday
          clear hday ht hlast q2 q3 hk hm
          go_enter Try.func10, Try.ntmps10
          rcases he with rfl | rfl
          all_goals
            go_wp2_with (first | (go_at_call 16; (with_reducible refine (HF.out _).mono ?_); rintro e w1 ⟨rfl, rfl⟩) | (go_at_call 26; (with_reducible refine (HK.out _).mono ?_); rintro e w1 ⟨rfl, rfl⟩) | (go_at_call 28; (with_reducible refine (HR.out _).mono ?_); rintro e w1 ⟨⟨g, cap, rfl, -⟩, hb⟩; have HB1 := Lib.hid hb; clear hb) | (go_at_call 18; (with_reducible refine (HS.out _).mono ?_); rintro e w2 ⟨rfl, hb⟩; have HB2 := Lib.hid hb; clear hb) | (go_at_call 27; (with_reducible refine (HD.out _).mono ?_); rintro e w3 ⟨rfl, hb⟩; have HB3 := Lib.hid hb; clear hb) | (go_at_call 17; (with_reducible refine (HA.out _).mono ?_); rintro e w4 ⟨rfl, hb⟩; have HB4 := Lib.hid hb; clear hb))
            go_ret
            exact ⟨rfl, next_below HB1.out <| next_below HB2.out <| next_below HB3.out HB4.out⟩
        | ok t =>
          have hte := days_ne ht q3
          have htl := days_last ht
          have hlen := days_len ht (by rw [length_ls]; omega)
          obtain ⟨b, rfl⟩ : ∃ b : ByteArray, t = ls b := ⟨bs t, (ls_bs t).symm⟩
          rw [ht, outS_ok, bs_ls] at hday
          rw [length_ls] at hlen
          have hbp : 0 < b.size := by rw [← length_ls]; exact List.length_pos_iff.2 hte
          have hblt1 : b.size - 1 < b.size := by omega
          obtain ⟨q, hq⟩ : ∃ q, b[b.size - 1] = q := ⟨_, rfl⟩
          have hblast := ls_last hblt1 hq
          obtain rfl : q = p := by
            rw [hlast, hblast] at htl
            exact Option.some.inj htl
          have f3 : IntKind.i64.wrap ((b.size : Int) - 1) = (b.size : Int) - 1 := IntWalk.i64_in _ (by omega)
          have f4 : (1 : Int) ≤ (b.size : Int) := by omega
          have f5 : (b.size : Int) - 1 < (b.size : Int) := by omega
          have f6 : ((b.size : Int) - 1).toNat = b.size - 1 := by omega
          have f8 : decide (0 < b.size) = true := decide_eq_true (by omega)
          have HD := Lib.hid hday
          clear hday ht hte htl hlast hblast q2 q3 hk hm
          go_enter Try.func10, Try.ntmps10
          go_wp2_with (first | (go_at_call 16; (with_reducible refine (HF.out _).mono ?_); rintro e w1 ⟨rfl, rfl⟩) | (go_at_call 26; (with_reducible refine (HK.out _).mono ?_); rintro e w1 ⟨rfl, rfl⟩) | (go_at_call 28; (with_reducible refine (HR.out _).mono ?_); rintro e w1 ⟨⟨g, cap, rfl, -⟩, hb⟩; have HB1 := Lib.hid hb; clear hb) | (go_at_call 18; (with_reducible refine (HS.out _).mono ?_); rintro e w2 ⟨rfl, hb⟩; have HB2 := Lib.hid hb; clear hb) | (go_at_call 27; (with_reducible refine (HD.out _).mono ?_); rintro e w3 ⟨rfl, hb⟩; have HB3 := Lib.hid hb; clear hb))
          go_still_tail 16, (by kernel_rfl)
          have HB5 := Lib.hid (HB3.out.drew)
          go_wp2_with (first | (go_at_call 17; (with_reducible refine (HA.out _).mono ?_); rintro e w4 ⟨rfl, hb⟩; have HB4 := Lib.hid hb; clear hb))
          go_ret
          exact ⟨rfl, next_below HB1.out <| next_below HB2.out <| next_below HB5.out HB4.out⟩
    · have hkb : (k == 0) = false := by rw [beq_eq_false_iff_ne]; exact h0
      have hkn : (k != 0) = true := by rw [bne, hkb]; rfl
      clear hk h0
      go_enter Try.func10, Try.ntmps10
      go_wp2_with (first | (go_at_call 16; (with_reducible refine (HF.out _).mono ?_); rintro e w1 ⟨rfl, rfl⟩) | (go_at_call 26; (with_reducible refine (HK.out _).mono ?_); rintro e w1 ⟨rfl, rfl⟩) | (go_at_call 17; (with_reducible refine (HA.out _).mono ?_); rintro e w1 ⟨rfl, hb⟩; have HB := Lib.hid hb; clear hb))
      go_ret
      exact ⟨rfl, HB.out⟩
  · have HF := Lib.hid (fun W => few_one s false W h1 (decide_eq_false hf))
    clear hf
    go_enter Try.func10, Try.ntmps10
    go_wp2_with (first | (go_at_call 16; (with_reducible refine (HF.out _).mono ?_); rintro e w1 ⟨rfl, rfl⟩) | (go_at_call 17; (with_reducible refine (HA.out _).mono ?_); rintro e w1 ⟨rfl, hb⟩; have HB := Lib.hid hb; clear hb))
    go_ret
    exact ⟨rfl, HB.out⟩
end Go.Proofs.Ytodchgddkgjciaa
