/- What the function before of package aloud answers: the word of which one is said, or that there is none. Conditions: the word has digits only, at most 1000000 of them. -/
import Derived.Test.YtodchgddkgjciaaSay
namespace Go.Proofs.Ytodchgddkgjciaa
set_option linter.unusedVariables false
set_option linter.unusedSimpArgs false
open Go Go.RowKit
theorem mem_ls (s : ByteArray) (i : Nat) (h : i < s.size) : (s[i]'h) ∈ ls s := by
  rw [← get_ls s i h]
  exact List.getElem_mem _
/-- What before hands back. -/
def beforeV (o : Option (List UInt8)) : Value := .tuple #[.string (bs (o.getD [])), .bool o.isSome]
theorem beforeV_some (l : List UInt8) : beforeV (some l) = .tuple #[.string (bs l), .bool true] := rfl
theorem beforeV_none : beforeV none = .tuple #[.string ⟨#[]⟩, .bool false] := rfl
theorem beforeA_odd : ∀ (n : Nat) (l : List UInt8), l.length = 2 * n + 1 → ∀ c, beforeA c l = none
  | n, [], h, _ => by simp at h
  | n, [a], h, _ => rfl
  | 0, a :: b :: l, h, _ => by simp at h
  | n + 1, a :: b :: l, h, c => by
    simp only [beforeA]
    split
    · rfl
    · rw [beforeA_odd n l (by simp at h; omega)]
      rfl
theorem before_odd {l : List UInt8} (h : l.length % 2 = 1) : before l = none := beforeA_odd (l.length / 2) l (by omega) 0
theorem drop_two {l : List UInt8} {i : Nat} (h : i + 1 < l.length) : l.drop i = l[i] :: l[i + 1] :: l.drop (i + 2) := by
  rw [List.drop_eq_getElem_cons (by omega), List.drop_eq_getElem_cons (by omega)]
theorem beforeA_step {c a b : UInt8} {l : List UInt8} (h : b ≠ c) : beforeA c (a :: b :: l) = (beforeA b l).map (List.replicate (a.toNat - 48) b ++ ·) := by
  simp [beforeA, h]
theorem beforeA_stop {c a : UInt8} {l : List UInt8} : beforeA c (a :: c :: l) = none := by simp [beforeA]
theorem repeatL_one (y : UInt8) (m : Nat) : Lib.repeatL [y] m = List.replicate m y := by
  induction m with
  | zero => rfl
  | succ m ih => rw [List.replicate_succ, ← ih]; rfl
theorem rep_any (t : ByteArray) (y : UInt8) (n : Int) (m : Nat) (hn : n = (m : Int)) (ht : ls t = [y]) (hm : m ≤ 1000) (w : World) :
    Calls Try.prog 50 #[.string t, .int .i64 n] w fun e w' => e = .returned (.string (bs (List.replicate m y))) ∧ Below w.heap.size w w' := by
  subst hn
  have h1 : t.size = 1 := by rw [← length_ls, ht]; rfl
  refine (Try.repeat_any t m w (by omega) (by rw [h1]; omega)).mono ?_
  rintro e w' ⟨rfl, hb⟩
  refine ⟨?_, hb⟩
  show Ending.returned (.string ⟨(Lib.repeatL (ls t) m).toArray⟩) = _
  rw [ht, repeatL_one]
  rfl
theorem wstring (B b : Nat) (l r : List UInt8) (W : World) (h : Lib.IsBuilderF 64 5 B b (Lib.byteCells l) W) (hlen : l.length + r.length ≤ 140737488355328) (hB : B ≤ W.heap.size) :
    Calls Try.prog 49 #[.pointer (some ⟨b, 0, none⟩), .string (bs r)] W fun e w' => e = .returned (.tuple #[.int .i64 r.length, .nilIface]) ∧ Lib.IsBuilderF 64 5 B b (Lib.byteCells (l ++ r)) w' ∧ Below B W w' ∧ Lib.OthersKept 5 (some b) W w' := by
  refine (Try.bWriteString B b _ (bs r) W h (by rw [Lib.byteCells_length, size_bs]; exact hlen) hB).mono ?_
  rintro e w' ⟨he, hb, hbl, hk⟩
  refine ⟨by rw [he, size_bs], ?_, hbl, hk⟩
  rw [Lib.byteCells_append]
  have : Lib.strCells (bs r) = Lib.byteCells r := by
    show Lib.byteCells (ls (bs r)) = _
    rw [ls_bs]
  rw [← this]
  exact .inr hb
theorem one_extract {s : ByteArray} {i : Nat} {y : UInt8} {l : List UInt8} {x : UInt8} (h : (ls s).drop i = x :: y :: l) : ls (s.extract (i + 1) (i + 2)) = [y] := by
  rw [ls_extract, List.drop_take, ← List.drop_drop, h, show i + 2 - (i + 1) = 1 by omega]
  rfl
set_option maxRecDepth 100000 in
set_option maxHeartbeats 1000000 in
theorem before_any (s : ByteArray) (w : World) (hd : Digs (ls s)) (hlen : s.size ≤ 1000000) :
    Calls Try.prog 42 #[.string s] w fun e w' => e = .returned (beforeV (before (ls s))) ∧ Below w.heap.size w w' := by
  have HD := Lib.hid hd
  clear hd
  by_cases hodd : s.size % 2 = 1
  · go_enter Try.func42, Try.ntmps42
    go_wp2
    go_ret2
    exact ⟨by rw [before_odd (by rw [length_ls]; exact hodd)]; rfl, Below.refl _ _⟩
  · have hob : ((s.size : Int) % 2 == 1) = false := by
      rw [beq_eq_false_iff_ne]
      omega
    go_enter Try.func42, Try.ntmps42
    go_wp2
    go_loopw [5, 6] (fun v5 v6 wr => ∃ (i : Nat) (c : UInt8) (acc : List UInt8), v6 = .int .i64 i ∧ v5 = .int .u8 c.toNat ∧ i % 2 = 0 ∧ i ≤ s.size ∧ acc.length ≤ 9 * i ∧
        Lib.IsBuilderF 64 5 w.heap.size w.heap.size (Lib.byteCells acc) wr ∧ Below w.heap.size w wr ∧ before (ls s) = (beforeA c ((ls s).drop i)).map (acc ++ ·)) (fun _ v6 _ => s.size - (intOf v6).toNat)
    case atStart =>
      refine ⟨0, 0, [], rfl, rfl, rfl, Nat.zero_le _, by simp, builder_fresh (Nat.le_refl _) (World.alloc_heap_new w _), (Below.refl _ _).alloc (Nat.le_refl _) _, ?_⟩
      simp [before]
    case round =>
      obtain ⟨i, c, acc, rfl, rfl, hi2, hi, hacc, hbu, hB, hbe⟩ := hrel
      have HBU := Lib.hid hbu
      have HB := Lib.hid hB
      have HBE := Lib.hid hbe
      have hsz := hB.size
      clear hbu hB hbe
      by_cases hlt : i < s.size
      · have hlt1 : i + 1 < s.size := by omega
        have hd0 := HD.out _ (mem_ls s i hlt)
        have hd1 := HD.out _ (mem_ls s (i + 1) hlt1)
        have hdrop := drop_two (l := ls s) (i := i) (by rw [length_ls]; exact hlt1)
        rw [get_ls s i hlt, get_ls s (i + 1) hlt1] at hdrop
        obtain ⟨x, hx⟩ : ∃ x, (s[i]'hlt) = x := ⟨_, rfl⟩
        obtain ⟨y, hy⟩ : ∃ y, (s[i + 1]'hlt1) = y := ⟨_, rfl⟩
        rw [hx] at hd0 hdrop
        rw [hy] at hd1 hdrop
        have HDR := Lib.hid hdrop
        clear hdrop
        by_cases hyc : y = c
        · have hyb : ((y.toNat : Int) == (c.toNat : Int)) = true := by rw [hyc]; simp
          have HYC := Lib.hid hyc
          clear hyc
          go_wp2
          go_ret2
          exact ⟨by rw [HBE.out, HDR.out, HYC.out, beforeA_stop]; rfl, HB.out⟩
        · have hyb : ((y.toNat : Int) == (c.toNat : Int)) = false := by
            rw [beq_eq_false_iff_ne]
            intro h
            exact hyc (UInt8.toNat_inj.1 (by omega))
          have HYC := Lib.hid hyc
          clear hyc
          go_wp2
          have hw1 : IntKind.i64.wrap ((i : Int) + 1) = (i : Int) + 1 := IntWalk.i64_in _ (by omega)
          have hw2 : IntKind.i64.wrap ((i : Int) + 2) = (i : Int) + 2 := IntWalk.i64_in _ (by omega)
          have b1 : 0 ≤ (i : Int) + 1 := by omega
          have b2 : (i : Int) + 1 ≤ (i : Int) + 2 := by omega
          have b3 : (i : Int) + 2 ≤ (s.size : Int) := by omega
          have b4 : ((i : Int) + 1).toNat = i + 1 := by omega
          have b5 : ((i : Int) + 2).toNat = i + 2 := by omega
          have b6 : (i : Int) < (s.size : Int) := by omega
          go_still_tail 11, (by kernel_rfl)
          have hbd : Lib.IsBuilderF 64 5 w.heap.size w.heap.size (Lib.byteCells acc) wr.drew := HBU.out
          go_wp2_with fail
          refine (rep_any (s.extract (i + 1) (i + 2)) y _ (x.toNat - 48) (by omega) (one_extract HDR.out) (by omega) _).mono ?_
          rintro e w1 ⟨rfl, hb1⟩
          have hbu1 := builder_kept (W' := w1) HBU.out fun k cs t fz hk _ => hb1.block k (Array.getElem?_eq_some_iff.1 hk).1
          have HBU1 := Lib.hid hbu1
          have HB1 := Lib.hid hb1
          have hs1 : wr.heap.size ≤ w1.heap.size := hb1.size
          clear hbu1 hb1 hbd hw1 hw2 b1 b2 b3 b4 b5 b6
          go_wp2_with fail
          refine (wstring w.heap.size w.heap.size acc (List.replicate (x.toNat - 48) y) w1 HBU1.out (by simp; omega) (by omega)).mono ?_
          rintro e w2 ⟨rfl, hu2, hb2, _⟩
          have HBU2 := Lib.hid hu2
          have HB2 := Lib.hid hb2
          clear hu2 hb2
          go_wp2
          go_roundw
          case rel =>
            refine ⟨i + 2, y, acc ++ List.replicate (x.toNat - 48) y, by go_num, rfl, by omega, by omega, by simp; omega, HBU2.out, (HB.out.trans ((Below.refl _ wr).drew.trans (HB1.out.mono hsz))).trans HB2.out, ?_⟩
            rw [HBE.out, HDR.out, beforeA_step HYC.out, Option.map_map]
            congr 1
            funext l
            simp
          case measure => simp [intOf]; omega
      · go_wp2_with (go_at_call 51; refine (Try.bString w.heap.size w.heap.size acc _ HBU.out (by omega)).mono ?_; rintro e w1 ⟨rfl, _, hb1, _⟩; have HB1 := Lib.hid hb1; clear hb1)
        go_ret2
        exact ⟨by rw [HBE.out, List.drop_of_length_le (by rw [length_ls]; omega)]; simp [beforeA, beforeV, bs], HB.out.trans HB1.out⟩
end Go.Proofs.Ytodchgddkgjciaa
