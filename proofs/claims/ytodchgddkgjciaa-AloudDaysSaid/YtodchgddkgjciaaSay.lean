/- What the function say of package aloud answers: the word that is said, or ErrRange. Conditions: the word has digits only, at most 1000000 of them. -/
import Derived.Test.YtodchgddkgjciaaIter
import Derived.RangeFuncNested
namespace Go.Proofs.Ytodchgddkgjciaa
set_option linter.unusedVariables false
set_option linter.unusedSimpArgs false
open Go Go.RowKit Go.Shelf
attribute [local go_sem] Oper.semAt_some
theorem builder_kept {T e : TypeId} {B b : Nat} {l : List Value} {W W' : World} (h : Lib.IsBuilderF T e B b l W)
    (hk : ∀ (k : Nat) c t fz, W.heap[k]? = some (Obj.cells c t fz) → (t = T ∨ t = e) → W'.heap[k]? = W.heap[k]?) : Lib.IsBuilderF T e B b l W' := by
  have main : ∀ p, Lib.BuilderAtF T e B b p l W → Lib.BuilderAtF T e B b p l W' := by
    intro p ⟨hB, v, hb, hown, hne⟩
    refine ⟨hB, v, (hk _ _ _ _ hb (.inl rfl)).trans hb, ⟨hown.1, ?_⟩, hne⟩
    rcases hown.2 with hn | ⟨g, cap, cur, fz, hv, hbg, hg, rest⟩
    · exact .inl hn
    · exact .inr ⟨g, cap, cur, fz, hv, hbg, (hk _ _ _ _ hg (.inr rfl)).trans hg, rest⟩
  exact h.elim (fun h => .inl (main _ h)) (fun h => .inr (main _ h))
theorem builder_own {β : Type} (B b : Nat) (f : β → List Value) : Own (fun s W => Lib.IsBuilderF 64 5 B b (f s) W) := by
  intro s X Y row hs hg hrow
  refine builder_kept hs fun k c t fz hk _ => ?_
  refine hg.block k (Array.getElem?_eq_some_iff.1 hk).1 fun e => ?_
  obtain ⟨o, ho, hc⟩ := hrow k e.symm
  rw [hk] at ho; cases ho; cases hc
theorem builder_step {B b c : Nat} {l : List Value} {X Y : World} (h : Lib.IsBuilderF 64 5 B b l X) (st : IterStep c X Y) : Lib.IsBuilderF 64 5 B b l Y := by
  refine builder_kept h fun k cs t fz hk ht => ?_
  refine st.grown.block k (Array.getElem?_eq_some_iff.1 hk).1 fun e => ?_
  obtain ⟨v, hv⟩ := st.here
  cases e
  rw [show X.heap[c]? = _ from hv] at hk
  cases hk
  rcases ht with h | h <;> cases h
theorem runs_any (s : ByteArray) (w : World) :
    Calls Try.prog 48 #[.string s] w fun e w' => e = .returned (.func (.func 55) #[] #[.pointer (some ⟨w.heap.size, 0, none⟩)]) ∧ w' = w.alloc (.cells #[.string s] 9) := by
  go_enter Try.func48, Try.ntmps48
  go_wp2
  go_ret
  exact ⟨rfl, rfl⟩
theorem builder_fresh {B b : Nat} {W : World} (hB : B ≤ b) (h : W.heap[b]? = some (.cells #[.pointer none, .slice none 0 0] 64 (0, 0))) : Lib.IsBuilderF 64 5 B b (Lib.byteCells []) W :=
  .inl ⟨hB, .slice none 0 0, h, World.ownsRowF_nil _ _ _ _, by simp [Value.ownBlock]⟩
theorem wbyte (B b : Nat) (l : List UInt8) (c : Int) (d : UInt8) (hc : c = (d.toNat : Int)) (W : World) (h : Lib.IsBuilderF 64 5 B b (Lib.byteCells l) W) (hlen : l.length + 1 ≤ 140737488355328) (hB : B ≤ W.heap.size) :
    Calls Try.prog 54 #[.pointer (some ⟨b, 0, none⟩), .int .u8 c] W fun e w' => e = .returned .nilIface ∧ Lib.IsBuilderF 64 5 B b (Lib.byteCells (l ++ [d])) w' ∧ Below B W w' ∧ Lib.OthersKept 5 (some b) W w' := by
  subst hc
  refine (Try.bWriteByte B b _ _ W h (by rw [Lib.byteCells_length]; exact hlen) hB).mono ?_
  rintro e w' ⟨he, hb, hbl, hk⟩
  refine ⟨he, ?_, hbl, hk⟩
  rw [Lib.byteCells_append]
  exact .inr hb
theorem builder_block {B b : Nat} {l : List Value} {W : World} (h : Lib.IsBuilderF 64 5 B b l W) : ∃ c, W.heap[b]? = some (.cells c 64 (0, 0)) := by
  rcases h with ⟨_, v, hb, _⟩ | ⟨_, v, hb, _⟩ <;> exact ⟨_, hb⟩
theorem others_keep {B b : Nat} {l : List Value} {W W' : World} (h : Lib.IsBuilderF 64 5 B b l W) (hk : Lib.OthersKept 5 (some b) W W') (hb : Below B W W') : KeepsOthers W W' :=
  ⟨hb.size, fun k o hko hc => hk k o hko (fun e => by cases e; obtain ⟨c, hc'⟩ := builder_block h; rw [hko] at hc'; cases hc'; cases hc) (fun c fz e => by subst e; cases hc)⟩
theorem others_boxed {b k : Nat} {t : TypeId} {v : Value} {W W' : World} (hk : Lib.OthersKept 5 (some b) W W') (hv : Boxed W k t v) (hne : k ≠ b) (ht : t ≠ 5) : Boxed W' k t v :=
  hk k _ hv (fun e => hne (Option.some.inj e)) (fun c fz e => by cases e; exact ht rfl)
theorem saidOf_snoc (pre : List (Nat × UInt8)) (k : Nat) (d : UInt8) : saidOf (pre ++ [(k, d)]) = (saidOf pre ++ [UInt8.ofNat (48 + k)]) ++ [d] := by
  simp [saidOf]
theorem saidOf_length (pre : List (Nat × UInt8)) : (saidOf pre).length = 2 * pre.length := by
  induction pre with
  | nil => rfl
  | cons p r ih => simp [saidOf] at ih ⊢; omega
/-- What say hands back: the word, and no error; or no word, and ErrRange. -/
def sayV (o : Option (List UInt8)) : Value := .tuple #[.string (bs (o.getD [])), .int .i64 (if o.isSome then 0 else 4)]
theorem sayV_some (l : List UInt8) : sayV (some l) = .tuple #[.string (bs l), .int .i64 0] := rfl
theorem sayV_none : sayV none = .tuple #[.string ⟨#[]⟩, .int .i64 4] := rfl
def SayI (w : World) (pre : List (Nat × UInt8)) (W : World) : Prop :=
  (∀ p ∈ pre, p.1 ≤ 9) ∧ Boxed W w.heap.size 9 (.string ⟨#[]⟩) ∧ Boxed W (w.heap.size + 1) 24 (.int .i64 0) ∧ Lib.IsBuilderF 64 5 w.heap.size (w.heap.size + 1 + 1) (Lib.byteCells (saidOf pre)) W ∧ (∃ v, Boxed W (w.heap.size + 1 + 1 + 1) 9 v)
def SayX (w : World) (j : Code) (pre : List (Nat × UInt8)) (W : World) : Prop :=
  j = .ret ∧ (∃ p ∈ pre, 9 < p.1) ∧ Boxed W w.heap.size 9 (.string ⟨#[]⟩) ∧ Boxed W (w.heap.size + 1) 24 (.int .i64 4)
theorem boxed_ofrom {β : Type} (D B : Nat) (t : TypeId) (v : Value) : OwnFrom D (fun (_ : β) W => Boxed W B t v) := (boxed_own B t fun _ => v).from D
theorem boxed_any_ofrom {β : Type} (D B : Nat) (t : TypeId) : OwnFrom D (fun (_ : β) W => ∃ v, Boxed W B t v) := by
  intro s X Y row ⟨v, hv⟩ hg hr
  exact ⟨v, boxed_ofrom D B t v s X Y row hv hg hr⟩
theorem sayI_own (w : World) (D : Nat) : OwnFrom D (SayI w) :=
  (ownFrom_pure D fun (pre : List (Nat × UInt8)) => ∀ p ∈ pre, p.1 ≤ 9).and <| (boxed_ofrom D _ _ _).and ((boxed_ofrom D _ _ _).and (((builder_own _ _ fun pre => Lib.byteCells (saidOf pre)).from D).and (boxed_any_ofrom D _ _)))
theorem sayX_own (w : World) (D : Nat) (j : Code) : OwnFrom D (SayX w j) :=
  (ownFrom_pure D fun _ => j = .ret).and ((ownFrom_pure D fun (pre : List (Nat × UInt8)) => ∃ p ∈ pre, 9 < p.1).and ((boxed_ofrom D _ _ _).and (boxed_ofrom D _ _ _)))
theorem sayI_step (w : World) : ∀ s A B, SayI w s A → IterStep (w.heap.size + 1 + 1 + 1) A B → SayI w s B :=
  fun s A B ⟨h0, h1, h2, h3, _⟩ st => ⟨h0, st.boxed h1 (by omega), st.boxed h2 (by omega), builder_step h3 st, st.there⟩
theorem sayX_step (w : World) : ∀ j s A B, SayX w j s A → IterStep (w.heap.size + 1 + 1 + 1) A B → SayX w j s B :=
  fun j s A B ⟨h0, h1, h2, h3⟩ st => ⟨h0, h1, st.boxed h2 (by omega), st.boxed h3 (by omega)⟩
set_option maxRecDepth 100000 in
set_option maxHeartbeats 2000000 in
theorem say_in (s : ByteArray) (w : World) (hd : Digs (ls s)) (hlen : s.size ≤ 1000000) :
    CallsIn Fence.wide 3 Try.prog 40 #[.string s] w fun e w' => e = .returned (sayV (say (ls s))) ∧ Below w.heap.size w w' := by
  refine callsIn_of_wp_marks Try.func40 rfl trivial ?_ rfl
  simp only [Try.ntmps40, List.size_toArray, List.length_cons, List.length_nil, Nat.reduceAdd, Nat.reduceSub, Array.replicate_succ, Array.replicate_zero, List.push_toArray, List.append_toArray, List.nil_append, List.cons_append]
  have HD := Lib.hid hd
  clear hd
  gi_wp2_with (first | (refine ⟨trivial, ?_⟩; gi_at_call 48; (with_reducible refine (callsIn_wide.2 (runs_any _ _)).mono ?_); rintro e w1 ⟨rfl, rfl⟩))
  have h1 : 1 ≤ 3 := by omega
  obtain ⟨w0, hw0⟩ : ∃ w0, (((w.alloc (.cells #[.string ⟨#[]⟩] 9)).alloc (.cells #[.int .i64 0] 24)).alloc (.cells #[.pointer none, .slice none 0 0] 64)).alloc (.cells #[.string s] 9) = w0 := ⟨_, rfl⟩
  rw [hw0]
  have hsz : w0.heap.size = w.heap.size + 1 + 1 + 1 + 1 := by rw [← hw0]; simp
  have hI0 : SayI w [] w0 := by
    rw [← hw0]
    refine ⟨by simp, (((Boxed.new w 9 _).alloc _).alloc _).alloc _, ?_, ?_, ?_⟩
    · have := ((Boxed.new (w.alloc (.cells #[.string ⟨#[]⟩] 9)) 24 (.int .i64 0)).alloc (.cells #[.pointer none, .slice none 0 0] 64)).alloc (.cells #[.string s] 9)
      simpa using this
    · have hh : Boxed ((((w.alloc (.cells #[.string ⟨#[]⟩] 9)).alloc (.cells #[.int .i64 0] 24)).alloc (.cells #[.pointer none, .slice none 0 0] 64)).alloc (.cells #[.string s] 9)) (w.heap.size + 1 + 1 + 1) 9 (.string s) := by
        have := Boxed.new (((w.alloc (.cells #[.string ⟨#[]⟩] 9)).alloc (.cells #[.int .i64 0] 24)).alloc (.cells #[.pointer none, .slice none 0 0] 64)) 9 (.string s)
        simpa using this
      refine builder_fresh (by omega) ?_
      rw [Below.heap_alloc _ _ _ (by simp)]
      have := World.alloc_heap_new ((w.alloc (.cells #[.string ⟨#[]⟩] 9)).alloc (.cells #[.int .i64 0] 24)) (.cells #[.pointer none, .slice none 0 0] 64)
      simpa using this
    · have := Boxed.new (((w.alloc (.cells #[.string ⟨#[]⟩] 9)).alloc (.cells #[.int .i64 0] 24)).alloc (.cells #[.pointer none, .slice none 0 0] 64)) 9 (.string s)
      exact ⟨_, by simpa using this⟩
  have hc0 : Boxed w0 (w.heap.size + 1 + 1 + 1) 9 (.string s) := by
    rw [← hw0]
    have := Boxed.new (((w.alloc (.cells #[.string ⟨#[]⟩] 9)).alloc (.cells #[.int .i64 0] 24)).alloc (.cells #[.pointer none, .slice none 0 0] 64)) 9 (.string s)
    simpa using this
  have hB0 : Below w.heap.size w w0 := by
    rw [← hw0]
    exact ((((Below.refl _ w).alloc (Nat.le_refl _) _).alloc (by simp) _).alloc (by simp; omega) _).alloc (by simp; omega) _
  refine wpIn_rangeFunc_state rfl h1 (gf := 55) (lb := #[.pointer (some ⟨w.heap.size + 1 + 1 + 1, 0, none⟩)]) rfl trivial (enters_of Try.func55 (by kernel_rfl) rfl)
    (runs1_seq 2 (w.heap.size + 1 + 1 + 1) s w0 hc0 HD.out (by omega)) (by omega) (fun _ => rfl)
    (fun pre W => SayI w pre W ∧ Below w.heap.size w W) (fun j pre W => SayX w j pre W ∧ Below w.heap.size w W)
    ((sayI_own w _).and (ownFrom_below (Nat.le_refl _) (by omega))) (fun j => (sayX_own w _ j).and (ownFrom_below (Nat.le_refl _) (by omega)))
    (fun s A B h st => ⟨sayI_step w s A B h.1 st, st.below (by omega) (Nat.le_refl _) h.2⟩) (fun j s A B h st => ⟨sayX_step w j s A B h.1 st, st.below (by omega) (Nat.le_refl _) h.2⟩)
    ⟨hI0, hB0⟩
    (fun x => { tmps := #[.string s, undef, .pointer (some ⟨w.heap.size, 0, none⟩), .pointer (some ⟨w.heap.size + 1, 0, none⟩), .pointer (some ⟨w.heap.size + 1 + 1, 0, none⟩), .int .i64 x.1, .int .u8 x.2.toNat, .string s,
      .func (.func 55) #[] #[.pointer (some ⟨w.heap.size + 1 + 1 + 1, 0, none⟩)], .int .i64 x.1, .int .u8 x.2.toNat, undef, undef, undef, undef, undef, undef, undef, undef, undef], defers := [] }) ?assign ?body ?done ?stop
  case assign =>
    intro l x W K hK
    unfold encRun
    gi_wp2
    exact hK
  case body =>
    rintro l pre x suf W hx ⟨⟨hall, hb1, hb2, hbu, hbc⟩, hB⟩
    obtain ⟨k, d⟩ := x
    dsimp only
    have hmem : (k, d) ∈ runs (ls s) := by rw [hx]; simp
    have hkb := runs_mem hmem
    have hsz2 := hB.size
    rw [length_ls] at hkb
    have hdd := HD.out d hkb.1
    obtain ⟨hd1, hd2⟩ := hdd
    obtain ⟨_, hk1, hk2⟩ := hkb
    have hlen2 : pre.length + 1 + suf.length ≤ s.size := by
      have := length_runs_le (ls s)
      rw [hx, length_ls] at this
      simp at this; omega
    have HX := Lib.hid hx
    have HALL := Lib.hid hall
    clear hall
    have HB := Lib.hid hB
    have HB1 := Lib.hid hb1
    have HB2 := Lib.hid hb2
    have HBU := Lib.hid hbu
    have HBC := Lib.hid hbc
    clear hx hB hbu hbc hmem
    by_cases h9 : 9 < k
    · have c1 := hb1.cell
      have f1 := hb1.frozen
      have c2 := hb2.cell
      have f2 := hb2.frozen
      clear hb1 hb2
      gi_wp2
      refine ⟨(KeepsOthers.setCell _ _ _).trans (KeepsOthers.setCell _ _ _), ⟨rfl, ⟨(k, d), by simp, h9⟩, ?_, ?_⟩, (HB.out.setCell (p := ⟨w.heap.size, 0, none⟩) (Nat.le_refl _) _).setCell (p := ⟨w.heap.size + 1, 0, none⟩) (by simp) _⟩
      · exact (HB1.out.set _).kept (grownBy_setCell' _ _ _) (by simp)
      · exact (HB2.out.kept (grownBy_setCell' _ _ _) (by simp)).set _
    · clear hb1 hb2
      gi_wp2_with fail
      have hsl := saidOf_length pre
      refine ⟨trivial, ?_⟩
      have e1 : (48 + (k : Int)) = ((UInt8.ofNat (48 + k)).toNat : Int) := by
        rw [UInt8.toNat_ofNat_of_lt' (by simp [UInt8.size]; omega)]
        simp
      (with_reducible refine (CallsIn.inRound l (callsIn_wide.2 (wbyte w.heap.size (w.heap.size + 1 + 1) (saidOf pre) _ (UInt8.ofNat (48 + k)) e1 W HBU.out (by omega) (by omega)))).mono ?_)
      clear e1
      rintro e W1 ⟨rfl, hu1, b1, k1⟩
      have HU1 := Lib.hid hu1
      have HB1' := Lib.hid b1
      have HK1 := Lib.hid k1
      have hs1 := b1.size
      clear hu1 b1 k1
      gi_wp2_with fail
      refine ⟨trivial, ?_⟩
      (with_reducible refine (CallsIn.inRound l (callsIn_wide.2 (wbyte w.heap.size (w.heap.size + 1 + 1) (saidOf pre ++ [UInt8.ofNat (48 + k)]) _ d rfl W1 HU1.out (by simp; omega) (by omega)))).mono ?_)
      rintro e W2 ⟨rfl, hu2, b2, k2⟩
      have HU2 := Lib.hid hu2
      have HB2' := Lib.hid b2
      have HK2 := Lib.hid k2
      clear hu2 b2 k2
      gi_wp2
      obtain ⟨v, hv⟩ := HBC.out
      have kk := HK1.out.trans HK2.out
      have hv2 := others_boxed kk hv (by omega) (by decide)
      refine ⟨(others_keep HBU.out HK1.out HB1'.out).trans (others_keep HU1.out HK2.out HB2'.out), hv2.trans hv.symm, ⟨fun p hp => (List.mem_append.1 hp).elim (HALL.out p) (fun h => by simp at h; subst h; simp; omega), others_boxed kk HB1.out (by omega) (by decide), others_boxed kk HB2.out (by omega) (by decide), ?_, ⟨v, hv2⟩⟩, (HB.out.trans HB1'.out).trans HB2'.out⟩
      rw [saidOf_snoc]
      exact HU2.out
  case done =>
    rintro D W hD ⟨⟨hall, hb1, hb2, hbu, hbc⟩, hB⟩ hK
    have hsz2 := hB.size
    have HB := Lib.hid hB
    have HB1 := Lib.hid hb1
    have HB2 := Lib.hid hb2
    have HBU := Lib.hid hbu
    have HK := Lib.hid hK
    have HALL := Lib.hid hall
    clear hall hB hb1 hb2 hbu hbc hK
    gi_wp2_with fail
    refine ⟨trivial, ?_⟩
    (with_reducible refine (callsIn_wide.2 (Try.bString w.heap.size (w.heap.size + 1 + 1) (saidOf (runs (ls s))) W HBU.out (by omega))).mono ?_)
    rintro e W1 ⟨rfl, hu1, b1, k1⟩
    have hb1 := others_boxed k1 HB1.out (by omega) (by decide)
    have hb2 := others_boxed k1 HB2.out (by omega) (by decide)
    have HKD : Hid (W1.heap[D]? = some (.deferred (some []))) := (others_keep HBU.out k1 b1).same D _ HK.out rfl
    have c1 := hb1.cell
    have f1 := hb1.frozen
    have c2 := hb2.cell
    have f2 := hb2.frozen
    have HB1' := Lib.hid hb1
    have HB2' := Lib.hid hb2
    have HBB := Lib.hid b1
    clear hb1 hb2 hu1 b1 k1
    gi_wp2
    have hK2 := ((KeepsOthers.setCell W1 ⟨w.heap.size, 0, none⟩ (.string ⟨(saidOf (runs (ls s))).toArray⟩)).trans (KeepsOthers.setCell _ ⟨w.heap.size + 1, 0, none⟩ (.int .i64 0))).same D _ HKD.out rfl
    refine ⟨by simp, .inl ⟨_, _, rfl, run_takeDeferred hK2, ?_⟩⟩
    have d1 := (HB1'.out.set (.string ⟨(saidOf (runs (ls s))).toArray⟩)).kept (grownBy_setCell' _ (w.heap.size + 1) (.int .i64 0)) (by simp)
    have d2 := (HB2'.out.kept (grownBy_setCell' _ w.heap.size (.string ⟨(saidOf (runs (ls s))).toArray⟩)) (by simp)).set (.int .i64 0)
    have hc1 := cell_kept d1.cell (grownBy_putObj' _ D (.deferred none)) (fun r e => by cases e; exact ⟨_, hK2, rfl⟩)
    have hc2 := cell_kept d2.cell (grownBy_putObj' _ D (.deferred none)) (fun r e => by cases e; exact ⟨_, hK2, rfl⟩)
    refine ⟨.tuple #[.string (bs (saidOf (runs (ls s)))), .int .i64 0], ?_, ?_, ?_⟩
    · simp [results, Try.f40, go_sem, hc1, hc2]
      rfl
    · have : say (ls s) = some (saidOf (runs (ls s))) := by
        unfold say
        rw [if_pos]
        rw [List.all_eq_true]
        intro p hp
        have := HALL.out p hp
        simpa using this
      rw [this, sayV_some]
    · exact (((HB.out.trans HBB.out).setCell (p := ⟨w.heap.size, 0, none⟩) (Nat.le_refl _) _).setCell (p := ⟨w.heap.size + 1, 0, none⟩) (by simp) _).trans (belowK_b (w := w) (Nat.le_refl _) _ D _ _ (by omega) hK2 rfl rfl)
  case stop =>
    rintro D j pre suf W hD hx ⟨⟨rfl, hex, hb1, hb2⟩, hB⟩ hK
    gi_wp2
    refine ⟨by simp, .inl ⟨_, _, rfl, run_takeDeferred hK, ?_⟩⟩
    have hc1 := cell_kept hb1.cell (grownBy_putObj' _ D (.deferred none)) (fun r e => by cases e; exact ⟨_, hK, rfl⟩)
    have hc2 := cell_kept hb2.cell (grownBy_putObj' _ D (.deferred none)) (fun r e => by cases e; exact ⟨_, hK, rfl⟩)
    refine ⟨.tuple #[.string ⟨#[]⟩, .int .i64 4], ?_, ?_, hB.trans (belowK_b (w := w) (Nat.le_refl _) W D _ _ (by omega) hK rfl rfl)⟩
    · simp [results, Try.f40, go_sem, hc1, hc2]
    · have : say (ls s) = none := by
        unfold say
        rw [if_neg]
        intro h
        obtain ⟨p, hp, h9⟩ := hex
        have := List.all_eq_true.1 h p (by rw [hx]; simp [hp])
        simp at this
        omega
      rw [this, sayV_none]
theorem say_any (s : ByteArray) (w : World) (hd : Digs (ls s)) (hlen : s.size ≤ 1000000) :
    Calls Try.prog 40 #[.string s] w fun e w' => e = .returned (sayV (say (ls s))) ∧ Below w.heap.size w w' :=
  callsIn_wide.1 (say_in s w hd hlen)
end Go.Proofs.Ytodchgddkgjciaa
