/- The laws of reading aloud: what is said can be read back in one way only; words that are said do not shrink; no word but 22 comes again. Plain lists, no program. -/
import Derived.Test.YtodchgddkgjciaaSpec
namespace Go.Proofs.Ytodchgddkgjciaa
set_option linter.unusedVariables false
set_option linter.unusedSimpArgs false
/-- The digit of a count. -/
def cd (n : Nat) : UInt8 := UInt8.ofNat (48 + n)
theorem cd_toNat {n : Nat} (h : n ≤ 9) : (cd n).toNat = 48 + n := by
  unfold cd
  rw [UInt8.toNat_ofNat_of_lt' (by simp [UInt8.size]; omega)]
theorem cd_of {a : UInt8} (h : 49 ≤ a.toNat ∧ a.toNat ≤ 57) : cd (a.toNat - 48) = a := by
  apply UInt8.toNat_inj.1
  rw [cd_toNat (by omega)]
  omega
theorem cd_inj {n m : Nat} (hn : n ≤ 9) (hm : m ≤ 9) (h : cd n = cd m) : n = m := by
  have := congrArg UInt8.toNat h
  rw [cd_toNat hn, cd_toNat hm] at this
  omega
theorem saidOf_cons (p : Nat × UInt8) (r : List (Nat × UInt8)) : saidOf (p :: r) = cd p.1 :: p.2 :: saidOf r := rfl
theorem saidOf_len (r : List (Nat × UInt8)) : (saidOf r).length = 2 * r.length := by
  induction r with
  | nil => rfl
  | cons p r ih => rw [saidOf_cons]; simp [ih]; omega
theorem unruns_cons (n : Nat) (d : UInt8) (r : List (Nat × UInt8)) : unruns ((n, d) :: r) = List.replicate n d ++ unruns r := by simp [unruns]
/-- Counts from 1 to 9, and digits. -/
def Nines (r : List (Nat × UInt8)) : Prop := ∀ p ∈ r, 1 ≤ p.1 ∧ p.1 ≤ 9 ∧ 49 ≤ p.2.toNat ∧ p.2.toNat ≤ 57
theorem Nines.cons {p : Nat × UInt8} {r : List (Nat × UInt8)} : Nines (p :: r) ↔ (1 ≤ p.1 ∧ p.1 ≤ 9 ∧ 49 ≤ p.2.toNat ∧ p.2.toNat ≤ 57) ∧ Nines r := by simp [Nines]
theorem digs_saidOf {r : List (Nat × UInt8)} (h : Nines r) : Digs (saidOf r) := by
  induction r with
  | nil => exact Digs.nil
  | cons p r ih =>
    rw [saidOf_cons]
    obtain ⟨⟨h1, h2, h3⟩, h4⟩ := Nines.cons.1 h
    exact Digs.cons.2 ⟨by rw [cd_toNat h2]; omega, Digs.cons.2 ⟨h3, ih h4⟩⟩
theorem digs_unruns {r : List (Nat × UInt8)} (h : Nines r) : Digs (unruns r) := by
  intro c hc
  unfold unruns at hc
  obtain ⟨p, hp, hcp⟩ := List.mem_flatMap.1 hc
  obtain ⟨_, rfl⟩ := List.mem_replicate.1 hcp
  exact (h p hp).2.2
theorem unruns_len {r : List (Nat × UInt8)} (h : Nines r) : (unruns r).length ≤ 9 * r.length := by
  induction r with
  | nil => simp [unruns]
  | cons p r ih =>
    obtain ⟨n, d⟩ := p
    obtain ⟨⟨h1, h2, _⟩, h4⟩ := Nines.cons.1 h
    rw [unruns_cons]
    have := ih h4
    simp at h2 ⊢
    omega
theorem runs_digs {l : List UInt8} (h : Digs l) {p : Nat × UInt8} (hp : p ∈ runs l) : 49 ≤ p.2.toNat ∧ p.2.toNat ≤ 57 := h _ (runs_mem hp).1
theorem nines_runs {l : List UInt8} (h : Digs l) (h9 : (runs l).all (fun p => decide (p.1 ≤ 9)) = true) : Nines (runs l) := by
  intro p hp
  have := List.all_eq_true.1 h9 p hp
  simp at this
  exact ⟨(runs_mem hp).2.1, this, runs_digs h hp⟩
/-- The pairs of a word, read two by two. -/
theorem beforeA_iff : ∀ (l : List UInt8) (hd : Digs l) (c : UInt8) (l' : List UInt8), beforeA c l = some l' ↔ ∃ r, Good r ∧ (∀ n d r', r = (n, d) :: r' → d ≠ c) ∧ Nines r ∧ l = saidOf r ∧ l' = unruns r
  | [] => by
    intro hd c l'
    constructor
    · intro h
      simp [beforeA] at h
      exact ⟨[], trivial, (by intro n d r' h; cases h), (by intro p hp; cases hp), rfl, h⟩
    · rintro ⟨r, _, _, _, h, rfl⟩
      cases r with
      | nil => rfl
      | cons p r => rw [saidOf_cons] at h; cases h
  | [a] => by
    intro hd c l'
    constructor
    · intro h; simp [beforeA] at h
    · rintro ⟨r, _, _, _, h, rfl⟩
      have := congrArg List.length h
      rw [saidOf_len] at this
      simp at this; omega
  | a :: b :: l => by
    intro hd c l'
    have ih := fun hd => beforeA_iff l hd
    obtain ⟨ha, hd2⟩ := Digs.cons.1 hd
    obtain ⟨hb, hd3⟩ := Digs.cons.1 hd2
    constructor
    · intro h
      simp only [beforeA] at h
      split at h
      · cases h
      · rename_i hbc
        rw [Option.map_eq_some_iff] at h
        obtain ⟨l2, h2, rfl⟩ := h
        obtain ⟨r, hg, hne, hn, rfl, rfl⟩ := (ih hd3 b l2).1 h2
        refine ⟨(a.toNat - 48, b) :: r, ⟨by omega, fun m e r' he => (hne m e r' he).symm, hg⟩, (by intro n d r' he; cases he; exact hbc), Nines.cons.2 ⟨⟨by simp; omega, by simp; omega, hb⟩, hn⟩, ?_, ?_⟩
        · rw [saidOf_cons]
          simp only [cd_of ha]
        · rw [unruns_cons]
    · rintro ⟨r, hg, hne, hn, h, rfl⟩
      cases r with
      | nil => cases h
      | cons p r =>
        obtain ⟨n, d⟩ := p
        rw [saidOf_cons] at h
        simp only [List.cons.injEq] at h
        obtain ⟨rfl, rfl, rfl⟩ := h
        obtain ⟨⟨h1, h2, h3⟩, h4⟩ := Nines.cons.1 hn
        obtain ⟨hg1, hg2, hg3⟩ := hg
        simp only [beforeA]
        rw [if_neg (hne n b r rfl), (ih hd3 b (unruns r)).2 ⟨r, hg3, fun m e r' he => (hg2 m e r' he).symm, h4, rfl, rfl⟩]
        simp only [Option.map_some, unruns_cons]
        rw [cd_toNat h2]
        congr 3
        omega
theorem before_iff {l l' : List UInt8} (hd : Digs l) : before l = some l' ↔ ∃ r, Good r ∧ Nines r ∧ l = saidOf r ∧ l' = unruns r := by
  unfold before
  rw [beforeA_iff l hd]
  constructor
  · rintro ⟨r, h1, _, h3⟩; exact ⟨r, h1, h3⟩
  · rintro ⟨r, h1, h3⟩
    refine ⟨r, h1, ?_, h3⟩
    rintro n d r' rfl rfl
    have := (h3.1 (n, 0) (by simp)).2.2
    simp at this
/-- What was read back is said again. -/
theorem say_before {l l' : List UInt8} (hd : Digs l) (h : before l = some l') : say l' = some l := by
  obtain ⟨r, hg, hn, rfl, rfl⟩ := (before_iff hd).1 h
  unfold say
  rw [runs_unruns hg, if_pos]
  rw [List.all_eq_true]
  intro p hp
  simpa using (hn p hp).2.1
theorem before_say {l s : List UInt8} (hd : Digs l) (h : say l = some s) : before s = some l := by
  unfold say at h
  split at h
  · rename_i h9
    obtain rfl := Option.some.inj h
    have hn := nines_runs hd h9
    exact (before_iff (digs_saidOf hn)).2 ⟨runs l, good_runs l, hn, rfl, (unruns_runs l).symm⟩
  · cases h
theorem before_digs {l l' : List UInt8} (hd : Digs l) (h : before l = some l') : Digs l' ∧ l'.length ≤ 9 * l.length := by
  obtain ⟨r, hg, hn, rfl, rfl⟩ := (before_iff hd).1 h
  refine ⟨digs_unruns hn, ?_⟩
  have := unruns_len hn
  rw [saidOf_len]
  omega
theorem say_digs {l s : List UInt8} (hd : Digs l) (h : say l = some s) : Digs s ∧ s.length = 2 * (runs l).length := by
  unfold say at h
  split at h
  · rename_i h9
    obtain rfl := Option.some.inj h
    exact ⟨digs_saidOf (nines_runs hd h9), saidOf_len _⟩
  · cases h

/-! ### words that are said do not shrink -/
def nr (l : List UInt8) : Nat := (runs l).length
theorem nr_cons (c d : UInt8) (l : List UInt8) : nr (c :: d :: l) = nr (d :: l) + (if c = d then 0 else 1) := by
  unfold nr
  obtain ⟨n, r, h, _⟩ := runs_head (c := d) (l := l)
  by_cases hcd : c = d
  · subst hcd
    rw [runs_cons_same h, h]
    simp
  · rw [runs_cons_other (fun m r' h' => by rw [h] at h'; simp at h'; exact hcd h'.1.2.symm)]
    simp [hcd]
theorem nr_ge : ∀ (r : List (Nat × UInt8)) (b : UInt8), Good ((1, b) :: r) → r.length + 1 ≤ nr (b :: saidOf r)
  | [], b, _ => by simp [saidOf, nr, runs]
  | (c, d) :: r, b, hg => by
    have h1 := nr_ge r d ⟨Nat.le_refl _, hg.2.2.2⟩
    have hbd : b ≠ d := hg.2.1 c d r rfl
    rw [saidOf_cons, nr_cons, nr_cons]
    simp only [List.length_cons]
    by_cases e1 : b = cd c
    · rw [if_pos e1, if_neg (fun e2 => hbd (e1.trans e2))]
      omega
    · rw [if_neg e1]
      omega
theorem nr_tight {r : List (Nat × UInt8)} {b : UInt8} {c : Nat} {d : UInt8} (hg : Good ((1, b) :: (c, d) :: r)) (h : nr (b :: saidOf ((c, d) :: r)) = r.length + 2) :
    nr (d :: saidOf r) = r.length + 1 ∧ (cd c = b ∨ cd c = d) := by
  have h1 := nr_ge r d ⟨Nat.le_refl _, hg.2.2.2⟩
  have hbd : b ≠ d := hg.2.1 c d r rfl
  rw [saidOf_cons, nr_cons, nr_cons] at h
  dsimp only at h
  by_cases e1 : b = cd c
  · rw [if_pos e1, if_neg (fun e2 => hbd (e1.trans e2))] at h
    exact ⟨by omega, .inl e1.symm⟩
  · rw [if_neg e1] at h
    by_cases e2 : cd c = d
    · rw [if_pos e2] at h
      exact ⟨by omega, .inr e2⟩
    · rw [if_neg e2] at h
      omega
/-- The runs of a tight word, one by one. -/
def Rr (e : Nat) (b : UInt8) : List (Nat × UInt8) → List (Nat × UInt8)
  | [] => [(1 + e, b)]
  | (c, d) :: r => if cd c = b then (2 + e, b) :: Rr 0 d r else (1 + e, b) :: Rr 1 d r
theorem Rr_head (e : Nat) (b : UInt8) (r : List (Nat × UInt8)) : ∃ k t, Rr e b r = (k, b) :: t ∧ 1 + e ≤ k ∧ k ≤ 2 + e := by
  cases r with
  | nil => exact ⟨1 + e, [], rfl, by omega, by omega⟩
  | cons p r =>
    obtain ⟨c, d⟩ := p
    simp only [Rr]
    split
    · exact ⟨_, _, rfl, by omega, by omega⟩
    · exact ⟨_, _, rfl, by omega, by omega⟩
theorem runs_Rr : ∀ (r : List (Nat × UInt8)) (b : UInt8), Good ((1, b) :: r) → nr (b :: saidOf r) = r.length + 1 → runs (b :: saidOf r) = Rr 0 b r ∧ runs (b :: b :: saidOf r) = Rr 1 b r
  | [], b, _, _ => by simp [saidOf, runs, Rr]
  | (c, d) :: r, b, hg, h => by
    obtain ⟨h1, h2⟩ := nr_tight hg h
    have hbd : b ≠ d := hg.2.1 c d r rfl
    obtain ⟨i1, i2⟩ := runs_Rr r d ⟨Nat.le_refl _, hg.2.2.2⟩ h1
    rw [saidOf_cons]
    simp only [Rr]
    by_cases e1 : cd c = b
    · rw [if_pos e1, if_pos e1, e1]
      obtain ⟨k, t, hk, _⟩ := Rr_head 0 d r
      have a1 : runs (b :: d :: saidOf r) = (1, b) :: Rr 0 d r := by
        rw [runs_cons_other (fun m r' h' => by rw [i1, hk] at h'; simp at h'; exact hbd h'.1.2.symm), i1]
      have a2 := runs_cons_same a1
      exact ⟨a2, runs_cons_same a2⟩
    · have e2 : cd c = d := h2.resolve_left e1
      rw [if_neg e1, if_neg e1, e2]
      obtain ⟨k, t, hk, _⟩ := Rr_head 1 d r
      have a1 : runs (b :: d :: d :: saidOf r) = (1, b) :: Rr 1 d r := by
        rw [runs_cons_other (fun m r' h' => by rw [i2, hk] at h'; simp at h'; exact hbd h'.1.2.symm), i2]
      exact ⟨a1, runs_cons_same a1⟩
/-- A word's pairs, as many as its runs. -/
def Tight (q : List (Nat × UInt8)) : Prop := Good q ∧ nr (saidOf q) = q.length
theorem tight_cons {n : Nat} {b : UInt8} {r : List (Nat × UInt8)} (h : Tight ((n, b) :: r)) :
    cd n = b ∧ Good ((1, b) :: r) ∧ nr (b :: saidOf r) = r.length + 1 ∧ runs (saidOf ((n, b) :: r)) = Rr 1 b r := by
  obtain ⟨hg, hn⟩ := h
  have hg' : Good ((1, b) :: r) := ⟨Nat.le_refl _, hg.2⟩
  have h1 := nr_ge r b hg'
  rw [saidOf_cons, nr_cons] at hn
  simp only [List.length_cons] at hn
  by_cases e : cd n = b
  · rw [if_pos e] at hn
    refine ⟨e, hg', by omega, ?_⟩
    rw [saidOf_cons, e]
    exact (runs_Rr r b hg' (by omega)).2
  · rw [if_neg e] at hn
    omega
theorem tight_two {b : UInt8} {c : Nat} {d : UInt8} {r : List (Nat × UInt8)} (hg : Good ((1, b) :: (c, d) :: r)) (h : nr (b :: saidOf ((c, d) :: r)) = r.length + 2) : cd c = b ∨ cd c = d := (nr_tight hg h).2
/-- Four days on which a word does not grow: it is 22. -/
theorem four_tight {q0 q1 q2 q3 : List (Nat × UInt8)} (hne : q0 ≠ []) (hn : Nines q0) (h1 : q1 = runs (saidOf q0)) (h2 : q2 = runs (saidOf q1)) (h3 : q3 = runs (saidOf q2))
    (t0 : Tight q0) (t1 : Tight q1) (t2 : Tight q2) (t3 : Tight q3) : q0 = [(2, 50)] := by
  cases q0 with
  | nil => exact absurd rfl hne
  | cons p r0 =>
    obtain ⟨n, b⟩ := p
    obtain ⟨⟨hn1, hn9, _⟩, _⟩ := Nines.cons.1 hn
    simp only at hn9
    obtain ⟨e0, g0, f0, w0⟩ := tight_cons t0
    rw [w0] at h1
    cases r0 with
    | nil =>
      simp only [Rr] at h1
      subst h1
      obtain ⟨e1, _⟩ := tight_cons t1
      have : n = 2 := cd_inj hn9 (by omega) (e0.trans e1.symm)
      subst this
      rw [← e0]
      rfl
    | cons p s0 =>
      obtain ⟨c2, b2⟩ := p
      have hb2 : b ≠ b2 := g0.2.1 c2 b2 s0 rfl
      have hc2 := tight_two g0 f0
      simp only [Rr] at h1
      by_cases a : cd c2 = b
      · rw [if_pos a] at h1
        subst h1
        obtain ⟨e1, g1, f1, w1⟩ := tight_cons t1
        rw [w1] at h2
        obtain ⟨k, t, hk, hk1, hk2⟩ := Rr_head 0 b2 s0
        rw [hk] at h2
        simp only [Rr] at h2
        by_cases a' : cd k = b
        · have : k = 3 := cd_inj (by omega) (by omega) (a'.trans e1.symm)
          omega
        · rw [if_neg a'] at h2
          subst h2
          obtain ⟨e2, _⟩ := tight_cons t2
          have : 1 + 1 = 2 + 1 := cd_inj (by omega) (by omega) (e2.trans e1.symm)
          omega
      · have hc2' : cd c2 = b2 := hc2.resolve_left a
        rw [if_neg a] at h1
        subst h1
        obtain ⟨e1, g1, f1, w1⟩ := tight_cons t1
        rw [w1] at h2
        obtain ⟨k, s1, hk, hk1, hk2⟩ := Rr_head 1 b2 s0
        rw [hk] at h2 g1 f1
        have hk' := tight_two g1 f1
        simp only [Rr] at h2
        by_cases a' : cd k = b
        · rw [if_pos a'] at h2
          subst h2
          obtain ⟨e2, _⟩ := tight_cons t2
          have : 2 + 1 = 1 + 1 := cd_inj (by omega) (by omega) (e2.trans e1.symm)
          omega
        · rw [if_neg a'] at h2
          have hkb : cd k = b2 := hk'.resolve_left a'
          have hk3 : k = 3 := by
            rcases Nat.lt_or_ge k 3 with h | h
            · have : k = 1 + 1 := by omega
              rw [this] at a'
              exact absurd e1 a'
            · omega
          subst hk3
          -- the second pair's count is three: the third pair begins with its digit
          cases s0 with
          | nil =>
            simp only [Rr] at hk
            simp at hk
          | cons p s0 =>
            obtain ⟨c3, b3⟩ := p
            simp only [Rr] at hk
            split at hk
            · rename_i h3
              obtain ⟨j, u, hj, hj1, hj2⟩ := Rr_head 0 b3 s0
              rw [hj] at hk
              simp only [List.cons.injEq, Prod.mk.injEq, true_and] at hk
              obtain ⟨_, rfl⟩ := hk
              have hjb : ¬ cd j = b2 := fun h => by
                have : j = 3 := cd_inj (by omega) (by omega) (h.trans hkb.symm)
                omega
              simp only [Rr] at h2
              rw [if_neg hjb] at h2
              subst h2
              obtain ⟨e2, g2, f2, w2⟩ := tight_cons t2
              rw [w2] at h3
              simp only [Rr] at h3
              rw [if_pos e1] at h3
              subst h3
              obtain ⟨e3, _⟩ := tight_cons t3
              have : 2 + 1 = 1 + 1 := cd_inj (by omega) (by omega) (e3.trans e1.symm)
              omega
            · simp at hk

/-- A word that is said. -/
def IsSaid (l : List UInt8) : Prop := ∃ q, Good q ∧ Nines q ∧ l = saidOf q
theorem IsSaid.digs {l : List UInt8} (h : IsSaid l) : Digs l := by
  obtain ⟨q, _, hn, rfl⟩ := h
  exact digs_saidOf hn
theorem isSaid_of_say {l s : List UInt8} (hd : Digs l) (h : say l = some s) : IsSaid s := by
  unfold say at h
  split at h
  · rename_i h9
    obtain rfl := Option.some.inj h
    exact ⟨runs l, good_runs l, nines_runs hd h9, rfl⟩
  · cases h
theorem isSaid_of_before {l l' : List UInt8} (hd : Digs l) (h : before l = some l') : IsSaid l := by
  obtain ⟨q, hg, hn, rfl, _⟩ := (before_iff hd).1 h
  exact ⟨q, hg, hn, rfl⟩
theorem IsSaid.even {l : List UInt8} (h : IsSaid l) : l.length % 2 = 0 := by
  obtain ⟨q, _, _, rfl⟩ := h
  rw [saidOf_len]; omega
theorem nr_said {q : List (Nat × UInt8)} (hg : Good q) : q.length ≤ nr (saidOf q) := by
  cases q with
  | nil => simp [nr, saidOf, runs]
  | cons p r =>
    obtain ⟨n, b⟩ := p
    have := nr_ge r b ⟨Nat.le_refl _, hg.2⟩
    rw [saidOf_cons, nr_cons]
    simp only [List.length_cons]
    omega
/-- A word that is said does not shrink; if it does not grow, it is tight. -/
theorem said_grows {l s : List UInt8} (hl : IsSaid l) (h : say l = some s) : l.length ≤ s.length ∧ (s.length = l.length → ∃ q, Tight q ∧ Nines q ∧ l = saidOf q ∧ runs l = runs (saidOf q)) := by
  have h2 := (say_digs hl.digs h).2
  obtain ⟨q, hg, hn, rfl⟩ := hl
  have h3 := nr_said hg
  unfold nr at h3
  rw [h2, saidOf_len]
  refine ⟨by omega, fun e => ⟨q, ⟨hg, by unfold nr; omega⟩, hn, rfl, rfl⟩⟩
theorem saidOf_inj {q r : List (Nat × UInt8)} (hq : Nines q) (hr : Nines r) (h : saidOf q = saidOf r) : q = r := by
  induction q generalizing r with
  | nil => cases r with
    | nil => rfl
    | cons p r => rw [saidOf_cons] at h; cases h
  | cons p q ih => cases r with
    | nil => rw [saidOf_cons] at h; cases h
    | cons p' r =>
      obtain ⟨n, d⟩ := p
      obtain ⟨n', d'⟩ := p'
      rw [saidOf_cons, saidOf_cons] at h
      simp only [List.cons.injEq] at h
      obtain ⟨⟨_, h1, _⟩, hq'⟩ := Nines.cons.1 hq
      obtain ⟨⟨_, h2, _⟩, hr'⟩ := Nines.cons.1 hr
      have e1 : n = n' := cd_inj h1 h2 h.1
      rw [e1, h.2.1, ih hq' hr' h.2.2]
theorem say_runs {l s : List UInt8} (h : say l = some s) : s = saidOf (runs l) := by
  unfold say at h
  split at h
  · exact (Option.some.inj h).symm
  · cases h
theorem tight_runs {l s t : List UInt8} (hl : IsSaid l) (h1 : say l = some s) (h2 : say s = some t) (e : t.length = s.length) : Tight (runs l) := by
  have hs := isSaid_of_say hl.digs h1
  obtain ⟨q, tq, nq, hq, _⟩ := (said_grows hs h2).2 e
  have h9 : (runs l).all (fun p => decide (p.1 ≤ 9)) = true := by
    unfold say at h1
    split at h1
    · assumption
    · cases h1
  have : runs l = q := saidOf_inj (nines_runs hl.digs h9) nq (by rw [← say_runs h1, hq])
  rw [this]
  exact tq
/-- Four days without growth. -/
theorem four_days {l0 l1 l2 l3 l4 : List UInt8} (hne : l0 ≠ []) (hs : IsSaid l0) (h1 : say l0 = some l1) (h2 : say l1 = some l2) (h3 : say l2 = some l3) (h4 : say l3 = some l4) (e : l4.length = l0.length) : l0 = [50, 50] := by
  have s1 := isSaid_of_say hs.digs h1
  have s2 := isSaid_of_say s1.digs h2
  have s3 := isSaid_of_say s2.digs h3
  have g0 := (said_grows hs h1).1
  have g1 := (said_grows s1 h2).1
  have g2 := (said_grows s2 h3).1
  have g3 := (said_grows s3 h4).1
  obtain ⟨q0, t0, n0, rfl, _⟩ := (said_grows hs h1).2 (by omega)
  have r1 := say_runs h1
  have r2 := say_runs h2
  have r3 := say_runs h3
  have t1 := tight_runs hs h1 h2 (by omega)
  have t2 := tight_runs s1 h2 h3 (by omega)
  have t3 := tight_runs s2 h3 h4 (by omega)
  have hq : q0 ≠ [] := by rintro rfl; exact hne rfl
  have := four_tight hq n0 rfl (by rw [r1]) (by rw [r2]) t0 t1 t2 t3
  rw [this]
  rfl
theorem say_22 : say [50, 50] = some [50, 50] := by decide
theorem before_ne {l l' : List UInt8} (hd : Digs l) (h : before l = some l') (hne : l ≠ []) : l' ≠ [] := by
  obtain ⟨q, hg, hn, rfl, rfl⟩ := (before_iff hd).1 h
  cases q with
  | nil => exact absurd rfl hne
  | cons p r =>
    obtain ⟨n, d⟩ := p
    obtain ⟨⟨h1, _⟩, _⟩ := Nines.cons.1 hn
    rw [unruns_cons]
    simp only at h1
    obtain ⟨k, rfl⟩ : ∃ k, n = k + 1 := ⟨n - 1, by omega⟩
    simp [List.replicate_succ]
/-- A word read back twice: the first is not longer. -/
theorem before_shrinks {l l' l'' : List UInt8} (hd : Digs l) (h : before l = some l') (h' : before l' = some l'') : l'.length ≤ l.length := by
  have hd' := (before_digs hd h).1
  exact (said_grows (isSaid_of_before hd' h') (say_before hd h)).1
theorem ages_exist : ∀ (m : Nat) (l : List UInt8), Digs l → l.length ≤ 2 * m → l ≠ [50, 50] → l ≠ [] → ∃ n, n ≤ 4 * m ∧ Ages l n := by
  intro m
  induction m with
  | zero => intro l _ h _ hne; exact absurd (List.length_eq_zero_iff.1 (by omega)) hne
  | succ m ih =>
    intro l0 d0 hlen h22 hne
    cases b0 : before l0 with
    | none => exact ⟨0, by omega, .zero b0⟩
    | some l1 =>
      have d1 := (before_digs d0 b0).1
      cases b1 : before l1 with
      | none => exact ⟨1, by omega, .succ b0 (.zero b1)⟩
      | some l2 =>
        have d2 := (before_digs d1 b1).1
        cases b2 : before l2 with
        | none => exact ⟨2, by omega, .succ b0 (.succ b1 (.zero b2))⟩
        | some l3 =>
          have d3 := (before_digs d2 b2).1
          cases b3 : before l3 with
          | none => exact ⟨3, by omega, .succ b0 (.succ b1 (.succ b2 (.zero b3)))⟩
          | some l4 =>
            have d4 := (before_digs d3 b3).1
            cases b4 : before l4 with
            | none => exact ⟨4, by omega, .succ b0 (.succ b1 (.succ b2 (.succ b3 (.zero b4))))⟩
            | some l5 =>
              have g0 := before_shrinks d0 b0 b1
              have g1 := before_shrinks d1 b1 b2
              have g2 := before_shrinks d2 b2 b3
              have g3 := before_shrinks d3 b3 b4
              have n4 := before_ne d3 b3 (before_ne d2 b2 (before_ne d1 b1 (before_ne d0 b0 hne)))
              have q1 := say_before d0 b0
              have q2 := say_before d1 b1
              have q3 := say_before d2 b2
              have q4 := say_before d3 b3
              have hs4 := isSaid_of_before d4 b4
              have hs0 := isSaid_of_before d0 b0
              by_cases e : l0.length = l4.length
              · have := four_days n4 hs4 q4 q3 q2 q1 e
                subst this
                rw [say_22] at q4
                obtain rfl := Option.some.inj q4
                rw [say_22] at q3
                obtain rfl := Option.some.inj q3
                rw [say_22] at q2
                obtain rfl := Option.some.inj q2
                rw [say_22] at q1
                exact absurd (Option.some.inj q1).symm h22
              · have e0 := hs0.even
                have e4 := hs4.even
                obtain ⟨n, hn, ha⟩ := ih l4 d4 (by omega) (by
                  rintro rfl
                  rw [say_22] at q4
                  obtain rfl := Option.some.inj q4
                  rw [say_22] at q3
                  obtain rfl := Option.some.inj q3
                  rw [say_22] at q2
                  obtain rfl := Option.some.inj q2
                  rw [say_22] at q1
                  exact h22 (Option.some.inj q1).symm) n4
                exact ⟨n + 4, by omega, .succ b0 (.succ b1 (.succ b2 (.succ b3 ha)))⟩
/-- How often 'before' can be used, at most k times. -/
def ageF : Nat → List UInt8 → Nat
  | 0, _ => 0
  | k + 1, l => match before l with
    | none => 0
    | some l' => ageF k l' + 1
theorem ageF_of {l : List UInt8} {n : Nat} (h : Ages l n) : ∀ k, n ≤ k → ageF k l = n := by
  induction h with
  | zero h => intro k _; cases k with
    | zero => rfl
    | succ k => simp [ageF, h]
  | succ h _ ih => intro k hk; cases k with
    | zero => omega
    | succ k => simp [ageF, h, ih k (by omega)]
/-- Age: the number, or the error. -/
def ageE (l : List UInt8) : Except Int Int := if wordE l ≠ 0 then .error (wordE l) else if l = [50, 50] then .error 9 else .ok (ageF 400 l)
theorem ageE_ok {l : List UInt8} (h0 : wordE l = 0) (h : l ≠ [50, 50]) : ∃ n : Nat, Ages l n ∧ n ≤ 400 ∧ ageE l = .ok n := by
  obtain ⟨h1, h2, h3⟩ := wordE_zero.1 h0
  obtain ⟨n, hn, ha⟩ := ages_exist 100 l h2 (by omega) h h3
  exact ⟨n, ha, by omega, by rw [ageE, if_neg (by simp [h0]), if_neg h, ageF_of ha 400 (by omega)]⟩
def numOf : Except Int Int → Int
  | .error _ => 0
  | .ok n => n
theorem days_succ {n : Nat} {l s : List UInt8} (h : days (n + 1) l = .ok s) : ∃ t, say l = some t ∧ t.length ≤ 100000 ∧ days n t = .ok s := by
  simp only [days, dayE] at h
  cases hs : say l with
  | none => rw [hs] at h; cases h
  | some t =>
    rw [hs] at h
    simp only at h
    by_cases hl : t.length > 100000
    · rw [if_pos hl] at h; cases h
    · rw [if_neg hl] at h
      exact ⟨t, rfl, by omega, h⟩
theorem days_step {n : Nat} {l t : List UInt8} (h : say l = some t) (hl : t.length ≤ 100000) : days (n + 1) l = days n t := by
  simp only [days, dayE, h]
  rw [if_neg (by omega)]
theorem days_add {a b : Nat} {l s : List UInt8} (h : days a l = .ok s) : days (a + b) l = days b s := by
  induction a generalizing l with
  | zero => simp only [days] at h; cases h; rw [Nat.zero_add]
  | succ a ih =>
    obtain ⟨t, h1, h2, h3⟩ := days_succ h
    rw [show a + 1 + b = (a + b) + 1 by omega, days_step h1 h2, ih h3]
theorem days_split {a b : Nat} {l s : List UInt8} (h : days (a + b) l = .ok s) : ∃ t, days a l = .ok t ∧ days b t = .ok s := by
  induction a generalizing l with
  | zero => rw [Nat.zero_add] at h; exact ⟨l, rfl, h⟩
  | succ a ih =>
    rw [show a + 1 + b = (a + b) + 1 by omega] at h
    obtain ⟨t, h1, h2, h3⟩ := days_succ h
    obtain ⟨u, h4, h5⟩ := ih h3
    exact ⟨u, by rw [days_step h1 h2, h4], h5⟩
theorem days_digs {n : Nat} {l s : List UInt8} (hd : Digs l) (h : days n l = .ok s) : Digs s := by
  induction n generalizing l with
  | zero => simp only [days] at h; cases h; exact hd
  | succ n ih =>
    obtain ⟨t, h1, h2, h3⟩ := days_succ h
    exact ih (say_digs hd h1).1 h3
theorem days_grow {n : Nat} {l s : List UInt8} (hs : IsSaid l) (h : days n l = .ok s) : IsSaid s ∧ l.length ≤ s.length := by
  induction n generalizing l with
  | zero => simp only [days] at h; cases h; exact ⟨hs, Nat.le_refl _⟩
  | succ n ih =>
    obtain ⟨t, h1, h2, h3⟩ := days_succ h
    have := ih (isSaid_of_say hs.digs h1) h3
    exact ⟨this.1, Nat.le_trans (said_grows hs h1).1 this.2⟩
theorem days_said {n : Nat} {l s : List UInt8} (hd : Digs l) (h : days (n + 1) l = .ok s) : IsSaid s := by
  obtain ⟨t, h1, h2, h3⟩ := days_succ h
  exact (days_grow (isSaid_of_say hd h1) h3).1
/-- No word but 22 comes again. -/
theorem never {n : Nat} {l : List UInt8} (hd : Digs l) (hne : l ≠ []) (h : days (n + 1) l = .ok l) : l = [50, 50] := by
  have hs := days_said hd h
  have h4 : days ((n + 1) + ((n + 1) + ((n + 1) + (n + 1)))) l = .ok l := by
    rw [days_add h, days_add h, days_add h, h]
  rw [show (n + 1) + ((n + 1) + ((n + 1) + (n + 1))) = (((4 * n + 1) + 1) + 1) + 1 by omega] at h4
  obtain ⟨l1, a1, b1, c1⟩ := days_succ h4
  obtain ⟨l2, a2, b2, c2⟩ := days_succ c1
  obtain ⟨l3, a3, b3, c3⟩ := days_succ c2
  have s1 := isSaid_of_say hd a1
  have s2 := isSaid_of_say s1.digs a2
  have s3 := isSaid_of_say s2.digs a3
  have c3' : days (4 * n + 1) l3 = .ok l := c3
  obtain ⟨l4, a4, b4, c4⟩ := days_succ c3'
  have s4 := isSaid_of_say s3.digs a4
  have g0 := (said_grows hs a1).1
  have g1 := (said_grows s1 a2).1
  have g2 := (said_grows s2 a3).1
  have g3 := (said_grows s3 a4).1
  have g4 := (days_grow s4 c4).2
  exact four_days hne hs a1 a2 a3 a4 (by omega)

/-! ### runs, from the left to the right -/
theorem good_snoc {rs : List (Nat × UInt8)} {n m : Nat} {c : UInt8} (h : Good (rs ++ [(n, c)])) (hm : 1 ≤ m) : Good (rs ++ [(m, c)]) := by
  induction rs with
  | nil => exact ⟨hm, (by intro k e r he; cases he), trivial⟩
  | cons p r ih =>
    obtain ⟨k, d⟩ := p
    obtain ⟨h1, h2, h3⟩ := h
    refine ⟨h1, ?_, ih h3⟩
    intro k' e r' he
    cases r with
    | nil => simp at he; obtain ⟨⟨_, rfl⟩, _⟩ := he; exact h2 n c [] rfl
    | cons q r2 => simp at he; exact h2 q.1 q.2 (r2 ++ [(n, c)]) (by simp) |> fun h => by rw [← show q.2 = e from by rw [he.1]]; exact h
theorem good_add {rs : List (Nat × UInt8)} {c : UInt8} (h : Good rs) (hne : ∀ r n d, rs = r ++ [(n, d)] → d ≠ c) : Good (rs ++ [(1, c)]) := by
  induction rs with
  | nil => exact ⟨Nat.le_refl _, (by intro k e r he; cases he), trivial⟩
  | cons p r ih =>
    obtain ⟨k, d⟩ := p
    obtain ⟨h1, h2, h3⟩ := h
    refine ⟨h1, ?_, ih h3 fun r' n e he => hne ((k, d) :: r') n e (by rw [he]; rfl)⟩
    intro k' e r' he
    cases r with
    | nil => simp at he; obtain ⟨⟨_, rfl⟩, _⟩ := he; exact hne [] k d rfl
    | cons q r2 => simp at he; exact h2 q.1 q.2 r2 rfl |> fun h => by rw [← show q.2 = e from by rw [he.1]]; exact h
theorem unruns_append (a b : List (Nat × UInt8)) : unruns (a ++ b) = unruns a ++ unruns b := by simp [unruns]
theorem runs_last {l : List UInt8} {d : UInt8} : ∃ init n, runs (l ++ [d]) = init ++ [(n, d)] ∧ 1 ≤ n := by
  have hne := runs_ne (l := l ++ [d]) (by simp)
  have hu := unruns_runs (l ++ [d])
  obtain ⟨init, p, hp⟩ : ∃ init p, runs (l ++ [d]) = init ++ [p] := ⟨_, _, (List.dropLast_concat_getLast hne).symm⟩
  obtain ⟨n, e⟩ := p
  have hn : 1 ≤ n := (runs_mem (l := l ++ [d]) (p := (n, e)) (by rw [hp]; simp)).2.1
  obtain ⟨k, rfl⟩ : ∃ k, n = k + 1 := ⟨n - 1, by omega⟩
  rw [hp, unruns_append, unruns_cons, List.replicate_succ'] at hu
  have hu' : (unruns init ++ List.replicate k e) ++ [e] = l ++ [d] := by
    rw [← hu]
    simp [unruns]
  have := congrArg List.getLast? hu'
  simp at this
  subst this
  exact ⟨init, k + 1, hp, hn⟩
theorem runs_snoc_same {l : List UInt8} {init : List (Nat × UInt8)} {n : Nat} {c : UInt8} (h : runs l = init ++ [(n, c)]) : runs (l ++ [c]) = init ++ [(n + 1, c)] := by
  have hg := good_runs l
  rw [h] at hg
  have hu := unruns_runs l
  rw [h] at hu
  have e : l ++ [c] = unruns (init ++ [(n + 1, c)]) := by
    rw [← hu, unruns_append, unruns_append, unruns_cons, unruns_cons, List.replicate_succ', List.append_assoc]
    simp [unruns]
  rw [e, runs_unruns (good_snoc hg (by omega))]
theorem runs_snoc_other {l : List UInt8} {c : UInt8} (h : ∀ l' , l ≠ l' ++ [c]) : runs (l ++ [c]) = runs l ++ [(1, c)] := by
  have hg := good_runs l
  have hu := unruns_runs l
  have hg2 : Good (runs l ++ [(1, c)]) := good_add hg fun r n d hr e => by
    subst e
    have hn : 1 ≤ n := (runs_mem (l := l) (p := (n, d)) (by rw [hr]; simp)).2.1
    obtain ⟨k, rfl⟩ : ∃ k, n = k + 1 := ⟨n - 1, by omega⟩
    rw [hr, unruns_append, unruns_cons, List.replicate_succ'] at hu
    refine h (unruns r ++ List.replicate k d) ?_
    rw [← hu]
    simp [unruns]
  have e : l ++ [c] = unruns (runs l ++ [(1, c)]) := by
    rw [unruns_append, hu]
    simp [unruns]
  rw [e, runs_unruns hg2]
end Go.Proofs.Ytodchgddkgjciaa
