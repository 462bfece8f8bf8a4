/- What Of of package aloud answers, as a plain function on lists of pairs. No program in sight, no condition. -/
import Derived.Test.YtodchgddkgjciaaMeetsMath
import Derived.Test.YtodchgddkgjciaaRefRuns
namespace Go.Proofs.Ytodchgddkgjciaa
/-- Is a pair refused, behind one with the digit q? -/
def badPair (q : Option Int) (p : Int × Int) : Bool := decide (p.1 < 1) || decide (200 < p.1) || decide (p.2 < 1) || decide (9 < p.2) || decide (q = some p.2)
def allOk : Option Int → List (Int × Int) → Bool
  | _, [] => true
  | q, p :: r => !badPair q p && allOk (some p.2) r
/-- The word with some runs. -/
def spell (l : List (Int × Int)) : List UInt8 := l.flatMap fun p => List.replicate p.1.toNat (UInt8.ofNat (48 + p.2.toNat))
def ofE (l : List (Int × Int)) : Except Int (List UInt8) :=
  if 200 < l.length then .error 3 else if allOk none l = false then .error 2 else if 200 < (spell l).length then .error 3 else if spell l = [] then .error 5 else .ok (spell l)
/-- The digit ahead of place i. -/
def lastB (l : List (Int × Int)) : Nat → Option Int
  | 0 => none
  | i + 1 => (l[i]?).map (·.2)
theorem allOk_at {l : List (Int × Int)} {i : Nat} {p : Int × Int} (h : l[i]? = some p) (ha : allOk none l = allOk (lastB l i) (l.drop i)) :
    (badPair (lastB l i) p = true → allOk none l = false) ∧ (badPair (lastB l i) p = false → allOk none l = allOk (lastB l (i + 1)) (l.drop (i + 1))) := by
  have hd : l.drop i = p :: l.drop (i + 1) := by
    rw [List.drop_eq_getElem_cons (List.getElem?_eq_some_iff.1 h).1, (List.getElem?_eq_some_iff.1 h).2]
  rw [ha, hd]
  constructor
  · intro hb; simp [allOk, hb]
  · intro hb
    have e : lastB l (i + 1) = some p.2 := by show (l[i]?).map _ = _; rw [h]; rfl
    rw [allOk, hb, e]; rfl
theorem spell_take {l : List (Int × Int)} {i : Nat} {p : Int × Int} (h : l[i]? = some p) : spell (l.take (i + 1)) = spell (l.take i) ++ List.replicate p.1.toNat (UInt8.ofNat (48 + p.2.toNat)) := by
  rw [List.take_add_one, h]
  simp [spell]
/-- Of the runs of a word: the word. -/
theorem badPair_runs {q : Option Int} {n : Nat} {d : UInt8} (h1 : 1 ≤ n) (h2 : n ≤ 200) (h3 : 49 ≤ d.toNat) (h4 : d.toNat ≤ 57) (h5 : q ≠ some ((d.toNat : Int) - 48)) : badPair q (ipair (n, d)) = false := by
  unfold badPair ipair
  rw [decide_eq_false (by simp only; omega), decide_eq_false (by simp only; omega), decide_eq_false (by simp only; omega), decide_eq_false (by simp only; omega), decide_eq_false h5]
  rfl
theorem allOk_runs : ∀ (r : List (Nat × UInt8)) (q : Option Int), Good r → (∀ p ∈ r, p.1 ≤ 200 ∧ 49 ≤ p.2.toNat ∧ p.2.toNat ≤ 57) → (∀ n d r', r = (n, d) :: r' → q ≠ some ((d.toNat : Int) - 48)) → allOk q (r.map ipair) = true := by
  intro r
  induction r with
  | nil => intro q _ _ _; rfl
  | cons p r ih =>
    obtain ⟨n, d⟩ := p
    intro q hg hm hq
    have h := hm (n, d) (by simp)
    rw [List.map_cons, allOk, badPair_runs hg.1 h.1 h.2.1 h.2.2 (hq n d r rfl)]
    rw [ih _ hg.2.2 (fun p hp => hm p (by simp [hp])) (fun m e r' hr he => ?_)]
    · rfl
    · have := hg.2.1 m e r' hr
      simp only [ipair, Option.some.injEq] at he
      exact this (UInt8.toNat_inj.1 (by omega))
theorem spell_runs (r : List (Nat × UInt8)) (h : ∀ p ∈ r, 49 ≤ p.2.toNat ∧ p.2.toNat ≤ 57) : spell (r.map ipair) = unruns r := by
  induction r with
  | nil => rfl
  | cons p r ih =>
    obtain ⟨n, d⟩ := p
    have hd := h (n, d) (by simp)
    have := ih fun p hp => h p (by simp [hp])
    rw [unruns_cons, ← this]
    simp only [spell, List.map_cons, List.flatMap_cons, ipair]
    congr 1
    rw [show (48 + ((d.toNat : Int) - 48).toNat) = d.toNat by simp only at hd; omega]
    simp
theorem ofE_runs {l : List UInt8} (h : wordE l = 0) : ofE (rpairs l) = .ok l := by
  obtain ⟨h1, h2, h3⟩ := wordE_zero.1 h
  have hs : spell (rpairs l) = l := by
    rw [rpairs, spell_runs _ (fun p hp => runs_digs h2 hp), unruns_runs]
  have hl := length_runs_le l
  rw [ofE, hs, if_neg (by rw [rpairs, List.length_map]; omega), if_neg, if_neg (by omega), if_neg h3]
  rw [rpairs, allOk_runs _ none (good_runs l) (fun p hp => ⟨?_, runs_digs h2 hp⟩) (fun _ _ _ _ => by simp)]
  · simp
  · have := (runs_mem hp).2.2; omega
end Go.Proofs.Ytodchgddkgjciaa
