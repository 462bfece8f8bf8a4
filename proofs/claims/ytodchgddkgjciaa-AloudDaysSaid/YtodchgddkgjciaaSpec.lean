/- What the functions on words compute, as plain functions on lists of bytes, and the laws of reading aloud. No program in sight, no condition. -/
namespace Go.Proofs.Ytodchgddkgjciaa
/-- A list of bytes as a string's bytes. -/
def bs (l : List UInt8) : ByteArray := ⟨l.toArray⟩
/-- The bytes of a string. -/
def ls (s : ByteArray) : List UInt8 := s.data.toList
theorem ls_bs (l : List UInt8) : ls (bs l) = l := by simp [ls, bs]
theorem bs_ls (s : ByteArray) : bs (ls s) = s := by
  rcases s with ⟨⟨l⟩⟩
  rfl
theorem size_bs (l : List UInt8) : (bs l).size = l.length := by
  show l.toArray.size = _
  simp
theorem length_ls (s : ByteArray) : (ls s).length = s.size := by
  show s.data.toList.length = s.data.size
  simp
theorem get_ls (s : ByteArray) (i : Nat) (h : i < s.size) : (ls s)[i]'(by rw [length_ls]; exact h) = s[i] := rfl
theorem bs_inj {a b : List UInt8} (h : bs a = bs b) : a = b := by rw [← ls_bs a, h, ls_bs]
theorem ls_inj {a b : ByteArray} (h : ls a = ls b) : a = b := by rw [← bs_ls a, h, bs_ls]

def isDig (c : UInt8) : Bool := decide (49 ≤ c.toNat) && decide (c.toNat ≤ 57)
/-- Digits only. -/
def Digs (l : List UInt8) : Prop := ∀ c ∈ l, 49 ≤ c.toNat ∧ c.toNat ≤ 57
theorem isDig_iff {c : UInt8} : isDig c = true ↔ 49 ≤ c.toNat ∧ c.toNat ≤ 57 := by simp [isDig]
theorem all_dig {l : List UInt8} : l.all isDig = true ↔ Digs l := by simp [Digs, isDig_iff]
theorem Digs.nil : Digs [] := by intro c h; cases h
theorem Digs.cons {c : UInt8} {l : List UInt8} : Digs (c :: l) ↔ (49 ≤ c.toNat ∧ c.toNat ≤ 57) ∧ Digs l := by simp [Digs]
theorem Digs.append {a b : List UInt8} : Digs (a ++ b) ↔ Digs a ∧ Digs b := by
  simp only [Digs, List.mem_append]
  exact ⟨fun h => ⟨fun c hc => h c (.inl hc), fun c hc => h c (.inr hc)⟩, fun h c hc => hc.elim (h.1 c) (h.2 c)⟩
/-- The error of a word. -/
def wordE (l : List UInt8) : Int := if l.length > 200 then 3 else if l.all isDig && !l.isEmpty then 0 else 5
theorem wordE_zero {l : List UInt8} : wordE l = 0 ↔ l.length ≤ 200 ∧ Digs l ∧ l ≠ [] := by
  unfold wordE
  by_cases h : l.length > 200
  · simp [h]; omega
  · simp only [h, if_false]
    by_cases h2 : (l.all isDig && !l.isEmpty) = true
    · simp only [h2, if_true, true_iff]
      simp only [Bool.and_eq_true, all_dig] at h2
      exact ⟨by omega, h2.1, by simpa using h2.2⟩
    · rw [if_neg h2]
      simp only [Bool.and_eq_true, all_dig, not_and] at h2
      constructor
      · intro h3; simp at h3
      · rintro ⟨_, h4, h5⟩
        exact absurd (by simpa using h5) (h2 h4)
/-- The first error of some words. -/
def readE : List (List UInt8) → Int
  | [] => 0
  | w :: ws => if wordE w = 0 then readE ws else wordE w

/-- The runs of a word: how many, and which digit. -/
def runs : List UInt8 → List (Nat × UInt8)
  | [] => []
  | c :: l => match runs l with
    | [] => [(1, c)]
    | (n, d) :: r => if c = d then (n + 1, d) :: r else (1, c) :: (n, d) :: r
/-- What is said of a word: none where a run has more than nine digits. -/
def saidOf (rs : List (Nat × UInt8)) : List UInt8 := rs.flatMap fun p => [UInt8.ofNat (48 + p.1), p.2]
def say (l : List UInt8) : Option (List UInt8) := if (runs l).all (fun p => decide (p.1 ≤ 9)) then some (saidOf (runs l)) else none
/-- One day: the word, or the error. -/
def dayE (l : List UInt8) : Except Int (List UInt8) := match say l with
  | none => .error 4
  | some s => if s.length > 100000 then .error 8 else .ok s
/-- Many days. -/
def days : Nat → List UInt8 → Except Int (List UInt8)
  | 0, l => .ok l
  | n + 1, l => match dayE l with
    | .error e => .error e
    | .ok s => days n s
/-- The word of which one is said, where the last digit was 'last'. -/
def beforeA (last : UInt8) : List UInt8 → Option (List UInt8)
  | [] => some []
  | [_] => none
  | a :: b :: l => if b = last then none else (beforeA b l).map (List.replicate (a.toNat - 48) b ++ ·)
def before (l : List UInt8) : Option (List UInt8) := beforeA 0 l
/-- How often 'before' can be used. -/
inductive Ages : List UInt8 → Nat → Prop
  | zero {l : List UInt8} : before l = none → Ages l 0
  | succ {l l' : List UInt8} {n : Nat} : before l = some l' → Ages l' n → Ages l (n + 1)
theorem Ages.det {l : List UInt8} {n m : Nat} (h : Ages l n) (k : Ages l m) : n = m := by
  induction h generalizing m with
  | zero h => cases k with
    | zero _ => rfl
    | succ h' _ => rw [h] at h'; cases h'
  | succ h _ ih => cases k with
    | zero h' => rw [h] at h'; cases h'
    | succ h' k' => rw [h] at h'; cases h'; rw [ih k']

/-- Say, Before, Days: the word, or the error. -/
def sayE (l : List UInt8) : Except Int (List UInt8) := if wordE l ≠ 0 then .error (wordE l) else match say l with
  | none => .error 4
  | some s => .ok s
def beforeE (l : List UInt8) : Except Int (List UInt8) := if wordE l ≠ 0 then .error (wordE l) else match before l with
  | none => .error 10
  | some s => .ok s
def askedE (many : Int) (ws : List (List UInt8)) : Int := if readE ws = 0 ∧ (many < 0 ∨ 40 < many) then 2 else readE ws
def daysE (many : Int) (l : List UInt8) : Except Int (List UInt8) := if askedE many [l] ≠ 0 then .error (askedE many [l]) else days many.toNat l
/-- Do two words stay apart, once they are said n times more? -/
def apartL : Nat → List UInt8 → List UInt8 → List UInt8 → Bool
  | 0, _, _, _ => true
  | n + 1, l, r, b => if (say b).getD [] = (say l).getD [] ++ (say r).getD [] then apartL n ((say l).getD []) ((say r).getD []) ((say b).getD []) else false
def apartE (l r : List UInt8) (many : Int) : Except Int Bool :=
  if askedE many [l, r] ≠ 0 then .error (askedE many [l, r]) else if l.length + r.length > 200 then .error 3 else
  match days many.toNat l, days many.toNat r, days many.toNat (l ++ r) with
  | .error e, _, _ => .error e
  | .ok _, .error e, _ => .error e
  | .ok _, .ok _, .error e => .error e
  | .ok _, .ok _, .ok _ => .ok (apartL many.toNat l r (l ++ r))
def errOf {α : Type} : Except Int α → Int
  | .error e => e
  | .ok _ => 0
def wordOf : Except Int (List UInt8) → List UInt8
  | .error _ => []
  | .ok l => l
def boolOf : Except Int Bool → Bool
  | .error _ => false
  | .ok b => b

/-! ### runs -/
theorem runs_ne {l : List UInt8} (h : l ≠ []) : runs l ≠ [] := by
  cases l with
  | nil => exact absurd rfl h
  | cons c l =>
    simp only [runs]
    split
    · simp
    · split <;> simp
theorem runs_head {c : UInt8} {l : List UInt8} : ∃ n r, runs (c :: l) = (n, c) :: r ∧ 1 ≤ n := by
  simp only [runs]
  split
  · exact ⟨1, [], rfl, Nat.le_refl _⟩
  · rename_i n d r _
    by_cases h : c = d
    · subst h
      exact ⟨n + 1, r, by simp, by omega⟩
    · exact ⟨1, (n, d) :: r, by simp [h], Nat.le_refl _⟩
theorem runs_cons_same {c : UInt8} {l : List UInt8} {n : Nat} {r : List (Nat × UInt8)} (h : runs l = (n, c) :: r) : runs (c :: l) = (n + 1, c) :: r := by
  simp [runs, h]
theorem runs_cons_other {c : UInt8} {l : List UInt8} (h : ∀ n r, runs l ≠ (n, c) :: r) : runs (c :: l) = (1, c) :: runs l := by
  simp only [runs]
  split
  · rename_i e; rw [e]
  · rename_i n d r e
    by_cases hcd : c = d
    · subst hcd; exact absurd e (h n r)
    · rw [if_neg hcd, e]
/-- A block of one digit in front of another one. -/
theorem runs_replicate {c : UInt8} {l : List UInt8} (k : Nat) (hl : l.head? ≠ some c) : runs (List.replicate (k + 1) c ++ l) = (k + 1, c) :: runs l := by
  induction k with
  | zero =>
    refine runs_cons_other fun n r h => ?_
    cases l with
    | nil => simp [runs] at h
    | cons d l =>
      obtain ⟨n', r', h', _⟩ := runs_head (c := d) (l := l)
      replace h : runs (d :: l) = (n, c) :: r := h
      rw [h'] at h
      simp at h
      exact hl (by simp [h.1.2])
  | succ k ih => exact runs_cons_same ih
/-- The word is its runs written out. -/
def unruns (rs : List (Nat × UInt8)) : List UInt8 := rs.flatMap fun p => List.replicate p.1 p.2
theorem unruns_runs (l : List UInt8) : unruns (runs l) = l := by
  induction l with
  | nil => rfl
  | cons c l ih =>
    simp only [runs]
    split
    · rename_i e
      rw [e] at ih
      simp [unruns] at ih ⊢
      exact ih
    · rename_i n d r e
      rw [e] at ih
      by_cases h : c = d
      · subst h
        simp only [if_true]
        rw [← ih]
        simp [unruns, List.replicate_succ]
      · simp only [h, if_false]
        rw [← ih]
        simp [unruns]
/-- Neighbouring runs have other digits, and none is empty. -/
def Good : List (Nat × UInt8) → Prop
  | [] => True
  | (n, d) :: r => 1 ≤ n ∧ (∀ m e r', r = (m, e) :: r' → d ≠ e) ∧ Good r
theorem good_runs (l : List UInt8) : Good (runs l) := by
  induction l with
  | nil => trivial
  | cons c l ih =>
    simp only [runs]
    split
    · exact ⟨Nat.le_refl _, (by intro m e r' h; cases h), trivial⟩
    · rename_i n d r e
      rw [e] at ih
      by_cases h : c = d
      · subst h
        simp only [if_true]
        exact ⟨by omega, ih.2⟩
      · simp only [h, if_false]
        exact ⟨Nat.le_refl _, (by intro m e' r' he; simp at he; rw [← he.1.2]; exact h), ih⟩
theorem runs_unruns {rs : List (Nat × UInt8)} (h : Good rs) : runs (unruns rs) = rs := by
  induction rs with
  | nil => rfl
  | cons p r ih =>
    obtain ⟨n, d⟩ := p
    obtain ⟨hn, hne, hr⟩ := h
    obtain ⟨k, rfl⟩ : ∃ k, n = k + 1 := ⟨n - 1, by omega⟩
    have e : unruns ((k + 1, d) :: r) = List.replicate (k + 1) d ++ unruns r := by simp [unruns]
    rw [e, runs_replicate k, ih hr]
    cases r with
    | nil => simp [unruns]
    | cons p' r' =>
      obtain ⟨m, d'⟩ := p'
      obtain ⟨hm, _, _⟩ := hr
      obtain ⟨j, rfl⟩ : ∃ j, m = j + 1 := ⟨m - 1, by omega⟩
      have := hne (j + 1) d' r' rfl
      simp [unruns, List.replicate_succ]
      exact fun h => this h.symm
/-- The number of a word's digits. -/
theorem length_runs_le (l : List UInt8) : (runs l).length ≤ l.length := by
  induction l with
  | nil => simp [runs]
  | cons c l ih =>
    simp only [runs]
    split
    · simp
    · rename_i n d r e
      rw [e] at ih
      by_cases h : c = d <;> simp [h] at ih ⊢ <;> omega
theorem runs_mem {l : List UInt8} {p : Nat × UInt8} (h : p ∈ runs l) : p.2 ∈ l ∧ 1 ≤ p.1 ∧ p.1 ≤ l.length := by
  induction l generalizing p with
  | nil => cases h
  | cons c l ih =>
    simp only [runs] at h
    split at h
    · simp at h; subst h; simp
    · rename_i n d r e
      rw [e] at ih
      by_cases hcd : c = d
      · subst hcd
        simp only [if_true, List.mem_cons] at h
        rcases h with rfl | h
        · have := ih (p := (n, c)) (by simp)
          simp; omega
        · have := ih (p := p) (by simp [h])
          simp; refine ⟨.inr this.1, ?_, ?_⟩ <;> omega
      · simp only [hcd, if_false, List.mem_cons] at h
        rcases h with rfl | h
        · simp
        · have := ih (p := p) (by simpa using h)
          simp; refine ⟨.inr this.1, ?_, ?_⟩ <;> omega
end Go.Proofs.Ytodchgddkgjciaa
