/-
  Names, clauses, forms and cases that are valid: in plain Lean.
-/
import Derived.Test.YtljhohacgceojaaCaseL
import Derived.Test.YtljhohacgceojaaStr
namespace Go.Proofs.Ytljhohacgceojaa
open Go.RowKit

def allB (m : Nat) (p : Nat → Bool) : Bool := (List.range m).all p
theorem allB_true {m : Nat} {p : Nat → Bool} (h : ∀ i, i < m → p i = true) : allB m p = true := by
  unfold allB; rw [List.all_eq_true]; intro i hi; exact h i (List.mem_range.1 hi)
theorem allB_false {m : Nat} {p : Nat → Bool} {i : Nat} (hi : i < m) (h : p i = false) : allB m p = false := by
  unfold allB
  cases hb : (List.range m).all p
  · rfl
  · rw [List.all_eq_true] at hb
    have := hb i (List.mem_range.2 hi)
    rw [h] at this; cases this
theorem allB_iff {m : Nat} {p : Nat → Bool} : allB m p = true ↔ ∀ i, i < m → p i = true := by
  unfold allB; rw [List.all_eq_true]
  exact ⟨fun h i hi => h i (List.mem_range.2 hi), fun h i hi => h i (List.mem_range.1 hi)⟩

/-- The byte is a small letter. -/
def smallB (c : UInt8) : Bool := decide (97 ≤ c.toNat) && decide (c.toNat ≤ 122)
def nameB (s : ByteArray) : Bool := inB 1 8 s.size && allB s.size fun i => smallB (s.data.toList.getD i 0)

def litB (n x : Int) : Bool := decide (x ≠ 0) && inB (-n) n x
def okAt (n : Int) (xs : List Int) (i : Nat) : Bool := litB n (xs.getD i 0) && (decide (i = 0) || decide ((xs.getD (i - 1) 0).natAbs < (xs.getD i 0).natAbs))
def clauseB (n : Int) (xs : List Int) : Bool := inB 1 10 n && allB xs.length (okAt n xs)
/-- What the reference looks for first: literals of different letters. -/
def litAt (n : Int) (xs : List Int) (i : Nat) : Bool := litB n (xs.getD i 0) && allB i fun j => decide ((xs.getD j 0).natAbs ≠ (xs.getD i 0).natAbs)
def litsB (n : Int) (xs : List Int) : Bool := allB xs.length (litAt n xs)
def downAt (xs : List Int) (i : Nat) : Bool := decide (i = 0) || decide ((xs.getD (i - 1) 0).natAbs ≤ (xs.getD i 0).natAbs)

theorem clause_eq (n : Int) (xs : List Int) : (litsB n xs && allB xs.length (downAt xs)) = allB xs.length (okAt n xs) := by
  rw [Bool.eq_iff_iff, Bool.and_eq_true]
  unfold litsB
  rw [allB_iff, allB_iff, allB_iff]
  constructor
  · rintro ⟨h1, h2⟩ i hi
    have a := h1 i hi
    have b := h2 i hi
    unfold litAt at a
    unfold downAt at b
    unfold okAt
    rw [Bool.and_eq_true, allB_iff] at a
    rw [Bool.and_eq_true]
    refine ⟨a.1, ?_⟩
    rcases Nat.eq_zero_or_pos i with rfl | h0
    · simp
    · have c := a.2 (i - 1) (by omega)
      have hz : ¬ i = 0 := by omega
      simp only [hz, decide_false, Bool.false_or, decide_eq_true_eq] at b c ⊢
      omega
  · intro h
    have mono : ∀ d i, i < xs.length → d ≤ i → d ≠ 0 → (xs.getD (i - d) 0).natAbs < (xs.getD i 0).natAbs := by
      intro d
      induction d with
      | zero => intro i _ _ h; exact absurd rfl h
      | succ d ih =>
        intro i hi hd _
        have a := h (i - d) (by omega)
        unfold okAt at a
        rw [Bool.and_eq_true] at a
        have hz : ¬ i - d = 0 := by omega
        have a2 := a.2
        simp only [hz, decide_false, Bool.false_or, decide_eq_true_eq] at a2
        rw [show i - d - 1 = i - (d + 1) by omega] at a2
        by_cases h0 : d = 0
        · subst h0; exact a2
        · exact Nat.lt_trans a2 (ih i hi (by omega) h0)
    refine ⟨fun i hi => ?_, fun i hi => ?_⟩
    · unfold litAt
      rw [Bool.and_eq_true, allB_iff]
      have a := h i hi
      unfold okAt at a
      rw [Bool.and_eq_true] at a
      refine ⟨a.1, fun j hj => ?_⟩
      have := mono (i - j) i hi (by omega) (by omega)
      rw [show i - (i - j) = j by omega] at this
      simp only [decide_eq_true_eq]
      omega
    · unfold downAt
      rcases Nat.eq_zero_or_pos i with rfl | h0
      · simp
      · have := mono 1 i hi (by omega) (by omega)
        rw [Bool.or_eq_true, decide_eq_true_eq, decide_eq_true_eq]
        right; omega

def formB (f : FormD) : Bool := (inB 1 10 f.letters && decide (f.clauses.length ≤ 48)) && allB f.clauses.length fun i => clauseB f.letters (f.clauses.getD i [])
def caseB (c : CaseD) : Bool := (nameB c.name && (formB c.form && decide (c.proof.length ≤ 128))) && allB c.proof.length fun i => clauseB c.form.letters (c.proof.getD i [])

theorem litB_bd {n x : Int} (hn : inB 1 10 n = true) (h : litB n x = true) : -10 ≤ x ∧ x ≤ 10 ∧ x ≠ 0 := by
  unfold litB inB at h
  unfold inB at hn
  simp only [Bool.and_eq_true, decide_eq_true_eq] at h hn
  omega
theorem inB_iff {lo hi n : Int} : inB lo hi n = true ↔ lo ≤ n ∧ n ≤ hi := by unfold inB; simp
theorem bool_false {b : Bool} (h : ¬ b = true) : b = false := by cases b <;> simp_all

end Go.Proofs.Ytljhohacgceojaa
