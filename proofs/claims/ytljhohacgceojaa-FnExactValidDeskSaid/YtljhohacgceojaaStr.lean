/-
  Strings that are equal or not, in the walk's own words.
-/
import Derived.Test.YtljhohacgceojaaLawInts
namespace Go.Proofs.Ytljhohacgceojaa
open Go.RowKit

theorem str_ext {s t : ByteArray} (h : s.toList = t.toList) : s = t := by
  rw [ByteArray.toList_eq, ByteArray.toList_eq] at h
  exact ByteArray.ext (Array.ext' h)
theorem str_ne {s t : ByteArray} (h : s ≠ t) : (s.toList == t.toList) = false := by
  cases hb : s.toList == t.toList
  · rfl
  · exact absurd (str_ext (eq_of_beq hb)) h

@[go_sem] theorem binOp_string_neq_true (t : TypeId) (a b : ByteArray) (h : (a.toList == b.toList) = false) : binOp .neq t (.string a) (.string b) = pure (.bool true) := by
  rw [binOp_string_neq, h]; rfl
@[go_sem] theorem binOp_string_neq_same (t : TypeId) (a : ByteArray) : binOp .neq t (.string a) (.string a) = pure (.bool false) := by
  rw [binOp_string_neq]; simp
@[go_sem] theorem binOp_string_eql_false (t : TypeId) (a b : ByteArray) (h : (a.toList == b.toList) = false) : binOp .eql t (.string a) (.string b) = pure (.bool false) := by
  rw [binOp_string_eql, h]
@[go_sem] theorem binOp_string_eql_same (t : TypeId) (a : ByteArray) : binOp .eql t (.string a) (.string a) = pure (.bool true) := by
  rw [binOp_string_eql]; simp

def allB (m : Nat) (p : Nat → Bool) : Bool := (List.range m).all p
theorem allB_true {m : Nat} {p : Nat → Bool} (h : ∀ i, i < m → p i = true) : allB m p = true := by
  unfold allB; rw [List.all_eq_true]; intro i hi; exact h i (List.mem_range.1 hi)
theorem allB_false {m : Nat} {p : Nat → Bool} {i : Nat} (hi : i < m) (h : p i = false) : allB m p = false := by
  unfold allB
  cases hb : (List.range m).all p
  · rfl
  · rw [List.all_eq_true] at hb
    have := hb i (List.mem_range.2 hi)
    rw [h] at this; cases this
theorem allB_iff {m : Nat} {p : Nat → Bool} : allB m p = true ↔ ∀ i, i < m → p i = true := by
  unfold allB; rw [List.all_eq_true]
  exact ⟨fun h i hi => h i (List.mem_range.2 hi), fun h i hi => h i (List.mem_range.1 hi)⟩

theorem inB_iff {lo hi n : Int} : inB lo hi n = true ↔ lo ≤ n ∧ n ≤ hi := by unfold inB; simp
theorem bool_false {b : Bool} (h : ¬ b = true) : b = false := by cases b <;> simp_all

end Go.Proofs.Ytljhohacgceojaa
