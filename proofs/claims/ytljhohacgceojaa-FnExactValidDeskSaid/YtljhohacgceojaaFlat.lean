/-
  Rows of several cells each, one behind another: their cells by number, and one of them written anew.
-/
import Derived.Test.YtljhohacgceojaaLawInts
namespace Go.Proofs.Ytljhohacgceojaa
open Go.RowKit

theorem flat_len {α : Type} (f : α → List Value) (c : Nat) (hf : ∀ a, (f a).length = c) : ∀ (l : List α), (l.flatMap f).length = l.length * c
  | [] => by simp
  | a :: r => by
    have ih := flat_len f c hf r
    simp only [List.flatMap_cons, List.length_append, List.length_cons, hf a, ih]
    rw [Nat.add_mul]; omega

theorem flat_at {α : Type} (f : α → List Value) (c : Nat) (hf : ∀ a, (f a).length = c) : ∀ (l : List α) (i d : Nat) (a : α), l[i]? = some a → d < c → (l.flatMap f)[i * c + d]? = (f a)[d]?
  | [], i, d, a, h, _ => by simp at h
  | b :: r, 0, d, a, h, hd => by
    simp only [List.getElem?_cons_zero, Option.some.injEq] at h
    subst h
    simp only [List.flatMap_cons, Nat.zero_mul, Nat.zero_add]
    rw [List.getElem?_append_left (by rw [hf b]; exact hd)]
  | b :: r, i + 1, d, a, h, hd => by
    have ih := flat_at f c hf r i d a (by simpa using h) hd
    simp only [List.flatMap_cons]
    rw [List.getElem?_append_right (by rw [hf b, Nat.add_mul]; omega), ← ih]
    congr 1
    rw [hf b, Nat.add_mul]; omega

/-- Cells written one behind another. -/
def putAt : List Value → Nat → List Value → List Value
  | L, _, [] => L
  | L, b, u :: us => putAt (L.set b u) (b + 1) us

theorem putAt_append : ∀ (us A B : List Value) (b : Nat), A.length ≤ b → putAt (A ++ B) b us = A ++ putAt B (b - A.length) us
  | [], A, B, b, _ => rfl
  | u :: us, A, B, b, h => by
    simp only [putAt]
    rw [List.set_append_right _ _ h, putAt_append us A _ (b + 1) (by omega), show b + 1 - A.length = b - A.length + 1 by omega]
theorem putAt_whole : ∀ (us A B : List Value), A.length = us.length → putAt (A ++ B) 0 us = us ++ B
  | [], A, B, h => by
    have : A = [] := List.length_eq_zero_iff.1 (by simpa using h)
    subst this; rfl
  | u :: us, [], B, h => by simp at h
  | u :: us, x :: A, B, h => by
    simp only [putAt, List.cons_append, List.set_cons_zero]
    have := putAt_append us [u] (A ++ B) 1 (by simp)
    simp only [List.cons_append, List.nil_append, List.length_cons, List.length_nil] at this
    rw [this]
    simp only [Nat.sub_self]
    rw [putAt_whole us A B (by simpa using h)]

theorem flat_put {α : Type} (f : α → List Value) (c : Nat) (hf : ∀ a, (f a).length = c) : ∀ (l : List α) (i : Nat) (a : α), i < l.length → putAt (l.flatMap f) (i * c) (f a) = (l.set i a).flatMap f
  | [], i, a, h => by simp at h
  | b :: r, 0, a, _ => by
    simp only [List.flatMap_cons, Nat.zero_mul, List.set_cons_zero]
    exact putAt_whole _ _ _ (by rw [hf, hf])
  | b :: r, i + 1, a, h => by
    have ih := flat_put f c hf r i a (by simpa using h)
    simp only [List.flatMap_cons, List.set_cons_succ]
    rw [putAt_append _ _ _ _ (by rw [hf, Nat.add_mul]; omega), ← ih]
    congr 2
    rw [hf, Nat.add_mul]; omega

theorem made_rows (zs : List Value) (n : Nat) (h : zs ≠ []) : (madeCells zs.toArray (n * zs.length)).toList = (List.replicate n zs).flatten := by
  have hp : 0 < zs.length := List.length_pos_iff.2 h
  induction n with
  | zero => simp [madeCells]
  | succ n ih =>
    rw [List.replicate_succ, List.flatten_cons, ← ih]
    apply List.ext_getElem?
    intro j
    by_cases hj : j < zs.length
    · have hj2 : j < (n + 1) * zs.length := by rw [Nat.add_mul]; omega
      rw [List.getElem?_append_left hj]
      simp [madeCells, hj2, Nat.mod_eq_of_lt hj, hj]
    · rw [List.getElem?_append_right (by omega)]
      by_cases hj2 : j < (n + 1) * zs.length
      · have hj3 : j - zs.length < n * zs.length := by rw [Nat.add_mul] at hj2; omega
        have hm : (j - zs.length) % zs.length = j % zs.length := by
          rw [Nat.mod_eq_sub_mod (a := j) (by omega)]
        simp [madeCells, hj2, hj3, hm]
      · have hj3 : ¬ j - zs.length < n * zs.length := by rw [Nat.add_mul] at hj2; omega
        simp [madeCells, hj2, hj3]

theorem flat_made {α : Type} (f : α → List Value) (z : α) (n : Nat) (h : f z ≠ []) : (madeCells (f z).toArray (n * (f z).length)).toList = (List.replicate n z).flatMap f := by
  rw [made_rows _ _ h, List.flatMap_def, List.map_replicate]

end Go.Proofs.Ytljhohacgceojaa
