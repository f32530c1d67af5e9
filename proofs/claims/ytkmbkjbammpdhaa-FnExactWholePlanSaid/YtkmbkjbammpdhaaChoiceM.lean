/-
  Choices: the lists that both programs find, as plain lists; which numbers are marked.
-/
import Derived.Test.YtkmbkjbammpdhaaBase
namespace Go.Proofs.Ytkmbkjbammpdhaa

/-- All ways to go on from now by f numbers more. -/
def choi (D : List (List Int)) : Nat → List Int → List (List Int)
  | 0, now => [now]
  | f + 1, now => (D.getD now.length []).flatMap fun n => if now.contains n then [] else choi D f (now ++ [n])
/-- Those that go on with one of the first c numbers. -/
def cPart (D : List (List Int)) (f : Nat) (now : List Int) (c : Nat) : List (List Int) :=
  ((D.getD now.length []).take c).flatMap fun n => if now.contains n then [] else choi D f (now ++ [n])
theorem choi_succ (D : List (List Int)) (f : Nat) (now : List Int) : choi D (f + 1) now = cPart D f now (D.getD now.length []).length := by
  simp only [choi, cPart, List.take_length]
theorem cPart_zero (D : List (List Int)) (f : Nat) (now : List Int) : cPart D f now 0 = [] := by simp [cPart]
theorem cPart_succ (D : List (List Int)) (f : Nat) (now : List Int) (c : Nat) (h : c < (D.getD now.length []).length) :
    cPart D f now (c + 1) = cPart D f now c ++ if now.contains ((D.getD now.length []).getD c 0) then [] else choi D f (now ++ [(D.getD now.length []).getD c 0]) := by
  simp only [cPart]
  rw [List.take_add_one, List.flatMap_append]
  congr 1
  have e : (D.getD now.length [])[c]? = some ((D.getD now.length []).getD c 0) := by
    generalize D.getD now.length [] = d at h ⊢
    simp [h]
  rw [e]
  simp
theorem cPart_pre (D : List (List Int)) (f : Nat) (now : List Int) (c : Nat) : ∀ d, c + d ≤ (D.getD now.length []).length → ∃ m, cPart D f now (c + d) = cPart D f now c ++ m
  | 0, _ => ⟨[], by simp⟩
  | d + 1, h => by
    obtain ⟨m, hm⟩ := cPart_pre D f now c d (by omega)
    rw [← Nat.add_assoc, cPart_succ D f now (c + d) (by omega), hm, List.append_assoc]
    exact ⟨_, rfl⟩
theorem flatMap_le {α β : Type} (l : List α) (F : α → List β) (M : Nat) (h : ∀ a ∈ l, (F a).length ≤ M) : (l.flatMap F).length ≤ l.length * M := by
  induction l with
  | nil => simp
  | cons a l ih =>
    rw [List.flatMap_cons, List.length_append, List.length_cons, Nat.succ_mul]
    have h1 := h a (by simp)
    have h2 := ih fun b hb => h b (by simp [hb])
    omega
theorem choi_len (D : List (List Int)) (hD : ∀ d ∈ D, d.length ≤ 8) : ∀ (f : Nat) (now : List Int), (choi D f now).length ≤ 8 ^ f
  | 0, now => by simp [choi]
  | f + 1, now => by
    have hl : (D.getD now.length []).length ≤ 8 := by
      by_cases h : now.length < D.length
      · have : D.getD now.length [] = D[now.length] := by simp [h]
        rw [this]; exact hD _ (List.getElem_mem h)
      · simp [List.getElem?_eq_none (by omega : D.length ≤ now.length)]
    have := flatMap_le (D.getD now.length []) (fun n => if now.contains n then [] else choi D f (now ++ [n])) (8 ^ f) (fun n _ => by
      split
      · simp
      · exact choi_len D hD f _)
    simp only [choi]
    refine Nat.le_trans this ?_
    rw [Nat.pow_succ, Nat.mul_comm]
    exact Nat.mul_le_mul_left _ hl
theorem choi_mem (D : List (List Int)) : ∀ (f : Nat) (now s : List Int), s ∈ choi D f now → s.length = now.length + f
  | 0, now, s, h => by simp [choi] at h; subst h; rfl
  | f + 1, now, s, h => by
    simp only [choi, List.mem_flatMap] at h
    obtain ⟨n, _, h⟩ := h
    split at h
    · simp at h
    · have := choi_mem D f _ s h
      simp at this
      omega

end Go.Proofs.Ytkmbkjbammpdhaa
