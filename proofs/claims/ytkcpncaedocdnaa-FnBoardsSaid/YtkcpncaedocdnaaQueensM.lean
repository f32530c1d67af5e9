/-
  Queens: the lists that both programs find, as plain lists.
-/
import Derived.Test.YtkcpncaedocdnaaBase
namespace Go.Proofs.Ytkcpncaedocdnaa

/-- Is column c struck by one of the first k queens of now? -/
def qBad (now : List Int) (c : Int) : Nat → Bool
  | 0 => false
  | k + 1 => qBad now c k || (now.getD k 0 == c || now.getD k 0 == c - ((now.length : Int) - k) || now.getD k 0 == c + ((now.length : Int) - k))

theorem qBad_step {now : List Int} {j : Nat} {x : Int} (h : x = now.getD j 0) (c : Int) : qBad now c (j + 1) = (qBad now c j || (x == c || x == c - ((now.length : Int) - j) || x == c + ((now.length : Int) - j))) := by
  subst h; rfl

/-- All ways to go on from now by f queens more. -/
def qSols (n : Nat) : Nat → List Int → List (List Int)
  | 0, now => [now]
  | f + 1, now => (List.range n).flatMap fun (c : Nat) => if qBad now c now.length then [] else qSols n f (now ++ [(c : Int)])

/-- Those that begin with one of the first c columns. -/
def qPart (n f : Nat) (now : List Int) (c : Nat) : List (List Int) :=
  (List.range c).flatMap fun (c : Nat) => if qBad now c now.length then [] else qSols n f (now ++ [(c : Int)])

theorem qSols_succ (n f : Nat) (now : List Int) : qSols n (f + 1) now = qPart n f now n := rfl
theorem qPart_succ (n f : Nat) (now : List Int) (c : Nat) : qPart n f now (c + 1) = qPart n f now c ++ if qBad now c now.length then [] else qSols n f (now ++ [(c : Int)]) := by
  simp [qPart, List.range_succ]

theorem qPart_mono (n f : Nat) (now : List Int) {c d : Nat} (h : c ≤ d) : (qPart n f now c).length ≤ (qPart n f now d).length := by
  induction h with
  | refl => exact Nat.le_refl _
  | step h ih => rw [qPart_succ, List.length_append]; omega

theorem qPart_len (n f : Nat) (now : List Int) (M : Nat) (hM : ∀ c : Nat, (qSols n f (now ++ [(c : Int)])).length ≤ M) (c : Nat) : (qPart n f now c).length ≤ c * M := by
  induction c with
  | zero => simp [qPart]
  | succ c ih =>
    rw [qPart_succ, Nat.succ_mul, List.length_append]
    have := hM c
    split
    · simp; omega
    · omega

theorem qSols_len (n : Nat) : ∀ (f : Nat) (now : List Int), (qSols n f now).length ≤ n ^ f
  | 0, now => by simp [qSols]
  | f + 1, now => by
    rw [qSols_succ, Nat.pow_succ, Nat.mul_comm]
    exact qPart_len n f now _ (fun c => qSols_len n f _) n

theorem qPart_small (n f : Nat) (now : List Int) (hn : n ≤ 8) (hf : f ≤ 7) (c : Nat) (hc : c ≤ n) : (qPart n f now c).length ≤ 16777216 := by
  have h1 := qPart_len n f now _ (fun c => qSols_len n f _) c
  have h2 : n ^ f ≤ 8 ^ 7 := Nat.le_trans (Nat.pow_le_pow_left hn f) (Nat.pow_le_pow_right (by decide) hf)
  have h3 : c * n ^ f ≤ 8 * 8 ^ 7 := Nat.mul_le_mul (by omega) h2
  have : 8 * 8 ^ 7 = 16777216 := by decide
  omega

/-- What is found is as long as the board. -/
theorem qSols_mem (n : Nat) : ∀ (f : Nat) (now : List Int), ∀ s ∈ qSols n f now, s.length = now.length + f
  | 0, now, s, h => by simp [qSols] at h; subst h; rfl
  | f + 1, now, s, h => by
    simp only [qSols, List.mem_flatMap] at h
    obtain ⟨c, _, h⟩ := h
    split at h
    · simp at h
    · have := qSols_mem n f _ s h
      simp at this; omega

end Go.Proofs.Ytkcpncaedocdnaa
