/-
  Whole plans, in plain Lean: lists of integers in order, by the program's recursion and by the reference's counting up.
-/
import Derived.Test.YtkmbkjbammpdhaaLeftI
import Derived.Test.YtkmbkjbammpdhaaFlat
namespace Go.Proofs.Ytkmbkjbammpdhaa
open Go.RowKit

def fI (n : Int) : Nat := floatOfInt .f32 n
def geB (x : Nat) : Bool := !(FloatKind.f32.format.order x 0 == some .lt)
/-- The integers keep all rows. -/
noncomputable def wholeB (r : RowsD) (x : List Int) : Bool := leftOk r (x.map fI) && (leftR r (x.map fI)).all geB
theorem order_negz (x : Nat) : FloatKind.f32.format.order x 2147483648 = FloatKind.f32.format.order x 0 := by
  have h1 : FloatKind.f32.format.read 2147483648 = .number true 0 (-149) := by decide +kernel
  have h2 : FloatKind.f32.format.read 0 = .number false 0 (-149) := by decide +kernel
  unfold Ieee.Format.order
  rw [h1, h2]
  cases FloatKind.f32.format.read x with
  | nan a b => simp [Ieee.Datum.order]
  | infinity s => cases s <;> simp [Ieee.Datum.order]
  | number s m e => simp [Ieee.Datum.order, Ieee.signed]

/-- The lists of f integers that begin with some, as the program tells them. -/
noncomputable def wSols (r : RowsD) (top : Nat) : Nat → List Int → List (List Int)
  | 0, now => if wholeB r now = true then [now] else []
  | f + 1, now => (List.range (top + 1)).flatMap fun (k : Nat) => wSols r top f (now ++ [(k : Int)])
noncomputable def wPart (r : RowsD) (top f : Nat) (now : List Int) (k : Nat) : List (List Int) := (List.range k).flatMap fun (k : Nat) => wSols r top f (now ++ [(k : Int)])
theorem wPart_succ (r : RowsD) (top f : Nat) (now : List Int) (k : Nat) : wPart r top f now (k + 1) = wPart r top f now k ++ wSols r top f (now ++ [(k : Int)]) := by
  unfold wPart; rw [List.range_succ, List.flatMap_append]; simp
theorem wSols_succ (r : RowsD) (top f : Nat) (now : List Int) : wSols r top (f + 1) now = wPart r top f now (top + 1) := rfl
theorem wSols_len (r : RowsD) (top : Nat) : ∀ (f : Nat) (now : List Int), (wSols r top f now).length ≤ (top + 1) ^ f
  | 0, now => by unfold wSols; split <;> simp
  | f + 1, now => by
    rw [wSols_succ]
    have : ∀ k, (wPart r top f now k).length ≤ k * (top + 1) ^ f := by
      intro k
      induction k with
      | zero => simp [wPart]
      | succ k ih =>
        rw [wPart_succ, List.length_append, Nat.add_mul, Nat.one_mul]
        have := wSols_len r top f (now ++ [(k : Int)])
        omega
    have h := this (top + 1)
    rw [Nat.pow_succ, Nat.mul_comm]
    exact h
theorem wPart_len (r : RowsD) (top f : Nat) (now : List Int) (k : Nat) : (wPart r top f now k).length ≤ k * (top + 1) ^ f := by
  induction k with
  | zero => simp [wPart]
  | succ k ih =>
    rw [wPart_succ, List.length_append, Nat.add_mul, Nat.one_mul]
    have := wSols_len r top f (now ++ [(k : Int)])
    omega

/-- The digits of a number, the greatest first. -/
def digB (B : Nat) : Nat → Nat → List Int
  | 0, _ => []
  | n + 1, N => ((N / B ^ n : Nat) : Int) :: digB B n (N % B ^ n)
theorem digB_len (B : Nat) : ∀ (n N : Nat), (digB B n N).length = n
  | 0, _ => rfl
  | n + 1, N => by simp only [digB, List.length_cons, digB_len B n]
theorem range_mul (a b : Nat) : List.range (a * b) = (List.range a).flatMap fun k => (List.range b).map fun m => k * b + m := by
  induction a with
  | zero => simp
  | succ a ih =>
    rw [Nat.add_mul, Nat.one_mul, List.range_add, ih, List.range_succ, List.flatMap_append]
    simp
theorem flatMap_same {α β : Type} : ∀ (l : List α) (f g : α → List β), (∀ a ∈ l, f a = g a) → l.flatMap f = l.flatMap g
  | [], f, g, _ => rfl
  | a :: r, f, g, h => by
    simp only [List.flatMap_cons]
    rw [h a (by simp), flatMap_same r f g fun b hb => h b (by simp [hb])]
theorem wSols_dig (r : RowsD) (top : Nat) : ∀ (f : Nat) (now : List Int), wSols r top f now = (List.range ((top + 1) ^ f)).flatMap fun N => if wholeB r (now ++ digB (top + 1) f N) = true then [now ++ digB (top + 1) f N] else []
  | 0, now => by simp [wSols, digB]
  | f + 1, now => by
    have hp : 0 < (top + 1) ^ f := Nat.pow_pos (by omega)
    rw [wSols_succ, wPart, Nat.pow_succ, Nat.mul_comm, range_mul, List.flatMap_assoc]
    congr 1
    funext k
    rw [wSols_dig r top f, List.flatMap_map]
    apply flatMap_same
    intro m hm
    have hm' := List.mem_range.1 hm
    have e1 : (k * (top + 1) ^ f + m) / (top + 1) ^ f = k := by
      rw [Nat.mul_comm, Nat.mul_add_div hp, Nat.div_eq_of_lt hm', Nat.add_zero]
    have e2 : (k * (top + 1) ^ f + m) % (top + 1) ^ f = m := by
      rw [Nat.mul_comm, Nat.mul_add_mod, Nat.mod_eq_of_lt hm']
    simp only [digB, e1, e2, List.append_assoc, List.singleton_append]

/-- Counting up. -/
def nextL (top : Int) : List Int → Bool × List Int
  | [] => (false, [])
  | a :: r => if (nextL top r).1 = true then (true, a :: (nextL top r).2) else if a < top then (true, (a + 1) :: (nextL top r).2) else (false, 0 :: (nextL top r).2)
theorem digB_zero (B : Nat) : ∀ n, digB B n 0 = List.replicate n 0
  | 0 => rfl
  | n + 1 => by simp only [digB, Nat.zero_div, Nat.zero_mod, digB_zero B n, List.replicate_succ]; rfl
theorem next_dig (top : Nat) : ∀ (n N : Nat), N < (top + 1) ^ n → nextL top (digB (top + 1) n N) = (decide (N + 1 < (top + 1) ^ n), digB (top + 1) n ((N + 1) % (top + 1) ^ n))
  | 0, N, h => by
    have : N = 0 := by simpa using h
    subst this
    simp [nextL, digB]
  | n + 1, N, h => by
    have hp : 0 < (top + 1) ^ n := Nat.pow_pos (by omega)
    have hm : N % (top + 1) ^ n < (top + 1) ^ n := Nat.mod_lt _ hp
    have ih := next_dig top n (N % (top + 1) ^ n) hm
    have hdm := Nat.div_add_mod N ((top + 1) ^ n)
    rw [Nat.pow_succ] at h
    have hk : N / (top + 1) ^ n ≤ top := by
      have : N / (top + 1) ^ n < top + 1 := Nat.div_lt_of_lt_mul h
      omega
    simp only [digB, nextL, ih]
    rw [Nat.pow_succ]
    generalize hP : (top + 1) ^ n = P at *
    generalize hK : N / P = k at *
    generalize hM : N % P = m at *
    have hNe : N = P * k + m := hdm.symm
    have hPk : P * k ≤ P * top := Nat.mul_le_mul_left _ hk
    have hPt : P * (top + 1) = P * top + P := by rw [Nat.mul_add, Nat.mul_one]
    by_cases h1 : m + 1 < P
    · have hd : decide (m + 1 < P) = true := by simp [h1]
      rw [if_pos hd]
      have hlt : N + 1 < P * (top + 1) := by rw [hPt]; omega
      have e1 : (N + 1) / P = k := by rw [hNe, Nat.add_assoc, Nat.mul_add_div hp, Nat.div_eq_of_lt h1, Nat.add_zero]
      have e2 : (N + 1) % P = m + 1 := by rw [hNe, Nat.add_assoc, Nat.mul_add_mod, Nat.mod_eq_of_lt h1]
      rw [Nat.mod_eq_of_lt hlt, e1, e2, Nat.mod_eq_of_lt h1]
      simp [hlt]
    · have hd : ¬ decide (m + 1 < P) = true := by simpa using h1
      rw [if_neg hd]
      have hmP : m + 1 = P := by omega
      have e0 : (m + 1) % P = 0 := by rw [hmP, Nat.mod_self]
      rw [e0]
      by_cases h2 : k < top
      · rw [if_pos (by exact_mod_cast h2)]
        have hN1 : N + 1 = P * (k + 1) := by rw [Nat.mul_add, Nat.mul_one]; omega
        have hlt : N + 1 < P * (top + 1) := by rw [hN1]; exact Nat.mul_lt_mul_of_pos_left (by omega) hp
        have e1 : (N + 1) / P = k + 1 := by rw [hN1, Nat.mul_div_cancel_left _ hp]
        have e2 : (N + 1) % P = 0 := by rw [hN1, Nat.mul_mod_right]
        rw [Nat.mod_eq_of_lt hlt, e1, e2]
        simp [hlt]
      · rw [if_neg (by exact_mod_cast h2)]
        have hkt : k = top := by omega
        have hN1 : N + 1 = P * (top + 1) := by rw [hPt, hNe, hkt]; omega
        rw [hN1, Nat.mod_self]
        simp

/-- The walk of counting up: the last ones are zeros already. -/
theorem next_hit (top : Int) : ∀ (x : List Int) (i : Nat), i < x.length → nextL top (x.drop (i + 1)) = (false, List.replicate (x.length - (i + 1)) 0) → x.getD i 0 < top →
    nextL top x = (true, x.take i ++ (x.getD i 0 + 1) :: List.replicate (x.length - (i + 1)) 0)
  | [], i, h, _, _ => by simp at h
  | a :: r, 0, _, h1, h2 => by
    simp only [List.drop_succ_cons, List.drop_zero, List.length_cons] at h1
    simp only [List.getD_cons_zero] at h2
    simp only [nextL, h1, Bool.false_eq_true, if_false, if_pos h2, List.take_zero, List.nil_append, List.getD_cons_zero, List.length_cons]
  | a :: r, i + 1, h, h1, h2 => by
    have ih := next_hit top r i (by simpa using h) (by simpa using h1) (by simpa using h2)
    simp only [nextL, ih, if_true, List.take_succ_cons, List.cons_append, List.getD_cons_succ, List.length_cons]
    congr 3
    simp
theorem next_miss (top : Int) (x : List Int) (i : Nat) (hi : i < x.length) (h1 : nextL top (x.drop (i + 1)) = (false, List.replicate (x.length - (i + 1)) 0)) (h2 : ¬ x.getD i 0 < top) :
    nextL top (x.drop i) = (false, List.replicate (x.length - i) 0) := by
  rw [List.drop_eq_getElem_cons hi]
  have e : x.getD i 0 = x[i] := by simp [hi]
  rw [e] at h2
  simp only [nextL, h1, Bool.false_eq_true, if_false, if_neg h2]
  rw [show x.length - i = (x.length - (i + 1)) + 1 by omega, List.replicate_succ]

end Go.Proofs.Ytkmbkjbammpdhaa
