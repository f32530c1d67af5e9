/-
  Sets of domains: which numbers they have together, as a list and as binary digits.
-/
import Derived.Test.YtnhamdkpeefioaaPop
import Derived.Test.YtnhamdkpeefioaaHas
import Derived.Test.YtnhamdkpeefioaaDomO
namespace Go.Proofs.Ytnhamdkpeefioaa

theorem popN_filter (x : Nat) : ∀ n, popN n x = ((List.range n).filter x.testBit).length
  | 0 => rfl
  | n + 1 => by
    rw [List.range_succ, List.filter_append, List.length_append, popN, popN_filter x n]
    cases h : x.testBit n <;> simp [h] <;> omega
/-- The digits 1. -/
def dig (s : Nat) : List Nat := (List.range 63).filter s.testBit
theorem dig_of {s i : Nat} (hs : s < 2 ^ i) (hi : i ≤ 63) : (List.range i).filter s.testBit = dig s := by
  unfold dig
  rw [show (63 : Nat) = i + (63 - i) by omega, List.range_add, List.filter_append]
  have : ((List.range (63 - i)).map (i + ·)).filter s.testBit = [] := by
    rw [List.filter_eq_nil_iff]
    intro a ha
    obtain ⟨b, _, rfl⟩ := List.mem_map.1 ha
    have : s.testBit (i + b) = false := Nat.testBit_lt_two_pow (Nat.lt_of_lt_of_le hs (Nat.pow_le_pow_right (by decide) (by omega)))
    simp [this]
  rw [this, List.append_nil]
theorem dig_len {s : Nat} (hs : s < 4294967296) : (dig s).length = popN 32 s := by
  rw [popN_filter, dig_of (i := 32) hs (by decide)]

def addN (l : List Int) (n : Int) : List Int := if hasB l n then l else l ++ [n]
/-- The numbers of some domains. -/
def uni (D : List (List Int)) (ds : List Nat) : List Int := ds.foldl (fun l i => (D.getD i []).foldl addN l) []
def tight (D : List (List Int)) (s : Nat) : Bool := (dig s).length == (uni D (dig s)).length
def tightL (D : List (List Int)) (m : Nat) : List Int := ((List.range m).filter (tight D)).map fun (k : Nat) => (k : Int)
theorem tightL_yes {D : List (List Int)} {m : Nat} (h : tight D m = true) : tightL D (m + 1) = tightL D m ++ [(m : Int)] := by
  simp [tightL, List.range_succ, h]
theorem tightL_no {D : List (List Int)} {m : Nat} (h : tight D m = false) : tightL D (m + 1) = tightL D m := by
  simp [tightL, List.range_succ, h]
theorem tightL_len (D : List (List Int)) (m : Nat) : (tightL D m).length ≤ m := by
  have := List.length_filter_le (tight D) (List.range m)
  simpa [tightL] using this

/-- The domains that are walked, of the first i, and k numbers of the next one. -/
def uniP (D : List (List Int)) (ds : List Nat) (i k : Nat) : List Int := ((D.getD i []).take k).foldl addN (uni D ds)
theorem uniP_zero (D : List (List Int)) (ds : List Nat) (i : Nat) : uniP D ds i 0 = uni D ds := by simp [uniP]
theorem uniP_succ (D : List (List Int)) (ds : List Nat) (i k : Nat) (h : k < (D.getD i []).length) : uniP D ds i (k + 1) = addN (uniP D ds i k) ((D.getD i []).getD k 0) := by
  unfold uniP
  rw [List.take_add_one, List.foldl_append]
  generalize D.getD i [] = d at h ⊢
  simp [h]
theorem uniP_all (D : List (List Int)) (ds : List Nat) (i : Nat) : uniP D ds i (D.getD i []).length = uni D (ds ++ [i]) := by
  unfold uniP uni
  rw [List.take_length, List.foldl_append]
  rfl
theorem addN_len (l : List Int) (n : Int) : (addN l n).length ≤ l.length + 1 := by
  unfold addN; split <;> simp

/-- A number's binary digits 1 are a list. -/
structure Mask (m : Nat) (l : List Int) : Prop where
  lt : m < 4294967296
  bit : ∀ b, b < 32 → m.testBit b = hasB l (b : Int)
  len : popN 32 m = l.length
theorem Mask.nil : Mask 0 [] := ⟨by decide, by intro b _; simp [hasB], popN_zero 32⟩
theorem hasB_append (l : List Int) (n x : Int) : hasB (l ++ [n]) x = (hasB l x || x == n) := by
  unfold hasB; rw [Bool.eq_iff_iff]; simp
theorem Mask.add {m : Nat} {l : List Int} (h : Mask m l) {n : Nat} (hn : n < 32) : Mask (m ||| 2 ^ n) (addN l (n : Int)) := by
  have hb := h.bit n hn
  have h32 : (2 : Nat) ^ n < 2 ^ 32 := Nat.pow_lt_pow_right (by decide) hn
  refine ⟨?_, ?_, ?_⟩
  · have h1 : m < 2 ^ 32 := h.lt
    exact Nat.or_lt_two_pow h1 h32
  · intro b hb2
    rw [Nat.testBit_or, Nat.testBit_two_pow, h.bit b hb2]
    unfold addN
    split
    · next hh =>
      by_cases e : n = b
      · subst e; rw [hh]; simp
      · simp [e]
    · rw [hasB_append]
      congr 1
      rw [Bool.eq_iff_iff]; simp; omega
  · rw [popN_or, h.len, hb]
    unfold addN
    split
    · next hh => rw [hh]; simp
    · next hh => rw [Bool.not_eq_true] at hh; rw [hh]; simp [hn]

end Go.Proofs.Ytnhamdkpeefioaa
