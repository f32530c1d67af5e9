/-
  Lists of integers: read, owned; the laws' own functions over them, by value.
-/
import Derived.Test.YtljhohacgceojaaLawInts
namespace Go.Proofs.Ytljhohacgceojaa
open Go.RowKit

/-- v reads as the integers xs. -/
def RdI (w : World) (v : Value) (xs : List Int) : Prop := Slc w v (xs.map I64)
/-- v owns the integers xs, in blocks from lo up to hi. -/
def OwnI (lo hi : Nat) (w : World) (v : Value) (xs : List Int) : Prop := w.ownsRow lo 2 1 v xs.length (xs.map I64) ∧ ∀ g, v.ownBlock = some g → g < hi
def bulkI (xs : List Int) : Nat := xs.length

theorem RdI.shape {w : World} {v : Value} {xs : List Int} (h : RdI w v xs) : ∃ a c, v = .slice a xs.length c := by
  obtain ⟨a, c, e⟩ := Slc.shape h; exact ⟨a, c, by simpa using e⟩
theorem RdI.up {w w' : World} {v : Value} {xs : List Int} {B : Nat} (h : RdI w v xs) (hb : Below B w w') (hB : w.heap.size ≤ B) : RdI w' v xs := Slc.below h hb hB
theorem RdI.at {w : World} {a : Option Addr} {n c : Nat} {xs : List Int} (h : RdI w (.slice a n c) xs) {i : Nat} (hi : i < xs.length) :
    ∃ b off, a = some ⟨b, off, none⟩ ∧ b < w.heap.size ∧ w.cell? ⟨b, off + i, none⟩ = some (.int .i64 (xs.getD i 0)) := Slc.at h (by simp [I64, hi])
theorem RdI.len {w : World} {v : Value} {xs : List Int} (h : RdI w v xs) : xs.length ≤ maxLen := by simpa using Slc.len h
theorem RdI.drewN {w : World} {v : Value} {xs : List Int} (h : RdI w v xs) (n : Nat) : RdI (w.drewN n) v xs := Slc.drewN h n
theorem OwnI.rd {lo hi : Nat} {w : World} {v : Value} {xs : List Int} (h : OwnI lo hi w v xs) : RdI w v xs := slc_of_owns h.1
theorem OwnI.up {lo hi : Nat} {w w' : World} {v : Value} {xs : List Int} {B : Nat} (h : OwnI lo hi w v xs) (hb : Below B w w') (hB : w.heap.size ≤ B) : OwnI lo hi w' v xs := ⟨owns_below h.1 hb hB, h.2⟩
theorem OwnI.wide {lo hi lo' hi' : Nat} {w : World} {v : Value} {xs : List Int} (h : OwnI lo hi w v xs) (h1 : lo' ≤ lo) (h2 : hi ≤ hi') : OwnI lo' hi' w v xs := ⟨owns_base h.1 h1, fun g hg => Nat.lt_of_lt_of_le (h.2 g hg) h2⟩
theorem OwnI.kept {lo hi : Nat} {w w' : World} {v : Value} {xs : List Int} {S : Nat → Prop} (h : OwnI lo hi w v xs) (hk : Kept S w w') (hs : ∀ b, lo ≤ b → b < hi → ¬ S b) : OwnI lo hi w' v xs :=
  ⟨owns_kept h.1 hk fun g hg => hs g (owns_lt h.1 hg).1 (h.2 g hg), h.2⟩
theorem OwnI.mk {lo : Nat} {w : World} {v : Value} {n : Nat} {xs : List Int} (h : w.ownsRow lo 2 1 v n (xs.map I64)) : OwnI lo w.heap.size w v xs := by
  obtain rfl : xs.length = n := by simpa using owns_len h
  exact ⟨h, fun g hg => (owns_lt h hg).2⟩

theorem szI_any (v : Value) (xs : List Int) (left : Int) (w : World) (h : RdI w v xs) (h1 : left ≤ 1048576) (h0 : 0 ≤ left) :
    Calls Try.prog 75 #[v, .int .i64 left] w fun e w' => ∃ r : Int, e = .returned (.int .i64 r) ∧ -1 ≤ r ∧ r ≤ left ∧ (0 ≤ r → (bulkI xs : Int) ≤ left - r) ∧ Below w.heap.size w w' := by
  obtain ⟨a, c, rfl⟩ := h.shape
  refine (szInts_any a _ c left w h.len h1 h0).mono ?_
  rintro e w' ⟨r, rfl, a1, a2, a3, rfl⟩
  exact ⟨r, rfl, a1, a2, a3, Below.refl _ _⟩

theorem eqI_any (v v' : Value) (xs ys : List Int) (w : World) (h : RdI w v xs) (h' : RdI w v' ys) :
    Calls Try.prog 86 #[v, v'] w fun e w' => e = .returned (.bool (decide (xs = ys))) ∧ Below w.heap.size w w' := by
  obtain ⟨a, c, rfl⟩ := h.shape
  obtain ⟨a', c', rfl⟩ := h'.shape
  refine (eqInts_any _ _ _ _ _ _ xs ys w rfl rfl h h').mono ?_
  rintro e w' ⟨rfl, n, rfl⟩
  exact ⟨rfl, below_drewN (Below.refl _ _) _⟩

theorem eqI_q (v v' : Value) (xs ys : List Int) (w : World) (h : RdI w v xs) (h' : RdI w v' ys) :
    Calls Try.prog 86 #[v, v'] w fun e w' => e = .returned (.bool (decide (xs = ys))) ∧ ∃ m, w' = w.drewN m := by
  obtain ⟨a, c, rfl⟩ := h.shape
  obtain ⟨a', c', rfl⟩ := h'.shape
  exact eqInts_any _ _ _ _ _ _ xs ys w rfl rfl h h'

theorem eqI_qs (v v' : Value) (xs : List Int) (w : World) (n : Nat) (h : RdI w v xs) (h' : RdI w v' xs) :
    Calls Try.prog 86 #[v, v'] (w.drewN n) fun e w'' => e = .returned (.bool true) ∧ ∃ m, w'' = w.drewN m := by
  refine (eqI_q v v' xs xs _ (h.drewN n) (h'.drewN n)).mono ?_
  rintro e w' ⟨rfl, m, rfl⟩
  exact ⟨by simp, n + m, by rw [World.drewN_drewN]⟩

theorem toI_any (v : Value) (xs : List Int) (w : World) (h : RdI w v xs) (hb : bulkI xs ≤ 1048576) :
    Calls Try.prog 80 #[v] w fun e w' => ∃ v', e = .returned v' ∧ OwnI w.heap.size w'.heap.size w' v' xs ∧ Below w.heap.size w w' := by
  obtain ⟨a, c, rfl⟩ := h.shape
  refine (toInts_any a _ c xs w rfl h (by unfold bulkI at hb; omega)).mono ?_
  rintro e w' ⟨g, rfl, ho, hb⟩
  exact ⟨_, rfl, OwnI.mk ho, hb⟩

/-- What is left behind the marks. -/
def mkI (k : Int) (n : Nat) : List Int := (List.range n).map fun (i : Nat) => k + i

end Go.Proofs.Ytljhohacgceojaa
