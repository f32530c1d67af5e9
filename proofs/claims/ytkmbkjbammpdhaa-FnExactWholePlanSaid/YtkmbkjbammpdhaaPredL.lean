/-
  Lists of lists of integers, by value.
-/
import Derived.Test.YtkmbkjbammpdhaaMarkI
namespace Go.Proofs.Ytkmbkjbammpdhaa
open Go.RowKit

/-- Each of the values reads as the list at its place. -/
def Each (w : World) (vs : List Value) (zss : List (List Int)) : Prop := vs.length = zss.length ∧ ∀ (i : Nat) u zs, vs[i]? = some u → zss[i]? = some zs → RdI w u zs
def RdL (w : World) (v : Value) (zss : List (List Int)) : Prop := ∃ vs, Slc w v vs ∧ Each w vs zss
/-- Owned: the outer row, and the inner ones, each in a block of its own. -/
def OwnEach (lo hi : Nat) (w : World) (vs : List Value) (zss : List (List Int)) : Prop :=
  vs.length = zss.length ∧ (∀ (i : Nat) u zs, vs[i]? = some u → zss[i]? = some zs → OwnI lo hi w u zs) ∧ ∀ (i j : Nat) u u' g, i ≠ j → vs[i]? = some u → vs[j]? = some u' → u.ownBlock = some g → u'.ownBlock ≠ some g
def OwnL (lo hi : Nat) (w : World) (v : Value) (zss : List (List Int)) : Prop :=
  ∃ vs, w.ownsRow lo 36 1 v zss.length vs ∧ (∀ g, v.ownBlock = some g → g < hi) ∧ OwnEach lo hi w vs zss
def lsum : List (List Int) → Nat
  | [] => 0
  | z :: r => z.length + lsum r
theorem lsum_append : ∀ (a b : List (List Int)), lsum (a ++ b) = lsum a + lsum b
  | [], b => by simp [lsum]
  | z :: r, b => by simp only [List.cons_append, lsum, lsum_append r b]; omega
def bulkL (zss : List (List Int)) : Nat := zss.length + lsum zss

theorem RdL.shape {w : World} {v : Value} {zss : List (List Int)} (h : RdL w v zss) : ∃ a c, v = .slice a zss.length c := by
  obtain ⟨vs, h1, h2⟩ := h
  obtain ⟨a, c, e⟩ := h1.shape
  exact ⟨a, c, by rw [e, h2.1]⟩
theorem RdL.len {w : World} {v : Value} {zss : List (List Int)} (h : RdL w v zss) : zss.length ≤ maxLen := by
  obtain ⟨vs, h1, h2⟩ := h
  rw [← h2.1]; exact h1.len
theorem Each.up {w w' : World} {vs : List Value} {zss : List (List Int)} {B : Nat} (h : Each w vs zss) (hb : Below B w w') (hB : w.heap.size ≤ B) : Each w' vs zss :=
  ⟨h.1, fun i u zs h1 h2 => (h.2 i u zs h1 h2).up hb hB⟩
theorem RdL.up {w w' : World} {v : Value} {zss : List (List Int)} {B : Nat} (h : RdL w v zss) (hb : Below B w w') (hB : w.heap.size ≤ B) : RdL w' v zss := by
  obtain ⟨vs, h1, h2⟩ := h
  exact ⟨vs, h1.below hb hB, h2.up hb hB⟩
/-- One of the lists. -/
theorem RdL.at {w : World} {a : Option Addr} {n c : Nat} {zss : List (List Int)} (h : RdL w (.slice a n c) zss) {i : Nat} (hi : i < zss.length) :
    ∃ b off u, a = some ⟨b, off, none⟩ ∧ b < w.heap.size ∧ w.cell? ⟨b, off + i, none⟩ = some u ∧ RdI w u (zss.getD i []) := by
  obtain ⟨vs, h1, h2⟩ := h
  have hv : i < vs.length := by rw [h2.1]; exact hi
  obtain ⟨b, off, ha, hb, hc⟩ := h1.at (List.getElem?_eq_getElem hv)
  exact ⟨b, off, vs[i], ha, hb, hc, h2.2 i _ _ (List.getElem?_eq_getElem hv) (by simp [hi])⟩

theorem OwnEach.each {lo hi : Nat} {w : World} {vs : List Value} {zss : List (List Int)} (h : OwnEach lo hi w vs zss) : Each w vs zss := ⟨h.1, fun i u zs h1 h2 => (h.2.1 i u zs h1 h2).rd⟩
theorem OwnL.rd {lo hi : Nat} {w : World} {v : Value} {zss : List (List Int)} (h : OwnL lo hi w v zss) : RdL w v zss := by
  obtain ⟨vs, h1, h2, h3⟩ := h
  exact ⟨vs, slc_of_owns h1, h3.each⟩
theorem OwnEach.up {lo hi : Nat} {w w' : World} {vs : List Value} {zss : List (List Int)} {B : Nat} (h : OwnEach lo hi w vs zss) (hb : Below B w w') (hB : w.heap.size ≤ B) : OwnEach lo hi w' vs zss :=
  ⟨h.1, fun i u zs h1 h2 => (h.2.1 i u zs h1 h2).up hb hB, h.2.2⟩
theorem OwnL.up {lo hi : Nat} {w w' : World} {v : Value} {zss : List (List Int)} {B : Nat} (h : OwnL lo hi w v zss) (hb : Below B w w') (hB : w.heap.size ≤ B) : OwnL lo hi w' v zss := by
  obtain ⟨vs, h1, h2, h3⟩ := h
  exact ⟨vs, owns_below h1 hb hB, h2, h3.up hb hB⟩
theorem OwnEach.wide {lo hi lo' hi' : Nat} {w : World} {vs : List Value} {zss : List (List Int)} (h : OwnEach lo hi w vs zss) (a : lo' ≤ lo) (b : hi ≤ hi') : OwnEach lo' hi' w vs zss :=
  ⟨h.1, fun i u zs h1 h2 => (h.2.1 i u zs h1 h2).wide a b, h.2.2⟩
theorem OwnL.wide {lo hi lo' hi' : Nat} {w : World} {v : Value} {zss : List (List Int)} (h : OwnL lo hi w v zss) (a : lo' ≤ lo) (b : hi ≤ hi') : OwnL lo' hi' w v zss := by
  obtain ⟨vs, h1, h2, h3⟩ := h
  exact ⟨vs, owns_base h1 a, fun g hg => Nat.lt_of_lt_of_le (h2 g hg) b, h3.wide a b⟩
theorem OwnL.kept {lo hi : Nat} {w w' : World} {v : Value} {zss : List (List Int)} {S : Nat → Prop} (h : OwnL lo hi w v zss) (hk : Kept S w w') (hs : ∀ b, lo ≤ b → b < hi → ¬ S b) : OwnL lo hi w' v zss := by
  obtain ⟨vs, h1, h2, h3⟩ := h
  exact ⟨vs, owns_kept h1 hk fun g hg => hs g (owns_lt h1 hg).1 (h2 g hg), h2, h3.1, fun i u zs a b => (h3.2.1 i u zs a b).kept hk hs, h3.2.2⟩

theorem sum_take_succ (zss : List (List Int)) (k : Nat) (hk : k < zss.length) : lsum (zss.take (k + 1)) = lsum (zss.take k) + (zss.getD k []).length := by
  rw [List.take_succ_eq_append_getElem hk, lsum_append]
  simp [hk, lsum]

theorem bulkL_le (zss : List (List Int)) (k : Nat) : lsum (zss.take k) + zss.length ≤ bulkL zss := by
  unfold bulkL
  have : lsum (zss.take k) + lsum (zss.drop k) = lsum zss := by rw [← lsum_append, List.take_append_drop]
  omega

theorem Try.infoInts : (Try.prog.info? 36).map (fun i => (i.zero, i.size, i.bytes)) = some (some (.slice none 0 0), 1, 24) := by kernel_rfl

end Go.Proofs.Ytkmbkjbammpdhaa
