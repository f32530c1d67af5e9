/-
  Trees, by value: two lists of integers.
-/
import Derived.Test.YtkcpncaedocdnaaTreeEq
import Derived.Test.YtkcpncaedocdnaaMarkI
namespace Go.Proofs.Ytkcpncaedocdnaa
open Go.RowKit

def RdT (w : World) (v : Value) (t : List Int × List Int) : Prop := ∃ va vb, v = .agg #[va, vb] ∧ RdI w va t.1 ∧ RdI w vb t.2
def OwnT (lo hi : Nat) (w : World) (v : Value) (t : List Int × List Int) : Prop := ∃ va vb, v = .agg #[va, vb] ∧ OwnI lo hi w va t.1 ∧ OwnI lo hi w vb t.2 ∧ ∀ g, va.ownBlock = some g → vb.ownBlock ≠ some g
def bulkT (t : List Int × List Int) : Nat := t.1.length + t.2.length
def cntT (t : List Int × List Int) : Nat := t.1.length + t.2.length
theorem cntT_le (t : List Int × List Int) : cntT t ≤ bulkT t := Nat.le_refl _

theorem RdT.shape {w : World} {v : Value} {t : List Int × List Int} (h : RdT w v t) : ∃ a c b d, v = .agg #[.slice a t.1.length c, .slice b t.2.length d] := by
  obtain ⟨va, vb, rfl, h1, h2⟩ := h
  obtain ⟨a, c, rfl⟩ := h1.shape
  obtain ⟨b, d, rfl⟩ := h2.shape
  exact ⟨a, c, b, d, rfl⟩
theorem RdT.parts {w : World} {x y : Value} {t : List Int × List Int} (h : RdT w (.agg #[x, y]) t) : RdI w x t.1 ∧ RdI w y t.2 := by
  obtain ⟨va, vb, e, h1, h2⟩ := h
  simp at e
  obtain ⟨rfl, rfl⟩ := e
  exact ⟨h1, h2⟩
theorem RdT.up {w w' : World} {v : Value} {t : List Int × List Int} {B : Nat} (h : RdT w v t) (hb : Below B w w') (hB : w.heap.size ≤ B) : RdT w' v t := by
  obtain ⟨va, vb, e, h1, h2⟩ := h
  exact ⟨va, vb, e, h1.up hb hB, h2.up hb hB⟩
theorem OwnT.rd {lo hi : Nat} {w : World} {v : Value} {t : List Int × List Int} (h : OwnT lo hi w v t) : RdT w v t := by
  obtain ⟨va, vb, e, h1, h2, _⟩ := h
  exact ⟨va, vb, e, h1.rd, h2.rd⟩
theorem OwnT.up {lo hi : Nat} {w w' : World} {v : Value} {t : List Int × List Int} {B : Nat} (h : OwnT lo hi w v t) (hb : Below B w w') (hB : w.heap.size ≤ B) : OwnT lo hi w' v t := by
  obtain ⟨va, vb, e, h1, h2, h3⟩ := h
  exact ⟨va, vb, e, h1.up hb hB, h2.up hb hB, h3⟩
theorem OwnT.wide {lo hi lo' hi' : Nat} {w : World} {v : Value} {t : List Int × List Int} (h : OwnT lo hi w v t) (a : lo' ≤ lo) (b : hi ≤ hi') : OwnT lo' hi' w v t := by
  obtain ⟨va, vb, e, h1, h2, h3⟩ := h
  exact ⟨va, vb, e, h1.wide a b, h2.wide a b, h3⟩
theorem OwnT.kept {lo hi : Nat} {w w' : World} {v : Value} {t : List Int × List Int} {S : Nat → Prop} (h : OwnT lo hi w v t) (hk : Kept S w w') (hs : ∀ b, lo ≤ b → b < hi → ¬ S b) : OwnT lo hi w' v t := by
  obtain ⟨va, vb, e, h1, h2, h3⟩ := h
  exact ⟨va, vb, e, h1.kept hk hs, h2.kept hk hs, h3⟩

theorem szT_any (v : Value) (t : List Int × List Int) (left : Int) (w : World) (h : RdT w v t) (h1 : left ≤ 1048576) (h0 : 0 ≤ left) :
    Calls Try.prog 15 #[v, .int .i64 left] w fun e w' => ∃ r : Int, e = .returned (.int .i64 r) ∧ -1 ≤ r ∧ r ≤ left ∧ (0 ≤ r → (bulkT t : Int) ≤ left - r) ∧ Below w.heap.size w w' := by
  obtain ⟨a, c, b, d, rfl⟩ := h.shape
  have hp := h.parts
  refine (szTree_any a b _ _ c d left w hp.1.len hp.2.len h1 h0).mono ?_
  rintro e w' ⟨r, rfl, a1, a2, a3, hb⟩
  exact ⟨r, rfl, a1, a2, fun x => by have := a3 x; unfold bulkT; omega, hb⟩

theorem toT_any (v : Value) (t : List Int × List Int) (w : World) (h : RdT w v t) (hb : bulkT t ≤ 1048576) :
    Calls Try.prog 17 #[v] w fun e w' => ∃ v', e = .returned v' ∧ OwnT w.heap.size w'.heap.size w' v' t ∧ Below w.heap.size w w' := by
  obtain ⟨a, c, b, d, rfl⟩ := h.shape
  have hp := h.parts
  unfold bulkT at hb
  refine (toTree_any a b _ _ c d t.1 t.2 w rfl rfl hp.1 hp.2 (by omega) (by omega)).mono ?_
  rintro e w' ⟨g1, g2, rfl, o1, o2, hne, hbl⟩
  exact ⟨_, rfl, ⟨_, _, rfl, OwnI.mk o1, OwnI.mk o2, by intro g h1 h2; simp [Value.ownBlock] at h1 h2; omega⟩, hbl⟩

theorem eqT_same (v v' : Value) (t : List Int × List Int) (w : World) (h : RdT w v t) (h' : RdT w v' t) :
    Calls Try.prog 20 #[v, v'] w fun e w' => e = .returned (.bool true) ∧ Below w.heap.size w w' := by
  obtain ⟨a, c, b, d, rfl⟩ := h.shape
  obtain ⟨a', c', b', d', rfl⟩ := h'.shape
  have hp := h.parts
  have hp' := h'.parts
  refine (eqTree_any _ _ _ _ _ _ _ _ _ _ _ _ t.1 t.2 t.1 t.2 w rfl rfl rfl rfl hp.1 hp.2 hp'.1 hp'.2).mono ?_
  rintro e w' ⟨rfl, hb⟩
  exact ⟨by simp, hb⟩

def sameT (t u : List Int × List Int) : Bool := decide (t.1 = u.1) && decide (t.2 = u.2)

theorem implSameTree_o (v : Value) (t : List Int × List Int) (v' : Value) (u : List Int × List Int) (w : World) (h : RdT w v t) (h' : RdT w v' u) :
    Calls Try.prog 69 #[v, v'] w fun e w' => e = .returned (.bool (sameT t u)) ∧ Below w.heap.size w w' := by
  obtain ⟨a, c, b, d, rfl⟩ := h.shape
  obtain ⟨a', c', b', d', rfl⟩ := h'.shape
  have hp := h.parts
  have hp' := h'.parts
  exact implSameTree_any _ _ _ _ _ _ _ _ _ _ _ _ t.1 t.2 u.1 u.2 w rfl rfl rfl rfl hp.1 hp.2 hp'.1 hp'.2

end Go.Proofs.Ytkcpncaedocdnaa
