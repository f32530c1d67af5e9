/-
  Trees: the way of the best.
-/
import Derived.Test.YtkcpncaedocdnaaWorth
import Derived.Test.YtkcpncaedocdnaaLeaves
namespace Go.Proofs.Ytkcpncaedocdnaa

theorem find_at {α : Type} (p : α → Bool) (d : α) (l : List α) (j : Nat) (hj : j < l.length) (h0 : ∀ i, i < j → p (l.getD i d) = false) (h : p (l.getD j d) = true) : l.find? p = some (l.getD j d) := by
  rw [List.find?_eq_some_iff_getElem]
  refine ⟨h, j, hj, by simp [hj], fun i hi => ?_⟩
  have := h0 i hi
  have hl : i < l.length := by omega
  simp only [List.getD_eq_getElem?_getD, List.getElem?_eq_getElem hl, Option.getD_some] at this
  simp [this]

/-- The way of the best. -/
def wayT (P V : List Int) (W : Int) : Nat → Nat → Bool → List Nat
  | 0, i, _ => [i]
  | f + 1, i, e => match (kids P i).find? (fun k => worthT P V f k (!e) == W) with
    | none => [i]
    | some k => i :: wayT P V W f k (!e)

theorem wayT_end {P V : List Int} {W : Int} {f i : Nat} {e : Bool} (h : kids P i = []) : wayT P V W f i e = [i] := by
  cases f with
  | zero => rfl
  | succ f => simp only [wayT, h, List.find?_nil]
theorem wayT_step {P V : List Int} {W : Int} {f i k : Nat} {e : Bool} (h : (kids P i).find? (fun k => worthT P V f k (!e) == W) = some k) : wayT P V W (f + 1) i e = i :: wayT P V W f k (!e) := by
  simp only [wayT, h]
theorem wayT_len {P : List Int} (h : GoodP P) (V : List Int) (W : Int) : ∀ (f i : Nat) (e : Bool), i < P.length → (wayT P V W f i e).length + i ≤ P.length
  | 0, i, e, hi => by simp only [wayT, List.length_singleton]; omega
  | f + 1, i, e, hi => by
    simp only [wayT]
    split
    · simp only [List.length_singleton]; omega
    · next k hk =>
      have hm := kid_gt h (List.mem_of_find?_eq_some hk)
      have := wayT_len h V W f k (!e) hm.2
      simp only [List.length_cons]
      omega

/-- No match among all children: not so where the worth is that of the index. -/
theorem way_some {P V : List Int} {W : Int} {f i : Nat} {e : Bool} (hk : kids P i ≠ []) (hw : worthT P V (f + 1) i e = W) (h0 : ∀ j, j < (kids P i).length → (worthT P V f ((kids P i).getD j 0) (!e) == W) = false) : False := by
  obtain ⟨k, hm, h⟩ := worth_kid P V f i e hk
  obtain ⟨j, hj, rfl⟩ := List.getElem_of_mem hm
  have := h0 j hj
  simp only [List.getD_eq_getElem?_getD, List.getElem?_eq_getElem hj, Option.getD_some, beq_eq_false_iff_ne] at this
  exact this (h.trans hw)

open Classical in
/-- The worth and the way that are returned. -/
noncomputable def bestW (t : List Int × List Int) : Int := if validT t = true then worthT t.1 t.2 t.1.length 0 true else 0
open Classical in
noncomputable def bestL (t : List Int × List Int) : List Int := if validT t = true then (wayT t.1 t.2 (worthT t.1 t.2 t.1.length 0 true) t.1.length 0 true).map (fun (k : Nat) => (k : Int)) else []
theorem bestL_cnt (t : List Int × List Int) : cntI (bestL t) ≤ 1048576 := by
  unfold cntI bestL
  split
  · next h =>
    have hv := validT_iff.1 h
    have := wayT_len hv.goodP t.2 (worthT t.1 t.2 t.1.length 0 true) t.1.length 0 true (by have := hv.1; omega)
    have := hv.2.1
    simp
    omega
  · simp

end Go.Proofs.Ytkcpncaedocdnaa
