/-
  What a valid tree tells a law.
-/
import Derived.Test.YtkcpncaedocdnaaGameM
import Derived.Test.YtkcpncaedocdnaaLookR
import Derived.Test.YtkcpncaedocdnaaBest
import Derived.Test.YtkcpncaedocdnaaLeaves
import Derived.Test.YtkcpncaedocdnaaHas
namespace Go.Proofs.Ytkcpncaedocdnaa

def castL (l : List Nat) : List Int := l.map fun (k : Nat) => (k : Int)
theorem castL_len (l : List Nat) : (castL l).length = l.length := by simp [castL]
theorem castL_at (l : List Nat) (k : Nat) : (castL l).getD k 0 = ((l.getD k 0 : Nat) : Int) := by
  simp only [castL, List.getD_eq_getElem?_getD, List.getElem?_map]
  cases l[k]? <;> rfl

theorem games {t : List Int × List Int} (hv : ValT t) : ∃ (W : Int) (l : List Nat) (N : Nat) (E : List Int), bestW t = W ∧ bestL t = castL l ∧ looksW t = W ∧ looksN t = N ∧ lvL t = E ∧ 1 ≤ N ∧ N ≤ E.length ∧ E.length ≤ 64 ∧ l.length ≤ 64 ∧
    WayOk t.1 t.2 W 0 l ∧ hasB E ((l.getD (l.length - 1) 0 : Nat) : Int) = true := by
  have hT := validT_iff.2 hv
  have h1 := hv.1
  have h2 := hv.2.1
  have hw := way_ok hv.goodP t.2 (worthT t.1 t.2 t.1.length 0 true) t.1.length 0 true (by omega) (by omega) rfl
  have hE : lvL t = endsI t.1 t.1.length := if_pos hT
  have hle : (leaves t.1).length = (endsI t.1 t.1.length).length := by simp [leaves, endsI]
  refine ⟨worthT t.1 t.2 t.1.length 0 true, wayT t.1 t.2 (worthT t.1 t.2 t.1.length 0 true) t.1.length 0 true, (lookT t.1 t.2 t.1.length 0 true (-2000000) 2000000).2, lvL t, bestW_eq hT, bestL_eq hT, ?_, if_pos hT, rfl, look_some _ _ _ _ _ _ _ (by omega), ?_, ?_, ?_, hw, ?_⟩
  · rw [looksW, if_pos hT, look_worth hv]
  · rw [hE, ← hle]; exact looks_leaves hv
  · rw [hE]; have := endsI_len t.1 t.1.length; omega
  · have := wayT_len hv.goodP t.2 (worthT t.1 t.2 t.1.length 0 true) t.1.length 0 true (by omega); omega
  · obtain ⟨_, q2, q3, q4, _⟩ := hw
    rw [hE]
    unfold hasB
    rw [List.contains_iff_mem, endsI, List.mem_map]
    exact ⟨_, by rw [List.mem_filter]; exact ⟨List.mem_range.2 (q3 _ (by omega)).1, by rw [q4]; rfl⟩, rfl⟩

theorem games_const {P V : List Int} (hv : ValT (P, V)) (h3 : ∀ i, i < P.length → V.getD i 0 = 3) : bestW (P, V) = 3 := by
  rw [bestW_eq (validT_iff.2 hv)]
  exact worth_const hv.goodP h3 _ _ _ (show 0 < P.length from hv.1)
theorem val_const {P V V' : List Int} (hv : ValT (P, V)) (hl : V'.length = V.length) (h3 : ∀ i, i < P.length → V'.getD i 0 = 3) : ValT (P, V') := by
  obtain ⟨h1, h2, h4, h5, h6⟩ := hv
  refine ⟨h1, h2, by simp only at h4 ⊢; omega, h5, fun i hi => ⟨(h6 i hi).1, ?_⟩⟩
  simp only
  rw [h3 i hi]
  decide

end Go.Proofs.Ytkcpncaedocdnaa
