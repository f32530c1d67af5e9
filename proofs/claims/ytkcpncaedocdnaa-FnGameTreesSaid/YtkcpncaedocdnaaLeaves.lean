/-
  Trees: all ends.
-/
import Derived.Test.YtkcpncaedocdnaaKids
import Derived.Test.YtkcpncaedocdnaaValTO
namespace Go.Proofs.Ytkcpncaedocdnaa
open Go.RowKit

/-- The ends among the first m. -/
def endsI (P : List Int) (m : Nat) : List Int := ((List.range m).filter fun i => (kids P i).isEmpty).map fun (k : Nat) => (k : Int)
theorem endsI_yes {P : List Int} {m : Nat} (h : kids P m = []) : endsI P (m + 1) = endsI P m ++ [(m : Int)] := by
  simp [endsI, List.range_succ, h]
theorem endsI_no {P : List Int} {m : Nat} (h : kids P m ≠ []) : endsI P (m + 1) = endsI P m := by
  have : (kids P m).isEmpty = false := by cases hk : kids P m with | nil => exact absurd hk h | cons a l => rfl
  simp [endsI, List.range_succ, this]
theorem endsI_len (P : List Int) (m : Nat) : (endsI P m).length ≤ m := by
  have := List.length_filter_le (fun i => (kids P i).isEmpty) (List.range m)
  simpa [endsI] using this
theorem kidsI_nil {P : List Int} {i : Nat} : kidsI P i P.length = [] ↔ kids P i = [] := by simp [kidsI, kids]

open Classical in
/-- What is returned. -/
noncomputable def lvL (t : List Int × List Int) : List Int := if validT t = true then endsI t.1 t.1.length else []
theorem validT_iff {t : List Int × List Int} : validT t = true ↔ ValT t := by simp [validT]
theorem lvL_cnt (t : List Int × List Int) : cntI (lvL t) ≤ 1048576 := by
  unfold cntI lvL
  split
  · next h =>
    have := endsI_len t.1 t.1.length
    have := (validT_iff.1 h).2.1
    omega
  · simp

set_option maxHeartbeats 1000000 in
set_option maxRecDepth 4000 in
theorem implLeaves_any (v : Value) (t : List Int × List Int) (w : World) (h : RdT w v t) :
    Calls Try.prog 18 #[v] w fun e w' => ∃ v', e = .returned (.tuple #[v', .bool (validT t)]) ∧ OwnI w.heap.size w'.heap.size w' v' (lvL t) ∧ Below w.heap.size w w' := by
  obtain ⟨p, q⟩ := t
  obtain ⟨a, c, a', c', rfl⟩ := h.shape
  simp only at h ⊢
  have HP := Lib.hid h
  clear h
  go_enter Try.func18, Try.ntmps18
  go_wp2_with fail
  refine Calls.at fun W hW => ?_
  have hb := Lib.hid (show Below w.heap.size w W by subst hW; (repeat' first | exact Below.refl _ _ | assumption | refine Below.alloc ?_ ?_ _ | refine Below.setCell ?_ ?_ _ | refine Below.drew ?_ | (simp; done) | (simp; omega)))
  have hk := Lib.hid (show Blk W w.heap.size 28 #[.slice a p.length c, .slice a' q.length c'] by subst hW; exact Blk.new _ _ _)
  clear hW
  refine (implValidTree_o _ (p, q) W (HP.out.up hb.out (Nat.le_refl _))).mono ?_
  rintro e w1 ⟨rfl, hb1⟩
  have HB1 := Lib.hid (hb.out.trans (hb1.mono hb.out.size))
  have HK1 := Lib.hid (hk.out.below hb1 hk.out.lt)
  clear hb1 hb hk
  by_cases hv : validT (p, q) = true
  · rw [hv]
    have HV := Lib.hid (validT_iff.1 hv)
    have HVV := Lib.hid hv
    have hl64 := HV.out.2.1
    simp only at hl64
    have HR := Lib.hid (show lvL (p, q) = endsI p p.length from if_pos hv)
    have t0 : w1.cell? ⟨w.heap.size, 0, none⟩ = some (.slice a p.length c) := HK1.out.cell 0 rfl
    clear hv
    go_wp2_with fail
    go_loopw [4, 12] (fun out kk wr => ∃ (j : Nat) (b : Option Addr) (cap : Nat), kk = .int .i64 j ∧ j ≤ p.length ∧ out = .slice b (endsI p j).length cap ∧ wr.ownsRow w1.heap.size 2 1 (.slice b (endsI p j).length cap) (endsI p j).length ((endsI p j).map I64) ∧ Below w.heap.size w wr ∧ Below w1.heap.size w1 wr) (fun _ kk _ => p.length - (intOf kk).toNat)
    case atStart => exact ⟨0, none, 0, rfl, Nat.zero_le _, rfl, World.ownsRow_nil _ _ _ _, HB1.out, Below.refl _ _⟩
    case round =>
      obtain ⟨j, b, cap, rfl, hj, rfl, hown, hbl, hbl1⟩ := hrel
      have HO := Lib.hid hown
      have HB := Lib.hid hbl
      have HBL := Lib.hid hbl1
      have HK := Lib.hid (HK1.out.below hbl1 HK1.out.lt)
      clear hown hbl hbl1 t0
      by_cases hlt : j < p.length
      · have t0 : wr.cell? ⟨w.heap.size, 0, none⟩ = some (.slice a p.length c) := HK.out.cell 0 rfl
        have t1 : wr.cell? ⟨w.heap.size, 1, none⟩ = some (.slice a' q.length c') := HK.out.cell 1 rfl
        go_wp2_with fail
        refine (children_any _ (p, q) j wr (HP.out.up HB.out (Nat.le_refl _)) hl64).mono ?_
        rintro e w2 ⟨v2, rfl, ho2, hb2⟩
        simp only at ho2
        obtain ⟨a2, c2, rfl⟩ := ho2.rd.shape
        have HO2 := Lib.hid (owns_below HO.out hb2 (Nat.le_refl _))
        have HB2 := Lib.hid (HB.out.trans (hb2.mono HB.out.size))
        have HBL2 := Lib.hid (HBL.out.trans (hb2.mono HBL.out.size))
        have hsz1 := (HK.out.below hb2 HK.out.lt).lt
        clear t0 t1 hb2 ho2 HO HB HBL
        by_cases he : kids p j = []
        · have he' : (((kidsI p j p.length).length : Int) == 0) = true := by rw [kidsI_nil.2 he]; rfl
          have HE := Lib.hid (endsI_yes he)
          have hlen := endsI_len p j
          obtain ⟨ks, hks⟩ : ∃ ks, ks = endsI p j := ⟨_, rfl⟩
          obtain ⟨kl, hkl⟩ : ∃ kl, kl = (kidsI p j p.length).length := ⟨_, rfl⟩
          rw [← hkl] at he' ⊢
          rw [← hks] at HO2 HE hlen ⊢
          clear he hks hkl
          go_wp2_with (at_builtin; refine app_ints rfl _ _ rfl w1.heap.size (.slice b ks.length cap) ks.length ks rfl (HO2.out.alloc _) _ [(j : Int)] rfl (slc_one _ _) (ks.length + 1) (ks ++ [(j : Int)]) (by simp) rfl (by omega) (by have := HBL2.out.size; simp; omega) ?_; intro b2 cap2 w3 hown2 hbl2 _ _)
          go_roundw
          case rel =>
            have e2 : Below w1.heap.size w2 w3 := ((Below.refl _ _).alloc HBL2.out.size _).trans hbl2
            have e1 : Below w.heap.size w2 w3 := e2.mono HB1.out.size
            exact ⟨j + 1, b2, cap2, by go_num, by omega, by rw [HE.out, List.length_append]; rfl, by rw [HE.out, List.length_append]; exact hown2, HB2.out.trans e1, HBL2.out.trans e2⟩
          case measure => simp [intOf]; omega
        · have he' : (((kidsI p j p.length).length : Int) == 0) = false := by
            have : (kidsI p j p.length).length ≠ 0 := fun e => he (kidsI_nil.1 (List.length_eq_zero_iff.1 e))
            rw [beq_eq_false_iff_ne]; omega
          have HE := Lib.hid (endsI_no he)
          obtain ⟨kl, hkl⟩ : ∃ kl, kl = (kidsI p j p.length).length := ⟨_, rfl⟩
          rw [← hkl] at he' ⊢
          clear he hkl
          go_wp2_with fail
          go_roundw
          case rel => exact ⟨j + 1, b, cap, by go_num, by omega, by rw [HE.out], by rw [HE.out]; exact HO2.out, HB2.out, HBL2.out⟩
          case measure => simp [intOf]; omega
      · obtain rfl : j = p.length := by omega
        go_wp2_with fail
        go_ret2
        exact ⟨_, by rw [HVV.out]; rfl, by rw [HR.out]; exact (OwnI.mk HO.out).wide HB1.out.size (Nat.le_refl _), HB.out⟩
  · rw [Bool.not_eq_true] at hv
    rw [hv]
    have HR := Lib.hid (show lvL (p, q) = [] from if_neg (by rw [hv]; simp))
    have HVV := Lib.hid hv
    clear hv
    go_wp2_with fail
    go_ret2
    exact ⟨_, by rw [HVV.out]; rfl, by rw [HR.out]; exact ⟨World.ownsRow_nil _ _ _ _, by intro g hg; cases hg⟩, HB1.out⟩

set_option maxHeartbeats 1000000 in
set_option maxRecDepth 4000 in
theorem specLeaves_any (v : Value) (t : List Int × List Int) (w : World) (h : RdT w v t) :
    Calls Try.prog 16 #[v] w fun e w' => ∃ v', e = .returned (.tuple #[v', .bool (validT t)]) ∧ OwnI w.heap.size w'.heap.size w' v' (lvL t) ∧ Below w.heap.size w w' := by
  obtain ⟨p, q⟩ := t
  obtain ⟨a, c, a', c', rfl⟩ := h.shape
  simp only at h ⊢
  have HP := Lib.hid h
  clear h
  go_enter Try.func16, Try.ntmps16
  go_wp2_with fail
  refine Calls.at fun w1 hW => ?_
  have HB1 := Lib.hid (show Below w.heap.size w w1 by subst hW; (repeat' first | exact Below.refl _ _ | assumption | refine Below.alloc ?_ ?_ _ | refine Below.setCell ?_ ?_ _ | refine Below.drew ?_ | (simp; done) | (simp; omega)))
  have HK1 := Lib.hid (show Blk w1 w.heap.size 28 #[.slice a p.length c, .slice a' q.length c'] by subst hW; exact Blk.new _ _ _)
  clear hW
  refine (l07Tree_any w.heap.size _ _ (p, q) w1 HK1.out (HP.out.up HB1.out (Nat.le_refl _))).mono ?_
  rintro e w' ⟨rfl, rfl⟩
  by_cases hv : validT (p, q) = true
  · rw [hv]
    have HV := Lib.hid (validT_iff.1 hv)
    have hl64 := HV.out.2.1
    have HV0 := Lib.hid HV.out.2.2.2.1
    simp only at hl64
    have HR := Lib.hid (show lvL (p, q) = endsI p p.length from if_pos hv)
    have HVV := Lib.hid hv
    clear hv
    have t0 : (w1.alloc (.cells #[] 2)).cell? ⟨w.heap.size, 0, none⟩ = some (.slice a p.length c) := (HK1.out.alloc _).cell 0 rfl
    go_wp2_with fail
    go_loopw [4, 12] (fun out kk wr => ∃ (j : Nat) (b : Option Addr) (cap : Nat), kk = .int .i64 j ∧ j ≤ p.length ∧ out = .slice b (endsI p j).length cap ∧ wr.ownsRow w1.heap.size 2 1 (.slice b (endsI p j).length cap) (endsI p j).length ((endsI p j).map I64) ∧ Below w.heap.size w wr ∧ Below w1.heap.size w1 wr) (fun _ kk _ => p.length - (intOf kk).toNat)
    case atStart => exact ⟨0, _, 0, rfl, Nat.zero_le _, rfl, owns_empty w1, HB1.out.alloc HB1.out.size _, (Below.refl _ _).alloc (Nat.le_refl _) _⟩
    case round =>
      obtain ⟨j, b, cap, rfl, hj, rfl, hown, hbl, hbl1⟩ := hrel
      have HO := Lib.hid hown
      have HB := Lib.hid hbl
      have HBL := Lib.hid hbl1
      have HK := Lib.hid (HK1.out.below hbl1 HK1.out.lt)
      clear hown hbl hbl1 t0
      by_cases hlt : j < p.length
      · go_wp2_with fail
        refine (l07Children_any w.heap.size _ _ (p, q) j wr HK.out (HP.out.up HB.out (Nat.le_refl _)) hl64 HV0.out).mono ?_
        rintro e w2 ⟨v2, rfl, ho2, hb2⟩
        simp only at ho2
        obtain ⟨a2, c2, rfl⟩ := ho2.rd.shape
        have HO2 := Lib.hid (owns_below HO.out hb2 (Nat.le_refl _))
        have HB2 := Lib.hid (HB.out.trans (hb2.mono HB.out.size))
        have HBL2 := Lib.hid (HBL.out.trans (hb2.mono HBL.out.size))
        have hsz1 := (HK.out.below hb2 HK.out.lt).lt
        clear hb2 ho2 HO HB HBL
        by_cases he : kids p j = []
        · have he' : (((kidsI p j p.length).length : Int) == 0) = true := by rw [kidsI_nil.2 he]; rfl
          have HE := Lib.hid (endsI_yes he)
          have hlen := endsI_len p j
          obtain ⟨ks, hks⟩ : ∃ ks, ks = endsI p j := ⟨_, rfl⟩
          obtain ⟨kl, hkl⟩ : ∃ kl, kl = (kidsI p j p.length).length := ⟨_, rfl⟩
          rw [← hkl] at he' ⊢
          rw [← hks] at HO2 HE hlen ⊢
          clear he hks hkl
          go_wp2_with (at_builtin; refine app_ints rfl _ _ rfl w1.heap.size (.slice b ks.length cap) ks.length ks rfl (HO2.out.alloc _) _ [(j : Int)] rfl (slc_one _ _) (ks.length + 1) (ks ++ [(j : Int)]) (by simp) rfl (by omega) (by have := HBL2.out.size; simp; omega) ?_; intro b2 cap2 w3 hown2 hbl2 _ _)
          go_roundw
          case rel =>
            have e2 : Below w1.heap.size w2 w3 := ((Below.refl _ _).alloc HBL2.out.size _).trans hbl2
            have e1 : Below w.heap.size w2 w3 := e2.mono HB1.out.size
            exact ⟨j + 1, b2, cap2, by go_num, by omega, by rw [HE.out, List.length_append]; rfl, by rw [HE.out, List.length_append]; exact hown2, HB2.out.trans e1, HBL2.out.trans e2⟩
          case measure => simp [intOf]; omega
        · have he' : (((kidsI p j p.length).length : Int) == 0) = false := by
            have : (kidsI p j p.length).length ≠ 0 := fun e => he (kidsI_nil.1 (List.length_eq_zero_iff.1 e))
            rw [beq_eq_false_iff_ne]; omega
          have HE := Lib.hid (endsI_no he)
          obtain ⟨kl, hkl⟩ : ∃ kl, kl = (kidsI p j p.length).length := ⟨_, rfl⟩
          rw [← hkl] at he' ⊢
          clear he hkl
          go_wp2_with fail
          go_roundw
          case rel => exact ⟨j + 1, b, cap, by go_num, by omega, by rw [HE.out], by rw [HE.out]; exact HO2.out, HB2.out, HBL2.out⟩
          case measure => simp [intOf]; omega
      · obtain rfl : j = p.length := by omega
        go_wp2_with fail
        go_ret2
        exact ⟨_, by rw [HVV.out]; rfl, by rw [HR.out]; exact (OwnI.mk HO.out).wide HB1.out.size (Nat.le_refl _), HB.out⟩
  · rw [Bool.not_eq_true] at hv
    rw [hv]
    have HR := Lib.hid (show lvL (p, q) = [] from if_neg (by rw [hv]; simp))
    have HVV := Lib.hid hv
    clear hv
    go_wp2_with fail
    go_ret2
    exact ⟨_, by rw [HVV.out]; rfl, by rw [HR.out]; exact ⟨World.ownsRow_nil _ _ _ _, by intro g hg; cases hg⟩, HB1.out⟩

end Go.Proofs.Ytkcpncaedocdnaa
