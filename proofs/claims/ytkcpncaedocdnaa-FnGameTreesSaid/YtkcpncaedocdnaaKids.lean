/-
  Trees: the children of an index, by the program and by the reference.
-/
import Derived.Test.YtkcpncaedocdnaaTreeEnds
namespace Go.Proofs.Ytkcpncaedocdnaa
open Go.RowKit

/-- The children as integers. -/
def kidsI (P : List Int) (i m : Nat) : List Int := (kidsTo P i m).map fun (k : Nat) => (k : Int)
theorem kidsI_zero (P : List Int) (i : Nat) : kidsI P i 0 = [] := rfl
theorem kidsI_yes {P : List Int} {i m : Nat} (h : P.getD m 0 = (i : Int)) : kidsI P i (m + 1) = kidsI P i m ++ [(m : Int)] := by
  rw [kidsI, kidsTo_succ, h]; simp [kidsI]
theorem kidsI_no {P : List Int} {i m : Nat} (h : P.getD m 0 ≠ (i : Int)) : kidsI P i (m + 1) = kidsI P i m := by
  have : (P.getD m 0 == (i : Int)) = false := by simpa using h
  rw [kidsI, kidsTo_succ, this]; simp [kidsI]
theorem kidsI_len (P : List Int) (i m : Nat) : (kidsI P i m).length ≤ m := by
  have := kidsTo_len P i m
  simpa [kidsI] using this

set_option maxHeartbeats 1000000 in
theorem children_any (v : Value) (t : List Int × List Int) (i : Nat) (w : World) (h : RdT w v t) (hn : t.1.length ≤ 64) :
    Calls Try.prog 77 #[v, .int .i64 i] w fun e w' => ∃ v', e = .returned v' ∧ OwnI w.heap.size w'.heap.size w' v' (kidsI t.1 i t.1.length) ∧ Below w.heap.size w w' := by
  obtain ⟨p, q⟩ := t
  obtain ⟨a, c, a', c', rfl⟩ := h.shape
  simp only at h hn ⊢
  have HP := Lib.hid h.parts.1
  clear h
  go_enter Try.func77, Try.ntmps77
  go_wp2_with fail
  refine wp_at fun W hW => ?_
  have hb := Lib.hid (show Below w.heap.size w W by subst hW; (repeat' first | exact Below.refl _ _ | assumption | refine Below.alloc ?_ ?_ _ | refine Below.setCell ?_ ?_ _ | refine Below.drew ?_ | (simp; done) | (simp; omega)))
  clear hW
  go_loopw [5, 11] (fun out kk wr => ∃ (j : Nat) (b : Option Addr) (cap : Nat), kk = .int .i64 j ∧ j ≤ p.length ∧ out = .slice b (kidsI p i j).length cap ∧ wr.ownsRow w.heap.size 2 1 (.slice b (kidsI p i j).length cap) (kidsI p i j).length ((kidsI p i j).map I64) ∧ Below w.heap.size w wr) (fun _ kk _ => p.length - (intOf kk).toNat)
  case atStart => exact ⟨0, none, 0, rfl, Nat.zero_le _, rfl, World.ownsRow_nil _ _ _ _, hb.out⟩
  case round =>
    obtain ⟨j, b, cap, rfl, hj, rfl, hown, hbl⟩ := hrel
    have HO := Lib.hid hown
    have HB := Lib.hid hbl
    clear hown hbl
    by_cases hlt : j < p.length
    · obtain ⟨pb, po, rfl, _, hc⟩ := (HP.out.up HB.out (Nat.le_refl _)).at hlt
      obtain ⟨x, hx⟩ : ∃ x, x = p.getD j 0 := ⟨_, rfl⟩
      rw [← hx] at hc
      have HX := Lib.hid hx
      clear hx
      by_cases he : x = (i : Int)
      · have he' : (x == (i : Int)) = true := by simp [he]
        have HE := Lib.hid (kidsI_yes (P := p) (i := i) (m := j) (by rw [← HX.out]; exact he))
        have hlen := kidsI_len p i j
        obtain ⟨ks, hks⟩ : ∃ ks, ks = kidsI p i j := ⟨_, rfl⟩
        rw [← hks] at HO HE hlen ⊢
        clear he hks
        go_wp2_with (at_builtin; refine app_ints rfl _ _ rfl w.heap.size (.slice b ks.length cap) ks.length ks rfl (HO.out.alloc _) _ [(j : Int)] rfl (slc_one _ _) (ks.length + 1) (ks ++ [(j : Int)]) (by simp) rfl (by omega) (by have := HB.out.size; simp; omega) ?_; intro b2 cap2 w2 hown2 hbl2 _ _)
        go_roundw
        case rel => exact ⟨j + 1, b2, cap2, by go_num, by omega, by rw [HE.out, List.length_append]; rfl, by rw [HE.out, List.length_append]; exact hown2, HB.out.trans (((Below.refl _ _).alloc (Nat.le_refl _) _ |>.mono HB.out.size).trans hbl2)⟩
        case measure => simp [intOf]; omega
      · have he' : (x == (i : Int)) = false := by simp [he]
        have HE := Lib.hid (kidsI_no (P := p) (i := i) (m := j) (by rw [← HX.out]; exact he))
        clear he
        go_wp2_with fail
        go_roundw
        case rel => exact ⟨j + 1, b, cap, by go_num, by omega, by rw [HE.out], by rw [HE.out]; exact HO.out, HB.out⟩
        case measure => simp [intOf]; omega
    · obtain rfl : j = p.length := by omega
      go_wp2_with fail
      go_ret
      exact ⟨_, rfl, OwnI.mk HO.out, HB.out⟩

set_option maxHeartbeats 1000000 in
theorem l07Children_any (bb : Nat) (v v' : Value) (t : List Int × List Int) (i : Nat) (w : World) (hb : Blk w bb 28 #[v, v']) (h : RdT w (.agg #[v, v']) t) (hn : t.1.length ≤ 64) (h0 : t.1.getD 0 0 = -1) :
    Calls Try.prog 75 #[.pointer (some ⟨bb, 0, none⟩), .int .i64 i] w fun e w' => ∃ v', e = .returned v' ∧ OwnI w.heap.size w'.heap.size w' v' (kidsI t.1 i t.1.length) ∧ Below w.heap.size w w' := by
  obtain ⟨p, q⟩ := t
  obtain ⟨h1, h2⟩ := h.parts
  simp only at h1 h2 hn h0 ⊢
  obtain ⟨a, c, rfl⟩ := h1.shape
  have HP := Lib.hid h1
  have HK := Lib.hid hb
  have H0 := Lib.hid h0
  have e0 : (w.alloc (.cells #[] 2)).cell? ⟨bb, 0, none⟩ = some (.slice a p.length c) := (hb.alloc _).cell 0 rfl
  clear h h1 h2 hb h0
  go_enter Try.func75, Try.ntmps75
  go_wp2_with fail
  refine wp_at fun W hW => ?_
  have hb := Lib.hid (show Below w.heap.size w W by subst hW; (repeat' first | exact Below.refl _ _ | assumption | refine Below.alloc ?_ ?_ _ | refine Below.setCell ?_ ?_ _ | refine Below.drew ?_ | (simp; done) | (simp; omega)))
  have ho : Hid (W.ownsRow w.heap.size 2 1 (.slice (some ⟨w.heap.size, 0, none⟩) 0 0) 0 (([] : List Int).map I64)) := by subst hW; exact owns_empty w
  clear hW e0
  go_loopw [5, 13] (fun out kk wr => ∃ (j : Nat) (b : Option Addr) (cap : Nat), kk = .int .i64 j ∧ j ≤ p.length ∧ out = .slice b (kidsI p i j).length cap ∧ wr.ownsRow w.heap.size 2 1 (.slice b (kidsI p i j).length cap) (kidsI p i j).length ((kidsI p i j).map I64) ∧ Below w.heap.size w wr) (fun _ kk _ => p.length - (intOf kk).toNat)
  case atStart => exact ⟨0, _, 0, rfl, Nat.zero_le _, rfl, ho.out, hb.out⟩
  case round =>
    obtain ⟨j, b, cap, rfl, hj, rfl, hown, hbl⟩ := hrel
    have e1 : wr.cell? ⟨bb, 0, none⟩ = some (.slice a p.length c) := (HK.out.below hbl HK.out.lt).cell 0 rfl
    have HO := Lib.hid hown
    have HB := Lib.hid hbl
    clear hown hbl
    by_cases hlt : j < p.length
    · obtain ⟨pb, po, rfl, _, hc⟩ := (HP.out.up HB.out (Nat.le_refl _)).at hlt
      obtain ⟨x, hx⟩ : ∃ x, x = p.getD j 0 := ⟨_, rfl⟩
      rw [← hx] at hc
      have HX := Lib.hid hx
      clear hx
      by_cases he : x = (i : Int)
      · have he' : (x == (i : Int)) = true := by simp [he]
        have HE := Lib.hid (kidsI_yes (P := p) (i := i) (m := j) (by rw [← HX.out]; exact he))
        have hj0 : 0 < j := by
          rcases Nat.eq_zero_or_pos j with h | h
          · subst h; have := HX.out; rw [H0.out] at this; omega
          · exact h
        have hlen := kidsI_len p i j
        obtain ⟨ks, hks⟩ : ∃ ks, ks = kidsI p i j := ⟨_, rfl⟩
        rw [← hks] at HO HE hlen ⊢
        clear he hks
        go_wp2_with (at_builtin; refine app_ints rfl _ _ rfl w.heap.size (.slice b ks.length cap) ks.length ks rfl (HO.out.alloc _) _ [(j : Int)] rfl (slc_one _ _) (ks.length + 1) (ks ++ [(j : Int)]) (by simp) rfl (by omega) (by have := HB.out.size; simp; omega) ?_; intro b2 cap2 w2 hown2 hbl2 _ _)
        go_roundw
        case rel => exact ⟨j + 1, b2, cap2, by go_num, by omega, by rw [HE.out, List.length_append]; rfl, by rw [HE.out, List.length_append]; exact hown2, HB.out.trans (((Below.refl _ _).alloc (Nat.le_refl _) _ |>.mono HB.out.size).trans hbl2)⟩
        case measure => simp [intOf]; omega
      · have he' : (x == (i : Int)) = false := by simp [he]
        have HE := Lib.hid (kidsI_no (P := p) (i := i) (m := j) (by rw [← HX.out]; exact he))
        clear he
        go_wp2_with fail
        go_roundw
        case rel => exact ⟨j + 1, b, cap, by go_num, by omega, by rw [HE.out], by rw [HE.out]; exact HO.out, HB.out⟩
        case measure => simp [intOf]; omega
    · obtain rfl : j = p.length := by omega
      go_wp2_with fail
      go_ret
      exact ⟨_, rfl, OwnI.mk HO.out, HB.out⟩

end Go.Proofs.Ytkcpncaedocdnaa
