/-
  Trees: comparisons.
-/
import Derived.Test.YtkcpncaedocdnaaTree
import Derived.Test.YtkcpncaedocdnaaSame
namespace Go.Proofs.Ytkcpncaedocdnaa
open Go.RowKit

set_option maxHeartbeats 1000000 in
theorem eqTree_any (a1 a2 a3 a4 : Option Addr) (n1 n2 n3 n4 c1 c2 c3 c4 : Nat) (p q p' q' : List Int) (w : World) (h1 : p.length = n1) (h2 : q.length = n2) (h3 : p'.length = n3) (h4 : q'.length = n4)
    (s1 : Slc w (.slice a1 n1 c1) (p.map I64)) (s2 : Slc w (.slice a2 n2 c2) (q.map I64)) (s3 : Slc w (.slice a3 n3 c3) (p'.map I64)) (s4 : Slc w (.slice a4 n4 c4) (q'.map I64)) :
    Calls Try.prog 20 #[.agg #[.slice a1 n1 c1, .slice a2 n2 c2], .agg #[.slice a3 n3 c3, .slice a4 n4 c4]] w fun e w' => e = .returned (.bool (decide (p = p') && decide (q = q'))) ∧ Below w.heap.size w w' := by
  have hb0 : Below w.heap.size w ((w.alloc (.cells #[.slice a1 n1 c1, .slice a2 n2 c2] 28)).alloc (.cells #[.slice a3 n3 c3, .slice a4 n4 c4] 28)) := by (repeat' first | exact Below.refl _ _ | assumption | refine Below.alloc ?_ ?_ _ | refine Below.setCell ?_ ?_ _ | refine Below.drew ?_ | (simp; done) | (simp; omega))
  have S1 := Lib.hid (s1.below hb0 (Nat.le_refl _))
  have S2 := Lib.hid (s2.below hb0 (Nat.le_refl _))
  have S3 := Lib.hid (s3.below hb0 (Nat.le_refl _))
  have S4 := Lib.hid (s4.below hb0 (Nat.le_refl _))
  have H1 := Lib.hid h1
  have H2 := Lib.hid h2
  have H3 := Lib.hid h3
  have H4 := Lib.hid h4
  have HB := Lib.hid hb0
  clear s1 s2 s3 s4 h1 h2 h3 h4 hb0
  by_cases hp : p = p'
  · have E1 := Lib.hid (eqInts_any _ _ _ _ _ _ p p' _ H1.out H3.out S1.out S3.out)
    rw [show decide (p = p') = true from by simp [hp]] at E1
    have HP := Lib.hid (show (decide (p = p') && decide (q = q')) = decide (q = q') by simp [hp])
    clear hp
    go_enter Try.func20, Try.ntmps20
    go_wp2_with fail
    refine E1.out.mono ?_
    rintro e w1 ⟨rfl, k1, rfl⟩
    go_wp2_with fail
    refine (eqInts_any _ _ _ _ _ _ q q' _ H2.out H4.out (S2.out.drewN k1) (S4.out.drewN k1)).mono ?_
    rintro e w1 ⟨rfl, k2, rfl⟩
    obtain ⟨b, hb⟩ : ∃ b, b = decide (q = q') := ⟨_, rfl⟩
    rw [← hb]
    have HQ := Lib.hid hb
    clear hb
    cases b
    all_goals
      go_wp2_with fail
      go_ret
      exact ⟨by rw [HP.out, ← HQ.out]; rfl, by first | exact below_drewN HB.out _ | exact below_drewN (below_drewN HB.out _) _⟩
  · have E1 := Lib.hid (eqInts_any _ _ _ _ _ _ p p' _ H1.out H3.out S1.out S3.out)
    rw [show decide (p = p') = false from by simp [hp]] at E1
    have HP := Lib.hid (show (decide (p = p') && decide (q = q')) = false by simp [hp])
    clear hp
    go_enter Try.func20, Try.ntmps20
    go_wp2_with fail
    refine E1.out.mono ?_
    rintro e w1 ⟨rfl, k1, rfl⟩
    go_wp2_with fail
    go_ret
    exact ⟨by rw [HP.out]; rfl, below_drewN HB.out _⟩

set_option maxHeartbeats 1000000 in
theorem implSameTree_any (a1 a2 a3 a4 : Option Addr) (n1 n2 n3 n4 c1 c2 c3 c4 : Nat) (p q p' q' : List Int) (w : World) (h1 : p.length = n1) (h2 : q.length = n2) (h3 : p'.length = n3) (h4 : q'.length = n4)
    (s1 : Slc w (.slice a1 n1 c1) (p.map I64)) (s2 : Slc w (.slice a2 n2 c2) (q.map I64)) (s3 : Slc w (.slice a3 n3 c3) (p'.map I64)) (s4 : Slc w (.slice a4 n4 c4) (q'.map I64)) :
    Calls Try.prog 69 #[.agg #[.slice a1 n1 c1, .slice a2 n2 c2], .agg #[.slice a3 n3 c3, .slice a4 n4 c4]] w fun e w' => e = .returned (.bool (decide (p = p') && decide (q = q'))) ∧ Below w.heap.size w w' := by
  have hb0 : Below w.heap.size w ((w.alloc (.cells #[.slice a1 n1 c1, .slice a2 n2 c2] 28)).alloc (.cells #[.slice a3 n3 c3, .slice a4 n4 c4] 28)) := by (repeat' first | exact Below.refl _ _ | assumption | refine Below.alloc ?_ ?_ _ | refine Below.setCell ?_ ?_ _ | refine Below.drew ?_ | (simp; done) | (simp; omega))
  have S1 := Lib.hid (s1.below hb0 (Nat.le_refl _))
  have S2 := Lib.hid (s2.below hb0 (Nat.le_refl _))
  have S3 := Lib.hid (s3.below hb0 (Nat.le_refl _))
  have S4 := Lib.hid (s4.below hb0 (Nat.le_refl _))
  have H1 := Lib.hid h1
  have H2 := Lib.hid h2
  have H3 := Lib.hid h3
  have H4 := Lib.hid h4
  have HB := Lib.hid hb0
  clear s1 s2 s3 s4 h1 h2 h3 h4 hb0
  by_cases hp : p = p'
  · have E1 := Lib.hid (slicesEqual_any _ _ _ _ _ _ p p' _ H1.out H3.out S1.out S3.out)
    rw [show decide (p = p') = true from by simp [hp]] at E1
    have HP := Lib.hid (show (decide (p = p') && decide (q = q')) = decide (q = q') by simp [hp])
    clear hp
    go_enter Try.func69, Try.ntmps69
    go_wp2_with fail
    refine E1.out.mono ?_
    rintro e w1 ⟨rfl, k1, rfl⟩
    go_wp2_with fail
    refine (slicesEqual_any _ _ _ _ _ _ q q' _ H2.out H4.out (S2.out.drewN k1) (S4.out.drewN k1)).mono ?_
    rintro e w1 ⟨rfl, k2, rfl⟩
    obtain ⟨b, hb⟩ : ∃ b, b = decide (q = q') := ⟨_, rfl⟩
    rw [← hb]
    have HQ := Lib.hid hb
    clear hb
    cases b
    all_goals
      go_wp2_with fail
      go_ret
      exact ⟨by rw [HP.out, ← HQ.out]; rfl, by first | exact below_drewN HB.out _ | exact below_drewN (below_drewN HB.out _) _⟩
  · have E1 := Lib.hid (slicesEqual_any _ _ _ _ _ _ p p' _ H1.out H3.out S1.out S3.out)
    rw [show decide (p = p') = false from by simp [hp]] at E1
    have HP := Lib.hid (show (decide (p = p') && decide (q = q')) = false by simp [hp])
    clear hp
    go_enter Try.func69, Try.ntmps69
    go_wp2_with fail
    refine E1.out.mono ?_
    rintro e w1 ⟨rfl, k1, rfl⟩
    go_wp2_with fail
    go_ret
    exact ⟨by rw [HP.out]; rfl, below_drewN HB.out _⟩

end Go.Proofs.Ytkcpncaedocdnaa
