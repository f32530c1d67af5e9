/-
  Equal cases: the program's comparison.
-/
import Derived.Test.YtljhohacgceojaaCaseL
import Derived.Test.YtljhohacgceojaaSameL
import Derived.Test.YtljhohacgceojaaStr
namespace Go.Proofs.Ytljhohacgceojaa
open Go.RowKit

def eqBy {α : Type} (f : α → α → Bool) : List α → List α → Bool
  | [], [] => true
  | x :: xs, y :: ys => f x y && eqBy f xs ys
  | _, _ => false
theorem eqBy_len {α : Type} (f : α → α → Bool) : ∀ (a b : List α), a.length ≠ b.length → eqBy f a b = false
  | [], [], h => by simp at h
  | [], y :: ys, _ => rfl
  | x :: xs, [], _ => rfl
  | x :: xs, y :: ys, h => by simp only [eqBy, eqBy_len f xs ys (by simpa using h), Bool.and_false]
theorem eqBy_ne {α : Type} (f : α → α → Bool) (d : α) : ∀ (a b : List α) (k : Nat), k < a.length → k < b.length → f (a.getD k d) (b.getD k d) = false → eqBy f a b = false
  | [], b, k, h, _, _ => by simp at h
  | x :: xs, [], k, _, h, _ => by simp at h
  | x :: xs, y :: ys, 0, _, _, h => by simp only [List.getD_cons_zero] at h; simp only [eqBy, h, Bool.false_and]
  | x :: xs, y :: ys, k + 1, h1, h2, h => by
    simp only [List.getD_cons_succ] at h
    simp only [eqBy, eqBy_ne f d xs ys k (by simpa using h1) (by simpa using h2) h, Bool.and_false]
theorem eqBy_all {α : Type} (f : α → α → Bool) (d : α) : ∀ (a b : List α), a.length = b.length → (∀ k, k < a.length → f (a.getD k d) (b.getD k d) = true) → eqBy f a b = true
  | [], [], _, _ => rfl
  | [], y :: ys, h, _ => by simp at h
  | x :: xs, [], h, _ => by simp at h
  | x :: xs, y :: ys, h, h2 => by
    have h0 := h2 0 (by simp)
    simp only [List.getD_cons_zero] at h0
    simp only [eqBy, h0, Bool.true_and]
    exact eqBy_all f d xs ys (by simpa using h) fun k hk => by have := h2 (k + 1) (by simpa using hk); simpa using this

def sameC (x y : CaseD) : Bool := (decide (x.name = y.name) && (decide (x.form.letters = y.form.letters) && decide (x.form.clauses = y.form.clauses))) && decide (x.proof = y.proof)
def sameCL : List CaseD → List CaseD → Bool := eqBy sameC

set_option maxHeartbeats 1000000 in
theorem sameClo_any (v v' : Value) (x y : CaseD) (w : World) (h : RdCs w v x) (h' : RdCs w v' y) :
    Calls Try.prog 47 #[v, v'] w fun e w' => e = .returned (.bool (sameC x y)) ∧ Below w.heap.size w w' := by
  obtain ⟨a1, c1, a2, c2, rfl⟩ := h.shape
  obtain ⟨b1, e1, b2, e2, rfl⟩ := h'.shape
  obtain ⟨p1, p2, ps⟩ := h.parts
  obtain ⟨q1, q2, qs⟩ := h'.parts
  obtain ⟨n1, f1, r1⟩ := x
  obtain ⟨n2, f2, r2⟩ := y
  simp only at p1 p2 q1 q2 ⊢
  have P1 := Lib.hid p1
  have P2 := Lib.hid p2
  have Q1 := Lib.hid q1
  have Q2 := Lib.hid q2
  clear h h' p1 p2 q1 q2 ps qs
  by_cases hn : n1 = n2
  · subst hn
    go_enter Try.func47, Try.ntmps47
    go_wp2_with fail
    refine Calls.at fun W hW => ?_
    have HB := Lib.hid (show Below w.heap.size w W by subst hW; (repeat' first | exact Below.refl _ _ | assumption | refine Below.alloc ?_ ?_ _ | refine Below.setCell ?_ ?_ _ | refine Below.drew ?_ | (simp; done) | (simp; omega)))
    have HK := Lib.hid (show Blk W w.heap.size 37 #[.string n1, .int .i64 f1.letters, .slice a1 f1.clauses.length c1, .slice a2 r1.length c2] by subst hW; exact (Blk.new _ _ _).alloc _)
    have HM := Lib.hid (show Blk W (w.heap.size + 1) 37 #[.string n1, .int .i64 f2.letters, .slice b1 f2.clauses.length e1, .slice b2 r2.length e2] by subst hW; simpa using Blk.new (w.alloc (.cells #[.string n1, .int .i64 f1.letters, .slice a1 f1.clauses.length c1, .slice a2 r1.length c2] 37)) 37 #[.string n1, .int .i64 f2.letters, .slice b1 f2.clauses.length e1, .slice b2 r2.length e2])
    clear hW
    refine (implSameForm_any _ _ f1 f2 W (P1.out.up HB.out (Nat.le_refl _)) (Q1.out.up HB.out (Nat.le_refl _))).mono ?_
    rintro e w1 ⟨rfl, hb1⟩
    obtain ⟨bb, hbb⟩ : ∃ bb, bb = (decide (f1.letters = f2.letters) && decide (f1.clauses = f2.clauses)) := ⟨_, rfl⟩
    rw [← hbb]
    have HBB := Lib.hid hbb
    have HB1 := Lib.hid (HB.out.trans (hb1.mono HB.out.size))
    have d1 : w1.cell? ⟨w.heap.size, 3, none⟩ = some (.slice a2 r1.length c2) := (HK.out.below hb1 HK.out.lt).cell 3 rfl
    have d2 : w1.cell? ⟨w.heap.size + 1, 3, none⟩ = some (.slice b2 r2.length e2) := (HM.out.below hb1 HM.out.lt).cell 3 rfl
    clear hbb hb1 HK HM
    cases bb
    · go_wp2_with fail
      go_ret
      exact ⟨by unfold sameC; simp only [← HBB.out]; simp, HB1.out⟩
    · go_wp2_with fail
      refine (equalFuncL_any _ _ r1 r2 w1 (P2.out.up HB1.out (Nat.le_refl _)) (Q2.out.up HB1.out (Nat.le_refl _))).mono ?_
      rintro e w2 ⟨rfl, m, rfl⟩
      obtain ⟨cc, hcc⟩ : ∃ cc, cc = decide (r1 = r2) := ⟨_, rfl⟩
      rw [← hcc]
      have HCC := Lib.hid hcc
      clear hcc
      go_wp2_with fail
      go_ret
      exact ⟨by unfold sameC; simp only [← HBB.out, ← HCC.out]; simp, below_drewN HB1.out _⟩
  · have hxd := Lib.hid (show decide (n1 = n2) = false from decide_eq_false hn)
    have hb0 : (n1.toList == n2.toList) = false := str_ne hn
    clear hn
    go_enter Try.func47, Try.ntmps47
    go_wp2_with fail
    go_ret
    refine ⟨by unfold sameC; simp only [hxd.out]; simp, ?_⟩
    (repeat' first | exact Below.refl _ _ | assumption | refine Below.alloc ?_ ?_ _ | refine Below.setCell ?_ ?_ _ | refine Below.drew ?_ | (simp; done) | (simp; omega))

set_option maxHeartbeats 2000000 in
set_option maxRecDepth 4000 in
theorem implSameCases_any (v v' : Value) (xs ys : List CaseD) (w : World) (h : RdCL w v xs) (h' : RdCL w v' ys) :
    Calls Try.prog 15 #[v, v'] w fun e w' => e = .returned (.bool (sameCL xs ys)) ∧ Below w.heap.size w w' := by
  obtain ⟨a, c, rfl⟩ := h.shape
  obtain ⟨a', c', rfl⟩ := h'.shape
  have hm := h.len
  simp only [maxLen] at hm
  have H1 := Lib.hid h
  have H2 := Lib.hid h'
  clear h h'
  by_cases hl : xs.length = ys.length
  · have hne : ((xs.length : Int) != (ys.length : Int)) = false := by simp [hl]
    have HL := Lib.hid hl
    clear hl
    go_enter Try.func15, Try.ntmps15
    go_wp2_with go_in
    go_loopw [17] (fun i wr => ∃ k : Nat, i = .int .i64 k ∧ k ≤ xs.length ∧ Hid (∀ j, j < k → sameC (xs.getD j ICL) (ys.getD j ICL) = true) ∧ Hid (Below w.heap.size w wr)) (fun i _ => xs.length - (intOf i).toNat)
    case atStart => exact ⟨0, rfl, Nat.zero_le _, fun j hj => by omega, Below.refl _ _⟩
    case round =>
      obtain ⟨k, rfl, hk, hall, HB⟩ := hrel
      by_cases hlt : k < xs.length
      · have hlt2 : k < ys.length := by have := HL.out; omega
        obtain ⟨b, off, z1, z2, rfl, hb, x0, x1, x2, x3, hu⟩ := (H1.out.up HB.out (Nat.le_refl _)).at hlt
        obtain ⟨b', off', z1', z2', rfl, hb', y0, y1, y2, y3, hu'⟩ := (H2.out.up HB.out (Nat.le_refl _)).at hlt2
        obtain ⟨x, hx⟩ : ∃ x, x = xs.getD k ICL := ⟨_, rfl⟩
        obtain ⟨y, hy⟩ : ∃ y, y = ys.getD k ICL := ⟨_, rfl⟩
        rw [← hx] at x0 x1 hu
        rw [← hy] at y0 y1 hu'
        obtain ⟨p1, q1, p2, q2, hsz⟩ := hu.shape
        obtain ⟨P1, Q1, P2, Q2, hsy⟩ := hu'.shape
        simp only [Value.agg.injEq, Array.mk.injEq, List.cons.injEq, and_true, true_and] at hsz hsy
        obtain ⟨rfl, rfl⟩ := hsz
        obtain ⟨rfl, rfl⟩ := hsy
        have HX := Lib.hid hx
        have HY := Lib.hid hy
        have HU := Lib.hid hu
        have HU' := Lib.hid hu'
        have hlt2' : (k : Int) < ys.length := by omega
        clear hx hy hu hu'
        go_wp2_with fail
        refine Calls.at fun W hW => ?_
        have hbw := Lib.hid (show Below wr.heap.size wr W by subst hW; (repeat' first | exact Below.refl _ _ | assumption | refine Below.alloc ?_ ?_ _ | refine Below.setCell ?_ ?_ _ | refine Below.drew ?_ | (simp; done) | (simp; omega)))
        clear hW
        refine (sameClo_any _ _ x y W (HU.out.up hbw.out (Nat.le_refl _)) (HU'.out.up hbw.out (Nat.le_refl _))).mono ?_
        rintro e w1 ⟨rfl, hb1⟩
        have HB1 := Lib.hid ((HB.out.trans (hbw.out.mono HB.out.size)).trans (hb1.mono (Nat.le_trans HB.out.size hbw.out.size)))
        clear hb1
        obtain ⟨bb, hbb⟩ : ∃ bb, bb = sameC x y := ⟨_, rfl⟩
        rw [← hbb]
        have HBB := Lib.hid hbb
        clear hbb
        cases bb
        · go_wp2_with fail
          go_ret
          exact ⟨by rw [show sameCL xs ys = false from eqBy_ne sameC ICL xs ys k hlt hlt2 (by rw [← HX.out, ← HY.out]; exact HBB.out.symm)]; rfl, HB1.out⟩
        · go_wp2_with fail
          go_roundw
          case rel =>
            refine ⟨k + 1, by go_num, by omega, fun j hj => ?_, HB1.out⟩
            by_cases hjk : j < k
            · exact hall.out j hjk
            · obtain rfl : j = k := by omega
              rw [← HX.out, ← HY.out]; exact HBB.out.symm
          case measure => simp [intOf]; omega
      · obtain rfl : k = xs.length := by omega
        go_wp2_with fail
        go_ret
        exact ⟨by rw [show sameCL xs ys = true from eqBy_all sameC ICL xs ys HL.out hall.out]; rfl, HB.out⟩
  · have hne : ((xs.length : Int) != (ys.length : Int)) = true := by simp; omega
    have hx := Lib.hid (show sameCL xs ys = false from eqBy_len sameC xs ys hl)
    clear hl
    go_enter Try.func15, Try.ntmps15
    go_wp2_with go_in
    go_ret
    exact ⟨by rw [hx.out]; rfl, Below.refl _ _⟩

end Go.Proofs.Ytljhohacgceojaa
