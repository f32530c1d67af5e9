/-
  FnJournal: texts joined: RbI, RevI.
-/
import Derived.Deep.Cut
import Derived.Deep.RegionLaw
import Derived.Test.YtgkbbpajkbkgnaaGreatDoorMFnJournalAF
import Derived.Test.YtgkbbpajkbkgnaaGreatDoorMFnJournalAS
import Derived.Test.YtgkbbpajkbkgnaaGreatDoorMFnJournalAU
set_option linter.unusedVariables false
set_option linter.unusedSimpArgs false
namespace Go.Proofs.YtgkbbpajkbkgnaaGreatDoor
open Go.RowKit Go.Sort
def cityN (xs : List Int) : Nat := (citN xs.length).toNat
def tbB (xs : List Int) : Bool := areCitiesB xs && decide (3 ≤ citN xs.length)
def tbN (xs : List Int) : Int := if tbB xs = true then bndN (cityW xs (cityN xs)) (cityN xs) else 0
def rbB (xs : List Int) (r : Int) : Bool := areCitiesB xs && (decide (3 ≤ citN xs.length) && inB 0 50 r)
def rbN (xs : List Int) (r : Int) : Int := if rbB xs r = true then (raiseK xs (cityN xs) (r.toNat + 1)).2 else 0
theorem Tryz.entersTb (args : Array Value) (w : World) : (callFunc 293 args).run Tryz.prog w = .ok (.enter 293 args) w :=
  enters_of Tryz.func293 (by kernel_rfl) rfl args w
theorem tbWay_any (i k n bx bn xb xo len c x : Nat) (d : Int) (w : World) (hn : n ≤ 10) (hi : i < n) (hk : k < n) (hx : x = i * n + k) (hxl : x < len) (hbx : w.cell? ⟨bx, 0, none⟩ = some (.slice (some ⟨xb, xo, none⟩) len c)) (hbn : w.cell? ⟨bn, 0, none⟩ = some (.int .i64 n)) (hd : w.cell? ⟨xb, xo + x, none⟩ = some (.int .i64 d)) :
    Calls Tryz.prog 293 #[.int .i64 i, .int .i64 k, .pointer (some ⟨bx, 0, none⟩), .pointer (some ⟨bn, 0, none⟩)] w fun e w' => e = .returned (.int .i64 d) ∧ ∃ q, w' = w.drewN q := by
  obtain ⟨y, hy⟩ : ∃ y, y = i * n := ⟨_, rfl⟩
  have q1 : (i : Int) * (n : Int) = (y : Int) := by rw [hy]; exact (Int.natCast_mul i n).symm
  have hb := idx_lt hi hk
  have hnn : n * n ≤ 100 := Nat.mul_le_mul hn hn
  have q2 : IntKind.i64.wrap (y : Int) = (y : Int) := IntWalk.i64_in _ (by omega)
  have q3 : IntKind.i64.wrap ((y : Int) + (k : Int)) = (x : Int) := by rw [IntWalk.i64_in _ (by omega)]; omega
  have hxI : (x : Int) < (len : Int) := by omega
  clear hy hx hb hnn
  go_enter Tryz.func293, Tryz.ntmps293
  go_wp2_with fail
  go_ret
  exact ⟨rfl, 0, rfl⟩
set_option maxHeartbeats 4000000 in
set_option maxRecDepth 8000 in
theorem tbI_any (v : Value) (xs : List Int) (w : World) (h : RdI w v xs) :
    Calls Tryz.prog 233 #[v] w fun e w' => e = .returned (.tuple #[.int .i64 (tbN xs), .bool (tbB xs)]) ∧ Below w.heap.size w w' := by
  have HA := Lib.hid (fun X (hb : Below w.heap.size w X) => AreCities_any v xs X (h.up hb (Nat.le_refl _)))
  have HC := Lib.hid (fun X (hb : Below w.heap.size w X) => cities_any v xs X (h.up hb (Nat.le_refl _)))
  have HR := Lib.hid h
  obtain ⟨a, c, rfl⟩ := h.shape
  obtain ⟨q1, h1⟩ : ∃ q, areCitiesB xs = q := ⟨_, rfl⟩
  have H1 := Lib.hid h1
  have HBB := Lib.hid (show tbB xs = (q1 && decide (3 ≤ citN xs.length)) by unfold tbB; rw [h1])
  have HNN := Lib.hid (show tbN xs = if tbB xs = true then bndN (cityW xs (cityN xs)) (cityN xs) else 0 from rfl)
  rw [h1] at HA
  obtain ⟨x, hx⟩ : ∃ x, xs.length = x := ⟨_, rfl⟩
  have HXL := Lib.hid hx
  rw [hx] at HA HC HBB ⊢
  clear h h1 hx
  cases q1
  · have HB2 := Lib.hid (show tbB xs = false by rw [HBB.out]; rfl)
    go_enter Tryz.func233, Tryz.ntmps233
    go_upto_region 1 with fail
    refine wp_at fun W0 hW0 => ?_
    have HB0 := Lib.hid (show Below w.heap.size w W0 by subst hW0; (repeat' first | exact Below.refl _ _ | assumption | refine Below.alloc ?_ ?_ _ | refine Below.setCell ?_ ?_ _ | refine Below.drew ?_ | (simp; done) | (simp; omega)))
    have HK0 := Lib.hid (show Box W0 w.heap.size 27 (.slice a x c) by subst hW0; exact Box.new _ _ _)
    clear hW0
    have d0 := HK0.out.cell
    go_wp2_with (go_at_call 59; refine (HA.out W0 HB0.out).mono ?_; rintro e w1 ⟨rfl, hb1⟩)
    go_ret2
    exact ⟨by rw [HNN.out, HB2.out]; rfl, HB0.out.trans (hb1.mono HB0.out.size)⟩
  obtain ⟨n, hn1, hn10, hxl, hc, hW⟩ := cities_get H1.out
  have HW := Lib.hid hW
  have hcx : citN x = (n : Int) := by rw [← HXL.out]; exact hc
  have HXN := Lib.hid (show x = n * n by rw [← HXL.out]; exact hxl)
  have HCN := Lib.hid (show cityN xs = n by unfold cityN; rw [hc, Int.toNat_natCast])
  rw [hcx] at HBB HC
  clear hW hxl hc hcx
  by_cases h3 : 3 ≤ n
  case neg =>
    have h3I : (n : Int) < 3 := by omega
    have HB2 := Lib.hid (show tbB xs = false by rw [HBB.out, decide_eq_false (by omega)]; rfl)
    go_enter Tryz.func233, Tryz.ntmps233
    go_upto_region 1 with fail
    refine wp_at fun W0 hW0 => ?_
    have HB0 := Lib.hid (show Below w.heap.size w W0 by subst hW0; (repeat' first | exact Below.refl _ _ | assumption | refine Below.alloc ?_ ?_ _ | refine Below.setCell ?_ ?_ _ | refine Below.drew ?_ | (simp; done) | (simp; omega)))
    have HK0 := Lib.hid (show Box W0 w.heap.size 27 (.slice a x c) by subst hW0; exact Box.new _ _ _)
    clear hW0
    have d0 := HK0.out.cell
    go_wp2_with (first
      | (go_at_call 59; refine (HA.out W0 HB0.out).mono ?_; rintro e w1 ⟨rfl, hb1⟩; have hbb := HB0.out.trans (hb1.mono HB0.out.size); have d1 := (HK0.out.below hb1 HK0.out.lt).cell)
      | (go_at_call 60; refine (HC.out w1 hbb).mono ?_; rintro e w2 ⟨rfl, rfl⟩))
    go_ret2
    exact ⟨by rw [HNN.out, HB2.out]; rfl, hbb⟩
  have h3I : ¬ (n : Int) < 3 := by omega
  have HB2 := Lib.hid (show tbB xs = true by rw [HBB.out, decide_eq_true (by omega)]; rfl)
  have HNE := Lib.hid (show tbN xs = bndN (cityW xs n) n by rw [HNN.out, HB2.out, HCN.out]; rfl)
  rw [HNE.out, HB2.out]
  have hx0 : 0 < xs.length := by
    have h1 := HXL.out
    have h2 := HXN.out
    have h3 : 1 * 1 ≤ n * n := Nat.mul_le_mul hn1 hn1
    omega
  obtain ⟨xb, xo, rfl, hxb, _⟩ := HR.out.at (i := 0) hx0
  have HXC := Lib.hid (fun i (hi : i < x) X (hb : Below w.heap.size w X) => show X.cell? ⟨xb, xo + i, none⟩ = some (.int .i64 (xs.getD i 0)) by
    obtain ⟨b', o', e, _, d⟩ := (HR.out.up hb (Nat.le_refl _)).at (i := i) (by rw [HXL.out]; exact hi)
    simp only [Option.some.injEq, Addr.mk.injEq, and_true] at e
    obtain ⟨rfl, rfl⟩ := e
    exact d)
  clear hx0
  go_enter Tryz.func233, Tryz.ntmps233
  go_upto_region 1 with fail
  refine wp_at fun W0 hW0 => ?_
  have HB0 := Lib.hid (show Below w.heap.size w W0 by subst hW0; (repeat' first | exact Below.refl _ _ | assumption | refine Below.alloc ?_ ?_ _ | refine Below.setCell ?_ ?_ _ | refine Below.drew ?_ | (simp; done) | (simp; omega)))
  have HK0 := Lib.hid (show Box W0 w.heap.size 27 (.slice (some ⟨xb, xo, none⟩) x c) by subst hW0; exact Box.new _ _ _)
  clear hW0
  have d0 := HK0.out.cell
  go_upto_region 4 with (first
    | (go_at_call 59; refine (HA.out W0 HB0.out).mono ?_; rintro e w1 ⟨rfl, hb1⟩; have hbb := HB0.out.trans (hb1.mono HB0.out.size); have hk1 := HK0.out.below hb1 HK0.out.lt; have d1 := hk1.cell)
    | (go_at_call 60; refine (HC.out w1 hbb).mono ?_; rintro e w2 ⟨rfl, rfl⟩))
  refine wp_at fun W4 hW4 => ?_
  obtain ⟨bn, hbn⟩ : ∃ bn, bn = w1.heap.size := ⟨_, rfl⟩
  rw [← hbn]
  have HB4 := Lib.hid (show Below w.heap.size w W4 by subst hW4; exact hbb.alloc hbb.size _)
  have HK4 := Lib.hid (show Box W4 w.heap.size 27 (.slice (some ⟨xb, xo, none⟩) x c) by subst hW4; exact hk1.below ((Below.refl _ _).alloc (Nat.le_refl _) _) hk1.lt)
  have HN4 := Lib.hid (show Box W4 bn 2 (.int .i64 n) by subst hW4 hbn; exact Box.new _ _ _)
  have hk4 := HK4.out.lt
  have hn4 := HN4.out.lt
  clear hW4 hbn hbb hk1 d0 d1 hb1
  have dn := HN4.out.cell
  have HWY := Lib.hid (show WayOk 293 #[.pointer (some ⟨w.heap.size, 0, none⟩), .pointer (some ⟨bn, 0, none⟩)] n (cityW xs n) W4 from fun i k X hi hk hX => by
    have hlt := idx_lt hi hk
    have hx := HXN.out
    exact tbWay_any i k n w.heap.size bn xb xo x c (i * n + k) _ X hn10 hi hk rfl (by omega) (HK4.out.below hX hk4).cell (HN4.out.below hX hn4).cell (HXC.out _ (by omega) X (HB4.out.trans (hX.mono HB4.out.size))))
  have HBE := Lib.hid (boundEdges_any 293 _ Tryz.entersTb (cityW xs n) n 1000 h3 hn10 (by omega) (fun i k hi hk => by have := HW.out i k hi hk; omega) W4 HWY.out)
  go_wp2_with (go_at_call 292; refine HBE.out.mono ?_; rintro e w5 ⟨u, rfl, ho, hb5⟩)
  go_ret2
  exact ⟨rfl, HB4.out.trans (hb5.mono HB4.out.size)⟩
theorem bndN_rng {W : Nat → Nat → Int} {n B : Nat} (hn3 : 3 ≤ n) (hn : n ≤ 10) (hB : B ≤ 100000) (hWr : ∀ i k, i < n → k < n → -(B : Int) ≤ W i k ∧ W i k ≤ B) : -(2000000 : Int) ≤ bndN W n ∧ bndN W n ≤ 2000000 := by
  have h1 := tree_rng hWr hn3 (n - 2) (by omega)
  have h2 : B * (n - 2) ≤ 100000 * 10 := Nat.mul_le_mul hB (by omega)
  have h3 : ((B * (n - 2) : Nat) : Int) = (B : Int) * ((n - 2 : Nat) : Int) := by push_cast; rfl
  have a := hWr 0 _ (by omega) (wayO_rng W (k := 0) hn3 (by omega)).2
  have b := hWr 0 _ (by omega) (wayO_rng W (k := 1) hn3 (by omega)).2
  unfold bndN
  omega
theorem sumI_all (p : List Int) : ∀ k, sumI p k = allI p k
  | 0 => rfl
  | k + 1 => by simp only [sumI, allI]; rw [sumI_all p k]
theorem Tryz.entersRb (args : Array Value) (w : World) : (callFunc 314 args).run Tryz.prog w = .ok (.enter 314 args) w :=
  enters_of Tryz.func314 (by kernel_rfl) rfl args w
theorem rbWay_any (i k n bx bn bp xb xo pg len c pc x : Nat) (d a b : Int) (w : World) (hn : n ≤ 10) (hi : i < n) (hk : k < n) (hx : x = i * n + k) (hxl : x < len) (hbx : w.cell? ⟨bx, 0, none⟩ = some (.slice (some ⟨xb, xo, none⟩) len c)) (hbn : w.cell? ⟨bn, 0, none⟩ = some (.int .i64 n)) (hbp : w.cell? ⟨bp, 0, none⟩ = some (.slice (some ⟨pg, 0, none⟩) n pc)) (hd : w.cell? ⟨xb, xo + x, none⟩ = some (.int .i64 d)) (ha : w.cell? ⟨pg, i, none⟩ = some (.int .i64 a)) (hb : w.cell? ⟨pg, k, none⟩ = some (.int .i64 b)) (hr : -100000 ≤ d ∧ d ≤ 100000 ∧ -100000 ≤ a ∧ a ≤ 100000 ∧ -100000 ≤ b ∧ b ≤ 100000) :
    Calls Tryz.prog 314 #[.int .i64 i, .int .i64 k, .pointer (some ⟨bx, 0, none⟩), .pointer (some ⟨bn, 0, none⟩), .pointer (some ⟨bp, 0, none⟩)] w fun e w' => e = .returned (.int .i64 (d + a + b)) ∧ ∃ q, w' = w.drewN q := by
  obtain ⟨y, hy⟩ : ∃ y, y = i * n := ⟨_, rfl⟩
  have q1 : (i : Int) * (n : Int) = (y : Int) := by rw [hy]; exact (Int.natCast_mul i n).symm
  have hb' := idx_lt hi hk
  have hnn : n * n ≤ 100 := Nat.mul_le_mul hn hn
  have q2 : IntKind.i64.wrap (y : Int) = (y : Int) := IntWalk.i64_in _ (by omega)
  have q3 : IntKind.i64.wrap ((y : Int) + (k : Int)) = (x : Int) := by rw [IntWalk.i64_in _ (by omega)]; omega
  have hxI : (x : Int) < (len : Int) := by omega
  have hiI : (i : Int) < (n : Int) := by omega
  have hkI : (k : Int) < (n : Int) := by omega
  have w1 : IntKind.i64.wrap (d + a) = d + a := IntWalk.i64_in _ (by omega)
  have w2 : IntKind.i64.wrap (d + a + b) = d + a + b := IntWalk.i64_in _ (by omega)
  clear hy hx hb' hnn hr
  go_enter Tryz.func314, Tryz.ntmps314
  go_wp2_with fail
  go_quiet (fail)
  go_wp2_with fail
  go_ret
  exact ⟨rfl, _, rfl⟩
theorem price_rng {xs : List Int} {n : Nat} (hn3 : 3 ≤ n) (hn : n ≤ 10) {t : Nat} (ht : t ≤ 51) (i : Nat) : -(2000 : Int) ≤ (raiseK xs n t).1.getD i 0 ∧ (raiseK xs n t).1.getD i 0 ≤ 2000 := by
  have := raiseK_rng xs hn3 hn i t
  omega
set_option maxHeartbeats 8000000 in
set_option maxRecDepth 8000 in
theorem rbYes_any (v : Value) (xs : List Int) (R n : Nat) (w : World) (h : RdI w v xs) (hok : areCitiesB xs = true) (hn3 : 3 ≤ n) (hn10 : n ≤ 10) (hxl : xs.length = n * n) (hc : citN xs.length = (n : Int)) (hW : ∀ i k, i < n → k < n → 0 ≤ cityW xs n i k ∧ cityW xs n i k ≤ 1000) (hR : R ≤ 50) :
    Calls Tryz.prog 284 #[v, .int .i64 R] w fun e w' => ∃ u, e = .returned (.tuple #[.int .i64 (raiseK xs n (R + 1)).2, u, .bool true]) ∧ Below w.heap.size w w' := by
  have HA := Lib.hid (fun X (hb : Below w.heap.size w X) => AreCities_any v xs X (h.up hb (Nat.le_refl _)))
  rw [hok] at HA
  have HC := Lib.hid (fun X (hb : Below w.heap.size w X) => cities_any v xs X (h.up hb (Nat.le_refl _)))
  rw [hc] at HC
  have HR := Lib.hid h
  have HIR := Lib.hid (show inB 0 50 (R : Int) = true from inB_iff.2 (by omega))
  obtain ⟨a, c, rfl⟩ := h.shape
  have HW := Lib.hid hW
  have HXN := Lib.hid hxl
  have hx0 : 0 < xs.length := by
    have h3 : 3 * 3 ≤ n * n := Nat.mul_le_mul hn3 hn3
    omega
  obtain ⟨xb, xo, rfl, hxb, _⟩ := HR.out.at (i := 0) hx0
  have HXC := Lib.hid (fun i (hi : i < xs.length) X (hb : Below w.heap.size w X) => show X.cell? ⟨xb, xo + i, none⟩ = some (.int .i64 (xs.getD i 0)) by
    obtain ⟨b', o', e, _, d⟩ := (HR.out.up hb (Nat.le_refl _)).at (i := i) hi
    simp only [Option.some.injEq, Addr.mk.injEq, and_true] at e
    obtain ⟨rfl, rfl⟩ := e
    exact d)
  have HPR := Lib.hid (fun t (ht : t ≤ 51) i => price_rng (xs := xs) hn3 hn10 ht i)
  have HPL := Lib.hid (raiseK_len xs n)
  have HP0 := Lib.hid (show raiseK xs n 0 = (List.replicate n 0, 0) from rfl)
  have HPS := Lib.hid (fun t => show raiseK xs n (t + 1) = (lessK (addK (bndE (wayP xs n (raiseK xs n t).1) n) (raiseK xs n t).1 (bndE (wayP xs n (raiseK xs n t).1) n).length) n, if t = 0 ∨ (raiseK xs n t).2 < bndN (wayP xs n (raiseK xs n t).1) n - 2 * allI (raiseK xs n t).1 n then bndN (wayP xs n (raiseK xs n t).1) n - 2 * allI (raiseK xs n t).1 n else (raiseK xs n t).2) by
    rw [← sumI_all]; rfl)
  obtain ⟨T, hT⟩ : ∃ T, T = raiseK xs n := ⟨_, rfl⟩
  rw [← hT] at HPR HPL HP0 HPS ⊢
  obtain ⟨x, hx⟩ : ∃ x, xs.length = x := ⟨_, rfl⟩
  rw [hx] at HA HC HXN HXC ⊢
  have hmk := run_make_ints n (by omega)
  have hnI : ¬ (n : Int) < 3 := by omega
  have hn3d : decide ((n : Int) < 3) = false := decide_eq_false (by omega)
  have qT := eqNil_ints
  clear h hok hxl hc hW hx0 hT hx
  go_enter Tryz.func284, Tryz.ntmps284
  go_upto_region 1 with fail
  refine wp_at fun W0 hW0 => ?_
  have HB0 := Lib.hid (show Below w.heap.size w W0 by subst hW0; (repeat' first | exact Below.refl _ _ | assumption | refine Below.alloc ?_ ?_ _ | refine Below.setCell ?_ ?_ _ | refine Below.drew ?_ | (simp; done) | (simp; omega)))
  have HK0 := Lib.hid (show Box W0 w.heap.size 27 (.slice (some ⟨xb, xo, none⟩) x c) by subst hW0; exact Box.new _ _ _)
  clear hW0
  have d0 := HK0.out.cell
  go_upto_region 4 with (first
    | (go_at_call 59; refine (HA.out W0 HB0.out).mono ?_; rintro e w1 ⟨rfl, hb1⟩; have hbb := HB0.out.trans (hb1.mono HB0.out.size); have hk1 := HK0.out.below hb1 HK0.out.lt; have d1 := hk1.cell)
    | (go_at_call 60; refine (HC.out w1 hbb).mono ?_; rintro e w2 ⟨rfl, rfl⟩)
    | (go_at_call 115; refine (within_any _ _ _ _).mono ?_; rintro e w2 ⟨rfl, rfl⟩; rw [HIR.out]))
  refine wp_at fun W3 hW3 => ?_
  obtain ⟨bn, hbn⟩ : ∃ bn, bn = w1.heap.size := ⟨_, rfl⟩
  rw [← hbn]
  have HB3 := Lib.hid (show Below w.heap.size w W3 by subst hW3; exact hbb.alloc hbb.size _)
  have HK3 := Lib.hid (show Box W3 w.heap.size 27 (.slice (some ⟨xb, xo, none⟩) x c) by subst hW3; exact hk1.below ((Below.refl _ _).alloc (Nat.le_refl _) _) hk1.lt)
  have HN3 := Lib.hid (show Box W3 bn 2 (.int .i64 n) by subst hW3 hbn; exact Box.new _ _ _)
  have hk3 := HK3.out.lt
  have hn3' := HN3.out.lt
  have hbnw : w.heap.size < bn := by have := hk1.lt; omega
  clear hW3 hbn hbb hk1 d0 d1 hb1
  have d0 := HK3.out.cell
  have dn := HN3.out.cell
  go_upto_region 5 with fail
  refine wp_at fun W4 hW4 => ?_
  obtain ⟨pg, hpg⟩ : ∃ pg, pg = W3.heap.size := ⟨_, rfl⟩
  obtain ⟨bp, hbp⟩ : ∃ bp, bp = W3.heap.size + 1 := ⟨_, rfl⟩
  try rw [← hbp]
  try rw [← hpg]
  have hz3 := HB3.out.size
  have hbl34 : Below W3.heap.size W3 W4 := by subst hW4; exact ((Below.refl _ _).alloc (Nat.le_refl _) _).alloc (by simp) _
  have HB4 := Lib.hid (HB3.out.trans (hbl34.mono hz3))
  have HK4 := Lib.hid (HK3.out.below hbl34 hk3)
  have HN4 := Lib.hid (HN3.out.below hbl34 hn3')
  have HP4 := Lib.hid (show Box W4 bp 27 (.slice (some ⟨pg, 0, none⟩) n n) by subst hW4 hbp hpg; simpa using Box.new (W3.alloc (.cells (zerosA n) 2)) 27 (.slice (some ⟨W3.heap.size, 0, none⟩) n n))
  have HO4 := Lib.hid (show W4.ownsRow w.heap.size 2 1 (.slice (some ⟨pg, 0, none⟩) n n) n ((T 0).1.map I64) by
    subst hW4 hpg
    rw [HP0.out]
    exact (owns_base (owns_zerosI n (by omega) W3 _ rfl) hz3).alloc _)
  have hk4 := HK4.out.lt
  have hn4 := HN4.out.lt
  have hp4 := HP4.out.lt
  have hpgw : w.heap.size < pg := by omega
  have hpgn : bn < pg := by omega
  have hpgb : pg < bp := by omega
  clear hW4 hbl34 d0 dn hmk hpg hbp
  go_wp2_with fail
  go_loopw [1, 9, 10] (fun rv bv kv wr => ∃ (t : Nat) (ka : Option Addr) (kl kc : Nat), rv = .int .i64 ((R : Int) - (t : Int)) ∧ t ≤ R + 1 ∧ bv = .int .i64 (T t).2 ∧ kv = .slice ka kl kc ∧ Hid (ka.isNone = decide (t = 0)) ∧ Hid (wr.ownsRow w.heap.size 2 1 (.slice (some ⟨pg, 0, none⟩) n n) n ((T t).1.map I64)) ∧ Hid (Kept (· = pg) W4 wr)) (fun rv _ _ _ => (intOf rv + 1).toNat)
  case atStart => exact ⟨0, none, 0, 0, by simp, by omega, by rw [HP0.out], rfl, Lib.hid rfl, HO4, Lib.hid (Kept.refl _ _)⟩
  case round =>
    obtain ⟨t, ka, kl, kc, rfl, ht, rfl, rfl, HNI, HO, HK⟩ := hrel
    obtain ⟨wo, rfl⟩ : ∃ wo, wo = wr := ⟨wr, rfl⟩
    by_cases hlt : t < R + 1
    · have hltI : (0 : Int) ≤ (R : Int) - (t : Int) := by omega
      have hPL := HPL.out t
      have hPR := HPR.out t (by omega)
      have hPS := HPS.out t
      obtain ⟨⟨P, bt⟩, hp⟩ : ∃ p, p = T t := ⟨_, rfl⟩
      rw [← hp] at hPL hPR hPS HO ⊢
      simp only at hPL hPR hPS HO ⊢
      have HPL2 := Lib.hid hPL
      have HPR2 := Lib.hid hPR
      have hko := HK.out
      have HX0 := Lib.hid (show Box wo w.heap.size 27 (.slice (some ⟨xb, xo, none⟩) x c) from HK4.out.kept hko (by omega))
      have HX1 := Lib.hid (show Box wo bn 2 (.int .i64 n) from HN4.out.kept hko (by omega))
      have HX2 := Lib.hid (show Box wo bp 27 (.slice (some ⟨pg, 0, none⟩) n n) from HP4.out.kept hko (by omega))
      have HBW := Lib.hid (show Below w.heap.size w wo from HB4.out.trans (hko.toBelow HB4.out.size (by intro k h1 h2; omega)))
      have HPC := Lib.hid (fun i (hi : i < n) => show wo.cell? ⟨pg, i, none⟩ = some (.int .i64 (P.getD i 0)) by
        rw [HO.out.cellAt i (by omega), List.getElem?_map, List.getElem?_eq_getElem (by omega), List.getD_eq_getElem?_getD, List.getElem?_eq_getElem (by omega)]
        rfl)
      have hpgo : pg < wo.heap.size := (HO.out.lt pg rfl).2
      have HWY := Lib.hid (show WayOk 314 #[.pointer (some ⟨w.heap.size, 0, none⟩), .pointer (some ⟨bn, 0, none⟩), .pointer (some ⟨bp, 0, none⟩)] n (wayP xs n P) wo from fun i k X hi hk hX => by
        have hlt := idx_lt hi hk
        have hx := HXN.out
        have hw := HW.out i k hi hk
        have p1 := HPR2.out i
        have p2 := HPR2.out k
        exact rbWay_any i k n w.heap.size bn bp xb xo pg x c n (i * n + k) _ _ _ X hn10 hi hk rfl (by omega) (HX0.out.below hX HX0.out.lt).cell (HX1.out.below hX HX1.out.lt).cell (HX2.out.below hX HX2.out.lt).cell (HXC.out _ (by omega) X (HBW.out.trans (hX.mono HBW.out.size))) (held_of hX (HPC.out i hi) (Nat.le_refl _)) (held_of hX (HPC.out k hk) (Nat.le_refl _)) (by unfold cityW at hw; omega))
      have hWR : ∀ i k, i < n → k < n → -((10000 : Nat) : Int) ≤ wayP xs n P i k ∧ wayP xs n P i k ≤ (10000 : Nat) := fun i k hi hk => by
        have hw := HW.out i k hi hk
        have p1 := HPR2.out i
        have p2 := HPR2.out k
        unfold cityW at hw
        unfold wayP
        omega
      have HBE := Lib.hid (boundEdges_any 314 _ Tryz.entersRb (wayP xs n P) n 10000 hn3 hn10 (by omega) hWR wo HWY.out)
      have HBR := Lib.hid (bndN_rng (W := wayP xs n P) (B := 10000) hn3 hn10 (by omega) hWR)
      have HEL := Lib.hid (bndE_len (wayP xs n P) hn3)
      have HER := Lib.hid (bndE_rng (wayP xs n P) hn3)
      have HSR := Lib.hid (allI_bnd (xs := P) (B := 2000) (fun i => by have := HPR2.out i; push_cast; omega) n)
      obtain ⟨es, hes⟩ : ∃ es, es = bndE (wayP xs n P) n := ⟨_, rfl⟩
      obtain ⟨bd, hbd⟩ : ∃ bd, bd = bndN (wayP xs n P) n := ⟨_, rfl⟩
      rw [← hes] at HBE HEL HER hPS
      rw [← hbd] at HBE HBR hPS
      have HSM := Lib.hid (fun X (hX : RdI X (.slice (some ⟨pg, 0, none⟩) n n) P) => sumI_any (.slice (some ⟨pg, 0, none⟩) n n) P 2000 X hX (by omega) (by omega) (fun i => by have := HPR2.out i; push_cast; omega))
      rw [HPL2.out] at HSM
      obtain ⟨S, hS⟩ : ∃ S, S = allI P n := ⟨_, rfl⟩
      rw [← hS] at HSM HSR hPS
      rw [HEL.out] at hPS
      have hbr := HBR.out
      have hsr : -(20000 : Int) ≤ S ∧ S ≤ 20000 := by
        have h1 := HSR.out
        have h2 : 2000 * n ≤ 2000 * 10 := Nat.mul_le_mul (Nat.le_refl _) hn10
        omega
      have HAR := Lib.hid (fun i k (hk : k ≤ 20) => show -(3000 : Int) ≤ (addK es P k).getD i 0 ∧ (addK es P k).getD i 0 ≤ 3000 from by
        have h1 := addK_rng es P i k
        have h2 := HPR2.out i
        omega)
      have HAL := Lib.hid (fun k => show (addK es P k).length = n by rw [addK_len]; exact HPL2.out)
      have HAS := Lib.hid (fun k => show addK es P (k + 1) = (addK es P k).set (es.getD k 0) ((addK es P k).getD (es.getD k 0) 0 + 1) from rfl)
      have HA0 := Lib.hid (show addK es P 0 = P from rfl)
      have HLR := Lib.hid (fun i k => show -(4000 : Int) ≤ (lessK (addK es P (2 * n)) k).getD i 0 ∧ (lessK (addK es P (2 * n)) k).getD i 0 ≤ 4000 from by
        have h1 := lessK_rng (addK es P (2 * n)) i k
        have h2 := HAR.out i (2 * n) (by omega)
        omega)
      have HLL := Lib.hid (fun k => show (lessK (addK es P (2 * n)) k).length = n by rw [lessK_len]; exact HAL.out _)
      have HLS := Lib.hid (fun k => show lessK (addK es P (2 * n)) (k + 1) = (lessK (addK es P (2 * n)) k).set k ((lessK (addK es P (2 * n)) k).getD k 0 - 2) from rfl)
      have HL0 := Lib.hid (show lessK (addK es P (2 * n)) 0 = addK es P (2 * n) from rfl)
      obtain ⟨AK, hAK⟩ : ∃ AK, AK = addK es P := ⟨_, rfl⟩
      rw [← hAK] at HAR HAL HAS HA0 HLR HLL HLS HL0 hPS
      obtain ⟨m, hm⟩ : ∃ m, m = 2 * n := ⟨_, rfl⟩
      have HEL2 := Lib.hid (show es.length = m by rw [HEL.out, hm])
      rw [← hm] at HLR HLL HLS HL0 hPS
      have hm20 : 0 < m ∧ m ≤ 20 := by omega
      obtain ⟨LK, hLK⟩ : ∃ LK, LK = lessK (AK m) := ⟨_, rfl⟩
      rw [← hLK] at HLR HLL HLS HL0 hPS
      have HPSS := Lib.hid hPS
      have h2s : IntKind.i64.wrap (2 * S) = 2 * S := IntWalk.i64_in _ (by omega)
      have hnb : IntKind.i64.wrap (bd - 2 * S) = bd - 2 * S := IntWalk.i64_in _ (by omega)
      have hrd : IntKind.i64.wrap ((R : Int) - (t : Int) - 1) = (R : Int) - ((t + 1 : Nat) : Int) := by rw [IntWalk.i64_in _ (by omega)]; push_cast; omega
      have HEX := Lib.hid (fun j (hj : j < m) => HER.out (es.getD j 0) (by rw [List.getD_eq_getElem?_getD, List.getElem?_eq_getElem (by rw [HEL2.out]; exact hj)]; exact List.getElem_mem _))
      have hzo := HBW.out.size
      have d1 := HX1.out.cell
      clear hp hPL hPR hPS hko hWR hes hbd hS hAK hm hLK hbr hsr
      go_upto_region 10 with (go_at_call 292; refine HBE.out.mono ?_; rintro e w5 ⟨u, rfl, hoe, hb5⟩; obtain ⟨eb, ec, hu, heb1, heb2⟩ := owns_pos hoe.1 (by rw [idxs_len, HEL2.out]; omega); rw [idxs_len, HEL2.out] at hu; subst hu)
      have HB5 := Lib.hid hb5
      have hz5 := hb5.size
      have HG5 := Lib.hid (show w5.ownsRow w.heap.size 2 1 (.slice (some ⟨pg, 0, none⟩) n n) n (P.map I64) from owns_belowB HO.out hb5 (fun g' e => by have : pg = g' := Option.some.inj e; omega))
      have HE5 := Lib.hid (show w5.ownsRow wo.heap.size 2 1 (.slice (some ⟨eb, 0, none⟩) m ec) m ((idxs es).map I64) by
        have := hoe.1
        rw [idxs_len, HEL2.out] at this
        exact this)
      have HK5 := Lib.hid (show Kept (· = pg) W4 w5 from HK.out.below hb5 HK.out.size)
      have d2 := (HX2.out.below hb5 HX2.out.lt).cell
      clear hoe hb5 d1
      go_upto_region 11 with (go_at_call 291; refine (HSM.out w5 (slc_of_owns HG5.out)).mono ?_; rintro e w6 ⟨rfl, rfl⟩)
      have HCP := Lib.hid (copyI_n (some ⟨pg, 0, none⟩) n n P w5 HPL2.out (slc_of_owns HG5.out) (by omega))
      obtain ⟨nb, hnb2⟩ : ∃ nb, nb = bd - 2 * S := ⟨_, rfl⟩
      rw [← hnb2] at HPSS hnb ⊢
      clear hnb2 hnb h2s
      have key : (ka = none ∧ t = 0) ∨ ((∃ a, ka = some a) ∧ t ≠ 0) := by
        have := HNI.out
        cases ka with
        | none => left; refine ⟨rfl, ?_⟩; simpa using this
        | some a => right; refine ⟨⟨a, rfl⟩, ?_⟩; simpa using this
      rcases key with ⟨rfl, ht0⟩ | ⟨⟨a0, rfl⟩, ht0⟩
      focus
        have HPT := Lib.hid (show T (t + 1) = (LK n, nb) by rw [HPSS.out, if_pos (.inl ht0)])
        have HT0 := Lib.hid ht0
        clear ht0
        go_upto_region 13 with (go_at_call 123; refine HCP.out.mono ?_; rintro e w6 ⟨g, gc, rfl, hog, hb6⟩)
        refine wp_at fun W6 hW6 => ?_
        have HB6 := Lib.hid (show Below w5.heap.size w5 W6 by subst hW6; exact hb6)
        clear hW6 hog hb6
      rotate_left
      focus
        by_cases hlt2 : bt < nb
        focus
          have hlt2d : decide (bt < nb) = true := decide_eq_true hlt2
          have HPT := Lib.hid (show T (t + 1) = (LK n, nb) by rw [HPSS.out, if_pos (.inr hlt2)])
          have HT0 := Lib.hid ht0
          clear ht0
          go_upto_region 13 with (go_at_call 123; refine HCP.out.mono ?_; rintro e w6 ⟨g, gc, rfl, hog, hb6⟩)
          refine wp_at fun W6 hW6 => ?_
          have HB6 := Lib.hid (show Below w5.heap.size w5 W6 by subst hW6; exact hb6)
          clear hW6 hog hb6
        rotate_left
        focus
          have hlt2d : decide (bt < nb) = false := decide_eq_false hlt2
          have HPT := Lib.hid (show T (t + 1) = (LK n, bt) by rw [HPSS.out, if_neg (by rintro (h | h); exact ht0 h; exact hlt2 h)])
          have HT0 := Lib.hid ht0
          clear ht0
          go_upto_region 13 with fail
          refine wp_at fun W6 hW6 => ?_
          have HB6 := Lib.hid (show Below w5.heap.size w5 W6 by subst hW6; exact Below.refl _ _)
          clear hW6
      all_goals
        have HG6 := Lib.hid (owns_belowB HG5.out HB6.out (fun g' e => by have : pg = g' := Option.some.inj e; omega))
        have HE6 := Lib.hid (owns_below HE5.out HB6.out (Nat.le_refl _))
        have HK6 := Lib.hid (show Kept (· = pg) W4 W6 from HK5.out.below HB6.out HK5.out.size)
        have HEC := Lib.hid (fun j (hj : j < m) X (hK : Kept (· = pg) W6 X) => show X.cell? ⟨eb, j, none⟩ = some (.int .i64 ((es.getD j 0 : Nat) : Int)) by
          have h1 := HE6.out.cellAt j (by omega)
          have h2 := (HE6.out.lt eb rfl).2
          rw [hK.cell h2 (by show eb ≠ pg; omega), h1, List.getElem?_map]
          unfold idxs
          rw [List.getElem?_map, List.getElem?_eq_getElem (by rw [HEL2.out]; exact hj), List.getD_eq_getElem?_getD, List.getElem?_eq_getElem (by rw [HEL2.out]; exact hj)]
          rfl)
        have HBP := Lib.hid (fun X (hK : Kept (· = pg) W6 X) => show X.cell? ⟨bp, 0, none⟩ = some (.slice (some ⟨pg, 0, none⟩) n n) from (HP4.out.kept (HK6.out.trans hK) (by omega)).cell)
        clear d2
        go_wp2_with fail
        go_loopw [60] (fun jv wr => ∃ j : Nat, jv = .int .i64 j ∧ j ≤ m ∧ Hid (wr.ownsRow w.heap.size 2 1 (.slice (some ⟨pg, 0, none⟩) n n) n ((AK j).map I64)) ∧ Hid (Kept (· = pg) W6 wr)) (fun jv _ => m + 1 - (intOf jv).toNat)
        case atStart => exact ⟨0, rfl, Nat.zero_le _, Lib.hid (by rw [HA0.out]; exact HG6.out), Lib.hid (Kept.refl _ _)⟩
        case round =>
          obtain ⟨j, rfl, hj, HG, HKW⟩ := hrel
          by_cases hjm : j < m
          · have hjI : (j : Int) < (m : Int) := by omega
            have co := HEC.out j hjm wr HKW.out
            have db := HBP.out wr HKW.out
            have hex := HEX.out j hjm
            have has := HAS.out j
            have hal := HAL.out j
            have har := HAR.out (es.getD j 0) j (by omega)
            obtain ⟨i, hi⟩ : ∃ i, i = es.getD j 0 := ⟨_, rfl⟩
            rw [← hi] at co hex has har
            have c1 : wr.cell? ⟨pg, i, none⟩ = some (.int .i64 ((AK j).getD i 0)) := by
              rw [HG.out.cellAt i (by omega), List.getElem?_map, List.getElem?_eq_getElem (by omega), List.getD_eq_getElem?_getD, List.getElem?_eq_getElem (by omega)]
              rfl
            have c2 := HG.out.frozenAt i
            obtain ⟨y, hy⟩ : ∃ y, y = (AK j).getD i 0 := ⟨_, rfl⟩
            rw [← hy] at c1 has har
            have HASS := Lib.hid has
            have hadd : IntKind.i64.wrap (y + 1) = y + 1 := IntWalk.i64_in _ (by omega)
            have hiI : (i : Int) < (n : Int) := by omega
            clear hi hy has hal har
            go_wp2_with fail
            go_roundw
            case rel =>
              refine ⟨j + 1, by go_num, by omega, Lib.hid ?_, Lib.hid (HKW.out.setCell (.inr rfl) _)⟩
              rw [HASS.out, List.map_set]
              exact (HG.out.stored i (.int .i64 (y + 1))).1
            case measure => simp [intOf]; omega
          · obtain rfl : j = m := by omega
            have db := HBP.out wr HKW.out
            obtain ⟨wq, rfl⟩ : ∃ wq, wq = wr := ⟨wr, rfl⟩
            have HG7 := Lib.hid (show wq.ownsRow w.heap.size 2 1 (.slice (some ⟨pg, 0, none⟩) n n) n ((LK 0).map I64) by rw [HL0.out]; exact HG.out)
            go_wp2_with fail
            go_loopw [73] (fun jv wr => ∃ j : Nat, jv = .int .i64 j ∧ j ≤ n ∧ Hid (wr.ownsRow w.heap.size 2 1 (.slice (some ⟨pg, 0, none⟩) n n) n ((LK j).map I64)) ∧ Hid (Kept (· = pg) W6 wr)) (fun jv _ => n + 1 - (intOf jv).toNat)
            case atStart => exact ⟨0, rfl, Nat.zero_le _, HG7, HKW⟩
            case round =>
              obtain ⟨i, rfl, hi, HG, HKW⟩ := hrel
              have db := HBP.out wr HKW.out
              by_cases hin : i < n
              · have hiI : (i : Int) < (n : Int) := by omega
                have hls := HLS.out i
                have hll := HLL.out i
                have hlr := HLR.out i i
                have c1 : wr.cell? ⟨pg, i, none⟩ = some (.int .i64 ((LK i).getD i 0)) := by
                  rw [HG.out.cellAt i (by omega), List.getElem?_map, List.getElem?_eq_getElem (by omega), List.getD_eq_getElem?_getD, List.getElem?_eq_getElem (by omega)]
                  rfl
                have c2 := HG.out.frozenAt i
                obtain ⟨y, hy⟩ : ∃ y, y = (LK i).getD i 0 := ⟨_, rfl⟩
                rw [← hy] at c1 hls hlr
                have HLSS := Lib.hid hls
                have hadd : IntKind.i64.wrap (y - 2) = y - 2 := IntWalk.i64_in _ (by omega)
                clear hy hls hll hlr
                go_wp2_with fail
                go_roundw
                case rel =>
                  refine ⟨i + 1, by go_num, by omega, Lib.hid ?_, Lib.hid (HKW.out.setCell (.inr rfl) _)⟩
                  rw [HLSS.out, List.map_set]
                  exact (HG.out.stored i (.int .i64 (y - 2))).1
                case measure => simp [intOf]; omega
              · obtain rfl : i = n := by omega
                go_wp2_with fail
                go_roundw
                case rel => exact ⟨t + 1, _, _, _, by first | rfl | trivial, by omega, by rw [HPT.out], rfl, Lib.hid (by simp), Lib.hid (by rw [HPT.out]; exact HG.out), Lib.hid (HK6.out.trans HKW.out)⟩
                case measure => simp [intOf]; omega
    · have hltI : ¬ (0 : Int) ≤ (R : Int) - (t : Int) := by omega
      obtain rfl : t = R + 1 := by omega
      go_wp2_with fail
      go_ret3
      exact ⟨⟨_, rfl⟩, HB4.out.trans (HK.out.toBelow HB4.out.size (by intro k h1 h2; omega))⟩
set_option maxHeartbeats 2000000 in
theorem rbI_any (v : Value) (xs : List Int) (r : Int) (w : World) (h : RdI w v xs) :
    Calls Tryz.prog 284 #[v, .int .i64 r] w fun e w' => ∃ u, e = .returned (.tuple #[.int .i64 (rbN xs r), u, .bool (rbB xs r)]) ∧ Below w.heap.size w w' := by
  have HN := Lib.hid (show rbN xs r = if rbB xs r = true then (raiseK xs (cityN xs) (r.toNat + 1)).2 else 0 from rfl)
  have HF := Lib.hid (show rbB xs r = (areCitiesB xs && (decide (3 ≤ citN xs.length) && inB 0 50 r)) from rfl)
  by_cases hb : rbB xs r = true
  · have hb2 := hb
    rw [HF.out, Bool.and_eq_true, Bool.and_eq_true, inB_iff, decide_eq_true_eq] at hb2
    obtain ⟨h1, h2, h3⟩ := hb2
    obtain ⟨R, rfl⟩ := Int.eq_ofNat_of_zero_le h3.1
    obtain ⟨n, hn1, hn10, hxl, hc, hW⟩ := cities_get h1
    refine (rbYes_any v xs R n w h h1 (by omega) hn10 hxl hc hW (by omega)).mono ?_
    rintro e w' ⟨u, rfl, hbl⟩
    refine ⟨u, ?_, hbl⟩
    rw [HN.out, hb, if_pos rfl, show cityN xs = n by unfold cityN; rw [hc, Int.toNat_natCast], Int.toNat_natCast]
  · have hbf : rbB xs r = false := by simpa using hb
    rw [hbf] at HN ⊢
    have HN2 := Lib.hid (show rbN xs r = 0 by rw [HN.out]; rfl)
    rw [HF.out] at hbf
    rw [HN2.out]
    obtain ⟨q1, h1⟩ : ∃ q, areCitiesB xs = q := ⟨_, rfl⟩
    obtain ⟨q2, h2⟩ : ∃ q, inB 0 50 r = q := ⟨_, rfl⟩
    obtain ⟨q3, h3⟩ : ∃ q, decide (3 ≤ citN xs.length) = q := ⟨_, rfl⟩
    rw [h1, h2, h3] at hbf
    have HA := Lib.hid (fun X (hb : Below w.heap.size w X) => AreCities_any v xs X (h.up hb (Nat.le_refl _)))
    rw [h1] at HA
    have HC := Lib.hid (fun X (hb : Below w.heap.size w X) => cities_any v xs X (h.up hb (Nat.le_refl _)))
    obtain ⟨a, c, rfl⟩ := h.shape
    have HBF := Lib.hid hbf
    have H2 := Lib.hid h2
    have H3 := Lib.hid h3
    obtain ⟨y, hy⟩ : ∃ y, y = citN xs.length := ⟨_, rfl⟩
    rw [← hy] at HC H3
    obtain ⟨n, hn⟩ : ∃ n, n = xs.length := ⟨_, rfl⟩
    rw [← hn] at HA HC ⊢
    clear h h1 h2 h3 hbf hb HN HF hn hy
    go_enter Tryz.func284, Tryz.ntmps284
    go_upto_region 1 with fail
    refine wp_at fun W0 hW0 => ?_
    have HB0 := Lib.hid (show Below w.heap.size w W0 by subst hW0; (repeat' first | exact Below.refl _ _ | assumption | refine Below.alloc ?_ ?_ _ | refine Below.setCell ?_ ?_ _ | refine Below.drew ?_ | (simp; done) | (simp; omega)))
    have HK0 := Lib.hid (show Box W0 w.heap.size 27 (.slice a n c) by subst hW0; exact Box.new _ _ _)
    clear hW0
    have d0 := HK0.out.cell
    cases q1
    · go_wp2_with (go_at_call 59; refine (HA.out W0 HB0.out).mono ?_; rintro e w1 ⟨rfl, hb1⟩)
      go_ret3
      exact ⟨_, rfl, HB0.out.trans (hb1.mono HB0.out.size)⟩
    cases q3
    · have hy3 : decide (y < 3) = true := by
        have := H3.out
        rw [decide_eq_false_iff_not] at this
        exact decide_eq_true (by omega)
      go_wp2_with (first
        | (go_at_call 59; refine (HA.out W0 HB0.out).mono ?_; rintro e w1 ⟨rfl, hb1⟩; have hbb := HB0.out.trans (hb1.mono HB0.out.size); have d1 := (HK0.out.below hb1 HK0.out.lt).cell)
        | (go_at_call 60; refine (HC.out w1 hbb).mono ?_; rintro e w2 ⟨rfl, rfl⟩))
      go_ret3
      exact ⟨_, rfl, hbb⟩
    have hy3 : decide (y < 3) = false := by
      have := H3.out
      rw [decide_eq_true_eq] at this
      exact decide_eq_false (by omega)
    have hq2 : q2 = false := by
      have := HBF.out
      simpa using this
    rw [hq2] at H2
    clear hq2 HBF
    go_wp2_with (first
      | (go_at_call 59; refine (HA.out W0 HB0.out).mono ?_; rintro e w1 ⟨rfl, hb1⟩; have hbb := HB0.out.trans (hb1.mono HB0.out.size); have d1 := (HK0.out.below hb1 HK0.out.lt).cell)
      | (go_at_call 60; refine (HC.out w1 hbb).mono ?_; rintro e w2 ⟨rfl, rfl⟩)
      | (go_at_call 115; refine (within_any _ _ _ _).mono ?_; rintro e w2 ⟨rfl, rfl⟩; rw [H2.out]))
    go_ret3
    exact ⟨_, rfl, hbb⟩
end Go.Proofs.YtgkbbpajkbkgnaaGreatDoor

namespace Go.Proofs.YtgkbbpajkbkgnaaGreatDoor
open Go.RowKit
def revK (l : List Int) (k : Nat) : List Int := (List.range l.length).map fun x => if x < k ∨ l.length - k ≤ x then l.getD (l.length - 1 - x) 0 else l.getD x 0
theorem revK_len (l : List Int) (k : Nat) : (revK l k).length = l.length := by unfold revK; simp
theorem revK_at (l : List Int) (k x : Nat) (hx : x < l.length) : (revK l k)[x]? = some (if x < k ∨ l.length - k ≤ x then l.getD (l.length - 1 - x) 0 else l.getD x 0) := by
  unfold revK
  rw [List.getElem?_map, List.getElem?_range hx]
  rfl
theorem revK_zero (l : List Int) : revK l 0 = l := by
  refine List.ext_getElem? fun x => ?_
  by_cases hx : x < l.length
  · rw [revK_at l 0 x hx, if_neg (by omega), List.getD_eq_getElem?_getD, List.getElem?_eq_getElem hx]
    rfl
  · rw [List.getElem?_eq_none (by rw [revK_len]; omega), List.getElem?_eq_none (by omega)]
theorem revK_end (l : List Int) (k : Nat) (hk : l.length ≤ 2 * k + 1) : revK l k = l.reverse := by
  refine List.ext_getElem? fun x => ?_
  by_cases hx : x < l.length
  · rw [revK_at l k x hx, List.getElem?_reverse hx, List.getElem?_eq_getElem (by omega)]
    by_cases c : x < k ∨ l.length - k ≤ x
    · rw [if_pos c, List.getD_eq_getElem?_getD, List.getElem?_eq_getElem (by omega)]
      rfl
    · rw [if_neg c, List.getD_eq_getElem?_getD]
      have e : l.length - 1 - x = x := by omega
      simp only [e]
      rw [List.getElem?_eq_getElem hx]
      rfl
  · rw [List.getElem?_eq_none (by rw [revK_len]; omega), List.getElem?_eq_none (by rw [List.length_reverse]; omega)]
theorem revK_next (l : List Int) (k : Nat) (hk : 2 * k + 1 < l.length) : revK l (k + 1) = ((revK l k).set k (l.getD (l.length - 1 - k) 0)).set (l.length - 1 - k) (l.getD k 0) := by
  refine List.ext_getElem? fun x => ?_
  by_cases hx : x < l.length
  · rw [revK_at l (k + 1) x hx, List.getElem?_set, List.getElem?_set, List.length_set, revK_len, revK_at l k x hx]
    by_cases e1 : l.length - 1 - k = x
    · rw [if_pos e1, if_pos (by omega), if_pos (by omega)]
      have : l.length - 1 - x = k := by omega
      rw [this]
    · rw [if_neg e1]
      by_cases e2 : k = x
      · rw [if_pos e2, if_pos (by omega), if_pos (by omega), e2]
      · rw [if_neg e2]
        by_cases c : x < k ∨ l.length - k ≤ x
        · rw [if_pos c, if_pos (by omega)]
        · rw [if_neg c, if_neg (by omega)]
  · rw [List.getElem?_eq_none (by rw [revK_len]; omega), List.getElem?_eq_none (by rw [List.length_set, List.length_set, revK_len]; omega)]
set_option maxHeartbeats 2000000 in
set_option maxRecDepth 4000 in
theorem rev_any (base g n cap : Nat) (l : List Int) (w : World) (hl : l.length = n) (hn : n ≤ 1000000) (h : w.ownsRow base 2 1 (.slice (some ⟨g, 0, none⟩) n cap) n (l.map I64)) :
    Calls Tryz.prog 70 #[.slice (some ⟨g, 0, none⟩) n cap] w fun e w' => e = .returned (.tuple #[]) ∧ w'.ownsRow base 2 1 (.slice (some ⟨g, 0, none⟩) n cap) n (l.reverse.map I64) ∧ Kept (· = g) w w' := by
  have HO := Lib.hid h
  have HL := Lib.hid hl
  have hwr : IntKind.i64.wrap ((n : Int) - 1) = (n : Int) - 1 := IntWalk.i64_in _ (by omega)
  clear h hl
  go_enter Tryz.func70, Tryz.ntmps70
  go_wp2_with fail
  clear hwr
  go_loopw [2, 3] (fun iv jv wr => ∃ k : Nat, iv = .int .i64 k ∧ k ≤ n ∧ jv = .int .i64 ((n : Int) - 1 - k) ∧ Hid (wr.ownsRow base 2 1 (.slice (some ⟨g, 0, none⟩) n cap) n ((revK l k).map I64)) ∧ Hid (Kept (· = g) w wr)) (fun iv _ _ => n + 1 - (intOf iv).toNat)
  case atStart => exact ⟨0, rfl, Nat.zero_le _, by simp, Lib.hid (by rw [revK_zero]; exact HO.out), Lib.hid (Kept.refl _ _)⟩
  case round =>
    obtain ⟨k, rfl, hk, rfl, HO, HK⟩ := hrel
    obtain ⟨wo, rfl⟩ : ∃ wo, wo = wr := ⟨wr, rfl⟩
    by_cases hlt : 2 * k + 1 < n
    · obtain ⟨m, hm⟩ : ∃ m, m = n - 1 - k := ⟨_, rfl⟩
      have hmi : (n : Int) - 1 - k = (m : Int) := by omega
      have hkm : k < m := by omega
      have hkmI : (k : Int) < (m : Int) := by omega
      have hknI : (k : Int) < (n : Int) := by omega
      have hmnI : (m : Int) < (n : Int) := by omega
      have hne1 : ¬ k = m := by omega
      have hne2 : ¬ m = k := by omega
      have hadd : IntKind.i64.wrap ((k : Int) + 1) = (k : Int) + 1 := IntWalk.i64_in _ (by omega)
      have hsub : IntKind.i64.wrap ((m : Int) - 1) = (m : Int) - 1 := IntWalk.i64_in _ (by omega)
      have c1 : wo.cell? ⟨g, k, none⟩ = some (.int .i64 (l.getD k 0)) := by
        rw [HO.out.cellAt k (by omega), List.getElem?_map, revK_at l k k (by rw [HL.out]; omega), if_neg (by rw [HL.out]; omega)]
        rfl
      have c2 : wo.cell? ⟨g, m, none⟩ = some (.int .i64 (l.getD m 0)) := by
        rw [HO.out.cellAt m (by omega), List.getElem?_map, revK_at l k m (by rw [HL.out]; omega), if_neg (by rw [HL.out]; omega)]
        rfl
      have f1 := HO.out.frozenAt k
      have f2 := HO.out.frozenAt m
      have HNX := Lib.hid (show revK l (k + 1) = ((revK l k).set k (l.getD m 0)).set m (l.getD k 0) by rw [revK_next l k (by rw [HL.out]; exact hlt), HL.out, hm])
      have HM := Lib.hid (show (n : Int) - 1 - ((k + 1 : Nat) : Int) = (m : Int) - 1 by omega)
      obtain ⟨x, hx⟩ : ∃ x, x = l.getD k 0 := ⟨_, rfl⟩
      obtain ⟨y, hy⟩ : ∃ x, x = l.getD m 0 := ⟨_, rfl⟩
      rw [← hx] at c1 HNX
      rw [← hy] at c2 HNX
      rw [hmi]
      have HS1 := Lib.hid (show ((wo.drew.setCell ⟨g, k, none⟩ (.int .i64 y)).setCell ⟨g, m, none⟩ (.int .i64 x)).ownsRow base 2 1 (.slice (some ⟨g, 0, none⟩) n cap) n ((revK l (k + 1)).map I64) by
        rw [HNX.out, List.map_set, List.map_set]
        exact (((owns_drew HO.out).stored k (.int .i64 y)).1.stored m (.int .i64 x)).1)
      have HS2 := Lib.hid (show Kept (· = g) w ((wo.drew.setCell ⟨g, k, none⟩ (.int .i64 y)).setCell ⟨g, m, none⟩ (.int .i64 x)) from (HK.out.drew.setCell (.inr rfl) _).setCell (.inr rfl) _)
      clear hx hy hm hmi
      go_wp2_with fail
      go_region_law (fail)
      all_goals
        go_wp2_with fail
        go_roundw
        case rel => exact ⟨k + 1, by go_num, by omega, by rw [HM.out], HS1, HS2⟩
        case measure => simp [intOf]; omega
    · have hge : ¬ (k : Int) < (n : Int) - 1 - k := by omega
      have HE := Lib.hid (revK_end l k (by rw [HL.out]; omega))
      go_wp2_with fail
      go_end0
      exact ⟨rfl, by first | (rw [← HE.out]; exact HO.out) | (rw [← List.map_reverse, ← HE.out]; exact HO.out), HK.out⟩
end Go.Proofs.YtgkbbpajkbkgnaaGreatDoor
