/-
  Sums of products in single precision: by the program and by the reference.
-/
import Derived.Test.YtkmbkjbammpdhaaFin
import Derived.Deep.RegionHeld3
namespace Go.Proofs.Ytkmbkjbammpdhaa
open Go.RowKit

/-- The sum of the first k products; none where it is no number. -/
def dotO (a b : List Nat) : Nat → Option Nat
  | 0 => some 0
  | k + 1 => (dotO a b k).bind fun s => (Ieee.single.mul (a.getD k 0) (b.getD k 0)).bind fun p => Ieee.single.add s p
/-- The bits are those told, or some NaN where none are. -/
def Mt (o : Option Nat) (s : Nat) : Prop := (∀ r, o = some r → s = r) ∧ (o = none → nan32 s = true)
def finO (o : Option Nat) : Bool := match o with
  | some r => fin32 r
  | none => false

theorem drewN_on {w W : World} (h : ∃ m, W = w.drewN m) (n : Nat) : ∃ m, W.drewN n = w.drewN m := by obtain ⟨m, rfl⟩ := h; exact ⟨m + n, World.drewN_drewN _ _ _⟩
theorem fin_of_nan {x : Nat} (h : nan32 x = true) : fin32 x = false := by
  unfold nan32 at h
  unfold fin32
  cases hr : Ieee.single.read x with
  | nan a b => rfl
  | infinity s => rfl
  | number s m e => rw [hr] at h; simp [Ieee.Datum.isNaN] at h
theorem Mt.fin {o : Option Nat} {s : Nat} (h : Mt o s) : fin32 s = finO o := by
  cases o with
  | none => exact fin_of_nan (h.2 rfl)
  | some r => rw [h.1 r rfl]; rfl
theorem Mt.of_some {r s : Nat} (h : Mt (some r) s) : s = r := h.1 r rfl
theorem Mt.some' (r : Nat) : Mt (some r) r := ⟨fun _ h => (Option.some.inj h), fun h => nomatch h⟩
theorem mul_fin {x y : Nat} (hx : fin32 x = true) (hy : fin32 y = true) : ∃ p, Ieee.single.mul x y = some p := by
  unfold fin32 at hx hy
  unfold Ieee.Format.mul
  cases hr : Ieee.single.read x with
  | nan a b => rw [hr] at hx; simp at hx
  | infinity s => rw [hr] at hx; simp at hx
  | number s m e =>
    cases hq : Ieee.single.read y with
    | nan a b => rw [hq] at hy; simp at hy
    | infinity s => rw [hq] at hy; simp at hy
    | number s' m' e' => exact ⟨_, rfl⟩
theorem add_nanL {x y : Nat} (h : nan32 x = true) : Ieee.single.add x y = none := by
  unfold nan32 at h
  unfold Ieee.Format.add
  cases hr : Ieee.single.read x with
  | nan a b => simp [Ieee.Datum.sum]
  | infinity s => rw [hr] at h; simp [Ieee.Datum.isNaN] at h
  | number s m e => rw [hr] at h; simp [Ieee.Datum.isNaN] at h
theorem Mt_some {a b : List Nat} {k s p r : Nat} (h : Mt (dotO a b k) s) (hp : Ieee.single.mul (a.getD k 0) (b.getD k 0) = some p) (hr : Ieee.single.add s p = some r) : Mt (dotO a b (k + 1)) r := by
  cases hd : dotO a b k with
  | none => rw [hd] at h; rw [add_nanL (h.2 rfl)] at hr; cases hr
  | some s' =>
    rw [hd] at h
    rw [h.of_some] at hr
    simp only [dotO, hd, Option.bind_some, hp, hr]
    exact Mt.some' r
theorem Mt_none {a b : List Nat} {k s p : Nat} (h : Mt (dotO a b k) s) (hp : Ieee.single.mul (a.getD k 0) (b.getD k 0) = some p) (hr : Ieee.single.add s p = none) (q : Nat) (hq : nan32 q = true) : Mt (dotO a b (k + 1)) q := by
  have : dotO a b (k + 1) = none := by
    cases hd : dotO a b k with
    | none => simp only [dotO, hd, Option.bind_none]
    | some s' =>
      rw [hd] at h
      rw [h.of_some] at hr
      simp only [dotO, hd, Option.bind_some, hp, hr]
  rw [this]
  exact ⟨fun r h => by simp at h, fun _ => hq⟩

theorem run_mul_some {P : Program} (t : TypeId) (x y r : Nat) (h : Ieee.single.mul x y = some r) (w : World) :
    (binOp .mul t (.float .f32 x) (.float .f32 y)).run P w = .ok (.float .f32 r) w := run_float_arith w .mul t .f32 x y r h
theorem run_add_some {P : Program} (t : TypeId) (x y r : Nat) (h : Ieee.single.add x y = some r) (w : World) :
    (binOp .add t (.float .f32 x) (.float .f32 y)).run P w = .ok (.float .f32 r) w := run_float_arith w .add t .f32 x y r h
theorem run_add_none {P : Program} (t : TypeId) (x y : Nat) (h : Ieee.single.add x y = none) (w : World) :
    (binOp .add t (.float .f32 x) (.float .f32 y)).run P w = .ok (.float .f32 (tape32 (.nanBits .f32 x y) w)) w.drew := by
  have h' : FloatKind.f32.format.add x y = none := h
  simp [binOp, Op.floatArith, h', tape32, Question.forced, Result.andThen]

set_option maxHeartbeats 2000000 in
theorem dot_any (v u : Value) (x y : List Nat) (w : World) (h : RdF w v x) (hu : RdF w u y) (hxy : x.length ≤ y.length) (fx : allFin x = true) (fy : allFin y = true) :
    Calls Try.prog 160 #[v, u] w fun e w' => ∃ s, e = .returned (.float .f32 s) ∧ Mt (dotO x y x.length) s ∧ ∃ m, w' = w.drewN m := by
  obtain ⟨a, c, rfl⟩ := h.shape
  obtain ⟨a', c', rfl⟩ := hu.shape
  have hm := h.len
  simp only [maxLen] at hm
  have H1 := Lib.hid h
  have H2 := Lib.hid hu
  have FX := Lib.hid fx
  have FY := Lib.hid fy
  clear h hu fx fy
  go_enter Try.func160, Try.ntmps160
  go_wp2_with fail
  go_loopw [5, 9] (fun sv i wr => ∃ k s : Nat, i = .int .i64 k ∧ k ≤ x.length ∧ sv = .float .f32 s ∧ Hid (Mt (dotO x y k) s) ∧ Hid (∃ n, wr = w.drewN n)) (fun _ i _ => x.length - (intOf i).toNat)
  case atStart => exact ⟨0, 0, rfl, Nat.zero_le _, rfl, Mt.some' 0, 0, rfl⟩
  case round =>
    obtain ⟨k, s, rfl, hk, rfl, hmt, hw⟩ := hrel
    by_cases hlt : k < x.length
    · have hlt2 : k < y.length := by omega
      obtain ⟨b, off, rfl, hb, hc⟩ := (rdF_drew H1.out hw.out).at hlt
      obtain ⟨b', off', rfl, hb', hc'⟩ := (rdF_drew H2.out hw.out).at hlt2
      have hlt2' : (k : Int) < y.length := by omega
      obtain ⟨p, hp⟩ := mul_fin (allFin_get FX.out hlt) (allFin_get FY.out hlt2)
      have hmul := fun (W : World) => run_mul_some (P := Try.prog) 37 _ _ p hp W
      have HP := Lib.hid hp
      clear hp
      generalize hx0 : x.getD k 0 = x0 at *
      generalize hy0 : y.getD k 0 = y0 at *
      have HX := Lib.hid hx0
      have HY := Lib.hid hy0
      clear hx0 hy0
      cases hq : Ieee.single.add s p with
      | some r =>
        have hadd := fun (W : World) => run_add_some (P := Try.prog) 37 _ _ r hq W
        have HQ := Lib.hid hq
        clear hq
        go_wp2_with fail
        go_quiet (fail)
        go_wp2_with fail
        go_roundw
        case rel => exact ⟨k + 1, r, by go_num, by omega, rfl, Mt_some hmt.out (by rw [HX.out, HY.out]; exact HP.out) HQ.out, drewN_on hw.out _⟩
        case measure => simp [intOf]; omega
      | none =>
        have hadd := fun (W : World) => run_add_none (P := Try.prog) 37 _ _ hq W
        have HQ := Lib.hid hq
        clear hq
        go_wp2_with fail
        go_region_with (fail)
        all_goals
          go_wp2_with fail
          go_roundw
          case rel => exact ⟨k + 1, _, by go_num, by omega, rfl, Mt_none hmt.out (by rw [HX.out, HY.out]; exact HP.out) HQ.out _ (tape32_nan _ _ _), drewN_on (drewN_on hw.out 1) 1⟩
          case measure => simp [intOf]; omega
    · obtain rfl : k = x.length := by omega
      go_wp2_with fail
      go_ret
      exact ⟨s, rfl, hmt.out, hw.out⟩

set_option maxHeartbeats 2000000 in
theorem l02Dot_any (v u : Value) (x y : List Nat) (w : World) (h : RdF w v x) (hu : RdF w u y) (hxy : x.length ≤ y.length) (fx : allFin x = true) (fy : allFin y = true) :
    Calls Try.prog 164 #[v, u] w fun e w' => ∃ s, e = .returned (.float .f32 s) ∧ Mt (dotO x y x.length) s ∧ ∃ m, w' = w.drewN m := by
  obtain ⟨a, c, rfl⟩ := h.shape
  obtain ⟨a', c', rfl⟩ := hu.shape
  have hm := h.len
  simp only [maxLen] at hm
  have H1 := Lib.hid h
  have H2 := Lib.hid hu
  have FX := Lib.hid fx
  have FY := Lib.hid fy
  clear h hu fx fy
  go_enter Try.func164, Try.ntmps164
  go_wp2_with fail
  go_loopw [5, 6] (fun sv i wr => ∃ k s : Nat, i = .int .i64 k ∧ k ≤ x.length ∧ sv = .float .f32 s ∧ Hid (Mt (dotO x y k) s) ∧ Hid (∃ n, wr = w.drewN n)) (fun _ i _ => x.length - (intOf i).toNat)
  case atStart => exact ⟨0, 0, rfl, Nat.zero_le _, rfl, Mt.some' 0, 0, rfl⟩
  case round =>
    obtain ⟨k, s, rfl, hk, rfl, hmt, hw⟩ := hrel
    by_cases hlt : k < x.length
    · have hlt2 : k < y.length := by omega
      obtain ⟨b, off, rfl, hb, hc⟩ := (rdF_drew H1.out hw.out).at hlt
      obtain ⟨b', off', rfl, hb', hc'⟩ := (rdF_drew H2.out hw.out).at hlt2
      have hlt2' : (k : Int) < y.length := by omega
      obtain ⟨p, hp⟩ := mul_fin (allFin_get FX.out hlt) (allFin_get FY.out hlt2)
      have hmul := fun (W : World) => run_mul_some (P := Try.prog) 37 _ _ p hp W
      have HP := Lib.hid hp
      clear hp
      generalize hx0 : x.getD k 0 = x0 at *
      generalize hy0 : y.getD k 0 = y0 at *
      have HX := Lib.hid hx0
      have HY := Lib.hid hy0
      clear hx0 hy0
      cases hq : Ieee.single.add s p with
      | some r =>
        have hadd := fun (W : World) => run_add_some (P := Try.prog) 37 _ _ r hq W
        have HQ := Lib.hid hq
        clear hq
        go_wp2_with fail
        go_quiet (fail)
        go_wp2_with fail
        go_roundw
        case rel => exact ⟨k + 1, r, by go_num, by omega, rfl, Mt_some hmt.out (by rw [HX.out, HY.out]; exact HP.out) HQ.out, drewN_on hw.out _⟩
        case measure => simp [intOf]; omega
      | none =>
        have hadd := fun (W : World) => run_add_none (P := Try.prog) 37 _ _ hq W
        have HQ := Lib.hid hq
        clear hq
        go_wp2_with fail
        go_region_with (fail)
        all_goals
          go_wp2_with fail
          go_roundw
          case rel => exact ⟨k + 1, _, by go_num, by omega, rfl, Mt_none hmt.out (by rw [HX.out, HY.out]; exact HP.out) HQ.out _ (tape32_nan _ _ _), drewN_on (drewN_on hw.out 1) 1⟩
          case measure => simp [intOf]; omega
    · obtain rfl : k = x.length := by omega
      go_wp2_with fail
      go_ret
      exact ⟨s, rfl, hmt.out, hw.out⟩

end Go.Proofs.Ytkmbkjbammpdhaa
