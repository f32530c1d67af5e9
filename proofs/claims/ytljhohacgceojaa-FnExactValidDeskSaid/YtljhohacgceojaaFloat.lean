/-
  Numbers in single precision: which are finite, comparisons with themselves; the laws for the walk.
-/
import Derived.Test.YtljhohacgceojaaSup
import Derived.Laws.FloatArith
namespace Go.Proofs.Ytljhohacgceojaa
open Go.RowKit

def F32 (b : Nat) : Value := .float .f32 b
def nan32 (x : Nat) : Bool := (Ieee.single.read x).isNaN
def fin32 (x : Nat) : Bool := match Ieee.single.read x with
  | .number .. => true
  | _ => false

theorem order_self (f : Ieee.Format) (x : Nat) (h : (f.read x).isNaN = false) : f.order x x = some .eq := by
  unfold Ieee.Format.order
  cases hr : f.read x with
  | nan a b => rw [hr] at h; simp [Ieee.Datum.isNaN] at h
  | infinity s => simp [Ieee.Datum.order]
  | number s m e => simp [Ieee.Datum.order]
theorem order_nanL (f : Ieee.Format) (x y : Nat) (h : (f.read x).isNaN = true) : f.order x y = none := by
  unfold Ieee.Format.order
  cases hr : f.read x with
  | nan a b => simp [Ieee.Datum.order]
  | infinity s => rw [hr] at h; simp [Ieee.Datum.isNaN] at h
  | number s m e => rw [hr] at h; simp [Ieee.Datum.isNaN] at h
theorem order_nanR (f : Ieee.Format) (x y : Nat) (h : (f.read y).isNaN = true) : f.order x y = none := by
  unfold Ieee.Format.order
  cases hr : f.read y with
  | nan a b => cases f.read x <;> simp [Ieee.Datum.order]
  | infinity s => rw [hr] at h; simp [Ieee.Datum.isNaN] at h
  | number s m e => rw [hr] at h; simp [Ieee.Datum.isNaN] at h

theorem sub_fin {x : Nat} (h : fin32 x = true) : Ieee.single.sub x x = some 0 := by
  unfold fin32 at h
  unfold Ieee.Format.sub
  cases hr : Ieee.single.read x with
  | nan a b => rw [hr] at h; simp at h
  | infinity s => rw [hr] at h; simp at h
  | number s m e =>
    have ht : Ieee.signed s m 0 + Ieee.signed (!s) m 0 = 0 := by cases s <;> simp [Ieee.signed] <;> omega
    simp only [Ieee.Datum.opposite, Ieee.Datum.sum, Option.map_some, Int.min_self, Int.sub_self, Int.toNat_zero, ht, if_true, Int.natAbs_zero]
    cases s <;> simp [Ieee.Format.write, Ieee.Format.nearest, Ieee.Format.word]
theorem sub_not {x : Nat} (h : fin32 x = false) : Ieee.single.sub x x = none := by
  unfold fin32 at h
  unfold Ieee.Format.sub
  cases hr : Ieee.single.read x with
  | nan a b => simp [Ieee.Datum.opposite, Ieee.Datum.sum]
  | infinity s => cases s <;> simp [Ieee.Datum.opposite, Ieee.Datum.sum]
  | number s m e => rw [hr] at h; simp at h

/-- The bits of a NaN that the tape names. -/
def tape32 (q : Question) (w : World) : Nat := q.cut (w.tape w.drawn q)
theorem nan_cut32 (t : Nat) : (Ieee.single.read ((t % 2) * 2 ^ 31 + 0x7f800000 + 1 + (t / 2) % (2 ^ 23 - 1))).isNaN = true := by
  have h1 : t % 2 < 2 := Nat.mod_lt _ (by decide)
  have h2 : (t / 2) % (2 ^ 23 - 1) < 2 ^ 23 - 1 := Nat.mod_lt _ (by decide)
  generalize t % 2 = s at h1 ⊢
  generalize (t / 2) % (2 ^ 23 - 1) = r at h2 ⊢
  have e : (s * 2 ^ 31 + 0x7f800000 + 1 + r) % 2147483648 = 0x7f800000 + 1 + r := by omega
  unfold Ieee.Format.read
  have c1 : Ieee.single.signWeight = 2147483648 := rfl
  have c2 : Ieee.single.binade = 8388608 := rfl
  have c3 : Ieee.single.infRung = 2139095040 := rfl
  simp only [c1, c2, c3, e]
  rw [if_neg (by omega), if_neg (by omega), if_neg (by omega)]
  rfl
theorem nan_cut64 (t : Nat) : (Ieee.double.read ((t % 2) * 2 ^ 63 + 0x7ff0000000000000 + 1 + (t / 2) % (2 ^ 52 - 1))).isNaN = true := by
  have h1 : t % 2 < 2 := Nat.mod_lt _ (by decide)
  have h2 : (t / 2) % (2 ^ 52 - 1) < 2 ^ 52 - 1 := Nat.mod_lt _ (by decide)
  generalize t % 2 = s at h1 ⊢
  generalize (t / 2) % (2 ^ 52 - 1) = r at h2 ⊢
  have e : (s * 2 ^ 63 + 0x7ff0000000000000 + 1 + r) % 9223372036854775808 = 0x7ff0000000000000 + 1 + r := by omega
  unfold Ieee.Format.read
  have c1 : Ieee.double.signWeight = 9223372036854775808 := rfl
  have c2 : Ieee.double.binade = 4503599627370496 := rfl
  have c3 : Ieee.double.infRung = 9218868437227405312 := rfl
  simp only [c1, c2, c3, e]
  rw [if_neg (by omega), if_neg (by omega), if_neg (by omega)]
  rfl

/-- A difference that is no number: a NaN that the tape names. -/
theorem run_sub_none {P : Program} (t : TypeId) (x y : Nat) (h : Ieee.single.sub x y = none) (w : World) :
    (binOp .sub t (.float .f32 x) (.float .f32 y)).run P w = .ok (.float .f32 (tape32 (.nanBits .f32 x y) w)) w.drew := by
  have h' : FloatKind.f32.format.sub x y = none := h
  simp [binOp, Op.floatArith, h', tape32, Question.forced, Result.andThen]
theorem tape32_nan (x y : Nat) (w : World) : (Ieee.single.read (tape32 (.nanBits .f32 x y) w)).isNaN = true := by
  unfold tape32
  exact nan_cut32 _
theorem run_sub_some {P : Program} (t : TypeId) (x y r : Nat) (h : Ieee.single.sub x y = some r) (w : World) :
    (binOp .sub t (.float .f32 x) (.float .f32 y)).run P w = .ok (.float .f32 r) w := run_float_arith w .sub t .f32 x y r h

end Go.Proofs.Ytljhohacgceojaa
