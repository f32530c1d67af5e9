/-
  Equal lists of numbers: the program's and the reference's comparison, by their bits.
-/
import Derived.Test.YtljhohacgceojaaSameC
import Derived.Test.YtljhohacgceojaaMarkF
import Derived.Laws.Externs
namespace Go.Proofs.Ytljhohacgceojaa
open Go.RowKit

theorem run_bits (x : Nat) (W : World) : (callFunc 141 #[.float .f32 x]).run Try.prog W = .ok (.value (.int .u32 x)) W := by
  rw [run_callFunc_extern Try.func141 (by kernel_rfl) (by kernel_rfl) (by kernel_rfl) (e := Extern.MathFloatBits.float32bits) (by kernel_rfl)]
  rfl

/-- Two numbers are the same: both not a number, or the same bits. -/
def sameX (x y : Nat) : Bool := if (nan32 x || nan32 y) = true then nan32 x && nan32 y else decide (x = y)

theorem neq_nan {x : Nat} (h : nan32 x = true) : (FloatKind.f32.format.order x x != some .eq) = true := by
  rw [show FloatKind.f32.format.order x x = none from order_nanL _ _ _ h]; rfl
theorem neq_num {x : Nat} (h : nan32 x = false) : (FloatKind.f32.format.order x x != some .eq) = false := by
  rw [show FloatKind.f32.format.order x x = some .eq from order_self _ _ h]; rfl

set_option maxHeartbeats 1000000 in
theorem SameNumber_any (x y : Nat) (w : World) : Calls Try.prog 132 #[.float .f32 x, .float .f32 y] w fun e w' => e = .returned (.bool (sameX x y)) ∧ w = w' := by
  have hb := run_bits
  cases hx : nan32 x <;> cases hy : nan32 y
  · have h1 := neq_num hx
    have h2 := neq_num hy
    by_cases he : x = y
    · subst he
      have hs : ((x : Int) == (x : Int)) = true := by simp
      have HN := Lib.hid (show sameX x x = true by unfold sameX; rw [hx]; simp)
      clear hx hy
      go_enter Try.func132, Try.ntmps132
      go_wp2_with fail
      go_ret
      exact ⟨by rw [HN.out]; rfl, rfl⟩
    · have hs : ((x : Int) == (y : Int)) = false := by simp; omega
      have HN := Lib.hid (show sameX x y = false by unfold sameX; rw [hx, hy]; simp [he])
      clear hx hy he
      go_enter Try.func132, Try.ntmps132
      go_wp2_with fail
      go_ret
      exact ⟨by rw [HN.out]; rfl, rfl⟩
  · have h1 := neq_num hx
    have h2 := neq_nan hy
    have HN := Lib.hid (show sameX x y = false by unfold sameX; rw [hx, hy]; rfl)
    clear hx hy
    go_enter Try.func132, Try.ntmps132
    go_wp2_with fail
    go_ret
    exact ⟨by rw [HN.out]; rfl, rfl⟩
  · have h1 := neq_nan hx
    have h2 := neq_num hy
    have HN := Lib.hid (show sameX x y = false by unfold sameX; rw [hx, hy]; rfl)
    clear hx hy
    go_enter Try.func132, Try.ntmps132
    go_wp2_with fail
    go_ret
    exact ⟨by rw [HN.out]; rfl, rfl⟩
  · have h1 := neq_nan hx
    have h2 := neq_nan hy
    have HN := Lib.hid (show sameX x y = true by unfold sameX; rw [hx, hy]; rfl)
    clear hx hy
    go_enter Try.func132, Try.ntmps132
    go_wp2_with fail
    go_ret
    exact ⟨by rw [HN.out]; rfl, rfl⟩

def codeX (x : Nat) : Int := if nan32 x = true then 2143289344 else x
theorem l01Bits_any (x : Nat) (w : World) (hw : x < 4294967296) : Calls Try.prog 140 #[.float .f32 x] w fun e w' => e = .returned (.int .i64 (codeX x)) ∧ w = w' := by
  have hb := run_bits
  cases hx : nan32 x
  · have h1 := neq_num hx
    have HN := Lib.hid (show codeX x = x by unfold codeX; rw [hx]; rfl)
    clear hx
    go_enter Try.func140, Try.ntmps140
    go_wp2_with fail
    go_ret
    exact ⟨by rw [HN.out]; rfl, rfl⟩
  · have h1 := neq_nan hx
    have HN := Lib.hid (show codeX x = 2143289344 by unfold codeX; rw [hx]; rfl)
    clear hx
    go_enter Try.func140, Try.ntmps140
    go_wp2_with fail
    go_ret
    exact ⟨by rw [HN.out]; rfl, rfl⟩
theorem codeX_same (x y : Nat) : (codeX x == codeX y) = sameX x y := by
  have h0 : nan32 2143289344 = true := by decide +kernel
  unfold codeX sameX
  cases hx : nan32 x <;> cases hy : nan32 y
  · simp only [Bool.or_false, Bool.false_eq_true, if_false]
    by_cases h : x = y
    · subst h; simp
    · simp [h]; omega
  · have : x ≠ 2143289344 := by rintro rfl; rw [h0] at hx; cases hx
    simp; omega
  · have : y ≠ 2143289344 := by rintro rfl; rw [h0] at hy; cases hy
    simp; omega
  · simp
theorem l01Same_any (x y : Nat) (w : World) (hx : x < 4294967296) (hy : y < 4294967296) : Calls Try.prog 131 #[.float .f32 x, .float .f32 y] w fun e w' => e = .returned (.bool (sameX x y)) ∧ w = w' := by
  obtain ⟨a, ha⟩ : ∃ a, a = codeX x := ⟨_, rfl⟩
  obtain ⟨b, hb⟩ : ∃ b, b = codeX y := ⟨_, rfl⟩
  obtain ⟨q, hq⟩ : ∃ q, sameX x y = q := ⟨_, rfl⟩
  have he : (a == b) = q := by rw [ha, hb, codeX_same, hq]
  rw [hq]
  have HA := Lib.hid (l01Bits_any x w hx)
  have HB := Lib.hid (l01Bits_any y w hy)
  rw [← ha] at HA
  rw [← hb] at HB
  clear hq ha hb
  go_enter Try.func131, Try.ntmps131
  go_wp2_with fail
  refine HA.out.mono ?_
  rintro e w' ⟨rfl, rfl⟩
  go_wp2_with fail
  refine HB.out.mono ?_
  rintro e w' ⟨rfl, rfl⟩
  go_wp2_with fail
  go_ret
  exact ⟨rfl, rfl⟩
theorem SameNumber_b (q : Bool) (x y : Nat) (w : World) (hq : sameX x y = q) : Calls Try.prog 132 #[.float .f32 x, .float .f32 y] w fun e w' => e = .returned (.bool q) ∧ w = w' := by
  subst hq
  exact SameNumber_any x y w
theorem l01Same_b (q : Bool) (x y : Nat) (w : World) (hx : x < 4294967296) (hy : y < 4294967296) (hq : sameX x y = q) : Calls Try.prog 131 #[.float .f32 x, .float .f32 y] w fun e w' => e = .returned (.bool q) ∧ w = w' := by
  subst hq
  exact l01Same_any x y w hx hy

end Go.Proofs.Ytljhohacgceojaa
