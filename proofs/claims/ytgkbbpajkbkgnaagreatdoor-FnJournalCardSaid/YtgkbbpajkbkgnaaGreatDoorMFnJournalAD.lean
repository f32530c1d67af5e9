/-
  FnJournal: texts joined: SameC, Float, PredF, Float64, MarkF, SameN, HexM, HexI, RowsO, OpenR, OpenL, OpenC, MarkJ, DeskO, JobsT, DeskT, OpenD, SameNL, SameJ, SameRw.
-/
import Derived.Laws.FloatArith
import Derived.Deep.RegionHeld3
import Derived.Laws.Externs
import Derived.Lib.SmallJoins
import Derived.Test.YtgkbbpajkbkgnaaGreatDoorMFnJournalAA
import Derived.Test.YtgkbbpajkbkgnaaGreatDoorMFnJournalAB
import Derived.Test.YtgkbbpajkbkgnaaGreatDoorMFnJournalAC
set_option linter.unusedVariables false
set_option linter.unusedSimpArgs false
namespace Go.Proofs.YtgkbbpajkbkgnaaGreatDoor
open Go.RowKit
def eqBy {α : Type} (f : α → α → Bool) : List α → List α → Bool
  | [], [] => true
  | x :: xs, y :: ys => f x y && eqBy f xs ys
  | _, _ => false
theorem eqBy_len {α : Type} (f : α → α → Bool) : ∀ (a b : List α), a.length ≠ b.length → eqBy f a b = false
  | [], [], h => by simp at h
  | [], y :: ys, _ => rfl
  | x :: xs, [], _ => rfl
  | x :: xs, y :: ys, h => by simp only [eqBy, eqBy_len f xs ys (by simpa using h), Bool.and_false]
theorem eqBy_ne {α : Type} (f : α → α → Bool) (d : α) : ∀ (a b : List α) (k : Nat), k < a.length → k < b.length → f (a.getD k d) (b.getD k d) = false → eqBy f a b = false
  | [], b, k, h, _, _ => by simp at h
  | x :: xs, [], k, _, h, _ => by simp at h
  | x :: xs, y :: ys, 0, _, _, h => by simp only [List.getD_cons_zero] at h; simp only [eqBy, h, Bool.false_and]
  | x :: xs, y :: ys, k + 1, h1, h2, h => by
    simp only [List.getD_cons_succ] at h
    simp only [eqBy, eqBy_ne f d xs ys k (by simpa using h1) (by simpa using h2) h, Bool.and_false]
theorem eqBy_all {α : Type} (f : α → α → Bool) (d : α) : ∀ (a b : List α), a.length = b.length → (∀ k, k < a.length → f (a.getD k d) (b.getD k d) = true) → eqBy f a b = true
  | [], [], _, _ => rfl
  | [], y :: ys, h, _ => by simp at h
  | x :: xs, [], h, _ => by simp at h
  | x :: xs, y :: ys, h, h2 => by
    have h0 := h2 0 (by simp)
    simp only [List.getD_cons_zero] at h0
    simp only [eqBy, h0, Bool.true_and]
    exact eqBy_all f d xs ys (by simpa using h) fun k hk => by have := h2 (k + 1) (by simpa using hk); simpa using this
end Go.Proofs.YtgkbbpajkbkgnaaGreatDoor

namespace Go.Proofs.YtgkbbpajkbkgnaaGreatDoor
open Go.RowKit
def F32 (b : Nat) : Value := .float .f32 b
def nan32 (x : Nat) : Bool := (Ieee.single.read x).isNaN
def fin32 (x : Nat) : Bool := match Ieee.single.read x with
  | .number .. => true
  | _ => false
theorem order_self (f : Ieee.Format) (x : Nat) (h : (f.read x).isNaN = false) : f.order x x = some .eq := by
  unfold Ieee.Format.order
  cases hr : f.read x with
  | nan a b => rw [hr] at h; simp [Ieee.Datum.isNaN] at h
  | infinity s => simp [Ieee.Datum.order]
  | number s m e => simp [Ieee.Datum.order]
theorem order_nanL (f : Ieee.Format) (x y : Nat) (h : (f.read x).isNaN = true) : f.order x y = none := by
  unfold Ieee.Format.order
  cases hr : f.read x with
  | nan a b => simp [Ieee.Datum.order]
  | infinity s => rw [hr] at h; simp [Ieee.Datum.isNaN] at h
  | number s m e => rw [hr] at h; simp [Ieee.Datum.isNaN] at h
theorem sub_fin {x : Nat} (h : fin32 x = true) : Ieee.single.sub x x = some 0 := by
  unfold fin32 at h
  unfold Ieee.Format.sub
  cases hr : Ieee.single.read x with
  | nan a b => rw [hr] at h; simp at h
  | infinity s => rw [hr] at h; simp at h
  | number s m e =>
    have ht : Ieee.signed s m 0 + Ieee.signed (!s) m 0 = 0 := by cases s <;> simp [Ieee.signed] <;> omega
    simp only [Ieee.Datum.opposite, Ieee.Datum.sum, Option.map_some, Int.min_self, Int.sub_self, Int.toNat_zero, ht, if_true, Int.natAbs_zero]
    cases s <;> simp [Ieee.Format.write, Ieee.Format.nearest, Ieee.Format.word]
theorem sub_not {x : Nat} (h : fin32 x = false) : Ieee.single.sub x x = none := by
  unfold fin32 at h
  unfold Ieee.Format.sub
  cases hr : Ieee.single.read x with
  | nan a b => simp [Ieee.Datum.opposite, Ieee.Datum.sum]
  | infinity s => cases s <;> simp [Ieee.Datum.opposite, Ieee.Datum.sum]
  | number s m e => rw [hr] at h; simp at h
def tape32 (q : Question) (w : World) : Nat := q.cut (w.tape w.drawn q)
theorem nan_cut32 (t : Nat) : (Ieee.single.read ((t % 2) * 2 ^ 31 + 0x7f800000 + 1 + (t / 2) % (2 ^ 23 - 1))).isNaN = true := by
  have h1 : t % 2 < 2 := Nat.mod_lt _ (by decide)
  have h2 : (t / 2) % (2 ^ 23 - 1) < 2 ^ 23 - 1 := Nat.mod_lt _ (by decide)
  generalize t % 2 = s at h1 ⊢
  generalize (t / 2) % (2 ^ 23 - 1) = r at h2 ⊢
  have e : (s * 2 ^ 31 + 0x7f800000 + 1 + r) % 2147483648 = 0x7f800000 + 1 + r := by omega
  unfold Ieee.Format.read
  have c1 : Ieee.single.signWeight = 2147483648 := rfl
  have c2 : Ieee.single.binade = 8388608 := rfl
  have c3 : Ieee.single.infRung = 2139095040 := rfl
  simp only [c1, c2, c3, e]
  rw [if_neg (by omega), if_neg (by omega), if_neg (by omega)]
  rfl
theorem run_sub_none {P : Program} (t : TypeId) (x y : Nat) (h : Ieee.single.sub x y = none) (w : World) :
    (binOp .sub t (.float .f32 x) (.float .f32 y)).run P w = .ok (.float .f32 (tape32 (.nanBits .f32 x y) w)) w.drew := by
  have h' : FloatKind.f32.format.sub x y = none := h
  simp [binOp, Op.floatArith, h', tape32, Question.forced, Result.andThen]
theorem tape32_nan (x y : Nat) (w : World) : (Ieee.single.read (tape32 (.nanBits .f32 x y) w)).isNaN = true := by
  unfold tape32
  exact nan_cut32 _
theorem run_sub_some {P : Program} (t : TypeId) (x y r : Nat) (h : Ieee.single.sub x y = some r) (w : World) :
    (binOp .sub t (.float .f32 x) (.float .f32 y)).run P w = .ok (.float .f32 r) w := run_float_arith w .sub t .f32 x y r h
end Go.Proofs.YtgkbbpajkbkgnaaGreatDoor

namespace Go.Proofs.YtgkbbpajkbkgnaaGreatDoor
open Go.RowKit
def RdF (w : World) (v : Value) (xs : List Nat) : Prop := Slc w v (xs.map F32)
def OwnF (lo hi : Nat) (w : World) (v : Value) (xs : List Nat) : Prop := w.ownsRow lo 100 1 v xs.length (xs.map F32) ∧ ∀ g, v.ownBlock = some g → g < hi
theorem RdF.shape {w : World} {v : Value} {xs : List Nat} (h : RdF w v xs) : ∃ a c, v = .slice a xs.length c := by
  obtain ⟨a, c, e⟩ := Slc.shape h; exact ⟨a, c, by simpa using e⟩
theorem RdF.up {w w' : World} {v : Value} {xs : List Nat} {B : Nat} (h : RdF w v xs) (hb : Below B w w') (hB : w.heap.size ≤ B) : RdF w' v xs := Slc.below h hb hB
theorem RdF.at {w : World} {a : Option Addr} {n c : Nat} {xs : List Nat} (h : RdF w (.slice a n c) xs) {i : Nat} (hi : i < xs.length) :
    ∃ b off, a = some ⟨b, off, none⟩ ∧ b < w.heap.size ∧ w.cell? ⟨b, off + i, none⟩ = some (.float .f32 (xs.getD i 0)) := Slc.at h (by simp [F32, hi])
theorem RdF.len {w : World} {v : Value} {xs : List Nat} (h : RdF w v xs) : xs.length ≤ maxLen := by simpa using Slc.len h
theorem RdF.drewN {w : World} {v : Value} {xs : List Nat} (h : RdF w v xs) (n : Nat) : RdF (w.drewN n) v xs := Slc.drewN h n
theorem OwnF.rd {lo hi : Nat} {w : World} {v : Value} {xs : List Nat} (h : OwnF lo hi w v xs) : RdF w v xs := slc_of_owns h.1
theorem OwnF.up {lo hi : Nat} {w w' : World} {v : Value} {xs : List Nat} {B : Nat} (h : OwnF lo hi w v xs) (hb : Below B w w') (hB : w.heap.size ≤ B) : OwnF lo hi w' v xs := ⟨owns_below h.1 hb hB, h.2⟩
theorem OwnF.wide {lo hi lo' hi' : Nat} {w : World} {v : Value} {xs : List Nat} (h : OwnF lo hi w v xs) (h1 : lo' ≤ lo) (h2 : hi ≤ hi') : OwnF lo' hi' w v xs := ⟨owns_base h.1 h1, fun g hg => Nat.lt_of_lt_of_le (h.2 g hg) h2⟩
theorem OwnF.kept {lo hi : Nat} {w w' : World} {v : Value} {xs : List Nat} {S : Nat → Prop} (h : OwnF lo hi w v xs) (hk : Kept S w w') (hs : ∀ b, lo ≤ b → b < hi → ¬ S b) : OwnF lo hi w' v xs :=
  ⟨owns_kept h.1 hk fun g hg => hs g (owns_lt h.1 hg).1 (h.2 g hg), h.2⟩
theorem OwnF.mk {lo : Nat} {w : World} {v : Value} {n : Nat} {xs : List Nat} (h : w.ownsRow lo 100 1 v n (xs.map F32)) : OwnF lo w.heap.size w v xs := by
  obtain rfl : xs.length = n := by simpa using owns_len h
  exact ⟨h, fun g hg => (owns_lt h hg).2⟩
theorem Tryz.infoF32 : (Tryz.prog.info? 100).map (fun i => (i.zero, i.size, i.bytes)) = some (some (.float .f32 0), 1, 4) := by kernel_rfl
@[go_sem] theorem run_store_float (P : Program) (w : World) (a : Addr) (m : Mode) (k : FloatKind) (n : Nat) : (store a (.float k n) m).run P w = stored P w a (.float k n) m := run_store P w a _ m rfl
end Go.Proofs.YtgkbbpajkbkgnaaGreatDoor

namespace Go.Proofs.YtgkbbpajkbkgnaaGreatDoor
open Go.RowKit
theorem read_word64 (s : Bool) (r : Nat) (h : r < 9218868437227405312) : (Ieee.double.read (Ieee.double.word s r)).isNaN = false ∧ (Ieee.double.read (Ieee.double.word s r)).isInfinity = false := by
  have c1 : Ieee.double.signWeight = 9223372036854775808 := rfl
  have c2 : Ieee.double.binade = 4503599627370496 := rfl
  have c3 : Ieee.double.infRung = 9218868437227405312 := rfl
  have e : (Ieee.double.word s r) % 9223372036854775808 = r := by
    unfold Ieee.Format.word
    rw [c1]
    cases s <;> simp <;> omega
  unfold Ieee.Format.read
  simp only [c1, c2, c3, e]
  split
  · exact ⟨rfl, rfl⟩
  · first
    | exact ⟨rfl, rfl⟩
    | (rw [if_pos h]; exact ⟨rfl, rfl⟩)
theorem near_aux (Q K : Nat) (hQ : Q ≤ 1149) (hK : K < 9007199254740992) : min (Q * 4503599627370496 + K) 9218868437227405312 < 9218868437227405312 := by
  have : Q * 4503599627370496 ≤ 1149 * 4503599627370496 := Nat.mul_le_mul_right _ hQ
  omega
theorem Tryz.und32 : Tryz.prog.underlying 100 = some (.float .f32) := Tryz.underlying100
theorem Tryz.und64 : Tryz.prog.underlying 170 = some (.float .f64) := Tryz.underlying170
theorem drewN_ex {w W : World} (h : ∃ m, W = w.drewN m) (n : Nat) : ∃ m, W.drewN n = w.drewN m := by obtain ⟨m, rfl⟩ := h; exact ⟨m + n, World.drewN_drewN _ _ _⟩
end Go.Proofs.YtgkbbpajkbkgnaaGreatDoor

namespace Go.Proofs.YtgkbbpajkbkgnaaGreatDoor
open Go.RowKit
theorem OwnF.blk {lo hi : Nat} {w : World} {v : Value} {xs : List Nat} (h : OwnF lo hi w v xs) {b : Nat} (hb : v.ownBlock = some b) : lo ≤ b ∧ b < hi := ⟨(owns_lt h.1 hb).1, h.2 b hb⟩
end Go.Proofs.YtgkbbpajkbkgnaaGreatDoor

namespace Go.Proofs.YtgkbbpajkbkgnaaGreatDoor
open Go.RowKit
theorem run_bits (x : Nat) (W : World) : (callFunc 220 #[.float .f32 x]).run Tryz.prog W = .ok (.value (.int .u32 x)) W := by
  rw [run_callFunc_extern Tryz.func220 (by kernel_rfl) (by kernel_rfl) (by kernel_rfl) (e := Extern.MathFloatBits.float32bits) (by kernel_rfl)]
  rfl
def sameX (x y : Nat) : Bool := if (nan32 x || nan32 y) = true then nan32 x && nan32 y else decide (x = y)
theorem neq_nan {x : Nat} (h : nan32 x = true) : (FloatKind.f32.format.order x x != some .eq) = true := by
  rw [show FloatKind.f32.format.order x x = none from order_nanL _ _ _ h]; rfl
theorem neq_num {x : Nat} (h : nan32 x = false) : (FloatKind.f32.format.order x x != some .eq) = false := by
  rw [show FloatKind.f32.format.order x x = some .eq from order_self _ _ h]; rfl
set_option maxHeartbeats 1000000 in
theorem SameNumber_any (x y : Nat) (w : World) : Calls Tryz.prog 178 #[.float .f32 x, .float .f32 y] w fun e w' => e = .returned (.bool (sameX x y)) ∧ w = w' := by
  have hb := run_bits
  cases hx : nan32 x <;> cases hy : nan32 y
  · have h1 := neq_num hx
    have h2 := neq_num hy
    by_cases he : x = y
    · subst he
      have hs : ((x : Int) == (x : Int)) = true := by simp
      have HN := Lib.hid (show sameX x x = true by unfold sameX; rw [hx]; simp)
      clear hx hy
      go_enter Tryz.func178, Tryz.ntmps178
      go_wp2_with fail
      go_ret
      exact ⟨by rw [HN.out]; rfl, rfl⟩
    · have hs : ((x : Int) == (y : Int)) = false := by simp; omega
      have HN := Lib.hid (show sameX x y = false by unfold sameX; rw [hx, hy]; simp [he])
      clear hx hy he
      go_enter Tryz.func178, Tryz.ntmps178
      go_wp2_with fail
      go_ret
      exact ⟨by rw [HN.out]; rfl, rfl⟩
  · have h1 := neq_num hx
    have h2 := neq_nan hy
    have HN := Lib.hid (show sameX x y = false by unfold sameX; rw [hx, hy]; rfl)
    clear hx hy
    go_enter Tryz.func178, Tryz.ntmps178
    go_wp2_with fail
    go_ret
    exact ⟨by rw [HN.out]; rfl, rfl⟩
  · have h1 := neq_nan hx
    have h2 := neq_num hy
    have HN := Lib.hid (show sameX x y = false by unfold sameX; rw [hx, hy]; rfl)
    clear hx hy
    go_enter Tryz.func178, Tryz.ntmps178
    go_wp2_with fail
    go_ret
    exact ⟨by rw [HN.out]; rfl, rfl⟩
  · have h1 := neq_nan hx
    have h2 := neq_nan hy
    have HN := Lib.hid (show sameX x y = true by unfold sameX; rw [hx, hy]; rfl)
    clear hx hy
    go_enter Tryz.func178, Tryz.ntmps178
    go_wp2_with fail
    go_ret
    exact ⟨by rw [HN.out]; rfl, rfl⟩
def codeX (x : Nat) : Int := if nan32 x = true then 2143289344 else x
theorem l01Bits_any (x : Nat) (w : World) (hw : x < 4294967296) : Calls Tryz.prog 297 #[.float .f32 x] w fun e w' => e = .returned (.int .i64 (codeX x)) ∧ w = w' := by
  have hb := run_bits
  cases hx : nan32 x
  · have h1 := neq_num hx
    have HN := Lib.hid (show codeX x = x by unfold codeX; rw [hx]; rfl)
    clear hx
    go_enter Tryz.func297, Tryz.ntmps297
    go_wp2_with fail
    go_ret
    exact ⟨by rw [HN.out]; rfl, rfl⟩
  · have h1 := neq_nan hx
    have HN := Lib.hid (show codeX x = 2143289344 by unfold codeX; rw [hx]; rfl)
    clear hx
    go_enter Tryz.func297, Tryz.ntmps297
    go_wp2_with fail
    go_ret
    exact ⟨by rw [HN.out]; rfl, rfl⟩
theorem SameNumber_b (q : Bool) (x y : Nat) (w : World) (hq : sameX x y = q) : Calls Tryz.prog 178 #[.float .f32 x, .float .f32 y] w fun e w' => e = .returned (.bool q) ∧ w = w' := by
  subst hq
  exact SameNumber_any x y w
end Go.Proofs.YtgkbbpajkbkgnaaGreatDoor

namespace Go.Proofs.YtgkbbpajkbkgnaaGreatDoor
open Go.RowKit
theorem shr_castX (n i : Nat) : (n : Int) / 2 ^ i = ((n >>> i : Nat) : Int) := by
  rw [Nat.shiftRight_eq_div_pow]; push_cast; rfl
theorem ofInt_i64X (a : Nat) (ha : a < 9223372036854775808) : (BitVec.ofInt 64 (a : Int)).toNat = a := by
  rw [BitVec.ofInt_natCast, BitVec.toNat_ofNat]; exact Nat.mod_eq_of_lt (by omega)
theorem i64_and_natX (a b : Nat) (ha : a < 9223372036854775808) (hb : b < 9223372036854775808) : bits .and .i64 (a : Int) (b : Int) = ((a &&& b : Nat) : Int) := by
  have hx : a &&& b < 2 ^ 63 := Nat.and_lt_two_pow _ (by omega)
  show IntKind.i64.wrap ((BitVec.ofInt 64 (a : Int) &&& BitVec.ofInt 64 (b : Int)).toNat : Int) = _
  rw [BitVec.toNat_and, ofInt_i64X a ha, ofInt_i64X b hb, IntKind.wrap_i64]
  omega
def dig16 (d : Nat) : Nat := if d < 10 then 48 + d else 87 + d
def hexTab : ByteArray := ⟨#[48, 49, 50, 51, 52, 53, 54, 55, 56, 57, 97, 98, 99, 100, 101, 102]⟩
def hexK (n : Nat) : Nat → ByteArray
  | 0 => E0
  | k + 1 => hexK n k ++ B1 (UInt8.ofNat (dig16 ((n >>> (28 - 4 * k)) &&& 15)))
def hexI (n : Nat) : Nat → List Int
  | 0 => []
  | k + 1 => hexI n k ++ [((dig16 ((n >>> (28 - 4 * k)) &&& 15) : Nat) : Int)]
def hexS (n : Nat) : ByteArray := hexK n 8
theorem and15 (n : Nat) : n &&& 15 < 16 := by
  rw [show 15 = 2 ^ 4 - 1 from rfl, Nat.and_two_pow_sub_one_eq_mod]
  exact Nat.mod_lt _ (by decide)
theorem hexK_size (n : Nat) : ∀ k, (hexK n k).size = k
  | 0 => rfl
  | k + 1 => by simp only [hexK, ByteArray.size_append, hexK_size n k]; rfl
theorem dig16_lt (d : Nat) (h : d < 16) : dig16 d < 256 := by unfold dig16; split <;> omega
theorem hexI_str (n : Nat) : ∀ k, strOfNums (hexI n k) = hexK n k
  | 0 => rfl
  | k + 1 => by
    simp only [hexI, hexK]
    rw [← hexI_str n k]
    apply ByteArray.ext
    rw [ByteArray.data_append]
    unfold strOfNums B1
    apply Array.ext'
    simp
theorem tab_cut : ∀ d, d < 16 → hexTab.extract d (d + 1) = B1 (UInt8.ofNat (dig16 d)) := by decide +kernel
theorem tab_at : ∀ d, d < 16 → (hexTab.data[d]!).toNat = dig16 d := by decide +kernel
end Go.Proofs.YtgkbbpajkbkgnaaGreatDoor

namespace Go.Proofs.YtgkbbpajkbkgnaaGreatDoor
open Go.RowKit
def codeN (x : Nat) : Nat := if nan32 x = true then 2143289344 else x
theorem codeX_nat (x : Nat) : codeX x = (codeN x : Int) := by unfold codeX codeN; split <;> rfl
theorem codeN_lt {x : Nat} (h : x < 4294967296) : codeN x < 4294967296 := by unfold codeN; split <;> omega
theorem BitsOf_any (x : Nat) (w : World) (hw : x < 4294967296) : Calls Tryz.prog 166 #[.float .f32 x] w fun e w' => e = .returned (.int .i64 (codeN x)) ∧ w = w' := by
  have hb := run_bits
  cases hx : nan32 x
  · have h1 := neq_num hx
    have HN := Lib.hid (show codeN x = x by unfold codeN; rw [hx]; rfl)
    clear hx
    go_enter Tryz.func166, Tryz.ntmps166
    go_wp2_with fail
    go_ret
    exact ⟨by rw [HN.out]; rfl, rfl⟩
  · have h1 := neq_nan hx
    have HN := Lib.hid (show codeN x = 2143289344 by unfold codeN; rw [hx]; rfl)
    clear hx
    go_enter Tryz.func166, Tryz.ntmps166
    go_wp2_with fail
    go_ret
    exact ⟨by rw [HN.out]; rfl, rfl⟩
set_option maxHeartbeats 1000000 in
theorem hexOf_any (x : Nat) (w : World) (hw : x < 4294967296) :
    Calls Tryz.prog 118 #[.float .f32 x] w fun e w' => e = .returned (.string (hexS (codeN x))) ∧ w = w' := by
  have hB := BitsOf_any x w hw
  have hn := codeN_lt hw
  obtain ⟨n, hne⟩ : ∃ n, n = codeN x := ⟨_, rfl⟩
  rw [← hne] at hB hn ⊢
  have HB := Lib.hid hB
  clear hB hne
  go_enter Tryz.func118, Tryz.ntmps118
  go_wp2_with (go_at_call 166; refine HB.out.mono ?_; rintro e w' ⟨rfl, rfl⟩)
  go_loopw [3, 5] (fun ov sv wr => ∃ (k : Nat) (z : Int), k ≤ 8 ∧ ov = .string (hexK n k) ∧ sv = .int .i64 z ∧ z = 28 - 4 * (k : Int) ∧ w = wr) (fun _ sv _ => (intOf sv + 5).toNat)
  case atStart => exact ⟨0, 28, by omega, rfl, rfl, by omega, rfl⟩
  case round =>
    obtain ⟨k, z, hk, rfl, rfl, hz, rfl⟩ := hrel
    by_cases hlt : k < 8
    · obtain ⟨s, hs⟩ : ∃ s : Nat, s = 28 - 4 * k := ⟨_, rfl⟩
      obtain rfl : z = (s : Int) := by omega
      have hd := and15 (n >>> s)
      have HC := Lib.hid (tab_cut _ hd)
      have HE := Lib.hid (show hexK n (k + 1) = hexK n k ++ B1 (UInt8.ofNat (dig16 ((n >>> s) &&& 15))) by rw [hs]; rfl)
      have hsz := hexK_size n k
      have hA := i64_and_natX (n >>> s) 15 (by have := Nat.shiftRight_le n s; omega) (by omega)
      have hS := shr_castX n s
      obtain ⟨d, hdd⟩ : ∃ d, d = (n >>> s) &&& 15 := ⟨_, rfl⟩
      rw [← hdd] at hd HC HE hA
      obtain ⟨m, hm⟩ : ∃ m, m = n >>> s := ⟨_, rfl⟩
      rw [← hm] at hA hS
      obtain ⟨S, hS2⟩ : ∃ S, S = hexK n k := ⟨_, rfl⟩
      rw [← hS2] at hsz HE ⊢
      have HK := Lib.hid (show (s : Int) = 28 - 4 * (k : Int) from hz)
      have hA2 : bits .and .i64 (m : Int) 15 = (d : Int) := hA
      have hs28 : s ≤ 28 := by omega
      clear hA hz
      clear hdd hm hS2 hs
      go_wp2_with fail
      go_roundw
      case rel => exact ⟨k + 1, (s : Int) - 4, by omega, by rw [HE.out, ← HC.out]; rfl, by go_num, by have := HK.out; omega, by trivial⟩
      case measure => simp [intOf]; omega
    · obtain rfl : k = 8 := by omega
      obtain rfl : z = -4 := by omega
      go_wp2_with fail
      go_ret
      exact ⟨rfl, rfl⟩
set_option maxHeartbeats 1000000 in
theorem l01Hex_any (x : Nat) (w : World) (hw : x < 4294967296) :
    Calls Tryz.prog 239 #[.float .f32 x] w fun e w' => e = .returned (.string (hexS (codeN x))) ∧ Below w.heap.size w w' := by
  have hB := l01Bits_any x w hw
  rw [codeX_nat] at hB
  have hn := codeN_lt hw
  obtain ⟨n, hne⟩ : ∃ n, n = codeN x := ⟨_, rfl⟩
  rw [← hne] at hB hn ⊢
  have HB := Lib.hid hB
  have HS := Lib.hid (show strOfNums (hexI n 8) = hexS n from hexI_str n 8)
  clear hB hne
  go_enter Tryz.func239, Tryz.ntmps239
  go_upto_region 3 with (go_at_call 297; refine HB.out.mono ?_; rintro e w' ⟨rfl, rfl⟩)
  clear HB
  refine wp_at fun W1 hW1 => ?_
  have HO0 := Lib.hid (show W1.ownsRow w.heap.size 5 1 (.slice (some ⟨w.heap.size, 0, none⟩) 0 0) 0 (([] : List Int).map B8) by subst hW1; exact ownsB_lit w [] 0 w.heap.size #[] rfl rfl (by omega) rfl)
  have HB0 := Lib.hid (show Below w.heap.size w W1 by subst hW1; exact (Below.refl _ _).alloc (Nat.le_refl _) _)
  clear hW1
  go_wp2_with fail
  go_loopw [4, 5] (fun ov sv wr => ∃ (k : Nat) (z : Int) (a : Option Addr) (cap : Nat), k ≤ 8 ∧ ov = .slice a k cap ∧ sv = .int .i64 z ∧ Hid (z = 28 - 4 * (k : Int)) ∧ Hid (wr.ownsRow w.heap.size 5 1 (.slice a k cap) k ((hexI n k).map B8)) ∧ Hid (Below w.heap.size w wr)) (fun _ sv _ => (intOf sv + 5).toNat)
  case atStart => exact ⟨0, 28, _, _, by omega, rfl, rfl, Lib.hid (by omega), HO0, HB0⟩
  case round =>
    clear HO0 HB0
    obtain ⟨k, z, a, cap, hk, rfl, rfl, HZ, HO, HB⟩ := hrel
    have hsz := HB.out.size
    by_cases hlt : k < 8
    · obtain ⟨s, hs⟩ : ∃ s : Nat, s = 28 - 4 * k := ⟨_, rfl⟩
      obtain rfl : z = (s : Int) := by have := HZ.out; omega
      have hd := and15 (n >>> s)
      have hC := tab_at _ hd
      have HE := Lib.hid (show hexI n (k + 1) = hexI n k ++ [((dig16 ((n >>> s) &&& 15) : Nat) : Int)] by rw [hs]; rfl)
      have hA := i64_and_natX (n >>> s) 15 (by have := Nat.shiftRight_le n s; omega) (by omega)
      have hS := shr_castX n s
      obtain ⟨d, hdd⟩ : ∃ d, d = (n >>> s) &&& 15 := ⟨_, rfl⟩
      rw [← hdd] at hd hC HE hA
      obtain ⟨m, hm⟩ : ∃ m, m = n >>> s := ⟨_, rfl⟩
      rw [← hm] at hA hS
      have hA2 : bits .and .i64 (m : Int) 15 = (d : Int) := hA
      have hdl := dig16_lt d hd
      obtain ⟨g, hg⟩ : ∃ g, g = dig16 d := ⟨_, rfl⟩
      rw [← hg] at hC HE hdl
      have hC2 : ∀ h : d < (⟨#[48, 49, 50, 51, 52, 53, 54, 55, 56, 57, 97, 98, 99, 100, 101, 102]⟩ : ByteArray).size, ((⟨#[48, 49, 50, 51, 52, 53, 54, 55, 56, 57, 97, 98, 99, 100, 101, 102]⟩ : ByteArray)[d]'h).toNat = g := by
        intro h
        rw [← hC]
        show _ = (hexTab.data[d]!).toNat
        rw [getElem!_pos hexTab.data d h]
        rfl
      have hs28 : s ≤ 28 := by omega
      clear hA hdd hm hs hg hC
      go_wp2_with (at_builtin; refine app_bytes rfl _ _ rfl w.heap.size _ k (hexI n k) rfl (owns_below HO.out ((Below.refl _ _).alloc (Nat.le_refl _) _) (Nat.le_refl _)) _ [(g : Int)] rfl (slc_of_owns (ownsB_lit wr [(g : Int)] 1 _ _ rfl rfl (by omega) rfl)) (k + 1) (hexI n (k + 1)) (by simp) HE.out (by omega) (by simp; omega) ?_; intro a' cap' w' r1 r2 _)
      go_roundw
      case rel => exact ⟨k + 1, (s : Int) - 4, a', cap', by omega, rfl, by go_num, Lib.hid (by have := HZ.out; omega), Lib.hid r1, Lib.hid ((HB.out.alloc hsz _).trans r2)⟩
      case measure => simp [intOf]; omega
    · obtain rfl : k = 8 := by omega
      obtain rfl : z = -4 := by have := HZ.out; omega
      have hcv := conv_bytes HO.out (by omega)
      rw [HS.out] at hcv
      go_wp2_with fail
      go_ret
      exact ⟨rfl, HB.out⟩
end Go.Proofs.YtgkbbpajkbkgnaaGreatDoor

namespace Go.Proofs.YtgkbbpajkbkgnaaGreatDoor
open Go.RowKit
structure RowsD where
  vars : Int
  nums : List Nat
  bnds : List Nat
  gains : List Nat
def RdR (w : World) (v : Value) (r : RowsD) : Prop := ∃ va vb vc, v = .agg #[.int .i64 r.vars, va, vb, vc] ∧ RdF w va r.nums ∧ RdF w vb r.bnds ∧ RdF w vc r.gains
def OwnR (lo hi : Nat) (w : World) (v : Value) (r : RowsD) : Prop := ∃ va vb vc, v = .agg #[.int .i64 r.vars, va, vb, vc] ∧ OwnF lo hi w va r.nums ∧ OwnF lo hi w vb r.bnds ∧ OwnF lo hi w vc r.gains ∧ (∀ g, va.ownBlock = some g → vb.ownBlock ≠ some g) ∧ (∀ g, va.ownBlock = some g → vc.ownBlock ≠ some g) ∧ (∀ g, vb.ownBlock = some g → vc.ownBlock ≠ some g)
def bulkR (r : RowsD) : Nat := r.nums.length + r.bnds.length + r.gains.length
theorem RdR.shape {w : World} {v : Value} {r : RowsD} (h : RdR w v r) : ∃ a1 c1 a2 c2 a3 c3, v = .agg #[.int .i64 r.vars, .slice a1 r.nums.length c1, .slice a2 r.bnds.length c2, .slice a3 r.gains.length c3] := by
  obtain ⟨va, vb, vc, rfl, h1, h2, h3⟩ := h
  obtain ⟨a1, c1, rfl⟩ := h1.shape
  obtain ⟨a2, c2, rfl⟩ := h2.shape
  obtain ⟨a3, c3, rfl⟩ := h3.shape
  exact ⟨_, _, _, _, _, _, rfl⟩
theorem RdR.parts {w : World} {x0 x y z : Value} {r : RowsD} (h : RdR w (.agg #[x0, x, y, z]) r) : RdF w x r.nums ∧ RdF w y r.bnds ∧ RdF w z r.gains := by
  obtain ⟨va, vb, vc, e, h1, h2, h3⟩ := h
  simp only [Value.agg.injEq, Array.mk.injEq, List.cons.injEq, and_true] at e
  obtain ⟨_, rfl, rfl, rfl⟩ := e
  exact ⟨h1, h2, h3⟩
theorem RdR.up {w w' : World} {v : Value} {r : RowsD} {B : Nat} (h : RdR w v r) (hb : Below B w w') (hB : w.heap.size ≤ B) : RdR w' v r := by
  obtain ⟨va, vb, vc, e, h1, h2, h3⟩ := h
  exact ⟨va, vb, vc, e, h1.up hb hB, h2.up hb hB, h3.up hb hB⟩
theorem OwnR.rd {lo hi : Nat} {w : World} {v : Value} {r : RowsD} (h : OwnR lo hi w v r) : RdR w v r := by
  obtain ⟨va, vb, vc, e, h1, h2, h3, _⟩ := h
  exact ⟨va, vb, vc, e, h1.rd, h2.rd, h3.rd⟩
theorem OwnR.up {lo hi : Nat} {w w' : World} {v : Value} {r : RowsD} {B : Nat} (h : OwnR lo hi w v r) (hb : Below B w w') (hB : w.heap.size ≤ B) : OwnR lo hi w' v r := by
  obtain ⟨va, vb, vc, e, h1, h2, h3, h4⟩ := h
  exact ⟨va, vb, vc, e, h1.up hb hB, h2.up hb hB, h3.up hb hB, h4⟩
theorem OwnR.wide {lo hi lo' hi' : Nat} {w : World} {v : Value} {r : RowsD} (h : OwnR lo hi w v r) (a : lo' ≤ lo) (b : hi ≤ hi') : OwnR lo' hi' w v r := by
  obtain ⟨va, vb, vc, e, h1, h2, h3, h4⟩ := h
  exact ⟨va, vb, vc, e, h1.wide a b, h2.wide a b, h3.wide a b, h4⟩
theorem OwnR.kept {lo hi : Nat} {w w' : World} {v : Value} {r : RowsD} {S : Nat → Prop} (h : OwnR lo hi w v r) (hk : Kept S w w') (hs : ∀ b, lo ≤ b → b < hi → ¬ S b) : OwnR lo hi w' v r := by
  obtain ⟨va, vb, vc, e, h1, h2, h3, h4⟩ := h
  exact ⟨va, vb, vc, e, h1.kept hk hs, h2.kept hk hs, h3.kept hk hs, h4⟩
end Go.Proofs.YtgkbbpajkbkgnaaGreatDoor

namespace Go.Proofs.YtgkbbpajkbkgnaaGreatDoor
open Go.ChangeShapes Go.WideShapes Go.ChangeAt Go.RowKit
set_option linter.unusedVariables false
section
variable {H : Type} {enc : TypeId × Value → H} {w : World} {base : Nat} {spare : Nat → Bool} {held : Bool}
end
end Go.Proofs.YtgkbbpajkbkgnaaGreatDoor

namespace Go.Proofs.YtgkbbpajkbkgnaaGreatDoor
open Go.ChangeShapes Go.WideShapes Go.ChangeAt Go.RowKit
set_option linter.unusedVariables false
section
variable {H : Type} {enc : TypeId × Value → H} {w : World} {base : Nat} {spare : Nat → Bool} {held : Bool}
end
end Go.Proofs.YtgkbbpajkbkgnaaGreatDoor

namespace Go.Proofs.YtgkbbpajkbkgnaaGreatDoor
open Go.ChangeShapes Go.WideShapes Go.ChangeAt Go.RowKit
set_option linter.unusedVariables false
section
variable {H : Type} {enc : TypeId × Value → H} {w : World} {base : Nat} {spare : Nat → Bool} {held : Bool}
end
end Go.Proofs.YtgkbbpajkbkgnaaGreatDoor

namespace Go.Proofs.YtgkbbpajkbkgnaaGreatDoor
open Go.RowKit
end Go.Proofs.YtgkbbpajkbkgnaaGreatDoor

namespace Go.Proofs.YtgkbbpajkbkgnaaGreatDoor
open Go.RowKit
structure DeskD where
  rows : RowsD
  sizes : List Int
  jobs : List JobD
  ways : List Int
def RdD (w : World) (v : Value) (d : DeskD) : Prop := ∃ va vb vc vs vj vw, v = .agg #[.int .i64 d.rows.vars, va, vb, vc, vs, vj, vw] ∧ RdR w (.agg #[.int .i64 d.rows.vars, va, vb, vc]) d.rows ∧ RdI w vs d.sizes ∧ RdJ w vj d.jobs ∧ RdI w vw d.ways
def OwnD (lo hi : Nat) (w : World) (v : Value) (d : DeskD) : Prop := ∃ va vb vc vs vj vw l1 h1 l2 h2 l3 h3 l4 h4, v = .agg #[.int .i64 d.rows.vars, va, vb, vc, vs, vj, vw] ∧ OwnR l1 h1 w (.agg #[.int .i64 d.rows.vars, va, vb, vc]) d.rows ∧ OwnI l2 h2 w vs d.sizes ∧ OwnJ l3 h3 w vj d.jobs ∧ OwnI l4 h4 w vw d.ways ∧
  lo ≤ l1 ∧ l1 ≤ h1 ∧ h1 ≤ l2 ∧ l2 ≤ h2 ∧ h2 ≤ l3 ∧ l3 ≤ h3 ∧ h3 ≤ l4 ∧ l4 ≤ h4 ∧ h4 ≤ hi ∧ h4 ≤ w.heap.size
theorem RdD.shape {w : World} {v : Value} {d : DeskD} (h : RdD w v d) : ∃ a1 c1 a2 c2 a3 c3 a4 c4 a5 c5 a6 c6, v = .agg #[.int .i64 d.rows.vars, .slice a1 d.rows.nums.length c1, .slice a2 d.rows.bnds.length c2, .slice a3 d.rows.gains.length c3, .slice a4 d.sizes.length c4, .slice a5 d.jobs.length c5, .slice a6 d.ways.length c6] := by
  obtain ⟨va, vb, vc, vs, vj, vw, rfl, h1, h2, h3, h4⟩ := h
  obtain ⟨a1, c1, a2, c2, a3, c3, e⟩ := h1.shape
  simp only [Value.agg.injEq, Array.mk.injEq, List.cons.injEq, and_true, true_and] at e
  obtain ⟨rfl, rfl, rfl⟩ := e
  obtain ⟨a4, c4, rfl⟩ := h2.shape
  obtain ⟨a5, c5, rfl⟩ := h3.shape
  obtain ⟨a6, c6, rfl⟩ := h4.shape
  exact ⟨_, _, _, _, _, _, _, _, _, _, _, _, rfl⟩
theorem RdD.parts {w : World} {x0 x1 x2 x3 y z u : Value} {d : DeskD} (h : RdD w (.agg #[x0, x1, x2, x3, y, z, u]) d) : RdR w (.agg #[x0, x1, x2, x3]) d.rows ∧ RdI w y d.sizes ∧ RdJ w z d.jobs ∧ RdI w u d.ways := by
  obtain ⟨va, vb, vc, vs, vj, vw, e, h1, h2, h3, h4⟩ := h
  simp only [Value.agg.injEq, Array.mk.injEq, List.cons.injEq, and_true] at e
  obtain ⟨rfl, rfl, rfl, rfl, rfl, rfl, rfl⟩ := e
  exact ⟨h1, h2, h3, h4⟩
theorem RdD.up {w w' : World} {v : Value} {d : DeskD} {B : Nat} (h : RdD w v d) (hb : Below B w w') (hB : w.heap.size ≤ B) : RdD w' v d := by
  obtain ⟨va, vb, vc, vs, vj, vw, e, h1, h2, h3, h4⟩ := h
  exact ⟨va, vb, vc, vs, vj, vw, e, h1.up hb hB, h2.up hb hB, h3.up hb hB, h4.up hb hB⟩
theorem OwnD.rd {lo hi : Nat} {w : World} {v : Value} {d : DeskD} (h : OwnD lo hi w v d) : RdD w v d := by
  obtain ⟨va, vb, vc, vs, vj, vw, l1, h1, l2, h2, l3, h3, l4, h4, e, o1, o2, o3, o4, _⟩ := h
  exact ⟨va, vb, vc, vs, vj, vw, e, o1.rd, o2.rd, o3.rd, o4.rd⟩
theorem OwnD.up {lo hi : Nat} {w w' : World} {v : Value} {d : DeskD} {B : Nat} (h : OwnD lo hi w v d) (hb : Below B w w') (hB : w.heap.size ≤ B) : OwnD lo hi w' v d := by
  obtain ⟨va, vb, vc, vs, vj, vw, l1, h1, l2, h2, l3, h3, l4, h4, e, o1, o2, o3, o4, r1, r2, r3, r4, r5, r6, r7, r8, r9, r10⟩ := h
  exact ⟨va, vb, vc, vs, vj, vw, l1, h1, l2, h2, l3, h3, l4, h4, e, o1.up hb hB, o2.up hb hB, o3.up hb hB, o4.up hb hB, r1, r2, r3, r4, r5, r6, r7, r8, r9, Nat.le_trans r10 hb.size⟩
theorem OwnD.wide {lo hi lo' hi' : Nat} {w : World} {v : Value} {d : DeskD} (h : OwnD lo hi w v d) (a : lo' ≤ lo) (b : hi ≤ hi') : OwnD lo' hi' w v d := by
  obtain ⟨va, vb, vc, vs, vj, vw, l1, h1, l2, h2, l3, h3, l4, h4, e, o1, o2, o3, o4, r1, r2, r3, r4, r5, r6, r7, r8, r9, r10⟩ := h
  exact ⟨va, vb, vc, vs, vj, vw, l1, h1, l2, h2, l3, h3, l4, h4, e, o1, o2, o3, o4, by omega, r2, r3, r4, r5, r6, r7, r8, by omega, r10⟩
theorem OwnD.kept {lo hi : Nat} {w w' : World} {v : Value} {d : DeskD} {S : Nat → Prop} (h : OwnD lo hi w v d) (hk : Kept S w w') (hs : ∀ b, lo ≤ b → b < hi → ¬ S b) : OwnD lo hi w' v d := by
  obtain ⟨va, vb, vc, vs, vj, vw, l1, h1, l2, h2, l3, h3, l4, h4, e, o1, o2, o3, o4, r1, r2, r3, r4, r5, r6, r7, r8, r9, r10⟩ := h
  exact ⟨va, vb, vc, vs, vj, vw, l1, h1, l2, h2, l3, h3, l4, h4, e, o1.kept hk (fun b a c => hs b (by omega) (by omega)), o2.kept hk (fun b a c => hs b (by omega) (by omega)), o3.kept hk (fun b a c => hs b (by omega) (by omega)), o4.kept hk (fun b a c => hs b (by omega) (by omega)), r1, r2, r3, r4, r5, r6, r7, r8, r9, Nat.le_trans r10 hk.size⟩
end Go.Proofs.YtgkbbpajkbkgnaaGreatDoor

namespace Go.Proofs.YtgkbbpajkbkgnaaGreatDoor
open Go.RowKit
theorem Tryz.infoJob : (Tryz.prog.info? 86).map (fun i => (i.zero, i.size, i.bytes)) = some (some (.agg #[.int .i64 0, .int .i64 0, .int .i64 0, .int .i64 0]), 4, 32) := by kernel_rfl
end Go.Proofs.YtgkbbpajkbkgnaaGreatDoor

namespace Go.Proofs.YtgkbbpajkbkgnaaGreatDoor
open Go.RowKit
end Go.Proofs.YtgkbbpajkbkgnaaGreatDoor

namespace Go.Proofs.YtgkbbpajkbkgnaaGreatDoor
open Go.ChangeShapes Go.WideShapes Go.ChangeAt Go.RowKit
set_option linter.unusedVariables false
def BitsF (zs : List Nat) : Prop := ∀ z ∈ zs, z < 4294967296
section
variable {H : Type} {enc : TypeId × Value → H} {w : World} {base : Nat} {spare : Nat → Bool} {held : Bool}
end
end Go.Proofs.YtgkbbpajkbkgnaaGreatDoor

namespace Go.Proofs.YtgkbbpajkbkgnaaGreatDoor
open Go.RowKit
def sameF : List Nat → List Nat → Bool := eqBy sameX
set_option maxHeartbeats 1000000 in
theorem sameNumbers_any (v v' : Value) (xs ys : List Nat) (w : World) (h : RdF w v xs) (h' : RdF w v' ys) :
    Calls Tryz.prog 133 #[v, v'] w fun e w' => e = .returned (.bool (sameF xs ys)) ∧ ∃ n, w' = w.drewN n := by
  obtain ⟨a, c, rfl⟩ := h.shape
  obtain ⟨a', c', rfl⟩ := h'.shape
  have hm := h.len
  simp only [maxLen] at hm
  have H1 := Lib.hid h
  have H2 := Lib.hid h'
  clear h h'
  by_cases hl : xs.length = ys.length
  · have hne : ((xs.length : Int) != (ys.length : Int)) = false := by simp [hl]
    have HL := Lib.hid hl
    clear hl
    go_enter Tryz.func133, Tryz.ntmps133
    go_wp2_with fail
    go_loopw [13] (fun i wr => ∃ k : Nat, i = .int .i64 k ∧ k ≤ xs.length ∧ Hid (∀ j, j < k → sameX (xs.getD j 0) (ys.getD j 0) = true) ∧ Hid (∃ n, wr = w.drewN n)) (fun i _ => xs.length - (intOf i).toNat)
    case atStart => exact ⟨0, rfl, Nat.zero_le _, fun j hj => by omega, Lib.hid ⟨0, rfl⟩⟩
    case round =>
      obtain ⟨k, rfl, hk, hall, hdr⟩ := hrel
      by_cases hlt : k < xs.length
      · have hlt2 : k < ys.length := by have := HL.out; omega
        obtain ⟨b, off, rfl, hb, hc⟩ := (show RdF wr _ xs by obtain ⟨n, rfl⟩ := hdr.out; exact H1.out.drewN n).at hlt
        obtain ⟨b', off', rfl, hb', hc'⟩ := (show RdF wr _ ys by obtain ⟨n, rfl⟩ := hdr.out; exact H2.out.drewN n).at hlt2
        obtain ⟨x, hx⟩ : ∃ x, x = xs.getD k 0 := ⟨_, rfl⟩
        obtain ⟨y, hy⟩ : ∃ y, y = ys.getD k 0 := ⟨_, rfl⟩
        rw [← hx] at hc
        rw [← hy] at hc'
        have HX := Lib.hid hx
        have HY := Lib.hid hy
        clear hx hy
        have hlt2' : (k : Int) < ys.length := by omega
        obtain ⟨q, hq⟩ : ∃ q, sameX x y = q := ⟨_, rfl⟩
        have HQ := Lib.hid hq
        clear hq
        cases q
        · go_wp2_with fail
          go_quiet ((go_at_call 178; exact quiet_same (SameNumber_b _ x y _ HQ.out)))
          go_wp2_with fail
          go_ret
          exact ⟨by rw [show sameF xs ys = false from eqBy_ne sameX 0 xs ys k hlt hlt2 (by rw [← HX.out, ← HY.out]; exact HQ.out)]; rfl, by obtain ⟨n, rfl⟩ := hdr.out; exact drewN_ex ⟨n, rfl⟩ _⟩
        · go_wp2_with fail
          go_quiet ((go_at_call 178; exact quiet_same (SameNumber_b _ x y _ HQ.out)))
          go_wp2_with fail
          go_roundw
          case rel =>
            refine ⟨k + 1, by go_num, by omega, fun j hj => ?_, Lib.hid (by obtain ⟨n, rfl⟩ := hdr.out; exact drewN_ex ⟨n, rfl⟩ _)⟩
            by_cases hjk : j < k
            · exact hall.out j hjk
            · obtain rfl : j = k := by omega
              rw [← HX.out, ← HY.out]; exact HQ.out
          case measure => simp [intOf]; omega
      · obtain rfl : k = xs.length := by omega
        go_wp2_with fail
        go_ret
        exact ⟨by rw [show sameF xs ys = true from eqBy_all sameX 0 xs ys HL.out hall.out]; rfl, hdr.out⟩
  · have hne : ((xs.length : Int) != (ys.length : Int)) = true := by simp; omega
    have HNO := Lib.hid (show sameF xs ys = false from eqBy_len sameX xs ys hl)
    go_enter Tryz.func133, Tryz.ntmps133
    go_wp2_with fail
    go_ret
    exact ⟨by rw [HNO.out]; rfl, 0, rfl⟩
end Go.Proofs.YtgkbbpajkbkgnaaGreatDoor

namespace Go.Proofs.YtgkbbpajkbkgnaaGreatDoor
open Go.RowKit
def sameJ (x y : JobD) : Bool := (x.long == y.long) && ((x.due == y.due) && ((x.weight == y.weight) && (x.ready == y.ready)))
def sameJs : List JobD → List JobD → Bool := eqBy sameJ
theorem jobs_five (x y : JobD) : ((x.long == y.long) = true ∧ (x.due == y.due) = true ∧ (x.weight == y.weight) = true ∧ (x.ready == y.ready) = true ∧ sameJ x y = true) ∨ ((x.long == y.long) = false ∧ sameJ x y = false) ∨ ((x.long == y.long) = true ∧ (x.due == y.due) = false ∧ sameJ x y = false) ∨ ((x.long == y.long) = true ∧ (x.due == y.due) = true ∧ (x.weight == y.weight) = false ∧ sameJ x y = false) ∨ ((x.long == y.long) = true ∧ (x.due == y.due) = true ∧ (x.weight == y.weight) = true ∧ (x.ready == y.ready) = false ∧ sameJ x y = false) := by
  unfold sameJ
  cases (x.long == y.long) <;> cases (x.due == y.due) <;> cases (x.weight == y.weight) <;> cases (x.ready == y.ready) <;> simp
theorem RdJ.drewN' {w : World} {v : Value} {js : List JobD} (h : RdJ w v js) (n : Nat) : RdJ (w.drewN n) v js := h.up (below_drewN (Below.refl w.heap.size w) n) (Nat.le_refl _)
set_option maxHeartbeats 2000000 in
set_option maxRecDepth 4000 in
theorem equalJ_any (v v' : Value) (xs ys : List JobD) (w : World) (h : RdJ w v xs) (h' : RdJ w v' ys) :
    Calls Tryz.prog 80 #[v, v'] w fun e w' => e = .returned (.bool (sameJs xs ys)) ∧ ∃ n, w' = w.drewN n := by
  obtain ⟨a, c, rfl⟩ := h.shape
  obtain ⟨a', c', rfl⟩ := h'.shape
  have hm := h.len
  simp only [maxLen] at hm
  have H1 := Lib.hid h
  have H2 := Lib.hid h'
  clear h h'
  by_cases hl : xs.length = ys.length
  · have hne : ((xs.length : Int) != (ys.length : Int)) = false := by simp [hl]
    have HL := Lib.hid hl
    clear hl
    go_enter Tryz.func80, Tryz.ntmps80
    go_wp2_with fail
    go_loopw [13] (fun i wr => ∃ k : Nat, i = .int .i64 k ∧ k ≤ xs.length ∧ Hid (∀ j, j < k → sameJ (xs.getD j J0) (ys.getD j J0) = true) ∧ Hid (∃ n, wr = w.drewN n)) (fun i _ => xs.length - (intOf i).toNat)
    case atStart => exact ⟨0, rfl, Nat.zero_le _, fun j hj => by omega, Lib.hid ⟨0, rfl⟩⟩
    case round =>
      obtain ⟨k, rfl, hk, hall, hdr⟩ := hrel
      by_cases hlt : k < xs.length
      · have hlt2 : k < ys.length := by have := HL.out; omega
        obtain ⟨b, off, rfl, hb, c0, c1, c2, c3⟩ := (show RdJ wr _ xs by obtain ⟨n, rfl⟩ := hdr.out; exact H1.out.drewN' n).at hlt
        obtain ⟨b', off', rfl, hb', e0, e1, e2, e3⟩ := (show RdJ wr _ ys by obtain ⟨n, rfl⟩ := hdr.out; exact H2.out.drewN' n).at hlt2
        obtain ⟨x, hx⟩ : ∃ x, x = xs.getD k J0 := ⟨_, rfl⟩
        obtain ⟨y, hy⟩ : ∃ y, y = ys.getD k J0 := ⟨_, rfl⟩
        rw [← hx] at c0 c1 c2 c3
        rw [← hy] at e0 e1 e2 e3
        have HX := Lib.hid hx
        have HY := Lib.hid hy
        clear hx hy
        have hlt2' : (k : Int) < ys.length := by omega
        rcases jobs_five x y with ⟨h0, h1, h2, h3, HS⟩ | ⟨h0, HS⟩ | ⟨h0, h1, HS⟩ | ⟨h0, h1, h2, HS⟩ | ⟨h0, h1, h2, h3, HS⟩
        · have HQ := Lib.hid HS
          clear HS
          go_wp2_with fail
          go_quiet (fail)
          go_wp2_with fail
          go_roundw
          case rel =>
            refine ⟨k + 1, by go_num, by omega, fun j hj => ?_, Lib.hid (by obtain ⟨n, rfl⟩ := hdr.out; exact drewN_ex ⟨n, rfl⟩ _)⟩
            by_cases hjk : j < k
            · exact hall.out j hjk
            · obtain rfl : j = k := by omega
              rw [← HX.out, ← HY.out]; exact HQ.out
          case measure => simp [intOf]; omega
        · have HQ := Lib.hid HS
          clear HS
          go_wp2_with fail
          go_quiet (fail)
          go_wp2_with fail
          go_ret
          exact ⟨by rw [show sameJs xs ys = false from eqBy_ne sameJ J0 xs ys k hlt hlt2 (by rw [← HX.out, ← HY.out]; exact HQ.out)]; rfl, by obtain ⟨n, rfl⟩ := hdr.out; exact drewN_ex ⟨n, rfl⟩ _⟩
        · have HQ := Lib.hid HS
          clear HS
          go_wp2_with fail
          go_quiet (fail)
          go_wp2_with fail
          go_ret
          exact ⟨by rw [show sameJs xs ys = false from eqBy_ne sameJ J0 xs ys k hlt hlt2 (by rw [← HX.out, ← HY.out]; exact HQ.out)]; rfl, by obtain ⟨n, rfl⟩ := hdr.out; exact drewN_ex ⟨n, rfl⟩ _⟩
        · have HQ := Lib.hid HS
          clear HS
          go_wp2_with fail
          go_quiet (fail)
          go_wp2_with fail
          go_ret
          exact ⟨by rw [show sameJs xs ys = false from eqBy_ne sameJ J0 xs ys k hlt hlt2 (by rw [← HX.out, ← HY.out]; exact HQ.out)]; rfl, by obtain ⟨n, rfl⟩ := hdr.out; exact drewN_ex ⟨n, rfl⟩ _⟩
        · have HQ := Lib.hid HS
          clear HS
          go_wp2_with fail
          go_quiet (fail)
          go_wp2_with fail
          go_ret
          exact ⟨by rw [show sameJs xs ys = false from eqBy_ne sameJ J0 xs ys k hlt hlt2 (by rw [← HX.out, ← HY.out]; exact HQ.out)]; rfl, by obtain ⟨n, rfl⟩ := hdr.out; exact drewN_ex ⟨n, rfl⟩ _⟩
      · obtain rfl : k = xs.length := by omega
        go_wp2_with fail
        go_ret
        exact ⟨by rw [show sameJs xs ys = true from eqBy_all sameJ J0 xs ys HL.out hall.out]; rfl, hdr.out⟩
  · have hne : ((xs.length : Int) != (ys.length : Int)) = true := by simp; omega
    have HNO := Lib.hid (show sameJs xs ys = false from eqBy_len sameJ xs ys hl)
    go_enter Tryz.func80, Tryz.ntmps80
    go_wp2_with fail
    go_ret
    exact ⟨by rw [HNO.out]; rfl, 0, rfl⟩
end Go.Proofs.YtgkbbpajkbkgnaaGreatDoor

namespace Go.Proofs.YtgkbbpajkbkgnaaGreatDoor
open Go.RowKit
def sameR (r s : RowsD) : Bool := (r.vars == s.vars) && (sameF r.nums s.nums && (sameF r.bnds s.bnds && sameF r.gains s.gains))
end Go.Proofs.YtgkbbpajkbkgnaaGreatDoor
