/-
  Lists of numbers in single precision: read, owned; the laws' own functions over them.
-/
import Derived.Test.YtljhohacgceojaaFloat
import Derived.Test.YtljhohacgceojaaPredI
namespace Go.Proofs.Ytljhohacgceojaa
open Go.RowKit

def RdF (w : World) (v : Value) (xs : List Nat) : Prop := Slc w v (xs.map F32)
def OwnF (lo hi : Nat) (w : World) (v : Value) (xs : List Nat) : Prop := w.ownsRow lo 148 1 v xs.length (xs.map F32) ∧ ∀ g, v.ownBlock = some g → g < hi
def bulkF (xs : List Nat) : Nat := xs.length

theorem RdF.shape {w : World} {v : Value} {xs : List Nat} (h : RdF w v xs) : ∃ a c, v = .slice a xs.length c := by
  obtain ⟨a, c, e⟩ := Slc.shape h; exact ⟨a, c, by simpa using e⟩
theorem RdF.up {w w' : World} {v : Value} {xs : List Nat} {B : Nat} (h : RdF w v xs) (hb : Below B w w') (hB : w.heap.size ≤ B) : RdF w' v xs := Slc.below h hb hB
theorem RdF.at {w : World} {a : Option Addr} {n c : Nat} {xs : List Nat} (h : RdF w (.slice a n c) xs) {i : Nat} (hi : i < xs.length) :
    ∃ b off, a = some ⟨b, off, none⟩ ∧ b < w.heap.size ∧ w.cell? ⟨b, off + i, none⟩ = some (.float .f32 (xs.getD i 0)) := Slc.at h (by simp [F32, hi])
theorem RdF.len {w : World} {v : Value} {xs : List Nat} (h : RdF w v xs) : xs.length ≤ maxLen := by simpa using Slc.len h
theorem RdF.drewN {w : World} {v : Value} {xs : List Nat} (h : RdF w v xs) (n : Nat) : RdF (w.drewN n) v xs := Slc.drewN h n
theorem OwnF.rd {lo hi : Nat} {w : World} {v : Value} {xs : List Nat} (h : OwnF lo hi w v xs) : RdF w v xs := slc_of_owns h.1
theorem OwnF.up {lo hi : Nat} {w w' : World} {v : Value} {xs : List Nat} {B : Nat} (h : OwnF lo hi w v xs) (hb : Below B w w') (hB : w.heap.size ≤ B) : OwnF lo hi w' v xs := ⟨owns_below h.1 hb hB, h.2⟩
theorem OwnF.wide {lo hi lo' hi' : Nat} {w : World} {v : Value} {xs : List Nat} (h : OwnF lo hi w v xs) (h1 : lo' ≤ lo) (h2 : hi ≤ hi') : OwnF lo' hi' w v xs := ⟨owns_base h.1 h1, fun g hg => Nat.lt_of_lt_of_le (h.2 g hg) h2⟩
theorem OwnF.kept {lo hi : Nat} {w w' : World} {v : Value} {xs : List Nat} {S : Nat → Prop} (h : OwnF lo hi w v xs) (hk : Kept S w w') (hs : ∀ b, lo ≤ b → b < hi → ¬ S b) : OwnF lo hi w' v xs :=
  ⟨owns_kept h.1 hk fun g hg => hs g (owns_lt h.1 hg).1 (h.2 g hg), h.2⟩
theorem OwnF.mk {lo : Nat} {w : World} {v : Value} {n : Nat} {xs : List Nat} (h : w.ownsRow lo 148 1 v n (xs.map F32)) : OwnF lo w.heap.size w v xs := by
  obtain rfl : xs.length = n := by simpa using owns_len h
  exact ⟨h, fun g hg => (owns_lt h hg).2⟩

set_option maxHeartbeats 400000 in
theorem szF_any (v : Value) (xs : List Nat) (left : Int) (w : World) (h : RdF w v xs) (h1 : left ≤ 1048576) (h0 : 0 ≤ left) :
    Calls Try.prog 114 #[v, .int .i64 left] w fun e w' => ∃ r : Int, e = .returned (.int .i64 r) ∧ -1 ≤ r ∧ r ≤ left ∧ (0 ≤ r → (bulkF xs : Int) ≤ left - r) ∧ Below w.heap.size w w' := by
  obtain ⟨a, c, rfl⟩ := h.shape
  have hn := h.len
  unfold maxLen at hn
  unfold bulkF
  have HB : Hid (Below w.heap.size w w) := Below.refl _ _
  clear h
  by_cases h : left - xs.length < 0
  · go_enter Try.func114, Try.ntmps114
    go_wp2
    go_ret
    exact ⟨-1, rfl, by omega, by omega, by omega, HB.out⟩
  · go_enter Try.func114, Try.ntmps114
    go_wp2
    go_ret
    exact ⟨_, rfl, by omega, by omega, by omega, HB.out⟩

theorem Try.infoF32 : (Try.prog.info? 148).map (fun i => (i.zero, i.size, i.bytes)) = some (some (.float .f32 0), 1, 4) := by kernel_rfl

theorem fill_f {xs : List Nat} {k : Nat} {x : Nat} (hk : k < xs.length) (hx : x = xs.getD k 0) :
    ((xs.take k ++ List.replicate (xs.length - k) 0).map F32).set k (.float .f32 x) = (xs.take (k + 1) ++ List.replicate (xs.length - (k + 1)) 0).map F32 := by
  subst hx
  have e : List.replicate (xs.length - k) (0 : Nat) = 0 :: List.replicate (xs.length - (k + 1)) 0 := by
    rw [show xs.length - k = (xs.length - (k + 1)) + 1 by omega, List.replicate_succ]
  rw [e, List.take_succ_eq_append_getElem hk, List.map_append, List.map_cons, set_mid _ _ _ _ _ (by simp; omega), List.map_append, List.map_append, List.append_assoc, show xs.getD k 0 = xs[k] from by simp [hk]]
  rfl

@[go_sem] theorem run_store_float (P : Program) (w : World) (a : Addr) (m : Mode) (k : FloatKind) (n : Nat) : (store a (.float k n) m).run P w = stored P w a (.float k n) m := run_store P w a _ m rfl

set_option maxHeartbeats 400000 in
theorem toF_any (v : Value) (xs : List Nat) (w : World) (h : RdF w v xs) (hb : bulkF xs ≤ 1048576) :
    Calls Try.prog 116 #[v] w fun e w' => ∃ v', e = .returned v' ∧ OwnF w.heap.size w'.heap.size w' v' xs ∧ Below w.heap.size w w' := by
  obtain ⟨i0, hi, hz0, hz1, hz2⟩ := info_parts Try.infoF32
  obtain ⟨a, cap, rfl⟩ := h.shape
  unfold bulkF at hb
  have HS := Lib.hid h
  clear h
  go_enter Try.func116, Try.ntmps116
  go_wp2_with (at_make; refine wpList_make_full _ rfl _ _ 57 rfl w.heap.size 148 i0 (.float .f32 0) 1 Try.underlying57 hi hz0 hz1 .i64 .i64 xs.length xs.length xs.length rfl rfl rfl rfl (by rw [hz2]; omega) (by unfold maxLen; omega) (by simp) ?_; intro w1 hown hgrow)
  have hb1 : Below w.heap.size w w1 := (Below.refl _ _).grown hgrow (Nat.le_refl _) (by intro k hk; cases hk)
  have hz : (madeCells (Value.float .f32 0).cells (xs.length * 1)).toList = (List.replicate xs.length (0 : Nat)).map F32 := by
    simpa [Value.cells, F32] using toList_madeCells_one (Value.float .f32 0) xs.length
  rw [hz] at hown
  have HO := Lib.hid hown
  have HB := Lib.hid hb1
  clear hown hb1 hz hgrow
  go_loopw [4] (fun i wr => ∃ k : Nat, i = .int .i64 k ∧ k ≤ xs.length ∧ wr.ownsRow w.heap.size 148 1 (.slice (some ⟨w.heap.size, 0, none⟩) xs.length xs.length) xs.length ((xs.take k ++ List.replicate (xs.length - k) 0).map F32) ∧ Below w.heap.size w wr) (fun i _ => xs.length - (intOf i).toNat)
  case atStart => exact ⟨0, rfl, Nat.zero_le _, by simpa using HO.out, HB.out⟩
  case round =>
    obtain ⟨k, rfl, hk, hown, hbel⟩ := hrel
    have HO1 := Lib.hid hown
    have HB1 := Lib.hid hbel
    clear hown hbel
    by_cases hlt : k < xs.length
    · obtain ⟨b, off, rfl, hb0, hc⟩ := (HS.out.up HB1.out (Nat.le_refl _)).at hlt
      have hd := HO1.out.cellAt k (by omega)
      have hfr := HO1.out.frozenAt k
      have hdl : ((xs.take k ++ List.replicate (xs.length - k) 0).map F32)[k]? = some (.float .f32 0) := by
        rw [List.getElem?_map, List.getElem?_append_right (by simp; omega)]
        simp [F32, List.getElem?_replicate]
        omega
      rw [hdl] at hd
      obtain ⟨x, hx⟩ : ∃ x, x = xs.getD k 0 := ⟨_, rfl⟩
      rw [← hx] at hc
      have HX := Lib.hid hx
      clear hx hdl
      go_wp2_with fail
      go_roundw
      case rel =>
        refine ⟨k + 1, by go_num, by omega, ?_, HB1.out.setCell (Nat.le_refl _) _⟩
        have h1 := (HO1.out.stored k (.float .f32 x)).1
        rw [fill_f hlt HX.out] at h1
        exact h1
      case measure => simp [intOf]; omega
    · obtain rfl : k = xs.length := by omega
      go_wp2_with fail
      go_ret
      exact ⟨_, rfl, OwnF.mk (by simpa using HO1.out), HB1.out⟩

/-! ### The same number -/

theorem zero_div {r : Nat} (h : Ieee.double.order r 0 = some .eq) : ∃ q, Ieee.double.div 4607182418800017408 r = some q := by
  have e1 : Ieee.double.read 4607182418800017408 = .number false 4503599627370496 (-52) := by decide +kernel
  have e0 : Ieee.double.read 0 = .number false 0 (-1074) := by decide +kernel
  unfold Ieee.Format.order at h
  unfold Ieee.Format.div
  rw [e1]
  rw [e0] at h
  cases hr : Ieee.double.read r with
  | nan a b => rw [hr] at h; simp [Ieee.Datum.order] at h
  | infinity s => rw [hr] at h; cases s <;> simp [Ieee.Datum.order] at h
  | number s m e =>
    by_cases hm : m = 0
    · subst hm; simp [Ieee.Datum.quotient]
    · simp [Ieee.Datum.quotient, hm]

set_option maxHeartbeats 1000000 in
theorem sameFloat_self (r : Nat) (hn : (Ieee.double.read r).isNaN = false) (w : World) :
    Calls Try.prog 133 #[.float .f64 r, .float .f64 r] w fun e w' => e = .returned (.bool true) ∧ w = w' := by
  have ho : (FloatKind.f64.format.order r r != some .eq) = false := by simp [show FloatKind.f64.format.order r r = some .eq from order_self _ _ hn]
  have ho2 : (FloatKind.f64.format.order r r == some .eq) = true := by simp [show FloatKind.f64.format.order r r = some .eq from order_self _ _ hn]
  by_cases hz : Ieee.double.order r 0 = some .eq
  · obtain ⟨q, hq⟩ := zero_div hz
    have hq2 := fun (W : World) => run_float_arith (P := Try.prog) W .quo 156 .f64 4607182418800017408 r q hq
    have hz1 : (FloatKind.f64.format.order r 0 == some .eq) = true := by simp [show FloatKind.f64.format.order r 0 = some .eq from hz]
    clear hz hq
    go_enter Try.func133, Try.ntmps133
    go_wp2_with fail
    go_ret
    exact ⟨by simp, rfl⟩
  · have hz1 : (FloatKind.f64.format.order r 0 == some .eq) = false := by simp [show ¬ FloatKind.f64.format.order r 0 = some .eq from hz]
    clear hz
    go_enter Try.func133, Try.ntmps133
    go_wp2_with fail
    go_ret
    exact ⟨rfl, rfl⟩

set_option maxHeartbeats 1000000 in
theorem sameFloat_nan (a b : Nat) (ha : (Ieee.double.read a).isNaN = true) (hb : (Ieee.double.read b).isNaN = true) (w : World) :
    Calls Try.prog 133 #[.float .f64 a, .float .f64 b] w fun e w' => e = .returned (.bool true) ∧ w = w' := by
  have h1 : (FloatKind.f64.format.order a a != some .eq) = true := by simp [show FloatKind.f64.format.order a a = none from order_nanL _ _ _ ha]
  have h2 : (FloatKind.f64.format.order b b != some .eq) = true := by simp [show FloatKind.f64.format.order b b = none from order_nanL _ _ _ hb]
  go_enter Try.func133, Try.ntmps133
  go_wp2_with fail
  go_ret
  exact ⟨rfl, rfl⟩

end Go.Proofs.Ytljhohacgceojaa
