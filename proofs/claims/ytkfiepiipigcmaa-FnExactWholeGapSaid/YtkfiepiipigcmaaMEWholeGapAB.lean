/-
  FnExactWholeGap: texts joined: PredF, Fin, Dot, Float64, MarkI, MarkF.
-/
import Derived.Deep.RegionHeld3
import Derived.Test.YtkfiepiipigcmaaMEWholeGapAA
namespace Go.Proofs.Ytkfiepiipigcmaa
open Go.RowKit

def RdF (w : World) (v : Value) (xs : List Nat) : Prop := Slc w v (xs.map F32)
def OwnF (lo hi : Nat) (w : World) (v : Value) (xs : List Nat) : Prop := w.ownsRow lo 63 1 v xs.length (xs.map F32) ∧ ∀ g, v.ownBlock = some g → g < hi
def bulkF (xs : List Nat) : Nat := xs.length

theorem RdF.shape {w : World} {v : Value} {xs : List Nat} (h : RdF w v xs) : ∃ a c, v = .slice a xs.length c := by
  obtain ⟨a, c, e⟩ := Slc.shape h; exact ⟨a, c, by simpa using e⟩
theorem RdF.up {w w' : World} {v : Value} {xs : List Nat} {B : Nat} (h : RdF w v xs) (hb : Below B w w') (hB : w.heap.size ≤ B) : RdF w' v xs := Slc.below h hb hB
theorem RdF.at {w : World} {a : Option Addr} {n c : Nat} {xs : List Nat} (h : RdF w (.slice a n c) xs) {i : Nat} (hi : i < xs.length) :
    ∃ b off, a = some ⟨b, off, none⟩ ∧ b < w.heap.size ∧ w.cell? ⟨b, off + i, none⟩ = some (.float .f32 (xs.getD i 0)) := Slc.at h (by simp [F32, hi])
theorem RdF.len {w : World} {v : Value} {xs : List Nat} (h : RdF w v xs) : xs.length ≤ maxLen := by simpa using Slc.len h
theorem RdF.drewN {w : World} {v : Value} {xs : List Nat} (h : RdF w v xs) (n : Nat) : RdF (w.drewN n) v xs := Slc.drewN h n
theorem OwnF.rd {lo hi : Nat} {w : World} {v : Value} {xs : List Nat} (h : OwnF lo hi w v xs) : RdF w v xs := slc_of_owns h.1
theorem OwnF.up {lo hi : Nat} {w w' : World} {v : Value} {xs : List Nat} {B : Nat} (h : OwnF lo hi w v xs) (hb : Below B w w') (hB : w.heap.size ≤ B) : OwnF lo hi w' v xs := ⟨owns_below h.1 hb hB, h.2⟩
theorem OwnF.wide {lo hi lo' hi' : Nat} {w : World} {v : Value} {xs : List Nat} (h : OwnF lo hi w v xs) (h1 : lo' ≤ lo) (h2 : hi ≤ hi') : OwnF lo' hi' w v xs := ⟨owns_base h.1 h1, fun g hg => Nat.lt_of_lt_of_le (h.2 g hg) h2⟩
theorem OwnF.kept {lo hi : Nat} {w w' : World} {v : Value} {xs : List Nat} {S : Nat → Prop} (h : OwnF lo hi w v xs) (hk : Kept S w w') (hs : ∀ b, lo ≤ b → b < hi → ¬ S b) : OwnF lo hi w' v xs :=
  ⟨owns_kept h.1 hk fun g hg => hs g (owns_lt h.1 hg).1 (h.2 g hg), h.2⟩
theorem OwnF.mk {lo : Nat} {w : World} {v : Value} {n : Nat} {xs : List Nat} (h : w.ownsRow lo 63 1 v n (xs.map F32)) : OwnF lo w.heap.size w v xs := by
  obtain rfl : xs.length = n := by simpa using owns_len h
  exact ⟨h, fun g hg => (owns_lt h hg).2⟩

set_option maxHeartbeats 400000 in
theorem szF_any (v : Value) (xs : List Nat) (left : Int) (w : World) (h : RdF w v xs) (h1 : left ≤ 1048576) (h0 : 0 ≤ left) :
    Calls Try.prog 83 #[v, .int .i64 left] w fun e w' => ∃ r : Int, e = .returned (.int .i64 r) ∧ -1 ≤ r ∧ r ≤ left ∧ (0 ≤ r → (bulkF xs : Int) ≤ left - r) ∧ Below w.heap.size w w' := by
  obtain ⟨a, c, rfl⟩ := h.shape
  have hn := h.len
  unfold maxLen at hn
  unfold bulkF
  have HB : Hid (Below w.heap.size w w) := Below.refl _ _
  clear h
  by_cases h : left - xs.length < 0
  · go_enter Try.func83, Try.ntmps83
    go_wp2
    go_ret
    exact ⟨-1, rfl, by omega, by omega, by omega, HB.out⟩
  · go_enter Try.func83, Try.ntmps83
    go_wp2
    go_ret
    exact ⟨_, rfl, by omega, by omega, by omega, HB.out⟩

theorem Try.infoF32 : (Try.prog.info? 63).map (fun i => (i.zero, i.size, i.bytes)) = some (some (.float .f32 0), 1, 4) := by kernel_rfl

theorem fill_f {xs : List Nat} {k : Nat} {x : Nat} (hk : k < xs.length) (hx : x = xs.getD k 0) :
    ((xs.take k ++ List.replicate (xs.length - k) 0).map F32).set k (.float .f32 x) = (xs.take (k + 1) ++ List.replicate (xs.length - (k + 1)) 0).map F32 := by
  subst hx
  have e : List.replicate (xs.length - k) (0 : Nat) = 0 :: List.replicate (xs.length - (k + 1)) 0 := by
    rw [show xs.length - k = (xs.length - (k + 1)) + 1 by omega, List.replicate_succ]
  rw [e, List.take_succ_eq_append_getElem hk, List.map_append, List.map_cons, set_mid _ _ _ _ _ (by simp; omega), List.map_append, List.map_append, List.append_assoc, show xs.getD k 0 = xs[k] from by simp [hk]]
  rfl

@[go_sem] theorem run_store_float (P : Program) (w : World) (a : Addr) (m : Mode) (k : FloatKind) (n : Nat) : (store a (.float k n) m).run P w = stored P w a (.float k n) m := run_store P w a _ m rfl

set_option maxHeartbeats 400000 in
theorem toF_any (v : Value) (xs : List Nat) (w : World) (h : RdF w v xs) (hb : bulkF xs ≤ 1048576) :
    Calls Try.prog 89 #[v] w fun e w' => ∃ v', e = .returned v' ∧ OwnF w.heap.size w'.heap.size w' v' xs ∧ Below w.heap.size w w' := by
  obtain ⟨i0, hi, hz0, hz1, hz2⟩ := info_parts Try.infoF32
  obtain ⟨a, cap, rfl⟩ := h.shape
  unfold bulkF at hb
  have HS := Lib.hid h
  clear h
  go_enter Try.func89, Try.ntmps89
  go_wp2_with (at_make; refine wpList_make_full _ rfl _ _ 60 rfl w.heap.size 63 i0 (.float .f32 0) 1 Try.underlying60 hi hz0 hz1 .i64 .i64 xs.length xs.length xs.length rfl rfl rfl rfl (by rw [hz2]; omega) (by unfold maxLen; omega) (by simp) ?_; intro w1 hown hgrow)
  have hb1 : Below w.heap.size w w1 := (Below.refl _ _).grown hgrow (Nat.le_refl _) (by intro k hk; cases hk)
  have hz : (madeCells (Value.float .f32 0).cells (xs.length * 1)).toList = (List.replicate xs.length (0 : Nat)).map F32 := by
    simpa [Value.cells, F32] using toList_madeCells_one (Value.float .f32 0) xs.length
  rw [hz] at hown
  have HO := Lib.hid hown
  have HB := Lib.hid hb1
  clear hown hb1 hz hgrow
  go_loopw [4] (fun i wr => ∃ k : Nat, i = .int .i64 k ∧ k ≤ xs.length ∧ wr.ownsRow w.heap.size 63 1 (.slice (some ⟨w.heap.size, 0, none⟩) xs.length xs.length) xs.length ((xs.take k ++ List.replicate (xs.length - k) 0).map F32) ∧ Below w.heap.size w wr) (fun i _ => xs.length - (intOf i).toNat)
  case atStart => exact ⟨0, rfl, Nat.zero_le _, by simpa using HO.out, HB.out⟩
  case round =>
    obtain ⟨k, rfl, hk, hown, hbel⟩ := hrel
    have HO1 := Lib.hid hown
    have HB1 := Lib.hid hbel
    clear hown hbel
    by_cases hlt : k < xs.length
    · obtain ⟨b, off, rfl, hb0, hc⟩ := (HS.out.up HB1.out (Nat.le_refl _)).at hlt
      have hd := HO1.out.cellAt k (by omega)
      have hfr := HO1.out.frozenAt k
      have hdl : ((xs.take k ++ List.replicate (xs.length - k) 0).map F32)[k]? = some (.float .f32 0) := by
        rw [List.getElem?_map, List.getElem?_append_right (by simp; omega)]
        simp [F32, List.getElem?_replicate]
        omega
      rw [hdl] at hd
      obtain ⟨x, hx⟩ : ∃ x, x = xs.getD k 0 := ⟨_, rfl⟩
      rw [← hx] at hc
      have HX := Lib.hid hx
      clear hx hdl
      go_wp2_with fail
      go_roundw
      case rel =>
        refine ⟨k + 1, by go_num, by omega, ?_, HB1.out.setCell (Nat.le_refl _) _⟩
        have h1 := (HO1.out.stored k (.float .f32 x)).1
        rw [fill_f hlt HX.out] at h1
        exact h1
      case measure => simp [intOf]; omega
    · obtain rfl : k = xs.length := by omega
      go_wp2_with fail
      go_ret
      exact ⟨_, rfl, OwnF.mk (by simpa using HO1.out), HB1.out⟩

/-! ### The same number -/

theorem zero_div {r : Nat} (h : Ieee.double.order r 0 = some .eq) : ∃ q, Ieee.double.div 4607182418800017408 r = some q := by
  have e1 : Ieee.double.read 4607182418800017408 = .number false 4503599627370496 (-52) := by decide +kernel
  have e0 : Ieee.double.read 0 = .number false 0 (-1074) := by decide +kernel
  unfold Ieee.Format.order at h
  unfold Ieee.Format.div
  rw [e1]
  rw [e0] at h
  cases hr : Ieee.double.read r with
  | nan a b => rw [hr] at h; simp [Ieee.Datum.order] at h
  | infinity s => rw [hr] at h; cases s <;> simp [Ieee.Datum.order] at h
  | number s m e =>
    by_cases hm : m = 0
    · subst hm; simp [Ieee.Datum.quotient]
    · simp [Ieee.Datum.quotient, hm]

set_option maxHeartbeats 1000000 in
theorem sameFloat_self (r : Nat) (hn : (Ieee.double.read r).isNaN = false) (w : World) :
    Calls Try.prog 48 #[.float .f64 r, .float .f64 r] w fun e w' => e = .returned (.bool true) ∧ w = w' := by
  have ho : (FloatKind.f64.format.order r r != some .eq) = false := by simp [show FloatKind.f64.format.order r r = some .eq from order_self _ _ hn]
  have ho2 : (FloatKind.f64.format.order r r == some .eq) = true := by simp [show FloatKind.f64.format.order r r = some .eq from order_self _ _ hn]
  by_cases hz : Ieee.double.order r 0 = some .eq
  · obtain ⟨q, hq⟩ := zero_div hz
    have hq2 := fun (W : World) => run_float_arith (P := Try.prog) W .quo 70 .f64 4607182418800017408 r q hq
    have hz1 : (FloatKind.f64.format.order r 0 == some .eq) = true := by simp [show FloatKind.f64.format.order r 0 = some .eq from hz]
    clear hz hq
    go_enter Try.func48, Try.ntmps48
    go_wp2_with fail
    go_ret
    exact ⟨by simp, rfl⟩
  · have hz1 : (FloatKind.f64.format.order r 0 == some .eq) = false := by simp [show ¬ FloatKind.f64.format.order r 0 = some .eq from hz]
    clear hz
    go_enter Try.func48, Try.ntmps48
    go_wp2_with fail
    go_ret
    exact ⟨rfl, rfl⟩

set_option maxHeartbeats 1000000 in
theorem sameFloat_nan (a b : Nat) (ha : (Ieee.double.read a).isNaN = true) (hb : (Ieee.double.read b).isNaN = true) (w : World) :
    Calls Try.prog 48 #[.float .f64 a, .float .f64 b] w fun e w' => e = .returned (.bool true) ∧ w = w' := by
  have h1 : (FloatKind.f64.format.order a a != some .eq) = true := by simp [show FloatKind.f64.format.order a a = none from order_nanL _ _ _ ha]
  have h2 : (FloatKind.f64.format.order b b != some .eq) = true := by simp [show FloatKind.f64.format.order b b = none from order_nanL _ _ _ hb]
  go_enter Try.func48, Try.ntmps48
  go_wp2_with fail
  go_ret
  exact ⟨rfl, rfl⟩

end Go.Proofs.Ytkfiepiipigcmaa

namespace Go.Proofs.Ytkfiepiipigcmaa
open Go.RowKit

theorem drewN_one (w : World) : w.drew = w.drewN 1 := rfl
theorem ord00 : FloatKind.f32.format.order 0 0 = some .eq := by decide +kernel

theorem IsFinite_any (x : Nat) (w : World) : Calls Try.prog 93 #[.float .f32 x] w fun e w' => e = .returned (.bool (fin32 x)) ∧ ∃ m, w' = w.drewN m := by
  by_cases h : fin32 x = true
  · have hs := fun (W : World) => run_sub_some (P := Try.prog) 63 x x 0 (sub_fin h) W
    have h0 := ord00
    rw [h]
    clear h
    go_enter Try.func93, Try.ntmps93
    go_wp2_with fail
    go_ret
    exact ⟨rfl, 0, rfl⟩
  · rw [Bool.not_eq_true] at h
    have hs := fun (W : World) => run_sub_none (P := Try.prog) 63 x x (sub_not h) W
    have h0 := fun (W : World) => (show FloatKind.f32.format.order (tape32 (.nanBits .f32 x x) W) 0 = none from order_nanL _ _ _ (tape32_nan x x W))
    rw [h]
    clear h
    go_enter Try.func93, Try.ntmps93
    go_wp2_with fail
    go_ret
    exact ⟨rfl, 1, rfl⟩
theorem l01Finite_any (x : Nat) (w : World) : Calls Try.prog 115 #[.float .f32 x] w fun e w' => e = .returned (.bool (fin32 x)) ∧ ∃ m, w' = w.drewN m := by
  by_cases h : fin32 x = true
  · have hs := fun (W : World) => run_sub_some (P := Try.prog) 63 x x 0 (sub_fin h) W
    have h0 := ord00
    rw [h]
    clear h
    go_enter Try.func115, Try.ntmps115
    go_wp2_with fail
    go_ret
    exact ⟨rfl, 0, rfl⟩
  · rw [Bool.not_eq_true] at h
    have hs := fun (W : World) => run_sub_none (P := Try.prog) 63 x x (sub_not h) W
    have h0 := fun (W : World) => (show FloatKind.f32.format.order (tape32 (.nanBits .f32 x x) W) 0 = none from order_nanL _ _ _ (tape32_nan x x W))
    rw [h]
    clear h
    go_enter Try.func115, Try.ntmps115
    go_wp2_with fail
    go_ret
    exact ⟨rfl, 1, rfl⟩

def allFin (xs : List Nat) : Bool := xs.all fin32
theorem allFin_yes {xs : List Nat} (h : ∀ i, i < xs.length → fin32 (xs.getD i 0) = true) : allFin xs = true := by
  unfold allFin; rw [List.all_eq_true]
  intro x hx
  obtain ⟨i, hi, rfl⟩ := List.getElem_of_mem hx
  have := h i hi
  simpa [hi] using this
theorem allFin_no {xs : List Nat} {i : Nat} (hi : i < xs.length) (h : fin32 (xs.getD i 0) = false) : allFin xs = false := by
  unfold allFin; rw [List.all_eq_false]
  refine ⟨xs[i], List.getElem_mem hi, ?_⟩
  have : xs.getD i 0 = xs[i] := by simp [hi]
  rw [this] at h
  simp [h]
theorem allFin_get {xs : List Nat} (h : allFin xs = true) {i : Nat} (hi : i < xs.length) : fin32 (xs.getD i 0) = true := by
  unfold allFin at h
  rw [List.all_eq_true] at h
  have : xs.getD i 0 = xs[i] := by simp [hi]
  rw [this]
  exact h _ (List.getElem_mem hi)

theorem drewN_then {w a b : World} (h1 : ∃ m, a = w.drewN m) (h2 : ∃ m, b = a.drewN m) : ∃ m, b = w.drewN m := by
  obtain ⟨m, rfl⟩ := h1
  obtain ⟨n, rfl⟩ := h2
  exact ⟨m + n, World.drewN_drewN _ _ _⟩
theorem rdF_drew {w a : World} {v : Value} {xs : List Nat} (h : RdF w v xs) (hd : ∃ m, a = w.drewN m) : RdF a v xs := by
  obtain ⟨m, rfl⟩ := hd
  exact h.drewN m

set_option maxHeartbeats 400000 in
theorem areFinite_any (v : Value) (xs : List Nat) (w : World) (h : RdF w v xs) :
    Calls Try.prog 153 #[v] w fun e w' => e = .returned (.bool (allFin xs)) ∧ ∃ m, w' = w.drewN m := by
  obtain ⟨a, c, rfl⟩ := h.shape
  have hl := h.len
  unfold maxLen at hl
  have HS := Lib.hid h
  clear h
  go_enter Try.func153, Try.ntmps153
  go_wp2_with fail
  go_loopw [7] (fun i wr => ∃ k : Nat, i = .int .i64 k ∧ k ≤ xs.length ∧ Hid (∀ j, j < k → fin32 (xs.getD j 0) = true) ∧ Hid (∃ m, wr = w.drewN m)) (fun i _ => xs.length - (intOf i).toNat)
  case atStart => exact ⟨0, rfl, Nat.zero_le _, fun j hj => by omega, 0, rfl⟩
  case round =>
    obtain ⟨k, rfl, hk, hall, hd⟩ := hrel
    by_cases hlt : k < xs.length
    · obtain ⟨b, off, rfl, _, hc⟩ := (rdF_drew HS.out hd.out).at hlt
      obtain ⟨x, hx⟩ : ∃ x, x = xs.getD k 0 := ⟨_, rfl⟩
      rw [← hx] at hc
      have HX := Lib.hid hx
      clear hx
      go_wp2_with fail
      refine (IsFinite_any x wr).mono ?_
      rintro e w1 ⟨rfl, hd1⟩
      have HD := Lib.hid (drewN_then hd.out hd1)
      clear hd1 hc
      by_cases hf : fin32 x = true
      · rw [hf]
        go_wp2_with fail
        go_roundw
        case rel => exact ⟨k + 1, by go_num, by omega, fun j hj => by
          rcases Nat.lt_succ_iff_lt_or_eq.1 hj with h | rfl
          · exact hall.out j h
          · rw [← HX.out]; exact hf, HD.out⟩
        case measure => simp [intOf]; omega
      · rw [Bool.not_eq_true] at hf
        rw [hf]
        have HF := Lib.hid (allFin_no hlt (by rw [← HX.out]; exact hf))
        go_wp2_with fail
        go_ret
        exact ⟨by rw [HF.out]; rfl, HD.out⟩
    · obtain rfl : k = xs.length := by omega
      go_wp2_with fail
      go_ret
      exact ⟨by rw [allFin_yes hall.out]; rfl, hd.out⟩

set_option maxHeartbeats 400000 in
theorem l02Finite_any (v : Value) (xs : List Nat) (w : World) (h : RdF w v xs) :
    Calls Try.prog 139 #[v] w fun e w' => e = .returned (.bool (allFin xs)) ∧ ∃ m, w' = w.drewN m := by
  obtain ⟨a, c, rfl⟩ := h.shape
  have hl := h.len
  unfold maxLen at hl
  have HS := Lib.hid h
  clear h
  go_enter Try.func139, Try.ntmps139
  go_wp2_with fail
  go_loopw [3] (fun i wr => ∃ k : Nat, i = .int .i64 k ∧ k ≤ xs.length ∧ Hid (∀ j, j < k → fin32 (xs.getD j 0) = true) ∧ Hid (∃ m, wr = w.drewN m)) (fun i _ => xs.length - (intOf i).toNat)
  case atStart => exact ⟨0, rfl, Nat.zero_le _, fun j hj => by omega, 0, rfl⟩
  case round =>
    obtain ⟨k, rfl, hk, hall, hd⟩ := hrel
    by_cases hlt : k < xs.length
    · obtain ⟨b, off, rfl, _, hc⟩ := (rdF_drew HS.out hd.out).at hlt
      obtain ⟨x, hx⟩ : ∃ x, x = xs.getD k 0 := ⟨_, rfl⟩
      rw [← hx] at hc
      have HX := Lib.hid hx
      clear hx
      go_wp2_with fail
      refine (l01Finite_any x wr).mono ?_
      rintro e w1 ⟨rfl, hd1⟩
      have HD := Lib.hid (drewN_then hd.out hd1)
      clear hd1 hc
      by_cases hf : fin32 x = true
      · rw [hf]
        go_wp2_with fail
        go_roundw
        case rel => exact ⟨k + 1, by go_num, by omega, fun j hj => by
          rcases Nat.lt_succ_iff_lt_or_eq.1 hj with h | rfl
          · exact hall.out j h
          · rw [← HX.out]; exact hf, HD.out⟩
        case measure => simp [intOf]; omega
      · rw [Bool.not_eq_true] at hf
        rw [hf]
        have HF := Lib.hid (allFin_no hlt (by rw [← HX.out]; exact hf))
        go_wp2_with fail
        go_ret
        exact ⟨by rw [HF.out]; rfl, HD.out⟩
    · obtain rfl : k = xs.length := by omega
      go_wp2_with fail
      go_ret
      exact ⟨by rw [allFin_yes hall.out]; rfl, hd.out⟩

theorem areFinite_qs (v : Value) (xs : List Nat) (w : World) (n : Nat) (h : RdF w v xs) :
    Calls Try.prog 153 #[v] (w.drewN n) fun e w'' => e = .returned (.bool (allFin xs)) ∧ ∃ m, w'' = w.drewN m := by
  refine (areFinite_any v xs _ (h.drewN n)).mono ?_
  rintro e w' ⟨rfl, hd⟩
  exact ⟨rfl, drewN_then ⟨n, rfl⟩ hd⟩

/-- At least nothing. -/
def geq0 (x : Nat) : Bool := FloatKind.f32.format.order x 0 == some .gt || FloatKind.f32.format.order x 0 == some .eq
def least (x : Nat) : Bool := fin32 x && geq0 x
theorem lt_geq {x : Nat} (h : fin32 x = true) : (FloatKind.f32.format.order x 0 == some .lt) = !geq0 x := by
  unfold geq0
  have e : ∃ o, FloatKind.f32.format.order x 0 = some o := by
    unfold fin32 at h
    show ∃ o, Ieee.Format.order Ieee.single x 0 = some o
    unfold Ieee.Format.order
    have e0 : Ieee.single.read 0 = .number false 0 (-149) := by decide +kernel
    rw [e0]
    cases hr : Ieee.single.read x with
    | nan a b => rw [hr] at h; simp at h
    | infinity s => rw [hr] at h; simp at h
    | number s m e => exact ⟨_, rfl⟩
  obtain ⟨o, ho⟩ := e
  rw [ho]
  cases o <;> rfl

theorem l02Least_any (x : Nat) (w : World) : Calls Try.prog 140 #[.float .f32 x] w fun e w' => e = .returned (.bool (least x)) ∧ ∃ m, w' = w.drewN m := by
  by_cases h : fin32 x = true
  · have hg : least x = geq0 x := by unfold least; rw [h]; rfl
    have HG := Lib.hid hg
    have H := Lib.hid h
    clear hg h
    go_enter Try.func140, Try.ntmps140
    go_wp2_with fail
    refine (l01Finite_any x w).mono ?_
    rintro e w1 ⟨rfl, hd1⟩
    rw [H.out]
    go_wp2_with fail
    go_ret
    exact ⟨by rw [HG.out]; rfl, hd1⟩
  · rw [Bool.not_eq_true] at h
    have HG := Lib.hid (show least x = false by unfold least; rw [h]; rfl)
    have H := Lib.hid h
    clear h
    go_enter Try.func140, Try.ntmps140
    go_wp2_with fail
    refine (l01Finite_any x w).mono ?_
    rintro e w1 ⟨rfl, hd1⟩
    rw [H.out]
    go_wp2_with fail
    go_ret
    exact ⟨by rw [HG.out]; rfl, hd1⟩

end Go.Proofs.Ytkfiepiipigcmaa

namespace Go.Proofs.Ytkfiepiipigcmaa
open Go.RowKit

/-- The sum of the first k products; none where it is no number. -/
def dotO (a b : List Nat) : Nat → Option Nat
  | 0 => some 0
  | k + 1 => (dotO a b k).bind fun s => (Ieee.single.mul (a.getD k 0) (b.getD k 0)).bind fun p => Ieee.single.add s p
/-- The bits are those told, or some NaN where none are. -/
def Mt (o : Option Nat) (s : Nat) : Prop := (∀ r, o = some r → s = r) ∧ (o = none → nan32 s = true)
def finO (o : Option Nat) : Bool := match o with
  | some r => fin32 r
  | none => false

theorem drewN_on {w W : World} (h : ∃ m, W = w.drewN m) (n : Nat) : ∃ m, W.drewN n = w.drewN m := by obtain ⟨m, rfl⟩ := h; exact ⟨m + n, World.drewN_drewN _ _ _⟩
theorem fin_of_nan {x : Nat} (h : nan32 x = true) : fin32 x = false := by
  unfold nan32 at h
  unfold fin32
  cases hr : Ieee.single.read x with
  | nan a b => rfl
  | infinity s => rfl
  | number s m e => rw [hr] at h; simp [Ieee.Datum.isNaN] at h
theorem Mt.fin {o : Option Nat} {s : Nat} (h : Mt o s) : fin32 s = finO o := by
  cases o with
  | none => exact fin_of_nan (h.2 rfl)
  | some r => rw [h.1 r rfl]; rfl
theorem Mt.of_some {r s : Nat} (h : Mt (some r) s) : s = r := h.1 r rfl
theorem Mt.some' (r : Nat) : Mt (some r) r := ⟨fun _ h => (Option.some.inj h), fun h => nomatch h⟩
theorem mul_fin {x y : Nat} (hx : fin32 x = true) (hy : fin32 y = true) : ∃ p, Ieee.single.mul x y = some p := by
  unfold fin32 at hx hy
  unfold Ieee.Format.mul
  cases hr : Ieee.single.read x with
  | nan a b => rw [hr] at hx; simp at hx
  | infinity s => rw [hr] at hx; simp at hx
  | number s m e =>
    cases hq : Ieee.single.read y with
    | nan a b => rw [hq] at hy; simp at hy
    | infinity s => rw [hq] at hy; simp at hy
    | number s' m' e' => exact ⟨_, rfl⟩
theorem add_nanL {x y : Nat} (h : nan32 x = true) : Ieee.single.add x y = none := by
  unfold nan32 at h
  unfold Ieee.Format.add
  cases hr : Ieee.single.read x with
  | nan a b => simp [Ieee.Datum.sum]
  | infinity s => rw [hr] at h; simp [Ieee.Datum.isNaN] at h
  | number s m e => rw [hr] at h; simp [Ieee.Datum.isNaN] at h
theorem Mt_some {a b : List Nat} {k s p r : Nat} (h : Mt (dotO a b k) s) (hp : Ieee.single.mul (a.getD k 0) (b.getD k 0) = some p) (hr : Ieee.single.add s p = some r) : Mt (dotO a b (k + 1)) r := by
  cases hd : dotO a b k with
  | none => rw [hd] at h; rw [add_nanL (h.2 rfl)] at hr; cases hr
  | some s' =>
    rw [hd] at h
    rw [h.of_some] at hr
    simp only [dotO, hd, Option.bind_some, hp, hr]
    exact Mt.some' r
theorem Mt_none {a b : List Nat} {k s p : Nat} (h : Mt (dotO a b k) s) (hp : Ieee.single.mul (a.getD k 0) (b.getD k 0) = some p) (hr : Ieee.single.add s p = none) (q : Nat) (hq : nan32 q = true) : Mt (dotO a b (k + 1)) q := by
  have : dotO a b (k + 1) = none := by
    cases hd : dotO a b k with
    | none => simp only [dotO, hd, Option.bind_none]
    | some s' =>
      rw [hd] at h
      rw [h.of_some] at hr
      simp only [dotO, hd, Option.bind_some, hp, hr]
  rw [this]
  exact ⟨fun r h => by simp at h, fun _ => hq⟩

theorem run_mul_some {P : Program} (t : TypeId) (x y r : Nat) (h : Ieee.single.mul x y = some r) (w : World) :
    (binOp .mul t (.float .f32 x) (.float .f32 y)).run P w = .ok (.float .f32 r) w := run_float_arith w .mul t .f32 x y r h
theorem run_add_some {P : Program} (t : TypeId) (x y r : Nat) (h : Ieee.single.add x y = some r) (w : World) :
    (binOp .add t (.float .f32 x) (.float .f32 y)).run P w = .ok (.float .f32 r) w := run_float_arith w .add t .f32 x y r h
theorem run_add_none {P : Program} (t : TypeId) (x y : Nat) (h : Ieee.single.add x y = none) (w : World) :
    (binOp .add t (.float .f32 x) (.float .f32 y)).run P w = .ok (.float .f32 (tape32 (.nanBits .f32 x y) w)) w.drew := by
  have h' : FloatKind.f32.format.add x y = none := h
  simp [binOp, Op.floatArith, h', tape32, Question.forced, Result.andThen]

set_option maxHeartbeats 2000000 in
theorem dot_any (v u : Value) (x y : List Nat) (w : World) (h : RdF w v x) (hu : RdF w u y) (hxy : x.length ≤ y.length) (fx : allFin x = true) (fy : allFin y = true) :
    Calls Try.prog 121 #[v, u] w fun e w' => ∃ s, e = .returned (.float .f32 s) ∧ Mt (dotO x y x.length) s ∧ ∃ m, w' = w.drewN m := by
  obtain ⟨a, c, rfl⟩ := h.shape
  obtain ⟨a', c', rfl⟩ := hu.shape
  have hm := h.len
  simp only [maxLen] at hm
  have H1 := Lib.hid h
  have H2 := Lib.hid hu
  have FX := Lib.hid fx
  have FY := Lib.hid fy
  clear h hu fx fy
  go_enter Try.func121, Try.ntmps121
  go_wp2_with fail
  go_loopw [5, 9] (fun sv i wr => ∃ k s : Nat, i = .int .i64 k ∧ k ≤ x.length ∧ sv = .float .f32 s ∧ Hid (Mt (dotO x y k) s) ∧ Hid (∃ n, wr = w.drewN n)) (fun _ i _ => x.length - (intOf i).toNat)
  case atStart => exact ⟨0, 0, rfl, Nat.zero_le _, rfl, Mt.some' 0, 0, rfl⟩
  case round =>
    obtain ⟨k, s, rfl, hk, rfl, hmt, hw⟩ := hrel
    by_cases hlt : k < x.length
    · have hlt2 : k < y.length := by omega
      obtain ⟨b, off, rfl, hb, hc⟩ := (rdF_drew H1.out hw.out).at hlt
      obtain ⟨b', off', rfl, hb', hc'⟩ := (rdF_drew H2.out hw.out).at hlt2
      have hlt2' : (k : Int) < y.length := by omega
      obtain ⟨p, hp⟩ := mul_fin (allFin_get FX.out hlt) (allFin_get FY.out hlt2)
      have hmul := fun (W : World) => run_mul_some (P := Try.prog) 63 _ _ p hp W
      have HP := Lib.hid hp
      clear hp
      generalize hx0 : x.getD k 0 = x0 at *
      generalize hy0 : y.getD k 0 = y0 at *
      have HX := Lib.hid hx0
      have HY := Lib.hid hy0
      clear hx0 hy0
      cases hq : Ieee.single.add s p with
      | some r =>
        have hadd := fun (W : World) => run_add_some (P := Try.prog) 63 _ _ r hq W
        have HQ := Lib.hid hq
        clear hq
        go_wp2_with fail
        go_quiet (fail)
        go_wp2_with fail
        go_roundw
        case rel => exact ⟨k + 1, r, by go_num, by omega, rfl, Mt_some hmt.out (by rw [HX.out, HY.out]; exact HP.out) HQ.out, drewN_on hw.out _⟩
        case measure => simp [intOf]; omega
      | none =>
        have hadd := fun (W : World) => run_add_none (P := Try.prog) 63 _ _ hq W
        have HQ := Lib.hid hq
        clear hq
        go_wp2_with fail
        go_region_with (fail)
        all_goals
          go_wp2_with fail
          go_roundw
          case rel => exact ⟨k + 1, _, by go_num, by omega, rfl, Mt_none hmt.out (by rw [HX.out, HY.out]; exact HP.out) HQ.out _ (tape32_nan _ _ _), drewN_on (drewN_on hw.out 1) 1⟩
          case measure => simp [intOf]; omega
    · obtain rfl : k = x.length := by omega
      go_wp2_with fail
      go_ret
      exact ⟨s, rfl, hmt.out, hw.out⟩

set_option maxHeartbeats 2000000 in
theorem l02Dot_any (v u : Value) (x y : List Nat) (w : World) (h : RdF w v x) (hu : RdF w u y) (hxy : x.length ≤ y.length) (fx : allFin x = true) (fy : allFin y = true) :
    Calls Try.prog 111 #[v, u] w fun e w' => ∃ s, e = .returned (.float .f32 s) ∧ Mt (dotO x y x.length) s ∧ ∃ m, w' = w.drewN m := by
  obtain ⟨a, c, rfl⟩ := h.shape
  obtain ⟨a', c', rfl⟩ := hu.shape
  have hm := h.len
  simp only [maxLen] at hm
  have H1 := Lib.hid h
  have H2 := Lib.hid hu
  have FX := Lib.hid fx
  have FY := Lib.hid fy
  clear h hu fx fy
  go_enter Try.func111, Try.ntmps111
  go_wp2_with fail
  go_loopw [5, 6] (fun sv i wr => ∃ k s : Nat, i = .int .i64 k ∧ k ≤ x.length ∧ sv = .float .f32 s ∧ Hid (Mt (dotO x y k) s) ∧ Hid (∃ n, wr = w.drewN n)) (fun _ i _ => x.length - (intOf i).toNat)
  case atStart => exact ⟨0, 0, rfl, Nat.zero_le _, rfl, Mt.some' 0, 0, rfl⟩
  case round =>
    obtain ⟨k, s, rfl, hk, rfl, hmt, hw⟩ := hrel
    by_cases hlt : k < x.length
    · have hlt2 : k < y.length := by omega
      obtain ⟨b, off, rfl, hb, hc⟩ := (rdF_drew H1.out hw.out).at hlt
      obtain ⟨b', off', rfl, hb', hc'⟩ := (rdF_drew H2.out hw.out).at hlt2
      have hlt2' : (k : Int) < y.length := by omega
      obtain ⟨p, hp⟩ := mul_fin (allFin_get FX.out hlt) (allFin_get FY.out hlt2)
      have hmul := fun (W : World) => run_mul_some (P := Try.prog) 63 _ _ p hp W
      have HP := Lib.hid hp
      clear hp
      generalize hx0 : x.getD k 0 = x0 at *
      generalize hy0 : y.getD k 0 = y0 at *
      have HX := Lib.hid hx0
      have HY := Lib.hid hy0
      clear hx0 hy0
      cases hq : Ieee.single.add s p with
      | some r =>
        have hadd := fun (W : World) => run_add_some (P := Try.prog) 63 _ _ r hq W
        have HQ := Lib.hid hq
        clear hq
        go_wp2_with fail
        go_quiet (fail)
        go_wp2_with fail
        go_roundw
        case rel => exact ⟨k + 1, r, by go_num, by omega, rfl, Mt_some hmt.out (by rw [HX.out, HY.out]; exact HP.out) HQ.out, drewN_on hw.out _⟩
        case measure => simp [intOf]; omega
      | none =>
        have hadd := fun (W : World) => run_add_none (P := Try.prog) 63 _ _ hq W
        have HQ := Lib.hid hq
        clear hq
        go_wp2_with fail
        go_region_with (fail)
        all_goals
          go_wp2_with fail
          go_roundw
          case rel => exact ⟨k + 1, _, by go_num, by omega, rfl, Mt_none hmt.out (by rw [HX.out, HY.out]; exact HP.out) HQ.out _ (tape32_nan _ _ _), drewN_on (drewN_on hw.out 1) 1⟩
          case measure => simp [intOf]; omega
    · obtain rfl : k = x.length := by omega
      go_wp2_with fail
      go_ret
      exact ⟨s, rfl, hmt.out, hw.out⟩

end Go.Proofs.Ytkfiepiipigcmaa

namespace Go.Proofs.Ytkfiepiipigcmaa
open Go.RowKit

theorem read32_bound {b m : Nat} {s : Bool} {e : Int} (h : Ieee.single.read b = .number s m e) : m < 16777216 ∧ -149 ≤ e ∧ e ≤ 104 := by
  unfold Ieee.Format.read at h
  have c1 : Ieee.single.signWeight = 2147483648 := rfl
  have c2 : Ieee.single.binade = 8388608 := rfl
  have c3 : Ieee.single.infRung = 2139095040 := rfl
  have c4 : Ieee.single.leastPlace = -149 := by decide +kernel
  simp only [c1, c2, c3, c4] at h
  split at h
  · simp only [Ieee.Datum.number.injEq] at h
    obtain ⟨_, rfl, rfl⟩ := h
    omega
  · split at h
    · simp only [Ieee.Datum.number.injEq] at h
      obtain ⟨_, rfl, rfl⟩ := h
      omega
    · split at h <;> simp at h

theorem read_word64 (s : Bool) (r : Nat) (h : r < 9218868437227405312) : (Ieee.double.read (Ieee.double.word s r)).isNaN = false ∧ (Ieee.double.read (Ieee.double.word s r)).isInfinity = false := by
  have c1 : Ieee.double.signWeight = 9223372036854775808 := rfl
  have c2 : Ieee.double.binade = 4503599627370496 := rfl
  have c3 : Ieee.double.infRung = 9218868437227405312 := rfl
  have e : (Ieee.double.word s r) % 9223372036854775808 = r := by
    unfold Ieee.Format.word
    rw [c1]
    cases s <;> simp <;> omega
  unfold Ieee.Format.read
  simp only [c1, c2, c3, e]
  split
  · exact ⟨rfl, rfl⟩
  · first
    | exact ⟨rfl, rfl⟩
    | (rw [if_pos h]; exact ⟨rfl, rfl⟩)

theorem near_aux (Q K : Nat) (hQ : Q ≤ 1149) (hK : K < 9007199254740992) : min (Q * 4503599627370496 + K) 9218868437227405312 < 9218868437227405312 := by
  have : Q * 4503599627370496 ≤ 1149 * 4503599627370496 := Nat.mul_le_mul_right _ hQ
  omega
theorem nearest64 (s : Bool) {m : Nat} {e : Int} (hm : m < 16777216) (h1 : -149 ≤ e) (h2 : e ≤ 104) : ∃ r, r < 9218868437227405312 ∧ Ieee.double.nearest s m e = Ieee.double.word s r := by
  unfold Ieee.Format.nearest
  by_cases h0 : m = 0
  · rw [if_pos h0]; exact ⟨0, by decide, rfl⟩
  · rw [if_neg h0]
    have hl : m.log2 ≤ 23 := by
      have : m.log2 < 24 := (Nat.log2_lt h0).2 (by omega)
      omega
    have hlt : m < 2 ^ (m.log2 + 1) := Nat.lt_log2_self
    have c4 : Ieee.double.leastPlace = -1074 := by decide +kernel
    have c2 : Ieee.double.binade = 4503599627370496 := rfl
    have c3 : Ieee.double.infRung = 9218868437227405312 := rfl
    have c5 : Ieee.double.fractionBits = 52 := rfl
    have hlast : max (e + (m.log2 : Int) - (52 : Nat)) (-1074) = e + m.log2 - 52 := by omega
    simp only [c4, c2, c3, c5, hlast]
    have ha : (e - (e + (m.log2 : Int) - 52)).toNat = 52 - m.log2 := by omega
    have hb : (e + (m.log2 : Int) - 52 - e).toNat = 0 := by omega
    rw [ha, hb]
    have hk : m <<< (52 - m.log2) < 9007199254740992 := by
      rw [Nat.shiftLeft_eq]
      have : m * 2 ^ (52 - m.log2) < 2 ^ (m.log2 + 1) * 2 ^ (52 - m.log2) := Nat.mul_lt_mul_of_pos_right hlt (Nat.two_pow_pos _)
      rw [← Nat.pow_add, show m.log2 + 1 + (52 - m.log2) = 53 by omega] at this
      exact this
    generalize m <<< (52 - m.log2) = K at hk
    have hcut : Ieee.Toward.even.cut s K 0 = K := by
      unfold Ieee.Toward.cut
      simp [Nat.mod_one]
    rw [hcut]
    have hQ : (e + (m.log2 : Int) - 52 - -1074).toNat ≤ 1149 := by omega
    exact ⟨_, near_aux _ _ hQ hk, rfl⟩

/-- What is no NaN has a place among the doubles, and is no NaN there. -/
theorem conv64 {b : Nat} (h : nan32 b = false) : ∃ r, floatToFloatBits .f32 b .f64 = some r ∧ (Ieee.double.read r).isNaN = false := by
  unfold nan32 at h
  unfold floatToFloatBits
  rw [if_neg (by decide)]
  have e : FloatKind.f32.decode b = Ieee.single.read b := rfl
  rw [e]
  cases hr : Ieee.single.read b with
  | nan x y => rw [hr] at h; simp [Ieee.Datum.isNaN] at h
  | infinity s =>
    refine ⟨_, rfl, ?_⟩
    cases s <;> decide +kernel
  | number s m e =>
    obtain ⟨a1, a2, a3⟩ := read32_bound hr
    obtain ⟨r, b1, b2⟩ := nearest64 s a1 a2 a3
    have b3 : FloatKind.f64.encode (.number s m e) = Ieee.double.word s r := b2
    have b4 := read_word64 s r b1
    simp only [b3]
    rw [if_neg (by rw [show FloatKind.f64.decode (Ieee.double.word s r) = Ieee.double.read (Ieee.double.word s r) from rfl, b4.2]; simp)]
    exact ⟨_, rfl, b4.1⟩

/-- The bits of a double that the tape names. -/
def tape64 (q : Question) (w : World) : Nat := q.cut (w.tape w.drawn q)
theorem tape64_nan (b : Nat) (w : World) : (Ieee.double.read (tape64 (.nanConv .f64 b) w)).isNaN = true := by
  unfold tape64
  exact nan_cut64 _
theorem run_conv_nan {P : Program} (src dst : TypeId) (b : Nat) (hs : (P.underlying src).isSome = true) (hd : P.underlying dst = some (.float .f64)) (h : nan32 b = true) (w : World) :
    (convert src dst (.float .f32 b)).run P w = .ok (.float .f64 (tape64 (.nanConv .f64 b) w)) w.drew := by
  unfold nan32 at h
  obtain ⟨u, hs'⟩ := Option.isSome_iff_exists.1 hs
  have e : FloatKind.f32.decode b = Ieee.single.read b := rfl
  cases hr : Ieee.single.read b with
  | nan x y => cases u <;> simp [convert, run_underlying hs', run_underlying hd, Conv.floatToFloat, e, hr, Question.forced, tape64, Result.andThen]
  | infinity s => rw [hr] at h; simp [Ieee.Datum.isNaN] at h
  | number s m e => rw [hr] at h; simp [Ieee.Datum.isNaN] at h

theorem Try.und32 : Try.prog.underlying 63 = some (.float .f32) := Try.underlying63
theorem Try.und64 : Try.prog.underlying 70 = some (.float .f64) := Try.underlying70

theorem drew_ex {w W : World} (h : ∃ m, W = w.drewN m) : ∃ m, W.drew = w.drewN m := by obtain ⟨m, rfl⟩ := h; exact ⟨m + 1, rfl⟩
theorem drewN_ex {w W : World} (h : ∃ m, W = w.drewN m) (n : Nat) : ∃ m, W.drewN n = w.drewN m := by obtain ⟨m, rfl⟩ := h; exact ⟨m + n, World.drewN_drewN _ _ _⟩
set_option maxHeartbeats 1000000 in
theorem eqF_q (v v' : Value) (xs : List Nat) (w : World) (h : RdF w v xs) (h' : RdF w v' xs) :
    Calls Try.prog 94 #[v, v'] w fun e w' => e = .returned (.bool true) ∧ ∃ m, w' = w.drewN m := by
  obtain ⟨a, c, rfl⟩ := h.shape
  obtain ⟨a', c', rfl⟩ := h'.shape
  have hl := h.len
  unfold maxLen at hl
  have HS := Lib.hid h
  have HS' := Lib.hid h'
  have hne : ((xs.length : Int) != (xs.length : Int)) = false := by simp
  clear h h'
  go_enter Try.func94, Try.ntmps94
  go_wp2_with fail
  go_loopw [5] (fun i wr => ∃ k : Nat, i = .int .i64 k ∧ k ≤ xs.length ∧ Hid (∃ n, wr = w.drewN n)) (fun i _ => xs.length - (intOf i).toNat)
  case atStart => exact ⟨0, rfl, Nat.zero_le _, 0, rfl⟩
  case round =>
    obtain ⟨k, rfl, hk, hdr⟩ := hrel
    by_cases hlt : k < xs.length
    · obtain ⟨b, off, rfl, hbk, hc⟩ := (show RdF wr _ xs by obtain ⟨n, rfl⟩ := hdr.out; exact HS.out.drewN n).at hlt
      obtain ⟨b', off', rfl, hbk', hc'⟩ := (show RdF wr _ xs by obtain ⟨n, rfl⟩ := hdr.out; exact HS'.out.drewN n).at hlt
      obtain ⟨x, hx⟩ : ∃ x, x = xs.getD k 0 := ⟨_, rfl⟩
      rw [← hx] at hc hc'
      clear hx
      by_cases hn : nan32 x = true
      · have hcv := fun (W : World) => run_conv_nan (P := Try.prog) 63 70 x (by rw [Try.und32]; rfl) Try.und64 hn W
        go_wp2_with fail
        go_region_with ((go_at_call 48; refine (sameFloat_nan _ _ (tape64_nan _ _) (tape64_nan _ _) _).mono ?_; rintro e w' ⟨rfl, rfl⟩))
        all_goals
          go_wp2_with fail
          go_roundw
          case rel => exact ⟨k + 1, by go_num, by omega, by obtain ⟨n, rfl⟩ := hdr.out; exact drew_ex (drew_ex (drew_ex ⟨n, rfl⟩))⟩
          case measure => simp [intOf]; omega
      · rw [Bool.not_eq_true] at hn
        obtain ⟨r, hr, hrn⟩ := conv64 hn
        have hcv := fun (W : World) => run_convert_float_float (P := Try.prog) W 63 70 .f32 .f64 x r (by rw [Try.und32]; rfl) Try.und64 hr
        clear hr
        go_wp2_with fail
        go_quiet ((go_at_call 48; exact quiet_same (sameFloat_self r hrn _)))
        go_wp2_with fail
        go_roundw
        case rel => exact ⟨k + 1, by go_num, by omega, by obtain ⟨n, rfl⟩ := hdr.out; exact drewN_ex ⟨n, rfl⟩ _⟩
        case measure => simp [intOf]; omega
    · obtain rfl : k = xs.length := by omega
      go_wp2_with fail
      go_ret
      exact ⟨rfl, hdr.out⟩

end Go.Proofs.Ytkfiepiipigcmaa

namespace Go.Proofs.Ytkfiepiipigcmaa
open Go.RowKit

theorem mark_set {xs : List Int} {k : Int} {j : Nat} (hj : j < xs.length) :
    ((mkI k j ++ xs.drop j).map I64).set j (.int .i64 (k + j)) = (mkI k (j + 1) ++ xs.drop (j + 1)).map I64 := by
  rw [List.drop_eq_getElem_cons hj, List.map_append, List.map_cons, set_mid _ _ _ _ _ (by simp [mkI])]
  simp [mkI, List.range_succ, I64]

theorem owns_slice_some {w : World} {lo : Nat} {e : TypeId} {a : Option Addr} {n cap : Nat} {vs : List Value} (h : w.ownsRow lo e 1 (.slice a n cap) n vs) (hn : 0 < n) : ∃ g, a = some ⟨g, 0, none⟩ ∧ lo ≤ g := by
  rcases h.2 with ⟨e1, e2⟩ | ⟨g, cap', cur, e1, hb, _⟩
  · omega
  · simp only [Value.slice.injEq] at e1
    exact ⟨g, e1.1, hb⟩

set_option maxHeartbeats 400000 in
theorem markI_any (v : Value) (lo hi : Nat) (xs : List Int) (k : Int) (w : World) (ho : OwnI lo hi w v xs) (h0 : 0 ≤ k) (h1 : k + xs.length ≤ 1099511627776) :
    Calls Try.prog 16 #[v, .int .i64 k] w fun e w' => e = .returned (.int .i64 (k + xs.length)) ∧ OwnI lo hi w' v (mkI k xs.length) ∧ Kept (fun b => lo ≤ b ∧ b < hi) w w' := by
  obtain ⟨a, cap, rfl⟩ := ho.rd.shape
  have HO := Lib.hid ho
  clear ho
  go_enter Try.func16, Try.ntmps16
  go_wp2_with fail
  go_loopw [1, 5] (fun kk i wr => ∃ j : Nat, i = .int .i64 j ∧ j ≤ xs.length ∧ kk = .int .i64 (k + j) ∧ wr.ownsRow lo 2 1 (.slice a xs.length cap) xs.length ((mkI k j ++ xs.drop j).map I64) ∧ Kept (fun b => lo ≤ b ∧ b < hi) w wr) (fun _ i _ => xs.length - (intOf i).toNat)
  case atStart => exact ⟨0, rfl, Nat.zero_le _, by simp, by simpa [mkI] using HO.out.1, Kept.refl _ _⟩
  case round =>
    obtain ⟨j, rfl, hj, rfl, hown, hkp⟩ := hrel
    have HO1 := Lib.hid hown
    have HK1 := Lib.hid hkp
    clear hkp
    by_cases hlt : j < xs.length
    · obtain ⟨g, rfl, hlo⟩ := owns_slice_some hown (by omega)
      have hhi := HO.out.2 g rfl
      clear hown
      have hd := HO1.out.cellAt j (by omega)
      have hfr := HO1.out.frozenAt j
      have hdl : ((mkI k j ++ xs.drop j).map I64)[j]? = some (.int .i64 (xs.getD j 0)) := by
        rw [List.getElem?_map, List.getElem?_append_right (by simp [mkI])]
        simp [I64, mkI, hlt]
      rw [hdl] at hd
      clear hdl
      go_wp2_with fail
      go_roundw
      case rel =>
        refine ⟨j + 1, by go_num, by omega, by go_num, ?_, HK1.out.setCell (.inr ⟨hlo, hhi⟩) _⟩
        have h1 := (HO1.out.stored j (.int .i64 (k + j))).1
        rw [mark_set hlt] at h1
        exact h1
      case measure => simp [intOf]; omega
    · clear hown
      obtain rfl : j = xs.length := by omega
      go_wp2_with fail
      go_ret
      refine ⟨rfl, ⟨?_, HO.out.2⟩, HK1.out⟩
      have h := HO1.out
      rw [List.drop_length, List.append_nil] at h
      have e : (mkI k xs.length).length = xs.length := by simp [mkI]
      rw [e]
      simpa using h

set_option maxHeartbeats 400000 in
theorem heldInts_any (a : Option Addr) (n cap : Nat) (k : Int) (w : World) (hs : Slc w (.slice a n cap) ((mkI k n).map I64)) (h0 : 0 ≤ k) (h1 : k + n ≤ 1099511627776) :
    Calls Try.prog 17 #[.slice a n cap, .int .i64 k] w fun e w' => e = .returned (.int .i64 (k + n)) ∧ Below w.heap.size w w' := by
  have HS := Lib.hid hs
  clear hs
  go_enter Try.func17, Try.ntmps17
  go_wp2_with fail
  go_loopw [1, 5] (fun kk i wr => ∃ j : Nat, i = .int .i64 j ∧ j ≤ n ∧ kk = .int .i64 (k + j) ∧ Below w.heap.size w wr) (fun _ i _ => n - (intOf i).toNat)
  case atStart => exact ⟨0, rfl, Nat.zero_le _, by simp, Below.refl _ _⟩
  case round =>
    obtain ⟨j, rfl, hj, rfl, hbl⟩ := hrel
    have HB := Lib.hid hbl
    clear hbl
    by_cases hlt : j < n
    · obtain ⟨b, off, rfl, hb, hc⟩ := (HS.out.below HB.out (Nat.le_refl _)).at (i := j) (u := .int .i64 (k + j)) (by simp [I64, mkI, hlt])
      have hne : ((k + j : Int) != (k + j : Int)) = false := by simp
      go_wp2_with fail
      go_roundw
      case rel => exact ⟨j + 1, by go_num, by omega, by go_num, HB.out⟩
      case measure => simp [intOf]; omega
    · obtain rfl : j = n := by omega
      go_wp2_with fail
      go_ret
      exact ⟨rfl, HB.out⟩

theorem heldI_any (v : Value) (n : Nat) (k : Int) (w : World) (h : RdI w v (mkI k n)) (h0 : 0 ≤ k) (h1 : k + n ≤ 1099511627776) :
    Calls Try.prog 17 #[v, .int .i64 k] w fun e w' => e = .returned (.int .i64 (k + n)) ∧ Below w.heap.size w w' := by
  obtain ⟨a, c, e⟩ := h.shape
  rw [show (mkI k n).length = n by simp [mkI]] at e
  subst e
  exact heldInts_any a n c k w h h0 h1

def cntI (xs : List Int) : Nat := xs.length
theorem cntI_le (xs : List Int) : cntI xs ≤ bulkI xs := Nat.le_refl _
def mkdI (k : Int) (xs : List Int) : List Int := mkI k xs.length

theorem markI_o (v : Value) (lo hi : Nat) (xs : List Int) (k : Int) (w : World) (ho : OwnI lo hi w v xs) (h0 : 0 ≤ k) (h1 : k + cntI xs ≤ 1099511627776) :
    Calls Try.prog 16 #[v, .int .i64 k] w fun e w' => e = .returned (.int .i64 (k + cntI xs)) ∧ OwnI lo hi w' v (mkdI k xs) ∧ Kept (fun b => lo ≤ b ∧ b < hi) w w' :=
  markI_any v lo hi xs k w ho h0 h1

theorem heldI_o (v : Value) (xs : List Int) (k : Int) (w : World) (h : RdI w v (mkdI k xs)) (h0 : 0 ≤ k) (h1 : k + cntI xs ≤ 1099511627776) :
    Calls Try.prog 17 #[v, .int .i64 k] w fun e w' => e = .returned (.int .i64 (k + cntI xs)) ∧ Below w.heap.size w w' :=
  heldI_any v xs.length k w h h0 h1

theorem eqI_same (v v' : Value) (xs : List Int) (w : World) (h : RdI w v xs) (h' : RdI w v' xs) :
    Calls Try.prog 13 #[v, v'] w fun e w' => e = .returned (.bool true) ∧ Below w.heap.size w w' := by
  refine (eqI_any v v' xs xs w h h').mono ?_
  rintro e w' ⟨rfl, hb⟩
  exact ⟨by simp, hb⟩

end Go.Proofs.Ytkfiepiipigcmaa

namespace Go.Proofs.Ytkfiepiipigcmaa
open Go.RowKit

theorem eqF_same (v v' : Value) (xs : List Nat) (w : World) (h : RdF w v xs) (h' : RdF w v' xs) :
    Calls Try.prog 94 #[v, v'] w fun e w' => e = .returned (.bool true) ∧ Below w.heap.size w w' := by
  refine (eqF_q v v' xs w h h').mono ?_
  rintro e w' ⟨rfl, n, rfl⟩
  exact ⟨rfl, below_drewN (Below.refl _ _) _⟩
theorem eqF_qs (v v' : Value) (xs : List Nat) (w : World) (n : Nat) (h : RdF w v xs) (h' : RdF w v' xs) :
    Calls Try.prog 94 #[v, v'] (w.drewN n) fun e w'' => e = .returned (.bool true) ∧ ∃ m, w'' = w.drewN m := by
  refine (eqF_q v v' xs _ (h.drewN n) (h'.drewN n)).mono ?_
  rintro e w' ⟨rfl, m, rfl⟩
  exact ⟨rfl, n + m, by rw [World.drewN_drewN]⟩

/-- What is left behind the marks. -/
def mkF (k : Int) (n : Nat) : List Nat := (List.range n).map fun (i : Nat) => floatOfInt .f32 (k + i)
theorem mkF_len (k : Int) (n : Nat) : (mkF k n).length = n := by simp [mkF]
def cntF (xs : List Nat) : Nat := xs.length
theorem cntF_le (xs : List Nat) : cntF xs ≤ bulkF xs := Nat.le_refl _
def mkdF (k : Int) (xs : List Nat) : List Nat := mkF k xs.length

theorem markF_set {k : Int} {xs : List Nat} {j : Nat} (hj : j < xs.length) : ((mkF k j ++ xs.drop j).map F32).set j (.float .f32 (floatOfInt .f32 (k + j))) = (mkF k (j + 1) ++ xs.drop (j + 1)).map F32 := by
  have e : xs.drop j = xs[j] :: xs.drop (j + 1) := List.drop_eq_getElem_cons hj
  rw [e, List.map_append, List.map_cons, set_mid _ _ _ _ _ (by simp [mkF]), List.map_append]
  simp [mkF, List.range_succ, F32]

theorem OwnF.blk {lo hi : Nat} {w : World} {v : Value} {xs : List Nat} (h : OwnF lo hi w v xs) {b : Nat} (hb : v.ownBlock = some b) : lo ≤ b ∧ b < hi := ⟨(owns_lt h.1 hb).1, h.2 b hb⟩

/-! ### Held -/

theorem read_word32 (s : Bool) (r : Nat) (h : r ≤ 2139095040) : (Ieee.single.read (Ieee.single.word s r)).isNaN = false := by
  have c1 : Ieee.single.signWeight = 2147483648 := rfl
  have c2 : Ieee.single.binade = 8388608 := rfl
  have c3 : Ieee.single.infRung = 2139095040 := rfl
  have e : (Ieee.single.word s r) % 2147483648 = r := by
    unfold Ieee.Format.word
    rw [c1]
    cases s <;> simp <;> omega
  unfold Ieee.Format.read
  simp only [c1, c2, c3, e]
  split
  · rfl
  · split
    · rfl
    · rw [if_pos (by omega)]; rfl
theorem nearest_nan (s : Bool) (m : Nat) (e : Int) : (Ieee.single.read (Ieee.single.nearest s m e)).isNaN = false := by
  unfold Ieee.Format.nearest
  split
  · exact read_word32 _ _ (by omega)
  · exact read_word32 _ _ (Nat.min_le_right _ _)
theorem ofInt_nan (n : Int) : (Ieee.single.read (floatOfInt .f32 n)).isNaN = false := nearest_nan _ _ _

end Go.Proofs.Ytkfiepiipigcmaa
