/-
  FnExactReadRows: texts joined: Float64, MarkF, SameN, HexM, HexI, FxM, RdM.
-/
import Derived.Deep.RegionHeld3
import Derived.Laws.Externs
import Derived.Lib.ParseIntBCases
import Derived.Test.YtggpbekclegfoaaDoorMEReadRowsAB
import Derived.Test.YtggpbekclegfoaaDoorMEReadRowsAC
import Derived.Test.YtggpbekclegfoaaDoorMEReadRowsAD
namespace Go.Proofs.YtggpbekclegfoaaDoor
open Go.RowKit

theorem read32_bound {b m : Nat} {s : Bool} {e : Int} (h : Ieee.single.read b = .number s m e) : m < 16777216 ∧ -149 ≤ e ∧ e ≤ 104 := by
  unfold Ieee.Format.read at h
  have c1 : Ieee.single.signWeight = 2147483648 := rfl
  have c2 : Ieee.single.binade = 8388608 := rfl
  have c3 : Ieee.single.infRung = 2139095040 := rfl
  have c4 : Ieee.single.leastPlace = -149 := by decide +kernel
  simp only [c1, c2, c3, c4] at h
  split at h
  · simp only [Ieee.Datum.number.injEq] at h
    obtain ⟨_, rfl, rfl⟩ := h
    omega
  · split at h
    · simp only [Ieee.Datum.number.injEq] at h
      obtain ⟨_, rfl, rfl⟩ := h
      omega
    · split at h <;> simp at h

theorem read_word64 (s : Bool) (r : Nat) (h : r < 9218868437227405312) : (Ieee.double.read (Ieee.double.word s r)).isNaN = false ∧ (Ieee.double.read (Ieee.double.word s r)).isInfinity = false := by
  have c1 : Ieee.double.signWeight = 9223372036854775808 := rfl
  have c2 : Ieee.double.binade = 4503599627370496 := rfl
  have c3 : Ieee.double.infRung = 9218868437227405312 := rfl
  have e : (Ieee.double.word s r) % 9223372036854775808 = r := by
    unfold Ieee.Format.word
    rw [c1]
    cases s <;> simp <;> omega
  unfold Ieee.Format.read
  simp only [c1, c2, c3, e]
  split
  · exact ⟨rfl, rfl⟩
  · first
    | exact ⟨rfl, rfl⟩
    | (rw [if_pos h]; exact ⟨rfl, rfl⟩)

theorem near_aux (Q K : Nat) (hQ : Q ≤ 1149) (hK : K < 9007199254740992) : min (Q * 4503599627370496 + K) 9218868437227405312 < 9218868437227405312 := by
  have : Q * 4503599627370496 ≤ 1149 * 4503599627370496 := Nat.mul_le_mul_right _ hQ
  omega
theorem nearest64 (s : Bool) {m : Nat} {e : Int} (hm : m < 16777216) (h1 : -149 ≤ e) (h2 : e ≤ 104) : ∃ r, r < 9218868437227405312 ∧ Ieee.double.nearest s m e = Ieee.double.word s r := by
  unfold Ieee.Format.nearest
  by_cases h0 : m = 0
  · rw [if_pos h0]; exact ⟨0, by decide, rfl⟩
  · rw [if_neg h0]
    have hl : m.log2 ≤ 23 := by
      have : m.log2 < 24 := (Nat.log2_lt h0).2 (by omega)
      omega
    have hlt : m < 2 ^ (m.log2 + 1) := Nat.lt_log2_self
    have c4 : Ieee.double.leastPlace = -1074 := by decide +kernel
    have c2 : Ieee.double.binade = 4503599627370496 := rfl
    have c3 : Ieee.double.infRung = 9218868437227405312 := rfl
    have c5 : Ieee.double.fractionBits = 52 := rfl
    have hlast : max (e + (m.log2 : Int) - (52 : Nat)) (-1074) = e + m.log2 - 52 := by omega
    simp only [c4, c2, c3, c5, hlast]
    have ha : (e - (e + (m.log2 : Int) - 52)).toNat = 52 - m.log2 := by omega
    have hb : (e + (m.log2 : Int) - 52 - e).toNat = 0 := by omega
    rw [ha, hb]
    have hk : m <<< (52 - m.log2) < 9007199254740992 := by
      rw [Nat.shiftLeft_eq]
      have : m * 2 ^ (52 - m.log2) < 2 ^ (m.log2 + 1) * 2 ^ (52 - m.log2) := Nat.mul_lt_mul_of_pos_right hlt (Nat.two_pow_pos _)
      rw [← Nat.pow_add, show m.log2 + 1 + (52 - m.log2) = 53 by omega] at this
      exact this
    generalize m <<< (52 - m.log2) = K at hk
    have hcut : Ieee.Toward.even.cut s K 0 = K := by
      unfold Ieee.Toward.cut
      simp [Nat.mod_one]
    rw [hcut]
    have hQ : (e + (m.log2 : Int) - 52 - -1074).toNat ≤ 1149 := by omega
    exact ⟨_, near_aux _ _ hQ hk, rfl⟩

/-- What is no NaN has a place among the doubles, and is no NaN there. -/
theorem conv64 {b : Nat} (h : nan32 b = false) : ∃ r, floatToFloatBits .f32 b .f64 = some r ∧ (Ieee.double.read r).isNaN = false := by
  unfold nan32 at h
  unfold floatToFloatBits
  rw [if_neg (by decide)]
  have e : FloatKind.f32.decode b = Ieee.single.read b := rfl
  rw [e]
  cases hr : Ieee.single.read b with
  | nan x y => rw [hr] at h; simp [Ieee.Datum.isNaN] at h
  | infinity s =>
    refine ⟨_, rfl, ?_⟩
    cases s <;> decide +kernel
  | number s m e =>
    obtain ⟨a1, a2, a3⟩ := read32_bound hr
    obtain ⟨r, b1, b2⟩ := nearest64 s a1 a2 a3
    have b3 : FloatKind.f64.encode (.number s m e) = Ieee.double.word s r := b2
    have b4 := read_word64 s r b1
    simp only [b3]
    rw [if_neg (by rw [show FloatKind.f64.decode (Ieee.double.word s r) = Ieee.double.read (Ieee.double.word s r) from rfl, b4.2]; simp)]
    exact ⟨_, rfl, b4.1⟩

/-- The bits of a double that the tape names. -/
def tape64 (q : Question) (w : World) : Nat := q.cut (w.tape w.drawn q)
theorem tape64_nan (b : Nat) (w : World) : (Ieee.double.read (tape64 (.nanConv .f64 b) w)).isNaN = true := by
  unfold tape64
  exact nan_cut64 _
theorem run_conv_nan {P : Program} (src dst : TypeId) (b : Nat) (hs : (P.underlying src).isSome = true) (hd : P.underlying dst = some (.float .f64)) (h : nan32 b = true) (w : World) :
    (convert src dst (.float .f32 b)).run P w = .ok (.float .f64 (tape64 (.nanConv .f64 b) w)) w.drew := by
  unfold nan32 at h
  obtain ⟨u, hs'⟩ := Option.isSome_iff_exists.1 hs
  have e : FloatKind.f32.decode b = Ieee.single.read b := rfl
  cases hr : Ieee.single.read b with
  | nan x y => cases u <;> simp [convert, run_underlying hs', run_underlying hd, Conv.floatToFloat, e, hr, Question.forced, tape64, Result.andThen]
  | infinity s => rw [hr] at h; simp [Ieee.Datum.isNaN] at h
  | number s m e => rw [hr] at h; simp [Ieee.Datum.isNaN] at h

theorem Tryd.und32 : Tryd.prog.underlying 83 = some (.float .f32) := Tryd.underlying83
theorem Tryd.und64 : Tryd.prog.underlying 100 = some (.float .f64) := Tryd.underlying100

theorem drew_ex {w W : World} (h : ∃ m, W = w.drewN m) : ∃ m, W.drew = w.drewN m := by obtain ⟨m, rfl⟩ := h; exact ⟨m + 1, rfl⟩
theorem drewN_ex {w W : World} (h : ∃ m, W = w.drewN m) (n : Nat) : ∃ m, W.drewN n = w.drewN m := by obtain ⟨m, rfl⟩ := h; exact ⟨m + n, World.drewN_drewN _ _ _⟩
set_option maxHeartbeats 1000000 in
theorem eqF_q (v v' : Value) (xs : List Nat) (w : World) (h : RdF w v xs) (h' : RdF w v' xs) :
    Calls Tryd.prog 39 #[v, v'] w fun e w' => e = .returned (.bool true) ∧ ∃ m, w' = w.drewN m := by
  obtain ⟨a, c, rfl⟩ := h.shape
  obtain ⟨a', c', rfl⟩ := h'.shape
  have hl := h.len
  unfold maxLen at hl
  have HS := Lib.hid h
  have HS' := Lib.hid h'
  have hne : ((xs.length : Int) != (xs.length : Int)) = false := by simp
  clear h h'
  go_enter Tryd.func39, Tryd.ntmps39
  go_wp2_with fail
  go_loopw [5] (fun i wr => ∃ k : Nat, i = .int .i64 k ∧ k ≤ xs.length ∧ Hid (∃ n, wr = w.drewN n)) (fun i _ => xs.length - (intOf i).toNat)
  case atStart => exact ⟨0, rfl, Nat.zero_le _, 0, rfl⟩
  case round =>
    obtain ⟨k, rfl, hk, hdr⟩ := hrel
    by_cases hlt : k < xs.length
    · obtain ⟨b, off, rfl, hbk, hc⟩ := (show RdF wr _ xs by obtain ⟨n, rfl⟩ := hdr.out; exact HS.out.drewN n).at hlt
      obtain ⟨b', off', rfl, hbk', hc'⟩ := (show RdF wr _ xs by obtain ⟨n, rfl⟩ := hdr.out; exact HS'.out.drewN n).at hlt
      obtain ⟨x, hx⟩ : ∃ x, x = xs.getD k 0 := ⟨_, rfl⟩
      rw [← hx] at hc hc'
      clear hx
      by_cases hn : nan32 x = true
      · have hcv := fun (W : World) => run_conv_nan (P := Tryd.prog) 83 100 x (by rw [Tryd.und32]; rfl) Tryd.und64 hn W
        go_wp2_with fail
        go_region_with ((go_at_call 68; refine (sameFloat_nan _ _ (tape64_nan _ _) (tape64_nan _ _) _).mono ?_; rintro e w' ⟨rfl, rfl⟩))
        all_goals
          go_wp2_with fail
          go_roundw
          case rel => exact ⟨k + 1, by go_num, by omega, by obtain ⟨n, rfl⟩ := hdr.out; exact drew_ex (drew_ex (drew_ex ⟨n, rfl⟩))⟩
          case measure => simp [intOf]; omega
      · rw [Bool.not_eq_true] at hn
        obtain ⟨r, hr, hrn⟩ := conv64 hn
        have hcv := fun (W : World) => run_convert_float_float (P := Tryd.prog) W 83 100 .f32 .f64 x r (by rw [Tryd.und32]; rfl) Tryd.und64 hr
        clear hr
        go_wp2_with fail
        go_quiet ((go_at_call 68; exact quiet_same (sameFloat_self r hrn _)))
        go_wp2_with fail
        go_roundw
        case rel => exact ⟨k + 1, by go_num, by omega, by obtain ⟨n, rfl⟩ := hdr.out; exact drewN_ex ⟨n, rfl⟩ _⟩
        case measure => simp [intOf]; omega
    · obtain rfl : k = xs.length := by omega
      go_wp2_with fail
      go_ret
      exact ⟨rfl, hdr.out⟩

end Go.Proofs.YtggpbekclegfoaaDoor

namespace Go.Proofs.YtggpbekclegfoaaDoor
open Go.RowKit

theorem eqF_same (v v' : Value) (xs : List Nat) (w : World) (h : RdF w v xs) (h' : RdF w v' xs) :
    Calls Tryd.prog 39 #[v, v'] w fun e w' => e = .returned (.bool true) ∧ Below w.heap.size w w' := by
  refine (eqF_q v v' xs w h h').mono ?_
  rintro e w' ⟨rfl, n, rfl⟩
  exact ⟨rfl, below_drewN (Below.refl _ _) _⟩
theorem eqF_qs (v v' : Value) (xs : List Nat) (w : World) (n : Nat) (h : RdF w v xs) (h' : RdF w v' xs) :
    Calls Tryd.prog 39 #[v, v'] (w.drewN n) fun e w'' => e = .returned (.bool true) ∧ ∃ m, w'' = w.drewN m := by
  refine (eqF_q v v' xs _ (h.drewN n) (h'.drewN n)).mono ?_
  rintro e w' ⟨rfl, m, rfl⟩
  exact ⟨rfl, n + m, by rw [World.drewN_drewN]⟩

/-- What is left behind the marks. -/
def mkF (k : Int) (n : Nat) : List Nat := (List.range n).map fun (i : Nat) => floatOfInt .f32 (k + i)
theorem mkF_len (k : Int) (n : Nat) : (mkF k n).length = n := by simp [mkF]
def cntF (xs : List Nat) : Nat := xs.length
theorem cntF_le (xs : List Nat) : cntF xs ≤ bulkF xs := Nat.le_refl _
def mkdF (k : Int) (xs : List Nat) : List Nat := mkF k xs.length

theorem markF_set {k : Int} {xs : List Nat} {j : Nat} (hj : j < xs.length) : ((mkF k j ++ xs.drop j).map F32).set j (.float .f32 (floatOfInt .f32 (k + j))) = (mkF k (j + 1) ++ xs.drop (j + 1)).map F32 := by
  have e : xs.drop j = xs[j] :: xs.drop (j + 1) := List.drop_eq_getElem_cons hj
  rw [e, List.map_append, List.map_cons, set_mid _ _ _ _ _ (by simp [mkF]), List.map_append]
  simp [mkF, List.range_succ, F32]

set_option maxHeartbeats 1000000 in
/-- Marks: the block alone that the list owns has turned. -/
theorem markF_fine (v : Value) (lo hi : Nat) (xs : List Nat) (k : Int) (w : World) (ho : OwnF lo hi w v xs) (h0 : 0 ≤ k) (h1 : k + xs.length ≤ 1099511627776) :
    Calls Tryd.prog 47 #[v, .int .i64 k] w fun e w' => e = .returned (.int .i64 (k + xs.length)) ∧ OwnF lo hi w' v (mkF k xs.length) ∧ Kept (fun b => v.ownBlock = some b) w w' := by
  obtain ⟨a, cap, rfl⟩ := ho.rd.shape
  have HO := Lib.hid ho
  have hcv := fun (W : World) (n : Int) => run_convert_int_float (P := Tryd.prog) (w := W) 3 83 .i64 .f32 n (by rw [Tryd.underlying3]; rfl) Tryd.und32
  clear ho
  go_enter Tryd.func47, Tryd.ntmps47
  go_wp2_with fail
  go_loopw [1, 5] (fun kk i wr => ∃ j : Nat, i = .int .i64 j ∧ j ≤ xs.length ∧ kk = .int .i64 (k + j) ∧ wr.ownsRow lo 83 1 (.slice a xs.length cap) xs.length ((mkF k j ++ xs.drop j).map F32) ∧ Kept (fun b => (Value.slice a xs.length cap).ownBlock = some b) w wr) (fun _ i _ => xs.length - (intOf i).toNat)
  case atStart => exact ⟨0, rfl, Nat.zero_le _, by simp, by simpa [mkF] using HO.out.1, Kept.refl _ _⟩
  case round =>
    obtain ⟨j, rfl, hj, rfl, hown, hkp⟩ := hrel
    have HO1 := Lib.hid hown
    have HK1 := Lib.hid hkp
    clear hkp
    by_cases hlt : j < xs.length
    · obtain ⟨g, rfl, hlo⟩ := owns_slice_some hown (by omega)
      clear hown
      have hd := HO1.out.cellAt j (by omega)
      have hfr := HO1.out.frozenAt j
      have hdl : ((mkF k j ++ xs.drop j).map F32)[j]? = some (.float .f32 (xs.getD j 0)) := by
        rw [List.getElem?_map, List.getElem?_append_right (by simp [mkF])]
        simp [F32, mkF, hlt]
      rw [hdl] at hd
      clear hdl
      go_wp2_with fail
      go_roundw
      case rel =>
        refine ⟨j + 1, by go_num, by omega, by go_num, ?_, HK1.out.setCell (p := ⟨g, j, none⟩) (.inr rfl) _⟩
        have h1 := (HO1.out.stored j (.float .f32 (floatOfInt .f32 (k + j)))).1
        rw [markF_set hlt] at h1
        exact h1
      case measure => simp [intOf]; omega
    · clear hown
      obtain rfl : j = xs.length := by omega
      go_wp2_with fail
      go_ret
      refine ⟨rfl, ⟨?_, HO.out.2⟩, HK1.out⟩
      have h := HO1.out
      rw [List.drop_length, List.append_nil] at h
      rw [mkF_len]
      exact h

theorem OwnF.blk {lo hi : Nat} {w : World} {v : Value} {xs : List Nat} (h : OwnF lo hi w v xs) {b : Nat} (hb : v.ownBlock = some b) : lo ≤ b ∧ b < hi := ⟨(owns_lt h.1 hb).1, h.2 b hb⟩

theorem markF_o (v : Value) (lo hi : Nat) (xs : List Nat) (k : Int) (w : World) (ho : OwnF lo hi w v xs) (h0 : 0 ≤ k) (h1 : k + cntF xs ≤ 1099511627776) :
    Calls Tryd.prog 47 #[v, .int .i64 k] w fun e w' => e = .returned (.int .i64 (k + cntF xs)) ∧ OwnF lo hi w' v (mkdF k xs) ∧ Kept (fun b => lo ≤ b ∧ b < hi) w w' := by
  refine (markF_fine v lo hi xs k w ho h0 h1).mono ?_
  rintro e w' ⟨rfl, h2, h3⟩
  exact ⟨rfl, h2, h3.mono fun b _ hb => ho.blk hb⟩

/-! ### Held -/

theorem read_word32 (s : Bool) (r : Nat) (h : r ≤ 2139095040) : (Ieee.single.read (Ieee.single.word s r)).isNaN = false := by
  have c1 : Ieee.single.signWeight = 2147483648 := rfl
  have c2 : Ieee.single.binade = 8388608 := rfl
  have c3 : Ieee.single.infRung = 2139095040 := rfl
  have e : (Ieee.single.word s r) % 2147483648 = r := by
    unfold Ieee.Format.word
    rw [c1]
    cases s <;> simp <;> omega
  unfold Ieee.Format.read
  simp only [c1, c2, c3, e]
  split
  · rfl
  · split
    · rfl
    · rw [if_pos (by omega)]; rfl
theorem nearest_nan (s : Bool) (m : Nat) (e : Int) : (Ieee.single.read (Ieee.single.nearest s m e)).isNaN = false := by
  unfold Ieee.Format.nearest
  split
  · exact read_word32 _ _ (by omega)
  · exact read_word32 _ _ (Nat.min_le_right _ _)
theorem ofInt_nan (n : Int) : (Ieee.single.read (floatOfInt .f32 n)).isNaN = false := nearest_nan _ _ _

set_option maxHeartbeats 1000000 in
theorem heldF_any (v : Value) (n : Nat) (k : Int) (w : World) (h : RdF w v (mkF k n)) (h0 : 0 ≤ k) (h1 : k + n ≤ 1099511627776) :
    Calls Tryd.prog 48 #[v, .int .i64 k] w fun e w' => e = .returned (.int .i64 (k + n)) ∧ Below w.heap.size w w' := by
  obtain ⟨a, cap, e⟩ := h.shape
  rw [mkF_len] at e
  subst e
  have HS := Lib.hid h
  have hcv := fun (W : World) (n : Int) => run_convert_int_float (P := Tryd.prog) (w := W) 3 83 .i64 .f32 n (by rw [Tryd.underlying3]; rfl) Tryd.und32
  clear h
  go_enter Tryd.func48, Tryd.ntmps48
  go_wp2_with fail
  go_loopw [1, 5] (fun kk i wr => ∃ j : Nat, i = .int .i64 j ∧ j ≤ n ∧ kk = .int .i64 (k + j) ∧ Below w.heap.size w wr) (fun _ i _ => n - (intOf i).toNat)
  case atStart => exact ⟨0, rfl, Nat.zero_le _, by simp, Below.refl _ _⟩
  case round =>
    obtain ⟨j, rfl, hj, rfl, hbl⟩ := hrel
    have HB := Lib.hid hbl
    clear hbl
    by_cases hlt : j < n
    · obtain ⟨b, off, rfl, hb, hc⟩ := (HS.out.up HB.out (Nat.le_refl _)).at (i := j) (by rw [mkF_len]; exact hlt)
      rw [show (mkF k n).getD j 0 = floatOfInt .f32 (k + j) by simp [mkF, hlt]] at hc
      have hne : (FloatKind.f32.format.order (floatOfInt .f32 (k + j)) (floatOfInt .f32 (k + j)) != some .eq) = false := by simp [show FloatKind.f32.format.order (floatOfInt .f32 (k + j)) (floatOfInt .f32 (k + j)) = some .eq from order_self _ _ (ofInt_nan _)]
      go_wp2_with fail
      go_roundw
      case rel => exact ⟨j + 1, by go_num, by omega, by go_num, HB.out⟩
      case measure => simp [intOf]; omega
    · obtain rfl : j = n := by omega
      go_wp2_with fail
      go_ret
      exact ⟨rfl, HB.out⟩

theorem heldF_o (v : Value) (xs : List Nat) (k : Int) (w : World) (h : RdF w v (mkdF k xs)) (h0 : 0 ≤ k) (h1 : k + cntF xs ≤ 1099511627776) :
    Calls Tryd.prog 48 #[v, .int .i64 k] w fun e w' => e = .returned (.int .i64 (k + cntF xs)) ∧ Below w.heap.size w w' :=
  heldF_any v xs.length k w h h0 h1

end Go.Proofs.YtggpbekclegfoaaDoor

namespace Go.Proofs.YtggpbekclegfoaaDoor
open Go.RowKit

theorem run_bits (x : Nat) (W : World) : (callFunc 99 #[.float .f32 x]).run Tryd.prog W = .ok (.value (.int .u32 x)) W := by
  rw [run_callFunc_extern Tryd.func99 (by kernel_rfl) (by kernel_rfl) (by kernel_rfl) (e := Extern.MathFloatBits.float32bits) (by kernel_rfl)]
  rfl

/-- Two numbers are the same: both not a number, or the same bits. -/
def sameX (x y : Nat) : Bool := if (nan32 x || nan32 y) = true then nan32 x && nan32 y else decide (x = y)

theorem neq_nan {x : Nat} (h : nan32 x = true) : (FloatKind.f32.format.order x x != some .eq) = true := by
  rw [show FloatKind.f32.format.order x x = none from order_nanL _ _ _ h]; rfl
theorem neq_num {x : Nat} (h : nan32 x = false) : (FloatKind.f32.format.order x x != some .eq) = false := by
  rw [show FloatKind.f32.format.order x x = some .eq from order_self _ _ h]; rfl

def codeX (x : Nat) : Int := if nan32 x = true then 2143289344 else x
theorem l01Bits_any (x : Nat) (w : World) (hw : x < 4294967296) : Calls Tryd.prog 87 #[.float .f32 x] w fun e w' => e = .returned (.int .i64 (codeX x)) ∧ w = w' := by
  have hb := run_bits
  cases hx : nan32 x
  · have h1 := neq_num hx
    have HN := Lib.hid (show codeX x = x by unfold codeX; rw [hx]; rfl)
    clear hx
    go_enter Tryd.func87, Tryd.ntmps87
    go_wp2_with fail
    go_ret
    exact ⟨by rw [HN.out]; rfl, rfl⟩
  · have h1 := neq_nan hx
    have HN := Lib.hid (show codeX x = 2143289344 by unfold codeX; rw [hx]; rfl)
    clear hx
    go_enter Tryd.func87, Tryd.ntmps87
    go_wp2_with fail
    go_ret
    exact ⟨by rw [HN.out]; rfl, rfl⟩
theorem codeX_same (x y : Nat) : (codeX x == codeX y) = sameX x y := by
  have h0 : nan32 2143289344 = true := by decide +kernel
  unfold codeX sameX
  cases hx : nan32 x <;> cases hy : nan32 y
  · simp only [Bool.or_false, Bool.false_eq_true, if_false]
    by_cases h : x = y
    · subst h; simp
    · simp [h]; omega
  · have : x ≠ 2143289344 := by rintro rfl; rw [h0] at hx; cases hx
    simp; omega
  · have : y ≠ 2143289344 := by rintro rfl; rw [h0] at hy; cases hy
    simp; omega
  · simp
end Go.Proofs.YtggpbekclegfoaaDoor

namespace Go.Proofs.YtggpbekclegfoaaDoor
open Go.RowKit

theorem shr_castX (n i : Nat) : (n : Int) / 2 ^ i = ((n >>> i : Nat) : Int) := by
  rw [Nat.shiftRight_eq_div_pow]; push_cast; rfl
theorem ofInt_i64X (a : Nat) (ha : a < 9223372036854775808) : (BitVec.ofInt 64 (a : Int)).toNat = a := by
  rw [BitVec.ofInt_natCast, BitVec.toNat_ofNat]; exact Nat.mod_eq_of_lt (by omega)
theorem i64_and_natX (a b : Nat) (ha : a < 9223372036854775808) (hb : b < 9223372036854775808) : bits .and .i64 (a : Int) (b : Int) = ((a &&& b : Nat) : Int) := by
  have hx : a &&& b < 2 ^ 63 := Nat.and_lt_two_pow _ (by omega)
  show IntKind.i64.wrap ((BitVec.ofInt 64 (a : Int) &&& BitVec.ofInt 64 (b : Int)).toNat : Int) = _
  rw [BitVec.toNat_and, ofInt_i64X a ha, ofInt_i64X b hb, IntKind.wrap_i64]
  omega

def dig16 (d : Nat) : Nat := if d < 10 then 48 + d else 87 + d
def hexTab : ByteArray := ⟨#[48, 49, 50, 51, 52, 53, 54, 55, 56, 57, 97, 98, 99, 100, 101, 102]⟩
/-- The first k digits of a number below 2^32. -/
def hexK (n : Nat) : Nat → ByteArray
  | 0 => E0
  | k + 1 => hexK n k ++ B1 (UInt8.ofNat (dig16 ((n >>> (28 - 4 * k)) &&& 15)))
def hexI (n : Nat) : Nat → List Int
  | 0 => []
  | k + 1 => hexI n k ++ [((dig16 ((n >>> (28 - 4 * k)) &&& 15) : Nat) : Int)]
def hexS (n : Nat) : ByteArray := hexK n 8
theorem and15 (n : Nat) : n &&& 15 < 16 := by
  rw [show 15 = 2 ^ 4 - 1 from rfl, Nat.and_two_pow_sub_one_eq_mod]
  exact Nat.mod_lt _ (by decide)
theorem hexK_size (n : Nat) : ∀ k, (hexK n k).size = k
  | 0 => rfl
  | k + 1 => by simp only [hexK, ByteArray.size_append, hexK_size n k]; rfl
theorem hexI_len (n : Nat) : ∀ k, (hexI n k).length = k
  | 0 => rfl
  | k + 1 => by simp only [hexI, List.length_append, hexI_len n k]; rfl
theorem dig16_lt (d : Nat) (h : d < 16) : dig16 d < 256 := by unfold dig16; split <;> omega
theorem hexI_str (n : Nat) : ∀ k, strOfNums (hexI n k) = hexK n k
  | 0 => rfl
  | k + 1 => by
    simp only [hexI, hexK]
    rw [← hexI_str n k]
    apply ByteArray.ext
    rw [ByteArray.data_append]
    unfold strOfNums B1
    apply Array.ext'
    simp
theorem tab_cut : ∀ d, d < 16 → hexTab.extract d (d + 1) = B1 (UInt8.ofNat (dig16 d)) := by decide +kernel
theorem tab_at : ∀ d, d < 16 → (hexTab.data[d]!).toNat = dig16 d := by decide +kernel

end Go.Proofs.YtggpbekclegfoaaDoor

namespace Go.Proofs.YtggpbekclegfoaaDoor
open Go.RowKit

def codeN (x : Nat) : Nat := if nan32 x = true then 2143289344 else x
theorem codeX_nat (x : Nat) : codeX x = (codeN x : Int) := by unfold codeX codeN; split <;> rfl
theorem codeN_lt {x : Nat} (h : x < 4294967296) : codeN x < 4294967296 := by unfold codeN; split <;> omega

theorem BitsOf_any (x : Nat) (w : World) (hw : x < 4294967296) : Calls Tryd.prog 83 #[.float .f32 x] w fun e w' => e = .returned (.int .i64 (codeN x)) ∧ w = w' := by
  have hb := run_bits
  cases hx : nan32 x
  · have h1 := neq_num hx
    have HN := Lib.hid (show codeN x = x by unfold codeN; rw [hx]; rfl)
    clear hx
    go_enter Tryd.func83, Tryd.ntmps83
    go_wp2_with fail
    go_ret
    exact ⟨by rw [HN.out]; rfl, rfl⟩
  · have h1 := neq_nan hx
    have HN := Lib.hid (show codeN x = 2143289344 by unfold codeN; rw [hx]; rfl)
    clear hx
    go_enter Tryd.func83, Tryd.ntmps83
    go_wp2_with fail
    go_ret
    exact ⟨by rw [HN.out]; rfl, rfl⟩

set_option maxHeartbeats 1000000 in
theorem hexOf_any (x : Nat) (w : World) (hw : x < 4294967296) :
    Calls Tryd.prog 63 #[.float .f32 x] w fun e w' => e = .returned (.string (hexS (codeN x))) ∧ w = w' := by
  have hB := BitsOf_any x w hw
  have hn := codeN_lt hw
  obtain ⟨n, hne⟩ : ∃ n, n = codeN x := ⟨_, rfl⟩
  rw [← hne] at hB hn ⊢
  have HB := Lib.hid hB
  clear hB hne
  go_enter Tryd.func63, Tryd.ntmps63
  go_wp2_with (go_at_call 83; refine HB.out.mono ?_; rintro e w' ⟨rfl, rfl⟩)
  go_loopw [3, 5] (fun ov sv wr => ∃ (k : Nat) (z : Int), k ≤ 8 ∧ ov = .string (hexK n k) ∧ sv = .int .i64 z ∧ z = 28 - 4 * (k : Int) ∧ w = wr) (fun _ sv _ => (intOf sv + 5).toNat)
  case atStart => exact ⟨0, 28, by omega, rfl, rfl, by omega, rfl⟩
  case round =>
    obtain ⟨k, z, hk, rfl, rfl, hz, rfl⟩ := hrel
    by_cases hlt : k < 8
    · obtain ⟨s, hs⟩ : ∃ s : Nat, s = 28 - 4 * k := ⟨_, rfl⟩
      obtain rfl : z = (s : Int) := by omega
      have hd := and15 (n >>> s)
      have HC := Lib.hid (tab_cut _ hd)
      have HE := Lib.hid (show hexK n (k + 1) = hexK n k ++ B1 (UInt8.ofNat (dig16 ((n >>> s) &&& 15))) by rw [hs]; rfl)
      have hsz := hexK_size n k
      have hA := i64_and_natX (n >>> s) 15 (by have := Nat.shiftRight_le n s; omega) (by omega)
      have hS := shr_castX n s
      obtain ⟨d, hdd⟩ : ∃ d, d = (n >>> s) &&& 15 := ⟨_, rfl⟩
      rw [← hdd] at hd HC HE hA
      obtain ⟨m, hm⟩ : ∃ m, m = n >>> s := ⟨_, rfl⟩
      rw [← hm] at hA hS
      obtain ⟨S, hS2⟩ : ∃ S, S = hexK n k := ⟨_, rfl⟩
      rw [← hS2] at hsz HE ⊢
      have HK := Lib.hid (show (s : Int) = 28 - 4 * (k : Int) from hz)
      have hA2 : bits .and .i64 (m : Int) 15 = (d : Int) := hA
      have hs28 : s ≤ 28 := by omega
      clear hA hz
      clear hdd hm hS2 hs
      go_wp2_with fail
      go_roundw
      case rel => exact ⟨k + 1, (s : Int) - 4, by omega, by rw [HE.out, ← HC.out]; rfl, by go_num, by have := HK.out; omega, by trivial⟩
      case measure => simp [intOf]; omega
    · obtain rfl : k = 8 := by omega
      obtain rfl : z = -4 := by omega
      go_wp2_with fail
      go_ret
      exact ⟨rfl, rfl⟩

set_option maxHeartbeats 1000000 in
theorem l01Hex_any (x : Nat) (w : World) (hw : x < 4294967296) :
    Calls Tryd.prog 80 #[.float .f32 x] w fun e w' => e = .returned (.string (hexS (codeN x))) ∧ Below w.heap.size w w' := by
  have hB := l01Bits_any x w hw
  rw [codeX_nat] at hB
  have hn := codeN_lt hw
  obtain ⟨n, hne⟩ : ∃ n, n = codeN x := ⟨_, rfl⟩
  rw [← hne] at hB hn ⊢
  have HB := Lib.hid hB
  have HS := Lib.hid (show strOfNums (hexI n 8) = hexS n from hexI_str n 8)
  clear hB hne
  go_enter Tryd.func80, Tryd.ntmps80
  go_upto_region 3 with (go_at_call 87; refine HB.out.mono ?_; rintro e w' ⟨rfl, rfl⟩)
  clear HB
  refine wp_at fun W1 hW1 => ?_
  have HO0 := Lib.hid (show W1.ownsRow w.heap.size 5 1 (.slice (some ⟨w.heap.size, 0, none⟩) 0 0) 0 (([] : List Int).map B8) by subst hW1; exact ownsB_lit w [] 0 w.heap.size #[] rfl rfl (by omega) rfl)
  have HB0 := Lib.hid (show Below w.heap.size w W1 by subst hW1; exact (Below.refl _ _).alloc (Nat.le_refl _) _)
  clear hW1
  go_wp2_with fail
  go_loopw [4, 5] (fun ov sv wr => ∃ (k : Nat) (z : Int) (a : Option Addr) (cap : Nat), k ≤ 8 ∧ ov = .slice a k cap ∧ sv = .int .i64 z ∧ Hid (z = 28 - 4 * (k : Int)) ∧ Hid (wr.ownsRow w.heap.size 5 1 (.slice a k cap) k ((hexI n k).map B8)) ∧ Hid (Below w.heap.size w wr)) (fun _ sv _ => (intOf sv + 5).toNat)
  case atStart => exact ⟨0, 28, _, _, by omega, rfl, rfl, Lib.hid (by omega), HO0, HB0⟩
  case round =>
    clear HO0 HB0
    obtain ⟨k, z, a, cap, hk, rfl, rfl, HZ, HO, HB⟩ := hrel
    have hsz := HB.out.size
    by_cases hlt : k < 8
    · obtain ⟨s, hs⟩ : ∃ s : Nat, s = 28 - 4 * k := ⟨_, rfl⟩
      obtain rfl : z = (s : Int) := by have := HZ.out; omega
      have hd := and15 (n >>> s)
      have hC := tab_at _ hd
      have HE := Lib.hid (show hexI n (k + 1) = hexI n k ++ [((dig16 ((n >>> s) &&& 15) : Nat) : Int)] by rw [hs]; rfl)
      have hA := i64_and_natX (n >>> s) 15 (by have := Nat.shiftRight_le n s; omega) (by omega)
      have hS := shr_castX n s
      obtain ⟨d, hdd⟩ : ∃ d, d = (n >>> s) &&& 15 := ⟨_, rfl⟩
      rw [← hdd] at hd hC HE hA
      obtain ⟨m, hm⟩ : ∃ m, m = n >>> s := ⟨_, rfl⟩
      rw [← hm] at hA hS
      have hA2 : bits .and .i64 (m : Int) 15 = (d : Int) := hA
      have hdl := dig16_lt d hd
      obtain ⟨g, hg⟩ : ∃ g, g = dig16 d := ⟨_, rfl⟩
      rw [← hg] at hC HE hdl
      have hC2 : ∀ h : d < (⟨#[48, 49, 50, 51, 52, 53, 54, 55, 56, 57, 97, 98, 99, 100, 101, 102]⟩ : ByteArray).size, ((⟨#[48, 49, 50, 51, 52, 53, 54, 55, 56, 57, 97, 98, 99, 100, 101, 102]⟩ : ByteArray)[d]'h).toNat = g := by
        intro h
        rw [← hC]
        show _ = (hexTab.data[d]!).toNat
        rw [getElem!_pos hexTab.data d h]
        rfl
      have hs28 : s ≤ 28 := by omega
      clear hA hdd hm hs hg hC
      go_wp2_with (at_builtin; refine app_bytes rfl _ _ rfl w.heap.size _ k (hexI n k) rfl (owns_below HO.out ((Below.refl _ _).alloc (Nat.le_refl _) _) (Nat.le_refl _)) _ [(g : Int)] rfl (slc_of_owns (ownsB_lit wr [(g : Int)] 1 _ _ rfl rfl (by omega) rfl)) (k + 1) (hexI n (k + 1)) (by simp) HE.out (by omega) (by simp; omega) ?_; intro a' cap' w' r1 r2 _)
      go_roundw
      case rel => exact ⟨k + 1, (s : Int) - 4, a', cap', by omega, rfl, by go_num, Lib.hid (by have := HZ.out; omega), Lib.hid r1, Lib.hid ((HB.out.alloc hsz _).trans r2)⟩
      case measure => simp [intOf]; omega
    · obtain rfl : k = 8 := by omega
      obtain rfl : z = -4 := by have := HZ.out; omega
      have hcv := conv_bytes HO.out (by omega)
      rw [HS.out] at hcv
      go_wp2_with fail
      go_ret
      exact ⟨rfl, HB.out⟩

end Go.Proofs.YtggpbekclegfoaaDoor

namespace Go.Proofs.YtggpbekclegfoaaDoor
open Go.RowKit

def hexV (c : Nat) : Option Nat := if 48 ≤ c ∧ c ≤ 57 then some (c - 48) else if 97 ≤ c ∧ c ≤ 102 then some (c - 87) else none
def dvB (s : ByteArray) (k : Nat) : Nat := (hexV (s.data[k]!).toNat).getD 0
def okB (s : ByteArray) (k : Nat) : Bool := (hexV (s.data[k]!).toNat).isSome
/-- The number that the first k digits tell. -/
def accH (s : ByteArray) : Nat → Nat
  | 0 => 0
  | k + 1 => 16 * accH s k + dvB s k
def hexOk (s : ByteArray) : Bool := decide (s.size = 8) && (allB 8 (okB s) && decide (codeN (accH s 8) = accH s 8))
theorem hexV_lt {c d : Nat} (h : hexV c = some d) : d < 16 := by
  unfold hexV at h
  split at h
  · simp only [Option.some.injEq] at h; omega
  · split at h
    · simp only [Option.some.injEq] at h; omega
    · cases h
theorem dvB_lt (s : ByteArray) (k : Nat) : dvB s k < 16 := by
  unfold dvB
  cases h : hexV (s.data[k]!).toNat with
  | none => decide
  | some d => exact hexV_lt h
theorem accH_lt (s : ByteArray) : ∀ k, accH s k < 16 ^ k
  | 0 => Nat.one_pos
  | k + 1 => by
    have h1 := accH_lt s k
    have h2 := dvB_lt s k
    rw [Nat.pow_succ]
    simp only [accH]
    omega
theorem dig_at (n i : Nat) : (n >>> i) &&& 15 = n / 2 ^ i % 16 := by
  rw [Nat.shiftRight_eq_div_pow, show 15 = 2 ^ 4 - 1 from rfl, Nat.and_two_pow_sub_one_eq_mod]
def byteD (n i : Nat) : UInt8 := UInt8.ofNat (dig16 (n / 2 ^ i % 16))
theorem hexS_list (n : Nat) : (hexS n).data.toList = [byteD n 28, byteD n 24, byteD n 20, byteD n 16, byteD n 12, byteD n 8, byteD n 4, byteD n 0] := by
  have e : n &&& 15 = n % 16 := by rw [show 15 = 2 ^ 4 - 1 from rfl, Nat.and_two_pow_sub_one_eq_mod]
  simp [hexS, hexK, B1, E0, ByteArray.data_append, dig_at, byteD, e]
theorem hex_back : ∀ n, n < 256 → (hexV n).isSome = true → dig16 ((hexV n).getD 0) = n := by decide +kernel
theorem hex_forth : ∀ d, d < 16 → hexV (dig16 d) = some d := by decide +kernel
theorem byte_back {c : UInt8} {n i : Nat} (h : (hexV c.toNat).isSome = true) (hd : n / 2 ^ i % 16 = (hexV c.toNat).getD 0) : byteD n i = c := by
  unfold byteD
  rw [hd, hex_back c.toNat c.toNat_lt h]
  exact UInt8.ofNat_toNat
theorem eight {s : ByteArray} (h : s.size = 8) : ∃ a b c d e f g i : UInt8, s = ⟨#[a, b, c, d, e, f, g, i]⟩ := by
  obtain ⟨⟨l⟩⟩ := s
  have hl : l.length = 8 := h
  match l, hl with
  | [a, b, c, d, e, f, g, i], _ => exact ⟨a, b, c, d, e, f, g, i, rfl⟩
theorem hexS_acc {s : ByteArray} (h8 : s.size = 8) (ho : allB 8 (okB s) = true) : hexS (accH s 8) = s := by
  rw [allB_iff] at ho
  have ho0 := ho 0 (by omega)
  have ho1 := ho 1 (by omega)
  have ho2 := ho 2 (by omega)
  have ho3 := ho 3 (by omega)
  have ho4 := ho 4 (by omega)
  have ho5 := ho 5 (by omega)
  have ho6 := ho 6 (by omega)
  have ho7 := ho 7 (by omega)
  have v0 := dvB_lt s 0
  have v1 := dvB_lt s 1
  have v2 := dvB_lt s 2
  have v3 := dvB_lt s 3
  have v4 := dvB_lt s 4
  have v5 := dvB_lt s 5
  have v6 := dvB_lt s 6
  have v7 := dvB_lt s 7
  have hn : accH s 8 = 16 * (16 * (16 * (16 * (16 * (16 * (16 * (16 * 0 + dvB s 0) + dvB s 1) + dvB s 2) + dvB s 3) + dvB s 4) + dvB s 5) + dvB s 6) + dvB s 7 := rfl
  have e0 : accH s 8 / 2 ^ 28 % 16 = dvB s 0 := by rw [hn]; omega
  have e1 : accH s 8 / 2 ^ 24 % 16 = dvB s 1 := by rw [hn]; omega
  have e2 : accH s 8 / 2 ^ 20 % 16 = dvB s 2 := by rw [hn]; omega
  have e3 : accH s 8 / 2 ^ 16 % 16 = dvB s 3 := by rw [hn]; omega
  have e4 : accH s 8 / 2 ^ 12 % 16 = dvB s 4 := by rw [hn]; omega
  have e5 : accH s 8 / 2 ^ 8 % 16 = dvB s 5 := by rw [hn]; omega
  have e6 : accH s 8 / 2 ^ 4 % 16 = dvB s 6 := by rw [hn]; omega
  have e7 : accH s 8 / 2 ^ 0 % 16 = dvB s 7 := by rw [hn]; omega
  obtain ⟨n, hne⟩ : ∃ n, n = accH s 8 := ⟨_, rfl⟩
  rw [← hne] at e0 e1 e2 e3 e4 e5 e6 e7 ⊢
  clear hne hn v0 v1 v2 v3 v4 v5 v6 v7 ho
  obtain ⟨a, b, c, d, e, f, g, i, rfl⟩ := eight h8
  apply ByteArray.ext
  apply Array.ext'
  rw [hexS_list, byte_back (c := a) ho0 e0, byte_back (c := b) ho1 e1, byte_back (c := c) ho2 e2, byte_back (c := d) ho3 e3, byte_back (c := e) ho4 e4, byte_back (c := f) ho5 e5, byte_back (c := g) ho6 e6, byte_back (c := i) ho7 e7]
theorem dv_of {s : ByteArray} {k n i : Nat} (h : s.data[k]! = byteD n i) : dvB s k = n / 2 ^ i % 16 := by
  have hm : n / 2 ^ i % 16 < 16 := Nat.mod_lt _ (by omega)
  have hd := dig16_lt _ hm
  unfold dvB
  rw [h]
  unfold byteD
  rw [UInt8.toNat_ofNat', Nat.mod_eq_of_lt (by omega), hex_forth _ hm]
  rfl
theorem accH_hexS (m : Nat) (h : m < 4294967296) : accH (hexS m) 8 = m := by
  have hs : (hexS m).data = #[byteD m 28, byteD m 24, byteD m 20, byteD m 16, byteD m 12, byteD m 8, byteD m 4, byteD m 0] := Array.ext' (hexS_list m)
  have hn : accH (hexS m) 8 = 16 * (16 * (16 * (16 * (16 * (16 * (16 * (16 * 0 + dvB (hexS m) 0) + dvB (hexS m) 1) + dvB (hexS m) 2) + dvB (hexS m) 3) + dvB (hexS m) 4) + dvB (hexS m) 5) + dvB (hexS m) 6) + dvB (hexS m) 7 := rfl
  rw [hn, dv_of (k := 0) (i := 28) (n := m) (by rw [hs]; rfl), dv_of (k := 1) (i := 24) (n := m) (by rw [hs]; rfl), dv_of (k := 2) (i := 20) (n := m) (by rw [hs]; rfl), dv_of (k := 3) (i := 16) (n := m) (by rw [hs]; rfl), dv_of (k := 4) (i := 12) (n := m) (by rw [hs]; rfl), dv_of (k := 5) (i := 8) (n := m) (by rw [hs]; rfl), dv_of (k := 6) (i := 4) (n := m) (by rw [hs]; rfl), dv_of (k := 7) (i := 0) (n := m) (by rw [hs]; rfl)]
  omega
/-- The digits of a number that is told are the text itself just where the number is told by no other text. -/
theorem hex_same {s : ByteArray} (h8 : s.size = 8) (ho : allB 8 (okB s) = true) : hexS (codeN (accH s 8)) = s ↔ codeN (accH s 8) = accH s 8 := by
  have hl : accH s 8 < 4294967296 := accH_lt s 8
  constructor
  · intro h
    have h0 := hexS_acc h8 ho
    have h : hexS (codeN (accH s 8)) = hexS (accH s 8) := h.trans h0.symm
    have h2 : accH (hexS (codeN (accH s 8))) 8 = accH (hexS (accH s 8)) 8 := congrArg (fun t => accH t 8) h
    rwa [accH_hexS _ (codeN_lt hl), accH_hexS _ hl] at h2
  · intro h
    rw [h]
    exact hexS_acc h8 ho

end Go.Proofs.YtggpbekclegfoaaDoor

namespace Go.Proofs.YtggpbekclegfoaaDoor
open Go.RowKit

def itoaB (n : Int) : ByteArray := ⟨(Lib.itoa n).toArray⟩
theorem itoaB_nat (n : Nat) : itoaB (n : Int) = decS n := by
  unfold itoaB decS Lib.itoa
  rw [if_neg (by omega), Int.toNat_natCast]
theorem decDigits_step (n : Nat) : Lib.decDigits n = (if n < 10 then [] else Lib.decDigits (n / 10)) ++ [UInt8.ofNat (48 + n % 10)] := by
  rw [Lib.decDigits]
  by_cases h : n < 10
  · rw [dif_pos h, if_pos h, Nat.mod_eq_of_lt h]; rfl
  · rw [dif_neg h, if_neg h]
theorem dig_nat (n : Nat) : (UInt8.ofNat (48 + n % 10)).toNat = 48 + n % 10 := by
  have : n % 10 < 10 := Nat.mod_lt _ (by omega)
  rw [UInt8.toNat_ofNat']
  exact Nat.mod_eq_of_lt (by omega)
theorem decDigits_mem (n : Nat) : ∀ c ∈ Lib.decDigits n, 48 ≤ c.toNat ∧ c.toNat ≤ 57 := by
  induction n using Nat.strongRecOn with
  | _ n ih =>
    intro c hc
    rw [decDigits_step, List.mem_append] at hc
    rcases hc with hc | hc
    · split at hc
      · cases hc
      · exact ih (n / 10) (by omega) c hc
    · simp only [List.mem_singleton] at hc
      subst hc
      rw [dig_nat]
      have : n % 10 < 10 := Nat.mod_lt _ (by omega)
      omega
theorem decDigits_ne (n : Nat) : Lib.decDigits n ≠ [] := by rw [decDigits_step]; simp
theorem decDigits_len (k n : Nat) (h : n < 10 ^ (k + 1)) : (Lib.decDigits n).length ≤ k + 1 := by
  have := digI_len k n h
  unfold digI at this
  simpa using this

/-- The first part of a numeral, then the rest. -/
theorem parse_append (M : Nat) : ∀ (l1 l2 : List UInt8) (acc u : Nat), Lib.parseUintM M acc l1 = .ok u → Lib.parseUintM M acc (l1 ++ l2) = Lib.parseUintM M u l2
  | [], l2, acc, u, h => by
    simp only [Lib.parseUintM] at h
    injection h with h
    subst h
    rfl
  | c :: r, l2, acc, u, h => by
    simp only [List.cons_append, Lib.parseUintM] at h ⊢
    split at h
    · rename_i h1
      rw [if_pos h1]
      split at h
      · cases h
      · rename_i h2
        rw [if_neg h2]
        split at h
        · cases h
        · rename_i h3
          rw [if_neg h3]
          exact parse_append M r l2 _ u h
    · cases h
theorem parse_dec (n : Nat) (h : n ≤ 1000000000000000) : Lib.parseUintM (2 ^ 64 - 1) 0 (Lib.decDigits n) = .ok n := by
  induction n using Nat.strongRecOn with
  | _ n ih =>
    have hd := dig_nat n
    have hm : n % 10 < 10 := Nat.mod_lt _ (by omega)
    rw [decDigits_step]
    by_cases h10 : n < 10
    · rw [if_pos h10, List.nil_append]
      simp only [Lib.parseUintM, hd]
      rw [if_pos (by omega), if_neg (by omega), if_neg (by omega)]
      congr 1
      omega
    · rw [if_neg h10, parse_append _ _ _ _ _ (ih (n / 10) (by omega) (by omega))]
      simp only [Lib.parseUintM, hd]
      rw [if_pos (by omega), if_neg (by omega), if_neg (by omega)]
      congr 1
      omega
theorem parse_uint (n : Nat) (h : n ≤ 1000000000000000) : Lib.parseUintB 64 (Lib.decDigits n) = .ok n := by
  unfold Lib.parseUintB
  rw [if_neg (decDigits_ne n)]
  exact parse_dec n h
theorem parse_itoa (n : Int) (h0 : -1000000000000000 ≤ n) (h1 : n ≤ 1000000000000000) : Lib.parseIntB 64 (Lib.itoa n) = .ok n := by
  unfold Lib.itoa
  split
  · rename_i hn
    rw [Lib.parseIntB_minus, parse_uint n.natAbs (by omega)]
    simp only [Lib.signedC]
    rw [if_neg (by omega)]
    congr 1
    omega
  · rename_i hn
    obtain ⟨c, r, e⟩ := List.exists_cons_of_ne_nil (decDigits_ne n.toNat)
    have hc := decDigits_mem n.toNat c (by rw [e]; simp)
    have hp := parse_uint n.toNat (by omega)
    rw [e] at hp ⊢
    rw [Lib.parseIntB_plain _ _ _ (by omega) (by omega), hp]
    simp only [Lib.signlessC]
    rw [if_neg (by omega)]
    congr 1
    omega

/-- The number with a text, if it is one that is not too great. -/
def valB (s : ByteArray) : Option Int := match Lib.parseIntB 64 s.data.toList with
  | .ok v => if (-1000000000000000 ≤ v ∧ v ≤ 1000000000000000) ∧ itoaB v = s then some v else none
  | _ => none
theorem valB_itoa (n : Int) (h0 : -1000000000000000 ≤ n) (h1 : n ≤ 1000000000000000) : valB (itoaB n) = some n := by
  unfold valB
  rw [show (itoaB n).data.toList = Lib.itoa n by simp [itoaB], parse_itoa n h0 h1]
  show (if (-1000000000000000 ≤ n ∧ n ≤ 1000000000000000) ∧ itoaB n = itoaB n then some n else none) = some n
  rw [if_pos ⟨⟨h0, h1⟩, rfl⟩]
theorem valB_some {s : ByteArray} {v : Int} (h : valB s = some v) : -1000000000000000 ≤ v ∧ v ≤ 1000000000000000 ∧ itoaB v = s := by
  unfold valB at h
  split at h
  · split at h
    · rename_i h1
      simp only [Option.some.injEq] at h
      subst h
      exact ⟨h1.1.1, h1.1.2, h1.2⟩
    · cases h
  · cases h
theorem valB_none {s : ByteArray} (h : valB s = none) {n : Int} (h0 : -1000000000000000 ≤ n) (h1 : n ≤ 1000000000000000) : itoaB n ≠ s := by
  rintro rfl
  rw [valB_itoa n h0 h1] at h
  cases h
theorem itoaB_size {n : Int} (h0 : -1000000000000000 ≤ n) (h1 : n ≤ 1000000000000000) : 1 ≤ (itoaB n).size ∧ (itoaB n).size ≤ 17 := by
  have hz : (itoaB n).size = (Lib.itoa n).length := by simp [itoaB, ByteArray.size]
  rw [hz]
  unfold Lib.itoa
  split
  · have := decDigits_len 15 n.natAbs (by omega)
    simp only [List.length_cons]; omega
  · have := decDigits_len 15 n.toNat (by omega)
    have h2 := List.length_pos_iff.2 (decDigits_ne n.toNat)
    omega

/-! ### The reference's reading -/
def accB (l : List UInt8) (a : Nat) : Nat := l.foldl (fun n c => if 48 ≤ c.toNat ∧ c.toNat ≤ 57 then 10 * n + (c.toNat - 48) else n) a
theorem accB_snoc (l : List UInt8) (c : UInt8) (a : Nat) : accB (l ++ [c]) a = if 48 ≤ c.toNat ∧ c.toNat ≤ 57 then 10 * accB l a + (c.toNat - 48) else accB l a := by
  unfold accB
  rw [List.foldl_append]
  rfl
theorem accB_dec (n : Nat) : accB (Lib.decDigits n) 0 = n := by
  induction n using Nat.strongRecOn with
  | _ n ih =>
    have hd := dig_nat n
    have hm : n % 10 < 10 := Nat.mod_lt _ (by omega)
    rw [decDigits_step, accB_snoc, hd, if_pos (by omega)]
    by_cases h10 : n < 10
    · rw [if_pos h10]
      show 10 * 0 + _ = _
      omega
    · rw [if_neg h10, ih (n / 10) (by omega)]
      omega
def accK (s : ByteArray) (k : Nat) : Nat := accB (s.data.toList.take k) 0
theorem accK_zero (s : ByteArray) : accK s 0 = 0 := rfl
theorem accK_succ (s : ByteArray) (k : Nat) (h : k < s.size) : accK s (k + 1) = if 48 ≤ s[k].toNat ∧ s[k].toNat ≤ 57 then 10 * accK s k + (s[k].toNat - 48) else accK s k := by
  unfold accK
  have hk : k < s.data.toList.length := by rw [Array.length_toList]; exact h
  rw [List.take_add_one, List.getElem?_eq_getElem hk, Array.getElem_toList]
  exact accB_snoc _ _ _
theorem accK_lt (s : ByteArray) : ∀ k, k ≤ s.size → accK s k < 10 ^ k
  | 0, _ => by rw [accK_zero]; decide
  | k + 1, h => by
    have ih := accK_lt s k (by omega)
    rw [accK_succ s k (by omega), Nat.pow_succ]
    split <;> omega
/-- What the reference makes of a text. -/
def sval (s : ByteArray) : Int := if s.data[0]! = 45 then -(accK s s.size : Int) else accK s s.size
theorem accK_all (s : ByteArray) : accK s s.size = accB s.data.toList 0 := by
  unfold accK
  rw [List.take_of_length_le (by rw [Array.length_toList]; exact Nat.le_refl _)]
theorem sval_itoa (n : Int) : sval (itoaB n) = n := by
  unfold sval
  rw [accK_all]
  rw [show (itoaB n).data = (Lib.itoa n).toArray from rfl]
  unfold Lib.itoa
  split
  · rename_i hn
    rw [if_pos (by simp)]
    have : accB (45 :: Lib.decDigits n.natAbs) 0 = accB (Lib.decDigits n.natAbs) 0 := rfl
    rw [show ((45 :: Lib.decDigits n.natAbs).toArray).toList = 45 :: Lib.decDigits n.natAbs by simp, this, accB_dec]
    omega
  · rename_i hn
    obtain ⟨c, r, e⟩ := List.exists_cons_of_ne_nil (decDigits_ne n.toNat)
    have hc := decDigits_mem n.toNat c (by rw [e]; simp)
    rw [if_neg (by rw [e]; simp; intro h; rw [h] at hc; exact absurd hc.1 (by decide))]
    rw [show ((Lib.decDigits n.toNat).toArray).toList = Lib.decDigits n.toNat by simp, accB_dec]
    omega

def valN (s : ByteArray) : Int := (valB s).getD 0
def valOk (s : ByteArray) : Bool := (valB s).isSome

theorem valN_some {s : ByteArray} {v : Int} (h : valB s = some v) : valN s = v ∧ valOk s = true := by unfold valN valOk; rw [h]; exact ⟨rfl, rfl⟩
theorem valN_none {s : ByteArray} (h : valB s = none) : valN s = 0 ∧ valOk s = false := by unfold valN valOk; rw [h]; exact ⟨rfl, rfl⟩
theorem valB_sval {s : ByteArray} : valB s = if (-1000000000000000 ≤ sval s ∧ sval s ≤ 1000000000000000) ∧ itoaB (sval s) = s then some (sval s) else none := by
  split
  · rename_i h
    have := valB_itoa (sval s) h.1.1 h.1.2
    rw [h.2] at this
    exact this
  · rename_i h
    cases hv : valB s with
    | none => rfl
    | some v =>
      obtain ⟨h0, h1, h2⟩ := valB_some hv
      refine absurd ?_ h
      rw [← h2, sval_itoa]
      exact ⟨⟨h0, h1⟩, rfl⟩
theorem valB_long {s : ByteArray} (h : s.size < 1 ∨ 17 < s.size) : valB s = none := by
  cases hv : valB s with
  | none => rfl
  | some v =>
    obtain ⟨h0, h1, h2⟩ := valB_some hv
    have := itoaB_size h0 h1
    rw [h2] at this
    omega

end Go.Proofs.YtggpbekclegfoaaDoor
