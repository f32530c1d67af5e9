/-
  FnExactRowsText: texts joined: Float64, MarkF, SameN, HexM, HexI.
-/
import Derived.Deep.RegionHeld3
import Derived.Laws.Externs
import Derived.Test.YtggpbekclegfoaaDoorMERowsTextAB
import Derived.Test.YtggpbekclegfoaaDoorMERowsTextAC
import Derived.Test.YtggpbekclegfoaaDoorMERowsTextAD
namespace Go.Proofs.YtggpbekclegfoaaDoor
open Go.RowKit

theorem read32_bound {b m : Nat} {s : Bool} {e : Int} (h : Ieee.single.read b = .number s m e) : m < 16777216 ∧ -149 ≤ e ∧ e ≤ 104 := by
  unfold Ieee.Format.read at h
  have c1 : Ieee.single.signWeight = 2147483648 := rfl
  have c2 : Ieee.single.binade = 8388608 := rfl
  have c3 : Ieee.single.infRung = 2139095040 := rfl
  have c4 : Ieee.single.leastPlace = -149 := by decide +kernel
  simp only [c1, c2, c3, c4] at h
  split at h
  · simp only [Ieee.Datum.number.injEq] at h
    obtain ⟨_, rfl, rfl⟩ := h
    omega
  · split at h
    · simp only [Ieee.Datum.number.injEq] at h
      obtain ⟨_, rfl, rfl⟩ := h
      omega
    · split at h <;> simp at h

theorem read_word64 (s : Bool) (r : Nat) (h : r < 9218868437227405312) : (Ieee.double.read (Ieee.double.word s r)).isNaN = false ∧ (Ieee.double.read (Ieee.double.word s r)).isInfinity = false := by
  have c1 : Ieee.double.signWeight = 9223372036854775808 := rfl
  have c2 : Ieee.double.binade = 4503599627370496 := rfl
  have c3 : Ieee.double.infRung = 9218868437227405312 := rfl
  have e : (Ieee.double.word s r) % 9223372036854775808 = r := by
    unfold Ieee.Format.word
    rw [c1]
    cases s <;> simp <;> omega
  unfold Ieee.Format.read
  simp only [c1, c2, c3, e]
  split
  · exact ⟨rfl, rfl⟩
  · first
    | exact ⟨rfl, rfl⟩
    | (rw [if_pos h]; exact ⟨rfl, rfl⟩)

theorem near_aux (Q K : Nat) (hQ : Q ≤ 1149) (hK : K < 9007199254740992) : min (Q * 4503599627370496 + K) 9218868437227405312 < 9218868437227405312 := by
  have : Q * 4503599627370496 ≤ 1149 * 4503599627370496 := Nat.mul_le_mul_right _ hQ
  omega
theorem nearest64 (s : Bool) {m : Nat} {e : Int} (hm : m < 16777216) (h1 : -149 ≤ e) (h2 : e ≤ 104) : ∃ r, r < 9218868437227405312 ∧ Ieee.double.nearest s m e = Ieee.double.word s r := by
  unfold Ieee.Format.nearest
  by_cases h0 : m = 0
  · rw [if_pos h0]; exact ⟨0, by decide, rfl⟩
  · rw [if_neg h0]
    have hl : m.log2 ≤ 23 := by
      have : m.log2 < 24 := (Nat.log2_lt h0).2 (by omega)
      omega
    have hlt : m < 2 ^ (m.log2 + 1) := Nat.lt_log2_self
    have c4 : Ieee.double.leastPlace = -1074 := by decide +kernel
    have c2 : Ieee.double.binade = 4503599627370496 := rfl
    have c3 : Ieee.double.infRung = 9218868437227405312 := rfl
    have c5 : Ieee.double.fractionBits = 52 := rfl
    have hlast : max (e + (m.log2 : Int) - (52 : Nat)) (-1074) = e + m.log2 - 52 := by omega
    simp only [c4, c2, c3, c5, hlast]
    have ha : (e - (e + (m.log2 : Int) - 52)).toNat = 52 - m.log2 := by omega
    have hb : (e + (m.log2 : Int) - 52 - e).toNat = 0 := by omega
    rw [ha, hb]
    have hk : m <<< (52 - m.log2) < 9007199254740992 := by
      rw [Nat.shiftLeft_eq]
      have : m * 2 ^ (52 - m.log2) < 2 ^ (m.log2 + 1) * 2 ^ (52 - m.log2) := Nat.mul_lt_mul_of_pos_right hlt (Nat.two_pow_pos _)
      rw [← Nat.pow_add, show m.log2 + 1 + (52 - m.log2) = 53 by omega] at this
      exact this
    generalize m <<< (52 - m.log2) = K at hk
    have hcut : Ieee.Toward.even.cut s K 0 = K := by
      unfold Ieee.Toward.cut
      simp [Nat.mod_one]
    rw [hcut]
    have hQ : (e + (m.log2 : Int) - 52 - -1074).toNat ≤ 1149 := by omega
    exact ⟨_, near_aux _ _ hQ hk, rfl⟩

/-- What is no NaN has a place among the doubles, and is no NaN there. -/
theorem conv64 {b : Nat} (h : nan32 b = false) : ∃ r, floatToFloatBits .f32 b .f64 = some r ∧ (Ieee.double.read r).isNaN = false := by
  unfold nan32 at h
  unfold floatToFloatBits
  rw [if_neg (by decide)]
  have e : FloatKind.f32.decode b = Ieee.single.read b := rfl
  rw [e]
  cases hr : Ieee.single.read b with
  | nan x y => rw [hr] at h; simp [Ieee.Datum.isNaN] at h
  | infinity s =>
    refine ⟨_, rfl, ?_⟩
    cases s <;> decide +kernel
  | number s m e =>
    obtain ⟨a1, a2, a3⟩ := read32_bound hr
    obtain ⟨r, b1, b2⟩ := nearest64 s a1 a2 a3
    have b3 : FloatKind.f64.encode (.number s m e) = Ieee.double.word s r := b2
    have b4 := read_word64 s r b1
    simp only [b3]
    rw [if_neg (by rw [show FloatKind.f64.decode (Ieee.double.word s r) = Ieee.double.read (Ieee.double.word s r) from rfl, b4.2]; simp)]
    exact ⟨_, rfl, b4.1⟩

/-- The bits of a double that the tape names. -/
def tape64 (q : Question) (w : World) : Nat := q.cut (w.tape w.drawn q)
theorem tape64_nan (b : Nat) (w : World) : (Ieee.double.read (tape64 (.nanConv .f64 b) w)).isNaN = true := by
  unfold tape64
  exact nan_cut64 _
theorem run_conv_nan {P : Program} (src dst : TypeId) (b : Nat) (hs : (P.underlying src).isSome = true) (hd : P.underlying dst = some (.float .f64)) (h : nan32 b = true) (w : World) :
    (convert src dst (.float .f32 b)).run P w = .ok (.float .f64 (tape64 (.nanConv .f64 b) w)) w.drew := by
  unfold nan32 at h
  obtain ⟨u, hs'⟩ := Option.isSome_iff_exists.1 hs
  have e : FloatKind.f32.decode b = Ieee.single.read b := rfl
  cases hr : Ieee.single.read b with
  | nan x y => cases u <;> simp [convert, run_underlying hs', run_underlying hd, Conv.floatToFloat, e, hr, Question.forced, tape64, Result.andThen]
  | infinity s => rw [hr] at h; simp [Ieee.Datum.isNaN] at h
  | number s m e => rw [hr] at h; simp [Ieee.Datum.isNaN] at h

theorem Tryd.und32 : Tryd.prog.underlying 83 = some (.float .f32) := Tryd.underlying83
theorem Tryd.und64 : Tryd.prog.underlying 100 = some (.float .f64) := Tryd.underlying100

theorem drew_ex {w W : World} (h : ∃ m, W = w.drewN m) : ∃ m, W.drew = w.drewN m := by obtain ⟨m, rfl⟩ := h; exact ⟨m + 1, rfl⟩
theorem drewN_ex {w W : World} (h : ∃ m, W = w.drewN m) (n : Nat) : ∃ m, W.drewN n = w.drewN m := by obtain ⟨m, rfl⟩ := h; exact ⟨m + n, World.drewN_drewN _ _ _⟩
set_option maxHeartbeats 1000000 in
theorem eqF_q (v v' : Value) (xs : List Nat) (w : World) (h : RdF w v xs) (h' : RdF w v' xs) :
    Calls Tryd.prog 39 #[v, v'] w fun e w' => e = .returned (.bool true) ∧ ∃ m, w' = w.drewN m := by
  obtain ⟨a, c, rfl⟩ := h.shape
  obtain ⟨a', c', rfl⟩ := h'.shape
  have hl := h.len
  unfold maxLen at hl
  have HS := Lib.hid h
  have HS' := Lib.hid h'
  have hne : ((xs.length : Int) != (xs.length : Int)) = false := by simp
  clear h h'
  go_enter Tryd.func39, Tryd.ntmps39
  go_wp2_with fail
  go_loopw [5] (fun i wr => ∃ k : Nat, i = .int .i64 k ∧ k ≤ xs.length ∧ Hid (∃ n, wr = w.drewN n)) (fun i _ => xs.length - (intOf i).toNat)
  case atStart => exact ⟨0, rfl, Nat.zero_le _, 0, rfl⟩
  case round =>
    obtain ⟨k, rfl, hk, hdr⟩ := hrel
    by_cases hlt : k < xs.length
    · obtain ⟨b, off, rfl, hbk, hc⟩ := (show RdF wr _ xs by obtain ⟨n, rfl⟩ := hdr.out; exact HS.out.drewN n).at hlt
      obtain ⟨b', off', rfl, hbk', hc'⟩ := (show RdF wr _ xs by obtain ⟨n, rfl⟩ := hdr.out; exact HS'.out.drewN n).at hlt
      obtain ⟨x, hx⟩ : ∃ x, x = xs.getD k 0 := ⟨_, rfl⟩
      rw [← hx] at hc hc'
      clear hx
      by_cases hn : nan32 x = true
      · have hcv := fun (W : World) => run_conv_nan (P := Tryd.prog) 83 100 x (by rw [Tryd.und32]; rfl) Tryd.und64 hn W
        go_wp2_with fail
        go_region_with ((go_at_call 68; refine (sameFloat_nan _ _ (tape64_nan _ _) (tape64_nan _ _) _).mono ?_; rintro e w' ⟨rfl, rfl⟩))
        all_goals
          go_wp2_with fail
          go_roundw
          case rel => exact ⟨k + 1, by go_num, by omega, by obtain ⟨n, rfl⟩ := hdr.out; exact drew_ex (drew_ex (drew_ex ⟨n, rfl⟩))⟩
          case measure => simp [intOf]; omega
      · rw [Bool.not_eq_true] at hn
        obtain ⟨r, hr, hrn⟩ := conv64 hn
        have hcv := fun (W : World) => run_convert_float_float (P := Tryd.prog) W 83 100 .f32 .f64 x r (by rw [Tryd.und32]; rfl) Tryd.und64 hr
        clear hr
        go_wp2_with fail
        go_quiet ((go_at_call 68; exact quiet_same (sameFloat_self r hrn _)))
        go_wp2_with fail
        go_roundw
        case rel => exact ⟨k + 1, by go_num, by omega, by obtain ⟨n, rfl⟩ := hdr.out; exact drewN_ex ⟨n, rfl⟩ _⟩
        case measure => simp [intOf]; omega
    · obtain rfl : k = xs.length := by omega
      go_wp2_with fail
      go_ret
      exact ⟨rfl, hdr.out⟩

end Go.Proofs.YtggpbekclegfoaaDoor

namespace Go.Proofs.YtggpbekclegfoaaDoor
open Go.RowKit

theorem eqF_same (v v' : Value) (xs : List Nat) (w : World) (h : RdF w v xs) (h' : RdF w v' xs) :
    Calls Tryd.prog 39 #[v, v'] w fun e w' => e = .returned (.bool true) ∧ Below w.heap.size w w' := by
  refine (eqF_q v v' xs w h h').mono ?_
  rintro e w' ⟨rfl, n, rfl⟩
  exact ⟨rfl, below_drewN (Below.refl _ _) _⟩
theorem eqF_qs (v v' : Value) (xs : List Nat) (w : World) (n : Nat) (h : RdF w v xs) (h' : RdF w v' xs) :
    Calls Tryd.prog 39 #[v, v'] (w.drewN n) fun e w'' => e = .returned (.bool true) ∧ ∃ m, w'' = w.drewN m := by
  refine (eqF_q v v' xs _ (h.drewN n) (h'.drewN n)).mono ?_
  rintro e w' ⟨rfl, m, rfl⟩
  exact ⟨rfl, n + m, by rw [World.drewN_drewN]⟩

/-- What is left behind the marks. -/
def mkF (k : Int) (n : Nat) : List Nat := (List.range n).map fun (i : Nat) => floatOfInt .f32 (k + i)
theorem mkF_len (k : Int) (n : Nat) : (mkF k n).length = n := by simp [mkF]
def cntF (xs : List Nat) : Nat := xs.length
theorem cntF_le (xs : List Nat) : cntF xs ≤ bulkF xs := Nat.le_refl _
def mkdF (k : Int) (xs : List Nat) : List Nat := mkF k xs.length

theorem markF_set {k : Int} {xs : List Nat} {j : Nat} (hj : j < xs.length) : ((mkF k j ++ xs.drop j).map F32).set j (.float .f32 (floatOfInt .f32 (k + j))) = (mkF k (j + 1) ++ xs.drop (j + 1)).map F32 := by
  have e : xs.drop j = xs[j] :: xs.drop (j + 1) := List.drop_eq_getElem_cons hj
  rw [e, List.map_append, List.map_cons, set_mid _ _ _ _ _ (by simp [mkF]), List.map_append]
  simp [mkF, List.range_succ, F32]

set_option maxHeartbeats 1000000 in
/-- Marks: the block alone that the list owns has turned. -/
theorem markF_fine (v : Value) (lo hi : Nat) (xs : List Nat) (k : Int) (w : World) (ho : OwnF lo hi w v xs) (h0 : 0 ≤ k) (h1 : k + xs.length ≤ 1099511627776) :
    Calls Tryd.prog 47 #[v, .int .i64 k] w fun e w' => e = .returned (.int .i64 (k + xs.length)) ∧ OwnF lo hi w' v (mkF k xs.length) ∧ Kept (fun b => v.ownBlock = some b) w w' := by
  obtain ⟨a, cap, rfl⟩ := ho.rd.shape
  have HO := Lib.hid ho
  have hcv := fun (W : World) (n : Int) => run_convert_int_float (P := Tryd.prog) (w := W) 3 83 .i64 .f32 n (by rw [Tryd.underlying3]; rfl) Tryd.und32
  clear ho
  go_enter Tryd.func47, Tryd.ntmps47
  go_wp2_with fail
  go_loopw [1, 5] (fun kk i wr => ∃ j : Nat, i = .int .i64 j ∧ j ≤ xs.length ∧ kk = .int .i64 (k + j) ∧ wr.ownsRow lo 83 1 (.slice a xs.length cap) xs.length ((mkF k j ++ xs.drop j).map F32) ∧ Kept (fun b => (Value.slice a xs.length cap).ownBlock = some b) w wr) (fun _ i _ => xs.length - (intOf i).toNat)
  case atStart => exact ⟨0, rfl, Nat.zero_le _, by simp, by simpa [mkF] using HO.out.1, Kept.refl _ _⟩
  case round =>
    obtain ⟨j, rfl, hj, rfl, hown, hkp⟩ := hrel
    have HO1 := Lib.hid hown
    have HK1 := Lib.hid hkp
    clear hkp
    by_cases hlt : j < xs.length
    · obtain ⟨g, rfl, hlo⟩ := owns_slice_some hown (by omega)
      clear hown
      have hd := HO1.out.cellAt j (by omega)
      have hfr := HO1.out.frozenAt j
      have hdl : ((mkF k j ++ xs.drop j).map F32)[j]? = some (.float .f32 (xs.getD j 0)) := by
        rw [List.getElem?_map, List.getElem?_append_right (by simp [mkF])]
        simp [F32, mkF, hlt]
      rw [hdl] at hd
      clear hdl
      go_wp2_with fail
      go_roundw
      case rel =>
        refine ⟨j + 1, by go_num, by omega, by go_num, ?_, HK1.out.setCell (p := ⟨g, j, none⟩) (.inr rfl) _⟩
        have h1 := (HO1.out.stored j (.float .f32 (floatOfInt .f32 (k + j)))).1
        rw [markF_set hlt] at h1
        exact h1
      case measure => simp [intOf]; omega
    · clear hown
      obtain rfl : j = xs.length := by omega
      go_wp2_with fail
      go_ret
      refine ⟨rfl, ⟨?_, HO.out.2⟩, HK1.out⟩
      have h := HO1.out
      rw [List.drop_length, List.append_nil] at h
      rw [mkF_len]
      exact h

theorem OwnF.blk {lo hi : Nat} {w : World} {v : Value} {xs : List Nat} (h : OwnF lo hi w v xs) {b : Nat} (hb : v.ownBlock = some b) : lo ≤ b ∧ b < hi := ⟨(owns_lt h.1 hb).1, h.2 b hb⟩

theorem markF_o (v : Value) (lo hi : Nat) (xs : List Nat) (k : Int) (w : World) (ho : OwnF lo hi w v xs) (h0 : 0 ≤ k) (h1 : k + cntF xs ≤ 1099511627776) :
    Calls Tryd.prog 47 #[v, .int .i64 k] w fun e w' => e = .returned (.int .i64 (k + cntF xs)) ∧ OwnF lo hi w' v (mkdF k xs) ∧ Kept (fun b => lo ≤ b ∧ b < hi) w w' := by
  refine (markF_fine v lo hi xs k w ho h0 h1).mono ?_
  rintro e w' ⟨rfl, h2, h3⟩
  exact ⟨rfl, h2, h3.mono fun b _ hb => ho.blk hb⟩

/-! ### Held -/

theorem read_word32 (s : Bool) (r : Nat) (h : r ≤ 2139095040) : (Ieee.single.read (Ieee.single.word s r)).isNaN = false := by
  have c1 : Ieee.single.signWeight = 2147483648 := rfl
  have c2 : Ieee.single.binade = 8388608 := rfl
  have c3 : Ieee.single.infRung = 2139095040 := rfl
  have e : (Ieee.single.word s r) % 2147483648 = r := by
    unfold Ieee.Format.word
    rw [c1]
    cases s <;> simp <;> omega
  unfold Ieee.Format.read
  simp only [c1, c2, c3, e]
  split
  · rfl
  · split
    · rfl
    · rw [if_pos (by omega)]; rfl
theorem nearest_nan (s : Bool) (m : Nat) (e : Int) : (Ieee.single.read (Ieee.single.nearest s m e)).isNaN = false := by
  unfold Ieee.Format.nearest
  split
  · exact read_word32 _ _ (by omega)
  · exact read_word32 _ _ (Nat.min_le_right _ _)
theorem ofInt_nan (n : Int) : (Ieee.single.read (floatOfInt .f32 n)).isNaN = false := nearest_nan _ _ _

set_option maxHeartbeats 1000000 in
theorem heldF_any (v : Value) (n : Nat) (k : Int) (w : World) (h : RdF w v (mkF k n)) (h0 : 0 ≤ k) (h1 : k + n ≤ 1099511627776) :
    Calls Tryd.prog 48 #[v, .int .i64 k] w fun e w' => e = .returned (.int .i64 (k + n)) ∧ Below w.heap.size w w' := by
  obtain ⟨a, cap, e⟩ := h.shape
  rw [mkF_len] at e
  subst e
  have HS := Lib.hid h
  have hcv := fun (W : World) (n : Int) => run_convert_int_float (P := Tryd.prog) (w := W) 3 83 .i64 .f32 n (by rw [Tryd.underlying3]; rfl) Tryd.und32
  clear h
  go_enter Tryd.func48, Tryd.ntmps48
  go_wp2_with fail
  go_loopw [1, 5] (fun kk i wr => ∃ j : Nat, i = .int .i64 j ∧ j ≤ n ∧ kk = .int .i64 (k + j) ∧ Below w.heap.size w wr) (fun _ i _ => n - (intOf i).toNat)
  case atStart => exact ⟨0, rfl, Nat.zero_le _, by simp, Below.refl _ _⟩
  case round =>
    obtain ⟨j, rfl, hj, rfl, hbl⟩ := hrel
    have HB := Lib.hid hbl
    clear hbl
    by_cases hlt : j < n
    · obtain ⟨b, off, rfl, hb, hc⟩ := (HS.out.up HB.out (Nat.le_refl _)).at (i := j) (by rw [mkF_len]; exact hlt)
      rw [show (mkF k n).getD j 0 = floatOfInt .f32 (k + j) by simp [mkF, hlt]] at hc
      have hne : (FloatKind.f32.format.order (floatOfInt .f32 (k + j)) (floatOfInt .f32 (k + j)) != some .eq) = false := by simp [show FloatKind.f32.format.order (floatOfInt .f32 (k + j)) (floatOfInt .f32 (k + j)) = some .eq from order_self _ _ (ofInt_nan _)]
      go_wp2_with fail
      go_roundw
      case rel => exact ⟨j + 1, by go_num, by omega, by go_num, HB.out⟩
      case measure => simp [intOf]; omega
    · obtain rfl : j = n := by omega
      go_wp2_with fail
      go_ret
      exact ⟨rfl, HB.out⟩

theorem heldF_o (v : Value) (xs : List Nat) (k : Int) (w : World) (h : RdF w v (mkdF k xs)) (h0 : 0 ≤ k) (h1 : k + cntF xs ≤ 1099511627776) :
    Calls Tryd.prog 48 #[v, .int .i64 k] w fun e w' => e = .returned (.int .i64 (k + cntF xs)) ∧ Below w.heap.size w w' :=
  heldF_any v xs.length k w h h0 h1

end Go.Proofs.YtggpbekclegfoaaDoor

namespace Go.Proofs.YtggpbekclegfoaaDoor
open Go.RowKit

theorem run_bits (x : Nat) (W : World) : (callFunc 99 #[.float .f32 x]).run Tryd.prog W = .ok (.value (.int .u32 x)) W := by
  rw [run_callFunc_extern Tryd.func99 (by kernel_rfl) (by kernel_rfl) (by kernel_rfl) (e := Extern.MathFloatBits.float32bits) (by kernel_rfl)]
  rfl

/-- Two numbers are the same: both not a number, or the same bits. -/
def sameX (x y : Nat) : Bool := if (nan32 x || nan32 y) = true then nan32 x && nan32 y else decide (x = y)

theorem neq_nan {x : Nat} (h : nan32 x = true) : (FloatKind.f32.format.order x x != some .eq) = true := by
  rw [show FloatKind.f32.format.order x x = none from order_nanL _ _ _ h]; rfl
theorem neq_num {x : Nat} (h : nan32 x = false) : (FloatKind.f32.format.order x x != some .eq) = false := by
  rw [show FloatKind.f32.format.order x x = some .eq from order_self _ _ h]; rfl

def codeX (x : Nat) : Int := if nan32 x = true then 2143289344 else x
theorem l01Bits_any (x : Nat) (w : World) (hw : x < 4294967296) : Calls Tryd.prog 87 #[.float .f32 x] w fun e w' => e = .returned (.int .i64 (codeX x)) ∧ w = w' := by
  have hb := run_bits
  cases hx : nan32 x
  · have h1 := neq_num hx
    have HN := Lib.hid (show codeX x = x by unfold codeX; rw [hx]; rfl)
    clear hx
    go_enter Tryd.func87, Tryd.ntmps87
    go_wp2_with fail
    go_ret
    exact ⟨by rw [HN.out]; rfl, rfl⟩
  · have h1 := neq_nan hx
    have HN := Lib.hid (show codeX x = 2143289344 by unfold codeX; rw [hx]; rfl)
    clear hx
    go_enter Tryd.func87, Tryd.ntmps87
    go_wp2_with fail
    go_ret
    exact ⟨by rw [HN.out]; rfl, rfl⟩
theorem codeX_same (x y : Nat) : (codeX x == codeX y) = sameX x y := by
  have h0 : nan32 2143289344 = true := by decide +kernel
  unfold codeX sameX
  cases hx : nan32 x <;> cases hy : nan32 y
  · simp only [Bool.or_false, Bool.false_eq_true, if_false]
    by_cases h : x = y
    · subst h; simp
    · simp [h]; omega
  · have : x ≠ 2143289344 := by rintro rfl; rw [h0] at hx; cases hx
    simp; omega
  · have : y ≠ 2143289344 := by rintro rfl; rw [h0] at hy; cases hy
    simp; omega
  · simp
end Go.Proofs.YtggpbekclegfoaaDoor

namespace Go.Proofs.YtggpbekclegfoaaDoor
open Go.RowKit

theorem shr_castX (n i : Nat) : (n : Int) / 2 ^ i = ((n >>> i : Nat) : Int) := by
  rw [Nat.shiftRight_eq_div_pow]; push_cast; rfl
theorem ofInt_i64X (a : Nat) (ha : a < 9223372036854775808) : (BitVec.ofInt 64 (a : Int)).toNat = a := by
  rw [BitVec.ofInt_natCast, BitVec.toNat_ofNat]; exact Nat.mod_eq_of_lt (by omega)
theorem i64_and_natX (a b : Nat) (ha : a < 9223372036854775808) (hb : b < 9223372036854775808) : bits .and .i64 (a : Int) (b : Int) = ((a &&& b : Nat) : Int) := by
  have hx : a &&& b < 2 ^ 63 := Nat.and_lt_two_pow _ (by omega)
  show IntKind.i64.wrap ((BitVec.ofInt 64 (a : Int) &&& BitVec.ofInt 64 (b : Int)).toNat : Int) = _
  rw [BitVec.toNat_and, ofInt_i64X a ha, ofInt_i64X b hb, IntKind.wrap_i64]
  omega

def dig16 (d : Nat) : Nat := if d < 10 then 48 + d else 87 + d
def hexTab : ByteArray := ⟨#[48, 49, 50, 51, 52, 53, 54, 55, 56, 57, 97, 98, 99, 100, 101, 102]⟩
/-- The first k digits of a number below 2^32. -/
def hexK (n : Nat) : Nat → ByteArray
  | 0 => E0
  | k + 1 => hexK n k ++ B1 (UInt8.ofNat (dig16 ((n >>> (28 - 4 * k)) &&& 15)))
def hexI (n : Nat) : Nat → List Int
  | 0 => []
  | k + 1 => hexI n k ++ [((dig16 ((n >>> (28 - 4 * k)) &&& 15) : Nat) : Int)]
def hexS (n : Nat) : ByteArray := hexK n 8
theorem and15 (n : Nat) : n &&& 15 < 16 := by
  rw [show 15 = 2 ^ 4 - 1 from rfl, Nat.and_two_pow_sub_one_eq_mod]
  exact Nat.mod_lt _ (by decide)
theorem hexK_size (n : Nat) : ∀ k, (hexK n k).size = k
  | 0 => rfl
  | k + 1 => by simp only [hexK, ByteArray.size_append, hexK_size n k]; rfl
theorem hexI_len (n : Nat) : ∀ k, (hexI n k).length = k
  | 0 => rfl
  | k + 1 => by simp only [hexI, List.length_append, hexI_len n k]; rfl
theorem dig16_lt (d : Nat) (h : d < 16) : dig16 d < 256 := by unfold dig16; split <;> omega
theorem hexI_str (n : Nat) : ∀ k, strOfNums (hexI n k) = hexK n k
  | 0 => rfl
  | k + 1 => by
    simp only [hexI, hexK]
    rw [← hexI_str n k]
    apply ByteArray.ext
    rw [ByteArray.data_append]
    unfold strOfNums B1
    apply Array.ext'
    simp
theorem tab_cut : ∀ d, d < 16 → hexTab.extract d (d + 1) = B1 (UInt8.ofNat (dig16 d)) := by decide +kernel
theorem tab_at : ∀ d, d < 16 → (hexTab.data[d]!).toNat = dig16 d := by decide +kernel

end Go.Proofs.YtggpbekclegfoaaDoor

namespace Go.Proofs.YtggpbekclegfoaaDoor
open Go.RowKit

def codeN (x : Nat) : Nat := if nan32 x = true then 2143289344 else x
theorem codeX_nat (x : Nat) : codeX x = (codeN x : Int) := by unfold codeX codeN; split <;> rfl
theorem codeN_lt {x : Nat} (h : x < 4294967296) : codeN x < 4294967296 := by unfold codeN; split <;> omega

theorem BitsOf_any (x : Nat) (w : World) (hw : x < 4294967296) : Calls Tryd.prog 83 #[.float .f32 x] w fun e w' => e = .returned (.int .i64 (codeN x)) ∧ w = w' := by
  have hb := run_bits
  cases hx : nan32 x
  · have h1 := neq_num hx
    have HN := Lib.hid (show codeN x = x by unfold codeN; rw [hx]; rfl)
    clear hx
    go_enter Tryd.func83, Tryd.ntmps83
    go_wp2_with fail
    go_ret
    exact ⟨by rw [HN.out]; rfl, rfl⟩
  · have h1 := neq_nan hx
    have HN := Lib.hid (show codeN x = 2143289344 by unfold codeN; rw [hx]; rfl)
    clear hx
    go_enter Tryd.func83, Tryd.ntmps83
    go_wp2_with fail
    go_ret
    exact ⟨by rw [HN.out]; rfl, rfl⟩

set_option maxHeartbeats 1000000 in
theorem hexOf_any (x : Nat) (w : World) (hw : x < 4294967296) :
    Calls Tryd.prog 63 #[.float .f32 x] w fun e w' => e = .returned (.string (hexS (codeN x))) ∧ w = w' := by
  have hB := BitsOf_any x w hw
  have hn := codeN_lt hw
  obtain ⟨n, hne⟩ : ∃ n, n = codeN x := ⟨_, rfl⟩
  rw [← hne] at hB hn ⊢
  have HB := Lib.hid hB
  clear hB hne
  go_enter Tryd.func63, Tryd.ntmps63
  go_wp2_with (go_at_call 83; refine HB.out.mono ?_; rintro e w' ⟨rfl, rfl⟩)
  go_loopw [3, 5] (fun ov sv wr => ∃ (k : Nat) (z : Int), k ≤ 8 ∧ ov = .string (hexK n k) ∧ sv = .int .i64 z ∧ z = 28 - 4 * (k : Int) ∧ w = wr) (fun _ sv _ => (intOf sv + 5).toNat)
  case atStart => exact ⟨0, 28, by omega, rfl, rfl, by omega, rfl⟩
  case round =>
    obtain ⟨k, z, hk, rfl, rfl, hz, rfl⟩ := hrel
    by_cases hlt : k < 8
    · obtain ⟨s, hs⟩ : ∃ s : Nat, s = 28 - 4 * k := ⟨_, rfl⟩
      obtain rfl : z = (s : Int) := by omega
      have hd := and15 (n >>> s)
      have HC := Lib.hid (tab_cut _ hd)
      have HE := Lib.hid (show hexK n (k + 1) = hexK n k ++ B1 (UInt8.ofNat (dig16 ((n >>> s) &&& 15))) by rw [hs]; rfl)
      have hsz := hexK_size n k
      have hA := i64_and_natX (n >>> s) 15 (by have := Nat.shiftRight_le n s; omega) (by omega)
      have hS := shr_castX n s
      obtain ⟨d, hdd⟩ : ∃ d, d = (n >>> s) &&& 15 := ⟨_, rfl⟩
      rw [← hdd] at hd HC HE hA
      obtain ⟨m, hm⟩ : ∃ m, m = n >>> s := ⟨_, rfl⟩
      rw [← hm] at hA hS
      obtain ⟨S, hS2⟩ : ∃ S, S = hexK n k := ⟨_, rfl⟩
      rw [← hS2] at hsz HE ⊢
      have HK := Lib.hid (show (s : Int) = 28 - 4 * (k : Int) from hz)
      have hA2 : bits .and .i64 (m : Int) 15 = (d : Int) := hA
      have hs28 : s ≤ 28 := by omega
      clear hA hz
      clear hdd hm hS2 hs
      go_wp2_with fail
      go_roundw
      case rel => exact ⟨k + 1, (s : Int) - 4, by omega, by rw [HE.out, ← HC.out]; rfl, by go_num, by have := HK.out; omega, by trivial⟩
      case measure => simp [intOf]; omega
    · obtain rfl : k = 8 := by omega
      obtain rfl : z = -4 := by omega
      go_wp2_with fail
      go_ret
      exact ⟨rfl, rfl⟩

set_option maxHeartbeats 1000000 in
theorem l01Hex_any (x : Nat) (w : World) (hw : x < 4294967296) :
    Calls Tryd.prog 80 #[.float .f32 x] w fun e w' => e = .returned (.string (hexS (codeN x))) ∧ Below w.heap.size w w' := by
  have hB := l01Bits_any x w hw
  rw [codeX_nat] at hB
  have hn := codeN_lt hw
  obtain ⟨n, hne⟩ : ∃ n, n = codeN x := ⟨_, rfl⟩
  rw [← hne] at hB hn ⊢
  have HB := Lib.hid hB
  have HS := Lib.hid (show strOfNums (hexI n 8) = hexS n from hexI_str n 8)
  clear hB hne
  go_enter Tryd.func80, Tryd.ntmps80
  go_upto_region 3 with (go_at_call 87; refine HB.out.mono ?_; rintro e w' ⟨rfl, rfl⟩)
  clear HB
  refine wp_at fun W1 hW1 => ?_
  have HO0 := Lib.hid (show W1.ownsRow w.heap.size 5 1 (.slice (some ⟨w.heap.size, 0, none⟩) 0 0) 0 (([] : List Int).map B8) by subst hW1; exact ownsB_lit w [] 0 w.heap.size #[] rfl rfl (by omega) rfl)
  have HB0 := Lib.hid (show Below w.heap.size w W1 by subst hW1; exact (Below.refl _ _).alloc (Nat.le_refl _) _)
  clear hW1
  go_wp2_with fail
  go_loopw [4, 5] (fun ov sv wr => ∃ (k : Nat) (z : Int) (a : Option Addr) (cap : Nat), k ≤ 8 ∧ ov = .slice a k cap ∧ sv = .int .i64 z ∧ Hid (z = 28 - 4 * (k : Int)) ∧ Hid (wr.ownsRow w.heap.size 5 1 (.slice a k cap) k ((hexI n k).map B8)) ∧ Hid (Below w.heap.size w wr)) (fun _ sv _ => (intOf sv + 5).toNat)
  case atStart => exact ⟨0, 28, _, _, by omega, rfl, rfl, Lib.hid (by omega), HO0, HB0⟩
  case round =>
    clear HO0 HB0
    obtain ⟨k, z, a, cap, hk, rfl, rfl, HZ, HO, HB⟩ := hrel
    have hsz := HB.out.size
    by_cases hlt : k < 8
    · obtain ⟨s, hs⟩ : ∃ s : Nat, s = 28 - 4 * k := ⟨_, rfl⟩
      obtain rfl : z = (s : Int) := by have := HZ.out; omega
      have hd := and15 (n >>> s)
      have hC := tab_at _ hd
      have HE := Lib.hid (show hexI n (k + 1) = hexI n k ++ [((dig16 ((n >>> s) &&& 15) : Nat) : Int)] by rw [hs]; rfl)
      have hA := i64_and_natX (n >>> s) 15 (by have := Nat.shiftRight_le n s; omega) (by omega)
      have hS := shr_castX n s
      obtain ⟨d, hdd⟩ : ∃ d, d = (n >>> s) &&& 15 := ⟨_, rfl⟩
      rw [← hdd] at hd hC HE hA
      obtain ⟨m, hm⟩ : ∃ m, m = n >>> s := ⟨_, rfl⟩
      rw [← hm] at hA hS
      have hA2 : bits .and .i64 (m : Int) 15 = (d : Int) := hA
      have hdl := dig16_lt d hd
      obtain ⟨g, hg⟩ : ∃ g, g = dig16 d := ⟨_, rfl⟩
      rw [← hg] at hC HE hdl
      have hC2 : ∀ h : d < (⟨#[48, 49, 50, 51, 52, 53, 54, 55, 56, 57, 97, 98, 99, 100, 101, 102]⟩ : ByteArray).size, ((⟨#[48, 49, 50, 51, 52, 53, 54, 55, 56, 57, 97, 98, 99, 100, 101, 102]⟩ : ByteArray)[d]'h).toNat = g := by
        intro h
        rw [← hC]
        show _ = (hexTab.data[d]!).toNat
        rw [getElem!_pos hexTab.data d h]
        rfl
      have hs28 : s ≤ 28 := by omega
      clear hA hdd hm hs hg hC
      go_wp2_with (at_builtin; refine app_bytes rfl _ _ rfl w.heap.size _ k (hexI n k) rfl (owns_below HO.out ((Below.refl _ _).alloc (Nat.le_refl _) _) (Nat.le_refl _)) _ [(g : Int)] rfl (slc_of_owns (ownsB_lit wr [(g : Int)] 1 _ _ rfl rfl (by omega) rfl)) (k + 1) (hexI n (k + 1)) (by simp) HE.out (by omega) (by simp; omega) ?_; intro a' cap' w' r1 r2 _)
      go_roundw
      case rel => exact ⟨k + 1, (s : Int) - 4, a', cap', by omega, rfl, by go_num, Lib.hid (by have := HZ.out; omega), Lib.hid r1, Lib.hid ((HB.out.alloc hsz _).trans r2)⟩
      case measure => simp [intOf]; omega
    · obtain rfl : k = 8 := by omega
      obtain rfl : z = -4 := by have := HZ.out; omega
      have hcv := conv_bytes HO.out (by omega)
      rw [HS.out] at hcv
      go_wp2_with fail
      go_ret
      exact ⟨rfl, HB.out⟩

end Go.Proofs.YtggpbekclegfoaaDoor
