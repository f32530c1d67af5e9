/-
  FnExactReadJobs: texts joined: Float64, MarkF, SameN, RowsO.
-/
import Derived.Deep.RegionHeld3
import Derived.Laws.Externs
import Derived.Test.YtggpbekclegfoaaDoorMEReadJobsAB
import Derived.Test.YtggpbekclegfoaaDoorMEReadJobsAE
namespace Go.Proofs.YtggpbekclegfoaaDoor
open Go.RowKit

theorem read32_bound {b m : Nat} {s : Bool} {e : Int} (h : Ieee.single.read b = .number s m e) : m < 16777216 ∧ -149 ≤ e ∧ e ≤ 104 := by
  unfold Ieee.Format.read at h
  have c1 : Ieee.single.signWeight = 2147483648 := rfl
  have c2 : Ieee.single.binade = 8388608 := rfl
  have c3 : Ieee.single.infRung = 2139095040 := rfl
  have c4 : Ieee.single.leastPlace = -149 := by decide +kernel
  simp only [c1, c2, c3, c4] at h
  split at h
  · simp only [Ieee.Datum.number.injEq] at h
    obtain ⟨_, rfl, rfl⟩ := h
    omega
  · split at h
    · simp only [Ieee.Datum.number.injEq] at h
      obtain ⟨_, rfl, rfl⟩ := h
      omega
    · split at h <;> simp at h

theorem read_word64 (s : Bool) (r : Nat) (h : r < 9218868437227405312) : (Ieee.double.read (Ieee.double.word s r)).isNaN = false ∧ (Ieee.double.read (Ieee.double.word s r)).isInfinity = false := by
  have c1 : Ieee.double.signWeight = 9223372036854775808 := rfl
  have c2 : Ieee.double.binade = 4503599627370496 := rfl
  have c3 : Ieee.double.infRung = 9218868437227405312 := rfl
  have e : (Ieee.double.word s r) % 9223372036854775808 = r := by
    unfold Ieee.Format.word
    rw [c1]
    cases s <;> simp <;> omega
  unfold Ieee.Format.read
  simp only [c1, c2, c3, e]
  split
  · exact ⟨rfl, rfl⟩
  · first
    | exact ⟨rfl, rfl⟩
    | (rw [if_pos h]; exact ⟨rfl, rfl⟩)

theorem near_aux (Q K : Nat) (hQ : Q ≤ 1149) (hK : K < 9007199254740992) : min (Q * 4503599627370496 + K) 9218868437227405312 < 9218868437227405312 := by
  have : Q * 4503599627370496 ≤ 1149 * 4503599627370496 := Nat.mul_le_mul_right _ hQ
  omega
theorem nearest64 (s : Bool) {m : Nat} {e : Int} (hm : m < 16777216) (h1 : -149 ≤ e) (h2 : e ≤ 104) : ∃ r, r < 9218868437227405312 ∧ Ieee.double.nearest s m e = Ieee.double.word s r := by
  unfold Ieee.Format.nearest
  by_cases h0 : m = 0
  · rw [if_pos h0]; exact ⟨0, by decide, rfl⟩
  · rw [if_neg h0]
    have hl : m.log2 ≤ 23 := by
      have : m.log2 < 24 := (Nat.log2_lt h0).2 (by omega)
      omega
    have hlt : m < 2 ^ (m.log2 + 1) := Nat.lt_log2_self
    have c4 : Ieee.double.leastPlace = -1074 := by decide +kernel
    have c2 : Ieee.double.binade = 4503599627370496 := rfl
    have c3 : Ieee.double.infRung = 9218868437227405312 := rfl
    have c5 : Ieee.double.fractionBits = 52 := rfl
    have hlast : max (e + (m.log2 : Int) - (52 : Nat)) (-1074) = e + m.log2 - 52 := by omega
    simp only [c4, c2, c3, c5, hlast]
    have ha : (e - (e + (m.log2 : Int) - 52)).toNat = 52 - m.log2 := by omega
    have hb : (e + (m.log2 : Int) - 52 - e).toNat = 0 := by omega
    rw [ha, hb]
    have hk : m <<< (52 - m.log2) < 9007199254740992 := by
      rw [Nat.shiftLeft_eq]
      have : m * 2 ^ (52 - m.log2) < 2 ^ (m.log2 + 1) * 2 ^ (52 - m.log2) := Nat.mul_lt_mul_of_pos_right hlt (Nat.two_pow_pos _)
      rw [← Nat.pow_add, show m.log2 + 1 + (52 - m.log2) = 53 by omega] at this
      exact this
    generalize m <<< (52 - m.log2) = K at hk
    have hcut : Ieee.Toward.even.cut s K 0 = K := by
      unfold Ieee.Toward.cut
      simp [Nat.mod_one]
    rw [hcut]
    have hQ : (e + (m.log2 : Int) - 52 - -1074).toNat ≤ 1149 := by omega
    exact ⟨_, near_aux _ _ hQ hk, rfl⟩

/-- What is no NaN has a place among the doubles, and is no NaN there. -/
theorem conv64 {b : Nat} (h : nan32 b = false) : ∃ r, floatToFloatBits .f32 b .f64 = some r ∧ (Ieee.double.read r).isNaN = false := by
  unfold nan32 at h
  unfold floatToFloatBits
  rw [if_neg (by decide)]
  have e : FloatKind.f32.decode b = Ieee.single.read b := rfl
  rw [e]
  cases hr : Ieee.single.read b with
  | nan x y => rw [hr] at h; simp [Ieee.Datum.isNaN] at h
  | infinity s =>
    refine ⟨_, rfl, ?_⟩
    cases s <;> decide +kernel
  | number s m e =>
    obtain ⟨a1, a2, a3⟩ := read32_bound hr
    obtain ⟨r, b1, b2⟩ := nearest64 s a1 a2 a3
    have b3 : FloatKind.f64.encode (.number s m e) = Ieee.double.word s r := b2
    have b4 := read_word64 s r b1
    simp only [b3]
    rw [if_neg (by rw [show FloatKind.f64.decode (Ieee.double.word s r) = Ieee.double.read (Ieee.double.word s r) from rfl, b4.2]; simp)]
    exact ⟨_, rfl, b4.1⟩

/-- The bits of a double that the tape names. -/
def tape64 (q : Question) (w : World) : Nat := q.cut (w.tape w.drawn q)
theorem tape64_nan (b : Nat) (w : World) : (Ieee.double.read (tape64 (.nanConv .f64 b) w)).isNaN = true := by
  unfold tape64
  exact nan_cut64 _
theorem run_conv_nan {P : Program} (src dst : TypeId) (b : Nat) (hs : (P.underlying src).isSome = true) (hd : P.underlying dst = some (.float .f64)) (h : nan32 b = true) (w : World) :
    (convert src dst (.float .f32 b)).run P w = .ok (.float .f64 (tape64 (.nanConv .f64 b) w)) w.drew := by
  unfold nan32 at h
  obtain ⟨u, hs'⟩ := Option.isSome_iff_exists.1 hs
  have e : FloatKind.f32.decode b = Ieee.single.read b := rfl
  cases hr : Ieee.single.read b with
  | nan x y => cases u <;> simp [convert, run_underlying hs', run_underlying hd, Conv.floatToFloat, e, hr, Question.forced, tape64, Result.andThen]
  | infinity s => rw [hr] at h; simp [Ieee.Datum.isNaN] at h
  | number s m e => rw [hr] at h; simp [Ieee.Datum.isNaN] at h

theorem Tryd.und32 : Tryd.prog.underlying 83 = some (.float .f32) := Tryd.underlying83
theorem Tryd.und64 : Tryd.prog.underlying 100 = some (.float .f64) := Tryd.underlying100

theorem drew_ex {w W : World} (h : ∃ m, W = w.drewN m) : ∃ m, W.drew = w.drewN m := by obtain ⟨m, rfl⟩ := h; exact ⟨m + 1, rfl⟩
theorem drewN_ex {w W : World} (h : ∃ m, W = w.drewN m) (n : Nat) : ∃ m, W.drewN n = w.drewN m := by obtain ⟨m, rfl⟩ := h; exact ⟨m + n, World.drewN_drewN _ _ _⟩
set_option maxHeartbeats 1000000 in
theorem eqF_q (v v' : Value) (xs : List Nat) (w : World) (h : RdF w v xs) (h' : RdF w v' xs) :
    Calls Tryd.prog 39 #[v, v'] w fun e w' => e = .returned (.bool true) ∧ ∃ m, w' = w.drewN m := by
  obtain ⟨a, c, rfl⟩ := h.shape
  obtain ⟨a', c', rfl⟩ := h'.shape
  have hl := h.len
  unfold maxLen at hl
  have HS := Lib.hid h
  have HS' := Lib.hid h'
  have hne : ((xs.length : Int) != (xs.length : Int)) = false := by simp
  clear h h'
  go_enter Tryd.func39, Tryd.ntmps39
  go_wp2_with fail
  go_loopw [5] (fun i wr => ∃ k : Nat, i = .int .i64 k ∧ k ≤ xs.length ∧ Hid (∃ n, wr = w.drewN n)) (fun i _ => xs.length - (intOf i).toNat)
  case atStart => exact ⟨0, rfl, Nat.zero_le _, 0, rfl⟩
  case round =>
    obtain ⟨k, rfl, hk, hdr⟩ := hrel
    by_cases hlt : k < xs.length
    · obtain ⟨b, off, rfl, hbk, hc⟩ := (show RdF wr _ xs by obtain ⟨n, rfl⟩ := hdr.out; exact HS.out.drewN n).at hlt
      obtain ⟨b', off', rfl, hbk', hc'⟩ := (show RdF wr _ xs by obtain ⟨n, rfl⟩ := hdr.out; exact HS'.out.drewN n).at hlt
      obtain ⟨x, hx⟩ : ∃ x, x = xs.getD k 0 := ⟨_, rfl⟩
      rw [← hx] at hc hc'
      clear hx
      by_cases hn : nan32 x = true
      · have hcv := fun (W : World) => run_conv_nan (P := Tryd.prog) 83 100 x (by rw [Tryd.und32]; rfl) Tryd.und64 hn W
        go_wp2_with fail
        go_region_with ((go_at_call 68; refine (sameFloat_nan _ _ (tape64_nan _ _) (tape64_nan _ _) _).mono ?_; rintro e w' ⟨rfl, rfl⟩))
        all_goals
          go_wp2_with fail
          go_roundw
          case rel => exact ⟨k + 1, by go_num, by omega, by obtain ⟨n, rfl⟩ := hdr.out; exact drew_ex (drew_ex (drew_ex ⟨n, rfl⟩))⟩
          case measure => simp [intOf]; omega
      · rw [Bool.not_eq_true] at hn
        obtain ⟨r, hr, hrn⟩ := conv64 hn
        have hcv := fun (W : World) => run_convert_float_float (P := Tryd.prog) W 83 100 .f32 .f64 x r (by rw [Tryd.und32]; rfl) Tryd.und64 hr
        clear hr
        go_wp2_with fail
        go_quiet ((go_at_call 68; exact quiet_same (sameFloat_self r hrn _)))
        go_wp2_with fail
        go_roundw
        case rel => exact ⟨k + 1, by go_num, by omega, by obtain ⟨n, rfl⟩ := hdr.out; exact drewN_ex ⟨n, rfl⟩ _⟩
        case measure => simp [intOf]; omega
    · obtain rfl : k = xs.length := by omega
      go_wp2_with fail
      go_ret
      exact ⟨rfl, hdr.out⟩

end Go.Proofs.YtggpbekclegfoaaDoor

namespace Go.Proofs.YtggpbekclegfoaaDoor
open Go.RowKit

theorem eqF_same (v v' : Value) (xs : List Nat) (w : World) (h : RdF w v xs) (h' : RdF w v' xs) :
    Calls Tryd.prog 39 #[v, v'] w fun e w' => e = .returned (.bool true) ∧ Below w.heap.size w w' := by
  refine (eqF_q v v' xs w h h').mono ?_
  rintro e w' ⟨rfl, n, rfl⟩
  exact ⟨rfl, below_drewN (Below.refl _ _) _⟩
theorem eqF_qs (v v' : Value) (xs : List Nat) (w : World) (n : Nat) (h : RdF w v xs) (h' : RdF w v' xs) :
    Calls Tryd.prog 39 #[v, v'] (w.drewN n) fun e w'' => e = .returned (.bool true) ∧ ∃ m, w'' = w.drewN m := by
  refine (eqF_q v v' xs _ (h.drewN n) (h'.drewN n)).mono ?_
  rintro e w' ⟨rfl, m, rfl⟩
  exact ⟨rfl, n + m, by rw [World.drewN_drewN]⟩

/-- What is left behind the marks. -/
def mkF (k : Int) (n : Nat) : List Nat := (List.range n).map fun (i : Nat) => floatOfInt .f32 (k + i)
theorem mkF_len (k : Int) (n : Nat) : (mkF k n).length = n := by simp [mkF]
def cntF (xs : List Nat) : Nat := xs.length
theorem cntF_le (xs : List Nat) : cntF xs ≤ bulkF xs := Nat.le_refl _
def mkdF (k : Int) (xs : List Nat) : List Nat := mkF k xs.length

theorem markF_set {k : Int} {xs : List Nat} {j : Nat} (hj : j < xs.length) : ((mkF k j ++ xs.drop j).map F32).set j (.float .f32 (floatOfInt .f32 (k + j))) = (mkF k (j + 1) ++ xs.drop (j + 1)).map F32 := by
  have e : xs.drop j = xs[j] :: xs.drop (j + 1) := List.drop_eq_getElem_cons hj
  rw [e, List.map_append, List.map_cons, set_mid _ _ _ _ _ (by simp [mkF]), List.map_append]
  simp [mkF, List.range_succ, F32]

set_option maxHeartbeats 1000000 in
/-- Marks: the block alone that the list owns has turned. -/
theorem markF_fine (v : Value) (lo hi : Nat) (xs : List Nat) (k : Int) (w : World) (ho : OwnF lo hi w v xs) (h0 : 0 ≤ k) (h1 : k + xs.length ≤ 1099511627776) :
    Calls Tryd.prog 47 #[v, .int .i64 k] w fun e w' => e = .returned (.int .i64 (k + xs.length)) ∧ OwnF lo hi w' v (mkF k xs.length) ∧ Kept (fun b => v.ownBlock = some b) w w' := by
  obtain ⟨a, cap, rfl⟩ := ho.rd.shape
  have HO := Lib.hid ho
  have hcv := fun (W : World) (n : Int) => run_convert_int_float (P := Tryd.prog) (w := W) 3 83 .i64 .f32 n (by rw [Tryd.underlying3]; rfl) Tryd.und32
  clear ho
  go_enter Tryd.func47, Tryd.ntmps47
  go_wp2_with fail
  go_loopw [1, 5] (fun kk i wr => ∃ j : Nat, i = .int .i64 j ∧ j ≤ xs.length ∧ kk = .int .i64 (k + j) ∧ wr.ownsRow lo 83 1 (.slice a xs.length cap) xs.length ((mkF k j ++ xs.drop j).map F32) ∧ Kept (fun b => (Value.slice a xs.length cap).ownBlock = some b) w wr) (fun _ i _ => xs.length - (intOf i).toNat)
  case atStart => exact ⟨0, rfl, Nat.zero_le _, by simp, by simpa [mkF] using HO.out.1, Kept.refl _ _⟩
  case round =>
    obtain ⟨j, rfl, hj, rfl, hown, hkp⟩ := hrel
    have HO1 := Lib.hid hown
    have HK1 := Lib.hid hkp
    clear hkp
    by_cases hlt : j < xs.length
    · obtain ⟨g, rfl, hlo⟩ := owns_slice_some hown (by omega)
      clear hown
      have hd := HO1.out.cellAt j (by omega)
      have hfr := HO1.out.frozenAt j
      have hdl : ((mkF k j ++ xs.drop j).map F32)[j]? = some (.float .f32 (xs.getD j 0)) := by
        rw [List.getElem?_map, List.getElem?_append_right (by simp [mkF])]
        simp [F32, mkF, hlt]
      rw [hdl] at hd
      clear hdl
      go_wp2_with fail
      go_roundw
      case rel =>
        refine ⟨j + 1, by go_num, by omega, by go_num, ?_, HK1.out.setCell (p := ⟨g, j, none⟩) (.inr rfl) _⟩
        have h1 := (HO1.out.stored j (.float .f32 (floatOfInt .f32 (k + j)))).1
        rw [markF_set hlt] at h1
        exact h1
      case measure => simp [intOf]; omega
    · clear hown
      obtain rfl : j = xs.length := by omega
      go_wp2_with fail
      go_ret
      refine ⟨rfl, ⟨?_, HO.out.2⟩, HK1.out⟩
      have h := HO1.out
      rw [List.drop_length, List.append_nil] at h
      rw [mkF_len]
      exact h

theorem OwnF.blk {lo hi : Nat} {w : World} {v : Value} {xs : List Nat} (h : OwnF lo hi w v xs) {b : Nat} (hb : v.ownBlock = some b) : lo ≤ b ∧ b < hi := ⟨(owns_lt h.1 hb).1, h.2 b hb⟩

theorem markF_o (v : Value) (lo hi : Nat) (xs : List Nat) (k : Int) (w : World) (ho : OwnF lo hi w v xs) (h0 : 0 ≤ k) (h1 : k + cntF xs ≤ 1099511627776) :
    Calls Tryd.prog 47 #[v, .int .i64 k] w fun e w' => e = .returned (.int .i64 (k + cntF xs)) ∧ OwnF lo hi w' v (mkdF k xs) ∧ Kept (fun b => lo ≤ b ∧ b < hi) w w' := by
  refine (markF_fine v lo hi xs k w ho h0 h1).mono ?_
  rintro e w' ⟨rfl, h2, h3⟩
  exact ⟨rfl, h2, h3.mono fun b _ hb => ho.blk hb⟩

/-! ### Held -/

theorem read_word32 (s : Bool) (r : Nat) (h : r ≤ 2139095040) : (Ieee.single.read (Ieee.single.word s r)).isNaN = false := by
  have c1 : Ieee.single.signWeight = 2147483648 := rfl
  have c2 : Ieee.single.binade = 8388608 := rfl
  have c3 : Ieee.single.infRung = 2139095040 := rfl
  have e : (Ieee.single.word s r) % 2147483648 = r := by
    unfold Ieee.Format.word
    rw [c1]
    cases s <;> simp <;> omega
  unfold Ieee.Format.read
  simp only [c1, c2, c3, e]
  split
  · rfl
  · split
    · rfl
    · rw [if_pos (by omega)]; rfl
theorem nearest_nan (s : Bool) (m : Nat) (e : Int) : (Ieee.single.read (Ieee.single.nearest s m e)).isNaN = false := by
  unfold Ieee.Format.nearest
  split
  · exact read_word32 _ _ (by omega)
  · exact read_word32 _ _ (Nat.min_le_right _ _)
theorem ofInt_nan (n : Int) : (Ieee.single.read (floatOfInt .f32 n)).isNaN = false := nearest_nan _ _ _

set_option maxHeartbeats 1000000 in
theorem heldF_any (v : Value) (n : Nat) (k : Int) (w : World) (h : RdF w v (mkF k n)) (h0 : 0 ≤ k) (h1 : k + n ≤ 1099511627776) :
    Calls Tryd.prog 48 #[v, .int .i64 k] w fun e w' => e = .returned (.int .i64 (k + n)) ∧ Below w.heap.size w w' := by
  obtain ⟨a, cap, e⟩ := h.shape
  rw [mkF_len] at e
  subst e
  have HS := Lib.hid h
  have hcv := fun (W : World) (n : Int) => run_convert_int_float (P := Tryd.prog) (w := W) 3 83 .i64 .f32 n (by rw [Tryd.underlying3]; rfl) Tryd.und32
  clear h
  go_enter Tryd.func48, Tryd.ntmps48
  go_wp2_with fail
  go_loopw [1, 5] (fun kk i wr => ∃ j : Nat, i = .int .i64 j ∧ j ≤ n ∧ kk = .int .i64 (k + j) ∧ Below w.heap.size w wr) (fun _ i _ => n - (intOf i).toNat)
  case atStart => exact ⟨0, rfl, Nat.zero_le _, by simp, Below.refl _ _⟩
  case round =>
    obtain ⟨j, rfl, hj, rfl, hbl⟩ := hrel
    have HB := Lib.hid hbl
    clear hbl
    by_cases hlt : j < n
    · obtain ⟨b, off, rfl, hb, hc⟩ := (HS.out.up HB.out (Nat.le_refl _)).at (i := j) (by rw [mkF_len]; exact hlt)
      rw [show (mkF k n).getD j 0 = floatOfInt .f32 (k + j) by simp [mkF, hlt]] at hc
      have hne : (FloatKind.f32.format.order (floatOfInt .f32 (k + j)) (floatOfInt .f32 (k + j)) != some .eq) = false := by simp [show FloatKind.f32.format.order (floatOfInt .f32 (k + j)) (floatOfInt .f32 (k + j)) = some .eq from order_self _ _ (ofInt_nan _)]
      go_wp2_with fail
      go_roundw
      case rel => exact ⟨j + 1, by go_num, by omega, by go_num, HB.out⟩
      case measure => simp [intOf]; omega
    · obtain rfl : j = n := by omega
      go_wp2_with fail
      go_ret
      exact ⟨rfl, HB.out⟩

theorem heldF_o (v : Value) (xs : List Nat) (k : Int) (w : World) (h : RdF w v (mkdF k xs)) (h0 : 0 ≤ k) (h1 : k + cntF xs ≤ 1099511627776) :
    Calls Tryd.prog 48 #[v, .int .i64 k] w fun e w' => e = .returned (.int .i64 (k + cntF xs)) ∧ Below w.heap.size w w' :=
  heldF_any v xs.length k w h h0 h1

end Go.Proofs.YtggpbekclegfoaaDoor

namespace Go.Proofs.YtggpbekclegfoaaDoor
open Go.RowKit

theorem run_bits (x : Nat) (W : World) : (callFunc 99 #[.float .f32 x]).run Tryd.prog W = .ok (.value (.int .u32 x)) W := by
  rw [run_callFunc_extern Tryd.func99 (by kernel_rfl) (by kernel_rfl) (by kernel_rfl) (e := Extern.MathFloatBits.float32bits) (by kernel_rfl)]
  rfl

/-- Two numbers are the same: both not a number, or the same bits. -/
def sameX (x y : Nat) : Bool := if (nan32 x || nan32 y) = true then nan32 x && nan32 y else decide (x = y)

theorem neq_nan {x : Nat} (h : nan32 x = true) : (FloatKind.f32.format.order x x != some .eq) = true := by
  rw [show FloatKind.f32.format.order x x = none from order_nanL _ _ _ h]; rfl
theorem neq_num {x : Nat} (h : nan32 x = false) : (FloatKind.f32.format.order x x != some .eq) = false := by
  rw [show FloatKind.f32.format.order x x = some .eq from order_self _ _ h]; rfl

def codeX (x : Nat) : Int := if nan32 x = true then 2143289344 else x
theorem l01Bits_any (x : Nat) (w : World) (hw : x < 4294967296) : Calls Tryd.prog 87 #[.float .f32 x] w fun e w' => e = .returned (.int .i64 (codeX x)) ∧ w = w' := by
  have hb := run_bits
  cases hx : nan32 x
  · have h1 := neq_num hx
    have HN := Lib.hid (show codeX x = x by unfold codeX; rw [hx]; rfl)
    clear hx
    go_enter Tryd.func87, Tryd.ntmps87
    go_wp2_with fail
    go_ret
    exact ⟨by rw [HN.out]; rfl, rfl⟩
  · have h1 := neq_nan hx
    have HN := Lib.hid (show codeX x = 2143289344 by unfold codeX; rw [hx]; rfl)
    clear hx
    go_enter Tryd.func87, Tryd.ntmps87
    go_wp2_with fail
    go_ret
    exact ⟨by rw [HN.out]; rfl, rfl⟩
theorem codeX_same (x y : Nat) : (codeX x == codeX y) = sameX x y := by
  have h0 : nan32 2143289344 = true := by decide +kernel
  unfold codeX sameX
  cases hx : nan32 x <;> cases hy : nan32 y
  · simp only [Bool.or_false, Bool.false_eq_true, if_false]
    by_cases h : x = y
    · subst h; simp
    · simp [h]; omega
  · have : x ≠ 2143289344 := by rintro rfl; rw [h0] at hx; cases hx
    simp; omega
  · have : y ≠ 2143289344 := by rintro rfl; rw [h0] at hy; cases hy
    simp; omega
  · simp
end Go.Proofs.YtggpbekclegfoaaDoor

namespace Go.Proofs.YtggpbekclegfoaaDoor
open Go.RowKit

structure RowsD where
  vars : Int
  nums : List Nat
  bnds : List Nat
  gains : List Nat

def RdR (w : World) (v : Value) (r : RowsD) : Prop := ∃ va vb vc, v = .agg #[.int .i64 r.vars, va, vb, vc] ∧ RdF w va r.nums ∧ RdF w vb r.bnds ∧ RdF w vc r.gains
def OwnR (lo hi : Nat) (w : World) (v : Value) (r : RowsD) : Prop := ∃ va vb vc, v = .agg #[.int .i64 r.vars, va, vb, vc] ∧ OwnF lo hi w va r.nums ∧ OwnF lo hi w vb r.bnds ∧ OwnF lo hi w vc r.gains ∧ (∀ g, va.ownBlock = some g → vb.ownBlock ≠ some g) ∧ (∀ g, va.ownBlock = some g → vc.ownBlock ≠ some g) ∧ (∀ g, vb.ownBlock = some g → vc.ownBlock ≠ some g)
def bulkR (r : RowsD) : Nat := r.nums.length + r.bnds.length + r.gains.length
def cntR (r : RowsD) : Nat := r.nums.length + r.bnds.length + r.gains.length
theorem cntR_le (r : RowsD) : cntR r ≤ bulkR r := Nat.le_refl _

theorem RdR.shape {w : World} {v : Value} {r : RowsD} (h : RdR w v r) : ∃ a1 c1 a2 c2 a3 c3, v = .agg #[.int .i64 r.vars, .slice a1 r.nums.length c1, .slice a2 r.bnds.length c2, .slice a3 r.gains.length c3] := by
  obtain ⟨va, vb, vc, rfl, h1, h2, h3⟩ := h
  obtain ⟨a1, c1, rfl⟩ := h1.shape
  obtain ⟨a2, c2, rfl⟩ := h2.shape
  obtain ⟨a3, c3, rfl⟩ := h3.shape
  exact ⟨_, _, _, _, _, _, rfl⟩
theorem RdR.parts {w : World} {x0 x y z : Value} {r : RowsD} (h : RdR w (.agg #[x0, x, y, z]) r) : RdF w x r.nums ∧ RdF w y r.bnds ∧ RdF w z r.gains := by
  obtain ⟨va, vb, vc, e, h1, h2, h3⟩ := h
  simp only [Value.agg.injEq, Array.mk.injEq, List.cons.injEq, and_true] at e
  obtain ⟨_, rfl, rfl, rfl⟩ := e
  exact ⟨h1, h2, h3⟩
theorem RdR.up {w w' : World} {v : Value} {r : RowsD} {B : Nat} (h : RdR w v r) (hb : Below B w w') (hB : w.heap.size ≤ B) : RdR w' v r := by
  obtain ⟨va, vb, vc, e, h1, h2, h3⟩ := h
  exact ⟨va, vb, vc, e, h1.up hb hB, h2.up hb hB, h3.up hb hB⟩
theorem OwnR.rd {lo hi : Nat} {w : World} {v : Value} {r : RowsD} (h : OwnR lo hi w v r) : RdR w v r := by
  obtain ⟨va, vb, vc, e, h1, h2, h3, _⟩ := h
  exact ⟨va, vb, vc, e, h1.rd, h2.rd, h3.rd⟩
theorem OwnR.up {lo hi : Nat} {w w' : World} {v : Value} {r : RowsD} {B : Nat} (h : OwnR lo hi w v r) (hb : Below B w w') (hB : w.heap.size ≤ B) : OwnR lo hi w' v r := by
  obtain ⟨va, vb, vc, e, h1, h2, h3, h4⟩ := h
  exact ⟨va, vb, vc, e, h1.up hb hB, h2.up hb hB, h3.up hb hB, h4⟩
theorem OwnR.wide {lo hi lo' hi' : Nat} {w : World} {v : Value} {r : RowsD} (h : OwnR lo hi w v r) (a : lo' ≤ lo) (b : hi ≤ hi') : OwnR lo' hi' w v r := by
  obtain ⟨va, vb, vc, e, h1, h2, h3, h4⟩ := h
  exact ⟨va, vb, vc, e, h1.wide a b, h2.wide a b, h3.wide a b, h4⟩
theorem OwnR.kept {lo hi : Nat} {w w' : World} {v : Value} {r : RowsD} {S : Nat → Prop} (h : OwnR lo hi w v r) (hk : Kept S w w') (hs : ∀ b, lo ≤ b → b < hi → ¬ S b) : OwnR lo hi w' v r := by
  obtain ⟨va, vb, vc, e, h1, h2, h3, h4⟩ := h
  exact ⟨va, vb, vc, e, h1.kept hk hs, h2.kept hk hs, h3.kept hk hs, h4⟩

set_option maxHeartbeats 1000000 in
theorem szR_any (v : Value) (r : RowsD) (left : Int) (w : World) (h : RdR w v r) (h1 : left ≤ 1048576) (h0 : 0 ≤ left) :
    Calls Tryd.prog 12 #[v, .int .i64 left] w fun e w' => ∃ s : Int, e = .returned (.int .i64 s) ∧ -1 ≤ s ∧ s ≤ left ∧ (0 ≤ s → (bulkR r : Int) ≤ left - s) ∧ Below w.heap.size w w' := by
  obtain ⟨a1, c1, a2, c2, a3, c3, rfl⟩ := h.shape
  obtain ⟨p1, p2, p3⟩ := h.parts
  obtain ⟨n0, x1, x2, x3⟩ := r
  simp only [bulkR] at p1 p2 p3 ⊢
  have P1 := Lib.hid p1
  have P2 := Lib.hid p2
  have P3 := Lib.hid p3
  clear h p1 p2 p3
  go_enter Tryd.func12, Tryd.ntmps12
  go_wp2_with fail
  refine Calls.at fun W hW => ?_
  have HB := Lib.hid (show Below w.heap.size w W by subst hW; (repeat' first | exact Below.refl _ _ | assumption | refine Below.alloc ?_ ?_ _ | refine Below.setCell ?_ ?_ _ | refine Below.drew ?_ | (simp; done) | (simp; omega)))
  have HK := Lib.hid (show Blk W w.heap.size 32 #[.int .i64 n0, .slice a1 x1.length c1, .slice a2 x2.length c2, .slice a3 x3.length c3] by subst hW; exact Blk.new _ _ _)
  clear hW
  refine (szF_any _ x1 left W (P1.out.up HB.out (Nat.le_refl _)) (by omega) (by omega)).mono ?_
  rintro e w1 ⟨s1, rfl, sa1, sb1, sc1, hb1⟩
  have HB1 := Lib.hid (HB.out.trans (hb1.mono HB.out.size))
  have HK1 := Lib.hid (HK.out.below hb1 HK.out.lt)
  clear hb1
  unfold bulkF at sc1
  by_cases hn1 : s1 < 0
  · go_wp2_with fail
    go_ret
    exact ⟨-1, rfl, by omega, by omega, by omega, HB1.out⟩
  have d2 : w1.cell? ⟨w.heap.size, 2, none⟩ = some (.slice a2 x2.length c2) := HK1.out.cell 2 rfl
  go_wp2_with fail
  refine (szF_any _ x2 s1 w1 (P2.out.up HB1.out (Nat.le_refl _)) (by omega) (by omega)).mono ?_
  rintro e w2 ⟨s2, rfl, sa2, sb2, sc2, hb2⟩
  have HB2 := Lib.hid (HB1.out.trans (hb2.mono HB1.out.size))
  have HK2 := Lib.hid (HK1.out.below hb2 HK1.out.lt)
  clear hb2
  unfold bulkF at sc2
  by_cases hn2 : s2 < 0
  · go_wp2_with fail
    go_ret
    exact ⟨-1, rfl, by omega, by omega, by omega, HB2.out⟩
  have d3 : w2.cell? ⟨w.heap.size, 3, none⟩ = some (.slice a3 x3.length c3) := HK2.out.cell 3 rfl
  go_wp2_with fail
  refine (szF_any _ x3 s2 w2 (P3.out.up HB2.out (Nat.le_refl _)) (by omega) (by omega)).mono ?_
  rintro e w3 ⟨s3, rfl, sa3, sb3, sc3, hb3⟩
  have HB3 := Lib.hid (HB2.out.trans (hb3.mono HB2.out.size))
  have HK3 := Lib.hid (HK2.out.below hb3 HK2.out.lt)
  clear hb3
  unfold bulkF at sc3
  by_cases hn3 : s3 < 0
  · go_wp2_with fail
    go_ret
    exact ⟨-1, rfl, by omega, by omega, by omega, HB3.out⟩
  go_wp2_with fail
  go_ret
  exact ⟨s3, rfl, by omega, by omega, by omega, HB3.out⟩

set_option maxHeartbeats 2000000 in
theorem toR_any (v : Value) (r : RowsD) (w : World) (h : RdR w v r) (hb : bulkR r ≤ 1048576) :
    Calls Tryd.prog 14 #[v] w fun e w' => ∃ v', e = .returned v' ∧ OwnR w.heap.size w'.heap.size w' v' r ∧ Below w.heap.size w w' := by
  obtain ⟨a1, c1, a2, c2, a3, c3, rfl⟩ := h.shape
  obtain ⟨p1, p2, p3⟩ := h.parts
  obtain ⟨n0, x1, x2, x3⟩ := r
  simp only [bulkR] at p1 p2 p3 hb ⊢
  have P1 := Lib.hid p1
  have P2 := Lib.hid p2
  have P3 := Lib.hid p3
  have L1 : Hid (bulkF x1 ≤ 1048576) := by show bulkF x1 ≤ _; unfold bulkF; omega
  have L2 : Hid (bulkF x2 ≤ 1048576) := by show bulkF x2 ≤ _; unfold bulkF; omega
  have L3 : Hid (bulkF x3 ≤ 1048576) := by show bulkF x3 ≤ _; unfold bulkF; omega
  clear h p1 p2 p3 hb
  go_enter Tryd.func14, Tryd.ntmps14
  go_wp2_with fail
  refine Calls.at fun W1 hW => ?_
  have hb1 : Below w.heap.size w W1 := by subst hW; (repeat' first | exact Below.refl _ _ | assumption | refine Below.alloc ?_ ?_ _ | refine Below.setCell ?_ ?_ _ | refine Below.drew ?_ | (simp; done) | (simp; omega))
  have hk1 : Blk W1 (w.heap.size + 2) 35 #[.int .i64 n0, .slice none 0 0, .slice none 0 0, .slice none 0 0] := by subst hW; simpa using Blk.new ((w.alloc (.cells #[.int .i64 n0, .slice a1 x1.length c1, .slice a2 x2.length c2, .slice a3 x3.length c3] 32)).alloc (.cells #[.int .i64 0, .slice none 0 0, .slice none 0 0, .slice none 0 0] 35)) 35 #[.int .i64 n0, .slice none 0 0, .slice none 0 0, .slice none 0 0]
  have hk2 : Blk W1 w.heap.size 32 #[.int .i64 n0, .slice a1 x1.length c1, .slice a2 x2.length c2, .slice a3 x3.length c3] := by subst hW; exact ((Blk.new w _ _).alloc _).alloc _
  have hk3 : Blk W1 (w.heap.size + 1) 35 #[.int .i64 0, .slice none 0 0, .slice none 0 0, .slice none 0 0] := by subst hW; simpa using (Blk.new (w.alloc (.cells #[.int .i64 n0, .slice a1 x1.length c1, .slice a2 x2.length c2, .slice a3 x3.length c3] 32)) 35 #[.int .i64 0, .slice none 0 0, .slice none 0 0, .slice none 0 0]).alloc (.cells #[.int .i64 n0, .slice none 0 0, .slice none 0 0, .slice none 0 0] 35)
  have hz1 := hk1.lt
  clear hW
  refine (toF_any _ x1 W1 (P1.out.up hb1 (Nat.le_refl _)) L1.out).mono ?_
  rintro e w1 ⟨y1, rfl, ho1, hbb⟩
  obtain ⟨b1, e1, rfl⟩ := ho1.rd.shape
  have zz1 := hbb.size
  have HB1 := Lib.hid (hb1.trans (hbb.mono hb1.size))
  have HK1 := Lib.hid (hk1.below hbb hk1.lt)
  have HK2 := Lib.hid (hk2.below hbb hk2.lt)
  have HK3 := Lib.hid (hk3.below hbb hk3.lt)
  have O1 := Lib.hid (ho1)
  have c0 : w1.cell? ⟨w.heap.size + 2, 1, none⟩ = some (.slice none 0 0) := HK1.out.cell 1 rfl
  have f0 := HK1.out.free 1
  have d1 : w1.cell? ⟨w.heap.size, 2, none⟩ = some (.slice a2 x2.length c2) := HK2.out.cell 2 rfl
  clear hb1 hbb hk1 hk2 hk3 ho1
  go_wp2_with fail
  refine Calls.at fun W2 hW => ?_
  have z2 : W2.heap.size = w1.heap.size := by subst hW; simp
  have hb2 : Below w.heap.size w W2 := by subst hW; exact HB1.out.setCell (by first | (simp; done) | (simp; omega)) _
  have hk1 : Blk W2 (w.heap.size + 2) 35 #[.int .i64 n0, .slice b1 x1.length e1, .slice none 0 0, .slice none 0 0] := by subst hW; exact HK1.out.set 1 _
  have hk2 : Blk W2 w.heap.size 32 #[.int .i64 n0, .slice a1 x1.length c1, .slice a2 x2.length c2, .slice a3 x3.length c3] := by subst hW; exact HK2.out.other (by first | (simp; done) | (simp; omega)) _
  have hk3 : Blk W2 (w.heap.size + 1) 35 #[.int .i64 0, .slice none 0 0, .slice none 0 0, .slice none 0 0] := by subst hW; exact HK3.out.other (by first | (simp; done) | (simp; omega)) _
  have hks : Kept (· = w.heap.size + 2) w1 W2 := by subst hW; exact Kept.setCell (S := (· = w.heap.size + 2)) (p := ⟨w.heap.size + 1 + 1, 1, none⟩) (Kept.refl _ _) (.inr rfl) _
  have ho1 := O1.out.kept hks (by intro b h1 h2 h3; omega)
  clear hW hks c0 f0 d1 HB1 HK1 HK2 HK3 O1
  refine (toF_any _ x2 W2 (P2.out.up hb2 (Nat.le_refl _)) L2.out).mono ?_
  rintro e w2 ⟨y2, rfl, ho2, hbb⟩
  obtain ⟨b2, e2, rfl⟩ := ho2.rd.shape
  have zz2 := hbb.size
  have HB2 := Lib.hid (hb2.trans (hbb.mono hb2.size))
  have HK1 := Lib.hid (hk1.below hbb hk1.lt)
  have HK2 := Lib.hid (hk2.below hbb hk2.lt)
  have HK3 := Lib.hid (hk3.below hbb hk3.lt)
  have O1 := Lib.hid (ho1.up hbb (Nat.le_refl _))
  have O2 := Lib.hid (ho2)
  have c0 : w2.cell? ⟨w.heap.size + 2, 2, none⟩ = some (.slice none 0 0) := HK1.out.cell 2 rfl
  have f0 := HK1.out.free 2
  have d1 : w2.cell? ⟨w.heap.size, 3, none⟩ = some (.slice a3 x3.length c3) := HK2.out.cell 3 rfl
  clear hb2 hbb hk1 hk2 hk3 ho1 ho2
  go_wp2_with fail
  refine Calls.at fun W3 hW => ?_
  have z3 : W3.heap.size = w2.heap.size := by subst hW; simp
  have hb3 : Below w.heap.size w W3 := by subst hW; exact HB2.out.setCell (by first | (simp; done) | (simp; omega)) _
  have hk1 : Blk W3 (w.heap.size + 2) 35 #[.int .i64 n0, .slice b1 x1.length e1, .slice b2 x2.length e2, .slice none 0 0] := by subst hW; exact HK1.out.set 2 _
  have hk2 : Blk W3 w.heap.size 32 #[.int .i64 n0, .slice a1 x1.length c1, .slice a2 x2.length c2, .slice a3 x3.length c3] := by subst hW; exact HK2.out.other (by first | (simp; done) | (simp; omega)) _
  have hk3 : Blk W3 (w.heap.size + 1) 35 #[.int .i64 0, .slice none 0 0, .slice none 0 0, .slice none 0 0] := by subst hW; exact HK3.out.other (by first | (simp; done) | (simp; omega)) _
  have hks : Kept (· = w.heap.size + 2) w2 W3 := by subst hW; exact Kept.setCell (S := (· = w.heap.size + 2)) (p := ⟨w.heap.size + 1 + 1, 2, none⟩) (Kept.refl _ _) (.inr rfl) _
  have ho1 := O1.out.kept hks (by intro b h1 h2 h3; omega)
  have ho2 := O2.out.kept hks (by intro b h1 h2 h3; omega)
  clear hW hks c0 f0 d1 HB2 HK1 HK2 HK3 O1 O2
  refine (toF_any _ x3 W3 (P3.out.up hb3 (Nat.le_refl _)) L3.out).mono ?_
  rintro e w3 ⟨y3, rfl, ho3, hbb⟩
  obtain ⟨b3, e3, rfl⟩ := ho3.rd.shape
  have zz3 := hbb.size
  have HB3 := Lib.hid (hb3.trans (hbb.mono hb3.size))
  have HK1 := Lib.hid (hk1.below hbb hk1.lt)
  have HK2 := Lib.hid (hk2.below hbb hk2.lt)
  have HK3 := Lib.hid (hk3.below hbb hk3.lt)
  have O1 := Lib.hid (ho1.up hbb (Nat.le_refl _))
  have O2 := Lib.hid (ho2.up hbb (Nat.le_refl _))
  have O3 := Lib.hid (ho3)
  have c0 : w3.cell? ⟨w.heap.size + 2, 3, none⟩ = some (.slice none 0 0) := HK1.out.cell 3 rfl
  have f0 := HK1.out.free 3
  clear hb3 hbb hk1 hk2 hk3 ho1 ho2 ho3
  have g0 : w3.cell? ⟨w.heap.size + 2, 0, none⟩ = some (.int .i64 n0) := HK1.out.cell 0 rfl
  have g1 : w3.cell? ⟨w.heap.size + 2, 1, none⟩ = some (.slice b1 x1.length e1) := HK1.out.cell 1 rfl
  have g2 : w3.cell? ⟨w.heap.size + 2, 2, none⟩ = some (.slice b2 x2.length e2) := HK1.out.cell 2 rfl
  have h0 : w3.cell? ⟨w.heap.size + 1, 0, none⟩ = some (.int .i64 0) := HK3.out.cell 0 rfl
  have h1 : w3.cell? ⟨w.heap.size + 1, 1, none⟩ = some (.slice none 0 0) := HK3.out.cell 1 rfl
  have h2 : w3.cell? ⟨w.heap.size + 1, 2, none⟩ = some (.slice none 0 0) := HK3.out.cell 2 rfl
  have h3 : w3.cell? ⟨w.heap.size + 1, 3, none⟩ = some (.slice none 0 0) := HK3.out.cell 3 rfl
  have i0 := HK3.out.free 0
  have i1 := HK3.out.free 1
  have i2 := HK3.out.free 2
  have i3 := HK3.out.free 3
  go_wp2_with fail
  refine bodyPost_ret (v := .agg #[.int .i64 n0, .slice b1 x1.length e1, .slice b2 x2.length e2, .slice b3 x3.length e3]) (by simp [results, Tryd.results14, go_sem, *]) rfl ?_
  have wx : ∀ Wf, Kept (fun b => b = w.heap.size + 1 ∨ b = w.heap.size + 2) w3 Wf → Wf.heap.size = w3.heap.size → ∃ v', Ending.returned (.agg #[.int .i64 n0, .slice b1 x1.length e1, .slice b2 x2.length e2, .slice b3 x3.length e3]) = Ending.returned v' ∧ OwnR w.heap.size Wf.heap.size Wf v' ⟨n0, x1, x2, x3⟩ ∧ Below w.heap.size w Wf := by
    intro Wf hk hz
    have k1 := (O1.out.kept hk (by intro b h1 h2 h3; omega)).wide (lo' := w.heap.size) (hi' := Wf.heap.size) (by omega) (by omega)
    have k2 := (O2.out.kept hk (by intro b h1 h2 h3; omega)).wide (lo' := w.heap.size) (hi' := Wf.heap.size) (by omega) (by omega)
    have k3 := (O3.out.kept hk (by intro b h1 h2 h3; omega)).wide (lo' := w.heap.size) (hi' := Wf.heap.size) (by omega) (by omega)
    refine ⟨_, rfl, ⟨_, _, _, rfl, k1, k2, k3, ?_, ?_, ?_⟩, HB3.out.trans (hk.toBelow HB3.out.size (by intro k h1 h2; omega))⟩
    · intro g q1 q2; have := O1.out.blk q1; have := O2.out.blk q2; omega
    · intro g q1 q2; have := O1.out.blk q1; have := O3.out.blk q2; omega
    · intro g q1 q2; have := O2.out.blk q1; have := O3.out.blk q2; omega
  refine wx _ ?_ (by simp)
  repeat' first | exact Kept.refl _ _ | refine Kept.setCell ?_ (.inr (by simp)) _

set_option maxHeartbeats 1000000 in
theorem eqR_same (v v' : Value) (r : RowsD) (w : World) (h : RdR w v r) (h' : RdR w v' r) :
    Calls Tryd.prog 16 #[v, v'] w fun e w' => e = .returned (.bool true) ∧ Below w.heap.size w w' := by
  obtain ⟨a1, c1, a2, c2, a3, c3, rfl⟩ := h.shape
  obtain ⟨b1, e1, b2, e2, b3, e3, rfl⟩ := h'.shape
  obtain ⟨p1, p2, p3⟩ := h.parts
  obtain ⟨q1, q2, q3⟩ := h'.parts
  obtain ⟨n0, x1, x2, x3⟩ := r
  simp only at p1 p2 p3 q1 q2 q3 ⊢
  have hne : (n0 != n0) = false := by simp
  have P1 := Lib.hid p1
  have P2 := Lib.hid p2
  have P3 := Lib.hid p3
  have Q1 := Lib.hid q1
  have Q2 := Lib.hid q2
  have Q3 := Lib.hid q3
  clear h h' p1 p2 p3 q1 q2 q3
  go_enter Tryd.func16, Tryd.ntmps16
  go_wp2_with fail
  refine Calls.at fun W hW => ?_
  have HB := Lib.hid (show Below w.heap.size w W by subst hW; (repeat' first | exact Below.refl _ _ | assumption | refine Below.alloc ?_ ?_ _ | refine Below.setCell ?_ ?_ _ | refine Below.drew ?_ | (simp; done) | (simp; omega)))
  have HK := Lib.hid (show Blk W w.heap.size 35 #[.int .i64 n0, .slice a1 x1.length c1, .slice a2 x2.length c2, .slice a3 x3.length c3] by subst hW; exact (Blk.new _ _ _).alloc _)
  have HL := Lib.hid (show Blk W (w.heap.size + 1) 35 #[.int .i64 n0, .slice b1 x1.length e1, .slice b2 x2.length e2, .slice b3 x3.length e3] by subst hW; simpa using Blk.new (w.alloc (.cells #[.int .i64 n0, .slice a1 x1.length c1, .slice a2 x2.length c2, .slice a3 x3.length c3] 35)) 35 #[.int .i64 n0, .slice b1 x1.length e1, .slice b2 x2.length e2, .slice b3 x3.length e3])
  clear hW
  refine (eqF_same _ _ x1 W (P1.out.up HB.out (Nat.le_refl _)) (Q1.out.up HB.out (Nat.le_refl _))).mono ?_
  rintro e w1 ⟨rfl, hb1⟩
  have HB1 := Lib.hid (HB.out.trans (hb1.mono HB.out.size))
  have HK1 := Lib.hid (HK.out.below hb1 HK.out.lt)
  have HL1 := Lib.hid (HL.out.below hb1 HL.out.lt)
  clear hb1
  have d2 : w1.cell? ⟨w.heap.size, 2, none⟩ = some (.slice a2 x2.length c2) := HK1.out.cell 2 rfl
  have g2 : w1.cell? ⟨w.heap.size + 1, 2, none⟩ = some (.slice b2 x2.length e2) := HL1.out.cell 2 rfl
  go_wp2_with fail
  refine (eqF_same _ _ x2 w1 (P2.out.up HB1.out (Nat.le_refl _)) (Q2.out.up HB1.out (Nat.le_refl _))).mono ?_
  rintro e w2 ⟨rfl, hb2⟩
  have HB2 := Lib.hid (HB1.out.trans (hb2.mono HB1.out.size))
  have HK2 := Lib.hid (HK1.out.below hb2 HK1.out.lt)
  have HL2 := Lib.hid (HL1.out.below hb2 HL1.out.lt)
  clear hb2
  have d3 : w2.cell? ⟨w.heap.size, 3, none⟩ = some (.slice a3 x3.length c3) := HK2.out.cell 3 rfl
  have g3 : w2.cell? ⟨w.heap.size + 1, 3, none⟩ = some (.slice b3 x3.length e3) := HL2.out.cell 3 rfl
  go_wp2_with fail
  refine (eqF_same _ _ x3 w2 (P3.out.up HB2.out (Nat.le_refl _)) (Q3.out.up HB2.out (Nat.le_refl _))).mono ?_
  rintro e w3 ⟨rfl, hb3⟩
  have HB3 := Lib.hid (HB2.out.trans (hb3.mono HB2.out.size))
  have HK3 := Lib.hid (HK2.out.below hb3 HK2.out.lt)
  have HL3 := Lib.hid (HL2.out.below hb3 HL2.out.lt)
  clear hb3
  go_wp2_with fail
  go_ret
  exact ⟨rfl, HB3.out⟩

def mkdR (k : Int) (r : RowsD) : RowsD := ⟨r.vars, mkF k r.nums.length, mkF (k + r.nums.length) r.bnds.length, mkF (k + r.nums.length + r.bnds.length) r.gains.length⟩

theorem keptF {lo hi : Nat} {w w' : World} {v u : Value} {xs : List Nat} (h : OwnF lo hi w v xs) (hk : Kept (fun b => u.ownBlock = some b) w w') (hn : ∀ g, v.ownBlock = some g → u.ownBlock ≠ some g) : OwnF lo hi w' v xs :=
  ⟨owns_kept h.1 hk hn, h.2⟩

set_option maxHeartbeats 1000000 in
theorem markR_o (v : Value) (lo hi : Nat) (r : RowsD) (k : Int) (w : World) (ho : OwnR lo hi w v r) (h0 : 0 ≤ k) (h1 : k + cntR r ≤ 1099511627776) :
    Calls Tryd.prog 23 #[v, .int .i64 k] w fun e w' => e = .returned (.int .i64 (k + cntR r)) ∧ OwnR lo hi w' v (mkdR k r) ∧ Kept (fun b => lo ≤ b ∧ b < hi) w w' := by
  obtain ⟨va, vb, vc, rfl, o1, o2, o3, d1, d2, d3⟩ := ho
  obtain ⟨a1, c1, rfl⟩ := o1.rd.shape
  obtain ⟨a2, c2, rfl⟩ := o2.rd.shape
  obtain ⟨a3, c3, rfl⟩ := o3.rd.shape
  obtain ⟨n0, x1, x2, x3⟩ := r
  simp only [cntR] at o1 o2 o3 h1 d1 d2 d3 ⊢
  have b1 : k + x1.length ≤ 1099511627776 := by omega
  have b2 : k + x1.length + x2.length ≤ 1099511627776 := by omega
  have b3 : k + x1.length + x2.length + x3.length ≤ 1099511627776 := by omega
  have O1 := Lib.hid o1
  have O2 := Lib.hid o2
  have O3 := Lib.hid o3
  have D1 := Lib.hid d1
  have D2 := Lib.hid d2
  have D3 := Lib.hid d3
  clear o1 o2 o3 d1 d2 d3 h1
  go_enter Tryd.func23, Tryd.ntmps23
  go_wp2_with fail
  refine Calls.at fun W hW => ?_
  have HB := Lib.hid (show Below w.heap.size w W by subst hW; (repeat' first | exact Below.refl _ _ | assumption | refine Below.alloc ?_ ?_ _ | refine Below.setCell ?_ ?_ _ | refine Below.drew ?_ | (simp; done) | (simp; omega)))
  have HK := Lib.hid (show Blk W w.heap.size 35 #[.int .i64 n0, .slice a1 x1.length c1, .slice a2 x2.length c2, .slice a3 x3.length c3] by subst hW; exact Blk.new _ _ _)
  clear hW
  have l1 := fun b (hb : (Value.slice a1 x1.length c1).ownBlock = some b) => (owns_lt O1.out.1 hb).2
  have l2 := fun b (hb : (Value.slice a2 x2.length c2).ownBlock = some b) => (owns_lt O2.out.1 hb).2
  have L1 := Lib.hid l1
  have L2 := Lib.hid l2
  clear l1 l2
  refine (markF_fine _ lo hi x1 k W (O1.out.up HB.out (Nat.le_refl _)) h0 b1).mono ?_
  rintro e w1 ⟨rfl, m1, k1⟩
  have c1 : w1.cell? ⟨w.heap.size, 2, none⟩ = some (.slice a2 x2.length c2) := (HK.out.kept k1 (fun e => by have := L1.out _ e; omega)).cell 2 rfl
  have HK1 := Lib.hid (HK.out.kept k1 (fun e => by have := L1.out _ e; omega))
  have p2 := Lib.hid (keptF (O2.out.up HB.out (Nat.le_refl _)) k1 (fun g h1 h2 => D1.out g h2 h1))
  have p3 := Lib.hid (keptF (O3.out.up HB.out (Nat.le_refl _)) k1 (fun g h1 h2 => D2.out g h2 h1))
  have M1 := Lib.hid m1
  have K1 := Lib.hid k1
  clear m1 k1
  go_wp2_with fail
  refine (markF_fine _ lo hi x2 (k + x1.length) w1 p2.out (by omega) b2).mono ?_
  rintro e w2 ⟨rfl, m2, k2⟩
  have c2 : w2.cell? ⟨w.heap.size, 3, none⟩ = some (.slice a3 x3.length c3) := (HK1.out.kept k2 (fun e => by have := L2.out _ e; omega)).cell 3 rfl
  have q3 := Lib.hid (keptF p3.out k2 (fun g h1 h2 => D3.out g h2 h1))
  have q1 := Lib.hid (keptF M1.out k2 (fun g h1 h2 => D1.out g h1 h2))
  have M2 := Lib.hid m2
  have K2 := Lib.hid k2
  clear m2 k2 c1
  go_wp2_with fail
  refine (markF_fine _ lo hi x3 (k + x1.length + x2.length) w2 q3.out (by omega) b3).mono ?_
  rintro e w3 ⟨rfl, m3, k3⟩
  have r1 := Lib.hid (keptF q1.out k3 (fun g h1 h2 => D2.out g h1 h2))
  have r2 := Lib.hid (keptF M2.out k3 (fun g h1 h2 => D3.out g h1 h2))
  have M3 := Lib.hid m3
  have K3 := Lib.hid k3
  clear m3 k3 c2
  go_wp2_with fail
  go_ret
  refine ⟨by rw [Int.natCast_add, Int.natCast_add, ← Int.add_assoc, ← Int.add_assoc]; rfl, ⟨_, _, _, rfl, r1.out, r2.out, M3.out, D1.out, D2.out, D3.out⟩, ?_⟩
  have e1 : Kept (fun b => lo ≤ b ∧ b < hi) W w1 := K1.out.mono (fun i _ hs => O1.out.blk hs)
  have e2 : Kept (fun b => lo ≤ b ∧ b < hi) w1 w2 := K2.out.mono (fun i _ hs => O2.out.blk hs)
  have e3 : Kept (fun b => lo ≤ b ∧ b < hi) w2 w3 := K3.out.mono (fun i _ hs => O3.out.blk hs)
  exact (Kept.of_below HB.out (Nat.le_refl _)).trans (e1.trans (e2.trans e3))

set_option maxHeartbeats 1000000 in
theorem heldR_o (v : Value) (r : RowsD) (k : Int) (w : World) (h : RdR w v (mkdR k r)) (h0 : 0 ≤ k) (h1 : k + cntR r ≤ 1099511627776) :
    Calls Tryd.prog 24 #[v, .int .i64 k] w fun e w' => e = .returned (.int .i64 (k + cntR r)) ∧ Below w.heap.size w w' := by
  obtain ⟨a1, c1, a2, c2, a3, c3, rfl⟩ := h.shape
  obtain ⟨p1, p2, p3⟩ := h.parts
  obtain ⟨n0, x1, x2, x3⟩ := r
  simp only [mkdR, mkF_len, cntR] at h1 p1 p2 p3 ⊢
  have b1 : k + x1.length ≤ 1099511627776 := by omega
  have b2 : k + x1.length + x2.length ≤ 1099511627776 := by omega
  have b3 : k + x1.length + x2.length + x3.length ≤ 1099511627776 := by omega
  have P1 := Lib.hid p1
  have P2 := Lib.hid p2
  have P3 := Lib.hid p3
  clear h p1 p2 p3 h1
  go_enter Tryd.func24, Tryd.ntmps24
  go_wp2_with fail
  refine Calls.at fun W hW => ?_
  have HB := Lib.hid (show Below w.heap.size w W by subst hW; (repeat' first | exact Below.refl _ _ | assumption | refine Below.alloc ?_ ?_ _ | refine Below.setCell ?_ ?_ _ | refine Below.drew ?_ | (simp; done) | (simp; omega)))
  have HK := Lib.hid (show Blk W w.heap.size 35 #[.int .i64 n0, .slice a1 x1.length c1, .slice a2 x2.length c2, .slice a3 x3.length c3] by subst hW; exact Blk.new _ _ _)
  clear hW
  refine (heldF_any _ x1.length k W (P1.out.up HB.out (Nat.le_refl _)) h0 b1).mono ?_
  rintro e w1 ⟨rfl, hb1⟩
  have d1 : w1.cell? ⟨w.heap.size, 2, none⟩ = some (.slice a2 x2.length c2) := (HK.out.below hb1 HK.out.lt).cell 2 rfl
  have HK1 := Lib.hid (HK.out.below hb1 HK.out.lt)
  have HB1 := Lib.hid (HB.out.trans (hb1.mono HB.out.size))
  clear hb1
  have e1 : ¬ (k + (x1.length : Int) < 0) := by omega
  go_wp2_with fail
  refine (heldF_any _ x2.length (k + x1.length) w1 (P2.out.up HB1.out (Nat.le_refl _)) (by omega) b2).mono ?_
  rintro e w2 ⟨rfl, hb2⟩
  have d2 : w2.cell? ⟨w.heap.size, 3, none⟩ = some (.slice a3 x3.length c3) := (HK1.out.below hb2 HK1.out.lt).cell 3 rfl
  have HB2 := Lib.hid (HB1.out.trans (hb2.mono HB1.out.size))
  clear hb2 d1
  have e2 : ¬ (k + (x1.length : Int) + (x2.length : Int) < 0) := by omega
  go_wp2_with fail
  refine (heldF_any _ x3.length (k + x1.length + x2.length) w2 (P3.out.up HB2.out (Nat.le_refl _)) (by omega) b3).mono ?_
  rintro e w3 ⟨rfl, hb3⟩
  have HB3 := Lib.hid (HB2.out.trans (hb3.mono HB2.out.size))
  clear hb3 d2
  have e3 : ¬ (k + (x1.length : Int) + (x2.length : Int) + (x3.length : Int) < 0) := by omega
  go_wp2_with fail
  go_ret
  exact ⟨by rw [Int.natCast_add, Int.natCast_add, ← Int.add_assoc, ← Int.add_assoc]; rfl, HB3.out⟩

end Go.Proofs.YtggpbekclegfoaaDoor
