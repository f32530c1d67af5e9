/-
  FnSpans: texts joined: PredF, Float64, MarkF, SameN, OpenI, RowsO.
-/
import Derived.Deep.RegionHeld3
import Derived.Laws.Externs
import Derived.ProofKit
import Derived.OpenShut
import Derived.Test.YtkfiepiipigcmaaMFnSpansAA
import Derived.Test.YtkfiepiipigcmaaMFnSpansAB
namespace Go.Proofs.Ytkfiepiipigcmaa
open Go.RowKit

def RdF (w : World) (v : Value) (xs : List Nat) : Prop := Slc w v (xs.map F32)
def OwnF (lo hi : Nat) (w : World) (v : Value) (xs : List Nat) : Prop := w.ownsRow lo 63 1 v xs.length (xs.map F32) ∧ ∀ g, v.ownBlock = some g → g < hi
def bulkF (xs : List Nat) : Nat := xs.length

theorem RdF.shape {w : World} {v : Value} {xs : List Nat} (h : RdF w v xs) : ∃ a c, v = .slice a xs.length c := by
  obtain ⟨a, c, e⟩ := Slc.shape h; exact ⟨a, c, by simpa using e⟩
theorem RdF.up {w w' : World} {v : Value} {xs : List Nat} {B : Nat} (h : RdF w v xs) (hb : Below B w w') (hB : w.heap.size ≤ B) : RdF w' v xs := Slc.below h hb hB
theorem RdF.at {w : World} {a : Option Addr} {n c : Nat} {xs : List Nat} (h : RdF w (.slice a n c) xs) {i : Nat} (hi : i < xs.length) :
    ∃ b off, a = some ⟨b, off, none⟩ ∧ b < w.heap.size ∧ w.cell? ⟨b, off + i, none⟩ = some (.float .f32 (xs.getD i 0)) := Slc.at h (by simp [F32, hi])
theorem RdF.len {w : World} {v : Value} {xs : List Nat} (h : RdF w v xs) : xs.length ≤ maxLen := by simpa using Slc.len h
theorem RdF.drewN {w : World} {v : Value} {xs : List Nat} (h : RdF w v xs) (n : Nat) : RdF (w.drewN n) v xs := Slc.drewN h n
theorem OwnF.rd {lo hi : Nat} {w : World} {v : Value} {xs : List Nat} (h : OwnF lo hi w v xs) : RdF w v xs := slc_of_owns h.1
theorem OwnF.up {lo hi : Nat} {w w' : World} {v : Value} {xs : List Nat} {B : Nat} (h : OwnF lo hi w v xs) (hb : Below B w w') (hB : w.heap.size ≤ B) : OwnF lo hi w' v xs := ⟨owns_below h.1 hb hB, h.2⟩
theorem OwnF.wide {lo hi lo' hi' : Nat} {w : World} {v : Value} {xs : List Nat} (h : OwnF lo hi w v xs) (h1 : lo' ≤ lo) (h2 : hi ≤ hi') : OwnF lo' hi' w v xs := ⟨owns_base h.1 h1, fun g hg => Nat.lt_of_lt_of_le (h.2 g hg) h2⟩
theorem OwnF.kept {lo hi : Nat} {w w' : World} {v : Value} {xs : List Nat} {S : Nat → Prop} (h : OwnF lo hi w v xs) (hk : Kept S w w') (hs : ∀ b, lo ≤ b → b < hi → ¬ S b) : OwnF lo hi w' v xs :=
  ⟨owns_kept h.1 hk fun g hg => hs g (owns_lt h.1 hg).1 (h.2 g hg), h.2⟩
theorem OwnF.mk {lo : Nat} {w : World} {v : Value} {n : Nat} {xs : List Nat} (h : w.ownsRow lo 63 1 v n (xs.map F32)) : OwnF lo w.heap.size w v xs := by
  obtain rfl : xs.length = n := by simpa using owns_len h
  exact ⟨h, fun g hg => (owns_lt h hg).2⟩

set_option maxHeartbeats 400000 in
theorem szF_any (v : Value) (xs : List Nat) (left : Int) (w : World) (h : RdF w v xs) (h1 : left ≤ 1048576) (h0 : 0 ≤ left) :
    Calls Try.prog 83 #[v, .int .i64 left] w fun e w' => ∃ r : Int, e = .returned (.int .i64 r) ∧ -1 ≤ r ∧ r ≤ left ∧ (0 ≤ r → (bulkF xs : Int) ≤ left - r) ∧ Below w.heap.size w w' := by
  obtain ⟨a, c, rfl⟩ := h.shape
  have hn := h.len
  unfold maxLen at hn
  unfold bulkF
  have HB : Hid (Below w.heap.size w w) := Below.refl _ _
  clear h
  by_cases h : left - xs.length < 0
  · go_enter Try.func83, Try.ntmps83
    go_wp2
    go_ret
    exact ⟨-1, rfl, by omega, by omega, by omega, HB.out⟩
  · go_enter Try.func83, Try.ntmps83
    go_wp2
    go_ret
    exact ⟨_, rfl, by omega, by omega, by omega, HB.out⟩

theorem Try.infoF32 : (Try.prog.info? 63).map (fun i => (i.zero, i.size, i.bytes)) = some (some (.float .f32 0), 1, 4) := by kernel_rfl

theorem fill_f {xs : List Nat} {k : Nat} {x : Nat} (hk : k < xs.length) (hx : x = xs.getD k 0) :
    ((xs.take k ++ List.replicate (xs.length - k) 0).map F32).set k (.float .f32 x) = (xs.take (k + 1) ++ List.replicate (xs.length - (k + 1)) 0).map F32 := by
  subst hx
  have e : List.replicate (xs.length - k) (0 : Nat) = 0 :: List.replicate (xs.length - (k + 1)) 0 := by
    rw [show xs.length - k = (xs.length - (k + 1)) + 1 by omega, List.replicate_succ]
  rw [e, List.take_succ_eq_append_getElem hk, List.map_append, List.map_cons, set_mid _ _ _ _ _ (by simp; omega), List.map_append, List.map_append, List.append_assoc, show xs.getD k 0 = xs[k] from by simp [hk]]
  rfl

@[go_sem] theorem run_store_float (P : Program) (w : World) (a : Addr) (m : Mode) (k : FloatKind) (n : Nat) : (store a (.float k n) m).run P w = stored P w a (.float k n) m := run_store P w a _ m rfl

set_option maxHeartbeats 400000 in
theorem toF_any (v : Value) (xs : List Nat) (w : World) (h : RdF w v xs) (hb : bulkF xs ≤ 1048576) :
    Calls Try.prog 89 #[v] w fun e w' => ∃ v', e = .returned v' ∧ OwnF w.heap.size w'.heap.size w' v' xs ∧ Below w.heap.size w w' := by
  obtain ⟨i0, hi, hz0, hz1, hz2⟩ := info_parts Try.infoF32
  obtain ⟨a, cap, rfl⟩ := h.shape
  unfold bulkF at hb
  have HS := Lib.hid h
  clear h
  go_enter Try.func89, Try.ntmps89
  go_wp2_with (at_make; refine wpList_make_full _ rfl _ _ 60 rfl w.heap.size 63 i0 (.float .f32 0) 1 Try.underlying60 hi hz0 hz1 .i64 .i64 xs.length xs.length xs.length rfl rfl rfl rfl (by rw [hz2]; omega) (by unfold maxLen; omega) (by simp) ?_; intro w1 hown hgrow)
  have hb1 : Below w.heap.size w w1 := (Below.refl _ _).grown hgrow (Nat.le_refl _) (by intro k hk; cases hk)
  have hz : (madeCells (Value.float .f32 0).cells (xs.length * 1)).toList = (List.replicate xs.length (0 : Nat)).map F32 := by
    simpa [Value.cells, F32] using toList_madeCells_one (Value.float .f32 0) xs.length
  rw [hz] at hown
  have HO := Lib.hid hown
  have HB := Lib.hid hb1
  clear hown hb1 hz hgrow
  go_loopw [4] (fun i wr => ∃ k : Nat, i = .int .i64 k ∧ k ≤ xs.length ∧ wr.ownsRow w.heap.size 63 1 (.slice (some ⟨w.heap.size, 0, none⟩) xs.length xs.length) xs.length ((xs.take k ++ List.replicate (xs.length - k) 0).map F32) ∧ Below w.heap.size w wr) (fun i _ => xs.length - (intOf i).toNat)
  case atStart => exact ⟨0, rfl, Nat.zero_le _, by simpa using HO.out, HB.out⟩
  case round =>
    obtain ⟨k, rfl, hk, hown, hbel⟩ := hrel
    have HO1 := Lib.hid hown
    have HB1 := Lib.hid hbel
    clear hown hbel
    by_cases hlt : k < xs.length
    · obtain ⟨b, off, rfl, hb0, hc⟩ := (HS.out.up HB1.out (Nat.le_refl _)).at hlt
      have hd := HO1.out.cellAt k (by omega)
      have hfr := HO1.out.frozenAt k
      have hdl : ((xs.take k ++ List.replicate (xs.length - k) 0).map F32)[k]? = some (.float .f32 0) := by
        rw [List.getElem?_map, List.getElem?_append_right (by simp; omega)]
        simp [F32, List.getElem?_replicate]
        omega
      rw [hdl] at hd
      obtain ⟨x, hx⟩ : ∃ x, x = xs.getD k 0 := ⟨_, rfl⟩
      rw [← hx] at hc
      have HX := Lib.hid hx
      clear hx hdl
      go_wp2_with fail
      go_roundw
      case rel =>
        refine ⟨k + 1, by go_num, by omega, ?_, HB1.out.setCell (Nat.le_refl _) _⟩
        have h1 := (HO1.out.stored k (.float .f32 x)).1
        rw [fill_f hlt HX.out] at h1
        exact h1
      case measure => simp [intOf]; omega
    · obtain rfl : k = xs.length := by omega
      go_wp2_with fail
      go_ret
      exact ⟨_, rfl, OwnF.mk (by simpa using HO1.out), HB1.out⟩

/-! ### The same number -/

theorem zero_div {r : Nat} (h : Ieee.double.order r 0 = some .eq) : ∃ q, Ieee.double.div 4607182418800017408 r = some q := by
  have e1 : Ieee.double.read 4607182418800017408 = .number false 4503599627370496 (-52) := by decide +kernel
  have e0 : Ieee.double.read 0 = .number false 0 (-1074) := by decide +kernel
  unfold Ieee.Format.order at h
  unfold Ieee.Format.div
  rw [e1]
  rw [e0] at h
  cases hr : Ieee.double.read r with
  | nan a b => rw [hr] at h; simp [Ieee.Datum.order] at h
  | infinity s => rw [hr] at h; cases s <;> simp [Ieee.Datum.order] at h
  | number s m e =>
    by_cases hm : m = 0
    · subst hm; simp [Ieee.Datum.quotient]
    · simp [Ieee.Datum.quotient, hm]

set_option maxHeartbeats 1000000 in
theorem sameFloat_self (r : Nat) (hn : (Ieee.double.read r).isNaN = false) (w : World) :
    Calls Try.prog 48 #[.float .f64 r, .float .f64 r] w fun e w' => e = .returned (.bool true) ∧ w = w' := by
  have ho : (FloatKind.f64.format.order r r != some .eq) = false := by simp [show FloatKind.f64.format.order r r = some .eq from order_self _ _ hn]
  have ho2 : (FloatKind.f64.format.order r r == some .eq) = true := by simp [show FloatKind.f64.format.order r r = some .eq from order_self _ _ hn]
  by_cases hz : Ieee.double.order r 0 = some .eq
  · obtain ⟨q, hq⟩ := zero_div hz
    have hq2 := fun (W : World) => run_float_arith (P := Try.prog) W .quo 70 .f64 4607182418800017408 r q hq
    have hz1 : (FloatKind.f64.format.order r 0 == some .eq) = true := by simp [show FloatKind.f64.format.order r 0 = some .eq from hz]
    clear hz hq
    go_enter Try.func48, Try.ntmps48
    go_wp2_with fail
    go_ret
    exact ⟨by simp, rfl⟩
  · have hz1 : (FloatKind.f64.format.order r 0 == some .eq) = false := by simp [show ¬ FloatKind.f64.format.order r 0 = some .eq from hz]
    clear hz
    go_enter Try.func48, Try.ntmps48
    go_wp2_with fail
    go_ret
    exact ⟨rfl, rfl⟩

set_option maxHeartbeats 1000000 in
theorem sameFloat_nan (a b : Nat) (ha : (Ieee.double.read a).isNaN = true) (hb : (Ieee.double.read b).isNaN = true) (w : World) :
    Calls Try.prog 48 #[.float .f64 a, .float .f64 b] w fun e w' => e = .returned (.bool true) ∧ w = w' := by
  have h1 : (FloatKind.f64.format.order a a != some .eq) = true := by simp [show FloatKind.f64.format.order a a = none from order_nanL _ _ _ ha]
  have h2 : (FloatKind.f64.format.order b b != some .eq) = true := by simp [show FloatKind.f64.format.order b b = none from order_nanL _ _ _ hb]
  go_enter Try.func48, Try.ntmps48
  go_wp2_with fail
  go_ret
  exact ⟨rfl, rfl⟩

end Go.Proofs.Ytkfiepiipigcmaa

namespace Go.Proofs.Ytkfiepiipigcmaa
open Go.RowKit

theorem read32_bound {b m : Nat} {s : Bool} {e : Int} (h : Ieee.single.read b = .number s m e) : m < 16777216 ∧ -149 ≤ e ∧ e ≤ 104 := by
  unfold Ieee.Format.read at h
  have c1 : Ieee.single.signWeight = 2147483648 := rfl
  have c2 : Ieee.single.binade = 8388608 := rfl
  have c3 : Ieee.single.infRung = 2139095040 := rfl
  have c4 : Ieee.single.leastPlace = -149 := by decide +kernel
  simp only [c1, c2, c3, c4] at h
  split at h
  · simp only [Ieee.Datum.number.injEq] at h
    obtain ⟨_, rfl, rfl⟩ := h
    omega
  · split at h
    · simp only [Ieee.Datum.number.injEq] at h
      obtain ⟨_, rfl, rfl⟩ := h
      omega
    · split at h <;> simp at h

theorem read_word64 (s : Bool) (r : Nat) (h : r < 9218868437227405312) : (Ieee.double.read (Ieee.double.word s r)).isNaN = false ∧ (Ieee.double.read (Ieee.double.word s r)).isInfinity = false := by
  have c1 : Ieee.double.signWeight = 9223372036854775808 := rfl
  have c2 : Ieee.double.binade = 4503599627370496 := rfl
  have c3 : Ieee.double.infRung = 9218868437227405312 := rfl
  have e : (Ieee.double.word s r) % 9223372036854775808 = r := by
    unfold Ieee.Format.word
    rw [c1]
    cases s <;> simp <;> omega
  unfold Ieee.Format.read
  simp only [c1, c2, c3, e]
  split
  · exact ⟨rfl, rfl⟩
  · first
    | exact ⟨rfl, rfl⟩
    | (rw [if_pos h]; exact ⟨rfl, rfl⟩)

theorem near_aux (Q K : Nat) (hQ : Q ≤ 1149) (hK : K < 9007199254740992) : min (Q * 4503599627370496 + K) 9218868437227405312 < 9218868437227405312 := by
  have : Q * 4503599627370496 ≤ 1149 * 4503599627370496 := Nat.mul_le_mul_right _ hQ
  omega
theorem nearest64 (s : Bool) {m : Nat} {e : Int} (hm : m < 16777216) (h1 : -149 ≤ e) (h2 : e ≤ 104) : ∃ r, r < 9218868437227405312 ∧ Ieee.double.nearest s m e = Ieee.double.word s r := by
  unfold Ieee.Format.nearest
  by_cases h0 : m = 0
  · rw [if_pos h0]; exact ⟨0, by decide, rfl⟩
  · rw [if_neg h0]
    have hl : m.log2 ≤ 23 := by
      have : m.log2 < 24 := (Nat.log2_lt h0).2 (by omega)
      omega
    have hlt : m < 2 ^ (m.log2 + 1) := Nat.lt_log2_self
    have c4 : Ieee.double.leastPlace = -1074 := by decide +kernel
    have c2 : Ieee.double.binade = 4503599627370496 := rfl
    have c3 : Ieee.double.infRung = 9218868437227405312 := rfl
    have c5 : Ieee.double.fractionBits = 52 := rfl
    have hlast : max (e + (m.log2 : Int) - (52 : Nat)) (-1074) = e + m.log2 - 52 := by omega
    simp only [c4, c2, c3, c5, hlast]
    have ha : (e - (e + (m.log2 : Int) - 52)).toNat = 52 - m.log2 := by omega
    have hb : (e + (m.log2 : Int) - 52 - e).toNat = 0 := by omega
    rw [ha, hb]
    have hk : m <<< (52 - m.log2) < 9007199254740992 := by
      rw [Nat.shiftLeft_eq]
      have : m * 2 ^ (52 - m.log2) < 2 ^ (m.log2 + 1) * 2 ^ (52 - m.log2) := Nat.mul_lt_mul_of_pos_right hlt (Nat.two_pow_pos _)
      rw [← Nat.pow_add, show m.log2 + 1 + (52 - m.log2) = 53 by omega] at this
      exact this
    generalize m <<< (52 - m.log2) = K at hk
    have hcut : Ieee.Toward.even.cut s K 0 = K := by
      unfold Ieee.Toward.cut
      simp [Nat.mod_one]
    rw [hcut]
    have hQ : (e + (m.log2 : Int) - 52 - -1074).toNat ≤ 1149 := by omega
    exact ⟨_, near_aux _ _ hQ hk, rfl⟩

/-- What is no NaN has a place among the doubles, and is no NaN there. -/
theorem conv64 {b : Nat} (h : nan32 b = false) : ∃ r, floatToFloatBits .f32 b .f64 = some r ∧ (Ieee.double.read r).isNaN = false := by
  unfold nan32 at h
  unfold floatToFloatBits
  rw [if_neg (by decide)]
  have e : FloatKind.f32.decode b = Ieee.single.read b := rfl
  rw [e]
  cases hr : Ieee.single.read b with
  | nan x y => rw [hr] at h; simp [Ieee.Datum.isNaN] at h
  | infinity s =>
    refine ⟨_, rfl, ?_⟩
    cases s <;> decide +kernel
  | number s m e =>
    obtain ⟨a1, a2, a3⟩ := read32_bound hr
    obtain ⟨r, b1, b2⟩ := nearest64 s a1 a2 a3
    have b3 : FloatKind.f64.encode (.number s m e) = Ieee.double.word s r := b2
    have b4 := read_word64 s r b1
    simp only [b3]
    rw [if_neg (by rw [show FloatKind.f64.decode (Ieee.double.word s r) = Ieee.double.read (Ieee.double.word s r) from rfl, b4.2]; simp)]
    exact ⟨_, rfl, b4.1⟩

/-- The bits of a double that the tape names. -/
def tape64 (q : Question) (w : World) : Nat := q.cut (w.tape w.drawn q)
theorem tape64_nan (b : Nat) (w : World) : (Ieee.double.read (tape64 (.nanConv .f64 b) w)).isNaN = true := by
  unfold tape64
  exact nan_cut64 _
theorem run_conv_nan {P : Program} (src dst : TypeId) (b : Nat) (hs : (P.underlying src).isSome = true) (hd : P.underlying dst = some (.float .f64)) (h : nan32 b = true) (w : World) :
    (convert src dst (.float .f32 b)).run P w = .ok (.float .f64 (tape64 (.nanConv .f64 b) w)) w.drew := by
  unfold nan32 at h
  obtain ⟨u, hs'⟩ := Option.isSome_iff_exists.1 hs
  have e : FloatKind.f32.decode b = Ieee.single.read b := rfl
  cases hr : Ieee.single.read b with
  | nan x y => cases u <;> simp [convert, run_underlying hs', run_underlying hd, Conv.floatToFloat, e, hr, Question.forced, tape64, Result.andThen]
  | infinity s => rw [hr] at h; simp [Ieee.Datum.isNaN] at h
  | number s m e => rw [hr] at h; simp [Ieee.Datum.isNaN] at h

theorem Try.und32 : Try.prog.underlying 63 = some (.float .f32) := Try.underlying63
theorem Try.und64 : Try.prog.underlying 70 = some (.float .f64) := Try.underlying70

theorem drew_ex {w W : World} (h : ∃ m, W = w.drewN m) : ∃ m, W.drew = w.drewN m := by obtain ⟨m, rfl⟩ := h; exact ⟨m + 1, rfl⟩
theorem drewN_ex {w W : World} (h : ∃ m, W = w.drewN m) (n : Nat) : ∃ m, W.drewN n = w.drewN m := by obtain ⟨m, rfl⟩ := h; exact ⟨m + n, World.drewN_drewN _ _ _⟩
set_option maxHeartbeats 1000000 in
theorem eqF_q (v v' : Value) (xs : List Nat) (w : World) (h : RdF w v xs) (h' : RdF w v' xs) :
    Calls Try.prog 94 #[v, v'] w fun e w' => e = .returned (.bool true) ∧ ∃ m, w' = w.drewN m := by
  obtain ⟨a, c, rfl⟩ := h.shape
  obtain ⟨a', c', rfl⟩ := h'.shape
  have hl := h.len
  unfold maxLen at hl
  have HS := Lib.hid h
  have HS' := Lib.hid h'
  have hne : ((xs.length : Int) != (xs.length : Int)) = false := by simp
  clear h h'
  go_enter Try.func94, Try.ntmps94
  go_wp2_with fail
  go_loopw [5] (fun i wr => ∃ k : Nat, i = .int .i64 k ∧ k ≤ xs.length ∧ Hid (∃ n, wr = w.drewN n)) (fun i _ => xs.length - (intOf i).toNat)
  case atStart => exact ⟨0, rfl, Nat.zero_le _, 0, rfl⟩
  case round =>
    obtain ⟨k, rfl, hk, hdr⟩ := hrel
    by_cases hlt : k < xs.length
    · obtain ⟨b, off, rfl, hbk, hc⟩ := (show RdF wr _ xs by obtain ⟨n, rfl⟩ := hdr.out; exact HS.out.drewN n).at hlt
      obtain ⟨b', off', rfl, hbk', hc'⟩ := (show RdF wr _ xs by obtain ⟨n, rfl⟩ := hdr.out; exact HS'.out.drewN n).at hlt
      obtain ⟨x, hx⟩ : ∃ x, x = xs.getD k 0 := ⟨_, rfl⟩
      rw [← hx] at hc hc'
      clear hx
      by_cases hn : nan32 x = true
      · have hcv := fun (W : World) => run_conv_nan (P := Try.prog) 63 70 x (by rw [Try.und32]; rfl) Try.und64 hn W
        go_wp2_with fail
        go_region_with ((go_at_call 48; refine (sameFloat_nan _ _ (tape64_nan _ _) (tape64_nan _ _) _).mono ?_; rintro e w' ⟨rfl, rfl⟩))
        all_goals
          go_wp2_with fail
          go_roundw
          case rel => exact ⟨k + 1, by go_num, by omega, by obtain ⟨n, rfl⟩ := hdr.out; exact drew_ex (drew_ex (drew_ex ⟨n, rfl⟩))⟩
          case measure => simp [intOf]; omega
      · rw [Bool.not_eq_true] at hn
        obtain ⟨r, hr, hrn⟩ := conv64 hn
        have hcv := fun (W : World) => run_convert_float_float (P := Try.prog) W 63 70 .f32 .f64 x r (by rw [Try.und32]; rfl) Try.und64 hr
        clear hr
        go_wp2_with fail
        go_quiet ((go_at_call 48; exact quiet_same (sameFloat_self r hrn _)))
        go_wp2_with fail
        go_roundw
        case rel => exact ⟨k + 1, by go_num, by omega, by obtain ⟨n, rfl⟩ := hdr.out; exact drewN_ex ⟨n, rfl⟩ _⟩
        case measure => simp [intOf]; omega
    · obtain rfl : k = xs.length := by omega
      go_wp2_with fail
      go_ret
      exact ⟨rfl, hdr.out⟩

end Go.Proofs.Ytkfiepiipigcmaa

namespace Go.Proofs.Ytkfiepiipigcmaa
open Go.RowKit

theorem eqF_same (v v' : Value) (xs : List Nat) (w : World) (h : RdF w v xs) (h' : RdF w v' xs) :
    Calls Try.prog 94 #[v, v'] w fun e w' => e = .returned (.bool true) ∧ Below w.heap.size w w' := by
  refine (eqF_q v v' xs w h h').mono ?_
  rintro e w' ⟨rfl, n, rfl⟩
  exact ⟨rfl, below_drewN (Below.refl _ _) _⟩
theorem eqF_qs (v v' : Value) (xs : List Nat) (w : World) (n : Nat) (h : RdF w v xs) (h' : RdF w v' xs) :
    Calls Try.prog 94 #[v, v'] (w.drewN n) fun e w'' => e = .returned (.bool true) ∧ ∃ m, w'' = w.drewN m := by
  refine (eqF_q v v' xs _ (h.drewN n) (h'.drewN n)).mono ?_
  rintro e w' ⟨rfl, m, rfl⟩
  exact ⟨rfl, n + m, by rw [World.drewN_drewN]⟩

/-- What is left behind the marks. -/
def mkF (k : Int) (n : Nat) : List Nat := (List.range n).map fun (i : Nat) => floatOfInt .f32 (k + i)
theorem mkF_len (k : Int) (n : Nat) : (mkF k n).length = n := by simp [mkF]
def cntF (xs : List Nat) : Nat := xs.length
theorem cntF_le (xs : List Nat) : cntF xs ≤ bulkF xs := Nat.le_refl _
def mkdF (k : Int) (xs : List Nat) : List Nat := mkF k xs.length

theorem markF_set {k : Int} {xs : List Nat} {j : Nat} (hj : j < xs.length) : ((mkF k j ++ xs.drop j).map F32).set j (.float .f32 (floatOfInt .f32 (k + j))) = (mkF k (j + 1) ++ xs.drop (j + 1)).map F32 := by
  have e : xs.drop j = xs[j] :: xs.drop (j + 1) := List.drop_eq_getElem_cons hj
  rw [e, List.map_append, List.map_cons, set_mid _ _ _ _ _ (by simp [mkF]), List.map_append]
  simp [mkF, List.range_succ, F32]

theorem OwnF.blk {lo hi : Nat} {w : World} {v : Value} {xs : List Nat} (h : OwnF lo hi w v xs) {b : Nat} (hb : v.ownBlock = some b) : lo ≤ b ∧ b < hi := ⟨(owns_lt h.1 hb).1, h.2 b hb⟩

/-! ### Held -/

theorem read_word32 (s : Bool) (r : Nat) (h : r ≤ 2139095040) : (Ieee.single.read (Ieee.single.word s r)).isNaN = false := by
  have c1 : Ieee.single.signWeight = 2147483648 := rfl
  have c2 : Ieee.single.binade = 8388608 := rfl
  have c3 : Ieee.single.infRung = 2139095040 := rfl
  have e : (Ieee.single.word s r) % 2147483648 = r := by
    unfold Ieee.Format.word
    rw [c1]
    cases s <;> simp <;> omega
  unfold Ieee.Format.read
  simp only [c1, c2, c3, e]
  split
  · rfl
  · split
    · rfl
    · rw [if_pos (by omega)]; rfl
theorem nearest_nan (s : Bool) (m : Nat) (e : Int) : (Ieee.single.read (Ieee.single.nearest s m e)).isNaN = false := by
  unfold Ieee.Format.nearest
  split
  · exact read_word32 _ _ (by omega)
  · exact read_word32 _ _ (Nat.min_le_right _ _)
theorem ofInt_nan (n : Int) : (Ieee.single.read (floatOfInt .f32 n)).isNaN = false := nearest_nan _ _ _

end Go.Proofs.Ytkfiepiipigcmaa

namespace Go.Proofs.Ytkfiepiipigcmaa
open Go.RowKit

/-- Two numbers are the same: both not a number, or the same bits. -/
def sameX (x y : Nat) : Bool := if (nan32 x || nan32 y) = true then nan32 x && nan32 y else decide (x = y)

theorem neq_nan {x : Nat} (h : nan32 x = true) : (FloatKind.f32.format.order x x != some .eq) = true := by
  rw [show FloatKind.f32.format.order x x = none from order_nanL _ _ _ h]; rfl
theorem neq_num {x : Nat} (h : nan32 x = false) : (FloatKind.f32.format.order x x != some .eq) = false := by
  rw [show FloatKind.f32.format.order x x = some .eq from order_self _ _ h]; rfl

def codeX (x : Nat) : Int := if nan32 x = true then 2143289344 else x
theorem codeX_same (x y : Nat) : (codeX x == codeX y) = sameX x y := by
  have h0 : nan32 2143289344 = true := by decide +kernel
  unfold codeX sameX
  cases hx : nan32 x <;> cases hy : nan32 y
  · simp only [Bool.or_false, Bool.false_eq_true, if_false]
    by_cases h : x = y
    · subst h; simp
    · simp [h]; omega
  · have : x ≠ 2143289344 := by rintro rfl; rw [h0] at hx; cases hx
    simp; omega
  · have : y ≠ 2143289344 := by rintro rfl; rw [h0] at hy; cases hy
    simp; omega
  · simp
end Go.Proofs.Ytkfiepiipigcmaa

namespace Go.Proofs.Ytkfiepiipigcmaa
open Go.ChangeShapes Go.WideShapes Go.ChangeAt Go.RowKit
set_option linter.unusedVariables false

def WfI (zs : List Int) : Prop := ∀ z ∈ zs, -9223372036854775808 ≤ z ∧ z ≤ 9223372036854775807

section
variable {H : Type} {enc : TypeId × Value → H} {w : World} {base : Nat} {spare : Nat → Bool} {held : Bool}

theorem cells_i64 : Try.prog.cellsOf 2 = 1 := by kernel_rfl
theorem wf_i64_bounds {z : Int} (h : (Lit.int .i64 z).wf = true) : -9223372036854775808 ≤ z ∧ z ≤ 9223372036854775807 := bounds_i64 h

set_option maxRecDepth 100000 in
theorem trod_I {fuel : Nat} {cs : List Value} {x : DataW H × List MemPlace} (h : DataW.trod enc Try.prog w base spare held fuel 24 cs = some x) : ∃ v zs, cs = [v] ∧ RdI w v zs ∧ WfI zs := by
  rcases open_ints Try.underlying24 Try.underlying2 cells_i64 h with ⟨rfl, _⟩ | ⟨a, len, cap, zs, rfl, _, hl, hm, hz, _, hcell, hwz⟩
  · exact ⟨_, [], rfl, .inl ⟨rfl, rfl⟩, by intro z hz; simp at hz⟩
  · have hle : len ≤ zs.length := by rw [hz]; split <;> omega
    refine ⟨_, zs.take len, rfl, .inr ⟨a, cap, by simp [Nat.min_eq_left hle], by simp; omega, hm, ?_⟩, fun z hz' => wf_i64_bounds (hwz z (List.mem_of_mem_take hz'))⟩
    intro i u hi
    have hlt : i < len := by
      have := (List.getElem?_eq_some_iff.1 hi).1
      simp at this; omega
    have h2 := hcell i (by omega)
    rw [h2, ← hi]
    simp [I64, List.getElem?_take, hlt, show i < zs.length by omega]

set_option maxRecDepth 100000 in
theorem arg_I {r : Reach} {b0 : Nat} {v : Value} {d : DataW H} {p : List MemPlace} (hv : Value.okWide Try.prog w r b0 24 v) (h : DataW.Trod enc Try.prog w base spare held 24 v d p) : ∃ zs, RdI w v zs ∧ WfI zs := by
  obtain ⟨a, len, cap, rfl⟩ := okWide_slice Try.underlying24 hv
  obtain ⟨fuel, hf⟩ := h
  obtain ⟨v, zs, e, h1, h2⟩ := trod_I hf
  simp [Value.cells] at e
  subst e
  exact ⟨zs, h1, h2⟩
theorem cells_one {a : Addr} {cs : List Value} (h : w.cells? base a 1 = some cs) : ∃ v, cs = [v] ∧ w.cell? a = some v := by
  simp [World.cells?] at h
  obtain ⟨_, h⟩ := h
  cases hc : w.cell? (a.add 0) with
  | none => rw [hc] at h; simp at h
  | some v =>
    rw [hc] at h
    simp at h
    exact ⟨v, h.symm, by simpa [Addr.add] using hc⟩

theorem exists_list {α : Type} (P : Nat → α → Prop) : ∀ (n : Nat), (∀ i, i < n → ∃ x, P i x) → ∃ l : List α, l.length = n ∧ ∀ (i : Nat) x, l[i]? = some x → P i x
  | 0, _ => ⟨[], rfl, by intro i x h; simp at h⟩
  | n + 1, h => by
    obtain ⟨l, hl, hp⟩ := exists_list P n (fun i hi => h i (by omega))
    obtain ⟨x, hx⟩ := h n (by omega)
    refine ⟨l ++ [x], by simp [hl], fun i y hy => ?_⟩
    by_cases hi : i < n
    · rw [List.getElem?_append_left (by omega)] at hy
      exact hp i y hy
    · have : i < (l ++ [x]).length := (List.getElem?_eq_some_iff.1 hy).1
      simp [hl] at this
      obtain rfl : i = n := by omega
      rw [List.getElem?_append_right (by omega), hl] at hy
      simp at hy
      exact hy ▸ hx
end
end Go.Proofs.Ytkfiepiipigcmaa

namespace Go.Proofs.Ytkfiepiipigcmaa
open Go.RowKit

structure RowsD where
  vars : Int
  nums : List Nat
  bnds : List Nat
  gains : List Nat

def RdR (w : World) (v : Value) (r : RowsD) : Prop := ∃ va vb vc, v = .agg #[.int .i64 r.vars, va, vb, vc] ∧ RdF w va r.nums ∧ RdF w vb r.bnds ∧ RdF w vc r.gains
def OwnR (lo hi : Nat) (w : World) (v : Value) (r : RowsD) : Prop := ∃ va vb vc, v = .agg #[.int .i64 r.vars, va, vb, vc] ∧ OwnF lo hi w va r.nums ∧ OwnF lo hi w vb r.bnds ∧ OwnF lo hi w vc r.gains ∧ (∀ g, va.ownBlock = some g → vb.ownBlock ≠ some g) ∧ (∀ g, va.ownBlock = some g → vc.ownBlock ≠ some g) ∧ (∀ g, vb.ownBlock = some g → vc.ownBlock ≠ some g)
def bulkR (r : RowsD) : Nat := r.nums.length + r.bnds.length + r.gains.length
def cntR (r : RowsD) : Nat := r.nums.length + r.bnds.length + r.gains.length
theorem cntR_le (r : RowsD) : cntR r ≤ bulkR r := Nat.le_refl _

theorem RdR.shape {w : World} {v : Value} {r : RowsD} (h : RdR w v r) : ∃ a1 c1 a2 c2 a3 c3, v = .agg #[.int .i64 r.vars, .slice a1 r.nums.length c1, .slice a2 r.bnds.length c2, .slice a3 r.gains.length c3] := by
  obtain ⟨va, vb, vc, rfl, h1, h2, h3⟩ := h
  obtain ⟨a1, c1, rfl⟩ := h1.shape
  obtain ⟨a2, c2, rfl⟩ := h2.shape
  obtain ⟨a3, c3, rfl⟩ := h3.shape
  exact ⟨_, _, _, _, _, _, rfl⟩
theorem RdR.parts {w : World} {x0 x y z : Value} {r : RowsD} (h : RdR w (.agg #[x0, x, y, z]) r) : RdF w x r.nums ∧ RdF w y r.bnds ∧ RdF w z r.gains := by
  obtain ⟨va, vb, vc, e, h1, h2, h3⟩ := h
  simp only [Value.agg.injEq, Array.mk.injEq, List.cons.injEq, and_true] at e
  obtain ⟨_, rfl, rfl, rfl⟩ := e
  exact ⟨h1, h2, h3⟩
theorem RdR.up {w w' : World} {v : Value} {r : RowsD} {B : Nat} (h : RdR w v r) (hb : Below B w w') (hB : w.heap.size ≤ B) : RdR w' v r := by
  obtain ⟨va, vb, vc, e, h1, h2, h3⟩ := h
  exact ⟨va, vb, vc, e, h1.up hb hB, h2.up hb hB, h3.up hb hB⟩
theorem OwnR.rd {lo hi : Nat} {w : World} {v : Value} {r : RowsD} (h : OwnR lo hi w v r) : RdR w v r := by
  obtain ⟨va, vb, vc, e, h1, h2, h3, _⟩ := h
  exact ⟨va, vb, vc, e, h1.rd, h2.rd, h3.rd⟩
theorem OwnR.up {lo hi : Nat} {w w' : World} {v : Value} {r : RowsD} {B : Nat} (h : OwnR lo hi w v r) (hb : Below B w w') (hB : w.heap.size ≤ B) : OwnR lo hi w' v r := by
  obtain ⟨va, vb, vc, e, h1, h2, h3, h4⟩ := h
  exact ⟨va, vb, vc, e, h1.up hb hB, h2.up hb hB, h3.up hb hB, h4⟩
theorem OwnR.wide {lo hi lo' hi' : Nat} {w : World} {v : Value} {r : RowsD} (h : OwnR lo hi w v r) (a : lo' ≤ lo) (b : hi ≤ hi') : OwnR lo' hi' w v r := by
  obtain ⟨va, vb, vc, e, h1, h2, h3, h4⟩ := h
  exact ⟨va, vb, vc, e, h1.wide a b, h2.wide a b, h3.wide a b, h4⟩
theorem OwnR.kept {lo hi : Nat} {w w' : World} {v : Value} {r : RowsD} {S : Nat → Prop} (h : OwnR lo hi w v r) (hk : Kept S w w') (hs : ∀ b, lo ≤ b → b < hi → ¬ S b) : OwnR lo hi w' v r := by
  obtain ⟨va, vb, vc, e, h1, h2, h3, h4⟩ := h
  exact ⟨va, vb, vc, e, h1.kept hk hs, h2.kept hk hs, h3.kept hk hs, h4⟩

set_option maxHeartbeats 1000000 in
theorem szR_any (v : Value) (r : RowsD) (left : Int) (w : World) (h : RdR w v r) (h1 : left ≤ 1048576) (h0 : 0 ≤ left) :
    Calls Try.prog 44 #[v, .int .i64 left] w fun e w' => ∃ s : Int, e = .returned (.int .i64 s) ∧ -1 ≤ s ∧ s ≤ left ∧ (0 ≤ s → (bulkR r : Int) ≤ left - s) ∧ Below w.heap.size w w' := by
  obtain ⟨a1, c1, a2, c2, a3, c3, rfl⟩ := h.shape
  obtain ⟨p1, p2, p3⟩ := h.parts
  obtain ⟨n0, x1, x2, x3⟩ := r
  simp only [bulkR] at p1 p2 p3 ⊢
  have P1 := Lib.hid p1
  have P2 := Lib.hid p2
  have P3 := Lib.hid p3
  clear h p1 p2 p3
  go_enter Try.func44, Try.ntmps44
  go_wp2_with fail
  refine Calls.at fun W hW => ?_
  have HB := Lib.hid (show Below w.heap.size w W by subst hW; (repeat' first | exact Below.refl _ _ | assumption | refine Below.alloc ?_ ?_ _ | refine Below.setCell ?_ ?_ _ | refine Below.drew ?_ | (simp; done) | (simp; omega)))
  have HK := Lib.hid (show Blk W w.heap.size 62 #[.int .i64 n0, .slice a1 x1.length c1, .slice a2 x2.length c2, .slice a3 x3.length c3] by subst hW; exact Blk.new _ _ _)
  clear hW
  refine (szF_any _ x1 left W (P1.out.up HB.out (Nat.le_refl _)) (by omega) (by omega)).mono ?_
  rintro e w1 ⟨s1, rfl, sa1, sb1, sc1, hb1⟩
  have HB1 := Lib.hid (HB.out.trans (hb1.mono HB.out.size))
  have HK1 := Lib.hid (HK.out.below hb1 HK.out.lt)
  clear hb1
  unfold bulkF at sc1
  by_cases hn1 : s1 < 0
  · go_wp2_with fail
    go_ret
    exact ⟨-1, rfl, by omega, by omega, by omega, HB1.out⟩
  have d2 : w1.cell? ⟨w.heap.size, 2, none⟩ = some (.slice a2 x2.length c2) := HK1.out.cell 2 rfl
  go_wp2_with fail
  refine (szF_any _ x2 s1 w1 (P2.out.up HB1.out (Nat.le_refl _)) (by omega) (by omega)).mono ?_
  rintro e w2 ⟨s2, rfl, sa2, sb2, sc2, hb2⟩
  have HB2 := Lib.hid (HB1.out.trans (hb2.mono HB1.out.size))
  have HK2 := Lib.hid (HK1.out.below hb2 HK1.out.lt)
  clear hb2
  unfold bulkF at sc2
  by_cases hn2 : s2 < 0
  · go_wp2_with fail
    go_ret
    exact ⟨-1, rfl, by omega, by omega, by omega, HB2.out⟩
  have d3 : w2.cell? ⟨w.heap.size, 3, none⟩ = some (.slice a3 x3.length c3) := HK2.out.cell 3 rfl
  go_wp2_with fail
  refine (szF_any _ x3 s2 w2 (P3.out.up HB2.out (Nat.le_refl _)) (by omega) (by omega)).mono ?_
  rintro e w3 ⟨s3, rfl, sa3, sb3, sc3, hb3⟩
  have HB3 := Lib.hid (HB2.out.trans (hb3.mono HB2.out.size))
  have HK3 := Lib.hid (HK2.out.below hb3 HK2.out.lt)
  clear hb3
  unfold bulkF at sc3
  by_cases hn3 : s3 < 0
  · go_wp2_with fail
    go_ret
    exact ⟨-1, rfl, by omega, by omega, by omega, HB3.out⟩
  go_wp2_with fail
  go_ret
  exact ⟨s3, rfl, by omega, by omega, by omega, HB3.out⟩

set_option maxHeartbeats 2000000 in
theorem toR_any (v : Value) (r : RowsD) (w : World) (h : RdR w v r) (hb : bulkR r ≤ 1048576) :
    Calls Try.prog 46 #[v] w fun e w' => ∃ v', e = .returned v' ∧ OwnR w.heap.size w'.heap.size w' v' r ∧ Below w.heap.size w w' := by
  obtain ⟨a1, c1, a2, c2, a3, c3, rfl⟩ := h.shape
  obtain ⟨p1, p2, p3⟩ := h.parts
  obtain ⟨n0, x1, x2, x3⟩ := r
  simp only [bulkR] at p1 p2 p3 hb ⊢
  have P1 := Lib.hid p1
  have P2 := Lib.hid p2
  have P3 := Lib.hid p3
  have L1 : Hid (bulkF x1 ≤ 1048576) := by show bulkF x1 ≤ _; unfold bulkF; omega
  have L2 : Hid (bulkF x2 ≤ 1048576) := by show bulkF x2 ≤ _; unfold bulkF; omega
  have L3 : Hid (bulkF x3 ≤ 1048576) := by show bulkF x3 ≤ _; unfold bulkF; omega
  clear h p1 p2 p3 hb
  go_enter Try.func46, Try.ntmps46
  go_wp2_with fail
  refine Calls.at fun W1 hW => ?_
  have hb1 : Below w.heap.size w W1 := by subst hW; (repeat' first | exact Below.refl _ _ | assumption | refine Below.alloc ?_ ?_ _ | refine Below.setCell ?_ ?_ _ | refine Below.drew ?_ | (simp; done) | (simp; omega))
  have hk1 : Blk W1 (w.heap.size + 2) 67 #[.int .i64 n0, .slice none 0 0, .slice none 0 0, .slice none 0 0] := by subst hW; simpa using Blk.new ((w.alloc (.cells #[.int .i64 n0, .slice a1 x1.length c1, .slice a2 x2.length c2, .slice a3 x3.length c3] 62)).alloc (.cells #[.int .i64 0, .slice none 0 0, .slice none 0 0, .slice none 0 0] 67)) 67 #[.int .i64 n0, .slice none 0 0, .slice none 0 0, .slice none 0 0]
  have hk2 : Blk W1 w.heap.size 62 #[.int .i64 n0, .slice a1 x1.length c1, .slice a2 x2.length c2, .slice a3 x3.length c3] := by subst hW; exact ((Blk.new w _ _).alloc _).alloc _
  have hk3 : Blk W1 (w.heap.size + 1) 67 #[.int .i64 0, .slice none 0 0, .slice none 0 0, .slice none 0 0] := by subst hW; simpa using (Blk.new (w.alloc (.cells #[.int .i64 n0, .slice a1 x1.length c1, .slice a2 x2.length c2, .slice a3 x3.length c3] 62)) 67 #[.int .i64 0, .slice none 0 0, .slice none 0 0, .slice none 0 0]).alloc (.cells #[.int .i64 n0, .slice none 0 0, .slice none 0 0, .slice none 0 0] 67)
  have hz1 := hk1.lt
  clear hW
  refine (toF_any _ x1 W1 (P1.out.up hb1 (Nat.le_refl _)) L1.out).mono ?_
  rintro e w1 ⟨y1, rfl, ho1, hbb⟩
  obtain ⟨b1, e1, rfl⟩ := ho1.rd.shape
  have zz1 := hbb.size
  have HB1 := Lib.hid (hb1.trans (hbb.mono hb1.size))
  have HK1 := Lib.hid (hk1.below hbb hk1.lt)
  have HK2 := Lib.hid (hk2.below hbb hk2.lt)
  have HK3 := Lib.hid (hk3.below hbb hk3.lt)
  have O1 := Lib.hid (ho1)
  have c0 : w1.cell? ⟨w.heap.size + 2, 1, none⟩ = some (.slice none 0 0) := HK1.out.cell 1 rfl
  have f0 := HK1.out.free 1
  have d1 : w1.cell? ⟨w.heap.size, 2, none⟩ = some (.slice a2 x2.length c2) := HK2.out.cell 2 rfl
  clear hb1 hbb hk1 hk2 hk3 ho1
  go_wp2_with fail
  refine Calls.at fun W2 hW => ?_
  have z2 : W2.heap.size = w1.heap.size := by subst hW; simp
  have hb2 : Below w.heap.size w W2 := by subst hW; exact HB1.out.setCell (by first | (simp; done) | (simp; omega)) _
  have hk1 : Blk W2 (w.heap.size + 2) 67 #[.int .i64 n0, .slice b1 x1.length e1, .slice none 0 0, .slice none 0 0] := by subst hW; exact HK1.out.set 1 _
  have hk2 : Blk W2 w.heap.size 62 #[.int .i64 n0, .slice a1 x1.length c1, .slice a2 x2.length c2, .slice a3 x3.length c3] := by subst hW; exact HK2.out.other (by first | (simp; done) | (simp; omega)) _
  have hk3 : Blk W2 (w.heap.size + 1) 67 #[.int .i64 0, .slice none 0 0, .slice none 0 0, .slice none 0 0] := by subst hW; exact HK3.out.other (by first | (simp; done) | (simp; omega)) _
  have hks : Kept (· = w.heap.size + 2) w1 W2 := by subst hW; exact Kept.setCell (S := (· = w.heap.size + 2)) (p := ⟨w.heap.size + 1 + 1, 1, none⟩) (Kept.refl _ _) (.inr rfl) _
  have ho1 := O1.out.kept hks (by intro b h1 h2 h3; omega)
  clear hW hks c0 f0 d1 HB1 HK1 HK2 HK3 O1
  refine (toF_any _ x2 W2 (P2.out.up hb2 (Nat.le_refl _)) L2.out).mono ?_
  rintro e w2 ⟨y2, rfl, ho2, hbb⟩
  obtain ⟨b2, e2, rfl⟩ := ho2.rd.shape
  have zz2 := hbb.size
  have HB2 := Lib.hid (hb2.trans (hbb.mono hb2.size))
  have HK1 := Lib.hid (hk1.below hbb hk1.lt)
  have HK2 := Lib.hid (hk2.below hbb hk2.lt)
  have HK3 := Lib.hid (hk3.below hbb hk3.lt)
  have O1 := Lib.hid (ho1.up hbb (Nat.le_refl _))
  have O2 := Lib.hid (ho2)
  have c0 : w2.cell? ⟨w.heap.size + 2, 2, none⟩ = some (.slice none 0 0) := HK1.out.cell 2 rfl
  have f0 := HK1.out.free 2
  have d1 : w2.cell? ⟨w.heap.size, 3, none⟩ = some (.slice a3 x3.length c3) := HK2.out.cell 3 rfl
  clear hb2 hbb hk1 hk2 hk3 ho1 ho2
  go_wp2_with fail
  refine Calls.at fun W3 hW => ?_
  have z3 : W3.heap.size = w2.heap.size := by subst hW; simp
  have hb3 : Below w.heap.size w W3 := by subst hW; exact HB2.out.setCell (by first | (simp; done) | (simp; omega)) _
  have hk1 : Blk W3 (w.heap.size + 2) 67 #[.int .i64 n0, .slice b1 x1.length e1, .slice b2 x2.length e2, .slice none 0 0] := by subst hW; exact HK1.out.set 2 _
  have hk2 : Blk W3 w.heap.size 62 #[.int .i64 n0, .slice a1 x1.length c1, .slice a2 x2.length c2, .slice a3 x3.length c3] := by subst hW; exact HK2.out.other (by first | (simp; done) | (simp; omega)) _
  have hk3 : Blk W3 (w.heap.size + 1) 67 #[.int .i64 0, .slice none 0 0, .slice none 0 0, .slice none 0 0] := by subst hW; exact HK3.out.other (by first | (simp; done) | (simp; omega)) _
  have hks : Kept (· = w.heap.size + 2) w2 W3 := by subst hW; exact Kept.setCell (S := (· = w.heap.size + 2)) (p := ⟨w.heap.size + 1 + 1, 2, none⟩) (Kept.refl _ _) (.inr rfl) _
  have ho1 := O1.out.kept hks (by intro b h1 h2 h3; omega)
  have ho2 := O2.out.kept hks (by intro b h1 h2 h3; omega)
  clear hW hks c0 f0 d1 HB2 HK1 HK2 HK3 O1 O2
  refine (toF_any _ x3 W3 (P3.out.up hb3 (Nat.le_refl _)) L3.out).mono ?_
  rintro e w3 ⟨y3, rfl, ho3, hbb⟩
  obtain ⟨b3, e3, rfl⟩ := ho3.rd.shape
  have zz3 := hbb.size
  have HB3 := Lib.hid (hb3.trans (hbb.mono hb3.size))
  have HK1 := Lib.hid (hk1.below hbb hk1.lt)
  have HK2 := Lib.hid (hk2.below hbb hk2.lt)
  have HK3 := Lib.hid (hk3.below hbb hk3.lt)
  have O1 := Lib.hid (ho1.up hbb (Nat.le_refl _))
  have O2 := Lib.hid (ho2.up hbb (Nat.le_refl _))
  have O3 := Lib.hid (ho3)
  have c0 : w3.cell? ⟨w.heap.size + 2, 3, none⟩ = some (.slice none 0 0) := HK1.out.cell 3 rfl
  have f0 := HK1.out.free 3
  clear hb3 hbb hk1 hk2 hk3 ho1 ho2 ho3
  have g0 : w3.cell? ⟨w.heap.size + 2, 0, none⟩ = some (.int .i64 n0) := HK1.out.cell 0 rfl
  have g1 : w3.cell? ⟨w.heap.size + 2, 1, none⟩ = some (.slice b1 x1.length e1) := HK1.out.cell 1 rfl
  have g2 : w3.cell? ⟨w.heap.size + 2, 2, none⟩ = some (.slice b2 x2.length e2) := HK1.out.cell 2 rfl
  have h0 : w3.cell? ⟨w.heap.size + 1, 0, none⟩ = some (.int .i64 0) := HK3.out.cell 0 rfl
  have h1 : w3.cell? ⟨w.heap.size + 1, 1, none⟩ = some (.slice none 0 0) := HK3.out.cell 1 rfl
  have h2 : w3.cell? ⟨w.heap.size + 1, 2, none⟩ = some (.slice none 0 0) := HK3.out.cell 2 rfl
  have h3 : w3.cell? ⟨w.heap.size + 1, 3, none⟩ = some (.slice none 0 0) := HK3.out.cell 3 rfl
  have i0 := HK3.out.free 0
  have i1 := HK3.out.free 1
  have i2 := HK3.out.free 2
  have i3 := HK3.out.free 3
  go_wp2_with fail
  refine bodyPost_ret (v := .agg #[.int .i64 n0, .slice b1 x1.length e1, .slice b2 x2.length e2, .slice b3 x3.length e3]) (by simp [results, Try.results46, go_sem, *]) rfl ?_
  have wx : ∀ Wf, Kept (fun b => b = w.heap.size + 1 ∨ b = w.heap.size + 2) w3 Wf → Wf.heap.size = w3.heap.size → ∃ v', Ending.returned (.agg #[.int .i64 n0, .slice b1 x1.length e1, .slice b2 x2.length e2, .slice b3 x3.length e3]) = Ending.returned v' ∧ OwnR w.heap.size Wf.heap.size Wf v' ⟨n0, x1, x2, x3⟩ ∧ Below w.heap.size w Wf := by
    intro Wf hk hz
    have k1 := (O1.out.kept hk (by intro b h1 h2 h3; omega)).wide (lo' := w.heap.size) (hi' := Wf.heap.size) (by omega) (by omega)
    have k2 := (O2.out.kept hk (by intro b h1 h2 h3; omega)).wide (lo' := w.heap.size) (hi' := Wf.heap.size) (by omega) (by omega)
    have k3 := (O3.out.kept hk (by intro b h1 h2 h3; omega)).wide (lo' := w.heap.size) (hi' := Wf.heap.size) (by omega) (by omega)
    refine ⟨_, rfl, ⟨_, _, _, rfl, k1, k2, k3, ?_, ?_, ?_⟩, HB3.out.trans (hk.toBelow HB3.out.size (by intro k h1 h2; omega))⟩
    · intro g q1 q2; have := O1.out.blk q1; have := O2.out.blk q2; omega
    · intro g q1 q2; have := O1.out.blk q1; have := O3.out.blk q2; omega
    · intro g q1 q2; have := O2.out.blk q1; have := O3.out.blk q2; omega
  refine wx _ ?_ (by simp)
  repeat' first | exact Kept.refl _ _ | refine Kept.setCell ?_ (.inr (by simp)) _

set_option maxHeartbeats 1000000 in
theorem eqR_same (v v' : Value) (r : RowsD) (w : World) (h : RdR w v r) (h' : RdR w v' r) :
    Calls Try.prog 49 #[v, v'] w fun e w' => e = .returned (.bool true) ∧ Below w.heap.size w w' := by
  obtain ⟨a1, c1, a2, c2, a3, c3, rfl⟩ := h.shape
  obtain ⟨b1, e1, b2, e2, b3, e3, rfl⟩ := h'.shape
  obtain ⟨p1, p2, p3⟩ := h.parts
  obtain ⟨q1, q2, q3⟩ := h'.parts
  obtain ⟨n0, x1, x2, x3⟩ := r
  simp only at p1 p2 p3 q1 q2 q3 ⊢
  have hne : (n0 != n0) = false := by simp
  have P1 := Lib.hid p1
  have P2 := Lib.hid p2
  have P3 := Lib.hid p3
  have Q1 := Lib.hid q1
  have Q2 := Lib.hid q2
  have Q3 := Lib.hid q3
  clear h h' p1 p2 p3 q1 q2 q3
  go_enter Try.func49, Try.ntmps49
  go_wp2_with fail
  refine Calls.at fun W hW => ?_
  have HB := Lib.hid (show Below w.heap.size w W by subst hW; (repeat' first | exact Below.refl _ _ | assumption | refine Below.alloc ?_ ?_ _ | refine Below.setCell ?_ ?_ _ | refine Below.drew ?_ | (simp; done) | (simp; omega)))
  have HK := Lib.hid (show Blk W w.heap.size 67 #[.int .i64 n0, .slice a1 x1.length c1, .slice a2 x2.length c2, .slice a3 x3.length c3] by subst hW; exact (Blk.new _ _ _).alloc _)
  have HL := Lib.hid (show Blk W (w.heap.size + 1) 67 #[.int .i64 n0, .slice b1 x1.length e1, .slice b2 x2.length e2, .slice b3 x3.length e3] by subst hW; simpa using Blk.new (w.alloc (.cells #[.int .i64 n0, .slice a1 x1.length c1, .slice a2 x2.length c2, .slice a3 x3.length c3] 67)) 67 #[.int .i64 n0, .slice b1 x1.length e1, .slice b2 x2.length e2, .slice b3 x3.length e3])
  clear hW
  refine (eqF_same _ _ x1 W (P1.out.up HB.out (Nat.le_refl _)) (Q1.out.up HB.out (Nat.le_refl _))).mono ?_
  rintro e w1 ⟨rfl, hb1⟩
  have HB1 := Lib.hid (HB.out.trans (hb1.mono HB.out.size))
  have HK1 := Lib.hid (HK.out.below hb1 HK.out.lt)
  have HL1 := Lib.hid (HL.out.below hb1 HL.out.lt)
  clear hb1
  have d2 : w1.cell? ⟨w.heap.size, 2, none⟩ = some (.slice a2 x2.length c2) := HK1.out.cell 2 rfl
  have g2 : w1.cell? ⟨w.heap.size + 1, 2, none⟩ = some (.slice b2 x2.length e2) := HL1.out.cell 2 rfl
  go_wp2_with fail
  refine (eqF_same _ _ x2 w1 (P2.out.up HB1.out (Nat.le_refl _)) (Q2.out.up HB1.out (Nat.le_refl _))).mono ?_
  rintro e w2 ⟨rfl, hb2⟩
  have HB2 := Lib.hid (HB1.out.trans (hb2.mono HB1.out.size))
  have HK2 := Lib.hid (HK1.out.below hb2 HK1.out.lt)
  have HL2 := Lib.hid (HL1.out.below hb2 HL1.out.lt)
  clear hb2
  have d3 : w2.cell? ⟨w.heap.size, 3, none⟩ = some (.slice a3 x3.length c3) := HK2.out.cell 3 rfl
  have g3 : w2.cell? ⟨w.heap.size + 1, 3, none⟩ = some (.slice b3 x3.length e3) := HL2.out.cell 3 rfl
  go_wp2_with fail
  refine (eqF_same _ _ x3 w2 (P3.out.up HB2.out (Nat.le_refl _)) (Q3.out.up HB2.out (Nat.le_refl _))).mono ?_
  rintro e w3 ⟨rfl, hb3⟩
  have HB3 := Lib.hid (HB2.out.trans (hb3.mono HB2.out.size))
  have HK3 := Lib.hid (HK2.out.below hb3 HK2.out.lt)
  have HL3 := Lib.hid (HL2.out.below hb3 HL2.out.lt)
  clear hb3
  go_wp2_with fail
  go_ret
  exact ⟨rfl, HB3.out⟩

def mkdR (k : Int) (r : RowsD) : RowsD := ⟨r.vars, mkF k r.nums.length, mkF (k + r.nums.length) r.bnds.length, mkF (k + r.nums.length + r.bnds.length) r.gains.length⟩

theorem keptF {lo hi : Nat} {w w' : World} {v u : Value} {xs : List Nat} (h : OwnF lo hi w v xs) (hk : Kept (fun b => u.ownBlock = some b) w w') (hn : ∀ g, v.ownBlock = some g → u.ownBlock ≠ some g) : OwnF lo hi w' v xs :=
  ⟨owns_kept h.1 hk hn, h.2⟩

end Go.Proofs.Ytkfiepiipigcmaa
