/-
  FnMachines: texts joined: AbsF, LeftI, LeftS, Quo, TabM, TabI, TabV.
-/
import Derived.Laws.BitsAllLaws
import Derived.Deep.RegionLaw
import Derived.BigQuiet
import Derived.Test.YtfdaifmfecfchaaMFnMachinesAC
import Derived.Test.YtfdaifmfecfchaaMFnMachinesAG
import Derived.Test.YtfdaifmfecfchaaMFnMachinesAH
namespace Go.Proofs.Ytfdaifmfecfchaa
open Go.RowKit

def abs32 (x : Nat) : Nat := x % 2147483648

theorem read32_parts {x : Nat} (h : fin32 x = true) : ∃ s m e, Ieee.single.read x = .number s m e ∧ s = (x / 2147483648 % 2 == 1) ∧ m < 16777216 ∧ -149 ≤ e ∧ e ≤ 104 ∧ abs32 x < 2139095040 ∧ (e + 149).toNat * 8388608 + m = abs32 x ∧ (m < 8388608 → e = -149) := by
  unfold fin32 at h
  unfold Ieee.Format.read at h ⊢
  unfold abs32
  have c1 : Ieee.single.signWeight = 2147483648 := rfl
  have c2 : Ieee.single.binade = 8388608 := rfl
  have c3 : Ieee.single.infRung = 2139095040 := rfl
  have c4 : Ieee.single.leastPlace = -149 := by decide +kernel
  simp only [c1, c2, c3, c4] at h ⊢
  by_cases h1 : x % 2147483648 < 8388608
  · rw [if_pos h1]
    exact ⟨_, _, _, rfl, rfl, by omega, by omega, by omega, by omega, by omega, by omega⟩
  · rw [if_neg h1] at h ⊢
    by_cases h2 : x % 2147483648 < 2139095040
    · rw [if_pos h2]
      exact ⟨_, _, _, rfl, rfl, by omega, by omega, by omega, h2, by omega, by omega⟩
    · rw [if_neg h2] at h
      by_cases h3 : x % 2147483648 = 2139095040
      · rw [if_pos h3] at h; simp at h
      · rw [if_neg h3] at h; simp at h

theorem log2_shift (m a : Nat) (h : m ≠ 0) : (m <<< a).log2 = m.log2 + a := by
  rw [Nat.shiftLeft_eq]
  have h1 := Nat.lt_log2_self (n := m)
  have h2 := Nat.log2_self_le h
  have hp := Nat.two_pow_pos a
  refine (Nat.log2_eq_iff (by have := Nat.mul_pos (by omega : 0 < m) hp; omega)).2 ⟨?_, ?_⟩
  · rw [Nat.pow_add]; exact Nat.mul_le_mul_right _ h2
  · rw [show m.log2 + a + 1 = (m.log2 + 1) + a by omega, Nat.pow_add]; exact Nat.mul_lt_mul_of_pos_right h1 hp

theorem cut_back (t : Bool) (m a : Nat) (h : m ≠ 0) : Ieee.Toward.even.cut t (m <<< a) a = m := by
  unfold Ieee.Toward.cut
  rw [log2_shift m a h, show min a (m.log2 + a + 2) = a by omega]
  have hp := Nat.two_pow_pos a
  simp only [Nat.shiftLeft_eq, Nat.one_mul, Nat.mul_mod_left, Nat.mul_div_left _ hp]
  have e1 : decide (2 ^ a < 2 * 0) = false := by simp
  have e2 : (2 ^ a == 2 * 0) = false := by simp
  simp [e1, e2]

/-- What is read is written back, at any place. -/
theorem nearest_back {x : Nat} (hx : fin32 x = true) {s : Bool} {m : Nat} {e : Int} (hr : Ieee.single.read x = .number s m e) (t : Bool) (a : Nat) (e' : Int) (he : e' = e - a) :
    Ieee.single.nearest t (m <<< a) e' = Ieee.single.word t (abs32 x) := by
  obtain ⟨s', m', e2, h0, h1, h2, h3, h4, h5, h6, h7⟩ := read32_parts hx
  rw [hr] at h0
  cases h0
  unfold Ieee.Format.nearest
  by_cases hm : m = 0
  · subst hm
    rw [if_pos (by simp)]
    have : abs32 x = 0 := by have := h7 (by omega); omega
    rw [this]
  have hm' : m <<< a ≠ 0 := by rw [Nat.shiftLeft_eq]; have := Nat.mul_pos (show 0 < m by omega) (Nat.two_pow_pos a); omega
  rw [if_neg hm', log2_shift m a hm]
  have c2 : Ieee.single.binade = 8388608 := rfl
  have c3 : Ieee.single.infRung = 2139095040 := rfl
  have c4 : Ieee.single.leastPlace = -149 := by decide +kernel
  have c5 : Ieee.single.fractionBits = 23 := rfl
  have hl : max (e' + ((m.log2 + a : Nat) : Int) - (23 : Nat)) (-149) = e := by
    by_cases hs : m < 8388608
    · have h8 := h7 hs
      have : m.log2 < 23 := (Nat.log2_lt hm).2 (by omega)
      omega
    · have g1 : m.log2 < 24 := (Nat.log2_lt hm).2 (by omega)
      have g2 : ¬ m.log2 < 23 := fun h => by have := (Nat.log2_lt hm).1 h; omega
      omega
  simp only [c2, c3, c4, c5, hl]
  rw [show (e' - e).toNat = 0 by omega, show (e - e').toNat = a by omega, Nat.shiftLeft_zero, cut_back t m a hm]
  rw [show (e - -149).toNat = (e + 149).toNat by omega, h6, Nat.min_eq_left (by omega)]

theorem cut64 (s : Bool) (K : Nat) : Ieee.Toward.even.cut s K 0 = K := by
  unfold Ieee.Toward.cut
  simp [Nat.mod_one]
/-- Of double precision: what was a number of single precision. -/
theorem double_of {s : Bool} {m : Nat} {e : Int} (hm : m < 16777216) (h1 : -149 ≤ e) (h2 : e ≤ 104) :
    ∃ r a e', r < 9218868437227405312 ∧ Ieee.double.nearest s m e = Ieee.double.word s r ∧ Ieee.double.read r = .number false (m <<< a) e' ∧ (m ≠ 0 → e' = e - a) := by
  unfold Ieee.Format.nearest
  have c1 : Ieee.double.signWeight = 9223372036854775808 := rfl
  have c2 : Ieee.double.binade = 4503599627370496 := rfl
  have c3 : Ieee.double.infRung = 9218868437227405312 := rfl
  have c4 : Ieee.double.leastPlace = -1074 := by decide +kernel
  have c5 : Ieee.double.fractionBits = 52 := rfl
  by_cases h0 : m = 0
  · rw [if_pos h0]
    refine ⟨0, 0, -1074, by decide, rfl, ?_, fun h => absurd h0 h⟩
    subst h0
    decide +kernel
  · rw [if_neg h0]
    have hl : m.log2 ≤ 23 := by
      have : m.log2 < 24 := (Nat.log2_lt h0).2 (by omega)
      omega
    have hlt : m < 2 ^ (m.log2 + 1) := Nat.lt_log2_self
    have hge : 2 ^ m.log2 ≤ m := Nat.log2_self_le h0
    have hlast : max (e + (m.log2 : Int) - (52 : Nat)) (-1074) = e + m.log2 - 52 := by omega
    simp only [c2, c3, c4, c5, hlast]
    have ha : (e - (e + (m.log2 : Int) - 52)).toNat = 52 - m.log2 := by omega
    have hb : (e + (m.log2 : Int) - 52 - e).toNat = 0 := by omega
    rw [ha, hb]
    have hk : m <<< (52 - m.log2) < 9007199254740992 := by
      rw [Nat.shiftLeft_eq]
      have : m * 2 ^ (52 - m.log2) < 2 ^ (m.log2 + 1) * 2 ^ (52 - m.log2) := Nat.mul_lt_mul_of_pos_right hlt (Nat.two_pow_pos _)
      rw [← Nat.pow_add, show m.log2 + 1 + (52 - m.log2) = 53 by omega] at this
      exact this
    have hk2 : 4503599627370496 ≤ m <<< (52 - m.log2) := by
      rw [Nat.shiftLeft_eq]
      have : 2 ^ m.log2 * 2 ^ (52 - m.log2) ≤ m * 2 ^ (52 - m.log2) := Nat.mul_le_mul_right _ hge
      rw [← Nat.pow_add, show m.log2 + (52 - m.log2) = 52 by omega] at this
      exact this
    rw [cut64]
    obtain ⟨K, hK⟩ : ∃ K, K = m <<< (52 - m.log2) := ⟨_, rfl⟩
    rw [← hK] at hk hk2 ⊢
    obtain ⟨Q, hQ⟩ : ∃ Q, Q = (e + (m.log2 : Int) - 52 - -1074).toNat := ⟨_, rfl⟩
    rw [← hQ]
    have hQ1 : Q ≤ 1149 := by omega
    have hQ2 : (Q : Int) = e + m.log2 + 1022 := by omega
    have hlt2 : Q * 4503599627370496 + K < 9218868437227405312 := by
      have := near_aux Q K hQ1 hk
      omega
    rw [Nat.min_eq_left (by omega)]
    refine ⟨_, 52 - m.log2, e + m.log2 - 52, hlt2, rfl, ?_, fun _ => by omega⟩
    unfold Ieee.Format.read
    simp only [c1, c2, c3, c4]
    have q1 : (Q * 4503599627370496 + K) / 9223372036854775808 % 2 = 0 := by omega
    have q2 : (Q * 4503599627370496 + K) % 9223372036854775808 = Q * 4503599627370496 + K := by omega
    rw [q1, q2, if_neg (by omega), if_pos hlt2, ← hK]
    have q3 : (Q * 4503599627370496 + K) % 4503599627370496 = K - 4503599627370496 := by omega
    have q4 : (Q * 4503599627370496 + K) / 4503599627370496 = Q + 1 := by omega
    rw [q3, q4, show 4503599627370496 + (K - 4503599627370496) = K by omega, show (-1074 : Int) + ((Q + 1 - 1 : Nat) : Int) = e + m.log2 - 52 by omega]
    rfl

theorem andNot_top (s : Bool) (r : Nat) (h : r < 9218868437227405312) : bits .andNot .u64 ((Ieee.double.word s r : Nat) : Int) 9223372036854775808 = (r : Int) := by
  have c1 : Ieee.double.signWeight = 9223372036854775808 := rfl
  have hw : Ieee.double.word s r < 18446744073709551616 := by unfold Ieee.Format.word; rw [c1]; split <;> omega
  have h2 := u64_andNot_nat (Ieee.double.word s r) 9223372036854775808 hw (by omega)
  rw [show ((9223372036854775808 : Nat) : Int) = 9223372036854775808 from rfl] at h2
  rw [h2, show 18446744073709551615 - 9223372036854775808 = 2 ^ 63 - 1 from rfl, Nat.and_two_pow_sub_one_eq_mod]
  unfold Ieee.Format.word
  rw [c1]
  congr 1
  split <;> omega

theorem conv_up {x : Nat} (hx : fin32 x = true) : ∃ s r a m e e', r < 9218868437227405312 ∧ floatToFloatBits .f32 x .f64 = some (Ieee.double.word s r) ∧ Ieee.single.read x = .number s m e ∧ Ieee.double.read r = .number false (m <<< a) e' ∧ (m ≠ 0 → e' = e - a) := by
  obtain ⟨s, m, e, h0, h1, h2, h3, h4, h5, h6, h7⟩ := read32_parts hx
  obtain ⟨r, a, e', b1, b2, b3, b4⟩ := double_of (s := s) h2 h3 h4
  refine ⟨s, r, a, m, e, e', b1, ?_, h0, b3, b4⟩
  unfold floatToFloatBits
  rw [if_neg (by decide), show FloatKind.f32.decode x = Ieee.single.read x from rfl, h0]
  have b5 : FloatKind.f64.encode (.number s m e) = Ieee.double.word s r := b2
  have b6 := read_word64 s r b1
  simp only [b5]
  rw [if_neg (by rw [show FloatKind.f64.decode (Ieee.double.word s r) = Ieee.double.read (Ieee.double.word s r) from rfl, b6.2]; simp)]

theorem abs_fin {x : Nat} (hx : fin32 x = true) : fin32 (abs32 x) = true := by
  obtain ⟨s, m, e, h0, h1, h2, h3, h4, h5, h6, h7⟩ := read32_parts hx
  unfold fin32 Ieee.Format.read
  have c1 : Ieee.single.signWeight = 2147483648 := rfl
  have c2 : Ieee.single.binade = 8388608 := rfl
  have c3 : Ieee.single.infRung = 2139095040 := rfl
  simp only [c1, c2, c3]
  have q : abs32 x % 2147483648 = abs32 x := by omega
  rw [q]
  by_cases h1 : abs32 x < 8388608
  · rw [if_pos h1]
  · rw [if_neg h1, if_pos h5]
theorem conv_down {x : Nat} (hx : fin32 x = true) {s : Bool} {m r a : Nat} {e e' : Int} (h0 : Ieee.single.read x = .number s m e) (h1 : Ieee.double.read r = .number false (m <<< a) e') (h2 : m ≠ 0 → e' = e - a) :
    floatToFloatBits .f64 r .f32 = some (abs32 x) := by
  unfold floatToFloatBits
  rw [if_neg (by decide), show FloatKind.f64.decode r = Ieee.double.read r from rfl, h1]
  have hn : Ieee.single.nearest false (m <<< a) e' = abs32 x := by
    by_cases hm : m = 0
    · obtain ⟨s', m', e2, g0, g1, g2, g3, g4, g5, g6, g7⟩ := read32_parts hx
      rw [h0] at g0
      cases g0
      subst hm
      have := g7 (by omega)
      unfold Ieee.Format.nearest
      rw [if_pos (by simp)]
      show 0 = abs32 x
      omega
    · have := nearest_back hx h0 false a e' (h2 hm)
      rw [this]; rfl
  have b5 : FloatKind.f32.encode (.number false (m <<< a) e') = abs32 x := hn
  simp only [b5]
  have hf := abs_fin hx
  have : (FloatKind.f32.decode (abs32 x)).isInfinity = false := by
    show (Ieee.single.read (abs32 x)).isInfinity = false
    unfold fin32 at hf
    cases h : Ieee.single.read (abs32 x) with
    | number => rfl
    | infinity => rw [h] at hf; simp at hf
    | nan => rw [h] at hf; simp at hf
  rw [if_neg (by rw [this]; simp)]

end Go.Proofs.Ytfdaifmfecfchaa

namespace Go.Proofs.Ytfdaifmfecfchaa
open Go.RowKit

/-- The post of what returns a list and whether there is one. -/
def ListPost (q : Bool) (L : List Nat) (B : Nat) (w : World) (e : Ending) (w' : World) : Prop := ∃ v, e = .returned (.tuple #[v, .bool q]) ∧ RdF w' v L ∧ Below B w w'

theorem left_all {r : RowsD} {x ys : List Nat} (hl : ys.length = r.bnds.length) (h : ∀ j, j < r.bnds.length → Mt (leftO r x j) (ys.getD j 0)) : allFin ys = (List.range r.bnds.length).all fun i => finO (leftO r x i) := by
  rw [Bool.eq_iff_iff]
  constructor
  · intro ha
    rw [List.all_eq_true]
    intro i hi
    have hi' := List.mem_range.1 hi
    rw [← (h i hi').fin]
    exact allFin_get ha (by omega)
  · intro ha
    rw [List.all_eq_true] at ha
    refine allFin_yes fun i hi => ?_
    rw [(h i (by omega)).fin]
    exact ha i (List.mem_range.2 (by omega))
theorem left_eq {r : RowsD} {x ys : List Nat} (hl : ys.length = r.bnds.length) (h : ∀ j, j < r.bnds.length → Mt (leftO r x j) (ys.getD j 0)) (ha : allFin ys = true) : ys = leftL r x := by
  apply List.ext_getElem?
  intro i
  unfold leftL
  by_cases hi : i < r.bnds.length
  · have h1 := h i hi
    have h2 := allFin_get ha (i := i) (by omega)
    rw [h1.fin] at h2
    have h3 : ys[i]? = some (ys.getD i 0) := by simp [show i < ys.length by omega]
    rw [h3]
    simp only [List.getElem?_map, List.getElem?_range hi, Option.map_some]
    cases ho : leftO r x i with
    | none => rw [ho] at h2; cases h2
    | some g => rw [ho] at h1; rw [h1.of_some]; rfl
  · rw [List.getElem?_eq_none (by omega), List.getElem?_eq_none (by simp; omega)]

theorem getD_snoc_lt (ys : List Nat) (q j : Nat) (h : j < ys.length) : (ys ++ [q]).getD j 0 = ys.getD j 0 := by
  rw [List.getD_eq_getElem?_getD, List.getD_eq_getElem?_getD, List.getElem?_append_left h]
theorem getD_snoc_eq (ys : List Nat) (q j : Nat) (h : j = ys.length) : (ys ++ [q]).getD j 0 = q := by
  subst h; rw [List.getD_eq_getElem?_getD]; simp

theorem run_sub_none' {P : Program} (t : TypeId) (x y : Nat) (h : Ieee.single.sub x y = none) (w : World) :
    (binOp .sub t (.float .f32 x) (.float .f32 y)).run P w = .ok (.float .f32 (tape32 (.nanBits .f32 x y) w)) w.drew := run_sub_none t x y h w

set_option maxHeartbeats 4000000 in
set_option maxRecDepth 4000 in
theorem implLeft_any (v : Value) (r : RowsD) (u : Value) (x : List Nat) (w : World) (h : RdR w v r) (hu : RdF w u x) :
    Calls Try.prog 73 #[v, u] w (ListPost (leftOk r x) (leftR r x) w.heap.size w) := by
  obtain ⟨a1, c1, a2, c2, a3, c3, rfl⟩ := h.shape
  obtain ⟨a, c, rfl⟩ := hu.shape
  obtain ⟨p1, p2, p3⟩ := h.parts
  have HP := Lib.hid h
  have HU := Lib.hid hu
  have H2 := Lib.hid p2
  obtain ⟨n0, x1, x2, x3⟩ := r
  simp only at HP H2 ⊢
  clear h hu p1 p2 p3
  go_enter Try.func73, Try.ntmps73
  go_wp2_with fail
  refine Calls.at fun W hW => ?_
  have hb := Lib.hid (show Below w.heap.size w W by subst hW; (repeat' first | exact Below.refl _ _ | assumption | refine Below.alloc ?_ ?_ _ | refine Below.setCell ?_ ?_ _ | refine Below.drew ?_ | (simp; done) | (simp; omega)))
  have hk := Lib.hid (show Blk W w.heap.size 61 #[.int .i64 n0, .slice a1 x1.length c1, .slice a2 x2.length c2, .slice a3 x3.length c3] by subst hW; exact Blk.new _ _ _)
  clear hW
  refine (ValidRows_any _ ⟨n0, x1, x2, x3⟩ W (HP.out.up hb.out (Nat.le_refl _))).mono ?_
  rintro e w1 ⟨rfl, hb1⟩
  have HB1 := Lib.hid (hb.out.trans (hb1.mono hb.out.size))
  have HK1 := Lib.hid (hk.out.below hb1 hk.out.lt)
  clear hb1 hb hk
  by_cases hv : validR ⟨n0, x1, x2, x3⟩ = true
  case neg =>
    rw [Bool.not_eq_true] at hv
    have HNO := Lib.hid (show leftOk ⟨n0, x1, x2, x3⟩ x = false by unfold leftOk fitX; rw [hv]; rfl)
    have HNV := Lib.hid (show leftR ⟨n0, x1, x2, x3⟩ x = [] by unfold leftR; rw [HNO.out]; rfl)
    rw [hv]
    clear hv
    go_wp2_with fail
    go_ret2
    exact ⟨.slice none 0 0, by rw [HNO.out]; rfl, by rw [HNV.out]; exact Slc.nil _, HB1.out⟩
  have HV := Lib.hid (validR_iff.1 hv)
  have HVB := Lib.hid hv
  rw [hv]
  clear hv
  have d0 : w1.cell? ⟨w.heap.size, 0, none⟩ = some (.int .i64 n0) := HK1.out.cell 0 rfl
  have d1 : w1.cell? ⟨w.heap.size, 1, none⟩ = some (.slice a1 x1.length c1) := HK1.out.cell 1 rfl
  have d2 : w1.cell? ⟨w.heap.size, 2, none⟩ = some (.slice a2 x2.length c2) := HK1.out.cell 2 rfl
  have d3 : w1.cell? ⟨w.heap.size, 3, none⟩ = some (.slice a3 x3.length c3) := HK1.out.cell 3 rfl
  go_wp2_with fail
  refine (isX_any _ ⟨n0, x1, x2, x3⟩ _ x w1 (HP.out.up HB1.out (Nat.le_refl _)) (HU.out.up HB1.out (Nat.le_refl _))).mono ?_
  rintro e w2 ⟨rfl, hb2⟩
  simp only
  have HB2 := Lib.hid (HB1.out.trans (hb2.mono HB1.out.size))
  have HK2 := Lib.hid (HK1.out.below hb2 HK1.out.lt)
  clear hb2 d0 d1 d2 d3
  by_cases hx : (((x.length : Int) == n0) && allFin x) = true
  case neg =>
    rw [Bool.not_eq_true] at hx
    have HNO := Lib.hid (show leftOk ⟨n0, x1, x2, x3⟩ x = false by unfold leftOk fitX; simp only [hx, Bool.and_false, Bool.false_and])
    have HNV := Lib.hid (show leftR ⟨n0, x1, x2, x3⟩ x = [] by unfold leftR; rw [HNO.out]; rfl)
    rw [hx]
    clear hx
    go_wp2_with fail
    go_ret2
    exact ⟨.slice none 0 0, by rw [HNO.out]; rfl, by rw [HNV.out]; exact Slc.nil _, HB2.out⟩
  have HFX := Lib.hid (show fitX ⟨n0, x1, x2, x3⟩ x = true by unfold fitX; rw [HVB.out]; exact hx)
  rw [hx]
  simp only [Bool.and_eq_true, beq_iff_eq] at hx
  have HX := Lib.hid hx
  have HXL := Lib.hid (show x3.length = x.length by have h1 := HV.out.gl; have h2 := hx.1; simp only at h1; omega)
  have hb8 : x2.length ≤ 8 := HV.out.b8
  clear hx
  have d2 : w2.cell? ⟨w.heap.size, 2, none⟩ = some (.slice a2 x2.length c2) := HK2.out.cell 2 rfl
  go_wp2_with fail
  go_loopw [6, 21] (fun out kk wr => ∃ (k : Nat) (b : Option Addr) (cap : Nat) (ys : List Nat), kk = .int .i64 k ∧ k ≤ x2.length ∧ out = .slice b k cap ∧ Hid (ys.length = k) ∧ Hid (∀ j, j < k → Mt (leftO ⟨n0, x1, x2, x3⟩ x j) (ys.getD j 0)) ∧ Hid (wr.ownsRow (w.heap.size + 1) 53 1 (.slice b k cap) k (ys.map F32)) ∧ Hid (Below (w.heap.size + 1) w2 wr)) (fun _ kk _ => x2.length - (intOf kk).toNat)
  case atStart => exact ⟨0, none, 0, [], rfl, Nat.zero_le _, rfl, rfl, fun j hj => by omega, World.ownsRow_nil _ _ _ _, Below.refl _ _⟩
  case round =>
    obtain ⟨k, b, cap, ys, rfl, hk, rfl, hyl, hall, HO, HBR⟩ := hrel
    have hK1 := HK2.out.lt
    have HKr := Lib.hid (HK2.out.below HBR.out (by omega))
    have HB := Lib.hid (HB2.out.trans (HBR.out.mono (by omega)))
    by_cases hlt : k < x2.length
    · obtain ⟨ub, uo, rfl, _, hc⟩ := (H2.out.up HB.out (Nat.le_refl _)).at hlt
      obtain ⟨y, hy⟩ : ∃ y, y = x2.getD k 0 := ⟨_, rfl⟩
      rw [← hy] at hc
      have HY := Lib.hid hy
      clear hy
      have d0 : wr.cell? ⟨w.heap.size, 0, none⟩ = some (.int .i64 n0) := HKr.out.cell 0 rfl
      have d1 : wr.cell? ⟨w.heap.size, 1, none⟩ = some (.slice a1 x1.length c1) := HKr.out.cell 1 rfl
      have d2 : wr.cell? ⟨w.heap.size, 2, none⟩ = some (.slice (some ⟨ub, uo, none⟩) x2.length c2) := HKr.out.cell 2 rfl
      have d3 : wr.cell? ⟨w.heap.size, 3, none⟩ = some (.slice a3 x3.length c3) := HKr.out.cell 3 rfl
      go_wp2_with fail
      refine (row_any _ ⟨n0, x1, x2, x3⟩ k wr (HP.out.up HB.out (Nat.le_refl _)) HV.out hlt).mono ?_
      rintro e w3 ⟨ru, rfl, hru, hb3⟩
      obtain ⟨ra, rc, rfl⟩ := hru.shape
      have HRU := Lib.hid hru
      have HO3 := Lib.hid (owns_below HO.out hb3 (Nat.le_refl _))
      have HBR3 := Lib.hid (HBR.out.trans (hb3.mono (Nat.le_trans (by omega : w.heap.size + 1 ≤ w2.heap.size) HBR.out.size)))
      have HB3 := Lib.hid (HB2.out.trans (HBR3.out.mono (by omega)))
      clear hru hb3 d0 d1 d2 d3 hc
      obtain ⟨L, hL⟩ : ∃ L, L = (rowO ⟨n0, x1, x2, x3⟩ k).length := ⟨_, rfl⟩
      rw [← hL] at HRU ⊢
      have HL := Lib.hid hL
      have HLV := Lib.hid (show L = x3.length by rw [hL]; exact rowO_len HV.out hlt)
      clear hL
      go_wp2_with fail
      refine (dot_any _ _ (rowO ⟨n0, x1, x2, x3⟩ k) x w3 HRU.out (HU.out.up HB3.out (Nat.le_refl _)) (by rw [← HL.out, HLV.out, HXL.out]; exact Nat.le_refl _) (rowO_fin HV.out k) HX.out.2).mono ?_
      rintro e w4 ⟨s, rfl, hs, m4, rfl⟩
      have HS := Lib.hid (show Mt (dotO (rowO ⟨n0, x1, x2, x3⟩ k) x x3.length) s by rw [← HLV.out, HL.out]; exact hs)
      clear hs
      have hsz3 : w.heap.size + 1 ≤ w3.heap.size := Nat.le_trans (by omega : w.heap.size + 1 ≤ w2.heap.size) HBR3.out.size
      have HOn := Lib.hid (show ∀ n, (w3.drewN n).ownsRow (w.heap.size + 1) 53 1 (.slice b k cap) k (ys.map F32) from fun n => HO3.out)
      cases hq : Ieee.single.sub y s with
      | some q =>
        have hsub := fun (W : World) => run_sub_some (P := Try.prog) 53 _ _ q hq W
        have HM := Lib.hid (left_some (r := ⟨n0, x1, x2, x3⟩) (x := x) (i := k) HS.out (by simp only; rw [← HY.out]; exact hq))
        clear hq
        go_wp2_with (at_builtin; refine app_flts rfl _ _ rfl (w.heap.size + 1) (.slice b k cap) k ys rfl (owns_below (HOn.out _) ((Below.refl _ _).alloc (Nat.le_refl _) _) (Nat.le_refl _)) _ [_] rfl (slcF_one _ _) (k + 1) (ys ++ [_]) (by simp) rfl (by omega) (by simp; omega) ?_; intro a2 cap2 w5 hown hbl hg _)
        go_roundw
        case rel =>
          refine ⟨k + 1, a2, cap2, ys ++ [_], by go_num, by omega, rfl, Lib.hid (by simp [hyl.out]), fun j hj => ?_, hown, ((below_drewN HBR3.out _).alloc (by simp; omega) _).trans hbl⟩
          by_cases hjk : j < k
          · rw [getD_snoc_lt _ _ _ (by rw [hyl.out]; exact hjk)]; exact hall.out j hjk
          · obtain rfl : j = k := by omega
            rw [getD_snoc_eq _ _ _ hyl.out.symm]; exact HM.out
        case measure => simp [intOf]; omega
      | none =>
        have hsub := fun (W : World) => run_sub_none (P := Try.prog) 53 _ _ hq W
        have HM := Lib.hid (left_none (r := ⟨n0, x1, x2, x3⟩) (x := x) (i := k) HS.out (by simp only; rw [← HY.out]; exact hq))
        clear hq
        go_wp2_with (at_builtin; refine app_flts rfl _ _ rfl (w.heap.size + 1) (.slice b k cap) k ys rfl (owns_below (HOn.out _) ((Below.refl _ _).alloc (Nat.le_refl _) _) (Nat.le_refl _)) _ [_] rfl (slcF_one _ _) (k + 1) (ys ++ [_]) (by simp) rfl (by omega) (by simp; omega) ?_; intro a2 cap2 w5 hown hbl hg _)
        go_roundw
        case rel =>
          refine ⟨k + 1, a2, cap2, ys ++ [_], by go_num, by omega, rfl, Lib.hid (by simp [hyl.out]), fun j hj => ?_, hown, ((below_drewN HBR3.out _).alloc (by simp; omega) _).trans hbl⟩
          by_cases hjk : j < k
          · rw [getD_snoc_lt _ _ _ (by rw [hyl.out]; exact hjk)]; exact hall.out j hjk
          · obtain rfl : j = k := by omega
            rw [getD_snoc_eq _ _ _ hyl.out.symm]; exact HM.out _ (tape32_nan _ _ _)
        case measure => simp [intOf]; omega
    · obtain rfl : k = x2.length := by omega
      have HA := Lib.hid (left_all (r := ⟨n0, x1, x2, x3⟩) (x := x) hyl.out hall.out)
      have HE := Lib.hid (left_eq (r := ⟨n0, x1, x2, x3⟩) (x := x) hyl.out hall.out)
      have HR := Lib.hid (show RdF wr (.slice b x2.length cap) ys from slc_of_owns HO.out)
      have HLO := Lib.hid (show leftOk ⟨n0, x1, x2, x3⟩ x = allFin ys by unfold leftOk; rw [HFX.out, Bool.true_and, HA.out])
      go_wp2_with fail
      refine (areFinite_any _ ys _ (by rw [← hyl.out] at HR; rw [← hyl.out]; exact HR.out)).mono ?_
      rintro e w4 ⟨rfl, m4, rfl⟩
      obtain ⟨q, hq⟩ : ∃ q, q = allFin ys := ⟨_, rfl⟩
      rw [← hq]
      have HQ := Lib.hid hq
      clear hq
      cases q
      · have HNV := Lib.hid (show leftR ⟨n0, x1, x2, x3⟩ x = [] by unfold leftR; rw [HLO.out, ← HQ.out]; rfl)
        go_wp2_with fail
        go_ret2
        exact ⟨.slice none 0 0, by rw [HLO.out, ← HQ.out]; rfl, by rw [HNV.out]; exact Slc.nil _, below_drewN HB.out _⟩
      · have HNV := Lib.hid (show leftR ⟨n0, x1, x2, x3⟩ x = ys by unfold leftR; rw [HLO.out, ← HQ.out, if_pos rfl]; exact (HE.out HQ.out.symm).symm)
        go_wp2_with fail
        go_ret2
        exact ⟨_, by rw [HLO.out, ← HQ.out]; rfl, by rw [HNV.out]; exact HR.out, below_drewN HB.out _⟩

end Go.Proofs.Ytfdaifmfecfchaa

namespace Go.Proofs.Ytfdaifmfecfchaa
open Go.RowKit

/-- A difference, a number or a NaN that the tape names. -/
def subV (x y : Nat) (w : World) : Nat := match Ieee.single.sub x y with
  | some r => r
  | none => tape32 (.nanBits .f32 x y) w
def subD (x y : Nat) : Nat := match Ieee.single.sub x y with
  | some _ => 0
  | none => 1
theorem run_sub_all {P : Program} (t : TypeId) (x y : Nat) (w : World) : (binOp .sub t (.float .f32 x) (.float .f32 y)).run P w = .ok (.float .f32 (subV x y w)) (w.drewN (subD x y)) := by
  unfold subV subD
  cases h : Ieee.single.sub x y with
  | some r => exact run_sub_some t x y r h w
  | none => exact run_sub_none t x y h w
theorem left_all' {r : RowsD} {x : List Nat} {i s : Nat} {y : Nat} (hy : y = r.bnds.getD i 0) (h : Mt (dotO (rowO r i) x r.gains.length) s) (w : World) : Mt (leftO r x i) (subV y s w) := by
  subst hy
  unfold subV
  cases hq : Ieee.single.sub (r.bnds.getD i 0) s with
  | some q => exact left_some h hq
  | none => exact left_none h hq _ (tape32_nan _ _ _)

theorem slcF_oneB (w : World) (z b : Nat) (hb : b = w.heap.size) : Slc (w.alloc (.cells #[.float .f32 z] 53)) (.slice (some ⟨b, 0, none⟩) 1 1) ([z].map F32) := by subst hb; exact slcF_one w z

end Go.Proofs.Ytfdaifmfecfchaa

namespace Go.Proofs.Ytfdaifmfecfchaa
open Go.RowKit

def gtF (a b : Nat) : Bool := Ieee.single.order a b == some .gt
def divV (x m : Nat) : Nat := (Ieee.single.div x m).getD 0

theorem datum_swap (a b : Ieee.Datum) : a.order b = (b.order a).map Ordering.swap := by
  cases a <;> cases b <;> simp only [Ieee.Datum.order, Option.map_none, Option.map_some]
  · rename_i s m i t n j
    rw [Int.min_comm, ← Std.OrientedCmp.eq_swap]
  · rename_i s _ _ t; cases t <;> rfl
  · rename_i s t _ _; cases s <;> rfl
  · rw [← Std.OrientedCmp.eq_swap]
theorem order_swap (a b : Nat) : Ieee.single.order a b = (Ieee.single.order b a).map Ordering.swap := datum_swap _ _
theorem order_fin {a b : Nat} (ha : fin32 a = true) (hb : fin32 b = true) : ∃ o, Ieee.single.order a b = some o := by
  obtain ⟨s, m, e, h, _⟩ := read32_parts ha
  obtain ⟨s', m', e', h', _⟩ := read32_parts hb
  unfold Ieee.Format.order
  rw [h, h']
  exact ⟨_, rfl⟩
theorem gt_lt {a b : Nat} (h : gtF a b = true) : FloatKind.f32.format.order b a = some .lt := by
  show Ieee.single.order b a = _
  unfold gtF at h
  simp only [beq_iff_eq] at h
  rw [order_swap, h]; rfl
theorem gt_gt {a b : Nat} (h : gtF a b = true) : FloatKind.f32.format.order a b = some .gt := by
  show Ieee.single.order a b = _
  unfold gtF at h
  simpa using h
theorem not_gt {a b : Nat} (ha : fin32 a = true) (hb : fin32 b = true) (h : gtF a b = false) : FloatKind.f32.format.order b a = some .gt ∨ FloatKind.f32.format.order b a = some .eq := by
  show Ieee.single.order b a = _ ∨ Ieee.single.order b a = _
  obtain ⟨o, ho⟩ := order_fin hb ha
  rw [ho]
  cases o
  · rw [order_swap] at ho
    unfold gtF at h
    cases hx : Ieee.single.order a b with
    | none => rw [hx] at ho; simp at ho
    | some q => rw [hx] at ho h; cases q <;> simp_all
  · exact .inr rfl
  · exact .inl rfl
theorem not_gt_b {a b : Nat} (h : gtF a b = false) : (FloatKind.f32.format.order a b == some .gt) = false := h
theorem yes_gt_b {a b : Nat} (h : gtF a b = true) : (FloatKind.f32.format.order a b == some .gt) = true := h
theorem fin0 : fin32 0 = true := by decide +kernel
theorem div_some {x m : Nat} (hx : fin32 x = true) (hm : fin32 m = true) (hp : gtF m 0 = true) : Ieee.single.div x m = some (divV x m) := by
  obtain ⟨s, a, e, h, _⟩ := read32_parts hx
  obtain ⟨s', a', e', h', _⟩ := read32_parts hm
  have hn : a' ≠ 0 := by
    intro e0
    subst e0
    unfold gtF Ieee.Format.order at hp
    rw [h', show Ieee.single.read 0 = .number false 0 (-149) by decide +kernel] at hp
    simp [Ieee.Datum.order, Ieee.signed] at hp
  unfold divV Ieee.Format.div
  rw [h, h']
  simp only [Ieee.Datum.quotient, if_neg hn, Option.map_some, Option.getD_some]
theorem run_div_some {P : Program} (t : TypeId) {x y : Nat} (h : Ieee.single.div x y = some (divV x y)) (w : World) :
    (binOp .quo t (.float .f32 x) (.float .f32 y)).run P w = .ok (.float .f32 (divV x y)) w := run_float_arith w .quo t .f32 x y _ h

/-- What a number is worth, in the least unit. -/
def valI (x : Nat) : Int := match Ieee.single.read x with
  | .number s m e => Ieee.signed s m (e + 149).toNat
  | _ => 0
theorem valI_of {x m : Nat} {s : Bool} {e : Int} (h : Ieee.single.read x = .number s m e) : valI x = Ieee.signed s m (e + 149).toNat := by unfold valI; rw [h]
theorem signed_eq (s : Bool) (m k : Nat) : Ieee.signed s m k = (if s = true then -1 else 1) * ((m * 2 ^ k : Nat) : Int) := by
  unfold Ieee.signed
  rw [Nat.shiftLeft_eq]
  cases s <;> simp
theorem signed_shift (s : Bool) (m k d : Nat) : Ieee.signed s m (k + d) = Ieee.signed s m k * ((2 ^ d : Nat) : Int) := by
  rw [signed_eq, signed_eq, Nat.pow_add, ← Nat.mul_assoc, Int.natCast_mul, Int.mul_assoc]
theorem cmp_mul (a b : Int) (d : Nat) (h : 0 < d) : compare (a * (d : Int)) (b * (d : Int)) = compare a b := by
  have hd : (0 : Int) < (d : Int) := by omega
  rcases Int.lt_trichotomy a b with h1 | h1 | h1
  · rw [Int.compare_eq_lt.2 h1, Int.compare_eq_lt.2 (Int.mul_lt_mul_of_pos_right h1 hd)]
  · rw [h1]; simp
  · rw [Int.compare_eq_gt.2 h1, Int.compare_eq_gt.2 (Int.mul_lt_mul_of_pos_right h1 hd)]
theorem order_val {x y : Nat} (hx : fin32 x = true) (hy : fin32 y = true) : Ieee.single.order x y = some (compare (valI x) (valI y)) := by
  obtain ⟨s, m, e, h, _, _, h1, _⟩ := read32_parts hx
  obtain ⟨t, n, j, h', _, _, h2, _⟩ := read32_parts hy
  rw [valI_of h, valI_of h']
  unfold Ieee.Format.order
  rw [h, h']
  simp only [Ieee.Datum.order]
  have e1 : (e + 149).toNat = (e - min e j).toNat + (min e j + 149).toNat := by omega
  have e2 : (j + 149).toNat = (j - min e j).toNat + (min e j + 149).toNat := by omega
  rw [e1, e2, signed_shift, signed_shift, cmp_mul _ _ _ (Nat.two_pow_pos _)]
theorem gtF_val {x y : Nat} (hx : fin32 x = true) (hy : fin32 y = true) : gtF x y = decide (valI y < valI x) := by
  unfold gtF
  rw [order_val hx hy]
  rcases Int.lt_trichotomy (valI x) (valI y) with h1 | h1 | h1
  · rw [Int.compare_eq_lt.2 h1, decide_eq_false (by omega)]; rfl
  · rw [h1, decide_eq_false (by omega)]; simp
  · rw [Int.compare_eq_gt.2 h1, decide_eq_true h1]; rfl


end Go.Proofs.Ytfdaifmfecfchaa

namespace Go.Proofs.Ytfdaifmfecfchaa
open Go.RowKit

def negF (x : Nat) : Nat := Go.Op.negFloat .f32 x
def ltF (x y : Nat) : Bool := FloatKind.f32.format.order x y == some .lt
def eqF (x y : Nat) : Bool := FloatKind.f32.format.order x y == some .eq
def oneF : Nat := 1065353216
def colsT (t : TabD) : Nat := t.vars + t.basis.length
def lastT (t : TabD) (i : Nat) : Nat := atT t i (colsT t)
def entersAt (t : TabD) (near c : Nat) : Bool := ltF (atT t t.basis.length c) (negF near)
def enterT (t : TabD) (near : Nat) : Int := match (List.range (colsT t)).find? (entersAt t near) with
  | some c => (c : Int)
  | none => -1
theorem find_first {p : Nat → Bool} {n c : Nat} (hc : c < n) (h : p c = true) (h0 : ∀ j, j < c → p j = false) : (List.range n).find? p = some c := by
  rw [List.find?_eq_some_iff_getElem]
  refine ⟨h, c, by simpa using hc, by simp, fun j hj => ?_⟩
  simp [h0 j hj]
theorem find_none {p : Nat → Bool} {n : Nat} (h0 : ∀ j, j < n → p j = false) : (List.range n).find? p = none := by
  rw [List.find?_eq_none]
  intro x hx
  rw [h0 x (List.mem_range.1 hx)]
  simp
theorem enterT_at {t : TabD} {near c : Nat} (hc : c < colsT t) (h : entersAt t near c = true) (h0 : ∀ j, j < c → entersAt t near j = false) : enterT t near = (c : Int) := by
  unfold enterT
  rw [find_first hc h h0]
theorem enterT_none {t : TabD} {near : Nat} (h0 : ∀ j, j < colsT t → entersAt t near j = false) : enterT t near = -1 := by
  unfold enterT
  rw [find_none h0]
theorem enterT_rng (t : TabD) (near : Nat) : enterT t near = -1 ∨ ∃ c : Nat, c < colsT t ∧ enterT t near = (c : Int) := by
  unfold enterT
  cases h : (List.range (colsT t)).find? (entersAt t near) with
  | none => exact .inl rfl
  | some c =>
    have := List.mem_of_find?_eq_some h
    exact .inr ⟨c, List.mem_range.1 this, rfl⟩
/-- The row that bounds a column first, among the first ones. -/
def leaveK (t : TabD) (col near : Nat) : Nat → Int × Nat
  | 0 => (-1, 0)
  | i + 1 => if gtF (atT t i col) near = true then
      (if ((decide ((leaveK t col near i).1 < 0) || ltF (divV (lastT t i) (atT t i col)) (leaveK t col near i).2) || (eqF (divV (lastT t i) (atT t i col)) (leaveK t col near i).2 && decide (t.basis.getD i 0 < t.basis.getD (leaveK t col near i).1.toNat 0))) = true then ((i : Int), divV (lastT t i) (atT t i col)) else leaveK t col near i)
    else leaveK t col near i
def leaveT (t : TabD) (col near : Nat) : Int := (leaveK t col near t.basis.length).1
theorem leaveK_rng (t : TabD) (col near : Nat) : ∀ i, (leaveK t col near i).1 = -1 ∨ ∃ r : Nat, r < i ∧ (leaveK t col near i).1 = (r : Int) ∧ gtF (atT t r col) near = true
  | 0 => .inl rfl
  | i + 1 => by
    have ih := leaveK_rng t col near i
    simp only [leaveK]
    split
    · rename_i h
      split
      · exact .inr ⟨i, by omega, rfl, h⟩
      · rcases ih with e | ⟨r, h1, h2⟩
        · exact .inl e
        · exact .inr ⟨r, by omega, h2⟩
    · rcases ih with e | ⟨r, h1, h2⟩
      · exact .inl e
      · exact .inr ⟨r, by omega, h2⟩
/-! ### a pivot -/
def ownV (t : TabD) (row col c : Nat) : Nat := if c = col then oneF else divV (atT t row c) (atT t row col)
def othO (t : TabD) (row col i c : Nat) : Option Nat := if c = col then some 0 else (Ieee.single.mul (atT t i col) (ownV t row col c)).bind fun q => Ieee.single.sub (atT t i c) q
def cellO (t : TabD) (row col i c : Nat) : Option Nat := if i = row then some (ownV t row col c) else othO t row col i c
def pivO (t : TabD) (row col : Nat) : List (Option Nat) := (List.range t.nums.length).map fun x => cellO t row col (x / wdT t) (x % wdT t)
def pivB (t : TabD) (row col : Nat) : List Int := t.basis.set row (col : Int)
/-- Columns of a basis: below n, and all different. -/
def basOk (n : Nat) (l : List Int) : Bool := allB l.length fun i => inB 0 ((n : Int) - 1) (l.getD i 0) && !hasB (l.take i) (l.getD i 0)
def pivOk (t : TabD) (row col : Nat) : Bool := (pivO t row col).all finO && basOk (colsT t) (pivB t row col)
def pivT (t : TabD) (row col : Nat) : TabD := ⟨t.vars, (pivO t row col).map (fun o => o.getD 0), pivB t row col⟩
theorem pivO_len (t : TabD) (row col : Nat) : (pivO t row col).length = t.nums.length := by unfold pivO; simp
theorem pivB_len (t : TabD) (row col : Nat) : (pivB t row col).length = t.basis.length := by unfold pivB; simp
theorem pivT_dim {t : TabD} (h : DimT t) (row col : Nat) : DimT (pivT t row col) := by
  refine ⟨h.v1, h.v8, ?_, ?_, ?_⟩
  · show 1 ≤ (pivB t row col).length; rw [pivB_len]; exact h.b1
  · show (pivB t row col).length ≤ 8; rw [pivB_len]; exact h.b8
  · show ((pivO t row col).map _).length = (t.vars + (pivB t row col).length + 1) * ((pivB t row col).length + 1)
    rw [List.length_map, pivO_len, pivB_len, h.nl]
    rfl
/-- A table whose numbers are finite and whose columns are in order. -/
structure GoodT (t : TabD) : Prop where
  dim : DimT t
  fin : allFin t.nums = true
  bas : ∀ i, i < t.basis.length → 0 ≤ t.basis.getD i 0 ∧ t.basis.getD i 0 < (colsT t : Nat)
theorem GoodT.at {t : TabD} (h : GoodT t) {i k : Nat} (hi : i ≤ t.basis.length) (hk : k < wdT t) : fin32 (atT t i k) = true := allFin_get h.fin (h.dim.ix hi hk)
theorem pivT_good {t : TabD} (h : GoodT t) {row col : Nat} (ho : pivOk t row col = true) : GoodT (pivT t row col) := by
  unfold pivOk at ho
  rw [Bool.and_eq_true, List.all_eq_true] at ho
  refine ⟨pivT_dim h.dim row col, ?_, fun i hi => ?_⟩
  · unfold allFin pivT
    rw [List.all_eq_true]
    intro x hx
    rw [List.mem_map] at hx
    obtain ⟨o, ho1, rfl⟩ := hx
    have := ho.1 o ho1
    cases o with
    | none => cases this
    | some v => exact this
  · have h2 := ho.2
    unfold basOk at h2
    rw [allB_iff] at h2
    have h3 := h2 i hi
    rw [Bool.and_eq_true, inB_iff] at h3
    have e : colsT (pivT t row col) = colsT t := by
      show t.vars + (pivB t row col).length = _
      rw [pivB_len]
      rfl
    rw [e]
    have : (pivT t row col).basis = pivB t row col := rfl
    rw [this]
    omega
/-! ### pivots until nothing gains -/
def solveO (near : Nat) : Nat → TabD → Option TabD
  | 0, t => if enterT t near < 0 then some t else none
  | F + 1, t => if enterT t near < 0 then some t
    else if leaveT t (enterT t near).toNat near < 0 then none
    else if pivOk t (leaveT t (enterT t near).toNat near).toNat (enterT t near).toNat = true then solveO near F (pivT t (leaveT t (enterT t near).toNat near).toNat (enterT t near).toNat) else none
theorem solveO_good {near : Nat} : ∀ (F : Nat) (t t' : TabD), GoodT t → solveO near F t = some t' → GoodT t'
  | 0, t, t', h, e => by
    simp only [solveO] at e
    split at e
    · cases e; exact h
    · cases e
  | F + 1, t, t', h, e => by
    simp only [solveO] at e
    split at e
    · cases e; exact h
    · split at e
      · cases e
      · split at e
        · rename_i h3
          exact solveO_good F _ t' (pivT_good h h3) e
        · cases e
/-! ### the table of rows -/
def unitsL (n i : Nat) : List Nat := (List.range n).map fun k => if k = i then oneF else 0
def tabN (r : RowsD) : Nat → List Nat
  | 0 => []
  | i + 1 => tabN r i ++ (rowO r i ++ unitsL r.bnds.length i ++ [r.bnds.getD i 0])
def tabG (r : RowsD) (k : Nat) : List Nat := (r.gains.take k).map negF
def tabB (r : RowsD) (i : Nat) : List Int := (List.range i).map fun k : Nat => r.vars + (k : Int)
def tableT (r : RowsD) : TabD := ⟨r.gains.length, tabN r r.bnds.length ++ tabG r r.gains.length ++ List.replicate (r.bnds.length + 1) 0, tabB r r.bnds.length⟩
def bestO (r : RowsD) (most near : Nat) : Option TabD := solveO near most (tableT r)
/-! ### plan and prices -/
def planK (t : TabD) : Nat → List Nat
  | 0 => List.replicate t.vars 0
  | i + 1 => if t.basis.getD i 0 < (t.vars : Int) then (planK t i).set (t.basis.getD i 0).toNat (lastT t i) else planK t i
def planT (t : TabD) : List Nat := planK t t.basis.length
def priceK (t : TabD) (k : Nat) : List Nat := (List.range k).map fun c => atT t t.basis.length (t.vars + c)
def priceT (t : TabD) : List Nat := priceK t t.basis.length
theorem planK_len (t : TabD) : ∀ i, (planK t i).length = t.vars
  | 0 => List.length_replicate
  | i + 1 => by
    simp only [planK]
    split
    · rw [List.length_set, planK_len t i]
    · exact planK_len t i

end Go.Proofs.Ytfdaifmfecfchaa

namespace Go.Proofs.Ytfdaifmfecfchaa
open Go.RowKit

@[go_sem] theorem unary_negF (x : Nat) : Op.unary .neg (.float .f32 x) = pure (.float .f32 (negF x)) := rfl

theorem wdT_cols (t : TabD) : wdT t = colsT t + 1 := rfl

/-- A near number: finite and at least 0. -/
theorem gt_zero {n near : Nat} (hn : fin32 n = true) (hl : least near = true) (h : gtF n near = true) : gtF n 0 = true := by
  unfold least at hl
  rw [Bool.and_eq_true] at hl
  rw [gtF_val hn hl.1, decide_eq_true_eq] at h
  rw [gtF_val hn fin0, decide_eq_true_eq]
  have h2 : valI 0 ≤ valI near := by
    have h3 := hl.2
    unfold geq0 at h3
    rw [show FloatKind.f32.format = Ieee.single from rfl, order_val hl.1 fin0] at h3
    rcases Int.lt_trichotomy (valI near) (valI 0) with c | c | c
    · rw [Int.compare_eq_lt.2 c] at h3; cases h3
    · omega
    · omega
  omega

end Go.Proofs.Ytfdaifmfecfchaa

namespace Go.Proofs.Ytfdaifmfecfchaa
open Go.RowKit

theorem rdI_take {w : World} {b off n cap : Nat} {xs : List Int} (h : RdI w (.slice (some ⟨b, off, none⟩) n cap) xs) (k : Nat) (hk : k ≤ n) (hn : xs.length = n) : RdI w (.slice (some ⟨b, off, none⟩) k cap) (xs.take k) := by
  have hl : (xs.take k).length = k := by rw [List.length_take]; omega
  rcases h with ⟨e, _⟩ | ⟨ad, c', e, q1, q2, hc⟩
  · cases e
  · simp only [Value.slice.injEq, Option.some.injEq] at e
    obtain ⟨rfl, _, rfl⟩ := e
    rw [List.length_map] at q1
    refine .inr ⟨⟨b, off, none⟩, cap, by rw [List.length_map, hl], by rw [List.length_map, hl]; omega, q2, fun i u hi => hc i u ?_⟩
    have hlt : i < k := by have := (List.getElem?_eq_some_iff.1 hi).1; rw [List.length_map, hl] at this; exact this
    rw [List.getElem?_map] at hi ⊢
    rw [List.getElem?_take_of_lt hlt] at hi
    exact hi

theorem isIndex_any (i n : Int) (w : World) (h0 : 0 ≤ n) (h1 : n ≤ 1000000) :
    Calls Try.prog 62 #[.int .i64 i, .int .i64 n] w fun e w' => e = .returned (.bool (inB 0 (n - 1) i)) ∧ w = w' := by
  go_enter Try.func62, Try.ntmps62
  go_wp2_with (go_at_call 55; refine (within_any _ _ _ _).mono ?_; rintro e w' ⟨rfl, rfl⟩)
  go_ret
  exact ⟨rfl, rfl⟩

theorem basOk_no {n : Nat} {l : List Int} {i : Nat} (hi : i < l.length) (h : (inB 0 ((n : Int) - 1) (l.getD i 0) && !hasB (l.take i) (l.getD i 0)) = false) : basOk n l = false := allB_false hi h

end Go.Proofs.Ytfdaifmfecfchaa
