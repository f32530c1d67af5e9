/-
  FnDesk: texts joined: AbsF, Dot, MarkI, MarkF, RowsO, ValidR.
-/
import Derived.Laws.BitsAllLaws
import Derived.Deep.RegionHeld3
import Derived.Test.YtgkbbpajkbkgnaaGreatDoorMFnDeskAA
set_option linter.unusedVariables false
set_option linter.unusedSimpArgs false
namespace Go.Proofs.YtgkbbpajkbkgnaaGreatDoor
open Go.RowKit
def abs32 (x : Nat) : Nat := x % 2147483648
theorem read32_parts {x : Nat} (h : fin32 x = true) : ∃ s m e, Ieee.single.read x = .number s m e ∧ s = (x / 2147483648 % 2 == 1) ∧ m < 16777216 ∧ -149 ≤ e ∧ e ≤ 104 ∧ abs32 x < 2139095040 ∧ (e + 149).toNat * 8388608 + m = abs32 x ∧ (m < 8388608 → e = -149) := by
  unfold fin32 at h
  unfold Ieee.Format.read at h ⊢
  unfold abs32
  have c1 : Ieee.single.signWeight = 2147483648 := rfl
  have c2 : Ieee.single.binade = 8388608 := rfl
  have c3 : Ieee.single.infRung = 2139095040 := rfl
  have c4 : Ieee.single.leastPlace = -149 := by decide +kernel
  simp only [c1, c2, c3, c4] at h ⊢
  by_cases h1 : x % 2147483648 < 8388608
  · rw [if_pos h1]
    exact ⟨_, _, _, rfl, rfl, by omega, by omega, by omega, by omega, by omega, by omega⟩
  · rw [if_neg h1] at h ⊢
    by_cases h2 : x % 2147483648 < 2139095040
    · rw [if_pos h2]
      exact ⟨_, _, _, rfl, rfl, by omega, by omega, by omega, h2, by omega, by omega⟩
    · rw [if_neg h2] at h
      by_cases h3 : x % 2147483648 = 2139095040
      · rw [if_pos h3] at h; simp at h
      · rw [if_neg h3] at h; simp at h
theorem log2_shift (m a : Nat) (h : m ≠ 0) : (m <<< a).log2 = m.log2 + a := by
  rw [Nat.shiftLeft_eq]
  have h1 := Nat.lt_log2_self (n := m)
  have h2 := Nat.log2_self_le h
  have hp := Nat.two_pow_pos a
  refine (Nat.log2_eq_iff (by have := Nat.mul_pos (by omega : 0 < m) hp; omega)).2 ⟨?_, ?_⟩
  · rw [Nat.pow_add]; exact Nat.mul_le_mul_right _ h2
  · rw [show m.log2 + a + 1 = (m.log2 + 1) + a by omega, Nat.pow_add]; exact Nat.mul_lt_mul_of_pos_right h1 hp
theorem cut_back (t : Bool) (m a : Nat) (h : m ≠ 0) : Ieee.Toward.even.cut t (m <<< a) a = m := by
  unfold Ieee.Toward.cut
  rw [log2_shift m a h, show min a (m.log2 + a + 2) = a by omega]
  have hp := Nat.two_pow_pos a
  simp only [Nat.shiftLeft_eq, Nat.one_mul, Nat.mul_mod_left, Nat.mul_div_left _ hp]
  have e1 : decide (2 ^ a < 2 * 0) = false := by simp
  have e2 : (2 ^ a == 2 * 0) = false := by simp
  simp [e1, e2]
theorem nearest_back {x : Nat} (hx : fin32 x = true) {s : Bool} {m : Nat} {e : Int} (hr : Ieee.single.read x = .number s m e) (t : Bool) (a : Nat) (e' : Int) (he : e' = e - a) :
    Ieee.single.nearest t (m <<< a) e' = Ieee.single.word t (abs32 x) := by
  obtain ⟨s', m', e2, h0, h1, h2, h3, h4, h5, h6, h7⟩ := read32_parts hx
  rw [hr] at h0
  cases h0
  unfold Ieee.Format.nearest
  by_cases hm : m = 0
  · subst hm
    rw [if_pos (by simp)]
    have : abs32 x = 0 := by have := h7 (by omega); omega
    rw [this]
  have hm' : m <<< a ≠ 0 := by rw [Nat.shiftLeft_eq]; have := Nat.mul_pos (show 0 < m by omega) (Nat.two_pow_pos a); omega
  rw [if_neg hm', log2_shift m a hm]
  have c2 : Ieee.single.binade = 8388608 := rfl
  have c3 : Ieee.single.infRung = 2139095040 := rfl
  have c4 : Ieee.single.leastPlace = -149 := by decide +kernel
  have c5 : Ieee.single.fractionBits = 23 := rfl
  have hl : max (e' + ((m.log2 + a : Nat) : Int) - (23 : Nat)) (-149) = e := by
    by_cases hs : m < 8388608
    · have h8 := h7 hs
      have : m.log2 < 23 := (Nat.log2_lt hm).2 (by omega)
      omega
    · have g1 : m.log2 < 24 := (Nat.log2_lt hm).2 (by omega)
      have g2 : ¬ m.log2 < 23 := fun h => by have := (Nat.log2_lt hm).1 h; omega
      omega
  simp only [c2, c3, c4, c5, hl]
  rw [show (e' - e).toNat = 0 by omega, show (e - e').toNat = a by omega, Nat.shiftLeft_zero, cut_back t m a hm]
  rw [show (e - -149).toNat = (e + 149).toNat by omega, h6, Nat.min_eq_left (by omega)]
theorem cut64 (s : Bool) (K : Nat) : Ieee.Toward.even.cut s K 0 = K := by
  unfold Ieee.Toward.cut
  simp [Nat.mod_one]
theorem double_of {s : Bool} {m : Nat} {e : Int} (hm : m < 16777216) (h1 : -149 ≤ e) (h2 : e ≤ 104) :
    ∃ r a e', r < 9218868437227405312 ∧ Ieee.double.nearest s m e = Ieee.double.word s r ∧ Ieee.double.read r = .number false (m <<< a) e' ∧ (m ≠ 0 → e' = e - a) := by
  unfold Ieee.Format.nearest
  have c1 : Ieee.double.signWeight = 9223372036854775808 := rfl
  have c2 : Ieee.double.binade = 4503599627370496 := rfl
  have c3 : Ieee.double.infRung = 9218868437227405312 := rfl
  have c4 : Ieee.double.leastPlace = -1074 := by decide +kernel
  have c5 : Ieee.double.fractionBits = 52 := rfl
  by_cases h0 : m = 0
  · rw [if_pos h0]
    refine ⟨0, 0, -1074, by decide, rfl, ?_, fun h => absurd h0 h⟩
    subst h0
    decide +kernel
  · rw [if_neg h0]
    have hl : m.log2 ≤ 23 := by
      have : m.log2 < 24 := (Nat.log2_lt h0).2 (by omega)
      omega
    have hlt : m < 2 ^ (m.log2 + 1) := Nat.lt_log2_self
    have hge : 2 ^ m.log2 ≤ m := Nat.log2_self_le h0
    have hlast : max (e + (m.log2 : Int) - (52 : Nat)) (-1074) = e + m.log2 - 52 := by omega
    simp only [c2, c3, c4, c5, hlast]
    have ha : (e - (e + (m.log2 : Int) - 52)).toNat = 52 - m.log2 := by omega
    have hb : (e + (m.log2 : Int) - 52 - e).toNat = 0 := by omega
    rw [ha, hb]
    have hk : m <<< (52 - m.log2) < 9007199254740992 := by
      rw [Nat.shiftLeft_eq]
      have : m * 2 ^ (52 - m.log2) < 2 ^ (m.log2 + 1) * 2 ^ (52 - m.log2) := Nat.mul_lt_mul_of_pos_right hlt (Nat.two_pow_pos _)
      rw [← Nat.pow_add, show m.log2 + 1 + (52 - m.log2) = 53 by omega] at this
      exact this
    have hk2 : 4503599627370496 ≤ m <<< (52 - m.log2) := by
      rw [Nat.shiftLeft_eq]
      have : 2 ^ m.log2 * 2 ^ (52 - m.log2) ≤ m * 2 ^ (52 - m.log2) := Nat.mul_le_mul_right _ hge
      rw [← Nat.pow_add, show m.log2 + (52 - m.log2) = 52 by omega] at this
      exact this
    rw [cut64]
    obtain ⟨K, hK⟩ : ∃ K, K = m <<< (52 - m.log2) := ⟨_, rfl⟩
    rw [← hK] at hk hk2 ⊢
    obtain ⟨Q, hQ⟩ : ∃ Q, Q = (e + (m.log2 : Int) - 52 - -1074).toNat := ⟨_, rfl⟩
    rw [← hQ]
    have hQ1 : Q ≤ 1149 := by omega
    have hQ2 : (Q : Int) = e + m.log2 + 1022 := by omega
    have hlt2 : Q * 4503599627370496 + K < 9218868437227405312 := by
      have := near_aux Q K hQ1 hk
      omega
    rw [Nat.min_eq_left (by omega)]
    refine ⟨_, 52 - m.log2, e + m.log2 - 52, hlt2, rfl, ?_, fun _ => by omega⟩
    unfold Ieee.Format.read
    simp only [c1, c2, c3, c4]
    have q1 : (Q * 4503599627370496 + K) / 9223372036854775808 % 2 = 0 := by omega
    have q2 : (Q * 4503599627370496 + K) % 9223372036854775808 = Q * 4503599627370496 + K := by omega
    rw [q1, q2, if_neg (by omega), if_pos hlt2, ← hK]
    have q3 : (Q * 4503599627370496 + K) % 4503599627370496 = K - 4503599627370496 := by omega
    have q4 : (Q * 4503599627370496 + K) / 4503599627370496 = Q + 1 := by omega
    rw [q3, q4, show 4503599627370496 + (K - 4503599627370496) = K by omega, show (-1074 : Int) + ((Q + 1 - 1 : Nat) : Int) = e + m.log2 - 52 by omega]
    rfl
theorem andNot_top (s : Bool) (r : Nat) (h : r < 9218868437227405312) : bits .andNot .u64 ((Ieee.double.word s r : Nat) : Int) 9223372036854775808 = (r : Int) := by
  have c1 : Ieee.double.signWeight = 9223372036854775808 := rfl
  have hw : Ieee.double.word s r < 18446744073709551616 := by unfold Ieee.Format.word; rw [c1]; split <;> omega
  have h2 := u64_andNot_nat (Ieee.double.word s r) 9223372036854775808 hw (by omega)
  rw [show ((9223372036854775808 : Nat) : Int) = 9223372036854775808 from rfl] at h2
  rw [h2, show 18446744073709551615 - 9223372036854775808 = 2 ^ 63 - 1 from rfl, Nat.and_two_pow_sub_one_eq_mod]
  unfold Ieee.Format.word
  rw [c1]
  congr 1
  split <;> omega
theorem conv_up {x : Nat} (hx : fin32 x = true) : ∃ s r a m e e', r < 9218868437227405312 ∧ floatToFloatBits .f32 x .f64 = some (Ieee.double.word s r) ∧ Ieee.single.read x = .number s m e ∧ Ieee.double.read r = .number false (m <<< a) e' ∧ (m ≠ 0 → e' = e - a) := by
  obtain ⟨s, m, e, h0, h1, h2, h3, h4, h5, h6, h7⟩ := read32_parts hx
  obtain ⟨r, a, e', b1, b2, b3, b4⟩ := double_of (s := s) h2 h3 h4
  refine ⟨s, r, a, m, e, e', b1, ?_, h0, b3, b4⟩
  unfold floatToFloatBits
  rw [if_neg (by decide), show FloatKind.f32.decode x = Ieee.single.read x from rfl, h0]
  have b5 : FloatKind.f64.encode (.number s m e) = Ieee.double.word s r := b2
  have b6 := read_word64 s r b1
  simp only [b5]
  rw [if_neg (by rw [show FloatKind.f64.decode (Ieee.double.word s r) = Ieee.double.read (Ieee.double.word s r) from rfl, b6.2]; simp)]
theorem abs_fin {x : Nat} (hx : fin32 x = true) : fin32 (abs32 x) = true := by
  obtain ⟨s, m, e, h0, h1, h2, h3, h4, h5, h6, h7⟩ := read32_parts hx
  unfold fin32 Ieee.Format.read
  have c1 : Ieee.single.signWeight = 2147483648 := rfl
  have c2 : Ieee.single.binade = 8388608 := rfl
  have c3 : Ieee.single.infRung = 2139095040 := rfl
  simp only [c1, c2, c3]
  have q : abs32 x % 2147483648 = abs32 x := by omega
  rw [q]
  by_cases h1 : abs32 x < 8388608
  · rw [if_pos h1]
  · rw [if_neg h1, if_pos h5]
theorem conv_down {x : Nat} (hx : fin32 x = true) {s : Bool} {m r a : Nat} {e e' : Int} (h0 : Ieee.single.read x = .number s m e) (h1 : Ieee.double.read r = .number false (m <<< a) e') (h2 : m ≠ 0 → e' = e - a) :
    floatToFloatBits .f64 r .f32 = some (abs32 x) := by
  unfold floatToFloatBits
  rw [if_neg (by decide), show FloatKind.f64.decode r = Ieee.double.read r from rfl, h1]
  have hn : Ieee.single.nearest false (m <<< a) e' = abs32 x := by
    by_cases hm : m = 0
    · obtain ⟨s', m', e2, g0, g1, g2, g3, g4, g5, g6, g7⟩ := read32_parts hx
      rw [h0] at g0
      cases g0
      subst hm
      have := g7 (by omega)
      unfold Ieee.Format.nearest
      rw [if_pos (by simp)]
      show 0 = abs32 x
      omega
    · have := nearest_back hx h0 false a e' (h2 hm)
      rw [this]; rfl
  have b5 : FloatKind.f32.encode (.number false (m <<< a) e') = abs32 x := hn
  simp only [b5]
  have hf := abs_fin hx
  have : (FloatKind.f32.decode (abs32 x)).isInfinity = false := by
    show (Ieee.single.read (abs32 x)).isInfinity = false
    unfold fin32 at hf
    cases h : Ieee.single.read (abs32 x) with
    | number => rfl
    | infinity => rw [h] at hf; simp at hf
    | nan => rw [h] at hf; simp at hf
  rw [if_neg (by rw [this]; simp)]
theorem run_bits64 (b : Nat) (w : World) : (callFunc 177 #[.float .f64 b]).run Tryz.prog w = .ok (.value (.int .u64 b)) w := by
  rw [run_callFunc_extern Tryz.func177 (by kernel_rfl) (by kernel_rfl) (by kernel_rfl) (e := Extern.MathFloatBits.float64bits) (by kernel_rfl)]
  rfl
theorem run_from64 (b : Nat) (w : World) : (callFunc 176 #[.int .u64 b]).run Tryz.prog w = .ok (.value (.float .f64 b)) w := by
  rw [run_callFunc_extern Tryz.func176 (by kernel_rfl) (by kernel_rfl) (by kernel_rfl) (e := Extern.MathFloatBits.float64frombits) (by kernel_rfl)]
  rfl
theorem Abs_any (s : Bool) (r : Nat) (hr : r < 9218868437227405312) (w : World) : Calls Tryz.prog 132 #[.float .f64 (Ieee.double.word s r)] w fun e w' => e = .returned (.float .f64 r) ∧ w' = w := by
  have h1 := fun W => run_bits64 (Ieee.double.word s r) W
  have h2 := fun W => run_from64 r W
  have h3 := andNot_top s r hr
  go_enter Tryz.func132, Tryz.ntmps132
  go_wp2_with fail
  go_ret
  exact ⟨rfl, rfl⟩
theorem absolute_any (x : Nat) (hx : fin32 x = true) (w : World) : Calls Tryz.prog 76 #[.float .f32 x] w fun e w' => e = .returned (.float .f32 (abs32 x)) ∧ w' = w := by
  obtain ⟨s, r, a, m, e, e', b1, b2, b3, b4, b5⟩ := conv_up hx
  have b6 := conv_down hx b3 b4 b5
  have h1 := fun (W : World) => run_convert_float_float (P := Tryz.prog) (w := W) 100 170 .f32 .f64 x _ (by rw [Tryz.und32]; rfl) Tryz.und64 b2
  have h2 := fun (W : World) => run_convert_float_float (P := Tryz.prog) (w := W) 170 100 .f64 .f32 r _ (by rw [Tryz.und64]; rfl) Tryz.und32 b6
  clear b2 b3 b4 b5 b6
  go_enter Tryz.func76, Tryz.ntmps76
  go_wp2_with (go_at_call 132; refine (Abs_any s r b1 _).mono ?_; rintro e w' ⟨rfl, rfl⟩)
  go_ret
  exact ⟨rfl, rfl⟩
end Go.Proofs.YtgkbbpajkbkgnaaGreatDoor

namespace Go.Proofs.YtgkbbpajkbkgnaaGreatDoor
open Go.RowKit
def dotO (a b : List Nat) : Nat → Option Nat
  | 0 => some 0
  | k + 1 => (dotO a b k).bind fun s => (Ieee.single.mul (a.getD k 0) (b.getD k 0)).bind fun p => Ieee.single.add s p
def Mt (o : Option Nat) (s : Nat) : Prop := (∀ r, o = some r → s = r) ∧ (o = none → nan32 s = true)
def finO (o : Option Nat) : Bool := match o with
  | some r => fin32 r
  | none => false
theorem drewN_on {w W : World} (h : ∃ m, W = w.drewN m) (n : Nat) : ∃ m, W.drewN n = w.drewN m := by obtain ⟨m, rfl⟩ := h; exact ⟨m + n, World.drewN_drewN _ _ _⟩
theorem fin_of_nan {x : Nat} (h : nan32 x = true) : fin32 x = false := by
  unfold nan32 at h
  unfold fin32
  cases hr : Ieee.single.read x with
  | nan a b => rfl
  | infinity s => rfl
  | number s m e => rw [hr] at h; simp [Ieee.Datum.isNaN] at h
theorem Mt.fin {o : Option Nat} {s : Nat} (h : Mt o s) : fin32 s = finO o := by
  cases o with
  | none => exact fin_of_nan (h.2 rfl)
  | some r => rw [h.1 r rfl]; rfl
theorem Mt.of_some {r s : Nat} (h : Mt (some r) s) : s = r := h.1 r rfl
theorem Mt.some' (r : Nat) : Mt (some r) r := ⟨fun _ h => (Option.some.inj h), fun h => nomatch h⟩
theorem mul_fin {x y : Nat} (hx : fin32 x = true) (hy : fin32 y = true) : ∃ p, Ieee.single.mul x y = some p := by
  unfold fin32 at hx hy
  unfold Ieee.Format.mul
  cases hr : Ieee.single.read x with
  | nan a b => rw [hr] at hx; simp at hx
  | infinity s => rw [hr] at hx; simp at hx
  | number s m e =>
    cases hq : Ieee.single.read y with
    | nan a b => rw [hq] at hy; simp at hy
    | infinity s => rw [hq] at hy; simp at hy
    | number s' m' e' => exact ⟨_, rfl⟩
theorem add_nanL {x y : Nat} (h : nan32 x = true) : Ieee.single.add x y = none := by
  unfold nan32 at h
  unfold Ieee.Format.add
  cases hr : Ieee.single.read x with
  | nan a b => simp [Ieee.Datum.sum]
  | infinity s => rw [hr] at h; simp [Ieee.Datum.isNaN] at h
  | number s m e => rw [hr] at h; simp [Ieee.Datum.isNaN] at h
theorem Mt_some {a b : List Nat} {k s p r : Nat} (h : Mt (dotO a b k) s) (hp : Ieee.single.mul (a.getD k 0) (b.getD k 0) = some p) (hr : Ieee.single.add s p = some r) : Mt (dotO a b (k + 1)) r := by
  cases hd : dotO a b k with
  | none => rw [hd] at h; rw [add_nanL (h.2 rfl)] at hr; cases hr
  | some s' =>
    rw [hd] at h
    rw [h.of_some] at hr
    simp only [dotO, hd, Option.bind_some, hp, hr]
    exact Mt.some' r
theorem Mt_none {a b : List Nat} {k s p : Nat} (h : Mt (dotO a b k) s) (hp : Ieee.single.mul (a.getD k 0) (b.getD k 0) = some p) (hr : Ieee.single.add s p = none) (q : Nat) (hq : nan32 q = true) : Mt (dotO a b (k + 1)) q := by
  have : dotO a b (k + 1) = none := by
    cases hd : dotO a b k with
    | none => simp only [dotO, hd, Option.bind_none]
    | some s' =>
      rw [hd] at h
      rw [h.of_some] at hr
      simp only [dotO, hd, Option.bind_some, hp, hr]
  rw [this]
  exact ⟨fun r h => by simp at h, fun _ => hq⟩
theorem run_mul_some {P : Program} (t : TypeId) (x y r : Nat) (h : Ieee.single.mul x y = some r) (w : World) :
    (binOp .mul t (.float .f32 x) (.float .f32 y)).run P w = .ok (.float .f32 r) w := run_float_arith w .mul t .f32 x y r h
theorem run_add_some {P : Program} (t : TypeId) (x y r : Nat) (h : Ieee.single.add x y = some r) (w : World) :
    (binOp .add t (.float .f32 x) (.float .f32 y)).run P w = .ok (.float .f32 r) w := run_float_arith w .add t .f32 x y r h
theorem run_add_none {P : Program} (t : TypeId) (x y : Nat) (h : Ieee.single.add x y = none) (w : World) :
    (binOp .add t (.float .f32 x) (.float .f32 y)).run P w = .ok (.float .f32 (tape32 (.nanBits .f32 x y) w)) w.drew := by
  have h' : FloatKind.f32.format.add x y = none := h
  simp [binOp, Op.floatArith, h', tape32, Question.forced, Result.andThen]
set_option maxHeartbeats 2000000 in
theorem dot_any (v u : Value) (x y : List Nat) (w : World) (h : RdF w v x) (hu : RdF w u y) (hxy : x.length ≤ y.length) (fx : allFin x = true) (fy : allFin y = true) :
    Calls Tryz.prog 290 #[v, u] w fun e w' => ∃ s, e = .returned (.float .f32 s) ∧ Mt (dotO x y x.length) s ∧ ∃ m, w' = w.drewN m := by
  obtain ⟨a, c, rfl⟩ := h.shape
  obtain ⟨a', c', rfl⟩ := hu.shape
  have hm := h.len
  simp only [maxLen] at hm
  have H1 := Lib.hid h
  have H2 := Lib.hid hu
  have FX := Lib.hid fx
  have FY := Lib.hid fy
  clear h hu fx fy
  go_enter Tryz.func290, Tryz.ntmps290
  go_wp2_with fail
  go_loopw [5, 9] (fun sv i wr => ∃ k s : Nat, i = .int .i64 k ∧ k ≤ x.length ∧ sv = .float .f32 s ∧ Hid (Mt (dotO x y k) s) ∧ Hid (∃ n, wr = w.drewN n)) (fun _ i _ => x.length - (intOf i).toNat)
  case atStart => exact ⟨0, 0, rfl, Nat.zero_le _, rfl, Mt.some' 0, 0, rfl⟩
  case round =>
    obtain ⟨k, s, rfl, hk, rfl, hmt, hw⟩ := hrel
    by_cases hlt : k < x.length
    · have hlt2 : k < y.length := by omega
      obtain ⟨b, off, rfl, hb, hc⟩ := (rdF_drew H1.out hw.out).at hlt
      obtain ⟨b', off', rfl, hb', hc'⟩ := (rdF_drew H2.out hw.out).at hlt2
      have hlt2' : (k : Int) < y.length := by omega
      obtain ⟨p, hp⟩ := mul_fin (allFin_get FX.out hlt) (allFin_get FY.out hlt2)
      have hmul := fun (W : World) => run_mul_some (P := Tryz.prog) 100 _ _ p hp W
      have HP := Lib.hid hp
      clear hp
      generalize hx0 : x.getD k 0 = x0 at *
      generalize hy0 : y.getD k 0 = y0 at *
      have HX := Lib.hid hx0
      have HY := Lib.hid hy0
      clear hx0 hy0
      cases hq : Ieee.single.add s p with
      | some r =>
        have hadd := fun (W : World) => run_add_some (P := Tryz.prog) 100 _ _ r hq W
        have HQ := Lib.hid hq
        clear hq
        go_wp2_with fail
        go_quiet (fail)
        go_wp2_with fail
        go_roundw
        case rel => exact ⟨k + 1, r, by go_num, by omega, rfl, Mt_some hmt.out (by rw [HX.out, HY.out]; exact HP.out) HQ.out, drewN_on hw.out _⟩
        case measure => simp [intOf]; omega
      | none =>
        have hadd := fun (W : World) => run_add_none (P := Tryz.prog) 100 _ _ hq W
        have HQ := Lib.hid hq
        clear hq
        go_wp2_with fail
        go_region_with (fail)
        all_goals
          go_wp2_with fail
          go_roundw
          case rel => exact ⟨k + 1, _, by go_num, by omega, rfl, Mt_none hmt.out (by rw [HX.out, HY.out]; exact HP.out) HQ.out _ (tape32_nan _ _ _), drewN_on (drewN_on hw.out 1) 1⟩
          case measure => simp [intOf]; omega
    · obtain rfl : k = x.length := by omega
      go_wp2_with fail
      go_ret
      exact ⟨s, rfl, hmt.out, hw.out⟩
end Go.Proofs.YtgkbbpajkbkgnaaGreatDoor

namespace Go.Proofs.YtgkbbpajkbkgnaaGreatDoor
open Go.RowKit
theorem owns_slice_some {w : World} {lo : Nat} {e : TypeId} {a : Option Addr} {n cap : Nat} {vs : List Value} (h : w.ownsRow lo e 1 (.slice a n cap) n vs) (hn : 0 < n) : ∃ g, a = some ⟨g, 0, none⟩ ∧ lo ≤ g := by
  rcases h.2 with ⟨e1, e2⟩ | ⟨g, cap', cur, e1, hb, _⟩
  · omega
  · simp only [Value.slice.injEq] at e1
    exact ⟨g, e1.1, hb⟩
end Go.Proofs.YtgkbbpajkbkgnaaGreatDoor

namespace Go.Proofs.YtgkbbpajkbkgnaaGreatDoor
open Go.RowKit
theorem OwnF.blk {lo hi : Nat} {w : World} {v : Value} {xs : List Nat} (h : OwnF lo hi w v xs) {b : Nat} (hb : v.ownBlock = some b) : lo ≤ b ∧ b < hi := ⟨(owns_lt h.1 hb).1, h.2 b hb⟩
end Go.Proofs.YtgkbbpajkbkgnaaGreatDoor

namespace Go.Proofs.YtgkbbpajkbkgnaaGreatDoor
open Go.RowKit
structure RowsD where
  vars : Int
  nums : List Nat
  bnds : List Nat
  gains : List Nat
def RdR (w : World) (v : Value) (r : RowsD) : Prop := ∃ va vb vc, v = .agg #[.int .i64 r.vars, va, vb, vc] ∧ RdF w va r.nums ∧ RdF w vb r.bnds ∧ RdF w vc r.gains
def OwnR (lo hi : Nat) (w : World) (v : Value) (r : RowsD) : Prop := ∃ va vb vc, v = .agg #[.int .i64 r.vars, va, vb, vc] ∧ OwnF lo hi w va r.nums ∧ OwnF lo hi w vb r.bnds ∧ OwnF lo hi w vc r.gains ∧ (∀ g, va.ownBlock = some g → vb.ownBlock ≠ some g) ∧ (∀ g, va.ownBlock = some g → vc.ownBlock ≠ some g) ∧ (∀ g, vb.ownBlock = some g → vc.ownBlock ≠ some g)
def bulkR (r : RowsD) : Nat := r.nums.length + r.bnds.length + r.gains.length
theorem RdR.shape {w : World} {v : Value} {r : RowsD} (h : RdR w v r) : ∃ a1 c1 a2 c2 a3 c3, v = .agg #[.int .i64 r.vars, .slice a1 r.nums.length c1, .slice a2 r.bnds.length c2, .slice a3 r.gains.length c3] := by
  obtain ⟨va, vb, vc, rfl, h1, h2, h3⟩ := h
  obtain ⟨a1, c1, rfl⟩ := h1.shape
  obtain ⟨a2, c2, rfl⟩ := h2.shape
  obtain ⟨a3, c3, rfl⟩ := h3.shape
  exact ⟨_, _, _, _, _, _, rfl⟩
theorem RdR.parts {w : World} {x0 x y z : Value} {r : RowsD} (h : RdR w (.agg #[x0, x, y, z]) r) : RdF w x r.nums ∧ RdF w y r.bnds ∧ RdF w z r.gains := by
  obtain ⟨va, vb, vc, e, h1, h2, h3⟩ := h
  simp only [Value.agg.injEq, Array.mk.injEq, List.cons.injEq, and_true] at e
  obtain ⟨_, rfl, rfl, rfl⟩ := e
  exact ⟨h1, h2, h3⟩
theorem RdR.up {w w' : World} {v : Value} {r : RowsD} {B : Nat} (h : RdR w v r) (hb : Below B w w') (hB : w.heap.size ≤ B) : RdR w' v r := by
  obtain ⟨va, vb, vc, e, h1, h2, h3⟩ := h
  exact ⟨va, vb, vc, e, h1.up hb hB, h2.up hb hB, h3.up hb hB⟩
theorem OwnR.rd {lo hi : Nat} {w : World} {v : Value} {r : RowsD} (h : OwnR lo hi w v r) : RdR w v r := by
  obtain ⟨va, vb, vc, e, h1, h2, h3, _⟩ := h
  exact ⟨va, vb, vc, e, h1.rd, h2.rd, h3.rd⟩
theorem OwnR.up {lo hi : Nat} {w w' : World} {v : Value} {r : RowsD} {B : Nat} (h : OwnR lo hi w v r) (hb : Below B w w') (hB : w.heap.size ≤ B) : OwnR lo hi w' v r := by
  obtain ⟨va, vb, vc, e, h1, h2, h3, h4⟩ := h
  exact ⟨va, vb, vc, e, h1.up hb hB, h2.up hb hB, h3.up hb hB, h4⟩
theorem OwnR.wide {lo hi lo' hi' : Nat} {w : World} {v : Value} {r : RowsD} (h : OwnR lo hi w v r) (a : lo' ≤ lo) (b : hi ≤ hi') : OwnR lo' hi' w v r := by
  obtain ⟨va, vb, vc, e, h1, h2, h3, h4⟩ := h
  exact ⟨va, vb, vc, e, h1.wide a b, h2.wide a b, h3.wide a b, h4⟩
theorem OwnR.kept {lo hi : Nat} {w w' : World} {v : Value} {r : RowsD} {S : Nat → Prop} (h : OwnR lo hi w v r) (hk : Kept S w w') (hs : ∀ b, lo ≤ b → b < hi → ¬ S b) : OwnR lo hi w' v r := by
  obtain ⟨va, vb, vc, e, h1, h2, h3, h4⟩ := h
  exact ⟨va, vb, vc, e, h1.kept hk hs, h2.kept hk hs, h3.kept hk hs, h4⟩
end Go.Proofs.YtgkbbpajkbkgnaaGreatDoor

namespace Go.Proofs.YtgkbbpajkbkgnaaGreatDoor
open Go.RowKit
structure ValR (r : RowsD) : Prop where
  v1 : 1 ≤ r.vars
  v8 : r.vars ≤ 8
  b1 : 1 ≤ r.bnds.length
  b8 : r.bnds.length ≤ 8
  gl : (r.gains.length : Int) = r.vars
  nl : (r.nums.length : Int) = r.vars * r.bnds.length
  fn : allFin r.nums = true
  fg : allFin r.gains = true
  lb : ∀ i, i < r.bnds.length → least (r.bnds.getD i 0) = true
open Classical in
noncomputable def validR (r : RowsD) : Bool := decide (ValR r)
theorem validR_true {r : RowsD} (h : ValR r) : validR r = true := by simp [validR, h]
theorem validR_false {r : RowsD} (h : ¬ ValR r) : validR r = false := by simp [validR, h]
theorem validR_iff {r : RowsD} : validR r = true ↔ ValR r := by simp [validR]
theorem least_fin {x : Nat} (h : least x = true) : fin32 x = true := by
  unfold least at h; simp only [Bool.and_eq_true] at h; exact h.1
theorem lt_of_least {x : Nat} (h : least x = true) : (FloatKind.f32.format.order x 0 == some .lt) = false := by
  rw [lt_geq (least_fin h)]
  unfold least at h; simp only [Bool.and_eq_true] at h
  simp [h.2]
theorem least_of {x : Nat} (hf : fin32 x = true) (h : (FloatKind.f32.format.order x 0 == some .lt) = false) : least x = true := by
  rw [lt_geq hf] at h
  unfold least
  simp at h
  simp [hf, h]
theorem mulR {n0 : Int} {k : Nat} (h1 : 1 ≤ n0) (h8 : n0 ≤ 8) (hk : k ≤ 8) : 0 ≤ n0 * (k : Int) ∧ n0 * (k : Int) ≤ 64 := by
  constructor
  · exact Int.mul_nonneg (by omega) (by omega)
  · have : n0 * (k : Int) ≤ 8 * 8 := Int.mul_le_mul h8 (by omega) (by omega) (by decide)
    omega
set_option maxHeartbeats 4000000 in
set_option maxRecDepth 4000 in
theorem VR_hA (n0 : Int) (x1 x2 x3 : List Nat) (a1 a2 a3 : Option Addr) (c1 c2 c3 : Nat) (w : World) (P1 : Hid (RdF w (.slice a1 x1.length c1) x1)) (P2 : Hid (RdF w (.slice a2 x2.length c2) x2)) (P3 : Hid (RdF w (.slice a3 x3.length c3) x3)) (l1 : x1.length ≤ 9223372036854775807) (l2 : x2.length ≤ 9223372036854775807) (l3 : x3.length ≤ 9223372036854775807)
    (hA : ¬ (1 ≤ n0 ∧ n0 ≤ 8)) :
    Calls Tryz.prog 46 #[.agg #[.int .i64 n0, .slice a1 x1.length c1, .slice a2 x2.length c2, .slice a3 x3.length c3]] w fun e w' => e = .returned (.bool (validR ⟨n0, x1, x2, x3⟩)) ∧ Below w.heap.size w w' := by
    have hin := inB_false (lo := 1) (hi := 8) (n := n0) hA
    have HNO := Lib.hid (validR_false (r := ⟨n0, x1, x2, x3⟩) (fun h => hA ⟨h.v1, h.v8⟩))
    clear hA
    go_enter Tryz.func46, Tryz.ntmps46
    go_wp2_with fail
    refine wp_at fun W hW => ?_
    have HB := Lib.hid (show Below w.heap.size w W by subst hW; (repeat' first | exact Below.refl _ _ | assumption | refine Below.alloc ?_ ?_ _ | refine Below.setCell ?_ ?_ _ | refine Below.drew ?_ | (simp; done) | (simp; omega)))
    have HK := Lib.hid (show Blk W w.heap.size 26 #[.int .i64 n0, .slice a1 x1.length c1, .slice a2 x2.length c2, .slice a3 x3.length c3] by subst hW; exact Blk.new _ _ _)
    clear hW
    have d0 : W.cell? ⟨w.heap.size, 0, none⟩ = some (.int .i64 n0) := HK.out.cell 0 rfl
    have d1 : W.cell? ⟨w.heap.size, 1, none⟩ = some (.slice a1 x1.length c1) := HK.out.cell 1 rfl
    have d2 : W.cell? ⟨w.heap.size, 2, none⟩ = some (.slice a2 x2.length c2) := HK.out.cell 2 rfl
    have d3 : W.cell? ⟨w.heap.size, 3, none⟩ = some (.slice a3 x3.length c3) := HK.out.cell 3 rfl
    go_quiet (first
      | (go_at_call 66; exact quiet_same (size_any _ _ (by unfold maxLen; omega)))
      | (go_at_call 115; exact quiet_same (within_any _ _ _ _)))
    go_wp2_with fail
    go_ret
    exact ⟨by rw [HNO.out]; rfl, below_drewN HB.out _⟩
set_option maxHeartbeats 4000000 in
set_option maxRecDepth 4000 in
theorem VR_hB (n0 : Int) (x1 x2 x3 : List Nat) (a1 a2 a3 : Option Addr) (c1 c2 c3 : Nat) (w : World) (P1 : Hid (RdF w (.slice a1 x1.length c1) x1)) (P2 : Hid (RdF w (.slice a2 x2.length c2) x2)) (P3 : Hid (RdF w (.slice a3 x3.length c3) x3)) (l1 : x1.length ≤ 9223372036854775807) (l2 : x2.length ≤ 9223372036854775807) (l3 : x3.length ≤ 9223372036854775807)
    (hA : 1 ≤ n0 ∧ n0 ≤ 8) (hB : ¬ (1 ≤ x2.length ∧ x2.length ≤ 8)) :
    Calls Tryz.prog 46 #[.agg #[.int .i64 n0, .slice a1 x1.length c1, .slice a2 x2.length c2, .slice a3 x3.length c3]] w fun e w' => e = .returned (.bool (validR ⟨n0, x1, x2, x3⟩)) ∧ Below w.heap.size w w' := by
    have hin := inB_true (lo := 1) (hi := 8) (n := n0) hA
    have hin2 := inB_false (lo := 1) (hi := 8) (n := (x2.length : Int)) (by omega)
    have HNO := Lib.hid (validR_false (r := ⟨n0, x1, x2, x3⟩) (fun h => hB ⟨h.b1, h.b8⟩))
    clear hA hB
    go_enter Tryz.func46, Tryz.ntmps46
    go_wp2_with fail
    refine wp_at fun W hW => ?_
    have HB := Lib.hid (show Below w.heap.size w W by subst hW; (repeat' first | exact Below.refl _ _ | assumption | refine Below.alloc ?_ ?_ _ | refine Below.setCell ?_ ?_ _ | refine Below.drew ?_ | (simp; done) | (simp; omega)))
    have HK := Lib.hid (show Blk W w.heap.size 26 #[.int .i64 n0, .slice a1 x1.length c1, .slice a2 x2.length c2, .slice a3 x3.length c3] by subst hW; exact Blk.new _ _ _)
    clear hW
    have d0 : W.cell? ⟨w.heap.size, 0, none⟩ = some (.int .i64 n0) := HK.out.cell 0 rfl
    have d1 : W.cell? ⟨w.heap.size, 1, none⟩ = some (.slice a1 x1.length c1) := HK.out.cell 1 rfl
    have d2 : W.cell? ⟨w.heap.size, 2, none⟩ = some (.slice a2 x2.length c2) := HK.out.cell 2 rfl
    have d3 : W.cell? ⟨w.heap.size, 3, none⟩ = some (.slice a3 x3.length c3) := HK.out.cell 3 rfl
    go_quiet (first
      | (go_at_call 66; exact quiet_same (size_any _ _ (by unfold maxLen; omega)))
      | (go_at_call 115; exact quiet_same (within_any _ _ _ _)))
    go_wp2_with fail
    go_ret
    exact ⟨by rw [HNO.out]; rfl, below_drewN HB.out _⟩
set_option maxHeartbeats 4000000 in
set_option maxRecDepth 4000 in
theorem VR_hC (n0 : Int) (x1 x2 x3 : List Nat) (a1 a2 a3 : Option Addr) (c1 c2 c3 : Nat) (w : World) (P1 : Hid (RdF w (.slice a1 x1.length c1) x1)) (P2 : Hid (RdF w (.slice a2 x2.length c2) x2)) (P3 : Hid (RdF w (.slice a3 x3.length c3) x3)) (l1 : x1.length ≤ 9223372036854775807) (l2 : x2.length ≤ 9223372036854775807) (l3 : x3.length ≤ 9223372036854775807)
    (hA : 1 ≤ n0 ∧ n0 ≤ 8) (hB : 1 ≤ x2.length ∧ x2.length ≤ 8) (hC : ¬ ((x3.length : Int) = n0)) :
    Calls Tryz.prog 46 #[.agg #[.int .i64 n0, .slice a1 x1.length c1, .slice a2 x2.length c2, .slice a3 x3.length c3]] w fun e w' => e = .returned (.bool (validR ⟨n0, x1, x2, x3⟩)) ∧ Below w.heap.size w w' := by
    have hin := inB_true (lo := 1) (hi := 8) (n := n0) hA
    have hin2 := inB_true (lo := 1) (hi := 8) (n := (x2.length : Int)) (by omega)
    have hcb : ((x3.length : Int) != n0) = true := by simp [hC]
    have HNO := Lib.hid (validR_false (r := ⟨n0, x1, x2, x3⟩) (fun h => hC h.gl))
    clear hA hC
    go_enter Tryz.func46, Tryz.ntmps46
    go_wp2_with fail
    refine wp_at fun W hW => ?_
    have HB := Lib.hid (show Below w.heap.size w W by subst hW; (repeat' first | exact Below.refl _ _ | assumption | refine Below.alloc ?_ ?_ _ | refine Below.setCell ?_ ?_ _ | refine Below.drew ?_ | (simp; done) | (simp; omega)))
    have HK := Lib.hid (show Blk W w.heap.size 26 #[.int .i64 n0, .slice a1 x1.length c1, .slice a2 x2.length c2, .slice a3 x3.length c3] by subst hW; exact Blk.new _ _ _)
    clear hW
    have d0 : W.cell? ⟨w.heap.size, 0, none⟩ = some (.int .i64 n0) := HK.out.cell 0 rfl
    have d1 : W.cell? ⟨w.heap.size, 1, none⟩ = some (.slice a1 x1.length c1) := HK.out.cell 1 rfl
    have d2 : W.cell? ⟨w.heap.size, 2, none⟩ = some (.slice a2 x2.length c2) := HK.out.cell 2 rfl
    have d3 : W.cell? ⟨w.heap.size, 3, none⟩ = some (.slice a3 x3.length c3) := HK.out.cell 3 rfl
    go_quiet (first
      | (go_at_call 66; exact quiet_same (size_any _ _ (by unfold maxLen; omega)))
      | (go_at_call 115; exact quiet_same (within_any _ _ _ _)))
    go_wp2_with fail
    go_ret
    exact ⟨by rw [HNO.out]; rfl, below_drewN HB.out _⟩
set_option maxHeartbeats 4000000 in
set_option maxRecDepth 4000 in
theorem VR_hD (n0 : Int) (x1 x2 x3 : List Nat) (a1 a2 a3 : Option Addr) (c1 c2 c3 : Nat) (w : World) (P1 : Hid (RdF w (.slice a1 x1.length c1) x1)) (P2 : Hid (RdF w (.slice a2 x2.length c2) x2)) (P3 : Hid (RdF w (.slice a3 x3.length c3) x3)) (l1 : x1.length ≤ 9223372036854775807) (l2 : x2.length ≤ 9223372036854775807) (l3 : x3.length ≤ 9223372036854775807)
    (hA : 1 ≤ n0 ∧ n0 ≤ 8) (hB : 1 ≤ x2.length ∧ x2.length ≤ 8) (hC : (x3.length : Int) = n0) (hD : ¬ ((x1.length : Int) = n0 * x2.length)) :
    Calls Tryz.prog 46 #[.agg #[.int .i64 n0, .slice a1 x1.length c1, .slice a2 x2.length c2, .slice a3 x3.length c3]] w fun e w' => e = .returned (.bool (validR ⟨n0, x1, x2, x3⟩)) ∧ Below w.heap.size w w' := by
    have hin := inB_true (lo := 1) (hi := 8) (n := n0) hA
    have hin2 := inB_true (lo := 1) (hi := 8) (n := (x2.length : Int)) (by omega)
    have hcb : ((x3.length : Int) != n0) = false := by simp [hC]
    obtain ⟨M, hM⟩ : ∃ M : Int, M = n0 * x2.length := ⟨_, rfl⟩
    have hM0 : 0 ≤ M ∧ M ≤ 64 := by have := mulR hA.1 hA.2 hB.2; omega
    have hmul : IntKind.i64.wrap (n0 * (x2.length : Int)) = M := by rw [IntWalk.i64_in _ (by omega), hM]
    have hdb : ((x1.length : Int) != M) = true := by rw [hM]; simp [hD]
    have HM := Lib.hid hM
    clear hM
    have HNO := Lib.hid (validR_false (r := ⟨n0, x1, x2, x3⟩) (fun h => hD h.nl))
    clear hA hC hD
    go_enter Tryz.func46, Tryz.ntmps46
    go_wp2_with fail
    refine wp_at fun W hW => ?_
    have HB := Lib.hid (show Below w.heap.size w W by subst hW; (repeat' first | exact Below.refl _ _ | assumption | refine Below.alloc ?_ ?_ _ | refine Below.setCell ?_ ?_ _ | refine Below.drew ?_ | (simp; done) | (simp; omega)))
    have HK := Lib.hid (show Blk W w.heap.size 26 #[.int .i64 n0, .slice a1 x1.length c1, .slice a2 x2.length c2, .slice a3 x3.length c3] by subst hW; exact Blk.new _ _ _)
    clear hW
    have d0 : W.cell? ⟨w.heap.size, 0, none⟩ = some (.int .i64 n0) := HK.out.cell 0 rfl
    have d1 : W.cell? ⟨w.heap.size, 1, none⟩ = some (.slice a1 x1.length c1) := HK.out.cell 1 rfl
    have d2 : W.cell? ⟨w.heap.size, 2, none⟩ = some (.slice a2 x2.length c2) := HK.out.cell 2 rfl
    have d3 : W.cell? ⟨w.heap.size, 3, none⟩ = some (.slice a3 x3.length c3) := HK.out.cell 3 rfl
    go_quiet (first
      | (go_at_call 66; exact quiet_same (size_any _ _ (by unfold maxLen; omega)))
      | (go_at_call 115; exact quiet_same (within_any _ _ _ _)))
    go_wp2_with fail
    go_ret
    exact ⟨by rw [HNO.out]; rfl, below_drewN HB.out _⟩
set_option maxHeartbeats 4000000 in
set_option maxRecDepth 4000 in
theorem VR_yes (n0 : Int) (x1 x2 x3 : List Nat) (a1 a2 a3 : Option Addr) (c1 c2 c3 : Nat) (w : World) (P1 : Hid (RdF w (.slice a1 x1.length c1) x1)) (P2 : Hid (RdF w (.slice a2 x2.length c2) x2)) (P3 : Hid (RdF w (.slice a3 x3.length c3) x3)) (l1 : x1.length ≤ 9223372036854775807) (l2 : x2.length ≤ 9223372036854775807) (l3 : x3.length ≤ 9223372036854775807)
    (hA : 1 ≤ n0 ∧ n0 ≤ 8) (hB : 1 ≤ x2.length ∧ x2.length ≤ 8) (hC : (x3.length : Int) = n0) (hD : (x1.length : Int) = n0 * x2.length)  :
    Calls Tryz.prog 46 #[.agg #[.int .i64 n0, .slice a1 x1.length c1, .slice a2 x2.length c2, .slice a3 x3.length c3]] w fun e w' => e = .returned (.bool (validR ⟨n0, x1, x2, x3⟩)) ∧ Below w.heap.size w w' := by
  have hin := inB_true (lo := 1) (hi := 8) (n := n0) hA
  have hin2 := inB_true (lo := 1) (hi := 8) (n := (x2.length : Int)) (by omega)
  have hcb : ((x3.length : Int) != n0) = false := by simp [hC]
  obtain ⟨M, hM⟩ : ∃ M : Int, M = n0 * x2.length := ⟨_, rfl⟩
  have hM0 : 0 ≤ M ∧ M ≤ 64 := by have := mulR hA.1 hA.2 hB.2; omega
  have hmul : IntKind.i64.wrap (n0 * (x2.length : Int)) = M := by rw [IntWalk.i64_in _ (by omega), hM]
  have hdb : ((x1.length : Int) != M) = false := by rw [hM]; simp [hD]
  have HM := Lib.hid hM
  clear hM
  have HC := Lib.hid hC
  have HD := Lib.hid hD
  have HA := Lib.hid hA
  have HBB := Lib.hid hB
  clear hA hC hD
  go_enter Tryz.func46, Tryz.ntmps46
  go_wp2_with fail
  refine wp_at fun W hW => ?_
  have HB := Lib.hid (show Below w.heap.size w W by subst hW; (repeat' first | exact Below.refl _ _ | assumption | refine Below.alloc ?_ ?_ _ | refine Below.setCell ?_ ?_ _ | refine Below.drew ?_ | (simp; done) | (simp; omega)))
  have HK := Lib.hid (show Blk W w.heap.size 26 #[.int .i64 n0, .slice a1 x1.length c1, .slice a2 x2.length c2, .slice a3 x3.length c3] by subst hW; exact Blk.new _ _ _)
  clear hW
  have d0 : W.cell? ⟨w.heap.size, 0, none⟩ = some (.int .i64 n0) := HK.out.cell 0 rfl
  have d1 : W.cell? ⟨w.heap.size, 1, none⟩ = some (.slice a1 x1.length c1) := HK.out.cell 1 rfl
  have d2 : W.cell? ⟨w.heap.size, 2, none⟩ = some (.slice a2 x2.length c2) := HK.out.cell 2 rfl
  have d3 : W.cell? ⟨w.heap.size, 3, none⟩ = some (.slice a3 x3.length c3) := HK.out.cell 3 rfl
  go_quiet (first
    | (go_at_call 66; exact quiet_same (size_any _ _ (by unfold maxLen; omega)))
    | (go_at_call 115; exact quiet_same (within_any _ _ _ _)))
  obtain ⟨W2, hW2⟩ : ∃ W2, W2 = W.drewN nq := ⟨_, rfl⟩
  rw [← hW2]
  have HB2 := Lib.hid (show Below w.heap.size w W2 by subst hW2; exact below_drewN HB.out _)
  have HK2 := Lib.hid (show Blk W2 w.heap.size 26 #[.int .i64 n0, .slice a1 x1.length c1, .slice a2 x2.length c2, .slice a3 x3.length c3] by subst hW2; exact HK.out)
  clear hW2 d0 d1 d2 d3
  have d2 : W2.cell? ⟨w.heap.size, 2, none⟩ = some (.slice a2 x2.length c2) := HK2.out.cell 2 rfl
  go_wp2_with fail
  go_loopw [43] (fun i wr => ∃ k : Nat, i = .int .i64 k ∧ k ≤ x2.length ∧ Hid (∀ j, j < k → (FloatKind.f32.format.order (x2.getD j 0) 0 == some .lt) = false) ∧ wr = W2) (fun i _ => x2.length - (intOf i).toNat)
  case atStart => exact ⟨0, rfl, Nat.zero_le _, fun j hj => by omega, rfl⟩
  case round =>
    obtain ⟨k, rfl, hk, hall, rfl⟩ := hrel
    by_cases hlt : k < x2.length
    · obtain ⟨b, off, rfl, _, hc⟩ := (P2.out.up HB2.out (Nat.le_refl _)).at hlt
      obtain ⟨x, hx⟩ : ∃ x, x = x2.getD k 0 := ⟨_, rfl⟩
      rw [← hx] at hc
      have HX := Lib.hid hx
      clear hx
      by_cases hq : (FloatKind.f32.format.order x 0 == some .lt) = true
      · have HNO := Lib.hid (validR_false (r := ⟨n0, x1, x2, x3⟩) (fun h => by
          have h1 := lt_of_least (h.lb k hlt)
          simp only at h1
          rw [← HX.out, hq] at h1
          cases h1))
        go_wp2_with fail
        go_ret
        exact ⟨by rw [HNO.out]; rfl, HB2.out⟩
      · rw [Bool.not_eq_true] at hq
        go_wp2_with fail
        go_roundw
        case rel => exact ⟨k + 1, by go_num, by omega, fun j hj => by
          rcases Nat.lt_succ_iff_lt_or_eq.1 hj with h | rfl
          · exact hall.out j h
          · rw [← HX.out]; exact hq, by first | trivial | rfl⟩
        case measure => simp [intOf]; omega
    · obtain rfl : k = x2.length := by omega
      go_wp2_with fail
      refine (areFinite_any _ x2 _ (P2.out.up HB2.out (Nat.le_refl _))).mono ?_
      rintro e w1 ⟨rfl, hd1⟩
      have HB3 := Lib.hid (show Below w.heap.size w w1 by obtain ⟨m, rfl⟩ := hd1; exact below_drewN HB2.out _)
      have HK3 := Lib.hid (show Blk w1 w.heap.size 26 #[.int .i64 n0, .slice a1 x1.length c1, .slice a2 x2.length c2, .slice a3 x3.length c3] by obtain ⟨m, rfl⟩ := hd1; exact HK2.out)
      clear hd1
      by_cases hf2 : allFin x2 = true
      case neg =>
        rw [Bool.not_eq_true] at hf2
        have HNO := Lib.hid (validR_false (r := ⟨n0, x1, x2, x3⟩) (fun h => by
          have : allFin x2 = true := allFin_yes fun i hi => least_fin (h.lb i hi)
          rw [hf2] at this; cases this))
        rw [hf2]
        go_wp2_with fail
        go_ret
        exact ⟨by rw [HNO.out]; rfl, HB3.out⟩
      rw [hf2]
      have HF2 := Lib.hid hf2
      clear hf2
      have d3 : w1.cell? ⟨w.heap.size, 3, none⟩ = some (.slice a3 x3.length c3) := HK3.out.cell 3 rfl
      go_wp2_with fail
      refine (areFinite_any _ x3 _ (P3.out.up HB3.out (Nat.le_refl _))).mono ?_
      rintro e w2 ⟨rfl, hd1⟩
      have HB4 := Lib.hid (show Below w.heap.size w w2 by obtain ⟨m, rfl⟩ := hd1; exact below_drewN HB3.out _)
      have HK4 := Lib.hid (show Blk w2 w.heap.size 26 #[.int .i64 n0, .slice a1 x1.length c1, .slice a2 x2.length c2, .slice a3 x3.length c3] by obtain ⟨m, rfl⟩ := hd1; exact HK3.out)
      clear hd1 d3
      by_cases hf3 : allFin x3 = true
      case neg =>
        rw [Bool.not_eq_true] at hf3
        have HNO := Lib.hid (validR_false (r := ⟨n0, x1, x2, x3⟩) (fun h => by
          have := h.fg
          simp only at this
          rw [hf3] at this; cases this))
        rw [hf3]
        go_wp2_with fail
        go_ret
        exact ⟨by rw [HNO.out]; rfl, HB4.out⟩
      rw [hf3]
      have HF3 := Lib.hid hf3
      clear hf3
      have d1 : w2.cell? ⟨w.heap.size, 1, none⟩ = some (.slice a1 x1.length c1) := HK4.out.cell 1 rfl
      go_wp2_with fail
      refine (areFinite_any _ x1 _ (P1.out.up HB4.out (Nat.le_refl _))).mono ?_
      rintro e w3 ⟨rfl, hd1⟩
      have HB5 := Lib.hid (show Below w.heap.size w w3 by obtain ⟨m, rfl⟩ := hd1; exact below_drewN HB4.out _)
      clear hd1 d1
      have HV : Hid (validR ⟨n0, x1, x2, x3⟩ = allFin x1) := by
        show validR _ = allFin x1
        by_cases hf1 : allFin x1 = true
        · rw [hf1]
          exact validR_true ⟨HA.out.1, HA.out.2, HBB.out.1, HBB.out.2, HC.out, HD.out, hf1, HF3.out, fun i hi => least_of (allFin_get HF2.out hi) (hall.out i hi)⟩
        · rw [Bool.not_eq_true] at hf1
          rw [hf1]
          exact validR_false (fun h => by have := h.fn; simp only at this; rw [hf1] at this; cases this)
      go_wp2_with fail
      go_ret
      exact ⟨by rw [HV.out]; rfl, HB5.out⟩
set_option maxHeartbeats 4000000 in
set_option maxRecDepth 4000 in
theorem ValidRows_any (v : Value) (r : RowsD) (w : World) (h : RdR w v r) :
    Calls Tryz.prog 46 #[v] w fun e w' => e = .returned (.bool (validR r)) ∧ Below w.heap.size w w' := by
  obtain ⟨a1, c1, a2, c2, a3, c3, rfl⟩ := h.shape
  obtain ⟨p1, p2, p3⟩ := h.parts
  obtain ⟨n0, x1, x2, x3⟩ := r
  simp only at p1 p2 p3 ⊢
  have l1 := p1.len
  have l2 := p2.len
  have l3 := p3.len
  unfold maxLen at l1 l2 l3
  have P1 := Lib.hid p1
  have P2 := Lib.hid p2
  have P3 := Lib.hid p3
  clear h p1 p2 p3
  by_cases hA : 1 ≤ n0 ∧ n0 ≤ 8
  case neg => exact VR_hA n0 x1 x2 x3 a1 a2 a3 c1 c2 c3 w P1 P2 P3 (by omega) (by omega) (by omega) hA
  by_cases hB : 1 ≤ x2.length ∧ x2.length ≤ 8
  case neg => exact VR_hB n0 x1 x2 x3 a1 a2 a3 c1 c2 c3 w P1 P2 P3 (by omega) (by omega) (by omega) hA hB
  by_cases hC : (x3.length : Int) = n0
  case neg => exact VR_hC n0 x1 x2 x3 a1 a2 a3 c1 c2 c3 w P1 P2 P3 (by omega) (by omega) (by omega) hA hB hC
  by_cases hD : (x1.length : Int) = n0 * x2.length
  case neg => exact VR_hD n0 x1 x2 x3 a1 a2 a3 c1 c2 c3 w P1 P2 P3 (by omega) (by omega) (by omega) hA hB hC hD
  exact VR_yes n0 x1 x2 x3 a1 a2 a3 c1 c2 c3 w P1 P2 P3 (by omega) (by omega) (by omega) hA hB hC hD
end Go.Proofs.YtgkbbpajkbkgnaaGreatDoor
