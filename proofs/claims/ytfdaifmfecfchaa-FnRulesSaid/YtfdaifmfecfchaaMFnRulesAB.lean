/-
  FnRules: texts joined: Fin, AbsF, Dot, MarkI, MarkF, RowsO.
-/
import Derived.Laws.BitsAllLaws
import Derived.Deep.RegionHeld3
import Derived.Test.YtfdaifmfecfchaaMFnRulesAA
namespace Go.Proofs.Ytfdaifmfecfchaa
open Go.RowKit

theorem drewN_one (w : World) : w.drew = w.drewN 1 := rfl
theorem ord00 : FloatKind.f32.format.order 0 0 = some .eq := by decide +kernel

theorem IsFinite_any (x : Nat) (w : World) : Calls Try.prog 65 #[.float .f32 x] w fun e w' => e = .returned (.bool (fin32 x)) ∧ ∃ m, w' = w.drewN m := by
  by_cases h : fin32 x = true
  · have hs := fun (W : World) => run_sub_some (P := Try.prog) 53 x x 0 (sub_fin h) W
    have h0 := ord00
    rw [h]
    clear h
    go_enter Try.func65, Try.ntmps65
    go_wp2_with fail
    go_ret
    exact ⟨rfl, 0, rfl⟩
  · rw [Bool.not_eq_true] at h
    have hs := fun (W : World) => run_sub_none (P := Try.prog) 53 x x (sub_not h) W
    have h0 := fun (W : World) => (show FloatKind.f32.format.order (tape32 (.nanBits .f32 x x) W) 0 = none from order_nanL _ _ _ (tape32_nan x x W))
    rw [h]
    clear h
    go_enter Try.func65, Try.ntmps65
    go_wp2_with fail
    go_ret
    exact ⟨rfl, 1, rfl⟩
def allFin (xs : List Nat) : Bool := xs.all fin32
theorem allFin_yes {xs : List Nat} (h : ∀ i, i < xs.length → fin32 (xs.getD i 0) = true) : allFin xs = true := by
  unfold allFin; rw [List.all_eq_true]
  intro x hx
  obtain ⟨i, hi, rfl⟩ := List.getElem_of_mem hx
  have := h i hi
  simpa [hi] using this
theorem allFin_no {xs : List Nat} {i : Nat} (hi : i < xs.length) (h : fin32 (xs.getD i 0) = false) : allFin xs = false := by
  unfold allFin; rw [List.all_eq_false]
  refine ⟨xs[i], List.getElem_mem hi, ?_⟩
  have : xs.getD i 0 = xs[i] := by simp [hi]
  rw [this] at h
  simp [h]
theorem allFin_get {xs : List Nat} (h : allFin xs = true) {i : Nat} (hi : i < xs.length) : fin32 (xs.getD i 0) = true := by
  unfold allFin at h
  rw [List.all_eq_true] at h
  have : xs.getD i 0 = xs[i] := by simp [hi]
  rw [this]
  exact h _ (List.getElem_mem hi)

theorem drewN_then {w a b : World} (h1 : ∃ m, a = w.drewN m) (h2 : ∃ m, b = a.drewN m) : ∃ m, b = w.drewN m := by
  obtain ⟨m, rfl⟩ := h1
  obtain ⟨n, rfl⟩ := h2
  exact ⟨m + n, World.drewN_drewN _ _ _⟩
theorem rdF_drew {w a : World} {v : Value} {xs : List Nat} (h : RdF w v xs) (hd : ∃ m, a = w.drewN m) : RdF a v xs := by
  obtain ⟨m, rfl⟩ := hd
  exact h.drewN m

set_option maxHeartbeats 400000 in
theorem areFinite_any (v : Value) (xs : List Nat) (w : World) (h : RdF w v xs) :
    Calls Try.prog 71 #[v] w fun e w' => e = .returned (.bool (allFin xs)) ∧ ∃ m, w' = w.drewN m := by
  obtain ⟨a, c, rfl⟩ := h.shape
  have hl := h.len
  unfold maxLen at hl
  have HS := Lib.hid h
  clear h
  go_enter Try.func71, Try.ntmps71
  go_wp2_with fail
  go_loopw [7] (fun i wr => ∃ k : Nat, i = .int .i64 k ∧ k ≤ xs.length ∧ Hid (∀ j, j < k → fin32 (xs.getD j 0) = true) ∧ Hid (∃ m, wr = w.drewN m)) (fun i _ => xs.length - (intOf i).toNat)
  case atStart => exact ⟨0, rfl, Nat.zero_le _, fun j hj => by omega, 0, rfl⟩
  case round =>
    obtain ⟨k, rfl, hk, hall, hd⟩ := hrel
    by_cases hlt : k < xs.length
    · obtain ⟨b, off, rfl, _, hc⟩ := (rdF_drew HS.out hd.out).at hlt
      obtain ⟨x, hx⟩ : ∃ x, x = xs.getD k 0 := ⟨_, rfl⟩
      rw [← hx] at hc
      have HX := Lib.hid hx
      clear hx
      go_wp2_with fail
      refine (IsFinite_any x wr).mono ?_
      rintro e w1 ⟨rfl, hd1⟩
      have HD := Lib.hid (drewN_then hd.out hd1)
      clear hd1 hc
      by_cases hf : fin32 x = true
      · rw [hf]
        go_wp2_with fail
        go_roundw
        case rel => exact ⟨k + 1, by go_num, by omega, fun j hj => by
          rcases Nat.lt_succ_iff_lt_or_eq.1 hj with h | rfl
          · exact hall.out j h
          · rw [← HX.out]; exact hf, HD.out⟩
        case measure => simp [intOf]; omega
      · rw [Bool.not_eq_true] at hf
        rw [hf]
        have HF := Lib.hid (allFin_no hlt (by rw [← HX.out]; exact hf))
        go_wp2_with fail
        go_ret
        exact ⟨by rw [HF.out]; rfl, HD.out⟩
    · obtain rfl : k = xs.length := by omega
      go_wp2_with fail
      go_ret
      exact ⟨by rw [allFin_yes hall.out]; rfl, hd.out⟩

theorem areFinite_qs (v : Value) (xs : List Nat) (w : World) (n : Nat) (h : RdF w v xs) :
    Calls Try.prog 71 #[v] (w.drewN n) fun e w'' => e = .returned (.bool (allFin xs)) ∧ ∃ m, w'' = w.drewN m := by
  refine (areFinite_any v xs _ (h.drewN n)).mono ?_
  rintro e w' ⟨rfl, hd⟩
  exact ⟨rfl, drewN_then ⟨n, rfl⟩ hd⟩

/-- At least nothing. -/
def geq0 (x : Nat) : Bool := FloatKind.f32.format.order x 0 == some .gt || FloatKind.f32.format.order x 0 == some .eq
def least (x : Nat) : Bool := fin32 x && geq0 x
theorem lt_geq {x : Nat} (h : fin32 x = true) : (FloatKind.f32.format.order x 0 == some .lt) = !geq0 x := by
  unfold geq0
  have e : ∃ o, FloatKind.f32.format.order x 0 = some o := by
    unfold fin32 at h
    show ∃ o, Ieee.Format.order Ieee.single x 0 = some o
    unfold Ieee.Format.order
    have e0 : Ieee.single.read 0 = .number false 0 (-149) := by decide +kernel
    rw [e0]
    cases hr : Ieee.single.read x with
    | nan a b => rw [hr] at h; simp at h
    | infinity s => rw [hr] at h; simp at h
    | number s m e => exact ⟨_, rfl⟩
  obtain ⟨o, ho⟩ := e
  rw [ho]
  cases o <;> rfl

end Go.Proofs.Ytfdaifmfecfchaa

namespace Go.Proofs.Ytfdaifmfecfchaa
open Go.RowKit

def abs32 (x : Nat) : Nat := x % 2147483648

theorem read32_parts {x : Nat} (h : fin32 x = true) : ∃ s m e, Ieee.single.read x = .number s m e ∧ s = (x / 2147483648 % 2 == 1) ∧ m < 16777216 ∧ -149 ≤ e ∧ e ≤ 104 ∧ abs32 x < 2139095040 ∧ (e + 149).toNat * 8388608 + m = abs32 x ∧ (m < 8388608 → e = -149) := by
  unfold fin32 at h
  unfold Ieee.Format.read at h ⊢
  unfold abs32
  have c1 : Ieee.single.signWeight = 2147483648 := rfl
  have c2 : Ieee.single.binade = 8388608 := rfl
  have c3 : Ieee.single.infRung = 2139095040 := rfl
  have c4 : Ieee.single.leastPlace = -149 := by decide +kernel
  simp only [c1, c2, c3, c4] at h ⊢
  by_cases h1 : x % 2147483648 < 8388608
  · rw [if_pos h1]
    exact ⟨_, _, _, rfl, rfl, by omega, by omega, by omega, by omega, by omega, by omega⟩
  · rw [if_neg h1] at h ⊢
    by_cases h2 : x % 2147483648 < 2139095040
    · rw [if_pos h2]
      exact ⟨_, _, _, rfl, rfl, by omega, by omega, by omega, h2, by omega, by omega⟩
    · rw [if_neg h2] at h
      by_cases h3 : x % 2147483648 = 2139095040
      · rw [if_pos h3] at h; simp at h
      · rw [if_neg h3] at h; simp at h

theorem log2_shift (m a : Nat) (h : m ≠ 0) : (m <<< a).log2 = m.log2 + a := by
  rw [Nat.shiftLeft_eq]
  have h1 := Nat.lt_log2_self (n := m)
  have h2 := Nat.log2_self_le h
  have hp := Nat.two_pow_pos a
  refine (Nat.log2_eq_iff (by have := Nat.mul_pos (by omega : 0 < m) hp; omega)).2 ⟨?_, ?_⟩
  · rw [Nat.pow_add]; exact Nat.mul_le_mul_right _ h2
  · rw [show m.log2 + a + 1 = (m.log2 + 1) + a by omega, Nat.pow_add]; exact Nat.mul_lt_mul_of_pos_right h1 hp

theorem cut_back (t : Bool) (m a : Nat) (h : m ≠ 0) : Ieee.Toward.even.cut t (m <<< a) a = m := by
  unfold Ieee.Toward.cut
  rw [log2_shift m a h, show min a (m.log2 + a + 2) = a by omega]
  have hp := Nat.two_pow_pos a
  simp only [Nat.shiftLeft_eq, Nat.one_mul, Nat.mul_mod_left, Nat.mul_div_left _ hp]
  have e1 : decide (2 ^ a < 2 * 0) = false := by simp
  have e2 : (2 ^ a == 2 * 0) = false := by simp
  simp [e1, e2]

/-- What is read is written back, at any place. -/
theorem nearest_back {x : Nat} (hx : fin32 x = true) {s : Bool} {m : Nat} {e : Int} (hr : Ieee.single.read x = .number s m e) (t : Bool) (a : Nat) (e' : Int) (he : e' = e - a) :
    Ieee.single.nearest t (m <<< a) e' = Ieee.single.word t (abs32 x) := by
  obtain ⟨s', m', e2, h0, h1, h2, h3, h4, h5, h6, h7⟩ := read32_parts hx
  rw [hr] at h0
  cases h0
  unfold Ieee.Format.nearest
  by_cases hm : m = 0
  · subst hm
    rw [if_pos (by simp)]
    have : abs32 x = 0 := by have := h7 (by omega); omega
    rw [this]
  have hm' : m <<< a ≠ 0 := by rw [Nat.shiftLeft_eq]; have := Nat.mul_pos (show 0 < m by omega) (Nat.two_pow_pos a); omega
  rw [if_neg hm', log2_shift m a hm]
  have c2 : Ieee.single.binade = 8388608 := rfl
  have c3 : Ieee.single.infRung = 2139095040 := rfl
  have c4 : Ieee.single.leastPlace = -149 := by decide +kernel
  have c5 : Ieee.single.fractionBits = 23 := rfl
  have hl : max (e' + ((m.log2 + a : Nat) : Int) - (23 : Nat)) (-149) = e := by
    by_cases hs : m < 8388608
    · have h8 := h7 hs
      have : m.log2 < 23 := (Nat.log2_lt hm).2 (by omega)
      omega
    · have g1 : m.log2 < 24 := (Nat.log2_lt hm).2 (by omega)
      have g2 : ¬ m.log2 < 23 := fun h => by have := (Nat.log2_lt hm).1 h; omega
      omega
  simp only [c2, c3, c4, c5, hl]
  rw [show (e' - e).toNat = 0 by omega, show (e - e').toNat = a by omega, Nat.shiftLeft_zero, cut_back t m a hm]
  rw [show (e - -149).toNat = (e + 149).toNat by omega, h6, Nat.min_eq_left (by omega)]

theorem cut64 (s : Bool) (K : Nat) : Ieee.Toward.even.cut s K 0 = K := by
  unfold Ieee.Toward.cut
  simp [Nat.mod_one]
/-- Of double precision: what was a number of single precision. -/
theorem double_of {s : Bool} {m : Nat} {e : Int} (hm : m < 16777216) (h1 : -149 ≤ e) (h2 : e ≤ 104) :
    ∃ r a e', r < 9218868437227405312 ∧ Ieee.double.nearest s m e = Ieee.double.word s r ∧ Ieee.double.read r = .number false (m <<< a) e' ∧ (m ≠ 0 → e' = e - a) := by
  unfold Ieee.Format.nearest
  have c1 : Ieee.double.signWeight = 9223372036854775808 := rfl
  have c2 : Ieee.double.binade = 4503599627370496 := rfl
  have c3 : Ieee.double.infRung = 9218868437227405312 := rfl
  have c4 : Ieee.double.leastPlace = -1074 := by decide +kernel
  have c5 : Ieee.double.fractionBits = 52 := rfl
  by_cases h0 : m = 0
  · rw [if_pos h0]
    refine ⟨0, 0, -1074, by decide, rfl, ?_, fun h => absurd h0 h⟩
    subst h0
    decide +kernel
  · rw [if_neg h0]
    have hl : m.log2 ≤ 23 := by
      have : m.log2 < 24 := (Nat.log2_lt h0).2 (by omega)
      omega
    have hlt : m < 2 ^ (m.log2 + 1) := Nat.lt_log2_self
    have hge : 2 ^ m.log2 ≤ m := Nat.log2_self_le h0
    have hlast : max (e + (m.log2 : Int) - (52 : Nat)) (-1074) = e + m.log2 - 52 := by omega
    simp only [c2, c3, c4, c5, hlast]
    have ha : (e - (e + (m.log2 : Int) - 52)).toNat = 52 - m.log2 := by omega
    have hb : (e + (m.log2 : Int) - 52 - e).toNat = 0 := by omega
    rw [ha, hb]
    have hk : m <<< (52 - m.log2) < 9007199254740992 := by
      rw [Nat.shiftLeft_eq]
      have : m * 2 ^ (52 - m.log2) < 2 ^ (m.log2 + 1) * 2 ^ (52 - m.log2) := Nat.mul_lt_mul_of_pos_right hlt (Nat.two_pow_pos _)
      rw [← Nat.pow_add, show m.log2 + 1 + (52 - m.log2) = 53 by omega] at this
      exact this
    have hk2 : 4503599627370496 ≤ m <<< (52 - m.log2) := by
      rw [Nat.shiftLeft_eq]
      have : 2 ^ m.log2 * 2 ^ (52 - m.log2) ≤ m * 2 ^ (52 - m.log2) := Nat.mul_le_mul_right _ hge
      rw [← Nat.pow_add, show m.log2 + (52 - m.log2) = 52 by omega] at this
      exact this
    rw [cut64]
    obtain ⟨K, hK⟩ : ∃ K, K = m <<< (52 - m.log2) := ⟨_, rfl⟩
    rw [← hK] at hk hk2 ⊢
    obtain ⟨Q, hQ⟩ : ∃ Q, Q = (e + (m.log2 : Int) - 52 - -1074).toNat := ⟨_, rfl⟩
    rw [← hQ]
    have hQ1 : Q ≤ 1149 := by omega
    have hQ2 : (Q : Int) = e + m.log2 + 1022 := by omega
    have hlt2 : Q * 4503599627370496 + K < 9218868437227405312 := by
      have := near_aux Q K hQ1 hk
      omega
    rw [Nat.min_eq_left (by omega)]
    refine ⟨_, 52 - m.log2, e + m.log2 - 52, hlt2, rfl, ?_, fun _ => by omega⟩
    unfold Ieee.Format.read
    simp only [c1, c2, c3, c4]
    have q1 : (Q * 4503599627370496 + K) / 9223372036854775808 % 2 = 0 := by omega
    have q2 : (Q * 4503599627370496 + K) % 9223372036854775808 = Q * 4503599627370496 + K := by omega
    rw [q1, q2, if_neg (by omega), if_pos hlt2, ← hK]
    have q3 : (Q * 4503599627370496 + K) % 4503599627370496 = K - 4503599627370496 := by omega
    have q4 : (Q * 4503599627370496 + K) / 4503599627370496 = Q + 1 := by omega
    rw [q3, q4, show 4503599627370496 + (K - 4503599627370496) = K by omega, show (-1074 : Int) + ((Q + 1 - 1 : Nat) : Int) = e + m.log2 - 52 by omega]
    rfl

theorem andNot_top (s : Bool) (r : Nat) (h : r < 9218868437227405312) : bits .andNot .u64 ((Ieee.double.word s r : Nat) : Int) 9223372036854775808 = (r : Int) := by
  have c1 : Ieee.double.signWeight = 9223372036854775808 := rfl
  have hw : Ieee.double.word s r < 18446744073709551616 := by unfold Ieee.Format.word; rw [c1]; split <;> omega
  have h2 := u64_andNot_nat (Ieee.double.word s r) 9223372036854775808 hw (by omega)
  rw [show ((9223372036854775808 : Nat) : Int) = 9223372036854775808 from rfl] at h2
  rw [h2, show 18446744073709551615 - 9223372036854775808 = 2 ^ 63 - 1 from rfl, Nat.and_two_pow_sub_one_eq_mod]
  unfold Ieee.Format.word
  rw [c1]
  congr 1
  split <;> omega

theorem conv_up {x : Nat} (hx : fin32 x = true) : ∃ s r a m e e', r < 9218868437227405312 ∧ floatToFloatBits .f32 x .f64 = some (Ieee.double.word s r) ∧ Ieee.single.read x = .number s m e ∧ Ieee.double.read r = .number false (m <<< a) e' ∧ (m ≠ 0 → e' = e - a) := by
  obtain ⟨s, m, e, h0, h1, h2, h3, h4, h5, h6, h7⟩ := read32_parts hx
  obtain ⟨r, a, e', b1, b2, b3, b4⟩ := double_of (s := s) h2 h3 h4
  refine ⟨s, r, a, m, e, e', b1, ?_, h0, b3, b4⟩
  unfold floatToFloatBits
  rw [if_neg (by decide), show FloatKind.f32.decode x = Ieee.single.read x from rfl, h0]
  have b5 : FloatKind.f64.encode (.number s m e) = Ieee.double.word s r := b2
  have b6 := read_word64 s r b1
  simp only [b5]
  rw [if_neg (by rw [show FloatKind.f64.decode (Ieee.double.word s r) = Ieee.double.read (Ieee.double.word s r) from rfl, b6.2]; simp)]

theorem abs_fin {x : Nat} (hx : fin32 x = true) : fin32 (abs32 x) = true := by
  obtain ⟨s, m, e, h0, h1, h2, h3, h4, h5, h6, h7⟩ := read32_parts hx
  unfold fin32 Ieee.Format.read
  have c1 : Ieee.single.signWeight = 2147483648 := rfl
  have c2 : Ieee.single.binade = 8388608 := rfl
  have c3 : Ieee.single.infRung = 2139095040 := rfl
  simp only [c1, c2, c3]
  have q : abs32 x % 2147483648 = abs32 x := by omega
  rw [q]
  by_cases h1 : abs32 x < 8388608
  · rw [if_pos h1]
  · rw [if_neg h1, if_pos h5]
theorem conv_down {x : Nat} (hx : fin32 x = true) {s : Bool} {m r a : Nat} {e e' : Int} (h0 : Ieee.single.read x = .number s m e) (h1 : Ieee.double.read r = .number false (m <<< a) e') (h2 : m ≠ 0 → e' = e - a) :
    floatToFloatBits .f64 r .f32 = some (abs32 x) := by
  unfold floatToFloatBits
  rw [if_neg (by decide), show FloatKind.f64.decode r = Ieee.double.read r from rfl, h1]
  have hn : Ieee.single.nearest false (m <<< a) e' = abs32 x := by
    by_cases hm : m = 0
    · obtain ⟨s', m', e2, g0, g1, g2, g3, g4, g5, g6, g7⟩ := read32_parts hx
      rw [h0] at g0
      cases g0
      subst hm
      have := g7 (by omega)
      unfold Ieee.Format.nearest
      rw [if_pos (by simp)]
      show 0 = abs32 x
      omega
    · have := nearest_back hx h0 false a e' (h2 hm)
      rw [this]; rfl
  have b5 : FloatKind.f32.encode (.number false (m <<< a) e') = abs32 x := hn
  simp only [b5]
  have hf := abs_fin hx
  have : (FloatKind.f32.decode (abs32 x)).isInfinity = false := by
    show (Ieee.single.read (abs32 x)).isInfinity = false
    unfold fin32 at hf
    cases h : Ieee.single.read (abs32 x) with
    | number => rfl
    | infinity => rw [h] at hf; simp at hf
    | nan => rw [h] at hf; simp at hf
  rw [if_neg (by rw [this]; simp)]

end Go.Proofs.Ytfdaifmfecfchaa

namespace Go.Proofs.Ytfdaifmfecfchaa
open Go.RowKit

/-- The sum of the first k products; none where it is no number. -/
def dotO (a b : List Nat) : Nat → Option Nat
  | 0 => some 0
  | k + 1 => (dotO a b k).bind fun s => (Ieee.single.mul (a.getD k 0) (b.getD k 0)).bind fun p => Ieee.single.add s p
/-- The bits are those told, or some NaN where none are. -/
def Mt (o : Option Nat) (s : Nat) : Prop := (∀ r, o = some r → s = r) ∧ (o = none → nan32 s = true)
def finO (o : Option Nat) : Bool := match o with
  | some r => fin32 r
  | none => false

theorem drewN_on {w W : World} (h : ∃ m, W = w.drewN m) (n : Nat) : ∃ m, W.drewN n = w.drewN m := by obtain ⟨m, rfl⟩ := h; exact ⟨m + n, World.drewN_drewN _ _ _⟩
theorem fin_of_nan {x : Nat} (h : nan32 x = true) : fin32 x = false := by
  unfold nan32 at h
  unfold fin32
  cases hr : Ieee.single.read x with
  | nan a b => rfl
  | infinity s => rfl
  | number s m e => rw [hr] at h; simp [Ieee.Datum.isNaN] at h
theorem Mt.fin {o : Option Nat} {s : Nat} (h : Mt o s) : fin32 s = finO o := by
  cases o with
  | none => exact fin_of_nan (h.2 rfl)
  | some r => rw [h.1 r rfl]; rfl
theorem Mt.of_some {r s : Nat} (h : Mt (some r) s) : s = r := h.1 r rfl
theorem Mt.some' (r : Nat) : Mt (some r) r := ⟨fun _ h => (Option.some.inj h), fun h => nomatch h⟩
theorem mul_fin {x y : Nat} (hx : fin32 x = true) (hy : fin32 y = true) : ∃ p, Ieee.single.mul x y = some p := by
  unfold fin32 at hx hy
  unfold Ieee.Format.mul
  cases hr : Ieee.single.read x with
  | nan a b => rw [hr] at hx; simp at hx
  | infinity s => rw [hr] at hx; simp at hx
  | number s m e =>
    cases hq : Ieee.single.read y with
    | nan a b => rw [hq] at hy; simp at hy
    | infinity s => rw [hq] at hy; simp at hy
    | number s' m' e' => exact ⟨_, rfl⟩
theorem add_nanL {x y : Nat} (h : nan32 x = true) : Ieee.single.add x y = none := by
  unfold nan32 at h
  unfold Ieee.Format.add
  cases hr : Ieee.single.read x with
  | nan a b => simp [Ieee.Datum.sum]
  | infinity s => rw [hr] at h; simp [Ieee.Datum.isNaN] at h
  | number s m e => rw [hr] at h; simp [Ieee.Datum.isNaN] at h
theorem Mt_some {a b : List Nat} {k s p r : Nat} (h : Mt (dotO a b k) s) (hp : Ieee.single.mul (a.getD k 0) (b.getD k 0) = some p) (hr : Ieee.single.add s p = some r) : Mt (dotO a b (k + 1)) r := by
  cases hd : dotO a b k with
  | none => rw [hd] at h; rw [add_nanL (h.2 rfl)] at hr; cases hr
  | some s' =>
    rw [hd] at h
    rw [h.of_some] at hr
    simp only [dotO, hd, Option.bind_some, hp, hr]
    exact Mt.some' r
theorem Mt_none {a b : List Nat} {k s p : Nat} (h : Mt (dotO a b k) s) (hp : Ieee.single.mul (a.getD k 0) (b.getD k 0) = some p) (hr : Ieee.single.add s p = none) (q : Nat) (hq : nan32 q = true) : Mt (dotO a b (k + 1)) q := by
  have : dotO a b (k + 1) = none := by
    cases hd : dotO a b k with
    | none => simp only [dotO, hd, Option.bind_none]
    | some s' =>
      rw [hd] at h
      rw [h.of_some] at hr
      simp only [dotO, hd, Option.bind_some, hp, hr]
  rw [this]
  exact ⟨fun r h => by simp at h, fun _ => hq⟩

theorem run_mul_some {P : Program} (t : TypeId) (x y r : Nat) (h : Ieee.single.mul x y = some r) (w : World) :
    (binOp .mul t (.float .f32 x) (.float .f32 y)).run P w = .ok (.float .f32 r) w := run_float_arith w .mul t .f32 x y r h
theorem run_add_some {P : Program} (t : TypeId) (x y r : Nat) (h : Ieee.single.add x y = some r) (w : World) :
    (binOp .add t (.float .f32 x) (.float .f32 y)).run P w = .ok (.float .f32 r) w := run_float_arith w .add t .f32 x y r h
theorem run_add_none {P : Program} (t : TypeId) (x y : Nat) (h : Ieee.single.add x y = none) (w : World) :
    (binOp .add t (.float .f32 x) (.float .f32 y)).run P w = .ok (.float .f32 (tape32 (.nanBits .f32 x y) w)) w.drew := by
  have h' : FloatKind.f32.format.add x y = none := h
  simp [binOp, Op.floatArith, h', tape32, Question.forced, Result.andThen]

set_option maxHeartbeats 2000000 in
theorem dot_any (v u : Value) (x y : List Nat) (w : World) (h : RdF w v x) (hu : RdF w u y) (hxy : x.length ≤ y.length) (fx : allFin x = true) (fy : allFin y = true) :
    Calls Try.prog 87 #[v, u] w fun e w' => ∃ s, e = .returned (.float .f32 s) ∧ Mt (dotO x y x.length) s ∧ ∃ m, w' = w.drewN m := by
  obtain ⟨a, c, rfl⟩ := h.shape
  obtain ⟨a', c', rfl⟩ := hu.shape
  have hm := h.len
  simp only [maxLen] at hm
  have H1 := Lib.hid h
  have H2 := Lib.hid hu
  have FX := Lib.hid fx
  have FY := Lib.hid fy
  clear h hu fx fy
  go_enter Try.func87, Try.ntmps87
  go_wp2_with fail
  go_loopw [5, 9] (fun sv i wr => ∃ k s : Nat, i = .int .i64 k ∧ k ≤ x.length ∧ sv = .float .f32 s ∧ Hid (Mt (dotO x y k) s) ∧ Hid (∃ n, wr = w.drewN n)) (fun _ i _ => x.length - (intOf i).toNat)
  case atStart => exact ⟨0, 0, rfl, Nat.zero_le _, rfl, Mt.some' 0, 0, rfl⟩
  case round =>
    obtain ⟨k, s, rfl, hk, rfl, hmt, hw⟩ := hrel
    by_cases hlt : k < x.length
    · have hlt2 : k < y.length := by omega
      obtain ⟨b, off, rfl, hb, hc⟩ := (rdF_drew H1.out hw.out).at hlt
      obtain ⟨b', off', rfl, hb', hc'⟩ := (rdF_drew H2.out hw.out).at hlt2
      have hlt2' : (k : Int) < y.length := by omega
      obtain ⟨p, hp⟩ := mul_fin (allFin_get FX.out hlt) (allFin_get FY.out hlt2)
      have hmul := fun (W : World) => run_mul_some (P := Try.prog) 53 _ _ p hp W
      have HP := Lib.hid hp
      clear hp
      generalize hx0 : x.getD k 0 = x0 at *
      generalize hy0 : y.getD k 0 = y0 at *
      have HX := Lib.hid hx0
      have HY := Lib.hid hy0
      clear hx0 hy0
      cases hq : Ieee.single.add s p with
      | some r =>
        have hadd := fun (W : World) => run_add_some (P := Try.prog) 53 _ _ r hq W
        have HQ := Lib.hid hq
        clear hq
        go_wp2_with fail
        go_quiet (fail)
        go_wp2_with fail
        go_roundw
        case rel => exact ⟨k + 1, r, by go_num, by omega, rfl, Mt_some hmt.out (by rw [HX.out, HY.out]; exact HP.out) HQ.out, drewN_on hw.out _⟩
        case measure => simp [intOf]; omega
      | none =>
        have hadd := fun (W : World) => run_add_none (P := Try.prog) 53 _ _ hq W
        have HQ := Lib.hid hq
        clear hq
        go_wp2_with fail
        go_region_with (fail)
        all_goals
          go_wp2_with fail
          go_roundw
          case rel => exact ⟨k + 1, _, by go_num, by omega, rfl, Mt_none hmt.out (by rw [HX.out, HY.out]; exact HP.out) HQ.out _ (tape32_nan _ _ _), drewN_on (drewN_on hw.out 1) 1⟩
          case measure => simp [intOf]; omega
    · obtain rfl : k = x.length := by omega
      go_wp2_with fail
      go_ret
      exact ⟨s, rfl, hmt.out, hw.out⟩

end Go.Proofs.Ytfdaifmfecfchaa

namespace Go.Proofs.Ytfdaifmfecfchaa
open Go.RowKit

theorem mark_set {xs : List Int} {k : Int} {j : Nat} (hj : j < xs.length) :
    ((mkI k j ++ xs.drop j).map I64).set j (.int .i64 (k + j)) = (mkI k (j + 1) ++ xs.drop (j + 1)).map I64 := by
  rw [List.drop_eq_getElem_cons hj, List.map_append, List.map_cons, set_mid _ _ _ _ _ (by simp [mkI])]
  simp [mkI, List.range_succ, I64]

theorem owns_slice_some {w : World} {lo : Nat} {e : TypeId} {a : Option Addr} {n cap : Nat} {vs : List Value} (h : w.ownsRow lo e 1 (.slice a n cap) n vs) (hn : 0 < n) : ∃ g, a = some ⟨g, 0, none⟩ ∧ lo ≤ g := by
  rcases h.2 with ⟨e1, e2⟩ | ⟨g, cap', cur, e1, hb, _⟩
  · omega
  · simp only [Value.slice.injEq] at e1
    exact ⟨g, e1.1, hb⟩

def cntI (xs : List Int) : Nat := xs.length
theorem cntI_le (xs : List Int) : cntI xs ≤ bulkI xs := Nat.le_refl _
def mkdI (k : Int) (xs : List Int) : List Int := mkI k xs.length

end Go.Proofs.Ytfdaifmfecfchaa

namespace Go.Proofs.Ytfdaifmfecfchaa
open Go.RowKit

/-- What is left behind the marks. -/
def mkF (k : Int) (n : Nat) : List Nat := (List.range n).map fun (i : Nat) => floatOfInt .f32 (k + i)
theorem mkF_len (k : Int) (n : Nat) : (mkF k n).length = n := by simp [mkF]
def cntF (xs : List Nat) : Nat := xs.length
theorem cntF_le (xs : List Nat) : cntF xs ≤ bulkF xs := Nat.le_refl _
def mkdF (k : Int) (xs : List Nat) : List Nat := mkF k xs.length

theorem markF_set {k : Int} {xs : List Nat} {j : Nat} (hj : j < xs.length) : ((mkF k j ++ xs.drop j).map F32).set j (.float .f32 (floatOfInt .f32 (k + j))) = (mkF k (j + 1) ++ xs.drop (j + 1)).map F32 := by
  have e : xs.drop j = xs[j] :: xs.drop (j + 1) := List.drop_eq_getElem_cons hj
  rw [e, List.map_append, List.map_cons, set_mid _ _ _ _ _ (by simp [mkF]), List.map_append]
  simp [mkF, List.range_succ, F32]

theorem OwnF.blk {lo hi : Nat} {w : World} {v : Value} {xs : List Nat} (h : OwnF lo hi w v xs) {b : Nat} (hb : v.ownBlock = some b) : lo ≤ b ∧ b < hi := ⟨(owns_lt h.1 hb).1, h.2 b hb⟩

/-! ### Held -/

theorem read_word32 (s : Bool) (r : Nat) (h : r ≤ 2139095040) : (Ieee.single.read (Ieee.single.word s r)).isNaN = false := by
  have c1 : Ieee.single.signWeight = 2147483648 := rfl
  have c2 : Ieee.single.binade = 8388608 := rfl
  have c3 : Ieee.single.infRung = 2139095040 := rfl
  have e : (Ieee.single.word s r) % 2147483648 = r := by
    unfold Ieee.Format.word
    rw [c1]
    cases s <;> simp <;> omega
  unfold Ieee.Format.read
  simp only [c1, c2, c3, e]
  split
  · rfl
  · split
    · rfl
    · rw [if_pos (by omega)]; rfl
theorem nearest_nan (s : Bool) (m : Nat) (e : Int) : (Ieee.single.read (Ieee.single.nearest s m e)).isNaN = false := by
  unfold Ieee.Format.nearest
  split
  · exact read_word32 _ _ (by omega)
  · exact read_word32 _ _ (Nat.min_le_right _ _)
theorem ofInt_nan (n : Int) : (Ieee.single.read (floatOfInt .f32 n)).isNaN = false := nearest_nan _ _ _

end Go.Proofs.Ytfdaifmfecfchaa

namespace Go.Proofs.Ytfdaifmfecfchaa
open Go.RowKit

structure RowsD where
  vars : Int
  nums : List Nat
  bnds : List Nat
  gains : List Nat

def RdR (w : World) (v : Value) (r : RowsD) : Prop := ∃ va vb vc, v = .agg #[.int .i64 r.vars, va, vb, vc] ∧ RdF w va r.nums ∧ RdF w vb r.bnds ∧ RdF w vc r.gains
def OwnR (lo hi : Nat) (w : World) (v : Value) (r : RowsD) : Prop := ∃ va vb vc, v = .agg #[.int .i64 r.vars, va, vb, vc] ∧ OwnF lo hi w va r.nums ∧ OwnF lo hi w vb r.bnds ∧ OwnF lo hi w vc r.gains ∧ (∀ g, va.ownBlock = some g → vb.ownBlock ≠ some g) ∧ (∀ g, va.ownBlock = some g → vc.ownBlock ≠ some g) ∧ (∀ g, vb.ownBlock = some g → vc.ownBlock ≠ some g)
def bulkR (r : RowsD) : Nat := r.nums.length + r.bnds.length + r.gains.length
def cntR (r : RowsD) : Nat := r.nums.length + r.bnds.length + r.gains.length
theorem cntR_le (r : RowsD) : cntR r ≤ bulkR r := Nat.le_refl _

theorem RdR.shape {w : World} {v : Value} {r : RowsD} (h : RdR w v r) : ∃ a1 c1 a2 c2 a3 c3, v = .agg #[.int .i64 r.vars, .slice a1 r.nums.length c1, .slice a2 r.bnds.length c2, .slice a3 r.gains.length c3] := by
  obtain ⟨va, vb, vc, rfl, h1, h2, h3⟩ := h
  obtain ⟨a1, c1, rfl⟩ := h1.shape
  obtain ⟨a2, c2, rfl⟩ := h2.shape
  obtain ⟨a3, c3, rfl⟩ := h3.shape
  exact ⟨_, _, _, _, _, _, rfl⟩
theorem RdR.parts {w : World} {x0 x y z : Value} {r : RowsD} (h : RdR w (.agg #[x0, x, y, z]) r) : RdF w x r.nums ∧ RdF w y r.bnds ∧ RdF w z r.gains := by
  obtain ⟨va, vb, vc, e, h1, h2, h3⟩ := h
  simp only [Value.agg.injEq, Array.mk.injEq, List.cons.injEq, and_true] at e
  obtain ⟨_, rfl, rfl, rfl⟩ := e
  exact ⟨h1, h2, h3⟩
theorem RdR.up {w w' : World} {v : Value} {r : RowsD} {B : Nat} (h : RdR w v r) (hb : Below B w w') (hB : w.heap.size ≤ B) : RdR w' v r := by
  obtain ⟨va, vb, vc, e, h1, h2, h3⟩ := h
  exact ⟨va, vb, vc, e, h1.up hb hB, h2.up hb hB, h3.up hb hB⟩
theorem OwnR.rd {lo hi : Nat} {w : World} {v : Value} {r : RowsD} (h : OwnR lo hi w v r) : RdR w v r := by
  obtain ⟨va, vb, vc, e, h1, h2, h3, _⟩ := h
  exact ⟨va, vb, vc, e, h1.rd, h2.rd, h3.rd⟩
theorem OwnR.up {lo hi : Nat} {w w' : World} {v : Value} {r : RowsD} {B : Nat} (h : OwnR lo hi w v r) (hb : Below B w w') (hB : w.heap.size ≤ B) : OwnR lo hi w' v r := by
  obtain ⟨va, vb, vc, e, h1, h2, h3, h4⟩ := h
  exact ⟨va, vb, vc, e, h1.up hb hB, h2.up hb hB, h3.up hb hB, h4⟩
theorem OwnR.wide {lo hi lo' hi' : Nat} {w : World} {v : Value} {r : RowsD} (h : OwnR lo hi w v r) (a : lo' ≤ lo) (b : hi ≤ hi') : OwnR lo' hi' w v r := by
  obtain ⟨va, vb, vc, e, h1, h2, h3, h4⟩ := h
  exact ⟨va, vb, vc, e, h1.wide a b, h2.wide a b, h3.wide a b, h4⟩
theorem OwnR.kept {lo hi : Nat} {w w' : World} {v : Value} {r : RowsD} {S : Nat → Prop} (h : OwnR lo hi w v r) (hk : Kept S w w') (hs : ∀ b, lo ≤ b → b < hi → ¬ S b) : OwnR lo hi w' v r := by
  obtain ⟨va, vb, vc, e, h1, h2, h3, h4⟩ := h
  exact ⟨va, vb, vc, e, h1.kept hk hs, h2.kept hk hs, h3.kept hk hs, h4⟩

def mkdR (k : Int) (r : RowsD) : RowsD := ⟨r.vars, mkF k r.nums.length, mkF (k + r.nums.length) r.bnds.length, mkF (k + r.nums.length + r.bnds.length) r.gains.length⟩

theorem keptF {lo hi : Nat} {w w' : World} {v u : Value} {xs : List Nat} (h : OwnF lo hi w v xs) (hk : Kept (fun b => u.ownBlock = some b) w w') (hn : ∀ g, v.ownBlock = some g → u.ownBlock ≠ some g) : OwnF lo hi w' v xs :=
  ⟨owns_kept h.1 hk hn, h.2⟩

end Go.Proofs.Ytfdaifmfecfchaa
