/-
  From single to double precision: no number becomes an infinity.
-/
import Derived.Test.YtljhohacgceojaaPredF
import Derived.Deep.RegionHeld3
namespace Go.Proofs.Ytljhohacgceojaa
open Go.RowKit

theorem read32_bound {b m : Nat} {s : Bool} {e : Int} (h : Ieee.single.read b = .number s m e) : m < 16777216 ∧ -149 ≤ e ∧ e ≤ 104 := by
  unfold Ieee.Format.read at h
  have c1 : Ieee.single.signWeight = 2147483648 := rfl
  have c2 : Ieee.single.binade = 8388608 := rfl
  have c3 : Ieee.single.infRung = 2139095040 := rfl
  have c4 : Ieee.single.leastPlace = -149 := by decide +kernel
  simp only [c1, c2, c3, c4] at h
  split at h
  · simp only [Ieee.Datum.number.injEq] at h
    obtain ⟨_, rfl, rfl⟩ := h
    omega
  · split at h
    · simp only [Ieee.Datum.number.injEq] at h
      obtain ⟨_, rfl, rfl⟩ := h
      omega
    · split at h <;> simp at h

theorem read_word64 (s : Bool) (r : Nat) (h : r < 9218868437227405312) : (Ieee.double.read (Ieee.double.word s r)).isNaN = false ∧ (Ieee.double.read (Ieee.double.word s r)).isInfinity = false := by
  have c1 : Ieee.double.signWeight = 9223372036854775808 := rfl
  have c2 : Ieee.double.binade = 4503599627370496 := rfl
  have c3 : Ieee.double.infRung = 9218868437227405312 := rfl
  have e : (Ieee.double.word s r) % 9223372036854775808 = r := by
    unfold Ieee.Format.word
    rw [c1]
    cases s <;> simp <;> omega
  unfold Ieee.Format.read
  simp only [c1, c2, c3, e]
  split
  · exact ⟨rfl, rfl⟩
  · first
    | exact ⟨rfl, rfl⟩
    | (rw [if_pos h]; exact ⟨rfl, rfl⟩)

theorem near_aux (Q K : Nat) (hQ : Q ≤ 1149) (hK : K < 9007199254740992) : min (Q * 4503599627370496 + K) 9218868437227405312 < 9218868437227405312 := by
  have : Q * 4503599627370496 ≤ 1149 * 4503599627370496 := Nat.mul_le_mul_right _ hQ
  omega
theorem nearest64 (s : Bool) {m : Nat} {e : Int} (hm : m < 16777216) (h1 : -149 ≤ e) (h2 : e ≤ 104) : ∃ r, r < 9218868437227405312 ∧ Ieee.double.nearest s m e = Ieee.double.word s r := by
  unfold Ieee.Format.nearest
  by_cases h0 : m = 0
  · rw [if_pos h0]; exact ⟨0, by decide, rfl⟩
  · rw [if_neg h0]
    have hl : m.log2 ≤ 23 := by
      have : m.log2 < 24 := (Nat.log2_lt h0).2 (by omega)
      omega
    have hlt : m < 2 ^ (m.log2 + 1) := Nat.lt_log2_self
    have c4 : Ieee.double.leastPlace = -1074 := by decide +kernel
    have c2 : Ieee.double.binade = 4503599627370496 := rfl
    have c3 : Ieee.double.infRung = 9218868437227405312 := rfl
    have c5 : Ieee.double.fractionBits = 52 := rfl
    have hlast : max (e + (m.log2 : Int) - (52 : Nat)) (-1074) = e + m.log2 - 52 := by omega
    simp only [c4, c2, c3, c5, hlast]
    have ha : (e - (e + (m.log2 : Int) - 52)).toNat = 52 - m.log2 := by omega
    have hb : (e + (m.log2 : Int) - 52 - e).toNat = 0 := by omega
    rw [ha, hb]
    have hk : m <<< (52 - m.log2) < 9007199254740992 := by
      rw [Nat.shiftLeft_eq]
      have : m * 2 ^ (52 - m.log2) < 2 ^ (m.log2 + 1) * 2 ^ (52 - m.log2) := Nat.mul_lt_mul_of_pos_right hlt (Nat.two_pow_pos _)
      rw [← Nat.pow_add, show m.log2 + 1 + (52 - m.log2) = 53 by omega] at this
      exact this
    generalize m <<< (52 - m.log2) = K at hk
    have hcut : Ieee.Toward.even.cut s K 0 = K := by
      unfold Ieee.Toward.cut
      simp [Nat.mod_one]
    rw [hcut]
    have hQ : (e + (m.log2 : Int) - 52 - -1074).toNat ≤ 1149 := by omega
    exact ⟨_, near_aux _ _ hQ hk, rfl⟩

/-- What is no NaN has a place among the doubles, and is no NaN there. -/
theorem conv64 {b : Nat} (h : nan32 b = false) : ∃ r, floatToFloatBits .f32 b .f64 = some r ∧ (Ieee.double.read r).isNaN = false := by
  unfold nan32 at h
  unfold floatToFloatBits
  rw [if_neg (by decide)]
  have e : FloatKind.f32.decode b = Ieee.single.read b := rfl
  rw [e]
  cases hr : Ieee.single.read b with
  | nan x y => rw [hr] at h; simp [Ieee.Datum.isNaN] at h
  | infinity s =>
    refine ⟨_, rfl, ?_⟩
    cases s <;> decide +kernel
  | number s m e =>
    obtain ⟨a1, a2, a3⟩ := read32_bound hr
    obtain ⟨r, b1, b2⟩ := nearest64 s a1 a2 a3
    have b3 : FloatKind.f64.encode (.number s m e) = Ieee.double.word s r := b2
    have b4 := read_word64 s r b1
    simp only [b3]
    rw [if_neg (by rw [show FloatKind.f64.decode (Ieee.double.word s r) = Ieee.double.read (Ieee.double.word s r) from rfl, b4.2]; simp)]
    exact ⟨_, rfl, b4.1⟩

/-- The bits of a double that the tape names. -/
def tape64 (q : Question) (w : World) : Nat := q.cut (w.tape w.drawn q)
theorem tape64_nan (b : Nat) (w : World) : (Ieee.double.read (tape64 (.nanConv .f64 b) w)).isNaN = true := by
  unfold tape64
  exact nan_cut64 _
theorem run_conv_nan {P : Program} (src dst : TypeId) (b : Nat) (hs : (P.underlying src).isSome = true) (hd : P.underlying dst = some (.float .f64)) (h : nan32 b = true) (w : World) :
    (convert src dst (.float .f32 b)).run P w = .ok (.float .f64 (tape64 (.nanConv .f64 b) w)) w.drew := by
  unfold nan32 at h
  obtain ⟨u, hs'⟩ := Option.isSome_iff_exists.1 hs
  have e : FloatKind.f32.decode b = Ieee.single.read b := rfl
  cases hr : Ieee.single.read b with
  | nan x y => cases u <;> simp [convert, run_underlying hs', run_underlying hd, Conv.floatToFloat, e, hr, Question.forced, tape64, Result.andThen]
  | infinity s => rw [hr] at h; simp [Ieee.Datum.isNaN] at h
  | number s m e => rw [hr] at h; simp [Ieee.Datum.isNaN] at h

theorem Try.und32 : Try.prog.underlying 148 = some (.float .f32) := Try.underlying148
theorem Try.und64 : Try.prog.underlying 156 = some (.float .f64) := Try.underlying156

theorem drew_ex {w W : World} (h : ∃ m, W = w.drewN m) : ∃ m, W.drew = w.drewN m := by obtain ⟨m, rfl⟩ := h; exact ⟨m + 1, rfl⟩
theorem drewN_ex {w W : World} (h : ∃ m, W = w.drewN m) (n : Nat) : ∃ m, W.drewN n = w.drewN m := by obtain ⟨m, rfl⟩ := h; exact ⟨m + n, World.drewN_drewN _ _ _⟩
set_option maxHeartbeats 1000000 in
theorem eqF_q (v v' : Value) (xs : List Nat) (w : World) (h : RdF w v xs) (h' : RdF w v' xs) :
    Calls Try.prog 119 #[v, v'] w fun e w' => e = .returned (.bool true) ∧ ∃ m, w' = w.drewN m := by
  obtain ⟨a, c, rfl⟩ := h.shape
  obtain ⟨a', c', rfl⟩ := h'.shape
  have hl := h.len
  unfold maxLen at hl
  have HS := Lib.hid h
  have HS' := Lib.hid h'
  have hne : ((xs.length : Int) != (xs.length : Int)) = false := by simp
  clear h h'
  go_enter Try.func119, Try.ntmps119
  go_wp2_with fail
  go_loopw [5] (fun i wr => ∃ k : Nat, i = .int .i64 k ∧ k ≤ xs.length ∧ Hid (∃ n, wr = w.drewN n)) (fun i _ => xs.length - (intOf i).toNat)
  case atStart => exact ⟨0, rfl, Nat.zero_le _, 0, rfl⟩
  case round =>
    obtain ⟨k, rfl, hk, hdr⟩ := hrel
    by_cases hlt : k < xs.length
    · obtain ⟨b, off, rfl, hbk, hc⟩ := (show RdF wr _ xs by obtain ⟨n, rfl⟩ := hdr.out; exact HS.out.drewN n).at hlt
      obtain ⟨b', off', rfl, hbk', hc'⟩ := (show RdF wr _ xs by obtain ⟨n, rfl⟩ := hdr.out; exact HS'.out.drewN n).at hlt
      obtain ⟨x, hx⟩ : ∃ x, x = xs.getD k 0 := ⟨_, rfl⟩
      rw [← hx] at hc hc'
      clear hx
      by_cases hn : nan32 x = true
      · have hcv := fun (W : World) => run_conv_nan (P := Try.prog) 148 156 x (by rw [Try.und32]; rfl) Try.und64 hn W
        go_wp2_with fail
        go_region_with ((go_at_call 133; refine (sameFloat_nan _ _ (tape64_nan _ _) (tape64_nan _ _) _).mono ?_; rintro e w' ⟨rfl, rfl⟩))
        all_goals
          go_wp2_with fail
          go_roundw
          case rel => exact ⟨k + 1, by go_num, by omega, by obtain ⟨n, rfl⟩ := hdr.out; exact drew_ex (drew_ex (drew_ex ⟨n, rfl⟩))⟩
          case measure => simp [intOf]; omega
      · rw [Bool.not_eq_true] at hn
        obtain ⟨r, hr, hrn⟩ := conv64 hn
        have hcv := fun (W : World) => run_convert_float_float (P := Try.prog) W 148 156 .f32 .f64 x r (by rw [Try.und32]; rfl) Try.und64 hr
        clear hr
        go_wp2_with fail
        go_quiet ((go_at_call 133; exact quiet_same (sameFloat_self r hrn _)))
        go_wp2_with fail
        go_roundw
        case rel => exact ⟨k + 1, by go_num, by omega, by obtain ⟨n, rfl⟩ := hdr.out; exact drewN_ex ⟨n, rfl⟩ _⟩
        case measure => simp [intOf]; omega
    · obtain rfl : k = xs.length := by omega
      go_wp2_with fail
      go_ret
      exact ⟨rfl, hdr.out⟩

end Go.Proofs.Ytljhohacgceojaa
