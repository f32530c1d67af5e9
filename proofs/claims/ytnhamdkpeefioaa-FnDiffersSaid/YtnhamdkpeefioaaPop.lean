/-
  How many binary digits are 1: by counting, and by the sums of fields.
-/
import Derived.Laws.BitsAllLaws
namespace Go.Proofs.Ytnhamdkpeefioaa

/-- The digits 1 among the first n. -/
def popN : Nat → Nat → Nat
  | 0, _ => 0
  | n + 1, x => (x.testBit n).toNat + popN n x

theorem popN_congr {x y : Nat} : ∀ n, (∀ i, i < n → x.testBit i = y.testBit i) → popN n x = popN n y
  | 0, _ => rfl
  | n + 1, h => by
    simp only [popN]
    rw [h n (by omega), popN_congr n fun i hi => h i (by omega)]
theorem popN_or {x b : Nat} : ∀ n, popN n (x ||| 2 ^ b) = popN n x + (decide (b < n) && !x.testBit b).toNat
  | 0 => by simp [popN]
  | n + 1 => by
    simp only [popN]
    rw [popN_or n, Nat.testBit_or, Nat.testBit_two_pow]
    by_cases h : b = n
    · subst h
      cases x.testBit b <;> simp <;> omega
    · have h1 : decide (b = n) = false := by simp [h]
      rw [h1, Bool.or_false]
      have h2 : decide (b < n + 1) = decide (b < n) := by rw [decide_eq_decide]; omega
      rw [h2]; omega
theorem testBit_byte (a y i : Nat) (ha : a < 256) : (a + 256 * y).testBit i = if i < 8 then a.testBit i else y.testBit (i - 8) := by
  have := Nat.testBit_two_pow_mul_add y (i := 8) (b := a) ha i
  rw [show 2 ^ 8 * y + a = a + 256 * y by omega] at this
  exact this
theorem popN_byte (a y : Nat) (ha : a < 256) : ∀ n, popN (8 + n) (a + 256 * y) = popN 8 a + popN n y
  | 0 => by
    simp only [popN, Nat.add_zero]
    simp only [testBit_byte a y _ ha]
    simp
  | n + 1 => by
    have ih := popN_byte a y ha n
    rw [show 8 + (n + 1) = (8 + n) + 1 by omega]
    simp only [popN] at ih ⊢
    rw [ih, testBit_byte a y _ ha, if_neg (by omega), show 8 + n - 8 = n by omega]
    omega
theorem popN_zero : ∀ n, popN n 0 = 0
  | 0 => rfl
  | n + 1 => by simp [popN, popN_zero n]

theorem and_byte (a y m M : Nat) (ha : a < 256) (hm : m < 256) : (a + 256 * y) &&& (m + 256 * M) = (a &&& m) + 256 * (y &&& M) := by
  have hlt : a &&& m < 256 := Nat.lt_of_le_of_lt Nat.and_le_left ha
  apply Nat.eq_of_testBit_eq
  intro i
  rw [Nat.testBit_and, testBit_byte a y i ha, testBit_byte m M i hm, testBit_byte (a &&& m) (y &&& M) i hlt]
  split
  · rw [Nat.testBit_and]
  · rw [Nat.testBit_and]

/-! ### By bytes -/
def s1 (b : Nat) : Nat := ((b >>> 1) &&& 85) + (b &&& 85)
def s2 (b : Nat) : Nat := ((b >>> 2) &&& 51) + (b &&& 51)
def t2 (b : Nat) : Nat := s2 (s1 b)
def p8 (b : Nat) : Nat := (t2 b / 16 + t2 b) % 16
theorem bytes_fact : ∀ b : Fin 256, s1 b.val < 256 ∧ t2 b.val / 16 ≤ 4 ∧ t2 b.val % 16 ≤ 4 ∧ t2 b.val < 256 ∧ p8 b.val = popN 8 b.val ∧ p8 b.val ≤ 8 := by decide +kernel
theorem mask1 : ∀ a : Fin 128, ∀ c : Fin 2, (a.val + 128 * c.val) &&& 85 = a.val &&& 85 := by decide +kernel
theorem mask2 : ∀ a : Fin 64, ∀ c : Fin 4, (a.val + 64 * c.val) &&& 51 = a.val &&& 51 := by decide +kernel

theorem S1_byte (a y M : Nat) (ha : a < 256) : (((a + 256 * y) >>> 1) &&& (85 + 256 * M)) + ((a + 256 * y) &&& (85 + 256 * M)) = s1 a + 256 * (((y >>> 1) &&& M) + (y &&& M)) := by
  have h1 : (a + 256 * y) >>> 1 = (a / 2 + 128 * (y % 2)) + 256 * (y / 2) := by rw [Nat.shiftRight_eq_div_pow]; omega
  rw [h1, and_byte _ _ _ _ (by omega) (by decide), and_byte _ _ _ _ ha (by decide)]
  have h2 := mask1 ⟨a / 2, by omega⟩ ⟨y % 2, by omega⟩
  simp only at h2
  rw [h2]
  unfold s1
  have h3 : a >>> 1 = a / 2 := by rw [Nat.shiftRight_eq_div_pow]
  have h4 : y >>> 1 = y / 2 := by rw [Nat.shiftRight_eq_div_pow]
  rw [h3, h4]
  omega
theorem S2_byte (a y M : Nat) (ha : a < 256) : (((a + 256 * y) >>> 2) &&& (51 + 256 * M)) + ((a + 256 * y) &&& (51 + 256 * M)) = s2 a + 256 * (((y >>> 2) &&& M) + (y &&& M)) := by
  have h1 : (a + 256 * y) >>> 2 = (a / 4 + 64 * (y % 4)) + 256 * (y / 4) := by rw [Nat.shiftRight_eq_div_pow]; omega
  rw [h1, and_byte _ _ _ _ (by omega) (by decide), and_byte _ _ _ _ ha (by decide)]
  have h2 := mask2 ⟨a / 4, by omega⟩ ⟨y % 4, by omega⟩
  simp only at h2
  rw [h2]
  unfold s2
  have h3 : a >>> 2 = a / 4 := by rw [Nat.shiftRight_eq_div_pow]
  have h4 : y >>> 2 = y / 4 := by rw [Nat.shiftRight_eq_div_pow]
  rw [h3, h4]
  omega
theorem S3_byte (a y M : Nat) (ha : a < 256) (h16 : a / 16 ≤ 4) (hl : a % 16 ≤ 4) (hy : y % 16 ≤ 4) : (((a + 256 * y) >>> 4) + (a + 256 * y)) &&& (15 + 256 * M) = (a / 16 + a) % 16 + 256 * (((y >>> 4) + y) &&& M) := by
  have h1 : ((a + 256 * y) >>> 4) + (a + 256 * y) = (a / 16 + 16 * (y % 16) + a) + 256 * (y / 16 + y) := by rw [Nat.shiftRight_eq_div_pow]; omega
  rw [h1, and_byte _ _ _ _ (by omega) (by decide), Go.nat_mask4]
  have h4 : y >>> 4 = y / 16 := by rw [Nat.shiftRight_eq_div_pow]
  rw [h4]
  omega

def stage1 (x : Nat) : Nat := ((x >>> 1) &&& 6148914691236517205) + (x &&& 6148914691236517205)
def stage2 (x : Nat) : Nat := ((x >>> 2) &&& 3689348814741910323) + (x &&& 3689348814741910323)
def stage3 (x : Nat) : Nat := ((x >>> 4) + x) &&& 1085102592571150095

theorem stages {b0 b1 b2 b3 : Nat} (h0 : b0 < 256) (h1 : b1 < 256) (h2 : b2 < 256) (h3 : b3 < 256) :
    stage1 (b0 + 256 * (b1 + 256 * (b2 + 256 * (b3 + 256 * 0)))) = s1 b0 + 256 * (s1 b1 + 256 * (s1 b2 + 256 * (s1 b3 + 256 * 0))) ∧
    stage2 (s1 b0 + 256 * (s1 b1 + 256 * (s1 b2 + 256 * (s1 b3 + 256 * 0)))) = t2 b0 + 256 * (t2 b1 + 256 * (t2 b2 + 256 * (t2 b3 + 256 * 0))) ∧
    stage3 (t2 b0 + 256 * (t2 b1 + 256 * (t2 b2 + 256 * (t2 b3 + 256 * 0)))) = p8 b0 + 256 * (p8 b1 + 256 * (p8 b2 + 256 * (p8 b3 + 256 * 0))) := by
  have f0 := bytes_fact ⟨b0, h0⟩
  have f1 := bytes_fact ⟨b1, h1⟩
  have f2 := bytes_fact ⟨b2, h2⟩
  have f3 := bytes_fact ⟨b3, h3⟩
  simp only at f0 f1 f2 f3
  refine ⟨?_, ?_, ?_⟩
  · unfold stage1
    rw [show (6148914691236517205 : Nat) = 85 + 256 * (85 + 256 * (85 + 256 * (85 + 256 * 1431655765))) from rfl]
    rw [S1_byte _ _ _ h0, S1_byte _ _ _ h1, S1_byte _ _ _ h2, S1_byte _ _ _ h3]
    simp
  · unfold stage2
    rw [show (3689348814741910323 : Nat) = 51 + 256 * (51 + 256 * (51 + 256 * (51 + 256 * 858993459))) from rfl]
    rw [S2_byte _ _ _ f0.1, S2_byte _ _ _ f1.1, S2_byte _ _ _ f2.1, S2_byte _ _ _ f3.1]
    simp [t2]
  · unfold stage3
    rw [show (1085102592571150095 : Nat) = 15 + 256 * (15 + 256 * (15 + 256 * (15 + 256 * 252645135))) from rfl]
    rw [S3_byte _ _ _ f0.2.2.2.1 f0.2.1 f0.2.2.1 (by omega), S3_byte _ _ _ f1.2.2.2.1 f1.2.1 f1.2.2.1 (by omega), S3_byte _ _ _ f2.2.2.2.1 f2.2.1 f2.2.2.1 (by omega), S3_byte _ _ _ f3.2.2.2.1 f3.2.1 f3.2.2.1 (by omega)]
    simp [p8]

/-- The last sums. -/
theorem sums {p0 p1 p2 p3 y z v : Nat} (h0 : p0 ≤ 8) (h1 : p1 ≤ 8) (h2 : p2 ≤ 8) (h3 : p3 ≤ 8) (hy : y = p0 + 256 * (p1 + 256 * (p2 + 256 * (p3 + 256 * 0)))) (hz : z = y + y / 256) (hv : v = z + z / 65536) :
    (v + v / 4294967296) % 128 = p0 + p1 + p2 + p3 ∧ y < 4294967296 ∧ z < 4294967296 ∧ v < 4294967296 := by
  have e1 : y / 256 = p1 + 256 * p2 + 65536 * p3 := by omega
  have e2 : z = (p0 + p1) + 256 * (p1 + p2) + 65536 * (p2 + p3) + 16777216 * p3 := by omega
  have e3 : z / 65536 = (p2 + p3) + 256 * p3 := by omega
  have e4 : v = (p0 + p1 + p2 + p3) + 256 * (p1 + p2 + p3) + 65536 * (p2 + p3) + 16777216 * p3 := by omega
  have e5 : v / 4294967296 = 0 := by omega
  rw [e5]
  omega

/-- What is counted, of a number below 2 ^ 32. -/
theorem pop_all {x : Nat} (hx : x < 4294967296) : ∃ p0 p1 p2 p3, p0 ≤ 8 ∧ p1 ≤ 8 ∧ p2 ≤ 8 ∧ p3 ≤ 8 ∧ stage3 (stage2 (stage1 x)) = p0 + 256 * (p1 + 256 * (p2 + 256 * (p3 + 256 * 0))) ∧ popN 32 x = p0 + p1 + p2 + p3 ∧ stage1 x < 4294967296 ∧ stage2 (stage1 x) < 4294967296 := by
  obtain ⟨b0, b1, b2, b3, h0, h1, h2, h3, rfl⟩ : ∃ b0 b1 b2 b3, b0 < 256 ∧ b1 < 256 ∧ b2 < 256 ∧ b3 < 256 ∧ x = b0 + 256 * (b1 + 256 * (b2 + 256 * (b3 + 256 * 0))) :=
    ⟨x % 256, x / 256 % 256, x / 65536 % 256, x / 16777216, by omega, by omega, by omega, by omega, by omega⟩
  obtain ⟨e1, e2, e3⟩ := stages h0 h1 h2 h3
  have f0 := bytes_fact ⟨b0, h0⟩
  have f1 := bytes_fact ⟨b1, h1⟩
  have f2 := bytes_fact ⟨b2, h2⟩
  have f3 := bytes_fact ⟨b3, h3⟩
  simp only at f0 f1 f2 f3
  refine ⟨p8 b0, p8 b1, p8 b2, p8 b3, f0.2.2.2.2.2, f1.2.2.2.2.2, f2.2.2.2.2.2, f3.2.2.2.2.2, by rw [e1, e2, e3], ?_, by rw [e1]; omega, by rw [e1, e2]; omega⟩
  rw [show (32 : Nat) = 8 + (8 + (8 + (8 + 0))) from rfl, popN_byte _ _ h0, popN_byte _ _ h1, popN_byte _ _ h2, popN_byte _ _ h3, f0.2.2.2.2.1, f1.2.2.2.2.1, f2.2.2.2.2.1, f3.2.2.2.2.1]
  simp only [popN]
  omega

end Go.Proofs.Ytnhamdkpeefioaa
