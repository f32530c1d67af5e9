/-
  Plans rounded: by the program and by the reference.
-/
import Derived.Test.YtkmbkjbammpdhaaValidRS
namespace Go.Proofs.Ytkmbkjbammpdhaa
open Go.RowKit

/-- From 0 to a million. -/
def inR (x : Nat) : Bool := geq0 x && (FloatKind.f32.format.order x 1232348160 == some .lt || FloatKind.f32.format.order x 1232348160 == some .eq)
def toI (x : Nat) : Int := (floatToIntVal .f32 x .i64).getD 0

theorem read_mil : Ieee.single.read 1232348160 = .number false 16000000 (-4) := by decide +kernel
theorem read_zero : Ieee.single.read 0 = .number false 0 (-149) := by decide +kernel

theorem cmp_cases (a b : Int) : (compare a b = .lt ∧ a < b) ∨ (compare a b = .eq ∧ a = b) ∨ (compare a b = .gt ∧ b < a) := by
  simp only [compare, compareOfLessAndEq]
  by_cases h1 : a < b
  · rw [if_pos h1]; exact .inl ⟨rfl, h1⟩
  · rw [if_neg h1]
    by_cases h2 : a = b
    · rw [if_pos h2]; exact .inr (.inl ⟨rfl, h2⟩)
    · rw [if_neg h2]; exact .inr (.inr ⟨rfl, by omega⟩)
theorem cmp_gt {a b : Int} (h : compare a b = .gt) : b < a := by
  rcases cmp_cases a b with ⟨e, _⟩ | ⟨e, _⟩ | ⟨_, h2⟩
  · rw [e] at h; cases h
  · rw [e] at h; cases h
  · exact h2
theorem cmp_eq {a b : Int} (h : compare a b = .eq) : a = b := by
  rcases cmp_cases a b with ⟨e, _⟩ | ⟨_, h2⟩ | ⟨e, _⟩
  · rw [e] at h; cases h
  · exact h2
  · rw [e] at h; cases h
theorem cmp_lt {a b : Int} (h : compare a b = .lt) : a < b := by
  rcases cmp_cases a b with ⟨_, h2⟩ | ⟨e, _⟩ | ⟨e, _⟩
  · exact h2
  · rw [e] at h; cases h
  · rw [e] at h; cases h

theorem inR_number {x : Nat} (h : inR x = true) : ∃ s m e, Ieee.single.read x = .number s m e ∧ (s = true → m = 0) ∧ (0 ≤ e → m <<< (e + 4).toNat ≤ 16000000) := by
  unfold inR geq0 at h
  simp only [Bool.and_eq_true, Bool.or_eq_true, beq_iff_eq] at h
  obtain ⟨h1, h2⟩ := h
  have e1 : FloatKind.f32.format.order x 0 = (Ieee.single.read x).order (.number false 0 (-149)) := by show (Ieee.single.read x).order (Ieee.single.read 0) = _; rw [read_zero]
  have e2 : FloatKind.f32.format.order x 1232348160 = (Ieee.single.read x).order (.number false 16000000 (-4)) := by show (Ieee.single.read x).order (Ieee.single.read 1232348160) = _; rw [read_mil]
  rw [e1] at h1
  rw [e2] at h2
  cases hr : Ieee.single.read x with
  | nan a b => rw [hr] at h1; simp [Ieee.Datum.order] at h1
  | infinity s => rw [hr] at h1 h2; cases s <;> simp [Ieee.Datum.order] at h1 h2
  | number s m e =>
    rw [hr] at h1 h2
    refine ⟨s, m, e, rfl, ?_, ?_⟩
    · rintro rfl
      by_cases hm : m = 0
      · exact hm
      · exfalso
        simp only [Ieee.Datum.order, Option.some.injEq, Ieee.signed, Nat.zero_shiftLeft, if_true] at h1
        have hp : 0 < m <<< (e - min e (-149)).toNat := by rw [Nat.shiftLeft_eq]; exact Nat.mul_pos (by omega) (Nat.two_pow_pos _)
        generalize m <<< (e - min e (-149)).toNat = K at h1 hp
        have hlt : (-(K : Int)) < ((0 : Nat) : Int) := by omega
        rcases h1 with h1 | h1
        · have := cmp_gt h1; simp at this; omega
        · have := cmp_eq h1; simp at this; omega
    · intro he
      have hb : min e (-4) = -4 := by omega
      have hz : (e - -4).toNat = (e + 4).toNat := by omega
      simp only [Ieee.Datum.order, Option.some.injEq, hb, hz, Ieee.signed, Int.sub_self, Int.toNat_zero, Nat.shiftLeft_zero] at h2
      cases s with
      | true =>
        -- a negative number: its size is 0
        simp only [Ieee.Datum.order, Option.some.injEq, Ieee.signed, Nat.zero_shiftLeft, if_true] at h1
        have hm : m = 0 := by
          by_cases hm : m = 0
          · exact hm
          · exfalso
            have hp : 0 < m <<< (e - min e (-149)).toNat := by rw [Nat.shiftLeft_eq]; exact Nat.mul_pos (by omega) (Nat.two_pow_pos _)
            generalize m <<< (e - min e (-149)).toNat = K at h1 hp
            rcases h1 with h1 | h1
            · have := cmp_gt h1; simp at this; omega
            · have := cmp_eq h1; simp at this; omega
        subst hm; simp
      | false =>
        simp only [Bool.false_eq_true, if_false] at h2
        generalize m <<< (e + 4).toNat = K at h2 ⊢
        rcases h2 with h2 | h2
        · have := cmp_lt h2; omega
        · have := cmp_eq h2; omega

theorem inR_fin {x : Nat} (h : inR x = true) : fin32 x = true := by
  obtain ⟨s, m, e, hr, _⟩ := inR_number h
  unfold fin32; rw [hr]

theorem cut_zero (s : Bool) (n d : Nat) : Ieee.Toward.zero.cut s n d ≤ n := by
  unfold Ieee.Toward.cut
  simp only [Bool.toNat_false, Nat.add_zero]
  exact Nat.div_le_self _ _

theorem toI_some {x : Nat} (h : inR x = true) : floatToIntVal .f32 x .i64 = some (toI x) := by
  obtain ⟨s, m, e, hr, hs, hm⟩ := inR_number h
  have hb := read32_bound hr
  have key : ∃ z, floatToIntVal .f32 x .i64 = some z := by
    unfold floatToIntVal
    have e1 : FloatKind.f32.decode x = Ieee.single.read x := rfl
    rw [e1, hr]
    simp only [Ieee.Datum.toInt, Ieee.Datum.integral, Ieee.signed, Nat.shiftLeft_zero]
    have hcut : Ieee.Toward.zero.cut s (m <<< e.toNat) (-e).toNat ≤ 16777216 := by
      refine Nat.le_trans (cut_zero _ _ _) ?_
      by_cases he : 0 ≤ e
      · have h1 := hm he
        have h2 : m <<< e.toNat ≤ m <<< (e + 4).toNat := by
          rw [Nat.shiftLeft_eq, Nat.shiftLeft_eq]
          exact Nat.mul_le_mul_left _ (Nat.pow_le_pow_right (by decide) (by omega))
        omega
      · have : e.toNat = 0 := by omega
        rw [this, Nat.shiftLeft_zero]
        omega
    generalize Ieee.Toward.zero.cut s (m <<< e.toNat) (-e).toNat = K at hcut
    have c1 : IntKind.i64.min = -9223372036854775808 := rfl
    have c2 : IntKind.i64.max = 9223372036854775807 := rfl
    rw [c1, c2]
    refine ⟨_, if_pos ?_⟩
    cases s <;> simp <;> omega
  obtain ⟨z, hz⟩ := key
  unfold toI
  rw [hz]; rfl

structure OkP (r : RowsD) (x : List Nat) : Prop where
  v : ValR r
  l : (x.length : Int) = r.vars
  i : ∀ j, j < x.length → inR (x.getD j 0) = true
open Classical in
noncomputable def rpOk (r : RowsD) (x : List Nat) : Bool := decide (OkP r x)
open Classical in
noncomputable def rpL (r : RowsD) (x : List Nat) : List Int := if OkP r x then x.map toI else []
theorem rp_yes {r : RowsD} {x : List Nat} (h : OkP r x) : rpOk r x = true ∧ rpL r x = x.map toI := ⟨by simp [rpOk, h], if_pos h⟩
theorem rp_no {r : RowsD} {x : List Nat} (h : ¬ OkP r x) : rpOk r x = false ∧ rpL r x = [] := ⟨by simp [rpOk, h], if_neg h⟩
theorem rpL_cnt (r : RowsD) (x : List Nat) : cntI (rpL r x) ≤ 1048576 := by
  unfold cntI rpL
  split
  · next h =>
    have := h.l
    have := h.v.v8
    simp
    omega
  · simp
theorem map_take_succ {x : List Nat} {k : Nat} (hk : k < x.length) : (x.take (k + 1)).map toI = (x.take k).map toI ++ [toI (x.getD k 0)] := by
  rw [List.take_succ_eq_append_getElem hk, List.map_append, show x.getD k 0 = x[k] from by simp [hk]]; rfl

set_option maxHeartbeats 1000000 in
theorem isX_any (v : Value) (r : RowsD) (u : Value) (x : List Nat) (w : World) (h : RdR w v r) (hu : RdF w u x) :
    Calls Try.prog 159 #[v, u] w fun e w' => e = .returned (.bool (((x.length : Int) == r.vars) && allFin x)) ∧ Below w.heap.size w w' := by
  obtain ⟨a1, c1, a2, c2, a3, c3, rfl⟩ := h.shape
  obtain ⟨a, c, rfl⟩ := hu.shape
  obtain ⟨n0, x1, x2, x3⟩ := r
  have l1 := hu.len
  unfold maxLen at l1
  simp only
  have HU := Lib.hid hu
  clear h hu
  obtain ⟨q, hq⟩ : ∃ q, q = ((x.length : Int) == n0) := ⟨_, rfl⟩
  rw [← hq]
  cases q
  all_goals
    go_enter Try.func159, Try.ntmps159
    go_wp2_with fail
    refine wp_at fun W hW => ?_
    have HB := Lib.hid (show Below w.heap.size w W by subst hW; (repeat' first | exact Below.refl _ _ | assumption | refine Below.alloc ?_ ?_ _ | refine Below.setCell ?_ ?_ _ | refine Below.drew ?_ | (simp; done) | (simp; omega)))
    have HK := Lib.hid (show Blk W w.heap.size 26 #[.int .i64 n0, .slice a1 x1.length c1, .slice a2 x2.length c2, .slice a3 x3.length c3] by subst hW; exact Blk.new _ _ _)
    have HUW := Lib.hid (HU.out.up HB.out (Nat.le_refl _))
    have d0 : W.cell? ⟨w.heap.size, 0, none⟩ = some (.int .i64 n0) := HK.out.cell 0 rfl
    have hqb := hq.symm
    clear hW hq
    go_quiet (first
      | (go_at_call 105; exact quiet_same (size_any _ _ (by unfold maxLen; omega)))
      | (go_at_call 118; exact areFinite_qs _ x _ _ HUW.out))
    go_wp2_with fail
    go_ret
    exact ⟨rfl, below_drewN HB.out _⟩

theorem inR_geq {x : Nat} (h : inR x = true) : (FloatKind.f32.format.order x 0 == some .gt || FloatKind.f32.format.order x 0 == some .eq) = true := by
  unfold inR geq0 at h; simp only [Bool.and_eq_true] at h; exact h.1
theorem inR_leq {x : Nat} (h : inR x = true) : (FloatKind.f32.format.order x 1232348160 == some .lt || FloatKind.f32.format.order x 1232348160 == some .eq) = true := by
  unfold inR geq0 at h; simp only [Bool.and_eq_true] at h; exact h.2

end Go.Proofs.Ytkmbkjbammpdhaa
