/-
  Plans rounded: by the program and by the reference.
-/
import Derived.Test.YtkcpncaedocdnaaValidRS
namespace Go.Proofs.Ytkcpncaedocdnaa
open Go.RowKit

/-- From 0 to a million. -/
def inR (x : Nat) : Bool := geq0 x && (FloatKind.f32.format.order x 1232348160 == some .lt || FloatKind.f32.format.order x 1232348160 == some .eq)
def toI (x : Nat) : Int := (floatToIntVal .f32 x .i64).getD 0

theorem read_mil : Ieee.single.read 1232348160 = .number false 16000000 (-4) := by decide +kernel
theorem read_zero : Ieee.single.read 0 = .number false 0 (-149) := by decide +kernel

theorem cmp_cases (a b : Int) : (compare a b = .lt ∧ a < b) ∨ (compare a b = .eq ∧ a = b) ∨ (compare a b = .gt ∧ b < a) := by
  simp only [compare, compareOfLessAndEq]
  by_cases h1 : a < b
  · rw [if_pos h1]; exact .inl ⟨rfl, h1⟩
  · rw [if_neg h1]
    by_cases h2 : a = b
    · rw [if_pos h2]; exact .inr (.inl ⟨rfl, h2⟩)
    · rw [if_neg h2]; exact .inr (.inr ⟨rfl, by omega⟩)
theorem cmp_gt {a b : Int} (h : compare a b = .gt) : b < a := by
  rcases cmp_cases a b with ⟨e, _⟩ | ⟨e, _⟩ | ⟨_, h2⟩
  · rw [e] at h; cases h
  · rw [e] at h; cases h
  · exact h2
theorem cmp_eq {a b : Int} (h : compare a b = .eq) : a = b := by
  rcases cmp_cases a b with ⟨e, _⟩ | ⟨_, h2⟩ | ⟨e, _⟩
  · rw [e] at h; cases h
  · exact h2
  · rw [e] at h; cases h
theorem cmp_lt {a b : Int} (h : compare a b = .lt) : a < b := by
  rcases cmp_cases a b with ⟨_, h2⟩ | ⟨e, _⟩ | ⟨e, _⟩
  · exact h2
  · rw [e] at h; cases h
  · rw [e] at h; cases h

theorem inR_number {x : Nat} (h : inR x = true) : ∃ s m e, Ieee.single.read x = .number s m e ∧ (s = true → m = 0) ∧ (0 ≤ e → m <<< (e + 4).toNat ≤ 16000000) := by
  unfold inR geq0 at h
  simp only [Bool.and_eq_true, Bool.or_eq_true, beq_iff_eq] at h
  obtain ⟨h1, h2⟩ := h
  have e1 : FloatKind.f32.format.order x 0 = (Ieee.single.read x).order (.number false 0 (-149)) := by show (Ieee.single.read x).order (Ieee.single.read 0) = _; rw [read_zero]
  have e2 : FloatKind.f32.format.order x 1232348160 = (Ieee.single.read x).order (.number false 16000000 (-4)) := by show (Ieee.single.read x).order (Ieee.single.read 1232348160) = _; rw [read_mil]
  rw [e1] at h1
  rw [e2] at h2
  cases hr : Ieee.single.read x with
  | nan a b => rw [hr] at h1; simp [Ieee.Datum.order] at h1
  | infinity s => rw [hr] at h1 h2; cases s <;> simp [Ieee.Datum.order] at h1 h2
  | number s m e =>
    rw [hr] at h1 h2
    refine ⟨s, m, e, rfl, ?_, ?_⟩
    · rintro rfl
      by_cases hm : m = 0
      · exact hm
      · exfalso
        simp only [Ieee.Datum.order, Option.some.injEq, Ieee.signed, Nat.zero_shiftLeft, if_true] at h1
        have hp : 0 < m <<< (e - min e (-149)).toNat := by rw [Nat.shiftLeft_eq]; exact Nat.mul_pos (by omega) (Nat.two_pow_pos _)
        generalize m <<< (e - min e (-149)).toNat = K at h1 hp
        have hlt : (-(K : Int)) < ((0 : Nat) : Int) := by omega
        rcases h1 with h1 | h1
        · have := cmp_gt h1; simp at this; omega
        · have := cmp_eq h1; simp at this; omega
    · intro he
      have hb : min e (-4) = -4 := by omega
      have hz : (e - -4).toNat = (e + 4).toNat := by omega
      simp only [Ieee.Datum.order, Option.some.injEq, hb, hz, Ieee.signed, Int.sub_self, Int.toNat_zero, Nat.shiftLeft_zero] at h2
      cases s with
      | true =>
        -- a negative number: its size is 0
        simp only [Ieee.Datum.order, Option.some.injEq, Ieee.signed, Nat.zero_shiftLeft, if_true] at h1
        have hm : m = 0 := by
          by_cases hm : m = 0
          · exact hm
          · exfalso
            have hp : 0 < m <<< (e - min e (-149)).toNat := by rw [Nat.shiftLeft_eq]; exact Nat.mul_pos (by omega) (Nat.two_pow_pos _)
            generalize m <<< (e - min e (-149)).toNat = K at h1 hp
            rcases h1 with h1 | h1
            · have := cmp_gt h1; simp at this; omega
            · have := cmp_eq h1; simp at this; omega
        subst hm; simp
      | false =>
        simp only [Bool.false_eq_true, if_false] at h2
        generalize m <<< (e + 4).toNat = K at h2 ⊢
        rcases h2 with h2 | h2
        · have := cmp_lt h2; omega
        · have := cmp_eq h2; omega

theorem inR_fin {x : Nat} (h : inR x = true) : fin32 x = true := by
  obtain ⟨s, m, e, hr, _⟩ := inR_number h
  unfold fin32; rw [hr]

theorem cut_zero (s : Bool) (n d : Nat) : Ieee.Toward.zero.cut s n d ≤ n := by
  unfold Ieee.Toward.cut
  simp only [Bool.toNat_false, Nat.add_zero]
  exact Nat.div_le_self _ _

theorem toI_some {x : Nat} (h : inR x = true) : floatToIntVal .f32 x .i64 = some (toI x) := by
  obtain ⟨s, m, e, hr, hs, hm⟩ := inR_number h
  have hb := read32_bound hr
  have key : ∃ z, floatToIntVal .f32 x .i64 = some z := by
    unfold floatToIntVal
    have e1 : FloatKind.f32.decode x = Ieee.single.read x := rfl
    rw [e1, hr]
    simp only [Ieee.Datum.toInt, Ieee.Datum.integral, Ieee.signed, Nat.shiftLeft_zero]
    have hcut : Ieee.Toward.zero.cut s (m <<< e.toNat) (-e).toNat ≤ 16777216 := by
      refine Nat.le_trans (cut_zero _ _ _) ?_
      by_cases he : 0 ≤ e
      · have h1 := hm he
        have h2 : m <<< e.toNat ≤ m <<< (e + 4).toNat := by
          rw [Nat.shiftLeft_eq, Nat.shiftLeft_eq]
          exact Nat.mul_le_mul_left _ (Nat.pow_le_pow_right (by decide) (by omega))
        omega
      · have : e.toNat = 0 := by omega
        rw [this, Nat.shiftLeft_zero]
        omega
    generalize Ieee.Toward.zero.cut s (m <<< e.toNat) (-e).toNat = K at hcut
    have c1 : IntKind.i64.min = -9223372036854775808 := rfl
    have c2 : IntKind.i64.max = 9223372036854775807 := rfl
    rw [c1, c2]
    refine ⟨_, if_pos ?_⟩
    cases s <;> simp <;> omega
  obtain ⟨z, hz⟩ := key
  unfold toI
  rw [hz]; rfl

structure OkP (r : RowsD) (x : List Nat) : Prop where
  v : ValR r
  l : (x.length : Int) = r.vars
  i : ∀ j, j < x.length → inR (x.getD j 0) = true
open Classical in
noncomputable def rpOk (r : RowsD) (x : List Nat) : Bool := decide (OkP r x)
open Classical in
noncomputable def rpL (r : RowsD) (x : List Nat) : List Int := if OkP r x then x.map toI else []
theorem rp_yes {r : RowsD} {x : List Nat} (h : OkP r x) : rpOk r x = true ∧ rpL r x = x.map toI := ⟨by simp [rpOk, h], if_pos h⟩
theorem rp_no {r : RowsD} {x : List Nat} (h : ¬ OkP r x) : rpOk r x = false ∧ rpL r x = [] := ⟨by simp [rpOk, h], if_neg h⟩
theorem rpL_cnt (r : RowsD) (x : List Nat) : cntI (rpL r x) ≤ 1048576 := by
  unfold cntI rpL
  split
  · next h =>
    have := h.l
    have := h.v.v8
    simp
    omega
  · simp
theorem map_take_succ {x : List Nat} {k : Nat} (hk : k < x.length) : (x.take (k + 1)).map toI = (x.take k).map toI ++ [toI (x.getD k 0)] := by
  rw [List.take_succ_eq_append_getElem hk, List.map_append, show x.getD k 0 = x[k] from by simp [hk]]; rfl

set_option maxHeartbeats 1000000 in
theorem isX_any (v : Value) (r : RowsD) (u : Value) (x : List Nat) (w : World) (h : RdR w v r) (hu : RdF w u x) :
    Calls Try.prog 88 #[v, u] w fun e w' => e = .returned (.bool (((x.length : Int) == r.vars) && allFin x)) ∧ Below w.heap.size w w' := by
  obtain ⟨a1, c1, a2, c2, a3, c3, rfl⟩ := h.shape
  obtain ⟨a, c, rfl⟩ := hu.shape
  obtain ⟨n0, x1, x2, x3⟩ := r
  have l1 := hu.len
  unfold maxLen at l1
  simp only
  have HU := Lib.hid hu
  clear h hu
  obtain ⟨q, hq⟩ : ∃ q, q = ((x.length : Int) == n0) := ⟨_, rfl⟩
  rw [← hq]
  cases q
  all_goals
    go_enter Try.func88, Try.ntmps88
    go_wp2_with fail
    refine wp_at fun W hW => ?_
    have HB := Lib.hid (show Below w.heap.size w W by subst hW; (repeat' first | exact Below.refl _ _ | assumption | refine Below.alloc ?_ ?_ _ | refine Below.setCell ?_ ?_ _ | refine Below.drew ?_ | (simp; done) | (simp; omega)))
    have HK := Lib.hid (show Blk W w.heap.size 49 #[.int .i64 n0, .slice a1 x1.length c1, .slice a2 x2.length c2, .slice a3 x3.length c3] by subst hW; exact Blk.new _ _ _)
    have HUW := Lib.hid (HU.out.up HB.out (Nat.le_refl _))
    have d0 : W.cell? ⟨w.heap.size, 0, none⟩ = some (.int .i64 n0) := HK.out.cell 0 rfl
    have hqb := hq.symm
    clear hW hq
    go_quiet (first
      | (go_at_call 95; exact quiet_same (size_any _ _ (by unfold maxLen; omega)))
      | (go_at_call 140; exact areFinite_qs _ x _ _ HUW.out))
    go_wp2_with fail
    go_ret
    exact ⟨rfl, below_drewN HB.out _⟩

theorem inR_geq {x : Nat} (h : inR x = true) : (FloatKind.f32.format.order x 0 == some .gt || FloatKind.f32.format.order x 0 == some .eq) = true := by
  unfold inR geq0 at h; simp only [Bool.and_eq_true] at h; exact h.1
theorem inR_leq {x : Nat} (h : inR x = true) : (FloatKind.f32.format.order x 1232348160 == some .lt || FloatKind.f32.format.order x 1232348160 == some .eq) = true := by
  unfold inR geq0 at h; simp only [Bool.and_eq_true] at h; exact h.2

set_option maxHeartbeats 4000000 in
set_option maxRecDepth 4000 in
theorem implRound_any (v : Value) (r : RowsD) (u : Value) (x : List Nat) (w : World) (h : RdR w v r) (hu : RdF w u x) :
    Calls Try.prog 35 #[v, u] w fun e w' => ∃ v', e = .returned (.tuple #[v', .bool (rpOk r x)]) ∧ OwnI w.heap.size w'.heap.size w' v' (rpL r x) ∧ Below w.heap.size w w' := by
  obtain ⟨a1, c1, a2, c2, a3, c3, rfl⟩ := h.shape
  obtain ⟨a, c, rfl⟩ := hu.shape
  have l1 := hu.len
  unfold maxLen at l1
  have HP := Lib.hid h
  have HU := Lib.hid hu
  obtain ⟨n0, x1, x2, x3⟩ := r
  simp only at HP ⊢
  clear h hu
  go_enter Try.func35, Try.ntmps35
  go_wp2_with fail
  refine Calls.at fun W hW => ?_
  have hb := Lib.hid (show Below w.heap.size w W by subst hW; (repeat' first | exact Below.refl _ _ | assumption | refine Below.alloc ?_ ?_ _ | refine Below.setCell ?_ ?_ _ | refine Below.drew ?_ | (simp; done) | (simp; omega)))
  have hk := Lib.hid (show Blk W w.heap.size 49 #[.int .i64 n0, .slice a1 x1.length c1, .slice a2 x2.length c2, .slice a3 x3.length c3] by subst hW; exact Blk.new _ _ _)
  clear hW
  refine (ValidRows_any _ ⟨n0, x1, x2, x3⟩ W (HP.out.up hb.out (Nat.le_refl _))).mono ?_
  rintro e w1 ⟨rfl, hb1⟩
  have HB1 := Lib.hid (hb.out.trans (hb1.mono hb.out.size))
  have HK1 := Lib.hid (hk.out.below hb1 hk.out.lt)
  clear hb1 hb hk
  by_cases hv : validR ⟨n0, x1, x2, x3⟩ = true
  case neg =>
    rw [Bool.not_eq_true] at hv
    have HNO := Lib.hid (rp_no (r := ⟨n0, x1, x2, x3⟩) (x := x) (fun h => by have := validR_true h.v; rw [hv] at this; cases this))
    rw [hv]
    go_wp2_with fail
    go_ret2
    exact ⟨.slice none 0 0, by rw [HNO.out.1]; rfl, by rw [HNO.out.2]; exact ⟨World.ownsRow_nil _ _ _ _, by intro g hg; cases hg⟩, HB1.out⟩
  have HV := Lib.hid (validR_iff.1 hv)
  rw [hv]
  clear hv
  have d0 : w1.cell? ⟨w.heap.size, 0, none⟩ = some (.int .i64 n0) := HK1.out.cell 0 rfl
  have d1 : w1.cell? ⟨w.heap.size, 1, none⟩ = some (.slice a1 x1.length c1) := HK1.out.cell 1 rfl
  have d2 : w1.cell? ⟨w.heap.size, 2, none⟩ = some (.slice a2 x2.length c2) := HK1.out.cell 2 rfl
  have d3 : w1.cell? ⟨w.heap.size, 3, none⟩ = some (.slice a3 x3.length c3) := HK1.out.cell 3 rfl
  go_wp2_with fail
  refine (isX_any _ ⟨n0, x1, x2, x3⟩ _ x w1 (HP.out.up HB1.out (Nat.le_refl _)) (HU.out.up HB1.out (Nat.le_refl _))).mono ?_
  rintro e w2 ⟨rfl, hb2⟩
  simp only
  have HB2 := Lib.hid (HB1.out.trans (hb2.mono HB1.out.size))
  clear hb2 d0 d1 d2 d3
  by_cases hx : (((x.length : Int) == n0) && allFin x) = true
  case neg =>
    rw [Bool.not_eq_true] at hx
    have HNO := Lib.hid (rp_no (r := ⟨n0, x1, x2, x3⟩) (x := x) (fun h => by
      have e1 : ((x.length : Int) == n0) = true := by simpa using h.l
      have e2 : allFin x = true := allFin_yes fun i hi => inR_fin (h.i i hi)
      rw [e1, e2] at hx; cases hx))
    rw [hx]
    go_wp2_with fail
    go_ret2
    exact ⟨.slice none 0 0, by rw [HNO.out.1]; rfl, by rw [HNO.out.2]; exact ⟨World.ownsRow_nil _ _ _ _, by intro g hg; cases hg⟩, HB2.out⟩
  rw [hx]
  simp only [Bool.and_eq_true, beq_iff_eq] at hx
  have HX := Lib.hid hx
  have hx8 : x.length ≤ 8 := by have := HV.out.v8; simp only at this; omega
  clear hx
  go_wp2_with fail
  go_loopw [6, 20] (fun out kk wr => ∃ (k : Nat) (b : Option Addr) (cap : Nat), kk = .int .i64 k ∧ k ≤ x.length ∧ out = .slice b k cap ∧ Hid (∀ j, j < k → inR (x.getD j 0) = true) ∧ wr.ownsRow w.heap.size 2 1 (.slice b k cap) k (((x.take k).map toI).map I64) ∧ Below w.heap.size w wr) (fun _ kk _ => x.length - (intOf kk).toNat)
  case atStart => exact ⟨0, none, 0, rfl, Nat.zero_le _, rfl, fun j hj => by omega, World.ownsRow_nil _ _ _ _, HB2.out⟩
  case round =>
    obtain ⟨k, b, cap, rfl, hk, rfl, hall, hown, hbl⟩ := hrel
    have HO := Lib.hid hown
    have HB := Lib.hid hbl
    clear hown hbl
    by_cases hlt : k < x.length
    · obtain ⟨ub, uo, rfl, _, hc⟩ := (HU.out.up HB.out (Nat.le_refl _)).at hlt
      have HS := Lib.hid (map_take_succ hlt)
      obtain ⟨y, hy⟩ : ∃ y, y = x.getD k 0 := ⟨_, rfl⟩
      rw [← hy] at hc HS
      have HY := Lib.hid hy
      clear hy
      by_cases hq : inR y = true
      · have g1 := inR_geq hq
        have g2 := inR_leq hq
        have hcv := fun (W : World) => run_convert_float_int (P := Try.prog) W 59 2 .f32 .i64 y (toI y) (by rw [Try.und32]; rfl) Try.underlying2 (toI_some hq)
        have HQ := Lib.hid hq
        have hsz := HB.out.size
        clear hq
        go_wp2_with (at_builtin; refine app_ints rfl _ _ rfl w.heap.size (.slice b k cap) k ((x.take k).map toI) rfl (HO.out.alloc _) _ [toI y] rfl (slc_one _ _) (k + 1) ((x.take k).map toI ++ [toI y]) (by simp) rfl (by omega) (by simp; omega) ?_; intro b2 cap2 w3 hown2 hbl2 _ _)
        go_roundw
        case rel =>
          exact ⟨k + 1, b2, cap2, by go_num, by omega, rfl, fun j hj => by
            rcases Nat.lt_succ_iff_lt_or_eq.1 hj with h | rfl
            · exact hall.out j h
            · rw [← HY.out]; exact HQ.out, by rw [HS.out]; exact hown2, HB.out.trans (((Below.refl _ _).alloc hsz _).trans hbl2)⟩
        case measure => simp [intOf]; omega
      · rw [Bool.not_eq_true] at hq
        have HNO := Lib.hid (rp_no (r := ⟨n0, x1, x2, x3⟩) (x := x) (fun h => by have := h.i k hlt; rw [← HY.out, hq] at this; cases this))
        unfold inR geq0 at hq
        obtain ⟨q1, hq1⟩ : ∃ q, q = (FloatKind.f32.format.order y 0 == some .gt || FloatKind.f32.format.order y 0 == some .eq) := ⟨_, rfl⟩
        rw [← hq1] at hq
        have hq1' := hq1.symm
        clear hq1
        cases q1
        · clear hq
          go_wp2_with fail
          go_ret2
          exact ⟨.slice none 0 0, by rw [HNO.out.1]; rfl, by rw [HNO.out.2]; exact ⟨World.ownsRow_nil _ _ _ _, by intro g hg; cases hg⟩, HB.out⟩
        · rw [Bool.true_and] at hq
          go_wp2_with fail
          go_ret2
          exact ⟨.slice none 0 0, by rw [HNO.out.1]; rfl, by rw [HNO.out.2]; exact ⟨World.ownsRow_nil _ _ _ _, by intro g hg; cases hg⟩, HB.out⟩
    · obtain rfl : k = x.length := by omega
      have HYES := Lib.hid (rp_yes (r := ⟨n0, x1, x2, x3⟩) (x := x) ⟨HV.out, HX.out.1, hall.out⟩)
      go_wp2_with fail
      go_ret2
      refine ⟨.slice b x.length cap, by rw [HYES.out.1]; rfl, ?_, HB.out⟩
      rw [HYES.out.2]
      have h := HO.out
      rw [List.take_length] at h
      exact OwnI.mk h

set_option maxHeartbeats 4000000 in
set_option maxRecDepth 4000 in
theorem specRound_any (v : Value) (r : RowsD) (u : Value) (x : List Nat) (w : World) (h : RdR w v r) (hu : RdF w u x) :
    Calls Try.prog 32 #[v, u] w fun e w' => ∃ v', e = .returned (.tuple #[v', .bool (rpOk r x)]) ∧ OwnI w.heap.size w'.heap.size w' v' (rpL r x) ∧ Below w.heap.size w w' := by
  obtain ⟨a1, c1, a2, c2, a3, c3, rfl⟩ := h.shape
  obtain ⟨a, c, rfl⟩ := hu.shape
  have l1 := hu.len
  unfold maxLen at l1
  have HP := Lib.hid h
  have HU := Lib.hid hu
  obtain ⟨n0, x1, x2, x3⟩ := r
  simp only at HP ⊢
  clear h hu
  go_enter Try.func32, Try.ntmps32
  go_wp2_with fail
  refine Calls.at fun W hW => ?_
  have hb := Lib.hid (show Below w.heap.size w W by subst hW; (repeat' first | exact Below.refl _ _ | assumption | refine Below.alloc ?_ ?_ _ | refine Below.setCell ?_ ?_ _ | refine Below.drew ?_ | (simp; done) | (simp; omega)))
  have hk := Lib.hid (show Blk W w.heap.size 49 #[.int .i64 n0, .slice a1 x1.length c1, .slice a2 x2.length c2, .slice a3 x3.length c3] by subst hW; exact Blk.new _ _ _)
  clear hW
  refine (l02Is_any w.heap.size _ _ _ _ ⟨n0, x1, x2, x3⟩ W hk.out (HP.out.up hb.out (Nat.le_refl _))).mono ?_
  rintro e w1 ⟨rfl, hd1⟩
  have hb1 : Below W.heap.size W w1 := by obtain ⟨m, rfl⟩ := hd1; exact below_drewN (Below.refl _ _) _
  have HB1 := Lib.hid (hb.out.trans (hb1.mono hb.out.size))
  have HK1 := Lib.hid (hk.out.below hb1 hk.out.lt)
  clear hb1 hb hk hd1
  by_cases hv : validR ⟨n0, x1, x2, x3⟩ = true
  case neg =>
    rw [Bool.not_eq_true] at hv
    have HNO := Lib.hid (rp_no (r := ⟨n0, x1, x2, x3⟩) (x := x) (fun h => by have := validR_true h.v; rw [hv] at this; cases this))
    rw [hv]
    go_wp2_with fail
    go_ret2
    exact ⟨.slice none 0 0, by rw [HNO.out.1]; rfl, by rw [HNO.out.2]; exact ⟨World.ownsRow_nil _ _ _ _, by intro g hg; cases hg⟩, HB1.out⟩
  have HV := Lib.hid (validR_iff.1 hv)
  rw [hv]
  clear hv
  have d0 : w1.cell? ⟨w.heap.size, 0, none⟩ = some (.int .i64 n0) := HK1.out.cell 0 rfl
  by_cases hx : (x.length : Int) = n0
  case neg =>
    have hxb : ((x.length : Int) != n0) = true := by simp [hx]
    have HNO := Lib.hid (rp_no (r := ⟨n0, x1, x2, x3⟩) (x := x) (fun h => hx h.l))
    clear hx
    go_wp2_with fail
    go_ret2
    exact ⟨.slice none 0 0, by rw [HNO.out.1]; rfl, by rw [HNO.out.2]; exact ⟨World.ownsRow_nil _ _ _ _, by intro g hg; cases hg⟩, HB1.out⟩
  have hxb : ((x.length : Int) != n0) = false := by simp [hx]
  have HX := Lib.hid hx
  have hx8 : x.length ≤ 8 := by have := HV.out.v8; simp only at this; omega
  clear hx
  go_wp2_with fail
  go_loopw [6, 20] (fun out kk wr => ∃ (k : Nat) (b : Option Addr) (cap : Nat), kk = .int .i64 k ∧ k ≤ x.length ∧ out = .slice b k cap ∧ Hid (∀ j, j < k → inR (x.getD j 0) = true) ∧ wr.ownsRow w.heap.size 2 1 (.slice b k cap) k (((x.take k).map toI).map I64) ∧ Below w.heap.size w wr) (fun _ kk _ => x.length - (intOf kk).toNat)
  case atStart => exact ⟨0, _, 0, rfl, Nat.zero_le _, rfl, fun j hj => by omega, owns_base (owns_empty w1) HB1.out.size, HB1.out.alloc HB1.out.size _⟩
  case round =>
    obtain ⟨k, b, cap, rfl, hk, rfl, hall, hown, hbl⟩ := hrel
    have HO := Lib.hid hown
    have HB := Lib.hid hbl
    clear hown hbl d0
    by_cases hlt : k < x.length
    · obtain ⟨ub, uo, rfl, _, hc⟩ := (HU.out.up HB.out (Nat.le_refl _)).at hlt
      have HS := Lib.hid (map_take_succ hlt)
      obtain ⟨y, hy⟩ : ∃ y, y = x.getD k 0 := ⟨_, rfl⟩
      rw [← hy] at hc HS
      have HY := Lib.hid hy
      clear hy
      by_cases hq : inR y = true
      · have g1 := inR_geq hq
        have g2 := inR_leq hq
        have hcv := fun (W : World) => run_convert_float_int (P := Try.prog) W 59 2 .f32 .i64 y (toI y) (by rw [Try.und32]; rfl) Try.underlying2 (toI_some hq)
        have HQ := Lib.hid hq
        have hsz := HB.out.size
        clear hq
        go_wp2_with (at_builtin; refine app_ints rfl _ _ rfl w.heap.size (.slice b k cap) k ((x.take k).map toI) rfl (HO.out.alloc _) _ [toI y] rfl (slc_one _ _) (k + 1) ((x.take k).map toI ++ [toI y]) (by simp) rfl (by omega) (by simp; omega) ?_; intro b2 cap2 w3 hown2 hbl2 _ _)
        go_roundw
        case rel =>
          exact ⟨k + 1, b2, cap2, by go_num, by omega, rfl, fun j hj => by
            rcases Nat.lt_succ_iff_lt_or_eq.1 hj with h | rfl
            · exact hall.out j h
            · rw [← HY.out]; exact HQ.out, by rw [HS.out]; exact hown2, HB.out.trans (((Below.refl _ _).alloc hsz _).trans hbl2)⟩
        case measure => simp [intOf]; omega
      · rw [Bool.not_eq_true] at hq
        have HNO := Lib.hid (rp_no (r := ⟨n0, x1, x2, x3⟩) (x := x) (fun h => by have := h.i k hlt; rw [← HY.out, hq] at this; cases this))
        unfold inR geq0 at hq
        obtain ⟨q1, hq1⟩ : ∃ q, q = (FloatKind.f32.format.order y 0 == some .gt || FloatKind.f32.format.order y 0 == some .eq) := ⟨_, rfl⟩
        rw [← hq1] at hq
        have hq1' := hq1.symm
        clear hq1
        cases q1
        · clear hq
          go_wp2_with fail
          go_ret2
          exact ⟨.slice none 0 0, by rw [HNO.out.1]; rfl, by rw [HNO.out.2]; exact ⟨World.ownsRow_nil _ _ _ _, by intro g hg; cases hg⟩, HB.out⟩
        · rw [Bool.true_and] at hq
          go_wp2_with fail
          go_ret2
          exact ⟨.slice none 0 0, by rw [HNO.out.1]; rfl, by rw [HNO.out.2]; exact ⟨World.ownsRow_nil _ _ _ _, by intro g hg; cases hg⟩, HB.out⟩
    · obtain rfl : k = x.length := by omega
      have HYES := Lib.hid (rp_yes (r := ⟨n0, x1, x2, x3⟩) (x := x) ⟨HV.out, HX.out, hall.out⟩)
      go_wp2_with fail
      go_ret2
      refine ⟨.slice b x.length cap, by rw [HYES.out.1]; rfl, ?_, HB.out⟩
      rw [HYES.out.2]
      have h := HO.out
      rw [List.take_length] at h
      exact OwnI.mk h

end Go.Proofs.Ytkcpncaedocdnaa
