/-
  FnRules: texts joined: StpI, TourL, RuE.
-/
import Derived.Test.YtfdaifmfecfchaaMFnRulesAD
import Derived.Test.YtfdaifmfecfchaaMFnRulesAH
import Derived.Test.YtfdaifmfecfchaaMFnRulesAK
import Derived.Test.YtfdaifmfecfchaaMFnRulesAM
namespace Go.Proofs.Ytfdaifmfecfchaa
open Go.RowKit Go.Sort

/-- One step, operation by operation. -/
structure Stp (bd h x l z : Nat) : Prop where
  fx : fin32 x = true
  left : ∃ p s, Ieee.single.mul 1065353216 x = some p ∧ Ieee.single.add 0 p = some s ∧ Ieee.single.sub bd s = some l
  fl : fin32 l = true
  next : ∃ q t u y, Ieee.single.mul 1065353216 l = some q ∧ Ieee.single.add 0 q = some t ∧ Ieee.single.mul 1056964608 t = some u ∧ Ieee.single.add x u = some y ∧ fin32 y = true ∧ shrO y h = some z
  fz : fin32 z = true
theorem stepO_is {bd h x l z : Nat} (hx : fin32 x = true) (hs : stepO bd h x = some (l, z)) : Stp bd h x l z := by
  unfold stepO at hs
  simp only [Option.bind_eq_some_iff] at hs
  obtain ⟨p, h1, s, h2, l', h3, q, h4, t, h5, u, h6, y, h7, z', h8, h9⟩ := hs
  split at h9
  · rename_i hc
    simp only [Bool.and_eq_true] at hc
    injection h9 with h9
    injection h9 with e1 e2
    subst e1; subst e2
    exact ⟨hx, ⟨p, s, h1, h2, h3⟩, hc.1.1, ⟨q, t, u, y, h4, h5, h6, h7, hc.1.2, h8⟩, hc.2⟩
  · cases h9
theorem stepN_all {bd h : Nat} : ∀ n x, stepN bd h n = some x → fin32 x = true ∧ ∀ k, k < n → ∃ l, Stp bd h ((stepN bd h k).getD 0) l ((stepN bd h (k + 1)).getD 0)
  | 0, x, hx => by
    simp only [stepN, Option.some.injEq] at hx
    subst hx
    exact ⟨fin0, fun k hk => by omega⟩
  | n + 1, x, hx => by
    have hx2 := hx
    simp only [stepN, Option.bind_eq_some_iff, Option.map_eq_some_iff] at hx
    obtain ⟨x0, h1, ⟨l, z⟩, h2, h3⟩ := hx
    obtain ⟨f0, ih⟩ := stepN_all n x0 h1
    have hst := stepO_is f0 h2
    simp only at h3
    subst h3
    refine ⟨hst.fz, fun k hk => ?_⟩
    by_cases e : k = n
    · subst e
      refine ⟨l, ?_⟩
      rw [h1, hx2]
      exact hst
    · exact ih k (by omega)
/-- What the tables tell of the steps. -/
theorem steps_of {g b : Nat} (hg : g < 17) (hb : b < 9) : ∃ (h : Nat) (X : Nat → Nat) (z : Nat), halfO (qF b) = some h ∧ fin32 h = true ∧ X 0 = 0 ∧ (∀ k, k < 60 → ∃ l, Stp (hF g) h (X k) l (X (k + 1))) ∧ is64 (X 60) = true ∧ is64 (hF g) = true ∧
    (Ieee.double.sub (c64 (hF g)) (c64 (qF b))).bind (mxO 0) = some z ∧ underB (c64 (X 60)) z t01 = true := by
  have hs := t_step hg hb
  unfold okStep at hs
  cases h1 : halfO (qF b) with
  | none => rw [h1] at hs; cases hs
  | some h =>
    rw [h1] at hs
    simp only [Bool.and_eq_true] at hs
    obtain ⟨h2, h3⟩ := hs
    cases h4 : stepN (hF g) h 60 with
    | none => rw [h4] at h3; cases h3
    | some x =>
      cases h5 : (Ieee.double.sub (c64 (hF g)) (c64 (qF b))).bind (mxO 0) with
      | none => rw [h4, h5] at h3; cases h3
      | some z =>
        rw [h4, h5] at h3
        simp only [Bool.and_eq_true] at h3
        obtain ⟨⟨⟨h6, h7⟩, h8⟩, h9⟩ := h3
        refine ⟨h, fun k => (stepN (hF g) h k).getD 0, z, rfl, h2, rfl, (stepN_all 60 x h4).2, ?_, h8, rfl, ?_⟩
        · show is64 ((stepN (hF g) h 60).getD 0) = true
          rw [h4]; exact h7
        · show underB (c64 ((stepN (hF g) h 60).getD 0)) z t01 = true
          rw [h4]; exact h9
theorem t_least : (List.range 17).all (fun g => least (hF g)) = true := by decide +kernel
def rowH (bd : Nat) : RowsD := ⟨1, [1065353216], [bd], [0]⟩
theorem fin_halves : fin32 1065353216 = true ∧ fin32 1056964608 = true ∧ (FloatKind.f32.format.order 1056964608 0 == some .gt) = true := by decide +kernel
theorem rowH_val {bd : Nat} (h : least bd = true) : ValR (rowH bd) := by
  refine ⟨Int.le_refl _, ?_, Nat.le_refl _, ?_, rfl, rfl, ?_, ?_, fun i hi => ?_⟩
  · show (1 : Int) ≤ 8
    omega
  · show 1 ≤ 8
    omega
  · show allFin [1065353216] = true
    simp [allFin, fin_halves.1]
  · show allFin [0] = true
    simp [allFin, fin0]
  · have : i = 0 := by
      have h2 : (rowH bd).bnds.length = 1 := rfl
      omega
    subst this
    exact h
theorem rowH_left {bd h x l z : Nat} (hl : least bd = true) (hs : Stp bd h x l z) : leftOk (rowH bd) [x] = true ∧ leftR (rowH bd) [x] = [l] := by
  obtain ⟨p, s, h1, h2, h3⟩ := hs.left
  have hv := validR_true (rowH_val hl)
  have hO : leftO (rowH bd) [x] 0 = some l := by
    show ((Option.some 0).bind fun s => (Ieee.single.mul 1065353216 x).bind fun p => Ieee.single.add s p).bind (fun s => Ieee.single.sub bd s) = some l
    rw [Option.bind_some, h1, Option.bind_some, h2, Option.bind_some, h3]
  have hk : leftOk (rowH bd) [x] = true := by
    unfold leftOk fitX
    rw [hv]
    have hr : (rowH bd).bnds.length = 1 := rfl
    have hf : allFin [x] = true := by simp [allFin, hs.fx]
    rw [hf, hr]
    show (true && (((1 : Int) == 1) && true) && ([0] : List Nat).all (fun i => finO (leftO (rowH bd) [x] i))) = true
    simp only [List.all_cons, List.all_nil, hO, finO, hs.fl]
    rfl
  refine ⟨hk, ?_⟩
  unfold leftR
  rw [if_pos hk]
  show ([0] : List Nat).map (fun i => (leftO (rowH bd) [x] i).getD 0) = [l]
  simp only [List.map_cons, List.map_nil, hO, Option.getD_some]

set_option maxHeartbeats 8000000 in
set_option maxRecDepth 8000 in
theorem steps_any (v : Value) (bd b h : Nat) (X : Nat → Nat) (w : World) (hR : RdR w v (rowH bd)) (hl : least bd = true) (hb : fin32 b = true) (hb0 : (FloatKind.f32.format.order b 0 == some .lt) = false) (hh : halfO b = some h) (hfh : fin32 h = true) (h0 : X 0 = 0) (hX : ∀ k, k < 60 → ∃ l, Stp bd h (X k) l (X (k + 1))) :
    Calls Try.prog 35 #[v, .float .f32 1056964608, .float .f32 b, .int .i64 60] w fun e w' => ∃ u, e = .returned (.tuple #[u, .bool true]) ∧ RdF w' u [X 60] ∧ (∃ g c, u = .slice (some ⟨g, 0, none⟩) 1 c) ∧ Below w.heap.size w w' := by
  obtain ⟨i0, hi, hz0, hz1, hz2⟩ := info_parts Try.infoF32
  obtain ⟨a1, c1, a2, c2, a3, c3, rfl⟩ := hR.shape
  have HR := Lib.hid hR
  have HV := Lib.hid (rowH_val hl)
  have HVA := Lib.hid (fun X (hb : Below w.heap.size w X) => ValidRows_any _ (rowH bd) X (hR.up hb (Nat.le_refl _)))
  rw [validR_true (rowH_val hl)] at HVA
  have HLE := Lib.hid hl
  have HF1 := Lib.hid (fun X => IsFinite_any 1056964608 X)
  have HF2 := Lib.hid (fun X => IsFinite_any b X)
  have HF3 := Lib.hid (fun X => IsFinite_any h X)
  rw [fin_halves.2.1] at HF1
  rw [hb] at HF2
  rw [hfh] at HF3
  have q0 := fin_halves.2.2
  have q1 := fun (W : World) => run_mul8 (P := Try.prog) 53 hh W
  have HWI := Lib.hid (fun X => within_any (60 : Int) 0 200 X)
  rw [inB_true (by omega)] at HWI
  have HX := Lib.hid hX
  have H0 := Lib.hid h0
  have e1 : (rowH bd).nums.length = 1 := rfl
  have e2 : (rowH bd).bnds.length = 1 := rfl
  have e3 : (rowH bd).gains.length = 1 := rfl
  have e4 : (rowH bd).vars = 1 := rfl
  rw [e1, e2, e3, e4] at HR HVA ⊢
  clear hR hl hb hfh hh hX h0 e1 e2 e3 e4
  go_enter Try.func35, Try.ntmps35
  go_upto_region 1 with fail
  refine wp_at fun W0 hW0 => ?_
  have HB0 := Lib.hid (show Below w.heap.size w W0 by subst hW0; (repeat' first | exact Below.refl _ _ | assumption | refine Below.alloc ?_ ?_ _ | refine Below.setCell ?_ ?_ _ | refine Below.drew ?_ | (simp; done) | (simp; omega)))
  have HK0 := Lib.hid (show Blk W0 w.heap.size 61 #[.int .i64 1, .slice a1 1 c1, .slice a2 1 c2, .slice a3 1 c3] by subst hW0; exact Blk.new _ _ _)
  have hk0 := HK0.out.lt
  clear hW0
  have d0 : W0.cell? ⟨w.heap.size, 0, none⟩ = some (.int .i64 1) := HK0.out.cell 0 rfl
  have d1 : W0.cell? ⟨w.heap.size, 1, none⟩ = some (.slice a1 1 c1) := HK0.out.cell 1 rfl
  have d2 : W0.cell? ⟨w.heap.size, 2, none⟩ = some (.slice a2 1 c2) := HK0.out.cell 2 rfl
  have d3 : W0.cell? ⟨w.heap.size, 3, none⟩ = some (.slice a3 1 c3) := HK0.out.cell 3 rfl
  go_upto_region 3 with (first
    | (go_at_call 72; refine (HVA.out _ HB0.out).mono ?_; rintro e w1 ⟨rfl, hb1⟩; have HB1 := Lib.hid (HB0.out.trans (hb1.mono HB0.out.size)); have HK1 := Lib.hid (HK0.out.below hb1 hk0))
    | (go_at_call_of 65 b; refine (HF2.out _).mono ?_; rintro e w3 ⟨rfl, hd3⟩; have HB3 := Lib.hid (show Below w.heap.size w w3 by obtain ⟨m, rfl⟩ := hd3; exact below_drewN HB2.out m); have HK3 := Lib.hid (show Blk w3 w.heap.size 61 #[.int .i64 1, .slice a1 1 c1, .slice a2 1 c2, .slice a3 1 c3] by obtain ⟨m, rfl⟩ := hd3; exact HK2.out))
    | (go_at_call_of 65 h; refine (HF3.out _).mono ?_; rintro e w4 ⟨rfl, hd4⟩; have HB4 := Lib.hid (show Below w.heap.size w w4 by obtain ⟨m, rfl⟩ := hd4; exact below_drewN HB3.out m); have HK4 := Lib.hid (show Blk w4 w.heap.size 61 #[.int .i64 1, .slice a1 1 c1, .slice a2 1 c2, .slice a3 1 c3] by obtain ⟨m, rfl⟩ := hd4; exact HK3.out))
    | (go_at_call 65; refine (HF1.out _).mono ?_; rintro e w2 ⟨rfl, hd2⟩; have HB2 := Lib.hid (show Below w.heap.size w w2 by obtain ⟨m, rfl⟩ := hd2; exact below_drewN HB1.out m); have HK2 := Lib.hid (show Blk w2 w.heap.size 61 #[.int .i64 1, .slice a1 1 c1, .slice a2 1 c2, .slice a3 1 c3] by obtain ⟨m, rfl⟩ := hd2; exact HK1.out))
    | (go_at_call 55; refine (HWI.out _).mono ?_; rintro e w' ⟨rfl, rfl⟩)
    | fail)
  have hz4 := HB4.out.size
  have hk4 := HK4.out.lt
  clear d0 d1 d2 d3 hd2 hd3 hd4 HB0 HB1 HB2 HB3 HK0 HK1 HK2 HK3 HVA HF1 HF2 HWI hk0 q0 hb0
  have d0 : w4.cell? ⟨w.heap.size, 0, none⟩ = some (.int .i64 1) := HK4.out.cell 0 rfl
  go_upto_region 4 with (at_make; refine wpList_make_full _ rfl _ _ 51 rfl w4.heap.size 53 i0 (.float .f32 0) 1 Try.underlying51 hi hz0 hz1 .i64 .i64 1 1 1 rfl rfl rfl rfl (by rw [hz2]; omega) (by simp [maxLen]) (by simp) ?_; intro w5 hown hgrow)
  have hb5 : Below w4.heap.size w4 w5 := (Below.refl _ _).grown hgrow (Nat.le_refl _) (by intro k hk; cases hk)
  have hzr : (madeCells (Value.float .f32 0).cells (1 * 1)).toList = ([0] : List Nat).map F32 := by
    simpa [Value.cells, F32] using toList_madeCells_one (Value.float .f32 0) 1
  rw [hzr] at hown
  have HX0 := Lib.hid (show RdF w5 (.slice (some ⟨w4.heap.size, 0, none⟩) 1 1) [X 0] by rw [H0.out]; exact slc_of_owns hown)
  have HB5 := Lib.hid (hb5.mono (show w.heap.size + 1 ≤ w4.heap.size by omega))
  clear hown hgrow hb5 hzr d0
  go_wp2_with fail
  go_loopw [3, 10] (fun rv xv wr => ∃ (k : Nat) (xg xc : Nat), rv = .int .i64 (60 - (k : Int)) ∧ k ≤ 60 ∧ xv = .slice (some ⟨xg, 0, none⟩) 1 xc ∧ Hid (RdF wr (.slice (some ⟨xg, 0, none⟩) 1 xc) [X k]) ∧ Hid (Below (w.heap.size + 1) w4 wr)) (fun rv _ _ => (intOf rv).toNat)
  case atStart => exact ⟨0, _, 1, by simp, Nat.zero_le _, rfl, HX0, HB5⟩
  case round =>
    obtain ⟨k, xg, xc, rfl, hk, rfl, HXK, HB⟩ := hrel
    obtain ⟨wo, rfl⟩ : ∃ wo, wo = wr := ⟨wr, rfl⟩
    have hzo := HB.out.size
    have HBW := Lib.hid (show Below w.heap.size w wo from HB4.out.trans (HB.out.mono (by omega)))
    by_cases hlt : k < 60
    · have hkI : (0 : Int) < 60 - (k : Int) := by omega
      obtain ⟨l, hst⟩ := HX.out k hlt
      have HST := Lib.hid hst
      obtain ⟨q, t, u, y, s1, s2, s3, s4, s5, s6⟩ := hst.next
      have HK := Lib.hid (HK4.out.below HB.out (by omega))
      have HLO := Lib.hid (implLeft_any _ (rowH bd) (.slice (some ⟨xg, 0, none⟩) 1 xc) [X k] wo (HR.out.up HBW.out (Nat.le_refl _)) HXK.out)
      obtain ⟨hl1, hl2⟩ := rowH_left HLE.out hst
      rw [hl1, hl2] at HLO
      have p1 := fun (W : World) => run_mul8 (P := Try.prog) 53 s1 W
      have p2 := fun (W : World) => run_add8 (P := Try.prog) 53 s2 W
      have p3 := fun (W : World) => run_mul8 (P := Try.prog) 53 s3 W
      have p4 := fun (W : World) => run_add8 (P := Try.prog) 53 s4 W
      have HS5 := Lib.hid s5
      have HS6 := Lib.hid s6
      have d0 : wo.cell? ⟨w.heap.size, 0, none⟩ = some (.int .i64 1) := HK.out.cell 0 rfl
      have d1 : wo.cell? ⟨w.heap.size, 1, none⟩ = some (.slice a1 1 c1) := HK.out.cell 1 rfl
      have d2 : wo.cell? ⟨w.heap.size, 2, none⟩ = some (.slice a2 1 c2) := HK.out.cell 2 rfl
      have d3 : wo.cell? ⟨w.heap.size, 3, none⟩ = some (.slice a3 1 c3) := HK.out.cell 3 rfl
      clear hst hl1 hl2 s1 s2 s3 s4 s5 s6
      go_upto_region 9 with (go_at_call 73; refine HLO.out.mono ?_; rintro e w6 ⟨lv, rfl, hlr, hb6⟩; obtain ⟨la, lc, rfl⟩ := hlr.shape)
      have HB6 := Lib.hid (HB.out.trans (hb6.mono (show w.heap.size + 1 ≤ wo.heap.size by omega)))
      have HL6 := Lib.hid hlr
      have HX6 := Lib.hid (HXK.out.up hb6 (Nat.le_refl _))
      clear hlr hb6 d0 d1 d2 d3 HLO
      have hz6 := HB6.out.size
      go_upto_region 10 with (go_at_call 67; refine (copyF_any _ [X k] w6 HX6.out (by simp)).mono ?_; rintro e w7 ⟨nv, rfl, hon, hb7⟩; obtain ⟨na, nc, rfl⟩ := hon.rd.shape)
      have HB7 := Lib.hid (HB6.out.trans (hb7.mono (show w.heap.size + 1 ≤ w6.heap.size by omega)))
      have HL7 := Lib.hid (HL6.out.up hb7 (Nat.le_refl _))
      have HN7 := Lib.hid (show w7.ownsRow w6.heap.size 53 1 (.slice na 1 nc) 1 ([X k].map F32) from hon.1)
      obtain ⟨g2, rfl⟩ := owns_ptr HN7.out (by omega)
      have hg2 := HN7.out.lt g2 rfl
      clear hon hb7 HL6 HX6
      have e1 : [X k].length = 1 := rfl
      have e2 : [l].length = 1 := rfl
      try rw [e1]
      try rw [e2]
      clear e1 e2
      have hz7 := HB7.out.size
      have hz67 : w6.heap.size ≤ w7.heap.size := by omega
      go_wp2_with fail
      go_loopw [14, 15, 71] (fun _ _ jv wr => ∃ (j yy : Nat), jv = .int .i64 j ∧ j ≤ 1 ∧ Hid (j = 0 → yy = X k) ∧ Hid (j = 1 → yy = y) ∧ Hid (wr.ownsRow w6.heap.size 53 1 (.slice (some ⟨g2, 0, none⟩) 1 nc) 1 ([yy].map F32)) ∧ Hid (Below w6.heap.size w7 wr) ∧ Hid (j = 0 → wr = w7)) (fun _ _ jv _ => 2 - (intOf jv).toNat)
      case atStart => exact ⟨0, X k, rfl, by omega, Lib.hid (fun _ => rfl), Lib.hid (fun h => by omega), HN7, Lib.hid (Below.refl _ _), Lib.hid (fun _ => rfl)⟩
      case round =>
        obtain ⟨j, yy, rfl, hj, HY0, HY1, HN, HBJ, HW⟩ := hrel
        obtain ⟨wj, rfl⟩ : ∃ wj, wj = wr := ⟨wr, rfl⟩
        by_cases hj0 : j = 0
        · subst hj0
          obtain rfl := HW.out rfl
          obtain rfl := HY0.out rfl
          clear HW HY0 HY1 HN
          rw [show ((0 : Nat) : Int) = 0 from rfl]
          have HKJ := Lib.hid (fun Z (hZ : Below wj.heap.size wj Z) => HK4.out.below (HB7.out.trans (hZ.mono (by omega))) (by omega))
          have HRJ := Lib.hid (fun Z (hZ : Below wj.heap.size wj Z) => HR.out.up (HB4.out.trans ((HB7.out.trans (hZ.mono (by omega))).mono (by omega))) (Nat.le_refl _))
          go_wp2_with fail
          go_loopw [15, 16, 17, 76] (fun sv _ _ iv wr => ∃ (i sc : Nat), iv = .int .i64 i ∧ i ≤ 1 ∧ sv = .float .f32 sc ∧ Hid (i = 0 → sc = 0) ∧ Hid (i = 1 → sc = t) ∧ Hid (Below wj.heap.size wj wr)) (fun _ _ _ iv _ => 2 - (intOf iv).toNat)
          case atStart => exact ⟨0, 0, rfl, by omega, rfl, Lib.hid (fun _ => rfl), Lib.hid (fun h => by omega), Lib.hid (Below.refl _ _)⟩
          case round =>
            obtain ⟨i, sc, rfl, hi1, rfl, HS0, HS1, HBI⟩ := hrel
            obtain ⟨wi, rfl⟩ : ∃ wi, wi = wr := ⟨wr, rfl⟩
            have hzi := HBI.out.size
            by_cases hi0 : i = 0
            · subst hi0
              obtain rfl := HS0.out rfl
              obtain ⟨lb, lo, rfl, _, cl⟩ := (HL7.out.up HBI.out (Nat.le_refl _)).at (i := 0) (by simp)
              have hKI := HKJ.out wi HBI.out
              have d0 : wi.cell? ⟨w.heap.size, 0, none⟩ = some (.int .i64 1) := hKI.cell 0 rfl
              have d1 : wi.cell? ⟨w.heap.size, 1, none⟩ = some (.slice a1 1 c1) := hKI.cell 1 rfl
              have d2 : wi.cell? ⟨w.heap.size, 2, none⟩ = some (.slice a2 1 c2) := hKI.cell 2 rfl
              have d3 : wi.cell? ⟨w.heap.size, 3, none⟩ = some (.slice a3 1 c3) := hKI.cell 3 rfl
              have HROW := Lib.hid (row_any _ (rowH bd) 0 wi (HRJ.out wi HBI.out) HV.out (show 0 < (rowH bd).bnds.length from Nat.le_refl 1))
              have hro : rowO (rowH bd) 0 = [1065353216] := rfl
              rw [hro] at HROW
              rw [Nat.add_zero] at cl
              rw [show [l].getD 0 0 = l from rfl] at cl
              clear HS0 HS1 hKI hro
              go_wp2_with (go_at_call 74; go_loud (refine HROW.out.mono ?_; rintro e w8 ⟨rv, rfl, hrr, hb8⟩); obtain ⟨ra, rc, rfl⟩ := hrr.shape; obtain ⟨rb, ro, rfl, _, cr⟩ := hrr.at (i := 0) (by simp); rw [Nat.add_zero] at cr; rw [show ([1065353216] : List Nat).getD 0 0 = 1065353216 from rfl] at cr; have HB8 := Lib.hid (HBI.out.trans (hb8.mono hzi)))
              go_roundw
              case rel => exact ⟨1, t, by go_num, by omega, rfl, Lib.hid (fun h => by omega), Lib.hid (fun _ => rfl), HB8⟩
              case measure => simp [intOf]
            · obtain rfl : i = 1 := by omega
              obtain rfl := HS1.out rfl
              clear HS0 HS1
              have HNI := Lib.hid (ownsK_below HN7.out HBI.out (Nat.le_refl _))
              have cn : wi.cell? ⟨g2, 0, none⟩ = some (.float .f32 (X k)) := by
                have := HNI.out.cellAt 0 (by omega)
                rw [this]; rfl
              have fn := HNI.out.frozenAt 0
              have HSTO := Lib.hid (show (wi.setCell ⟨g2, 0, none⟩ (.float .f32 y)).ownsRow w6.heap.size 53 1 (.slice (some ⟨g2, 0, none⟩) 1 nc) 1 ([y].map F32) by
                have := (HNI.out.stored 0 (.float .f32 y)).1
                exact this)
              go_wp2_with fail
              go_roundw
              case rel => exact ⟨1, y, by go_num, by omega, Lib.hid (fun h => by omega), Lib.hid (fun _ => rfl), HSTO, Lib.hid ((HBI.out.mono hz67).setCell (p := ⟨g2, 0, none⟩) hg2.1 _), Lib.hid (fun h => by omega)⟩
              case measure => simp [intOf]
        · obtain rfl : j = 1 := by omega
          obtain rfl := HY1.out rfl
          clear HY0 HY1 HW
          have HBZ := Lib.hid (HB7.out.trans (HBJ.out.mono (show w.heap.size + 1 ≤ w6.heap.size by omega)))
          have hzj := HBZ.out.size
          have HRN := Lib.hid (show RdF wj (.slice (some ⟨g2, 0, none⟩) 1 nc) [yy] from slc_of_owns HN.out)
          have HAF := Lib.hid (areFinite_any _ [yy] wj HRN.out)
          rw [show allFin [yy] = true by simp [allFin, HS5.out]] at HAF
          have HSH := Lib.hid (fun Z (hZ : RdF Z (.slice (some ⟨g2, 0, none⟩) 1 nc) [yy]) => shrunk_any (.slice (some ⟨g2, 0, none⟩) 1 nc) [yy] [X (k + 1)] h Z hZ (by simp) rfl (fun i hi => by
            have : i = 0 := by simpa using hi
            subst this
            exact HS6.out))
          have HAF2 := Lib.hid (fun u Z (hZ : RdF Z u [X (k + 1)]) => areFinite_any u [X (k + 1)] Z hZ)
          rw [show allFin [X (k + 1)] = true by simp [allFin, HST.out.fz]] at HAF2
          go_wp2_with (first
            | (go_at_call_of 71 g2; refine HAF.out.mono ?_; rintro e w9 ⟨rfl, hd9⟩; have HB9 := Lib.hid (show Below (w.heap.size + 1) w4 w9 by obtain ⟨m, rfl⟩ := hd9; exact below_drewN HBZ.out m); have HR9 := Lib.hid (show RdF w9 (.slice (some ⟨g2, 0, none⟩) 1 nc) [yy] by obtain ⟨m, rfl⟩ := hd9; exact HRN.out); clear hd9)
            | (go_at_call 66; refine (HSH.out w9 HR9.out).mono ?_; rintro e w10 ⟨zv, rfl, hoz, hb10⟩; obtain ⟨za, zc, rfl⟩ := hoz.rd.shape; have HB10 := Lib.hid (HB9.out.trans (hb10.mono (by have := HB9.out.size; omega))); have HZ10 := Lib.hid hoz; obtain ⟨g3, rfl⟩ := owns_ptr (show w10.ownsRow w9.heap.size 53 1 (.slice za 1 zc) 1 ([X (k + 1)].map F32) from hoz.1) (by omega); clear hoz hb10)
            | (go_at_call_of 71 g3; refine (HAF2.out _ w10 HZ10.out.rd).mono ?_; rintro e w11 ⟨rfl, hd11⟩; have HB11 := Lib.hid (show Below (w.heap.size + 1) w4 w11 by obtain ⟨m, rfl⟩ := hd11; exact below_drewN HB10.out m); have HZ11 := Lib.hid (show RdF w11 (.slice (some ⟨g3, 0, none⟩) 1 zc) [X (k + 1)] by obtain ⟨m, rfl⟩ := hd11; exact HZ10.out.rd); clear hd11)
            | fail)
          go_roundw
          case rel => exact ⟨k + 1, g3, zc, by go_num, by omega, rfl, HZ11, HB11⟩
          case measure => simp [intOf]; omega
    · obtain rfl : k = 60 := by omega
      have hkk : ¬ (0 : Int) < 60 - ((60 : Nat) : Int) := by omega
      go_wp2_with fail
      go_ret2
      exact ⟨_, rfl, HXK.out, ⟨xg, xc, rfl⟩, HBW.out⟩

end Go.Proofs.Ytfdaifmfecfchaa

namespace Go.Proofs.Ytfdaifmfecfchaa
open Go.RowKit

theorem Try.infoBool8 : (Try.prog.info? 4).map (fun i => (i.zero, i.size, i.bytes)) = some (some (.bool false), 1, 1) := by kernel_rfl
def flV (n : Nat) (S : List Nat) : List Value := (List.range n).map fun i => Value.bool (S.contains i)
theorem flV_at {n i : Nat} (S : List Nat) (h : i < n) : (flV n S)[i]? = some (.bool (S.contains i)) := by
  unfold flV
  rw [List.getElem?_map, List.getElem?_range h]
  rfl
theorem flV_len (n : Nat) (S : List Nat) : (flV n S).length = n := by unfold flV; simp
theorem flV_zero (n : Nat) : flV n [] = List.replicate n (.bool false) := by
  unfold flV
  rw [List.eq_replicate_iff]
  refine ⟨by simp, ?_⟩
  intro b hb
  rw [List.mem_map] at hb
  obtain ⟨a, _, rfl⟩ := hb
  rfl
theorem flV_set {n x : Nat} (S : List Nat) (h : x < n) : (flV n S).set x (.bool true) = flV n (S ++ [x]) := by
  refine List.ext_getElem? ?_
  intro d
  rw [List.getElem?_set]
  by_cases hd : d < n
  · rw [flV_at _ hd, flV_at _ hd, flV_len]
    by_cases e : x = d
    · subst e
      rw [if_pos rfl, if_pos h]
      simp
    · rw [if_neg e]
      have : ¬ d = x := fun e2 => e e2.symm
      simp [this]
  · have h1 : (flV n S)[d]? = none := by rw [List.getElem?_eq_none]; rw [flV_len]; omega
    have h2 : (flV n (S ++ [x]))[d]? = none := by rw [List.getElem?_eq_none]; rw [flV_len]; omega
    rw [if_neg (by omega), h1, h2]
theorem perm_fresh {L : List Nat} {n i : Nat} (hp : L.Perm (List.range n)) (hi : i < n) : L.getD i 0 < n ∧ (L.take i).contains (L.getD i 0) = false ∧ L.take (i + 1) = L.take i ++ [L.getD i 0] := by
  have hl : L.length = n := by rw [hp.length_eq, List.length_range]
  have hil : i < L.length := by omega
  have hg : L.getD i 0 = L[i] := by rw [List.getD_eq_getElem?_getD, List.getElem?_eq_getElem hil]; rfl
  have hn : L.Nodup := hp.nodup_iff.2 List.nodup_range
  refine ⟨?_, ?_, ?_⟩
  · rw [hg]; exact List.mem_range.1 (hp.mem_iff.1 (List.getElem_mem _))
  · rw [← Bool.not_eq_true, List.contains_iff_mem]
    intro h
    have h2 := hn
    rw [← List.take_append_drop i L] at h2
    have h3 : L.getD i 0 ∈ L.drop i := by rw [List.drop_eq_getElem_cons hil, hg]; exact List.mem_cons_self ..
    exact (List.nodup_append.1 h2).2.2 _ h _ h3 rfl
  · rw [List.take_add_one, List.getElem?_eq_getElem hil, hg]; rfl

set_option maxHeartbeats 2000000 in
set_option maxRecDepth 4000 in
theorem r8Tour_any (v : Value) (L : List Nat) (n : Nat) (w : World) (h : RdI w v (idxs L)) (hp : L.Perm (List.range n)) (hn : n ≤ 1000) :
    Calls Try.prog 19 #[v, .int .i64 n] w fun e w' => e = .returned (.bool true) ∧ Below w.heap.size w w' := by
  have hl : L.length = n := by rw [hp.length_eq, List.length_range]
  obtain ⟨a, c, rfl⟩ := h.shape
  have hli : (idxs L).length = n := by rw [idxs_len, hl]
  rw [hli] at h ⊢
  obtain ⟨i0, hi, hz0, hz1, hz2⟩ := info_parts Try.infoBool8
  have HR := Lib.hid h
  have HP := Lib.hid hp
  have HL := Lib.hid hl
  clear h hp hl hli
  have hne : ((n : Int) != (n : Int)) = false := by simp
  go_enter Try.func19, Try.ntmps19
  go_upto_region 4 with (at_make; refine wpList_make_full _ rfl _ _ 46 rfl w.heap.size 4 i0 (.bool false) 1 Try.underlying46 hi hz0 hz1 .i64 .i64 n n n rfl rfl rfl rfl (by rw [hz2]; omega) (by simp [maxLen]; omega) (by simp) ?_; intro w2 hown hgrow)
  have hb2 : Below w.heap.size w w2 := (Below.refl _ _).grown hgrow (Nat.le_refl _) (by intro k hk; cases hk)
  have hz : (madeCells (Value.bool false).cells (n * 1)).toList = flV n [] := by
    rw [flV_zero]; simpa [Value.cells] using toList_madeCells_one (Value.bool false) n
  rw [hz] at hown
  obtain ⟨g, hg⟩ : ∃ g, g = w.heap.size := ⟨_, rfl⟩
  rw [← hg] at hown ⊢
  have hgl : g < w2.heap.size := (owns_lt hown (k := g) rfl).2
  have HO2 := Lib.hid hown
  have HB2 := Lib.hid hb2
  have HG := Lib.hid (show w.heap.size ≤ g by omega)
  clear hown hb2 hz hgrow hg hne
  go_wp2_with fail
  go_loopw [6] (fun iv wr => ∃ k : Nat, iv = .int .i64 k ∧ k ≤ n ∧ Hid (wr.ownsRow g 4 1 (.slice (some ⟨g, 0, none⟩) n n) n (flV n (L.take k))) ∧ Hid (Kept (· = g) w2 wr)) (fun iv _ => n + 1 - (intOf iv).toNat)
  case atStart => exact ⟨0, rfl, Nat.zero_le _, HO2, Lib.hid (Kept.refl _ _)⟩
  case round =>
    obtain ⟨k, rfl, hk, HO, HK⟩ := hrel
    obtain ⟨wo, rfl⟩ : ∃ wo, wo = wr := ⟨wr, rfl⟩
    have HB := Lib.hid (HB2.out.trans (HK.out.toBelow HB2.out.size (fun k h1 h2 => by have := HG.out; omega)))
    by_cases hlt : k < n
    · have hltI : (k : Int) < (n : Int) := by omega
      obtain ⟨hx1, hx2, hx3⟩ := perm_fresh HP.out hlt
      have HST0 := Lib.hid (HO.out.stored (L.getD k 0) (.bool true)).1
      rw [flV_set _ hx1, ← hx3] at HST0
      have HKS := Lib.hid (show Kept (· = g) w2 (wo.setCell ⟨g, L.getD k 0, none⟩ (.bool true)) from HK.out.setCell (.inr rfl) _)
      obtain ⟨ub, uo, rfl, _, hx⟩ := (HR.out.up HB.out (Nat.le_refl _)).at (i := k) (by rw [idxs_len, HL.out]; exact hlt)
      rw [idxs_get _ (by rw [HL.out]; exact hlt)] at hx
      have hd := HO.out.cellAt (L.getD k 0) (by omega)
      have hf := HO.out.frozenAt (L.getD k 0)
      rw [flV_at _ hx1, hx2] at hd
      obtain ⟨x, hxe⟩ : ∃ x, x = L.getD k 0 := ⟨_, rfl⟩
      rw [← hxe] at hx hd hf hx1 HST0 HKS
      have hxI : (x : Int) < (n : Int) := by omega
      have hxN : ¬ (n : Int) ≤ (x : Int) := by omega
      have hx0 : ¬ (x : Int) < 0 := by omega
      clear hxe hx2 hx3
      go_wp2_with fail
      go_roundw
      case rel => exact ⟨k + 1, by go_num, by omega, HST0, HKS⟩
      case measure => simp [intOf]; omega
    · obtain rfl : k = n := by omega
      go_wp2_with fail
      go_ret
      exact ⟨rfl, HB.out⟩

end Go.Proofs.Ytfdaifmfecfchaa

namespace Go.Proofs.Ytfdaifmfecfchaa
open Go.RowKit Go.Sort

/-- Which numbers below 6 are among those. -/
def fI (Q : List Int) : List Value := (List.range 6).map fun s : Nat => Value.bool (decide ((s : Int) ∈ Q))
theorem fI_len (Q : List Int) : (fI Q).length = 6 := by simp [fI]
theorem fI_at (Q : List Int) {x : Nat} (h : x < 6) : (fI Q)[x]? = some (.bool (decide ((x : Int) ∈ Q))) := by
  unfold fI
  rw [List.getElem?_map, List.getElem?_range h]
  rfl
theorem fI_zero : fI [] = List.replicate 6 (.bool false) := rfl
theorem fI_set (Q : List Int) {x : Nat} (h : x < 6) : (fI Q).set x (.bool true) = fI (Q ++ [(x : Int)]) := by
  refine List.ext_getElem? fun d => ?_
  rw [List.getElem?_set, fI_len]
  by_cases hd : d < 6
  · rw [fI_at _ hd, fI_at _ hd]
    by_cases e : x = d
    · subst e
      rw [if_pos rfl, if_pos h]
      simp
    · rw [if_neg e]
      congr 2
      rw [decide_eq_decide, List.mem_append, List.mem_singleton]
      exact ⟨.inl, fun hh => hh.resolve_right (by omega)⟩
  · rw [if_neg (by omega), List.getElem?_eq_none (by rw [fI_len]; omega), List.getElem?_eq_none (by rw [fI_len]; omega)]
theorem fI_in {Q : List Int} {x : Int} (h : x ∈ Q) : fI (Q ++ [x]) = fI Q := by
  unfold fI
  refine List.map_congr_left fun s _ => ?_
  congr 1
  rw [decide_eq_decide, List.mem_append, List.mem_singleton]
  exact ⟨fun hh => hh.elim id (fun e => e ▸ h), .inl⟩
theorem t_div4 : (List.range 9).all (fun b => Ieee.single.div (floatOfInt .f32 (b : Int)) 1082130432 == some (qF b)) = true := by decide +kernel
theorem t_div2 : (List.range 17).all (fun g => Ieee.single.div (floatOfInt .f32 (g : Int)) 1073741824 == some (hF (g : Int))) = true := by decide +kernel
theorem div4_is {b : Nat} (h : b < 9) : Ieee.single.div (floatOfInt .f32 (b : Int)) 1082130432 = some (qF b) := by
  have := List.all_eq_true.1 t_div4 b (List.mem_range.2 h)
  rwa [beq_iff_eq] at this
theorem div2_is {g : Nat} (h : g < 17) : Ieee.single.div (floatOfInt .f32 (g : Int)) 1073741824 = some (hF (g : Int)) := by
  have := List.all_eq_true.1 t_div2 g (List.mem_range.2 h)
  rwa [beq_iff_eq] at this
theorem asN_last {xs : List Int} (h : 1 ≤ xs.length) (h0 : ∀ i, i < xs.length → 0 ≤ xs.getD i 0) : ∃ x : Nat, (asN xs).getLast? = some x ∧ xs.getD (xs.length - 1) 0 = (x : Int) := by
  have hl : (asN xs).length = xs.length := by unfold asN; rw [List.length_map]
  refine ⟨(xs.getD (xs.length - 1) 0).toNat, ?_, ?_⟩
  · rw [List.getLast?_eq_getElem?, hl]
    unfold asN
    rw [List.getElem?_map, List.getD_eq_getElem?_getD, List.getElem?_eq_getElem (by omega)]
    rfl
  · have := h0 (xs.length - 1) (by omega)
    omega
/-- What the law asks of the list with the ones asked for ahead. -/
theorem front_law {xs : List Int} (h1 : 1 ≤ xs.length) (h : ∀ i, i < xs.length → 0 ≤ xs.getD i 0 ∧ xs.getD i 0 < 6) :
    (frC (List.range 6) (asN xs)).2.Perm (List.range 6) ∧ (frC (List.range 6) (asN xs)).2.getD 0 0 = (xs.getD (xs.length - 1) 0).toNat ∧ xs.length ≤ (frC (List.range 6) (asN xs)).1 ∧ (frC (List.range 6) (asN xs)).1 ≤ 6 * xs.length := by
  have hl : (asN xs).length = xs.length := by unfold asN; rw [List.length_map]
  obtain ⟨p1, p2, p3⟩ := frC_perm (n := 6) (asN xs) (List.range 6) (List.Perm.refl _) (fun x hx => by
    unfold asN at hx
    obtain ⟨y, hy, rfl⟩ := List.mem_map.1 hx
    obtain ⟨i, hi, rfl⟩ := List.mem_iff_getElem.1 hy
    have := h i hi
    rw [List.getD_eq_getElem?_getD, List.getElem?_eq_getElem hi] at this
    simp only [Option.getD_some] at this
    omega)
  rw [hl] at p2 p3
  refine ⟨p1, ?_, p2, p3⟩
  have hne : asN xs ≠ [] := fun e => by rw [e] at hl; simp at hl; omega
  have h5 := frC_head (asN xs) (List.range 6) hne
  obtain ⟨x, h6, h7⟩ := asN_last h1 (fun i hi => (h i hi).1)
  rw [h6] at h5
  cases h8 : (frC (List.range 6) (asN xs)).2 with
  | nil => rw [h8] at h5; simp at h5
  | cons y r =>
    rw [h8] at h5
    simp at h5
    rw [h7]
    simp [h5]
/-- What the law asks of faults. -/
theorem faults_law {xs : List Int} {rm : Nat} (h1 : 1 ≤ rm) (h : ∀ y ∈ xs, 0 ≤ y ∧ y < 6) :
    flL rm 2 [] xs ≤ flL rm 0 [] xs ∧ flL rm 2 [] xs ≤ flL rm 1 [] xs ∧ flL (rm + 1) 1 [] xs ≤ flL rm 1 [] xs ∧ kinL [] xs ≤ flL rm 2 [] xs ∧ flL 6 0 [] xs = kinL [] xs ∧ flL rm 0 [] xs ≤ xs.length := by
  have h0 : ∀ y ∈ xs, 0 ≤ y := fun y hy => (h y hy).1
  refine ⟨knows_best h1 0 xs h0, knows_best h1 1 xs h0, ?_, kin_le xs [] [] (fun y hy => by cases hy), ?_, fl_len xs []⟩
  · exact wider_best h1 xs [] [] [] List.nodup_nil ⟨[], rfl, .inr ⟨rfl, Nat.zero_le _⟩⟩ ⟨[], rfl, .inr ⟨rfl, Nat.zero_le _⟩⟩
  · exact kin_full (n := 6) xs [] [] List.nodup_nil (fun y hy => by cases hy) (fun y => Iff.rfl) h
theorem kin_len : ∀ (r Q : List Int), kinL Q r ≤ r.length
  | [], _ => Nat.le_refl _
  | x :: r, Q => by
    have ih := kin_len r (Q ++ [x])
    simp only [kinL, List.length_cons]
    split <;> omega

theorem is64_some {b : Nat} (h : is64 b = true) : floatToFloatBits .f32 b .f64 = some (c64 b) := by
  unfold is64 at h
  unfold c64
  cases hh : floatToFloatBits .f32 b .f64 with
  | none => rw [hh] at h; cases h
  | some r => rfl
theorem tiny_is {a b t : Nat} (h : tinyB a b t = true) : ∃ g, gapO a b = some g ∧ (FloatKind.f64.format.order g t == some .gt) = false := by
  unfold tinyB at h
  cases hg : gapO a b with
  | none => rw [hg] at h; cases h
  | some g =>
    rw [hg] at h
    refine ⟨g, rfl, ?_⟩
    rw [beq_eq_false_iff_ne]
    intro e
    have e2 : Ieee.double.order g t = some .gt := e
    simp only [e2] at h
    exact absurd h (by decide)
theorem under_is {a b t : Nat} (h : underB a b t = true) : ∃ g, gapO a b = some g ∧ (FloatKind.f64.format.order g t == some .lt) = true := by
  unfold underB at h
  cases hg : gapO a b with
  | none => rw [hg] at h; cases h
  | some g =>
    rw [hg] at h
    exact ⟨g, rfl, h⟩
/-- What the tables tell of a half that is shrunk. -/
theorem shr_facts {d : Int} {b : Nat} (hb : b < 9) (hd : InH d) : ∃ y p1 p2 q1 q2 z g, shrO (hF d) (qF b) = some y ∧ floatToFloatBits .f32 (hF d) .f64 = some (c64 (hF d)) ∧ floatToFloatBits .f32 y .f64 = some (c64 y) ∧
    Ieee.double.sub (c64 (hF d)) (c64 (qF b)) = some p1 ∧ mxO 0 p1 = some p2 ∧ Ieee.double.add (c64 (hF d)) (c64 (qF b)) = some q1 ∧ mnO 0 q1 = some q2 ∧ Ieee.double.add p2 q2 = some z ∧ gapO (c64 y) z = some g ∧
    (FloatKind.f64.format.order g 4562254508917369340 == some .gt) = false := by
  have h := List.all_eq_true.1 t_shr b (List.mem_range.2 hb)
  simp only [Bool.and_eq_true] at h
  have h2 := List.all_eq_true.1 h.2 d (mem_upto hd.1 (by have := hd.2; omega))
  rw [Bool.and_eq_true] at h2
  obtain ⟨h3, h4⟩ := h2
  unfold okShr at h4
  cases hy : shrO (hF d) (qF b) with
  | none => rw [hy] at h4; cases h4
  | some y =>
    cases hz : wantO (hF d) (qF b) with
    | none => rw [hy, hz] at h4; cases h4
    | some z =>
      rw [hy, hz] at h4
      simp only [Bool.and_eq_true] at h4
      obtain ⟨⟨h5, h6⟩, h7⟩ := h4
      obtain ⟨g, hg, ho⟩ := tiny_is h7
      unfold wantO at hz
      simp only [Option.bind_eq_some_iff] at hz
      obtain ⟨p1, e1, p2, e2, q1, e3, q2, e4, e5⟩ := hz
      exact ⟨y, p1, p2, q1, q2, z, g, rfl, is64_some h3, is64_some h6, e1, e2, e3, e4, e5, hg, ho⟩
theorem by_facts {b : Nat} (hb : b < 9) : fin32 (qF b) = true ∧ floatToFloatBits .f32 (qF b) .f64 = some (c64 (qF b)) ∧ (FloatKind.f32.format.order (qF b) 0 == some .lt) = false := by
  have h := List.all_eq_true.1 t_shr b (List.mem_range.2 hb)
  simp only [Bool.and_eq_true, Bool.not_eq_true'] at h
  exact ⟨h.1.1.1, is64_some h.1.1.2, h.1.2⟩
theorem short_map {ds : List Int} (h : ∀ d ∈ ds, InH d) (h1 : 1 ≤ ds.length) (h8 : ds.length ≤ 8) : shortB (ds.map hF) = true := by
  unfold shortB
  rw [List.length_map, inB_true (by omega), Bool.true_and]
  unfold allFin
  rw [List.all_eq_true]
  intro b hb
  obtain ⟨d, hd, rfl⟩ := List.mem_map.1 hb
  have := h d hd
  exact (tb_val (by have := this.1; omega) (by have := this.2; omega)).1
theorem map_at (f : Int → Nat) (ds : List Int) {i : Nat} (h : i < ds.length) : (ds.map f).getD i 0 = f (ds.getD i 0) := by
  rw [List.getD_eq_getElem?_getD, List.getElem?_map, List.getD_eq_getElem?_getD, List.getElem?_eq_getElem h]
  rfl
theorem least_h {g : Nat} (h : g < 17) : least (hF (g : Int)) = true := List.all_eq_true.1 t_least g (List.mem_range.2 h)

/-- What the first list brought to the sum 1 is. -/
structure SimV (ds : List Int) (V : Int → Nat) : Prop where
  fin : allFin (ds.map V) = true
  again : ∀ E2, Desc (ds.map V) E2 → ∃ L, simL (ds.map V) E2 = ds.map (fun d => lessV (V d) L) ∧ simOk2 (ds.map V) E2 = true ∧
    ∀ d ∈ ds, is64 (V d) = true ∧ ltF0 (V d) = false ∧ is64 (lessV (V d) L) = true ∧ tinyB (c64 (lessV (V d) L)) (c64 (V d)) t001 = true
  sums : ∃ S : Nat → Nat, S 0 = 0 ∧ (∀ i, i < ds.length → Ieee.double.add (S i) (c64 (V (ds.getD i 0))) = some (S (i + 1))) ∧ underB (S ds.length) one64 t001 = true
theorem sim_first (v : Value) {ds : List Int} (hin : ∀ d ∈ ds, InH d) (h1 : 1 ≤ ds.length) (h8 : ds.length ≤ 8) (X : World) (hX : RdF X v (ds.map hF)) :
    Calls Try.prog 33 #[v] X fun e w' => ∃ u V, e = .returned (.tuple #[u, .bool true]) ∧ OwnF X.heap.size w'.heap.size w' u (ds.map V) ∧ Below X.heap.size X w' ∧ Hid (SimV ds V) := by
  have hsh := short_map hin h1 h8
  refine (simI_any v (ds.map hF) X hX).mono ?_
  rintro e w' ⟨u, E, rfl, hE, ho, hb⟩
  obtain ⟨V, v1, v2, v3, v4, v5⟩ := sim_law hin h1 h8 (hE.out hsh)
  rw [hsh, v2, show (true && true) = true from rfl, if_pos rfl, v1] at ho
  refine ⟨u, V, ?_, ho, hb, Lib.hid ⟨v3, v4, v5⟩⟩
  rw [hsh, v2]
  rfl
theorem sim_again (v : Value) {ds : List Int} {V : Int → Nat} (h1 : 1 ≤ ds.length) (h8 : ds.length ≤ 8) (hV : SimV ds V) (X : World) (hX : RdF X v (ds.map V)) :
    Calls Try.prog 33 #[v] X fun e w' => ∃ u L, e = .returned (.tuple #[u, .bool true]) ∧ OwnF X.heap.size w'.heap.size w' u (ds.map fun d => lessV (V d) L) ∧ Below X.heap.size X w' ∧
      Hid (∀ d ∈ ds, is64 (V d) = true ∧ ltF0 (V d) = false ∧ is64 (lessV (V d) L) = true ∧ tinyB (c64 (lessV (V d) L)) (c64 (V d)) t001 = true) := by
  have hsh : shortB (ds.map V) = true := by
    unfold shortB
    rw [List.length_map, inB_true (by omega), hV.fin]
    rfl
  refine (simI_any v (ds.map V) X hX).mono ?_
  rintro e w' ⟨u, E, rfl, hE, ho, hb⟩
  obtain ⟨L, l1, l2, l3⟩ := hV.again E (hE.out hsh)
  rw [hsh, l2, show (true && true) = true from rfl, if_pos rfl, l1] at ho
  refine ⟨u, L, ?_, ho, hb, Lib.hid l3⟩
  rw [hsh, l2]
  rfl

/-- One row of one number, made for the call. -/
theorem rdR_three (W : World) (bd b2 b3 : Nat) (h2 : b2 = W.heap.size + 1) (h3 : b3 = W.heap.size + 1 + 1) :
    RdR (((W.alloc (.cells #[.float .f32 1065353216] 53)).alloc (.cells #[.float .f32 bd] 53)).alloc (.cells #[.float .f32 0] 53)) (.agg #[.int .i64 1, .slice (some ⟨W.heap.size, 0, none⟩) 1 1, .slice (some ⟨b2, 0, none⟩) 1 1, .slice (some ⟨b3, 0, none⟩) 1 1]) (rowH bd) := by
  have e1 : (W.alloc (.cells #[.float .f32 1065353216] 53)).heap.size = W.heap.size + 1 := by simp
  have e2 : ((W.alloc (.cells #[.float .f32 1065353216] 53)).alloc (.cells #[.float .f32 bd] 53)).heap.size = W.heap.size + 1 + 1 := by simp
  have s1 := slcF_one W 1065353216
  have s2 := slcF_one (W.alloc (.cells #[.float .f32 1065353216] 53)) bd
  have s3 := slcF_one ((W.alloc (.cells #[.float .f32 1065353216] 53)).alloc (.cells #[.float .f32 bd] 53)) 0
  rw [e1, ← h2] at s2
  rw [e2, ← h3] at s3
  refine ⟨_, _, _, rfl, ?_, ?_, s3⟩
  · exact (s1.below ((Below.refl _ _).alloc (Nat.le_refl _) _) (Nat.le_refl _)).below ((Below.refl _ _).alloc (Nat.le_refl _) _) (Nat.le_refl _)
  · exact s2.below ((Below.refl _ _).alloc (Nat.le_refl _) _) (Nat.le_refl _)

end Go.Proofs.Ytfdaifmfecfchaa
