/-
  FnJournal: texts joined: SolI, SlvI, SlvR, ScaleM.
-/
import Derived.Deep.RegionHeld3
import Derived.Test.YtgkbbpajkbkgnaaGreatDoorMFnJournalAG
import Derived.Test.YtgkbbpajkbkgnaaGreatDoorMFnJournalAI
import Derived.Test.YtgkbbpajkbkgnaaGreatDoorMFnJournalAJ
import Derived.Test.YtgkbbpajkbkgnaaGreatDoorMFnJournalAK
import Derived.Test.YtgkbbpajkbkgnaaGreatDoorMFnJournalAM
set_option linter.unusedVariables false
set_option linter.unusedSimpArgs false
namespace Go.Proofs.YtgkbbpajkbkgnaaGreatDoor
open Go.RowKit
theorem solveO_end {near F : Nat} {t : TabD} (h : enterT t near < 0) : solveO near F t = some t := by
  cases F <;> simp only [solveO] <;> rw [if_pos h]
theorem solveO_stop {near : Nat} {t : TabD} (h : ¬ enterT t near < 0) : solveO near 0 t = none := by
  simp only [solveO]; rw [if_neg h]
theorem solveO_way {near F : Nat} {t : TabD} (h : ¬ enterT t near < 0) (h2 : leaveT t (enterT t near).toNat near < 0) : solveO near (F + 1) t = none := by
  simp only [solveO]; rw [if_neg h, if_pos h2]
theorem solveO_no {near F r c : Nat} {t : TabD} (h : enterT t near = (c : Int)) (h2 : leaveT t c near = (r : Int)) (h3 : pivOk t r c = false) : solveO near (F + 1) t = none := by
  simp only [solveO]
  rw [h, show ((c : Int)).toNat = c by omega, h2, show ((r : Int)).toNat = r by omega, if_neg (by omega), if_neg (by omega), h3]
  rfl
theorem solveO_yes {near F r c : Nat} {t : TabD} (h : enterT t near = (c : Int)) (h2 : leaveT t c near = (r : Int)) (h3 : pivOk t r c = true) : solveO near (F + 1) t = solveO near F (pivT t r c) := by
  simp only [solveO]
  rw [h, show ((c : Int)).toNat = c by omega, h2, show ((r : Int)).toNat = r by omega, if_neg (by omega), if_neg (by omega), h3]
  rfl
def SolPost (S : Nat → Prop) (near most : Nat) (t : TabD) (B : Nat) (w : World) (e : Ending) (w' : World) : Prop :=
  ∃ (tv : Value) (cnt col : Int) (ok : Bool), e = .returned (.tuple #[tv, .int .i64 cnt, .int .i64 col, .bool ok]) ∧ (∃ x a n c b m d, tv = .agg #[.int .i64 x, .slice a n c, .slice b m d]) ∧
    (∀ t', solveO near most t = some t' → ok = true ∧ col = -1 ∧ ∀ Wf, Kept S w' Wf → RdTb Wf tv t') ∧ (solveO near most t = none → ok = false ∨ 0 ≤ col) ∧ Below B w w'
set_option maxHeartbeats 4000000 in
set_option maxRecDepth 8000 in
theorem solveI_any (v : Value) (t : TabD) (most near : Nat) (w : World) (S : Nat → Prop) (hS : ∀ b, S b → b < w.heap.size) (h : ∀ Wf, Kept S w Wf → RdTb Wf v t) (hg : GoodT t) (hnr : least near = true) (hmost : most ≤ 64) :
    Calls Tryz.prog 319 #[v, .int .i64 most, .float .f32 near] w (SolPost S near most t w.heap.size w) := by
  obtain ⟨a, c, b, d, rfl⟩ := (h w (Kept.refl _ _)).shape
  have HRT := Lib.hid h
  have HSS := Lib.hid hS
  clear hS
  have HG := Lib.hid hg
  clear h hg
  go_enter Tryz.func319, Tryz.ntmps319
  go_upto_region 1 with fail
  refine wp_at fun W0 hW0 => ?_
  have HB0 := Lib.hid (show Below w.heap.size w W0 by subst hW0; (repeat' first | exact Below.refl _ _ | assumption | refine Below.alloc ?_ ?_ _ | refine Below.setCell ?_ ?_ _ | refine Below.drew ?_ | (simp; done) | (simp; omega)))
  have HK0 := Lib.hid (show Blk W0 w.heap.size 258 #[.int .i64 t.vars, .slice a t.nums.length c, .slice b t.basis.length d] by subst hW0; exact (Blk.new _ _ _).alloc _)
  have HR0 := Lib.hid (show Blk W0 (w.heap.size + 1) 258 #[.int .i64 0, .slice none 0 0, .slice none 0 0] by subst hW0; simpa using Blk.new (w.alloc (.cells #[.int .i64 t.vars, .slice a t.nums.length c, .slice b t.basis.length d] 258)) 258 #[.int .i64 0, .slice none 0 0, .slice none 0 0])
  have hz0 := HB0.out.size
  have hz02 : w.heap.size + 2 ≤ W0.heap.size := by have := HR0.out.lt; omega
  clear hW0
  go_wp2_with fail
  go_loopw [10] (fun nv wr => ∃ (n F x m l : Nat) (p q : Option Addr) (pc qc : Nat) (t' : TabD), nv = .int .i64 n ∧ Hid (n + F = most) ∧ Hid (Blk wr w.heap.size 258 #[.int .i64 x, .slice p m pc, .slice q l qc]) ∧ Hid (∀ Wf, Kept (fun b => S b ∨ b = w.heap.size ∨ b = w.heap.size + 1) wr Wf → RdTb Wf (.agg #[.int .i64 x, .slice p m pc, .slice q l qc]) t') ∧ Hid (GoodT t') ∧ Hid (solveO near most t = solveO near F t') ∧ Hid (Blk wr (w.heap.size + 1) 258 #[.int .i64 0, .slice none 0 0, .slice none 0 0]) ∧ Hid (Below w.heap.size w wr) ∧ w.heap.size + 2 ≤ wr.heap.size) (fun nv _ => most + 1 - (intOf nv).toNat)
  case atStart => exact ⟨0, most, t.vars, _, _, a, b, c, d, t, rfl, Lib.hid (by omega), HK0, Lib.hid (fun Wf hk => HRT.out Wf ((Kept.of_below HB0.out (Nat.le_refl _)).step hk (by rintro k h1 (e | e | e); exact e; omega; omega))), HG, Lib.hid rfl, HR0, HB0, hz02⟩
  case round =>
    obtain ⟨n, F, x, m, l, p, q, pc, qc, t', rfl, HNF, HKB, HRD, HGT, HEQ, HRB, HB, hz2⟩ := hrel
    obtain ⟨wo, rfl⟩ : ∃ wo, wo = wr := ⟨wr, rfl⟩
    have d0 : wo.cell? ⟨w.heap.size, 0, none⟩ = some (.int .i64 x) := HKB.out.cell 0 rfl
    have d1 : wo.cell? ⟨w.heap.size, 1, none⟩ = some (.slice p m pc) := HKB.out.cell 1 rfl
    have d2 : wo.cell? ⟨w.heap.size, 2, none⟩ = some (.slice q l qc) := HKB.out.cell 2 rfl
    have HEN := Lib.hid (tabEnter_any _ t' near wo (HRD.out _ (Kept.refl _ _)) HGT.out)
    have hrg := enterT_rng t' near
    have HSE := Lib.hid (fun h => @solveO_end near F t' h)
    go_upto_region 4 with (go_at_call 331; refine HEN.out.mono ?_; rintro e w2 ⟨rfl, hb2⟩)
    have hz22 : w.heap.size + 2 ≤ w2.heap.size := Nat.le_trans hz2 hb2.size
    have HK2 := Lib.hid (HKB.out.below hb2 HKB.out.lt)
    have HR2 := Lib.hid (HRB.out.below hb2 HRB.out.lt)
    have HT2 := Lib.hid (show ∀ Wf, Kept (fun b => S b ∨ b = w.heap.size ∨ b = w.heap.size + 1) w2 Wf → RdTb Wf (.agg #[.int .i64 x, .slice p m pc, .slice q l qc]) t' from fun Wf hk => HRD.out Wf ((Kept.of_below hb2 (Nat.le_refl _)).trans hk))
    have HB2 := Lib.hid (HB.out.trans (hb2.mono HB.out.size))
    clear hb2 d0 d1 d2 HEN
    have d0 : w2.cell? ⟨w.heap.size, 0, none⟩ = some (.int .i64 x) := HK2.out.cell 0 rfl
    have d1 : w2.cell? ⟨w.heap.size, 1, none⟩ = some (.slice p m pc) := HK2.out.cell 1 rfl
    have d2 : w2.cell? ⟨w.heap.size, 2, none⟩ = some (.slice q l qc) := HK2.out.cell 2 rfl
    have r0 := HR2.out.cell 0 rfl
    have r1 := HR2.out.cell 1 rfl
    have r2 := HR2.out.cell 2 rfl
    have s0 := HR2.out.free 0
    have s1 := HR2.out.free 1
    have s2 := HR2.out.free 2
    obtain ⟨en, hen⟩ : ∃ en, en = enterT t' near := ⟨_, rfl⟩
    rw [← hen] at hrg ⊢
    have FIN := Lib.hid (show ∀ Wf, Kept (· = w.heap.size + 1) w2 Wf → Below w.heap.size w Wf from fun Wf hk => HB2.out.trans (hk.toBelow HB2.out.size (by intro k h1 h2; omega)))
    rcases hrg with h1 | ⟨cl, hcl, h1⟩
    · have HS := Lib.hid (show solveO near most t = some t' by rw [HEQ.out]; exact HSE.out (by omega))
      subst h1
      clear hen
      go_wp2_with fail
      refine bodyPost_ret (v := .tuple #[.agg #[.int .i64 x, .slice p m pc, .slice q l qc], .int .i64 n, .int .i64 (-1), .bool true]) (by simp [results, Tryz.results319, go_sem, *]) rfl ⟨_, _, _, _, rfl, ⟨_, _, _, _, _, _, _, rfl⟩, (fun t2 h2 => ⟨rfl, rfl, ?_⟩), (fun h2 => by rw [HS.out] at h2; cases h2), FIN.out _ ?_⟩
      · rw [HS.out] at h2
        cases h2
        intro Wf hk
        refine HT2.out Wf (Kept.trans ?_ (hk.mono fun _ _ e => .inl e))
        repeat' first | exact Kept.refl _ _ | refine Kept.setCell ?_ (.inr (.inr (.inr (by simp)))) _
      · repeat' first | exact Kept.refl _ _ | refine Kept.setCell ?_ (.inr (by simp)) _
    · have hNN := HNF.out
      by_cases hF : F = 0
      · subst hF
        have HS := Lib.hid (show solveO near most t = none by rw [HEQ.out]; exact solveO_stop (by rw [← hen]; omega))
        have hnm : ((n : Int) == (most : Int)) = true := by rw [beq_iff_eq]; omega
        have hcn : ¬ (cl : Int) < 0 := by omega
        subst h1
        clear hen hNN
        go_wp2_with fail
        refine bodyPost_ret (v := .tuple #[.agg #[.int .i64 0, .slice none 0 0, .slice none 0 0], .int .i64 0, .int .i64 0, .bool false]) (by simp [results, Tryz.results319, go_sem, *]) rfl ⟨_, _, _, _, rfl, ⟨0, none, 0, 0, none, 0, 0, rfl⟩, (fun t2 h2 => by rw [HS.out] at h2; cases h2), (fun _ => .inl rfl), FIN.out _ ?_⟩
        repeat' first | exact Kept.refl _ _ | refine Kept.setCell ?_ (.inr (by simp)) _
      · obtain ⟨F', rfl⟩ : ∃ k, F = k + 1 := ⟨F - 1, by omega⟩
        have hnm : ((n : Int) == (most : Int)) = false := by rw [beq_eq_false_iff_ne]; omega
        have HLV := Lib.hid (tabLeave_any _ t' cl near w2 (HT2.out _ (Kept.refl _ _)) HGT.out hcl hnr)
        have hlr := leaveK_rng t' cl near t'.basis.length
        rw [show (leaveK t' cl near t'.basis.length).1 = leaveT t' cl near from rfl] at hlr
        have HEN2 := Lib.hid (show enterT t' near = (cl : Int) by rw [← hen]; exact h1)
        have hcn : ¬ (cl : Int) < 0 := by omega
        obtain ⟨lv, hlv⟩ : ∃ lv, lv = leaveT t' cl near := ⟨_, rfl⟩
        rw [← hlv] at hlr HLV
        subst h1
        clear hen
        rcases hlr with h2 | ⟨r, hr, h2, hgt⟩
        · have HS := Lib.hid (show solveO near most t = none by
            rw [HEQ.out]
            refine solveO_way (by rw [HEN2.out]; omega) ?_
            rw [HEN2.out, show ((cl : Int)).toNat = cl by omega, ← hlv]
            omega)
          subst h2
          clear hlv d0 d1 d2 r0 r1 r2 s0 s1 s2
          have d0 : w2.cell? ⟨w.heap.size, 0, none⟩ = some (.int .i64 x) := HK2.out.cell 0 rfl
          have d1 : w2.cell? ⟨w.heap.size, 1, none⟩ = some (.slice p m pc) := HK2.out.cell 1 rfl
          have d2 : w2.cell? ⟨w.heap.size, 2, none⟩ = some (.slice q l qc) := HK2.out.cell 2 rfl
          go_wp2_with (go_at_call 332; refine HLV.out.mono ?_; rintro e w3 ⟨rfl, hb3⟩; have HB3 := Lib.hid (HB2.out.trans (hb3.mono HB2.out.size)); have HK3 := Lib.hid (HK2.out.below hb3 HK2.out.lt); have HR3 := Lib.hid (HR2.out.below hb3 HR2.out.lt); have d0 : w3.cell? ⟨w.heap.size, 0, none⟩ = some (.int .i64 x) := HK3.out.cell 0 rfl; have d1 : w3.cell? ⟨w.heap.size, 1, none⟩ = some (.slice p m pc) := HK3.out.cell 1 rfl; have d2 : w3.cell? ⟨w.heap.size, 2, none⟩ = some (.slice q l qc) := HK3.out.cell 2 rfl; have r0 := HR3.out.cell 0 rfl; have r1 := HR3.out.cell 1 rfl; have r2 := HR3.out.cell 2 rfl; have s0 := HR3.out.free 0; have s1 := HR3.out.free 1; have s2 := HR3.out.free 2)
          refine bodyPost_ret (v := .tuple #[.agg #[.int .i64 x, .slice p m pc, .slice q l qc], .int .i64 n, .int .i64 cl, .bool true]) (by simp [results, Tryz.results319, go_sem, *]) rfl ⟨_, _, _, _, rfl, ⟨_, _, _, _, _, _, _, rfl⟩, (fun t2 h2 => by rw [HS.out] at h2; cases h2), (fun _ => .inr (by omega)), ?_⟩
          have FIN3 : ∀ Wf, Kept (· = w.heap.size + 1) w3 Wf → Below w.heap.size w Wf := fun Wf hk => HB3.out.trans (hk.toBelow HB3.out.size (by intro k h1 h2; omega))
          refine FIN3 _ ?_
          repeat' first | exact Kept.refl _ _ | refine Kept.setCell ?_ (.inr (by simp)) _
        · subst h2
          have HL2 := Lib.hid (show leaveT t' cl near = (r : Int) from hlv.symm)
          have hrn : ¬ (r : Int) < 0 := by omega
          have hg0 := gt_zero (HGT.out.at (i := r) (k := cl) (by omega) (by rw [wdT_cols]; omega)) hnr hgt
          clear hlv d0 d1 d2 r0 r1 r2 s0 s1 s2
          have d0 : w2.cell? ⟨w.heap.size, 0, none⟩ = some (.int .i64 x) := HK2.out.cell 0 rfl
          have d1 : w2.cell? ⟨w.heap.size, 1, none⟩ = some (.slice p m pc) := HK2.out.cell 1 rfl
          have d2 : w2.cell? ⟨w.heap.size, 2, none⟩ = some (.slice q l qc) := HK2.out.cell 2 rfl
          go_upto_region 11 with (go_at_call 332; refine HLV.out.mono ?_; rintro e w3 ⟨rfl, hb3⟩; have HB3 := Lib.hid (HB2.out.trans (hb3.mono HB2.out.size)); have HK3 := Lib.hid (HK2.out.below hb3 HK2.out.lt); have HR3 := Lib.hid (HR2.out.below hb3 HR2.out.lt); have d0 : w3.cell? ⟨w.heap.size, 0, none⟩ = some (.int .i64 x) := HK3.out.cell 0 rfl; have d1 : w3.cell? ⟨w.heap.size, 1, none⟩ = some (.slice p m pc) := HK3.out.cell 1 rfl; have d2 : w3.cell? ⟨w.heap.size, 2, none⟩ = some (.slice q l qc) := HK3.out.cell 2 rfl; have r0 := HR3.out.cell 0 rfl; have r1 := HR3.out.cell 1 rfl; have r2 := HR3.out.cell 2 rfl; have s0 := HR3.out.free 0; have s1 := HR3.out.free 1; have s2 := HR3.out.free 2)
          have HPV := Lib.hid (pivotI_any _ t' r cl w3 (HT2.out _ (Kept.of_below hb3 (Nat.le_refl _))) HGT.out hr hcl hg0)
          have hz32 : w.heap.size + 2 ≤ w3.heap.size := Nat.le_trans hz22 hb3.size
          obtain ⟨ok, hok⟩ : ∃ ok, ok = pivOk t' r cl := ⟨_, rfl⟩
          rw [← hok] at HPV
          have HOK := Lib.hid hok.symm
          clear hok hg0 hgt hr
          cases ok
          · have HS := Lib.hid (show solveO near most t = none by rw [HEQ.out]; exact solveO_no HEN2.out HL2.out HOK.out)
            go_upto_region 13 with (go_at_call 333; refine HPV.out.mono ?_; rintro e w4 ⟨tv, rfl, hz, hy, hb4⟩; obtain rfl := hz rfl)
            refine wp_at fun w5 hw5 => ?_
            have HB5 := Lib.hid (show Below w.heap.size w w5 by subst hw5; exact (HB3.out.trans (hb4.mono HB3.out.size)).alloc (Nat.le_trans HB3.out.size hb4.size) _)
            have HR5 := Lib.hid (show Blk w5 (w.heap.size + 1) 258 #[.int .i64 0, .slice none 0 0, .slice none 0 0] by subst hw5; exact (HR3.out.below hb4 HR3.out.lt).alloc _)
            clear hw5 d0 d1 d2 r0 r1 r2 s0 s1 s2
            have r0 := HR5.out.cell 0 rfl
            have r1 := HR5.out.cell 1 rfl
            have r2 := HR5.out.cell 2 rfl
            have s0 := HR5.out.free 0
            have s1 := HR5.out.free 1
            have s2 := HR5.out.free 2
            go_wp2_with fail
            refine bodyPost_ret (v := .tuple #[.agg #[.int .i64 0, .slice none 0 0, .slice none 0 0], .int .i64 0, .int .i64 0, .bool false]) (by simp [results, Tryz.results319, go_sem, *]) rfl ⟨_, _, _, _, rfl, ⟨0, none, 0, 0, none, 0, 0, rfl⟩, (fun t2 h2 => by rw [HS.out] at h2; cases h2), (fun _ => .inl rfl), ?_⟩
            have FIN3 : ∀ Wf, Kept (· = w.heap.size + 1) w5 Wf → Below w.heap.size w Wf := fun Wf hk => HB5.out.trans (hk.toBelow HB5.out.size (by intro k h1 h2; omega))
            refine FIN3 _ ?_
            repeat' first | exact Kept.refl _ _ | refine Kept.setCell ?_ (.inr (by simp)) _
          · go_upto_region 14 with (go_at_call 333; refine HPV.out.mono ?_; rintro e w4 ⟨tv, rfl, hz, hy, hb4⟩; have hrd := hy rfl; obtain ⟨a5, c5, b5, d5, rfl⟩ := (hrd _ (Kept.refl _ _)).shape)
            refine wp_at fun w5 hw5 => ?_
            have HB5 := Lib.hid (show Below w.heap.size w w5 by subst hw5; exact (HB3.out.trans (hb4.mono HB3.out.size)).alloc (Nat.le_trans HB3.out.size hb4.size) _)
            have HR5 := Lib.hid (show Blk w5 (w.heap.size + 1) 258 #[.int .i64 0, .slice none 0 0, .slice none 0 0] by subst hw5; exact (HR3.out.below hb4 HR3.out.lt).alloc _)
            have HK5 := Lib.hid (show Blk w5 w.heap.size 258 #[.int .i64 x, .slice p m pc, .slice q l qc] by subst hw5; exact (HK3.out.below hb4 HK3.out.lt).alloc _)
            have HN5 := Lib.hid (show Blk w5 w4.heap.size 258 #[.int .i64 (pivT t' r cl).vars, .slice a5 (pivT t' r cl).nums.length c5, .slice b5 (pivT t' r cl).basis.length d5] by subst hw5; exact Blk.new _ _ _)
            have HT5 := Lib.hid (show ∀ Wf, Kept (fun b => S b ∨ b = w.heap.size ∨ b = w.heap.size + 1) w5 Wf → RdTb Wf (.agg #[.int .i64 (pivT t' r cl).vars, .slice a5 (pivT t' r cl).nums.length c5, .slice b5 (pivT t' r cl).basis.length d5]) (pivT t' r cl) from fun Wf hk => by
              subst hw5
              refine hrd Wf ?_
              exact ((Kept.refl _ w4).alloc _).trans (hk.mono (by rintro b e1 (e | e | e); (have := HSS.out b e; omega); omega; omega)))
            have hz5 : w.heap.size + 2 ≤ w5.heap.size := by have := HR5.out.lt; omega
            have HGD := Lib.hid (pivT_good HGT.out HOK.out)
            have HEQ2 := Lib.hid (show solveO near most t = solveO near F' (pivT t' r cl) by rw [HEQ.out]; exact solveO_yes HEN2.out HL2.out HOK.out)
            obtain ⟨x5, hx5⟩ : ∃ x5, x5 = (pivT t' r cl).vars := ⟨_, rfl⟩
            obtain ⟨m5, hm5⟩ : ∃ x5, x5 = (pivT t' r cl).nums.length := ⟨_, rfl⟩
            obtain ⟨l5, hl5⟩ : ∃ x5, x5 = (pivT t' r cl).basis.length := ⟨_, rfl⟩
            rw [← hx5, ← hm5, ← hl5] at HN5 HT5
            clear hw5 d0 d1 d2 r0 r1 r2 s0 s1 s2 hrd hx5 hm5 hl5 HPV
            have d0 := HN5.out.cell 0 rfl
            have d1 := HN5.out.cell 1 rfl
            have d2 := HN5.out.cell 2 rfl
            have k0 := HK5.out.cell 0 rfl
            have k1 := HK5.out.cell 1 rfl
            have k2 := HK5.out.cell 2 rfl
            have s0 := HK5.out.free 0
            have s1 := HK5.out.free 1
            have s2 := HK5.out.free 2
            go_wp2_with fail
            go_roundw
            case rel => exact ⟨n + 1, F', x5, m5, l5, a5, b5, c5, d5, pivT t' r cl, by go_num, Lib.hid (by omega), Lib.hid (by simpa using ((HK5.out.set 0 (.int .i64 x5)).set 1 (.slice a5 m5 c5)).set 2 (.slice b5 l5 d5)), Lib.hid (fun Wf hk => HT5.out Wf (((kept_three _ _ _ _ _).mono (fun b _ e => .inr (.inl e))).trans hk)), HGD, HEQ2, Lib.hid (HR5.out.kept (kept_three _ _ _ _ _) (by omega)), Lib.hid (((HB5.out.setCell (Nat.le_refl _) _).setCell (Nat.le_refl _) _).setCell (Nat.le_refl _) _), by simpa using hz5⟩
            case measure => simp [intOf]; omega
end Go.Proofs.YtgkbbpajkbkgnaaGreatDoor

namespace Go.Proofs.YtgkbbpajkbkgnaaGreatDoor
open Go.RowKit
theorem isMost_any (n : Int) (w : World) : Calls Tryz.prog 317 #[.int .i64 n] w fun e w' => e = .returned (.bool (inB 0 64 n)) ∧ w' = w := by
  go_enter Tryz.func317, Tryz.ntmps317
  go_wp2_with fail
  refine (within_any n 0 64 w).mono ?_
  rintro e w1 ⟨rfl, rfl⟩
  go_wp2_with fail
  go_ret
  exact ⟨rfl, rfl⟩
theorem isNear_any (x : Nat) (w : World) : Calls Tryz.prog 318 #[.float .f32 x] w fun e w' => e = .returned (.bool (least x)) ∧ ∃ m, w' = w.drewN m := by
  by_cases h : fin32 x = true
  · have hg : least x = geq0 x := by unfold least; rw [h]; rfl
    have HG := Lib.hid hg
    have H := Lib.hid h
    clear hg h
    go_enter Tryz.func318, Tryz.ntmps318
    go_wp2_with fail
    refine (IsFinite_any x w).mono ?_
    rintro e w1 ⟨rfl, hd1⟩
    rw [H.out]
    go_wp2_with fail
    go_ret
    exact ⟨by rw [HG.out]; rfl, hd1⟩
  · rw [Bool.not_eq_true] at h
    have HG := Lib.hid (show least x = false by unfold least; rw [h]; rfl)
    have H := Lib.hid h
    clear h
    go_enter Tryz.func318, Tryz.ntmps318
    go_wp2_with fail
    refine (IsFinite_any x w).mono ?_
    rintro e w1 ⟨rfl, hd1⟩
    rw [H.out]
    go_wp2_with fail
    go_ret
    exact ⟨by rw [HG.out]; rfl, hd1⟩
noncomputable def solvB (r : RowsD) (most : Int) (near : Nat) : Bool := validR r && inB 0 64 most && least near
noncomputable def solvO (r : RowsD) (most : Int) (near : Nat) : Option TabD := if solvB r most near = true then solveO near most.toNat (tableT r) else none
def SlvPost (r : RowsD) (most : Int) (near : Nat) (B : Nat) (w : World) (e : Ending) (w' : World) : Prop :=
  ∃ (tv : Value) (ok : Bool), e = .returned (.tuple #[tv, .bool ok]) ∧ (∃ x a n c b m d, tv = .agg #[.int .i64 x, .slice a n c, .slice b m d]) ∧
    (∀ t', solvO r most near = some t' → ok = true ∧ RdTb w' tv t') ∧ (solvO r most near = none → ok = false) ∧ Below B w w'
set_option maxHeartbeats 4000000 in
set_option maxRecDepth 8000 in
theorem solvedI_any (v : Value) (r : RowsD) (most : Int) (near : Nat) (w : World) (h : RdR w v r) :
    Calls Tryz.prog 286 #[v, .int .i64 most, .float .f32 near] w (SlvPost r most near w.heap.size w) := by
  obtain ⟨a1, c1, a2, c2, a3, c3, rfl⟩ := h.shape
  have HRD := Lib.hid h
  clear h
  obtain ⟨qv, hqv⟩ : ∃ q, validR r = q := ⟨_, rfl⟩
  obtain ⟨qm, hqm⟩ : ∃ q, inB 0 64 most = q := ⟨_, rfl⟩
  obtain ⟨qn, hqn⟩ : ∃ q, least near = q := ⟨_, rfl⟩
  have HS := Lib.hid (show solvB r most near = (qv && qm && qn) by unfold solvB; rw [hqv, hqm, hqn])
  have HV := Lib.hid hqv
  have HM := Lib.hid hqm
  have HN := Lib.hid hqn
  clear hqv hqm hqn
  go_enter Tryz.func286, Tryz.ntmps286
  go_upto_region 1 with fail
  refine wp_at fun W0 hW0 => ?_
  have HB0 := Lib.hid (show Below w.heap.size w W0 by subst hW0; (repeat' first | exact Below.refl _ _ | assumption | refine Below.alloc ?_ ?_ _ | refine Below.setCell ?_ ?_ _ | refine Below.drew ?_ | (simp; done) | (simp; omega)))
  have HK0 := Lib.hid (show Blk W0 w.heap.size 26 #[.int .i64 r.vars, .slice a1 r.nums.length c1, .slice a2 r.bnds.length c2, .slice a3 r.gains.length c3] by subst hW0; exact (Blk.new _ _ _).alloc _)
  have HR0 := Lib.hid (show Blk W0 (w.heap.size + 1) 258 #[.int .i64 0, .slice none 0 0, .slice none 0 0] by subst hW0; simpa using Blk.new (w.alloc (.cells #[.int .i64 r.vars, .slice a1 r.nums.length c1, .slice a2 r.bnds.length c2, .slice a3 r.gains.length c3] 26)) 258 #[.int .i64 0, .slice none 0 0, .slice none 0 0])
  have hz0 := HB0.out.size
  have hz1 := HR0.out.lt
  have HRW := Lib.hid (HRD.out.up HB0.out (Nat.le_refl _))
  clear hW0
  have d0 := HK0.out.cell 0 rfl
  have d1 := HK0.out.cell 1 rfl
  have d2 := HK0.out.cell 2 rfl
  have d3 := HK0.out.cell 3 rfl
  cases qv
  · have HNO := Lib.hid (show solvO r most near = none by unfold solvO; rw [HS.out]; rfl)
    go_upto_region 2 with (go_at_call 316; refine (tableOfI_no _ r W0 HRW.out HV.out).mono ?_; rintro e w1 ⟨rfl, hb1⟩; have HB1 := Lib.hid (HB0.out.trans (hb1.mono hz0)); have HR1 := Lib.hid (HR0.out.below hb1 hz1))
    refine wp_at fun W2 hW2 => ?_
    have HR2 := Lib.hid (show Blk W2 (w.heap.size + 1) 258 #[.int .i64 0, .slice none 0 0, .slice none 0 0] by subst hW2; exact HR1.out.alloc _)
    have HB2 := Lib.hid (show Below w.heap.size w W2 by subst hW2; exact HB1.out.alloc HB1.out.size _)
    clear hW2
    have s0 := HR2.out.free 0
    have s1 := HR2.out.free 1
    have s2 := HR2.out.free 2
    have r0 := HR2.out.cell 0 rfl
    have r1 := HR2.out.cell 1 rfl
    have r2 := HR2.out.cell 2 rfl
    go_wp2_with fail
    refine bodyPost_ret (v := .tuple #[.agg #[.int .i64 0, .slice none 0 0, .slice none 0 0], .bool false]) (by simp [results, Tryz.results286, go_sem, *]) rfl ⟨_, _, rfl, ⟨0, none, 0, 0, none, 0, 0, rfl⟩, (fun t' h' => by rw [HNO.out] at h'; cases h'), (fun _ => rfl), ?_⟩
    have FIN : ∀ Wf, Kept (· = w.heap.size + 1) W2 Wf → Below w.heap.size w Wf := fun Wf hk => HB2.out.trans (hk.toBelow HB2.out.size (by intro k h1 h2; omega))
    refine FIN _ ?_
    repeat' first | exact Kept.refl _ _ | refine Kept.setCell ?_ (by first | exact .inr (by simp) | exact .inl (by simp)) _ | refine Kept.alloc ?_ _
  · obtain ⟨t, ht⟩ : ∃ t, t = tableT r := ⟨_, rfl⟩
    have HG := Lib.hid (show GoodT t by rw [ht]; exact tableT_good (validR_iff.1 HV.out))
    have HTY := Lib.hid (tableOfI_yes _ r W0 HRW.out HV.out)
    have HSO := Lib.hid (show solvO r most near = if (qm && qn) = true then solveO near most.toNat t else none by unfold solvO; rw [HS.out, ← ht]; rfl)
    rw [← ht] at HTY
    clear ht
    go_upto_region 2 with (go_at_call 316; refine HTY.out.mono ?_; rintro e w1 ⟨tv, rfl, hrt, hb1⟩; obtain ⟨a, c, b, d, rfl⟩ := (hrt _ (Kept.refl _ _)).shape; have HB1 := Lib.hid (HB0.out.trans (hb1.mono hz0)); have HR1 := Lib.hid (HR0.out.below hb1 hz1); have hz11 := hb1.size)
    refine wp_at fun W2 hW2 => ?_
    obtain ⟨q, hq⟩ : ∃ q, q = w1.heap.size := ⟨_, rfl⟩
    obtain ⟨l1, hl1⟩ : ∃ q, q = t.nums.length := ⟨_, rfl⟩
    obtain ⟨l2, hl2⟩ : ∃ q, q = t.basis.length := ⟨_, rfl⟩
    obtain ⟨l0, hl0⟩ : ∃ q, q = t.vars := ⟨_, rfl⟩
    rw [← hl0, ← hl1, ← hl2] at hrt hW2
    have HQ2 := Lib.hid (show Blk W2 q 258 #[.int .i64 l0, .slice a l1 c, .slice b l2 d] by subst hW2 hq; exact Blk.new _ _ _)
    have HR2 := Lib.hid (show Blk W2 (w.heap.size + 1) 258 #[.int .i64 0, .slice none 0 0, .slice none 0 0] by subst hW2; exact HR1.out.alloc _)
    have HB2 := Lib.hid (show Below w.heap.size w W2 by subst hW2; exact HB1.out.alloc HB1.out.size _)
    have HT2 := Lib.hid (show ∀ Wf, Kept (· < W0.heap.size) W2 Wf → RdTb Wf (.agg #[.int .i64 l0, .slice a l1 c, .slice b l2 d]) t from fun Wf hk => hrt Wf (by subst hW2; exact ((Kept.refl _ _).alloc _).trans (hk.mono (by intro b _ e; exact e))))
    rw [← hq]
    have hz2 := HB2.out.size
    have hqz : W0.heap.size ≤ q := by omega
    have hq2 := HQ2.out.lt
    have hr2 := HR2.out.lt
    clear hW2 hrt hq hb1 hl0 hl1 hl2 d0 d1 d2 d3 hz11 HTY
    have d0 := HQ2.out.cell 0 rfl
    have d1 := HQ2.out.cell 1 rfl
    have d2 := HQ2.out.cell 2 rfl
    have s0 := HR2.out.free 0
    have s1 := HR2.out.free 1
    have s2 := HR2.out.free 2
    have r0 := HR2.out.cell 0 rfl
    have r1 := HR2.out.cell 1 rfl
    have r2 := HR2.out.cell 2 rfl
    have FIN : ∀ Wf, Kept (· = w.heap.size + 1) W2 Wf → Below w.heap.size w Wf := fun Wf hk => HB2.out.trans (hk.toBelow HB2.out.size (by intro k h1 h2; omega))
    cases qm
    · have HNO := Lib.hid (show solvO r most near = none by rw [HSO.out]; rfl)
      go_wp2_with (go_at_call 317; refine (isMost_any most _).mono ?_; rintro e w2 ⟨rfl, rfl⟩; rw [HM.out])
      refine bodyPost_ret (v := .tuple #[.agg #[.int .i64 0, .slice none 0 0, .slice none 0 0], .bool false]) (by simp [results, Tryz.results286, go_sem, *]) rfl ⟨_, _, rfl, ⟨0, none, 0, 0, none, 0, 0, rfl⟩, (fun t' h' => by rw [HNO.out] at h'; cases h'), (fun _ => rfl), ?_⟩
      refine FIN _ ?_
      repeat' first | exact Kept.refl _ _ | refine Kept.setCell ?_ (by first | exact .inr (by simp) | exact .inl (by simp)) _ | refine Kept.alloc ?_ _
    · cases qn
      · have HNO := Lib.hid (show solvO r most near = none by rw [HSO.out]; rfl)
        go_wp2_with (first | (go_at_call 317; refine (isMost_any most _).mono ?_; rintro e w2 ⟨rfl, rfl⟩; rw [HM.out]) | (go_at_call 318; refine (isNear_any near _).mono ?_; rintro e w2 ⟨rfl, m2, rfl⟩; rw [HN.out]))
        refine bodyPost_ret (v := .tuple #[.agg #[.int .i64 0, .slice none 0 0, .slice none 0 0], .bool false]) (by simp [results, Tryz.results286, go_sem, *]) rfl ⟨_, _, rfl, ⟨0, none, 0, 0, none, 0, 0, rfl⟩, (fun t' h' => by rw [HNO.out] at h'; cases h'), (fun _ => rfl), ?_⟩
        refine FIN _ ?_
        repeat' first | exact Kept.refl _ _ | refine Kept.setCell ?_ (by first | exact .inr (by simp) | exact .inl (by simp)) _ | refine Kept.alloc ?_ _ | refine Kept.drewN ?_ _
      · have hmm := inB_iff.1 HM.out
        obtain ⟨M, rfl⟩ := Int.eq_ofNat_of_zero_le hmm.1
        have HM64 := Lib.hid (show M ≤ 64 by omega)
        have HSV := Lib.hid (show solvO r (M : Int) near = solveO near M t by rw [HSO.out]; rfl)
        clear hmm
        go_upto_region 5 with (first | (go_at_call 317; refine (isMost_any _ _).mono ?_; rintro e w2 ⟨rfl, rfl⟩; rw [HM.out]) | (go_at_call 318; refine (isNear_any near _).mono ?_; rintro e w2 ⟨rfl, m2, rfl⟩; rw [HN.out]) | (go_at_call 319; refine (solveI_any _ t M near _ (· = w.heap.size + 1) (by intro b e; simp; omega) (fun Wf hk => HT2.out Wf (((Kept.refl _ _).drewN _).trans (hk.mono (by intro b _ e; omega)))) HG.out HN.out HM64.out).mono ?_; rintro e w3 ⟨tv, cnt, col, ok, rfl, ⟨x3, a3', n3, c3', b3, m3, d3', rfl⟩, hyes, hno, hb3⟩; have HY := Lib.hid hyes; have HNN := Lib.hid hno; have HB3 := Lib.hid (HB2.out.trans ((below_drewN (Below.refl _ _) _).trans (hb3.mono (by simp; omega)))); have HR3 := Lib.hid (HR2.out.below ((below_drewN (Below.refl _ _) _).trans hb3) (by simp; omega)); have hr3 := HR3.out.lt; clear hyes hno hb3))
        refine wp_at fun W5 hW5 => ?_
        obtain ⟨q5, hq5⟩ : ∃ q, q = w3.heap.size := ⟨_, rfl⟩
        have HQ5 := Lib.hid (show Blk W5 q5 258 #[.int .i64 x3, .slice a3' n3 c3', .slice b3 m3 d3'] by subst hW5 hq5; exact Blk.new _ _ _)
        have HR5 := Lib.hid (show Blk W5 (w.heap.size + 1) 258 #[.int .i64 0, .slice none 0 0, .slice none 0 0] by subst hW5; exact HR3.out.alloc _)
        have HB5 := Lib.hid (show Below w.heap.size w W5 by subst hW5; exact HB3.out.alloc HB3.out.size _)
        have HY5 := Lib.hid (show ∀ t', solveO near M t = some t' → ok = true ∧ col = -1 ∧ ∀ Wf, Kept (· = w.heap.size + 1) W5 Wf → RdTb Wf (.agg #[.int .i64 x3, .slice a3' n3 c3', .slice b3 m3 d3']) t' from fun t' h' => ⟨(HY.out t' h').1, (HY.out t' h').2.1, fun Wf hk => (HY.out t' h').2.2 Wf (by subst hW5; exact ((Kept.refl _ _).alloc _).trans hk)⟩)
        rw [← hq5]
        clear hW5 hq5 d0 d1 d2 r0 r1 r2 s0 s1 s2 HY FIN
        have d0 := HQ5.out.cell 0 rfl
        have d1 := HQ5.out.cell 1 rfl
        have d2 := HQ5.out.cell 2 rfl
        have s0 := HR5.out.free 0
        have s1 := HR5.out.free 1
        have s2 := HR5.out.free 2
        have r0 := HR5.out.cell 0 rfl
        have r1 := HR5.out.cell 1 rfl
        have r2 := HR5.out.cell 2 rfl
        have FIN : ∀ Wf, Kept (· = w.heap.size + 1) W5 Wf → Below w.heap.size w Wf := fun Wf hk => HB5.out.trans (hk.toBelow HB5.out.size (by intro k h1 h2; omega))
        obtain ⟨fn, hfn⟩ : ∃ fn, fn = (ok && decide (col < 0)) := ⟨_, rfl⟩
        have HFN := Lib.hid (show ∀ Wf, Kept (· = w.heap.size + 1) W5 Wf → SlvPost r (M : Int) near w.heap.size w (.returned (.tuple #[.agg #[.int .i64 x3, .slice a3' n3 c3', .slice b3 m3 d3'], .bool fn])) Wf from fun Wf hk => ⟨_, _, rfl, ⟨_, _, _, _, _, _, _, rfl⟩, (fun t' h' => by
          rw [HSV.out] at h'
          obtain ⟨h1, h2, h3⟩ := HY5.out t' h'
          exact ⟨by rw [hfn, h1, h2]; rfl, h3 Wf hk⟩), (fun h' => by
          rw [HSV.out] at h'
          rcases HNN.out h' with h1 | h1
          · rw [hfn, h1]; rfl
          · rw [hfn, show decide (col < 0) = false by rw [decide_eq_false_iff_not]; omega, Bool.and_false]), FIN Wf hk⟩)
        clear HY5 HNN
        by_cases hc : col < 0
        · cases ok
          · obtain rfl : fn = false := by rw [hfn]; rfl
            clear hfn
            go_wp2_with fail
            refine bodyPost_ret (v := .tuple #[.agg #[.int .i64 x3, .slice a3' n3 c3', .slice b3 m3 d3'], .bool false]) (by simp [results, Tryz.results286, go_sem, *]) rfl (HFN.out _ ?_)
            repeat' first | exact Kept.refl _ _ | refine Kept.setCell ?_ (.inr (by simp)) _
          · obtain rfl : fn = true := by rw [hfn, decide_eq_true hc]; rfl
            clear hfn
            go_wp2_with fail
            refine bodyPost_ret (v := .tuple #[.agg #[.int .i64 x3, .slice a3' n3 c3', .slice b3 m3 d3'], .bool true]) (by simp [results, Tryz.results286, go_sem, *]) rfl (HFN.out _ ?_)
            repeat' first | exact Kept.refl _ _ | refine Kept.setCell ?_ (.inr (by simp)) _
        · obtain rfl : fn = false := by rw [hfn, decide_eq_false hc, Bool.and_false]
          clear hfn
          cases ok
          · go_wp2_with fail
            refine bodyPost_ret (v := .tuple #[.agg #[.int .i64 x3, .slice a3' n3 c3', .slice b3 m3 d3'], .bool false]) (by simp [results, Tryz.results286, go_sem, *]) rfl (HFN.out _ ?_)
            repeat' first | exact Kept.refl _ _ | refine Kept.setCell ?_ (.inr (by simp)) _
          · go_wp2_with fail
            refine bodyPost_ret (v := .tuple #[.agg #[.int .i64 x3, .slice a3' n3 c3', .slice b3 m3 d3'], .bool false]) (by simp [results, Tryz.results286, go_sem, *]) rfl (HFN.out _ ?_)
            repeat' first | exact Kept.refl _ _ | refine Kept.setCell ?_ (.inr (by simp)) _
end Go.Proofs.YtgkbbpajkbkgnaaGreatDoor

namespace Go.Proofs.YtgkbbpajkbkgnaaGreatDoor
open Go.RowKit
theorem solvO_good {r : RowsD} {most : Int} {near : Nat} {t : TabD} (h : solvO r most near = some t) : GoodT t := by
  unfold solvO at h
  split at h
  · rename_i hb
    unfold solvB at hb
    rw [Bool.and_eq_true, Bool.and_eq_true] at hb
    exact solveO_good _ _ _ (tableT_good (validR_iff.1 hb.1.1)) h
  · cases h
def SrwPost (r : RowsD) (most : Int) (near : Nat) (B : Nat) (w : World) (e : Ending) (w' : World) : Prop :=
  ∃ va vb, e = .returned (.tuple #[va, vb, .bool (solvO r most near).isSome]) ∧ (∀ t', solvO r most near = some t' → RdF w' va (planT t') ∧ RdF w' vb (priceT t')) ∧ (solvO r most near = none → va = .slice none 0 0 ∧ vb = .slice none 0 0) ∧ Below B w w'
set_option maxHeartbeats 4000000 in
set_option maxRecDepth 8000 in
theorem solveRowsI_any (v : Value) (r : RowsD) (most : Int) (near : Nat) (w : World) (h : RdR w v r) :
    Calls Tryz.prog 230 #[v, .int .i64 most, .float .f32 near] w (SrwPost r most near w.heap.size w) := by
  obtain ⟨a1, c1, a2, c2, a3, c3, rfl⟩ := h.shape
  have HRD := Lib.hid h
  clear h
  have HGD := Lib.hid (fun t (h : solvO r most near = some t) => solvO_good h)
  have HSV := Lib.hid (fun X (hb : Below w.heap.size w X) => solvedI_any _ r most near X (HRD.out.up hb (Nat.le_refl _)))
  obtain ⟨o, ho⟩ : ∃ o, o = solvO r most near := ⟨_, rfl⟩
  rw [← ho] at HGD
  have HO := Lib.hid ho.symm
  clear ho
  go_enter Tryz.func230, Tryz.ntmps230
  go_upto_region 1 with fail
  refine wp_at fun W0 hW0 => ?_
  have HB0 := Lib.hid (show Below w.heap.size w W0 by subst hW0; (repeat' first | exact Below.refl _ _ | assumption | refine Below.alloc ?_ ?_ _ | refine Below.setCell ?_ ?_ _ | refine Below.drew ?_ | (simp; done) | (simp; omega)))
  have HK0 := Lib.hid (show Blk W0 w.heap.size 26 #[.int .i64 r.vars, .slice a1 r.nums.length c1, .slice a2 r.bnds.length c2, .slice a3 r.gains.length c3] by subst hW0; exact Blk.new _ _ _)
  have hz0 := HB0.out.size
  clear hW0
  have d0 := HK0.out.cell 0 rfl
  have d1 := HK0.out.cell 1 rfl
  have d2 := HK0.out.cell 2 rfl
  have d3 := HK0.out.cell 3 rfl
  go_upto_region 2 with (go_at_call 286; refine (HSV.out W0 HB0.out).mono ?_; rintro e w1 ⟨tv, ok, rfl, ⟨x, a, n, c, b, m, d, rfl⟩, hyes, hno, hb1⟩; rw [HO.out] at hyes hno; have HB1 := Lib.hid (HB0.out.trans (hb1.mono hz0)))
  refine wp_at fun W2 hW2 => ?_
  obtain ⟨q, hq⟩ : ∃ q, q = w1.heap.size := ⟨_, rfl⟩
  have HQ2 := Lib.hid (show Blk W2 q 258 #[.int .i64 x, .slice a n c, .slice b m d] by subst hW2 hq; exact Blk.new _ _ _)
  have HB2 := Lib.hid (show Below w.heap.size w W2 by subst hW2; exact HB1.out.alloc HB1.out.size _)
  have HY := Lib.hid (show ∀ t', o = some t' → RdTb W2 (.agg #[.int .i64 x, .slice a n c, .slice b m d]) t' from fun t' h' => (hyes t' h').2.up (by subst hW2; exact (Below.refl _ _).alloc (Nat.le_refl _) _) (Nat.le_refl _))
  have HOK := Lib.hid (show ok = o.isSome by
    cases o with
    | none => exact hno rfl
    | some t => exact (hyes t rfl).1)
  rw [← hq]
  have hz2 := HB2.out.size
  have hq2 := HQ2.out.lt
  clear hW2 hq hyes hno hb1 d0 d1 d2 d3
  cases o with
  | none =>
    obtain rfl : ok = false := HOK.out
    go_wp2_with fail
    go_ret3
    exact ⟨_, _, by rw [HO.out]; rfl, (fun t' h' => by rw [HO.out] at h'; cases h'), (fun _ => ⟨rfl, rfl⟩), HB2.out⟩
  | some t =>
    obtain rfl : ok = true := HOK.out
    have HG := Lib.hid (HGD.out t rfl)
    have HRT := Lib.hid (HY.out t rfl)
    have HPL := Lib.hid (fun X (hb : Below W2.heap.size W2 X) => planI_any _ t X (HRT.out.up hb (Nat.le_refl _)) HG.out)
    have HPR := Lib.hid (fun X (hb : Below W2.heap.size W2 X) => pricesI_any _ t X (HRT.out.up hb (Nat.le_refl _)) HG.out)
    have HFIN := Lib.hid (show ∀ va vb Wf, RdF Wf va (planT t) → RdF Wf vb (priceT t) → Below W2.heap.size W2 Wf → SrwPost r most near w.heap.size w (.returned (.tuple #[va, vb, .bool true])) Wf from fun va vb Wf h1 h2 hb => ⟨va, vb, by rw [HO.out]; rfl, (fun t' h' => by rw [HO.out] at h'; cases h'; exact ⟨h1, h2⟩), (fun h' => by rw [HO.out] at h'; cases h'), HB2.out.trans (hb.mono hz2)⟩)
    have HR2 := Lib.hid (show ∀ X, Below W2.heap.size W2 X → X.cell? ⟨q, 0, none⟩ = some (.int .i64 x) ∧ X.cell? ⟨q, 1, none⟩ = some (.slice a n c) ∧ X.cell? ⟨q, 2, none⟩ = some (.slice b m d) ∧ Below W2.heap.size W2 X from fun X hb => ⟨(HQ2.out.below hb hq2).cell 0 rfl, (HQ2.out.below hb hq2).cell 1 rfl, (HQ2.out.below hb hq2).cell 2 rfl, hb⟩)
    clear HOK HY HGD HRT HG
    go_wp2_with fail
    go_region_held3 (fun X => X.cell? ⟨q, 0, none⟩ = some (.int .i64 x) ∧ X.cell? ⟨q, 1, none⟩ = some (.slice a n c) ∧ X.cell? ⟨q, 2, none⟩ = some (.slice b m d) ∧ Below W2.heap.size W2 X)
      (first | exact HR2.out _ hbn2 | exact HR2.out _ hbn | exact HR2.out _ (Below.refl _ _).drew)
      (first
        | (go_at_call 287; have hk := (‹_ ∧ _ ∧ _ ∧ Below W2.heap.size W2 _›).2.2.2; refine (HPL.out _ hk).mono ?_; (first | (rintro e wn2 ⟨va, rfl, hva, hb2⟩; have hvb2 := hvb.up hb2 (Nat.le_refl _); have hbn2 := hk.trans (hb2.mono hk.size)) | (rintro e wn ⟨va, rfl, hva0, hb1⟩; have hva : RdF wn va (planT t) := hva0.rd; have hbn := hk.trans (hb1.mono hk.size))))
        | (go_at_call 288; have hk := (‹_ ∧ _ ∧ _ ∧ Below W2.heap.size W2 _›).2.2.2; refine (HPR.out _ hk).mono ?_; (first | (rintro e wn2 ⟨vb, rfl, hvb, hb2⟩; have hva2 := hva.up hb2 (Nat.le_refl _); have hbn2 := hk.trans (hb2.mono hk.size)) | (rintro e wn ⟨vb, rfl, hvb0, hb1⟩; have hvb : RdF wn vb (priceT t) := hvb0.rd; have hbn := hk.trans (hb1.mono hk.size))))
        | fail)
    all_goals
      go_wp2_with fail
      go_ret3
      first | exact HFIN.out _ _ _ hva2 hvb.rd hbn2 | exact HFIN.out _ _ _ hva.rd hvb2 hbn2
end Go.Proofs.YtgkbbpajkbkgnaaGreatDoor

namespace Go.Proofs.YtgkbbpajkbkgnaaGreatDoor
open Go.RowKit
def mxF (most a : Nat) : Nat := if gtF a most = true then a else most
def mostK (xs : List Nat) : Nat → Nat
  | 0 => 0
  | k + 1 => mxF (mostK xs k) (abs32 (xs.getD k 0))
theorem abs_lt (x : Nat) : abs32 x < 2147483648 := by unfold abs32; omega
theorem pos_neg {x : Nat} (h : x < 2147483648) (hf : fin32 x = true) : (FloatKind.f32.decode x).neg = false := by
  show (Ieee.single.read x).neg = false
  obtain ⟨s, m, e, h0, h1, _⟩ := read32_parts hf
  rw [h0]
  show s = false
  rw [h1, show x / 2147483648 % 2 = 0 by omega]
  rfl
theorem mxF_fin {m a : Nat} (hm : fin32 m = true) (ha : fin32 a = true) : fin32 (mxF m a) = true := by unfold mxF; split <;> assumption
theorem mxF_lt {m a : Nat} (hm : m < 2147483648) (ha : a < 2147483648) : mxF m a < 2147483648 := by unfold mxF; split <;> assumption
theorem mostK_ok {xs : List Nat} (h : allFin xs = true) : ∀ k, k ≤ xs.length → fin32 (mostK xs k) = true ∧ mostK xs k < 2147483648
  | 0, _ => ⟨fin0, by simp [mostK]⟩
  | k + 1, hk => by
    obtain ⟨h1, h2⟩ := mostK_ok h k (by omega)
    exact ⟨mxF_fin h1 (abs_fin (allFin_get h (by omega))), mxF_lt h2 (abs_lt _)⟩
set_option maxHeartbeats 2000000 in
theorem row_at (V i n c b off : Nat) (v2 v3 : Value) (w : World) (hv1 : 1 ≤ V) (hv8 : V ≤ 8) (hi8 : i < 8) (hmm : i * V + V ≤ n) (hx64 : n ≤ 64) (hc1a : n ≤ c) (hc1b : c ≤ maxLen) :
    Calls Tryz.prog 75 #[.agg #[.int .i64 V, .slice (some ⟨b, off, none⟩) n c, v2, v3], .int .i64 i] w fun e w' => e = .returned (.slice (some ⟨b, off + i * V, none⟩) V (c - i * V)) ∧ Below w.heap.size w w' := by
  obtain ⟨m, hm⟩ : ∃ m, m = i * V := ⟨_, rfl⟩
  have e1 : (i : Int) * (V : Int) = (m : Int) := by rw [hm]; push_cast; rfl
  have e2 : ((i : Int) + 1) * (V : Int) = (m : Int) + (V : Int) := by rw [Int.add_mul, e1, Int.one_mul]
  rw [← hm] at hmm ⊢
  unfold maxLen at hc1b
  clear hm
  go_enter Tryz.func75, Tryz.ntmps75
  go_wp2_with fail
  go_ret
  refine ⟨?_, by (repeat' first | exact Below.refl _ _ | assumption | refine Below.alloc ?_ ?_ _ | refine Below.setCell ?_ ?_ _ | refine Below.drew ?_ | (simp; done) | (simp; omega))⟩
  simp
  done
def mostR (r : RowsD) (i : Nat) : Nat := mostK (rowO r i) r.gains.length
def posR (r : RowsD) (i : Nat) : Bool := gtF (mostR r i) 0
def scN (r : RowsD) (j : Nat) : Nat := if posR r (j / r.gains.length) = true then divV (r.nums.getD j 0) (mostR r (j / r.gains.length)) else r.nums.getD j 0
def stN (r : RowsD) (n : Nat) : List Nat := (List.range r.nums.length).map fun j => if j < n then scN r j else r.nums.getD j 0
def scB (r : RowsD) (i : Nat) : Nat := if posR r i = true then divV (r.bnds.getD i 0) (mostR r i) else r.bnds.getD i 0
def stB (r : RowsD) (n : Nat) : List Nat := (List.range r.bnds.length).map fun i => if i < n then scB r i else r.bnds.getD i 0
def scR (r : RowsD) : RowsD := ⟨r.vars, stN r r.nums.length, stB r r.bnds.length, r.gains⟩
noncomputable def scaleOk (r : RowsD) : Bool := validR r && validR (scR r)
noncomputable def scaleV (r : RowsD) : RowsD := if scaleOk r = true then scR r else zeroR
theorem stN_len (r : RowsD) (n : Nat) : (stN r n).length = r.nums.length := by simp [stN]
theorem stB_len (r : RowsD) (n : Nat) : (stB r n).length = r.bnds.length := by simp [stB]
theorem map_getD (xs : List Nat) : (List.range xs.length).map (fun j => xs.getD j 0) = xs := by
  refine List.ext_getElem (by simp) fun i h1 h2 => ?_
  simp [h2]
theorem stN_zero (r : RowsD) : stN r 0 = r.nums := by
  unfold stN
  simp only [Nat.not_lt_zero, if_false]
  exact map_getD _
theorem stB_zero (r : RowsD) : stB r 0 = r.bnds := by
  unfold stB
  simp only [Nat.not_lt_zero, if_false]
  exact map_getD _
theorem step_set {n j : Nat} (f g : Nat → Nat) (h : j < n) : ((List.range n).map fun i => if i < j then f i else g i).set j (f j) = (List.range n).map fun i => if i < j + 1 then f i else g i := by
  refine List.ext_getElem (by simp) fun i h1 h2 => ?_
  rw [List.getElem_set]
  simp only [List.getElem_map, List.getElem_range]
  by_cases e : j = i
  · subst e; simp
  · rw [if_neg e]
    by_cases q : i < j
    · rw [if_pos q, if_pos (by omega)]
    · rw [if_neg q, if_neg (by omega)]
theorem stN_set (r : RowsD) {j : Nat} (h : j < r.nums.length) : (stN r j).set j (scN r j) = stN r (j + 1) := step_set _ _ h
theorem stB_set (r : RowsD) {j : Nat} (h : j < r.bnds.length) : (stB r j).set j (scB r j) = stB r (j + 1) := step_set _ _ h
theorem stN_at (r : RowsD) {j n : Nat} (h : j < r.nums.length) (hn : n ≤ j) : (stN r n).getD j 0 = r.nums.getD j 0 := by
  unfold stN
  simp [h, show ¬ j < n by omega]
theorem stB_at (r : RowsD) {j n : Nat} (h : j < r.bnds.length) (hn : n ≤ j) : (stB r n).getD j 0 = r.bnds.getD j 0 := by
  unfold stB
  simp [h, show ¬ j < n by omega]
theorem div_row {V i k : Nat} (hk : k < V) : (i * V + k) / V = i := by
  rw [Nat.mul_comm, Nat.mul_add_div (by omega), Nat.div_eq_of_lt hk, Nat.add_zero]
theorem stN_skip {r : RowsD} {i : Nat} (h : posR r i = false) : stN r ((i + 1) * r.gains.length) = stN r (i * r.gains.length) := by
  unfold stN
  refine List.map_congr_left fun j _ => ?_
  by_cases h1 : j < i * r.gains.length
  · rw [if_pos h1, if_pos (by rw [Nat.succ_mul]; omega)]
  · rw [if_neg h1]
    by_cases h2 : j < (i + 1) * r.gains.length
    · rw [if_pos h2]
      have : j / r.gains.length = i := by
        rw [Nat.succ_mul] at h2
        obtain ⟨k, rfl⟩ : ∃ k, j = i * r.gains.length + k := ⟨j - i * r.gains.length, by omega⟩
        exact div_row (by omega)
      unfold scN
      rw [this, h]
      rfl
    · rw [if_neg h2]
theorem scN_pos {r : RowsD} {i k : Nat} (h : posR r i = true) (hk : k < r.gains.length) : scN r (i * r.gains.length + k) = divV (r.nums.getD (i * r.gains.length + k) 0) (mostR r i) := by
  unfold scN
  rw [div_row hk, h]
  rfl
theorem scB_pos {r : RowsD} {i : Nat} (h : posR r i = true) : scB r i = divV (r.bnds.getD i 0) (mostR r i) := by unfold scB; rw [h]; rfl
theorem stB_skip {r : RowsD} {i : Nat} (h : posR r i = false) : stB r (i + 1) = stB r i := by
  unfold stB
  refine List.map_congr_left fun j _ => ?_
  by_cases h1 : j < i
  · rw [if_pos h1, if_pos (by omega)]
  · rw [if_neg h1]
    by_cases h2 : j < i + 1
    · obtain rfl : j = i := by omega
      rw [if_pos h2]; unfold scB; rw [h]; rfl
    · rw [if_neg h2]
theorem rowO_at {r : RowsD} {i k : Nat} (hk : k < r.gains.length) : (rowO r i).getD k 0 = r.nums.getD (i * r.gains.length + k) 0 := by
  unfold rowO
  rw [List.getD_eq_getElem?_getD, List.getElem?_take_of_lt hk, List.getElem?_drop, List.getD_eq_getElem?_getD]
end Go.Proofs.YtgkbbpajkbkgnaaGreatDoor
