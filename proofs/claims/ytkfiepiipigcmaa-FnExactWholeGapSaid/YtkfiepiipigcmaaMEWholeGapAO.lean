/-
  FnExactWholeGap: texts joined: GapI, OwnB, TabS, OwnTS, TabW.
-/
import Derived.Deep.CutRange
import Derived.Deep.RegionHeld3
import Derived.Test.YtkfiepiipigcmaaMEWholeGapAB
import Derived.Test.YtkfiepiipigcmaaMEWholeGapAD
import Derived.Test.YtkfiepiipigcmaaMEWholeGapAI
import Derived.Test.YtkfiepiipigcmaaMEWholeGapAL
import Derived.Test.YtkfiepiipigcmaaMEWholeGapAN
namespace Go.Proofs.Ytkfiepiipigcmaa
open Go.RowKit

set_option maxHeartbeats 4000000 in
set_option maxRecDepth 8000 in
theorem gapI_any (v : Value) (r : RowsD) (top most : Int) (near : Nat) (w : World) (h : RdR w v r) :
    Calls Try.prog 47 #[v, .int .i64 top, .int .i64 most, .float .f32 near] w (GapPost (gapOk r top most near) (gapV r top most near) w.heap.size w) := by
  obtain ⟨a1, c1, a2, c2, a3, c3, rfl⟩ := h.shape
  have HSV := Lib.hid (fun X (hb : Below w.heap.size w X) => solveRowsI_any _ r most near X (h.up hb (Nat.le_refl _)))
  have HGV := Lib.hid (fun X (hb : Below w.heap.size w X) u x (hu : RdF X u x) => implGain_any _ r u x X (h.up hb (Nat.le_refl _)) hu)
  have HWV := Lib.hid (fun X (hb : Below w.heap.size w X) => implWP_any _ r top X (h.up hb (Nat.le_refl _)))
  have HGN := Lib.hid (@gap_none r top most near)
  have HGS := Lib.hid (fun s h => @gap_some r top most near s h)
  have HDF := Lib.hid (gapO_eq r top most near)
  clear h
  obtain ⟨py, hpy⟩ : ∃ py, py = planY r top := ⟨_, rfl⟩
  obtain ⟨po, hpo⟩ : ∃ py, py = planOk r top := ⟨_, rfl⟩
  obtain ⟨o, ho⟩ : ∃ o, o = solvO r most near := ⟨_, rfl⟩
  obtain ⟨gk, hgk⟩ : ∃ gk, gk = gapOk r top most near := ⟨_, rfl⟩
  obtain ⟨gv, hgv⟩ : ∃ gv, gv = gapV r top most near := ⟨_, rfl⟩
  obtain ⟨go, hgo⟩ : ∃ gv, gv = gapO r top most near := ⟨_, rfl⟩
  rw [← hpy, ← hpo, ← ho] at HDF
  rw [← hpy, ← hpo] at HWV
  rw [← hgk, ← hgv, ← hgo] at HGN HGS
  unfold SrwPost at HSV
  rw [← ho] at HSV
  rw [← hgk, ← hgv]
  rw [← hgo] at HDF
  have HNO := Lib.hid (show go = none → ∀ Wf, Below w.heap.size w Wf → GapPost gk gv w.heap.size w (.returned (.tuple #[.float .f32 0, .bool false])) Wf from fun h Wf hb => by
    obtain ⟨h1, h2⟩ := HGN.out h
    rw [h1, h2]
    exact ⟨rfl, hb⟩)
  have HYES := Lib.hid (show ∀ s, go = some s → ∀ Wf, Below w.heap.size w Wf → GapPost gk gv w.heap.size w (.returned (.tuple #[.float .f32 s, .bool true])) Wf from fun s h Wf hb => by
    obtain ⟨h1, h2⟩ := HGS.out s h
    rw [h1, h2]
    exact ⟨rfl, hb⟩)
  clear HGN HGS hpy hpo ho hgk hgv hgo
  go_enter Try.func47, Try.ntmps47
  go_upto_region 1 with fail
  refine wp_at fun W0 hW0 => ?_
  have HB0 := Lib.hid (show Below w.heap.size w W0 by subst hW0; (repeat' first | exact Below.refl _ _ | assumption | refine Below.alloc ?_ ?_ _ | refine Below.setCell ?_ ?_ _ | refine Below.drew ?_ | (simp; done) | (simp; omega)))
  have HK0 := Lib.hid (show Blk W0 w.heap.size 67 #[.int .i64 r.vars, .slice a1 r.nums.length c1, .slice a2 r.bnds.length c2, .slice a3 r.gains.length c3] by subst hW0; exact Blk.new _ _ _)
  have hz0 := HB0.out.size
  have hk0 := HK0.out.lt
  clear hW0
  have d0 := HK0.out.cell 0 rfl
  have d1 := HK0.out.cell 1 rfl
  have d2 := HK0.out.cell 2 rfl
  have d3 := HK0.out.cell 3 rfl
  go_upto_region 2 with (go_at_call 90; refine (HSV.out W0 HB0.out).mono ?_; rintro e w1 ⟨va, vb, rfl, hyes, hno, hb1⟩; have HB1 := Lib.hid (HB0.out.trans (hb1.mono hz0)); have HK1 := Lib.hid (HK0.out.below hb1 hk0))
  have hz1 := HB1.out.size
  have hk1 := HK1.out.lt
  clear d0 d1 d2 d3
  cases o with
  | none =>
    go_wp2_with fail
    go_ret2
    exact HNO.out (by rw [HDF.out]) _ HB1.out
  | some t =>
    obtain ⟨hva, hvb⟩ := hyes t rfl
    have HG := Lib.hid (HGV.out w1 HB1.out va _ hva)
    unfold NumPost at HG
    obtain ⟨x, hx⟩ : ∃ x, x = gainV r (planT t) := ⟨_, rfl⟩
    obtain ⟨g, hg⟩ : ∃ x, x = gainOk r (planT t) := ⟨_, rfl⟩
    simp only at HDF
    rw [← hx, ← hg] at HG HDF
    have HD := Lib.hid (show go = if (g && po) = true then (if finO (Ieee.single.sub x py) = true then Ieee.single.sub x py else none) else none from HDF.out)
    clear HDF hx hg hyes hno hva hvb HSV hb1
    have d0 := HK1.out.cell 0 rfl
    have d1 := HK1.out.cell 1 rfl
    have d2 := HK1.out.cell 2 rfl
    have d3 := HK1.out.cell 3 rfl
    go_upto_region 5 with (go_at_call 91; refine HG.out.mono ?_; rintro e w2 ⟨rfl, hb2⟩; have HB2 := Lib.hid (HB1.out.trans (hb2.mono hz1)); have HK2 := Lib.hid (HK1.out.below hb2 hk1))
    have hz2 := HB2.out.size
    have hk2 := HK2.out.lt
    clear d0 d1 d2 d3
    have d0 := HK2.out.cell 0 rfl
    have d1 := HK2.out.cell 1 rfl
    have d2 := HK2.out.cell 2 rfl
    have d3 := HK2.out.cell 3 rfl
    go_upto_region 6 with (go_at_call 92; refine (HWV.out w2 HB2.out).mono ?_; rintro e w3 ⟨vw, rfl, _, hb3⟩; have HB3 := Lib.hid (HB2.out.trans (hb3.mono hz2)))
    clear d0 d1 d2 d3
    cases g
    · go_wp2_with fail
      go_ret2
      exact HNO.out (by rw [HD.out]; rfl) _ HB3.out
    · cases po
      · go_wp2_with fail
        go_ret2
        exact HNO.out (by rw [HD.out]; rfl) _ HB3.out
      · by_cases hf : finO (Ieee.single.sub x py) = true
        · obtain ⟨s, hs⟩ : ∃ s, Ieee.single.sub x py = some s := by
            cases h : Ieee.single.sub x py with
            | some s => exact ⟨s, rfl⟩
            | none => rw [h] at hf; cases hf
          have hfs : fin32 s = true := by rw [hs] at hf; exact hf
          have HS := Lib.hid (show go = some s by rw [HD.out, Bool.and_self, if_pos rfl, if_pos hf, hs])
          have hsub := fun (W : World) => run_sub_some (P := Try.prog) 63 x py s hs W
          have HF := Lib.hid hfs
          clear hf hs hfs HD
          go_wp2_with (go_at_call 93; refine (IsFinite_any s _).mono ?_; rintro e w4 ⟨rfl, m4, rfl⟩; rw [HF.out])
          go_ret2
          exact HYES.out s HS.out _ (below_drewN HB3.out _)
        · rw [Bool.not_eq_true] at hf
          have HS := Lib.hid (show go = none by rw [HD.out, Bool.and_self, if_pos rfl, hf]; rfl)
          have hsub := fun (W : World) => run_sub_all (P := Try.prog) 63 x py W
          have HF := Lib.hid (fun W => show fin32 (subV x py W) = false by rw [(mt_sub x py W).fin]; exact hf)
          clear hf HD
          go_wp2_with (go_at_call 93; refine (IsFinite_any _ _).mono ?_; rintro e w4 ⟨rfl, m4, rfl⟩; rw [HF.out])
          go_ret2
          exact HNO.out HS.out _ (by first | exact below_drewN HB3.out _ | (rw [World.drewN_drewN]; exact below_drewN HB3.out _) | exact below_drewN (below_drewN HB3.out _) _)

end Go.Proofs.Ytkfiepiipigcmaa

namespace Go.Proofs.Ytkfiepiipigcmaa
open Go.RowKit

theorem ownsF_emptyB (w : World) (b : Nat) (hb : b = w.heap.size) : (w.alloc (.cells #[] 63)).ownsRow w.heap.size 63 1 (.slice (some ⟨b, 0, none⟩) 0 0) 0 (([] : List Nat).map F32) := by subst hb; exact ownsF_empty w

theorem Blk.newB (w : World) (t : TypeId) (cs : Array Value) (b : Nat) (hb : b = w.heap.size) : Blk (w.alloc (.cells cs t)) b t cs := by subst hb; exact Blk.new w t cs

/-- A block beside what has grown. -/
theorem blk_grown {w w' : World} {b : Nat} {t : TypeId} {cs : Array Value} {row : Option Nat} (h : Blk w b t cs) (hg : w.grownBy w' row) (hne : row ≠ some b) : Blk w' b t cs :=
  (hg.block b h.lt fun e => hne e.symm).trans h

end Go.Proofs.Ytkfiepiipigcmaa

namespace Go.Proofs.Ytkfiepiipigcmaa
open Go.RowKit

/-- A table lies in a block. -/
def TpB (w : World) (bb : Nat) (t : TabD) : Prop := ∃ a c b d, Blk w bb 136 #[.int .i64 t.vars, .slice a t.nums.length c, .slice b t.basis.length d] ∧ RdTb w (.agg #[.int .i64 t.vars, .slice a t.nums.length c, .slice b t.basis.length d]) t
theorem TpB.drewN {w : World} {bb : Nat} {t : TabD} (h : TpB w bb t) (n : Nat) : TpB (w.drewN n) bb t := h
theorem TpB.below {w w' : World} {bb B : Nat} {t : TabD} (h : TpB w bb t) (hb : Below B w w') (hB : w.heap.size ≤ B) : TpB w' bb t := by
  obtain ⟨a, c, b, d, h1, h2⟩ := h
  exact ⟨a, c, b, d, h1.below hb (Nat.lt_of_lt_of_le h1.lt hB), h2.up hb hB⟩

theorem qs_of {P : Program} {f : FuncId} {args : Array Value} {w : World} {n : Nat} {v : Value} (h : Calls P f args (w.drewN n) fun e w' => e = .returned v ∧ ∃ m, w' = (w.drewN n).drewN m) :
    Calls P f args (w.drewN n) fun e w'' => e = .returned v ∧ ∃ m, w'' = w.drewN m := h.mono fun _ _ ⟨he, m, hm⟩ => ⟨he, n + m, by rw [hm, World.drewN_drewN]⟩

set_option maxHeartbeats 1000000 in
theorem l02Wide_any (bb : Nat) (t : TabD) (w : World) (h : TpB w bb t) (hd : DimT t) :
    Calls Try.prog 165 #[.pointer (some ⟨bb, 0, none⟩)] w fun e w' => e = .returned (.int .i64 (wdT t : Nat)) ∧ ∃ m, w' = w.drewN m := by
  obtain ⟨a, c, b, d, hk, _⟩ := h
  have h8 := hd.v8
  have hb8 := hd.b8
  have HW := Lib.hid (show ((wdT t : Nat) : Int) = (t.vars : Int) + t.basis.length + 1 by unfold wdT; push_cast; rfl)
  obtain ⟨V, hV⟩ : ∃ V, V = t.vars := ⟨_, rfl⟩
  obtain ⟨N, hN⟩ : ∃ N, N = t.basis.length := ⟨_, rfl⟩
  rw [← hV] at h8 HW hk
  rw [← hN] at hb8 HW hk
  have d0 := hk.cell 0 rfl
  have d1 := hk.cell 1 rfl
  have d2 := hk.cell 2 rfl
  clear hd hV hN hk
  go_enter Try.func165, Try.ntmps165
  go_wp2_with fail
  go_quiet (fail)
  go_wp2_with fail
  go_ret
  exact ⟨by rw [HW.out]; rfl, _, rfl⟩

set_option maxHeartbeats 1000000 in
theorem l02At_any (bb : Nat) (t : TabD) (i k : Nat) (w : World) (h : TpB w bb t) (hd : DimT t) (hi : i ≤ t.basis.length) (hk : k < wdT t) :
    Calls Try.prog 164 #[.pointer (some ⟨bb, 0, none⟩), .int .i64 i, .int .i64 k] w fun e w' => e = .returned (.float .f32 (atT t i k)) ∧ ∃ m, w' = w.drewN m := by
  have HW := Lib.hid (fun n => qs_of (l02Wide_any bb t (w.drewN n) (h.drewN n) hd))
  obtain ⟨a, c, b, d, hkb, hrt⟩ := h
  have hx := hd.ix hi hk
  have hn := hd.n153
  have h17 := hd.w17
  have hb8 := hd.b8
  obtain ⟨gb, go, rfl, _, hc⟩ := hrt.parts.1.at hx
  obtain ⟨x, hxe⟩ : ∃ x, x = atT t i k := ⟨_, rfl⟩
  rw [show t.nums.getD (i * wdT t + k) 0 = x from hxe.symm] at hc
  rw [← hxe]
  obtain ⟨W, hW⟩ : ∃ W, W = wdT t := ⟨_, rfl⟩
  obtain ⟨m, hm⟩ : ∃ m, m = i * W + k := ⟨_, rfl⟩
  obtain ⟨p, hp⟩ : ∃ p, p = i * W := ⟨_, rfl⟩
  have e1 : (i : Int) * (W : Int) = (p : Int) := by rw [hp]; push_cast; rfl
  have e2 : (p : Int) + (k : Int) = (m : Int) := by rw [hm, ← hp]; push_cast; rfl
  have hpm : p ≤ m := by omega
  have hm153 : m < 153 := by rw [← hW, ← hm] at hx; omega
  have hw1 : IntKind.i64.wrap (p : Int) = (p : Int) := IntWalk.i64_in _ (by omega)
  have hw2 : IntKind.i64.wrap ((p : Int) + (k : Int)) = (m : Int) := by rw [e2]; exact IntWalk.i64_in _ (by omega)
  rw [← hW] at hx hc hk h17 HW
  rw [← hm] at hx hc
  obtain ⟨N, hN⟩ : ∃ N, N = t.nums.length := ⟨_, rfl⟩
  rw [← hN] at hx hn hkb
  have hxI : (m : Int) < (N : Int) := by omega
  have d0 := hkb.cell 0 rfl
  have d1 := hkb.cell 1 rfl
  have d2 := hkb.cell 2 rfl
  clear hd hxe hW hm hN hp e2 hrt hkb
  go_enter Try.func164, Try.ntmps164
  go_wp2_with fail
  go_quiet ((go_at_call 165; exact HW.out _))
  go_wp2_with fail
  go_ret
  exact ⟨rfl, _, rfl⟩

set_option maxHeartbeats 2000000 in
set_option maxRecDepth 8000 in
theorem l02Enter_any (bb : Nat) (t : TabD) (near : Nat) (w : World) (h : TpB w bb t) (hg : GoodT t) :
    Calls Try.prog 177 #[.pointer (some ⟨bb, 0, none⟩), .float .f32 near] w fun e w' => e = .returned (.int .i64 (enterT t near)) ∧ ∃ m, w' = w.drewN m := by
  have hd := hg.dim
  have h17 := hd.w17
  have hb8 := hd.b8
  have HW := Lib.hid (fun n => qs_of (l02Wide_any bb t (w.drewN n) (h.drewN n) hd))
  have HA := Lib.hid (fun n j (hj : j < colsT t) => qs_of (l02At_any bb t t.basis.length j (w.drewN n) (h.drewN n) hd (Nat.le_refl _) (by rw [wdT_cols]; omega)))
  have HE1 := Lib.hid (fun j (hj : j < colsT t) h1 h0 => @enterT_at t near j hj h1 h0)
  have HE0 := Lib.hid (fun h0 => @enterT_none t near h0)
  have HEA := Lib.hid (fun j => (show entersAt t near j = (FloatKind.f32.format.order (atT t t.basis.length j) (negF near) == some .lt) from rfl))
  obtain ⟨a, c, b, d, hkb, _⟩ := h
  obtain ⟨C, hC⟩ : ∃ C, C = colsT t := ⟨_, rfl⟩
  have hWC : wdT t = C + 1 := by rw [hC]; rfl
  rw [hWC] at HW h17
  rw [← hC] at HA HE1 HE0
  have hw1 : IntKind.i64.wrap (((C + 1 : Nat) : Int) - 1) = (C : Int) := by rw [IntWalk.i64_in _ (by omega)]; omega
  obtain ⟨W, hW⟩ : ∃ W : Int, W = ((C + 1 : Nat) : Int) := ⟨_, rfl⟩
  rw [← hW] at hw1 HW
  obtain ⟨N, hN⟩ : ∃ N, N = t.basis.length := ⟨_, rfl⟩
  rw [← hN] at HA HEA hkb
  have d2 := hkb.cell 2 rfl
  clear hd hC hWC hW hN hg hkb
  go_enter Try.func177, Try.ntmps177
  go_wp2_with fail
  go_loopw [5] (fun jv wr => ∃ j m : Nat, jv = .int .i64 j ∧ j ≤ C ∧ Hid (∀ k, k < j → entersAt t near k = false) ∧ wr = w.drewN m) (fun jv _ => C + 1 - (intOf jv).toNat)
  case atStart => exact ⟨0, 0, rfl, Nat.zero_le _, Lib.hid (by intro k hk; omega), rfl⟩
  case round =>
    obtain ⟨j, m, rfl, hj, HJ, rfl⟩ := hrel
    by_cases hjC : j < C
    · have hjI : (j : Int) < (C : Int) := by omega
      have HAJ := Lib.hid (fun n => HA.out n j hjC)
      have hea := HEA.out j
      obtain ⟨x, hx⟩ : ∃ x, x = atT t N j := ⟨_, rfl⟩
      rw [← hx] at HAJ hea
      obtain ⟨q, hq⟩ : ∃ q, q = entersAt t near j := ⟨_, rfl⟩
      rw [← hq] at hea
      have HQ := Lib.hid hq.symm
      have hcmp := hea.symm
      clear hx hq hea
      cases q
      · have HJ2 := Lib.hid (show ∀ k, k < j + 1 → entersAt t near k = false from fun k hk => by
          by_cases e : k = j
          · rw [e]; exact HQ.out
          · exact HJ.out k (by omega))
        go_wp2_with (first
          | (go_at_call 165; refine (HW.out _).mono ?_; rintro e w2 ⟨rfl, m2, rfl⟩)
          | (go_at_call 164; refine (HAJ.out _).mono ?_; rintro e w3 ⟨rfl, m3, rfl⟩))
        go_roundw
        case rel => exact ⟨j + 1, _, by go_num, by omega, HJ2, rfl⟩
        case measure => simp [intOf]; omega
      · have HE := Lib.hid (HE1.out j hjC HQ.out HJ.out)
        go_wp2_with (first
          | (go_at_call 165; refine (HW.out _).mono ?_; rintro e w2 ⟨rfl, m2, rfl⟩)
          | (go_at_call 164; refine (HAJ.out _).mono ?_; rintro e w3 ⟨rfl, m3, rfl⟩))
        go_ret
        exact ⟨by rw [HE.out]; rfl, _, rfl⟩
    · obtain rfl : j = C := by omega
      have HE := Lib.hid (HE0.out HJ.out)
      go_wp2_with (go_at_call 165; refine (HW.out _).mono ?_; rintro e w2 ⟨rfl, m2, rfl⟩)
      go_ret
      exact ⟨by rw [HE.out]; rfl, _, rfl⟩

end Go.Proofs.Ytkfiepiipigcmaa

namespace Go.Proofs.Ytkfiepiipigcmaa
open Go.RowKit

set_option maxHeartbeats 4000000 in
set_option maxRecDepth 4000 in
theorem l02OwnTable_any (bb : Nat) (t : TabD) (w : World) (h : TpB w bb t) (hd : DimT t) :
    Calls Try.prog 176 #[.pointer (some ⟨bb, 0, none⟩)] w fun e w' => ∃ g gc h hc, e = .returned (.agg #[.int .i64 t.vars, .slice (some ⟨g, 0, none⟩) t.nums.length gc, .slice (some ⟨h, 0, none⟩) t.basis.length hc]) ∧
      w'.ownsRow w.heap.size 63 1 (.slice (some ⟨g, 0, none⟩) t.nums.length gc) t.nums.length (t.nums.map F32) ∧ w'.ownsRow w.heap.size 2 1 (.slice (some ⟨h, 0, none⟩) t.basis.length hc) t.basis.length (t.basis.map I64) ∧ Below w.heap.size w w' := by
  have hm := hd.n153
  have hb8 := hd.b8
  have hb1 := hd.b1
  have h17 := hd.w17
  have hnl := hd.nl
  have hm1 : 1 ≤ t.nums.length := by rw [hnl]; exact Nat.mul_pos (by omega) (by omega)
  obtain ⟨a1, c1, a2, c2, hk, hrt⟩ := h
  obtain ⟨n0, x1, x2⟩ := t
  have P1 := Lib.hid hrt.parts.1
  have P2 := Lib.hid hrt.parts.2
  simp only at P1 P2 hk hm hm1 hb8 hb1 ⊢
  have L1 : x1.length ≤ 17592186044416 := by omega
  have L2 : x2.length ≤ 17592186044416 := by omega
  have hbl := hk.lt
  have HK0 := Lib.hid hk
  have HFIN := Lib.hid (show ∀ W3 g3 (y1 : Option Addr) e1 (y2 : Option Addr) e2, W3.ownsRow w.heap.size 63 1 (.slice y1 x1.length e1) x1.length (x1.map F32) → W3.ownsRow w.heap.size 2 1 (.slice y2 x2.length e2) x2.length (x2.map I64) → Below w.heap.size w W3 → w.heap.size < g3 → ∀ Wf, Kept (· = w.heap.size) W3 Wf → (∀ b, y1.map Addr.block = some b → b ≠ w.heap.size) → (∀ b, y2.map Addr.block = some b → b ≠ w.heap.size) →
      ∃ g gc h hc, (Ending.returned (.agg #[.int .i64 n0, .slice y1 x1.length e1, .slice y2 x2.length e2]) : Ending) = .returned (.agg #[.int .i64 n0, .slice (some ⟨g, 0, none⟩) x1.length gc, .slice (some ⟨h, 0, none⟩) x2.length hc]) ∧ Wf.ownsRow w.heap.size 63 1 (.slice (some ⟨g, 0, none⟩) x1.length gc) x1.length (x1.map F32) ∧ Wf.ownsRow w.heap.size 2 1 (.slice (some ⟨h, 0, none⟩) x2.length hc) x2.length (x2.map I64) ∧ Below w.heap.size w Wf from by
    intro W3 g3 y1 e1 y2 e2 o1 o2 hb hg Wf hkf n1 n2
    obtain ⟨g, gc, r1, _, _⟩ := owns_some o1 (by intro e; injection e with _ e _; omega)
    obtain ⟨h, hc, r2, _, _⟩ := owns_some o2 (by intro e; injection e with _ e _; omega)
    simp only [Value.slice.injEq, true_and] at r1 r2
    obtain ⟨rfl, rfl⟩ := r1
    obtain ⟨rfl, rfl⟩ := r2
    exact ⟨g, e1, h, e2, rfl, owns_kept o1 hkf (fun b hb => n1 b (by simpa [Value.ownBlock] using hb)), owns_kept o2 hkf (fun b hb => n2 b (by simpa [Value.ownBlock] using hb)), hb.trans (hkf.toBelow hb.size (by intro k h1 h2; omega))⟩)
  clear hk hrt hd h17 hnl
  go_enter Try.func176, Try.ntmps176
  go_upto_region 1 with fail
  refine wp_at fun W hW => ?_
  have HB := Lib.hid (show Below w.heap.size w W by subst hW; (repeat' first | exact Below.refl _ _ | assumption | refine Below.alloc ?_ ?_ _ | refine Below.setCell ?_ ?_ _ | refine Below.drew ?_ | (simp; done) | (simp; omega)))
  have HK := Lib.hid (show Blk W bb 136 #[.int .i64 n0, .slice a1 x1.length c1, .slice a2 x2.length c2] by subst hW; exact HK0.out.alloc _)
  have HL := Lib.hid (show Blk W w.heap.size 136 #[.int .i64 0, .slice none 0 0, .slice none 0 0] by subst hW; exact Blk.new _ _ _)
  clear hW
  have hl1 := HL.out.lt
  go_cut [3] from 4 to 15 (fun t3 wx => ∃ (g3 : Nat) (y1 : Option Addr) (e1 : Nat), t3 = .pointer (some ⟨g3, 0, none⟩) ∧ Blk wx g3 136 #[.int .i64 n0, .slice y1 x1.length e1, .slice none 0 0] ∧ OwnF W.heap.size wx.heap.size wx (.slice y1 x1.length e1) x1 ∧ W.heap.size ≤ g3 ∧ Below W.heap.size W wx)
  case first =>
    have HS1 := Lib.hid (show Slc W (.slice a1 x1.length c1) (x1.map F32) from (P1.out.up HB.out (Nat.le_refl _)))
    have HKEEP := Lib.hid (show ∀ X, Below W.heap.size W X → X.cell? ⟨bb, 0, none⟩ = some (.int .i64 n0) ∧ X.cell? ⟨bb, 1, none⟩ = some (.slice a1 x1.length c1) from fun X hb => by
      have k := HK.out.below hb HK.out.lt
      exact ⟨k.cell 0 rfl, k.cell 1 rfl⟩)
    go_region_held3 (fun X => X.cell? ⟨bb, 0, none⟩ = some (.int .i64 n0) ∧ X.cell? ⟨bb, 1, none⟩ = some (.slice a1 x1.length c1))
      (first | (refine HKEEP.out _ ?_; (repeat' first | exact Below.refl _ _ | assumption | refine Below.alloc ?_ ?_ _ | refine Below.setCell ?_ ?_ _ | refine Below.drew ?_ | (simp; done) | (simp; omega)); done) | go_keep)
      (first
        | (refine step_app_flts rfl (.tmp 8) (.tmp 12) (by rfl) W.heap.size (.slice (some ⟨_, 0, none⟩) 0 0) 0 [] (by rfl) (by first | exact owns_base (ownsF_emptyB _ _ (by simp)) (by simp) | exact owns_base ((ownsF_emptyB _ _ (by simp)).alloc _) (by simp) | exact owns_drew (owns_base (ownsF_emptyB _ _ (by simp)) (by simp)) | exact owns_drew (owns_base ((ownsF_emptyB _ _ (by simp)).alloc _) (by simp))) _ x1 (by rfl) (HS1.out.below (B := W.heap.size) (by (repeat' first | exact Below.refl _ _ | assumption | refine Below.alloc ?_ ?_ _ | refine Below.setCell ?_ ?_ _ | refine Below.drew ?_ | (simp; done) | (simp; omega))) (Nat.le_refl _)) x1.length x1 (by simp) (by simp) L1 (by first | (simp; done) | (simp; omega)) ?_; intro a' cap' w1 hown hbl0 hg; have hbl1 : Below W.heap.size W w1 := Below.trans (by (repeat' first | exact Below.refl _ _ | assumption | refine Below.alloc ?_ ?_ _ | refine Below.setCell ?_ ?_ _ | refine Below.drew ?_ | (simp; done) | (simp; omega))) hbl0; clear hbl0; have hbs := hbl1.size
           (first
             | (have k := blk_grown (b := W.heap.size) (t := 136) (cs := #[.int .i64 0, .slice none 0 0, .slice none 0 0]) (by exact (Blk.new _ _ _).alloc _) hg (by simp [Value.ownBlock]); have t0 := k.cell 0 rfl; have t1 := k.cell 1 rfl; have t2 := k.cell 2 rfl; have u0 := k.free 0; have u1 := k.free 1; have u2 := k.free 2; have HBk := Lib.hid k; clear k)
             | (have k := blk_grown (b := W.heap.size + 1) (t := 136) (cs := #[.int .i64 0, .slice none 0 0, .slice none 0 0]) (by exact Blk.newB _ _ _ _ (by simp)) hg (by simp [Value.ownBlock]); have t0 := k.cell 0 rfl; have t1 := k.cell 1 rfl; have t2 := k.cell 2 rfl; have u0 := k.free 0; have u1 := k.free 1; have u2 := k.free 2; have HBk := Lib.hid k; clear k)
             | skip)))
    all_goals
      go_wp2_with fail
      first
        | (have hne := HBk.out.not_owned hown (by decide); clear t0 t1 t2 u0 u1 u2)
        | skip
      go_meet
    case rel =>
      refine ⟨_, _, _, rfl, Blk.newB _ _ _ _ (by simp), ((OwnF.mk hown).up ((Below.refl _ _).alloc (Nat.le_refl _) _) (Nat.le_refl _)).wide (Nat.le_refl _) (by simp), by simpa using hbs, hbl1.alloc hbs _⟩
    case rel =>
      exact ⟨_, _, _, rfl, by simpa using (((HBk.out.set 0 (.int .i64 n0)).set 1 (.slice a' x1.length cap')).set 2 (.slice none 0 0)), OwnF.mk (ownsRow_setCell_other (ownsRow_setCell_other (ownsRow_setCell_other hown hne _) hne _) hne _), Nat.le_succ _, ((hbl1.setCell (Nat.le_succ _) _).setCell (Nat.le_succ _) _).setCell (Nat.le_succ _) _⟩
    case rel =>
      exact ⟨_, _, _, rfl, by simpa using (((HBk.out.set 0 (.int .i64 n0)).set 1 (.slice a' x1.length cap')).set 2 (.slice none 0 0)), OwnF.mk (ownsRow_setCell_other (ownsRow_setCell_other (ownsRow_setCell_other hown hne _) hne _) hne _), Nat.le_refl _, ((hbl1.setCell (Nat.le_refl _) _).setCell (Nat.le_refl _) _).setCell (Nat.le_refl _) _⟩
  case rest =>
    obtain ⟨g3, y1, e1, rfl, hb3, ho1, hg3, hbw⟩ := hcut
    have hB3 := Lib.hid hb3
    have hO1 := Lib.hid ho1
    have hBW := Lib.hid hbw
    have k3 := hB3.out.lt
    have hsl2 := (P2.out.up HB.out (Nat.le_refl _)).up (hbw.alloc hbw.size (.cells #[] 2)) (Nat.le_refl _)
    have hbb2 : wc.cell? ⟨bb, 2, none⟩ = some (.slice a2 x2.length c2) := (HK.out.below hbw HK.out.lt).cell 2 rfl
    have hbc : bb < wc.heap.size := Nat.lt_of_lt_of_le HK.out.lt hbw.size
    clear hb3 ho1 hbw
    go_upto_region 3 with (at_builtin; refine app_ints rfl _ _ rfl wc.heap.size (.slice (some ⟨wc.heap.size, 0, none⟩) 0 0) 0 [] rfl (owns_empty wc) _ x2 rfl hsl2 x2.length x2 (by simp) (by simp) L2 (by simp) ?_; intro y2 e2 w2 hown2 hbl2 _ _; have hB4 := Lib.hid (hB3.out.below (((Below.refl _ _).alloc (Nat.le_refl _) _).trans hbl2) k3); have t2 := hB4.out.cell 2 rfl; have u2 := hB4.out.free 2)
    have hbw2 : Below wc.heap.size wc w2 := ((Below.refl _ _).alloc (Nat.le_refl _) _).trans hbl2
    refine wp_at fun W3 hW3 => ?_
    have hB5 := Lib.hid (show Blk W3 g3 136 #[.int .i64 n0, .slice y1 x1.length e1, .slice y2 x2.length e2] by subst hW3; simpa using hB4.out.set 2 (.slice y2 x2.length e2))
    have hO2 := Lib.hid (show W3.ownsRow wc.heap.size 2 1 (.slice y2 x2.length e2) x2.length (x2.map I64) by
      subst hW3
      exact ownsRow_setCell_other hown2 (hB4.out.not_owned hown2 (by decide)) _)
    have hO1' := Lib.hid (show W3.ownsRow W.heap.size 63 1 (.slice y1 x1.length e1) x1.length (x1.map F32) by
      subst hW3
      have o := hO1.out.up hbw2 (Nat.le_refl _)
      exact ownsRow_setCell_other o.1 (hB4.out.not_owned o.1 (by decide)) _)
    have hBW3 := Lib.hid (show Below W.heap.size W W3 by
      subst hW3
      exact (hBW.out.trans (hbw2.mono hBW.out.size)).setCell hg3 _)
    have hsw := hBW.out.size
    clear hW3 hown2 hbl2 hbw2 t2 u2 hB4 hsl2 hbb2
    have HL3 := Lib.hid (HL.out.below hBW3.out HL.out.lt)
    have r0 := hB5.out.cell 0 rfl
    have r1 := hB5.out.cell 1 rfl
    have r2 := hB5.out.cell 2 rfl
    have t0 := HL3.out.cell 0 rfl
    have t1 := HL3.out.cell 1 rfl
    have t2 := HL3.out.cell 2 rfl
    have s0 := HL3.out.free 0
    have s1 := HL3.out.free 1
    have s2 := HL3.out.free 2
    have hzB := HB.out.size
    have FIN := HFIN.out W3 g3 y1 e1 y2 e2 (owns_base hO1'.out hzB) (owns_base hO2.out (by omega)) (HB.out.trans (hBW3.out.mono hzB)) (by omega)
    have n1 : ∀ b, y1.map Addr.block = some b → b ≠ w.heap.size := fun b hb => by have := (owns_lt hO1'.out (k := b) (by rcases y1 with _ | a; (simp at hb); (simpa [Value.ownBlock] using hb))).1; omega
    have n2 : ∀ b, y2.map Addr.block = some b → b ≠ w.heap.size := fun b hb => by have := (owns_lt hO2.out (k := b) (by rcases y2 with _ | a; (simp at hb); (simpa [Value.ownBlock] using hb))).1; omega
    have FIN := Lib.hid FIN
    have N1 := Lib.hid n1
    have N2 := Lib.hid n2
    clear n1 n2
    go_wp2_with fail
    refine bodyPost_ret (v := .agg #[.int .i64 n0, .slice y1 x1.length e1, .slice y2 x2.length e2]) (by simp [results, Try.results176, go_sem, *]) rfl ?_
    refine FIN.out _ ?_ N1.out N2.out
    repeat' first | exact Kept.refl _ _ | refine Kept.setCell ?_ (.inr (by simp)) _

end Go.Proofs.Ytkfiepiipigcmaa

namespace Go.Proofs.Ytkfiepiipigcmaa
open Go.RowKit

set_option maxHeartbeats 4000000 in
set_option maxRecDepth 8000 in
theorem l02Table_any (bb : Nat) (t : TabD) (w : World) (h : TpB w bb t) (hd : DimT t) :
    Calls Try.prog 183 #[.pointer (some ⟨bb, 0, none⟩)] w fun e w' => e = .returned (.bool (allFin t.nums && basOk (colsT t) t.basis)) ∧ ∃ m, w' = w.drewN m := by
  have h17 := hd.w17
  have hb8 := hd.b8
  have hb1 := hd.b1
  have HW := Lib.hid (fun n => qs_of (l02Wide_any bb t (w.drewN n) (h.drewN n) hd))
  have HW2 := Lib.hid (fun X (hX : ∃ m, X = w.drewN m) n => qs_of (w := X) (l02Wide_any bb t (X.drewN n) (by obtain ⟨m, rfl⟩ := hX; exact h) hd))
  obtain ⟨a, c, b, d, hkb, hrt⟩ := h
  have HBS := Lib.hid hrt.parts.2
  have HF := Lib.hid (fun n => l02Finite_qs _ t.nums w n hrt.parts.1)
  have HI1 := Lib.hid (show inB 1 8 (t.vars : Int) = true by rw [inB_iff]; have := hd.v1; have := hd.v8; omega)
  have HI2 := Lib.hid (show inB 1 8 (t.basis.length : Int) = true by rw [inB_iff]; omega)
  have hm := hd.n153
  have hnl := hd.nl
  have HBN := Lib.hid (fun i hi h => @basOk_no (colsT t) t.basis i hi h)
  have HBY := Lib.hid (show (∀ i, i < t.basis.length → (inB 0 ((colsT t : Int) - 1) (t.basis.getD i 0) && !hasB (t.basis.take i) (t.basis.getD i 0)) = true) → basOk (colsT t) t.basis = true from fun h => allB_true h)
  obtain ⟨N, hN⟩ : ∃ N, N = t.basis.length := ⟨_, rfl⟩
  obtain ⟨M, hM⟩ : ∃ M, M = t.nums.length := ⟨_, rfl⟩
  obtain ⟨C, hC⟩ : ∃ C, C = colsT t := ⟨_, rfl⟩
  obtain ⟨f, hf⟩ : ∃ f, f = allFin t.nums := ⟨_, rfl⟩
  obtain ⟨V, hV⟩ : ∃ V, V = t.vars := ⟨_, rfl⟩
  have HN := Lib.hid hN.symm
  have hWC : wdT t = C + 1 := by rw [hC]; rfl
  rw [← hN] at HI2 hb8 hb1 HBS HBY HBN hnl hkb
  rw [hWC] at HW HW2 h17 hnl
  rw [← hM] at hnl hm HF hkb
  rw [← hC] at HBY HBN
  rw [← hf] at HF
  rw [← hV] at HI1 hkb
  rw [← hf, ← hC]
  obtain ⟨N1, hN1⟩ : ∃ N1 : Int, N1 = (N : Int) + 1 := ⟨_, rfl⟩
  obtain ⟨W, hW⟩ : ∃ W : Int, W = ((C + 1 : Nat) : Int) := ⟨_, rfl⟩
  have e1 : IntKind.i64.wrap ((N : Int) + 1) = N1 := by rw [hN1]; exact IntWalk.i64_in _ (by omega)
  have e2 : IntKind.i64.wrap (N1 * W) = (M : Int) := by
    have : N1 * W = (M : Int) := by rw [hN1, hW, hnl, Int.mul_comm]; push_cast; rfl
    rw [this]
    exact IntWalk.i64_in _ (by omega)
  have e4 : IntKind.i64.wrap (W - 2) = (C : Int) - 1 := by rw [hW, IntWalk.i64_in _ (by omega)]; omega
  have e3 : ((M : Int) != (M : Int)) = false := by simp
  rw [← hW] at HW HW2
  have hi1 := HI1.out
  have hi2 := HI2.out
  have d0 := hkb.cell 0 rfl
  have d1 := hkb.cell 1 rfl
  have d2 := hkb.cell 2 rfl
  clear hd hN hM hW hC hf hnl hN1 hrt hkb hV HI1 HI2 hWC
  go_enter Try.func183, Try.ntmps183
  cases f
  · go_wp2_with fail
    go_quiet (first
      | (go_at_call 95; exact quiet_same (in_any _ _ _ _))
      | (go_at_call 165; exact HW.out _)
      | (go_at_call 139; exact HF.out _))
    go_wp2_with fail
    go_ret
    exact ⟨rfl, _, rfl⟩
  · go_wp2_with fail
    go_quiet (first
      | (go_at_call 95; exact quiet_same (in_any _ _ _ _))
      | (go_at_call 165; exact HW.out _)
      | (go_at_call 139; exact HF.out _))
    clear e1 e2 e3 hi1 hi2
    go_wp2_with fail
    go_loopw [4] (fun iv wr => ∃ i : Nat, iv = .int .i64 i ∧ i ≤ N ∧ Hid (∀ j, j < i → (inB 0 ((C : Int) - 1) (t.basis.getD j 0) && !hasB (t.basis.take j) (t.basis.getD j 0)) = true) ∧ Hid (∃ m, wr = w.drewN m)) (fun iv _ => N + 1 - (intOf iv).toNat)
    case atStart => exact ⟨0, rfl, Nat.zero_le _, Lib.hid (by intro j hj; omega), Lib.hid ⟨_, rfl⟩⟩
    case round =>
      obtain ⟨i, rfl, hi, HJ, HD⟩ := hrel
      obtain ⟨wo, rfl⟩ : ∃ wo, wo = wr := ⟨wr, rfl⟩
      have d0 : wo.cell? ⟨bb, 0, none⟩ = some (.int .i64 V) := by obtain ⟨m, e⟩ := HD.out; rw [e]; exact d0
      have d1 : wo.cell? ⟨bb, 1, none⟩ = some (.slice a M c) := by obtain ⟨m, e⟩ := HD.out; rw [e]; exact d1
      have d2 : wo.cell? ⟨bb, 2, none⟩ = some (.slice b N d) := by obtain ⟨m, e⟩ := HD.out; rw [e]; exact d2
      have HBO := Lib.hid (show RdI wo (.slice b N d) t.basis by obtain ⟨m, e⟩ := HD.out; rw [e]; exact HBS.out.drewN m)
      have HWO := Lib.hid (HW2.out wo HD.out)
      by_cases hlt : i < N
      · have hltI : (i : Int) < (N : Int) := by omega
        obtain ⟨gb, go, rfl, _, h1⟩ := HBO.out.at (i := i) (by rw [HN.out]; exact hlt)
        have HJ2 := Lib.hid (fun (h : (inB 0 ((C : Int) - 1) (t.basis.getD i 0) && !hasB (t.basis.take i) (t.basis.getD i 0)) = true) => (show ∀ j, j < i + 1 → (inB 0 ((C : Int) - 1) (t.basis.getD j 0) && !hasB (t.basis.take j) (t.basis.getD j 0)) = true from fun j hj => by
          by_cases e : j = i
          · rw [e]; exact h
          · exact HJ.out j (by omega)))
        have HNO := Lib.hid (HBN.out i hlt)
        have HYS := Lib.hid (fun (k : Nat) (hk : k < i) (h : t.basis.getD k 0 = t.basis.getD i 0) => show hasB (t.basis.take i) (t.basis.getD i 0) = true from hasB_yes (j := k) (by rw [List.length_take, HN.out]; omega) (by rw [List.getD_eq_getElem?_getD, List.getElem?_take_of_lt hk, ← List.getD_eq_getElem?_getD]; exact h))
        have HNS := Lib.hid (fun (h : ∀ k, k < i → t.basis.getD k 0 ≠ t.basis.getD i 0) => show hasB (t.basis.take i) (t.basis.getD i 0) = false from hasB_no (fun k hk => by rw [List.length_take, HN.out] at hk; rw [List.getD_eq_getElem?_getD, List.getElem?_take_of_lt (by omega), ← List.getD_eq_getElem?_getD]; exact h k (by omega)))
        obtain ⟨x, hx⟩ : ∃ x, x = t.basis.getD i 0 := ⟨_, rfl⟩
        rw [← hx] at h1 HJ2 HNO HYS HNS
        obtain ⟨p1, hp1⟩ : ∃ p, inB 0 ((C : Int) - 1) x = p := ⟨_, rfl⟩
        rw [hp1] at HJ2 HNO
        clear hx
        cases p1
        · have HN2 := Lib.hid (HNO.out rfl)
          go_wp2_with fail
          go_quiet (first
            | (go_at_call 95; exact quiet_same (in_any _ _ _ _))
            | (go_at_call 165; exact HWO.out _))
          go_wp2_with fail
          go_ret
          exact ⟨by rw [HN2.out]; rfl, drewN_ex HD.out _⟩
        · go_wp2_with fail
          go_quiet (first
            | (go_at_call 95; exact quiet_same (in_any _ _ _ _))
            | (go_at_call 165; exact HWO.out _))
          go_wp2_with fail
          clear hp1
          have hd2 : w.cell? ⟨bb, 2, none⟩ = some (.slice (some ⟨gb, go, none⟩) N d) := by obtain ⟨m, e⟩ := HD.out; rw [e] at d2; exact d2
          have hx1 : w.cell? ⟨gb, go + i, none⟩ = some (.int .i64 x) := by obtain ⟨m, e⟩ := HD.out; rw [e] at h1; exact h1
          go_loopw [5] (fun kv wr => ∃ k : Nat, kv = .int .i64 k ∧ k ≤ i ∧ Hid (∀ j, j < k → t.basis.getD j 0 ≠ x) ∧ Hid (∃ m, wr = w.drewN m)) (fun kv _ => i + 1 - (intOf kv).toNat)
          case atStart => exact ⟨0, rfl, Nat.zero_le _, Lib.hid (by intro j hj; omega), Lib.hid (drewN_ex HD.out _)⟩
          case round =>
            obtain ⟨k, rfl, hk, HQ, HD⟩ := hrel
            obtain ⟨wp, rfl⟩ : ∃ wp, wp = wr := ⟨wr, rfl⟩
            have d2 : wp.cell? ⟨bb, 2, none⟩ = some (.slice (some ⟨gb, go, none⟩) N d) := by obtain ⟨m, e⟩ := HD.out; rw [e]; exact hd2
            have h1 : wp.cell? ⟨gb, go + i, none⟩ = some (.int .i64 x) := by obtain ⟨m, e⟩ := HD.out; rw [e]; exact hx1
            have HBO2 := Lib.hid (show RdI wp (.slice (some ⟨gb, go, none⟩) N d) t.basis by obtain ⟨m, e⟩ := HD.out; rw [e]; exact HBS.out.drewN m)
            by_cases hki : k < i
            · have hkiI : (k : Int) < (i : Int) := by omega
              have hkN : (k : Int) < (N : Int) := by omega
              obtain ⟨gb2, go2, ee, _, h2⟩ := HBO2.out.at (i := k) (by rw [HN.out]; omega)
              simp only [Option.some.injEq, Addr.mk.injEq, and_true] at ee
              obtain ⟨rfl, rfl⟩ := ee
              have HY2 := Lib.hid (HYS.out k hki)
              have HQ2 := Lib.hid (fun (h : t.basis.getD k 0 ≠ x) => show ∀ j, j < k + 1 → t.basis.getD j 0 ≠ x from fun j hj => by
                by_cases e : j = k
                · rw [e]; exact h
                · exact HQ.out j (by omega))
              obtain ⟨y, hy⟩ : ∃ y, y = t.basis.getD k 0 := ⟨_, rfl⟩
              rw [← hy] at h2 HY2 HQ2
              clear hy
              by_cases he : y = x
              · have he' : (y == x) = true := by simp [he]
                have HN2 := Lib.hid (HNO.out (by rw [HY2.out he]; rfl))
                clear he
                go_wp2_with fail
                go_quiet (fail)
                go_wp2_with fail
                go_ret
                exact ⟨by rw [HN2.out]; rfl, drewN_ex HD.out _⟩
              · have he' : (y == x) = false := by simp [he]
                have HQ3 := Lib.hid (HQ2.out he)
                clear he
                go_wp2_with fail
                go_quiet (fail)
                go_wp2_with fail
                go_roundw
                case rel => exact ⟨k + 1, by go_num, by omega, HQ3, Lib.hid (drewN_ex HD.out _)⟩
                case measure => simp [intOf]; omega
            · obtain rfl : k = i := by omega
              have HJ3 := Lib.hid (HJ2.out (by rw [HNS.out HQ.out]; rfl))
              go_wp2_with fail
              go_roundw
              case rel => exact ⟨k + 1, by go_num, by omega, HJ3, HD⟩
              case measure => simp [intOf]; omega
      · obtain rfl : i = N := by omega
        have HY := Lib.hid (HBY.out HJ.out)
        go_wp2_with fail
        go_ret
        exact ⟨by rw [HY.out]; rfl, HD.out⟩

end Go.Proofs.Ytkfiepiipigcmaa
