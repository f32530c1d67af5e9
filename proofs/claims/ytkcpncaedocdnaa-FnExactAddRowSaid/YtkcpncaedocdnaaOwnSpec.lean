/-
  Rows of their own: by the reference.
-/
import Derived.Test.YtkcpncaedocdnaaOwnRows
import Derived.Deep.AppendLies
namespace Go.Proofs.Ytkcpncaedocdnaa
open Go.RowKit

def zeroCells : Array Value := #[.int .i64 0, .slice none 0 0, .slice none 0 0, .slice none 0 0]
theorem ownsF_emptyB (w : World) (b : Nat) (hb : b = w.heap.size) : (w.alloc (.cells #[] 59)).ownsRow w.heap.size 59 1 (.slice (some ⟨b, 0, none⟩) 0 0) 0 (([] : List Nat).map F32) := by subst hb; exact ownsF_empty w

theorem Blk.newB (w : World) (t : TypeId) (cs : Array Value) (b : Nat) (hb : b = w.heap.size) : Blk (w.alloc (.cells cs t)) b t cs := by subst hb; exact Blk.new w t cs

/-- A block beside what has grown. -/
theorem blk_grown {w w' : World} {b : Nat} {t : TypeId} {cs : Array Value} {row : Option Nat} (h : Blk w b t cs) (hg : w.grownBy w' row) (hne : row ≠ some b) : Blk w' b t cs :=
  (hg.block b h.lt fun e => hne e.symm).trans h

theorem ownRows_finP {p : Nat} {w W Wl : World} {n0 : Int} {x1 x2 x3 : List Nat} {yA yB yC : Value} {lA hA lB hB lC hC : Nat} (hb : Below w.heap.size w W) (hbn : Below W.heap.size W Wl) (hsp : w.heap.size ≤ p) (hsz : p < W.heap.size)
    (oA : OwnF lA hA Wl yA x1) (oB : OwnF lB hB Wl yB x2) (oC : OwnF lC hC Wl yC x3) (gA : W.heap.size ≤ lA ∧ hA ≤ Wl.heap.size) (gB : W.heap.size ≤ lB ∧ hB ≤ Wl.heap.size) (gC : W.heap.size ≤ lC ∧ hC ≤ Wl.heap.size)
    (dAB : hA ≤ lB ∨ hB ≤ lA) (dAC : hA ≤ lC ∨ hC ≤ lA) (dBC : hB ≤ lC ∨ hC ≤ lB) :
    ∀ Wf, Kept (· = p) Wl Wf → Wf.heap.size = Wl.heap.size → OwnR w.heap.size Wf.heap.size Wf (.agg #[.int .i64 n0, yA, yB, yC]) ⟨n0, x1, x2, x3⟩ ∧ Below w.heap.size w Wf := by
  intro Wf hk hz
  have z1 := hb.size
  have z2 := hbn.size
  have k1 := (oA.kept hk (by intro b h1 h2 h3; omega)).wide (lo' := w.heap.size) (hi' := Wf.heap.size) (by omega) (by omega)
  have k2 := (oB.kept hk (by intro b h1 h2 h3; omega)).wide (lo' := w.heap.size) (hi' := Wf.heap.size) (by omega) (by omega)
  have k3 := (oC.kept hk (by intro b h1 h2 h3; omega)).wide (lo' := w.heap.size) (hi' := Wf.heap.size) (by omega) (by omega)
  have hbl : Below w.heap.size w Wl := hb.trans (hbn.mono hb.size)
  refine ⟨⟨_, _, _, rfl, k1, k2, k3, ?_, ?_, ?_⟩, hbl.trans (hk.toBelow hbl.size (by intro k h1 h2; omega))⟩
  · intro g q1 q2; have := oA.blk q1; have := oB.blk q2; omega
  · intro g q1 q2; have := oA.blk q1; have := oC.blk q2; omega
  · intro g q1 q2; have := oB.blk q1; have := oC.blk q2; omega

set_option maxHeartbeats 4000000 in
set_option maxRecDepth 4000 in
theorem l02Own_any (bb : Nat) (v0 v1 v2 v3 : Value) (r : RowsD) (w : World) (hk : Blk w bb 49 #[v0, v1, v2, v3]) (h : RdR w (.agg #[v0, v1, v2, v3]) r) (hb : bulkR r ≤ 1048576) :
    Calls Try.prog 93 #[.pointer (some ⟨bb, 0, none⟩)] w fun e w' => ∃ v', e = .returned v' ∧ OwnR w.heap.size w'.heap.size w' v' r ∧ Below w.heap.size w w' := by
  obtain ⟨a1, c1, a2, c2, a3, c3, e⟩ := h.shape
  obtain ⟨p1, p2, p3⟩ := h.parts
  simp only [Value.agg.injEq, Array.mk.injEq, List.cons.injEq, and_true] at e
  obtain ⟨rfl, rfl, rfl, rfl⟩ := e
  obtain ⟨n0, x1, x2, x3⟩ := r
  simp only [bulkR] at p1 p2 p3 hb hk ⊢
  have P1 := Lib.hid p1
  have P2 := Lib.hid p2
  have P3 := Lib.hid p3
  have L1 : x1.length ≤ 17592186044416 := by omega
  have L2 : x2.length ≤ 17592186044416 := by omega
  have L3 : x3.length ≤ 17592186044416 := by omega
  have hbl := hk.lt
  have HK0 := Lib.hid hk
  clear h p1 p2 p3 hb hk
  go_enter Try.func93, Try.ntmps93
  go_upto_region 1 with fail
  refine wp_at fun W hW => ?_
  have HB := Lib.hid (show Below w.heap.size w W by subst hW; (repeat' first | exact Below.refl _ _ | assumption | refine Below.alloc ?_ ?_ _ | refine Below.setCell ?_ ?_ _ | refine Below.drew ?_ | (simp; done) | (simp; omega)))
  have HK := Lib.hid (show Blk W bb 49 #[.int .i64 n0, .slice a1 x1.length c1, .slice a2 x2.length c2, .slice a3 x3.length c3] by subst hW; exact HK0.out.alloc _)
  have HL := Lib.hid (show Blk W w.heap.size 49 #[.int .i64 0, .slice none 0 0, .slice none 0 0, .slice none 0 0] by subst hW; exact Blk.new _ _ _)
  clear hW
  have hl1 := HL.out.lt
  go_cut [3] from 4 (fun t3 wx => ∃ (g3 : Nat) (y1 : Option Addr) (e1 : Nat), t3 = .pointer (some ⟨g3, 0, none⟩) ∧ Blk wx g3 49 #[.int .i64 n0, .slice y1 x1.length e1, .slice none 0 0, .slice none 0 0] ∧ OwnF W.heap.size wx.heap.size wx (.slice y1 x1.length e1) x1 ∧ W.heap.size ≤ g3 ∧ Below W.heap.size W wx)
  case first =>
    have HS1 := Lib.hid (show Slc W (.slice a1 x1.length c1) (x1.map F32) from (P1.out.up HB.out (Nat.le_refl _)))
    have HKEEP := Lib.hid (show ∀ X, Below W.heap.size W X → X.cell? ⟨bb, 0, none⟩ = some (.int .i64 n0) ∧ X.cell? ⟨bb, 1, none⟩ = some (.slice a1 x1.length c1) from fun X hb => by
      have k := HK.out.below hb HK.out.lt
      exact ⟨k.cell 0 rfl, k.cell 1 rfl⟩)
    go_region_held3 (fun X => X.cell? ⟨bb, 0, none⟩ = some (.int .i64 n0) ∧ X.cell? ⟨bb, 1, none⟩ = some (.slice a1 x1.length c1))
      (first | (refine HKEEP.out _ ?_; (repeat' first | exact Below.refl _ _ | assumption | refine Below.alloc ?_ ?_ _ | refine Below.setCell ?_ ?_ _ | refine Below.drew ?_ | (simp; done) | (simp; omega)); done) | go_keep)
      (first
        | (refine step_app_flts rfl (.tmp 8) (.tmp 12) (by rfl) W.heap.size (.slice (some ⟨_, 0, none⟩) 0 0) 0 [] (by rfl) (by first | exact owns_base (ownsF_emptyB _ _ (by simp)) (by simp) | exact owns_base ((ownsF_emptyB _ _ (by simp)).alloc _) (by simp) | exact owns_drew (owns_base (ownsF_emptyB _ _ (by simp)) (by simp)) | exact owns_drew (owns_base ((ownsF_emptyB _ _ (by simp)).alloc _) (by simp))) _ x1 (by rfl) (HS1.out.below (B := W.heap.size) (by (repeat' first | exact Below.refl _ _ | assumption | refine Below.alloc ?_ ?_ _ | refine Below.setCell ?_ ?_ _ | refine Below.drew ?_ | (simp; done) | (simp; omega))) (Nat.le_refl _)) x1.length x1 (by simp) (by simp) L1 (by first | (simp; done) | (simp; omega)) ?_; intro a' cap' w1 hown hbl0 hg; have hbl1 : Below W.heap.size W w1 := Below.trans (by (repeat' first | exact Below.refl _ _ | assumption | refine Below.alloc ?_ ?_ _ | refine Below.setCell ?_ ?_ _ | refine Below.drew ?_ | (simp; done) | (simp; omega))) hbl0; clear hbl0; have hbs := hbl1.size
           (first
             | (have k := blk_grown (b := W.heap.size) (t := 49) (cs := #[.int .i64 0, .slice none 0 0, .slice none 0 0, .slice none 0 0]) (by exact (Blk.new _ _ _).alloc _) hg (by simp [Value.ownBlock]); have t0 := k.cell 0 rfl; have t1 := k.cell 1 rfl; have t2 := k.cell 2 rfl; have t3 := k.cell 3 rfl; have u0 := k.free 0; have u1 := k.free 1; have u2 := k.free 2; have u3 := k.free 3; have HBk := Lib.hid k; clear k)
             | (have k := blk_grown (b := W.heap.size + 1) (t := 49) (cs := #[.int .i64 0, .slice none 0 0, .slice none 0 0, .slice none 0 0]) (by exact Blk.newB _ _ _ _ (by simp)) hg (by simp [Value.ownBlock]); have t0 := k.cell 0 rfl; have t1 := k.cell 1 rfl; have t2 := k.cell 2 rfl; have t3 := k.cell 3 rfl; have u0 := k.free 0; have u1 := k.free 1; have u2 := k.free 2; have u3 := k.free 3; have HBk := Lib.hid k; clear k)
             | skip)))
    all_goals
      go_wp2_with fail
      first
        | (have hne := HBk.out.not_owned hown (by decide); clear t0 t1 t2 t3 u0 u1 u2 u3)
        | skip
      go_meet
    case rel =>
      refine ⟨_, _, _, rfl, Blk.newB _ _ _ _ (by simp), ((OwnF.mk hown).up ((Below.refl _ _).alloc (Nat.le_refl _) _) (Nat.le_refl _)).wide (Nat.le_refl _) (by simp), by simpa using hbs, hbl1.alloc hbs _⟩
    case rel =>
      exact ⟨_, _, _, rfl, by simpa using ((((HBk.out.set 0 (.int .i64 n0)).set 1 (.slice a' x1.length cap')).set 2 (.slice none 0 0)).set 3 (.slice none 0 0)), OwnF.mk (ownsRow_setCell_other (ownsRow_setCell_other (ownsRow_setCell_other (ownsRow_setCell_other hown hne _) hne _) hne _) hne _), Nat.le_succ _, (((hbl1.setCell (Nat.le_succ _) _).setCell (Nat.le_succ _) _).setCell (Nat.le_succ _) _).setCell (Nat.le_succ _) _⟩
    case rel =>
      exact ⟨_, _, _, rfl, by simpa using ((((HBk.out.set 0 (.int .i64 n0)).set 1 (.slice a' x1.length cap')).set 2 (.slice none 0 0)).set 3 (.slice none 0 0)), OwnF.mk (ownsRow_setCell_other (ownsRow_setCell_other (ownsRow_setCell_other (ownsRow_setCell_other hown hne _) hne _) hne _) hne _), Nat.le_refl _, (((hbl1.setCell (Nat.le_refl _) _).setCell (Nat.le_refl _) _).setCell (Nat.le_refl _) _).setCell (Nat.le_refl _) _⟩
  case rest =>
    obtain ⟨g3, y1, e1, rfl, hb3, ho1, hg3, hbw⟩ := hcut
    have hB3 := Lib.hid hb3
    have hO1 := Lib.hid ho1
    have hBW := Lib.hid hbw
    have k3 := hB3.out.lt
    have hsl2 := (P2.out.up HB.out (Nat.le_refl _)).up (hbw.alloc hbw.size (.cells #[] 59)) (Nat.le_refl _)
    have hbb2 : wc.cell? ⟨bb, 2, none⟩ = some (.slice a2 x2.length c2) := (HK.out.below hbw HK.out.lt).cell 2 rfl
    have hbc : bb < wc.heap.size := Nat.lt_of_lt_of_le HK.out.lt hbw.size
    clear hb3 ho1 hbw
    go_upto_region 3 with (at_builtin; refine app_flts rfl _ _ rfl wc.heap.size (.slice (some ⟨wc.heap.size, 0, none⟩) 0 0) 0 [] rfl (ownsF_empty wc) _ x2 rfl hsl2 x2.length x2 (by simp) (by simp) L2 (by simp) ?_; intro y2 e2 w2 hown2 hbl2 _ _; have hB4 := Lib.hid (hB3.out.below (((Below.refl _ _).alloc (Nat.le_refl _) _).trans hbl2) k3); have t2 := hB4.out.cell 2 rfl; have u2 := hB4.out.free 2)
    have hbw2 : Below wc.heap.size wc w2 := ((Below.refl _ _).alloc (Nat.le_refl _) _).trans hbl2
    refine wp_at fun W3 hW3 => ?_
    have hB5 := Lib.hid (show Blk W3 g3 49 #[.int .i64 n0, .slice y1 x1.length e1, .slice y2 x2.length e2, .slice none 0 0] by subst hW3; simpa using hB4.out.set 2 (.slice y2 x2.length e2))
    have hO2 := Lib.hid (show OwnF wc.heap.size W3.heap.size W3 (.slice y2 x2.length e2) x2 by
      subst hW3
      exact OwnF.mk (ownsRow_setCell_other hown2 (hB4.out.not_owned hown2 (by decide)) _))
    have hO1' := Lib.hid (show OwnF W.heap.size wc.heap.size W3 (.slice y1 x1.length e1) x1 by
      subst hW3
      have o := hO1.out.up hbw2 (Nat.le_refl _)
      exact ⟨ownsRow_setCell_other o.1 (hB4.out.not_owned o.1 (by decide)) _, o.2⟩)
    have hBW3 := Lib.hid (show Below W.heap.size W W3 by
      subst hW3
      exact (hBW.out.trans (hbw2.mono hBW.out.size)).setCell hg3 _)
    have hs3 : wc.heap.size ≤ W3.heap.size := by
      subst hW3; simpa using hbw2.size
    clear hW3 hown2 hbl2 hbw2 t2 u2 hB4 hsl2 hbb2
    have hsl3 := (P3.out.up HB.out (Nat.le_refl _)).up (hBW3.out.alloc hBW3.out.size (.cells #[] 59)) (Nat.le_refl _)
    have hbb3 : W3.cell? ⟨bb, 3, none⟩ = some (.slice a3 x3.length c3) := (HK.out.below hBW3.out HK.out.lt).cell 3 rfl
    have k4 := hB5.out.lt
    have hbc3 : bb < W3.heap.size := Nat.lt_of_lt_of_le hbc hs3
    go_upto_region 4 with (at_builtin; refine app_flts rfl _ _ rfl W3.heap.size (.slice (some ⟨W3.heap.size, 0, none⟩) 0 0) 0 [] rfl (ownsF_empty W3) _ x3 rfl hsl3 x3.length x3 (by simp) (by simp) L3 (by simp) ?_; intro y3 e3 w4 hown3 hbl3 _ _; have hB6 := Lib.hid (hB5.out.below (((Below.refl _ _).alloc (Nat.le_refl _) _).trans hbl3) k4); have t3 := hB6.out.cell 3 rfl; have u3 := hB6.out.free 3)
    have hbw4 : Below W3.heap.size W3 w4 := ((Below.refl _ _).alloc (Nat.le_refl _) _).trans hbl3
    refine wp_at fun W5 hW5 => ?_
    have hB7 := Lib.hid (show Blk W5 g3 49 #[.int .i64 n0, .slice y1 x1.length e1, .slice y2 x2.length e2, .slice y3 x3.length e3] by subst hW5; simpa using hB6.out.set 3 (.slice y3 x3.length e3))
    have hO3 := Lib.hid (show OwnF W3.heap.size W5.heap.size W5 (.slice y3 x3.length e3) x3 by
      subst hW5
      exact OwnF.mk (ownsRow_setCell_other hown3 (hB6.out.not_owned hown3 (by decide)) _))
    have hP1 := Lib.hid (show OwnF W.heap.size wc.heap.size W5 (.slice y1 x1.length e1) x1 by
      subst hW5
      have o := hO1'.out.up hbw4 (Nat.le_refl _)
      exact ⟨ownsRow_setCell_other o.1 (hB6.out.not_owned o.1 (by decide)) _, o.2⟩)
    have hP2 := Lib.hid (show OwnF wc.heap.size W3.heap.size W5 (.slice y2 x2.length e2) x2 by
      subst hW5
      have o := hO2.out.up hbw4 (Nat.le_refl _)
      exact ⟨ownsRow_setCell_other o.1 (hB6.out.not_owned o.1 (by decide)) _, o.2⟩)
    have hBW5 := Lib.hid (show Below W.heap.size W W5 by
      subst hW5
      exact (hBW3.out.trans (hbw4.mono hBW3.out.size)).setCell hg3 _)
    have hs5 : W3.heap.size ≤ W5.heap.size := by
      subst hW5; simpa using hbw4.size
    have hsc := hBW.out.size
    clear hW5 hown3 hbl3 hbw4 t3 u3 hB6 hsl3 hbb3
    have r0 := hB7.out.cell 0 rfl
    have r1 := hB7.out.cell 1 rfl
    have r2 := hB7.out.cell 2 rfl
    have r3 := hB7.out.cell 3 rfl
    have hl := HL.out.below hBW5.out HL.out.lt
    have q0 := hl.cell 0 rfl
    have q1 := hl.cell 1 rfl
    have q2 := hl.cell 2 rfl
    have q3 := hl.cell 3 rfl
    have f0 := hl.free 0
    have f1 := hl.free 1
    have f2 := hl.free 2
    have f3 := hl.free 3
    clear hl
    go_wp2_with fail
    refine bodyPost_ret (v := .agg #[.int .i64 n0, .slice y1 x1.length e1, .slice y2 x2.length e2, .slice y3 x3.length e3]) (by simp [results, Try.results93, go_sem, *]) rfl ⟨_, rfl, ?_⟩
    refine ownRows_finP HB.out hBW5.out (p := w.heap.size) (Nat.le_refl _) hl1 hP1.out hP2.out hO3.out (by omega) (by omega) (by omega) (by omega) (by omega) (by omega) _ ?_ (by simp)
    repeat' first | exact Kept.refl _ _ | refine Kept.setCell ?_ (.inr (by simp)) _

end Go.Proofs.Ytkcpncaedocdnaa
