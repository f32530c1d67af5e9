/-
  FnCases: texts joined: FormDraw, CaseDraw, Same, SameL.
-/
import Derived.Deep.RegionLaw
import Derived.Deep.RegionHeld3
import Derived.Test.YtkkcgclliomocaaMFnCasesAA
import Derived.Test.YtkkcgclliomocaaMFnCasesAC
import Derived.Test.YtkkcgclliomocaaMFnCasesAK
namespace Go.Proofs.Ytkkcgclliomocaa
open Go.RowKit

theorem step_app_listL {w : World} {ops : Array Oper} {o : Oper} {a : Act} {K : Act → World → Prop} {Q : Exit → Act → World → Prop} {E : Prop} (hgd : o.guard = none) (s x : Operand)
    (ho : o.op = .call { callee := .builtin .append, args := #[s, x], argTypes := #[29, 29] })
    (base : Nat) (v : Value) (n : Nat) (vs : List Value) (hs : a.eval s = v) (hown : w.ownsRow base 65 1 v n vs)
    (u : Value) (b : Nat) (hx : a.eval x = .slice (some ⟨b, 0, none⟩) 1 1) (hu : u.oneCell' = true) (hsv : Slc w (.slice (some ⟨b, 0, none⟩) 1 1) [u]) (hlen : n ≤ 1048576) (hbase : base ≤ w.heap.size)
    (h : ∀ a' cap' w', w'.ownsRow base 65 1 (.slice a' (n + 1) cap') (n + 1) (vs ++ [u]) → Below base w w' → w.grownBy w' v.ownBlock → ((Value.slice a' (n + 1) cap').ownBlock = v.ownBlock ∨ (Value.slice a' (n + 1) cap').ownBlock = some w.heap.size) → K (a.put o.dst (.slice a' (n + 1) cap')) w') :
    if Region.wanted o (yielded ops a.tmps) = true then Oper.wp Try.prog o a w K Q else E := by
  have hw : Region.wanted o (yielded ops a.tmps) = true := by simp [Region.wanted, hgd]
  rw [if_pos hw]
  obtain ⟨i0, hi, hz0, hz1, hz2⟩ := info_parts Try.infoInts
  rcases hsv with ⟨e, _⟩ | ⟨ad, cap, e, hcl, hcm, hc⟩
  · cases e
  · simp only [Value.slice.injEq, Option.some.injEq] at e
    obtain ⟨rfl, _, rfl⟩ := e
    obtain ⟨v', w', hr, h2, h3, _, h5⟩ := run_append_own_at (P := Try.prog) w base 29 o.type 65 i0 (.slice none 0 0) 1 24 Try.underlying29 hi hz0 hz1 hz2 rfl (by decide) v n vs hown ⟨b, 0, none⟩ 1 1 [u] rfl hc (by intro y hy; simp at hy; subst hy; exact hu) (by unfold maxLen; omega) (by omega) hbase
    obtain ⟨a', cap', rfl⟩ := owns_shape h2
    unfold Oper.wp execOp
    simp only [ho, resolve, invoke, builtin, Sem.run_bind, Sem.run_pure, Result.andThen_ok, List.map_toArray, List.map_cons, List.map_nil, hs, hx, hr]
    exact h a' cap' w' h2 (below_grown hown hbase h3) h3 h5

theorem owns_grownL {w w' : World} {base : Nat} {e : TypeId} {v : Value} {n : Nat} {vs : List Value} {row : Option Nat} (h : w.ownsRow base e 1 v n vs) (hg : w.grownBy w' row) (hn : ∀ g, v.ownBlock = some g → row ≠ some g) : w'.ownsRow base e 1 v n vs :=
  owns_kept (S := fun k => row = some k) h ⟨hg.os, hg.tape, hg.output, hg.size, fun k hk hs => hg.block k hk fun e => hs e.symm⟩ hn
theorem below_before2 {B B' : Nat} {a X w' : World} (_ : Below B' X w') (h : Below B a X) : Below B a X := h

set_option maxHeartbeats 4000000 in
set_option maxRecDepth 4000 in
theorem drawOk_any (W0 : World) (v : Value) (bs : List Int) (hR : RdB W0 v bs) (hw : WfB bs) (sb c : Nat) (w : World) (hsb : W0.heap.size ≤ sb) (hb : Below W0.heap.size W0 w) (h : SrcAt w sb v c) (hc : c ≤ 800000) :
    Calls Try.prog 51 #[.pointer (some ⟨sb, 0, none⟩)] w fun e w' => ∃ (f : FormD) (v' : Value), formB f = true ∧ e = .returned v' ∧ OwnFm w.heap.size w'.heap.size w' v' f ∧ SrcAt w' sb v (c + 500) ∧ Kept (· = sb) w w' := by
  have HR := Lib.hid hR
  have HW := Lib.hid hw
  have HB := Lib.hid hb
  have HS := Lib.hid h
  have hsl := h.lt
  clear hR hw hb h
  go_enter Try.func51, Try.ntmps51
  go_wp2_with fail
  refine Calls.at fun W1 hW1 => ?_
  have KR1 := Lib.hid (show Blk W1 w.heap.size 31 #[.int .i64 0, .slice none 0 0] by subst hW1; exact Blk.new _ _ _)
  have hk1 : Kept (· = sb) w W1 := by subst hW1; exact (Kept.refl _ _).alloc _
  have hz1 := KR1.out.lt
  have HS1 := Lib.hid (show SrcAt W1 sb v c by subst hW1; exact HS.out.below ((Below.refl _ _).alloc (Nat.le_refl _) _) hsl)
  have HK1 := Lib.hid hk1
  have HB1 := Lib.hid (HB.out.trans (hk1.toBelow HB.out.size (by intro j h1 h2; omega)))
  clear hW1 hk1
  refine (pick_any W0 v bs HR.out HW.out sb c W1 hsb HB1.out HS1.out (by omega) 5 (by omega) (by omega)).mono ?_
  rintro e w2 ⟨r, hr0, hr1, rfl, hs, hk⟩
  obtain ⟨L0, rfl⟩ := Int.eq_ofNat_of_zero_le hr0
  have HS2 := Lib.hid hs
  have KR2 := Lib.hid (KR1.out.kept hk (by omega))
  have HK2 := Lib.hid (HK1.out.trans (hk.mono (S' := (· = sb)) (fun _ _ h => h)))
  have hz2 := hk.size
  clear hs hk KR1 HK1 HB1 HS1
  obtain ⟨L, hL⟩ : ∃ L : Nat, L = 1 + L0 := ⟨_, rfl⟩
  have hLI : (1 : Int) + (L0 : Int) = (L : Int) := by omega
  have HL := Lib.hid (show 1 ≤ L ∧ L ≤ 10 by omega)
  have hL5 : L ≤ 5 := by omega
  clear hL
  go_upto_region 2 with fail
  refine wp_at fun W3 hW3 => ?_
  have HT3 := Lib.hid (show Blk W3 w2.heap.size 31 #[.int .i64 L, .slice none 0 0] by
    subst hW3; first | exact Blk.new _ _ _ | simpa using ((Blk.new w2 31 #[.int .i64 0, .slice none 0 0]).set 0 (.int .i64 L)).set 1 (.slice none 0 0))
  have hb3 : Below w2.heap.size w2 W3 := by subst hW3; first | (repeat' first | exact Below.refl _ _ | assumption | refine Below.alloc ?_ ?_ _ | refine Below.setCell ?_ ?_ _ | refine Below.drew ?_ | (simp; done) | (simp; omega)) | exact (Below.refl _ _).alloc (Nat.le_refl _) _
  have HS3 := Lib.hid (HS2.out.below hb3 HS2.out.lt)
  have KR3 := Lib.hid (KR2.out.below hb3 KR2.out.lt)
  have HK3 := Lib.hid (HK2.out.below hb3 (by omega))
  have HB3 := Lib.hid (HB.out.trans (HK3.out.toBelow HB.out.size (by intro j h1 h2; omega)))
  have hF : w.heap.size < w2.heap.size := by omega
  have hz3 := HT3.out.lt
  obtain ⟨F, hFe⟩ : ∃ F, F = w2.heap.size := ⟨_, rfl⟩
  rw [← hFe] at hF HT3 hz3 ⊢
  clear hW3 hb3 HS2 KR2 HK2 hFe hz1 hz2 hr0 hr1 hLI
  go_wp2_with fail
  refine (pick_any W0 v bs HR.out HW.out sb (c + 2) W3 hsb HB3.out HS3.out (by omega) 3 (by omega) (by omega)).mono ?_
  rintro e w4 ⟨r, hr0, hr1, rfl, hs, hk⟩
  have HS4 := Lib.hid hs
  have HT4 := Lib.hid (HT3.out.kept hk (by omega))
  have KR4 := Lib.hid (KR3.out.kept hk (by omega))
  have HK4 := Lib.hid (HK3.out.trans hk)
  have HB4 := Lib.hid (HB3.out.trans (hk.toBelow HB3.out.size (by intro j h1 h2; omega)))
  have hz4 := hk.size
  obtain ⟨mo, hmo⟩ : ∃ mo : Int, mo = 1 + r := ⟨_, rfl⟩
  have hmoR : (1 : Int) + r = mo := hmo.symm
  have hmo3 : 0 ≤ mo ∧ mo ≤ 3 := by omega
  have HMO := Lib.hid hmo3
  clear hs hk HS3 HT3 KR3 HK3 HB3 hmo hmo3
  go_wp2_with fail
  refine (pick_any W0 v bs HR.out HW.out sb (c + 2 + 2) w4 hsb HB4.out HS4.out (by omega) 10 (by omega) (by omega)).mono ?_
  rintro e w5 ⟨r2, hq0, hq1, rfl, hs, hk⟩
  obtain ⟨N, rfl⟩ := Int.eq_ofNat_of_zero_le hq0
  have HS5 := Lib.hid hs
  have HT5 := Lib.hid (HT4.out.kept hk (by omega))
  have KR5 := Lib.hid (KR4.out.kept hk (by omega))
  have HK5 := Lib.hid (HK4.out.trans hk)
  have hz5 := hk.size
  clear hs hk HS4 HT4 KR4 HK4 HB4 hr0 hr1 hq0 hmoR
  go_wp2_with fail
  go_loopw [5] (fun nn wr => ∃ (j : Nat) (D : List (List Int)) (vs : List Value) (a : Option Addr) (cap : Nat), nn = .int .i64 j ∧ D.length + j = N ∧ Hid (∀ x ∈ D, clauseB L x = true) ∧ Hid (Blk wr F 31 #[.int .i64 L, .slice a D.length cap]) ∧ Hid (wr.ownsRow w5.heap.size 65 1 (.slice a D.length cap) D.length vs) ∧ Hid (OwnEach w5.heap.size wr.heap.size wr vs D) ∧ Hid (SrcAt wr sb v (c + 6 + 40 * D.length)) ∧ Hid (Kept (· = sb) w wr) ∧ Hid (Blk wr w.heap.size 31 #[.int .i64 0, .slice none 0 0]) ∧ w5.heap.size ≤ wr.heap.size) (fun nn _ => (intOf nn).toNat)
  case atStart => exact ⟨N, [], [], none, 0, rfl, by simp, (fun x hx => by cases hx), HT5, World.ownsRow_nil _ _ _ _, ⟨rfl, by intro i u zs h; simp at h, by intro i j u u' g _ h; simp at h⟩, HS5, HK5, KR5, Nat.le_refl _⟩
  case round =>
    obtain ⟨j, D, vs, a, cap, rfl, hDj, HV, HT, HO, HE, HSr, HK, KR, hzr⟩ := hrel
    have HDJ := Lib.hid hDj
    have hD9 : D.length ≤ 9 := by omega
    have hj9 : (j : Int) ≤ 9 := by omega
    clear hDj
    by_cases hj0 : 0 < j
    · have hj0I : (0 : Int) < (j : Int) := by omega
      have HBr := Lib.hid (HB.out.trans (HK.out.toBelow HB.out.size (by intro j h1 h2; omega)))
      have d0 : wr.cell? ⟨F, 0, none⟩ = some (.int .i64 L) := HT.out.cell 0 rfl
      have d1 : wr.cell? ⟨F, 1, none⟩ = some (.slice a D.length cap) := HT.out.cell 1 rfl
      have HKEEP := Lib.hid (show ∀ X, Kept (· = sb) wr X → X.cell? ⟨F, 1, none⟩ = some (.slice a D.length cap) from fun X hk => (HT.out.kept hk (by omega)).cell 1 rfl)
      have HKEEP0 := Lib.hid (show ∀ X, Kept (· = sb) wr X → X.cell? ⟨F, 0, none⟩ = some (.int .i64 L) from fun X hk => (HT.out.kept hk (by omega)).cell 0 rfl)
      have HTK := Lib.hid (show ∀ X, Kept (· = sb) wr X → Blk X F 31 #[.int .i64 L, .slice a D.length cap] from fun X hk => HT.out.kept hk (by omega))
      have HOK := Lib.hid (show ∀ X, Kept (· = sb) wr X → X.ownsRow w5.heap.size 65 1 (.slice a D.length cap) D.length vs from fun X hk => owns_kept HO.out hk (by intro g hg e; have := (owns_lt HO.out hg).1; omega))
      have hsb5 : sb < w5.heap.size := by omega
      go_wp2_with fail
      go_region_law (first
        | (go_simp; go_at_call 52; refine (drawClause_any W0 v bs HR.out HW.out sb (c + 6 + 40 * D.length) _ hsb (by first | exact HBr.out | exact HBr.out.drew) (by exact HSr.out) (by omega) L HL.out mo HMO.out).mono ?_; rintro e w8 ⟨d, a8, c8, hcl, rfl, ho8, hs8, hk8⟩; have hz8 := hk8.size; have hkq : Kept (· = sb) wr w8 := Kept.trans (by repeat' first | assumption | exact Kept.refl _ _ | refine Kept.alloc ?_ _ | refine Kept.drew ?_) hk8; have q8 := HKEEP.out w8 hkq; have q9 := HKEEP.out (w8.alloc (.cells #[.slice a8 d.length c8] 65)) (hkq.alloc _); have hzq := hkq.size; clear hk8)
        | (refine step_app_listL rfl (.tmp 20) (.tmp 26) (by rfl) w5.heap.size (.slice a D.length cap) D.length vs (by rfl) (HOK.out _ (by repeat' first | assumption | exact Kept.refl _ _ | refine Kept.alloc ?_ _ | refine Kept.drew ?_)) (.slice a8 d.length c8) _ (by rfl) (by rfl) (by first | exact slc_list _ _ _ (by simp) | exact slc_drew (slc_list _ _ _ (by simp))) (by omega) (by simp; omega) ?_; intro y2 e2 w9 hown9 hbl9 hg9 hl9; have HT9 := Lib.hid (blkI_grown (HTK.out _ (by repeat' first | assumption | exact Kept.refl _ _ | refine Kept.alloc ?_ _ | refine Kept.drew ?_)) hg9 ((HTK.out _ (by repeat' first | assumption | exact Kept.refl _ _ | refine Kept.alloc ?_ _ | refine Kept.drew ?_)).not_owned (HOK.out _ (by repeat' first | assumption | exact Kept.refl _ _ | refine Kept.alloc ?_ _ | refine Kept.drew ?_)) (by decide))); have q1 := HT9.out.cell 1 rfl; have q2 := HT9.out.free 1; have HX9 := Lib.hid (below_before2 (B := w8.heap.size) (a := w8) hbl9 (by (repeat' first | exact Below.refl _ _ | assumption | refine Below.alloc ?_ ?_ _ | refine Below.setCell ?_ ?_ _ | refine Below.drew ?_ | (simp; done) | (simp; omega)))))
        | fail)
      all_goals
        have HA := Lib.hid (show w8.ownsRow wr.heap.size 2 1 (.slice a8 d.length c8) d.length (d.map I64) from ho8)
        have HOA := Lib.hid (owns_below (HOK.out w8 hkq) HX9.out (Nat.le_refl _))
        have HEA := Lib.hid ((HE.out.kept hkq (by intro b h1 h2 h3; omega)).up HX9.out (Nat.le_refl _))
        have HUA := Lib.hid ((OwnI.mk HA.out).up HX9.out (Nat.le_refl _))
        have HE9 := Lib.hid (OwnEach.snoc HOA.out HEA.out HUA.out (Nat.le_refl _) hzr (by simp) (by simp; omega) hg9)
        have HO9 := Lib.hid hown9
        have HS9 := Lib.hid ((hs8.below HX9.out hs8.lt).below hbl9 hsb5)
        have HK9 := Lib.hid (((HK.out.trans hkq).below HX9.out (by omega)).below hbl9 (by omega))
        have HR9 := Lib.hid (((KR.out.kept hkq (by omega)).below HX9.out (KR.out.kept hkq (by omega)).lt).below hbl9 (by omega))
        have HVN := Lib.hid (show ∀ x ∈ D ++ [d], clauseB L x = true from fun x hx => by
          rcases List.mem_append.1 hx with h | h
          · exact HV.out x h
          · simp only [List.mem_singleton] at h; subst h; exact hcl)
        have hz9 := hbl9.size
        have hza : w8.heap.size ≤ (w8.alloc (.cells #[.slice a8 d.length c8] 65)).heap.size := by simp
        clear hkq hcl ho8 hs8 q8 q9 hown9 hbl9 hg9 hl9 q1 q2 d0 d1
        go_wp2_with fail
        go_roundw
        case rel =>
          have hkF : Kept (· = F) w9 (w9.setCell ⟨F, 1, none⟩ (.slice y2 (D.length + 1) e2)) := Kept.setCell (S := (· = F)) (p := ⟨F, 1, none⟩) (Kept.refl _ _) (.inr rfl) _
          have hwz : (w9.setCell ⟨F, 1, none⟩ (.slice y2 (D.length + 1) e2)).heap.size = w9.heap.size := by simp [World.setCell]
          have hlen : (D ++ [d]).length = D.length + 1 := by simp
          have hnb := HT9.out.not_owned HO9.out (by decide)
          refine ⟨j - 1, D ++ [d], vs ++ [.slice a8 d.length c8], y2, e2, congrArg (Value.int IntKind.i64) (by omega), by have := HDJ.out; rw [hlen]; omega, HVN, Lib.hid ?_, Lib.hid ?_, Lib.hid ?_, Lib.hid ?_, Lib.hid ?_, Lib.hid ?_, ?_⟩
          · rw [hlen]; simpa using HT9.out.set 1 (.slice y2 (D.length + 1) e2)
          · rw [hlen]; exact ownsRow_setCell_other HO9.out hnb _
          · rw [hwz]; exact HE9.out.kept hkF (by intro b h1 h2 h3; omega)
          · rw [hlen]; exact (HS9.out.kept hkF (by omega)).mono (by omega)
          · exact HK9.out.setCell (.inl (by show w.heap.size ≤ F; omega)) _
          · exact HR9.out.other (by show w.heap.size ≠ F; omega) _
          · rw [hwz]; omega
        case measure => simp [intOf]; omega
    · obtain rfl : j = 0 := by omega
      have d0 : wr.cell? ⟨F, 0, none⟩ = some (.int .i64 L) := HT.out.cell 0 rfl
      have d1 : wr.cell? ⟨F, 1, none⟩ = some (.slice a D.length cap) := HT.out.cell 1 rfl
      have e0 : wr.cell? ⟨w.heap.size, 0, none⟩ = some (.int .i64 0) := KR.out.cell 0 rfl
      have e1 : wr.cell? ⟨w.heap.size, 1, none⟩ = some (.slice none 0 0) := KR.out.cell 1 rfl
      have g0 := KR.out.free 0
      have g1 := KR.out.free 1
      have FIN := Lib.hid (show ∀ Wf, Kept (· = w.heap.size) wr Wf → OwnFm w.heap.size Wf.heap.size Wf (.agg #[.int .i64 L, .slice a D.length cap]) ⟨L, D⟩ ∧ SrcAt Wf sb v (c + 500) ∧ Kept (· = sb) w Wf from fun Wf hK => by
        have hzf := hK.size
        have hol : OwnL w5.heap.size wr.heap.size wr (.slice a D.length cap) D := ⟨vs, HO.out, fun g hg => (owns_lt HO.out hg).2, HE.out⟩
        refine ⟨⟨_, w5.heap.size, wr.heap.size, rfl, hol.kept hK (by rintro b h1 h2 rfl; omega), by omega, hzr, hzf, hzf⟩, (HSr.out.kept hK (by omega)).mono (by omega), HK.out.step hK (by rintro b h1 rfl; omega)⟩)
      have HVF := Lib.hid (show formB ⟨L, D⟩ = true by
        unfold formB
        have := HL.out
        simp only
        rw [inB_true (by omega), decide_eq_true (by omega : D.length ≤ 48)]
        simp only [Bool.true_and, Bool.and_true]
        apply allB_true
        intro i hi
        rw [List.getD_eq_getElem?_getD, List.getElem?_eq_getElem hi]
        exact HV.out _ (List.getElem_mem hi))
      go_wp2_with fail
      refine bodyPost_ret (v := .agg #[.int .i64 L, .slice a D.length cap]) (by simp [results, Try.results51, go_sem, *]) rfl ?_
      refine ⟨⟨L, D⟩, _, HVF.out, rfl, ?_⟩
      refine FIN.out _ ?_
      repeat' first | exact Kept.refl _ _ | refine Kept.setCell ?_ (.inr (by simp)) _

end Go.Proofs.Ytkkcgclliomocaa

namespace Go.Proofs.Ytkkcgclliomocaa
open Go.RowKit

theorem caseB_mk {nm : ByteArray} {f : FormD} {D : List (List Int)} (h1 : nameB nm = true) (h2 : formB f = true) (h3 : D.length ≤ 128) (h4 : ∀ x ∈ D, clauseB f.letters x = true) : caseB ⟨nm, f, D⟩ = true := by
  unfold caseB
  simp only
  rw [h1, h2, decide_eq_true h3]
  simp only [Bool.true_and]
  apply allB_true
  intro i hi
  rw [List.getD_eq_getElem?_getD, List.getElem?_eq_getElem hi]
  exact h4 _ (List.getElem_mem hi)
theorem form_letters {f : FormD} (h : formB f = true) : ∃ L : Nat, f.letters = L ∧ 1 ≤ L ∧ L ≤ 10 := by
  unfold formB at h
  simp only [Bool.and_eq_true] at h
  have := inB_iff.1 h.1.1
  exact ⟨f.letters.toNat, by omega, by omega, by omega⟩
def drawNames : List ByteArray := [⟨#[97]⟩, ⟨#[106, 111, 98, 115]⟩, ⟨#[116, 111, 119, 110]⟩, ⟨#[122, 122]⟩]
theorem drawNames_ok : ∀ s ∈ drawNames, nameB s = true := by decide

set_option maxHeartbeats 8000000 in
set_option maxRecDepth 8000 in
theorem B10Cases_any (v : Value) (bs : List Int) (w : World) (hR : RdB w v bs) (hw : WfB bs) :
    Calls Try.prog 10 #[v] w fun e w' => ∃ (ds : List CaseD) (v' : Value), ((∀ d ∈ ds, caseB d = true) ∧ ds.length ≤ 4) ∧ e = .returned v' ∧ OwnCL w.heap.size w'.heap.size w' v' ds ∧ Below w.heap.size w w' := by
  have HR := Lib.hid hR
  have HW := Lib.hid hw
  have HF := Lib.hid (l00From_any v bs w hR)
  clear hR hw
  go_enter Try.func10, Try.ntmps10
  go_wp2_with fail
  refine HF.out.mono ?_
  rintro e w1 ⟨rfl, hs, hb1⟩
  have HS1 := Lib.hid hs
  have HB1 := Lib.hid hb1
  have hz1 := hs.lt
  clear hs hb1 HF
  go_wp2_with fail
  refine Calls.at fun W hW => ?_
  have HO0 := Lib.hid (show W.ownsRow w1.heap.size 33 4 (.slice (some ⟨w1.heap.size, 0, none⟩) 0 0) 0 [] by subst hW; exact World.ownsRow_lit (base := w1.heap.size) (e := 33) (size := 4) w1 #[] 0 (Nat.le_refl _) (by simp [maxLen]) rfl)
  have hbW : Below w1.heap.size w1 W := by subst hW; (repeat' first | exact Below.refl _ _ | assumption | refine Below.alloc ?_ ?_ _ | refine Below.setCell ?_ ?_ _ | refine Below.drew ?_ | (simp; done) | (simp; omega))
  have HBW := Lib.hid (HB1.out.trans (hbW.mono HB1.out.size))
  have HSW := Lib.hid (HS1.out.below hbW hz1)
  have hzW := hbW.size
  clear hW hbW HS1 HB1
  refine (pick_any w v bs HR.out HW.out w.heap.size 0 W (Nat.le_refl _) HBW.out HSW.out (by omega) 5 (by omega) (by omega)).mono ?_
  rintro e w3 ⟨r, hr0, hr1, rfl, hs, hk⟩
  have HS3 := Lib.hid hs
  have HO3 := Lib.hid (ownsK_kept HO0.out hk (by intro g hg e; have := (HO0.out.lt g hg).1; omega))
  have HB3 := Lib.hid (HBW.out.trans (hk.toBelow HBW.out.size (by intro k h1 h2; omega)))
  have hz3 := hk.size
  clear hs hk HSW HO0 HBW
  obtain ⟨N, rfl⟩ : ∃ N : Nat, r = N := ⟨r.toNat, by omega⟩
  go_wp2_with fail
  go_loopw [4, 5] (fun ov nn wr => ∃ (j k : Nat) (rows : List RowCL) (a : Option Addr) (cap : Nat), nn = .int .i64 j ∧ ov = .slice a k cap ∧ k ≤ 4 ∧ Hid (k + j = N) ∧ (j : Int) ≤ 4 ∧ Hid (rows.length = k) ∧ Hid (∀ r ∈ rows, caseB r.d = true) ∧ Hid (wr.ownsRow w1.heap.size 33 4 (.slice a k cap) k (rows.flatMap cellsCL)) ∧ Hid (∀ g, (Value.slice a k cap).ownBlock = some g → g < wr.heap.size ∧ ∀ (i : Nat) (r : RowCL), rows[i]? = some r → ¬ (r.l ≤ g ∧ g < r.h)) ∧ Hid (OwnECL w1.heap.size wr.heap.size wr rows) ∧ Hid (SrcAt wr w.heap.size v (2 + 1000 * k)) ∧ Hid (Below w.heap.size w wr) ∧ w1.heap.size ≤ wr.heap.size) (fun _ nn _ => (intOf nn).toNat)
  case atStart => exact ⟨N, 0, [], _, 0, rfl, rfl, by omega, Lib.hid (by omega), by omega, rfl, (by intro r hr; cases hr), HO3, Lib.hid (fun g hg => ⟨(HO3.out.lt g hg).2, by intro i r h; simp at h⟩), ⟨by intro i r h; simp at h, by intro i j r s _ h; simp at h⟩, HS3, HB3, by omega⟩
  case round =>
    obtain ⟨j, k, rows, a, cap, rfl, rfl, hk, HJ, hj4, HLEN, HV, HO, HBK, HE, HS, HB, hzr⟩ := hrel
    by_cases hj0 : 0 < j
    · have hj0I : (0 : Int) < (j : Int) := by omega
      go_wp2_with fail
      refine Calls.at fun W1 hW1 => ?_
      have HC1 := Lib.hid (show ∀ i s, drawNames[i]? = some s → W1.cell? ⟨wr.heap.size, i, none⟩ = some (.string s) by
        subst hW1
        intro i s hs
        have h1 : (wr.alloc (.cells #[.string ⟨#[97]⟩, .string ⟨#[106, 111, 98, 115]⟩, .string ⟨#[116, 111, 119, 110]⟩, .string ⟨#[122, 122]⟩] 9)).heap[wr.heap.size]? = some (.cells #[.string ⟨#[97]⟩, .string ⟨#[106, 111, 98, 115]⟩, .string ⟨#[116, 111, 119, 110]⟩, .string ⟨#[122, 122]⟩] 9) := heap_alloc_new wr _
        simp only [World.cell?, h1]
        match i, hs with
        | 0, hs => simp [drawNames] at hs; subst hs; rfl
        | 1, hs => simp [drawNames] at hs; subst hs; rfl
        | 2, hs => simp [drawNames] at hs; subst hs; rfl
        | 3, hs => simp [drawNames] at hs; subst hs; rfl
        | n + 4, hs => simp [drawNames] at hs)
      have hb1 : Below wr.heap.size wr W1 := by subst hW1; (repeat' first | exact Below.refl _ _ | assumption | refine Below.alloc ?_ ?_ _ | refine Below.setCell ?_ ?_ _ | refine Below.drew ?_ | (simp; done) | (simp; omega))
      have HBa := Lib.hid (HB.out.trans (hb1.mono HB.out.size))
      have HSa := Lib.hid (HS.out.below hb1 HS.out.lt)
      have Hb1 := Lib.hid hb1
      have hza := hb1.size
      clear hW1 hb1
      refine (text_any w v bs HR.out HW.out w.heap.size (2 + 1000 * k) W1 (Nat.le_refl _) HBa.out HSa.out (by omega) wr.heap.size drawNames (by decide) (by decide) (by omega) HC1.out).mono ?_
      rintro e w2 ⟨nm, hnm, rfl, hs, hk2⟩
      have HNM := Lib.hid (drawNames_ok nm hnm)
      have HS2 := Lib.hid hs
      have HK2 := Lib.hid ((Kept.of_below Hb1.out (Nat.le_refl _) : Kept (· = w.heap.size) wr W1).trans hk2)
      have HB2 := Lib.hid (HBa.out.trans (hk2.toBelow HBa.out.size (by intro j h1 h2; omega)))
      have hz2 := hk2.size
      clear hnm hs hk2 HC1 HBa HSa Hb1
      go_wp2_with fail
      refine (drawOk_any w v bs HR.out HW.out w.heap.size (2 + 1000 * k + 2) w2 (Nat.le_refl _) HB2.out HS2.out (by omega)).mono ?_
      rintro e w4 ⟨f, fv, hf, rfl, hof, hs, hk4⟩
      obtain ⟨a1, c1, rfl⟩ := hof.rd.shape
      have HFB := Lib.hid hf
      have HOF := Lib.hid hof
      have HS4 := Lib.hid hs
      have HK4 := Lib.hid (HK2.out.trans hk4)
      have HB4 := Lib.hid (HB2.out.trans (hk4.toBelow HB2.out.size (by intro j h1 h2; omega)))
      have hz4 := hk4.size
      obtain ⟨L, hL, hL1⟩ := form_letters hf
      clear hf hof hs hk4 HS2 HK2 HB2
      have HLL := Lib.hid hL
      have HL1 := Lib.hid hL1
      rw [hL]
      obtain ⟨n1, hn1⟩ : ∃ n, n = f.clauses.length := ⟨_, rfl⟩
      rw [← hn1]
      have HOF' := Lib.hid (show OwnFm w2.heap.size w4.heap.size w4 (.agg #[.int .i64 L, .slice a1 n1 c1]) f by rw [← hL, hn1]; exact HOF.out)
      clear HOF hL hL1 hn1
      go_upto_region 7 with fail
      refine wp_at fun W5 hW5 => ?_
      have HT5 := Lib.hid (show Blk W5 w4.heap.size 33 #[.string nm, .int .i64 L, .slice a1 n1 c1, .slice none 0 0] by
        subst hW5; first | exact Blk.new _ _ _ | simpa using ((((Blk.new w4 33 #[.string ⟨#[]⟩, .int .i64 0, .slice none 0 0, .slice none 0 0]).set 0 (.string nm)).set 1 (.int .i64 L)).set 2 (.slice a1 n1 c1)).set 3 (.slice none 0 0))
      have hb5 : Below w4.heap.size w4 W5 := by subst hW5; first | (repeat' first | exact Below.refl _ _ | assumption | refine Below.alloc ?_ ?_ _ | refine Below.setCell ?_ ?_ _ | refine Below.drew ?_ | (simp; done) | (simp; omega)) | (repeat' first | exact Below.refl _ _ | refine Below.setCell ?_ (by exact Nat.le_refl _) _ | refine Below.alloc ?_ (Nat.le_refl _) _)
      have HS5 := Lib.hid (HS4.out.below hb5 HS4.out.lt)
      have HB5 := Lib.hid (HB4.out.trans (hb5.mono HB4.out.size))
      have HK5 := Lib.hid (HK4.out.below hb5 (by omega))
      have HOF5 := Lib.hid (HOF'.out.up hb5 (Nat.le_refl _))
      have hz5 := hb5.size
      have hC5 := HT5.out.lt
      obtain ⟨C, hCe⟩ : ∃ C, C = w4.heap.size := ⟨_, rfl⟩
      rw [← hCe] at HT5 hC5 HOF5 ⊢
      have hCw : w2.heap.size ≤ C := by omega
      clear hW5 hb5 HS4 HB4 HK4 HOF' hCe
      go_wp2_with fail
      refine (pick_any w v bs HR.out HW.out w.heap.size (2 + 1000 * k + 2 + 500) W5 (Nat.le_refl _) HB5.out HS5.out (by omega) 4 (by omega) (by omega)).mono ?_
      rintro e w6 ⟨r2, hq0, hq1, rfl, hs, hk6⟩
      obtain ⟨M, rfl⟩ := Int.eq_ofNat_of_zero_le hq0
      have HS6 := Lib.hid hs
      have HT6 := Lib.hid (HT5.out.kept hk6 (by omega))
      have HB6 := Lib.hid (HB5.out.trans (hk6.toBelow HB5.out.size (by intro j h1 h2; omega)))
      have HK6 := Lib.hid (HK5.out.trans hk6)
      have HOF6 := Lib.hid (HOF5.out.kept hk6 (by rintro b h1 h2 rfl; omega))
      have hz6 := hk6.size
      clear hs hk6 hq0 HS5 HT5 HB5 HK5 HOF5
      obtain ⟨wo, rfl⟩ : ∃ wo : World, wo = wr := ⟨wr, rfl⟩
      go_wp2_with fail
      go_loopw [7] (fun nn wr => ∃ (i : Nat) (D : List (List Int)) (vs : List Value) (b : Option Addr) (cp : Nat), nn = .int .i64 i ∧ D.length + i = M ∧ Hid (∀ x ∈ D, clauseB L x = true) ∧ Hid (Blk wr C 33 #[.string nm, .int .i64 L, .slice a1 n1 c1, .slice b D.length cp]) ∧ Hid (wr.ownsRow w6.heap.size 65 1 (.slice b D.length cp) D.length vs) ∧ Hid (OwnEach w6.heap.size wr.heap.size wr vs D) ∧ Hid (SrcAt wr w.heap.size v (2 + 1000 * k + 504 + 40 * D.length)) ∧ Hid (Kept (fun b => b = w.heap.size ∨ b = C) w6 wr) ∧ w6.heap.size ≤ wr.heap.size) (fun nn _ => (intOf nn).toNat)
      case atStart => exact ⟨M, [], [], none, 0, rfl, by simp, (fun x hx => by cases hx), HT6, World.ownsRow_nil _ _ _ _, ⟨rfl, by intro i u zs h; simp at h, by intro i j u u' g _ h; simp at h⟩, HS6, Kept.refl _ _, Nat.le_refl _⟩
      case round =>
        obtain ⟨i, D, vs, b, cp, rfl, hDi, HVI, HT, HOI, HEI, HSr, HKI, hzi⟩ := hrel
        have HDI := Lib.hid hDi
        have hD3 : D.length ≤ 3 := by omega
        have hi3 : (i : Int) ≤ 3 := by omega
        clear hDi
        by_cases hi0 : 0 < i
        · have hi0I : (0 : Int) < (i : Int) := by omega
          have HBr := Lib.hid (HB6.out.trans (HKI.out.toBelow HB6.out.size (by intro j h1 h2; omega)))
          have d0 : wr.cell? ⟨C, 1, none⟩ = some (.int .i64 L) := HT.out.cell 1 rfl
          have d1 : wr.cell? ⟨C, 3, none⟩ = some (.slice b D.length cp) := HT.out.cell 3 rfl
          have HKEEP := Lib.hid (show ∀ X, Kept (· = w.heap.size) wr X → X.cell? ⟨C, 3, none⟩ = some (.slice b D.length cp) from fun X hk => (HT.out.kept hk (by omega)).cell 3 rfl)
          have HTK := Lib.hid (show ∀ X, Kept (· = w.heap.size) wr X → Blk X C 33 #[.string nm, .int .i64 L, .slice a1 n1 c1, .slice b D.length cp] from fun X hk => HT.out.kept hk (by omega))
          have HOK := Lib.hid (show ∀ X, Kept (· = w.heap.size) wr X → X.ownsRow w6.heap.size 65 1 (.slice b D.length cp) D.length vs from fun X hk => owns_kept HOI.out hk (by intro g hg e; have := (owns_lt HOI.out hg).1; omega))
          have hsb6 : w.heap.size < w6.heap.size := by omega
          go_wp2_with fail
          go_region_law (first
            | (go_simp; go_at_call 52; refine (drawClause_any w v bs HR.out HW.out w.heap.size (2 + 1000 * k + 504 + 40 * D.length) _ (Nat.le_refl _) (by first | exact HBr.out | exact HBr.out.drew) (by exact HSr.out) (by omega) L HL1.out 2 (by omega)).mono ?_; rintro e w8 ⟨d, a8, c8, hcl, rfl, ho8, hs8, hk8⟩; have hz8 := hk8.size; have hkq : Kept (· = w.heap.size) wr w8 := Kept.trans (by repeat' first | assumption | exact Kept.refl _ _ | refine Kept.alloc ?_ _ | refine Kept.drew ?_) hk8; have q8 := HKEEP.out w8 hkq; have q9 := HKEEP.out (w8.alloc (.cells #[.slice a8 d.length c8] 65)) (hkq.alloc _); have hzq := hkq.size; clear hk8)
            | (refine step_app_listL rfl (.tmp 30) (.tmp 36) (by rfl) w6.heap.size (.slice b D.length cp) D.length vs (by rfl) (HOK.out _ (by repeat' first | assumption | exact Kept.refl _ _ | refine Kept.alloc ?_ _ | refine Kept.drew ?_)) (.slice a8 d.length c8) _ (by rfl) (by rfl) (by first | exact slc_list _ _ _ (by simp) | exact slc_drew (slc_list _ _ _ (by simp))) (by omega) (by simp; omega) ?_; intro y2 e2 w9 hown9 hbl9 hg9 hl9; have HT9 := Lib.hid (blkI_grown (HTK.out _ (by repeat' first | assumption | exact Kept.refl _ _ | refine Kept.alloc ?_ _ | refine Kept.drew ?_)) hg9 ((HTK.out _ (by repeat' first | assumption | exact Kept.refl _ _ | refine Kept.alloc ?_ _ | refine Kept.drew ?_)).not_owned (HOK.out _ (by repeat' first | assumption | exact Kept.refl _ _ | refine Kept.alloc ?_ _ | refine Kept.drew ?_)) (by decide))); have q1 := HT9.out.cell 3 rfl; have q2 := HT9.out.free 3; have HX9 := Lib.hid (below_before2 (B := w8.heap.size) (a := w8) hbl9 (by (repeat' first | exact Below.refl _ _ | assumption | refine Below.alloc ?_ ?_ _ | refine Below.setCell ?_ ?_ _ | refine Below.drew ?_ | (simp; done) | (simp; omega)))))
            | fail)
          all_goals
            have HA := Lib.hid (show w8.ownsRow wr.heap.size 2 1 (.slice a8 d.length c8) d.length (d.map I64) from ho8)
            have HOA := Lib.hid (owns_below (HOK.out w8 hkq) HX9.out (Nat.le_refl _))
            have HEA := Lib.hid ((HEI.out.kept hkq (by intro b h1 h2 h3; omega)).up HX9.out (Nat.le_refl _))
            have HUA := Lib.hid ((OwnI.mk HA.out).up HX9.out (Nat.le_refl _))
            have HE9 := Lib.hid (OwnEach.snoc HOA.out HEA.out HUA.out (Nat.le_refl _) hzi (by simp) (by simp; omega) hg9)
            have HO9 := Lib.hid hown9
            have HS9 := Lib.hid ((hs8.below HX9.out hs8.lt).below hbl9 hsb6)
            have HK9 := Lib.hid (((HKI.out.trans (hkq.mono (fun _ _ h => .inl h))).below HX9.out (by omega)).below hbl9 (Nat.le_refl _))
            have HVN := Lib.hid (show ∀ x ∈ D ++ [d], clauseB L x = true from fun x hx => by
              rcases List.mem_append.1 hx with h | h
              · exact HVI.out x h
              · simp only [List.mem_singleton] at h; subst h; exact hcl)
            have hz9 := hbl9.size
            have hza : w8.heap.size ≤ (w8.alloc (.cells #[.slice a8 d.length c8] 65)).heap.size := by simp
            clear hkq hcl ho8 hs8 q8 q9 hown9 hbl9 hg9 hl9 q1 q2 d0 d1
            go_wp2_with fail
            go_roundw
            case rel =>
              have hkF : Kept (· = C) w9 (w9.setCell ⟨C, 3, none⟩ (.slice y2 (D.length + 1) e2)) := Kept.setCell (S := (· = C)) (p := ⟨C, 3, none⟩) (Kept.refl _ _) (.inr rfl) _
              have hwz : (w9.setCell ⟨C, 3, none⟩ (.slice y2 (D.length + 1) e2)).heap.size = w9.heap.size := by simp [World.setCell]
              have hlen : (D ++ [d]).length = D.length + 1 := by simp
              have hnb := HT9.out.not_owned HO9.out (by decide)
              refine ⟨i - 1, D ++ [d], vs ++ [.slice a8 d.length c8], y2, e2, congrArg (Value.int IntKind.i64) (by omega), by have := HDI.out; rw [hlen]; omega, HVN, Lib.hid ?_, Lib.hid ?_, Lib.hid ?_, Lib.hid ?_, Lib.hid ?_, ?_⟩
              · rw [hlen]; simpa using HT9.out.set 3 (.slice y2 (D.length + 1) e2)
              · rw [hlen]; exact ownsRow_setCell_other HO9.out hnb _
              · rw [hwz]; exact HE9.out.kept hkF (by intro b h1 h2 h3; omega)
              · rw [hlen]; exact (HS9.out.kept hkF (by omega)).mono (by omega)
              · exact HK9.out.setCell (.inr (.inr rfl)) _
              · rw [hwz]; omega
            case measure => simp [intOf]; omega
        · obtain rfl : i = 0 := by omega
          have HKW := Lib.hid (show Kept (fun b => b = w.heap.size ∨ b = C) wo wr from ((HK6.out.mono (fun _ _ h => .inl h)).trans HKI.out))
          have y0 : wr.cell? ⟨C, 0, none⟩ = some (.string nm) := HT.out.cell 0 rfl
          have y1 : wr.cell? ⟨C, 1, none⟩ = some (.int .i64 L) := HT.out.cell 1 rfl
          have y2 : wr.cell? ⟨C, 2, none⟩ = some (.slice a1 n1 c1) := HT.out.cell 2 rfl
          have y3 : wr.cell? ⟨C, 3, none⟩ = some (.slice b D.length cp) := HT.out.cell 3 rfl
          have HO2 := Lib.hid (ownsK_kept HO.out HKW.out (by rintro g hg (h | h) <;> (have := HO.out.lt g hg; omega)))
          have HE2 := Lib.hid (HE.out.kept HKW.out (by intro i r hr b h1 h2 h; have := HE.out.1 i r hr; omega))
          have HOL := Lib.hid (show OwnL w6.heap.size wr.heap.size wr (.slice b D.length cp) D from ⟨vs, HOI.out, fun g hg => (owns_lt HOI.out hg).2, HEI.out⟩)
          have HFM := Lib.hid (HOF6.out.kept HKI.out (by rintro b h1 h2 (h | h) <;> omega))
          have HCS := Lib.hid (show OwnCs wo.heap.size wr.heap.size wr (aggCL ⟨⟨nm, f, D⟩, .slice a1 n1 c1, .slice b D.length cp, wo.heap.size, wr.heap.size⟩) ⟨nm, f, D⟩ by
            refine ⟨.slice a1 n1 c1, .slice b D.length cp, w2.heap.size, C, w6.heap.size, wr.heap.size, rfl, ?_, HOL.out, ?_, by omega, hCw, by omega, hzi, Nat.le_refl _, Nat.le_refl _⟩
            · simp only [HLL.out]
              exact HFM.out
            · have := (case_parts (caseB_mk HNM.out HFB.out (show D.length ≤ 128 by omega) (by rw [HLL.out]; exact HVI.out))).1
              show nm.size ≤ maxLen
              have h8 : nm.size ≤ 8 := this
              unfold maxLen
              omega)
          have HCB := Lib.hid (caseB_mk HNM.out HFB.out (show D.length ≤ 128 by omega) (by rw [HLL.out]; exact HVI.out))
          have HSS := Lib.hid (HSr.out.mono (show 2 + 1000 * k + 504 + 40 * D.length ≤ 2 + 1000 * (k + 1) by omega))
          have HBB := Lib.hid (HB6.out.trans (HKI.out.toBelow HB6.out.size (by intro j h1 h2; omega)))
          have hcells : cellsCL ⟨⟨nm, f, D⟩, .slice a1 n1 c1, .slice b D.length cp, wo.heap.size, wr.heap.size⟩ = [.string nm, .int .i64 L, .slice a1 n1 c1, .slice b D.length cp] := by simp only [cellsCL, HLL.out]
          have HCE := Lib.hid hcells
          have hzz : wo.heap.size ≤ wr.heap.size := by omega
          clear hcells HO HE HSr HFM HOL HKI HOI HEI HVI HT HFB HNM HK6 HOF6 HB6 HS6 HT6
          go_wp2_with (at_builtin; refine app_CL rfl _ _ rfl w1.heap.size (.slice a k cap) k rows rfl HO2.out ⟨⟨nm, f, D⟩, .slice a1 n1 c1, .slice b D.length cp, wo.heap.size, wr.heap.size⟩ _ (by rw [HCE.out]) _ rfl rfl rfl rfl (k + 1) rfl (by omega) (by omega) ?_; intro a' cap' w4' hown4 hbl4 hkp4 hz4' hat4)
          go_roundw
          case rel =>
            refine ⟨j - 1, k + 1, rows ++ [⟨⟨nm, f, D⟩, .slice a1 n1 c1, .slice b D.length cp, wo.heap.size, wr.heap.size⟩], a', cap', congrArg (Value.int IntKind.i64) (by omega), rfl, by have := HJ.out; omega, Lib.hid (by have := HJ.out; omega), by omega, Lib.hid (by rw [List.length_append, HLEN.out]; rfl), Lib.hid ?_, Lib.hid hown4, Lib.hid ?_, Lib.hid ?_, Lib.hid (HSS.out.below hbl4 hz1), Lib.hid (HBB.out.trans (hbl4.mono (by omega))), by omega⟩
            · intro r hr
              rcases List.mem_append.1 hr with h | h
              · exact HV.out r h
              · simp only [List.mem_singleton] at h; subst h; exact HCB.out
            · intro g hg
              have hg4 := (hown4.lt g hg).2
              refine ⟨hg4, fun i r hr ⟨q1, q2⟩ => ?_⟩
              by_cases hi : i < rows.length
              · rw [List.getElem?_append_left hi] at hr
                rcases hat4 with h | h
                · exact (HBK.out g (by rw [← h]; exact hg)).2 i r hr ⟨q1, q2⟩
                · rw [h] at hg
                  cases hg
                  have := (HE2.out.1 i r hr).2.2
                  omega
              · have hil := (List.getElem?_eq_some_iff.1 hr).1
                rw [List.length_append, List.length_singleton] at hil
                rw [List.getElem?_append_right (by omega), show i - rows.length = 0 by omega] at hr
                simp only [List.getElem?_cons_zero, Option.some.injEq] at hr
                subst hr
                simp only at q1 q2
                rcases hat4 with h | h
                · have := (HBK.out g (by rw [← h]; exact hg)).1
                  omega
                · rw [h] at hg
                  cases hg
                  omega
            · refine OwnECL.snoc (hi := wo.heap.size) (HE2.out.kept hkp4 ?_) (HCS.out.kept hkp4 ?_) (Nat.le_refl _) hzr (by show wr.heap.size ≤ _; omega) (by omega)
              · intro i r hr b q1 q2 hb'
                exact (HBK.out b hb').2 i r hr ⟨q1, q2⟩
              · intro b q1 q2 hb'
                have := (HBK.out b hb').1
                omega
          case measure => simp [intOf]; omega
    · obtain rfl : j = 0 := by omega
      have HFIN := Lib.hid (show ∃ (ds : List CaseD) (v' : Value), ((∀ d ∈ ds, caseB d = true) ∧ ds.length ≤ 4) ∧ Ending.returned (.slice a k cap) = .returned v' ∧ OwnCL w.heap.size wr.heap.size wr v' ds ∧ Below w.heap.size w wr from by
        have hlen : (rows.map (·.d)).length = k := by rw [List.length_map]; exact HLEN.out
        refine ⟨rows.map (·.d), _, ⟨fun d hd => ?_, by rw [hlen]; exact hk⟩, rfl, ⟨rows, rfl, ?_, HBK.out, HE.out.wide (by omega) (Nat.le_refl _)⟩, HB.out⟩
        · obtain ⟨r, hr, rfl⟩ := List.mem_map.1 hd
          exact HV.out r hr
        · rw [hlen]; exact ownsK_base HO.out (by omega))
      go_wp2_with fail
      go_ret
      exact HFIN.out

end Go.Proofs.Ytkkcgclliomocaa

namespace Go.Proofs.Ytkkcgclliomocaa
open Go.RowKit

set_option maxHeartbeats 400000 in
theorem slicesEqual_any (a1 a2 : Option Addr) (n1 n2 c1 c2 : Nat) (xs ys : List Int) (w : World) (h1 : xs.length = n1) (h2 : ys.length = n2) (s1 : Slc w (.slice a1 n1 c1) (xs.map I64)) (s2 : Slc w (.slice a2 n2 c2) (ys.map I64)) :
    Calls Try.prog 111 #[.slice a1 n1 c1, .slice a2 n2 c2] w fun e w' => e = .returned (.bool (decide (xs = ys))) ∧ ∃ n, w' = w.drewN n := by
  subst h1 h2
  have hm := s1.len
  simp only [List.length_map, maxLen] at hm
  have H1 := Lib.hid s1
  have H2 := Lib.hid s2
  clear s1 s2
  by_cases hl : xs.length = ys.length
  · have hne : ((xs.length : Int) != (ys.length : Int)) = false := by simp [hl]
    have HL := Lib.hid hl
    clear hl
    go_enter Try.func111, Try.ntmps111
    go_wp2_with fail
    go_loopw [13] (fun i wr => ∃ k : Nat, i = .int .i64 k ∧ k ≤ xs.length ∧ Hid (xs.take k = ys.take k) ∧ ∃ n, wr = w.drewN n) (fun i _ => xs.length - (intOf i).toNat)
    case atStart => exact ⟨0, rfl, Nat.zero_le _, rfl, 0, rfl⟩
    case round =>
      obtain ⟨k, rfl, hk, heq, n, rfl⟩ := hrel
      by_cases hlt : k < xs.length
      · have hlt2 : k < ys.length := by have := HL.out; omega
        obtain ⟨b, off, rfl, hb, hc⟩ := H1.out.at (i := k) (u := .int .i64 (xs.getD k 0)) (by simp [I64, hlt])
        obtain ⟨b', off', rfl, hb', hc'⟩ := H2.out.at (i := k) (u := .int .i64 (ys.getD k 0)) (by simp [I64, hlt2])
        obtain ⟨x, hx⟩ : ∃ x, x = xs.getD k 0 := ⟨_, rfl⟩
        obtain ⟨y, hy⟩ : ∃ y, y = ys.getD k 0 := ⟨_, rfl⟩
        rw [← hx] at hc
        rw [← hy] at hc'
        have HX := Lib.hid hx
        have HY := Lib.hid hy
        clear hx hy
        by_cases hxy : x = y
        · subst hxy
          have hb0 : (x != x) = false := by simp
          have hlt2' : (k : Int) < ys.length := by omega
          go_wp2_with fail
          go_quiet (fail)
          go_wp2_with fail
          go_roundw
          case rel => exact ⟨k + 1, by go_num, by omega, take_eq_succ hlt hlt2 heq (by rw [← HX.out, ← HY.out]), _, rfl⟩
          case measure => simp [intOf]; omega
        · have hb0 : (x != y) = true := by simp [hxy]
          have hlt2' : (k : Int) < ys.length := by omega
          go_wp2_with fail
          go_quiet (fail)
          go_wp2_with fail
          go_ret
          refine ⟨?_, by first | exact ⟨_, rfl⟩ | exact ⟨_, World.drewN_drewN _ _ _⟩⟩
          have : xs ≠ ys := take_ne hlt hlt2 (by rw [← HX.out, ← HY.out]; exact hxy)
          simp [this]
      · obtain rfl : k = xs.length := by omega
        go_wp2_with fail
        go_ret
        refine ⟨?_, _, rfl⟩
        have he := heq.out
        rw [List.take_length, HL.out, List.take_length] at he
        simp [he]
  · have hne : ((xs.length : Int) != (ys.length : Int)) = true := by simp; omega
    have hn : xs ≠ ys := fun e => hl (by rw [e])
    go_enter Try.func111, Try.ntmps111
    go_wp2_with fail
    go_ret
    exact ⟨by simp [hn], 0, rfl⟩


end Go.Proofs.Ytkkcgclliomocaa

namespace Go.Proofs.Ytkkcgclliomocaa
open Go.RowKit

theorem gtake_ne {α : Type} {d : α} {xs ys : List α} {k : Nat} (h : xs.getD k d ≠ ys.getD k d) : xs ≠ ys := by
  rintro rfl; exact h rfl
theorem gtake_succ {α : Type} {d : α} {xs ys : List α} {k : Nat} (hx : k < xs.length) (hy : k < ys.length) (h : xs.take k = ys.take k) (h2 : xs.getD k d = ys.getD k d) : xs.take (k + 1) = ys.take (k + 1) := by
  rw [List.take_succ_eq_append_getElem hx, List.take_succ_eq_append_getElem hy, h]
  simp [hx, hy] at h2
  rw [h2]

theorem slicesEqual_rd (v v' : Value) (xs ys : List Int) (w : World) (h : RdI w v xs) (h' : RdI w v' ys) :
    Calls Try.prog 111 #[v, v'] w fun e w' => e = .returned (.bool (decide (xs = ys))) ∧ ∃ n, w' = w.drewN n := by
  obtain ⟨a, c, rfl⟩ := h.shape
  obtain ⟨a', c', rfl⟩ := h'.shape
  exact slicesEqual_any _ _ _ _ _ _ xs ys w rfl rfl h h'
theorem RdL.drewN {w : World} {v : Value} {zss : List (List Int)} (h : RdL w v zss) (n : Nat) : RdL (w.drewN n) v zss := by
  obtain ⟨vs, h1, h2⟩ := h
  exact ⟨vs, h1.drewN n, h2.1, fun i u zs a b => (h2.2 i u zs a b).drewN n⟩

set_option maxHeartbeats 1000000 in
theorem equalFuncL_any (v v' : Value) (xs ys : List (List Int)) (w : World) (h : RdL w v xs) (h' : RdL w v' ys) :
    Calls Try.prog 61 #[v, v'] w fun e w' => e = .returned (.bool (decide (xs = ys))) ∧ ∃ n, w' = w.drewN n := by
  obtain ⟨a, c, rfl⟩ := h.shape
  obtain ⟨a', c', rfl⟩ := h'.shape
  have hm := h.len
  simp only [maxLen] at hm
  have H1 := Lib.hid h
  have H2 := Lib.hid h'
  clear h h'
  by_cases hl : xs.length = ys.length
  · have hne : ((xs.length : Int) != (ys.length : Int)) = false := by simp [hl]
    have HL := Lib.hid hl
    clear hl
    go_enter Try.func61, Try.ntmps61
    go_wp2_with go_in
    go_loopw [17] (fun i wr => ∃ k : Nat, i = .int .i64 k ∧ k ≤ xs.length ∧ Hid (xs.take k = ys.take k) ∧ ∃ n, wr = w.drewN n) (fun i _ => xs.length - (intOf i).toNat)
    case atStart => exact ⟨0, rfl, Nat.zero_le _, rfl, 0, rfl⟩
    case round =>
      obtain ⟨k, rfl, hk, heq, n, rfl⟩ := hrel
      by_cases hlt : k < xs.length
      · have hlt2 : k < ys.length := by have := HL.out; omega
        obtain ⟨b, off, u, rfl, hb, hc, hu⟩ := H1.out.at hlt
        obtain ⟨b', off', u', rfl, hb', hc', hu'⟩ := H2.out.at hlt2
        have HX := Lib.hid (slicesEqual_rd u u' _ _ (w.drewN n) (hu.drewN n) (hu'.drewN n))
        have hlt2' : (k : Int) < ys.length := by omega
        by_cases hxy : xs.getD k [] = ys.getD k []
        · rw [show decide (xs.getD k [] = ys.getD k []) = true from decide_eq_true hxy] at HX
          have HXY := Lib.hid hxy
          clear hu hu' hxy
          go_wp2_with fail
          refine HX.out.mono ?_
          rintro e w1 ⟨rfl, m, rfl⟩
          go_wp2_with fail
          go_roundw
          case rel => exact ⟨k + 1, by go_num, by omega, gtake_succ hlt hlt2 heq HXY.out, _, rfl⟩
          case measure => simp [intOf]; omega
        · rw [show decide (xs.getD k [] = ys.getD k []) = false from decide_eq_false hxy] at HX
          have HXY := Lib.hid hxy
          clear hu hu' hxy
          go_wp2_with fail
          refine HX.out.mono ?_
          rintro e w1 ⟨rfl, m, rfl⟩
          go_wp2_with fail
          go_ret
          exact ⟨by simp [gtake_ne HXY.out], _, rfl⟩
      · obtain rfl : k = xs.length := by omega
        go_wp2_with fail
        go_ret
        refine ⟨?_, _, rfl⟩
        have he := heq.out
        rw [List.take_length, HL.out, List.take_length] at he
        simp [he]
  · have hne : ((xs.length : Int) != (ys.length : Int)) = true := by simp; omega
    have hn : xs ≠ ys := fun e => hl (by rw [e])
    go_enter Try.func61, Try.ntmps61
    go_wp2_with go_in
    go_ret
    exact ⟨by simp [hn], 0, rfl⟩

set_option maxHeartbeats 1000000 in
theorem implSameForm_any (v v' : Value) (x y : FormD) (w : World) (h : RdFm w v x) (h' : RdFm w v' y) :
    Calls Try.prog 60 #[v, v'] w fun e w' => e = .returned (.bool (decide (x.letters = y.letters) && decide (x.clauses = y.clauses))) ∧ Below w.heap.size w w' := by
  obtain ⟨a, c, rfl⟩ := h.shape
  obtain ⟨a', c', rfl⟩ := h'.shape
  have p := h.parts
  have p' := h'.parts
  obtain ⟨n1, xs⟩ := x
  obtain ⟨n2, ys⟩ := y
  simp only at p p' ⊢
  have H1 := Lib.hid p
  have H2 := Lib.hid p'
  clear h h' p p'
  by_cases hn : n1 = n2
  · subst hn
    have hb0 : (n1 == n1) = true := by simp
    go_enter Try.func60, Try.ntmps60
    go_wp2_with fail
    refine Calls.at fun W hW => ?_
    have HB := Lib.hid (show Below w.heap.size w W by subst hW; (repeat' first | exact Below.refl _ _ | assumption | refine Below.alloc ?_ ?_ _ | refine Below.setCell ?_ ?_ _ | refine Below.drew ?_ | (simp; done) | (simp; omega)))
    clear hW
    refine (equalFuncL_any _ _ xs ys W (H1.out.up HB.out (Nat.le_refl _)) (H2.out.up HB.out (Nat.le_refl _))).mono ?_
    rintro e w1 ⟨rfl, m, rfl⟩
    obtain ⟨bb, hbb⟩ : ∃ bb, bb = decide (xs = ys) := ⟨_, rfl⟩
    rw [← hbb]
    have HBB := Lib.hid hbb
    clear hbb
    go_wp2_with fail
    go_ret
    exact ⟨by rw [← HBB.out]; simp, below_drewN HB.out _⟩
  · have hb0 : (n1 == n2) = false := by simp [hn]
    have hxd := Lib.hid (show decide (n1 = n2) = false from decide_eq_false hn)
    clear hn
    go_enter Try.func60, Try.ntmps60
    go_wp2_with fail
    go_ret
    refine ⟨by rw [hxd.out]; simp, ?_⟩
    (repeat' first | exact Below.refl _ _ | assumption | refine Below.alloc ?_ ?_ _ | refine Below.setCell ?_ ?_ _ | refine Below.drew ?_ | (simp; done) | (simp; omega))

end Go.Proofs.Ytkkcgclliomocaa
