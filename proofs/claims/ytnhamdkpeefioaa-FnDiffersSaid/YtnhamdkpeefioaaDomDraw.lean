/-
  Drawn domains are valid.
-/
import Derived.Test.YtnhamdkpeefioaaSrc
import Derived.Test.YtnhamdkpeefioaaAppLL
import Derived.Test.YtnhamdkpeefioaaDom
import Derived.Deep.CutRange
namespace Go.Proofs.Ytnhamdkpeefioaa
open Go.RowKit

/-- A draw of yes or no. -/
def YesE (sb : Nat) (v : Value) (c : Nat) (w : World) (e : Ending) (w' : World) : Prop :=
  ∃ b : Bool, e = .returned (.bool b) ∧ SrcAt w' sb v c ∧ Kept (· = sb) w w'

set_option maxHeartbeats 400000 in
theorem one_any (W0 : World) (v : Value) (xs : List Int) (hR : RdB W0 v xs) (hw : WfB xs) (sb c : Nat) (w : World) (hsb : W0.heap.size ≤ sb) (hb : Below W0.heap.size W0 w) (h : SrcAt w sb v c) (hc : c ≤ 999990) (n : Int) (h1 : 1 ≤ n) (h2 : n ≤ 65536) :
    Calls Try.prog 82 #[.pointer (some ⟨sb, 0, none⟩), .int .i64 n] w (YesE sb v (c + 2) w) := by
  have H := Lib.hid (pick_any W0 v xs hR hw sb c w hsb hb h hc n h1 h2)
  clear hR hw hb h
  go_enter Try.func82, Try.ntmps82
  go_wp2_with fail
  refine H.out.mono ?_
  rintro e w1 ⟨x, hx0, hx1, rfl, hs, hk⟩
  have HS := Lib.hid hs
  have HK := Lib.hid hk
  clear hs hk H
  go_wp2_with fail
  go_ret
  exact ⟨_, rfl, HS.out, HK.out⟩

theorem OwnEach.kept {lo hi : Nat} {w w' : World} {vs : List Value} {zss : List (List Int)} {S : Nat → Prop} (h : OwnEach lo hi w vs zss) (hk : Kept S w w') (hs : ∀ b, lo ≤ b → b < hi → ¬ S b) : OwnEach lo hi w' vs zss :=
  ⟨h.1, fun i u zs a b => (h.2.1 i u zs a b).kept hk hs, h.2.2⟩

theorem keptAbove {B : Nat} {w w' : World} (h : Below B w w') : Kept (fun b => B ≤ b) w w' := ⟨h.os, h.tape, h.output, h.size, fun k _ hs => h.block k (by omega)⟩

/-- The numbers of a domain so far. -/
def UpTo (d : List Int) (k : Nat) : Prop := d.length ≤ k ∧ ∀ i, i < d.length → 0 ≤ d.getD i 0 ∧ d.getD i 0 < k ∧ (0 < i → d.getD (i - 1) 0 < d.getD i 0)
theorem UpTo.nil : UpTo [] 0 := ⟨Nat.le_refl _, by intro i hi; simp at hi⟩
theorem UpTo.skip {d : List Int} {k : Nat} (h : UpTo d k) : UpTo d (k + 1) := ⟨by have := h.1; omega, fun i hi => by have := h.2 i hi; omega⟩
theorem UpTo.snoc {d : List Int} {k : Nat} (h : UpTo d k) : UpTo (d ++ [(k : Int)]) (k + 1) := by
  refine ⟨by have := h.1; simp; omega, fun i hi => ?_⟩
  simp only [List.length_append, List.length_singleton] at hi
  have gl : ∀ j, j < d.length → (d ++ [(k : Int)]).getD j 0 = d.getD j 0 := fun j hj => by simp [List.getElem?_append_left hj]
  by_cases he : i = d.length
  · subst he
    have e : (d ++ [(k : Int)]).getD d.length 0 = k := by simp
    rw [e]
    refine ⟨by omega, by omega, fun h0 => ?_⟩
    rw [gl _ (by omega)]
    have := h.2 (d.length - 1) (by omega)
    omega
  · rw [gl i (by omega)]
    have := h.2 i (by omega)
    refine ⟨this.1, by omega, fun h0 => ?_⟩
    rw [gl _ (by omega)]
    exact this.2.2 h0
theorem UpTo.val {d : List Int} {k : Nat} (h : UpTo d k) (h1 : 1 ≤ d.length) (hk : k ≤ 6) : ValDom d :=
  ⟨h1, by have := h.1; omega, fun i hi => by
    have := h.2 i hi
    exact ⟨inB_true (by omega), this.2.2⟩⟩
theorem val_one {x : Int} (h : 0 ≤ x ∧ x < 6) : ValDom [x] := by
  refine ⟨by simp, by simp, fun i hi => ?_⟩
  simp at hi
  subst hi
  exact ⟨inB_true (by simp; omega), fun h => by omega⟩
/-- The domains so far. -/
def ValSome (D : List (List Int)) : Prop := ∀ i, i < D.length → ValDom (D.getD i [])
theorem ValSome.snoc {D : List (List Int)} {d : List Int} (h : ValSome D) (hd : ValDom d) : ValSome (D ++ [d]) := by
  intro i hi
  simp only [List.length_append, List.length_singleton] at hi
  by_cases he : i = D.length
  · subst he; simpa using hd
  · have hl : i < D.length := by omega
    have := h i hl
    simpa [List.getElem?_append_left hl] using this

set_option maxHeartbeats 4000000 in
set_option maxRecDepth 4000 in
theorem B10Domains_any (v : Value) (bs : List Int) (w : World) (hR : RdB w v bs) (hw : WfB bs) :
    Calls Try.prog 22 #[v] w fun e w' => ∃ (D : List (List Int)) (v' : Value), ValD D ∧ e = .returned v' ∧ OwnL w.heap.size w'.heap.size w' v' D ∧ Below w.heap.size w w' := by
  have HR := Lib.hid hR
  have HW := Lib.hid hw
  have HF := Lib.hid (l00From_any v bs w hR)
  clear hR hw
  go_enter Try.func22, Try.ntmps22
  go_wp2_with fail
  refine HF.out.mono ?_
  rintro e w1 ⟨rfl, hs, hb1⟩
  have HS1 := Lib.hid hs
  have HB1 := Lib.hid hb1
  have hz1 := hs.lt
  clear hs hb1 HF
  go_wp2_with fail
  refine Calls.at fun W hW => ?_
  have HO0 := Lib.hid (show W.ownsRow w1.heap.size 32 1 (.slice (some ⟨w1.heap.size, 0, none⟩) 0 0) 0 [] by subst hW; exact World.ownsRow_lit (base := w1.heap.size) (e := 32) (size := 1) w1 #[] 0 (Nat.le_refl _) (by simp [maxLen]) rfl)
  have hbW : Below w1.heap.size w1 W := by subst hW; (repeat' first | exact Below.refl _ _ | assumption | refine Below.alloc ?_ ?_ _ | refine Below.setCell ?_ ?_ _ | refine Below.drew ?_ | (simp; done) | (simp; omega))
  have HBW := Lib.hid (HB1.out.trans (hbW.mono HB1.out.size))
  have HSW := Lib.hid (HS1.out.below hbW hz1)
  have hzW := hbW.size
  clear hW hbW HS1 HB1
  refine (pick_any w v bs HR.out HW.out w.heap.size 0 W (Nat.le_refl _) HBW.out HSW.out (by omega) 5 (by omega) (by omega)).mono ?_
  rintro e w3 ⟨r, hr0, hr1, rfl, hs, hk⟩
  have HS3 := Lib.hid hs
  have HO3 := Lib.hid (owns_kept HO0.out hk (by intro g hg e; have := (owns_lt HO0.out hg).1; omega))
  have HB3 := Lib.hid (HBW.out.trans (hk.toBelow HBW.out.size (by intro k h1 h2; omega)))
  have hz3 := hk.size
  clear hs hk HSW HO0 HBW
  obtain ⟨N, rfl⟩ : ∃ N : Nat, r = N := ⟨r.toNat, by omega⟩
  go_wp2_with fail
  go_loopw [4, 5] (fun ov nn wr => ∃ (j : Nat) (D : List (List Int)) (vs : List Value) (oa : Option Addr) (oc : Nat), nn = .int .i64 j ∧ D.length + j = 1 + N ∧ ov = .slice oa D.length oc ∧ wr.ownsRow w1.heap.size 32 1 (.slice oa D.length oc) D.length vs ∧ OwnEach w1.heap.size wr.heap.size wr vs D ∧ Hid (ValSome D) ∧ SrcAt wr w.heap.size v (14 * D.length + 2) ∧ Below w.heap.size w wr ∧ w1.heap.size ≤ wr.heap.size) (fun _ nn _ => (intOf nn).toNat)
  case atStart => exact ⟨1 + N, [], [], _, 0, by go_num, by simp, rfl, HO3.out, ⟨rfl, by intro i u zs h; simp at h, by intro i j u u' g _ h; simp at h⟩, (fun i hi => by simp at hi), HS3.out, HB3.out, by omega⟩
  case round =>
    obtain ⟨j, D, vs, oa, oc, rfl, hDj, rfl, hown, heach, hval, hsrc, hbl, hz4⟩ := hrel
    have HO := Lib.hid hown
    have HE := Lib.hid heach
    have HS := Lib.hid hsrc
    have HB := Lib.hid hbl
    have HDJ := Lib.hid hDj
    have hD6 : D.length ≤ 5 := by omega
    have hj5 : (j : Int) ≤ 5 := by omega
    clear hown heach hsrc hbl hDj
    by_cases hj0 : 0 < j
    · obtain ⟨wo, rfl⟩ : ∃ wo : World, wo = wr := ⟨_, rfl⟩
      go_wp2_with fail
      go_loopw [6, 7] (fun dv xx wi => ∃ (k : Nat) (d : List Int) (b : Option Addr) (cap : Nat), xx = .int .i64 k ∧ k ≤ 6 ∧ dv = .slice b d.length cap ∧ Hid (UpTo d k) ∧ wi.ownsRow wo.heap.size 2 1 (.slice b d.length cap) d.length (d.map I64) ∧ SrcAt wi w.heap.size v (14 * D.length + 2 + 2 * k) ∧ Kept (· = w.heap.size) wo wi) (fun _ xx _ => 6 - (intOf xx).toNat)
      case atStart => exact ⟨0, [], _, 0, rfl, by omega, rfl, UpTo.nil, owns_empty wo, HS.out.below ((Below.refl _ _).alloc (Nat.le_refl _) _) HS.out.lt, (Kept.refl _ _).alloc _⟩
      case round =>
        obtain ⟨k, d, b, cap, rfl, hk, rfl, hup, hown, hsrc, hkp⟩ := hrel
        have HOI := Lib.hid hown
        have HSI := Lib.hid hsrc
        have HKI := Lib.hid hkp
        have hki := hkp.size
        have hdk := hup.out.1
        clear hown hsrc hkp
        have hbi := HB.out.trans (HKI.out.toBelow HB.out.size (by intro k h1 h2; omega))
        have HBI := Lib.hid hbi
        clear hbi
        by_cases hk6 : k < 6
        · go_wp2_with fail
          refine (one_any w v bs HR.out HW.out w.heap.size (14 * D.length + 2 + 2 * k) wr (Nat.le_refl _) HBI.out HSI.out (by omega) 2 (by omega) (by omega)).mono ?_
          rintro e w5 ⟨y, rfl, hs, hk5⟩
          have HS5 := Lib.hid hs
          have HO5 := Lib.hid (owns_kept HOI.out hk5 (by intro g hg e; have := (owns_lt HOI.out hg).1; have := HB.out.size; have := HS.out.lt; omega))
          have HK5 := Lib.hid (HKI.out.trans hk5)
          have hz5 := hk5.size
          clear hs hk5
          cases y
          case false =>
            go_wp2_with fail
            go_roundw
            case rel => exact ⟨k + 1, d, b, cap, by go_num, by omega, rfl, hup.out.skip, HO5.out, HS5.out.mono (by omega), HK5.out⟩
            case measure => simp [intOf]; omega
          case true =>
            go_wp2_with (at_builtin; refine app_ints rfl _ _ rfl wo.heap.size (.slice b d.length cap) d.length d rfl (HO5.out.alloc _) _ [(k : Int)] rfl (slc_one _ _) (d.length + 1) (d ++ [(k : Int)]) (by simp) rfl (by omega) (by simp; omega) ?_; intro b2 cap2 w6 hown2 hbl2 _ _)
            go_roundw
            case rel =>
              have hal : Below w5.heap.size w5 (w5.alloc (.cells #[.int .i64 k] 2)) := (Below.refl _ _).alloc (Nat.le_refl _) _
              have hb6 : Below wo.heap.size w5 w6 := (hal.mono (by omega)).trans hbl2
              exact ⟨k + 1, d ++ [(k : Int)], b2, cap2, by go_num, by omega, by simp, hup.out.snoc, by simpa using hown2, (HS5.out.below hb6 HS.out.lt).mono (by omega), HK5.out.below hb6 (Nat.le_refl _)⟩
            case measure => simp [intOf]; omega
        · obtain rfl : k = 6 := by omega
          have HOk := Lib.hid (owns_kept HO.out HKI.out (by intro g hg e; have := (owns_lt HO.out hg).1; omega))
          have HEk := Lib.hid (HE.out.kept HKI.out (by intro b h1 h2 h3; omega))
          by_cases hd0 : d.length = 0
          · have t0 : ((d.length : Int) == 0) = true := by simp [hd0]
            have hdn : d = [] := List.length_eq_zero_iff.1 hd0
            have HDN := Lib.hid hdn
            have HO0 := Lib.hid (show wr.ownsRow wo.heap.size 2 1 (.slice b d.length cap) d.length (d.map I64) from HOI.out)
            clear hd0 hdn
            go_wp2_with fail
            refine (pick_any w v bs HR.out HW.out w.heap.size (14 * D.length + 2 + 2 * 6) wr (Nat.le_refl _) HBI.out HSI.out (by omega) 6 (by omega) (by omega)).mono ?_
            rintro e w5 ⟨x, hx0, hx1, rfl, hs, hk5⟩
            have HS5 := Lib.hid hs
            have HO5 := Lib.hid (owns_kept HOI.out hk5 (by intro g hg e; have := (owns_lt HOI.out hg).1; have := HB.out.size; have := HS.out.lt; omega))
            have HK5 := Lib.hid (HKI.out.trans hk5)
            have HOv := Lib.hid (owns_kept HOk.out hk5 (by intro g hg e; have := (owns_lt HOk.out hg).1; omega))
            have HEv := Lib.hid (HEk.out.kept hk5 (by intro b h1 h2 h3; omega))
            have hz5 := hk5.size
            clear hs hk5
            go_upto_region 14 with (at_builtin; refine app_ints rfl _ _ rfl wo.heap.size (.slice b d.length cap) d.length d rfl (HO5.out.alloc _) _ [x] rfl (slc_one _ _) (d.length + 1) (d ++ [x]) (by simp) rfl (by omega) (by simp; omega) ?_; intro b2 cap2 w6 hown2 hbl2 _ _)
            have hz6 := hbl2.size
            have hb6 : Below wo.heap.size w5 w6 := (((Below.refl w5.heap.size w5).alloc (Nat.le_refl _) (.cells #[.int .i64 x] 2)).mono (by omega)).trans hbl2
            have hk6 := keptAbove hb6
            have HOd := Lib.hid hown2
            have HOo := Lib.hid (owns_kept HOv.out hk6 (by intro g hg h3; have := (owns_lt HO.out hg).2; omega))
            have HEo := Lib.hid (HEv.out.kept hk6 (by intro b h1 h2 h3; omega))
            have HSo := Lib.hid (HS5.out.below hb6 HS.out.lt)
            have HBo := Lib.hid ((HB.out.trans (HK5.out.toBelow HB.out.size (by intro k h1 h2; omega))).trans (hb6.mono HB.out.size))
            have hz5w : wo.heap.size ≤ w6.heap.size := by simp at hz6; omega
            clear hown2 hbl2 hb6 hk6
            have hal7 := (Below.refl w6.heap.size w6).alloc (Nat.le_refl _) (.cells #[.slice b2 (d.length + 1) cap2] 32)
            have HO7 := Lib.hid (owns_below HOo.out hal7 (Nat.le_refl _))
            have HE7 := Lib.hid (HEo.out.up hal7 (Nat.le_refl _))
            have HD7 := Lib.hid ((OwnI.mk HOd.out).up hal7 (Nat.le_refl _))
            have HS7 := Lib.hid (HSo.out.below hal7 HSo.out.lt)
            have HB7 := Lib.hid (HBo.out.trans (hal7.mono HBo.out.size))
            clear hal7
            go_wp2_with (at_builtin; refine app_list rfl _ _ rfl w1.heap.size (.slice oa D.length oc) D.length vs rfl HO7.out _ b2 (d.length + 1) cap2 rfl (slc_list w6 _ _ rfl) (by omega) (by simp; omega) ?_; intro oa2 oc2 w7 hown7 hbl7 hg7)
            go_roundw
            case rel =>
              have hz7 := hg7.size
              have he := OwnEach.snoc HO7.out HE7.out HD7.out (Nat.le_refl _) (by omega) (by simp) (by simp; omega) hg7
              exact ⟨j - 1, D ++ [(d ++ [x])], vs ++ [.slice b2 (d.length + 1) cap2], oa2, oc2, congrArg (Value.int IntKind.i64) (by omega), by have := HDJ.out; simp; omega, by simp, by simpa using hown7, he, hval.out.snoc (by rw [HDN.out]; exact val_one ⟨hx0, hx1⟩), (HS7.out.below hbl7 (by omega)).mono (by simp; omega), HB7.out.trans (hbl7.mono (by omega)), by simp at hz7; omega⟩
            case measure => simp [intOf]; omega
          · have t0 : ((d.length : Int) == 0) = false := by rw [beq_eq_false_iff_ne]; omega
            obtain ⟨b2, rfl⟩ : ∃ b2, b2 = b := ⟨_, rfl⟩
            obtain ⟨cap2, rfl⟩ : ∃ cap2, cap2 = cap := ⟨_, rfl⟩
            have HOd := Lib.hid HOI.out
            have HOo := Lib.hid HOk.out
            have HEo := Lib.hid HEk.out
            have HSo := Lib.hid HSI.out
            have HBo := Lib.hid HBI.out
            have hal7 := (Below.refl wr.heap.size wr).alloc (Nat.le_refl _) (.cells #[.slice b2 d.length cap2] 32)
            have HO7 := Lib.hid (owns_below HOo.out hal7 (Nat.le_refl _))
            have HE7 := Lib.hid (HEo.out.up hal7 (Nat.le_refl _))
            have HD7 := Lib.hid ((OwnI.mk HOd.out).up hal7 (Nat.le_refl _))
            have HS7 := Lib.hid (HSo.out.below hal7 HSo.out.lt)
            have HB7 := Lib.hid (HBo.out.trans (hal7.mono HBo.out.size))
            clear hal7
            go_wp2_with (at_builtin; refine app_list rfl _ _ rfl w1.heap.size (.slice oa D.length oc) D.length vs rfl HO7.out _ b2 d.length cap2 rfl (slc_list wr _ _ rfl) (by omega) (by simp; omega) ?_; intro oa2 oc2 w7 hown7 hbl7 hg7)
            go_roundw
            case rel =>
              have hz7 := hg7.size
              have he := OwnEach.snoc HO7.out HE7.out HD7.out (Nat.le_refl _) (by omega) (by simp) (by simp; omega) hg7
              exact ⟨j - 1, D ++ [d], vs ++ [.slice b2 d.length cap2], oa2, oc2, congrArg (Value.int IntKind.i64) (by omega), by have := HDJ.out; simp; omega, by simp, by simpa using hown7, he, hval.out.snoc (hup.out.val (by omega) (by omega)), (HS7.out.below hbl7 (by omega)).mono (by simp; omega), HB7.out.trans (hbl7.mono (by omega)), by simp at hz7; omega⟩
            case measure => simp [intOf]; omega
    · have hj : j = 0 := by omega
      have hjz : (j : Int) ≤ 0 := by omega
      have HJ := Lib.hid hj
      clear hj hj0
      go_wp2_with fail
      go_ret
      have hDl : D.length = 1 + N := by have := HDJ.out; have := HJ.out; omega
      exact ⟨D, _, ⟨by omega, by omega, hval.out⟩, rfl, (show OwnL w1.heap.size wr.heap.size wr _ D from ⟨vs, HO.out, fun g hg => (owns_lt HO.out hg).2, HE.out⟩).wide (by omega) (Nat.le_refl _), HB.out⟩

end Go.Proofs.Ytnhamdkpeefioaa
