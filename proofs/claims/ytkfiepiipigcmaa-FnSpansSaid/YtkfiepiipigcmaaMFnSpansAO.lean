/-
  FnSpans: texts joined: RoomI, Bytes, Pop, Has, Dom, Rising, DomO, TightM.
-/
import Derived.ProofKit
import Derived.OpenShut
import Derived.Laws.BitsAllLaws
import Derived.Test.YtkfiepiipigcmaaMFnSpansAA
import Derived.Test.YtkfiepiipigcmaaMFnSpansAB
import Derived.Test.YtkfiepiipigcmaaMFnSpansAD
import Derived.Test.YtkfiepiipigcmaaMFnSpansAI
import Derived.Test.YtkfiepiipigcmaaMFnSpansAL
import Derived.Test.YtkfiepiipigcmaaMFnSpansAN
namespace Go.Proofs.Ytkfiepiipigcmaa
open Go.RowKit Go.Sort

theorem map_set' (l : List Int) (i : Nat) (x : Int) : (l.map I64).set i (.int .i64 x) = (l.set i x).map I64 := (List.map_set (f := I64) (l := l) (i := i) (a := x)).symm
theorem kept_one (w : World) (g i : Nat) (u : Value) : Kept (fun b => b = g) w (w.setCell ⟨g, i, none⟩ u) := Kept.setCell (S := fun b => b = g) (Kept.refl _ w) (p := ⟨g, i, none⟩) (.inr rfl) u
theorem Try.entersRm (args : Array Value) (w : World) : (callFunc 62 args).run Try.prog w = .ok (.enter 62 args) w :=
  enters_of Try.func62 (by kernel_rfl) rfl args w
theorem rmCmp_any (i j : Nat) (bx b off n c : Nat) (x y : Int) (w : World) (hi : i < n) (hj : j < n) (hn : n ≤ 1000) (hbox : w.cell? ⟨bx, 0, none⟩ = some (.slice (some ⟨b, off, none⟩) n c))
    (d1 : w.cell? ⟨b, off + i * 3, none⟩ = some (.int .i64 x)) (d2 : w.cell? ⟨b, off + j * 3, none⟩ = some (.int .i64 y)) :
    Calls Try.prog 62 #[.int .i64 i, .int .i64 j, .pointer (some ⟨bx, 0, none⟩)] w fun e w' => e = .returned (.int .i64 (cmpI x y)) ∧ ∃ q, w' = w.drewN q := by
  have hi' : (i : Int) < n := by omega
  have hj' : (j : Int) < n := by omega
  go_enter Try.func62, Try.ntmps62
  go_wp2_with fail
  go_quiet ((go_at_call 63; exact quiet_same (cmp64_any _ _ _)))
  go_wp2_with fail
  go_ret
  exact ⟨rfl, _, rfl⟩
theorem rmReads (ps : List SpanD) (v : Value) (bx g : Nat) (w : World) (h : RdP w v ps) (hn : 1 ≤ ps.length) (hn2 : ps.length ≤ 1000) (hb : w.cell? ⟨bx, 0, none⟩ = some v) (hbx : bx < w.heap.size) (hbg : bx ≠ g) (hg : ∀ a, v.ownBlock = some a → a ≠ g) (hg2 : ∀ a, v.ownBlock = some a → a < w.heap.size) : CmpG 62 bx ps.length (frK ps) g w := by
  intro W hW x y
  obtain ⟨a, c, rfl⟩ := h.shape
  have hx := Nat.mod_lt x (show 0 < ps.length by omega)
  have hy := Nat.mod_lt y (show 0 < ps.length by omega)
  obtain ⟨b, off, rfl, hbl, d1, _, _⟩ := h.at hx
  obtain ⟨b', off', e, _, d2, _, _⟩ := h.at hy
  simp only [Option.some.injEq, Addr.mk.injEq] at e
  obtain ⟨rfl, rfl, _⟩ := e
  have hgb : b ≠ g := hg b rfl
  exact rmCmp_any _ _ bx b off ps.length c _ _ _ hx hy hn2 ((hW _ hbx hbg).trans hb) ((hW _ hbl hgb).trans d1) ((hW _ hbl hgb).trans d2)

set_option maxHeartbeats 4000000 in
set_option maxRecDepth 100000 in
theorem roomsI_any (v : Value) (ps : List SpanD) (w : World) (h : RdP w v ps) :
    Calls Try.prog 23 #[v] w fun e w' => ∃ v', e = .returned (.tuple #[v', .int .i64 (roomsN ps), .bool (areSpansB ps)]) ∧ OwnI w.heap.size w'.heap.size w' v' (roomsL ps) ∧ Below w.heap.size w w' := by
  obtain ⟨q, hq⟩ : ∃ q, areSpansB ps = q := ⟨_, rfl⟩
  have HQ := Lib.hid hq
  rw [hq]
  clear hq
  obtain ⟨a, c, rfl⟩ := h.shape
  obtain ⟨i0, hi, hz0, hz1, hz2⟩ := info_parts Try.infoI64
  have HR := Lib.hid h
  clear h
  go_enter Try.func23, Try.ntmps23
  go_upto_region 1 with fail
  refine wp_at fun W0 hW0 => ?_
  have HB0 := Lib.hid (show Below w.heap.size w W0 by subst hW0; (repeat' first | exact Below.refl _ _ | assumption | refine Below.alloc ?_ ?_ _ | refine Below.setCell ?_ ?_ _ | refine Below.drew ?_ | (simp; done) | (simp; omega)))
  have HX0 := Lib.hid (show Box W0 w.heap.size 27 (.slice a ps.length c) by subst hW0; exact Box.new _ _ _)
  clear hW0
  have c0 := HX0.out.cell
  have HA := Lib.hid (AreSpans_any (.slice a ps.length c) ps W0 (HR.out.up HB0.out (Nat.le_refl _)))
  rw [HQ.out] at HA
  cases q
  · go_wp2_with (go_at_call 24; refine HA.out.mono ?_; rintro e w1 ⟨rfl, hb⟩)
    go_ret3
    refine ⟨.slice none 0 0, ?_, ?_, HB0.out.trans (hb.mono HB0.out.size)⟩
    · rw [show roomsN ps = 0 by unfold roomsN; rw [HQ.out]; rfl]; rfl
    rw [show roomsL ps = [] by unfold roomsL; rw [HQ.out]; rfl]
    exact ⟨World.ownsRow_nil _ _ _ _, by intro g hg; cases hg⟩
  have hl : 1 ≤ ps.length ∧ ps.length ≤ 64 := by
    have := HQ.out
    unfold areSpansB at this
    rw [Bool.and_eq_true, inB_iff] at this
    omega
  obtain ⟨b0, off, rfl, hb0, _⟩ := HR.out.at (show 0 < ps.length by omega)
  have HCP := Lib.hid (fun W (hb : Below w.heap.size w W) (hx : Box W w.heap.size 27 (.slice (some ⟨b0, off, none⟩) ps.length c)) =>
    orderByG_any 62 w.heap.size Try.entersRm (frK ps) ps.length (by omega) hl.1 W (fun w0 g hb2 hg => by
      have hxl := hx.lt
      have hz := hb2.size
      refine rmReads ps (.slice (some ⟨b0, off, none⟩) ps.length c) w.heap.size g w0 ((HR.out.up hb (Nat.le_refl _)).up hb2 (Nat.le_refl _)) hl.1 (by omega) (hx.below hb2 hxl).cell (by omega) (by omega) (fun a ha => ?_) (fun a ha => ?_)
      · have : b0 = a := Option.some.inj ha
        omega
      · have : b0 = a := Option.some.inj ha
        omega))
  go_upto_region 3 with (go_at_call 24; refine HA.out.mono ?_; rintro e w1 ⟨rfl, hb⟩)
  have HX1 := Lib.hid (HX0.out.below hb HX0.out.lt)
  have HB1 := Lib.hid (HB0.out.trans (hb.mono HB0.out.size))
  have hz1s := HB1.out.size
  have c1 := HX1.out.cell
  clear hb HA HX0 HB0 c0
  go_upto_region 4 with (at_make; refine wpList_make_full _ rfl _ _ 24 rfl w1.heap.size 2 i0 (.int .i64 0) 1 Try.underlying24 hi hz0 hz1 .i64 .i64 ps.length ps.length ps.length rfl rfl rfl rfl (by rw [hz2]; omega) (by simp [maxLen]; omega) (by simp) ?_; intro w2 hown hgrow)
  have hb2 : Below w1.heap.size w1 w2 := (Below.refl _ _).grown hgrow (Nat.le_refl _) (by intro k hk; cases hk)
  obtain ⟨n, hn⟩ : ∃ n, n = ps.length := ⟨_, rfl⟩
  have hz : (madeCells (Value.int .i64 0).cells (ps.length * 1)).toList = (rmO (frK ps) (toK ps) (ordL (frK ps) ps.length) ps.length 0).map I64 := by
    rw [show rmO (frK ps) (toK ps) (ordL (frK ps) ps.length) ps.length 0 = List.replicate ps.length 0 from rfl, List.map_replicate]
    show _ = List.replicate ps.length (Value.int .i64 0)
    simpa [Value.cells] using toList_madeCells_one (Value.int .i64 0) ps.length
  rw [hz] at hown
  obtain ⟨g, hg⟩ : ∃ g, g = w1.heap.size := ⟨_, rfl⟩
  rw [← hg] at hown ⊢
  have hgl : g < w2.heap.size := (owns_lt hown (k := g) rfl).2
  have HX2 := Lib.hid (HX1.out.below hb2 HX1.out.lt)
  have HB2 := Lib.hid (HB1.out.trans (hb2.mono hz1s))
  have hz2s := HB2.out.size
  have HGE := Lib.hid (show w.heap.size < g by rw [hg]; exact HX1.out.lt)
  have HO2 := Lib.hid hown
  have c2 := HX2.out.cell
  have HC := Lib.hid (HCP.out w2 HB2.out HX2.out)
  clear hown hgrow hz hb2 hg HX1 HB1 c1 HCP
  go_upto_region 5 with fail
  go_upto_region 6 with (go_at_call 61; refine HC.out.mono ?_; rintro e w3 ⟨u, rfl, hu, hb⟩; obtain ⟨ua, uc, rfl⟩ := hu.rd.shape)
  have HO3 := Lib.hid (owns_below HO2.out hb (Nat.le_refl _))
  have HX3 := Lib.hid (HX2.out.below hb HX2.out.lt)
  have HB3 := Lib.hid (HB2.out.trans (hb.mono hz2s))
  have hz3 := HB3.out.size
  have hg3 : g < w3.heap.size := Nat.lt_of_lt_of_le hgl hb.size
  have HU0 := Lib.hid hu
  have hl1 := hl.1
  have hl2 := hl.2
  clear hu hb HC HX2 HB2 HO2 c2 hl
  -- letters
  obtain ⟨L, hL⟩ : ∃ L, L = ordL (frK ps) ps.length := ⟨_, rfl⟩
  obtain ⟨st, hst⟩ : ∃ st, st = frK ps := ⟨_, rfl⟩
  obtain ⟨en, hen⟩ : ∃ en, en = toK ps := ⟨_, rfl⟩
  have HLEN := Lib.hid (show L.length = n by rw [hL, ordL_len, hn])
  have HLT := Lib.hid (show ∀ k, k < n → L.getD k 0 < n from fun k hk => by
    rw [hL, hn]
    rw [hn] at hk
    rw [List.getD_eq_getElem?_getD, List.getElem?_eq_getElem (by rw [ordL_len]; exact hk)]
    exact ordL_lt _ _ _ (List.getElem_mem _))
  have HLI := Lib.hid (show ∀ k, k < n → (idxs L).getD k 0 = (L.getD k 0 : Int) from fun k hk => by
    have hk2 : k < L.length := by rw [HLEN.out]; exact hk
    unfold idxs
    rw [List.getD_eq_getElem?_getD, List.getElem?_map, List.getD_eq_getElem?_getD, List.getElem?_eq_getElem hk2]
    rfl)
  have HCELL := Lib.hid (show ∀ W, Below w.heap.size w W → ∀ x, x < n → W.cell? ⟨b0, off + x * 3, none⟩ = some (.int .i64 (st x)) ∧ W.cell? ⟨b0, off + x * 3 + 1, none⟩ = some (.int .i64 (en x)) from fun W hW x hx => by
    rw [hn] at hx
    obtain ⟨b, off, e, _, d0, d1, d2⟩ := (HR.out.up hW (Nat.le_refl _)).at hx
    simp only [Option.some.injEq, Addr.mk.injEq, and_true] at e
    obtain ⟨rfl, rfl⟩ := e
    refine ⟨?_, ?_⟩
    · rw [hst]; unfold frK; rw [Nat.mod_eq_of_lt hx]; exact d0
    · rw [hen]; unfold toK; rw [Nat.mod_eq_of_lt hx]; exact d1)
  have HRL := Lib.hid (show roomsL ps = rmO st en L n n by unfold roomsL; rw [HQ.out, hst, hen, hL, hn]; rfl)
  have HRN := Lib.hid (show roomsN ps = ((rmE st en L n).length : Int) by unfold roomsN; rw [HQ.out, hst, hen, hL, hn]; rfl)
  have HIL := Lib.hid (show (idxs L).length = n by rw [idxs_len]; exact HLEN.out)
  have HU := Lib.hid (show OwnI w2.heap.size w3.heap.size w3 (.slice ua n uc) (idxs L) by
    have h1 := HU0.out
    rw [← hL, HIL.out] at h1
    exact h1)
  have HO := Lib.hid (show w3.ownsRow g 2 1 (.slice (some ⟨g, 0, none⟩) n n) n ((rmO st en L n 0).map I64) by
    have h1 := HO3.out
    rw [← hL, ← hst, ← hen, ← hn] at h1
    exact h1)
  rw [← hL, HIL.out, ← hn]
  rw [← hn] at hl1 hl2 HX3
  clear hL hst hen HU0 HO3 HR HQ
  clear hn
  go_wp2_with fail
  go_loopw [6, 21] (fun ev iv wr => ∃ (k m : Nat) (b : Option Addr) (cc : Nat), iv = .int .i64 k ∧ k ≤ n ∧ ev = .slice b m cc ∧ Hid ((rmE st en L k).length = m) ∧ Hid (wr.ownsRow w3.heap.size 2 1 (.slice b m cc) m ((rmE st en L k).map I64)) ∧ Hid (wr.ownsRow g 2 1 (.slice (some ⟨g, 0, none⟩) n n) n ((rmO st en L n k).map I64)) ∧ Hid (Kept (· = g) w3 wr)) (fun _ iv _ => n + 1 - (intOf iv).toNat)
  case atStart => exact ⟨0, 0, none, 0, rfl, Nat.zero_le _, rfl, Lib.hid rfl, Lib.hid (World.ownsRow_nil _ _ _ _), HO, Lib.hid (Kept.refl _ _)⟩
  case round =>
    obtain ⟨k, m, b, cc, rfl, hk, rfl, HM, HE, HO, HK⟩ := hrel
    obtain ⟨wo, rfl⟩ : ∃ wo, wo = wr := ⟨wr, rfl⟩
    have HB := Lib.hid (HB3.out.trans (HK.out.toBelow hz3 (fun k h1 h2 => by have := HGE.out; omega)))
    have hszo := HK.out.size
    by_cases hlt : k < n
    · have hltI : (k : Int) < (n : Int) := by omega
      have hkl : k < (idxs L).length := by rw [HIL.out]; exact hlt
      obtain ⟨ub, uo, rfl, _, hx⟩ := (HU.out.kept HK.out (fun b h1 h2 h3 => by omega)).rd.at hkl
      rw [HLI.out k hlt] at hx
      obtain ⟨x, hxe⟩ : ∃ x, x = L.getD k 0 := ⟨_, rfl⟩
      have hxn : x < n := by rw [hxe]; exact HLT.out k hlt
      have hxI : (x : Int) < (n : Int) := by omega
      rw [← hxe] at hx
      have HX := Lib.hid hxe.symm
      clear hxe
      have hmk : m ≤ k := by have := rmE_cnt st en L k; have := HM.out; omega
      obtain ⟨y, hy⟩ : ∃ y, y = st x := ⟨_, rfl⟩
      obtain ⟨ex, hex⟩ : ∃ y, y = en x := ⟨_, rfl⟩
      have HY := Lib.hid hy.symm
      have HEX := Lib.hid hex.symm
      have hbx0 : w.heap.size ≠ g := by have := HGE.out; omega
      have hc0 := (HX3.out.kept HK.out hbx0).cell
      clear hy hex
      go_wp2_with fail
      go_loopw [9] (fun jv wr => ∃ j : Nat, jv = .int .i64 j ∧ j ≤ m ∧ Hid (∀ r, r < j → y < (rmE st en L k).getD r 0) ∧ Hid (∃ q, wr = wo.drewN q)) (fun jv _ => m + 1 - (intOf jv).toNat)
      case atStart => exact ⟨0, rfl, Nat.zero_le _, Lib.hid (by intro r hr; omega), Lib.hid ⟨0, rfl⟩⟩
      case round =>
        obtain ⟨j, rfl, hj, HJ, HD⟩ := hrel
        have HOr := Lib.hid (show wr.ownsRow g 2 1 (.slice (some ⟨g, 0, none⟩) n n) n ((rmO st en L n k).map I64) by obtain ⟨q, rfl⟩ := HD.out; exact HO.out)
        have HEr := Lib.hid (show wr.ownsRow w3.heap.size 2 1 (.slice b m cc) m ((rmE st en L k).map I64) by obtain ⟨q, rfl⟩ := HD.out; exact HE.out)
        have HKr := Lib.hid (show Kept (· = g) w3 wr by obtain ⟨q, rfl⟩ := HD.out; exact HK.out.drewN q)
        have HBr := Lib.hid (HB3.out.trans (HKr.out.toBelow hz3 (fun k h1 h2 => by have := HGE.out; omega)))
        obtain ⟨s0, s1⟩ := HCELL.out wr HBr.out x hxn
        rw [HY.out] at s0
        rw [HEX.out] at s1
        have hc1 := (HX3.out.kept HKr.out hbx0).cell
        have hszr := HKr.out.size
        by_cases hjm : j < m
        · have hjI : (j : Int) < (m : Int) := by omega
          obtain ⟨gb, cc', hge, hgb1, hgb2⟩ := owns_some HEr.out (by intro e; injection e with _ e _; omega)
          injection hge with hge _ hge2
          subst hge; subst hge2
          obtain ⟨z, hz⟩ : ∃ z, z = (rmE st en L k).getD j 0 := ⟨_, rfl⟩
          have e1 : wr.cell? ⟨gb, j, none⟩ = some (.int .i64 z) := by
            have hjl : j < (rmE st en L k).length := by rw [HM.out]; exact hjm
            rw [HEr.out.cellAt j (by omega), List.getElem?_map, List.getElem?_eq_getElem hjl, hz, List.getD_eq_getElem?_getD, List.getElem?_eq_getElem hjl]
            rfl
          have HZ := Lib.hid hz.symm
          clear hz
          by_cases c : y < z
          · have hd : decide (y < z) = true := decide_eq_true c
            have HJ2 := Lib.hid (show ∀ r, r < j + 1 → y < (rmE st en L k).getD r 0 from fun r hr => by
              by_cases e : r = j
              · rw [e, HZ.out]; exact c
              · exact HJ.out r (by omega))
            clear c
            go_wp2_with fail
            go_quiet (fail)
            go_wp2_with fail
            go_roundw
            case rel => exact ⟨j + 1, by go_num, by omega, HJ2, Lib.hid (by obtain ⟨q, rfl⟩ := HD.out; exact ⟨q + _, World.drewN_drewN _ _ _⟩)⟩
            case measure => simp [intOf]; omega
          · have hd : decide (y < z) = false := decide_eq_false c
            have HRR := Lib.hid (show rmR st en L k = j from by
              unfold rmR
              rw [HX.out, HY.out]
              exact freeI_stop (by rw [HM.out]; exact hj) HJ.out (.inr (by rw [HZ.out]; omega)))
            have HE2 := Lib.hid (show rmE st en L (k + 1) = (rmE st en L k).set j ex by rw [rmE_succ, HRR.out, if_neg (by rw [HM.out]; omega), HX.out, HEX.out])
            have HO2 := Lib.hid (show rmO st en L n (k + 1) = (rmO st en L n k).set x j by rw [← HX.out, ← HRR.out]; rfl)
            have hne : ((j : Int) == (m : Int)) = false := by rw [beq_eq_false_iff_ne]; omega
            clear c
            go_wp2_with fail
            go_quiet (fail)
            generalize hwt : wr.drewN _ = wt
            have HOt := Lib.hid (show wt.ownsRow g 2 1 (.slice (some ⟨g, 0, none⟩) n n) n ((rmO st en L n k).map I64) by subst hwt; exact HOr.out)
            have HEt := Lib.hid (show wt.ownsRow w3.heap.size 2 1 (.slice (some ⟨gb, 0, none⟩) m cc) m ((rmE st en L k).map I64) by subst hwt; exact HEr.out)
            have HKt := Lib.hid (show Kept (· = g) w3 wt by subst hwt; exact HKr.out.drewN _)
            have ht0 : wt.cell? ⟨w.heap.size, 0, none⟩ = some (.slice (some ⟨b0, off, none⟩) n c) := by subst hwt; exact hc1
            have ht1 : wt.cell? ⟨b0, off + x * 3 + 1, none⟩ = some (.int .i64 ex) := by subst hwt; exact s1
            have ht2 : wt.cell? ⟨gb, j, none⟩ = some (.int .i64 z) := by subst hwt; exact e1
            have ht3 := HEt.out.frozenAt j
            clear hwt e1 s1 s0 hc1 hd
            go_upto_region 14 with fail
            refine wp_at fun W hW => ?_
            have HEW := Lib.hid (show W.ownsRow w3.heap.size 2 1 (.slice (some ⟨gb, 0, none⟩) m cc) m ((rmE st en L (k + 1)).map I64) by
              subst hW
              rw [HE2.out, ← map_set']
              exact (HEt.out.stored j (.int .i64 ex)).1)
            have HKW := Lib.hid (show Kept (· = g) w3 W by subst hW; exact HKt.out.setCell (.inl hgb1) _)
            have HOW := Lib.hid (show W.ownsRow g 2 1 (.slice (some ⟨g, 0, none⟩) n n) n ((rmO st en L n k).map I64) by
              subst hW
              refine owns_kept HOt.out (S := fun b => b = gb) (kept_one _ _ _ _) (fun b h1 h2 => ?_)
              have : g = b := Option.some.inj h1
              omega)
            have hW2 := HOW.out.cellAt x (by omega)
            have hW3 := HOW.out.frozenAt x
            have hxl : x < ((rmO st en L n k).map I64).length := by rw [List.length_map, rmO_len]; exact hxn
            rw [List.getElem?_eq_getElem hxl] at hW2
            clear hW ht0 ht1 ht2 ht3 hne
            go_wp2_with fail
            go_roundw
            case rel => exact ⟨k + 1, m, _, cc, by go_num, by omega, rfl, Lib.hid (by rw [HE2.out, List.length_set]; exact HM.out), Lib.hid (owns_kept HEW.out (S := fun b => b = g) (kept_one _ _ _ _) (fun b h1 h2 => by have : gb = b := Option.some.inj h1; omega)), Lib.hid (by rw [HO2.out, ← map_set']; exact (HOW.out.stored x (.int .i64 j)).1), Lib.hid (HKW.out.setCell (.inr rfl) _)⟩
            case measure => simp [intOf]; omega
        · obtain rfl : j = m := by omega
          have hjj : ¬ (j : Int) < (j : Int) := by omega
          have hee : ((j : Int) == (j : Int)) = true := by simp
          have HRR := Lib.hid (show rmR st en L k = j from by
            unfold rmR
            rw [HX.out, HY.out]
            exact freeI_stop (by rw [HM.out]; exact Nat.le_refl _) HJ.out (.inl HM.out.symm))
          have HE2 := Lib.hid (show rmE st en L (k + 1) = rmE st en L k ++ [ex] by rw [rmE_succ, HRR.out, if_pos HM.out.symm, HX.out, HEX.out])
          have HO2 := Lib.hid (show rmO st en L n (k + 1) = (rmO st en L n k).set x j by rw [← HX.out, ← HRR.out]; rfl)
          go_wp2_with fail
          go_quiet (fail)
          generalize hwt : wr.drewN _ = wt
          have HOt := Lib.hid (show wt.ownsRow g 2 1 (.slice (some ⟨g, 0, none⟩) n n) n ((rmO st en L n k).map I64) by subst hwt; exact HOr.out)
          have HEt := Lib.hid (show wt.ownsRow w3.heap.size 2 1 (.slice b j cc) j ((rmE st en L k).map I64) by subst hwt; exact HEr.out)
          have HKt := Lib.hid (show Kept (· = g) w3 wt by subst hwt; exact HKr.out.drewN _)
          have hszt := HKt.out.size
          clear hwt s1 s0 hc1 hc0
          go_upto_region 13 with (at_builtin; refine app_ints rfl _ _ rfl w3.heap.size (.slice b j cc) j (rmE st en L k) rfl (HEt.out.alloc _) _ [0] rfl (slc_oneB _ _ _ (by simp)) (j + 1) (rmE st en L k ++ [0]) (by simp) rfl (by omega) (by simp; omega) ?_; intro b4 c4 w4 hown4 hbl4 _ hne4)
          have hbl5 : Below w3.heap.size wt w4 := ((Below.refl _ _).alloc hszt _).trans hbl4
          have HK4 := Lib.hid (HKt.out.below hbl5 (Nat.le_refl _))
          have HO4 := Lib.hid (show w4.ownsRow g 2 1 (.slice (some ⟨g, 0, none⟩) n n) n ((rmO st en L n k).map I64) from
            owns_kept (S := fun b => ¬ b < w3.heap.size) HOt.out ⟨hbl5.os, hbl5.tape, hbl5.output, hbl5.size, fun b h1 h2 => hbl5.block b (by omega)⟩ (fun b h1 h2 => by
              have : g = b := Option.some.inj h1
              omega))
          obtain ⟨gb, c5, hge, hgb1, hgb2⟩ := owns_some hown4 (by intro e; have := (hne4.1 e).2; cases this)
          injection hge with hge _ hge2
          subst hge; subst hge2
          have HE4 := Lib.hid hown4
          have HB4 := Lib.hid (HB3.out.trans (HK4.out.toBelow hz3 (fun k h1 h2 => by have := HGE.out; omega)))
          obtain ⟨s0, s1⟩ := HCELL.out w4 HB4.out x hxn
          rw [HEX.out] at s1
          have hc4 := (HX3.out.kept HK4.out hbx0).cell
          have ht2 : w4.cell? ⟨gb, j, none⟩ = some (.int .i64 0) := by
            rw [HE4.out.cellAt j (by omega), List.map_append, List.getElem?_append_right (by rw [List.length_map, HM.out]; exact Nat.le_refl _), List.length_map, HM.out, Nat.sub_self]
            rfl
          have ht3 := HE4.out.frozenAt j
          have hjj1 : (j : Int) < (j : Int) + 1 := by omega
          clear hown4 hbl4 hbl5 hne4 s0 hjj hee
          go_upto_region 14 with fail
          refine wp_at fun W hW => ?_
          have HEW := Lib.hid (show W.ownsRow w3.heap.size 2 1 (.slice (some ⟨gb, 0, none⟩) (j + 1) c4) (j + 1) ((rmE st en L (k + 1)).map I64) by
            subst hW
            have h1 := (HE4.out.stored j (.int .i64 ex)).1
            rw [map_set', List.set_append_right _ _ (by rw [HM.out]; exact Nat.le_refl _), HM.out, Nat.sub_self] at h1
            rw [HE2.out]
            exact h1)
          have HKW := Lib.hid (show Kept (· = g) w3 W by subst hW; exact HK4.out.setCell (.inl hgb1) _)
          have HOW := Lib.hid (show W.ownsRow g 2 1 (.slice (some ⟨g, 0, none⟩) n n) n ((rmO st en L n k).map I64) by
            subst hW
            refine owns_kept HO4.out (S := fun b => b = gb) (kept_one _ _ _ _) (fun b h1 h2 => ?_)
            have : g = b := Option.some.inj h1
            omega)
          have hW2 := HOW.out.cellAt x (by omega)
          have hW3 := HOW.out.frozenAt x
          have hxl : x < ((rmO st en L n k).map I64).length := by rw [List.length_map, rmO_len]; exact hxn
          rw [List.getElem?_eq_getElem hxl] at hW2
          clear hW s1 hc4 ht2 ht3
          go_wp2_with fail
          go_roundw
          case rel => exact ⟨k + 1, j + 1, _, c4, by go_num, by omega, rfl, Lib.hid (by rw [HE2.out, List.length_append, HM.out]; rfl), Lib.hid (owns_kept HEW.out (S := fun b => b = g) (kept_one _ _ _ _) (fun b h1 h2 => by have : gb = b := Option.some.inj h1; omega)), Lib.hid (by rw [HO2.out, ← map_set']; exact (HOW.out.stored x (.int .i64 j)).1), Lib.hid (HKW.out.setCell (.inr rfl) _)⟩
          case measure => simp [intOf]; omega
    · obtain rfl : k = n := by omega
      have hmk : m ≤ k := by have := rmE_cnt st en L k; have := HM.out; omega
      go_wp2_with (go_at_call 64; refine (size_any _ _ (by unfold maxLen; omega)).mono ?_; rintro e w' ⟨rfl, rfl⟩)
      go_ret3
      refine ⟨_, by rw [HRN.out, HM.out]; rfl, ?_, HB.out⟩
      rw [HRL.out]
      exact (OwnI.mk (n := k) HO.out).wide (by have := HGE.out; omega) (Nat.le_refl _)

end Go.Proofs.Ytkfiepiipigcmaa

namespace Go.Proofs.Ytkfiepiipigcmaa
open Go.RowKit

def B8 (x : Int) : Value := .int .u8 x
/-- The slice reads as these bytes. -/
def RdB (w : World) (v : Value) (xs : List Int) : Prop := Slc w v (xs.map B8)
def WfB (zs : List Int) : Prop := ∀ z ∈ zs, 0 ≤ z ∧ z ≤ 255

theorem RdB.shape {w : World} {v : Value} {xs : List Int} (h : RdB w v xs) : ∃ a c, v = .slice a xs.length c := by
  obtain ⟨a, c, e⟩ := Slc.shape h; exact ⟨a, c, by simpa using e⟩
theorem RdB.up {w w' : World} {v : Value} {xs : List Int} {B : Nat} (h : RdB w v xs) (hb : Below B w w') (hB : w.heap.size ≤ B) : RdB w' v xs := Slc.below h hb hB
theorem RdB.len {w : World} {v : Value} {xs : List Int} (h : RdB w v xs) : xs.length ≤ maxLen := by simpa using Slc.len h
theorem RdB.at {w : World} {a : Option Addr} {n c : Nat} {xs : List Int} (h : RdB w (.slice a n c) xs) {i : Nat} (hi : i < xs.length) :
    ∃ b off, a = some ⟨b, off, none⟩ ∧ b < w.heap.size ∧ w.cell? ⟨b, off + i, none⟩ = some (.int .u8 (xs.getD i 0)) := by
  exact Slc.at h (i := i) (u := .int .u8 (xs.getD i 0)) (by simp [B8, hi])
theorem WfB.at {xs : List Int} (h : WfB xs) {i : Nat} (hi : i < xs.length) : 0 ≤ xs.getD i 0 ∧ xs.getD i 0 ≤ 255 := by
  have e : xs.getD i 0 = xs[i] := by simp [hi]
  rw [e]; exact h _ (List.getElem_mem hi)

def isLong (a b : List Int) : Bool := decide (1048576 < (a.length : Int)) || decide (1048576 < (b.length : Int))

/-- A number that is chosen. -/
def PickE (n : Int) (w : World) (e : Ending) (w' : World) : Prop := ∃ r : Int, 0 ≤ r ∧ r < n ∧ e = .returned (.int .i64 r) ∧ w = w'

end Go.Proofs.Ytkfiepiipigcmaa

namespace Go.Proofs.Ytkfiepiipigcmaa

/-- The digits 1 among the first n. -/
def popN : Nat → Nat → Nat
  | 0, _ => 0
  | n + 1, x => (x.testBit n).toNat + popN n x

theorem popN_congr {x y : Nat} : ∀ n, (∀ i, i < n → x.testBit i = y.testBit i) → popN n x = popN n y
  | 0, _ => rfl
  | n + 1, h => by
    simp only [popN]
    rw [h n (by omega), popN_congr n fun i hi => h i (by omega)]
theorem popN_or {x b : Nat} : ∀ n, popN n (x ||| 2 ^ b) = popN n x + (decide (b < n) && !x.testBit b).toNat
  | 0 => by simp [popN]
  | n + 1 => by
    simp only [popN]
    rw [popN_or n, Nat.testBit_or, Nat.testBit_two_pow]
    by_cases h : b = n
    · subst h
      cases x.testBit b <;> simp <;> omega
    · have h1 : decide (b = n) = false := by simp [h]
      rw [h1, Bool.or_false]
      have h2 : decide (b < n + 1) = decide (b < n) := by rw [decide_eq_decide]; omega
      rw [h2]; omega
theorem testBit_byte (a y i : Nat) (ha : a < 256) : (a + 256 * y).testBit i = if i < 8 then a.testBit i else y.testBit (i - 8) := by
  have := Nat.testBit_two_pow_mul_add y (i := 8) (b := a) ha i
  rw [show 2 ^ 8 * y + a = a + 256 * y by omega] at this
  exact this
theorem popN_byte (a y : Nat) (ha : a < 256) : ∀ n, popN (8 + n) (a + 256 * y) = popN 8 a + popN n y
  | 0 => by
    simp only [popN, Nat.add_zero]
    simp only [testBit_byte a y _ ha]
    simp
  | n + 1 => by
    have ih := popN_byte a y ha n
    rw [show 8 + (n + 1) = (8 + n) + 1 by omega]
    simp only [popN] at ih ⊢
    rw [ih, testBit_byte a y _ ha, if_neg (by omega), show 8 + n - 8 = n by omega]
    omega
theorem popN_zero : ∀ n, popN n 0 = 0
  | 0 => rfl
  | n + 1 => by simp [popN, popN_zero n]

theorem and_byte (a y m M : Nat) (ha : a < 256) (hm : m < 256) : (a + 256 * y) &&& (m + 256 * M) = (a &&& m) + 256 * (y &&& M) := by
  have hlt : a &&& m < 256 := Nat.lt_of_le_of_lt Nat.and_le_left ha
  apply Nat.eq_of_testBit_eq
  intro i
  rw [Nat.testBit_and, testBit_byte a y i ha, testBit_byte m M i hm, testBit_byte (a &&& m) (y &&& M) i hlt]
  split
  · rw [Nat.testBit_and]
  · rw [Nat.testBit_and]

/-! ### By bytes -/
def s1 (b : Nat) : Nat := ((b >>> 1) &&& 85) + (b &&& 85)
def s2 (b : Nat) : Nat := ((b >>> 2) &&& 51) + (b &&& 51)
def t2 (b : Nat) : Nat := s2 (s1 b)
def p8 (b : Nat) : Nat := (t2 b / 16 + t2 b) % 16
theorem bytes_fact : ∀ b : Fin 256, s1 b.val < 256 ∧ t2 b.val / 16 ≤ 4 ∧ t2 b.val % 16 ≤ 4 ∧ t2 b.val < 256 ∧ p8 b.val = popN 8 b.val ∧ p8 b.val ≤ 8 := by decide +kernel
theorem mask1 : ∀ a : Fin 128, ∀ c : Fin 2, (a.val + 128 * c.val) &&& 85 = a.val &&& 85 := by decide +kernel
theorem mask2 : ∀ a : Fin 64, ∀ c : Fin 4, (a.val + 64 * c.val) &&& 51 = a.val &&& 51 := by decide +kernel

theorem S1_byte (a y M : Nat) (ha : a < 256) : (((a + 256 * y) >>> 1) &&& (85 + 256 * M)) + ((a + 256 * y) &&& (85 + 256 * M)) = s1 a + 256 * (((y >>> 1) &&& M) + (y &&& M)) := by
  have h1 : (a + 256 * y) >>> 1 = (a / 2 + 128 * (y % 2)) + 256 * (y / 2) := by rw [Nat.shiftRight_eq_div_pow]; omega
  rw [h1, and_byte _ _ _ _ (by omega) (by decide), and_byte _ _ _ _ ha (by decide)]
  have h2 := mask1 ⟨a / 2, by omega⟩ ⟨y % 2, by omega⟩
  simp only at h2
  rw [h2]
  unfold s1
  have h3 : a >>> 1 = a / 2 := by rw [Nat.shiftRight_eq_div_pow]
  have h4 : y >>> 1 = y / 2 := by rw [Nat.shiftRight_eq_div_pow]
  rw [h3, h4]
  omega
theorem S2_byte (a y M : Nat) (ha : a < 256) : (((a + 256 * y) >>> 2) &&& (51 + 256 * M)) + ((a + 256 * y) &&& (51 + 256 * M)) = s2 a + 256 * (((y >>> 2) &&& M) + (y &&& M)) := by
  have h1 : (a + 256 * y) >>> 2 = (a / 4 + 64 * (y % 4)) + 256 * (y / 4) := by rw [Nat.shiftRight_eq_div_pow]; omega
  rw [h1, and_byte _ _ _ _ (by omega) (by decide), and_byte _ _ _ _ ha (by decide)]
  have h2 := mask2 ⟨a / 4, by omega⟩ ⟨y % 4, by omega⟩
  simp only at h2
  rw [h2]
  unfold s2
  have h3 : a >>> 2 = a / 4 := by rw [Nat.shiftRight_eq_div_pow]
  have h4 : y >>> 2 = y / 4 := by rw [Nat.shiftRight_eq_div_pow]
  rw [h3, h4]
  omega
theorem S3_byte (a y M : Nat) (ha : a < 256) (h16 : a / 16 ≤ 4) (hl : a % 16 ≤ 4) (hy : y % 16 ≤ 4) : (((a + 256 * y) >>> 4) + (a + 256 * y)) &&& (15 + 256 * M) = (a / 16 + a) % 16 + 256 * (((y >>> 4) + y) &&& M) := by
  have h1 : ((a + 256 * y) >>> 4) + (a + 256 * y) = (a / 16 + 16 * (y % 16) + a) + 256 * (y / 16 + y) := by rw [Nat.shiftRight_eq_div_pow]; omega
  rw [h1, and_byte _ _ _ _ (by omega) (by decide), Go.nat_mask4]
  have h4 : y >>> 4 = y / 16 := by rw [Nat.shiftRight_eq_div_pow]
  rw [h4]
  omega

def stage1 (x : Nat) : Nat := ((x >>> 1) &&& 6148914691236517205) + (x &&& 6148914691236517205)
def stage2 (x : Nat) : Nat := ((x >>> 2) &&& 3689348814741910323) + (x &&& 3689348814741910323)
def stage3 (x : Nat) : Nat := ((x >>> 4) + x) &&& 1085102592571150095

theorem stages {b0 b1 b2 b3 : Nat} (h0 : b0 < 256) (h1 : b1 < 256) (h2 : b2 < 256) (h3 : b3 < 256) :
    stage1 (b0 + 256 * (b1 + 256 * (b2 + 256 * (b3 + 256 * 0)))) = s1 b0 + 256 * (s1 b1 + 256 * (s1 b2 + 256 * (s1 b3 + 256 * 0))) ∧
    stage2 (s1 b0 + 256 * (s1 b1 + 256 * (s1 b2 + 256 * (s1 b3 + 256 * 0)))) = t2 b0 + 256 * (t2 b1 + 256 * (t2 b2 + 256 * (t2 b3 + 256 * 0))) ∧
    stage3 (t2 b0 + 256 * (t2 b1 + 256 * (t2 b2 + 256 * (t2 b3 + 256 * 0)))) = p8 b0 + 256 * (p8 b1 + 256 * (p8 b2 + 256 * (p8 b3 + 256 * 0))) := by
  have f0 := bytes_fact ⟨b0, h0⟩
  have f1 := bytes_fact ⟨b1, h1⟩
  have f2 := bytes_fact ⟨b2, h2⟩
  have f3 := bytes_fact ⟨b3, h3⟩
  simp only at f0 f1 f2 f3
  refine ⟨?_, ?_, ?_⟩
  · unfold stage1
    rw [show (6148914691236517205 : Nat) = 85 + 256 * (85 + 256 * (85 + 256 * (85 + 256 * 1431655765))) from rfl]
    rw [S1_byte _ _ _ h0, S1_byte _ _ _ h1, S1_byte _ _ _ h2, S1_byte _ _ _ h3]
    simp
  · unfold stage2
    rw [show (3689348814741910323 : Nat) = 51 + 256 * (51 + 256 * (51 + 256 * (51 + 256 * 858993459))) from rfl]
    rw [S2_byte _ _ _ f0.1, S2_byte _ _ _ f1.1, S2_byte _ _ _ f2.1, S2_byte _ _ _ f3.1]
    simp [t2]
  · unfold stage3
    rw [show (1085102592571150095 : Nat) = 15 + 256 * (15 + 256 * (15 + 256 * (15 + 256 * 252645135))) from rfl]
    rw [S3_byte _ _ _ f0.2.2.2.1 f0.2.1 f0.2.2.1 (by omega), S3_byte _ _ _ f1.2.2.2.1 f1.2.1 f1.2.2.1 (by omega), S3_byte _ _ _ f2.2.2.2.1 f2.2.1 f2.2.2.1 (by omega), S3_byte _ _ _ f3.2.2.2.1 f3.2.1 f3.2.2.1 (by omega)]
    simp [p8]

/-- The last sums. -/
theorem sums {p0 p1 p2 p3 y z v : Nat} (h0 : p0 ≤ 8) (h1 : p1 ≤ 8) (h2 : p2 ≤ 8) (h3 : p3 ≤ 8) (hy : y = p0 + 256 * (p1 + 256 * (p2 + 256 * (p3 + 256 * 0)))) (hz : z = y + y / 256) (hv : v = z + z / 65536) :
    (v + v / 4294967296) % 128 = p0 + p1 + p2 + p3 ∧ y < 4294967296 ∧ z < 4294967296 ∧ v < 4294967296 := by
  have e1 : y / 256 = p1 + 256 * p2 + 65536 * p3 := by omega
  have e2 : z = (p0 + p1) + 256 * (p1 + p2) + 65536 * (p2 + p3) + 16777216 * p3 := by omega
  have e3 : z / 65536 = (p2 + p3) + 256 * p3 := by omega
  have e4 : v = (p0 + p1 + p2 + p3) + 256 * (p1 + p2 + p3) + 65536 * (p2 + p3) + 16777216 * p3 := by omega
  have e5 : v / 4294967296 = 0 := by omega
  rw [e5]
  omega

/-- What is counted, of a number below 2 ^ 32. -/
theorem pop_all {x : Nat} (hx : x < 4294967296) : ∃ p0 p1 p2 p3, p0 ≤ 8 ∧ p1 ≤ 8 ∧ p2 ≤ 8 ∧ p3 ≤ 8 ∧ stage3 (stage2 (stage1 x)) = p0 + 256 * (p1 + 256 * (p2 + 256 * (p3 + 256 * 0))) ∧ popN 32 x = p0 + p1 + p2 + p3 ∧ stage1 x < 4294967296 ∧ stage2 (stage1 x) < 4294967296 := by
  obtain ⟨b0, b1, b2, b3, h0, h1, h2, h3, rfl⟩ : ∃ b0 b1 b2 b3, b0 < 256 ∧ b1 < 256 ∧ b2 < 256 ∧ b3 < 256 ∧ x = b0 + 256 * (b1 + 256 * (b2 + 256 * (b3 + 256 * 0))) :=
    ⟨x % 256, x / 256 % 256, x / 65536 % 256, x / 16777216, by omega, by omega, by omega, by omega, by omega⟩
  obtain ⟨e1, e2, e3⟩ := stages h0 h1 h2 h3
  have f0 := bytes_fact ⟨b0, h0⟩
  have f1 := bytes_fact ⟨b1, h1⟩
  have f2 := bytes_fact ⟨b2, h2⟩
  have f3 := bytes_fact ⟨b3, h3⟩
  simp only at f0 f1 f2 f3
  refine ⟨p8 b0, p8 b1, p8 b2, p8 b3, f0.2.2.2.2.2, f1.2.2.2.2.2, f2.2.2.2.2.2, f3.2.2.2.2.2, by rw [e1, e2, e3], ?_, by rw [e1]; omega, by rw [e1, e2]; omega⟩
  rw [show (32 : Nat) = 8 + (8 + (8 + (8 + 0))) from rfl, popN_byte _ _ h0, popN_byte _ _ h1, popN_byte _ _ h2, popN_byte _ _ h3, f0.2.2.2.2.1, f1.2.2.2.2.1, f2.2.2.2.2.1, f3.2.2.2.2.1]
  simp only [popN]
  omega

end Go.Proofs.Ytkfiepiipigcmaa

namespace Go.Proofs.Ytkfiepiipigcmaa
open Go.RowKit

def hasB (l : List Int) (x : Int) : Bool := l.contains x
theorem hasB_yes {l : List Int} {x : Int} {j : Nat} (hj : j < l.length) (h : l.getD j 0 = x) : hasB l x = true := by
  unfold hasB; rw [List.contains_iff_mem]
  have : l.getD j 0 = l[j] := by simp [hj]
  rw [this] at h; rw [← h]; exact List.getElem_mem hj
theorem hasB_no {l : List Int} {x : Int} (h : ∀ j, j < l.length → l.getD j 0 ≠ x) : hasB l x = false := by
  unfold hasB; rw [Bool.eq_false_iff]; intro hc
  rw [List.contains_iff_mem] at hc
  obtain ⟨j, hj, e⟩ := List.getElem_of_mem hc
  exact h j hj (by simp [hj, e])

set_option maxHeartbeats 400000 in
theorem has_any (v : Value) (l : List Int) (x : Int) (w : World) (h : RdI w v l) :
    Calls Try.prog 138 #[v, .int .i64 x] w fun e w' => e = .returned (.bool (hasB l x)) ∧ w = w' := by
  obtain ⟨a, c, rfl⟩ := h.shape
  have hl := h.len
  unfold maxLen at hl
  have HS := Lib.hid h
  clear h
  go_enter Try.func138, Try.ntmps138
  go_wp2_with fail
  go_loop [9] (fun i => ∃ k : Nat, i = .int .i64 k ∧ k ≤ l.length ∧ Hid (∀ j, j < k → l.getD j 0 ≠ x)) (fun i => l.length - (intOf i).toNat)
  case atStart => exact ⟨0, rfl, Nat.zero_le _, fun j hj => by omega⟩
  case round =>
    obtain ⟨k, rfl, hk, hno⟩ := hrel
    by_cases hlt : k < l.length
    · obtain ⟨b, off, rfl, _, hc⟩ := HS.out.at hlt
      obtain ⟨y, hy⟩ : ∃ y, y = l.getD k 0 := ⟨_, rfl⟩
      rw [← hy] at hc
      by_cases he : y = x
      · have he' : (y == x) = true := by simp [he]
        have HY := Lib.hid (show hasB l x = true from hasB_yes hlt (hy.symm.trans he))
        clear he hy
        go_wp2_with fail
        go_ret
        exact ⟨by rw [HY.out]; rfl, rfl⟩
      · have he' : (y == x) = false := by simp [he]
        have HE := Lib.hid (show l.getD k 0 ≠ x by rw [← hy]; exact he)
        clear he hy
        go_wp2_with fail
        go_round
        case rel => exact ⟨k + 1, by go_num, by omega, fun j hj => by
          rcases Nat.lt_succ_iff_lt_or_eq.1 hj with h | rfl
          · exact hno.out j h
          · exact HE.out⟩
        case measure => simp [intOf]; omega
    · obtain rfl : k = l.length := by omega
      go_wp2_with fail
      go_ret
      exact ⟨by rw [hasB_no hno.out]; rfl, rfl⟩

end Go.Proofs.Ytkfiepiipigcmaa

namespace Go.Proofs.Ytkfiepiipigcmaa
open Go.RowKit

def ValDom (d : List Int) : Prop := 1 ≤ d.length ∧ d.length ≤ 8 ∧ ∀ k, k < d.length → inB 0 31 (d.getD k 0) = true ∧ (0 < k → d.getD (k - 1) 0 < d.getD k 0)
def ValD (zss : List (List Int)) : Prop := 1 ≤ zss.length ∧ zss.length ≤ 6 ∧ ∀ i, i < zss.length → ValDom (zss.getD i [])
open Classical in
noncomputable def validD (zss : List (List Int)) : Bool := decide (ValD zss)
theorem validD_true {zss : List (List Int)} (h : ValD zss) : validD zss = true := by simp [validD, h]
theorem validD_false {zss : List (List Int)} (h : ¬ ValD zss) : validD zss = false := by simp [validD, h]

end Go.Proofs.Ytkfiepiipigcmaa

namespace Go.Proofs.Ytkfiepiipigcmaa
open Go.RowKit

end Go.Proofs.Ytkfiepiipigcmaa

namespace Go.Proofs.Ytkfiepiipigcmaa
open Go.RowKit

theorem ValDom_iff (d : List Int) : ValDom d ↔ (1 ≤ d.length ∧ d.length ≤ 8) ∧ Rising d ∧ allIn 0 31 d = true := by
  rw [allIn_iff]
  constructor
  · rintro ⟨h1, h2, h3⟩
    exact ⟨⟨h1, h2⟩, fun i hi h0 => (h3 i hi).2 h0, fun i hi => (h3 i hi).1⟩
  · rintro ⟨⟨h1, h2⟩, h3, h4⟩
    exact ⟨h1, h2, fun i hi => ⟨h4 i hi, h3 i hi⟩⟩

end Go.Proofs.Ytkfiepiipigcmaa

namespace Go.Proofs.Ytkfiepiipigcmaa

theorem popN_filter (x : Nat) : ∀ n, popN n x = ((List.range n).filter x.testBit).length
  | 0 => rfl
  | n + 1 => by
    rw [List.range_succ, List.filter_append, List.length_append, popN, popN_filter x n]
    cases h : x.testBit n <;> simp [h] <;> omega
/-- The digits 1. -/
def dig (s : Nat) : List Nat := (List.range 63).filter s.testBit
theorem dig_of {s i : Nat} (hs : s < 2 ^ i) (hi : i ≤ 63) : (List.range i).filter s.testBit = dig s := by
  unfold dig
  rw [show (63 : Nat) = i + (63 - i) by omega, List.range_add, List.filter_append]
  have : ((List.range (63 - i)).map (i + ·)).filter s.testBit = [] := by
    rw [List.filter_eq_nil_iff]
    intro a ha
    obtain ⟨b, _, rfl⟩ := List.mem_map.1 ha
    have : s.testBit (i + b) = false := Nat.testBit_lt_two_pow (Nat.lt_of_lt_of_le hs (Nat.pow_le_pow_right (by decide) (by omega)))
    simp [this]
  rw [this, List.append_nil]
theorem dig_len {s : Nat} (hs : s < 4294967296) : (dig s).length = popN 32 s := by
  rw [popN_filter, dig_of (i := 32) hs (by decide)]

def addN (l : List Int) (n : Int) : List Int := if hasB l n then l else l ++ [n]
/-- The numbers of some domains. -/
def uni (D : List (List Int)) (ds : List Nat) : List Int := ds.foldl (fun l i => (D.getD i []).foldl addN l) []
def tight (D : List (List Int)) (s : Nat) : Bool := (dig s).length == (uni D (dig s)).length
def tightL (D : List (List Int)) (m : Nat) : List Int := ((List.range m).filter (tight D)).map fun (k : Nat) => (k : Int)
theorem tightL_yes {D : List (List Int)} {m : Nat} (h : tight D m = true) : tightL D (m + 1) = tightL D m ++ [(m : Int)] := by
  simp [tightL, List.range_succ, h]
theorem tightL_no {D : List (List Int)} {m : Nat} (h : tight D m = false) : tightL D (m + 1) = tightL D m := by
  simp [tightL, List.range_succ, h]
theorem tightL_len (D : List (List Int)) (m : Nat) : (tightL D m).length ≤ m := by
  have := List.length_filter_le (tight D) (List.range m)
  simpa [tightL] using this

/-- The domains that are walked, of the first i, and k numbers of the next one. -/
def uniP (D : List (List Int)) (ds : List Nat) (i k : Nat) : List Int := ((D.getD i []).take k).foldl addN (uni D ds)
theorem uniP_zero (D : List (List Int)) (ds : List Nat) (i : Nat) : uniP D ds i 0 = uni D ds := by simp [uniP]
theorem uniP_succ (D : List (List Int)) (ds : List Nat) (i k : Nat) (h : k < (D.getD i []).length) : uniP D ds i (k + 1) = addN (uniP D ds i k) ((D.getD i []).getD k 0) := by
  unfold uniP
  rw [List.take_add_one, List.foldl_append]
  generalize D.getD i [] = d at h ⊢
  simp [h]
theorem uniP_all (D : List (List Int)) (ds : List Nat) (i : Nat) : uniP D ds i (D.getD i []).length = uni D (ds ++ [i]) := by
  unfold uniP uni
  rw [List.take_length, List.foldl_append]
  rfl
theorem addN_len (l : List Int) (n : Int) : (addN l n).length ≤ l.length + 1 := by
  unfold addN; split <;> simp

/-- A number's binary digits 1 are a list. -/
structure Mask (m : Nat) (l : List Int) : Prop where
  lt : m < 4294967296
  bit : ∀ b, b < 32 → m.testBit b = hasB l (b : Int)
  len : popN 32 m = l.length
theorem Mask.nil : Mask 0 [] := ⟨by decide, by intro b _; simp [hasB], popN_zero 32⟩
theorem hasB_append (l : List Int) (n x : Int) : hasB (l ++ [n]) x = (hasB l x || x == n) := by
  unfold hasB; rw [Bool.eq_iff_iff]; simp
theorem Mask.add {m : Nat} {l : List Int} (h : Mask m l) {n : Nat} (hn : n < 32) : Mask (m ||| 2 ^ n) (addN l (n : Int)) := by
  have hb := h.bit n hn
  have h32 : (2 : Nat) ^ n < 2 ^ 32 := Nat.pow_lt_pow_right (by decide) hn
  refine ⟨?_, ?_, ?_⟩
  · have h1 : m < 2 ^ 32 := h.lt
    exact Nat.or_lt_two_pow h1 h32
  · intro b hb2
    rw [Nat.testBit_or, Nat.testBit_two_pow, h.bit b hb2]
    unfold addN
    split
    · next hh =>
      by_cases e : n = b
      · subst e; rw [hh]; simp
      · simp [e]
    · rw [hasB_append]
      congr 1
      rw [Bool.eq_iff_iff]; simp; omega
  · rw [popN_or, h.len, hb]
    unfold addN
    split
    · next hh => rw [hh]; simp
    · next hh => rw [Bool.not_eq_true] at hh; rw [hh]; simp [hn]

end Go.Proofs.Ytkfiepiipigcmaa
