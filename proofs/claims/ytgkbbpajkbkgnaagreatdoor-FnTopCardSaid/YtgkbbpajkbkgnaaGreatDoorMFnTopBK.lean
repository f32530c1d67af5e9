/-
  FnTop: texts joined: DkRunI, LFnTop.
-/
import Derived.Deep.RegionWith
import Derived.Test.YtgkbbpajkbkgnaaGreatDoorMFnTopAN
import Derived.Test.YtgkbbpajkbkgnaaGreatDoorMFnTopBA
import Derived.Test.YtgkbbpajkbkgnaaGreatDoorMFnTopBH
import Derived.Test.YtgkbbpajkbkgnaaGreatDoorMFnTopBI
import Derived.Test.YtgkbbpajkbkgnaaGreatDoorMFnTopBJ
set_option linter.unusedVariables false
set_option linter.unusedSimpArgs false
namespace Go.Proofs.YtgkbbpajkbkgnaaGreatDoor
open Go.RowKit Go.Sort
theorem lines_le (s : ByteArray) : ∀ x ∈ linesS s, x.size ≤ s.size := by
  intro x hx
  unfold linesS at hx
  rw [cutS_lines] at hx
  exact cutS_le 10 s x (List.dropLast_subset _ hx)
theorem outs_le {d : DeskD} (hv : validDk d = true) (hb : BitsD d) (ls : List ByteArray) (k : Nat) : (scr (outsK d ls k)).size ≤ 2401 * k := by
  have := scr_size (ls := outsK d ls k) (N := 2400) fun x hx => (told_outs hv hb ls k x hx).2
  rw [outsK_len] at this
  exact this
/-- A row is read as before where its block stands. -/
theorem slc_block {w w' : World} {g n cap : Nat} {vs : List Value} {t : TypeId} {cs : Array Value} (h : Slc w (.slice (some ⟨g, 0, none⟩) n cap) vs) (h1 : Blk w g t cs) (h2 : Blk w' g t cs) : Slc w' (.slice (some ⟨g, 0, none⟩) n cap) vs := by
  rcases h with ⟨e, _⟩ | ⟨ad, cap', e, a, b, hc⟩
  · cases e
  · simp only [Value.slice.injEq, Option.some.injEq] at e
    obtain ⟨rfl, rfl, rfl⟩ := e
    refine .inr ⟨⟨g, 0, none⟩, cap, rfl, a, b, fun i u hi => ?_⟩
    have h3 : ((⟨g, 0, none⟩ : Addr).add i) = ⟨g, i, none⟩ := by unfold Addr.add; split <;> simp_all
    have h4 := hc i u hi
    rw [h3] at h4 ⊢
    have e : w'.heap[g]? = w.heap[g]? := (show w'.heap[g]? = _ from h2).trans (show w.heap[g]? = _ from h1).symm
    exact (World.cell?_of_block (w := w) (a := ⟨g, i, none⟩) e).trans h4
section
attribute [local go_sem ↓] stDeskP
attribute [local go_sem] stDesk_in stDesk_run
set_option maxHeartbeats 8000000 in
set_option maxRecDepth 8000 in
theorem runI_any (v : Value) (d : DeskD) (s : ByteArray) (w : World) (h : RdD w v d) (hv : validDk d = true) (hbt : BitsD d) (hp : HasPow w) (hm : HasMax w) (he : HasErrs w) (hok : coOk s = true) (hs : s.size ≤ 16000) :
    Calls Tryz.prog 16 #[v, .string s] w fun e w' => ∃ v', e = .returned (.tuple #[v', .string (rdkT d s), .bool true]) ∧ OwnDx w.heap.size w' v' (rdkD d s) ∧ Below w.heap.size w w' := by
  obtain ⟨a1, c1, a2, c2, a3, c3, a4, c4, a5, c5, a6, c6, rfl⟩ := h.shape
  have HVA := Lib.hid (fun X (hb : Below w.heap.size w X) => show Calls Tryz.prog 18 _ X _ from hv ▸ implVD_any _ d X (h.up hb (Nat.le_refl _)))
  have HOW := Lib.hid (fun X (hb : Below w.heap.size w X) => own_any _ d X (h.up hb (Nat.le_refl _)) hv)
  have HLO := Lib.hid (fun X (hb : Below w.heap.size w X) => linesOf_any s X (hm.up hb (Nat.le_refl _)) (by omega))
  have HCM := Lib.hid (fun k X v2 (hb : Below w.heap.size w X) (hr : RdD X v2 (stK d (linesS s) k)) => cmdI_any v2 (stK d (linesS s) k) ((linesS s).getD k E0) X hr (stK_valid hv _ k) (stK_bits hbt _ k) (hp.up hb (Nat.le_refl _)) (hm.up hb (Nat.le_refl _)) (he.up hb (Nat.le_refl _)) (by
    rw [List.getD_eq_getElem?_getD]
    cases hq : (linesS s)[k]? with
    | none => exact Nat.zero_le _
    | some x => exact Nat.le_trans (lines_le s x (List.mem_of_getElem? hq)) (by omega)))
  have HOL := Lib.hid (fun k => outs_le hv hbt (linesS s) k)
  have HTL := Lib.hid (fun k => (told_cmd (stK_valid hv (linesS s) k) (stK_bits hbt (linesS s) k) ((linesS s).getD k E0)).2)
  have hll := linesS_le s
  rw [hok] at HLO
  have HR1 := Lib.hid (show rdkD d s = stK d (linesS s) (linesS s).length from rfl)
  have HR2 := Lib.hid (show rdkT d s = scr (outsK d (linesS s) (linesS s).length) from rfl)
  obtain ⟨rd, hrd⟩ : ∃ x, x = rdkD d s := ⟨_, rfl⟩
  obtain ⟨rt, hrt⟩ : ∃ x, x = rdkT d s := ⟨_, rfl⟩
  rw [← hrd] at HR1 ⊢
  rw [← hrt] at HR2 ⊢
  obtain ⟨L, hL⟩ : ∃ L, L = linesS s := ⟨_, rfl⟩
  rw [← hL] at HLO HCM HOL HTL HR1 HR2 hll
  obtain ⟨n, hn⟩ : ∃ n, n = L.length := ⟨_, rfl⟩
  rw [← hn] at HLO HR1 HR2 hll
  have HNL := Lib.hid hn
  clear h hv hbt hp hm he hok hrd hrt hL hn
  go_enter Tryz.func16, Tryz.ntmps16
  go_upto_region 1 with fail
  refine wp_at fun W0 hW0 => ?_
  have HB0 := Lib.hid (show Below w.heap.size w W0 by subst hW0; (repeat' first | exact Below.refl _ _ | assumption | refine Below.alloc ?_ ?_ _ | refine Below.setCell ?_ ?_ _ | refine Below.drew ?_ | (simp; done) | (simp; omega)))
  have HK0 := Lib.hid (show Blk W0 w.heap.size 30 #[.int .i64 d.rows.vars, .slice a1 d.rows.nums.length c1, .slice a2 d.rows.bnds.length c2, .slice a3 d.rows.gains.length c3, .slice a4 d.sizes.length c4, .slice a5 d.jobs.length c5, .slice a6 d.ways.length c6] by subst hW0; exact (Blk.new _ _ _).alloc _)
  have HL0 := Lib.hid (show Blk W0 (w.heap.size + 1) 30 zD by subst hW0; simpa using Blk.new (w.alloc (.cells #[.int .i64 d.rows.vars, .slice a1 d.rows.nums.length c1, .slice a2 d.rows.bnds.length c2, .slice a3 d.rows.gains.length c3, .slice a4 d.sizes.length c4, .slice a5 d.jobs.length c5, .slice a6 d.ways.length c6] 30)) 30 zD)
  clear hW0
  have hl0 := HL0.out.lt
  go_upto_region 4 with (first
    | (go_at_call 53; refine (HLO.out W0 HB0.out).mono ?_; rintro e w1 ⟨lv, rfl, hlv, hb1⟩; obtain ⟨la, lcap, rfl, hsl, lg, lcs, rfl, hlg, hlb⟩ := hlv rfl; have HB1 := HB0.out.trans (hb1.mono HB0.out.size); obtain ⟨i0, i1, i2, i3, i4, i5, i6⟩ := desk_cells (HK0.out.below hb1 HK0.out.lt))
    | (go_at_call 18; refine (HVA.out w1 HB1).mono ?_; rintro e w2 ⟨rfl, hb2⟩))
  have HB2 := Lib.hid (HB1.trans (hb2.mono HB1.size))
  have HK2 := Lib.hid ((HK0.out.below hb1 HK0.out.lt).below hb2 (Nat.lt_of_lt_of_le HK0.out.lt hb1.size))
  have HL2 := Lib.hid ((HL0.out.below hb1 hl0).below hb2 (Nat.lt_of_lt_of_le hl0 hb1.size))
  have HS2 := Lib.hid (slc_block hsl hlb (hlb.below hb2 hlb.lt))
  have HG2 := Lib.hid (hlb.below hb2 hlb.lt)
  have hz0 := HB0.out.size
  have hgw : w.heap.size + 1 < lg := by omega
  clear i0 i1 i2 i3 i4 i5 i6 hb1 hb2 hlv hsl hlb HB1 HK0 HL0 HB0 HVA HLO hlg hz0 hl0
  obtain ⟨i0, i1, i2, i3, i4, i5, i6⟩ := desk_cells HK2.out
  go_upto_region 5 with (go_at_call 54; refine (HOW.out w2 HB2.out).mono ?_; rintro e w3 ⟨v3, rfl, ho3, hb3⟩; obtain ⟨b1, e1, b2, e2, b3, e3, b4, e4, b5, e5, b6, e6, rfl⟩ := ho3.shape; have HT : w3.there w.heap.size 0 7 := (store_blk (cells := zD) (HK2.out.below hb3 HK2.out.lt) rfl).1)
  refine wp_at fun W4 hW4 => ?_
  have hz2 := HB2.out.size
  have hx := put_desk (cs := #[.int .i64 d.rows.vars, .slice b1 d.rows.nums.length e1, .slice b2 d.rows.bnds.length e2, .slice b3 d.rows.gains.length e3, .slice b4 d.sizes.length e4, .slice b5 d.jobs.length e5, .slice b6 d.ways.length e6]) (ho3.wide hz2) (HK2.out.below hb3 HK2.out.lt) rfl
  rw [← hW4] at hx
  have HD4 := Lib.hid (show DskAt w.heap.size W4 w.heap.size d from ⟨_, hx.2.1, hx.1⟩)
  have HB4 := Lib.hid (show Below w.heap.size w W4 from (HB2.out.trans (hb3.mono hz2)).trans (hx.2.2.1.toBelow (Nat.le_trans hz2 hb3.size) (fun k h1 h2 => by omega)))
  have HL4 := Lib.hid ((HL2.out.below hb3 HL2.out.lt).kept hx.2.2.1 (show ¬ w.heap.size + 1 = w.heap.size by omega))
  have HG4 := Lib.hid ((HG2.out.below hb3 HG2.out.lt).kept hx.2.2.1 (show ¬ lg = w.heap.size by omega))
  have HS4 := Lib.hid (slc_block HS2.out HG2.out HG4.out)
  clear hW4 hx HT ho3 hb3 HK2 HL2 HG2 HS2 HB2 hz2 HOW i0 i1 i2 i3 i4 i5 i6
  go_upto_region 6 with fail
  refine wp_at fun W5 hW5 => ?_
  obtain ⟨bb, hbb⟩ : ∃ b, b = W4.heap.size := ⟨_, rfl⟩
  have hz4 := HB4.out.size
  have hg4 := HG4.out.lt
  have HA := Lib.hid (show Below w.heap.size W4 W5 by subst hW5; exact (Below.refl _ _).alloc hz4 _)
  have HB5 := Lib.hid (HB4.out.trans HA.out)
  have HBA := Lib.hid (show Below W4.heap.size W4 W5 by subst hW5; exact (Below.refl _ _).alloc (Nat.le_refl _) _)
  have HI5 := Lib.hid (show Lib.IsBuilder TB 5 w.heap.size bb (Lib.strCells (scr (outsK d L 0))) W5 by
    subst hW5 hbb
    exact Or.inl ⟨hz4, .slice none 0 0, heap_alloc_new W4 _, World.ownsRow_nil _ _ _ _, by simp [Value.ownBlock]⟩)
  have HD5 := Lib.hid (HD4.out.up HBA.out (Nat.le_refl _))
  have HL5 := Lib.hid (HL4.out.below HBA.out HL4.out.lt)
  have HG5 := Lib.hid (HG4.out.below HBA.out hg4)
  have hbw : w.heap.size + 1 < bb := by omega
  have hbg : lg ≠ bb := by omega
  have hb5 : bb < W5.heap.size := by subst hW5 hbb; simp
  rw [← hbb]
  clear hW5 hbb HD4 HL4 HB4 HA HBA hz4 hg4
  go_wp2_with fail
  go_loopw [31] (fun iv wr => ∃ k : Nat, iv = .int .i64 k ∧ k ≤ n ∧ Hid (DskAt w.heap.size wr w.heap.size (stK d L k)) ∧ Hid (Lib.IsBuilder TB 5 w.heap.size bb (Lib.strCells (scr (outsK d L k))) wr) ∧ Hid (Blk wr lg 9 lcs) ∧ Hid (Blk wr (w.heap.size + 1) 30 zD) ∧ Hid (Below w.heap.size w wr)) (fun iv _ => n - (intOf iv).toNat)
  case atStart => exact ⟨0, rfl, Nat.zero_le _, HD5, HI5, HG5, HL5, HB5⟩
  case round =>
    clear HD5 HI5 HG5 HL5 HB5 hb5
    obtain ⟨k, rfl, hk, HD, HI, HG, HL, HB⟩ := hrel
    obtain ⟨wo, rfl⟩ : ∃ wo, wo = wr := ⟨wr, rfl⟩
    have hzo := HB.out.size
    by_cases hlt : k < n
    · have hltI : (k : Int) < (n : Int) := by omega
      obtain ⟨lg', off, ee, _, hc⟩ := (slc_block HS4.out HG4.out HG.out).at (i := k) (u := .string (L.getD k E0)) (by rw [List.getElem?_map, List.getD_eq_getElem?_getD, List.getElem?_eq_getElem (by rw [← HNL.out]; exact hlt)]; rfl)
      simp only [Option.some.injEq, Addr.mk.injEq, and_true] at ee
      obtain ⟨rfl, rfl⟩ := ee
      rw [Nat.zero_add] at hc
      obtain ⟨b1, e1, b2, e2, b3, e3, b4, e4, b5, e5, b6, e6, hblk, hown⟩ := HD.out.shape
      obtain ⟨i0, i1, i2, i3, i4, i5, i6⟩ := desk_cells hblk
      have HC := Lib.hid (HCM.out k wo _ HB.out hown.rd)
      have HST : Hid (stK d L (k + 1) = (cmdK (stK d L k) (L.getD k E0)).1) := rfl
      have HAN : Hid (ansK d L k = (cmdK (stK d L k) (L.getD k E0)).2) := rfl
      have HSC := Lib.hid (outsK_scr d L k)
      have hol := HOL.out k
      have htl := HTL.out k
      obtain ⟨x, hx⟩ : ∃ x, x = L.getD k E0 := ⟨_, rfl⟩
      rw [← hx] at hc HC HST HAN htl
      obtain ⟨d1, hd1⟩ : ∃ y, y = stK d L k := ⟨_, rfl⟩
      rw [← hd1] at HC HST HAN hblk hown i0 i1 i2 i3 i4 i5 i6 htl
      obtain ⟨d2, hd2⟩ : ∃ y, y = (cmdK d1 x).1 := ⟨_, rfl⟩
      obtain ⟨out, hout⟩ : ∃ o, o = (cmdK d1 x).2 := ⟨_, rfl⟩
      rw [← hd2] at HC HST
      rw [← hout] at HC HAN htl
      have HBK := Lib.hid hblk
      rw [HAN.out] at HSC
      obtain ⟨T, hT⟩ : ∃ T, T = scr (outsK d L k) := ⟨_, rfl⟩
      rw [← hT] at HSC HI hol
      clear hx hd1 hd2 hout hblk hown HD hT
      go_upto_region 10 with (go_at_call 55; refine HC.out.mono ?_; rintro e w5 ⟨v5, rfl, ho5, hb5⟩; obtain ⟨f1, g1, f2, g2, f3, g3, f4, g4, f5, g5, f6, g6, rfl⟩ := ho5.shape; have HT : (w5.alloc (.cells zD 30)).there w5.heap.size 0 7 := (store_blk (cells := zD) (Blk.new w5 30 zD) rfl).1)
      refine wp_at fun W6 hW6 => ?_
      obtain ⟨nb, hnb⟩ : ∃ b, b = w5.heap.size := ⟨_, rfl⟩
      have hz5 := hb5.size
      have hx := put_desk (cs := #[.int .i64 d2.rows.vars, .slice f1 d2.rows.nums.length g1, .slice f2 d2.rows.bnds.length g2, .slice f3 d2.rows.gains.length g3, .slice f4 d2.sizes.length g4, .slice f5 d2.jobs.length g5, .slice f6 d2.ways.length g6]) ((ho5.wide hzo).up ((Below.refl w5.heap.size w5).alloc (Nat.le_refl _) (.cells zD 30)) (Nat.le_refl _)) (Blk.new w5 30 zD) rfl
      have hI6 := isB_other (isB_up (isB_up HI.out hb5) ((Below.refl w5.heap.size w5).alloc (Nat.le_refl _) (.cells zD 30))) (Blk.new w5 30 zD) (by decide) (by decide) hx.2.2.1
      rw [← hW6] at hx hI6
      rw [← hnb] at hx
      have hlw := HBK.out.lt
      have hlg := HG.out.lt
      have hl4 := HL.out.lt
      have HBK6 := Lib.hid (((HBK.out.below hb5 hlw).alloc (.cells zD 30)).kept hx.2.2.1 (show ¬ w.heap.size = nb by omega))
      have HG6 := Lib.hid (((HG.out.below hb5 hlg).alloc (.cells zD 30)).kept hx.2.2.1 (show ¬ lg = nb by omega))
      have HL6 := Lib.hid (((HL.out.below hb5 hl4).alloc (.cells zD 30)).kept hx.2.2.1 (show ¬ w.heap.size + 1 = nb by omega))
      have HB6 := Lib.hid (show Below w.heap.size w W6 from ((HB.out.trans (hb5.mono hzo)).alloc (by omega) (.cells zD 30)).trans (hx.2.2.1.toBelow (by simp; omega) (fun k h1 h2 => by omega)))
      have HX6 := Lib.hid hx
      have HI6 := Lib.hid hI6
      have HT6 : W6.there w.heap.size 0 7 := (store_blk (cells := zD) HBK6.out rfl).1
      have hnw : w.heap.size ≠ nb := by omega
      rw [← hnb]
      clear hW6 hx hI6 ho5 hb5 HT hnb hlw hlg hl4 HBK HG HL HB HI i0 i1 i2 i3 i4 i5 i6 hc HC
      obtain ⟨i0, i1, i2, i3, i4, i5, i6⟩ := desk_cells HX6.out.2.1
      go_upto_region 11 with fail
      refine wp_at fun W7 hW7 => ?_
      have hy := put_desk (cs := #[.int .i64 d2.rows.vars, .slice f1 d2.rows.nums.length g1, .slice f2 d2.rows.bnds.length g2, .slice f3 d2.rows.gains.length g3, .slice f4 d2.sizes.length g4, .slice f5 d2.jobs.length g5, .slice f6 d2.ways.length g6]) HX6.out.1 HBK6.out rfl
      rw [← hW7] at hy
      have HI7 := Lib.hid (isB_other HI6.out HBK6.out (by decide) (by decide) hy.2.2.1)
      have HG7 := Lib.hid (HG6.out.kept hy.2.2.1 (show ¬ lg = w.heap.size by omega))
      have HL7 := Lib.hid (HL6.out.kept hy.2.2.1 (show ¬ w.heap.size + 1 = w.heap.size by omega))
      have HB7 := Lib.hid (HB6.out.trans (hy.2.2.1.toBelow HB6.out.size (fun k h1 h2 => by omega)))
      have HY7 := Lib.hid hy
      clear hW7 hy HT6 HX6 HI6 HG6 HL6 HB6 HBK6 i0 i1 i2 i3 i4 i5 i6
      have hz7 := HB7.out.size
      have n1 : ¬ 9223372036854775807 < out.size + 1 := by omega
      go_wp2_with (go_at_call 56; refine (WriteStringK_any w.heap.size bb _ (out ++ B1 10) W7 HI7.out (by rw [Lib.strCells_length, ByteArray.size_append, show (B1 10).size = 1 from rfl]; omega) hz7).mono ?_; rintro e w8 ⟨rfl, hi8, hk8, hb8⟩)
      obtain ⟨bcs, hbB⟩ := IsB.blk HI7.out
      have HD8 := Lib.hid (show DskAt w.heap.size w8 w.heap.size d2 from ⟨_, blk_bufs HY7.out.2.1 hk8 hbB (by decide) (by decide), HY7.out.1.bufs hk8 hbB⟩)
      have HG8 := Lib.hid (blk_bufs HG7.out hk8 hbB (by decide) (by decide))
      have HL8 := Lib.hid (blk_bufs HL7.out hk8 hbB (by decide) (by decide))
      have HI8 := Lib.hid hi8
      have HB8 := Lib.hid (HB7.out.trans hb8)
      clear hi8 hk8 hb8 hbB
      go_roundw
      case rel => exact ⟨k + 1, by go_num, by omega, Lib.hid (by rw [HST.out]; exact HD8.out), Lib.hid (by rw [HSC.out, strCells_add]; exact HI8.out), HG8, HL8, HB8⟩
      case measure => simp [intOf]; omega
    · obtain rfl : k = n := by omega
      obtain ⟨b1, e1, b2, e2, b3, e3, b4, e4, b5, e5, b6, e6, hblk, hown⟩ := HD.out.shape
      obtain ⟨T, hT⟩ : ∃ T, T = scr (outsK d L k) := ⟨_, rfl⟩
      have HTE := Lib.hid (show rt = T by rw [hT]; exact HR2.out)
      rw [← hT] at HI
      obtain ⟨d1, hd1⟩ : ∃ y, y = stK d L k := ⟨_, rfl⟩
      have HDE := Lib.hid (show rd = d1 by rw [hd1]; exact HR1.out)
      rw [← hd1] at hblk hown
      have HBK := Lib.hid hblk
      have HOD := Lib.hid hown
      obtain ⟨i0, i1, i2, i3, i4, i5, i6⟩ := desk_cells (show Blk wo.drew w.heap.size 30 _ from hblk)
      have HIF := Lib.hid (show Lib.IsBuilderF TB 5 w.heap.size bb (Lib.byteCells T.data.toList) wo.drew from Lib.IsBuilderF.of HI.out)
      have HSS : Hid ((⟨T.data.toList.toArray⟩ : ByteArray) = T) := by
        show _ = _
        simp
      obtain ⟨bcs, hbB⟩ := IsB.blk HI.out
      have HFB := Lib.hid hbB
      have FIN := Lib.hid (fun (w9 : World) (hkB : Kept (BufS wo bb) wo w9) (hb9 : Below w.heap.size wo w9) => by
        have h1 := blk_bufs HBK.out hkB HFB.out (by decide) (by decide)
        have h2 := HOD.out.bufs hkB HFB.out
        have h3 := blk_bufs HL.out hkB HFB.out (by decide) (by decide)
        have hx := put_desk (cs := #[.int .i64 d1.rows.vars, .slice b1 d1.rows.nums.length e1, .slice b2 d1.rows.bnds.length e2, .slice b3 d1.rows.gains.length e3, .slice b4 d1.sizes.length e4, .slice b5 d1.jobs.length e5, .slice b6 d1.ways.length e6]) h2 h3 rfl
        have hB := HB.out.trans hb9
        exact show Blk w9 w.heap.size 30 #[.int .i64 d1.rows.vars, .slice b1 d1.rows.nums.length e1, .slice b2 d1.rows.bnds.length e2, .slice b3 d1.rows.gains.length e3, .slice b4 d1.sizes.length e4, .slice b5 d1.jobs.length e5, .slice b6 d1.ways.length e6] ∧ w9.there (w.heap.size + 1) 0 7 ∧ OwnDx w.heap.size (deskPut w9 (w.heap.size + 1) #[.int .i64 d1.rows.vars, .slice b1 d1.rows.nums.length e1, .slice b2 d1.rows.bnds.length e2, .slice b3 d1.rows.gains.length e3, .slice b4 d1.sizes.length e4, .slice b5 d1.jobs.length e5, .slice b6 d1.ways.length e6]) (.agg #[.int .i64 d1.rows.vars, .slice b1 d1.rows.nums.length e1, .slice b2 d1.rows.bnds.length e2, .slice b3 d1.rows.gains.length e3, .slice b4 d1.sizes.length e4, .slice b5 d1.jobs.length e5, .slice b6 d1.ways.length e6]) d1 ∧ Below w.heap.size w (deskPut w9 (w.heap.size + 1) #[.int .i64 d1.rows.vars, .slice b1 d1.rows.nums.length e1, .slice b2 d1.rows.bnds.length e2, .slice b3 d1.rows.gains.length e3, .slice b4 d1.sizes.length e4, .slice b5 d1.jobs.length e5, .slice b6 d1.ways.length e6]) ∧ Blk (deskPut w9 (w.heap.size + 1) #[.int .i64 d1.rows.vars, .slice b1 d1.rows.nums.length e1, .slice b2 d1.rows.bnds.length e2, .slice b3 d1.rows.gains.length e3, .slice b4 d1.sizes.length e4, .slice b5 d1.jobs.length e5, .slice b6 d1.ways.length e6]) (w.heap.size + 1) 30 #[.int .i64 d1.rows.vars, .slice b1 d1.rows.nums.length e1, .slice b2 d1.rows.bnds.length e2, .slice b3 d1.rows.gains.length e3, .slice b4 d1.sizes.length e4, .slice b5 d1.jobs.length e5, .slice b6 d1.ways.length e6] from
          ⟨h1, (store_blk (cells := zD) h3 rfl).1, hx.1, hB.trans (hx.2.2.1.toBelow hB.size (fun k h1 h2 => by omega)), hx.2.1⟩)
      have hst := Tryz.Builder_String_any_k w.heap.size bb T.data.toList wo.drew HIF.out hzo
      rw [HSS.out] at hst
      have HSTR := Lib.hid hst
      clear hblk hown HD hd1 hT HR1 HR2 hbB hst
      go_wp2_with fail
      go_region_with (go_at_call 57; refine HSTR.out.mono ?_; rintro e w9 ⟨rfl, _, hb9, hk9⟩; have hkB : Kept (BufS wo bb) wo w9 := kept_others (w := wo) hk9 (Below.trans (Below.refl _ wo).drew hb9); obtain ⟨f1, f2, f3, f4, f5⟩ := FIN.out w9 hkB (Below.trans (Below.refl _ wo).drew hb9); obtain ⟨j0, j1, j2, j3, j4, j5, j6⟩ := desk_cells f1; obtain ⟨q0, q1, q2, q3, q4, q5, q6⟩ := desk_cells f5)
      all_goals
        go_wp2_with fail
        go_simp
        refine bodyPost_ret (v := .tuple #[.agg #[.int .i64 d1.rows.vars, .slice b1 d1.rows.nums.length e1, .slice b2 d1.rows.bnds.length e2, .slice b3 d1.rows.gains.length e3, .slice b4 d1.sizes.length e4, .slice b5 d1.jobs.length e5, .slice b6 d1.ways.length e6], .string T, .bool true]) (by simp [results, Tryz.results16, go_sem, *]) rfl ?_
        rw [HTE.out, HDE.out]
        exact ⟨_, rfl, f3, f4⟩
end
end Go.Proofs.YtgkbbpajkbkgnaaGreatDoor

namespace Go.Proofs.YtgkbbpajkbkgnaaGreatDoor
open Go.RowKit Go.Sort
theorem newD_ok : validDk newD = true ∧ BitsD newD := by
  obtain ⟨z1, z2, z3, z4⟩ := newD_valid
  refine ⟨?_, ?_⟩
  · unfold validDk
    rw [z1, z2, z3, z4]; rfl
  · refine ⟨?_, ?_, ?_⟩
    · intro x hx
      have hx : x ∈ [1065353216, 1065353216, 1065353216, 0] := hx
      simp at hx; omega
    · intro x hx
      have hx : x ∈ [1082130432, 1077936128] := hx
      simp at hx; omega
    · intro x hx
      have hx : x ∈ [1073741824, 1065353216] := hx
      simp at hx; omega
/-- The script, carried out. -/
theorem top_run {d : DeskD} (h : validDk d = true) (hb : BitsD d) {n : Int} (h0 : 0 ≤ n) (h1 : n ≤ 1000) (hm : maxL d.sizes ≤ n) (hs : scaleOk d.rows = true) :
    (coOk (scr (topL d n)) = true ∧ (scr (topL d n)).size ≤ 16000) ∧ rdkD newD (scr (topL d n)) = topD d ∧ rdkT newD (scr (topL d n)) = scr (topO d n) := by
  have hz := top_sizes h h0 h1
  have hl := scr_lines (top_nonl d n)
  have hst := top_steps h hb h0 h1 hm hs
  refine ⟨⟨scr_ok (top_nonl d n) hz.1, hz.1⟩, ?_, ?_⟩
  · unfold rdkD
    rw [hl]
    exact hst.1
  · unfold rdkT
    rw [hl]
    show scr (outsK newD (topL d n) 17) = _
    rw [hst.2]
/-- The outputs, counted. -/
theorem top_cnt {d : DeskD} (h : validDk d = true) {n : Int} (h0 : 0 ≤ n) (h1 : n ≤ 1000) : coOk (scr (topO d n)) = true ∧ coBad (scr (topO d n)) = 1 ∧ coGood (scr (topO d n)) = 16 ∧ (scr (topO d n)).size ≤ 16000 := by
  have hz := top_sizes h h0 h1
  have hl := scr_lines (topO_nonl d n)
  have hok := scr_ok (topO_nonl d n) hz.2
  obtain ⟨c1, c2⟩ := coYes hok
  rw [hl, show (topO d n).length = 17 from rfl, top_bad] at c1 c2
  exact ⟨hok, c1, c2, hz.2⟩
theorem tour_in (ws : List Int) : ∀ x ∈ idxs (tourLst ws), 0 ≤ x ∧ x ≤ 100000 := by
  intro z hz
  obtain ⟨x, hx, rfl⟩ := List.mem_map.1 (show z ∈ (tourLst ws).map (fun (i : Nat) => (i : Int)) from hz)
  unfold tourLst at hx
  split at hx
  · rename_i h
    obtain ⟨n, hn1, hn10, hxl, hc, hW⟩ := cities_get h
    unfold tourT at hx
    rw [hc, Int.toNat_natCast] at hx
    have := bt_lst hn1 (n - 1) [] ([], 0) (fun c hc => by cases hc) (fun c hc => by cases hc) x hx
    omega
  · cases hx
theorem due_in (js : List JobD) : ∀ x ∈ dueL js, 0 ≤ x ∧ x ≤ 100000 := by
  intro z hz
  unfold dueL at hz
  split at hz
  · rename_i h
    have h2 := (jobs_all h).2.1
    obtain ⟨x, hx, rfl⟩ := List.mem_map.1 (show z ∈ (ordL (dueK js) js.length).map (fun (i : Nat) => (i : Int)) from hz)
    have := ordL_lt _ _ x hx
    omega
  · cases hz
theorem in64 {xs : List Int} (h : ∀ x ∈ xs, 0 ≤ x ∧ x ≤ 100000) : allIn (-1000000000000000) 1000000000000000 xs = true := by
  rw [allIn_iff]
  intro i hi
  have := h (xs.getD i 0) (by rw [List.getD_eq_getElem?_getD, List.getElem?_eq_getElem hi]; exact List.getElem_mem _)
  rw [inB_iff]; omega
theorem itoa2 : itoaB 2 = ⟨#[50]⟩ := by
  show itoaB ((2 : Nat) : Int) = _
  rw [itoaB_nat]
  unfold decS
  rw [Lib.decDigits]
  rfl
theorem top_text (A B C E R : ByteArray) : ((⟨#[114, 111, 119, 115, 32]⟩ : ByteArray) ++ A ++ ⟨#[10, 115, 105, 122, 101, 115, 32]⟩ ++ B ++ ⟨#[10, 106, 111, 98, 115, 32]⟩ ++ C ++ ⟨#[10, 119, 97, 121, 115, 32]⟩ ++ E ++ ⟨#[10, 114, 111, 119, 115, 10, 115, 105, 122, 101, 115, 10, 106, 111, 98, 115, 10, 119, 97, 121, 115, 10, 102, 105, 108, 108, 32]⟩ ++ R ++ ⟨#[10, 98, 105, 110, 115, 32]⟩ ++ R ++ ⟨#[10, 98, 105, 110, 32]⟩ ++ R ++ ⟨#[10, 116, 111, 117, 114, 10, 108, 111, 110, 103, 10, 100, 117, 101, 10, 108, 97, 116, 101, 10, 108, 105, 115, 116, 32, 50, 10, 115, 99, 97, 108, 101, 10]⟩) = scr [kwRows ++ B1 32 ++ A, kwSizes ++ B1 32 ++ B, kwJobs ++ B1 32 ++ C, kwWays ++ B1 32 ++ E, kwRows, kwSizes, kwJobs, kwWays, kwFill ++ B1 32 ++ R, kwBins ++ B1 32 ++ R, kwBin ++ B1 32 ++ R, kwTour, kwLong, kwDue, kwLate, kwList ++ B1 32 ++ itoaB 2, kwScale] := by
  rw [itoa2]
  apply ByteArray.ext
  apply Array.ext'
  simp only [scr, ba_list, B1, E0, List.append_assoc, List.cons_append, List.nil_append, List.append_nil]
theorem top_out (A B C E f b t l u a p : ByteArray) : ((⟨#[111, 107, 10, 111, 107, 10, 111, 107, 10, 111, 107, 10]⟩ : ByteArray) ++ A ++ ⟨#[10]⟩ ++ B ++ ⟨#[10]⟩ ++ C ++ ⟨#[10]⟩ ++ E ++ ⟨#[10]⟩ ++ f ++ ⟨#[10]⟩ ++ b ++ ⟨#[10, 119, 104, 97, 116, 10]⟩ ++ t ++ ⟨#[10]⟩ ++ l ++ ⟨#[10]⟩ ++ u ++ ⟨#[10]⟩ ++ a ++ ⟨#[10]⟩ ++ p ++ ⟨#[10, 111, 107, 10]⟩) = scr [kwOk, kwOk, kwOk, kwOk, A, B, C, E, f, b, kwWhat, t, l, u, a, p, kwOk] := by
  apply ByteArray.ext
  apply Array.ext'
  simp only [scr, ba_list, B1, E0, List.append_assoc, List.cons_append, List.nil_append, List.append_nil]
set_option maxHeartbeats 8000000 in
set_option maxRecDepth 8000 in
theorem lawFnTop_any (w : World) (v0 : Value) (xs : List Int) (h0 : RdB w v0 xs) (y0 : WfB xs) (v1 : Value) (ys : List Int) (h1 : RdB w v1 ys) (y1 : WfB ys) (hp : HasPow w) (hm : HasMax w) (he : HasErrs w) :
    Calls Tryz.prog 3 #[v0, v1] w fun e w' => e = .returned (.bool true) ∧ Below w.heap.size w w' := by
  have HLNG := Lib.hid (r8Long_any v0 v1 xs ys w h0 h1)
  by_cases hl : isLong8 xs ys = true
  · rw [hl] at HLNG
    clear h0 h1 y0 y1 hp hm he hl
    go_enter Tryz.func3, Tryz.ntmps3
    go_wp2_with (go_at_call 9; refine HLNG.out.mono ?_; rintro e w0 ⟨rfl, rfl⟩)
    go_ret
    exact ⟨rfl, Below.refl _ _⟩
  rw [Bool.not_eq_true] at hl
  rw [hl] at HLNG
  have HDR := Lib.hid (R8Desk_any v0 xs w h0 y0)
  have HY := Lib.hid h1
  have HYW := Lib.hid y1
  have HPW := Lib.hid hp
  have HMX := Lib.hid hm
  have HER := Lib.hid he
  clear h0 h1 y0 y1 hp hm he hl
  go_enter Tryz.func3, Tryz.ntmps3
  go_upto_region 4 with (first
    | (go_at_call 9; refine HLNG.out.mono ?_; rintro e w0 ⟨rfl, rfl⟩)
    | (go_at_call 10; refine HDR.out.mono ?_; rintro e w1 ⟨d, dv, hd, rfl, hrd, hb1⟩; obtain ⟨a1, c1, a2, c2, a3, c3, a4, c4, a5, c5, a6, c6, rfl⟩ := hrd.shape))
  refine wp_at fun W hW => ?_
  have HB1 := Lib.hid hb1
  have HBW := Lib.hid (show Below w.heap.size w W by subst hW; exact HB1.out.alloc HB1.out.size _)
  have HKW := Lib.hid (show Blk W w1.heap.size 30 #[.int .i64 d.rows.vars, .slice a1 d.rows.nums.length c1, .slice a2 d.rows.bnds.length c2, .slice a3 d.rows.gains.length c3, .slice a4 d.sizes.length c4, .slice a5 d.jobs.length c5, .slice a6 d.ways.length c6] by subst hW; exact Blk.new _ _ _)
  have HRD := Lib.hid (show RdD W (.agg #[.int .i64 d.rows.vars, .slice a1 d.rows.nums.length c1, .slice a2 d.rows.bnds.length c2, .slice a3 d.rows.gains.length c3, .slice a4 d.sizes.length c4, .slice a5 d.jobs.length c5, .slice a6 d.ways.length c6]) d by subst hW; exact hrd.up ((Below.refl w1.heap.size w1).alloc (Nat.le_refl _) _) (Nat.le_refl _))
  obtain ⟨hv, hbt, hsc, hmx⟩ := drawD_ok hd
  obtain ⟨q1, q2, q3, q4⟩ := valid_parts hv
  have q5 := ways_eight (show waysB d.ways = true by unfold validDk at hv; simp only [Bool.and_eq_true] at hv; exact hv.2.2.2)
  have PW := Lib.hid (fun X (hb : Below W.heap.size W X) => (HPW.out.up (HBW.out) (Nat.le_refl _)).up hb (Nat.le_refl _))
  have MX := Lib.hid (fun X (hb : Below W.heap.size W X) => (HMX.out.up (HBW.out) (Nat.le_refl _)).up hb (Nat.le_refl _))
  have ER := Lib.hid (fun X (hb : Below W.heap.size W X) => (HER.out.up (HBW.out) (Nat.le_refl _)).up hb (Nat.le_refl _))
  have RD := Lib.hid (fun X (hb : Below W.heap.size W X) => HRD.out.up hb (Nat.le_refl _))
  have CE := Lib.hid (fun X (hb : Below W.heap.size W X) => desk_cells (HKW.out.below hb HKW.out.lt))
  have HYX := Lib.hid (fun X (hb : Below W.heap.size W X) => (HY.out.up HBW.out (Nat.le_refl _)).up hb (Nat.le_refl _))
  have H4 := Lib.hid (fun X (hb : Below W.heap.size W X) => rowsTextI_any _ d.rows X (RD.out X hb).parts.1 hbt.1 hbt.2.1 hbt.2.2 (PW.out X hb))
  have H5 := Lib.hid (fun X (hb : Below W.heap.size W X) => listTextOk_any _ d.sizes X (RD.out X hb).parts.2.1 (small_sizes q2) (by have := (sizes_all q2).1.2; omega) (in64 (fun x hx => by have := (sizes_all q2).2 x hx; omega)) (PW.out X hb))
  have H6 := Lib.hid (fun X (hb : Below W.heap.size W X) => jobsTextI_any _ d.jobs X (RD.out X hb).parts.2.2.1 (PW.out X hb))
  have H7 := Lib.hid (fun X (hb : Below W.heap.size W X) => listTextOk_any _ d.ways X (RD.out X hb).parts.2.2.2 (small_ways q4) (by omega) (in64 (fun x hx => by have := ways_mem q4 x hx; omega)) (PW.out X hb))
  have H8 := Lib.hid (fun X (hb : Below W.heap.size W X) => r8At_any v1 ys 0 10 X (HYX.out X hb) HYW.out (by omega) (by omega) (by omega) (by omega))
  have H9 := Lib.hid (fun X (n : Int) (hn : InZ n) (hb : Below W.heap.size W X) => DecimalZ_any n hn.1 hn.2 X (PW.out X hb))
  rw [q1] at H4
  rw [q3] at H6
  have H14 := Lib.hid (fun X (n : Int) (hn : 9 ≤ n ∧ n ≤ 18) (hb : Below W.heap.size W X) => show Calls Tryz.prog 19 #[_, .int .i64 n] X fun e w' => e = .returned (.tuple #[.int .i64 (fillN d.sizes n), .bool true]) ∧ Below X.heap.size X w' by
    have h := wtfI_any _ d.sizes n X (RD.out X hb).parts.2.1
    rwa [show fillB d.sizes n = true by unfold fillB; rw [q2, show inB 0 1000 n = true by rw [inB_iff]; omega]; rfl] at h)
  have H15 := Lib.hid (fun X (n : Int) (hn : 9 ≤ n ∧ n ≤ 18) (hb : Below W.heap.size W X) => show Calls Tryz.prog 20 #[_, .int .i64 n] X fun e w' => ∃ u, e = .returned (.tuple #[u, .int .i64 (fbN d.sizes n), .bool true]) ∧ OwnI X.heap.size w'.heap.size w' u (fbO d.sizes n) ∧ Below X.heap.size X w' by
    have h := fbI_any _ d.sizes n X (RD.out X hb).parts.2.1
    rwa [show fbB d.sizes n = true by unfold fbB; rw [q2, show inB 0 1000 n = true by rw [inB_iff]; omega, decide_eq_true (by omega)]; rfl] at h)
  have H16 := Lib.hid (fun X (hb : Below W.heap.size W X) => bestTourI_any _ d.ways X (RD.out X hb).parts.2.2.2)
  have H17 := Lib.hid (fun u X (hu : RdI X u (idxs (tourLst d.ways))) (hb : Below W.heap.size W X) => listTextOk_any u _ X hu (short_tour d.ways).1 (by have := tour_len d.ways; omega) (in64 (tour_in d.ways)) (PW.out X hb))
  have H18 := Lib.hid (fun X (hb : Below W.heap.size W X) => dueI_any _ d.jobs X (RD.out X hb).parts.2.2.1)
  have H19 := Lib.hid (fun u X (hu : RdI X u (dueL d.jobs)) (hb : Below W.heap.size W X) => listTextOk_any u _ X hu (short_due d.jobs).1 (by have := due_len d.jobs; omega) (in64 (due_in d.jobs)) (PW.out X hb))
  have H20 := Lib.hid (fun X (hb : Below W.heap.size W X) => lateI_any _ d.jobs X (RD.out X hb).parts.2.2.1)
  have H21 := Lib.hid (fun X (hb : Below W.heap.size W X) => listI_any _ d.jobs 2 X (RD.out X hb).parts.2.2.1)
  have H22 := Lib.hid (fun X (hb : Below W.heap.size W X) => scaleI_any _ d.rows X (RD.out X hb).parts.1)
  rw [q4] at H16
  rw [q3] at H18 H20
  rw [show machB d.jobs 2 = true by unfold machB; rw [q3]; rfl] at H21
  rw [hsc] at H22
  have HTS := Lib.hid (fun (n : Int) (hn : 9 ≤ n ∧ n ≤ 18) => top_run hv hbt (n := n) (by omega) (by omega) (by omega) hsc)
  have HTN := Lib.hid (fun (n : Int) (hn : 9 ≤ n ∧ n ≤ 18) => top_cnt hv (n := n) (by omega) (by omega))
  have HRU := Lib.hid (fun nv X (n : Int) (hn : 9 ≤ n ∧ n ≤ 18) (hr : RdD X nv newD) (hb : Below W.heap.size W X) => show Calls Tryz.prog 16 #[nv, .string (scr (topL d n))] X fun e w' => ∃ v', e = .returned (.tuple #[v', .string (scr (topO d n)), .bool true]) ∧ OwnDx X.heap.size w' v' (topD d) ∧ Below X.heap.size X w' by
    obtain ⟨⟨k1, k2⟩, k3, k4⟩ := HTS.out n hn
    have h := runI_any nv newD (scr (topL d n)) X hr newD_ok.1 newD_ok.2 (PW.out X hb) (MX.out X hb) (ER.out X hb) k1 k2
    rwa [k3, k4] at h)
  have HVD := Lib.hid (show validDk (topD d) = true by
    obtain ⟨_, k3, _⟩ := HTS.out 9 (by omega)
    rw [← k3]
    exact stK_valid newD_ok.1 _ _)
  have HN1 := Lib.hid (fun n => fillN_rng d.sizes n)
  have HN2 := Lib.hid (fun n => fbN_rng d.sizes n)
  have HN3 := Lib.hid (tourLng_rng d.ways)
  have HN4 := Lib.hid (lateN_rng d.jobs)
  have HN5 := Lib.hid (lpE_rng d.jobs 2)
  have hs6 : (listT (idxs (tourLst d.ways))).size ≤ 300 := by have := list_size (short_tour d.ways).1; have := tour_len d.ways; omega
  have hs7 : (listT (dueL d.jobs)).size ≤ 300 := by have := list_size (short_due d.jobs).1; have := due_len d.jobs; omega
  have HS6 := Lib.hid hs6
  have HS7 := Lib.hid hs7
  clear hs6 hs7
  have HV := Lib.hid hv
  have HBT := Lib.hid hbt
  have HSC := Lib.hid hsc
  have HMXL := Lib.hid hmx
  have Q4 := Lib.hid q4
  have Q3 := Lib.hid q3
  have Q2 := Lib.hid q2
  obtain ⟨tA, htA⟩ : ∃ t, t = rowT d.rows := ⟨_, rfl⟩
  obtain ⟨tB, htB⟩ : ∃ t, t = listT d.sizes := ⟨_, rfl⟩
  obtain ⟨tC, htC⟩ : ∃ t, t = jobT d.jobs := ⟨_, rfl⟩
  obtain ⟨tE, htE⟩ : ∃ t, t = listT d.ways := ⟨_, rfl⟩
  rw [← htA] at H4
  rw [← htB] at H5
  rw [← htC] at H6
  rw [← htE] at H7
  have HTA := Lib.hid htA
  have HTB := Lib.hid htB
  have HTC := Lib.hid htC
  have HTE := Lib.hid htE
  have hsA : tA.size ≤ 2000 := by rw [htA]; have := rows_size q1; have := valR_few q1; omega
  have hsB : tB.size ≤ 400 := by rw [htB]; have := list_size (small_sizes q2); have := (sizes_all q2).1.2; omega
  have hsC : tC.size ≤ 1000 := by rw [htC]; have := jobs_size q3; have := (jobs_all q3).2.1; omega
  have hsE : tE.size ≤ 1300 := by rw [htE]; have := list_size (small_ways q4); omega
  obtain ⟨s0, s1, s2, s3, s4, s5, s6⟩ := CE.out W (Below.refl _ _)
  obtain ⟨db, hdb⟩ : ∃ b, b = w1.heap.size := ⟨_, rfl⟩
  rw [← hdb] at s0 s1 s2 s3 s4 s5 s6 CE HKW ⊢
  clear hW hb1 hrd hd hv hbt hsc hmx q1 q2 q3 q4 q5 htA htB htC htE HB1 hdb HLNG HDR
  go_upto_region 5 with (go_at_call 11; refine (H4.out W (Below.refl _ _)).mono ?_; rintro e w4 ⟨rfl, B4⟩)
  obtain ⟨s0, s1, s2, s3, s4, s5, s6⟩ := CE.out w4 B4
  go_upto_region 6 with (go_at_call 12; refine (H5.out w4 B4).mono ?_; rintro e w5 ⟨rfl, B5'⟩)
  have B5 := B4.trans (B5'.mono B4.size)
  clear s0 s1 s2 s3 s4 s5 s6 B5'
  obtain ⟨s0, s1, s2, s3, s4, s5, s6⟩ := CE.out w5 B5
  go_upto_region 7 with (go_at_call 13; refine (H6.out w5 B5).mono ?_; rintro e w6 ⟨rfl, B6'⟩)
  have B6 := B5.trans (B6'.mono B5.size)
  clear s0 s1 s2 s3 s4 s5 s6 B6'
  obtain ⟨s0, s1, s2, s3, s4, s5, s6⟩ := CE.out w6 B6
  go_upto_region 8 with (go_at_call 12; refine (H7.out w6 B6).mono ?_; rintro e w7 ⟨rfl, B7'⟩)
  have B7 := B6.trans (B7'.mono B6.size)
  clear s0 s1 s2 s3 s4 s5 s6 B7' B4 B5 B6 H4 H5 H6 H7
  go_upto_region 9 with (go_at_call 14; refine (H8.out w7 B7).mono ?_; rintro e w8 ⟨x, hx0, hx1, rfl, rfl⟩; have hwx : IntKind.i64.wrap (9 + x) = 9 + x := IntWalk.i64_in _ (by omega))
  obtain ⟨n, hn⟩ : ∃ n, n = 9 + x := ⟨_, rfl⟩
  rw [← hn]
  have hn9 : 9 ≤ n := by omega
  have hn18 : n ≤ 18 := by omega
  clear hwx hx0 hx1 hn H8
  go_upto_region 10 with (go_at_call 15; refine (H9.out w7 n (by unfold InZ; omega) B7).mono ?_; rintro e w9 ⟨rfl, B9'⟩)
  have B9 := B7.trans (B9'.mono B7.size)
  have hsR := itoa_size (n := n) (by unfold InZ; omega)
  obtain ⟨tR, htR⟩ : ∃ t, t = itoaB n := ⟨_, rfl⟩
  rw [← htR] at hsR ⊢
  have HTR := Lib.hid htR
  clear B9' B7 htR
  go_upto_region 11 with fail
  have HSCR := Lib.hid (show scr [kwRows ++ B1 32 ++ tA, kwSizes ++ B1 32 ++ tB, kwJobs ++ B1 32 ++ tC, kwWays ++ B1 32 ++ tE, kwRows, kwSizes, kwJobs, kwWays, kwFill ++ B1 32 ++ tR, kwBins ++ B1 32 ++ tR, kwBin ++ B1 32 ++ tR, kwTour, kwLong, kwDue, kwLate, kwList ++ B1 32 ++ itoaB 2, kwScale] = scr (topL d n) by rw [HTA.out, HTB.out, HTC.out, HTE.out, HTR.out]; rfl)
  rw [top_text, HSCR.out]
  have HRU2 := Lib.hid (fun nv X (hr : RdD X nv newD) (hb : Below W.heap.size W X) => HRU.out nv X n ⟨hn9, hn18⟩ hr hb)
  have HTN2 := Lib.hid (HTN.out n ⟨hn9, hn18⟩)
  obtain ⟨S, hS⟩ : ∃ S, S = scr (topL d n) := ⟨_, rfl⟩
  obtain ⟨O, hO⟩ : ∃ O, O = scr (topO d n) := ⟨_, rfl⟩
  obtain ⟨dT, hdT⟩ : ∃ x, x = topD d := ⟨_, rfl⟩
  rw [← hS, ← hO, ← hdT] at HRU2
  rw [← hS]
  rw [← hO] at HTN2
  rw [← hdT] at HVD
  have HO := Lib.hid hO
  have HDT := Lib.hid hdT
  clear hS hO hdT HSCR HRU HTN HTS
  go_upto_region 12 with (first
    | (go_at_call 17; refine (implNewDesk_any w9).mono ?_; rintro e w10 ⟨nv, rfl, hno, hb10⟩; have B10 := B9.trans (hb10.mono B9.size))
    | (go_at_call 16; refine (HRU2.out nv w10 hno.rd B10).mono ?_; rintro e w11 ⟨rv, rfl, hro, hb11⟩; obtain ⟨f1, g1, f2, g2, f3, g3, f4, g4, f5, g5, f6, g6, rfl⟩ := hro.shape))
  refine wp_at fun W11 hW11 => ?_
  have B11 := B10.trans (hb11.mono B10.size)
  have B12 : Below W.heap.size W W11 := by subst hW11; exact B11.alloc B11.size _
  have HRT := Lib.hid (show RdD W11 (.agg #[.int .i64 dT.rows.vars, .slice f1 dT.rows.nums.length g1, .slice f2 dT.rows.bnds.length g2, .slice f3 dT.rows.gains.length g3, .slice f4 dT.sizes.length g4, .slice f5 dT.jobs.length g5, .slice f6 dT.ways.length g6]) dT by subst hW11; exact hro.rd.up ((Below.refl w11.heap.size w11).alloc (Nat.le_refl _) _) (Nat.le_refl _))
  have HKT := Lib.hid (show Blk W11 w11.heap.size 30 #[.int .i64 dT.rows.vars, .slice f1 dT.rows.nums.length g1, .slice f2 dT.rows.bnds.length g2, .slice f3 dT.rows.gains.length g3, .slice f4 dT.sizes.length g4, .slice f5 dT.jobs.length g5, .slice f6 dT.ways.length g6] by subst hW11; exact Blk.new _ _ _)
  obtain ⟨tb, htb⟩ : ∃ b, b = w11.heap.size := ⟨_, rfl⟩
  rw [← htb] at HKT ⊢
  have HVX := Lib.hid (implVD_any _ dT W11 HRT.out)
  rw [HVD.out] at HVX
  obtain ⟨i0, i1, i2, i3, i4, i5, i6⟩ := desk_cells HKT.out
  clear hW11 hno hb10 hro hb11 B10 B11 htb B9 HRU2 HVD
  go_upto_region 14 with (go_at_call 18; refine HVX.out.mono ?_; rintro e w13 ⟨rfl, hb13⟩)
  have B13 := B12.trans (hb13.mono B12.size)
  have HKT13 := Lib.hid (HKT.out.below hb13 HKT.out.lt)
  have HRT13 := Lib.hid (HRT.out.up hb13 (Nat.le_refl _))
  clear HKT HRT HVX hb13 B12 i0 i1 i2 i3 i4 i5 i6
  obtain ⟨s0, s1, s2, s3, s4, s5, s6⟩ := CE.out w13 B13
  have TK := Lib.hid (fun X (hb : Below w13.heap.size w13 X) => desk_cells (HKT13.out.below hb HKT13.out.lt))
  have TR := Lib.hid (fun X (hb : Below w13.heap.size w13 X) => HRT13.out.up hb (Nat.le_refl _))
  clear HKT13 HRT13
  go_upto_region 15 with (go_at_call 19; refine (H14.out w13 n ⟨hn9, hn18⟩ B13).mono ?_; rintro e w14 ⟨rfl, T14⟩)
  have B14 := B13.trans (T14.mono B13.size)
  clear s0 s1 s2 s3 s4 s5 s6
  obtain ⟨s0, s1, s2, s3, s4, s5, s6⟩ := CE.out w14 B14
  go_upto_region 16 with (go_at_call 20; refine (H15.out w14 n ⟨hn9, hn18⟩ B14).mono ?_; rintro e w15 ⟨u15, rfl, _, hb⟩)
  have B15 := B14.trans (hb.mono B14.size)
  have T15 := T14.trans (hb.mono T14.size)
  clear s0 s1 s2 s3 s4 s5 s6 hb B14 T14
  obtain ⟨s0, s1, s2, s3, s4, s5, s6⟩ := CE.out w15 B15
  go_upto_region 17 with (go_at_call 21; refine (H16.out w15 B15).mono ?_; rintro e w16 ⟨u16, rfl, hu16, hb⟩)
  have B16 := B15.trans (hb.mono B15.size)
  have T16 := T15.trans (hb.mono T15.size)
  clear s0 s1 s2 s3 s4 s5 s6 hb B15 T15
  go_upto_region 18 with (go_at_call 12; refine (H17.out u16 w16 hu16 B16).mono ?_; rintro e w17 ⟨rfl, hb⟩)
  have B17 := B16.trans (hb.mono B16.size)
  have T17 := T16.trans (hb.mono T16.size)
  clear hb B16 T16 hu16
  obtain ⟨s0, s1, s2, s3, s4, s5, s6⟩ := CE.out w17 B17
  go_upto_region 19 with (go_at_call 22; refine (H18.out w17 B17).mono ?_; rintro e w18 ⟨u18, rfl, hu18, hb⟩)
  have B18 := B17.trans (hb.mono B17.size)
  have T18 := T17.trans (hb.mono T17.size)
  clear s0 s1 s2 s3 s4 s5 s6 hb B17 T17
  go_upto_region 20 with (go_at_call 12; refine (H19.out u18 w18 hu18.rd B18).mono ?_; rintro e w19 ⟨rfl, hb⟩)
  have B19 := B18.trans (hb.mono B18.size)
  have T19 := T18.trans (hb.mono T18.size)
  clear hb B18 T18 hu18
  obtain ⟨s0, s1, s2, s3, s4, s5, s6⟩ := CE.out w19 B19
  go_upto_region 21 with (go_at_call 23; refine (H20.out w19 B19).mono ?_; rintro e w20 ⟨u20, rfl, _, hb⟩)
  have B20 := B19.trans (hb.mono B19.size)
  have T20 := T19.trans (hb.mono T19.size)
  clear s0 s1 s2 s3 s4 s5 s6 hb B19 T19
  obtain ⟨s0, s1, s2, s3, s4, s5, s6⟩ := CE.out w20 B20
  go_upto_region 22 with (go_at_call 24; refine (H21.out w20 B20).mono ?_; rintro e w21 ⟨u21, rfl, _, hb⟩)
  have B21 := B20.trans (hb.mono B20.size)
  have T21 := T20.trans (hb.mono T20.size)
  clear s0 s1 s2 s3 s4 s5 s6 hb B20 T20
  obtain ⟨s0, s1, s2, s3, s4, s5, s6⟩ := CE.out w21 B21
  go_upto_region 23 with (go_at_call 25; refine (H22.out w21 B21).mono ?_; rintro e w22 ⟨u22, rfl, hso, hb⟩; obtain ⟨z1, y1, z2, y2, z3, y3, rfl⟩ := hso.rd.shape)
  refine wp_at fun W22 hW22 => ?_
  have B22 := B21.trans (hb.mono B21.size)
  have T22 := T21.trans (hb.mono T21.size)
  have B23 : Below W.heap.size W W22 := by subst hW22; exact B22.alloc B22.size _
  have T23 : Below w13.heap.size w13 W22 := by subst hW22; exact T22.alloc T22.size _
  have HSR := Lib.hid (show RdR W22 (.agg #[.int .i64 (scaleV d.rows).vars, .slice z1 (scaleV d.rows).nums.length y1, .slice z2 (scaleV d.rows).bnds.length y2, .slice z3 (scaleV d.rows).gains.length y3]) (scaleV d.rows) by subst hW22; exact hso.rd.up ((Below.refl w22.heap.size w22).alloc (Nat.le_refl _) _) (Nat.le_refl _))
  have HSK := Lib.hid (show Blk W22 w22.heap.size 26 #[.int .i64 (scaleV d.rows).vars, .slice z1 (scaleV d.rows).nums.length y1, .slice z2 (scaleV d.rows).bnds.length y2, .slice z3 (scaleV d.rows).gains.length y3] by subst hW22; exact Blk.new _ _ _)
  obtain ⟨rb, hrb⟩ : ∃ b, b = w22.heap.size := ⟨_, rfl⟩
  rw [← hrb] at HSK ⊢
  clear hW22 hso hb B21 T21 B22 T22 hrb s0 s1 s2 s3 s4 s5 s6 H14 H15 H16 H17 H18 H19 H20 H21 H22
  have k1 := itoa_size (HN1.out n)
  have k2 := itoa_size (HN2.out n)
  have k3 := itoa_size HN3.out
  have k4 := itoa_size HN4.out
  have k5 := itoa_size HN5.out
  have k6 := HS6.out
  have k7 := HS7.out
  go_upto_region 26 with (go_at_call 15; first
      | (refine (H9.out W22 (fillN d.sizes n) (HN1.out n) B23).mono ?_; rintro e x1 ⟨rfl, c1⟩; have V1 := c1; have D1 := B23.trans (c1.mono B23.size); have U1 := T23.trans (c1.mono T23.size))
      | (refine (H9.out x1 (fbN d.sizes n) (HN2.out n) D1).mono ?_; rintro e x2 ⟨rfl, c2⟩; have V2 := V1.trans (c2.mono V1.size); have D2 := D1.trans (c2.mono D1.size); have U2 := U1.trans (c2.mono U1.size))
      | (refine (H9.out x2 (tourLng d.ways) HN3.out D2).mono ?_; rintro e x3 ⟨rfl, c3⟩; have V3 := V2.trans (c3.mono V2.size); have D3 := D2.trans (c3.mono D2.size); have U3 := U2.trans (c3.mono U2.size))
      | (refine (H9.out x3 (lateN d.jobs) HN4.out D3).mono ?_; rintro e x4 ⟨rfl, c4⟩; have V4 := V3.trans (c4.mono V3.size); have D4 := D3.trans (c4.mono D3.size); have U4 := U3.trans (c4.mono U3.size))
      | (refine (H9.out x4 (lpE d.jobs 2) HN5.out D4).mono ?_; rintro e x5 ⟨rfl, c5⟩; have V5 := V4.trans (c5.mono V4.size); have D5 := D4.trans (c5.mono D4.size); have U5 := U4.trans (c5.mono U4.size)))
  have HOUT := Lib.hid (show scr [kwOk, kwOk, kwOk, kwOk, tA, tB, tC, tE, itoaB (fillN d.sizes n), itoaB (fbN d.sizes n), kwWhat, listT (idxs (tourLst d.ways)), itoaB (tourLng d.ways), listT (dueL d.jobs), itoaB (lateN d.jobs), itoaB (lpE d.jobs 2), kwOk] = O by rw [HO.out, HTA.out, HTB.out, HTC.out, HTE.out]; rfl)
  rw [top_out, HOUT.out]
  have HCO := Lib.hid (show Calls Tryz.prog 26 #[.string O] x5 fun e w' => e = .returned (.tuple #[.int .i64 1, .int .i64 16, .bool true]) ∧ Below x5.heap.size x5 w' by
    obtain ⟨r1, r2, r3, r4⟩ := HTN2.out
    have h := coutI_any O x5 (MX.out x5 D5) (by omega)
    rwa [r1, r2, r3] at h)
  clear k1 k2 k3 k4 k5 k6 k7 c1 c2 c3 c4 c5 D1 D2 D3 D4 U1 U2 U3 U4 V1 V2 V3 V4
  go_upto_region 27 with (go_at_call 26; refine HCO.out.mono ?_; rintro e x6 ⟨rfl, hb⟩)
  have B6 := D5.trans (hb.mono D5.size)
  have T6 := U5.trans (hb.mono U5.size)
  have V6 := V5.trans (hb.mono V5.size)
  obtain ⟨s0, s1, s2, s3, s4, s5, s6⟩ := CE.out x6 B6
  obtain ⟨i0, i1, i2, i3, i4, i5, i6⟩ := TK.out x6 T6
  have hrb6 := HSK.out.below V6 HSK.out.lt
  have r0 := hrb6.cell 0 rfl
  have r1 := hrb6.cell 1 rfl
  have r2 := hrb6.cell 2 rfl
  have r3 := hrb6.cell 3 rfl
  have hp := (RD.out x6 B6).parts
  have HS2 := Lib.hid (show RdD x6 (.agg #[.int .i64 (scaleV d.rows).vars, .slice z1 (scaleV d.rows).nums.length y1, .slice z2 (scaleV d.rows).bnds.length y2, .slice z3 (scaleV d.rows).gains.length y3, .slice a4 d.sizes.length c4, .slice a5 d.jobs.length c5, .slice a6 d.ways.length c6]) dT by
    rw [HDT.out]
    exact ⟨_, _, _, _, _, _, rfl, HSR.out.up V6 (Nat.le_refl _), hp.2.1, hp.2.2.1, hp.2.2.2⟩)
  have hsd := implSameDesk_any _ _ dT dT x6 (TR.out x6 T6) HS2.out
  rw [sameD_rfl] at hsd
  have HSD := Lib.hid hsd
  clear hsd hp hrb6 hb D5 U5 V5
  go_wp2_with (go_at_call 27; refine HSD.out.mono ?_; rintro e x7 ⟨rfl, hb7⟩)
  go_ret
  exact ⟨rfl, HBW.out.trans ((B6.trans (hb7.mono B6.size)).mono HBW.out.size)⟩
end Go.Proofs.YtgkbbpajkbkgnaaGreatDoor
