/-
  FnJournal: texts joined: DkRunI, DrwO, JrnF, DkRnj.
-/
import Derived.Deep.RegionWith
import Derived.Test.YtgkbbpajkbkgnaaGreatDoorMFnJournalAC
import Derived.Test.YtgkbbpajkbkgnaaGreatDoorMFnJournalAH
import Derived.Test.YtgkbbpajkbkgnaaGreatDoorMFnJournalBC
import Derived.Test.YtgkbbpajkbkgnaaGreatDoorMFnJournalBG
import Derived.Test.YtgkbbpajkbkgnaaGreatDoorMFnJournalBH
set_option linter.unusedVariables false
set_option linter.unusedSimpArgs false
namespace Go.Proofs.YtgkbbpajkbkgnaaGreatDoor
open Go.RowKit Go.Sort
theorem lines_le (s : ByteArray) : ∀ x ∈ linesS s, x.size ≤ s.size := by
  intro x hx
  unfold linesS at hx
  rw [cutS_lines] at hx
  exact cutS_le 10 s x (List.dropLast_subset _ hx)
theorem outs_le {d : DeskD} (hv : validDk d = true) (hb : BitsD d) (ls : List ByteArray) (k : Nat) : (scr (outsK d ls k)).size ≤ 2401 * k := by
  have := scr_size (ls := outsK d ls k) (N := 2400) fun x hx => (told_outs hv hb ls k x hx).2
  rw [outsK_len] at this
  exact this
theorem slc_block {w w' : World} {g n cap : Nat} {vs : List Value} {t : TypeId} {cs : Array Value} (h : Slc w (.slice (some ⟨g, 0, none⟩) n cap) vs) (h1 : Blk w g t cs) (h2 : Blk w' g t cs) : Slc w' (.slice (some ⟨g, 0, none⟩) n cap) vs := by
  rcases h with ⟨e, _⟩ | ⟨ad, cap', e, a, b, hc⟩
  · cases e
  · simp only [Value.slice.injEq, Option.some.injEq] at e
    obtain ⟨rfl, rfl, rfl⟩ := e
    refine .inr ⟨⟨g, 0, none⟩, cap, rfl, a, b, fun i u hi => ?_⟩
    have h3 : ((⟨g, 0, none⟩ : Addr).add i) = ⟨g, i, none⟩ := by unfold Addr.add; split <;> simp_all
    have h4 := hc i u hi
    rw [h3] at h4 ⊢
    have e : w'.heap[g]? = w.heap[g]? := (show w'.heap[g]? = _ from h2).trans (show w.heap[g]? = _ from h1).symm
    exact (World.cell?_of_block (w := w) (a := ⟨g, i, none⟩) e).trans h4
section
attribute [local go_sem ↓] stDeskP
attribute [local go_sem] stDesk_in stDesk_run
set_option maxHeartbeats 8000000 in
set_option maxRecDepth 8000 in
theorem runI_any (v : Value) (d : DeskD) (s : ByteArray) (w : World) (h : RdD w v d) (hv : validDk d = true) (hbt : BitsD d) (hp : HasPow w) (hm : HasMax w) (he : HasErrs w) (hok : coOk s = true) (hs : s.size ≤ 16000) :
    Calls Tryz.prog 16 #[v, .string s] w fun e w' => ∃ v', e = .returned (.tuple #[v', .string (rdkT d s), .bool true]) ∧ OwnDx w.heap.size w' v' (rdkD d s) ∧ Below w.heap.size w w' := by
  obtain ⟨a1, c1, a2, c2, a3, c3, a4, c4, a5, c5, a6, c6, rfl⟩ := h.shape
  have HVA := Lib.hid (fun X (hb : Below w.heap.size w X) => show Calls Tryz.prog 18 _ X _ from hv ▸ implVD_any _ d X (h.up hb (Nat.le_refl _)))
  have HOW := Lib.hid (fun X (hb : Below w.heap.size w X) => own_any _ d X (h.up hb (Nat.le_refl _)) hv)
  have HLO := Lib.hid (fun X (hb : Below w.heap.size w X) => linesOf_any s X (hm.up hb (Nat.le_refl _)) (by omega))
  have HCM := Lib.hid (fun k X v2 (hb : Below w.heap.size w X) (hr : RdD X v2 (stK d (linesS s) k)) => cmdI_any v2 (stK d (linesS s) k) ((linesS s).getD k E0) X hr (stK_valid hv _ k) (stK_bits hbt _ k) (hp.up hb (Nat.le_refl _)) (hm.up hb (Nat.le_refl _)) (he.up hb (Nat.le_refl _)) (by
    rw [List.getD_eq_getElem?_getD]
    cases hq : (linesS s)[k]? with
    | none => exact Nat.zero_le _
    | some x => exact Nat.le_trans (lines_le s x (List.mem_of_getElem? hq)) (by omega)))
  have HOL := Lib.hid (fun k => outs_le hv hbt (linesS s) k)
  have HTL := Lib.hid (fun k => (told_cmd (stK_valid hv (linesS s) k) (stK_bits hbt (linesS s) k) ((linesS s).getD k E0)).2)
  have hll := linesS_le s
  rw [hok] at HLO
  have HR1 := Lib.hid (show rdkD d s = stK d (linesS s) (linesS s).length from rfl)
  have HR2 := Lib.hid (show rdkT d s = scr (outsK d (linesS s) (linesS s).length) from rfl)
  obtain ⟨rd, hrd⟩ : ∃ x, x = rdkD d s := ⟨_, rfl⟩
  obtain ⟨rt, hrt⟩ : ∃ x, x = rdkT d s := ⟨_, rfl⟩
  rw [← hrd] at HR1 ⊢
  rw [← hrt] at HR2 ⊢
  obtain ⟨L, hL⟩ : ∃ L, L = linesS s := ⟨_, rfl⟩
  rw [← hL] at HLO HCM HOL HTL HR1 HR2 hll
  obtain ⟨n, hn⟩ : ∃ n, n = L.length := ⟨_, rfl⟩
  rw [← hn] at HLO HR1 HR2 hll
  have HNL := Lib.hid hn
  clear h hv hbt hp hm he hok hrd hrt hL hn
  go_enter Tryz.func16, Tryz.ntmps16
  go_upto_region 1 with fail
  refine wp_at fun W0 hW0 => ?_
  have HB0 := Lib.hid (show Below w.heap.size w W0 by subst hW0; (repeat' first | exact Below.refl _ _ | assumption | refine Below.alloc ?_ ?_ _ | refine Below.setCell ?_ ?_ _ | refine Below.drew ?_ | (simp; done) | (simp; omega)))
  have HK0 := Lib.hid (show Blk W0 w.heap.size 30 #[.int .i64 d.rows.vars, .slice a1 d.rows.nums.length c1, .slice a2 d.rows.bnds.length c2, .slice a3 d.rows.gains.length c3, .slice a4 d.sizes.length c4, .slice a5 d.jobs.length c5, .slice a6 d.ways.length c6] by subst hW0; exact (Blk.new _ _ _).alloc _)
  have HL0 := Lib.hid (show Blk W0 (w.heap.size + 1) 30 zD by subst hW0; simpa using Blk.new (w.alloc (.cells #[.int .i64 d.rows.vars, .slice a1 d.rows.nums.length c1, .slice a2 d.rows.bnds.length c2, .slice a3 d.rows.gains.length c3, .slice a4 d.sizes.length c4, .slice a5 d.jobs.length c5, .slice a6 d.ways.length c6] 30)) 30 zD)
  clear hW0
  have hl0 := HL0.out.lt
  go_upto_region 4 with (first
    | (go_at_call 53; refine (HLO.out W0 HB0.out).mono ?_; rintro e w1 ⟨lv, rfl, hlv, hb1⟩; obtain ⟨la, lcap, rfl, hsl, lg, lcs, rfl, hlg, hlb⟩ := hlv rfl; have HB1 := HB0.out.trans (hb1.mono HB0.out.size); obtain ⟨i0, i1, i2, i3, i4, i5, i6⟩ := desk_cells (HK0.out.below hb1 HK0.out.lt))
    | (go_at_call 18; refine (HVA.out w1 HB1).mono ?_; rintro e w2 ⟨rfl, hb2⟩))
  have HB2 := Lib.hid (HB1.trans (hb2.mono HB1.size))
  have HK2 := Lib.hid ((HK0.out.below hb1 HK0.out.lt).below hb2 (Nat.lt_of_lt_of_le HK0.out.lt hb1.size))
  have HL2 := Lib.hid ((HL0.out.below hb1 hl0).below hb2 (Nat.lt_of_lt_of_le hl0 hb1.size))
  have HS2 := Lib.hid (slc_block hsl hlb (hlb.below hb2 hlb.lt))
  have HG2 := Lib.hid (hlb.below hb2 hlb.lt)
  have hz0 := HB0.out.size
  have hgw : w.heap.size + 1 < lg := by omega
  clear i0 i1 i2 i3 i4 i5 i6 hb1 hb2 hlv hsl hlb HB1 HK0 HL0 HB0 HVA HLO hlg hz0 hl0
  obtain ⟨i0, i1, i2, i3, i4, i5, i6⟩ := desk_cells HK2.out
  go_upto_region 5 with (go_at_call 54; refine (HOW.out w2 HB2.out).mono ?_; rintro e w3 ⟨v3, rfl, ho3, hb3⟩; obtain ⟨b1, e1, b2, e2, b3, e3, b4, e4, b5, e5, b6, e6, rfl⟩ := ho3.shape; have HT : w3.there w.heap.size 0 7 := (store_blk (cells := zD) (HK2.out.below hb3 HK2.out.lt) rfl).1)
  refine wp_at fun W4 hW4 => ?_
  have hz2 := HB2.out.size
  have hx := put_desk (cs := #[.int .i64 d.rows.vars, .slice b1 d.rows.nums.length e1, .slice b2 d.rows.bnds.length e2, .slice b3 d.rows.gains.length e3, .slice b4 d.sizes.length e4, .slice b5 d.jobs.length e5, .slice b6 d.ways.length e6]) (ho3.wide hz2) (HK2.out.below hb3 HK2.out.lt) rfl
  rw [← hW4] at hx
  have HD4 := Lib.hid (show DskAt w.heap.size W4 w.heap.size d from ⟨_, hx.2.1, hx.1⟩)
  have HB4 := Lib.hid (show Below w.heap.size w W4 from (HB2.out.trans (hb3.mono hz2)).trans (hx.2.2.1.toBelow (Nat.le_trans hz2 hb3.size) (fun k h1 h2 => by omega)))
  have HL4 := Lib.hid ((HL2.out.below hb3 HL2.out.lt).kept hx.2.2.1 (show ¬ w.heap.size + 1 = w.heap.size by omega))
  have HG4 := Lib.hid ((HG2.out.below hb3 HG2.out.lt).kept hx.2.2.1 (show ¬ lg = w.heap.size by omega))
  have HS4 := Lib.hid (slc_block HS2.out HG2.out HG4.out)
  clear hW4 hx HT ho3 hb3 HK2 HL2 HG2 HS2 HB2 hz2 HOW i0 i1 i2 i3 i4 i5 i6
  go_upto_region 6 with fail
  refine wp_at fun W5 hW5 => ?_
  obtain ⟨bb, hbb⟩ : ∃ b, b = W4.heap.size := ⟨_, rfl⟩
  have hz4 := HB4.out.size
  have hg4 := HG4.out.lt
  have HA := Lib.hid (show Below w.heap.size W4 W5 by subst hW5; exact (Below.refl _ _).alloc hz4 _)
  have HB5 := Lib.hid (HB4.out.trans HA.out)
  have HBA := Lib.hid (show Below W4.heap.size W4 W5 by subst hW5; exact (Below.refl _ _).alloc (Nat.le_refl _) _)
  have HI5 := Lib.hid (show Lib.IsBuilder TB 5 w.heap.size bb (Lib.strCells (scr (outsK d L 0))) W5 by
    subst hW5 hbb
    exact Or.inl ⟨hz4, .slice none 0 0, heap_alloc_new W4 _, World.ownsRow_nil _ _ _ _, by simp [Value.ownBlock]⟩)
  have HD5 := Lib.hid (HD4.out.up HBA.out (Nat.le_refl _))
  have HL5 := Lib.hid (HL4.out.below HBA.out HL4.out.lt)
  have HG5 := Lib.hid (HG4.out.below HBA.out hg4)
  have hbw : w.heap.size + 1 < bb := by omega
  have hbg : lg ≠ bb := by omega
  have hb5 : bb < W5.heap.size := by subst hW5 hbb; simp
  rw [← hbb]
  clear hW5 hbb HD4 HL4 HB4 HA HBA hz4 hg4
  go_wp2_with fail
  go_loopw [31] (fun iv wr => ∃ k : Nat, iv = .int .i64 k ∧ k ≤ n ∧ Hid (DskAt w.heap.size wr w.heap.size (stK d L k)) ∧ Hid (Lib.IsBuilder TB 5 w.heap.size bb (Lib.strCells (scr (outsK d L k))) wr) ∧ Hid (Blk wr lg 9 lcs) ∧ Hid (Blk wr (w.heap.size + 1) 30 zD) ∧ Hid (Below w.heap.size w wr)) (fun iv _ => n - (intOf iv).toNat)
  case atStart => exact ⟨0, rfl, Nat.zero_le _, HD5, HI5, HG5, HL5, HB5⟩
  case round =>
    clear HD5 HI5 HG5 HL5 HB5 hb5
    obtain ⟨k, rfl, hk, HD, HI, HG, HL, HB⟩ := hrel
    obtain ⟨wo, rfl⟩ : ∃ wo, wo = wr := ⟨wr, rfl⟩
    have hzo := HB.out.size
    by_cases hlt : k < n
    · have hltI : (k : Int) < (n : Int) := by omega
      obtain ⟨lg', off, ee, _, hc⟩ := (slc_block HS4.out HG4.out HG.out).at (i := k) (u := .string (L.getD k E0)) (by rw [List.getElem?_map, List.getD_eq_getElem?_getD, List.getElem?_eq_getElem (by rw [← HNL.out]; exact hlt)]; rfl)
      simp only [Option.some.injEq, Addr.mk.injEq, and_true] at ee
      obtain ⟨rfl, rfl⟩ := ee
      rw [Nat.zero_add] at hc
      obtain ⟨b1, e1, b2, e2, b3, e3, b4, e4, b5, e5, b6, e6, hblk, hown⟩ := HD.out.shape
      obtain ⟨i0, i1, i2, i3, i4, i5, i6⟩ := desk_cells hblk
      have HC := Lib.hid (HCM.out k wo _ HB.out hown.rd)
      have HST : Hid (stK d L (k + 1) = (cmdK (stK d L k) (L.getD k E0)).1) := rfl
      have HAN : Hid (ansK d L k = (cmdK (stK d L k) (L.getD k E0)).2) := rfl
      have HSC := Lib.hid (outsK_scr d L k)
      have hol := HOL.out k
      have htl := HTL.out k
      obtain ⟨x, hx⟩ : ∃ x, x = L.getD k E0 := ⟨_, rfl⟩
      rw [← hx] at hc HC HST HAN htl
      obtain ⟨d1, hd1⟩ : ∃ y, y = stK d L k := ⟨_, rfl⟩
      rw [← hd1] at HC HST HAN hblk hown i0 i1 i2 i3 i4 i5 i6 htl
      obtain ⟨d2, hd2⟩ : ∃ y, y = (cmdK d1 x).1 := ⟨_, rfl⟩
      obtain ⟨out, hout⟩ : ∃ o, o = (cmdK d1 x).2 := ⟨_, rfl⟩
      rw [← hd2] at HC HST
      rw [← hout] at HC HAN htl
      have HBK := Lib.hid hblk
      rw [HAN.out] at HSC
      obtain ⟨T, hT⟩ : ∃ T, T = scr (outsK d L k) := ⟨_, rfl⟩
      rw [← hT] at HSC HI hol
      clear hx hd1 hd2 hout hblk hown HD hT
      go_upto_region 10 with (go_at_call 55; refine HC.out.mono ?_; rintro e w5 ⟨v5, rfl, ho5, hb5⟩; obtain ⟨f1, g1, f2, g2, f3, g3, f4, g4, f5, g5, f6, g6, rfl⟩ := ho5.shape; have HT : (w5.alloc (.cells zD 30)).there w5.heap.size 0 7 := (store_blk (cells := zD) (Blk.new w5 30 zD) rfl).1)
      refine wp_at fun W6 hW6 => ?_
      obtain ⟨nb, hnb⟩ : ∃ b, b = w5.heap.size := ⟨_, rfl⟩
      have hz5 := hb5.size
      have hx := put_desk (cs := #[.int .i64 d2.rows.vars, .slice f1 d2.rows.nums.length g1, .slice f2 d2.rows.bnds.length g2, .slice f3 d2.rows.gains.length g3, .slice f4 d2.sizes.length g4, .slice f5 d2.jobs.length g5, .slice f6 d2.ways.length g6]) ((ho5.wide hzo).up ((Below.refl w5.heap.size w5).alloc (Nat.le_refl _) (.cells zD 30)) (Nat.le_refl _)) (Blk.new w5 30 zD) rfl
      have hI6 := isB_other (isB_up (isB_up HI.out hb5) ((Below.refl w5.heap.size w5).alloc (Nat.le_refl _) (.cells zD 30))) (Blk.new w5 30 zD) (by decide) (by decide) hx.2.2.1
      rw [← hW6] at hx hI6
      rw [← hnb] at hx
      have hlw := HBK.out.lt
      have hlg := HG.out.lt
      have hl4 := HL.out.lt
      have HBK6 := Lib.hid (((HBK.out.below hb5 hlw).alloc (.cells zD 30)).kept hx.2.2.1 (show ¬ w.heap.size = nb by omega))
      have HG6 := Lib.hid (((HG.out.below hb5 hlg).alloc (.cells zD 30)).kept hx.2.2.1 (show ¬ lg = nb by omega))
      have HL6 := Lib.hid (((HL.out.below hb5 hl4).alloc (.cells zD 30)).kept hx.2.2.1 (show ¬ w.heap.size + 1 = nb by omega))
      have HB6 := Lib.hid (show Below w.heap.size w W6 from ((HB.out.trans (hb5.mono hzo)).alloc (by omega) (.cells zD 30)).trans (hx.2.2.1.toBelow (by simp; omega) (fun k h1 h2 => by omega)))
      have HX6 := Lib.hid hx
      have HI6 := Lib.hid hI6
      have HT6 : W6.there w.heap.size 0 7 := (store_blk (cells := zD) HBK6.out rfl).1
      have hnw : w.heap.size ≠ nb := by omega
      rw [← hnb]
      clear hW6 hx hI6 ho5 hb5 HT hnb hlw hlg hl4 HBK HG HL HB HI i0 i1 i2 i3 i4 i5 i6 hc HC
      obtain ⟨i0, i1, i2, i3, i4, i5, i6⟩ := desk_cells HX6.out.2.1
      go_upto_region 11 with fail
      refine wp_at fun W7 hW7 => ?_
      have hy := put_desk (cs := #[.int .i64 d2.rows.vars, .slice f1 d2.rows.nums.length g1, .slice f2 d2.rows.bnds.length g2, .slice f3 d2.rows.gains.length g3, .slice f4 d2.sizes.length g4, .slice f5 d2.jobs.length g5, .slice f6 d2.ways.length g6]) HX6.out.1 HBK6.out rfl
      rw [← hW7] at hy
      have HI7 := Lib.hid (isB_other HI6.out HBK6.out (by decide) (by decide) hy.2.2.1)
      have HG7 := Lib.hid (HG6.out.kept hy.2.2.1 (show ¬ lg = w.heap.size by omega))
      have HL7 := Lib.hid (HL6.out.kept hy.2.2.1 (show ¬ w.heap.size + 1 = w.heap.size by omega))
      have HB7 := Lib.hid (HB6.out.trans (hy.2.2.1.toBelow HB6.out.size (fun k h1 h2 => by omega)))
      have HY7 := Lib.hid hy
      clear hW7 hy HT6 HX6 HI6 HG6 HL6 HB6 HBK6 i0 i1 i2 i3 i4 i5 i6
      have hz7 := HB7.out.size
      have n1 : ¬ 9223372036854775807 < out.size + 1 := by omega
      go_wp2_with (go_at_call 56; refine (WriteStringK_any w.heap.size bb _ (out ++ B1 10) W7 HI7.out (by rw [Lib.strCells_length, ByteArray.size_append, show (B1 10).size = 1 from rfl]; omega) hz7).mono ?_; rintro e w8 ⟨rfl, hi8, hk8, hb8⟩)
      obtain ⟨bcs, hbB⟩ := IsB.blk HI7.out
      have HD8 := Lib.hid (show DskAt w.heap.size w8 w.heap.size d2 from ⟨_, blk_bufs HY7.out.2.1 hk8 hbB (by decide) (by decide), HY7.out.1.bufs hk8 hbB⟩)
      have HG8 := Lib.hid (blk_bufs HG7.out hk8 hbB (by decide) (by decide))
      have HL8 := Lib.hid (blk_bufs HL7.out hk8 hbB (by decide) (by decide))
      have HI8 := Lib.hid hi8
      have HB8 := Lib.hid (HB7.out.trans hb8)
      clear hi8 hk8 hb8 hbB
      go_roundw
      case rel => exact ⟨k + 1, by go_num, by omega, Lib.hid (by rw [HST.out]; exact HD8.out), Lib.hid (by rw [HSC.out, strCells_add]; exact HI8.out), HG8, HL8, HB8⟩
      case measure => simp [intOf]; omega
    · obtain rfl : k = n := by omega
      obtain ⟨b1, e1, b2, e2, b3, e3, b4, e4, b5, e5, b6, e6, hblk, hown⟩ := HD.out.shape
      obtain ⟨T, hT⟩ : ∃ T, T = scr (outsK d L k) := ⟨_, rfl⟩
      have HTE := Lib.hid (show rt = T by rw [hT]; exact HR2.out)
      rw [← hT] at HI
      obtain ⟨d1, hd1⟩ : ∃ y, y = stK d L k := ⟨_, rfl⟩
      have HDE := Lib.hid (show rd = d1 by rw [hd1]; exact HR1.out)
      rw [← hd1] at hblk hown
      have HBK := Lib.hid hblk
      have HOD := Lib.hid hown
      obtain ⟨i0, i1, i2, i3, i4, i5, i6⟩ := desk_cells (show Blk wo.drew w.heap.size 30 _ from hblk)
      have HIF := Lib.hid (show Lib.IsBuilderF TB 5 w.heap.size bb (Lib.byteCells T.data.toList) wo.drew from Lib.IsBuilderF.of HI.out)
      have HSS : Hid ((⟨T.data.toList.toArray⟩ : ByteArray) = T) := by
        show _ = _
        simp
      obtain ⟨bcs, hbB⟩ := IsB.blk HI.out
      have HFB := Lib.hid hbB
      have FIN := Lib.hid (fun (w9 : World) (hkB : Kept (BufS wo bb) wo w9) (hb9 : Below w.heap.size wo w9) => by
        have h1 := blk_bufs HBK.out hkB HFB.out (by decide) (by decide)
        have h2 := HOD.out.bufs hkB HFB.out
        have h3 := blk_bufs HL.out hkB HFB.out (by decide) (by decide)
        have hx := put_desk (cs := #[.int .i64 d1.rows.vars, .slice b1 d1.rows.nums.length e1, .slice b2 d1.rows.bnds.length e2, .slice b3 d1.rows.gains.length e3, .slice b4 d1.sizes.length e4, .slice b5 d1.jobs.length e5, .slice b6 d1.ways.length e6]) h2 h3 rfl
        have hB := HB.out.trans hb9
        exact show Blk w9 w.heap.size 30 #[.int .i64 d1.rows.vars, .slice b1 d1.rows.nums.length e1, .slice b2 d1.rows.bnds.length e2, .slice b3 d1.rows.gains.length e3, .slice b4 d1.sizes.length e4, .slice b5 d1.jobs.length e5, .slice b6 d1.ways.length e6] ∧ w9.there (w.heap.size + 1) 0 7 ∧ OwnDx w.heap.size (deskPut w9 (w.heap.size + 1) #[.int .i64 d1.rows.vars, .slice b1 d1.rows.nums.length e1, .slice b2 d1.rows.bnds.length e2, .slice b3 d1.rows.gains.length e3, .slice b4 d1.sizes.length e4, .slice b5 d1.jobs.length e5, .slice b6 d1.ways.length e6]) (.agg #[.int .i64 d1.rows.vars, .slice b1 d1.rows.nums.length e1, .slice b2 d1.rows.bnds.length e2, .slice b3 d1.rows.gains.length e3, .slice b4 d1.sizes.length e4, .slice b5 d1.jobs.length e5, .slice b6 d1.ways.length e6]) d1 ∧ Below w.heap.size w (deskPut w9 (w.heap.size + 1) #[.int .i64 d1.rows.vars, .slice b1 d1.rows.nums.length e1, .slice b2 d1.rows.bnds.length e2, .slice b3 d1.rows.gains.length e3, .slice b4 d1.sizes.length e4, .slice b5 d1.jobs.length e5, .slice b6 d1.ways.length e6]) ∧ Blk (deskPut w9 (w.heap.size + 1) #[.int .i64 d1.rows.vars, .slice b1 d1.rows.nums.length e1, .slice b2 d1.rows.bnds.length e2, .slice b3 d1.rows.gains.length e3, .slice b4 d1.sizes.length e4, .slice b5 d1.jobs.length e5, .slice b6 d1.ways.length e6]) (w.heap.size + 1) 30 #[.int .i64 d1.rows.vars, .slice b1 d1.rows.nums.length e1, .slice b2 d1.rows.bnds.length e2, .slice b3 d1.rows.gains.length e3, .slice b4 d1.sizes.length e4, .slice b5 d1.jobs.length e5, .slice b6 d1.ways.length e6] from
          ⟨h1, (store_blk (cells := zD) h3 rfl).1, hx.1, hB.trans (hx.2.2.1.toBelow hB.size (fun k h1 h2 => by omega)), hx.2.1⟩)
      have hst := Tryz.Builder_String_any_k w.heap.size bb T.data.toList wo.drew HIF.out hzo
      rw [HSS.out] at hst
      have HSTR := Lib.hid hst
      clear hblk hown HD hd1 hT HR1 HR2 hbB hst
      go_wp2_with fail
      go_region_with (go_at_call 57; refine HSTR.out.mono ?_; rintro e w9 ⟨rfl, _, hb9, hk9⟩; have hkB : Kept (BufS wo bb) wo w9 := kept_others (w := wo) hk9 (Below.trans (Below.refl _ wo).drew hb9); obtain ⟨f1, f2, f3, f4, f5⟩ := FIN.out w9 hkB (Below.trans (Below.refl _ wo).drew hb9); obtain ⟨j0, j1, j2, j3, j4, j5, j6⟩ := desk_cells f1; obtain ⟨q0, q1, q2, q3, q4, q5, q6⟩ := desk_cells f5)
      all_goals
        go_wp2_with fail
        go_simp
        refine bodyPost_ret (v := .tuple #[.agg #[.int .i64 d1.rows.vars, .slice b1 d1.rows.nums.length e1, .slice b2 d1.rows.bnds.length e2, .slice b3 d1.rows.gains.length e3, .slice b4 d1.sizes.length e4, .slice b5 d1.jobs.length e5, .slice b6 d1.ways.length e6], .string T, .bool true]) (by simp [results, Tryz.results16, go_sem, *]) rfl ?_
        rw [HTE.out, HDE.out]
        exact ⟨_, rfl, f3, f4⟩
end
end Go.Proofs.YtgkbbpajkbkgnaaGreatDoor

namespace Go.Proofs.YtgkbbpajkbkgnaaGreatDoor
open Go.RowKit Go.Sort
section
attribute [local go_sem ↓] stDeskP
attribute [local go_sem] stDesk_in stDesk_run
end
theorem own_puts {base size : Nat} {e t : TypeId} {v : Value} {n : Nat} {xs : List Value} {g : Nat} (hte : t ≠ e) : ∀ (vs : List Value) (o : Nat) {w : World} {cs : Array Value}, w.ownsRow base e size v n xs → Blk w g t cs → (w.setCells g o vs).ownsRow base e size v n xs
  | [], _, _, _, h, _ => h
  | u :: vs, o, w, cs, h, hb => by
    show ((w.setCell ⟨g, o, none⟩ u).setCells g (o + 1) vs).ownsRow base e size v n xs
    exact own_puts hte vs (o + 1) (own_put h hb hte o u) (hb.set o u)
theorem own_dput {base : Nat} {v : Value} {n : Nat} {xs : List Value} {g : Nat} {w : World} {cs old : Array Value} (h : w.ownsRow base 9 1 v n xs) (hb : Blk w g 30 old) : (deskPut w g cs).ownsRow base 9 1 v n xs := own_puts (by decide) cs.toList 0 h hb
theorem lines_nonl {ls : List ByteArray} (h : ∀ x ∈ ls, LineOk x) : NoNL ls := fun x hx => (h x hx).1
theorem lines_scr {ls : List ByteArray} (h : ∀ x ∈ ls, LineOk x) (hl : ls.length ≤ 5) : (scr ls).size ≤ 4005 := by
  have h1 := scr_size (ls := ls) (N := 800) fun x hx => (h x hx).2
  have h2 : (800 + 1) * ls.length ≤ (800 + 1) * 5 := Nat.mul_le_mul_left _ hl
  omega
theorem lines_run {ls : List ByteArray} (h : ∀ x ∈ ls, LineOk x) (hl : ls.length ≤ 5) (d : DeskD) : coOk (scr ls) = true ∧ rdkD d (scr ls) = stK d ls ls.length ∧ rdkT d (scr ls) = scr (outsK d ls ls.length) := by
  have hs := lines_scr h hl
  have hn := lines_nonl h
  refine ⟨scr_ok hn (by omega), ?_, ?_⟩
  · unfold rdkD
    rw [scr_lines hn]
  · unfold rdkT
    rw [scr_lines hn]
end Go.Proofs.YtgkbbpajkbkgnaaGreatDoor

namespace Go.Proofs.YtgkbbpajkbkgnaaGreatDoor
open Go.RowKit
theorem ext_take (T : ByteArray) (a : Nat) : T.extract 0 a = mkB (T.data.toList.take a) := by
  apply ByteArray.ext
  apply Array.ext'
  rw [ByteArray.data_extract, mkB_list]
  simp
theorem mkB_ext (l : List UInt8) (a : Nat) : (mkB l).extract 0 a = mkB (l.take a) := by rw [ext_take, mkB_list]
theorem sumS_le_jr (ls : List ByteArray) : ∀ k, k ≤ ls.length → sumS (ls.take k) ≤ (jrS ls k).size
  | 0, _ => by show sumS [] ≤ _; exact Nat.zero_le _
  | k + 1, h => by
    have ih := sumS_le_jr ls k (by omega)
    rw [sumS_take ls k (by omega)]
    show _ ≤ (jrS ls k ++ ent (jrC ls (k + 1)) (ls.getD k E0)).size
    rw [ByteArray.size_append, ent_size]
    omega
theorem sumS_bd {N : Nat} : ∀ {ls : List ByteArray}, (∀ x ∈ ls, x.size ≤ N) → sumS ls ≤ N * ls.length
  | [], _ => Nat.zero_le _
  | x :: r, h => by
    have := sumS_bd (ls := r) fun y hy => h y (by simp [hy])
    have hx := h x (by simp)
    show x.size + sumS r ≤ N * (r.length + 1)
    rw [Nat.mul_add, Nat.mul_one]; omega
theorem jrB_pos {c : Nat} {ls : List ByteArray} (h : 1 ≤ ls.length) : 1 ≤ (jrB c ls).length := by
  cases ls with
  | nil => simp at h
  | cons l r => show 1 ≤ (_ ++ 10 :: jrB _ r).length; simp; omega
theorem jrB_len5 {ls : List ByteArray} (h8 : ∀ x ∈ ls, x.size ≤ 800) (h5 : ls.length ≤ 5) : (jrB 0 ls).length ≤ 4100 := by
  rw [← jrS_len]
  have h1 := jrS_le ls ls.length (Nat.le_refl _)
  rw [List.take_length] at h1
  have h2 := sumS_bd h8
  omega
theorem bulk_five {ls : List ByteArray} (h8 : ∀ x ∈ ls, x.size ≤ 800) (h5 : ls.length ≤ 5) : bulkSs ls ≤ 1048576 := by
  have h2 := sumS_bd h8
  unfold bulkSs
  omega
theorem rj_bent {B : ByteArray} (h : B.size ≤ 16000) : rjOk B = true ∧ jrOk (rjR B) = true ∧ rjN B ≤ B.size ∧ jrR (rjR B) = B.extract 0 (rjN B) ∧ bulkSs (rjR B) ≤ 1048576 := by
  obtain ⟨a, b, c, _⟩ := rj_own h
  refine ⟨by unfold rjOk; exact decide_eq_true h, a, b, by rw [c, ext_take], ?_⟩
  have h1 := sumS_le_jr (rjR B) (rjR B).length (Nat.le_refl _)
  rw [List.take_length] at h1
  have h2 : (jrS (rjR B) (rjR B).length).size ≤ 16000 := by
    unfold jrOk at a
    simp only [Bool.and_eq_true, decide_eq_true_eq] at a
    exact a.2
  have h3 := rjR_cnt B
  unfold cntSs at h3
  unfold bulkSs
  omega
structure JFact (ls : List ByteArray) (T : ByteArray) : Prop where
  ok : jrOk ls = true
  is : jrR ls = T
  pos : 1 ≤ T.size
  few : T.size ≤ 4100
  rok : rjOk T = true
  back : rjR T = ls
  cut : ∀ a, a ≤ T.size → ∃ k, k ≤ ls.length ∧ rjR (T.extract 0 a) = ls.take k ∧ rjOk (T.extract 0 a) = true ∧ rjN (T.extract 0 a) ≤ a ∧ jrOk (ls.take k) = true ∧ jrR (ls.take k) = T.extract 0 (rjN (T.extract 0 a)) ∧ (k < ls.length → jrOk (ls.take (k + 1)) = true ∧ a < (jrR (ls.take (k + 1))).size) ∧ (a = T.size → rjN (T.extract 0 a) = T.size)
theorem jr_fact {ls : List ByteArray} (hn : NoNL ls) (h8 : ∀ x ∈ ls, x.size ≤ 800) (h1 : 1 ≤ ls.length) (h5 : ls.length ≤ 5) : JFact ls (mkB (jrB 0 ls)) := by
  have hz := jrB_len5 h8 h5
  obtain ⟨j1, j2⟩ := jr_ok hn (by omega)
  obtain ⟨w1, w2⟩ := rj_whole hn (by omega)
  refine ⟨j1, j2, by rw [mkB_size]; exact jrB_pos h1, by rw [mkB_size]; exact hz, by unfold rjOk; rw [mkB_size]; exact decide_eq_true (by omega), w1, fun a ha => ?_⟩
  rw [mkB_size] at ha
  obtain ⟨k, k1, k2, k3, k4, k5, k6⟩ := rj_cut hn (by omega) ha
  rw [mkB_ext, mkB_ext]
  refine ⟨k, k1, k2, ?_, k3, k4, k5, k6, fun he => ?_⟩
  · unfold rjOk
    rw [mkB_size, List.length_take]
    exact decide_eq_true (by omega)
  · rw [mkB_size] at he
    rw [he, List.take_length, w2, mkB_size]
theorem slc_takeV {w : World} {a : Option Addr} {n c m : Nat} {vs : List Value} (h : Slc w (.slice a n c) vs) (hm : 1 ≤ m) (hmn : m ≤ n) : Slc w (.slice a m c) (vs.take m) := by
  rcases h with ⟨e, rfl⟩ | ⟨ad, cap, e, h1, h2, h3⟩
  · simp only [Value.slice.injEq] at e
    omega
  · simp only [Value.slice.injEq] at e
    obtain ⟨rfl, rfl, rfl⟩ := e
    refine .inr ⟨ad, c, by rw [List.length_take, Nat.min_eq_left hmn], by rw [List.length_take]; omega, h2, fun i u hi => ?_⟩
    rw [List.getElem?_take] at hi
    split at hi
    · exact h3 i u hi
    · cases hi
theorem slc_capV {w : World} {a : Addr} {n c : Nat} {vs : List Value} (h : Slc w (.slice (some a) n c) vs) : n ≤ c ∧ c ≤ maxLen := by
  rcases h with ⟨e, rfl⟩ | ⟨ad, cap, e, h1, h2, h3⟩
  · simp at e
  · simp only [Value.slice.injEq] at e
    obtain ⟨_, rfl, rfl⟩ := e
    exact ⟨h1, h2⟩
theorem RdSs.take {w : World} {a : Option Addr} {n c m : Nat} {xs : List ByteArray} (h : RdSs w (.slice a n c) xs) (hm : 1 ≤ m) (hmn : m ≤ n) : RdSs w (.slice a m c) (xs.take m) := by
  refine ⟨?_, fun s hs => h.2 s (List.mem_of_mem_take hs)⟩
  rw [List.map_take]
  exact slc_takeV h.1 hm hmn
end Go.Proofs.YtgkbbpajkbkgnaaGreatDoor

namespace Go.Proofs.YtgkbbpajkbkgnaaGreatDoor
open Go.RowKit Go.Sort
section
attribute [local go_sem ↓] stDeskP
attribute [local go_sem] stDesk_in stDesk_run
set_option maxHeartbeats 8000000 in
set_option maxRecDepth 8000 in
theorem rnjI_any (v : Value) (d : DeskD) (s : ByteArray) (w : World) (h : RdD w v d) (hv : validDk d = true) (hbt : BitsD d) (hp : HasPow w) (hm : HasMax w) (he : HasErrs w) (hok : rjOk s = true) (hls : ∀ x ∈ rjR s, x.size ≤ 16000) :
    Calls Tryz.prog 35 #[v, .string s] w fun e w' => ∃ v', e = .returned (.tuple #[v', .int .i64 ((rjR s).length : Nat), .bool true]) ∧ OwnDx w.heap.size w' v' (stK d (rjR s) (rjR s).length) ∧ Below w.heap.size w w' := by
  obtain ⟨a1, c1, a2, c2, a3, c3, a4, c4, a5, c5, a6, c6, rfl⟩ := h.shape
  have HVA := Lib.hid (fun X (hb : Below w.heap.size w X) => show Calls Tryz.prog 18 _ X _ from hv ▸ implVD_any _ d X (h.up hb (Nat.le_refl _)))
  have HOW := Lib.hid (fun X (hb : Below w.heap.size w X) => own_any _ d X (h.up hb (Nat.le_refl _)) hv)
  have HLO := Lib.hid (fun X (hb : Below w.heap.size w X) => recoverI_any s X (hp.up hb (Nat.le_refl _)) (hm.up hb (Nat.le_refl _)))
  have HCM := Lib.hid (fun k X v2 (hb : Below w.heap.size w X) (hr : RdD X v2 (stK d (rjR s) k)) => cmdI_any v2 (stK d (rjR s) k) ((rjR s).getD k E0) X hr (stK_valid hv _ k) (stK_bits hbt _ k) (hp.up hb (Nat.le_refl _)) (hm.up hb (Nat.le_refl _)) (he.up hb (Nat.le_refl _)) (by
    rw [List.getD_eq_getElem?_getD]
    cases hq : (rjR s)[k]? with
    | none => exact Nat.zero_le _
    | some x => exact Nat.le_trans (hls x (List.mem_of_getElem? hq)) (by omega)))
  rw [hok] at HLO
  obtain ⟨L, hL⟩ : ∃ L, L = rjR s := ⟨_, rfl⟩
  rw [← hL] at HLO HCM ⊢
  obtain ⟨n, hn⟩ : ∃ n, n = L.length := ⟨_, rfl⟩
  rw [← hn]
  have HNL := Lib.hid hn
  clear h hv hbt hp hm he hok hL hn hls
  go_enter Tryz.func35, Tryz.ntmps35
  go_upto_region 1 with fail
  refine wp_at fun W0 hW0 => ?_
  have HB0 := Lib.hid (show Below w.heap.size w W0 by subst hW0; (repeat' first | exact Below.refl _ _ | assumption | refine Below.alloc ?_ ?_ _ | refine Below.setCell ?_ ?_ _ | refine Below.drew ?_ | (simp; done) | (simp; omega)))
  have HK0 := Lib.hid (show Blk W0 w.heap.size 30 #[.int .i64 d.rows.vars, .slice a1 d.rows.nums.length c1, .slice a2 d.rows.bnds.length c2, .slice a3 d.rows.gains.length c3, .slice a4 d.sizes.length c4, .slice a5 d.jobs.length c5, .slice a6 d.ways.length c6] by subst hW0; exact (Blk.new _ _ _).alloc _)
  have HL0 := Lib.hid (show Blk W0 (w.heap.size + 1) 30 zD by subst hW0; simpa using Blk.new (w.alloc (.cells #[.int .i64 d.rows.vars, .slice a1 d.rows.nums.length c1, .slice a2 d.rows.bnds.length c2, .slice a3 d.rows.gains.length c3, .slice a4 d.sizes.length c4, .slice a5 d.jobs.length c5, .slice a6 d.ways.length c6] 30)) 30 zD)
  clear hW0
  have hl0 := HL0.out.lt
  go_upto_region 4 with (first
    | (go_at_call 34; refine (HLO.out W0 HB0.out).mono ?_; rintro e w1 ⟨lv, rfl, hlv, hb1⟩; obtain ⟨la, lcap, rfl⟩ := hlv.rd.shape; have HB1 := HB0.out.trans (hb1.mono HB0.out.size); obtain ⟨i0, i1, i2, i3, i4, i5, i6⟩ := desk_cells (HK0.out.below hb1 HK0.out.lt))
    | (go_at_call 18; refine (HVA.out w1 HB1).mono ?_; rintro e w2 ⟨rfl, hb2⟩))
  have HB2 := Lib.hid (HB1.trans (hb2.mono HB1.size))
  have HK2 := Lib.hid ((HK0.out.below hb1 HK0.out.lt).below hb2 (Nat.lt_of_lt_of_le HK0.out.lt hb1.size))
  have HL2 := Lib.hid ((HL0.out.below hb1 hl0).below hb2 (Nat.lt_of_lt_of_le hl0 hb1.size))
  have hmx : n ≤ maxLen := by rw [HNL.out]; exact hlv.rd.len
  have hso2 := ownsK_below hlv.1.1 hb2 (Nat.le_refl _)
  rw [← HNL.out] at hso2 ⊢
  have HS2 := Lib.hid hso2
  have HMX := Lib.hid hmx
  have hz0 := HB0.out.size
  clear i0 i1 i2 i3 i4 i5 i6 hb1 hb2 hlv hso2 HB1 HK0 HL0 HB0 HVA HLO hz0 hl0 hmx
  obtain ⟨i0, i1, i2, i3, i4, i5, i6⟩ := desk_cells HK2.out
  go_upto_region 5 with (go_at_call 54; refine (HOW.out w2 HB2.out).mono ?_; rintro e w3 ⟨v3, rfl, ho3, hb3⟩; obtain ⟨b1, e1, b2, e2, b3, e3, b4, e4, b5, e5, b6, e6, rfl⟩ := ho3.shape; have HT : w3.there w.heap.size 0 7 := (store_blk (cells := zD) (HK2.out.below hb3 HK2.out.lt) rfl).1)
  refine wp_at fun W4 hW4 => ?_
  have hz2 := HB2.out.size
  have hbl := HK2.out.below hb3 HK2.out.lt
  have hx := put_desk (cs := #[.int .i64 d.rows.vars, .slice b1 d.rows.nums.length e1, .slice b2 d.rows.bnds.length e2, .slice b3 d.rows.gains.length e3, .slice b4 d.sizes.length e4, .slice b5 d.jobs.length e5, .slice b6 d.ways.length e6]) (ho3.wide hz2) hbl rfl
  have hy := own_dput (cs := #[.int .i64 d.rows.vars, .slice b1 d.rows.nums.length e1, .slice b2 d.rows.bnds.length e2, .slice b3 d.rows.gains.length e3, .slice b4 d.sizes.length e4, .slice b5 d.jobs.length e5, .slice b6 d.ways.length e6]) (ownsK_below HS2.out hb3 (Nat.le_refl _)) hbl
  rw [← hW4] at hx hy
  have HD4 := Lib.hid (show DskAt w.heap.size W4 w.heap.size d from ⟨_, hx.2.1, hx.1⟩)
  have HB4 := Lib.hid (show Below w.heap.size w W4 from (HB2.out.trans (hb3.mono hz2)).trans (hx.2.2.1.toBelow (Nat.le_trans hz2 hb3.size) (fun k h1 h2 => by omega)))
  have HL4 := Lib.hid ((HL2.out.below hb3 HL2.out.lt).kept hx.2.2.1 (show ¬ w.heap.size + 1 = w.heap.size by omega))
  have HS4 := Lib.hid hy
  clear hW4 hx hy hbl HT ho3 hb3 HK2 HL2 HS2 HB2 hz2 HOW i0 i1 i2 i3 i4 i5 i6
  go_wp2_with fail
  go_loopw [32] (fun iv wr => ∃ k : Nat, iv = .int .i64 k ∧ k ≤ n ∧ Hid (DskAt w.heap.size wr w.heap.size (stK d L k)) ∧ Hid (wr.ownsRow W0.heap.size 9 1 (.slice la n lcap) n (L.map SV)) ∧ Hid (Blk wr (w.heap.size + 1) 30 zD) ∧ Hid (Below w.heap.size w wr)) (fun iv _ => n - (intOf iv).toNat)
  case atStart => exact ⟨0, rfl, Nat.zero_le _, HD4, HS4, HL4, HB4⟩
  case round =>
    clear HD4 HS4 HL4 HB4
    obtain ⟨k, rfl, hk, HD, HS, HL, HB⟩ := hrel
    obtain ⟨wo, rfl⟩ : ∃ wo, wo = wr := ⟨wr, rfl⟩
    have hzo := HB.out.size
    have hmx := HMX.out
    unfold maxLen at hmx
    by_cases hlt : k < n
    · have hltI : (k : Int) < (n : Int) := by omega
      obtain ⟨lg, off, rfl, _, hc⟩ := (slc_of_owns HS.out).at (i := k) (u := .string (L.getD k E0)) (by rw [List.getElem?_map, List.getD_eq_getElem?_getD, List.getElem?_eq_getElem (by rw [← HNL.out]; exact hlt)]; rfl)
      obtain ⟨b1, e1, b2, e2, b3, e3, b4, e4, b5, e5, b6, e6, hblk, hown⟩ := HD.out.shape
      obtain ⟨i0, i1, i2, i3, i4, i5, i6⟩ := desk_cells hblk
      have HC := Lib.hid (HCM.out k wo _ HB.out hown.rd)
      have HST : Hid (stK d L (k + 1) = (cmdK (stK d L k) (L.getD k E0)).1) := rfl
      obtain ⟨x, hx⟩ : ∃ x, x = L.getD k E0 := ⟨_, rfl⟩
      rw [← hx] at hc HC HST
      obtain ⟨d1, hd1⟩ : ∃ y, y = stK d L k := ⟨_, rfl⟩
      rw [← hd1] at HC HST hblk hown i0 i1 i2 i3 i4 i5 i6
      obtain ⟨d2, hd2⟩ : ∃ y, y = (cmdK d1 x).1 := ⟨_, rfl⟩
      obtain ⟨out, hout⟩ : ∃ o, o = (cmdK d1 x).2 := ⟨_, rfl⟩
      rw [← hd2] at HC HST
      rw [← hout] at HC
      have HBK := Lib.hid hblk
      clear hx hd1 hd2 hout hblk hown HD
      go_upto_region 9 with (go_at_call 55; refine HC.out.mono ?_; rintro e w5 ⟨v5, rfl, ho5, hb5⟩; obtain ⟨f1, g1, f2, g2, f3, g3, f4, g4, f5, g5, f6, g6, rfl⟩ := ho5.shape; have HT : (w5.alloc (.cells zD 30)).there w5.heap.size 0 7 := (store_blk (cells := zD) (Blk.new w5 30 zD) rfl).1)
      refine wp_at fun W6 hW6 => ?_
      obtain ⟨nb, hnb⟩ : ∃ b, b = w5.heap.size := ⟨_, rfl⟩
      have hz5 := hb5.size
      have hba : Below w5.heap.size w5 (w5.alloc (.cells zD 30)) := (Below.refl w5.heap.size w5).alloc (Nat.le_refl _) (.cells zD 30)
      have hx := put_desk (cs := #[.int .i64 d2.rows.vars, .slice f1 d2.rows.nums.length g1, .slice f2 d2.rows.bnds.length g2, .slice f3 d2.rows.gains.length g3, .slice f4 d2.sizes.length g4, .slice f5 d2.jobs.length g5, .slice f6 d2.ways.length g6]) ((ho5.wide hzo).up hba (Nat.le_refl _)) (Blk.new w5 30 zD) rfl
      have hs6 := own_dput (cs := #[.int .i64 d2.rows.vars, .slice f1 d2.rows.nums.length g1, .slice f2 d2.rows.bnds.length g2, .slice f3 d2.rows.gains.length g3, .slice f4 d2.sizes.length g4, .slice f5 d2.jobs.length g5, .slice f6 d2.ways.length g6]) (ownsK_below (ownsK_below HS.out hb5 (Nat.le_refl _)) hba (Nat.le_refl _)) (Blk.new w5 30 zD)
      rw [← hW6] at hx hs6
      rw [← hnb] at hx
      have hlw := HBK.out.lt
      have hl4 := HL.out.lt
      have HBK6 := Lib.hid (((HBK.out.below hb5 hlw).alloc (.cells zD 30)).kept hx.2.2.1 (show ¬ w.heap.size = nb by omega))
      have HL6 := Lib.hid (((HL.out.below hb5 hl4).alloc (.cells zD 30)).kept hx.2.2.1 (show ¬ w.heap.size + 1 = nb by omega))
      have HB6 := Lib.hid (show Below w.heap.size w W6 from ((HB.out.trans (hb5.mono hzo)).alloc (by omega) (.cells zD 30)).trans (hx.2.2.1.toBelow (by simp; omega) (fun k h1 h2 => by omega)))
      have HX6 := Lib.hid hx
      have HS6 := Lib.hid hs6
      have HT6 : W6.there w.heap.size 0 7 := (store_blk (cells := zD) HBK6.out rfl).1
      have hnw : w.heap.size ≠ nb := by omega
      rw [← hnb]
      clear hW6 hx hs6 hba ho5 hb5 HT hnb hlw hl4 HBK HS HL HB i0 i1 i2 i3 i4 i5 i6 hc HC
      obtain ⟨i0, i1, i2, i3, i4, i5, i6⟩ := desk_cells HX6.out.2.1
      go_upto_region 10 with fail
      refine wp_at fun W7 hW7 => ?_
      have hy := put_desk (cs := #[.int .i64 d2.rows.vars, .slice f1 d2.rows.nums.length g1, .slice f2 d2.rows.bnds.length g2, .slice f3 d2.rows.gains.length g3, .slice f4 d2.sizes.length g4, .slice f5 d2.jobs.length g5, .slice f6 d2.ways.length g6]) HX6.out.1 HBK6.out rfl
      have hs7 := own_dput (cs := #[.int .i64 d2.rows.vars, .slice f1 d2.rows.nums.length g1, .slice f2 d2.rows.bnds.length g2, .slice f3 d2.rows.gains.length g3, .slice f4 d2.sizes.length g4, .slice f5 d2.jobs.length g5, .slice f6 d2.ways.length g6]) HS6.out HBK6.out
      rw [← hW7] at hy hs7
      have HS7 := Lib.hid hs7
      have HL7 := Lib.hid (HL6.out.kept hy.2.2.1 (show ¬ w.heap.size + 1 = w.heap.size by omega))
      have HB7 := Lib.hid (HB6.out.trans (hy.2.2.1.toBelow HB6.out.size (fun k h1 h2 => by omega)))
      have HD7 := Lib.hid (show DskAt w.heap.size W7 w.heap.size d2 from ⟨_, hy.2.1, hy.1⟩)
      clear hW7 hy hs7 HT6 HX6 HS6 HL6 HB6 HBK6 i0 i1 i2 i3 i4 i5 i6
      go_wp2_with fail
      go_roundw
      case rel => exact ⟨k + 1, by go_num, by omega, Lib.hid (by rw [HST.out]; exact HD7.out), HS7, HL7, HB7⟩
      case measure => simp [intOf]; omega
    · have hltI : ¬ (k : Int) < (n : Int) := by omega
      have hkn : k = n := by omega
      rw [hkn] at HD
      obtain ⟨b1, e1, b2, e2, b3, e3, b4, e4, b5, e5, b6, e6, hblk, hown⟩ := HD.out.shape
      obtain ⟨d1, hd1⟩ : ∃ y, y = stK d L n := ⟨_, rfl⟩
      have HDE := Lib.hid (show stK d L n = d1 from hd1.symm)
      rw [← hd1] at hblk hown
      obtain ⟨i0, i1, i2, i3, i4, i5, i6⟩ := desk_cells (show Blk wo.drew w.heap.size 30 _ from hblk)
      obtain ⟨j0, j1, j2, j3, j4, j5, j6⟩ := desk_cells (show Blk wo w.heap.size 30 _ from hblk)
      have hx := put_desk (cs := #[.int .i64 d1.rows.vars, .slice b1 d1.rows.nums.length e1, .slice b2 d1.rows.bnds.length e2, .slice b3 d1.rows.gains.length e3, .slice b4 d1.sizes.length e4, .slice b5 d1.jobs.length e5, .slice b6 d1.ways.length e6]) hown HL.out rfl
      have hx2 := put_desk (w := wo.drew) (cs := #[.int .i64 d1.rows.vars, .slice b1 d1.rows.nums.length e1, .slice b2 d1.rows.bnds.length e2, .slice b3 d1.rows.gains.length e3, .slice b4 d1.sizes.length e4, .slice b5 d1.jobs.length e5, .slice b6 d1.ways.length e6]) (hown.up (Below.refl _ wo).drew (Nat.le_refl _)) (show Blk wo.drew _ _ _ from HL.out) rfl
      have HF := Lib.hid (show OwnDx w.heap.size (deskPut wo.drew (w.heap.size + 1) #[.int .i64 d1.rows.vars, .slice b1 d1.rows.nums.length e1, .slice b2 d1.rows.bnds.length e2, .slice b3 d1.rows.gains.length e3, .slice b4 d1.sizes.length e4, .slice b5 d1.jobs.length e5, .slice b6 d1.ways.length e6]) (.agg #[.int .i64 d1.rows.vars, .slice b1 d1.rows.nums.length e1, .slice b2 d1.rows.bnds.length e2, .slice b3 d1.rows.gains.length e3, .slice b4 d1.sizes.length e4, .slice b5 d1.jobs.length e5, .slice b6 d1.ways.length e6]) d1 ∧ Below w.heap.size w (deskPut wo.drew (w.heap.size + 1) #[.int .i64 d1.rows.vars, .slice b1 d1.rows.nums.length e1, .slice b2 d1.rows.bnds.length e2, .slice b3 d1.rows.gains.length e3, .slice b4 d1.sizes.length e4, .slice b5 d1.jobs.length e5, .slice b6 d1.ways.length e6]) ∧ Blk (deskPut wo.drew (w.heap.size + 1) #[.int .i64 d1.rows.vars, .slice b1 d1.rows.nums.length e1, .slice b2 d1.rows.bnds.length e2, .slice b3 d1.rows.gains.length e3, .slice b4 d1.sizes.length e4, .slice b5 d1.jobs.length e5, .slice b6 d1.ways.length e6]) (w.heap.size + 1) 30 #[.int .i64 d1.rows.vars, .slice b1 d1.rows.nums.length e1, .slice b2 d1.rows.bnds.length e2, .slice b3 d1.rows.gains.length e3, .slice b4 d1.sizes.length e4, .slice b5 d1.jobs.length e5, .slice b6 d1.ways.length e6] from
        ⟨hx2.1, HB.out.drew.trans (hx2.2.2.1.toBelow HB.out.size (fun k h1 h2 => by omega)), hx2.2.1⟩)
      have HT : wo.drew.there (w.heap.size + 1) 0 7 := (store_blk (w := wo.drew) (cells := zD) (show Blk wo.drew _ _ _ from HL.out) rfl).1
      obtain ⟨q0, q1, q2, q3, q4, q5, q6⟩ := desk_cells HF.out.2.2
      clear hx hx2 hd1 hown hblk HD HS HL
      go_wp2_with fail
      go_region_with (go_at_call 66; refine (size_any n _ HMX.out).mono ?_; rintro e w9 ⟨rfl, rfl⟩)
      all_goals
        go_wp2_with fail
        go_simp
        refine bodyPost_ret (v := .tuple #[.agg #[.int .i64 d1.rows.vars, .slice b1 d1.rows.nums.length e1, .slice b2 d1.rows.bnds.length e2, .slice b3 d1.rows.gains.length e3, .slice b4 d1.sizes.length e4, .slice b5 d1.jobs.length e5, .slice b6 d1.ways.length e6], .int .i64 (n : Nat), .bool true]) (by simp [results, Tryz.results35, go_sem, *]) rfl ?_
        rw [HDE.out]
        exact ⟨_, rfl, HF.out.1, HF.out.2.1⟩
end
end Go.Proofs.YtgkbbpajkbkgnaaGreatDoor
