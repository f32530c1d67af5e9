/-
  FnDesk: texts joined: LFnDesk, OpenB.
-/
import Derived.Deep.RegionWith
import Derived.Test.YtgkbbpajkbkgnaaGreatDoorMFnDeskAK
import Derived.Test.YtgkbbpajkbkgnaaGreatDoorMFnDeskAN
import Derived.Test.YtgkbbpajkbkgnaaGreatDoorMFnDeskBB
import Derived.Test.YtgkbbpajkbkgnaaGreatDoorMFnDeskBL
set_option linter.unusedVariables false
set_option linter.unusedSimpArgs false
namespace Go.Proofs.YtgkbbpajkbkgnaaGreatDoor
open Go.RowKit Go.Sort
structure PreF (w : World) (lo lb : Nat) (W : World) (db nb : Nat) (cd c1 : Array Value) (d d1 : DeskD) (lv : Value) (n : Nat) (ls : List ByteArray) : Prop where
  o : OwnDx lo W (.agg cd) d
  k : Blk W db 30 cd
  o1 : OwnDx lo W (.agg c1) d1
  k1 : Blk W nb 30 c1
  ls : W.ownsRow lb 9 1 lv n (ls.map SV)
  b : Below lo w W
theorem PreF.below {w : World} {lo lb : Nat} {W W' : World} {db nb : Nat} {cd c1 : Array Value} {d d1 : DeskD} {lv : Value} {n : Nat} {ls : List ByteArray} (h : PreF w lo lb W db nb cd c1 d d1 lv n ls) (hb : Below W.heap.size W W') (hlo : lo ≤ W.heap.size) : PreF w lo lb W' db nb cd c1 d d1 lv n ls :=
  ⟨h.o.up hb (Nat.le_refl _), h.k.below hb h.k.lt, h.o1.up hb (Nat.le_refl _), h.k1.below hb h.k1.lt, ownsK_below h.ls hb (Nat.le_refl _), h.b.trans (hb.mono hlo)⟩
theorem PreF.put {w : World} {lo lb : Nat} {W : World} {db nb g : Nat} {cd c1 old cs : Array Value} {d d1 : DeskD} {lv : Value} {n : Nat} {ls : List ByteArray} (h : PreF w lo lb W db nb cd c1 d d1 lv n ls) (hg : Blk W g 30 old) (hz : old.size = cs.size) (h1 : db ≠ g) (h2 : nb ≠ g) (hlo : lo ≤ g) (hlw : lo ≤ W.heap.size) : PreF w lo lb (deskPut W g cs) db nb cd c1 d d1 lv n ls := by
  have hp := put_desk (cs := cs) h.o hg hz
  exact ⟨hp.1, h.k.kept hp.2.2.1 h1, (put_desk (cs := cs) h.o1 hg hz).1, h.k1.kept hp.2.2.1 h2, own_dput h.ls hg, h.b.trans (hp.2.2.1.toBelow hlw (fun k h1 h2 => by omega))⟩
theorem in64d {xs : List Int} (h : ∀ x ∈ xs, 0 ≤ x ∧ x ≤ 100000) : allIn (-1000000000000000) 1000000000000000 xs = true := by
  rw [allIn_iff]
  intro i hi
  have := h (xs.getD i 0) (by rw [List.getD_eq_getElem?_getD, List.getElem?_eq_getElem hi]; exact List.getElem_mem _)
  rw [inB_iff]; omega
section
attribute [local go_sem ↓] stDeskP
attribute [local go_sem] stDesk_in stDesk_run
set_option maxHeartbeats 8000000 in
set_option maxRecDepth 8000 in
theorem lawFnDesk_any (w : World) (v0 : Value) (xs : List Int) (h0 : RdB w v0 xs) (y0 : WfB xs) (v1 : Value) (ys : List Int) (h1 : RdB w v1 ys) (y1 : WfB ys) (hp : HasPow w) (hm : HasMax w) (he : HasErrs w) :
    Calls Tryz.prog 4 #[v0, v1] w fun e w' => e = .returned (.bool true) ∧ Below w.heap.size w w' := by
  have HLNG := Lib.hid (r8Long_any v0 v1 xs ys w h0 h1)
  by_cases hl : isLong8 xs ys = true
  · rw [hl] at HLNG
    clear h0 h1 y0 y1 hp hm he hl
    go_enter Tryz.func4, Tryz.ntmps4
    go_wp2_with (go_at_call 9; refine HLNG.out.mono ?_; rintro e w0 ⟨rfl, rfl⟩)
    go_ret
    exact ⟨rfl, Below.refl _ _⟩
  rw [Bool.not_eq_true] at hl
  rw [hl] at HLNG
  have HDR := Lib.hid (R8DeskO_any v0 xs w h0 y0)
  have HLR := Lib.hid (fun X (hb : Below w.heap.size w X) => R8Lines_any v1 ys X (h1.up hb (Nat.le_refl _)) y1)
  have HPW := Lib.hid hp
  have HMX := Lib.hid hm
  have HER := Lib.hid he
  clear h0 h1 y0 y1 hp hm he hl
  go_enter Tryz.func4, Tryz.ntmps4
  go_upto_region 4 with (first
    | (go_at_call 9; refine HLNG.out.mono ?_; rintro e w0 ⟨rfl, rfl⟩)
    | (go_at_call 10; refine HDR.out.mono ?_; rintro e w1 ⟨d, dv, hd, rfl, hrd, hb1⟩; obtain ⟨a1, c1, a2, c2, a3, c3, a4, c4, a5, c5, a6, c6, rfl⟩ := hrd.shape; have HT : (w1.alloc (.cells zD 30)).there w1.heap.size 0 7 := (store_blk (cells := zD) (Blk.new w1 30 zD) rfl).1))
  refine wp_at fun W2 hW2 => ?_
  have hz1 := hb1.size
  have hx := put_desk (cs := #[.int .i64 d.rows.vars, .slice a1 d.rows.nums.length c1, .slice a2 d.rows.bnds.length c2, .slice a3 d.rows.gains.length c3, .slice a4 d.sizes.length c4, .slice a5 d.jobs.length c5, .slice a6 d.ways.length c6]) (hrd.up ((Below.refl w1.heap.size w1).alloc (Nat.le_refl _) (.cells zD 30)) (Nat.le_refl _)) (Blk.new w1 30 zD) rfl
  rw [← hW2] at hx
  obtain ⟨db, hdb⟩ : ∃ b, b = w1.heap.size := ⟨_, rfl⟩
  rw [← hdb] at hx ⊢
  have HO2 := Lib.hid hx.1
  have HK2 := Lib.hid hx.2.1
  have HB2 := Lib.hid (show Below w.heap.size w W2 from (hb1.alloc hz1 (.cells zD 30)).trans (hx.2.2.1.toBelow (by simp; omega) (fun k h1 h2 => by omega)))
  have HDRW := Lib.hid hd
  have hdbw : w.heap.size ≤ db := by omega
  clear hW2 hb1 hrd hx HT hdb hz1 hd HLNG HDR
  go_upto_region 5 with (go_at_call 28; refine (HLR.out W2 HB2.out).mono ?_; rintro e w3 ⟨ls, lv, hll, hlo, rfl, hso, hb3⟩; obtain ⟨la, lc, rfl⟩ := hso.rd.shape)
  have hz2 := HB2.out.size
  have HO3 := Lib.hid (HO2.out.up hb3 (Nat.le_refl _))
  have HK3 := Lib.hid (HK2.out.below hb3 HK2.out.lt)
  have HB3 := Lib.hid (HB2.out.trans (hb3.mono hz2))
  have HSO3 := Lib.hid hso.1.1
  have HLO := Lib.hid hlo
  obtain ⟨i0, i1, i2, i3, i4, i5, i6⟩ := desk_cells HK3.out
  have HT : (w3.alloc (.cells zD 30)).there w3.heap.size 0 7 := (store_blk (cells := zD) (Blk.new w3 30 zD) rfl).1
  clear HO2 HK2 HB2 hso hb3 hlo HLR hz2
  go_upto_region 6 with fail
  refine wp_at fun W4 hW4 => ?_
  have hz3 := HB3.out.size
  have hba : Below w3.heap.size w3 (w3.alloc (.cells zD 30)) := (Below.refl _ _).alloc (Nat.le_refl _) _
  have hx := put_desk (cs := #[.int .i64 d.rows.vars, .slice a1 d.rows.nums.length c1, .slice a2 d.rows.bnds.length c2, .slice a3 d.rows.gains.length c3, .slice a4 d.sizes.length c4, .slice a5 d.jobs.length c5, .slice a6 d.ways.length c6]) (HO3.out.up hba (Nat.le_refl _)) (Blk.new w3 30 zD) rfl
  have hso := own_dput (cs := #[.int .i64 d.rows.vars, .slice a1 d.rows.nums.length c1, .slice a2 d.rows.bnds.length c2, .slice a3 d.rows.gains.length c3, .slice a4 d.sizes.length c4, .slice a5 d.jobs.length c5, .slice a6 d.ways.length c6]) (ownsK_below HSO3.out hba (Nat.le_refl _)) (Blk.new w3 30 zD)
  rw [← hW4] at hx hso
  obtain ⟨nb, hnb⟩ : ∃ b, b = w3.heap.size := ⟨_, rfl⟩
  have hkl := HK3.out.lt
  rw [← hnb] at hx ⊢
  have HO4 := Lib.hid hx.1
  have HN4 := Lib.hid (show DskAt w.heap.size W4 nb d from ⟨_, hx.2.1, hx.1⟩)
  have HK4 := Lib.hid ((HK3.out.alloc (.cells zD 30)).kept hx.2.2.1 (show ¬ db = nb by omega))
  have HB4 := Lib.hid (show Below w.heap.size w W4 from (HB3.out.alloc hz3 (.cells zD 30)).trans (hx.2.2.1.toBelow (by simp; omega) (fun k h1 h2 => by omega)))
  have HSO4 := Lib.hid hso
  have hnbw : w.heap.size ≤ nb := by omega
  have hdn : db ≠ nb := by omega
  obtain ⟨n, hn⟩ : ∃ n, n = ls.length := ⟨_, rfl⟩
  rw [← hn] at hll HSO4 ⊢
  have HNL := Lib.hid hn
  obtain ⟨hv, hbt, _, _⟩ := drawD_ok HDRW.out
  have HV := Lib.hid hv
  have HBT := Lib.hid hbt
  have HSV := Lib.hid (fun k => stK_valid hv ls k)
  have HSB := Lib.hid (fun k => stK_bits hbt ls k)
  have HSC := Lib.hid (fun k => show (scr (ls.take k)).size ≤ 4005 from lines_scr (fun x hx => HLO.out x (List.mem_of_mem_take hx)) (by rw [List.length_take]; omega))
  have HSW := Lib.hid (fun k (hk : k ≤ 5) => outs_size hv hbt ls k (by omega))
  have HTL := Lib.hid (fun k => (told_cmd (stK_valid hv ls k) (stK_bits hbt ls k) (ls.getD k E0)).2)
  clear hW4 hx hso hba HT HO3 HK3 HB3 HSO3 i0 i1 i2 i3 i4 i5 i6 hnb hz3 hkl hn hv hbt
  go_wp2_with fail
  go_loopw [8, 9, 10, 11] (fun sv wv bv iv wr => ∃ k : Nat, iv = .int .i64 k ∧ k ≤ n ∧ sv = .string (scr (ls.take k)) ∧ wv = .string (scr (outsK d ls k)) ∧ bv = .int .i64 (badK (outsK d ls k) k : Nat) ∧ Hid (DskAt w.heap.size wr nb (stK d ls k)) ∧ Hid (OwnDx w.heap.size wr (.agg #[.int .i64 d.rows.vars, .slice a1 d.rows.nums.length c1, .slice a2 d.rows.bnds.length c2, .slice a3 d.rows.gains.length c3, .slice a4 d.sizes.length c4, .slice a5 d.jobs.length c5, .slice a6 d.ways.length c6]) d) ∧ Hid (Blk wr db 30 #[.int .i64 d.rows.vars, .slice a1 d.rows.nums.length c1, .slice a2 d.rows.bnds.length c2, .slice a3 d.rows.gains.length c3, .slice a4 d.sizes.length c4, .slice a5 d.jobs.length c5, .slice a6 d.ways.length c6]) ∧ Hid (wr.ownsRow W2.heap.size 9 1 (.slice la n lc) n (ls.map SV)) ∧ Hid (Below w.heap.size w wr)) (fun _ _ _ iv _ => n - (intOf iv).toNat)
  case atStart => exact ⟨0, rfl, Nat.zero_le _, rfl, rfl, rfl, HN4, HO4, HK4, HSO4, HB4⟩
  case round =>
    clear HN4 HO4 HK4 HSO4 HB4
    obtain ⟨k, rfl, hk, rfl, rfl, rfl, HN, HO, HK, HSO, HB⟩ := hrel
    obtain ⟨wo, rfl⟩ : ∃ wo, wo = wr := ⟨wr, rfl⟩
    have hzo := HB.out.size
    by_cases hlt : k < n
    · have hltI : (k : Int) < (n : Int) := by omega
      obtain ⟨lb, lo, rfl, _, hc⟩ := (slc_of_owns HSO.out).at (i := k) (u := .string (ls.getD k E0)) (by rw [List.getElem?_map, List.getD_eq_getElem?_getD, List.getElem?_eq_getElem (by rw [← HNL.out]; exact hlt)]; rfl)
      obtain ⟨b1, e1, b2, e2, b3, e3, b4, e4, b5, e5, b6, e6, hblk, hown⟩ := HN.out.shape
      have hlo := HLO.out (ls.getD k E0) (getD_mem (by rw [← HNL.out]; exact hlt))
      have hba0 : Below w.heap.size w wo.drew := HB.out.drew
      have hba1 : Below w.heap.size w (wo.alloc (.cells zD 30)).drew := (HB.out.alloc hzo _).drew
      have HC := Lib.hid (fun X (hb : Below w.heap.size w X) (hr : RdD X _ (stK d ls k)) => deskI_yes (.agg #[.int .i64 (stK d ls k).rows.vars, .slice b1 (stK d ls k).rows.nums.length e1, .slice b2 (stK d ls k).rows.bnds.length e2, .slice b3 (stK d ls k).rows.gains.length e3, .slice b4 (stK d ls k).sizes.length e4, .slice b5 (stK d ls k).jobs.length e5, .slice b6 (stK d ls k).ways.length e6]) (stK d ls k) (ls.getD k E0) X hr (HSV.out k) (HSB.out k) (HPW.out.up hb (Nat.le_refl _)) (HMX.out.up hb (Nat.le_refl _)) (HER.out.up hb (Nat.le_refl _)) (by have := hlo.2; omega))
      have HST : Hid (stK d ls (k + 1) = (cmdK (stK d ls k) (ls.getD k E0)).1) := rfl
      have HAN : Hid (ansK d ls k = (cmdK (stK d ls k) (ls.getD k E0)).2) := rfl
      have HBD := Lib.hid (fun h => cmd_bad (d := stK d ls k) (s := ls.getD k E0) h)
      have HSCR := Lib.hid (outsK_scr d ls k)
      have HTK := Lib.hid (scr_take ls k (by rw [← HNL.out]; exact hlt))
      have HBS := Lib.hid (outs_bad_succ (d := d) (ls := ls) (k := k))
      have hbk : badK (outsK d ls k) k ≤ k := badK_le _ _
      have hsc := HSC.out k
      have hsw := HSW.out k (by omega)
      have htl := HTL.out k
      have hvx := HSV.out (k + 1)
      have hls := hlo.2
      have HXL := Lib.hid (show ls[k]? = some (ls.getD k E0) by rw [List.getD_eq_getElem?_getD, List.getElem?_eq_getElem (by rw [← HNL.out]; exact hlt)]; rfl)
      obtain ⟨x, hx⟩ : ∃ x, x = ls.getD k E0 := ⟨_, rfl⟩
      rw [← hx] at hc HC HST HAN HBD HTK htl hls HXL
      obtain ⟨d1, hd1⟩ : ∃ y, y = stK d ls k := ⟨_, rfl⟩
      rw [← hd1] at HC HST HAN HBD hblk hown htl
      rw [HST.out] at hvx
      obtain ⟨d2, hd2⟩ : ∃ y, y = (cmdK d1 x).1 := ⟨_, rfl⟩
      obtain ⟨out, hout⟩ : ∃ o, o = (cmdK d1 x).2 := ⟨_, rfl⟩
      rw [← hd2] at HC HST HBD hvx
      rw [← hout] at HC HAN HBD htl
      rw [HAN.out] at HSCR HBS
      obtain ⟨S, hS⟩ : ∃ t, t = scr (ls.take k) := ⟨_, rfl⟩
      obtain ⟨O, hO⟩ : ∃ t, t = scr (outsK d ls k) := ⟨_, rfl⟩
      obtain ⟨b, hb⟩ : ∃ t, t = badK (outsK d ls k) k := ⟨_, rfl⟩
      rw [← hS] at HTK hsc ⊢
      rw [← hO] at HSCR hsw ⊢
      rw [← hb] at HBS hbk ⊢
      have HPF := Lib.hid (show PreF w w.heap.size W2.heap.size wo db nb _ _ d d1 _ n ls from ⟨HO.out, HK.out, hown, hblk, HSO.out, HB.out⟩)
      have HVX := Lib.hid hvx
      have hba : Below wo.heap.size wo (wo.alloc (.cells zD 30)) := (Below.refl _ _).alloc (Nat.le_refl _) _
      have HPA := Lib.hid (HPF.out.below hba hzo)
      have hc' : wo.drew.cell? ⟨lb, lo + k, none⟩ = some (.string x) := hc
      have hc'' : (wo.alloc (.cells zD 30)).drew.cell? ⟨lb, lo + k, none⟩ = some (.string x) := (hba.cell (p := ⟨lb, lo + k, none⟩) (cell_lt hc)).trans hc
      obtain ⟨i0, i1, i2, i3, i4, i5, i6⟩ := desk_cells (show Blk wo.drew nb 30 _ from hblk)
      obtain ⟨j0, j1, j2, j3, j4, j5, j6⟩ := desk_cells (show Blk (wo.alloc (.cells zD 30)).drew nb 30 _ from HPA.out.k1)
      have hdl := HK.out.lt
      have hnl := hblk.lt
      clear hx hd1 hd2 hout hS hO hb hblk hown HN hlo hvx hc HO HK HSO
      go_wp2_with fail
      go_region_with (go_at_call 29; first
        | (refine (HC.out wo.drew hba0 HPF.out.o1.rd).mono ?_; rintro e w5 ⟨v5, rfl, ho5, hb5⟩; obtain ⟨f1, g1, f2, g2, f3, g3, f4, g4, f5, g5, f6, g6, rfl⟩ := ho5.shape; have hb5' : Below wo.heap.size wo w5 := Below.trans (Below.refl _ wo).drew hb5; have hz5 := hb5'.size; have HT : (w5.alloc (.cells zD 30)).there w5.heap.size 0 7 := (store_blk (cells := zD) (Blk.new w5 30 zD) rfl).1; have hb6 : Below w5.heap.size w5 (w5.alloc (.cells zD 30)) := (Below.refl _ _).alloc (Nat.le_refl _) _; have F := (HPF.out.below hb5' hzo).below hb6 (Nat.le_trans hzo hz5); have G := F.put (cs := #[.int .i64 d2.rows.vars, .slice f1 d2.rows.nums.length g1, .slice f2 d2.rows.bnds.length g2, .slice f3 d2.rows.gains.length g3, .slice f4 d2.sizes.length g4, .slice f5 d2.jobs.length g5, .slice f6 d2.ways.length g6]) (Blk.new w5 30 zD) rfl (by omega) (by omega) (Nat.le_trans hzo hz5) (Nat.le_trans (Nat.le_trans hzo hz5) hb6.size); have H := put_desk (cs := #[.int .i64 d2.rows.vars, .slice f1 d2.rows.nums.length g1, .slice f2 d2.rows.bnds.length g2, .slice f3 d2.rows.gains.length g3, .slice f4 d2.sizes.length g4, .slice f5 d2.jobs.length g5, .slice f6 d2.ways.length g6]) ((ho5.wide (lo' := w.heap.size) hzo).up hb6 (Nat.le_refl _)) (Blk.new w5 30 zD) rfl; obtain ⟨mb, hmb⟩ : ∃ b, b = w5.heap.size := ⟨_, rfl⟩; have hnm : nb ≠ mb := by omega)
        | (refine (HC.out (wo.alloc (.cells zD 30)).drew hba1 HPA.out.o1.rd).mono ?_; rintro e w5 ⟨v5, rfl, ho5, hb5⟩; obtain ⟨f1, g1, f2, g2, f3, g3, f4, g4, f5, g5, f6, g6, rfl⟩ := ho5.shape; have hb5' : Below (wo.alloc (.cells zD 30)).heap.size (wo.alloc (.cells zD 30)) w5 := Below.trans (Below.refl _ (wo.alloc (.cells zD 30))).drew hb5; have hz5 := hb5'.size; have hgb := (Blk.new wo 30 zD).below hb5' (by simp); have HT : w5.there wo.heap.size 0 7 := (store_blk (cells := zD) hgb rfl).1; have hzz := Nat.le_trans hzo (Nat.le_trans hba.size hz5); have F := HPA.out.below hb5' (Nat.le_trans hzo hba.size); have G := F.put (cs := #[.int .i64 d2.rows.vars, .slice f1 d2.rows.nums.length g1, .slice f2 d2.rows.bnds.length g2, .slice f3 d2.rows.gains.length g3, .slice f4 d2.sizes.length g4, .slice f5 d2.jobs.length g5, .slice f6 d2.ways.length g6]) hgb rfl (by omega) (by omega) hzo hzz; have H := put_desk (cs := #[.int .i64 d2.rows.vars, .slice f1 d2.rows.nums.length g1, .slice f2 d2.rows.bnds.length g2, .slice f3 d2.rows.gains.length g3, .slice f4 d2.sizes.length g4, .slice f5 d2.jobs.length g5, .slice f6 d2.ways.length g6]) (ho5.wide (lo' := w.heap.size) (Nat.le_trans hzo hba.size)) hgb rfl; obtain ⟨mb, hmb⟩ : ∃ b, b = wo.heap.size := ⟨_, rfl⟩; have hnm : nb ≠ mb := by omega))
      all_goals
        go_upto_region 13 with fail
        refine wp_at fun W6 hW6 => ?_
        rw [← hW6] at G H
        rw [← hmb] at H ⊢
        have HG := Lib.hid G
        have HH := Lib.hid H
        clear hW6 hmb G H F HT i0 i1 i2 i3 i4 i5 i6 j0 j1 j2 j3 j4 j5 j6 hc' hc'' hz5 hb5' hb5 ho5 HC HPF HPA hba hba0 hba1 HB hdl hnl
        have hy := put_desk (cs := #[.int .i64 d2.rows.vars, .slice f1 d2.rows.nums.length g1, .slice f2 d2.rows.bnds.length g2, .slice f3 d2.rows.gains.length g3, .slice f4 d2.sizes.length g4, .slice f5 d2.jobs.length g5, .slice f6 d2.ways.length g6]) HH.out.1 HG.out.k1 rfl
        have hgw : w.heap.size ≤ W6.heap.size := HG.out.b.size
        have HVD := Lib.hid (implVD_any _ d2 W6 HH.out.1.rd)
        rw [HVX.out] at HVD
        clear hy
        obtain ⟨i0, i1, i2, i3, i4, i5, i6⟩ := desk_cells HH.out.2.1
        rcases isBad_cases out with ⟨h1, h2⟩ | ⟨h1, h2, h3⟩ | ⟨h1, h2, h3⟩
        · have HS1 := Lib.hid (show badK (outsK d ls (k + 1)) (k + 1) = b + 1 by rw [HBS.out, h1]; rfl)
          have HSE := Lib.hid (HBD.out h1)
          clear h1
          have hbI : IntKind.i64.wrap ((b : Int) + 1) = ((b + 1 : Nat) : Int) := by rw [IntWalk.i64_in _ (by omega)]; push_cast; rfl
          go_upto_region 17 with (go_at_call 18; refine HVD.out.mono ?_; rintro e w7 ⟨rfl, hb7⟩)
          have HGY := Lib.hid (HG.out.below hb7 hgw)
          have HMY := Lib.hid (show OwnDx w.heap.size w7 (.agg #[.int .i64 d2.rows.vars, .slice f1 d2.rows.nums.length g1, .slice f2 d2.rows.bnds.length g2, .slice f3 d2.rows.gains.length g3, .slice f4 d2.sizes.length g4, .slice f5 d2.jobs.length g5, .slice f6 d2.ways.length g6]) d2 ∧ Blk w7 mb 30 #[.int .i64 d2.rows.vars, .slice f1 d2.rows.nums.length g1, .slice f2 d2.rows.bnds.length g2, .slice f3 d2.rows.gains.length g3, .slice f4 d2.sizes.length g4, .slice f5 d2.jobs.length g5, .slice f6 d2.ways.length g6] from ⟨HH.out.1.up hb7 (Nat.le_refl _), HH.out.2.1.below hb7 HH.out.2.1.lt⟩)
          have hg7 : w.heap.size ≤ w7.heap.size := HGY.out.b.size
          obtain ⟨j0, j1, j2, j3, j4, j5, j6⟩ := desk_cells HMY.out.2
          obtain ⟨m0, m1, m2, m3, m4, m5, m6⟩ := desk_cells HGY.out.k1
          have hsd := implSameDesk_any _ _ d2 d1 w7 HMY.out.1.rd HGY.out.o1.rd
          rw [show sameD d2 d1 = true by rw [HSE.out]; exact sameD_rfl _] at hsd
          have HSD := Lib.hid hsd
          clear hb7 hsd i0 i1 i2 i3 i4 i5 i6 HG HH HVD
          go_upto_region 19 with (go_at_call 27; refine HSD.out.mono ?_; rintro e w8 ⟨rfl, hb8⟩)
          have HGZ := Lib.hid (HGY.out.below hb8 hg7)
          have HMZ := Lib.hid (show OwnDx w.heap.size w8 (.agg #[.int .i64 d2.rows.vars, .slice f1 d2.rows.nums.length g1, .slice f2 d2.rows.bnds.length g2, .slice f3 d2.rows.gains.length g3, .slice f4 d2.sizes.length g4, .slice f5 d2.jobs.length g5, .slice f6 d2.ways.length g6]) d2 ∧ Blk w8 mb 30 #[.int .i64 d2.rows.vars, .slice f1 d2.rows.nums.length g1, .slice f2 d2.rows.bnds.length g2, .slice f3 d2.rows.gains.length g3, .slice f4 d2.sizes.length g4, .slice f5 d2.jobs.length g5, .slice f6 d2.ways.length g6] from ⟨HMY.out.1.up hb8 (Nat.le_refl _), HMY.out.2.below hb8 HMY.out.2.lt⟩)
          clear hb8 j0 j1 j2 j3 j4 j5 j6 m0 m1 m2 m3 m4 m5 m6 HGY HMY hg7 HSD
          have hnw : w.heap.size ≤ w8.heap.size := HGZ.out.b.size
          have HT : w8.there nb 0 7 := (store_blk (cells := zD) HGZ.out.k1 rfl).1
          obtain ⟨j0, j1, j2, j3, j4, j5, j6⟩ := desk_cells HMZ.out.2
          go_upto_region 20 with fail
          refine wp_at fun W8 hW8 => ?_
          have hp := put_desk (cs := #[.int .i64 d2.rows.vars, .slice f1 d2.rows.nums.length g1, .slice f2 d2.rows.bnds.length g2, .slice f3 d2.rows.gains.length g3, .slice f4 d2.sizes.length g4, .slice f5 d2.jobs.length g5, .slice f6 d2.ways.length g6]) HMZ.out.1 HGZ.out.k1 rfl
          have hq := put_desk (cs := #[.int .i64 d2.rows.vars, .slice f1 d2.rows.nums.length g1, .slice f2 d2.rows.bnds.length g2, .slice f3 d2.rows.gains.length g3, .slice f4 d2.sizes.length g4, .slice f5 d2.jobs.length g5, .slice f6 d2.ways.length g6]) HGZ.out.o HGZ.out.k1 rfl
          have hr := own_dput (cs := #[.int .i64 d2.rows.vars, .slice f1 d2.rows.nums.length g1, .slice f2 d2.rows.bnds.length g2, .slice f3 d2.rows.gains.length g3, .slice f4 d2.sizes.length g4, .slice f5 d2.jobs.length g5, .slice f6 d2.ways.length g6]) HGZ.out.ls HGZ.out.k1
          rw [← hW8] at hp hq hr
          have HN8 := Lib.hid (show DskAt w.heap.size W8 nb d2 from ⟨_, hp.2.1, hp.1⟩)
          have HO8 := Lib.hid hq.1
          have HK8 := Lib.hid (HGZ.out.k.kept hp.2.2.1 (show ¬ db = nb by omega))
          have HL8 := Lib.hid hr
          have HB8 := Lib.hid (HGZ.out.b.trans (hp.2.2.1.toBelow hnw (fun k h1 h2 => by omega)))
          obtain ⟨lb2, lo2, ee, _, hc⟩ := (slc_of_owns hr).at (i := k) (u := .string x) (by rw [List.getElem?_map, HXL.out]; rfl)
          simp only [Option.some.injEq, Addr.mk.injEq, and_true] at ee
          obtain ⟨rfl, rfl⟩ := ee
          clear hW8 hp hq hr HT j0 j1 j2 j3 j4 j5 j6 HGZ HMZ hnw
          go_wp2_with fail
          go_roundw
          case rel => exact ⟨k + 1, by go_num, by omega, by rw [HTK.out]; rfl, by rw [HSCR.out]; rfl, by rw [HS1.out]; push_cast; rfl, Lib.hid (by rw [HST.out]; exact HN8.out), HO8, HK8, HL8, HB8⟩
          case measure => simp [intOf]; omega
        · have HS1 := Lib.hid (show badK (outsK d ls (k + 1)) (k + 1) = b + 1 by rw [HBS.out, h1]; rfl)
          have HSE := Lib.hid (HBD.out h1)
          clear h1
          have hbI : IntKind.i64.wrap ((b : Int) + 1) = ((b + 1 : Nat) : Int) := by rw [IntWalk.i64_in _ (by omega)]; push_cast; rfl
          go_upto_region 17 with (go_at_call 18; refine HVD.out.mono ?_; rintro e w7 ⟨rfl, hb7⟩)
          have HGY := Lib.hid (HG.out.below hb7 hgw)
          have HMY := Lib.hid (show OwnDx w.heap.size w7 (.agg #[.int .i64 d2.rows.vars, .slice f1 d2.rows.nums.length g1, .slice f2 d2.rows.bnds.length g2, .slice f3 d2.rows.gains.length g3, .slice f4 d2.sizes.length g4, .slice f5 d2.jobs.length g5, .slice f6 d2.ways.length g6]) d2 ∧ Blk w7 mb 30 #[.int .i64 d2.rows.vars, .slice f1 d2.rows.nums.length g1, .slice f2 d2.rows.bnds.length g2, .slice f3 d2.rows.gains.length g3, .slice f4 d2.sizes.length g4, .slice f5 d2.jobs.length g5, .slice f6 d2.ways.length g6] from ⟨HH.out.1.up hb7 (Nat.le_refl _), HH.out.2.1.below hb7 HH.out.2.1.lt⟩)
          have hg7 : w.heap.size ≤ w7.heap.size := HGY.out.b.size
          obtain ⟨j0, j1, j2, j3, j4, j5, j6⟩ := desk_cells HMY.out.2
          obtain ⟨m0, m1, m2, m3, m4, m5, m6⟩ := desk_cells HGY.out.k1
          have hsd := implSameDesk_any _ _ d2 d1 w7 HMY.out.1.rd HGY.out.o1.rd
          rw [show sameD d2 d1 = true by rw [HSE.out]; exact sameD_rfl _] at hsd
          have HSD := Lib.hid hsd
          clear hb7 hsd i0 i1 i2 i3 i4 i5 i6 HG HH HVD
          go_upto_region 19 with (go_at_call 27; refine HSD.out.mono ?_; rintro e w8 ⟨rfl, hb8⟩)
          have HGZ := Lib.hid (HGY.out.below hb8 hg7)
          have HMZ := Lib.hid (show OwnDx w.heap.size w8 (.agg #[.int .i64 d2.rows.vars, .slice f1 d2.rows.nums.length g1, .slice f2 d2.rows.bnds.length g2, .slice f3 d2.rows.gains.length g3, .slice f4 d2.sizes.length g4, .slice f5 d2.jobs.length g5, .slice f6 d2.ways.length g6]) d2 ∧ Blk w8 mb 30 #[.int .i64 d2.rows.vars, .slice f1 d2.rows.nums.length g1, .slice f2 d2.rows.bnds.length g2, .slice f3 d2.rows.gains.length g3, .slice f4 d2.sizes.length g4, .slice f5 d2.jobs.length g5, .slice f6 d2.ways.length g6] from ⟨HMY.out.1.up hb8 (Nat.le_refl _), HMY.out.2.below hb8 HMY.out.2.lt⟩)
          clear hb8 j0 j1 j2 j3 j4 j5 j6 m0 m1 m2 m3 m4 m5 m6 HGY HMY hg7 HSD
          have hnw : w.heap.size ≤ w8.heap.size := HGZ.out.b.size
          have HT : w8.there nb 0 7 := (store_blk (cells := zD) HGZ.out.k1 rfl).1
          obtain ⟨j0, j1, j2, j3, j4, j5, j6⟩ := desk_cells HMZ.out.2
          go_upto_region 20 with fail
          refine wp_at fun W8 hW8 => ?_
          have hp := put_desk (cs := #[.int .i64 d2.rows.vars, .slice f1 d2.rows.nums.length g1, .slice f2 d2.rows.bnds.length g2, .slice f3 d2.rows.gains.length g3, .slice f4 d2.sizes.length g4, .slice f5 d2.jobs.length g5, .slice f6 d2.ways.length g6]) HMZ.out.1 HGZ.out.k1 rfl
          have hq := put_desk (cs := #[.int .i64 d2.rows.vars, .slice f1 d2.rows.nums.length g1, .slice f2 d2.rows.bnds.length g2, .slice f3 d2.rows.gains.length g3, .slice f4 d2.sizes.length g4, .slice f5 d2.jobs.length g5, .slice f6 d2.ways.length g6]) HGZ.out.o HGZ.out.k1 rfl
          have hr := own_dput (cs := #[.int .i64 d2.rows.vars, .slice f1 d2.rows.nums.length g1, .slice f2 d2.rows.bnds.length g2, .slice f3 d2.rows.gains.length g3, .slice f4 d2.sizes.length g4, .slice f5 d2.jobs.length g5, .slice f6 d2.ways.length g6]) HGZ.out.ls HGZ.out.k1
          rw [← hW8] at hp hq hr
          have HN8 := Lib.hid (show DskAt w.heap.size W8 nb d2 from ⟨_, hp.2.1, hp.1⟩)
          have HO8 := Lib.hid hq.1
          have HK8 := Lib.hid (HGZ.out.k.kept hp.2.2.1 (show ¬ db = nb by omega))
          have HL8 := Lib.hid hr
          have HB8 := Lib.hid (HGZ.out.b.trans (hp.2.2.1.toBelow hnw (fun k h1 h2 => by omega)))
          obtain ⟨lb2, lo2, ee, _, hc⟩ := (slc_of_owns hr).at (i := k) (u := .string x) (by rw [List.getElem?_map, HXL.out]; rfl)
          simp only [Option.some.injEq, Addr.mk.injEq, and_true] at ee
          obtain ⟨rfl, rfl⟩ := ee
          clear hW8 hp hq hr HT j0 j1 j2 j3 j4 j5 j6 HGZ HMZ hnw
          go_wp2_with fail
          go_roundw
          case rel => exact ⟨k + 1, by go_num, by omega, by rw [HTK.out]; rfl, by rw [HSCR.out]; rfl, by rw [HS1.out]; push_cast; rfl, Lib.hid (by rw [HST.out]; exact HN8.out), HO8, HK8, HL8, HB8⟩
          case measure => simp [intOf]; omega
        · have HS1 := Lib.hid (show badK (outsK d ls (k + 1)) (k + 1) = b by rw [HBS.out, h1]; rfl)
          clear h1
          go_upto_region 19 with (go_at_call 18; refine HVD.out.mono ?_; rintro e w7 ⟨rfl, hb7⟩)
          have HGZ := Lib.hid (HG.out.below hb7 hgw)
          have HMZ := Lib.hid (show OwnDx w.heap.size w7 (.agg #[.int .i64 d2.rows.vars, .slice f1 d2.rows.nums.length g1, .slice f2 d2.rows.bnds.length g2, .slice f3 d2.rows.gains.length g3, .slice f4 d2.sizes.length g4, .slice f5 d2.jobs.length g5, .slice f6 d2.ways.length g6]) d2 ∧ Blk w7 mb 30 #[.int .i64 d2.rows.vars, .slice f1 d2.rows.nums.length g1, .slice f2 d2.rows.bnds.length g2, .slice f3 d2.rows.gains.length g3, .slice f4 d2.sizes.length g4, .slice f5 d2.jobs.length g5, .slice f6 d2.ways.length g6] from ⟨HH.out.1.up hb7 (Nat.le_refl _), HH.out.2.1.below hb7 HH.out.2.1.lt⟩)
          clear hb7 i0 i1 i2 i3 i4 i5 i6 HG HH HVD
          have hnw : w.heap.size ≤ w7.heap.size := HGZ.out.b.size
          have HT : w7.there nb 0 7 := (store_blk (cells := zD) HGZ.out.k1 rfl).1
          obtain ⟨j0, j1, j2, j3, j4, j5, j6⟩ := desk_cells HMZ.out.2
          go_upto_region 20 with fail
          refine wp_at fun W8 hW8 => ?_
          have hp := put_desk (cs := #[.int .i64 d2.rows.vars, .slice f1 d2.rows.nums.length g1, .slice f2 d2.rows.bnds.length g2, .slice f3 d2.rows.gains.length g3, .slice f4 d2.sizes.length g4, .slice f5 d2.jobs.length g5, .slice f6 d2.ways.length g6]) HMZ.out.1 HGZ.out.k1 rfl
          have hq := put_desk (cs := #[.int .i64 d2.rows.vars, .slice f1 d2.rows.nums.length g1, .slice f2 d2.rows.bnds.length g2, .slice f3 d2.rows.gains.length g3, .slice f4 d2.sizes.length g4, .slice f5 d2.jobs.length g5, .slice f6 d2.ways.length g6]) HGZ.out.o HGZ.out.k1 rfl
          have hr := own_dput (cs := #[.int .i64 d2.rows.vars, .slice f1 d2.rows.nums.length g1, .slice f2 d2.rows.bnds.length g2, .slice f3 d2.rows.gains.length g3, .slice f4 d2.sizes.length g4, .slice f5 d2.jobs.length g5, .slice f6 d2.ways.length g6]) HGZ.out.ls HGZ.out.k1
          rw [← hW8] at hp hq hr
          have HN8 := Lib.hid (show DskAt w.heap.size W8 nb d2 from ⟨_, hp.2.1, hp.1⟩)
          have HO8 := Lib.hid hq.1
          have HK8 := Lib.hid (HGZ.out.k.kept hp.2.2.1 (show ¬ db = nb by omega))
          have HL8 := Lib.hid hr
          have HB8 := Lib.hid (HGZ.out.b.trans (hp.2.2.1.toBelow hnw (fun k h1 h2 => by omega)))
          obtain ⟨lb2, lo2, ee, _, hc⟩ := (slc_of_owns hr).at (i := k) (u := .string x) (by rw [List.getElem?_map, HXL.out]; rfl)
          simp only [Option.some.injEq, Addr.mk.injEq, and_true] at ee
          obtain ⟨rfl, rfl⟩ := ee
          clear hW8 hp hq hr HT j0 j1 j2 j3 j4 j5 j6 HGZ HMZ hnw
          go_wp2_with fail
          go_roundw
          case rel => exact ⟨k + 1, by go_num, by omega, by rw [HTK.out]; rfl, by rw [HSCR.out]; rfl, by rw [HS1.out], Lib.hid (by rw [HST.out]; exact HN8.out), HO8, HK8, HL8, HB8⟩
          case measure => simp [intOf]; omega
    · have hltI : ¬ (k : Int) < (n : Int) := by omega
      have hkn : k = n := by omega
      have hnl := HNL.out
      obtain ⟨r1, r2, r3⟩ := lines_run HLO.out (by omega) d
      have hsz4 := lines_scr HLO.out (by omega)
      have hST : stK d ls k = stK d ls ls.length := by rw [hkn, hnl]
      have hSS : scr (ls.take k) = scr ls := by rw [hkn, hnl, List.take_length]
      have hOO : scr (outsK d ls k) = scr (outsK d ls ls.length) := by rw [hkn, hnl]
      have P := Lib.hid (fun X (hb : Below w.heap.size w X) => HPW.out.up hb (Nat.le_refl _))
      have M := Lib.hid (fun X (hb : Below w.heap.size w X) => HMX.out.up hb (Nat.le_refl _))
      have E := Lib.hid (fun X (hb : Below w.heap.size w X) => HER.out.up hb (Nat.le_refl _))
      have HRU := Lib.hid (fun X v (hb : Below w.heap.size w X) (hr : RdD X v d) => show Calls Tryz.prog 16 #[v, .string (scr (ls.take k))] X fun e w' => ∃ v', e = .returned (.tuple #[v', .string (scr (outsK d ls k)), .bool true]) ∧ OwnDx X.heap.size w' v' (stK d ls k) ∧ Below X.heap.size X w' by
        have h := runI_any v d (scr ls) X hr HV.out HBT.out (P.out X hb) (M.out X hb) (E.out X hb) r1 (by omega)
        rw [r2, r3] at h
        rw [hSS, hST, hOO]; exact h)
      obtain ⟨g1, g2, g3⟩ := outs_cnt HV.out HBT.out (ls := ls) (n := k) (by omega)
      have HCO := Lib.hid (fun X (hb : Below w.heap.size w X) => show Calls Tryz.prog 26 #[.string (scr (outsK d ls k))] X fun e w' => e = .returned (.tuple #[.int .i64 (badK (outsK d ls k) k : Nat), .int .i64 ((k - badK (outsK d ls k) k : Nat) : Nat), .bool true]) ∧ Below X.heap.size X w' by
        have h := coutI_any (scr (outsK d ls k)) X (M.out X hb) (by have := HSW.out k (by omega); omega)
        rwa [g1, g2, g3] at h)
      obtain ⟨q1, q2, q3, q4⟩ := valid_parts HV.out
      have hv := HV.out
      have q5 : waysB d.ways = true := by unfold validDk at hv; simp only [Bool.and_eq_true] at hv; exact hv.2.2.2
      have q6 := ways_eight q5
      have hsA : (rowT d.rows).size ≤ 2000 := by have := rows_size q1; have := valR_few q1; omega
      have hsB : (listT d.sizes).size ≤ 400 := by have := list_size (small_sizes q2); have := (sizes_all q2).1.2; omega
      have hsC : (jobT d.jobs).size ≤ 1000 := by have := jobs_size q3; have := (jobs_all q3).2.1; omega
      have hsE : (listT d.ways).size ≤ 1300 := by have := list_size (small_ways q4); omega
      have H24 := Lib.hid (fun X v (hb : Below w.heap.size w X) (hr : RdR X v d.rows) => rowsTextI_any v d.rows X hr HBT.out.1 HBT.out.2.1 HBT.out.2.2 (P.out X hb))
      rw [q1] at H24
      have H25 := Lib.hid (fun X (hb : Below w.heap.size w X) => readRowsI_any (rowT d.rows) X (P.out X hb) (M.out X hb) (E.out X hb) (by omega))
      rw [(rows_back q1 HBT.out).1, (rows_back q1 HBT.out).2] at H25
      have H26 := Lib.hid (fun X v (hb : Below w.heap.size w X) (hr : RdI X v d.sizes) => listTextOk_any v d.sizes X hr (small_sizes q2) (by have := (sizes_all q2).1.2; omega) (in64d (fun x hx => by have := (sizes_all q2).2 x hx; omega)) (P.out X hb))
      have H27 := Lib.hid (fun X (hb : Below w.heap.size w X) => show Calls Tryz.prog 31 #[.string (listT d.sizes)] X fun e w' => ∃ a cap, e = .returned (.tuple #[.slice a d.sizes.length cap, .bool true]) ∧ RdI w' (.slice a d.sizes.length cap) d.sizes ∧ Below X.heap.size X w' by
        have h := ReadList_any (listT d.sizes) X (by omega) (P.out X hb) (M.out X hb) (E.out X hb)
        rw [(sizes_back q2).1, (sizes_back q2).2] at h
        exact h.mono (by rintro e w' ⟨a, cap, rfl, ho, hb⟩; exact ⟨a, cap, rfl, slc_of_owns ho, hb⟩))
      have H28 := Lib.hid (fun X v (hb : Below w.heap.size w X) (hr : RdJ X v d.jobs) => jobsTextI_any v d.jobs X hr (P.out X hb))
      rw [q3] at H28
      have H29 := Lib.hid (fun X (hb : Below w.heap.size w X) => readJobsI_any (jobT d.jobs) X (P.out X hb) (M.out X hb) (E.out X hb) (by omega))
      rw [(jobs_back q3).1, (jobs_back q3).2] at H29
      have H30 := Lib.hid (fun X v (hb : Below w.heap.size w X) (hr : RdI X v d.ways) => listTextOk_any v d.ways X hr (small_ways q4) (by omega) (in64d (fun x hx => by have := ways_mem q4 x hx; omega)) (P.out X hb))
      have H31 := Lib.hid (fun X (hb : Below w.heap.size w X) => show Calls Tryz.prog 31 #[.string (listT d.ways)] X fun e w' => ∃ a cap, e = .returned (.tuple #[.slice a d.ways.length cap, .bool true]) ∧ RdI w' (.slice a d.ways.length cap) d.ways ∧ Below X.heap.size X w' by
        have h := ReadList_any (listT d.ways) X (by omega) (P.out X hb) (M.out X hb) (E.out X hb)
        rw [(ways_back q5).1, (ways_back q5).2] at h
        exact h.mono (by rintro e w' ⟨a, cap, rfl, ho, hb⟩; exact ⟨a, cap, rfl, slc_of_owns ho, hb⟩))
      obtain ⟨tA, htA⟩ : ∃ t, t = rowT d.rows := ⟨_, rfl⟩
      obtain ⟨tB, htB⟩ : ∃ t, t = listT d.sizes := ⟨_, rfl⟩
      obtain ⟨tC, htC⟩ : ∃ t, t = jobT d.jobs := ⟨_, rfl⟩
      obtain ⟨tE, htE⟩ : ∃ t, t = listT d.ways := ⟨_, rfl⟩
      rw [← htA] at H24 H25 hsA
      rw [← htB] at H26 H27 hsB
      rw [← htC] at H28 H29 hsC
      rw [← htE] at H30 H31 hsE
      obtain ⟨b1, e1, b2, e2, b3, e3, b4, e4, b5, e5, b6, e6, hblk, hown⟩ := HN.out.shape
      have HPF := Lib.hid (show PreF w w.heap.size W2.heap.size wo db nb _ _ d (stK d ls k) _ n ls from ⟨HO.out, HK.out, hown, hblk, HSO.out, HB.out⟩)
      have hbk : badK (outsK d ls k) k ≤ k := badK_le _ _
      have hsc := HSC.out k
      have hsw := HSW.out k (by omega)
      obtain ⟨d1, hd1⟩ : ∃ y, y = stK d ls k := ⟨_, rfl⟩
      obtain ⟨S, hS⟩ : ∃ t, t = scr (ls.take k) := ⟨_, rfl⟩
      obtain ⟨O, hO⟩ : ∃ t, t = scr (outsK d ls k) := ⟨_, rfl⟩
      obtain ⟨b, hbb⟩ : ∃ t, t = badK (outsK d ls k) k := ⟨_, rfl⟩
      rw [← hd1, ← hS, ← hO] at HRU
      rw [← hd1] at HPF hblk
      rw [← hS] at hsc
      rw [← hO] at hsw HCO
      rw [← hbb] at hbk HCO
      rw [← hS, ← hO, ← hbb]
      obtain ⟨i0, i1, i2, i3, i4, i5, i6⟩ := desk_cells HPF.out.k
      have hdl := HK.out.lt
      have hnl2 := hblk.lt
      have hgI : IntKind.i64.wrap ((n : Int) - (b : Int)) = ((k - b : Nat) : Int) := by rw [IntWalk.i64_in _ (by omega)]; omega
      clear r1 r2 r3 hsz4 hST hSS hOO g1 g2 g3 q1 q2 q3 q4 q5 q6 hv htA htB htC htE hd1 hS hO hbb hblk hown HN HO HK HSO HSV HSB HSC HSW HTL HV HBT HLO hnl
      go_upto_region 23 with (go_at_call 16; refine (HRU.out wo _ HB.out HPF.out.o.rd).mono ?_; rintro e w5 ⟨v5, rfl, ho5, hb5⟩; obtain ⟨f1, g1, f2, g2, f3, g3, f4, g4, f5, g5, f6, g6, rfl⟩ := ho5.shape; have HT : (w5.alloc (.cells zD 30)).there w5.heap.size 0 7 := (store_blk (cells := zD) (Blk.new w5 30 zD) rfl).1)
      refine wp_at fun W6 hW6 => ?_
      have hz5 := hb5.size
      have hb6 : Below w5.heap.size w5 (w5.alloc (.cells zD 30)) := (Below.refl _ _).alloc (Nat.le_refl _) _
      have F := (HPF.out.below hb5 hzo).below hb6 (Nat.le_trans hzo hz5)
      have G := F.put (cs := #[.int .i64 d1.rows.vars, .slice f1 d1.rows.nums.length g1, .slice f2 d1.rows.bnds.length g2, .slice f3 d1.rows.gains.length g3, .slice f4 d1.sizes.length g4, .slice f5 d1.jobs.length g5, .slice f6 d1.ways.length g6]) (Blk.new w5 30 zD) rfl (by omega) (by omega) (Nat.le_trans hzo hz5) (Nat.le_trans (Nat.le_trans hzo hz5) hb6.size)
      have H := put_desk (cs := #[.int .i64 d1.rows.vars, .slice f1 d1.rows.nums.length g1, .slice f2 d1.rows.bnds.length g2, .slice f3 d1.rows.gains.length g3, .slice f4 d1.sizes.length g4, .slice f5 d1.jobs.length g5, .slice f6 d1.ways.length g6]) (ho5.up hb6 (Nat.le_refl _)) (Blk.new w5 30 zD) rfl
      rw [← hW6] at G H
      obtain ⟨rb, hrb⟩ : ∃ b, b = w5.heap.size := ⟨_, rfl⟩
      rw [← hrb] at H ⊢
      have HW6 := Lib.hid G.b
      have C0 := Lib.hid (fun X (hb : Below W6.heap.size W6 X) => desk_cells (G.k.below hb G.k.lt))
      have CN := Lib.hid (fun X (hb : Below W6.heap.size W6 X) => desk_cells (G.k1.below hb G.k1.lt))
      have CR := Lib.hid (fun X (hb : Below W6.heap.size W6 X) => desk_cells (H.2.1.below hb H.2.1.lt))
      have R0 := Lib.hid (fun X (hb : Below W6.heap.size W6 X) => G.o.rd.up hb (Nat.le_refl _))
      have R1 := Lib.hid (fun X (hb : Below W6.heap.size W6 X) => G.o1.rd.up hb (Nat.le_refl _))
      have RR := Lib.hid (fun X (hb : Below W6.heap.size W6 X) => H.1.rd.up hb (Nat.le_refl _))
      have BW := Lib.hid (fun X (hb : Below W6.heap.size W6 X) => HW6.out.trans (hb.mono HW6.out.size))
      clear hW6 hrb G H F HT hb6 hz5 hb5 ho5 HPF HRU HB i0 i1 i2 i3 i4 i5 i6 hdl hnl2
      go_upto_region 24 with (go_at_call 26; refine (HCO.out W6 HW6.out).mono ?_; rintro e w7 ⟨rfl, B7⟩)
      obtain ⟨i0, i1, i2, i3, i4, i5, i6⟩ := C0.out w7 B7
      clear HCO
      go_upto_region 25 with (go_at_call 11; refine (H24.out w7 _ (BW.out w7 B7) (R0.out w7 B7).parts.1).mono ?_; rintro e w8 ⟨rfl, hb⟩; have B8 := B7.trans (hb.mono B7.size))
      clear hb H24 i0 i1 i2 i3 i4 i5 i6
      go_upto_region 26 with (go_at_call 30; refine (H25.out w8 (BW.out w8 B8)).mono ?_; rintro e w9 ⟨v9, rfl, ho9, hb9⟩; obtain ⟨z1, y1, z2, y2, z3, y3, rfl⟩ := ho9.rd.shape)
      refine wp_at fun W9 hW9 => ?_
      have B9' := B8.trans (hb9.mono B8.size)
      have B9 : Below W6.heap.size W6 W9 := by subst hW9; exact B9'.alloc B9'.size _
      have HSR := Lib.hid (show RdR W9 (.agg #[.int .i64 d.rows.vars, .slice z1 d.rows.nums.length y1, .slice z2 d.rows.bnds.length y2, .slice z3 d.rows.gains.length y3]) d.rows by subst hW9; exact ho9.rd.up ((Below.refl w9.heap.size w9).alloc (Nat.le_refl _) _) (Nat.le_refl _))
      have HSK := Lib.hid (show Blk W9 w9.heap.size 26 #[.int .i64 d.rows.vars, .slice z1 d.rows.nums.length y1, .slice z2 d.rows.bnds.length y2, .slice z3 d.rows.gains.length y3] by subst hW9; exact Blk.new _ _ _)
      obtain ⟨qb, hqb⟩ : ∃ b, b = w9.heap.size := ⟨_, rfl⟩
      rw [← hqb] at HSK ⊢
      clear hW9 hqb B9' hb9 ho9 H25 B7 B8
      obtain ⟨i0, i1, i2, i3, i4, i5, i6⟩ := C0.out W9 B9
      go_upto_region 27 with (go_at_call 12; refine (H26.out W9 _ (BW.out W9 B9) (R0.out W9 B9).parts.2.1).mono ?_; rintro e w10 ⟨rfl, V10⟩; have B10 := B9.trans (V10.mono B9.size))
      clear H26 i0 i1 i2 i3 i4 i5 i6
      go_upto_region 28 with (go_at_call 31; refine (H27.out w10 (BW.out w10 B10)).mono ?_; rintro e w11 ⟨z4, y4, rfl, ho11, hb⟩; have B11 := B10.trans (hb.mono B10.size); have V11 := V10.trans (hb.mono V10.size))
      have HSS := Lib.hid (fun X (hb : Below w11.heap.size w11 X) => ho11.up hb (Nat.le_refl _))
      clear ho11 hb H27 B10 V10
      obtain ⟨i0, i1, i2, i3, i4, i5, i6⟩ := C0.out w11 B11
      go_upto_region 29 with (go_at_call 13; refine (H28.out w11 _ (BW.out w11 B11) (R0.out w11 B11).parts.2.2.1).mono ?_; rintro e w12 ⟨rfl, T12⟩; have B12 := B11.trans (T12.mono B11.size); have V12 := V11.trans (T12.mono V11.size))
      clear H28 i0 i1 i2 i3 i4 i5 i6
      go_upto_region 30 with (go_at_call 32; refine (H29.out w12 (BW.out w12 B12)).mono ?_; rintro e w13 ⟨v13, rfl, ho13, hb⟩; have B13 := B12.trans (hb.mono B12.size); have V13 := V12.trans (hb.mono V12.size); have T13 := T12.trans (hb.mono T12.size); obtain ⟨z5, y5, rfl⟩ := ho13.rd.shape)
      have HSJ := Lib.hid (fun X (hb : Below w13.heap.size w13 X) => ho13.rd.up hb (Nat.le_refl _))
      clear ho13 hb H29 B12 V12 T12 B11 V11
      obtain ⟨i0, i1, i2, i3, i4, i5, i6⟩ := C0.out w13 B13
      go_upto_region 31 with (go_at_call 12; refine (H30.out w13 _ (BW.out w13 B13) (R0.out w13 B13).parts.2.2.2).mono ?_; rintro e w14 ⟨rfl, U14⟩; have B14 := B13.trans (U14.mono B13.size); have V14 := V13.trans (U14.mono V13.size); have T14 := T13.trans (U14.mono T13.size))
      clear H30 i0 i1 i2 i3 i4 i5 i6
      go_upto_region 32 with (go_at_call 31; refine (H31.out w14 (BW.out w14 B14)).mono ?_; rintro e w15 ⟨z6, y6, rfl, ho15, hb⟩; have B15 := B14.trans (hb.mono B14.size); have V15 := V14.trans (hb.mono V14.size); have T15 := T14.trans (hb.mono T14.size); have U15 := U14.trans (hb.mono U14.size))
      have hsr := HSR.out.up V15 (Nat.le_refl _)
      have hkr := HSK.out.below V15 HSK.out.lt
      have HDQ := Lib.hid (fun X (hb : Below w15.heap.size w15 X) => show RdD X (.agg #[.int .i64 d.rows.vars, .slice z1 d.rows.nums.length y1, .slice z2 d.rows.bnds.length y2, .slice z3 d.rows.gains.length y3, .slice z4 d.sizes.length y4, .slice z5 d.jobs.length y5, .slice z6 d.ways.length y6]) d from
        ⟨_, _, _, _, _, _, rfl, hsr.up hb (Nat.le_refl _), (HSS.out w15 T15).up hb (Nat.le_refl _), (HSJ.out w15 U15).up hb (Nat.le_refl _), ho15.up hb (Nat.le_refl _)⟩)
      have HKQ := Lib.hid (fun X (hb : Below w15.heap.size w15 X) => hkr.below hb hkr.lt)
      clear hsr hkr HSR HSK HSS HSJ ho15 hb H31 B13 V13 T13 B14 V14 T14 U14 V15 U15 T15
      obtain ⟨i0, i1, i2, i3, i4, i5, i6⟩ := CR.out w15 B15
      obtain ⟨j0, j1, j2, j3, j4, j5, j6⟩ := CN.out w15 B15
      have hsd := implSameDesk_any _ _ d1 d1 w15 (RR.out w15 B15) (R1.out w15 B15)
      rw [sameD_rfl] at hsd
      have HSD1 := Lib.hid hsd
      have HSD2 := Lib.hid (fun X (hb : Below w15.heap.size w15 X) => implSameDesk_any _ _ d d X (HDQ.out X hb) (R0.out X (B15.trans (hb.mono B15.size))))
      rw [sameD_rfl] at HSD2
      have CQ := Lib.hid (fun X (hb : Below w15.heap.size w15 X) => C0.out X (B15.trans (hb.mono B15.size)))
      clear hsd RR R1 CR CN HDQ
      go_wp2_with (go_at_call 27; first
        | (refine (HSD2.out w16 hb16).mono ?_; rintro e w17 ⟨rfl, hb17⟩; have B17 := B16.trans (hb17.mono B16.size))
        | (refine HSD1.out.mono ?_; rintro e w16 ⟨rfl, hb16⟩; have B16 := B15.trans (hb16.mono B15.size); obtain ⟨m0, m1, m2, m3, m4, m5, m6⟩ := CQ.out w16 hb16; have hq := HKQ.out w16 hb16; have n0 := hq.cell 0 rfl; have n1 := hq.cell 1 rfl; have n2 := hq.cell 2 rfl; have n3 := hq.cell 3 rfl))
      go_ret
      exact ⟨rfl, BW.out _ B17⟩
end
end Go.Proofs.YtgkbbpajkbkgnaaGreatDoor

namespace Go.Proofs.YtgkbbpajkbkgnaaGreatDoor
open Go.ChangeShapes Go.WideShapes Go.ChangeAt Go.RowKit
set_option linter.unusedVariables false
section
variable {H : Type} {enc : TypeId × Value → H} {w : World} {base : Nat} {spare : Nat → Bool} {held : Bool}
theorem cells_u8 : Tryz.prog.cellsOf 5 = 1 := by kernel_rfl
set_option maxRecDepth 100000 in
theorem trod_B {fuel : Nat} {cs : List Value} {x : DataW H × List MemPlace} (h : DataW.trod enc Tryz.prog w base spare held fuel 22 cs = some x) : ∃ v zs, cs = [v] ∧ RdB w v zs ∧ WfB zs := by
  rcases open_ints Tryz.underlying22 Tryz.underlying5 cells_u8 h with ⟨rfl, _⟩ | ⟨a, len, cap, zs, rfl, _, hl, hm, hz, _, hcell, hwz⟩
  · exact ⟨_, [], rfl, .inl ⟨rfl, rfl⟩, by intro z hz; simp at hz⟩
  · have hle : len ≤ zs.length := by rw [hz]; split <;> omega
    refine ⟨_, zs.take len, rfl, .inr ⟨a, cap, by simp [Nat.min_eq_left hle], by simp; omega, hm, ?_⟩, fun z hz' => bounds_u8 (hwz z (List.mem_of_mem_take hz'))⟩
    intro i u hi
    have hlt : i < len := by
      have := (List.getElem?_eq_some_iff.1 hi).1
      simp at this; omega
    have h2 := hcell i (by omega)
    rw [h2, ← hi]
    simp [B8, List.getElem?_take, hlt, show i < zs.length by omega]
set_option maxRecDepth 100000 in
theorem arg_B {r : Reach} {b0 : Nat} {v : Value} {d : DataW H} {p : List MemPlace} (hv : Value.okWide Tryz.prog w r b0 22 v) (h : DataW.Trod enc Tryz.prog w base spare held 22 v d p) : ∃ zs, RdB w v zs ∧ WfB zs := by
  obtain ⟨a, len, cap, rfl⟩ := okWide_slice Tryz.underlying22 hv
  obtain ⟨fuel, hf⟩ := h
  obtain ⟨v, zs, e, h1, h2⟩ := trod_B hf
  simp [Value.cells] at e
  subst e
  exact ⟨zs, h1, h2⟩
end
end Go.Proofs.YtgkbbpajkbkgnaaGreatDoor
