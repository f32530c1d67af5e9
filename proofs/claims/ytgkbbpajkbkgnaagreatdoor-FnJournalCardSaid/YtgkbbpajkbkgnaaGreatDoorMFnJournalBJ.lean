/-
  FnJournal: texts joined: LFnJournal, OpenB, JFnJournal.
-/
import Derived.Deep.RegionWith
import Derived.Deep.CutRange
import Derived.ProofKit
import Derived.LaidMore
import Derived.OpenShut
import Derived.ShutString
import Derived.ChangeOld
import Derived.Stop.Joined
import Derived.SevenTiedAt
import Derived.Lib.LaidTab
import Derived.Deep.DeepHandedRow
import Derived.Shelf.Vars
import Derived.Test.YtgkbbpajkbkgnaaGreatDoorRows
import Derived.Test.YtgkbbpajkbkgnaaGreatDoorTie
import Derived.Test.YtgkbbpajkbkgnaaGreatDoorCards
import Derived.Test.YtgkbbpajkbkgnaaGreatDoorMFnJournalAB
import Derived.Test.YtgkbbpajkbkgnaaGreatDoorMFnJournalAE
import Derived.Test.YtgkbbpajkbkgnaaGreatDoorMFnJournalBC
import Derived.Test.YtgkbbpajkbkgnaaGreatDoorMFnJournalBI
set_option linter.unusedVariables false
set_option linter.unusedSimpArgs false
namespace Go.Proofs.YtgkbbpajkbkgnaaGreatDoor
open Go.RowKit Go.Sort
theorem newD_okJ : validDk newD = true ∧ BitsD newD := by
  obtain ⟨z1, z2, z3, z4⟩ := newD_valid
  refine ⟨?_, ?_⟩
  · unfold validDk
    rw [z1, z2, z3, z4]; rfl
  · refine ⟨?_, ?_, ?_⟩
    · intro x hx
      have hx : x ∈ [1065353216, 1065353216, 1065353216, 0] := hx
      simp at hx; omega
    · intro x hx
      have hx : x ∈ [1082130432, 1077936128] := hx
      simp at hx; omega
    · intro x hx
      have hx : x ∈ [1073741824, 1065353216] := hx
      simp at hx; omega
section
attribute [local go_sem ↓] stDeskP
attribute [local go_sem] stDesk_in stDesk_run
set_option maxHeartbeats 8000000 in
set_option maxRecDepth 8000 in
theorem lawFnJournal_any (w : World) (v0 : Value) (xs : List Int) (h0 : RdB w v0 xs) (y0 : WfB xs) (v1 : Value) (ys : List Int) (h1 : RdB w v1 ys) (y1 : WfB ys) (hp : HasPow w) (hm : HasMax w) (he : HasErrs w) :
    Calls Tryz.prog 5 #[v0, v1] w fun e w' => e = .returned (.bool true) ∧ Below w.heap.size w w' := by
  have HLNG := Lib.hid (r8Long_any v0 v1 xs ys w h0 h1)
  by_cases hl : isLong8 xs ys = true
  · rw [hl] at HLNG
    clear h0 h1 y0 y1 hp hm he hl
    go_enter Tryz.func5, Tryz.ntmps5
    go_wp2_with (go_at_call 9; refine HLNG.out.mono ?_; rintro e w0 ⟨rfl, rfl⟩)
    go_ret
    exact ⟨rfl, Below.refl _ _⟩
  rw [Bool.not_eq_true] at hl
  rw [hl] at HLNG
  have HLR := Lib.hid (R8Lines_any v0 xs w h0 y0)
  have PW := Lib.hid (fun X (hb : Below w.heap.size w X) => hp.up hb (Nat.le_refl _))
  have MX := Lib.hid (fun X (hb : Below w.heap.size w X) => hm.up hb (Nat.le_refl _))
  have ER := Lib.hid (fun X (hb : Below w.heap.size w X) => he.up hb (Nat.le_refl _))
  have HAT := Lib.hid (fun X (hb : Below w.heap.size w X) (i m : Int) (a1 : 0 ≤ i) (a2 : i ≤ 1000000) (a3 : 1 ≤ m) (a4 : m ≤ 1000) => r8At_any v1 ys i m X (h1.up hb (Nat.le_refl _)) y1 a1 a2 a3 a4)
  clear h0 h1 y0 y1 hp hm he hl
  go_enter Tryz.func5, Tryz.ntmps5
  go_upto_region 4 with (first
    | (go_at_call 9; refine HLNG.out.mono ?_; rintro e w0 ⟨rfl, rfl⟩)
    | (go_at_call 28; refine HLR.out.mono ?_; rintro e w1 ⟨ls, lv, hll, hlo, rfl, hso, B1⟩; obtain ⟨la, lc, rfl⟩ := hso.rd.shape))
  have hrl := hso.rd
  obtain ⟨lb, lo, rfl, _, _⟩ := hrl.at (i := 0) (by omega)
  have hcap := slc_capV hrl.1
  unfold maxLen at hcap
  have RL := Lib.hid (fun X (hb : Below w1.heap.size w1 X) => hrl.up hb (Nat.le_refl _))
  have HLO := Lib.hid hlo
  have hn := lines_nonl hlo
  have h8 : ∀ x ∈ ls, x.size ≤ 800 := fun x hx => (hlo x hx).2
  have HJF := Lib.hid (jr_fact hn h8 hll.1 hll.2)
  have HBK := Lib.hid (fun k => bulk_five (ls := ls.take k) (fun x hx => h8 x (List.mem_of_mem_take hx)) (by rw [List.length_take]; omega))
  have HJL := Lib.hid (journalI_any _ ls w1 hrl (PW.out w1 B1) (bulk_five h8 hll.2))
  obtain ⟨T, hT⟩ : ∃ T, T = mkB (jrB 0 ls) := ⟨_, rfl⟩
  rw [← hT] at HJF
  rw [HJF.out.ok, HJF.out.is] at HJL
  obtain ⟨n, hnn⟩ : ∃ n, n = ls.length := ⟨_, rfl⟩
  rw [← hnn] at hll hcap RL HJL ⊢
  have HNL := Lib.hid hnn
  have hT0 : ¬ ((T.size : Int) = 0) := by have := HJF.out.pos; omega
  have hT1 := HJF.out.few
  clear hrl hn h8 hlo hso hT hnn HLNG HLR
  go_upto_region 5 with (go_at_call 33; refine HJL.out.mono ?_; rintro e w2 ⟨rfl, B2'⟩)
  have B2 := B1.trans (B2'.mono B1.size)
  have L2 := B2'
  clear B2' HJL
  go_upto_region 9 with (go_at_call 14; first
    | (have hq := hwx; clear hq; refine (HAT.out w2 B2 1 256 (by omega) (by omega) (by omega) (by omega)).mono ?_; rintro e w3 ⟨y, hy0, hy1, rfl, rfl⟩; have hwy : IntKind.i64.wrap (256 * x + y) = 256 * x + y := IntWalk.i64_in _ (by omega); have hwt : IntKind.i64.wrap ((T.size : Int) + 1) = (T.size : Int) + 1 := IntWalk.i64_in _ (by omega))
    | (refine (HAT.out w2 B2 0 256 (by omega) (by omega) (by omega) (by omega)).mono ?_; rintro e w3 ⟨x, hx0, hx1, rfl, rfl⟩; have hwx : IntKind.i64.wrap (256 * x) = 256 * x := IntWalk.i64_in _ (by omega)))
  obtain ⟨a, ha, haT⟩ : ∃ a : Nat, (256 * x + y) % ((T.size : Int) + 1) = (a : Int) ∧ a ≤ T.size := by
    have g1 := Int.emod_nonneg (256 * x + y) (show (T.size : Int) + 1 ≠ 0 by omega)
    have g2 := Int.emod_lt_of_pos (256 * x + y) (show 0 < (T.size : Int) + 1 by omega)
    exact ⟨((256 * x + y) % ((T.size : Int) + 1)).toNat, by omega, by omega⟩
  rw [ha]
  obtain ⟨k, hk, c1, c2, c3, c4, c5, c6, c7⟩ := HJF.out.cut a haT
  have HRC := Lib.hid (recoverI_any (T.extract 0 a) w2 (PW.out w2 B2) (MX.out w2 B2))
  rw [c1, c2] at HRC
  obtain ⟨m, hm⟩ : ∃ m, m = rjN (T.extract 0 a) := ⟨_, rfl⟩
  rw [← hm] at HRC c3 c5 c7
  rw [← HNL.out] at hk c6
  have HC4 := Lib.hid c4
  have HC5 := Lib.hid c5
  have HC6 := Lib.hid c6
  have HC7 := Lib.hid c7
  have hkl : (ls.take k).length = k := by rw [List.length_take, ← HNL.out]; omega
  have HJK := Lib.hid (fun X v (hr : RdSs X v (ls.take k)) (hb : Below w.heap.size w X) => show Calls Tryz.prog 33 #[v] X fun e w' => e = .returned (.tuple #[.string (T.extract 0 m), .bool true]) ∧ Below X.heap.size X w' by
    have h := journalI_any v (ls.take k) X hr (PW.out X hb) (HBK.out k)
    rwa [HC4.out, HC5.out] at h)
  clear ha hx0 hx1 hy0 hy1 hwx hwy hwt c1 c2 c4 c5 c6 c7 hm
  go_upto_region 10 with (go_at_call 34; refine HRC.out.mono ?_; rintro e w3 ⟨fv, rfl, hof, hb⟩; have B3 := B2.trans (hb.mono B2.size); have L3 := L2.trans (hb.mono L2.size); obtain ⟨fa, fc, hfv⟩ := hof.rd.shape; rw [hkl] at hfv; subst hfv; have HF3 := Lib.hid hof.rd)
  clear hof hb HRC L2 B2
  go_upto_region 11 with (go_at_call 33; refine (HJK.out w3 _ HF3.out B3).mono ?_; rintro e w4 ⟨rfl, hb⟩; have B4 := B3.trans (hb.mono B3.size); have L4 := L3.trans (hb.mono L3.size))
  clear HJK HF3 hb hkl B3 L3
  have hmT : m ≤ T.size := Nat.le_trans c3 haT
  have HJ2 := Lib.hid (fun (hkn : k < n) X (hb : Below w.heap.size w X) (hl : Below w1.heap.size w1 X) => show Calls Tryz.prog 33 #[.slice (some ⟨lb, lo, none⟩) (k + 1) lc] X fun e w' => e = .returned (.tuple #[.string (jrR (ls.take (k + 1))), .bool true]) ∧ Below X.heap.size X w' by
    have h := journalI_any _ (ls.take (k + 1)) X ((RL.out X hl).take (by omega) (by omega)) (PW.out X hb) (HBK.out (k + 1))
    rwa [(HC6.out hkn).1] at h)
  obtain ⟨dE, hdE⟩ : ∃ d, d = stK newD ls n := ⟨_, rfl⟩
  have HRJ := Lib.hid (fun X nv (hr : RdD X nv newD) (hb : Below w.heap.size w X) => show Calls Tryz.prog 35 #[nv, .string T] X fun e w' => ∃ v', e = .returned (.tuple #[v', .int .i64 (n : Nat), .bool true]) ∧ OwnDx X.heap.size w' v' dE ∧ Below X.heap.size X w' by
    have h := rnjI_any nv newD T X hr newD_okJ.1 newD_okJ.2 (PW.out X hb) (MX.out X hb) (ER.out X hb) HJF.out.rok (by rw [HJF.out.back]; intro x hx; have := (HLO.out x hx).2; omega)
    rwa [HJF.out.back, ← HNL.out, ← hdE] at h)
  have HRD := Lib.hid (fun X nv (hr : RdD X nv newD) (hb : Below w.heap.size w X) => show Calls Tryz.prog 16 #[nv, .string (scr ls)] X fun e w' => ∃ v', e = .returned (.tuple #[v', .string (scr (outsK newD ls n)), .bool true]) ∧ OwnDx X.heap.size w' v' dE ∧ Below X.heap.size X w' by
    obtain ⟨r1, r2, r3⟩ := lines_run HLO.out (by rw [← HNL.out]; omega) newD
    have hz := lines_scr HLO.out (by rw [← HNL.out]; omega)
    have h := runI_any nv newD (scr ls) X hr newD_okJ.1 newD_okJ.2 (PW.out X hb) (MX.out X hb) (ER.out X hb) r1 (by omega)
    rwa [r2, r3, ← HNL.out, ← hdE] at h)
  have HSC := Lib.hid (fun k => show (scr (ls.take k)).size ≤ 4005 from lines_scr (fun x hx => HLO.out x (List.mem_of_mem_take hx)) (by rw [List.length_take, ← HNL.out]; omega))
  obtain ⟨O, hO⟩ : ∃ O, O = scr (outsK newD ls n) := ⟨_, rfl⟩
  rw [← hO] at HRD
  clear hdE hO HC4 HC5
  go_upto_if 101 with fail
  go_cut [15, 16] from 31 to 118 (fun u15 u16 wx => Hid (Below w.heap.size w wx) ∧ Hid (Below w1.heap.size w1 wx))
  case first =>
    have hkn : k < n ∨ ¬ k < n := Decidable.em _
    rcases hkn with hkn | hkn
    · have hkI : (k : Int) < (n : Int) := by omega
      have hU := (HC6.out hkn).2
      have HJ3 := Lib.hid (HJ2.out hkn w4 B4 L4)
      obtain ⟨U, hUe⟩ : ∃ U, U = jrR (ls.take (k + 1)) := ⟨_, rfl⟩
      rw [← hUe] at hU HJ3
      clear hUe
      go_wp2_with (go_at_call 33; refine HJ3.out.mono ?_; rintro e w5 ⟨rfl, hb⟩; have B5 := B4.trans (hb.mono B4.size); have L5 := L4.trans (hb.mono L4.size))
      go_meet
      case rel => exact ⟨Lib.hid B5, Lib.hid L5⟩
    · have hkI : ¬ (k : Int) < (n : Int) := by omega
      go_wp2_with fail
      go_meet
      case rel => exact ⟨Lib.hid B4, Lib.hid L4⟩
  case rest =>
  obtain ⟨HB5, HL5⟩ := hcut
  have B5 := HB5.out
  have L5 := HL5.out
  clear HB5 HL5 HJ2 HC6 B4 L4
  obtain ⟨W5, rfl⟩ : ∃ W, W = wc := ⟨wc, rfl⟩
  go_upto_region 18 with (first
    | (go_at_call 17; refine (implNewDesk_any W5).mono ?_; rintro e w6 ⟨nv, rfl, hno, hb⟩; have B6 := B5.trans (hb.mono B5.size); have L6 := L5.trans (hb.mono L5.size))
    | (go_at_call 35; refine (HRJ.out w6 nv hno.rd B6).mono ?_; rintro e w7 ⟨jv, rfl, hjo, hb7⟩; obtain ⟨f1, g1, f2, g2, f3, g3, f4, g4, f5, g5, f6, g6, rfl⟩ := hjo.shape; have HT : (w7.alloc (.cells zD 30)).there w7.heap.size 0 7 := (store_blk (cells := zD) (Blk.new w7 30 zD) rfl).1))
  refine wp_at fun W8 hW8 => ?_
  have B7 := B6.trans (hb7.mono B6.size)
  have L7 := L6.trans (hb7.mono L6.size)
  have hz7 := B7.size
  have hy7 := L7.size
  have hba : Below w7.heap.size w7 (w7.alloc (.cells zD 30)) := (Below.refl _ _).alloc (Nat.le_refl _) _
  have H := put_desk (cs := #[.int .i64 dE.rows.vars, .slice f1 dE.rows.nums.length g1, .slice f2 dE.rows.bnds.length g2, .slice f3 dE.rows.gains.length g3, .slice f4 dE.sizes.length g4, .slice f5 dE.jobs.length g5, .slice f6 dE.ways.length g6]) (hjo.up hba (Nat.le_refl _)) (Blk.new w7 30 zD) rfl
  rw [← hW8] at H
  have B8 : Below w.heap.size w W8 := (B7.trans (hba.mono hz7)).trans (H.2.2.1.toBelow (Nat.le_trans hz7 hba.size) (fun k h1 h2 => by omega))
  have L8 : Below w1.heap.size w1 W8 := (L7.trans (hba.mono hy7)).trans (H.2.2.1.toBelow (Nat.le_trans hy7 hba.size) (fun k h1 h2 => by omega))
  have RJ := Lib.hid (fun X (hb : Below W8.heap.size W8 X) => H.1.rd.up hb (Nat.le_refl _))
  have CJ := Lib.hid (fun X (hb : Below W8.heap.size W8 X) => desk_cells (H.2.1.below hb H.2.1.lt))
  obtain ⟨jb, hjb⟩ : ∃ b, b = w7.heap.size := ⟨_, rfl⟩
  rw [← hjb] at CJ ⊢
  clear hW8 hno hb hjo hb7 HT B5 L5 B6 L6 B7 L7 hz7 hy7 hba H hjb HRJ
  go_wp2_with fail
  go_loopw [20, 21] (fun sv iv wr => ∃ i : Nat, iv = .int .i64 i ∧ i ≤ n ∧ sv = .string (scr (ls.take i)) ∧ wr = W8) (fun _ iv _ => n - (intOf iv).toNat)
  case atStart => exact ⟨0, rfl, Nat.zero_le _, rfl, rfl⟩
  case round =>
    obtain ⟨i, rfl, hi, rfl, rfl⟩ := hrel
    obtain ⟨W8, rfl⟩ : ∃ W, W = wr := ⟨wr, rfl⟩
    by_cases hlt : i < n
    · have hltI : (i : Int) < (n : Int) := by omega
      have HTK := Lib.hid (scr_take ls i (by rw [← HNL.out]; exact hlt))
      have hsc := HSC.out i
      have hx8 := (HLO.out (ls.getD i E0) (getD_mem (by rw [← HNL.out]; exact hlt))).2
      obtain ⟨lb2, lo2, ee, _, hc⟩ := (RL.out W8 L8).at (i := i) (by rw [← HNL.out]; exact hlt)
      simp only [Option.some.injEq, Addr.mk.injEq, and_true] at ee
      obtain ⟨rfl, rfl⟩ := ee
      obtain ⟨x, hx⟩ : ∃ x, x = ls.getD i E0 := ⟨_, rfl⟩
      obtain ⟨S, hS⟩ : ∃ S, S = scr (ls.take i) := ⟨_, rfl⟩
      rw [← hx] at hc hx8 HTK
      rw [← hS] at hsc HTK ⊢
      clear hx hS
      go_wp2_with fail
      go_roundw
      case rel => exact ⟨i + 1, by go_num, by omega, by rw [HTK.out]; rfl, trivial⟩
      case measure => simp [intOf]; omega
    · have hltI : ¬ (i : Int) < (n : Int) := by omega
      have hin : i = n := by omega
      rw [show ls.take i = ls by rw [hin, HNL.out, List.take_length]]
      go_upto_region 24 with (first
        | (go_at_call 17; refine (implNewDesk_any W8).mono ?_; rintro e w9 ⟨nv2, rfl, hno, hb⟩; have B9 := B8.trans (hb.mono B8.size); have T9 := hb)
        | (go_at_call 16; refine (HRD.out w9 nv2 hno.rd B9).mono ?_; rintro e w10 ⟨ev, rfl, heo, hb10⟩; obtain ⟨b1, e1, b2, e2, b3, e3, b4, e4, b5, e5, b6, e6, rfl⟩ := heo.shape; have HT : (w10.alloc (.cells zD 30)).there w10.heap.size 0 7 := (store_blk (cells := zD) (Blk.new w10 30 zD) rfl).1))
      refine wp_at fun W11 hW11 => ?_
      have B10 := B9.trans (hb10.mono B9.size)
      have T10 := T9.trans (hb10.mono T9.size)
      have hz10 := B10.size
      have hy10 := T10.size
      have hba : Below w10.heap.size w10 (w10.alloc (.cells zD 30)) := (Below.refl _ _).alloc (Nat.le_refl _) _
      have H := put_desk (cs := #[.int .i64 dE.rows.vars, .slice b1 dE.rows.nums.length e1, .slice b2 dE.rows.bnds.length e2, .slice b3 dE.rows.gains.length e3, .slice b4 dE.sizes.length e4, .slice b5 dE.jobs.length e5, .slice b6 dE.ways.length e6]) (heo.up hba (Nat.le_refl _)) (Blk.new w10 30 zD) rfl
      rw [← hW11] at H
      have B11 : Below w.heap.size w W11 := (B10.trans (hba.mono hz10)).trans (H.2.2.1.toBelow (Nat.le_trans hz10 hba.size) (fun k h1 h2 => by omega))
      have T11 : Below W8.heap.size W8 W11 := (T10.trans (hba.mono hy10)).trans (H.2.2.1.toBelow (Nat.le_trans hy10 hba.size) (fun k h1 h2 => by omega))
      have hsd := implSameDesk_any _ _ dE dE W11 (RJ.out W11 T11) H.1.rd
      rw [sameD_rfl] at hsd
      have HSD := Lib.hid hsd
      obtain ⟨i0, i1, i2, i3, i4, i5, i6⟩ := CJ.out W11 T11
      obtain ⟨j0, j1, j2, j3, j4, j5, j6⟩ := desk_cells H.2.1
      obtain ⟨eb, heb⟩ : ∃ b, b = w10.heap.size := ⟨_, rfl⟩
      rw [← heb] at j0 j1 j2 j3 j4 j5 j6 ⊢
      clear hW11 hno hb heo hb10 HT B8 B9 B10 T9 T10 hz10 hy10 hba H heb HRD hsd RJ CJ
      go_upto_region 26 with (go_at_call 27; refine HSD.out.mono ?_; rintro e w12 ⟨rfl, hb12⟩)
      have B12 := B11.trans (hb12.mono B11.size)
      clear i0 i1 i2 i3 i4 i5 i6 j0 j1 j2 j3 j4 j5 j6 HSD T11 B11 hb12
      by_cases hat : a = T.size
      · have hmz := HC7.out hat
        subst hat
        subst hmz
        go_wp2_with fail
        go_ret
        exact ⟨rfl, B12⟩
      · have hatI : ¬ (a : Int) = (T.size : Int) := by omega
        have hal : a < T.size := by omega
        go_upto_region 28 with fail
        have hal2 : (0 : Int) ≤ (a : Int) ∧ (a : Int) < (T.size : Int) := ⟨by omega, by omega⟩
        have hcv : ∀ q : Int, (convert 22 9 (.slice (some ⟨w12.heap.size, 0, none⟩) 1 1)).run Tryz.prog ((w12.alloc (.cells #[.int .u8 q] 5)).drew) = .ok (.string (strOfNums [q])) ((w12.alloc (.cells #[.int .u8 q] 5)).drew) := fun q =>
          run_convert_bytes_arg (P := Tryz.prog) _ 22 5 Tryz.underlying22 Tryz.underlying5 w12.heap.size 0 1 1 [q] rfl (fun i hi => by
            obtain rfl : i = 0 := by omega
            exact (Blk.new w12 5 #[.int .u8 q]).cell 0 rfl) 9 Tryz.underlying9
        have hq1 : ∀ q : Int, (strOfNums [q]).size = 1 := fun q => strOfNums_size _
        have hq0 : (T.extract 0 a).size = a := by rw [ByteArray.size_extract]; omega
        have hq2 : (T.extract (a + 1) T.size).size = T.size - (a + 1) := by rw [ByteArray.size_extract]; omega
        have hwa : IntKind.i64.wrap ((a : Int) + 1) = ((a + 1 : Nat) : Int) := by rw [IntWalk.i64_in _ (by omega)]; push_cast; rfl
        have hal3 : (0 : Int) ≤ ((a + 1 : Nat) : Int) ∧ ((a + 1 : Nat) : Int) ≤ (T.size : Int) := ⟨by omega, by omega⟩
        have hal4 : a + 1 ≤ T.size := by omega
        clear c3 hmT HC7
        go_cut [25] from 31 to 188 (fun t25 wx => ∃ q : Int, t25 = .string (T.extract 0 a ++ strOfNums [q] ++ T.extract (a + 1) T.size) ∧ Hid (Below w.heap.size w wx))
        case first =>
          go_region_with (go_at_call 14; first
            | (refine (HAT.out w12 B12 2 255 (by omega) (by omega) (by omega) (by omega)).mono ?_; rintro e w13 ⟨z, hz0, hz1, rfl, rfl⟩; have hwz : IntKind.i64.wrap (1 + z) = 1 + z := IntWalk.i64_in _ (by omega))
            | (refine (HAT.out w12.drew B12.drew 2 255 (by omega) (by omega) (by omega) (by omega)).mono ?_; rintro e w13 ⟨z, hz0, hz1, rfl, rfl⟩; have hwz : IntKind.i64.wrap (1 + z) = 1 + z := IntWalk.i64_in _ (by omega)))
          all_goals
            go_wp2_with fail
            go_meet
          all_goals
            exact ⟨_, rfl, Lib.hid ((B12.alloc B12.size _).drew)⟩
        case rest =>
        obtain ⟨q, rfl, HB13⟩ := hcut
        clear hcv hal2 hal3 hal4 hwa B12
        obtain ⟨W13, rfl⟩ : ∃ W, W = wc := ⟨wc, rfl⟩
        have B13 := HB13.out
        have hbz : (T.extract 0 a ++ strOfNums [q] ++ T.extract (a + 1) T.size).size ≤ 4100 := by rw [ByteArray.size_append, ByteArray.size_append, hq0, hq1, hq2]; omega
        obtain ⟨Y, hY⟩ : ∃ Y, Y = T.extract 0 a ++ strOfNums [q] ++ T.extract (a + 1) T.size := ⟨_, rfl⟩
        rw [← hY] at hbz ⊢
        obtain ⟨e1, e2, e3, e4, e5⟩ := rj_bent (B := Y) (by omega)
        have HRC2 := Lib.hid (recoverI_any Y W13 (PW.out W13 B13) (MX.out W13 B13))
        rw [e1] at HRC2
        have HJ4 := Lib.hid (fun X v (hr : RdSs X v (rjR Y)) (hb : Below w.heap.size w X) => show Calls Tryz.prog 33 #[v] X fun e w' => e = .returned (.tuple #[.string (Y.extract 0 (rjN Y)), .bool true]) ∧ Below X.heap.size X w' by
          have h := journalI_any v (rjR Y) X hr (PW.out X hb) e5
          rwa [e2, e4] at h)
        obtain ⟨R, hR⟩ : ∃ R, R = rjR Y := ⟨_, rfl⟩
        obtain ⟨m2, hm2⟩ : ∃ m, m = rjN Y := ⟨_, rfl⟩
        rw [← hR, ← hm2] at HRC2 HJ4
        rw [← hm2] at e3
        clear e1 e2 e4 e5 hR hm2 hY hq0 hq1 hq2 HB13
        go_upto_region 30 with (go_at_call 34; refine HRC2.out.mono ?_; rintro e w14 ⟨sv, rfl, hos, hb⟩; have B14 := B13.trans (hb.mono B13.size); obtain ⟨sa, sc, rfl⟩ := hos.rd.shape)
        go_upto_region 31 with (go_at_call 33; refine (HJ4.out w14 _ hos.rd B14).mono ?_; rintro e w15 ⟨rfl, hb⟩; have B15 := B14.trans (hb.mono B14.size))
        clear hos hb B13 B14 HRC2 HJ4
        go_wp2_with fail
        go_ret
        exact ⟨rfl, B15⟩
end
end Go.Proofs.YtgkbbpajkbkgnaaGreatDoor

namespace Go.Proofs.YtgkbbpajkbkgnaaGreatDoor
open Go.ChangeShapes Go.WideShapes Go.ChangeAt Go.RowKit
set_option linter.unusedVariables false
section
variable {H : Type} {enc : TypeId × Value → H} {w : World} {base : Nat} {spare : Nat → Bool} {held : Bool}
theorem cells_u8 : Tryz.prog.cellsOf 5 = 1 := by kernel_rfl
set_option maxRecDepth 100000 in
theorem trod_B {fuel : Nat} {cs : List Value} {x : DataW H × List MemPlace} (h : DataW.trod enc Tryz.prog w base spare held fuel 22 cs = some x) : ∃ v zs, cs = [v] ∧ RdB w v zs ∧ WfB zs := by
  rcases open_ints Tryz.underlying22 Tryz.underlying5 cells_u8 h with ⟨rfl, _⟩ | ⟨a, len, cap, zs, rfl, _, hl, hm, hz, _, hcell, hwz⟩
  · exact ⟨_, [], rfl, .inl ⟨rfl, rfl⟩, by intro z hz; simp at hz⟩
  · have hle : len ≤ zs.length := by rw [hz]; split <;> omega
    refine ⟨_, zs.take len, rfl, .inr ⟨a, cap, by simp [Nat.min_eq_left hle], by simp; omega, hm, ?_⟩, fun z hz' => bounds_u8 (hwz z (List.mem_of_mem_take hz'))⟩
    intro i u hi
    have hlt : i < len := by
      have := (List.getElem?_eq_some_iff.1 hi).1
      simp at this; omega
    have h2 := hcell i (by omega)
    rw [h2, ← hi]
    simp [B8, List.getElem?_take, hlt, show i < zs.length by omega]
set_option maxRecDepth 100000 in
theorem arg_B {r : Reach} {b0 : Nat} {v : Value} {d : DataW H} {p : List MemPlace} (hv : Value.okWide Tryz.prog w r b0 22 v) (h : DataW.Trod enc Tryz.prog w base spare held 22 v d p) : ∃ zs, RdB w v zs ∧ WfB zs := by
  obtain ⟨a, len, cap, rfl⟩ := okWide_slice Tryz.underlying22 hv
  obtain ⟨fuel, hf⟩ := h
  obtain ⟨v, zs, e, h1, h2⟩ := trod_B hf
  simp [Value.cells] at e
  subst e
  exact ⟨zs, h1, h2⟩
end
end Go.Proofs.YtgkbbpajkbkgnaaGreatDoor

namespace Go.Proofs.YtgkbbpajkbkgnaaGreatDoor.fnJournal
open Go.ChangeShapes Go.WideShapes Go.ChangeAt Go.RowKit
theorem and_tt {a b : Bool} (h1 : a = true) (h2 : b = true) : (a && b) = true := by rw [h1, h2]; rfl
theorem j0 : (Rows.fnJournalRow.wf (OpenSpec.ofChange (OpenSpec.ofChange Rows.fnJournalSpec).bare)) = true := by kernel_rfl
theorem j1 : (laidOutB Tryz.pinned.checked.prog) = true := by kernel_rfl
theorem j2 : (mapsRowed Tryz.pinned.checked.prog) = true := by kernel_rfl
theorem j3 : (Tryz.f5.params.all (Tryz.pinned.checked.prog.readableRec ·)) = true := by kernel_rfl
theorem j4 : (namedTie Tryz.pinned.checked.prog Rows.fnJournalRow.named (OpenSpec.ofChange Rows.fnJournalSpec).bare.vars) = true := by kernel_rfl
theorem j5 : ((Rows.fnJournalRow.stops == [])) = true := by kernel_rfl
theorem j6 : ((Tryz.pinned.checked.prog.stops == [])) = true := by kernel_rfl
theorem j7 : ((Rows.fnJournalRow.knobs == [])) = true := by kernel_rfl
theorem j8 : ((Tryz.pinned.checked.prog.stopKnobs == [])) = true := by kernel_rfl
theorem j9 : ((Rows.fnJournalRow.inPlace == Tryz.pinned.checked.prog.inPlace 5)) = true := by kernel_rfl
theorem j10 : ((Rows.fnJournalRow.unfollowed == Tryz.pinned.checked.prog.unfollowed 5)) = true := by kernel_rfl
theorem j11 : ((Rows.fnJournalRow.recurses == Tryz.pinned.checked.prog.recurses 5)) = true := by kernel_rfl
theorem j12 : ((Rows.fnJournalRow.named == Tryz.pinned.checked.prog.varsNamed 5)) = true := by kernel_rfl
theorem j13 : ((Rows.fnJournalRow.maps == (Tryz.f5.params.toList ++ (OpenSpec.ofChange Rows.fnJournalSpec).bare.plain.varTypes Tryz.pinned.checked.prog).any (Tryz.pinned.checked.prog.mapsRec ·))) = true := by kernel_rfl
theorem j14 : ((Rows.fnJournalRow.ifaces == (Tryz.f5.params.toList ++ (OpenSpec.ofChange Rows.fnJournalSpec).bare.plain.varTypes Tryz.pinned.checked.prog).any (Tryz.pinned.checked.prog.ifacesRec ·))) = true := by kernel_rfl
theorem j15 : ((Rows.fnJournalRow.mapsOut == Tryz.pinned.checked.prog.mapsAmong Tryz.f5.resultTypes.toList)) = true := by kernel_rfl
theorem j16 : ((Rows.fnJournalRow.loops == (Tryz.f5.params.toList ++ (OpenSpec.ofChange Rows.fnJournalSpec).bare.plain.varTypes Tryz.pinned.checked.prog).any (Tryz.pinned.checked.prog.loopsFrom ·))) = true := by kernel_rfl
theorem j17 : ((Rows.fnJournalRow.wideKeys == (Tryz.f5.params.toList ++ (OpenSpec.ofChange Rows.fnJournalSpec).bare.plain.varTypes Tryz.pinned.checked.prog ++ Tryz.f5.resultTypes.toList).any (Tryz.pinned.checked.prog.wideKeysFrom ·))) = true := by kernel_rfl
theorem j18 : ((OpenSpec.ofChange Rows.fnJournalSpec).bare.vars.all (Tryz.pinned.checked.prog.varReadable ·)) = true := by kernel_rfl
theorem j19 : (Tryz.f5.resultTypes.all (fun t => Tryz.pinned.checked.prog.readableRec t && decide (t < Tryz.pinned.checked.prog.types.size))) = true := by kernel_rfl
theorem j20 : ((Rows.fnJournalRow.ifacesOut == Tryz.f5.resultTypes.toList.any (Tryz.pinned.checked.prog.ifacesRec ·))) = true := by kernel_rfl
theorem j21 : ((Rows.fnJournalRow.loopsOut == Tryz.f5.resultTypes.toList.any (Tryz.pinned.checked.prog.loopsFrom ·))) = true := by kernel_rfl
theorem j22 : ((Rows.fnJournalRow.plainKeys == Tryz.pinned.checked.prog.plainKeys)) = true := by kernel_rfl
theorem j23 : (Rows.fnJournalRow.shortTexts.isNone) = true := by kernel_rfl
theorem j24 : (Tryz.pinned.checked.prog.stopsHeard) = true := by kernel_rfl
theorem j25 : (Tryz.pinned.checked.prog.mayEnter) = true := by kernel_rfl
theorem j26 : ((Rows.fnJournalRow.lifted == Tryz.pinned.checked.prog.liftsFinal)) = true := by kernel_rfl
theorem j27 : ((Tryz.pinned.checked.prog.make == some Rows.fnJournalRow.make)) = true := by kernel_rfl
theorem j28 : ((Rows.fnJournalRow.kinds == (if Rows.fnJournalRow.domain.isEmpty then [] else Tryz.f5.params.toList.map fun t => match Tryz.pinned.checked.prog.underlying t with | some (.int k) => some k | _ => none))) = true := by kernel_rfl
theorem j29 : ((Rows.fnJournalRow.pinned == Rows.fnJournalRow.pinnedBy)) = true := by kernel_rfl
theorem j30 : ((Rows.fnJournalRow.veiled == (Tryz.f5.params.toList ++ (OpenSpec.ofChange Rows.fnJournalSpec).bare.plain.varTypes Tryz.pinned.checked.prog ++ Tryz.f5.resultTypes.toList).any (Tryz.pinned.checked.prog.veiledRec ·))) = true := by kernel_rfl
theorem j31 : (Rows.fnJournalRow.veiledFits Tryz.pinned.checked.prog Tryz.f5.params.toList (Tryz.f5.params.toList ++ (OpenSpec.ofChange Rows.fnJournalSpec).bare.plain.varTypes Tryz.pinned.checked.prog ++ Tryz.f5.resultTypes.toList)) = true := by kernel_rfl
set_option maxRecDepth 100000 in
theorem closedJ : joinedFacts Tryz.pinned.checked.prog 5 Tryz.f5 (OpenSpec.ofChange Rows.fnJournalSpec).bare Rows.fnJournalRow = true :=
  (and_tt (and_tt (and_tt (and_tt (and_tt (and_tt (and_tt (and_tt (and_tt (and_tt (and_tt (and_tt (and_tt (and_tt (and_tt (and_tt (and_tt (and_tt (and_tt (and_tt (and_tt (and_tt (and_tt (and_tt (and_tt (and_tt (and_tt (and_tt (and_tt (and_tt (and_tt j0 j1) j2) j3) j4) j5) j6) j7) j8) j9) j10) j11) j12) j13) j14) j15) j16) j17) j18) j19) j20) j21) j22) j23) j24) j25) j26) j27) j28) j29) j30) j31)
end Go.Proofs.YtgkbbpajkbkgnaaGreatDoor.fnJournal
