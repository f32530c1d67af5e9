/-
  FnJournal: texts joined: RdM, CutS, RcJI, CountM, Split, FlM, RdrM, RdjM, BackM.
-/
import Derived.Lib.ParseIntBCases
import Derived.Deep.RegionHeld3
import Derived.Lib.SplitLaws
import Derived.Maps.AppendAt
import Derived.Test.YtgkbbpajkbkgnaaGreatDoorMFnJournalAC
import Derived.Test.YtgkbbpajkbkgnaaGreatDoorMFnJournalAD
import Derived.Test.YtgkbbpajkbkgnaaGreatDoorMFnJournalAF
import Derived.Test.YtgkbbpajkbkgnaaGreatDoorMFnJournalAG
set_option linter.unusedVariables false
set_option linter.unusedSimpArgs false
namespace Go.Proofs.YtgkbbpajkbkgnaaGreatDoor
open Go.RowKit
def itoaB (n : Int) : ByteArray := ⟨(Lib.itoa n).toArray⟩
theorem decDigits_step (n : Nat) : Lib.decDigits n = (if n < 10 then [] else Lib.decDigits (n / 10)) ++ [UInt8.ofNat (48 + n % 10)] := by
  rw [Lib.decDigits]
  by_cases h : n < 10
  · rw [dif_pos h, if_pos h, Nat.mod_eq_of_lt h]; rfl
  · rw [dif_neg h, if_neg h]
theorem dig_nat (n : Nat) : (UInt8.ofNat (48 + n % 10)).toNat = 48 + n % 10 := by
  have : n % 10 < 10 := Nat.mod_lt _ (by omega)
  rw [UInt8.toNat_ofNat']
  exact Nat.mod_eq_of_lt (by omega)
theorem decDigits_mem (n : Nat) : ∀ c ∈ Lib.decDigits n, 48 ≤ c.toNat ∧ c.toNat ≤ 57 := by
  induction n using Nat.strongRecOn with
  | _ n ih =>
    intro c hc
    rw [decDigits_step, List.mem_append] at hc
    rcases hc with hc | hc
    · split at hc
      · cases hc
      · exact ih (n / 10) (by omega) c hc
    · simp only [List.mem_singleton] at hc
      subst hc
      rw [dig_nat]
      have : n % 10 < 10 := Nat.mod_lt _ (by omega)
      omega
theorem decDigits_ne (n : Nat) : Lib.decDigits n ≠ [] := by rw [decDigits_step]; simp
theorem decDigits_len (k n : Nat) (h : n < 10 ^ (k + 1)) : (Lib.decDigits n).length ≤ k + 1 := by
  have := digI_len k n h
  unfold digI at this
  simpa using this
def valB (s : ByteArray) : Option Int := match Lib.parseIntB 64 s.data.toList with
  | .ok v => if (-1000000000000000 ≤ v ∧ v ≤ 1000000000000000) ∧ itoaB v = s then some v else none
  | _ => none
theorem valB_some {s : ByteArray} {v : Int} (h : valB s = some v) : -1000000000000000 ≤ v ∧ v ≤ 1000000000000000 ∧ itoaB v = s := by
  unfold valB at h
  split at h
  · split at h
    · rename_i h1
      simp only [Option.some.injEq] at h
      subst h
      exact ⟨h1.1.1, h1.1.2, h1.2⟩
    · cases h
  · cases h
theorem itoaB_size {n : Int} (h0 : -1000000000000000 ≤ n) (h1 : n ≤ 1000000000000000) : 1 ≤ (itoaB n).size ∧ (itoaB n).size ≤ 17 := by
  have hz : (itoaB n).size = (Lib.itoa n).length := by simp [itoaB, ByteArray.size]
  rw [hz]
  unfold Lib.itoa
  split
  · have := decDigits_len 15 n.natAbs (by omega)
    simp only [List.length_cons]; omega
  · have := decDigits_len 15 n.toNat (by omega)
    have h2 := List.length_pos_iff.2 (decDigits_ne n.toNat)
    omega
def valN (s : ByteArray) : Int := (valB s).getD 0
def valOk (s : ByteArray) : Bool := (valB s).isSome
theorem valN_some {s : ByteArray} {v : Int} (h : valB s = some v) : valN s = v ∧ valOk s = true := by unfold valN valOk; rw [h]; exact ⟨rfl, rfl⟩
end Go.Proofs.YtgkbbpajkbkgnaaGreatDoor

namespace Go.Proofs.YtgkbbpajkbkgnaaGreatDoor
open Go.RowKit
theorem cutS_lines (s : ByteArray) : (linesL s.data.toList).map mkB = (cutS 10 s).dropLast := by unfold linesL cutS; rw [List.map_dropLast]
theorem cutS_pos (c : UInt8) (s : ByteArray) : 1 ≤ (cutS c s).length := by
  unfold cutS
  rw [List.length_map]
  have := List.length_pos_iff.2 (partsC_ne c s.data.toList)
  omega
theorem cutS_cnt (c : UInt8) (s : ByteArray) : (cutS c s).length ≤ s.size + 1 := by
  unfold cutS
  rw [List.length_map]
  have := partsC_cnt c s.data.toList
  rw [Array.length_toList] at this
  exact this
end Go.Proofs.YtgkbbpajkbkgnaaGreatDoor

namespace Go.Proofs.YtgkbbpajkbkgnaaGreatDoor
open Go.RowKit
def HasMax (w : World) : Prop := ∃ m, w.cell? ⟨2, 0, none⟩ = some (.int .i64 m)
theorem HasMax.up {w w' : World} {B : Nat} (h : HasMax w) (hb : Below B w w') (hB : w.heap.size ≤ B) : HasMax w' := by
  obtain ⟨m, hm⟩ := h
  exact ⟨m, held_of hb hm hB⟩
theorem Cut_any (l : List UInt8) (c : UInt8) (w : World) (h : HasMax w) (hl : l.length ≤ 1048576) (B : Nat) (hB : B ≤ w.heap.size) :
    Calls Tryz.prog 90 #[.string (mkB l), .string ⟨#[c]⟩] w fun e w' => e = .returned (.tuple #[.string (mkB (Lib.cut l [c]).1), .string (mkB (Lib.cut l [c]).2.1), .bool (Lib.cut l [c]).2.2]) ∧ Below B w w' := by
  obtain ⟨m, hm⟩ := h
  refine (Tryz.strings_Cut (mkB l) ⟨#[c]⟩ m w (by rw [mkB_size]; omega) hm).mono ?_
  rintro e w' ⟨rfl, n, rfl⟩
  refine ⟨?_, (below_drewN (Below.refl _ _) _).mono hB⟩
  rw [mkB_list]
  rfl
set_option maxHeartbeats 2000000 in
set_option maxRecDepth 4000 in
theorem recoverI_any (t : ByteArray) (w : World) (hp : HasPow w) (hm : HasMax w) :
    Calls Tryz.prog 34 #[.string t] w fun e w' => ∃ v', e = .returned (.tuple #[v', .int .i64 (rjN t), .bool (rjOk t)]) ∧ OwnSs w.heap.size w'.heap.size w' v' (rjR t) ∧ Below w.heap.size w w' := by
  have HP := Lib.hid hp
  have HM := Lib.hid hm
  clear hp hm
  by_cases hbig : 16000 < t.size
  · have HR := Lib.hid (show rjR t = [] ∧ rjN t = 0 ∧ rjOk t = false by unfold rjR rjN rjOk; rw [if_neg (by omega), if_neg (by omega)]; exact ⟨rfl, rfl, by simp; omega⟩)
    rw [HR.out.1, HR.out.2.1, HR.out.2.2]
    by_cases hmx : t.size ≤ 9223372036854775807
    · have hbI : (16000 : Int) < (t.size : Int) := by omega
      go_enter Tryz.func34, Tryz.ntmps34
      go_wp2_with fail
      refine bodyPost_ret (v := .tuple #[.slice none 0 0, .int .i64 0, .bool false]) (by simp [results, Tryz.results34, go_sem, *]) rfl ?_
      exact ⟨_, rfl, ⟨⟨World.ownsRow_nil _ _ _ _, by intro g hg; cases hg⟩, by intro s hs; simp at hs⟩, Below.refl _ _⟩
    · have hbI : (16000 : Int) < (t.size : Int) := by omega
      go_enter Tryz.func34, Tryz.ntmps34
      go_wp2_with fail
      refine bodyPost_ret (v := .tuple #[.slice none 0 0, .int .i64 0, .bool false]) (by simp [results, Tryz.results34, go_sem, *]) rfl ?_
      exact ⟨_, rfl, ⟨⟨World.ownsRow_nil _ _ _ _, by intro g hg; cases hg⟩, by intro s hs; simp at hs⟩, Below.refl _ _⟩
  have HR := Lib.hid (show rjR t = (rjP t).1 ∧ rjN t = (rjP t).2 ∧ rjOk t = true by unfold rjR rjN rjOk; rw [if_pos (by omega), if_pos (by omega)]; exact ⟨rfl, rfl, by simp; omega⟩)
  rw [HR.out.1, HR.out.2.1, HR.out.2.2]
  have HT := Lib.hid (show rjP t = recJ 0 (linesL t.data.toList) from rfl)
  have HTL := Lib.hid (show t.data.toList.length = t.size by rw [Array.length_toList]; rfl)
  have HTB := Lib.hid (mkB_of t)
  have hts : t.size ≤ 16000 := by omega
  have hbI : ¬ (16000 : Int) < (t.size : Int) := by omega
  obtain ⟨RR, hRR⟩ : ∃ RR, RR = rjP t := ⟨_, rfl⟩
  rw [← hRR] at HT ⊢
  clear hRR HR hbig
  go_enter Tryz.func34, Tryz.ntmps34
  go_wp2_with fail
  go_loopw [5, 6, 7, 8] (fun ov cv nv rv wr => ∃ (O : List ByteArray) (c n k : Nat) (r : List UInt8) (a : Option Addr) (cap : Nat), ov = .slice a k cap ∧ cv = .int .i64 c ∧ nv = .int .i64 n ∧ rv = .string (mkB r) ∧ c < 65003 ∧ k ≤ n ∧ n + r.length = t.size ∧ Hid (O.length = k ∧ ∀ s ∈ O, s.size ≤ maxLen) ∧ Hid (RR = (O ++ (recJ c (linesL r)).1, n + (recJ c (linesL r)).2)) ∧ Hid (wr.ownsRow w.heap.size 9 1 (.slice a k cap) k (O.map SV)) ∧ Hid (Below w.heap.size w wr)) (fun _ _ _ rv _ => match rv with | .string s => s.size | _ => 0)
  case atStart => exact ⟨[], 0, 0, 0, t.data.toList, none, 0, rfl, rfl, rfl, by rw [HTB.out], by omega, Nat.le_refl _, by rw [HTL.out]; omega, Lib.hid ⟨rfl, by intro s hs; simp at hs⟩, Lib.hid (by rw [HT.out]; simp), Lib.hid (World.ownsRow_nil _ _ _ _), Lib.hid (Below.refl _ _)⟩
  case round =>
    obtain ⟨O, c, n, k, r, a, cap, rfl, rfl, rfl, rfl, hc0, hkn, hnr, HK, HD, HO, HB⟩ := hrel
    have hszw := HB.out.size
    have HMr := Lib.hid (HM.out.up HB.out (Nat.le_refl _))
    by_cases hnl : (10 : UInt8) ∈ r
    · obtain ⟨e, r2, hr, hne⟩ := List.eq_append_cons_of_mem hnl
      have HLN := Lib.hid (show linesL r = e :: linesL r2 by rw [hr]; exact linesL_hit hne)
      have HCT := Lib.hid (show Lib.cut r [10] = (e, r2, true) by rw [hr]; exact cut_hit hne)
      have hlen : r.length = e.length + (r2.length + 1) := by rw [hr]; simp
      clear hnl hr hne
      go_wp2_with fail
      refine (Cut_any r 10 wr HMr.out (by omega) wr.heap.size (Nat.le_refl _)).mono ?_
      rintro e1 w1 ⟨rfl, hb1⟩
      rw [HCT.out]
      simp only
      have HB1 := Lib.hid (HB.out.trans (hb1.mono hszw))
      have HO1 := Lib.hid (owns_below HO.out hb1 (Nat.le_refl _))
      have HM1 := Lib.hid (HMr.out.up hb1 (Nat.le_refl _))
      have hsz1 := HB1.out.size
      clear hb1
      by_cases hsp : (32 : UInt8) ∈ e
      · obtain ⟨wd, ln, he, hnw⟩ := List.eq_append_cons_of_mem hsp
        have HCE := Lib.hid (show Lib.cut e [32] = (wd, ln, true) by rw [he]; exact cut_hit hnw)
        have hlen2 : e.length = wd.length + (ln.length + 1) := by rw [he]; simp
        have HBAD := Lib.hid (show mkB wd ≠ decS (chkN c (mkB ln)) → recJ c (linesL r) = ([], 0) from fun h => by rw [HLN.out, he]; exact recJ_bad _ hnw h)
        have HGOOD := Lib.hid (show mkB wd = decS (chkN c (mkB ln)) → recJ c (linesL r) = (mkB ln :: (recJ (chkN c (mkB ln)) (linesL r2)).1, e.length + 1 + (recJ (chkN c (mkB ln)) (linesL r2)).2) from fun h => by rw [HLN.out, he]; exact recJ_good _ hnw h)
        clear hsp he hnw
        go_wp2_with fail
        refine (Cut_any e 32 w1 HM1.out (by omega) w1.heap.size (Nat.le_refl _)).mono ?_
        rintro e2 w2 ⟨rfl, hb2⟩
        rw [HCE.out]
        simp only
        have HB2 := Lib.hid (HB1.out.trans (hb2.mono hsz1))
        have HO2 := Lib.hid (owns_below HO1.out hb2 (Nat.le_refl _))
        have hsz2 := HB2.out.size
        clear hb2
        have HCK := Lib.hid (chkN_eq hc0 (mkB ln))
        have hc1 := chkN_lt hc0 (mkB ln)
        have HLS := Lib.hid (show (mkB ln).size ≤ 1048576 by rw [mkB_size]; omega)
        obtain ⟨y, hy⟩ : ∃ y, y = chkN c (mkB ln) := ⟨_, rfl⟩
        obtain ⟨L, hL⟩ : ∃ L, L = mkB ln := ⟨_, rfl⟩
        obtain ⟨WD, hWD⟩ : ∃ WD, WD = mkB wd := ⟨_, rfl⟩
        rw [← hy] at HCK hc1 HBAD HGOOD
        rw [← hL] at HCK HGOOD HLS ⊢
        rw [← hWD] at HBAD HGOOD ⊢
        clear hy hL hWD
        go_upto_region 9 with (go_at_call 88; refine (implCheck_any c L _ (by omega) (by omega) (by have := HLS.out; unfold maxLen; omega)).mono ?_; rintro e w' ⟨rfl, rfl⟩; rw [HCK.out])
        go_wp2_with fail
        refine (Decimal_any y (by omega) _ (HP.out.up HB2.out (Nat.le_refl _))).mono ?_
        rintro e3 w3 ⟨rfl, hb3⟩
        have HB3 := Lib.hid (HB2.out.trans (hb3.mono hsz2))
        have HO3 := Lib.hid (owns_below HO2.out hb3 (Nat.le_refl _))
        have hsz3 := HB3.out.size
        obtain ⟨DY, hDY⟩ : ∃ DY, DY = decS y := ⟨_, rfl⟩
        rw [← hDY] at HBAD HGOOD ⊢
        clear hb3 hDY
        by_cases hd : WD = DY
        · subst hd
          have HRJ := Lib.hid (HGOOD.out rfl)
          have hes : (mkB e).size = e.length := mkB_size e
          obtain ⟨ME, hME⟩ : ∃ ME, ME = mkB e := ⟨_, rfl⟩
          rw [← hME] at hes ⊢
          have HES := Lib.hid hes
          have hel : ME.size ≤ 16000 := by omega
          have hHN := Lib.hid (show n + ME.size + 1 = n + e.length + 1 by omega)
          clear hes hME
          go_wp2_with (first
            | (at_builtin; refine app_strs rfl _ _ rfl w.heap.size _ k O rfl (owns_below HO3.out ((Below.refl _ _).alloc (Nat.le_refl _) _) (Nat.le_refl _)) _ [L] rfl (slcS_one w3 L _ rfl) (k + 1) (O ++ [L]) rfl rfl (by omega) (by simp; omega) ?_; intro a' cap' w4 r1 r3 _)
            | (go_at_call 66; refine (size_any _ _ (by unfold maxLen; omega)).mono ?_; rintro e w' ⟨rfl, rfl⟩))
          go_roundw
          case rel =>
            refine ⟨O ++ [L], y, n + (ME.size + 1), k + 1, r2, a', cap', by go_num, by go_num, by go_num, rfl, hc1, by omega, by have := HES.out; omega, Lib.hid ⟨by rw [List.length_append, HK.out.1]; rfl, ?_⟩, Lib.hid ?_, Lib.hid r1, Lib.hid ((HB3.out.alloc hsz3 _).trans r3)⟩
            · intro s hs
              rcases List.mem_append.1 hs with h | h
              · exact HK.out.2 s h
              · rw [List.mem_singleton] at h
                rw [h]; have := HLS.out; unfold maxLen; omega
            · have h1 := HD.out
              have h2 := HRJ.out
              have h3 := HES.out
              show RR = _
              rw [h1, h2]
              refine Prod.ext ?_ ?_
              · simp
              · simp only; omega
          case measure =>
            show (mkB r2).size < (mkB r).size
            rw [mkB_size, mkB_size]; omega
        · have hne : (WD.toList == DY.toList) = false := str_ne hd
          have HRJ := Lib.hid (HBAD.out hd)
          have HEQ := Lib.hid (show RR = (O, n) by rw [HD.out, HRJ.out]; simp)
          have HOF := HO3
          have HBF := HB3
          clear hd
          go_wp2_with fail
          refine bodyPost_ret (v := .tuple #[.slice a k cap, .int .i64 n, .bool true]) (by simp [results, Tryz.results34, go_sem, *]) rfl ?_
          rw [HEQ.out]
          refine ⟨_, rfl, OwnSs.mk HOF.out HK.out.2, HBF.out⟩
      · have HRJ := Lib.hid (show recJ c (linesL r) = ([], 0) by rw [HLN.out]; exact recJ_no _ hsp)
        have HCE := Lib.hid (cut_none hsp)
        clear hsp
        go_wp2_with fail
        refine (Cut_any e 32 w1 HM1.out (by omega) w1.heap.size (Nat.le_refl _)).mono ?_
        rintro e2 w2 ⟨rfl, hb2⟩
        rw [HCE.out]
        simp only
        have HB2 := Lib.hid (HB1.out.trans (hb2.mono hsz1))
        have HO2 := Lib.hid (owns_below HO1.out hb2 (Nat.le_refl _))
        have HCK := Lib.hid (chkN_eq hc0 (mkB []))
        have HLS := Lib.hid (show (mkB []).size ≤ 1048576 by rw [mkB_size]; simp)
        obtain ⟨L, hL⟩ : ∃ L, L = mkB [] := ⟨_, rfl⟩
        rw [← hL] at HCK HLS ⊢
        have HEQ := Lib.hid (show RR = (O, n) by rw [HD.out, HRJ.out]; simp)
        have HOF := HO2
        have HBF := HB2
        clear hb2 hL
        go_upto_region 9 with (go_at_call 88; refine (implCheck_any c L _ (by omega) (by omega) (by have := HLS.out; unfold maxLen; omega)).mono ?_; rintro e w' ⟨rfl, rfl⟩; rw [HCK.out])
        go_wp2_with fail
        refine bodyPost_ret (v := .tuple #[.slice a k cap, .int .i64 n, .bool true]) (by simp [results, Tryz.results34, go_sem, *]) rfl ?_
        rw [HEQ.out]
        refine ⟨_, rfl, OwnSs.mk HOF.out HK.out.2, HBF.out⟩
    · have HCT := Lib.hid (cut_none hnl)
      have HEQ := Lib.hid (show RR = (O, n) by rw [HD.out, linesL_none hnl]; simp [recJ])
      have HLB := Lib.hid (show (Lib.cut r [32]).2.1.length ≤ r.length by
        by_cases hsp : (32 : UInt8) ∈ r
        · obtain ⟨wd, ln, he, hnw⟩ := List.eq_append_cons_of_mem hsp
          rw [he, cut_hit hnw]; simp
          omega
        · rw [cut_none hsp]; simp)
      clear hnl
      go_wp2_with fail
      refine (Cut_any r 10 wr HMr.out (by omega) wr.heap.size (Nat.le_refl _)).mono ?_
      rintro e1 w1 ⟨rfl, hb1⟩
      rw [HCT.out]
      simp only
      have HB1 := Lib.hid (HB.out.trans (hb1.mono hszw))
      have HO1 := Lib.hid (owns_below HO.out hb1 (Nat.le_refl _))
      have HM1 := Lib.hid (HMr.out.up hb1 (Nat.le_refl _))
      have hsz1 := HB1.out.size
      clear hb1
      go_wp2_with fail
      refine (Cut_any r 32 w1 HM1.out (by omega) w1.heap.size (Nat.le_refl _)).mono ?_
      rintro e2 w2 ⟨rfl, hb2⟩
      have HBF := Lib.hid (HB1.out.trans (hb2.mono hsz1))
      have HOF := Lib.hid (owns_below HO1.out hb2 (Nat.le_refl _))
      clear hb2
      have HLS := Lib.hid (show (mkB (Lib.cut r [32]).2.1).size ≤ 1048576 by rw [mkB_size]; have := HLB.out; omega)
      have HCK := Lib.hid (chkN_eq hc0 (mkB (Lib.cut r [32]).2.1))
      obtain ⟨L, hL⟩ : ∃ L, L = mkB (Lib.cut r [32]).2.1 := ⟨_, rfl⟩
      obtain ⟨WD, hWD⟩ : ∃ WD, WD = mkB (Lib.cut r [32]).1 := ⟨_, rfl⟩
      obtain ⟨q, hq⟩ : ∃ q, q = (Lib.cut r [32]).2.2 := ⟨_, rfl⟩
      rw [← hL] at HLS HCK ⊢
      rw [← hWD, ← hq]
      clear hL hWD hq
      go_upto_region 9 with (go_at_call 88; refine (implCheck_any c L _ (by omega) (by omega) (by have := HLS.out; unfold maxLen; omega)).mono ?_; rintro e w' ⟨rfl, rfl⟩; rw [HCK.out])
      go_wp2_with fail
      refine bodyPost_ret (v := .tuple #[.slice a k cap, .int .i64 n, .bool true]) (by simp [results, Tryz.results34, go_sem, *]) rfl ?_
      rw [HEQ.out]
      refine ⟨_, rfl, OwnSs.mk HOF.out HK.out.2, HBF.out⟩
end Go.Proofs.YtgkbbpajkbkgnaaGreatDoor

namespace Go.Proofs.YtgkbbpajkbkgnaaGreatDoor
open Go.RowKit
theorem splitK_parts (c : UInt8) : ∀ (k : Nat) (l : List UInt8), l.length ≤ k → Lib.splitK [c] 0 (Lib.count l [c]) l = partsC c l
  | 0, l, h => by
    obtain rfl : l = [] := List.length_eq_zero_iff.1 (by omega)
    rw [Lib.count_miss (index_none (by simp))]
    rfl
  | k + 1, l, h => by
    by_cases hc : c ∈ l
    · obtain ⟨l1, l2, rfl, h1⟩ := List.eq_append_cons_of_mem hc
      have hi := index_hit (l2 := l2) h1
      rw [Lib.count_hit (by simp) hi, Nat.add_comm, partsC_hit h1]
      simp only [Lib.splitK]
      rw [hi, if_neg (by simp)]
      have h2 : (l1 ++ c :: l2).drop (l1.length + [c].length) = l2 := by simp
      have h3 : (((l1.length : Nat) : Int)).toNat = l1.length := by omega
      rw [h3, h2, splitK_parts c k l2 (by simp at h; omega)]
      simp
    · rw [Lib.count_miss (index_none hc), partsC_none hc]
      rfl
theorem splitB_cutS (c : UInt8) (s : ByteArray) : Lib.splitB ⟨#[c]⟩ 0 (Lib.countB s ⟨#[c]⟩) s = cutS c s := by
  have h := Lib.splitB_data ⟨#[c]⟩ 0 (Lib.countB s ⟨#[c]⟩) s
  have h2 : Lib.countB s ⟨#[c]⟩ = Lib.count s.data.toList [c] := rfl
  rw [h2] at h ⊢
  rw [show (⟨#[c]⟩ : ByteArray).data.toList = [c] from rfl, splitK_parts c _ _ (Nat.le_refl _)] at h
  unfold cutS
  rw [← h, List.map_map]
  conv => lhs; rw [← List.map_id (Lib.splitB _ _ _ _)]
  refine List.map_congr_left fun x _ => ?_
  exact (mkB_of x).symm
theorem last_nil (c : UInt8) : ∀ (k : Nat) (l : List UInt8), l.length ≤ k → l ≠ [] → ((partsC c l).getLast? = some [] ↔ l.getLast? = some c)
  | 0, l, h, hn => absurd (List.length_eq_zero_iff.1 (by omega)) hn
  | k + 1, l, h, hn => by
    by_cases hc : c ∈ l
    · obtain ⟨l1, l2, rfl, h1⟩ := List.eq_append_cons_of_mem hc
      rw [partsC_hit h1]
      have hp : (l1 :: partsC c l2).getLast? = (partsC c l2).getLast? := by
        obtain ⟨x, y, hxy⟩ : ∃ x y, partsC c l2 = x :: y := by
          cases hh : partsC c l2 with
          | nil => exact absurd hh (partsC_ne _ _)
          | cons x y => exact ⟨x, y, rfl⟩
        rw [hxy, List.getLast?_cons_cons]
      rw [hp]
      cases l2 with
      | nil => simp [partsC]
      | cons x y =>
        rw [last_nil c k (x :: y) (by simp at h ⊢; omega) (by simp)]
        simp [List.getLast?_append, List.getLast?_cons_cons]
    · rw [partsC_none hc]
      constructor
      · intro h0; simp at h0; exact absurd h0 hn
      · intro h0; exact absurd (List.mem_of_getLast? h0) hc
def lastP (t : ByteArray) : ByteArray := (cutS 10 t).getD ((cutS 10 t).length - 1) E0
theorem lastP_last (t : ByteArray) : ∃ e, (partsC 10 t.data.toList).getLast? = some e ∧ lastP t = mkB e := by
  obtain ⟨e, he⟩ : ∃ e, (partsC 10 t.data.toList).getLast? = some e := by
    cases h : (partsC 10 t.data.toList).getLast? with
    | none => exact absurd (List.getLast?_eq_none_iff.1 h) (partsC_ne _ _)
    | some e => exact ⟨e, rfl⟩
  refine ⟨e, he, ?_⟩
  rw [List.getLast?_eq_getElem?] at he
  unfold lastP cutS
  rw [List.length_map, List.getD_eq_getElem?_getD, List.getElem?_map, he]
  rfl
theorem lastP_empty : (lastP ⟨#[]⟩).size = 0 := by decide +kernel
theorem lastP_size {t : ByteArray} (h : 0 < t.size) : (lastP t).size = 0 ↔ t[t.size - 1] = 10 := by
  obtain ⟨e, he, hl⟩ := lastP_last t
  have hlen : t.data.toList.length = t.size := by rw [Array.length_toList]; rfl
  have hn : t.data.toList ≠ [] := by intro h0; rw [h0] at hlen; simp at hlen; omega
  have h1 := last_nil 10 _ t.data.toList (Nat.le_refl _) hn
  have h2 : t.data.toList.getLast? = some t[t.size - 1] := by
    rw [List.getLast?_eq_getElem?, hlen, List.getElem?_eq_getElem (by omega), Array.getElem_toList]
    rfl
  rw [he, h2] at h1
  rw [hl, mkB_size]
  constructor
  · intro h0
    have : e = [] := List.length_eq_zero_iff.1 h0
    rw [this] at h1
    simpa using h1.1 rfl
  · intro h0
    rw [h0] at h1
    have := h1.2 rfl
    simp at this
    rw [this]; rfl
def coOk (t : ByteArray) : Bool := decide (t.size ≤ 16000) && decide ((lastP t).size = 0)
def linesS (t : ByteArray) : List ByteArray := (linesL t.data.toList).map mkB
theorem linesS_cnt (t : ByteArray) : (linesS t).length = (cutS 10 t).length - 1 := by unfold linesS; rw [cutS_lines, List.length_dropLast]
theorem linesS_le (t : ByteArray) : (linesS t).length ≤ t.size := by have := linesS_cnt t; have := cutS_cnt 10 t; omega
end Go.Proofs.YtgkbbpajkbkgnaaGreatDoor

namespace Go.Proofs.YtgkbbpajkbkgnaaGreatDoor
open Go.RowKit
theorem partsC_le (c : UInt8) : ∀ (l : List UInt8), ∀ p ∈ partsC c l, p.length ≤ l.length
  | [], p, h => by
    simp only [partsC, List.mem_singleton] at h
    subst h
    exact Nat.le_refl _
  | b :: r, p, h => by
    have ih := partsC_le c r
    simp only [partsC] at h
    split at h
    · rw [List.mem_cons] at h
      rcases h with rfl | h
      · simp
      · have := ih p h
        simp only [List.length_cons]; omega
    · split at h
      · rw [List.mem_singleton] at h
        subst h
        simp
      · rename_i x t he
        rw [he] at ih
        rw [List.mem_cons] at h
        rcases h with rfl | h
        · have := ih x (by simp)
          simp only [List.length_cons]; omega
        · have := ih p (by simp [h])
          simp only [List.length_cons]; omega
theorem cutS_le (c : UInt8) (s : ByteArray) : ∀ x ∈ cutS c s, x.size ≤ s.size := by
  intro x hx
  obtain ⟨p, hp, rfl⟩ := List.mem_map.1 hx
  have := partsC_le c s.data.toList p hp
  rw [mkB_size]
  rw [Array.length_toList] at this
  exact this
theorem SplitC_any (c : UInt8) (t : ByteArray) (w : World) (h : HasMax w) (ht : t.size ≤ 1048576) :
    Calls Tryz.prog 83 #[.string t, .string ⟨#[c]⟩] w fun e w' => ∃ a cap, e = .returned (.slice a (cutS c t).length cap) ∧ RdSs w' (.slice a (cutS c t).length cap) (cutS c t) ∧ Below w.heap.size w w' := by
  obtain ⟨m, hm⟩ := h
  refine (Tryz.strings_Split t ⟨#[c]⟩ m w (by omega) hm (by show 1 ≤ 1; omega)).mono ?_
  rintro e w' ⟨rfl, rfl⟩
  have h1 := Lib.splitB_all ⟨#[c]⟩ (by show 1 ≤ 1; omega) 0 _ t rfl
  rw [splitB_cutS] at h1 ⊢
  rw [← h1]
  have hc := cutS_cnt c t
  refine ⟨_, _, rfl, ⟨.inr ⟨⟨w.heap.size, 0, none⟩, (cutS c t).length, by rw [List.length_map], by rw [List.length_map]; exact Nat.le_refl _, by unfold maxLen; omega, fun i u hi => ?_⟩, fun s hs => ?_⟩, (Below.refl _ _).alloc (Nat.le_refl _) _⟩
  · have h1 : (w.alloc (.cells ((cutS c t).map SV).toArray 9)).heap[w.heap.size]? = some (.cells ((cutS c t).map SV).toArray 9) := heap_alloc_new w _
    have h2 : ((⟨w.heap.size, 0, none⟩ : Addr).add i) = ⟨w.heap.size, i, none⟩ := by unfold Addr.add; split <;> simp_all
    rw [h2]
    show (w.alloc (.cells ((cutS c t).map SV).toArray 9)).cell? _ = _
    simp only [World.cell?, h1]
    simpa using hi
  · have := cutS_le c t s hs
    unfold maxLen; omega
def wsOf (s : ByteArray) : List ByteArray := if s = noneS then [] else cutS 44 s
def listOk (s : ByteArray) : Bool := (wsOf s).all valOk && decide ((wsOf s).length ≤ 64)
def valsK (s : ByteArray) (k : Nat) : List Int := ((wsOf s).take k).map valN
def rdV (s : ByteArray) : List Int := if listOk s = true then (wsOf s).map valN else []
theorem wsOf_le (s : ByteArray) : ∀ x ∈ wsOf s, x.size ≤ s.size := by
  unfold wsOf
  split
  · intro x h; cases h
  · exact cutS_le 44 s
theorem wsOf_cnt (s : ByteArray) : (wsOf s).length ≤ s.size + 1 := by
  unfold wsOf
  split
  · simp
  · exact cutS_cnt 44 s
theorem wsOf_at {s : ByteArray} {k : Nat} (h : k < (wsOf s).length) : ((wsOf s).getD k E0).size ≤ s.size := by
  rw [List.getD_eq_getElem?_getD, List.getElem?_eq_getElem h]
  exact wsOf_le s _ (List.getElem_mem _)
theorem valsK_succ (s : ByteArray) (k : Nat) (h : k < (wsOf s).length) : valsK s (k + 1) = valsK s k ++ [valN ((wsOf s).getD k E0)] := by
  unfold valsK
  rw [List.take_add_one, List.map_append, List.getElem?_eq_getElem h, List.getD_eq_getElem?_getD, List.getElem?_eq_getElem h]
  rfl
theorem valsK_all (s : ByteArray) : valsK s (wsOf s).length = (wsOf s).map valN := by unfold valsK; rw [List.take_length]
theorem listOk_bad {s : ByteArray} {k : Nat} (hk : k < (wsOf s).length) (h : valOk ((wsOf s).getD k E0) = false) : listOk s = false := by
  unfold listOk
  rw [Bool.and_eq_false_iff]
  left
  rw [List.all_eq_false]
  refine ⟨(wsOf s)[k], List.getElem_mem _, ?_⟩
  rw [List.getD_eq_getElem?_getD, List.getElem?_eq_getElem hk] at h
  simp only [Option.getD_some] at h
  rw [h]; simp
theorem listOk_all {s : ByteArray} (h : ∀ j, j < (wsOf s).length → valOk ((wsOf s).getD j E0) = true) : listOk s = decide ((wsOf s).length ≤ 64) := by
  unfold listOk
  rw [show (wsOf s).all valOk = true by
    rw [List.all_eq_true]
    intro x hx
    obtain ⟨i, hi, rfl⟩ := List.mem_iff_getElem.1 hx
    have := h i hi
    rwa [List.getD_eq_getElem?_getD, List.getElem?_eq_getElem hi] at this, Bool.true_and]
theorem valOk_in {s : ByteArray} (h : valOk s = true) : -1000000000000000 ≤ valN s ∧ valN s ≤ 1000000000000000 := by
  unfold valOk at h
  cases hv : valB s with
  | none => rw [hv] at h; cases h
  | some v =>
    have h1 := valB_some hv
    rw [(valN_some hv).1]
    exact ⟨h1.1, h1.2.1⟩
theorem vals_allIn {s : ByteArray} (h : ∀ j, j < (wsOf s).length → valOk ((wsOf s).getD j E0) = true) : allIn (-1000000000000000) 1000000000000000 ((wsOf s).map valN) = true := by
  refine allIn_true fun i hi => ?_
  rw [List.length_map] at hi
  have h1 := valOk_in (h i hi)
  rw [List.getD_eq_getElem?_getD, List.getElem?_eq_getElem hi] at h1
  rw [List.getD_eq_getElem?_getD, List.getElem?_map, List.getElem?_eq_getElem hi, inB_iff]
  exact h1
theorem wsOf_none : wsOf noneS = [] := by unfold wsOf; rw [if_pos rfl]
theorem wsOf_not {s : ByteArray} (h : s ≠ noneS) : wsOf s = cutS 44 s := by unfold wsOf; rw [if_neg h]
theorem rdV_ok {s : ByteArray} (h : listOk s = true) : rdV s = (wsOf s).map valN := by unfold rdV; rw [if_pos h]
theorem rdV_no {s : ByteArray} (h : listOk s = false) : rdV s = [] := by unfold rdV; rw [h]; rfl
theorem rdV_len {s : ByteArray} : (rdV s).length ≤ 64 := by
  unfold rdV
  split
  · rename_i h
    unfold listOk at h
    rw [Bool.and_eq_true, decide_eq_true_iff] at h
    rw [List.length_map]
    exact h.2
  · simp
end Go.Proofs.YtgkbbpajkbkgnaaGreatDoor

namespace Go.Proofs.YtgkbbpajkbkgnaaGreatDoor
open Go.RowKit
def fltOk (s : ByteArray) : Bool := (wsOf s).all hexOk && decide ((wsOf s).length ≤ 256)
def fltsK (s : ByteArray) (k : Nat) : List Nat := ((wsOf s).take k).map fun x => accH x 8
def fltV (s : ByteArray) : List Nat := if fltOk s = true then (wsOf s).map (fun x => accH x 8) else []
theorem fltsK_succ (s : ByteArray) (k : Nat) (h : k < (wsOf s).length) : fltsK s (k + 1) = fltsK s k ++ [accH ((wsOf s).getD k E0) 8] := by
  unfold fltsK
  rw [List.take_add_one, List.map_append, List.getElem?_eq_getElem h, List.getD_eq_getElem?_getD, List.getElem?_eq_getElem h]
  rfl
theorem fltsK_all (s : ByteArray) : fltsK s (wsOf s).length = (wsOf s).map (fun x => accH x 8) := by unfold fltsK; rw [List.take_length]
theorem fltOk_bad {s : ByteArray} {k : Nat} (hk : k < (wsOf s).length) (h : hexOk ((wsOf s).getD k E0) = false) : fltOk s = false := by
  unfold fltOk
  rw [Bool.and_eq_false_iff]
  left
  rw [List.all_eq_false]
  refine ⟨(wsOf s)[k], List.getElem_mem _, ?_⟩
  rw [List.getD_eq_getElem?_getD, List.getElem?_eq_getElem hk] at h
  simp only [Option.getD_some] at h
  rw [h]; simp
theorem fltOk_all {s : ByteArray} (h : ∀ j, j < (wsOf s).length → hexOk ((wsOf s).getD j E0) = true) (hl : (wsOf s).length ≤ 256) : fltOk s = true := by
  unfold fltOk
  rw [show (wsOf s).all hexOk = true by
    rw [List.all_eq_true]
    intro x hx
    obtain ⟨i, hi, rfl⟩ := List.mem_iff_getElem.1 hx
    have := h i hi
    rwa [List.getD_eq_getElem?_getD, List.getElem?_eq_getElem hi] at this, Bool.true_and]
  exact decide_eq_true hl
theorem fltOk_long {s : ByteArray} (h : 256 < (wsOf s).length) : fltOk s = false := by
  unfold fltOk
  rw [show decide ((wsOf s).length ≤ 256) = false from decide_eq_false (by omega), Bool.and_false]
theorem fltV_ok {s : ByteArray} (h : fltOk s = true) : fltV s = (wsOf s).map (fun x => accH x 8) := by unfold fltV; rw [if_pos h]
theorem fltV_no {s : ByteArray} (h : fltOk s = false) : fltV s = [] := by unfold fltV; rw [h]; rfl
end Go.Proofs.YtgkbbpajkbkgnaaGreatDoor

namespace Go.Proofs.YtgkbbpajkbkgnaaGreatDoor
open Go.RowKit
def rowsW (p0 p1 p2 p3 : ByteArray) : RowsD := ⟨valN p0, fltV p1, fltV p2, fltV p3⟩
noncomputable def rowsB (p0 p1 p2 p3 : ByteArray) : Bool := valOk p0 && (fltOk p1 && (fltOk p2 && (fltOk p3 && validR (rowsW p0 p1 p2 p3))))
noncomputable def rdrOk (s : ByteArray) : Bool := decide ((cutS 59 s).length = 4) && rowsB ((cutS 59 s).getD 0 E0) ((cutS 59 s).getD 1 E0) ((cutS 59 s).getD 2 E0) ((cutS 59 s).getD 3 E0)
noncomputable def rdrV (s : ByteArray) : RowsD := if rdrOk s = true then rowsW ((cutS 59 s).getD 0 E0) ((cutS 59 s).getD 1 E0) ((cutS 59 s).getD 2 E0) ((cutS 59 s).getD 3 E0) else zeroR
theorem rdr_short {s : ByteArray} (h : (cutS 59 s).length ≠ 4) : rdrOk s = false := by unfold rdrOk; rw [decide_eq_false h, Bool.false_and]
theorem rdr_four {s : ByteArray} (h : (cutS 59 s).length = 4) : rdrOk s = rowsB ((cutS 59 s).getD 0 E0) ((cutS 59 s).getD 1 E0) ((cutS 59 s).getD 2 E0) ((cutS 59 s).getD 3 E0) := by unfold rdrOk; rw [decide_eq_true h, Bool.true_and]
theorem rdrV_no {s : ByteArray} (h : rdrOk s = false) : rdrV s = zeroR := by unfold rdrV; rw [h]; rfl
theorem rdrV_yes {s : ByteArray} (h : rdrOk s = true) : rdrV s = rowsW ((cutS 59 s).getD 0 E0) ((cutS 59 s).getD 1 E0) ((cutS 59 s).getD 2 E0) ((cutS 59 s).getD 3 E0) := by unfold rdrV; rw [if_pos h]
theorem ownR_mk {w3 w4 w5 : World} {lo lo1 lo2 lo3 : Nat} {z : Int} {s1 s2 s3 : Value} {x1 x2 x3 : List Nat}
    (h1 : w3.ownsRow lo1 100 1 s1 x1.length (x1.map F32)) (l1 : lo ≤ lo1) (h2 : w4.ownsRow lo2 100 1 s2 x2.length (x2.map F32)) (l2 : w3.heap.size ≤ lo2) (h3 : w5.ownsRow lo3 100 1 s3 x3.length (x3.map F32)) (l3 : w4.heap.size ≤ lo3)
    (h34 : Below w3.heap.size w3 w4) (h45 : Below w4.heap.size w4 w5) (l4 : lo1 ≤ w3.heap.size) : OwnR lo w5.heap.size w5 (.agg #[.int .i64 z, s1, s2, s3]) ⟨z, x1, x2, x3⟩ := by
  have z34 := h34.size
  have z45 := h45.size
  refine ⟨s1, s2, s3, rfl, ⟨owns_base (owns_below (owns_below h1 h34 (Nat.le_refl _)) h45 (Nat.le_refl _)) l1, fun g hg => ?_⟩, ⟨owns_base (owns_below h2 h45 (Nat.le_refl _)) (by omega), fun g hg => ?_⟩, ⟨owns_base h3 (by omega), fun g hg => (h3.lt g hg).2⟩, fun g hg hg' => ?_, fun g hg hg' => ?_, fun g hg hg' => ?_⟩
  · have := (h1.lt g hg).2; omega
  · have := (h2.lt g hg).2; omega
  · have := (h1.lt g hg).2; have := (h2.lt g hg').1; omega
  · have := (h1.lt g hg).2; have := (h3.lt g hg').1; omega
  · have := (h2.lt g hg).2; have := (h3.lt g hg').1; omega
end Go.Proofs.YtgkbbpajkbkgnaaGreatDoor

namespace Go.Proofs.YtgkbbpajkbkgnaaGreatDoor
open Go.RowKit
def jobAt (xs : List Int) (i : Nat) : JobD := ⟨xs.getD (4 * i) 0, xs.getD (4 * i + 1) 0, xs.getD (4 * i + 2) 0, xs.getD (4 * i + 3) 0⟩
def jobsK (xs : List Int) (k : Nat) : List JobD := (List.range k).map (jobAt xs)
theorem jobsK_succ (xs : List Int) (k : Nat) : jobsK xs (k + 1) = jobsK xs k ++ [jobAt xs k] := by
  unfold jobsK
  rw [List.range_succ, List.map_append]
  rfl
theorem jobsK_len (xs : List Int) (k : Nat) : (jobsK xs k).length = k := by simp [jobsK]
theorem jobsC_snoc (js : List JobD) (j : JobD) : jobsC (js ++ [j]) = jobsC js ++ jobCells j := by simp [jobsC]
def rdjOk (s : ByteArray) : Bool := listOk s && (decide ((rdV s).length % 4 = 0) && areJobsB (jobsK (rdV s) ((rdV s).length / 4)))
def rdjV (s : ByteArray) : List JobD := if rdjOk s = true then jobsK (rdV s) ((rdV s).length / 4) else []
theorem rdj_bad {s : ByteArray} (h : listOk s = false) : rdjOk s = false := by unfold rdjOk; rw [h]; rfl
theorem rdj_odd {s : ByteArray} (h : (rdV s).length % 4 ≠ 0) : rdjOk s = false := by
  unfold rdjOk
  rw [decide_eq_false h, Bool.false_and, Bool.and_false]
theorem rdj_eq {s : ByteArray} (h : listOk s = true) (h4 : (rdV s).length % 4 = 0) : rdjOk s = areJobsB (jobsK (rdV s) ((rdV s).length / 4)) := by
  unfold rdjOk
  rw [h, decide_eq_true h4, Bool.true_and, Bool.true_and]
theorem rdjV_no {s : ByteArray} (h : rdjOk s = false) : rdjV s = [] := by unfold rdjV; rw [h]; rfl
theorem rdjV_yes {s : ByteArray} (h : rdjOk s = true) : rdjV s = jobsK (rdV s) ((rdV s).length / 4) := by unfold rdjV; rw [if_pos h]
theorem ownJ_nil (w : World) (base : Nat) : w.ownsRow base 86 4 (.slice none 0 0) 0 (jobsC []) := ⟨rfl, .inl ⟨rfl, rfl⟩⟩
theorem ownJ_empty (w : World) (b : Nat) (hb : b = w.heap.size) : (w.alloc (.cells #[] 86)).ownsRow w.heap.size 86 4 (.slice (some ⟨b, 0, none⟩) 0 0) 0 (jobsC []) := by
  subst hb
  exact World.ownsRow_lit (base := w.heap.size) (e := 86) (size := 4) w #[] 0 (Nat.le_refl _) (by simp [maxLen]) rfl
theorem owns4_shape {w : World} {base n : Nat} {v : Value} {vs : List Value} (h : w.ownsRow base 86 4 v n vs) : ∃ a cap, v = .slice a n cap := by
  rcases h.2 with ⟨rfl, e⟩ | ⟨g, cap, cur, rfl, _⟩
  · subst e
    exact ⟨none, 0, rfl⟩
  · exact ⟨_, _, rfl⟩
theorem belowK_grown {w w' : World} {base n size : Nat} {e : TypeId} {v : Value} {vs : List Value} (h : w.ownsRow base e size v n vs) (hbase : base ≤ w.heap.size) (hg : w.grownBy w' v.ownBlock) : Below base w w' :=
  ⟨hg.os, hg.tape, hg.output, hg.size, fun k hk => hg.block k (by omega) fun e => by
    have := (h.lt k e.symm).1
    omega⟩
theorem step_app_job {w : World} {ops : Array Oper} {o : Oper} {a : Act} {K : Act → World → Prop} {Q : Exit → Act → World → Prop} {E : Prop} (hgd : o.guard = none) (s x : Operand)
    (ho : o.op = .call { callee := .builtin .append, args := #[s, x], argTypes := #[28, 28] })
    (base : Nat) (v : Value) (n : Nat) (js : List JobD) (hs : a.eval s = v) (hown : w.ownsRow base 86 4 v n (jobsC js))
    (j : JobD) (b : Nat) (hblk : Blk w b 86 #[.int .i64 j.long, .int .i64 j.due, .int .i64 j.weight, .int .i64 j.ready]) (hx : a.eval x = .slice (some ⟨b, 0, none⟩) 1 1)
    (m : Nat) (ys : List JobD) (hm : m = n + 1) (hys : ys = js ++ [j]) (hlen : n ≤ 1048576) (hbase : base ≤ w.heap.size)
    (h : ∀ a' cap' w', w'.ownsRow base 86 4 (.slice a' m cap') m (jobsC ys) → Below base w w' → K (a.put o.dst (.slice a' m cap')) w') :
    if Region.wanted o (yielded ops a.tmps) = true then Oper.wp Tryz.prog o a w K Q else E := by
  have hwt : Region.wanted o (yielded ops a.tmps) = true := by simp [Region.wanted, hgd]
  rw [if_pos hwt]
  subst hm hys
  obtain ⟨i0, hi, hz0, hz1, hz2⟩ := info_parts Tryz.infoJob
  have hc : ∀ t u, (jobCells j)[t]? = some u → w.cell? ((⟨b, 0, none⟩ : Addr).add t) = some u := by
    intro t u ht
    have h1 : w.heap[b]? = some (.cells #[.int .i64 j.long, .int .i64 j.due, .int .i64 j.weight, .int .i64 j.ready] 86) := hblk
    have h2 : ((⟨b, 0, none⟩ : Addr).add t) = ⟨b, t, none⟩ := by unfold Addr.add; split <;> simp_all
    rw [h2]
    simp only [World.cell?, h1]
    simpa [jobCells, I64] using ht
  obtain ⟨v', w', hr, h2, h3, _, h5⟩ := run_append_own_at (P := Tryz.prog) w base 28 o.type 86 i0 (.agg #[.int .i64 0, .int .i64 0, .int .i64 0, .int .i64 0]) 4 32 Tryz.underlying28 hi hz0 hz1 hz2 rfl (by decide) v n (jobsC js) hown ⟨b, 0, none⟩ 1 1 (jobCells j) rfl hc (by intro y hy; simp only [jobCells, List.mem_cons, List.not_mem_nil, or_false] at hy; rcases hy with rfl | rfl | rfl | rfl <;> rfl) (by unfold maxLen; omega) (by omega) hbase
  obtain ⟨a', cap', rfl⟩ := owns4_shape h2
  unfold Oper.wp execOp
  simp only [ho, resolve, invoke, builtin, Sem.run_bind, Sem.run_pure, Result.andThen_ok, List.map_toArray, List.map_cons, List.map_nil, hs, hx, hr]
  refine h a' cap' w' ?_ (belowK_grown hown hbase h3)
  rw [jobsC_snoc]
  exact h2
end Go.Proofs.YtgkbbpajkbkgnaaGreatDoor

namespace Go.Proofs.YtgkbbpajkbkgnaaGreatDoor
open Go.RowKit
def wordC (b : UInt8) : Prop := (48 ≤ b.toNat ∧ b.toNat ≤ 57) ∨ (97 ≤ b.toNat ∧ b.toNat ≤ 102)
def WordB (x : ByteArray) : Prop := 1 ≤ x.size ∧ ∀ b ∈ x.data.toList, wordC b
theorem word_dec (n : Nat) : WordB (decS n) := by
  refine ⟨decS_pos n, fun b hb => .inl ?_⟩
  have : b ∈ Lib.decDigits n := by simpa [decS] using hb
  exact decDigits_mem n b this
theorem dig16_rng : ∀ d, d < 16 → (48 ≤ dig16 d ∧ dig16 d ≤ 57) ∨ (97 ≤ dig16 d ∧ dig16 d ≤ 102) := by decide +kernel
theorem byteD_nat (n i : Nat) : (byteD n i).toNat = dig16 (n / 2 ^ i % 16) := by
  have hd := dig16_lt _ (Nat.mod_lt (n / 2 ^ i) (show 0 < 16 by omega))
  unfold byteD
  rw [UInt8.toNat_ofNat', Nat.mod_eq_of_lt (by omega)]
theorem word_byteD (n i : Nat) : wordC (byteD n i) := by
  unfold wordC
  rw [byteD_nat]
  exact dig16_rng _ (Nat.mod_lt _ (by omega))
theorem word_hex (n : Nat) : WordB (hexS n) := by
  refine ⟨by rw [hexS_size]; omega, fun b hb => ?_⟩
  rw [hexS_list] at hb
  simp only [List.mem_cons, List.not_mem_nil, or_false] at hb
  rcases hb with rfl | rfl | rfl | rfl | rfl | rfl | rfl | rfl <;> exact word_byteD _ _
theorem words_dec (xs : List Int) : ∀ x ∈ wordsN xs, WordB x := by
  intro x hx
  unfold wordsN at hx
  rw [List.mem_map] at hx
  obtain ⟨z, _, rfl⟩ := hx
  exact word_dec _
theorem words_hex (xs : List Nat) : ∀ x ∈ wordsF xs, WordB x := by
  intro x hx
  unfold wordsF at hx
  rw [List.mem_map] at hx
  obtain ⟨z, _, rfl⟩ := hx
  exact word_hex _
theorem joinBy_list (c : UInt8) (x : ByteArray) (r : List ByteArray) : (joinBy c (x :: r)).data.toList = x.data.toList ++ Lib.joinTail [c] (r.map (·.data.toList)) := by
  unfold joinBy
  show ((Lib.join ((x :: r).map (·.data.toList)) [c]).toArray).toList = _
  rw [List.toList_toArray, List.map_cons, Lib.join_cons]
theorem joinTail_mem {c d : UInt8} : ∀ {l : List (List UInt8)}, d ∈ Lib.joinTail [c] l → d = c ∨ ∃ y ∈ l, d ∈ y := by
  intro l h
  unfold Lib.joinTail at h
  rw [List.mem_flatten] at h
  obtain ⟨y, hy, hd⟩ := h
  rw [List.mem_map] at hy
  obtain ⟨z, hz, rfl⟩ := hy
  simp only [List.singleton_append, List.mem_cons] at hd
  rcases hd with rfl | hd
  · exact .inl rfl
  · exact .inr ⟨z, hz, hd⟩
theorem joinBy_mem {c d : UInt8} {ws : List ByteArray} (h : d ∈ (joinBy c ws).data.toList) : d = c ∨ ∃ y ∈ ws, d ∈ y.data.toList := by
  cases ws with
  | nil =>
    unfold joinBy at h
    simp [Lib.join_nil] at h
  | cons x r =>
    rw [joinBy_list, List.mem_append] at h
    rcases h with h | h
    · exact .inr ⟨x, by simp, h⟩
    · rcases joinTail_mem h with h | ⟨y, hy, hd⟩
      · exact .inl h
      · rw [List.mem_map] at hy
        obtain ⟨z, hz, rfl⟩ := hy
        exact .inr ⟨z, by simp [hz], hd⟩
end Go.Proofs.YtgkbbpajkbkgnaaGreatDoor
