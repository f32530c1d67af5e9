/-
  FnJournal: texts joined: LateI, LateA, LfI, LsM.
-/
import Derived.Lib.MinMax
import Derived.Deep.CutRange
import Derived.Deep.RegionHeld3
import Derived.Test.YtgkbbpajkbkgnaaGreatDoorMFnJournalAP
import Derived.Test.YtgkbbpajkbkgnaaGreatDoorMFnJournalAQ
import Derived.Test.YtgkbbpajkbkgnaaGreatDoorMFnJournalAS
import Derived.Test.YtgkbbpajkbkgnaaGreatDoorMFnJournalAV
set_option linter.unusedVariables false
set_option linter.unusedSimpArgs false
namespace Go.Proofs.YtgkbbpajkbkgnaaGreatDoor
open Go.RowKit
theorem run_make_intN (n : Nat) (hn : n ≤ 100000) (W : World) : (Instr.makeSlice 109 (.int .i64 n) (.int .i64 n)).run Tryz.prog W = .ok (.slice (some ⟨W.heap.size, 0, none⟩) n n) (W.alloc (.cells (zerosA n) 3)) := by
  have hi : Tryz.prog.info? 3 = some Tryz.t3 := by kernel_rfl
  have h := run_makeSlice (P := Tryz.prog) W 109 3 Tryz.t3 (.int .i64 0) (by kernel_rfl) hi (by kernel_rfl) .i64 .i64 n n (by omega) (Int.le_refl _) (by rw [show Tryz.t3.size = 1 by kernel_rfl]; omega) (by rw [show Tryz.t3.bytes = 8 by kernel_rfl]; omega) (by omega)
  rw [h, show Tryz.t3.size = 1 by kernel_rfl]
  simp [zerosA]
theorem owns_zerosN (n : Nat) (hn : n ≤ 100000) (W : World) (b : Nat) (hb : b = W.heap.size) : (W.alloc (.cells (zerosA n) 3)).ownsRow W.heap.size 3 1 (.slice (some ⟨b, 0, none⟩) n n) n ((List.replicate n (0 : Int)).map I64) := by
  subst hb
  rw [← zerosA_list]
  have hs : (zerosA n).size = n := by rw [← Array.length_toList, zerosA_list]; simp
  exact World.ownsRow_lit (base := W.heap.size) (e := 3) (size := 1) W (zerosA n) n (Nat.le_refl _) (by simp [maxLen]; omega) (by rw [hs]; omega)
def fstL (t : List (Int × Nat)) : List Int := t.map fun p => p.1
def sndL (t : List (Int × Nat)) : List Int := t.map fun p => (p.2 : Int)
theorem fstL_len (t : List (Int × Nat)) : (fstL t).length = t.length := by simp [fstL]
theorem sndL_len (t : List (Int × Nat)) : (sndL t).length = t.length := by simp [sndL]
theorem fstL_at (t : List (Int × Nat)) (k : Nat) : (fstL t).getD k 0 = (t.getD k (0, 0)).1 := by
  unfold fstL
  rw [List.getD_eq_getElem?_getD, List.getElem?_map, List.getD_eq_getElem?_getD]
  cases t[k]? <;> rfl
theorem sndL_at (t : List (Int × Nat)) (k : Nat) : (sndL t).getD k 0 = ((t.getD k (0, 0)).2 : Int) := by
  unfold sndL
  rw [List.getD_eq_getElem?_getD, List.getElem?_map, List.getD_eq_getElem?_getD]
  cases t[k]? <;> rfl
theorem fstL_snoc (t : List (Int × Nat)) (p : Int × Nat) : fstL (t ++ [p]) = fstL t ++ [p.1] := by simp [fstL]
theorem sndL_snoc (t : List (Int × Nat)) (p : Int × Nat) : sndL (t ++ [p]) = sndL t ++ [(p.2 : Int)] := by simp [sndL]
theorem jobs_any {js : List JobD} (h : areJobsB js = true) (i : Nat) : (0 ≤ (js.getD i J0).long ∧ (js.getD i J0).long ≤ 1000) ∧ (0 ≤ (js.getD i J0).due ∧ (js.getD i J0).due ≤ 100000) ∧ 0 ≤ (js.getD i J0).weight ∧ (js.getD i J0).weight ≤ 1000 := by
  by_cases hi : i < js.length
  · have := (jobs_all h).2.2 i hi; omega
  · rw [List.getD_eq_getElem?_getD, List.getElem?_eq_none (by omega)]
    decide
theorem pre_at (F : List Int) (v : Int) (m t : Nat) (ht : t < F.length) : (F ++ v :: List.replicate m 0)[t]? = some (F.getD t 0) := by
  rw [List.getElem?_append_left ht, List.getD_eq_getElem?_getD, List.getElem?_eq_getElem ht]
  rfl
theorem mid_at (F : List Int) (v : Int) (m : Nat) : (F ++ v :: List.replicate m 0)[F.length]? = some v := by
  rw [List.getElem?_append_right (Nat.le_refl _), Nat.sub_self]
  rfl
theorem mid_set (F : List Int) (v x : Int) (m : Nat) : (F ++ v :: List.replicate m 0).set F.length x = F ++ x :: List.replicate m 0 := by
  rw [List.set_append_right _ _ (Nat.le_refl _), Nat.sub_self]
  rfl
set_option maxHeartbeats 4000000 in
set_option maxRecDepth 8000 in
theorem lateYes_any (v : Value) (js : List JobD) (w : World) (h : RdJ w v js) (hok : areJobsB js = true) :
    Calls Tryz.prog 23 #[v] w fun e w' => ∃ u, e = .returned (.tuple #[u, .int .i64 ((ltab js (2 ^ js.length)).getD (2 ^ js.length - 1) (0, 0)).1, .bool true]) ∧ OwnI w.heap.size w'.heap.size w' u (idxs (ordLate js)) ∧ Below w.heap.size w w' := by
  obtain ⟨va, vc, rfl⟩ := h.shape
  obtain ⟨hn1, hn2, hjf⟩ := jobs_all hok
  have HA := Lib.hid (AreJobs_any _ js w h)
  rw [hok] at HA
  have HR := Lib.hid h
  have HJA := Lib.hid (jobs_any hok)
  have HLN := Lib.hid (ltab_len js)
  have HRG := Lib.hid (ltab_rng (js := js) (fun i => (jobs_any hok i).1) (fun i => ⟨(jobs_any hok i).2.1.1, (jobs_any hok i).2.2⟩))
  have HNX := Lib.hid (fun s => show ltab js (s + 1) = ltab js s ++ [lateAt js (ltab js s) s] from rfl)
  have HT1 := Lib.hid (show ltab js 1 = [(0, 0)] from rfl)
  obtain ⟨n, hn⟩ : ∃ n, n = js.length := ⟨_, rfl⟩
  have HN := Lib.hid hn.symm
  rw [← hn] at HA HR hn1 hn2 ⊢
  obtain ⟨T, hT⟩ : ∃ T, T = 2 ^ n := ⟨_, rfl⟩
  have hT2 : 2 ≤ T := by rw [hT]; exact Nat.pow_le_pow_right (show 0 < 2 by omega) hn1
  have hT4 : T ≤ 4096 := by rw [hT]; exact Nat.pow_le_pow_right (show 0 < 2 by omega) hn2
  have HTN := Lib.hid hT
  have HLA := Lib.hid (fun s (h0 : 1 ≤ s) (h1 : s < T) => ltab_last js h0 (by omega) T h1)
  obtain ⟨A, hA⟩ : ∃ A, T = A + 1 := ⟨T - 1, by omega⟩
  have hsl : IntKind.i64.wrap ((2 : Int) ^ n) = (T : Int) := by
    rw [show ((2 : Int) ^ n) = (T : Int) by rw [hT]; push_cast; rfl]
    exact IntWalk.i64_in _ (by omega)
  have hs1 : IntKind.i64.wrap ((T : Int) - 1) = (A : Int) := by rw [IntWalk.i64_in _ (by omega)]; omega
  have hs2 : IntKind.i64.wrap ((A : Int) + 1) = (T : Int) := by rw [IntWalk.i64_in _ (by omega)]; omega
  have hmk1 := run_make_ints T (by omega)
  have hmk2 := run_make_intN T (by omega)
  obtain ⟨tb, htb⟩ : ∃ tb, tb = ltab js := ⟨_, rfl⟩
  have HOD := Lib.hid (show ordLate js = (backK (tb T) A A).reverse by unfold ordLate; rw [htb, hT, hn, show 2 ^ js.length - 1 = A by rw [← hn, ← hT]; omega])
  have HVL := Lib.hid (show ((ltab js (2 ^ n)).getD (2 ^ n - 1) (0, 0)).1 = ((tb T).getD A (0, 0)).1 by rw [htb, ← hT, show T - 1 = A by omega])
  rw [← htb] at HLN HRG HNX HT1 HLA
  rw [HVL.out]
  have hA1 : A + 1 ≤ T := by omega
  have hA2 : T ≤ A + 1 := by omega
  clear h hok hjf hn hT htb hA
  go_enter Tryz.func23, Tryz.ntmps23
  go_upto_region 4 with (go_at_call 51; refine HA.out.mono ?_; rintro e w0 ⟨rfl, hb0⟩)
  have HB0 := Lib.hid hb0
  have hz0 := HB0.out.size
  clear hb0 HA
  go_cut [6, 7] from 25 to 31 (fun gv hv wx => ∃ g h : Nat, gv = .slice (some ⟨g, 0, none⟩) T T ∧ hv = .slice (some ⟨h, 0, none⟩) T T ∧ g ≠ h ∧ Hid (wx.ownsRow w.heap.size 2 1 (.slice (some ⟨g, 0, none⟩) T T) T ((List.replicate T (0 : Int)).map I64)) ∧ Hid (wx.ownsRow w.heap.size 3 1 (.slice (some ⟨h, 0, none⟩) T T) T ((List.replicate T (0 : Int)).map I64)) ∧ Hid (Below w.heap.size w wx))
  case first =>
    go_region_law (fail)
    all_goals
      go_wp2_with fail
      go_meet
    case rel =>
      refine ⟨w0.heap.size, w0.heap.size + 1, rfl, rfl, by omega, ?_, ?_, Lib.hid (((HB0.out.alloc hz0 _).alloc (by simp; omega) _).drew)⟩
      · exact Lib.hid (owns_drew ((owns_base (owns_zerosI T (by omega) w0 _ rfl) hz0).alloc _))
      · exact Lib.hid (owns_drew (owns_base (owns_zerosN T (by omega) _ _ (by simp)) (by simp; omega)))
    case rel =>
      refine ⟨w0.heap.size + 1, w0.heap.size, rfl, rfl, by omega, ?_, ?_, Lib.hid (((HB0.out.alloc hz0 _).alloc (by simp; omega) _).drew)⟩
      · exact Lib.hid (owns_drew (owns_base (owns_zerosI T (by omega) _ _ (by simp)) (by simp; omega)))
      · exact Lib.hid (owns_drew ((owns_base (owns_zerosN T (by omega) w0 _ rfl) hz0).alloc _))
  case rest =>
    obtain ⟨g, h, rfl, rfl, hgh, HG, HH, HB⟩ := hcut
    have hg1 : w.heap.size ≤ g := (HG.out.lt g rfl).1
    have hh1 : w.heap.size ≤ h := (HH.out.lt h rfl).1
    clear hmk1 hmk2 hsl hs1 hs2
    go_wp2_with fail
    go_loopw [8] (fun sv wr => ∃ s : Nat, sv = .int .i64 s ∧ 1 ≤ s ∧ s ≤ T ∧ Hid (wr.ownsRow w.heap.size 2 1 (.slice (some ⟨g, 0, none⟩) T T) T ((fstL (tb s) ++ List.replicate (T - s) 0).map I64)) ∧ Hid (wr.ownsRow w.heap.size 3 1 (.slice (some ⟨h, 0, none⟩) T T) T ((sndL (tb s) ++ List.replicate (T - s) 0).map I64)) ∧ Hid (Below w.heap.size w wr)) (fun sv _ => T + 1 - (intOf sv).toNat)
    case atStart =>
      refine ⟨1, rfl, Nat.le_refl _, by omega, ?_, ?_, HB⟩
      · rw [HT1.out, show (fstL [((0 : Int), (0 : Nat))] ++ List.replicate (T - 1) (0 : Int)) = List.replicate T 0 by rw [show T = (T - 1) + 1 by omega]; rfl]
        exact HG
      · rw [HT1.out, show (sndL [((0 : Int), (0 : Nat))] ++ List.replicate (T - 1) (0 : Int)) = List.replicate T 0 by rw [show T = (T - 1) + 1 by omega]; rfl]
        exact HH
    case round =>
      obtain ⟨s, rfl, hs1, hsT, HG, HH, HB⟩ := hrel
      obtain ⟨wo, rfl⟩ : ∃ wo, wo = wr := ⟨wr, rfl⟩
      by_cases hlt : s < T
      · have hltI : (s : Int) ≤ (A : Int) := by omega
        have HDG := Lib.hid (digI_any s (by omega) wo)
        have HLT := Lib.hid (fun i (hi : i ∈ digN s) => dig_lt (s := s) (n := n) (by rw [← HTN.out]; exact hlt) hi)
        have HBT := Lib.hid (fun i (hi : i ∈ digN s) => dig_bit s 20 i hi)
        have HDL := Lib.hid (show (digN s).length ≤ 20 from digK_len s 20)
        have HAT := Lib.hid (show lateAt js (tb s) s = lateO js (tb s) s (digN s) (endK js (digN s) (digN s).length) (digN s).length from rfl)
        have hzo := HB.out.size
        obtain ⟨L, hL⟩ : ∃ L, L = digN s := ⟨_, rfl⟩
        rw [← hL] at HDG HLT HBT HDL HAT
        clear hL
        have HER := Lib.hid (fun k => endK_rng (js := js) (fun i => (HJA.out i).1) L k)
        obtain ⟨m, hm⟩ : ∃ m, m = L.length := ⟨_, rfl⟩
        have HM := Lib.hid hm.symm
        have hml : (idxs L).length = m := by rw [idxs_len, hm]
        rw [← hm] at HDL HAT
        have hm20 : m ≤ 20 := HDL.out
        have HIX := Lib.hid (fun k (hk : k < m) => show (idxs L).getD k 0 = (L.getD k 0 : Nat) ∧ L.getD k 0 ∈ L by
          have hkl : k < L.length := by omega
          refine ⟨?_, by rw [List.getD_eq_getElem?_getD, List.getElem?_eq_getElem hkl]; exact List.getElem_mem _⟩
          unfold idxs
          rw [List.getD_eq_getElem?_getD, List.getElem?_map, List.getD_eq_getElem?_getD, List.getElem?_eq_getElem hkl]
          rfl)
        clear hm
        go_upto_region 10 with (go_at_call 69; refine HDG.out.mono ?_; rintro e w1 ⟨u, rfl, ho, hb1⟩; obtain ⟨ua, uc, rfl⟩ := ho.rd.shape)
        rw [hml] at ho
        have HU := Lib.hid ho.rd
        have HB1 := Lib.hid (HB.out.trans (hb1.mono hzo))
        have HG1 := Lib.hid (owns_below HG.out hb1 (Nat.le_refl _))
        have HH1 := Lib.hid (owns_below HH.out hb1 (Nat.le_refl _))
        have HUG := Lib.hid (fun x (hx : (Value.slice ua m uc).ownBlock = some x) => (show wo.heap.size ≤ x from (owns_lt ho.1 hx).1))
        have hgz : g < wo.heap.size := (HG.out.lt g rfl).2
        have hhz : h < wo.heap.size := (HH.out.lt h rfl).2
        have HOU := Lib.hid ho.1
        clear ho hb1 HDG
        go_wp2_with fail
        go_loopw [9, 40] (fun ev kv wr => ∃ k : Nat, kv = .int .i64 k ∧ k ≤ m ∧ ev = .int .i64 (endK js L k) ∧ w1 = wr) (fun _ kv _ => m + 1 - (intOf kv).toNat)
        case atStart => exact ⟨0, rfl, Nat.zero_le _, rfl, rfl⟩
        case round =>
          obtain ⟨k, rfl, hk, rfl, rfl⟩ := hrel
          by_cases hkm : k < m
          · have hkI : (k : Int) < (m : Int) := by omega
            obtain ⟨ub, uo, rfl, _, cu⟩ := HU.out.at (i := k) (by rw [hml]; exact hkm)
            obtain ⟨hx1, hx2⟩ := HIX.out k hkm
            rw [hx1] at cu
            have hin := HLT.out _ hx2
            have hE : endK js L (k + 1) = endK js L k + (js.getD (L.getD k 0) J0).long := rfl
            have her := HER.out k
            obtain ⟨i, hi⟩ : ∃ i, i = L.getD k 0 := ⟨_, rfl⟩
            rw [← hi] at cu hin hE
            obtain ⟨jb, jo, rfl, _, cj, _⟩ := (HR.out.up HB1.out (Nat.le_refl _)).at (i := i) (by rw [HN.out]; exact hin)
            have hl := (HJA.out i).1
            obtain ⟨l, hl'⟩ : ∃ l, l = (js.getD i J0).long := ⟨_, rfl⟩
            rw [← hl'] at cj hE hl
            have hinI : (i : Int) < (n : Int) := by omega
            obtain ⟨E, hEE⟩ : ∃ E, E = endK js L k := ⟨_, rfl⟩
            rw [← hEE] at hE her ⊢
            have hadd : IntKind.i64.wrap (E + l) = E + l := IntWalk.i64_in _ (by omega)
            have HE := Lib.hid hE
            clear hi hl' hEE hE hx1 hx2
            go_wp2_with fail
            go_roundw
            case rel => exact ⟨k + 1, by go_num, by omega, by rw [HE.out], by first | rfl | trivial⟩
            case measure => simp [intOf]; omega
          · obtain rfl : k = m := by omega
            have hEr := HER.out k
            obtain ⟨E, hE⟩ : ∃ E, E = endK js L k := ⟨_, rfl⟩
            rw [← hE] at HAT hEr ⊢
            clear hE
            obtain ⟨Z, hZ⟩ : ∃ Z, Z = T - s - 1 := ⟨_, rfl⟩
            have hZ1 : T - s = Z + 1 := by omega
            have HFL := Lib.hid (show (fstL (tb s)).length = s by rw [fstL_len, HLN.out])
            have HSL := Lib.hid (show (sndL (tb s)).length = s by rw [sndL_len, HLN.out])
            have HFA := Lib.hid (fun t => fstL_at (tb s) t)
            have HRS := Lib.hid (fun t => HRG.out s t)
            obtain ⟨F, hF⟩ : ∃ F, F = fstL (tb s) := ⟨_, rfl⟩
            obtain ⟨S, hS⟩ : ∃ S, S = sndL (tb s) := ⟨_, rfl⟩
            have HFE := Lib.hid hF
            have HSE := Lib.hid hS
            rw [← hF, hZ1] at HG1
            rw [← hS, hZ1] at HH1
            rw [← hF] at HFL HFA
            rw [← hS] at HSL
            have HL0 := Lib.hid (show lateO js (tb s) s L E 0 = (0, 0) from rfl)
            have HLK := Lib.hid (fun k => show lateO js (tb s) s L E (k + 1) = if k = 0 ∨ costL js (tb s) s E (L.getD k 0) < (lateO js (tb s) s L E k).1 then (costL js (tb s) s E (L.getD k 0), L.getD k 0) else lateO js (tb s) s L E k from rfl)
            obtain ⟨O, hO⟩ : ∃ O, O = lateO js (tb s) s L E := ⟨_, rfl⟩
            rw [← hO] at HL0 HLK HAT
            have HZ := Lib.hid hZ1
            clear hF hS hO hZ hZ1 HG HH
            go_wp2_with fail
            go_loopw [54] (fun kv wr => ∃ j : Nat, kv = .int .i64 j ∧ j ≤ k ∧ Hid (wr.ownsRow w.heap.size 2 1 (.slice (some ⟨g, 0, none⟩) T T) T ((F ++ (O j).1 :: List.replicate Z 0).map I64)) ∧ Hid (wr.ownsRow w.heap.size 3 1 (.slice (some ⟨h, 0, none⟩) T T) T ((S ++ ((O j).2 : Int) :: List.replicate Z 0).map I64)) ∧ Hid (Kept (fun b => b = g ∨ b = h) w1 wr)) (fun kv _ => k + 1 - (intOf kv).toNat)
            case atStart => exact ⟨0, rfl, Nat.zero_le _, by rw [HL0.out]; exact HG1, by rw [HL0.out]; exact HH1, Lib.hid (Kept.refl _ _)⟩
            case round =>
              obtain ⟨j, rfl, hj, HG, HH, HK⟩ := hrel
              obtain ⟨wj, rfl⟩ : ∃ wj, wj = wr := ⟨wr, rfl⟩
              have HBj := Lib.hid (HB1.out.trans (HK.out.toBelow HB1.out.size (by rintro x hx (e | e) <;> omega)))
              have HUj := Lib.hid (slc_of_owns (owns_kept HOU.out HK.out (fun x e1 e2 => by have := HUG.out x e1; rcases e2 with e2 | e2 <;> omega)))
              by_cases hjk : j < k
              · have hjI : (j : Int) < (k : Int) := by omega
                obtain ⟨ub, uo, rfl, _, cu⟩ := (show RdI wj _ (idxs L) from HUj.out).at (i := j) (by rw [hml]; exact hjk)
                obtain ⟨hx1, hx2⟩ := HIX.out j hjk
                rw [hx1] at cu
                have hin := HLT.out _ hx2
                have hbt := HBT.out _ hx2
                have hO := HLK.out j
                obtain ⟨i, hi⟩ : ∃ i, i = L.getD j 0 := ⟨_, rfl⟩
                rw [← hi] at cu hin hbt hO
                have hps := bit_le hbt
                have han0 := andNot_bit s (by omega) i (by omega) hbt
                obtain ⟨p, hp⟩ : ∃ p, p = 2 ^ i := ⟨_, rfl⟩
                have hpI : (2 : Int) ^ i = (p : Int) := by rw [hp]; push_cast; rfl
                rw [← hp] at hps han0
                have hsl : IntKind.i64.wrap ((2 : Int) ^ i) = (p : Int) := by rw [hpI]; exact IntWalk.i64_in _ (by omega)
                obtain ⟨d, hd⟩ : ∃ d, d = s - p := ⟨_, rfl⟩
                have hp0 : 0 < p := by rw [hp]; exact Nat.pow_pos (by omega)
                have han : bits .andNot .i64 (s : Int) (p : Int) = (d : Int) := by rw [i64_andNot_nat s p (by omega) (by omega), han0, hd]
                have hds : d < s := by omega
                have hdTI : (d : Int) < (T : Int) := by omega
                have hsTI : (s : Int) < (T : Int) := by omega
                have hcl : costL js (tb s) s E i = ((tb s).getD d (0, 0)).1 + (js.getD i J0).weight * max 0 (E - (js.getD i J0).due) := by rw [hd, hp]; rfl
                have hrs := HRS.out d
                have hfa := HFA.out d
                have hja := HJA.out i
                have hlr := late_rng (js := js) (fun i => ⟨(HJA.out i).2.1.1, (HJA.out i).2.2⟩) (E := E) (by omega) i
                obtain ⟨a0, ha0⟩ : ∃ a, a = ((tb s).getD d (0, 0)).1 := ⟨_, rfl⟩
                rw [← ha0] at hrs hfa hcl
                obtain ⟨jb, jo, rfl, _, _, cj1, cj2, _⟩ := (HR.out.up HBj.out (Nat.le_refl _)).at (i := i) (by rw [HN.out]; exact hin)
                obtain ⟨g0, hg0⟩ : ∃ a, a = (js.getD i J0).weight := ⟨_, rfl⟩
                obtain ⟨d0, hd0⟩ : ∃ a, a = (js.getD i J0).due := ⟨_, rfl⟩
                rw [← hg0] at cj2 hcl hlr hja
                rw [← hd0] at cj1 hcl hlr hja
                have hsub : IntKind.i64.wrap (E - d0) = E - d0 := IntWalk.i64_in _ (by omega)
                obtain ⟨q0, hq0⟩ : ∃ q, q = g0 * max 0 (E - d0) := ⟨_, rfl⟩
                rw [← hq0] at hcl hlr
                have hmul : IntKind.i64.wrap (g0 * max 0 (E - d0)) = q0 := by rw [← hq0]; exact IntWalk.i64_in _ (by omega)
                obtain ⟨c, hc⟩ : ∃ c, c = costL js (tb s) s E i := ⟨_, rfl⟩
                rw [← hc] at hcl hO
                have hadd : IntKind.i64.wrap (a0 + q0) = c := by rw [hcl]; exact IntWalk.i64_in _ (by omega)
                have c1 : wj.cell? ⟨g, d, none⟩ = some (.int .i64 a0) := by
                  rw [HG.out.cellAt d (by omega), List.getElem?_map, pre_at F _ Z d (by rw [HFL.out]; exact hds), hfa]
                  rfl
                obtain ⟨⟨b, la⟩, hbl⟩ : ∃ b, b = O j := ⟨_, rfl⟩
                rw [← hbl] at HG HH hO
                simp only at HG HH hO
                have c2 : wj.cell? ⟨g, s, none⟩ = some (.int .i64 b) := by
                  have := mid_at F b Z
                  rw [HFL.out] at this
                  rw [HG.out.cellAt s (by omega), List.getElem?_map, this]
                  rfl
                have c3 : wj.cell? ⟨h, s, none⟩ = some (.int .i64 la) := by
                  have := mid_at S (la : Int) Z
                  rw [HSL.out] at this
                  rw [HH.out.cellAt s (by omega), List.getElem?_map, this]
                  rfl
                have f2 := HG.out.frozenAt s
                have f3 := HH.out.frozenAt s
                have HS1 := Lib.hid (fun (X : World) (hX : ∃ n, X = wj.drewN n) (i' : Nat) => show ((X.setCell ⟨g, s, none⟩ (.int .i64 c)).setCell ⟨h, s, none⟩ (.int .i64 i')).ownsRow w.heap.size 2 1 (.slice (some ⟨g, 0, none⟩) T T) T ((F ++ c :: List.replicate Z 0).map I64) by
                  obtain ⟨n', rfl⟩ := hX
                  have e := mid_set F b c Z
                  rw [HFL.out] at e
                  rw [← e, List.map_set]
                  exact owns_kept ((show (wj.drewN n').ownsRow w.heap.size 2 1 (.slice (some ⟨g, 0, none⟩) T T) T ((F ++ b :: List.replicate Z 0).map I64) from HG.out).stored s (.int .i64 c)).1 (Kept.setCell (S := (· = h)) (Kept.refl _ _) (.inr rfl) _) (fun x e1 e2 => hgh (by have : g = x := Option.some.inj e1; omega)))
                have HS2 := Lib.hid (fun (X : World) (hX : ∃ n, X = wj.drewN n) (i' : Nat) => show ((X.setCell ⟨g, s, none⟩ (.int .i64 c)).setCell ⟨h, s, none⟩ (.int .i64 i')).ownsRow w.heap.size 3 1 (.slice (some ⟨h, 0, none⟩) T T) T ((S ++ (i' : Int) :: List.replicate Z 0).map I64) by
                  obtain ⟨n', rfl⟩ := hX
                  have e := mid_set S (la : Int) (i' : Int) Z
                  rw [HSL.out] at e
                  rw [← e, List.map_set]
                  have o1 : ((wj.drewN n').setCell ⟨g, s, none⟩ (.int .i64 c)).ownsRow w.heap.size 3 1 (.slice (some ⟨h, 0, none⟩) T T) T ((S ++ (la : Int) :: List.replicate Z 0).map I64) := owns_kept (show (wj.drewN n').ownsRow w.heap.size 3 1 (.slice (some ⟨h, 0, none⟩) T T) T ((S ++ (la : Int) :: List.replicate Z 0).map I64) from HH.out) (Kept.setCell (S := (· = g)) (Kept.refl _ _) (.inr rfl) _) (fun x e1 e2 => hgh (by have : h = x := Option.some.inj e1; omega))
                  exact (o1.stored s (.int .i64 i')).1)
                have HS3 := Lib.hid (fun (X : World) (hX : ∃ n, X = wj.drewN n) (u1 u2 : Value) => show Kept (fun b => b = g ∨ b = h) w1 ((X.setCell ⟨g, s, none⟩ u1).setCell ⟨h, s, none⟩ u2) by
                  obtain ⟨n', rfl⟩ := hX
                  exact ((HK.out.drewN n').setCell (.inr (.inl rfl)) _).setCell (.inr (.inr rfl)) _)
                have HGd := Lib.hid (fun n' => show (wj.drewN n').ownsRow w.heap.size 2 1 (.slice (some ⟨g, 0, none⟩) T T) T ((F ++ b :: List.replicate Z 0).map I64) from HG.out)
                have HHd := Lib.hid (fun n' => show (wj.drewN n').ownsRow w.heap.size 3 1 (.slice (some ⟨h, 0, none⟩) T T) T ((S ++ (la : Int) :: List.replicate Z 0).map I64) from HH.out)
                have HOO := Lib.hid hO
                have hghn : ¬ g = h := hgh
                have hhgn : ¬ h = g := fun e => hgh e.symm
                have hinI : (i : Int) < (n : Int) := by omega
                have hcase : (j = 0 ∨ c < b) ∨ (¬ j = 0 ∧ ¬ c < b) := by omega
                clear hi hbt hp hpI hd hcl hrs hfa hja hlr ha0 hg0 hd0 hq0 hc hbl hO han0 hx1 hx2
                rcases hcase with hcs | ⟨hj0, hcb⟩
                · have HN2 := Lib.hid (show O (j + 1) = (c, i) by rw [HOO.out, if_pos hcs])
                  by_cases hj0 : j = 0
                  · have hj0b : ((j : Int) == 0) = true := by rw [beq_iff_eq]; omega
                    clear hcs hj0
                    go_wp2_with fail
                    go_quiet (fail)
                    go_wp2_with fail
                    go_roundw
                    case rel => exact ⟨j + 1, by go_num, by omega, Lib.hid (by rw [HN2.out]; exact HS1.out _ ⟨_, rfl⟩ _), Lib.hid (by rw [HN2.out]; exact HS2.out _ ⟨_, rfl⟩ _), Lib.hid (HS3.out _ ⟨_, rfl⟩ _ _)⟩
                    case measure => simp [intOf]; omega
                  · have hj0b : ((j : Int) == 0) = false := by rw [beq_eq_false_iff_ne]; omega
                    have hcb : c < b := by rcases hcs with h | h; exact absurd h hj0; exact h
                    clear hcs hj0
                    go_wp2_with fail
                    go_quiet (fail)
                    go_wp2_with fail
                    go_roundw
                    case rel => exact ⟨j + 1, by go_num, by omega, Lib.hid (by rw [HN2.out]; exact HS1.out _ ⟨_, rfl⟩ _), Lib.hid (by rw [HN2.out]; exact HS2.out _ ⟨_, rfl⟩ _), Lib.hid (HS3.out _ ⟨_, rfl⟩ _ _)⟩
                    case measure => simp [intOf]; omega
                · have HN2 := Lib.hid (show O (j + 1) = (b, la) by rw [HOO.out, if_neg (by omega)])
                  have hj0b : ((j : Int) == 0) = false := by rw [beq_eq_false_iff_ne]; omega
                  clear hj0
                  go_wp2_with fail
                  go_quiet (fail)
                  go_wp2_with fail
                  go_roundw
                  case rel => exact ⟨j + 1, by go_num, by omega, Lib.hid (by rw [HN2.out]; exact HGd.out _), Lib.hid (by rw [HN2.out]; exact HHd.out _), Lib.hid (HK.out.drewN _)⟩
                  case measure => simp [intOf]; omega
              · obtain rfl : j = k := by omega
                go_wp2_with fail
                go_roundw
                case rel =>
                  refine ⟨s + 1, by go_num, by omega, by omega, ?_, ?_, HBj⟩
                  · have e : fstL (tb (s + 1)) ++ List.replicate (T - (s + 1)) 0 = F ++ (O j).1 :: List.replicate Z 0 := by
                      rw [HNX.out, fstL_snoc, HAT.out, HFE.out, List.append_assoc, show T - (s + 1) = Z by have := HZ.out; omega]
                      rfl
                    rw [e]
                    exact HG
                  · have e : sndL (tb (s + 1)) ++ List.replicate (T - (s + 1)) 0 = S ++ ((O j).2 : Int) :: List.replicate Z 0 := by
                      rw [HNX.out, sndL_snoc, HAT.out, HSE.out, List.append_assoc, show T - (s + 1) = Z by have := HZ.out; omega]
                      rfl
                    rw [e]
                    exact HH
                case measure => simp [intOf]; omega
      · obtain rfl : s = T := by omega
        have hlf : ¬ (s : Int) ≤ (A : Int) := by omega
        rw [Nat.sub_self, List.replicate_zero, List.append_nil] at HG HH
        have HLN2 := Lib.hid (HLN.out s)
        obtain ⟨tab, htab⟩ : ∃ t, t = tb s := ⟨_, rfl⟩
        rw [← htab] at HG HH HLN2 HLA HOD
        have HTAB := Lib.hid htab
        have HBK := Lib.hid (fun f x => show backK tab (f + 1) x = if x = 0 then [] else (tab.getD x (0, 0)).2 :: backK tab f (x - 2 ^ (tab.getD x (0, 0)).2) from rfl)
        have HB0 := Lib.hid (backK_zero tab)
        have hzo := HB.out.size
        have hgz : g < wo.heap.size := (HG.out.lt g rfl).2
        have hhz : h < wo.heap.size := (HH.out.lt h rfl).2
        clear htab
        go_wp2_with fail
        go_loopw [16, 17] (fun ov xv wr => ∃ (x f : Nat) (L : List Nat) (b : Option Addr) (c : Nat), xv = .int .i64 x ∧ x ≤ f ∧ L.length + f = A ∧ ov = .slice b L.length c ∧ Hid (L ++ backK tab f x = backK tab A A) ∧ Hid (wr.ownsRow wo.heap.size 2 1 (.slice b L.length c) L.length ((idxs L).map I64)) ∧ Hid (Below wo.heap.size wo wr)) (fun _ xv _ => (intOf xv).toNat)
        case atStart => exact ⟨A, A, [], none, 0, rfl, Nat.le_refl _, by simp, rfl, Lib.hid rfl, Lib.hid (World.ownsRow_nil _ _ _ _), Lib.hid (Below.refl _ _)⟩
        case round =>
          obtain ⟨x, f, L, b, c, rfl, hxf, hLf, rfl, HK, HO, HBx⟩ := hrel
          obtain ⟨wx, rfl⟩ : ∃ wx, wx = wr := ⟨wr, rfl⟩
          by_cases hx0 : x = 0
          · have hxb : ((x : Int) != 0) = false := by rw [hx0]; rfl
            have HKE := Lib.hid (show L = backK tab A A by have := HK.out; rw [hx0, HB0.out, List.append_nil] at this; exact this)
            have hL1 : 1 ≤ L.length := by
              obtain ⟨A', rfl⟩ : ∃ A', A = A' + 1 := ⟨A - 1, by omega⟩
              rw [HKE.out, HBK.out, if_neg (by omega)]
              simp
            obtain ⟨gb, gc, hgb, hgb1, hgb2⟩ := owns_some HO.out (by intro e; injection e with _ e _; omega)
            simp only [Value.slice.injEq, true_and] at hgb
            obtain ⟨rfl, rfl⟩ := hgb
            have HRV := Lib.hid (rev_any wo.heap.size gb L.length c (idxs L) wx (idxs_len L) (by omega) HO.out)
            have hvA : ∀ X : World, X.ownsRow w.heap.size 2 1 (.slice (some ⟨g, 0, none⟩) s s) s ((fstL tab).map I64) → X.cell? ⟨g, A, none⟩ = some (.int .i64 (tab.getD A (0, 0)).1) := fun X o => by
              have hl : A < (fstL tab).length := by rw [fstL_len, HLN2.out]; omega
              rw [o.cellAt A (by omega), List.getElem?_map, List.getElem?_eq_getElem hl]
              have := fstL_at tab A
              rw [List.getD_eq_getElem?_getD, List.getElem?_eq_getElem hl] at this
              simp only [Option.getD_some] at this
              rw [this]
              rfl
            have HVA := Lib.hid hvA
            have HGx := Lib.hid (owns_below HG.out HBx.out (Nat.le_refl _))
            have hAsI : (A : Int) < (s : Int) := by omega
            have HOF := Lib.hid (show idxs (ordLate js) = (idxs L).reverse by rw [HOD.out, HKE.out]; unfold idxs; rw [List.map_reverse])
            have HVF := Lib.hid (show ((tb s).getD A (0, 0)).1 = (tab.getD A (0, 0)).1 by rw [HTAB.out])
            obtain ⟨vA, hvA2⟩ : ∃ z, z = (tab.getD A (0, 0)).1 := ⟨_, rfl⟩
            rw [← hvA2] at HVA HVF
            clear hx0 hvA hvA2
            go_upto_region 28 with (go_at_call 70; refine HRV.out.mono ?_; rintro e w5 ⟨rfl, ho5, hk5⟩)
            have c5 := HVA.out w5 (owns_kept HGx.out hk5 (fun z e1 e2 => by have : g = z := Option.some.inj e1; omega))
            have HB5 := Lib.hid (HB.out.trans ((hk5.toBelow (B := wo.heap.size) HBx.out.size (by intro z h1 h2; omega)) |> fun hb => (HBx.out.trans hb).mono hzo))
            have HO5 := Lib.hid ho5
            clear ho5 hk5
            go_quiet (fail)
            go_wp2_with fail
            go_ret3
            refine ⟨_, by rw [HVF.out]; rfl, ?_, below_drewN HB5.out _⟩
            rw [HOF.out]
            exact (OwnI.mk (n := L.length) (show (w5.drewN _).ownsRow wo.heap.size 2 1 _ L.length _ from HO5.out)).wide hzo (Nat.le_refl _)
          · have hxb : ((x : Int) != 0) = true := by rw [bne_iff_ne]; omega
            have hxs : x < s := by omega
            have hla := HLA.out x (by omega) hxs
            have hlt' := dig_lt (s := x) (n := n) (by rw [← HTN.out]; exact hxs) hla
            have hbt := dig_bit x 20 _ hla
            obtain ⟨f', rfl⟩ : ∃ f', f = f' + 1 := ⟨f - 1, by omega⟩
            have hbk := HBK.out f' x
            rw [if_neg hx0] at hbk
            obtain ⟨i, hi⟩ : ∃ i, i = (tab.getD x (0, 0)).2 := ⟨_, rfl⟩
            rw [← hi] at hlt' hbt hbk
            have hps := bit_le hbt
            have han0 := andNot_bit x (by omega) i (by omega) hbt
            obtain ⟨p, hp⟩ : ∃ p, p = 2 ^ i := ⟨_, rfl⟩
            have hpI : (2 : Int) ^ i = (p : Int) := by rw [hp]; push_cast; rfl
            rw [← hp] at hps han0 hbk
            have hsl : IntKind.i64.wrap ((2 : Int) ^ i) = (p : Int) := by rw [hpI]; exact IntWalk.i64_in _ (by omega)
            have hp0 : 0 < p := by rw [hp]; exact Nat.pow_pos (by omega)
            obtain ⟨d, hd⟩ : ∃ d, d = x - p := ⟨_, rfl⟩
            rw [← hd] at hbk
            have han : bits .andNot .i64 (x : Int) (p : Int) = (d : Int) := by rw [i64_andNot_nat x p (by omega) (by omega), han0, hd]
            have HHx := Lib.hid (owns_below HH.out HBx.out (Nat.le_refl _))
            have hat : ∀ X : World, X.ownsRow w.heap.size 3 1 (.slice (some ⟨h, 0, none⟩) s s) s ((sndL tab).map I64) → X.cell? ⟨h, x, none⟩ = some (.int .i64 i) := fun X o => by
              have hl : x < (sndL tab).length := by rw [sndL_len, HLN2.out]; exact hxs
              rw [o.cellAt x (by omega), List.getElem?_map, List.getElem?_eq_getElem hl]
              have := sndL_at tab x
              rw [List.getD_eq_getElem?_getD, List.getElem?_eq_getElem hl, ← hi] at this
              simp only [Option.getD_some] at this
              rw [← this]
              rfl
            have HAT := Lib.hid hat
            have cl := hat wx HHx.out
            have hzx := HBx.out.size
            have HKN := Lib.hid (show (L ++ [i]) ++ backK tab f' d = backK tab A A by rw [← HK.out, hbk, List.append_assoc]; rfl)
            have hxsI : (x : Int) < (s : Int) := by omega
            have hdf : d ≤ f' := by omega
            have hdx : d < x := by omega
            clear hi hp hpI han0 hbt hps hp0 hd hbk hla hat hx0
            go_wp2_with (at_builtin; refine app_ints rfl _ _ rfl wo.heap.size (.slice b L.length c) L.length (idxs L) rfl (HO.out.alloc _) _ [(i : Int)] rfl (slc_one _ _) (L.length + 1) (idxs (L ++ [i])) (by simp) (by unfold idxs; rw [List.map_append]; rfl) (by omega) (by simp; omega) ?_; intro b2 cap2 w3 hown2 hbl2 _ _; have HB3 := Lib.hid (HBx.out.trans (((Below.refl _ _).alloc hzx _).trans hbl2)); have cl2 := HAT.out w3 (owns_below HH.out HB3.out (Nat.le_refl _)))
            go_roundw
            case rel => exact ⟨d, f', L ++ [i], b2, cap2, rfl, hdf, by simp; omega, by simp, HKN, Lib.hid (by rw [List.length_append]; exact hown2), HB3⟩
            case measure => simp only [intOf]; omega
end Go.Proofs.YtgkbbpajkbkgnaaGreatDoor

namespace Go.Proofs.YtgkbbpajkbkgnaaGreatDoor
open Go.RowKit
set_option maxHeartbeats 1000000 in
theorem lateI_any (v : Value) (js : List JobD) (w : World) (h : RdJ w v js) :
    Calls Tryz.prog 23 #[v] w fun e w' => ∃ u, e = .returned (.tuple #[u, .int .i64 (lateN js), .bool (areJobsB js)]) ∧ OwnI w.heap.size w'.heap.size w' u (lateL js) ∧ Below w.heap.size w w' := by
  by_cases hok : areJobsB js = true
  · have hN : lateN js = ((ltab js (2 ^ js.length)).getD (2 ^ js.length - 1) (0, 0)).1 := by unfold lateN; rw [if_pos hok]
    have hL : lateL js = idxs (ordLate js) := by unfold lateL; rw [if_pos hok]
    rw [hN, hL, hok]
    exact lateYes_any v js w h hok
  · rw [Bool.not_eq_true] at hok
    have HN := Lib.hid (show lateN js = 0 by unfold lateN; rw [hok]; rfl)
    have HL := Lib.hid (show lateL js = [] by unfold lateL; rw [hok]; rfl)
    obtain ⟨va, vc, rfl⟩ := h.shape
    have HA := Lib.hid (AreJobs_any _ js w h)
    rw [hok] at HA ⊢
    clear hok h
    go_enter Tryz.func23, Tryz.ntmps23
    go_wp2_with (go_at_call 51; refine HA.out.mono ?_; rintro e w0 ⟨rfl, hb0⟩)
    go_ret3
    exact ⟨_, by rw [HN.out]; rfl, by rw [HL.out]; exact ⟨World.ownsRow_nil _ _ _ _, by intro g hg; cases hg⟩, hb0⟩
end Go.Proofs.YtgkbbpajkbkgnaaGreatDoor

namespace Go.Proofs.YtgkbbpajkbkgnaaGreatDoor
open Go.RowKit Go.Sort
end Go.Proofs.YtgkbbpajkbkgnaaGreatDoor

namespace Go.Proofs.YtgkbbpajkbkgnaaGreatDoor
open Go.RowKit Go.Sort
def spanK (rec : List Int → Int) (l : Int) (used : List Int) : Nat → Int × Bool
  | 0 => (-1, false)
  | k + 1 => if (spanK rec l used k).2 = true then spanK rec l used k else
      (if (spanK rec l used k).1 < 0 ∨ rec (used.set k (used.getD k 0 + l)) < (spanK rec l used k).1 then rec (used.set k (used.getD k 0 + l)) else (spanK rec l used k).1, used.getD k 0 == 0)
def spanR (js : List JobD) : Nat → List Int → Int
  | 0, used => maxL used
  | f + 1, used => (spanK (spanR js f) (js.getD (js.length - (f + 1)) J0).long used used.length).1
theorem spanK_stop {rec : List Int → Int} {l : Int} {used : List Int} {k : Nat} (h : (spanK rec l used k).2 = true) : ∀ m, k ≤ m → spanK rec l used m = spanK rec l used k
  | 0, hm => by have : k = 0 := by omega
                rw [this]
  | m + 1, hm => by
    by_cases e : k = m + 1
    · rw [e]
    · have ih := spanK_stop h m (by omega)
      show (if (spanK rec l used m).2 = true then _ else _) = _
      rw [if_pos (by rw [ih]; exact h), ih]
def lsB (js : List JobD) (m : Int) : Bool := machB js m && decide (js.length ≤ 9)
def lsN (js : List JobD) (m : Int) : Int := if lsB js m = true then spanR js js.length (List.replicate m.toNat 0) else 0
end Go.Proofs.YtgkbbpajkbkgnaaGreatDoor
