/-
  FnJobs: texts joined: LFnJobs, OpenB.
-/
import Derived.BigQuiet
import Derived.Deep.Cut
import Derived.Lib.MinMax
import Derived.Deep.RegionLaw
import Derived.Test.YtfdaifmfecfchaaMFnJobsAK
import Derived.Test.YtfdaifmfecfchaaMFnJobsAL
import Derived.Test.YtfdaifmfecfchaaMFnJobsAM
namespace Go.Proofs.Ytfdaifmfecfchaa
open Go.RowKit Go.Sort

theorem owK_rng {js : List JobD} {es : List Int} (h : ∀ i, 0 ≤ (js.getD i J0).weight ∧ (js.getD i J0).weight ≤ 1000) (hd : ∀ i, 0 ≤ (js.getD i J0).due) (he : ∀ f, 0 ≤ es.getD f 0 ∧ es.getD f 0 ≤ 12000) : ∀ k, 0 ≤ owK js es k ∧ owK js es k ≤ 12000000 * k
  | 0 => by simp [owK]
  | k + 1 => by
    have ih := owK_rng h hd he k
    have h1 := he k
    have h2 := hd k
    have := prod_rng (h k) (x := max 0 (es.getD k 0 - (js.getD k J0).due)) (by omega)
    simp only [owK]
    push_cast
    omega
theorem sumK_rng {js : List JobD} (h : ∀ i, 0 ≤ (js.getD i J0).long ∧ (js.getD i J0).long ≤ 1000) : ∀ k, 0 ≤ sumK js k ∧ sumK js k ≤ 1000 * k
  | 0 => by simp [sumK]
  | k + 1 => by
    have ih := sumK_rng h k
    have := h k
    simp only [sumK]
    push_cast
    omega
theorem mostK_rng {js : List JobD} (h : ∀ i, 0 ≤ (js.getD i J0).long ∧ (js.getD i J0).long ≤ 1000) (h2 : ∀ i, 0 ≤ (js.getD i J0).ready ∧ (js.getD i J0).ready ≤ 100000) : ∀ k, 0 ≤ mostK js k ∧ mostK js k ≤ 101000
  | 0 => by simp [mostK]
  | k + 1 => by
    have ih := mostK_rng h h2 k
    have := h k
    have := h2 k
    simp only [mostK]
    omega
/-- The greater one of two integers, at an operation of a region that draws its order. -/
theorem step_max8 {w : World} {ops : Array Oper} {o : Oper} {a : Act} {K : Act → World → Prop} {Q : Exit → Act → World → Prop} {E : Prop} (hgd : o.guard = none) (s x : Operand) (ts : Array TypeId)
    (ho : o.op = .call { callee := .builtin .max, args := #[s, x], argTypes := ts }) (m n : Int) (hs : a.eval s = .int .i64 m) (hx : a.eval x = .int .i64 n)
    (h : K (a.put o.dst (.int .i64 (max m n))) w) : if Region.wanted o (yielded ops a.tmps) = true then Oper.wp Try.prog o a w K Q else E := by
  have hw : Region.wanted o (yielded ops a.tmps) = true := by simp [Region.wanted, hgd]
  rw [if_pos hw]
  unfold Oper.wp
  simp [execOp, ho, resolve, invoke, builtin, hs, hx, Lib.run_max_ints, Result.andThen]
  exact h
theorem sumF_rng {f : Nat → Int} : ∀ {a : List Nat}, (∀ x ∈ a, 0 ≤ f x ∧ f x ≤ 1000) → 0 ≤ sumF f a ∧ sumF f a ≤ 1000 * a.length
  | [], _ => by simp [sumF]
  | x :: a, h => by
    have := sumF_rng (f := f) (a := a) (fun y hy => h y (List.mem_cons_of_mem _ hy))
    have := h x (List.mem_cons_self ..)
    simp only [sumF, List.length_cons]
    push_cast
    omega
theorem jobs_ready {js : List JobD} (h : areJobsB js = true) (i : Nat) : 0 ≤ (js.getD i J0).ready ∧ (js.getD i J0).ready ≤ 100000 := by
  obtain ⟨h1, h2, h3⟩ := jobs_all h
  by_cases hi : i < js.length
  · exact (h3 i hi).2.2.1
  · rw [List.getD_eq_getElem?_getD, List.getElem?_eq_none (by omega)]
    exact ⟨by decide, by decide⟩

set_option maxHeartbeats 8000000 in
set_option maxRecDepth 100000 in
theorem lawFnJobs_any (w : World) (v0 : Value) (z0 : List Int) (r0 : RdB w v0 z0) (f0 : WfB z0) (v1 : Value) (z1 : List Int) (r1 : RdB w v1 z1) (f1 : WfB z1) :
    Calls Try.prog 3 #[v0, v1] w fun e w' => e = .returned (.bool true) ∧ Below w.heap.size w w' := by
  obtain ⟨a0, c0, rfl⟩ := r0.shape
  obtain ⟨a1, c1, rfl⟩ := r1.shape
  have HR0 := Lib.hid r0
  have HR1 := Lib.hid r1
  have HF0 := Lib.hid f0
  have HF1 := Lib.hid f1
  clear r0 r1 f0 f1
  have HLG := Lib.hid (r8Long_any (.slice a0 z0.length c0) (.slice a1 z1.length c1) z0 z1 w HR0.out HR1.out)
  obtain ⟨q, hq⟩ : ∃ q, isLong8 z0 z1 = q := ⟨_, rfl⟩
  rw [hq] at HLG
  clear hq
  go_enter Try.func3, Try.ntmps3
  cases q
  case true =>
    go_wp2_with (go_at_call 6; refine HLG.out.mono ?_; rintro e w' ⟨rfl, rfl⟩)
    go_ret
    exact ⟨rfl, Below.refl _ _⟩
  go_upto_region 3 with (go_at_call 6; refine HLG.out.mono ?_; rintro e w' ⟨rfl, rfl⟩)
  clear HLG
  go_upto_region 4 with (go_at_call 7; refine (r8At_any (.slice a1 z1.length c1) z1 40 6 w HR1.out HF1.out (by omega) (by omega) (by omega) (by omega)).mono ?_; rintro e w' ⟨r, hr0, hr1, rfl, rfl⟩)
  obtain ⟨n, hn⟩ : ∃ n : Nat, (n : Int) = 1 + r := ⟨(1 + r).toNat, by omega⟩
  have hn1 : 1 ≤ n := by omega
  have hn6 : n ≤ 6 := by omega
  rw [← hn]
  clear hn hr0 hr1
  go_upto_region 5 with (go_at_call 8; refine (R8Jobs_any (.slice a0 z0.length c0) z0 w HR0.out HF0.out n hn1 (by omega)).mono ?_; rintro e w1 ⟨js, sv, hl, ha, rfl, ho, hb⟩)
  go_upto_region 6 with (go_at_call 9; refine (R8Order_any (.slice a1 z1.length c1) z1 w1 (HR1.out.up hb (Nat.le_refl _)) HF1.out n (by omega)).mono ?_; rintro e w2 ⟨L, ov, hp, rfl, hoo, hb2⟩)
  obtain ⟨sa, sc, rfl⟩ := ho.rd.shape
  obtain ⟨oa, oc, rfl⟩ := hoo.rd.shape
  have hLl : (idxs L).length = n := by rw [idxs_len, hp.length_eq, List.length_range]
  have hD1 := Lib.hid (fun W (hW : Below w2.heap.size w2 W) => ho.rd.up (hb2.trans (hW.mono hb2.size)) (Nat.le_refl _))
  have hD2 := Lib.hid (fun W (hW : Below w2.heap.size w2 W) => hoo.rd.up hW (Nat.le_refl _))
  have HB2 := Lib.hid (hb.trans (hb2.mono hb.size))
  rw [hl] at hD1 ⊢
  rw [hLl] at hD2 ⊢
  have hp' : L.Perm (List.range js.length) := by rw [hl]; exact hp
  have hjq := ordJob ha hp'
  obtain ⟨pS, pD, pO, pE, q1, q2, q3, q4, q5, q6, q7, q8⟩ := jobs_law ha (by omega) hp'
  have qh1 := heads_sum ha
  have qh2 := heads_most ha
  obtain ⟨S, hS⟩ : ∃ S, S = ordC (smithC js) js.length := ⟨_, rfl⟩
  obtain ⟨D, hD⟩ : ∃ D, D = ordJ js := ⟨_, rfl⟩
  obtain ⟨K, hK⟩ : ∃ K, K = (otEnd js).1 := ⟨_, rfl⟩
  obtain ⟨O, hO⟩ : ∃ O, O = (otEnd js).1 ++ (otEnd js).2 := ⟨_, rfl⟩
  obtain ⟨E, hE⟩ : ∃ E, E = ordLate js := ⟨_, rfl⟩
  rw [← hS] at pS q1
  rw [← hD] at pD q2
  rw [← hO] at pO q3 q4
  rw [← hE] at pE q5
  rw [← hK] at q4 q7
  have eS : smithL js = idxs S := by unfold smithL; rw [if_pos ha, hS]
  have eD : dueL js = idxs D := by unfold dueL; rw [if_pos ha, hD]; rfl
  have eO : otL js = idxs O := by unfold otL; rw [if_pos ha, hO]
  have eK : otN js = (K.length : Int) := by unfold otN; rw [if_pos ha, hK]
  have eE : lateL js = idxs E := by unfold lateL; rw [if_pos ha, hE]
  have eH : headsN js = headsK js js.length := by unfold headsN; rw [if_pos ha]
  have jS := ordJob ha pS
  have jD := ordJob ha pD
  have jO := ordJob ha pO
  have jE := ordJob ha pE
  have lS : (idxs S).length = n := by rw [idxs_len, pS.length_eq, List.length_range, hl]
  have lD : (idxs D).length = n := by rw [idxs_len, pD.length_eq, List.length_range, hl]
  have lO : (idxs O).length = n := by rw [idxs_len, pO.length_eq, List.length_range, hl]
  have lE : (idxs E).length = n := by rw [idxs_len, pE.length_eq, List.length_range, hl]
  have hKO : K.length ≤ n ∧ ∀ i, i < K.length → K.getD i 0 = O.getD i 0 ∧ K.take (i + 1) = O.take (i + 1) := by
    rw [hK, hO]
    refine ⟨?_, fun i hi => ⟨?_, ?_⟩⟩
    · have := lO
      rw [idxs_len, hO, List.length_append] at this
      omega
    · rw [List.getD_eq_getElem?_getD, List.getD_eq_getElem?_getD, List.getElem?_append_left hi]
    · rw [List.take_append_of_le_length (by omega)]
  -- what the functions tell
  have eV : endsV js (idxs L) = endsL js (idxs L) := by unfold endsV; rw [if_pos hjq]
  have eVE : endsV js (idxs E) = endsL js (idxs E) := by unfold endsV; rw [if_pos jE]
  have eW1 : wEnd js (idxs L) = wK js (endsL js (idxs L)) js.length := by unfold wEnd; rw [if_pos hjq]
  have eW2 : wEnd js (idxs S) = wK js (endsL js (idxs S)) js.length := by unfold wEnd; rw [if_pos jS]
  have eM1 : mLate js (idxs L) = mlK js (endsL js (idxs L)) js.length := by unfold mLate; rw [if_pos hjq]
  have eM2 : mLate js (idxs D) = mlK js (endsL js (idxs D)) js.length := by unfold mLate; rw [if_pos jD]
  have eC1 : cLate js (idxs L) = clK js (endsL js (idxs L)) js.length := by unfold cLate; rw [if_pos hjq]
  have eC2 : cLate js (idxs O) = clK js (endsL js (idxs O)) js.length := by unfold cLate; rw [if_pos jO]
  rw [← eW1, ← eW2] at q1
  rw [← eM1, ← eM2] at q2
  rw [← eC1, ← eC2] at q3
  rw [← eC2] at q4
  have hc2 : 0 ≤ cLate js (idxs O) ∧ cLate js (idxs O) ≤ 12 := by
    rw [eC2]
    have := clK_rng js (endsL js (idxs O)) js.length
    omega
  have HER := Lib.hid (endsL_rng hjq)
  have HER2 := Lib.hid (endsL_rng jE)
  have HEL := Lib.hid (show (endsL js (idxs L)).length = n by rw [endsL_len, hl])
  have HEL2 := Lib.hid (show (endsL js (idxs E)).length = n by rw [endsL_len, hl])
  have HC1 := Lib.hid (fun W (hW : Below w2.heap.size w2 W) => endsI_any _ _ js (idxs L) W (hD1.out W hW) (hD2.out W hW))
  have HC2 := Lib.hid (fun W (hW : Below w2.heap.size w2 W) => wEnd_any _ _ js (idxs L) W (hD1.out W hW) (hD2.out W hW))
  have HC3 := Lib.hid (fun W (hW : Below w2.heap.size w2 W) => mLate_any _ _ js (idxs L) W (hD1.out W hW) (hD2.out W hW))
  have HC4 := Lib.hid (fun W (hW : Below w2.heap.size w2 W) => cLate_any _ _ js (idxs L) W (hD1.out W hW) (hD2.out W hW))
  have HC5 := Lib.hid (fun W (hW : Below w2.heap.size w2 W) => smithI_any _ js W (hD1.out W hW))
  have HC6 := Lib.hid (fun W (hW : Below w2.heap.size w2 W) => dueI_any _ js W (hD1.out W hW))
  have HC7 := Lib.hid (fun W (hW : Below w2.heap.size w2 W) => otI_any _ js W (hD1.out W hW))
  have HC8 := Lib.hid (fun W (hW : Below w2.heap.size w2 W) => lateI_any _ js W (hD1.out W hW))
  have HC9 := Lib.hid (fun W (hW : Below w2.heap.size w2 W) => headsI_any _ js W (hD1.out W hW))
  have HT5 := Lib.hid (fun W (v : Value) (hW : RdI W v (idxs S)) => wEnd_any (.slice sa n sc) v js (idxs S) W)
  have HT6 := Lib.hid (fun W (v : Value) (hW : RdI W v (idxs D)) => mLate_any (.slice sa n sc) v js (idxs D) W)
  have HT7 := Lib.hid (fun W (v : Value) (hW : RdI W v (idxs O)) => cLate_any (.slice sa n sc) v js (idxs O) W)
  have HT8 := Lib.hid (fun W (v : Value) (hW : RdI W v (idxs E)) => endsI_any (.slice sa n sc) v js (idxs E) W)
  rw [hjq] at HC1 HC2 HC3 HC4
  rw [eV] at HC1
  rw [ha] at HC5 HC6 HC7 HC8 HC9
  rw [eS] at HC5
  rw [eD] at HC6
  rw [eO, eK] at HC7
  rw [eE] at HC8
  rw [eH] at HC9
  rw [jS] at HT5
  rw [jD] at HT6
  rw [jO] at HT7
  rw [jE, eVE] at HT8
  have HpS := Lib.hid (show S.Perm (List.range n) by rw [← hl]; exact pS)
  have HpD := Lib.hid (show D.Perm (List.range n) by rw [← hl]; exact pD)
  have HpO := Lib.hid (show O.Perm (List.range n) by rw [← hl]; exact pO)
  have HpE := Lib.hid (show E.Perm (List.range n) by rw [← hl]; exact pE)
  have HlS := Lib.hid lS
  have HlD := Lib.hid lD
  have HlO := Lib.hid lO
  have HlE := Lib.hid lE
  have HKO := Lib.hid hKO.2
  have hkn : K.length ≤ n := hKO.1
  obtain ⟨kp, hkp⟩ : ∃ k, k = K.length := ⟨_, rfl⟩
  obtain ⟨W1, hW1⟩ : ∃ x, x = wEnd js (idxs L) := ⟨_, rfl⟩
  obtain ⟨W2, hW2⟩ : ∃ x, x = wEnd js (idxs S) := ⟨_, rfl⟩
  obtain ⟨M1, hM1⟩ : ∃ x, x = mLate js (idxs L) := ⟨_, rfl⟩
  obtain ⟨M2, hM2⟩ : ∃ x, x = mLate js (idxs D) := ⟨_, rfl⟩
  obtain ⟨C1, hC1⟩ : ∃ x, x = cLate js (idxs L) := ⟨_, rfl⟩
  obtain ⟨C2, hC2⟩ : ∃ x, x = cLate js (idxs O) := ⟨_, rfl⟩
  obtain ⟨T, hT⟩ : ∃ x, x = lateN js := ⟨_, rfl⟩
  obtain ⟨H, hH⟩ : ∃ x, x = headsK js js.length := ⟨_, rfl⟩
  obtain ⟨es, hes⟩ : ∃ x, x = endsL js (idxs L) := ⟨_, rfl⟩
  obtain ⟨ls, hls⟩ : ∃ x, x = endsL js (idxs E) := ⟨_, rfl⟩
  rw [← hW1] at HC2 q1
  rw [← hW2] at HT5 q1
  rw [← hM1] at HC3 q2
  rw [← hM2] at HT6 q2
  rw [← hC1] at HC4 q3
  rw [← hC2] at HT7 q3 q4 hc2
  rw [← hT] at HC8 q5 q6
  rw [← hH] at HC9 qh1 qh2
  rw [← hes] at HC1 q6 q8 HER HEL
  rw [← hls] at HT8 q5 HER2 HEL2
  rw [← hkp] at HC7 q4 q7 hkn
  have HQ5 := Lib.hid (show owK js ls n = T by rw [← hl]; exact q5)
  have HQ6 := Lib.hid (show T ≤ owK js es n by rw [← hl]; exact q6)
  have HQ7 := Lib.hid q7
  have HQ8 := Lib.hid (show es.getD (L.getD (n - 1) 0) 0 = sumK js n by rw [← hl]; exact q8)
  have HH1 := Lib.hid (show sumK js n ≤ H by rw [← hl]; exact qh1)
  have HH2 := Lib.hid (show mostK js n ≤ H by rw [← hl]; exact qh2)
  have HN := Lib.hid hl
  have HJA := Lib.hid (fun i => jobs_any ha i)
  have HJR := Lib.hid (fun i => jobs_ready ha i)
  have HOR := Lib.hid (fun k (hk : k < n) => List.mem_range.1 (hp.mem_iff.1 (getD_in (show k < L.length by rw [hp.length_eq, List.length_range]; exact hk))))
  have HKP := Lib.hid hkp.symm
  rw [hl] at q4
  have HLl := Lib.hid hLl
  clear hb hb2 ho hoo hp hp' hjq pS pD pO pE q5 q6 q7 q8 qh1 qh2 hS hD hK hO hE eS eD eO eK eE eH jS jD jO jE lS lD lO lE hKO eV eVE eW1 eW2 eM1 eM2 eC1 eC2 hkp hW1 hW2 hM1 hM2 hC1 hC2 hT hH hes hls hl ha hLl HR0 HR1 HF0 HF1
  go_upto_region 7 with (go_at_call 10; refine (HC1.out w2 (Below.refl _ _)).mono ?_; rintro e w3 ⟨ev, rfl, hoe, hb3⟩; obtain ⟨ea, ec, rfl⟩ := hoe.rd.shape)
  have HB3 := Lib.hid hb3
  have HEs := Lib.hid hoe.rd
  rw [HEL.out] at HEs ⊢
  clear hoe hb3
  go_upto_region 8 with (go_at_call 11; refine (HC2.out w3 HB3.out).mono ?_; rintro e w4 ⟨rfl, hb4⟩)
  have K4 := Lib.hid hb4
  have HB4 := Lib.hid (HB3.out.trans (hb4.mono HB3.out.size))
  clear hb4
  go_upto_region 9 with (go_at_call 12; refine (HC3.out w4 HB4.out).mono ?_; rintro e w5 ⟨rfl, hb5⟩)
  have K5 := Lib.hid hb5
  have HB5 := Lib.hid (HB4.out.trans (hb5.mono HB4.out.size))
  clear hb5
  go_upto_region 10 with (go_at_call 13; refine (HC4.out w5 HB5.out).mono ?_; rintro e w6 ⟨rfl, hb6⟩)
  have K6 := Lib.hid hb6
  have HB6 := Lib.hid (HB5.out.trans (hb6.mono HB5.out.size))
  clear hb6
  go_upto_region 11 with (go_at_call 14; refine (HC5.out w6 HB6.out).mono ?_; rintro e w7 ⟨sv, rfl, hoS, hb7⟩; obtain ⟨pa, pc, rfl⟩ := hoS.rd.shape)
  have K7 := Lib.hid hb7
  have HB7 := Lib.hid (HB6.out.trans (hb7.mono HB6.out.size))
  have HrS := Lib.hid hoS.rd
  rw [HlS.out] at HrS ⊢
  clear hoS hb7
  go_upto_region 12 with (go_at_call 15; refine (HC6.out w7 HB7.out).mono ?_; rintro e w8 ⟨dv, rfl, hoD, hb8⟩; obtain ⟨da, dc, rfl⟩ := hoD.rd.shape)
  have K8 := Lib.hid hb8
  have HB8 := Lib.hid (HB7.out.trans (hb8.mono HB7.out.size))
  have HrD := Lib.hid hoD.rd
  rw [HlD.out] at HrD ⊢
  clear hoD hb8
  go_upto_region 13 with (go_at_call 16; refine (HC7.out w8 HB8.out).mono ?_; rintro e w9 ⟨ov, rfl, hoO, hb9⟩; obtain ⟨ta, tc, rfl⟩ := hoO.rd.shape)
  have K9 := Lib.hid hb9
  have HB9 := Lib.hid (HB8.out.trans (hb9.mono HB8.out.size))
  have HrO := Lib.hid hoO.rd
  rw [HlO.out] at HrO ⊢
  clear hoO hb9
  go_upto_region 14 with (go_at_call 17; refine (HC8.out w9 HB9.out).mono ?_; rintro e w10 ⟨lv, rfl, hoE, hb10⟩; obtain ⟨la, lc, rfl⟩ := hoE.rd.shape)
  have K10 := Lib.hid hb10
  have HB10 := Lib.hid (HB9.out.trans (hb10.mono HB9.out.size))
  have HrE := Lib.hid hoE.rd
  rw [HlE.out] at HrE ⊢
  clear hoE hb10
  go_upto_region 15 with (go_at_call 18; refine (HC9.out w10 HB10.out).mono ?_; rintro e w11 ⟨rfl, hb11⟩)
  have K11 := Lib.hid hb11
  have HB11 := Lib.hid (HB10.out.trans (hb11.mono HB10.out.size))
  clear hb11
  clear HC1 HC2 HC3 HC4 HC5 HC6 HC7 HC8 HC9
  have T11 := K11.out
  have T10 := K10.out.trans (T11.mono K10.out.size)
  have T9 := K9.out.trans (T10.mono K9.out.size)
  have T8 := K8.out.trans (T9.mono K8.out.size)
  have T7 := K7.out.trans (T8.mono K7.out.size)
  have T6 := K6.out.trans (T7.mono K6.out.size)
  have T5 := K5.out.trans (T6.mono K5.out.size)
  have T4 := K4.out.trans (T5.mono K4.out.size)
  have GEs := Lib.hid (HEs.out.up T4 (Nat.le_refl _))
  have GrS := Lib.hid (HrS.out.up T8 (Nat.le_refl _))
  have GrD := Lib.hid (HrD.out.up T9 (Nat.le_refl _))
  have GrO := Lib.hid (HrO.out.up T10 (Nat.le_refl _))
  have GrE := Lib.hid (HrE.out.up T11 (Nat.le_refl _))
  clear T4 T5 T6 T7 T8 T9 T10 T11 K4 K5 K6 K7 K8 K9 K10 K11 HEs HrS HrD HrO HrE HB3 HB4 HB5 HB6 HB7 HB8 HB9 HB10
  have k3 : ((n : Int) != (n : Int)) = false := by simp
  go_upto_region 17 with (first
    | (go_at_call_of 19 pa; refine (r8Tour_any _ S n w11 GrS.out HpS.out (by omega)).mono ?_; rintro e t1 ⟨rfl, ht1⟩; have HT1 := Lib.hid ht1)
    | (go_at_call_of 19 da; refine (r8Tour_any _ D n t1 (GrD.out.up HT1.out (Nat.le_refl _)) HpD.out (by omega)).mono ?_; rintro e t2 ⟨rfl, ht2⟩; have HT2 := Lib.hid (HT1.out.trans (ht2.mono HT1.out.size)))
    | (go_at_call_of 19 ta; refine (r8Tour_any _ O n t2 (GrO.out.up HT2.out (Nat.le_refl _)) HpO.out (by omega)).mono ?_; rintro e t3 ⟨rfl, ht3⟩; have HT3 := Lib.hid (HT2.out.trans (ht3.mono HT2.out.size)))
    | (go_at_call_of 19 la; refine (r8Tour_any _ E n t3 (GrE.out.up HT3.out (Nat.le_refl _)) HpE.out (by omega)).mono ?_; rintro e t4 ⟨rfl, ht4⟩; have HT4 := Lib.hid (HT3.out.trans (ht4.mono HT3.out.size)))
    | fail)
  clear ht1 ht2 ht3 ht4 HT1 HT2 HT3
  have HJ := Lib.hid (fun W (hW : Below w11.heap.size w11 W) => hD1.out W (HB11.out.trans (hW.mono HB11.out.size)))
  go_upto_region 18 with (go_at_call 11; refine (HT5.out t4 _ (GrS.out.up HT4.out (Nat.le_refl _)) (HJ.out t4 HT4.out) (GrS.out.up HT4.out (Nat.le_refl _))).mono ?_; rintro e wq1 ⟨rfl, hu1⟩)
  have HU1 := Lib.hid (HT4.out.trans (hu1.mono HT4.out.size))
  clear hu1
  go_upto_region 19 with (go_at_call 12; refine (HT6.out wq1 _ (GrD.out.up HU1.out (Nat.le_refl _)) (HJ.out wq1 HU1.out) (GrD.out.up HU1.out (Nat.le_refl _))).mono ?_; rintro e wq2 ⟨rfl, hu2⟩)
  have HU2 := Lib.hid (HU1.out.trans (hu2.mono HU1.out.size))
  clear hu2
  go_upto_region 20 with (go_at_call 13; refine (HT7.out wq2 _ (GrO.out.up HU2.out (Nat.le_refl _)) (HJ.out wq2 HU2.out) (GrO.out.up HU2.out (Nat.le_refl _))).mono ?_; rintro e wq3 ⟨rfl, hu3⟩)
  have HU3 := Lib.hid (HU2.out.trans (hu3.mono HU2.out.size))
  clear hu3
  go_upto_region 21 with (go_at_call 10; refine (HT8.out wq3 _ (GrE.out.up HU3.out (Nat.le_refl _)) (HJ.out wq3 HU3.out) (GrE.out.up HU3.out (Nat.le_refl _))).mono ?_; rintro e wq4 ⟨fv, rfl, hof, hu4⟩; obtain ⟨fa, fc, rfl⟩ := hof.rd.shape)
  have HU4 := Lib.hid (HU3.out.trans (hu4.mono HU3.out.size))
  have HLs := Lib.hid hof.rd
  rw [HEL2.out] at HLs ⊢
  clear hof hu4 HT5 HT6 HT7 HT8
  have k4 : decide (W1 < W2) = false := decide_eq_false (by omega)
  have k5 : decide (M1 < M2) = false := decide_eq_false (by omega)
  obtain ⟨hq0, hq1⟩ : 0 ≤ C2 ∧ C2 ≤ 12 := hc2
  obtain rfl : C2 = (n : Int) - kp := by omega
  have k6 : decide (C1 < (n : Int) - kp) = false := decide_eq_false (by omega)
  have k7 : IntKind.i64.wrap ((n : Int) - ((n : Int) - kp)) = (kp : Int) := by rw [show (n : Int) - ((n : Int) - kp) = kp by omega]; exact IntWalk.i64_in _ (by omega)
  have k8 : ¬ (kp : Int) < (kp : Int) := by omega
  have k9 : ¬ (n : Int) < (kp : Int) := by omega
  clear q1 q2 q3 q4 hq0 hq1
  go_upto_region 23 with fail
  clear k3 k4 k5 k6 k7 k8 k9 GrS GrD GrE HpS HpD HpE HlS HlD HlE HU1 HU2 HU3 HT4
  have hz11 := HU4.out.size
  have HJ5 := Lib.hid (fun W (hW : Below wq4.heap.size wq4 W) => HJ.out W (HU4.out.trans (hW.mono hz11)))
  have HE5 := Lib.hid (fun W (hW : Below wq4.heap.size wq4 W) => GEs.out.up (HU4.out.trans (hW.mono hz11)) (Nat.le_refl _))
  have HO5 := Lib.hid (fun W (hW : Below wq4.heap.size wq4 W) => GrO.out.up (HU4.out.trans (hW.mono hz11)) (Nat.le_refl _))
  have HL5 := Lib.hid (fun W (hW : Below wq4.heap.size wq4 W) => HLs.out.up hW (Nat.le_refl _))
  have HB5 := Lib.hid (fun W (hW : Below wq4.heap.size wq4 W) => HB2.out.trans ((HB11.out.trans ((HU4.out.trans (hW.mono hz11)).mono HB11.out.size)).mono HB2.out.size))
  have HV5 := Lib.hid (fun W (hW : Below wq4.heap.size wq4 W) => hD2.out W (HB11.out.trans ((HU4.out.trans (hW.mono hz11)).mono HB11.out.size)))
  have HSR := Lib.hid (fun k => sumK_rng (js := js) (fun i => (HJA.out i).1) k)
  have HWR := Lib.hid (fun k => owK_rng (js := js) (es := es) (fun i => (HJA.out i).2.2) (fun i => (HJA.out i).2.1.1) HER.out k)
  have HWR2 := Lib.hid (fun k => owK_rng (js := js) (es := ls) (fun i => (HJA.out i).2.2) (fun i => (HJA.out i).2.1.1) HER2.out k)
  have HMR := Lib.hid (fun k => mostK_rng (js := js) (fun i => (HJA.out i).1) HJR.out k)
  clear HJ GEs GrO HLs HU4 hz11 HB11 HB2 hD1 hD2
  go_wp2_with fail
  go_loopw [36, 37, 38, 39, 40] (fun sv ov bv mv iv wr => ∃ k : Nat, iv = .int .i64 k ∧ k ≤ n ∧ sv = .int .i64 (sumK js k) ∧ ov = .int .i64 (owK js es k) ∧ bv = .int .i64 (owK js ls k) ∧ mv = .int .i64 (mostK js k) ∧ Hid (Below wq4.heap.size wq4 wr)) (fun _ _ _ _ iv _ => n + 1 - (intOf iv).toNat)
  case atStart => exact ⟨0, rfl, Nat.zero_le _, rfl, rfl, rfl, rfl, Lib.hid (Below.refl _ _)⟩
  case round =>
    obtain ⟨k, rfl, hk, rfl, rfl, rfl, rfl, HB⟩ := hrel
    obtain ⟨wo, rfl⟩ : ∃ wo, wo = wr := ⟨wr, rfl⟩
    by_cases hlt : k < n
    · have hltI : (k : Int) < (n : Int) := by omega
      obtain ⟨jb, jo, rfl, _, c0, c1, c2, c3⟩ := (HJ5.out wo HB.out).at (i := k) (by rw [HN.out]; exact hlt)
      obtain ⟨eb, eo, rfl, _, ce⟩ := (HE5.out wo HB.out).at (i := k) (by rw [HEL.out]; exact hlt)
      obtain ⟨fb, fo, rfl, _, cl⟩ := (HL5.out wo HB.out).at (i := k) (by rw [HEL2.out]; exact hlt)
      have hja := HJA.out k
      have hjr := HJR.out k
      have hes := HER.out k
      have hls := HER2.out k
      have hsr := HSR.out k
      have hwr := HWR.out k
      have hwr2 := HWR2.out k
      have hmr := HMR.out k
      have e1 : sumK js (k + 1) = sumK js k + (js.getD k J0).long := rfl
      have e2 : owK js es (k + 1) = owK js es k + (js.getD k J0).weight * max 0 (es.getD k 0 - (js.getD k J0).due) := rfl
      have e3 : owK js ls (k + 1) = owK js ls k + (js.getD k J0).weight * max 0 (ls.getD k 0 - (js.getD k J0).due) := rfl
      have e4 : mostK js (k + 1) = max (mostK js k) ((js.getD k J0).ready + (js.getD k J0).long) := rfl
      have hp1 := prod_rng (g := (js.getD k J0).weight) (x := max 0 (es.getD k 0 - (js.getD k J0).due)) hja.2.2 (by omega)
      have hp2 := prod_rng (g := (js.getD k J0).weight) (x := max 0 (ls.getD k 0 - (js.getD k J0).due)) hja.2.2 (by omega)
      obtain ⟨l, hl⟩ : ∃ x, x = (js.getD k J0).long := ⟨_, rfl⟩
      obtain ⟨d, hd⟩ : ∃ x, x = (js.getD k J0).due := ⟨_, rfl⟩
      obtain ⟨g, hg⟩ : ∃ x, x = (js.getD k J0).weight := ⟨_, rfl⟩
      obtain ⟨r, hr⟩ : ∃ x, x = (js.getD k J0).ready := ⟨_, rfl⟩
      obtain ⟨x, hx⟩ : ∃ x, x = es.getD k 0 := ⟨_, rfl⟩
      obtain ⟨y, hy⟩ : ∃ x, x = ls.getD k 0 := ⟨_, rfl⟩
      rw [← hl] at c0 hja e1 e4
      rw [← hd] at c1 hja e2 e3 hp1 hp2
      rw [← hg] at c2 hja e2 e3 hp1 hp2
      rw [← hr] at c3 hjr e4
      rw [← hx] at ce hes e2 hp1
      rw [← hy] at cl hls e3 hp2
      obtain ⟨s, hs⟩ : ∃ x, x = sumK js k := ⟨_, rfl⟩
      obtain ⟨o, ho⟩ : ∃ x, x = owK js es k := ⟨_, rfl⟩
      obtain ⟨b, hb⟩ : ∃ x, x = owK js ls k := ⟨_, rfl⟩
      obtain ⟨m, hm⟩ : ∃ x, x = mostK js k := ⟨_, rfl⟩
      rw [← hs] at e1 hsr ⊢
      rw [← ho] at e2 hwr ⊢
      rw [← hb] at e3 hwr2 ⊢
      rw [← hm] at e4 hmr ⊢
      obtain ⟨z1, hz1⟩ : ∃ z, z = x - d := ⟨_, rfl⟩
      obtain ⟨z2, hz2⟩ : ∃ z, z = y - d := ⟨_, rfl⟩
      rw [← hz1] at e2 hp1
      rw [← hz2] at e3 hp2
      obtain ⟨p1, hpe1⟩ : ∃ z, z = g * max 0 z1 := ⟨_, rfl⟩
      obtain ⟨p2, hpe2⟩ : ∃ z, z = g * max 0 z2 := ⟨_, rfl⟩
      rw [← hpe1] at e2 hp1
      rw [← hpe2] at e3 hp2
      have v1 : IntKind.i64.wrap (s + l) = s + l := IntWalk.i64_in _ (by omega)
      have v2 : IntKind.i64.wrap (x - d) = z1 := by rw [hz1]; exact IntWalk.i64_in _ (by omega)
      have v3 : IntKind.i64.wrap (y - d) = z2 := by rw [hz2]; exact IntWalk.i64_in _ (by omega)
      have v4 : IntKind.i64.wrap (g * max 0 z1) = p1 := by rw [← hpe1]; exact IntWalk.i64_in _ (by omega)
      have v5 : IntKind.i64.wrap (g * max 0 z2) = p2 := by rw [← hpe2]; exact IntWalk.i64_in _ (by omega)
      have v6 : IntKind.i64.wrap (o + p1) = o + p1 := IntWalk.i64_in _ (by omega)
      have v7 : IntKind.i64.wrap (b + p2) = b + p2 := IntWalk.i64_in _ (by omega)
      have v8 : IntKind.i64.wrap (r + l) = r + l := IntWalk.i64_in _ (by omega)
      have E1 := Lib.hid e1
      have E2 := Lib.hid e2
      have E3 := Lib.hid e3
      have E4 := Lib.hid e4
      clear e1 e2 e3 e4 hl hd hg hr hx hy hs ho hb hm hz1 hz2 hpe1 hpe2 hp1 hp2 hsr hwr hwr2 hmr hja hjr hes hls
      go_wp2_with fail
      go_quiet (fail)
      go_wp2_with fail
      go_quiet (fail)
      go_wp2_with fail
      go_quiet (fail)
      go_wp2_with fail
      go_roundw
      case rel => exact ⟨k + 1, by go_num, by omega, by rw [E1.out], by rw [E2.out], by rw [E3.out], by rw [E4.out], Lib.hid (below_drewN HB.out _)⟩
      case measure => simp [intOf]; omega
    · obtain rfl : k = n := by omega
      rw [HQ5.out]
      have hkk : ¬ (k : Int) < (k : Int) := by omega
      have hT := HWR2.out k
      rw [HQ5.out] at hT
      have hS := HSR.out k
      have hM := HMR.out k
      have hW := HWR.out k
      obtain ⟨sm, hsm⟩ : ∃ x, x = sumK js k := ⟨_, rfl⟩
      obtain ⟨ow, how⟩ : ∃ x, x = owK js es k := ⟨_, rfl⟩
      obtain ⟨mo, hmo⟩ : ∃ x, x = mostK js k := ⟨_, rfl⟩
      have g1 : sm ≤ H := by rw [hsm]; exact HH1.out
      have g2 : mo ≤ H := by rw [hmo]; exact HH2.out
      have g3 : T ≤ ow := by rw [how]; exact HQ6.out
      have g4 : es.getD (L.getD (k - 1) 0) 0 = sm := by rw [hsm]; exact HQ8.out
      rw [← hsm, ← how, ← hmo]
      have G1 := Lib.hid g1
      have G2 := Lib.hid g2
      have G3 := Lib.hid g3
      have G4 := Lib.hid g4
      clear hT hS hM hW hsm how hmo g1 g2 g3 g4
      go_wp2_with fail
      go_loopw [41, 42, 43] (fun iv _ _ wr => ∃ i : Nat, iv = .int .i64 i ∧ i ≤ kp ∧ Hid (Below wq4.heap.size wq4 wr)) (fun iv _ _ _ => kp + 1 - (intOf iv).toNat)
      case atStart => exact ⟨0, rfl, Nat.zero_le _, HB⟩
      case round =>
        obtain ⟨i, rfl, hi, HBI⟩ := hrel
        obtain ⟨wi, rfl⟩ : ∃ wi, wi = wr := ⟨wr, rfl⟩
        by_cases hik : i < kp
        · have hikI : (i : Int) < (kp : Int) := by omega
          have hq := HQ7.out i hik
          obtain ⟨hko1, _⟩ := HKO.out i (by rw [HKP.out]; exact hik)
          have hin : i < O.length := by rw [← idxs_len, HlO.out]; omega
          have hxn : O.getD i 0 < k := List.mem_range.1 (HpO.out.mem_iff.1 (getD_in hin))
          rw [hko1] at hq
          obtain ⟨x, hx⟩ : ∃ x, x = O.getD i 0 := ⟨_, rfl⟩
          have HXI := Lib.hid (idxs_at O i hin)
          rw [← hx] at hq hxn HXI
          have HQI := Lib.hid hq
          clear hq hx hko1
          go_wp2_with fail
          go_loopw [42, 43] (fun ev cv wr => ∃ c : Nat, cv = .int .i64 c ∧ c ≤ i + 1 ∧ ev = .int .i64 (sumF (longK js) (K.take c)) ∧ Hid (Below wq4.heap.size wq4 wr)) (fun _ cv _ => i + 2 - (intOf cv).toNat)
          case atStart => exact ⟨0, rfl, Nat.zero_le _, rfl, HBI⟩
          case round =>
            obtain ⟨c, rfl, hc, rfl, HBC⟩ := hrel
            obtain ⟨wc, rfl⟩ : ∃ wc, wc = wr := ⟨wr, rfl⟩
            have hrg := sumF_rng (f := longK js) (a := K.take c) (fun x _ => (HJA.out x).1)
            have hcl : (K.take c).length ≤ 7 := by rw [List.length_take]; omega
            by_cases hci : c ≤ i
            · have hciI : (c : Int) ≤ (i : Int) := by omega
              have hcn : c < O.length := by omega
              obtain ⟨hko2, _⟩ := HKO.out c (by rw [HKP.out]; omega)
              have hyn : O.getD c 0 < k := List.mem_range.1 (HpO.out.mem_iff.1 (getD_in hcn))
              have e1 : sumF (longK js) (K.take (c + 1)) = sumF (longK js) (K.take c) + (js.getD (O.getD c 0) J0).long := by
                rw [take_snoc (by rw [HKP.out]; omega), sumF_app, hko2]
                simp [sumF, longK]
              obtain ⟨tb, to2, rfl, _, ct⟩ := (HO5.out wc HBC.out).at (i := c) (by rw [idxs_len]; exact hcn)
              rw [idxs_at O c hcn] at ct
              obtain ⟨y, hy⟩ : ∃ y, y = O.getD c 0 := ⟨_, rfl⟩
              rw [← hy] at ct hyn e1
              have hynI : (y : Int) < (k : Int) := by omega
              obtain ⟨jb, jo, rfl, _, c0, _⟩ := (HJ5.out wc HBC.out).at (i := y) (by rw [HN.out]; exact hyn)
              have hja := (HJA.out y).1
              obtain ⟨l, hl⟩ : ∃ l, l = (js.getD y J0).long := ⟨_, rfl⟩
              obtain ⟨s, hs⟩ : ∃ s, s = sumF (longK js) (K.take c) := ⟨_, rfl⟩
              rw [← hl] at c0 e1 hja
              rw [← hs] at e1 hrg ⊢
              have v1 : IntKind.i64.wrap (s + l) = s + l := IntWalk.i64_in _ (by omega)
              have E1 := Lib.hid e1
              clear e1 hl hs hy hja hrg hko2 hcl
              go_wp2_with fail
              go_roundw
              case rel => exact ⟨c + 1, by go_num, by omega, by rw [E1.out], HBC⟩
              case measure => simp [intOf]; omega
            · obtain rfl : c = i + 1 := by omega
              have hci2 : ¬ ((i + 1 : Nat) : Int) ≤ (i : Int) := by omega
              obtain ⟨tb, to2, rfl, _, ct⟩ := (HO5.out wc HBC.out).at (i := i) (by rw [idxs_len]; exact hin)
              rw [HXI.out] at ct
              have hxnI : (x : Int) < (k : Int) := by omega
              obtain ⟨jb, jo, rfl, _, _, c1, _⟩ := (HJ5.out wc HBC.out).at (i := x) (by rw [HN.out]; exact hxn)
              have hqi : sumF (longK js) (K.take (i + 1)) ≤ (js.getD x J0).due := HQI.out
              obtain ⟨d, hd⟩ : ∃ d, d = (js.getD x J0).due := ⟨_, rfl⟩
              obtain ⟨s, hs⟩ : ∃ s, s = sumF (longK js) (K.take (i + 1)) := ⟨_, rfl⟩
              rw [← hd] at c1 hqi
              rw [← hs] at hqi ⊢
              have hqd : ¬ d < s := by omega
              clear hd hs hrg hcl
              go_wp2_with fail
              go_roundw
              case rel => exact ⟨i + 1, by go_num, by omega, HBC⟩
              case measure => simp [intOf]; omega
        · obtain rfl : i = kp := by omega
          have hii : ¬ (i : Int) < (i : Int) := by omega
          obtain ⟨j, hj⟩ : ∃ j, k = j + 1 := ⟨k - 1, by omega⟩
          have hg4 := G4.out
          have ho := HOR.out (k - 1) (by omega)
          have ej : k - 1 = j := by omega
          rw [ej] at hg4 ho
          have hjl : j < L.length := by rw [← idxs_len, HLl.out]; omega
          obtain ⟨vb, vo, rfl, _, cv⟩ := (HV5.out wi HBI.out).at (i := j) (by rw [HLl.out]; omega)
          rw [idxs_at L j hjl] at cv
          obtain ⟨x, hx⟩ : ∃ x, x = L.getD j 0 := ⟨_, rfl⟩
          rw [← hx] at cv hg4 ho
          obtain ⟨eb, eo, rfl, _, ce⟩ := (HE5.out wi HBI.out).at (i := x) (by rw [HEL.out]; exact ho)
          rw [hg4] at ce
          have hxI : (x : Int) < (k : Int) := by omega
          have hjI : (j : Int) < (k : Int) := by omega
          have hw : IntKind.i64.wrap ((k : Int) - 1) = (j : Int) := by rw [show (k : Int) - 1 = (j : Int) by omega]; exact IntWalk.i64_in _ (by omega)
          have q1 : (sm == sm) = true := by simp
          have q2 : (T == T) = true := by simp
          have q3 : decide (T ≤ ow) = true := decide_eq_true G3.out
          have q4 : decide (sm ≤ H) = true := decide_eq_true G1.out
          have q5 : decide (mo ≤ H) = true := decide_eq_true G2.out
          have HBF := Lib.hid (HB5.out wi HBI.out)
          clear hj ej hg4 ho hx hjl
          go_wp2_with fail
          go_ret
          exact ⟨rfl, HBF.out⟩

end Go.Proofs.Ytfdaifmfecfchaa

namespace Go.Proofs.Ytfdaifmfecfchaa
open Go.ChangeShapes Go.WideShapes Go.ChangeAt Go.RowKit
set_option linter.unusedVariables false

section
variable {H : Type} {enc : TypeId × Value → H} {w : World} {base : Nat} {spare : Nat → Bool} {held : Bool}

theorem cells_u8 : Try.prog.cellsOf 5 = 1 := by kernel_rfl

set_option maxRecDepth 100000 in
theorem trod_B {fuel : Nat} {cs : List Value} {x : DataW H × List MemPlace} (h : DataW.trod enc Try.prog w base spare held fuel 22 cs = some x) : ∃ v zs, cs = [v] ∧ RdB w v zs ∧ WfB zs := by
  rcases open_ints Try.underlying22 Try.underlying5 cells_u8 h with ⟨rfl, _⟩ | ⟨a, len, cap, zs, rfl, _, hl, hm, hz, _, hcell, hwz⟩
  · exact ⟨_, [], rfl, .inl ⟨rfl, rfl⟩, by intro z hz; simp at hz⟩
  · have hle : len ≤ zs.length := by rw [hz]; split <;> omega
    refine ⟨_, zs.take len, rfl, .inr ⟨a, cap, by simp [Nat.min_eq_left hle], by simp; omega, hm, ?_⟩, fun z hz' => bounds_u8 (hwz z (List.mem_of_mem_take hz'))⟩
    intro i u hi
    have hlt : i < len := by
      have := (List.getElem?_eq_some_iff.1 hi).1
      simp at this; omega
    have h2 := hcell i (by omega)
    rw [h2, ← hi]
    simp [B8, List.getElem?_take, hlt, show i < zs.length by omega]

set_option maxRecDepth 100000 in
theorem arg_B {r : Reach} {b0 : Nat} {v : Value} {d : DataW H} {p : List MemPlace} (hv : Value.okWide Try.prog w r b0 22 v) (h : DataW.Trod enc Try.prog w base spare held 22 v d p) : ∃ zs, RdB w v zs ∧ WfB zs := by
  obtain ⟨a, len, cap, rfl⟩ := okWide_slice Try.underlying22 hv
  obtain ⟨fuel, hf⟩ := h
  obtain ⟨v, zs, e, h1, h2⟩ := trod_B hf
  simp [Value.cells] at e
  subst e
  exact ⟨zs, h1, h2⟩
end
end Go.Proofs.Ytfdaifmfecfchaa
