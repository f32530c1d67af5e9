/-
  FnSpans: texts joined: LFnSpans, OpenB.
-/
import Derived.Deep.Cut
import Derived.Test.YtkfiepiipigcmaaMFnSpansAM
import Derived.Test.YtkfiepiipigcmaaMFnSpansAN
import Derived.Test.YtkfiepiipigcmaaMFnSpansAO
import Derived.Test.YtkfiepiipigcmaaMFnSpansAP
namespace Go.Proofs.Ytkfiepiipigcmaa
open Go.RowKit Go.Sort

def evenK (ps : List SpanD) (k : Nat) : List SpanD := (evenP ps).take k
theorem evenK_succ (ps : List SpanD) (k : Nat) (h : k < ps.length) : evenK ps (k + 1) = evenK ps k ++ [⟨(ps.getD k P0).start, (ps.getD k P0).stop, 1⟩] := by
  have e := evenP_at h
  have hl : k < (evenP ps).length := by rw [evenP_len]; exact h
  unfold evenK
  rw [List.take_add_one, List.getElem?_eq_getElem hl]
  rw [List.getD_eq_getElem?_getD, List.getElem?_eq_getElem hl] at e
  simp only [Option.getD_some] at e
  rw [e]
  rfl
theorem evenK_len (ps : List SpanD) (k : Nat) (h : k ≤ ps.length) : (evenK ps k).length = k := by
  unfold evenK
  rw [List.length_take, evenP_len]
  omega
theorem evenK_all (ps : List SpanD) : evenK ps ps.length = evenP ps := by
  unfold evenK
  rw [List.take_of_length_le (by rw [evenP_len]; exact Nat.le_refl _)]
/-- The sum of the gains of the first ones of a list. -/
theorem sumG_take (ga : Nat → Int) (L : List Nat) (k : Nat) (h : k < L.length) : sumG ga (L.take (k + 1)) = sumG ga (L.take k) + ga (L.getD k 0) := by
  rw [List.take_add_one, List.getElem?_eq_getElem h, sumG_app, List.getD_eq_getElem?_getD, List.getElem?_eq_getElem h]
  simp [sumG]
theorem sumG_rng (ga : Nat → Int) (h : ∀ x, 0 ≤ ga x ∧ ga x ≤ 1000) : ∀ L : List Nat, 0 ≤ sumG ga L ∧ sumG ga L ≤ 1000 * L.length
  | [] => by simp [sumG]
  | x :: r => by
    have := sumG_rng ga h r
    have := h x
    simp only [sumG, List.length_cons]
    omega

theorem idxs_at {L : List Nat} {i : Nat} (h : i < L.length) : (idxs L).getD i 0 = (L.getD i 0 : Int) := by
  unfold idxs
  rw [List.getD_eq_getElem?_getD, List.getElem?_map, List.getD_eq_getElem?_getD, List.getElem?_eq_getElem h]
  rfl

set_option maxHeartbeats 4000000 in
set_option maxRecDepth 100000 in
theorem lawFnSpans_any (w : World) (v0 : Value) (z0 : List Int) (r0 : RdB w v0 z0) (f0 : WfB z0) (v1 : Value) (z1 : List Int) (r1 : RdB w v1 z1) (f1 : WfB z1) :
    Calls Try.prog 5 #[v0, v1] w fun e w' => e = .returned (.bool true) ∧ Below w.heap.size w w' := by
  obtain ⟨a0, c0, rfl⟩ := r0.shape
  obtain ⟨a1, c1, rfl⟩ := r1.shape
  have HR0 := Lib.hid r0
  have HR1 := Lib.hid r1
  have HF0 := Lib.hid f0
  have HF1 := Lib.hid f1
  clear r0 r1 f0 f1
  have HLG := Lib.hid (r8Long_any (.slice a0 z0.length c0) (.slice a1 z1.length c1) z0 z1 w HR0.out HR1.out)
  obtain ⟨q, hq⟩ : ∃ q, isLong8 z0 z1 = q := ⟨_, rfl⟩
  rw [hq] at HLG
  clear hq
  go_enter Try.func5, Try.ntmps5
  cases q
  case true =>
    go_wp2_with (go_at_call 20; refine HLG.out.mono ?_; rintro e w' ⟨rfl, rfl⟩)
    go_ret
    exact ⟨rfl, Below.refl _ _⟩
  go_upto_region 3 with (go_at_call 20; refine HLG.out.mono ?_; rintro e w' ⟨rfl, rfl⟩)
  clear HLG
  go_upto_region 4 with (go_at_call 21; refine (r8At_any (.slice a1 z1.length c1) z1 40 8 w HR1.out HF1.out (by omega) (by omega) (by omega) (by omega)).mono ?_; rintro e w' ⟨r, hr0, hr1, rfl, rfl⟩)
  obtain ⟨n, hn⟩ : ∃ n : Nat, (n : Int) = 1 + r := ⟨(1 + r).toNat, by omega⟩
  have hn1 : 1 ≤ n := by omega
  have hn8 : n ≤ 8 := by omega
  rw [← hn]
  clear hn hr0 hr1
  go_upto_region 5 with (go_at_call 22; refine (R8Spans_any (.slice a0 z0.length c0) z0 w HR0.out HF0.out n hn1 (by omega)).mono ?_; rintro e w1 ⟨ps, sv, hl, ha, rfl, ho, hb⟩)
  obtain ⟨sa, sc, rfl⟩ := ho.rd.shape
  have HLN := Lib.hid hl
  have HA := Lib.hid ha
  have HP := Lib.hid ho.rd
  have HB1 := Lib.hid hb
  clear ho hb HR0 HR1 HF0 HF1
  obtain rfl := hl
  have HP1 := Lib.hid (fun W (hW : Below w1.heap.size w1 W) => HP.out.up hW (Nat.le_refl _))
  go_upto_region 6 with (go_at_call 12; refine (mostI_any _ ps w1 HP.out).mono ?_; rintro e w2 ⟨mv, rfl, hom, hb2⟩; obtain ⟨ma, mc, rfl⟩ := hom.rd.shape)
  go_upto_region 7 with (go_at_call 19; refine (bestI_any _ ps w2 (HP1.out _ hb2)).mono ?_; rintro e w3 ⟨bv, rfl, hob, hb3⟩; obtain ⟨ba, bc, rfl⟩ := hob.rd.shape)
  have hb13 := hb2.trans (hb3.mono hb2.size)
  go_upto_region 8 with (go_at_call 23; refine (roomsI_any _ ps w3 (HP1.out _ hb13)).mono ?_; rintro e w4 ⟨rv, rfl, hor, hb4⟩; obtain ⟨ra, rc, rfl⟩ := hor.rd.shape)
  have hb14 := hb13.trans (hb4.mono hb13.size)
  have HB14 := Lib.hid hb14
  have HMR := Lib.hid ((hom.rd.up hb3 (Nat.le_refl _)).up hb4 (Nat.le_refl _))
  have HBR := Lib.hid (hob.rd.up hb4 (Nat.le_refl _))
  have HRR := Lib.hid hor.rd
  clear hom hob hor hb2 hb3 hb4 hb13 hb14
  obtain ⟨n, hn⟩ : ∃ n, n = ps.length := ⟨_, rfl⟩
  have hfc := most_facts HA.out
  obtain ⟨M, hM⟩ : ∃ M, M = setL ps.length (mostS ps) := ⟨_, rfl⟩
  obtain ⟨B, hB⟩ : ∃ B, B = setL ps.length (bspT ps) := ⟨_, rfl⟩
  obtain ⟨R, hR⟩ : ∃ R, R = roomsL ps := ⟨_, rfl⟩
  obtain ⟨G, hG⟩ : ∃ G, G = bspG ps := ⟨_, rfl⟩
  obtain ⟨C, hC⟩ : ∃ C, C = roomsN ps := ⟨_, rfl⟩
  obtain ⟨m, hm⟩ : ∃ m, m = M.length := ⟨_, rfl⟩
  obtain ⟨b, hb⟩ : ∃ b, b = B.length := ⟨_, rfl⟩
  have eM : mostL ps = idxs M := by unfold mostL; rw [if_pos HA.out, hM]
  have eB : bspL ps = idxs B := by unfold bspL; rw [if_pos HA.out, hB]
  have lM : (mostL ps).length = m := by rw [eM, idxs_len, hm]
  have lB : (bspL ps).length = b := by rw [eB, idxs_len, hb]
  have lR : (roomsL ps).length = n := by rw [rooms_len HA.out, hn]
  have hm1 : 1 ≤ m := by rw [hm, hM, most_len HA.out]; exact hfc.2.2.2
  have hm8 : m ≤ 8 := by
    rw [hm, hM]
    unfold setL
    have := List.length_filter_le (fun i => (mostS ps).contains i) (List.range ps.length)
    rw [List.length_range] at this
    omega
  have hb8 : b ≤ 8 := by
    rw [hb, hB]
    unfold setL
    have := List.length_filter_le (fun i => (bspT ps).contains i) (List.range ps.length)
    rw [List.length_range] at this
    omega
  have c1 : ∀ x, x < ps.length → stK ps x = (ps.getD x P0).start := fun x hx => by unfold stK; rw [Nat.mod_eq_of_lt hx]
  have c2 : ∀ x, x < ps.length → toK ps x = (ps.getD x P0).stop := fun x hx => by unfold toK; rw [Nat.mod_eq_of_lt hx]
  have HMA := Lib.hid (show ApartL M ps by
    subst hM
    refine ⟨fun k hk => setL_in hk, fun k h0 hk => setL_step h0 hk, fun i k hik hk => ?_⟩
    have := setL_apart hfc.1 hfc.2.1 hfc.2.2.1 hik hk
    rw [c1 _ (setL_in (Nat.lt_trans hik hk)), c1 _ (setL_in hk), c2 _ (setL_in hk), c2 _ (setL_in (Nat.lt_trans hik hk))] at this
    exact this)
  have HBA := Lib.hid (show ApartL B ps by
    subst hB
    refine ⟨fun k hk => setL_in hk, fun k h0 hk => setL_step h0 hk, fun i k hik hk => ?_⟩
    have := setL_apart (bspT_nodup ps) (bspT_lt ps) bsp_apart hik hk
    rw [c1 _ (setL_in (Nat.lt_trans hik hk)), c1 _ (setL_in hk), c2 _ (setL_in hk), c2 _ (setL_in (Nat.lt_trans hik hk))] at this
    exact this)
  have HG2 := Lib.hid (show bspG (evenP ps) = (m : Int) by rw [even_gain HA.out, hm, hM, most_len HA.out])
  have HEO := Lib.hid (even_ok HA.out)
  have HSB := Lib.hid (show sumG (gaK ps) B = G by rw [hB, hG]; exact bsp_sum HA.out)
  have HSM := Lib.hid (show sumG (gaK ps) M ≤ G by rw [hM, hG]; exact most_sum HA.out)
  have HONE := Lib.hid (show ∀ i, i < n → (ps.getD i P0).gain ≤ G from fun i hi => by rw [hG]; exact bsp_one HA.out (by omega))
  have hC1 : 1 ≤ C := by rw [hC]; exact (rooms_cnt HA.out).1
  have hCn : C ≤ n := by rw [hC, hn]; exact (rooms_cnt HA.out).2
  have HRNG := Lib.hid (show ∀ i, i < n → 0 ≤ R.getD i 0 ∧ R.getD i 0 < C from fun i hi => by rw [hR, hC]; exact room_rng HA.out (by omega))
  have HMEET := Lib.hid (show ∀ i k, i < n → k < n → i ≠ k → R.getD i 0 = R.getD k 0 → ¬ ((ps.getD i P0).start < (ps.getD k P0).stop ∧ (ps.getD k P0).start < (ps.getD i P0).stop) from fun i k h1 h2 h3 h4 => by
    rw [hR] at h4
    exact room_meet HA.out (by omega) (by omega) h3 h4)
  have HDEP := Lib.hid (show dpM ps n = C by rw [hn, hC]; exact depth_is HA.out)
  have HGAR := Lib.hid (fun x => gaK_rng HA.out x)
  have HGA := Lib.hid (show ∀ x, x < n → gaK ps x = (ps.getD x P0).gain from fun x hx => by unfold gaK; rw [Nat.mod_eq_of_lt (by omega)])
  rw [eM] at HMR
  rw [eB] at HBR
  rw [← hR] at HRR lR
  rw [show (idxs M).length = m by rw [← eM]; exact lM] at HMR
  rw [show (idxs B).length = b by rw [← eB]; exact lB] at HBR
  rw [lR] at HRR
  have HML := Lib.hid hm.symm
  have HBL := Lib.hid hb.symm
  have HRL := Lib.hid lR
  have HN := Lib.hid hn.symm
  rw [← hG, ← hC, ← hR, lM, lB, lR, ← hn]
  rw [← hn] at HP HP1 hn1 hn8
  clear hfc hM hB hR hG hC hm hb eM eB lM lB lR c1 c2 hn HLN
  have HEV := Lib.hid (show ∀ k, k < n → evenK ps (k + 1) = evenK ps k ++ [⟨(ps.getD k P0).start, (ps.getD k P0).stop, 1⟩] from fun k hk => evenK_succ ps k (by rw [HN.out]; exact hk))
  have HEA := Lib.hid (show evenK ps n = evenP ps by rw [← HN.out]; exact evenK_all ps)
  have HEL := Lib.hid (show (evenP ps).length = n by rw [evenP_len]; exact HN.out)
  have hz14 := HB14.out.size
  go_wp2_with fail
  go_loopw [15, 16] (fun ov iv wr => ∃ (k : Nat) (oa : Option Addr) (oc : Nat), iv = .int .i64 k ∧ k ≤ n ∧ ov = .slice oa k oc ∧ Hid (wr.ownsRow w4.heap.size 41 3 (.slice oa k oc) k (spansC (evenK ps k))) ∧ Hid (Below w4.heap.size w4 wr)) (fun _ iv _ => n + 1 - (intOf iv).toNat)
  case atStart => exact ⟨0, _, 0, rfl, Nat.zero_le _, rfl, Lib.hid (ownP_empty _ _ rfl), Lib.hid ((Below.refl _ _).alloc (Nat.le_refl _) _)⟩
  case round =>
    obtain ⟨k, oa, oc, rfl, hk, rfl, HO, HB⟩ := hrel
    obtain ⟨wo, rfl⟩ : ∃ wo, wo = wr := ⟨wr, rfl⟩
    have hszo := HB.out.size
    by_cases hlt : k < n
    · have hltI : (k : Int) < (n : Int) := by omega
      obtain ⟨pb, po, rfl, _, d0, d1, _⟩ := (HP1.out wo (HB14.out.trans (HB.out.mono hz14))).at (i := k) (by rw [HN.out]; exact hlt)
      obtain ⟨f, hf⟩ : ∃ f, f = (ps.getD k P0).start := ⟨_, rfl⟩
      obtain ⟨g, hg⟩ : ∃ f, f = (ps.getD k P0).stop := ⟨_, rfl⟩
      have HE := Lib.hid (HEV.out k hlt)
      rw [← hf, ← hg] at HE
      rw [← hf] at d0
      rw [← hg] at d1
      clear hf hg
      go_wp2_with fail
      go_region_law (refine step_app_span rfl (.tmp 60) (.tmp 72) rfl w4.heap.size (.slice oa k oc) k (evenK ps k) (by simp [Act.eval, Act.put]) (by first | exact ownsK_below HO.out (((Below.refl _ _).drew).alloc (Nat.le_refl _) _) (Nat.le_refl _) | exact ownsK_below HO.out (((Below.refl _ _).alloc (Nat.le_refl _) _).drew) (Nat.le_refl _)) ⟨f, g, 1⟩ wo.heap.size (by first | exact Blk.new wo.drew _ _ | exact Blk.new wo _ _ | exact (Blk.new wo _ _).drew) (by simp [Act.eval, Act.put]) (k + 1) (evenK ps (k + 1)) rfl HE.out (by omega) (by simp; omega) ?_; intro b3 c3 w5 hown5 hbl5)
      all_goals
        go_wp2_with fail
        go_roundw
        case rel => exact ⟨k + 1, b3, c3, by go_num, by omega, rfl, Lib.hid hown5, Lib.hid (HB.out.trans ((((Below.refl _ _).alloc hszo _).drew).trans hbl5))⟩
        case measure => simp [intOf]; omega
    · obtain rfl : k = n := by omega
      have HPE := Lib.hid (show RdP wo (.slice oa k oc) (evenP ps) by
        have ho := HO.out
        rw [HEA.out] at ho
        have ho2 : wo.ownsRow w4.heap.size 41 3 (.slice oa (evenP ps).length oc) (evenP ps).length (spansC (evenP ps)) := by rw [HEL.out]; exact ho
        have := (OwnP.mk ho2).rd
        rw [HEL.out] at this
        exact this)
      have hkk : ¬ (k : Int) < (k : Int) := by omega
      go_upto_region 14 with (go_at_call 19; refine (bestI_any _ (evenP ps) wo HPE.out).mono ?_; rintro e w6 ⟨ev, rfl, hoe, hb6⟩)
      have HB6 := Lib.hid (HB.out.trans (hb6.mono hszo))
      rw [HG2.out, HEO.out]
      clear hoe hb6 HO HPE hkk
      have k1 : ((m : Int) != (m : Int)) = false := by simp
      have k2 : decide ((m : Int) < 1) = false := decide_eq_false (by omega)
      have k3 : ((k : Int) != (k : Int)) = false := by simp
      have k4 : decide (C < 1) = false := decide_eq_false (by omega)
      have k5 : decide ((k : Int) < C) = false := decide_eq_false (by omega)
      have HBX := Lib.hid (fun W (hW : Below w4.heap.size w4 W) => HP1.out W (HB14.out.trans (hW.mono hz14)))
      have hz6 := HB6.out.size
      have HAS := Lib.hid (fun W (hW : Below w4.heap.size w4 W) => AreSpans_any (.slice sa k sc) ps W (HBX.out W hW))
      rw [HA.out] at HAS
      go_upto_region 16 with (first
        | (go_at_call 24; refine (HAS.out w6 HB6.out).mono ?_; rintro e w7 ⟨rfl, hb7⟩; have HB7 := Lib.hid (HB6.out.trans (hb7.mono hz6)))
        | (go_at_call_of 25 ma; refine (r8Apart_any ma m mc M (.slice sa k sc) ps w7 HML.out (by omega) (HMR.out.up HB7.out (Nat.le_refl _)) (HBX.out w7 HB7.out) HMA.out).mono ?_; rintro e w8 ⟨rfl, hb8⟩; have HB8 := Lib.hid (HB7.out.trans (hb8.mono HB7.out.size)))
        | (go_at_call_of 25 ba; refine (r8Apart_any ba b bc B (.slice sa k sc) ps w8 HBL.out (by omega) (HBR.out.up HB8.out (Nat.le_refl _)) (HBX.out w8 HB8.out) HBA.out).mono ?_; rintro e w9 ⟨rfl, hb9⟩; have HB9 := Lib.hid (HB8.out.trans (hb9.mono HB8.out.size)))
        | fail)
      clear k1 k2 k3 k4 k5 HAS hb7 hb8 hb9 HB8 HB7 HB6 hz6
      go_wp2_with fail
      go_loopw [20, 21] (fun sv iv wr => ∃ i : Nat, iv = .int .i64 i ∧ i ≤ b ∧ sv = .int .i64 (sumG (gaK ps) (B.take i)) ∧ Hid (Below w4.heap.size w4 wr)) (fun _ iv _ => b + 1 - (intOf iv).toNat)
      case atStart => exact ⟨0, rfl, Nat.zero_le _, rfl, HB9⟩
      case round =>
        obtain ⟨i, rfl, hi, rfl, HBI⟩ := hrel
        obtain ⟨wi, rfl⟩ : ∃ wi, wi = wr := ⟨wr, rfl⟩
        by_cases hib : i < b
        · have hibI : (i : Int) < (b : Int) := by omega
          have hil : i < B.length := by rw [HBL.out]; exact hib
          obtain ⟨xb, xo, rfl, _, hx⟩ := (HBR.out.up HBI.out (Nat.le_refl _)).at (i := i) (by rw [idxs_len]; exact hil)
          rw [idxs_at hil] at hx
          have hs := sumG_take (gaK ps) B i hil
          have hxn := HBA.out.lt i hil
          obtain ⟨x, hxe⟩ : ∃ x, x = B.getD i 0 := ⟨_, rfl⟩
          rw [← hxe] at hx hs hxn
          have hxI : (x : Int) < (k : Int) := by rw [HN.out] at hxn; omega
          obtain ⟨pb, po, rfl, _, _, _, d2⟩ := (HBX.out wi HBI.out).at hxn
          rw [← HGA.out x (by rw [HN.out] at hxn; exact hxn)] at d2
          have hg := HGAR.out x
          have hr := sumG_rng (gaK ps) HGAR.out (B.take i)
          have hl8 : (B.take i).length ≤ 8 := by rw [List.length_take]; omega
          obtain ⟨g, hge⟩ : ∃ g, g = gaK ps x := ⟨_, rfl⟩
          obtain ⟨s, hse⟩ : ∃ s, s = sumG (gaK ps) (B.take i) := ⟨_, rfl⟩
          rw [← hge] at d2 hg hs
          rw [← hse] at hr hs ⊢
          have HS := Lib.hid hs
          have hr1 : 0 ≤ s ∧ s ≤ 8000 := by omega
          have hw : IntKind.i64.wrap (s + g) = s + g := IntWalk.i64_in _ (by omega)
          clear hs hge hse hxe hr
          go_wp2_with fail
          go_roundw
          case rel => exact ⟨i + 1, by go_num, by omega, by rw [HS.out], HBI⟩
          case measure => simp [intOf]; omega
        · obtain rfl : i = b := by omega
          have HT := Lib.hid (show B.take i = B from List.take_of_length_le (by rw [HBL.out]; exact Nat.le_refl _))
          rw [HT.out]
          rw [HSB.out]
          go_wp2_with fail
          go_loopw [22, 23] (fun sv iv wr => ∃ i : Nat, iv = .int .i64 i ∧ i ≤ m ∧ sv = .int .i64 (sumG (gaK ps) (M.take i)) ∧ Hid (Below w4.heap.size w4 wr)) (fun _ iv _ => m + 1 - (intOf iv).toNat)
          case atStart => exact ⟨0, rfl, Nat.zero_le _, rfl, HBI⟩
          case round =>
            obtain ⟨i, rfl, hi, rfl, HBI⟩ := hrel
            obtain ⟨wi, rfl⟩ : ∃ wi, wi = wr := ⟨wr, rfl⟩
            by_cases hib : i < m
            · have hibI : (i : Int) < (m : Int) := by omega
              have hil : i < M.length := by rw [HML.out]; exact hib
              obtain ⟨xb, xo, rfl, _, hx⟩ := (HMR.out.up HBI.out (Nat.le_refl _)).at (i := i) (by rw [idxs_len]; exact hil)
              rw [idxs_at hil] at hx
              have hs := sumG_take (gaK ps) M i hil
              have hxn := HMA.out.lt i hil
              obtain ⟨x, hxe⟩ : ∃ x, x = M.getD i 0 := ⟨_, rfl⟩
              rw [← hxe] at hx hs hxn
              have hxI : (x : Int) < (k : Int) := by rw [HN.out] at hxn; omega
              obtain ⟨pb, po, rfl, _, _, _, d2⟩ := (HBX.out wi HBI.out).at hxn
              rw [← HGA.out x (by rw [HN.out] at hxn; exact hxn)] at d2
              have hg := HGAR.out x
              have hr := sumG_rng (gaK ps) HGAR.out (M.take i)
              have hl8 : (M.take i).length ≤ 8 := by rw [List.length_take]; omega
              obtain ⟨g, hge⟩ : ∃ g, g = gaK ps x := ⟨_, rfl⟩
              obtain ⟨s, hse⟩ : ∃ s, s = sumG (gaK ps) (M.take i) := ⟨_, rfl⟩
              rw [← hge] at d2 hg hs
              rw [← hse] at hr hs ⊢
              have HS := Lib.hid hs
              have hr1 : 0 ≤ s ∧ s ≤ 8000 := by omega
              have hw : IntKind.i64.wrap (s + g) = s + g := IntWalk.i64_in _ (by omega)
              clear hs hge hse hxe hr
              go_wp2_with fail
              go_roundw
              case rel => exact ⟨i + 1, by go_num, by omega, by rw [HS.out], HBI⟩
              case measure => simp [intOf]; omega
            · obtain rfl : i = m := by omega
              have HT := Lib.hid (show M.take i = M from List.take_of_length_le (by rw [HML.out]; exact Nat.le_refl _))
              rw [HT.out]
              have HSM2 := Lib.hid HSM.out
              obtain ⟨P, hP⟩ : ∃ P, P = sumG (gaK ps) M := ⟨_, rfl⟩
              rw [← hP] at HSM ⊢
              clear hP HSM2
              have hPG := HSM.out
              clear HSM
              go_wp2_with fail
              go_loopw [24, 25] (fun dv iv wr => ∃ i : Nat, iv = .int .i64 i ∧ i ≤ k ∧ dv = .int .i64 (dpM ps i) ∧ Hid (Below w4.heap.size w4 wr)) (fun _ iv _ => k + 1 - (intOf iv).toNat)
              case atStart => exact ⟨0, rfl, Nat.zero_le _, rfl, HBI⟩
              case round =>
                obtain ⟨i, rfl, hi, rfl, HBD⟩ := hrel
                obtain ⟨wd, rfl⟩ : ∃ wd, wd = wr := ⟨wr, rfl⟩
                by_cases hik : i < k
                · have hikI : (i : Int) < (k : Int) := by omega
                  obtain ⟨⟨fi, ti, gi⟩, hsi⟩ : ∃ q, q = ps.getD i P0 := ⟨_, rfl⟩
                  obtain ⟨ri, hri⟩ : ∃ q, q = R.getD i 0 := ⟨_, rfl⟩
                  have hrr := HRNG.out i hik
                  rw [← hri] at hrr
                  have hgg := HONE.out i hik
                  rw [← hsi] at hgg
                  simp only at hgg
                  have HSI := Lib.hid hsi.symm
                  have HRI := Lib.hid hri.symm
                  have HDM := Lib.hid (show dpM ps (i + 1) = max (dpM ps i) (deepC ps i k : Nat) by simp only [dpM]; rw [HN.out])
                  clear hsi hri
                  go_wp2_with fail
                  go_loopw [26, 27] (fun av iv wr => ∃ x : Nat, iv = .int .i64 x ∧ x ≤ k ∧ av = .int .i64 (deepC ps i x : Nat) ∧ Hid (Below w4.heap.size w4 wr)) (fun _ iv _ => k + 1 - (intOf iv).toNat)
                  case atStart => exact ⟨0, rfl, Nat.zero_le _, rfl, HBD⟩
                  case round =>
                    obtain ⟨x, rfl, hx, rfl, HBX2⟩ := hrel
                    obtain ⟨wx, rfl⟩ : ∃ wx, wx = wr := ⟨wr, rfl⟩
                    obtain ⟨pb, po, rfl, _, c0, c1, c2⟩ := (HBX.out wx HBX2.out).at (i := i) (by rw [HN.out]; exact hik)
                    obtain ⟨rb, ro, rfl, _, cr⟩ := (HRR.out.up HBX2.out (Nat.le_refl _)).at (i := i) (by rw [HRL.out]; exact hik)
                    rw [HSI.out] at c0 c1 c2
                    rw [HRI.out] at cr
                    simp only at c0 c1 c2
                    by_cases hxk : x < k
                    · have hxkI : (x : Int) < (k : Int) := by omega
                      obtain ⟨pb2, po2, ee, _, d0, d1, _⟩ := (HBX.out wx HBX2.out).at (i := x) (by rw [HN.out]; exact hxk)
                      simp only [Option.some.injEq, Addr.mk.injEq, and_true] at ee
                      obtain ⟨rfl, rfl⟩ := ee
                      obtain ⟨rb2, ro2, ee, _, dr⟩ := (HRR.out.up HBX2.out (Nat.le_refl _)).at (i := x) (by rw [HRL.out]; exact hxk)
                      simp only [Option.some.injEq, Addr.mk.injEq, and_true] at ee
                      obtain ⟨rfl, rfl⟩ := ee
                      have hmt := HMEET.out i x hik hxk
                      have hds : deepC ps i (x + 1) = deepC ps i x + if (ps.getD x P0).start ≤ (ps.getD i P0).start ∧ (ps.getD i P0).start < (ps.getD x P0).stop then 1 else 0 := rfl
                      rw [HSI.out] at hmt hds
                      rw [HRI.out] at hmt
                      obtain ⟨⟨fx, tx, gx⟩, hsx⟩ : ∃ q, q = ps.getD x P0 := ⟨_, rfl⟩
                      obtain ⟨rx, hrx⟩ : ∃ q, q = R.getD x 0 := ⟨_, rfl⟩
                      rw [← hsx] at hmt hds d0 d1
                      rw [← hrx] at hmt dr
                      simp only at hmt hds d0 d1
                      obtain ⟨d, hd⟩ : ∃ d, d = deepC ps i x := ⟨_, rfl⟩
                      have hdx : d ≤ x := by rw [hd]; exact deepC_le ps i x
                      rw [← hd] at hds ⊢
                      have HDS := Lib.hid hds
                      have HMT := Lib.hid hmt
                      clear hds hmt hsx hrx hd
                      by_cases a0 : fx ≤ fi
                      · have q1 : decide (fx ≤ fi) = true := decide_eq_true a0
                        by_cases b0 : fi < tx
                        · have q2 : decide (fi < tx) = true := decide_eq_true b0
                          have HDN := Lib.hid (show deepC ps i (x + 1) = d + 1 by rw [HDS.out, if_pos ⟨a0, b0⟩])
                          by_cases b1 : x < i
                          · have q3 : decide (x < i) = true := decide_eq_true b1
                            have q3i : decide ((x : Int) < (i : Int)) = true := decide_eq_true (by omega)
                            by_cases b2 : ri = rx
                            · have b3 : ¬ fx < ti := fun h => HMT.out (by omega) b2 ⟨b0, h⟩
                              have q5 : decide (fx < ti) = false := decide_eq_false b3
                              have q4 : (ri == rx) = true := by rw [b2]; simp
                              clear b0 b1 b2 b3
                              go_wp2_with fail
                              go_quiet (fail)
                              go_wp2_with fail
                              go_quiet (fail)
                              go_wp2_with fail
                              go_roundw
                              case rel => exact ⟨x + 1, by go_num, by omega, (by rw [HDN.out]; try go_num), Lib.hid (below_drewN HBX2.out _)⟩
                              case measure => simp [intOf]; omega
                            · have q4 : (ri == rx) = false := by rw [beq_eq_false_iff_ne]; exact b2
                              clear b0 b1 b2
                              go_wp2_with fail
                              go_quiet (fail)
                              go_wp2_with fail
                              go_quiet (fail)
                              go_wp2_with fail
                              go_roundw
                              case rel => exact ⟨x + 1, by go_num, by omega, (by rw [HDN.out]; try go_num), Lib.hid (below_drewN HBX2.out _)⟩
                              case measure => simp [intOf]; omega
                          · have q3 : decide (x < i) = false := decide_eq_false b1
                            have q3i : decide ((x : Int) < (i : Int)) = false := decide_eq_false (by omega)
                            clear b0 b1
                            go_wp2_with fail
                            go_quiet (fail)
                            go_wp2_with fail
                            go_quiet (fail)
                            go_wp2_with fail
                            go_roundw
                            case rel => exact ⟨x + 1, by go_num, by omega, (by rw [HDN.out]; try go_num), Lib.hid (below_drewN HBX2.out _)⟩
                            case measure => simp [intOf]; omega
                        · have q2 : decide (fi < tx) = false := decide_eq_false b0
                          have HDN := Lib.hid (show deepC ps i (x + 1) = d by rw [HDS.out, if_neg (fun h => b0 h.2)]; rfl)
                          by_cases b1 : x < i
                          · have q3 : decide (x < i) = true := decide_eq_true b1
                            have q3i : decide ((x : Int) < (i : Int)) = true := decide_eq_true (by omega)
                            by_cases b2 : ri = rx
                            · have q4 : (ri == rx) = true := by rw [b2]; simp
                              clear b0 b1 b2
                              go_wp2_with fail
                              go_quiet (fail)
                              go_wp2_with fail
                              go_quiet (fail)
                              go_wp2_with fail
                              go_roundw
                              case rel => exact ⟨x + 1, by go_num, by omega, (by rw [HDN.out]; try go_num), Lib.hid (below_drewN HBX2.out _)⟩
                              case measure => simp [intOf]; omega
                            · have q4 : (ri == rx) = false := by rw [beq_eq_false_iff_ne]; exact b2
                              clear b0 b1 b2
                              go_wp2_with fail
                              go_quiet (fail)
                              go_wp2_with fail
                              go_quiet (fail)
                              go_wp2_with fail
                              go_roundw
                              case rel => exact ⟨x + 1, by go_num, by omega, (by rw [HDN.out]; try go_num), Lib.hid (below_drewN HBX2.out _)⟩
                              case measure => simp [intOf]; omega
                          · have q3 : decide (x < i) = false := decide_eq_false b1
                            have q3i : decide ((x : Int) < (i : Int)) = false := decide_eq_false (by omega)
                            clear b0 b1
                            go_wp2_with fail
                            go_quiet (fail)
                            go_wp2_with fail
                            go_quiet (fail)
                            go_wp2_with fail
                            go_roundw
                            case rel => exact ⟨x + 1, by go_num, by omega, (by rw [HDN.out]; try go_num), Lib.hid (below_drewN HBX2.out _)⟩
                            case measure => simp [intOf]; omega
                      · have q1 : decide (fx ≤ fi) = false := decide_eq_false a0
                        by_cases b0 : fi < tx
                        · have q2 : decide (fi < tx) = true := decide_eq_true b0
                          have HDN := Lib.hid (show deepC ps i (x + 1) = d by rw [HDS.out, if_neg (fun h => a0 h.1)]; rfl)
                          by_cases b1 : x < i
                          · have q3 : decide (x < i) = true := decide_eq_true b1
                            have q3i : decide ((x : Int) < (i : Int)) = true := decide_eq_true (by omega)
                            by_cases b2 : ri = rx
                            · have b3 : ¬ fx < ti := fun h => HMT.out (by omega) b2 ⟨b0, h⟩
                              have q5 : decide (fx < ti) = false := decide_eq_false b3
                              have q4 : (ri == rx) = true := by rw [b2]; simp
                              clear b0 b1 b2 b3
                              go_wp2_with fail
                              go_quiet (fail)
                              go_wp2_with fail
                              go_quiet (fail)
                              go_wp2_with fail
                              go_roundw
                              case rel => exact ⟨x + 1, by go_num, by omega, (by rw [HDN.out]; try go_num), Lib.hid (below_drewN HBX2.out _)⟩
                              case measure => simp [intOf]; omega
                            · have q4 : (ri == rx) = false := by rw [beq_eq_false_iff_ne]; exact b2
                              clear b0 b1 b2
                              go_wp2_with fail
                              go_quiet (fail)
                              go_wp2_with fail
                              go_quiet (fail)
                              go_wp2_with fail
                              go_roundw
                              case rel => exact ⟨x + 1, by go_num, by omega, (by rw [HDN.out]; try go_num), Lib.hid (below_drewN HBX2.out _)⟩
                              case measure => simp [intOf]; omega
                          · have q3 : decide (x < i) = false := decide_eq_false b1
                            have q3i : decide ((x : Int) < (i : Int)) = false := decide_eq_false (by omega)
                            clear b0 b1
                            go_wp2_with fail
                            go_quiet (fail)
                            go_wp2_with fail
                            go_quiet (fail)
                            go_wp2_with fail
                            go_roundw
                            case rel => exact ⟨x + 1, by go_num, by omega, (by rw [HDN.out]; try go_num), Lib.hid (below_drewN HBX2.out _)⟩
                            case measure => simp [intOf]; omega
                        · have q2 : decide (fi < tx) = false := decide_eq_false b0
                          have HDN := Lib.hid (show deepC ps i (x + 1) = d by rw [HDS.out, if_neg (fun h => a0 h.1)]; rfl)
                          by_cases b1 : x < i
                          · have q3 : decide (x < i) = true := decide_eq_true b1
                            have q3i : decide ((x : Int) < (i : Int)) = true := decide_eq_true (by omega)
                            by_cases b2 : ri = rx
                            · have q4 : (ri == rx) = true := by rw [b2]; simp
                              clear b0 b1 b2
                              go_wp2_with fail
                              go_quiet (fail)
                              go_wp2_with fail
                              go_quiet (fail)
                              go_wp2_with fail
                              go_roundw
                              case rel => exact ⟨x + 1, by go_num, by omega, (by rw [HDN.out]; try go_num), Lib.hid (below_drewN HBX2.out _)⟩
                              case measure => simp [intOf]; omega
                            · have q4 : (ri == rx) = false := by rw [beq_eq_false_iff_ne]; exact b2
                              clear b0 b1 b2
                              go_wp2_with fail
                              go_quiet (fail)
                              go_wp2_with fail
                              go_quiet (fail)
                              go_wp2_with fail
                              go_roundw
                              case rel => exact ⟨x + 1, by go_num, by omega, (by rw [HDN.out]; try go_num), Lib.hid (below_drewN HBX2.out _)⟩
                              case measure => simp [intOf]; omega
                          · have q3 : decide (x < i) = false := decide_eq_false b1
                            have q3i : decide ((x : Int) < (i : Int)) = false := decide_eq_false (by omega)
                            clear b0 b1
                            go_wp2_with fail
                            go_quiet (fail)
                            go_wp2_with fail
                            go_quiet (fail)
                            go_wp2_with fail
                            go_roundw
                            case rel => exact ⟨x + 1, by go_num, by omega, (by rw [HDN.out]; try go_num), Lib.hid (below_drewN HBX2.out _)⟩
                            case measure => simp [intOf]; omega
                    · obtain rfl : x = k := by omega
                      have hxx : ¬ (x : Int) < (x : Int) := by omega
                      have q1 : decide (ri < 0) = false := decide_eq_false (by omega)
                      have q2 : decide (C ≤ ri) = false := decide_eq_false (by omega)
                      have q3 : decide (G < gi) = false := decide_eq_false (by omega)
                      obtain ⟨dd, hdd⟩ : ∃ d, d = deepC ps i x := ⟨_, rfl⟩
                      obtain ⟨mm, hmm⟩ : ∃ d, d = dpM ps i := ⟨_, rfl⟩
                      rw [← hdd] at HDM ⊢
                      rw [← hmm] at HDM ⊢
                      clear hdd hmm
                      go_wp2_with fail
                      go_roundw
                      case rel => exact ⟨i + 1, by go_num, by omega, by rw [HDM.out], HBX2⟩
                      case measure => simp [intOf]; omega
                · obtain rfl : i = k := by omega
                  rw [HDEP.out]
                  have q1 : (G == G) = true := by simp
                  have q2 : decide (P ≤ G) = true := decide_eq_true hPG
                  have q3 : (C == C) = true := by simp
                  have hii : ¬ (i : Int) < (i : Int) := by omega
                  go_wp2_with fail
                  go_ret
                  exact ⟨rfl, HB1.out.trans ((HB14.out.trans (HBD.out.mono hz14)).mono HB1.out.size)⟩

end Go.Proofs.Ytkfiepiipigcmaa

namespace Go.Proofs.Ytkfiepiipigcmaa
open Go.ChangeShapes Go.WideShapes Go.ChangeAt Go.RowKit
set_option linter.unusedVariables false

section
variable {H : Type} {enc : TypeId × Value → H} {w : World} {base : Nat} {spare : Nat → Bool} {held : Bool}

theorem cells_u8 : Try.prog.cellsOf 5 = 1 := by kernel_rfl

set_option maxRecDepth 100000 in
theorem trod_B {fuel : Nat} {cs : List Value} {x : DataW H × List MemPlace} (h : DataW.trod enc Try.prog w base spare held fuel 36 cs = some x) : ∃ v zs, cs = [v] ∧ RdB w v zs ∧ WfB zs := by
  rcases open_ints Try.underlying36 Try.underlying5 cells_u8 h with ⟨rfl, _⟩ | ⟨a, len, cap, zs, rfl, _, hl, hm, hz, _, hcell, hwz⟩
  · exact ⟨_, [], rfl, .inl ⟨rfl, rfl⟩, by intro z hz; simp at hz⟩
  · have hle : len ≤ zs.length := by rw [hz]; split <;> omega
    refine ⟨_, zs.take len, rfl, .inr ⟨a, cap, by simp [Nat.min_eq_left hle], by simp; omega, hm, ?_⟩, fun z hz' => bounds_u8 (hwz z (List.mem_of_mem_take hz'))⟩
    intro i u hi
    have hlt : i < len := by
      have := (List.getElem?_eq_some_iff.1 hi).1
      simp at this; omega
    have h2 := hcell i (by omega)
    rw [h2, ← hi]
    simp [B8, List.getElem?_take, hlt, show i < zs.length by omega]

set_option maxRecDepth 100000 in
theorem arg_B {r : Reach} {b0 : Nat} {v : Value} {d : DataW H} {p : List MemPlace} (hv : Value.okWide Try.prog w r b0 36 v) (h : DataW.Trod enc Try.prog w base spare held 36 v d p) : ∃ zs, RdB w v zs ∧ WfB zs := by
  obtain ⟨a, len, cap, rfl⟩ := okWide_slice Try.underlying36 hv
  obtain ⟨fuel, hf⟩ := h
  obtain ⟨v, zs, e, h1, h2⟩ := trod_B hf
  simp [Value.cells] at e
  subst e
  exact ⟨zs, h1, h2⟩
end
end Go.Proofs.Ytkfiepiipigcmaa
