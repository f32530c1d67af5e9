/-
  Narrow domains: by the program and by the reference.
-/
import Derived.Test.YtnhamdkpeefioaaNarrow1
import Derived.Test.YtnhamdkpeefioaaAppLL
namespace Go.Proofs.Ytnhamdkpeefioaa
open Go.RowKit

theorem Try.entersND (args : Array Value) (w : World) : (callFunc 78 args).run Try.prog w = .ok (.enter 78 args) w :=
  enters_of Try.func78 (by kernel_rfl) rfl args w

theorem allC_lenN {D : List (List Int)} (h : ValD D) : (allC D).length ≤ 262144 := choi_8 h D.length [] h.2.1
theorem nrOk_no {D : List (List Int)} (h : validD D = false) : nrOk D = false := by simp [nrOk, h]
theorem nrOk_none {D : List (List Int)} (h : allC D = []) : nrOk D = false := by simp [nrOk, h]
theorem nrOk_yes {D : List (List Int)} (h : validD D = true) (h2 : allC D ≠ []) : nrOk D = true := by
  cases hc : allC D with
  | nil => exact absurd hc h2
  | cons s r => simp [nrOk, h, hc]
theorem nrL_no {D : List (List Int)} (h : nrOk D = false) : nrL D = [] := by simp [nrL, h]
theorem nrL_yes {D : List (List Int)} (h : nrOk D = true) : nrL D = nrAll D := if_pos h
theorem nrAll_take (D : List (List Int)) (k : Nat) (hk : k < D.length) : (nrAll D).take (k + 1) = (nrAll D).take k ++ [nrRow D k] := by
  have hl : k < (nrAll D).length := by simp [nrAll, hk]
  rw [List.take_succ_eq_append_getElem hl]
  simp [nrAll]
theorem nrAll_len (D : List (List Int)) : (nrAll D).length = D.length := by simp [nrAll]

theorem ownL_nil (lo hi : Nat) (w : World) : OwnL lo hi w (.slice none 0 0) [] := ⟨[], World.ownsRow_nil _ _ _ _, (by intro g hg; cases hg), rfl, (by intro i u zs h; simp at h), (by intro i j u u' g _ h; simp at h)⟩

set_option maxHeartbeats 400000 in
set_option maxRecDepth 4000 in
theorem implNarrow_any (v : Value) (D : List (List Int)) (w : World) (h : RdL w v D) :
    Calls Try.prog 17 #[v] w fun e w' => ∃ v', e = .returned (.tuple #[v', .bool (nrOk D)]) ∧ OwnL w.heap.size w'.heap.size w' v' (nrL D) ∧ Below w.heap.size w w' := by
  obtain ⟨i0, hi, hz0, hz1, hz2⟩ := info_parts Try.infoI64
  have INF := Lib.hid (show _ ∧ _ ∧ _ ∧ _ from ⟨hi, hz0, hz1, hz2⟩)
  clear hi hz0 hz1 hz2
  have H := Lib.hid (implAreDomains_o v D w h)
  obtain ⟨a, c, rfl⟩ := h.shape
  have HRD := Lib.hid h
  clear h
  go_enter Try.func17, Try.ntmps17
  go_wp2_with fail
  refine H.out.mono ?_
  rintro e w1 ⟨rfl, hb⟩
  have HB := Lib.hid hb
  clear hb H
  by_cases hv : validD D = true
  case neg =>
    rw [Bool.not_eq_true] at hv
    have HVV := Lib.hid hv
    rw [hv]
    clear hv
    go_wp2_with fail
    go_ret2
    exact ⟨_, by rw [nrOk_no HVV.out]; rfl, by rw [nrL_no (nrOk_no HVV.out)]; exact ownL_nil _ _ _, HB.out⟩
  have HV := Lib.hid (validD_iff.1 hv)
  have HVV := Lib.hid hv
  have hl := allC_lenN HV.out
  have hD6 := HV.out.2.1
  have hD1 := HV.out.1
  rw [hv]
  clear hv
  obtain ⟨n, hn⟩ : ∃ n, n = D.length := ⟨_, rfl⟩
  rw [← hn] at hD6 hD1 HRD ⊢
  have HN := Lib.hid hn
  clear hn
  go_wp2_with (at_make; refine wpList_make_full _ rfl _ _ 32 rfl w1.heap.size 2 i0 (.int .i64 0) 1 Try.underlying32 INF.out.1 INF.out.2.1 INF.out.2.2.1 .i64 .i64 n n n rfl rfl rfl rfl (by rw [INF.out.2.2.2]; omega) (by unfold maxLen; omega) (by simp) ?_; intro w2 hown hgrow)
  have hb2 : Below w1.heap.size w1 w2 := (Below.refl _ _).grown hgrow (Nat.le_refl _) (by intro k hk; cases hk)
  have hlt2 := (owns_lt hown (k := w1.heap.size) rfl).2
  have hz : (madeCells (Value.int .i64 0).cells (n * 1)).toList = mkRow n (orM []) := by
    have h1 := toList_madeCells_one (Value.int .i64 0) n
    rw [Nat.mul_one]
    rw [show (Value.int IntKind.i64 0).cells = #[Value.int .i64 0] from rfl, h1]
    apply List.ext_getElem?
    intro i
    by_cases hi : i < n
    · simp [mkRow, hi, orM]
    · simp [mkRow, hi]
  rw [hz] at hown
  refine Calls.at fun W hW => ?_
  have HBX := Lib.hid (show Box W w2.heap.size 32 (.slice (some ⟨w1.heap.size, 0, none⟩) n n) by subst hW; exact Box.new _ _ _)
  have HRO := Lib.hid (show W.ownsRow w1.heap.size 2 1 (.slice (some ⟨w1.heap.size, 0, none⟩) n n) n (mkRow n (orM [])) by subst hW; exact hown.alloc _)
  have HBW := Lib.hid (show Below w.heap.size w W by subst hW; exact (HB.out.trans (hb2.mono HB.out.size)).alloc (by have := HB.out.size; omega) _)
  have hsW := HBX.out.lt
  have hs1 := HB.out.size
  clear hW hown hz hgrow hb2
  refine (eachChoiceD_any _ D HV.out w HRD.out 78 Try.entersND #[.pointer (some ⟨w2.heap.size, 0, none⟩)] (w2.heap.size + 1) (· = w1.heap.size) (by intro b hb; omega)
    (fun done w' => Box w' w2.heap.size 32 (.slice (some ⟨w1.heap.size, 0, none⟩) n n) ∧ w'.ownsRow w1.heap.size 2 1 (.slice (some ⟨w1.heap.size, 0, none⟩) n n) n (mkRow n (orM done)) ∧ (∀ i, i < n → orM done i < 4294967296) ∧ Below w.heap.size w w') ?_ ?_ D.length none 0 [] _ [] 0 (InD.nil D) rfl (by simp) (by omega) HBW.out (World.ownsRow_nil _ _ _ _) ⟨HBX.out, HRO.out, fun i hi => by simp [orM], HBW.out⟩ (by show 0 + (allC D).length ≤ _; omega)).mono ?_
  · rintro done w3 w4 ⟨q1, q2, q3, q4⟩ h12
    exact ⟨q1.below h12 q1.lt, owns_below q2 h12 (Nat.le_refl _), q3, q4.trans (h12.mono q4.size)⟩
  · rintro done s a cap m w3 hin hm hmn hs hlen ⟨q1, q2, q3, q4⟩
    have hr : ∀ i, i < n → 0 ≤ s.getD i 0 ∧ s.getD i 0 ≤ 31 := fun i hi => by
      have hi2 : i < D.length := by have := HN.out; omega
      exact (HV.out.2.2 i hi2).range (hin i (by omega))
    refine (narrow1_any w2.heap.size w1.heap.size (w2.heap.size + 1) n (by omega) (by omega) (orM done) q3 s hr a cap m w3 hm (by have := HN.out; omega) hs q1 q2).mono ?_
    rintro e w4 ⟨rfl, r1, r2⟩
    have hne : w2.heap.size ≠ w1.heap.size := by omega
    refine ⟨rfl, ⟨q1.kept r2 hne, ?_, ?_, q4.trans (r2.toBelow q4.size (by intro k h1 h2; omega))⟩, r2⟩
    · rw [mkRow_congr (g := fun i => orM done i ||| 2 ^ (s.getD i 0).toNat) (fun i _ => orM_snoc done s i)]; exact r1
    · intro i hi
      rw [orM_snoc]
      have h1 := hr i hi
      exact Nat.or_lt_two_pow (n := 32) (q3 i hi) (Nat.pow_lt_pow_right (by omega) (by omega))
  · rintro e w3 ⟨rfl, ⟨q1, q2, q3, q4⟩, hk⟩
    simp only [List.nil_append] at q2 q3
    have HQ2 := Lib.hid (show w3.ownsRow w1.heap.size 2 1 (.slice (some ⟨w1.heap.size, 0, none⟩) n n) n (mkRow n (orM (allC D))) from q2)
    have HQ3 := Lib.hid (show ∀ i, i < n → orM (allC D) i < 4294967296 from q3)
    have HQ4 := Lib.hid q4
    have HQ1 := Lib.hid q1
    have hc := q1.cell
    have hd0 := HQ2.out.cellAt 0 (by omega)
    rw [mkRow_at (by omega : 0 < n)] at hd0
    clear q1 q2 q3 q4 hk
    by_cases hall : allC D = []
    · have h0 := (orM_zero HV.out).2 hall
      rw [h0] at hd0
      have HA := Lib.hid hall
      clear hall h0
      go_wp2_with fail
      go_ret2
      exact ⟨_, by rw [nrOk_none HA.out]; rfl, by rw [nrL_no (nrOk_none HA.out)]; exact ownL_nil _ _ _, HQ4.out⟩
    · have h0 : orM (allC D) 0 ≠ 0 := fun h => hall ((orM_zero HV.out).1 h)
      have HA := Lib.hid hall
      obtain ⟨m0, hm0⟩ : ∃ m0, m0 = orM (allC D) 0 := ⟨_, rfl⟩
      rw [← hm0] at hd0 h0
      have t0 : ((m0 : Int) == 0) = false := by simp; omega
      clear hall hm0 h0
      go_wp2_with fail
      clear hd0 t0
      have hsz3 := HQ4.out.size
      go_loopw [5, 23] (fun ov i wr => ∃ (k : Nat) (vs : List Value) (oa : Option Addr) (oc : Nat), i = .int .i64 k ∧ k ≤ n ∧ ov = .slice oa k oc ∧ wr.ownsRow w3.heap.size 32 1 (.slice oa k oc) k vs ∧ OwnEach w3.heap.size wr.heap.size wr vs ((nrAll D).take k) ∧ Below w3.heap.size w3 wr) (fun _ i _ => n - (intOf i).toNat)
      case atStart => exact ⟨0, [], none, 0, rfl, Nat.zero_le _, rfl, World.ownsRow_nil _ _ _ _, ⟨rfl, by intro i u zs h; simp at h, by intro i j u u' g _ h; simp at h⟩, Below.refl _ _⟩
      case round =>
        obtain ⟨k, vs, oa, oc, rfl, hk, rfl, hown, heach, hbl⟩ := hrel
        have HO := Lib.hid hown
        have HE := Lib.hid heach
        have HB1 := Lib.hid hbl
        clear hown heach hbl
        by_cases hlt : k < n
        · have hkD : k < D.length := by have := HN.out; omega
          have hd := (owns_below HQ2.out HB1.out (Nat.le_refl _)).cellAt k (by omega)
          rw [mkRow_at hlt] at hd
          have hm32 := HQ3.out k hlt
          have HDG := Lib.hid (nr_dig HV.out hkD)
          have HTK := Lib.hid (nrAll_take D k hkD)
          obtain ⟨q, hq⟩ : ∃ q, q = orM (allC D) k := ⟨_, rfl⟩
          rw [← hq] at hd hm32 HDG
          have hs3 := HB1.out.size
          clear hq
          go_wp2_with fail
          refine (digitsW_any q hm32 wr).mono ?_
          rintro e w5 ⟨u, rfl, hou, hb5⟩
          rw [HDG.out] at hou
          obtain ⟨ua, uc, rfl⟩ := hou.rd.shape
          have hal := (Below.refl w5.heap.size w5).alloc (Nat.le_refl _) (.cells #[.slice ua (nrRow D k).length uc] 32)
          have HU := Lib.hid (hou.up hal (Nat.le_refl _))
          have HO5 := Lib.hid (owns_below (owns_below HO.out hb5 (Nat.le_refl _)) hal (Nat.le_refl _))
          have HE5 := Lib.hid ((HE.out.up hb5 (Nat.le_refl _)).up hal (Nat.le_refl _))
          have hs5 := hb5.size
          have HB5 := Lib.hid (HB1.out.trans ((hb5.mono hs3).trans (hal.mono (by omega))))
          clear hou hb5 hal
          go_wp2_with (at_builtin; refine app_list rfl _ _ rfl w3.heap.size (.slice oa k oc) k vs rfl HO5.out _ ua (nrRow D k).length uc rfl (slc_list w5 _ _ rfl) (by omega) (by simp; omega) ?_; intro oa2 oc2 w6 hown6 hbl6 hg6)
          go_roundw
          case rel =>
            refine ⟨k + 1, vs ++ [.slice ua (nrRow D k).length uc], oa2, oc2, by go_num, by omega, rfl, hown6, ?_, HB5.out.trans hbl6⟩
            rw [HTK.out]
            exact OwnEach.snoc HO5.out HE5.out HU.out (Nat.le_refl _) (by omega) (by simp) (by simp; omega) hg6
          case measure => simp [intOf]; omega
        · obtain rfl : n = k := by omega
          go_wp2_with fail
          go_ret2
          have hok := nrOk_yes HVV.out HA.out
          refine ⟨_, by rw [hok]; rfl, ?_, HQ4.out.trans (HB1.out.mono HQ4.out.size)⟩
          rw [nrL_yes hok]
          have hN := HN.out
          have he := HE.out
          rw [List.take_of_length_le (by rw [nrAll_len]; omega)] at he
          refine OwnL.wide (lo := w3.heap.size) (hi := wr.heap.size) ⟨vs, ?_, fun g hg => (owns_lt HO.out hg).2, he⟩ hsz3 (Nat.le_refl _)
          have h1 := HO.out
          rw [nrAll_len, ← hN]; exact h1

end Go.Proofs.Ytnhamdkpeefioaa
