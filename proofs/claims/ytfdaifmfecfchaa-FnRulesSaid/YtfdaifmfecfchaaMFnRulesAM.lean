/-
  FnRules: texts joined: RntI, ShrI, RuD, RuV.
-/
import Derived.BigQuiet
import Derived.Test.YtfdaifmfecfchaaMFnRulesAG
import Derived.Test.YtfdaifmfecfchaaMFnRulesAK
import Derived.Test.YtfdaifmfecfchaaMFnRulesAL
namespace Go.Proofs.Ytfdaifmfecfchaa
open Go.RowKit Go.Sort

theorem slc_three (w : World) (x y z : Int) : Slc (w.alloc (.cells #[.int .i64 x, .int .i64 y, .int .i64 z] 2)) (.slice (some ⟨w.heap.size, 0, none⟩) 3 3) ([x, y, z].map I64) := by
  have h := World.ownsRow_lit (base := w.heap.size) (e := 2) (size := 1) w #[.int .i64 x, .int .i64 y, .int .i64 z] 3 (Nat.le_refl _) (by simp [maxLen]) rfl
  exact slc_of_owns h
def rentV (d b l : Int) : Int := if d ≤ l then d else l + b
set_option maxHeartbeats 1000000 in
theorem rent_any (d b l : Int) (w : World) (hd : 0 ≤ d ∧ d ≤ 100000) (hb : 0 ≤ b ∧ b ≤ 100000) (hl : 0 ≤ l ∧ l ≤ 100000) :
    Calls Try.prog 29 #[.int .i64 d, .int .i64 b, .int .i64 l] w fun e w' => e = .returned (.tuple #[.int .i64 (rentV d b l), .bool true]) ∧ Below w.heap.size w w' := by
  have HA := Lib.hid (fun (X : World) (hX : Slc X (.slice (some ⟨w.heap.size, 0, none⟩) 3 3) ([d, b, l].map I64)) => allWithin_any _ [d, b, l] 0 100000 X hX)
  have ha : allIn 0 100000 [d, b, l] = true := by simp [allIn, inB]; omega
  rw [ha] at HA
  clear ha
  have hw : IntKind.i64.wrap (l + b) = l + b := IntWalk.i64_in _ (by omega)
  by_cases hc : d ≤ l
  · have HV := Lib.hid (show rentV d b l = d by unfold rentV; rw [if_pos hc])
    go_enter Try.func29, Try.ntmps29
    go_wp2_with (go_at_call 56; refine (HA.out _ (slc_three _ _ _ _)).mono ?_; rintro e w' ⟨rfl, rfl⟩)
    go_ret2
    exact ⟨by rw [HV.out]; rfl, (Below.refl _ _).alloc (Nat.le_refl _) _⟩
  · have HV := Lib.hid (show rentV d b l = l + b by unfold rentV; rw [if_neg hc])
    go_enter Try.func29, Try.ntmps29
    go_wp2_with (go_at_call 56; refine (HA.out _ (slc_three _ _ _ _)).mono ?_; rintro e w' ⟨rfl, rfl⟩)
    go_ret2
    exact ⟨by rw [HV.out]; rfl, (Below.refl _ _).alloc (Nat.le_refl _) _⟩

/-- The first ones of a list. -/
theorem rdI_head {w : World} {b off n cap : Nat} {xs : List Int} (h : RdI w (.slice (some ⟨b, off, none⟩) n cap) xs) (m : Nat) (hm : m ≤ xs.length) : RdI w (.slice (some ⟨b, off, none⟩) m cap) (xs.take m) := by
  have hcap : xs.length ≤ cap ∧ cap ≤ maxLen := by
    rcases h with ⟨e, _⟩ | ⟨ad, cp, e, h1, h2, _⟩
    · cases e
    · injection e with _ _ e3
      subst e3
      rw [List.length_map] at h1
      exact ⟨h1, h2⟩
  have hl : (xs.take m).length = m := by rw [List.length_take]; omega
  refine .inr ⟨⟨b, off, none⟩, cap, by rw [List.length_map, hl], by rw [List.length_map, hl]; omega, by omega, fun i u hi => ?_⟩
  simp only [List.getElem?_map, Option.map_eq_some_iff] at hi
  obtain ⟨q, hq, rfl⟩ := hi
  have hlt := (List.getElem?_eq_some_iff.1 hq).1
  rw [hl] at hlt
  rw [List.getElem?_take_of_lt hlt] at hq
  obtain ⟨b', off', e, _, hcell⟩ := h.at (i := i) (by omega)
  simp only [Option.some.injEq, Addr.mk.injEq, and_true] at e
  obtain ⟨rfl, rfl⟩ := e
  have e2 : xs.getD i 0 = q := by rw [List.getD_eq_getElem?_getD, hq]; rfl
  rw [e2] at hcell
  have : (⟨b, off, none⟩ : Addr).add i = ⟨b, off + i, none⟩ := by
    unfold Addr.add
    by_cases hz : i = 0
    · simp [hz]
    · simp [hz]
  rw [this]
  exact hcell

theorem isIndex8_any (i : Int) (n : Nat) (w : World) (h0 : 0 ≤ i) (h1 : i < n) (h2 : n ≤ 1000) :
    Calls Try.prog 62 #[.int .i64 i, .int .i64 n] w fun e w' => e = .returned (.bool true) ∧ w = w' := by
  have HW := Lib.hid (fun X => within_any i 0 ((n : Int) - 1) X)
  rw [inB_true (by omega)] at HW
  have hw : IntKind.i64.wrap ((n : Int) - 1) = (n : Int) - 1 := IntWalk.i64_in _ (by omega)
  go_enter Try.func62, Try.ntmps62
  go_wp2_with (go_at_call 55; refine (HW.out _).mono ?_; rintro e w' ⟨rfl, rfl⟩)
  go_ret
  exact ⟨rfl, rfl⟩
set_option maxHeartbeats 2000000 in
set_option maxRecDepth 8000 in
theorem pickAfter_any (v : Value) (xs : List Int) (k : Nat) (w : World) (h : RdI w v xs) (hn : 1 ≤ xs.length) (hn64 : xs.length ≤ 64) (hk : k < xs.length) :
    Calls Try.prog 30 #[v, .int .i64 k] w fun e w' => ∃ r : Nat, e = .returned (.tuple #[.int .i64 r, .bool true]) ∧ k ≤ r ∧ r < xs.length ∧ ∃ q, w' = w.drewN q := by
  obtain ⟨a, c, rfl⟩ := h.shape
  have HR := Lib.hid h
  have HSF := Lib.hid (fun X => size_any xs.length X (by unfold maxLen; omega))
  have HWI := Lib.hid (fun X => within_any (xs.length : Int) 1 64 X)
  rw [inB_true (by omega)] at HWI
  have HII := Lib.hid (fun X => isIndex8_any (k : Int) xs.length X (by omega) (by omega) (by omega))
  obtain ⟨b, off, rfl, _, _⟩ := h.at (i := 0) (by omega)
  have HM := Lib.hid (fun (n : Nat) (hk0 : 1 ≤ k) => maxI_any (.slice (some ⟨b, off, none⟩) k c) (xs.take k) (w.drewN n) (rdI_head h k (by omega)) (by rw [List.length_take]; omega))
  have hcc : xs.length ≤ c := by
    rcases h with ⟨e, _⟩ | ⟨ad, cp, e, h1, h2, _⟩
    · cases e
    · injection e with _ _ e3
      subst e3
      rw [List.length_map] at h1
      exact h1
  obtain ⟨M, hM⟩ : ∃ M, M = maxL (xs.take k) := ⟨_, rfl⟩
  rw [← hM] at HM
  obtain ⟨n, hnn⟩ : ∃ n, n = xs.length := ⟨_, rfl⟩
  have HN := Lib.hid hnn.symm
  rw [← hnn] at HR HSF HWI HII hn hn64 hk hcc ⊢
  clear h hM hnn
  go_enter Try.func30, Try.ntmps30
  go_upto_region 3 with (first
    | (go_at_call 47; refine (HSF.out _).mono ?_; rintro e w' ⟨rfl, rfl⟩)
    | (go_at_call 55; refine (HWI.out _).mono ?_; rintro e w' ⟨rfl, rfl⟩)
    | (go_at_call 62; refine (HII.out _).mono ?_; rintro e w' ⟨rfl, rfl⟩)
    | fail)
  clear HWI HII
  go_wp2_with fail
  go_loopw [6] (fun iv wr => ∃ i : Nat, iv = .int .i64 i ∧ k ≤ i ∧ i ≤ n ∧ Hid (∃ q, wr = w.drewN q)) (fun iv _ => n + 1 - (intOf iv).toNat)
  case atStart => exact ⟨k, rfl, Nat.le_refl _, by omega, Lib.hid ⟨0, rfl⟩⟩
  case round =>
    obtain ⟨i, rfl, hki, hi, HW⟩ := hrel
    by_cases hin : i < n
    · have hiI : (i : Int) < (n : Int) := by omega
      obtain ⟨q0, hq0⟩ := HW.out
      obtain ⟨wo, hwo⟩ : ∃ wo, wo = wr := ⟨wr, rfl⟩
      have hcx : wr.cell? ⟨b, off + i, none⟩ = some (.int .i64 (xs.getD i 0)) := by
        obtain ⟨b', off', ee, _, cc⟩ := HR.out.at (i := i) (by rw [HN.out]; exact hin)
        simp only [Option.some.injEq, Addr.mk.injEq, and_true] at ee
        obtain ⟨rfl, rfl⟩ := ee
        rw [hq0]
        exact cc
      have HMW := Lib.hid (fun (q : Nat) (h1 : 1 ≤ k) => show Calls Try.prog 63 #[.slice (some ⟨b, off, none⟩) k c] (wr.drewN q) fun e w' => e = .returned (.int .i64 M) ∧ w' = wr.drewN q by
        rw [hq0, World.drewN_drewN]
        exact HM.out _ h1)
      have HWD := Lib.hid (fun (q : Nat) => show ∃ q', wr.drewN q = w.drewN q' from ⟨q0 + q, by rw [hq0, World.drewN_drewN]⟩)
      obtain ⟨x, hx⟩ : ∃ x, x = xs.getD i 0 := ⟨_, rfl⟩
      rw [← hx] at hcx
      clear hq0 hwo hx HW
      by_cases hk0 : k = 0
      · have q1 : ((k : Int) == 0) = true := by rw [hk0]; rfl
        clear hk0
        go_wp2_with (go_at_call 47; refine (HSF.out _).mono ?_; rintro e w' ⟨rfl, rfl⟩)
        go_quiet (fail)
        go_wp2_with fail
        go_ret2
        exact ⟨i, rfl, hki, hin, HWD.out _⟩
      · have q1 : ((k : Int) == 0) = false := by rw [beq_eq_false_iff_ne]; omega
        have hk1 : 1 ≤ k := by omega
        have hkc : (k : Int) ≤ (c : Int) := by omega
        have hk00 : (0 : Int) ≤ (k : Int) := by omega
        clear hk0
        by_cases hM : M < x
        · have q2 : decide (M < x) = true := decide_eq_true hM
          clear hM
          go_wp2_with (go_at_call 47; refine (HSF.out _).mono ?_; rintro e w' ⟨rfl, rfl⟩)
          go_quiet ((go_at_call 63; refine (HMW.out _ hk1).mono ?_; rintro e w' ⟨rfl, rfl⟩; exact ⟨rfl, _, rfl⟩))
          go_wp2_with fail
          go_ret2
          exact ⟨i, rfl, hki, hin, HWD.out _⟩
        · have q2 : decide (M < x) = false := decide_eq_false hM
          clear hM
          go_wp2_with (go_at_call 47; refine (HSF.out _).mono ?_; rintro e w' ⟨rfl, rfl⟩)
          go_quiet ((go_at_call 63; refine (HMW.out _ hk1).mono ?_; rintro e w' ⟨rfl, rfl⟩; exact ⟨rfl, _, rfl⟩))
          go_wp2_with fail
          go_roundw
          case rel => exact ⟨i + 1, by go_num, by omega, by omega, Lib.hid (HWD.out _)⟩
          case measure => simp [intOf]; omega
    · obtain rfl : i = n := by omega
      have hii : ¬ (i : Int) < (i : Int) := by omega
      have hw : IntKind.i64.wrap ((i : Int) - 1) = (i : Int) - 1 := IntWalk.i64_in _ (by omega)
      go_wp2_with (go_at_call 47; refine (HSF.out _).mono ?_; rintro e w' ⟨rfl, rfl⟩)
      go_ret2
      exact ⟨i - 1, by rw [show ((i - 1 : Nat) : Int) = (i : Int) - 1 by omega]; rfl, by omega, by omega, HW.out⟩

set_option maxHeartbeats 2000000 in
set_option maxRecDepth 8000 in
/-- Asks that are drawn. -/
theorem R8Asks_any (v : Value) (bs : List Int) (w : World) (hR : RdB w v bs) (hw : WfB bs) (n : Nat) (hn : n ≤ 64) (m : Int) (hm1 : 1 ≤ m) (hm : m ≤ 64) :
    Calls Try.prog 26 #[v, .int .i64 n, .int .i64 m] w fun e w' => ∃ (xs : List Int) (v' : Value), xs.length = n ∧ allIn 0 (m - 1) xs = true ∧ e = .returned v' ∧ OwnI w.heap.size w'.heap.size w' v' xs ∧ Below w.heap.size w w' := by
  have HR := Lib.hid hR
  have HW := Lib.hid hw
  have HF := Lib.hid (l00From_any v bs w hR)
  clear hR hw
  go_enter Try.func26, Try.ntmps26
  go_upto_region 2 with (go_at_call 36; refine HF.out.mono ?_; rintro e w1 ⟨rfl, hs, hb1⟩)
  have HS1 := Lib.hid hs
  have HB1 := Lib.hid hb1
  have hz1 := HB1.out.size
  have hs1 := hs.lt
  clear hs hb1 HF
  go_wp2_with fail
  go_loopw [1, 8] (fun nv ov wr => ∃ (i : Nat) (xs : List Int) (oa : Option Addr) (oc : Nat), nv = .int .i64 ((n : Int) - i) ∧ i ≤ n ∧ ov = .slice oa i oc ∧ Hid (xs.length = i) ∧ Hid (allIn 0 (m - 1) xs = true) ∧ Hid (wr.ownsRow w1.heap.size 2 1 (.slice oa i oc) i (xs.map I64)) ∧ Hid (SrcAt wr w.heap.size v (2 * i)) ∧ Hid (Below w.heap.size w wr) ∧ w1.heap.size ≤ wr.heap.size) (fun nv _ _ => (intOf nv).toNat)
  case atStart => exact ⟨0, [], _, 0, by simp, Nat.zero_le _, rfl, Lib.hid rfl, Lib.hid rfl, Lib.hid (owns_emptyB _ _ rfl), Lib.hid (HS1.out.below ((Below.refl _ _).alloc (Nat.le_refl _) _) hs1), Lib.hid (HB1.out.alloc hz1 _), by simp⟩
  case round =>
    obtain ⟨i, xs, oa, oc, rfl, hi, rfl, HL, HA, HO, HS, HB, hzw⟩ := hrel
    obtain ⟨wo, rfl⟩ : ∃ wo, wo = wr := ⟨wr, rfl⟩
    by_cases hlt : i < n
    · have hltI : (0 : Int) < (n : Int) - i := by omega
      have HAPP := Lib.hid (fun (x : Int) (h0 : 0 ≤ x) (h1 : x < m) => show allIn 0 (m - 1) (xs ++ [x]) = true by
        have := HA.out
        unfold allIn at this ⊢
        rw [List.all_append, this]
        simp [inB]
        omega)
      go_wp2_with (first
        | (go_at_call 38; refine (pick_any w v bs HR.out HW.out w.heap.size (2 * i) wo (Nat.le_refl _) HB.out HS.out (by omega) m (by omega) (by omega)).mono ?_; rintro e w2 ⟨x, hx0, hx1, rfl, hs2, hk2⟩; have hz2 := hk2.size; have HO2 := Lib.hid (ownsK_kept HO.out hk2 (fun g hg e => by have := (HO.out.lt g hg).1; omega)); have HS2 := Lib.hid hs2; have HB2 := Lib.hid (HB.out.trans (hk2.toBelow HB.out.size (fun k h1 h2 => by omega))); have HA2 := Lib.hid (HAPP.out x hx0 hx1); clear hs2 hk2)
        | (at_builtin; refine app_ints rfl _ _ rfl w1.heap.size (.slice oa i oc) i xs rfl (HO2.out.alloc _) _ [x] rfl (slc_one _ _) (i + 1) (xs ++ [x]) (by simp) rfl (by omega) (by simp; omega) ?_; intro b3 c3 w3 hown3 hbl3 _ _))
      have HB3 := Lib.hid (show Below w1.heap.size w2 w3 from ((Below.refl w1.heap.size w2).alloc (by omega) _).trans hbl3)
      have hz3 := HB3.out.size
      go_roundw
      case rel => exact ⟨i + 1, xs ++ [x], b3, c3, by go_num, by omega, rfl, Lib.hid (by simp [HL.out]), HA2, Lib.hid hown3, Lib.hid ((HS2.out.below HB3.out hs1).mono (by omega)), Lib.hid (HB2.out.trans (HB3.out.mono hz1)), by omega⟩
      case measure => simp [intOf]; omega
    · obtain rfl : i = n := by omega
      have hkk : ¬ (0 : Int) < (i : Int) - i := by omega
      go_wp2_with fail
      go_ret
      exact ⟨xs, HL.out, HA.out, _, rfl, (OwnI.mk HO.out).wide hz1 (Nat.le_refl _), HB.out⟩

end Go.Proofs.Ytfdaifmfecfchaa

namespace Go.Proofs.Ytfdaifmfecfchaa
open Go.RowKit Go.Sort

@[go_sem] theorem unary_negF8 (x : Nat) : Op.unary .neg (.float .f32 x) = pure (.float .f32 (negF x)) := rfl
theorem run_sub8 {P : Program} (t : TypeId) {x y r : Nat} (h : Ieee.single.sub x y = some r) (w : World) :
    (binOp .sub t (.float .f32 x) (.float .f32 y)).run P w = .ok (.float .f32 r) w := run_float_arith w .sub t .f32 x y _ h
theorem run_add8 {P : Program} (t : TypeId) {x y r : Nat} (h : Ieee.single.add x y = some r) (w : World) :
    (binOp .add t (.float .f32 x) (.float .f32 y)).run P w = .ok (.float .f32 r) w := run_float_arith w .add t .f32 x y _ h
theorem run_mul8 {P : Program} (t : TypeId) {x y r : Nat} (h : Ieee.single.mul x y = some r) (w : World) :
    (binOp .mul t (.float .f32 x) (.float .f32 y)).run P w = .ok (.float .f32 r) w := run_float_arith w .mul t .f32 x y _ h

set_option maxHeartbeats 2000000 in
set_option maxRecDepth 8000 in
theorem shrunk_any (v : Value) (xs ys : List Nat) (b : Nat) (w : World) (h : RdF w v xs) (hn : xs.length ≤ 64) (hl : ys.length = xs.length) (hs : ∀ i, i < xs.length → shrO (xs.getD i 0) b = some (ys.getD i 0)) :
    Calls Try.prog 66 #[v, .float .f32 b] w fun e w' => ∃ u, e = .returned u ∧ OwnF w.heap.size w'.heap.size w' u ys ∧ Below w.heap.size w w' := by
  obtain ⟨a, c, rfl⟩ := h.shape
  have HR := Lib.hid h
  have HS := Lib.hid hs
  have HYL := Lib.hid hl
  have HT := Lib.hid (fun i (hi : i < ys.length) => show ys.take (i + 1) = ys.take i ++ [ys.getD i 0] by
    rw [List.take_add_one, List.getElem?_eq_getElem hi, List.getD_eq_getElem?_getD, List.getElem?_eq_getElem hi]; rfl)
  obtain ⟨n, hnn⟩ : ∃ n, n = xs.length := ⟨_, rfl⟩
  have HN := Lib.hid hnn.symm
  rw [← hnn] at HR HS HYL hn ⊢
  clear h hs hl hnn
  go_enter Try.func66, Try.ntmps66
  go_wp2_with fail
  go_loopw [5, 7, 10, 14, 21] (fun ov _ iv _ _ wr => ∃ (i : Nat) (oa : Option Addr) (oc : Nat), iv = .int .i64 i ∧ i ≤ n ∧ ov = .slice oa i oc ∧ Hid (wr.ownsRow w.heap.size 53 1 (.slice oa i oc) i ((ys.take i).map F32)) ∧ Hid (Below w.heap.size w wr)) (fun _ _ iv _ _ _ => n + 1 - (intOf iv).toNat)
  case atStart => exact ⟨0, none, 0, rfl, Nat.zero_le _, rfl, Lib.hid (World.ownsRow_nil _ _ _ _), Lib.hid (Below.refl _ _)⟩
  case round =>
    obtain ⟨i, oa, oc, rfl, hi, rfl, HO, HB⟩ := hrel
    obtain ⟨wo, rfl⟩ : ∃ wo, wo = wr := ⟨wr, rfl⟩
    have hsz := HB.out.size
    by_cases hin : i < n
    · have hiI : (i : Int) < (n : Int) := by omega
      obtain ⟨xb, xo, rfl, _, cx⟩ := (HR.out.up HB.out (Nat.le_refl _)).at (i := i) (by rw [HN.out]; exact hin)
      have hst := HS.out i hin
      have HTK := Lib.hid (HT.out i (by rw [HYL.out]; exact hin))
      obtain ⟨x, hx⟩ : ∃ x, x = xs.getD i 0 := ⟨_, rfl⟩
      obtain ⟨y, hy⟩ : ∃ x, x = ys.getD i 0 := ⟨_, rfl⟩
      rw [← hx] at cx hst
      rw [← hy] at hst HTK
      clear hx hy
      unfold shrO at hst
      by_cases hg : gtF x b = true
      · rw [if_pos hg] at hst
        have q1 : (FloatKind.f32.format.order x b == some .gt) = true := hg
        have q2 := fun (W : World) => run_sub8 (P := Try.prog) 53 hst W
        clear hg hst
        go_wp2_with (at_builtin; refine app_flts rfl _ _ rfl w.heap.size (.slice oa i oc) i (ys.take i) rfl (HO.out.alloc _) _ [y] rfl (slcF_one _ _) (i + 1) (ys.take (i + 1)) (by simp) HTK.out (by omega) (by simp; omega) ?_; intro b3 c3 w3 hown3 hbl3 _ _)
        go_roundw
        case rel => exact ⟨i + 1, b3, c3, by go_num, by omega, rfl, Lib.hid hown3, Lib.hid (HB.out.trans (((Below.refl _ _).alloc hsz _).trans hbl3))⟩
        case measure => simp [intOf]; omega
      · rw [if_neg hg] at hst
        have q1 : (FloatKind.f32.format.order x b == some .gt) = false := (Bool.not_eq_true _ ▸ hg)
        by_cases hlt : Ieee.single.order x (negF b) = some .lt
        · rw [if_pos hlt] at hst
          have q3 : (FloatKind.f32.format.order x (negF b) == some .lt) = true := by rw [show FloatKind.f32.format.order x (negF b) = some .lt from hlt]; rfl
          have q2 := fun (W : World) => run_add8 (P := Try.prog) 53 hst W
          clear hg hst hlt
          go_wp2_with (at_builtin; refine app_flts rfl _ _ rfl w.heap.size (.slice oa i oc) i (ys.take i) rfl (HO.out.alloc _) _ [y] rfl (slcF_one _ _) (i + 1) (ys.take (i + 1)) (by simp) HTK.out (by omega) (by simp; omega) ?_; intro b3 c3 w3 hown3 hbl3 _ _)
          go_roundw
          case rel => exact ⟨i + 1, b3, c3, by go_num, by omega, rfl, Lib.hid hown3, Lib.hid (HB.out.trans (((Below.refl _ _).alloc hsz _).trans hbl3))⟩
          case measure => simp [intOf]; omega
        · rw [if_neg hlt] at hst
          obtain rfl : 0 = y := Option.some.inj hst
          have q3 : (FloatKind.f32.format.order x (negF b) == some .lt) = false := by rw [beq_eq_false_iff_ne]; exact hlt
          clear hg hst hlt
          go_wp2_with (at_builtin; refine app_flts rfl _ _ rfl w.heap.size (.slice oa i oc) i (ys.take i) rfl (HO.out.alloc _) _ [0] rfl (slcF_one _ _) (i + 1) (ys.take (i + 1)) (by simp) HTK.out (by omega) (by simp; omega) ?_; intro b3 c3 w3 hown3 hbl3 _ _)
          go_roundw
          case rel => exact ⟨i + 1, b3, c3, by go_num, by omega, rfl, Lib.hid hown3, Lib.hid (HB.out.trans (((Below.refl _ _).alloc hsz _).trans hbl3))⟩
          case measure => simp [intOf]; omega
    · obtain rfl : i = n := by omega
      have hii : ¬ (i : Int) < (i : Int) := by omega
      have hf := HO.out
      rw [List.take_of_length_le (by rw [HYL.out]; exact Nat.le_refl _)] at hf
      have HF := Lib.hid hf
      clear hf
      go_wp2_with fail
      go_ret
      exact ⟨_, rfl, OwnF.mk (n := i) HF.out, HB.out⟩

set_option maxHeartbeats 1000000 in
theorem shrinkList_any (v : Value) (xs ys : List Nat) (b : Nat) (w : World) (h : RdF w v xs) (hsh : shortB xs = true) (hn : xs.length ≤ 64) (hb : fin32 b = true) (hb0 : (FloatKind.f32.format.order b 0 == some .lt) = false) (hl : ys.length = xs.length) (hs : ∀ i, i < xs.length → shrO (xs.getD i 0) b = some (ys.getD i 0)) :
    Calls Try.prog 32 #[v, .float .f32 b] w fun e w' => ∃ u, e = .returned (.tuple #[u, .bool true]) ∧ OwnF w.heap.size w'.heap.size w' u ys ∧ Below w.heap.size w w' := by
  have HI := Lib.hid (isShort_any v xs w h)
  rw [hsh] at HI
  have HF := Lib.hid (fun X => IsFinite_any b X)
  rw [hb] at HF
  have HS := Lib.hid (fun X (hX : RdF X v xs) => shrunk_any v xs ys b X hX hn hl hs)
  have HR := Lib.hid h
  obtain ⟨a, c, rfl⟩ := h.shape
  clear h hsh hb hl hs
  go_enter Try.func32, Try.ntmps32
  go_upto_region 3 with (first
    | (go_at_call 64; refine HI.out.mono ?_; rintro e w1 ⟨rfl, hd1⟩; have HB1 := Lib.hid (show Below w.heap.size w w1 by obtain ⟨m, rfl⟩ := hd1; exact below_drewN (Below.refl _ _) m))
    | (go_at_call 65; refine (HF.out _).mono ?_; rintro e w2 ⟨rfl, hd2⟩; have HB2 := Lib.hid (show Below w.heap.size w w2 by obtain ⟨m, rfl⟩ := hd2; exact below_drewN HB1.out m))
    | fail)
  clear hd1 hd2
  have hz := HB2.out.size
  go_wp2_with (go_at_call 66; refine (HS.out w2 (HR.out.up HB2.out (Nat.le_refl _))).mono ?_; rintro e w3 ⟨u, rfl, ho, hb3⟩)
  go_ret2
  exact ⟨_, rfl, ho.wide hz (Nat.le_refl _), HB2.out.trans (hb3.mono hz)⟩

/-! ### numbers that are drawn, and how far two are apart -/
theorem t_draw : (upto (-8) 17).all (fun d => Ieee.single.div (floatOfInt .f32 d) 1073741824 == some (hF d)) = true := by decide +kernel
theorem draw_is {d : Int} (h0 : -8 ≤ d) (h1 : d ≤ 8) : Ieee.single.div (floatOfInt .f32 d) 1073741824 = some (hF d) := by
  have := List.all_eq_true.1 t_draw d (mem_upto h0 (by omega))
  rwa [beq_iff_eq] at this
theorem run_div8 {P : Program} (t : TypeId) {x y r : Nat} (h : Ieee.single.div x y = some r) (w : World) :
    (binOp .quo t (.float .f32 x) (.float .f32 y)).run P w = .ok (.float .f32 r) w := run_float_arith w .quo t .f32 x y _ h
theorem run_sub64 {P : Program} (t : TypeId) {x y r : Nat} (h : Ieee.double.sub x y = some r) (w : World) :
    (binOp .sub t (.float .f64 x) (.float .f64 y)).run P w = .ok (.float .f64 r) w := run_float_arith w .sub t .f64 x y _ h
theorem run_add64 {P : Program} (t : TypeId) {x y r : Nat} (h : Ieee.double.add x y = some r) (w : World) :
    (binOp .add t (.float .f64 x) (.float .f64 y)).run P w = .ok (.float .f64 r) w := run_float_arith w .add t .f64 x y _ h
theorem run_max64 {P : Program} (ts : Array TypeId) (t : TypeId) {x y r : Nat} (h : mxO x y = some r) (w : World) :
    (Builtin.max_ ts t #[.float .f64 x, .float .f64 y]).run P w = .ok (.float .f64 r) w := by
  unfold mxO at h
  cases ho : Ieee.double.order x y with
  | none => rw [ho] at h; cases h
  | some o =>
    rw [ho] at h
    have hf : FloatKind.f64.format.order x y = some o := ho
    simp only [Option.map_some, Option.some.injEq] at h
    subst h
    cases o
    · simp [Builtin.max_, Builtin.max2, hf]
    · by_cases hn : (FloatKind.f64.decode x).neg = true
      · simp [Builtin.max_, Builtin.max2, hf, hn]
      · simp [Builtin.max_, Builtin.max2, hf, hn]
    · simp [Builtin.max_, Builtin.max2, hf]
theorem run_min64 {P : Program} (ts : Array TypeId) (t : TypeId) {x y r : Nat} (h : mnO x y = some r) (w : World) :
    (Builtin.min_ ts t #[.float .f64 x, .float .f64 y]).run P w = .ok (.float .f64 r) w := by
  unfold mnO at h
  cases ho : Ieee.double.order x y with
  | none => rw [ho] at h; cases h
  | some o =>
    rw [ho] at h
    have hf : FloatKind.f64.format.order x y = some o := ho
    simp only [Option.map_some, Option.some.injEq] at h
    subst h
    cases o
    · simp [Builtin.min_, Builtin.min2, hf]
    · by_cases hn : (FloatKind.f64.decode x).neg = true
      · simp [Builtin.min_, Builtin.min2, hf, hn]
      · simp [Builtin.min_, Builtin.min2, hf, hn]
    · simp [Builtin.min_, Builtin.min2, hf]
theorem gap_any (a b g : Nat) (w : World) (h : gapO a b = some g) :
    Calls Try.prog 34 #[.float .f64 a, .float .f64 b] w fun e w' => e = .returned (.float .f64 g) ∧ w = w' := by
  unfold gapO at h
  cases hx : Ieee.double.sub a b with
  | none => rw [hx] at h; cases h
  | some x =>
    rw [hx, Option.bind_some] at h
    cases hy : Ieee.double.sub b a with
    | none => rw [hy] at h; cases h
    | some y =>
      rw [hy, Option.bind_some] at h
      have q1 := fun (W : World) => run_sub64 (P := Try.prog) 57 hx W
      have q2 := fun (W : World) => run_sub64 (P := Try.prog) 57 hy W
      have q3 := fun (ts : Array TypeId) (t : TypeId) (W : World) => run_max64 (P := Try.prog) ts t h W
      clear h hx hy
      go_enter Try.func34, Try.ntmps34
      go_wp2_with fail
      go_ret
      exact ⟨rfl, rfl⟩

end Go.Proofs.Ytfdaifmfecfchaa

namespace Go.Proofs.Ytfdaifmfecfchaa
open Go.RowKit Go.Sort

/-- The number that an input chooses. -/
def atV (xs : List Int) (i n : Int) : Int := if n ≤ 1 then 0 else if i < xs.length then xs.getD i.toNat 0 % n else 0
theorem atV_rng {xs : List Int} {i n : Int} (n1 : 1 ≤ n) : 0 ≤ atV xs i n ∧ atV xs i n < n := by
  unfold atV
  split
  · omega
  · split
    · exact ⟨Int.emod_nonneg _ (by omega), Int.emod_lt_of_pos _ (by omega)⟩
    · omega
set_option maxHeartbeats 400000 in
theorem r8AtV_any (v : Value) (xs : List Int) (i n : Int) (w : World) (h : RdB w v xs) (hw : WfB xs) (h0 : 0 ≤ i) (h1 : i ≤ 1000000) (n1 : 1 ≤ n) (n2 : n ≤ 1000) :
    Calls Try.prog 7 #[v, .int .i64 i, .int .i64 n] w fun e w' => e = .returned (.int .i64 (atV xs i n)) ∧ w = w' := by
  obtain ⟨a, c, rfl⟩ := h.shape
  by_cases hn : n ≤ 1
  · have HV := Lib.hid (show atV xs i n = 0 by unfold atV; rw [if_pos hn])
    clear h
    go_enter Try.func7, Try.ntmps7
    go_wp2_with fail
    go_ret
    exact ⟨by rw [HV.out]; rfl, rfl⟩
  · by_cases hl : i < (xs.length : Int)
    · obtain ⟨k, rfl⟩ := Int.eq_ofNat_of_zero_le h0
      have hk : k < xs.length := by omega
      have HV := Lib.hid (show atV xs (k : Int) n = xs.getD k 0 % n by unfold atV; rw [if_neg hn, if_pos hl, Int.toNat_natCast])
      obtain ⟨b, off, rfl, _, hc⟩ := h.at hk
      obtain ⟨hx0, hx1⟩ := hw.at hk
      obtain ⟨x, hx⟩ : ∃ x, x = xs.getD k 0 := ⟨_, rfl⟩
      rw [← hx] at hc hx0 hx1 HV
      have hle := h.len
      unfold maxLen at hle
      clear hx h hw
      go_enter Try.func7, Try.ntmps7
      go_wp2_with fail
      go_ret
      exact ⟨by rw [HV.out]; rfl, rfl⟩
    · have HV := Lib.hid (show atV xs i n = 0 by unfold atV; rw [if_neg hn, if_neg hl])
      clear h
      go_enter Try.func7, Try.ntmps7
      go_wp2_with fail
      go_ret
      exact ⟨by rw [HV.out]; rfl, rfl⟩

theorem ownsF_emptyB (w : World) (b : Nat) (hb : b = w.heap.size) : (w.alloc (.cells #[] 53)).ownsRow w.heap.size 53 1 (.slice (some ⟨b, 0, none⟩) 0 0) 0 (([] : List Nat).map F32) := by subst hb; exact ownsF_empty w
set_option maxHeartbeats 2000000 in
set_option maxRecDepth 8000 in
/-- Halves that are drawn. -/
theorem R8List_any (v : Value) (bs : List Int) (w : World) (hR : RdB w v bs) (hw : WfB bs) (n : Nat) (hn : n ≤ 64) :
    Calls Try.prog 31 #[v, .int .i64 n] w fun e w' => ∃ (ds : List Int) (v' : Value), ds.length = n ∧ (∀ d ∈ ds, -8 ≤ d ∧ d ≤ 8) ∧ e = .returned v' ∧ OwnF w.heap.size w'.heap.size w' v' (ds.map hF) ∧ Below w.heap.size w w' := by
  have HR := Lib.hid hR
  have HW := Lib.hid hw
  have HF := Lib.hid (l00From_any v bs w hR)
  clear hR hw
  go_enter Try.func31, Try.ntmps31
  go_upto_region 2 with (go_at_call 36; refine HF.out.mono ?_; rintro e w1 ⟨rfl, hs, hb1⟩)
  have HS1 := Lib.hid hs
  have HB1 := Lib.hid hb1
  have hz1 := HB1.out.size
  have hs1 := hs.lt
  clear hs hb1 HF
  go_wp2_with fail
  go_loopw [1, 6] (fun nv ov wr => ∃ (i : Nat) (ds : List Int) (oa : Option Addr) (oc : Nat), nv = .int .i64 ((n : Int) - i) ∧ i ≤ n ∧ ov = .slice oa i oc ∧ Hid (ds.length = i) ∧ Hid (∀ d ∈ ds, -8 ≤ d ∧ d ≤ 8) ∧ Hid (wr.ownsRow w1.heap.size 53 1 (.slice oa i oc) i ((ds.map hF).map F32)) ∧ Hid (SrcAt wr w.heap.size v (2 * i)) ∧ Hid (Below w.heap.size w wr) ∧ w1.heap.size ≤ wr.heap.size) (fun nv _ _ => (intOf nv).toNat)
  case atStart => exact ⟨0, [], _, 0, by simp, Nat.zero_le _, rfl, Lib.hid rfl, Lib.hid (fun d hd => by cases hd), Lib.hid (ownsF_emptyB _ _ rfl), Lib.hid (HS1.out.below ((Below.refl _ _).alloc (Nat.le_refl _) _) hs1), Lib.hid (HB1.out.alloc hz1 _), by simp⟩
  case round =>
    obtain ⟨i, ds, oa, oc, rfl, hi, rfl, HL, HA, HO, HS, HB, hzw⟩ := hrel
    obtain ⟨wo, rfl⟩ : ∃ wo, wo = wr := ⟨wr, rfl⟩
    by_cases hlt : i < n
    · have hltI : (0 : Int) < (n : Int) - i := by omega
      have HQ := Lib.hid (fun (x : Int) (h0 : 0 ≤ x) (h1 : x < 17) (W : World) => run_div8 (P := Try.prog) 53 (draw_is (d := x - 8) (by omega) (by omega)) W)
      go_wp2_with (first
        | (go_at_call 38; refine (pick_any w v bs HR.out HW.out w.heap.size (2 * i) wo (Nat.le_refl _) HB.out HS.out (by omega) 17 (by omega) (by omega)).mono ?_; rintro e w2 ⟨x, hx0, hx1, rfl, hs2, hk2⟩; have hz2 := hk2.size; have HO2 := Lib.hid (ownsK_kept HO.out hk2 (fun g hg e => by have := (HO.out.lt g hg).1; omega)); have HS2 := Lib.hid hs2; have HB2 := Lib.hid (HB.out.trans (hk2.toBelow HB.out.size (fun k h1 h2 => by omega))); have hq := HQ.out x hx0 hx1; clear hs2 hk2)
        | (at_builtin; refine app_flts rfl _ _ rfl w1.heap.size (.slice oa i oc) i (ds.map hF) rfl (HO2.out.alloc _) _ [hF (x - 8)] rfl (slcF_one _ _) (i + 1) ((ds ++ [x - 8]).map hF) (by simp) (by rw [List.map_append]; rfl) (by omega) (by simp; omega) ?_; intro b3 c3 w3 hown3 hbl3 _ _))
      have HB3 := Lib.hid (show Below w1.heap.size w2 w3 from ((Below.refl w1.heap.size w2).alloc (by omega) _).trans hbl3)
      have hz3 := HB3.out.size
      go_roundw
      case rel => exact ⟨i + 1, ds ++ [x - 8], b3, c3, by go_num, by omega, rfl, Lib.hid (by simp [HL.out]), Lib.hid (fun d hd => by
        rcases List.mem_append.1 hd with hd | hd
        · exact HA.out d hd
        · rw [List.mem_singleton.1 hd]; omega), Lib.hid hown3, Lib.hid ((HS2.out.below HB3.out hs1).mono (by omega)), Lib.hid (HB2.out.trans (HB3.out.mono hz1)), by omega⟩
      case measure => simp [intOf]; omega
    · obtain rfl : i = n := by omega
      have hkk : ¬ (0 : Int) < (i : Int) - i := by omega
      go_wp2_with fail
      go_ret
      refine ⟨ds, HL.out, HA.out, _, rfl, ?_, HB.out⟩
      have h2 := HO.out
      exact (OwnF.mk (n := i) h2).wide hz1 (Nat.le_refl _)

end Go.Proofs.Ytfdaifmfecfchaa

namespace Go.Proofs.Ytfdaifmfecfchaa
open Go.RowKit Go.Sort

theorem t_step0 : (List.range 9).all (fun b => okStep 0 b) = true := by decide +kernel
theorem t_step1 : (List.range 9).all (fun b => okStep 1 b) = true := by decide +kernel
theorem t_step2 : (List.range 9).all (fun b => okStep 2 b) = true := by decide +kernel
theorem t_step3 : (List.range 9).all (fun b => okStep 3 b) = true := by decide +kernel
theorem t_step4 : (List.range 9).all (fun b => okStep 4 b) = true := by decide +kernel
theorem t_step5 : (List.range 9).all (fun b => okStep 5 b) = true := by decide +kernel
theorem t_step6 : (List.range 9).all (fun b => okStep 6 b) = true := by decide +kernel
theorem t_step7 : (List.range 9).all (fun b => okStep 7 b) = true := by decide +kernel
theorem t_step8 : (List.range 9).all (fun b => okStep 8 b) = true := by decide +kernel
theorem t_step9 : (List.range 9).all (fun b => okStep 9 b) = true := by decide +kernel
theorem t_step10 : (List.range 9).all (fun b => okStep 10 b) = true := by decide +kernel
theorem t_step11 : (List.range 9).all (fun b => okStep 11 b) = true := by decide +kernel
theorem t_step12 : (List.range 9).all (fun b => okStep 12 b) = true := by decide +kernel
theorem t_step13 : (List.range 9).all (fun b => okStep 13 b) = true := by decide +kernel
theorem t_step14 : (List.range 9).all (fun b => okStep 14 b) = true := by decide +kernel
theorem t_step15 : (List.range 9).all (fun b => okStep 15 b) = true := by decide +kernel
theorem t_step16 : (List.range 9).all (fun b => okStep 16 b) = true := by decide +kernel
theorem t_step {g b : Nat} (hg : g < 17) (hb : b < 9) : okStep g b = true := by
  have h : (List.range 9).all (fun b => okStep g b) = true := by
    match g, hg with
    | 0, _ => exact t_step0
    | 1, _ => exact t_step1
    | 2, _ => exact t_step2
    | 3, _ => exact t_step3
    | 4, _ => exact t_step4
    | 5, _ => exact t_step5
    | 6, _ => exact t_step6
    | 7, _ => exact t_step7
    | 8, _ => exact t_step8
    | 9, _ => exact t_step9
    | 10, _ => exact t_step10
    | 11, _ => exact t_step11
    | 12, _ => exact t_step12
    | 13, _ => exact t_step13
    | 14, _ => exact t_step14
    | 15, _ => exact t_step15
    | 16, _ => exact t_step16
    | i + 17, h => exact absurd h (by omega)
  exact List.all_eq_true.1 h b (List.mem_range.2 hb)

end Go.Proofs.Ytfdaifmfecfchaa
