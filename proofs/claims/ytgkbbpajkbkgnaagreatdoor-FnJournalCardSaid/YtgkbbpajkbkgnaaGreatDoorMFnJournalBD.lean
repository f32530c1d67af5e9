/-
  FnJournal: texts joined: DrwI.
-/
import Derived.Test.YtgkbbpajkbkgnaaGreatDoorMFnJournalAD
import Derived.Test.YtgkbbpajkbkgnaaGreatDoorMFnJournalAE
import Derived.Test.YtgkbbpajkbkgnaaGreatDoorMFnJournalAG
import Derived.Test.YtgkbbpajkbkgnaaGreatDoorMFnJournalAK
import Derived.Test.YtgkbbpajkbkgnaaGreatDoorMFnJournalAO
import Derived.Test.YtgkbbpajkbkgnaaGreatDoorMFnJournalAP
import Derived.Test.YtgkbbpajkbkgnaaGreatDoorMFnJournalBC
set_option linter.unusedVariables false
set_option linter.unusedSimpArgs false
namespace Go.Proofs.YtgkbbpajkbkgnaaGreatDoor
open Go.RowKit
theorem run_divD {P : Program} (t : TypeId) {x y r : Nat} (h : Ieee.single.div x y = some r) (w : World) :
    (binOp .quo t (.float .f32 x) (.float .f32 y)).run P w = .ok (.float .f32 r) w := run_float_arith w .quo t .f32 x y _ h
set_option maxHeartbeats 2000000 in
set_option maxRecDepth 4000 in
theorem l08DrawSizes_any (W0 : World) (v : Value) (bs : List Int) (hR : RdB W0 v bs) (hw : WfB bs) (sb c : Nat) (w : World) (hsb : W0.heap.size ≤ sb) (hb : Below W0.heap.size W0 w) (h : SrcAt w sb v c) (hc : c ≤ 1000) :
    Calls Tryz.prog 112 #[.pointer (some ⟨sb, 0, none⟩)] w fun e w' => ∃ (xs : List Int) (v' : Value), (1 ≤ xs.length ∧ xs.length ≤ 6) ∧ (∀ x ∈ xs, 1 ≤ x ∧ x ≤ 9) ∧ e = .returned v' ∧ OwnI w.heap.size w'.heap.size w' v' xs ∧ Kept (· = sb) w w' ∧ SrcAt w' sb v (c + 14) := by
  have HR := Lib.hid hR
  have HW := Lib.hid hw
  have HB := Lib.hid hb
  have HS := Lib.hid h
  have hsw := h.lt
  clear hR hw hb h
  go_enter Tryz.func112, Tryz.ntmps112
  have HBA := Lib.hid (HB.out.alloc HB.out.size (.cells #[] 2))
  have HSA := Lib.hid (HS.out.below ((Below.refl w.heap.size w).alloc (Nat.le_refl _) (.cells #[] 2)) hsw)
  go_upto_region 3 with (go_at_call 81; refine (pick_any W0 v bs HR.out HW.out sb c _ hsb HBA.out HSA.out (by omega) 6 (by omega) (by omega)).mono ?_; rintro e w1 ⟨y, hy0, hy1, rfl, hs1, hk1⟩; have hwy : IntKind.i64.wrap (1 + y) = 1 + y := IntWalk.i64_in _ (by omega))
  have HK1 := Lib.hid (((Kept.refl (· = sb) w).alloc (.cells #[] 2)).trans hk1)
  have HS1 := Lib.hid hs1
  have HO1 := Lib.hid (ownsK_kept (owns_emptyB w _ rfl) hk1 (fun g hg e => by have := ((owns_emptyB w _ rfl).lt g hg).1; omega))
  obtain ⟨n, rfl⟩ := Int.eq_ofNat_of_zero_le hy0
  have hn : n < 6 := by omega
  clear hs1 hk1 HBA HSA hwy hy0 hy1
  go_wp2_with fail
  go_loopw [3, 4] (fun ov nv wr => ∃ (j i : Nat) (xs : List Int) (oa : Option Addr) (oc : Nat), nv = .int .i64 j ∧ i + j = n + 1 ∧ ov = .slice oa i oc ∧ Hid (xs.length = i) ∧ Hid (∀ x ∈ xs, 1 ≤ x ∧ x ≤ 9) ∧ Hid (wr.ownsRow w.heap.size 2 1 (.slice oa i oc) i (xs.map I64)) ∧ Hid (SrcAt wr sb v (c + 2 + 2 * i)) ∧ Hid (Kept (· = sb) w wr)) (fun _ nv _ => (intOf nv).toNat)
  case atStart => exact ⟨n + 1, 0, [], _, 0, by simp; omega, by omega, rfl, Lib.hid rfl, Lib.hid (fun x hx => by cases hx), HO1, HS1, HK1⟩
  case round =>
    clear HO1 HS1 HK1
    obtain ⟨j, i, xs, oa, oc, rfl, hij, rfl, HL, HA, HO, HS, HK⟩ := hrel
    obtain ⟨wo, rfl⟩ : ∃ wo, wo = wr := ⟨wr, rfl⟩
    have hszo := HK.out.size
    have HB2 := Lib.hid (HB.out.trans (HK.out.toBelow HB.out.size (fun k h1 h2 => by omega)))
    by_cases hj : 0 < j
    · have hjI : (0 : Int) < (j : Int) := by omega
      go_wp2_with (first
        | (go_at_call 81; refine (pick_any W0 v bs HR.out HW.out sb (c + 2 + 2 * i) wo hsb HB2.out HS.out (by omega) 9 (by omega) (by omega)).mono ?_; rintro e w2 ⟨x, hx0, hx1, rfl, hs2, hk2⟩; have hz2 := hk2.size; have HO2 := Lib.hid (ownsK_kept HO.out hk2 (fun g hg e => by have := (HO.out.lt g hg).1; omega)); have HS2 := Lib.hid hs2; have HK2 := Lib.hid (HK.out.trans hk2); have hwx : IntKind.i64.wrap (1 + x) = 1 + x := IntWalk.i64_in _ (by omega); clear hs2 hk2)
        | (at_builtin; refine app_ints rfl _ _ rfl w.heap.size (.slice oa i oc) i xs rfl (HO2.out.alloc _) _ [1 + x] rfl (slc_one _ _) (i + 1) (xs ++ [1 + x]) (by simp) rfl (by omega) (by simp; omega) ?_; intro b3 c3 w3 hown3 hbl3 _ _))
      have HB3 := Lib.hid (show Below w.heap.size w2 w3 from ((Below.refl w.heap.size w2).alloc (by omega) _).trans hbl3)
      go_roundw
      case rel => exact ⟨j - 1, i + 1, xs ++ [1 + x], b3, c3, by rw [show ((j - 1 : Nat) : Int) = (j : Int) - 1 by omega], by omega, rfl, Lib.hid (by simp [HL.out]), Lib.hid (fun z hz => by
        rcases List.mem_append.1 hz with hz | hz
        · exact HA.out z hz
        · rw [List.mem_singleton.1 hz]; omega), Lib.hid hown3, Lib.hid ((HS2.out.below HB3.out hsw).mono (by omega)), Lib.hid (HK2.out.below HB3.out (Nat.le_refl _))⟩
      case measure => simp [intOf]; omega
    · obtain rfl : j = 0 := by omega
      obtain rfl : i = n + 1 := by omega
      go_wp2_with fail
      go_ret
      exact ⟨xs, by rw [HL.out]; omega, HA.out, _, rfl, OwnI.mk HO.out, HK.out, HS.out.mono (by omega)⟩
theorem idx_inj {n a b i k : Nat} (hb : b < n) (hk : k < n) (h : a * n + b = i * n + k) : a = i ∧ b = k := by
  have h1 : (a * n + b) / n = a := by rw [Nat.mul_comm, Nat.mul_add_div (by omega), Nat.div_eq_of_lt hb, Nat.add_zero]
  have h2 : (i * n + k) / n = i := by rw [Nat.mul_comm, Nat.mul_add_div (by omega), Nat.div_eq_of_lt hk, Nat.add_zero]
  rw [h] at h1
  have : a = i := by omega
  subst this
  omega
structure SymW (n : Nat) (xs : List Int) : Prop where
  len : xs.length = n * n
  sym : ∀ a b, a < n → b < n → xs.getD (a * n + b) 0 = xs.getD (b * n + a) 0
  diag : ∀ a, a < n → xs.getD (a * n + a) 0 = 0
  rng : ∀ x ∈ xs, 0 ≤ x ∧ x ≤ 30
theorem symW_zero (n : Nat) : SymW n (List.replicate (n * n) 0) := by
  have g : ∀ j, (List.replicate (n * n) (0 : Int)).getD j 0 = 0 := fun j => by
    rw [List.getD_eq_getElem?_getD, List.getElem?_replicate]
    split <;> rfl
  refine ⟨by simp, fun a b _ _ => by rw [g, g], fun a _ => g _, fun x hx => ?_⟩
  rw [(List.mem_replicate.1 hx).2]
  omega
theorem getD_set {xs : List Int} {j m : Nat} {x : Int} (hj : j < xs.length) : (xs.set j x).getD m 0 = if m = j then x else xs.getD m 0 := by
  rw [List.getD_eq_getElem?_getD, List.getElem?_set, List.getD_eq_getElem?_getD]
  by_cases h : j = m
  · rw [if_pos h, if_pos hj, if_pos h.symm]; rfl
  · rw [if_neg h, if_neg (fun e => h e.symm)]
theorem symW_set {n : Nat} {xs : List Int} (h : SymW n xs) {i k : Nat} (hi : i < n) (hk : k < i) {x : Int} (h0 : 0 ≤ x) (h30 : x ≤ 30) : SymW n ((xs.set (i * n + k) x).set (k * n + i) x) := by
  have lt : ∀ a b, a < n → b < n → a * n + b < xs.length := fun a b ha hb => by
    have h1 : (a + 1) * n ≤ n * n := Nat.mul_le_mul_right _ ha
    rw [Nat.add_mul] at h1
    rw [h.len]; omega
  have g : ∀ a b, a < n → b < n → ((xs.set (i * n + k) x).set (k * n + i) x).getD (a * n + b) 0 = if (a = k ∧ b = i) ∨ (a = i ∧ b = k) then x else xs.getD (a * n + b) 0 := fun a b ha hb => by
    rw [getD_set (by rw [List.length_set]; exact lt k i (by omega) hi), getD_set (lt i k hi (by omega))]
    by_cases e1 : a * n + b = k * n + i
    · rw [if_pos e1, if_pos (.inl (idx_inj hb hi e1))]
    · rw [if_neg e1]
      by_cases e2 : a * n + b = i * n + k
      · rw [if_pos e2, if_pos (.inr (idx_inj hb (by omega) e2))]
      · rw [if_neg e2, if_neg]
        rintro (⟨rfl, rfl⟩ | ⟨rfl, rfl⟩)
        · exact e1 rfl
        · exact e2 rfl
  refine ⟨by simp [h.len], fun a b ha hb => ?_, fun a ha => ?_, fun z hz => ?_⟩
  · rw [g a b ha hb, g b a hb ha, h.sym a b ha hb]
    by_cases e : (a = k ∧ b = i) ∨ (a = i ∧ b = k)
    · rw [if_pos e, if_pos (show (b = k ∧ a = i) ∨ (b = i ∧ a = k) from e.elim (fun h => .inr ⟨h.2, h.1⟩) (fun h => .inl ⟨h.2, h.1⟩))]
    · rw [if_neg e, if_neg (show ¬ ((b = k ∧ a = i) ∨ (b = i ∧ a = k)) from fun h => e (h.elim (fun h => .inr ⟨h.2, h.1⟩) (fun h => .inl ⟨h.2, h.1⟩)))]
  · rw [g a a ha ha, if_neg (by rintro (⟨p, q⟩ | ⟨p, q⟩) <;> omega)]
    exact h.diag a ha
  · rcases List.mem_or_eq_of_mem_set hz with hz | rfl
    · rcases List.mem_or_eq_of_mem_set hz with hz | rfl
      · exact h.rng z hz
      · exact ⟨h0, h30⟩
    · exact ⟨h0, h30⟩
set_option maxHeartbeats 4000000 in
set_option maxRecDepth 4000 in
theorem l04DrawOk_any (W0 : World) (v : Value) (bs : List Int) (hR : RdB W0 v bs) (hw : WfB bs) (sb c : Nat) (w : World) (hsb : W0.heap.size ≤ sb) (hb : Below W0.heap.size W0 w) (h : SrcAt w sb v c) (hc : c ≤ 1000) (n : Nat) (h1 : 1 ≤ n) (h8 : n ≤ 8) :
    Calls Tryz.prog 114 #[.pointer (some ⟨sb, 0, none⟩), .int .i64 n] w fun e w' => ∃ (xs : List Int) (v' : Value), SymW n xs ∧ e = .returned v' ∧ OwnI w.heap.size w'.heap.size w' v' xs ∧ Kept (· = sb) w w' ∧ SrcAt w' sb v (c + 16 * n) := by
  have HR := Lib.hid hR
  have HW := Lib.hid hw
  have HB := Lib.hid hb
  have HS := Lib.hid h
  have hsw := h.lt
  clear hR hw hb h
  have hnn : n * n ≤ 8 * 8 := Nat.mul_le_mul h8 h8
  have hnn0 : (0 : Int) ≤ (n : Int) * n := Int.mul_nonneg (by omega) (by omega)
  obtain ⟨T, hT⟩ : ∃ T, T = n * n := ⟨_, rfl⟩
  have hTI : (n : Int) * n = (T : Int) := by rw [hT]; push_cast; rfl
  have hmk := run_make_ints T (by omega)
  have hwT : IntKind.i64.wrap ((T : Int)) = (T : Int) := IntWalk.i64_in _ (by omega)
  have HT := Lib.hid hT
  have hT64 : T ≤ 64 := by omega
  clear hT hnn hnn0
  go_enter Tryz.func114, Tryz.ntmps114
  go_upto_region 2 with fail
  refine wp_at fun W hW => ?_
  obtain ⟨g, hg⟩ : ∃ g, g = w.heap.size := ⟨_, rfl⟩
  have HO0 := Lib.hid (show W.ownsRow w.heap.size 2 1 (.slice (some ⟨g, 0, none⟩) T T) T ((List.replicate T (0 : Int)).map I64) by subst hW hg; exact owns_zerosI T (by omega) w _ rfl)
  have HK0 := Lib.hid (show Kept (· = sb) w W by subst hW; exact (Kept.refl _ w).alloc _)
  have HS0 := Lib.hid (show SrcAt W sb v c by subst hW; exact HS.out.below ((Below.refl w.heap.size w).alloc (Nat.le_refl _) _) hsw)
  have hgs : g ≠ sb := by omega
  have hg1 : w.heap.size ≤ g := by omega
  have HZ := Lib.hid (show SymW n (List.replicate T 0) by rw [HT.out]; exact symW_zero n)
  rw [← hg]
  clear hW hg hmk hTI hwT
  go_wp2_with fail
  go_loopw [6] (fun iv wr => ∃ (i : Nat) (xs : List Int), iv = .int .i64 i ∧ i ≤ n ∧ Hid (SymW n xs) ∧ Hid (wr.ownsRow w.heap.size 2 1 (.slice (some ⟨g, 0, none⟩) T T) T (xs.map I64)) ∧ Hid (SrcAt wr sb v (c + 16 * i)) ∧ Hid (Kept (· = sb) w wr)) (fun iv _ => n + 1 - (intOf iv).toNat)
  case atStart => exact ⟨0, _, rfl, Nat.zero_le _, HZ, HO0, HS0, HK0⟩
  case round =>
    clear HZ HO0 HS0 HK0
    obtain ⟨i, xs, rfl, hi, HX, HO, HS, HK⟩ := hrel
    obtain ⟨wo, rfl⟩ : ∃ wo, wo = wr := ⟨wr, rfl⟩
    by_cases hin : i < n
    · have hinI : (i : Int) < (n : Int) := by omega
      go_wp2_with fail
      go_loopw [7] (fun kv wr => ∃ (k : Nat) (xs : List Int), kv = .int .i64 k ∧ k ≤ i ∧ Hid (SymW n xs) ∧ Hid (wr.ownsRow w.heap.size 2 1 (.slice (some ⟨g, 0, none⟩) T T) T (xs.map I64)) ∧ Hid (SrcAt wr sb v (c + 16 * i + 2 * k)) ∧ Hid (Kept (· = sb) w wr)) (fun kv _ => i + 1 - (intOf kv).toNat)
      case atStart => exact ⟨0, xs, rfl, Nat.zero_le _, HX, HO, HS, HK⟩
      case round =>
        clear HX HO HS HK
        obtain ⟨k, ys, rfl, hk, HX, HO, HS, HK⟩ := hrel
        obtain ⟨wm, rfl⟩ : ∃ wm, wm = wr := ⟨wr, rfl⟩
        have hszo := HK.out.size
        have HB2 := Lib.hid (HB.out.trans (HK.out.toBelow HB.out.size (fun k h1 h2 => by omega)))
        by_cases hki : k < i
        · have hkiI : (k : Int) < (i : Int) := by omega
          have ht := HT.out
          have hlen := HX.out.len
          have hix1 : i * n + k < T := by
            have h1 : (i + 1) * n ≤ n * n := Nat.mul_le_mul_right _ hin
            rw [Nat.add_mul] at h1
            omega
          have hix2 : k * n + i < T := by
            have h1 : (k + 1) * n ≤ n * n := Nat.mul_le_mul_right _ (by omega)
            rw [Nat.add_mul] at h1
            omega
          obtain ⟨p, hp⟩ : ∃ p, p = i * n + k := ⟨_, rfl⟩
          obtain ⟨q, hq⟩ : ∃ q, q = k * n + i := ⟨_, rfl⟩
          have hpI : (i : Int) * n + k = (p : Int) := by rw [hp]; push_cast; rfl
          have hqI : (k : Int) * n + i = (q : Int) := by rw [hq]; push_cast; rfl
          rw [← hp] at hix1
          rw [← hq] at hix2
          have hm1 : (0 : Int) ≤ (i : Int) * n := Int.mul_nonneg (by omega) (by omega)
          have hm2 : (0 : Int) ≤ (k : Int) * n := Int.mul_nonneg (by omega) (by omega)
          have hw1 : IntKind.i64.wrap ((i : Int) * n) = (i : Int) * n := IntWalk.i64_in _ (by omega)
          have hw2 : IntKind.i64.wrap ((k : Int) * n) = (k : Int) * n := IntWalk.i64_in _ (by omega)
          have hw3 : IntKind.i64.wrap ((i : Int) * n + k) = (p : Int) := by rw [hpI]; exact IntWalk.i64_in _ (by omega)
          have hw4 : IntKind.i64.wrap ((k : Int) * n + i) = (q : Int) := by rw [hqI]; exact IntWalk.i64_in _ (by omega)
          have hpT : (p : Int) < (T : Int) := by omega
          have hqT : (q : Int) < (T : Int) := by omega
          have HPQ := Lib.hid hp
          have HQQ := Lib.hid hq
          have hpq : p ≠ q := by
            intro e
            rw [hp, hq] at e
            have := idx_inj (by omega) hin e
            omega
          have hyl : ys.length = T := by omega
          have HYL := Lib.hid hyl
          clear ht hlen hp hq hpI hqI hm1 hm2 hyl
          go_upto_region 9 with (go_at_call 81; refine (pick_any W0 v bs HR.out HW.out sb (c + 16 * i + 2 * k) wm hsb HB2.out HS.out (by omega) 30 (by omega) (by omega)).mono ?_; rintro e w2 ⟨x, hx0, hx1, rfl, hs2, hk2⟩; have hwx : IntKind.i64.wrap (1 + x) = 1 + x := IntWalk.i64_in _ (by omega))
          have hz2 := hk2.size
          have HO2 := Lib.hid (ownsK_kept HO.out hk2 (fun g hg e => by have := (HO.out.lt g hg).1; omega))
          have HS2 := Lib.hid hs2
          have HK2 := Lib.hid (HK.out.trans hk2)
          clear hs2 hk2
          have c1 : w2.cell? ⟨g, p, none⟩ = some (.int .i64 (ys.getD p 0)) := by
            rw [HO2.out.cellAt p (by omega), List.getElem?_map, List.getD_eq_getElem?_getD, List.getElem?_eq_getElem (by rw [HYL.out]; omega)]; rfl
          have c2 : w2.cell? ⟨g, q, none⟩ = some (.int .i64 (ys.getD q 0)) := by
            rw [HO2.out.cellAt q (by omega), List.getElem?_map, List.getD_eq_getElem?_getD, List.getElem?_eq_getElem (by rw [HYL.out]; omega)]; rfl
          have f1 := HO2.out.frozenAt p
          have f2 := HO2.out.frozenAt q
          go_wp2_with fail
          have HK3 := Lib.hid (show Kept (· = g) w2 ((w2.setCell ⟨g, p, none⟩ (.int .i64 (1 + x))).setCell ⟨g, q, none⟩ (.int .i64 (1 + x))) from ((Kept.refl (· = g) w2).setCell (p := ⟨g, p, none⟩) (.inr rfl) _).setCell (p := ⟨g, q, none⟩) (.inr rfl) _)
          go_roundw
          case rel =>
            refine ⟨k + 1, (ys.set p (1 + x)).set q (1 + x), by go_num, by omega, Lib.hid ?_, Lib.hid ?_, Lib.hid ((HS2.out.kept HK3.out (fun e => hgs e.symm)).mono (by omega)), Lib.hid ((HK2.out.setCell (.inl hg1) _).setCell (.inl hg1) _)⟩
            · rw [HPQ.out, HQQ.out]
              exact symW_set HX.out hin hki (by omega) (by omega)
            · rw [List.map_set, List.map_set]
              exact ((HO2.out.stored p (.int .i64 (1 + x))).1.stored q (.int .i64 (1 + x))).1
          case measure => simp [intOf]; omega
        · obtain rfl : k = i := by omega
          go_wp2_with fail
          go_roundw
          case rel => exact ⟨k + 1, ys, by go_num, by omega, HX, HO, Lib.hid (HS.out.mono (by omega)), HK⟩
          case measure => simp [intOf]; omega
    · obtain rfl : i = n := by omega
      go_wp2_with fail
      go_ret
      refine ⟨xs, _, HX.out, rfl, ?_, HK.out, HS.out⟩
      have h2 := HO.out
      have hl := HX.out.len
      rw [← HT.out] at hl
      rw [← hl] at h2 ⊢
      exact OwnI.mk h2
theorem nilF (w : World) (lo hi : Nat) : OwnF lo hi w (.slice none 0 0) [] := ⟨⟨rfl, .inl ⟨rfl, rfl⟩⟩, fun g hg => by cases hg⟩
theorem nilR (w : World) (lo : Nat) (V : Int) : OwnR lo w.heap.size w (.agg #[.int .i64 V, .slice none 0 0, .slice none 0 0, .slice none 0 0]) ⟨V, [], [], []⟩ :=
  ⟨_, _, _, rfl, nilF _ _ _, nilF _ _ _, nilF _ _ _, fun g hg => (by cases hg), fun g hg => (by cases hg), fun g hg => (by cases hg)⟩
theorem ownR_app3 {lo hi : Nat} {w w' : World} {n0 : Int} {x1 x2 x3 xs : List Nat} {y1 y2 y3 y : Value} {m : Nat} (h : OwnR lo hi w (.agg #[.int .i64 n0, y1, y2, y3]) ⟨n0, x1, x2, x3⟩) (hh : hi ≤ w.heap.size) (hg : w.grownBy w' y3.ownBlock)
    (ho : w'.ownsRow lo 100 1 y m (xs.map F32)) (hl : y.ownBlock = y3.ownBlock ∨ y.ownBlock = some w.heap.size) : OwnR lo w'.heap.size w' (.agg #[.int .i64 n0, y1, y2, y]) ⟨n0, x1, x2, xs⟩ := by
  obtain ⟨va, vb, vc, e, o1, o2, o3, d1, d2, d3⟩ := h
  simp only [Value.agg.injEq, Array.mk.injEq, List.cons.injEq, and_true, true_and] at e
  obtain ⟨rfl, rfl, rfl⟩ := e
  have hz := hg.size
  have p1 : OwnF lo hi w' y1 x1 := ownF_grown o1 hg d2
  have p2 : OwnF lo hi w' y2 x2 := ownF_grown o2 hg d3
  have p3 : OwnF lo w'.heap.size w' y xs := by
    have hm : m = xs.length := by have := ho.1; simp at this; omega
    subst hm
    exact OwnF.mk ho
  refine ⟨_, _, _, rfl, p1.wide (Nat.le_refl _) (by omega), p2.wide (Nat.le_refl _) (by omega), p3, d1, fun g h1 h2 => ?_, fun g h1 h2 => ?_⟩
  · rcases hl with e | e
    · rw [e] at h2; exact d2 g h1 h2
    · rw [e] at h2; have := o1.blk h1; have := Option.some.inj h2; omega
  · rcases hl with e | e
    · rw [e] at h2; exact d3 g h1 h2
    · rw [e] at h2; have := o2.blk h1; have := Option.some.inj h2; omega
set_option maxHeartbeats 4000000 in
set_option maxRecDepth 4000 in
theorem l02DrawSides_any (W0 : World) (v : Value) (bs : List Int) (hR : RdB W0 v bs) (hw : WfB bs) (sb c : Nat) (w : World) (hsb : W0.heap.size ≤ sb) (hb : Below W0.heap.size W0 w) (h : SrcAt w sb v c) (hc : c ≤ 1000) (V R : Nat) (hV1 : 1 ≤ V) (hV4 : V ≤ 4) (hR1 : 1 ≤ R) (hR4 : R ≤ 4) :
    Calls Tryz.prog 164 #[.pointer (some ⟨sb, 0, none⟩), .int .i64 V, .int .i64 R] w fun e w' => ∃ (r : RowsD) (v' : Value), HalfR r ∧ e = .returned v' ∧ OwnR w.heap.size w'.heap.size w' v' r ∧ Kept (· = sb) w w' ∧ SrcAt w' sb v (c + 48) := by
  have HR := Lib.hid hR
  have HW := Lib.hid hw
  have HB := Lib.hid hb
  have HS := Lib.hid h
  have hsw := h.lt
  clear hR hw hb h
  have hVR : V * R ≤ 4 * 4 := Nat.mul_le_mul hV4 hR4
  obtain ⟨T, hT⟩ : ∃ T, T = V * R := ⟨_, rfl⟩
  have hTI : (V : Int) * R = (T : Int) := by rw [hT]; push_cast; rfl
  have hwT : IntKind.i64.wrap ((T : Int)) = (T : Int) := IntWalk.i64_in _ (by omega)
  have HT := Lib.hid hT
  have hT16 : T ≤ 16 := by omega
  clear hT hVR
  go_enter Tryz.func164, Tryz.ntmps164
  go_upto_region 3 with fail
  refine wp_at fun W hW => ?_
  obtain ⟨ob, hob⟩ : ∃ ob, ob = w.heap.size + 1 := ⟨_, rfl⟩
  have HG0 := Lib.hid (show Blk W ob 26 #[.int .i64 V, .slice none 0 0, .slice none 0 0, .slice none 0 0] by subst hW hob; simpa using Blk.new (w.alloc (.cells #[.int .i64 0, .slice none 0 0, .slice none 0 0, .slice none 0 0] 26)) 26 #[.int .i64 V, .slice none 0 0, .slice none 0 0, .slice none 0 0])
  have HL0 := Lib.hid (show Blk W w.heap.size 26 #[.int .i64 0, .slice none 0 0, .slice none 0 0, .slice none 0 0] by subst hW; exact (Blk.new _ _ _).alloc _)
  have HB0 := Lib.hid (show Below w.heap.size w W by subst hW; (repeat' first | exact Below.refl _ _ | assumption | refine Below.alloc ?_ ?_ _ | refine Below.setCell ?_ ?_ _ | refine Below.drew ?_ | (simp; done) | (simp; omega)))
  have HN := Lib.hid (nilR W w.heap.size V)
  rw [← hob]
  clear hW
  have hobw : w.heap.size < ob := by omega
  have hobs : ob ≠ sb := by omega
  clear hob
  go_wp2_with fail
  go_loopw [8] (fun nv wr => ∃ (j : Nat) (N : List Nat) (y1 : Option Addr) (e1 : Nat), nv = .int .i64 j ∧ N.length + j = T ∧ Hid (Halves (-3) 7 N) ∧ Hid (Blk wr ob 26 #[.int .i64 V, .slice y1 N.length e1, .slice none 0 0, .slice none 0 0]) ∧ Hid (OwnR w.heap.size wr.heap.size wr (.agg #[.int .i64 V, .slice y1 N.length e1, .slice none 0 0, .slice none 0 0]) ⟨V, N, [], []⟩) ∧ Hid (SrcAt wr sb v (c + 2 * N.length)) ∧ Hid (Kept (· = sb) w wr) ∧ Hid (Blk wr w.heap.size 26 #[.int .i64 0, .slice none 0 0, .slice none 0 0, .slice none 0 0])) (fun nv _ => (intOf nv).toNat)
  case atStart => exact ⟨T, [], none, 0, rfl, by simp, Lib.hid Halves.nil, HG0, HN, Lib.hid (HS.out.below HB0.out hsw), Lib.hid (Kept.of_below HB0.out (Nat.le_refl _)), HL0⟩
  case round =>
    clear HG0 HL0 HB0 HN
    obtain ⟨j, N, y1, e1, rfl, hkj, HH1, HG, HO, HS, HK, HL⟩ := hrel
    obtain ⟨wo, rfl⟩ : ∃ wo, wo = wr := ⟨wr, rfl⟩
    have hszo := HK.out.size
    have HB2 := Lib.hid (HB.out.trans (HK.out.toBelow HB.out.size (fun k h1 h2 => by omega)))
    by_cases hj : 0 < j
    · have hjI : (0 : Int) < (j : Int) := by omega
      have HQ := Lib.hid (fun (x : Int) (h0 : 0 ≤ x) (h1 : x < 11) (W : World) => run_divD (P := Tryz.prog) 100 (dD_is (d := x - 3) (by omega) (by omega)) W)
      have g1 : wo.drew.cell? ⟨ob, 1, none⟩ = some (.slice y1 N.length e1) := HG.out.cell 1 rfl
      have HGD := Lib.hid (show Blk wo.drew ob 26 #[.int .i64 V, .slice y1 N.length e1, .slice none 0 0, .slice none 0 0] from HG.out)
      have HLD := Lib.hid (show Blk wo.drew w.heap.size 26 #[.int .i64 0, .slice none 0 0, .slice none 0 0, .slice none 0 0] from HL.out)
      go_wp2_with fail
      go_region_law (first
        | (go_simp; go_at_call 81; refine (pick_any W0 v bs HR.out HW.out sb (c + 2 * N.length) wo.drew hsb HB2.out.drew HS.out (by omega) 11 (by omega) (by omega)).mono ?_; rintro e w2 ⟨x, hx0, hx1, rfl, hs2, hk2⟩; have hk3 : Kept (· = sb) wo w2 := ((Kept.refl (· = sb) wo).drew).trans hk2; have hz2 := hk3.size; have HG2 := HGD.out.kept hk2 hobs; have HL2 := HLD.out.kept hk2 (show ¬ w.heap.size = sb by omega); have q1 := HG2.cell 1 rfl; have HGA := HG2.alloc (.cells #[.float .f32 (hD (x - 3))] 100); have HLA := HL2.alloc (.cells #[.float .f32 (hD (x - 3))] 100); have qA := HGA.cell 1 rfl; have HO2 := (HO.out.kept hk3 (by intro b h1 h2 h3; omega)).wide (lo' := w.heap.size) (hi' := w2.heap.size) (Nat.le_refl _) hz2; have HOA := HO2.up ((Below.refl w2.heap.size w2).alloc (Nat.le_refl _) (.cells #[.float .f32 (hD (x - 3))] 100)) (Nat.le_refl _); have hq := HQ.out x hx0 hx1; have hwx : IntKind.i64.wrap (x - 3) = x - 3 := IntWalk.i64_in _ (by omega))
        | (refine step_app_fltsL rfl (.tmp 21) (.tmp 27) (by rfl) w.heap.size (.slice y1 N.length e1) N.length N (by rfl) HOA.parts.1.1 _ [hD (x - 3)] (by rfl) (slcF_one _ _) (N.length + 1) (N ++ [hD (x - 3)]) rfl rfl (by omega) (by simp; omega) ?_; intro z ez w9 hown9 hbl9 hg9 hl9; have HG9 := blk_grown HGA hg9 (HGA.not_owned HOA.parts.1.1 (by decide)); have HL9 := blk_grown HLA hg9 (HLA.not_owned HOA.parts.1.1 (by decide)); have q9 := HG9.cell 1 rfl; have f9 := HG9.free 1))
      all_goals
        have hlen : (N ++ [hD (x - 3)]).length = N.length + 1 := by simp
        have HOS := Lib.hid (ownR_set (ownR_app1 HOA (by simp) hg9 hown9 hl9) HG9 1 (.slice z (N.length + 1) ez))
        have HGS := Lib.hid (show Blk (w9.setCell ⟨ob, 1, none⟩ (.slice z (N.length + 1) ez)) ob 26 #[.int .i64 V, .slice z (N.length + 1) ez, .slice none 0 0, .slice none 0 0] from HG9.set 1 _)
        have HLS := Lib.hid (HL9.other (a := ⟨ob, 1, none⟩) (show w.heap.size ≠ ob by omega) (.slice z (N.length + 1) ez))
        have HBL : Below w.heap.size w2 w9 := ((Below.refl w.heap.size w2).alloc (by omega) _).trans hbl9
        have HSS := Lib.hid ((hs2.below HBL hsw).kept (Kept.setCell (S := fun b => b = ob) (Kept.refl _ w9) (p := ⟨ob, 1, none⟩) (.inr rfl) (.slice z (N.length + 1) ez)) (fun e => hobs e.symm))
        have HKS := Lib.hid ((((HK.out.trans hk3).below HBL (Nat.le_refl _))).setCell (p := ⟨ob, 1, none⟩) (.inl (by show w.heap.size ≤ ob; omega)) (.slice z (N.length + 1) ez))
        have hzs : (w9.setCell ⟨ob, 1, none⟩ (.slice z (N.length + 1) ez)).heap.size = w9.heap.size := by simp [World.setCell]
        have HZS := Lib.hid hzs
        clear hzs
        go_wp2_with fail
        go_roundw
        case rel => exact ⟨j - 1, N ++ [hD (x - 3)], z, ez, by rw [show ((j - 1 : Nat) : Int) = (j : Int) - 1 by omega], by rw [hlen]; omega, Lib.hid (HH1.out.snoc (by omega) (by omega)), Lib.hid (by rw [hlen]; exact HGS.out), Lib.hid (by rw [hlen, HZS.out]; exact HOS.out), Lib.hid (HSS.out.mono (by rw [hlen]; omega)), HKS, HLS⟩
        case measure => simp [intOf]; omega
    · have HNT := Lib.hid (show N.length = T by omega)
      have hj0 : (j : Int) = 0 := by omega
      rw [hj0]
      clear hj0 hj hkj
      go_wp2_with fail
      go_loopw [9] (fun nv wr => ∃ (B : List Nat) (y2 : Option Addr) (e2 : Nat), nv = .int .i64 (B.length : Nat) ∧ B.length ≤ R ∧ Hid (Halves 0 16 B) ∧ Hid (Blk wr ob 26 #[.int .i64 V, .slice y1 N.length e1, .slice y2 B.length e2, .slice none 0 0]) ∧ Hid (OwnR w.heap.size wr.heap.size wr (.agg #[.int .i64 V, .slice y1 N.length e1, .slice y2 B.length e2, .slice none 0 0]) ⟨V, N, B, []⟩) ∧ Hid (SrcAt wr sb v (c + 2 * T + 2 * B.length)) ∧ Hid (Kept (· = sb) w wr) ∧ Hid (Blk wr w.heap.size 26 #[.int .i64 0, .slice none 0 0, .slice none 0 0, .slice none 0 0])) (fun nv _ => R + 1 - (intOf nv).toNat)
      case atStart => exact ⟨[], none, 0, rfl, Nat.zero_le _, Lib.hid Halves.nil, HG, HO, Lib.hid (HS.out.mono (by have := HNT.out; simp; omega)), HK, HL⟩
      case round =>
        clear HG HO HS HK HL
        obtain ⟨B, y2, e2, rfl, hkj, HH2, HG, HO, HS, HK, HL⟩ := hrel
        obtain ⟨wo, rfl⟩ : ∃ wo, wo = wr := ⟨wr, rfl⟩
        have hszo := HK.out.size
        have HB2 := Lib.hid (HB.out.trans (HK.out.toBelow HB.out.size (fun k h1 h2 => by omega)))
        by_cases hj : B.length < R
        · have hjI : (B.length : Int) < (R : Int) := by omega
          have HQ := Lib.hid (fun (x : Int) (h0 : 0 ≤ x) (h1 : x < 17) (W : World) => run_divD (P := Tryz.prog) 100 (dD_is (d := x) (by omega) (by omega)) W)
          have g1 : wo.drew.cell? ⟨ob, 2, none⟩ = some (.slice y2 B.length e2) := HG.out.cell 2 rfl
          have HGD := Lib.hid (show Blk wo.drew ob 26 #[.int .i64 V, .slice y1 N.length e1, .slice y2 B.length e2, .slice none 0 0] from HG.out)
          have HLD := Lib.hid (show Blk wo.drew w.heap.size 26 #[.int .i64 0, .slice none 0 0, .slice none 0 0, .slice none 0 0] from HL.out)
          go_wp2_with fail
          go_region_law (first
            | (go_simp; go_at_call 81; refine (pick_any W0 v bs HR.out HW.out sb (c + 2 * T + 2 * B.length) wo.drew hsb HB2.out.drew HS.out (by omega) 17 (by omega) (by omega)).mono ?_; rintro e w2 ⟨x, hx0, hx1, rfl, hs2, hk2⟩; have hk3 : Kept (· = sb) wo w2 := ((Kept.refl (· = sb) wo).drew).trans hk2; have hz2 := hk3.size; have HG2 := HGD.out.kept hk2 hobs; have HL2 := HLD.out.kept hk2 (show ¬ w.heap.size = sb by omega); have q1 := HG2.cell 2 rfl; have HGA := HG2.alloc (.cells #[.float .f32 (hD (x))] 100); have HLA := HL2.alloc (.cells #[.float .f32 (hD (x))] 100); have qA := HGA.cell 2 rfl; have HO2 := (HO.out.kept hk3 (by intro b h1 h2 h3; omega)).wide (lo' := w.heap.size) (hi' := w2.heap.size) (Nat.le_refl _) hz2; have HOA := HO2.up ((Below.refl w2.heap.size w2).alloc (Nat.le_refl _) (.cells #[.float .f32 (hD (x))] 100)) (Nat.le_refl _); have hq := HQ.out x hx0 hx1)
            | (refine step_app_fltsL rfl (.tmp 36) (.tmp 41) (by rfl) w.heap.size (.slice y2 B.length e2) B.length B (by rfl) HOA.parts.2.1.1 _ [hD (x)] (by rfl) (slcF_one _ _) (B.length + 1) (B ++ [hD (x)]) rfl rfl (by omega) (by simp; omega) ?_; intro z ez w9 hown9 hbl9 hg9 hl9; have HG9 := blk_grown HGA hg9 (HGA.not_owned HOA.parts.2.1.1 (by decide)); have HL9 := blk_grown HLA hg9 (HLA.not_owned HOA.parts.2.1.1 (by decide)); have q9 := HG9.cell 2 rfl; have f9 := HG9.free 2))
          all_goals
            have hlen : (B ++ [hD (x)]).length = B.length + 1 := by simp
            have HOS := Lib.hid (ownR_set (ownR_app2 HOA (by simp) hg9 hown9 hl9) HG9 2 (.slice z (B.length + 1) ez))
            have HGS := Lib.hid (show Blk (w9.setCell ⟨ob, 2, none⟩ (.slice z (B.length + 1) ez)) ob 26 #[.int .i64 V, .slice y1 N.length e1, .slice z (B.length + 1) ez, .slice none 0 0] from HG9.set 2 _)
            have HLS := Lib.hid (HL9.other (a := ⟨ob, 2, none⟩) (show w.heap.size ≠ ob by omega) (.slice z (B.length + 1) ez))
            have HBL : Below w.heap.size w2 w9 := ((Below.refl w.heap.size w2).alloc (by omega) _).trans hbl9
            have HSS := Lib.hid ((hs2.below HBL hsw).kept (Kept.setCell (S := fun b => b = ob) (Kept.refl _ w9) (p := ⟨ob, 2, none⟩) (.inr rfl) (.slice z (B.length + 1) ez)) (fun e => hobs e.symm))
            have HKS := Lib.hid ((((HK.out.trans hk3).below HBL (Nat.le_refl _))).setCell (p := ⟨ob, 2, none⟩) (.inl (by show w.heap.size ≤ ob; omega)) (.slice z (B.length + 1) ez))
            have hzs : (w9.setCell ⟨ob, 2, none⟩ (.slice z (B.length + 1) ez)).heap.size = w9.heap.size := by simp [World.setCell]
            have HZS := Lib.hid hzs
            clear hzs
            go_wp2_with fail
            go_roundw
            case rel => exact ⟨B ++ [hD (x)], z, ez, by rw [hlen]; go_num, by rw [hlen]; omega, Lib.hid (HH2.out.snoc (by omega) (by omega)), Lib.hid (by rw [hlen]; exact HGS.out), Lib.hid (by rw [hlen, HZS.out]; exact HOS.out), Lib.hid (HSS.out.mono (by rw [hlen]; omega)), HKS, HLS⟩
            case measure => simp [intOf]; omega
        · have HBR := Lib.hid (show B.length = R by omega)
          have hBR : B.length = R := HBR.out
          clear hBR
          go_wp2_with fail
          go_loopw [10] (fun nv wr => ∃ (G : List Nat) (y3 : Option Addr) (e3 : Nat), nv = .int .i64 (G.length : Nat) ∧ G.length ≤ V ∧ Hid (Halves (-3) 7 G) ∧ Hid (Blk wr ob 26 #[.int .i64 V, .slice y1 N.length e1, .slice y2 B.length e2, .slice y3 G.length e3]) ∧ Hid (OwnR w.heap.size wr.heap.size wr (.agg #[.int .i64 V, .slice y1 N.length e1, .slice y2 B.length e2, .slice y3 G.length e3]) ⟨V, N, B, G⟩) ∧ Hid (SrcAt wr sb v (c + 2 * T + 2 * R + 2 * G.length)) ∧ Hid (Kept (· = sb) w wr) ∧ Hid (Blk wr w.heap.size 26 #[.int .i64 0, .slice none 0 0, .slice none 0 0, .slice none 0 0])) (fun nv _ => V + 1 - (intOf nv).toNat)
          case atStart => exact ⟨[], none, 0, rfl, Nat.zero_le _, Lib.hid Halves.nil, HG, HO, Lib.hid (HS.out.mono (by have := HBR.out; simp; omega)), HK, HL⟩
          case round =>
            clear HG HO HS HK HL
            obtain ⟨G, y3, e3, rfl, hkj, HH3, HG, HO, HS, HK, HL⟩ := hrel
            obtain ⟨wo, rfl⟩ : ∃ wo, wo = wr := ⟨wr, rfl⟩
            have hszo := HK.out.size
            have HB2 := Lib.hid (HB.out.trans (HK.out.toBelow HB.out.size (fun k h1 h2 => by omega)))
            by_cases hj : G.length < V
            · have hjI : (G.length : Int) < (V : Int) := by omega
              have HQ := Lib.hid (fun (x : Int) (h0 : 0 ≤ x) (h1 : x < 11) (W : World) => run_divD (P := Tryz.prog) 100 (dD_is (d := x - 3) (by omega) (by omega)) W)
              have g1 : wo.drew.cell? ⟨ob, 3, none⟩ = some (.slice y3 G.length e3) := HG.out.cell 3 rfl
              have HGD := Lib.hid (show Blk wo.drew ob 26 #[.int .i64 V, .slice y1 N.length e1, .slice y2 B.length e2, .slice y3 G.length e3] from HG.out)
              have HLD := Lib.hid (show Blk wo.drew w.heap.size 26 #[.int .i64 0, .slice none 0 0, .slice none 0 0, .slice none 0 0] from HL.out)
              go_wp2_with fail
              go_region_law (first
                | (go_simp; go_at_call 81; refine (pick_any W0 v bs HR.out HW.out sb (c + 2 * T + 2 * R + 2 * G.length) wo.drew hsb HB2.out.drew HS.out (by omega) 11 (by omega) (by omega)).mono ?_; rintro e w2 ⟨x, hx0, hx1, rfl, hs2, hk2⟩; have hk3 : Kept (· = sb) wo w2 := ((Kept.refl (· = sb) wo).drew).trans hk2; have hz2 := hk3.size; have HG2 := HGD.out.kept hk2 hobs; have HL2 := HLD.out.kept hk2 (show ¬ w.heap.size = sb by omega); have q1 := HG2.cell 3 rfl; have HGA := HG2.alloc (.cells #[.float .f32 (hD (x - 3))] 100); have HLA := HL2.alloc (.cells #[.float .f32 (hD (x - 3))] 100); have qA := HGA.cell 3 rfl; have HO2 := (HO.out.kept hk3 (by intro b h1 h2 h3; omega)).wide (lo' := w.heap.size) (hi' := w2.heap.size) (Nat.le_refl _) hz2; have HOA := HO2.up ((Below.refl w2.heap.size w2).alloc (Nat.le_refl _) (.cells #[.float .f32 (hD (x - 3))] 100)) (Nat.le_refl _); have hq := HQ.out x hx0 hx1; have hwx : IntKind.i64.wrap (x - 3) = x - 3 := IntWalk.i64_in _ (by omega))
                | (refine step_app_fltsL rfl (.tmp 50) (.tmp 56) (by rfl) w.heap.size (.slice y3 G.length e3) G.length G (by rfl) HOA.parts.2.2.1 _ [hD (x - 3)] (by rfl) (slcF_one _ _) (G.length + 1) (G ++ [hD (x - 3)]) rfl rfl (by omega) (by simp; omega) ?_; intro z ez w9 hown9 hbl9 hg9 hl9; have HG9 := blk_grown HGA hg9 (HGA.not_owned HOA.parts.2.2.1 (by decide)); have HL9 := blk_grown HLA hg9 (HLA.not_owned HOA.parts.2.2.1 (by decide)); have q9 := HG9.cell 3 rfl; have f9 := HG9.free 3))
              all_goals
                have hlen : (G ++ [hD (x - 3)]).length = G.length + 1 := by simp
                have HOS := Lib.hid (ownR_set (ownR_app3 HOA (by simp) hg9 hown9 hl9) HG9 3 (.slice z (G.length + 1) ez))
                have HGS := Lib.hid (show Blk (w9.setCell ⟨ob, 3, none⟩ (.slice z (G.length + 1) ez)) ob 26 #[.int .i64 V, .slice y1 N.length e1, .slice y2 B.length e2, .slice z (G.length + 1) ez] from HG9.set 3 _)
                have HLS := Lib.hid (HL9.other (a := ⟨ob, 3, none⟩) (show w.heap.size ≠ ob by omega) (.slice z (G.length + 1) ez))
                have HBL : Below w.heap.size w2 w9 := ((Below.refl w.heap.size w2).alloc (by omega) _).trans hbl9
                have HSS := Lib.hid ((hs2.below HBL hsw).kept (Kept.setCell (S := fun b => b = ob) (Kept.refl _ w9) (p := ⟨ob, 3, none⟩) (.inr rfl) (.slice z (G.length + 1) ez)) (fun e => hobs e.symm))
                have HKS := Lib.hid ((((HK.out.trans hk3).below HBL (Nat.le_refl _))).setCell (p := ⟨ob, 3, none⟩) (.inl (by show w.heap.size ≤ ob; omega)) (.slice z (G.length + 1) ez))
                have hzs : (w9.setCell ⟨ob, 3, none⟩ (.slice z (G.length + 1) ez)).heap.size = w9.heap.size := by simp [World.setCell]
                have HZS := Lib.hid hzs
                clear hzs
                go_wp2_with fail
                go_roundw
                case rel => exact ⟨G ++ [hD (x - 3)], z, ez, by rw [hlen]; go_num, by rw [hlen]; omega, Lib.hid (HH3.out.snoc (by omega) (by omega)), Lib.hid (by rw [hlen]; exact HGS.out), Lib.hid (by rw [hlen, HZS.out]; exact HOS.out), Lib.hid (HSS.out.mono (by rw [hlen]; omega)), HKS, HLS⟩
                case measure => simp [intOf]; omega
            · have HGV := Lib.hid (show G.length = V by omega)
              have d0 := HG.out.cell 0 rfl
              have d1 := HG.out.cell 1 rfl
              have d2 := HG.out.cell 2 rfl
              have d3 := HG.out.cell 3 rfl
              have k0 := HL.out.cell 0 rfl
              have k1 := HL.out.cell 1 rfl
              have k2 := HL.out.cell 2 rfl
              have k3 := HL.out.cell 3 rfl
              have u0 := HL.out.free 0
              have u1 := HL.out.free 1
              have u2 := HL.out.free 2
              have u3 := HL.out.free 3
              have FIN := Lib.hid (fun Wf (hk : Kept (· = w.heap.size) wo Wf) (hz : Wf.heap.size = wo.heap.size) (ho : OwnR w.heap.size wo.heap.size Wf (.agg #[.int .i64 V, .slice y1 N.length e1, .slice y2 B.length e2, .slice y3 G.length e3]) ⟨V, N, B, G⟩) => show ∃ (r : RowsD) (v' : Value), HalfR r ∧ (Ending.returned (.agg #[.int .i64 V, .slice y1 N.length e1, .slice y2 B.length e2, .slice y3 G.length e3]) : Ending) = .returned v' ∧ OwnR w.heap.size Wf.heap.size Wf v' r ∧ Kept (· = sb) w Wf ∧ SrcAt Wf sb v (c + 48) from
                ⟨⟨V, N, B, G⟩, _, ⟨by show (1 : Int) ≤ (V : Int); omega, by show (V : Int) ≤ 4; omega, by show 1 ≤ B.length; rw [HBR.out]; exact hR1, by show B.length ≤ 4; rw [HBR.out]; exact hR4, by show (G.length : Int) = (V : Int); rw [HGV.out], by show (N.length : Int) = (V : Int) * (B.length : Int); rw [HNT.out, HBR.out, HT.out]; push_cast; rfl, HH1.out, HH2.out, HH3.out⟩, rfl, ho.wide (Nat.le_refl _) (by omega), HK.out.step hk (fun i hi e => by omega), ((HS.out.kept hk (show ¬ sb = w.heap.size by omega)).mono (by have := HBR.out; have := HGV.out; omega))⟩)
              have hkF : Kept (· = w.heap.size) wo (fill4 wo w.heap.size (.int .i64 V) (.slice y1 N.length e1) (.slice y2 B.length e2) (.slice y3 G.length e3)) := by
                unfold fill4
                exact ((((Kept.refl (· = w.heap.size) wo).setCell (p := ⟨w.heap.size, 0, none⟩) (.inr rfl) _).setCell (p := ⟨w.heap.size, 1, none⟩) (.inr rfl) _).setCell (p := ⟨w.heap.size, 2, none⟩) (.inr rfl) _).setCell (p := ⟨w.heap.size, 3, none⟩) (.inr rfl) _
              have hf := FIN.out _ hkF (fill_size _ _ _ _ _ _) (ownR_set (ownR_set (ownR_set (ownR_set HO.out HL.out 0 (.int .i64 V)) (HL.out.set 0 _) 1 (.slice y1 N.length e1)) ((HL.out.set 0 _).set 1 _) 2 (.slice y2 B.length e2)) (((HL.out.set 0 _).set 1 _).set 2 _) 3 (.slice y3 G.length e3))
              unfold fill4 at hf
              have HF := Lib.hid hf
              clear hf hkF FIN HNT HBR HGV
              go_wp2_with fail
              refine bodyPost_ret (v := .agg #[.int .i64 V, .slice y1 N.length e1, .slice y2 B.length e2, .slice y3 G.length e3]) (by simp [results, Tryz.results164, go_sem, *]) rfl ?_
              exact HF.out
set_option maxHeartbeats 2000000 in
set_option maxRecDepth 4000 in
theorem l02DrawOk_any (W0 : World) (v : Value) (bs : List Int) (hR : RdB W0 v bs) (hw : WfB bs) (sb c : Nat) (w : World) (hsb : W0.heap.size ≤ sb) (hb : Below W0.heap.size W0 w) (h : SrcAt w sb v c) (hc : c ≤ 900) :
    Calls Tryz.prog 111 #[.pointer (some ⟨sb, 0, none⟩)] w fun e w' => ∃ (r : RowsD) (v' : Value), HalfR r ∧ e = .returned v' ∧ OwnR w.heap.size w'.heap.size w' v' r ∧ Kept (· = sb) w w' ∧ SrcAt w' sb v (c + 52) := by
  have HR := Lib.hid hR
  have HW := Lib.hid hw
  have HB := Lib.hid hb
  have HS := Lib.hid h
  have hsw := h.lt
  clear hR hw hb h
  go_enter Tryz.func111, Tryz.ntmps111
  have HBA := Lib.hid (HB.out.alloc HB.out.size (.cells #[.int .i64 0, .slice none 0 0, .slice none 0 0, .slice none 0 0] 26))
  have HSA := Lib.hid (HS.out.below ((Below.refl w.heap.size w).alloc (Nat.le_refl _) (.cells #[.int .i64 0, .slice none 0 0, .slice none 0 0, .slice none 0 0] 26)) hsw)
  have HLA := Lib.hid (Blk.new w 26 #[.int .i64 0, .slice none 0 0, .slice none 0 0, .slice none 0 0])
  go_upto_region 2 with (go_at_call 81; refine (pick_any W0 v bs HR.out HW.out sb c _ hsb HBA.out HSA.out (by omega) 4 (by omega) (by omega)).mono ?_; rintro e w1 ⟨y, hy0, hy1, rfl, hs1, hk1⟩; have hwy : IntKind.i64.wrap (1 + y) = 1 + y := IntWalk.i64_in _ (by omega))
  have HK1 := Lib.hid (((Kept.refl (· = sb) w).alloc (.cells #[.int .i64 0, .slice none 0 0, .slice none 0 0, .slice none 0 0] 26)).trans hk1)
  have HS1 := Lib.hid hs1
  have HL1 := Lib.hid (HLA.out.kept hk1 (show ¬ w.heap.size = sb by omega))
  have HB1 := Lib.hid (HB.out.trans (HK1.out.toBelow HB.out.size (fun k h1 h2 => by omega)))
  clear hs1 hk1 HBA HSA HLA
  go_upto_region 3 with (go_at_call 81; refine (pick_any W0 v bs HR.out HW.out sb (c + 2) w1 hsb HB1.out HS1.out (by omega) 4 (by omega) (by omega)).mono ?_; rintro e w2 ⟨z, hz0, hz1, rfl, hs2, hk2⟩; have hwz : IntKind.i64.wrap (1 + z) = 1 + z := IntWalk.i64_in _ (by omega))
  have HK2 := Lib.hid (HK1.out.trans hk2)
  have HS2 := Lib.hid hs2
  have HL2 := Lib.hid (HL1.out.kept hk2 (show ¬ w.heap.size = sb by omega))
  have HB2 := Lib.hid (HB.out.trans (HK2.out.toBelow HB.out.size (fun k h1 h2 => by omega)))
  have hsz2 := HK2.out.size
  obtain ⟨V, hV⟩ : ∃ V : Nat, 1 + y = (V : Int) := ⟨(1 + y).toNat, by omega⟩
  obtain ⟨R, hR⟩ : ∃ R : Nat, 1 + z = (R : Int) := ⟨(1 + z).toNat, by omega⟩
  have HDS := Lib.hid (l02DrawSides_any W0 v bs HR.out HW.out sb (c + 4) w2 hsb HB2.out HS2.out (by omega) V R (by omega) (by omega) (by omega) (by omega))
  rw [hV, hR]
  clear hs2 hk2 HL1 HB1 HK1 HS1 hwy hwz hV hR hy0 hy1 hz0 hz1
  go_wp2_with (go_at_call 164; refine HDS.out.mono ?_; rintro e w3 ⟨r, v3, hh, rfl, ho, hk3, hs3⟩; obtain ⟨b1, e1, b2, e2, b3, e3, rfl⟩ := ho.rd.shape; have HL3 := HL2.out.kept hk3 (show ¬ w.heap.size = sb by omega); have k0 := HL3.cell 0 rfl; have k1 := HL3.cell 1 rfl; have k2 := HL3.cell 2 rfl; have k3 := HL3.cell 3 rfl; have u0 := HL3.free 0; have u1 := HL3.free 1; have u2 := HL3.free 2; have u3 := HL3.free 3)
  refine bodyPost_ret (v := .agg #[.int .i64 r.vars, .slice b1 r.nums.length e1, .slice b2 r.bnds.length e2, .slice b3 r.gains.length e3]) (by simp [results, Tryz.results111, go_sem, *]) rfl ?_
  have hzr := hk3.size
  have hf := ownR_set (ownR_set (ownR_set (ownR_set ho HL3 0 (.int .i64 r.vars)) (HL3.set 0 _) 1 (.slice b1 r.nums.length e1)) ((HL3.set 0 _).set 1 _) 2 (.slice b2 r.bnds.length e2)) (((HL3.set 0 _).set 1 _).set 2 _) 3 (.slice b3 r.gains.length e3)
  have hsf : ∀ (a : Value) (b : Value) (c' : Value) (d : Value), Kept (· = w.heap.size) w3 ((((w3.setCell ⟨w.heap.size, 0, none⟩ a).setCell ⟨w.heap.size, 1, none⟩ b).setCell ⟨w.heap.size, 2, none⟩ c').setCell ⟨w.heap.size, 3, none⟩ d) := fun a b c' d => ((((Kept.refl (· = w.heap.size) w3).setCell (p := ⟨w.heap.size, 0, none⟩) (.inr rfl) _).setCell (p := ⟨w.heap.size, 1, none⟩) (.inr rfl) _).setCell (p := ⟨w.heap.size, 2, none⟩) (.inr rfl) _).setCell (p := ⟨w.heap.size, 3, none⟩) (.inr rfl) _
  refine ⟨r, _, hh, rfl, hf.wide hsz2 (hsf _ _ _ _).size, (HK2.out.trans hk3).step (hsf _ _ _ _) (fun i hi e => by omega), ((hs3.kept (hsf _ _ _ _) (show ¬ sb = w.heap.size by omega)).mono (by omega))⟩
end Go.Proofs.YtgkbbpajkbkgnaaGreatDoor
