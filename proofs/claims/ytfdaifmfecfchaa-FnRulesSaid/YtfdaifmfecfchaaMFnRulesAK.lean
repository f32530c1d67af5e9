/-
  FnRules: texts joined: R8, OrdDraw, RuF, Ins, OrdC, HeadM.
-/
import Derived.Deep.RegionLaw
import Derived.Deep.CutRange
import Derived.Lib.AppendZeros
import Derived.Shelf.Spec.SlicesInsert
import Derived.Deep.Cut
import Derived.Test.YtfdaifmfecfchaaMFnRulesAC
import Derived.Test.YtfdaifmfecfchaaMFnRulesAE
import Derived.Test.YtfdaifmfecfchaaMFnRulesAF
import Derived.Test.YtfdaifmfecfchaaMFnRulesAG
import Derived.Test.YtfdaifmfecfchaaMFnRulesAI
import Derived.Test.YtfdaifmfecfchaaMFnRulesAJ
namespace Go.Proofs.Ytfdaifmfecfchaa
open Go.RowKit

/-! ### the laws' choice of a number -/
def isLong8 (a b : List Int) : Bool := decide (48 < (a.length : Int)) || decide (48 < (b.length : Int))
theorem r8Long_any (v v' : Value) (xs ys : List Int) (w : World) (h : RdB w v xs) (h' : RdB w v' ys) :
    Calls Try.prog 6 #[v, v'] w fun e w' => e = .returned (.bool (isLong8 xs ys)) ∧ w = w' := by
  obtain ⟨a, c, rfl⟩ := h.shape
  obtain ⟨a', c', rfl⟩ := h'.shape
  clear h h'
  by_cases h1 : 48 < (xs.length : Int)
  · go_enter Try.func6, Try.ntmps6
    go_wp2_with fail
    go_ret
    exact ⟨by simp [isLong8, h1], rfl⟩
  · go_enter Try.func6, Try.ntmps6
    go_wp2_with fail
    go_ret
    exact ⟨by congr 2; simp [isLong8, h1]; omega, rfl⟩
set_option maxHeartbeats 400000 in
theorem r8At_any (v : Value) (xs : List Int) (i n : Int) (w : World) (h : RdB w v xs) (hw : WfB xs) (h0 : 0 ≤ i) (h1 : i ≤ 1000000) (n1 : 1 ≤ n) (n2 : n ≤ 1000) :
    Calls Try.prog 7 #[v, .int .i64 i, .int .i64 n] w (PickE n w) := by
  obtain ⟨a, c, rfl⟩ := h.shape
  by_cases hn : n ≤ 1
  · clear h
    go_enter Try.func7, Try.ntmps7
    go_wp2_with fail
    go_ret
    exact ⟨0, by omega, by omega, rfl, rfl⟩
  · by_cases hl : i < (xs.length : Int)
    · obtain ⟨k, rfl⟩ := Int.eq_ofNat_of_zero_le h0
      have hk : k < xs.length := by omega
      obtain ⟨b, off, rfl, _, hc⟩ := h.at hk
      obtain ⟨hx0, hx1⟩ := hw.at hk
      obtain ⟨x, hx⟩ : ∃ x, x = xs.getD k 0 := ⟨_, rfl⟩
      rw [← hx] at hc hx0 hx1
      have hle := h.len
      unfold maxLen at hle
      clear hx h hw
      go_enter Try.func7, Try.ntmps7
      go_wp2_with fail
      go_ret
      exact ⟨x % n, Int.emod_nonneg _ (by omega), Int.emod_lt_of_pos _ (by omega), rfl, rfl⟩
    · clear h
      go_enter Try.func7, Try.ntmps7
      go_wp2_with fail
      go_ret
      exact ⟨0, by omega, by omega, rfl, rfl⟩

end Go.Proofs.Ytfdaifmfecfchaa

namespace Go.Proofs.Ytfdaifmfecfchaa
open Go.RowKit

theorem owns_ptr {w : World} {base e n c : Nat} {a : Option Addr} {vs : List Value} (h : w.ownsRow base e 1 (.slice a n c) n vs) (hn : 0 < n) : ∃ g, a = some ⟨g, 0, none⟩ := by
  rcases h.2 with ⟨e1, e2⟩ | ⟨g, cap, cur, e1, _⟩
  · omega
  · injection e1 with e2 _ _
    exact ⟨g, e2⟩
theorem owns_cell8 {w : World} {base g n cap k : Nat} {now : List Int} (h : w.ownsRow base 2 1 (.slice (some ⟨g, 0, none⟩) n cap) n (now.map I64)) (hk : k < now.length) :
    w.cell? ⟨g, k, none⟩ = some (.int .i64 (now.getD k 0)) := by
  obtain ⟨b, off, e, hb, hc⟩ := (show RdI w (.slice (some ⟨g, 0, none⟩) n cap) now from slc_of_owns h).at hk
  simp only [Option.some.injEq, Addr.mk.injEq, and_true] at e
  obtain ⟨rfl, rfl⟩ := e
  simpa using hc
theorem idxs_set (L : List Nat) (k x : Nat) : idxs (L.set k x) = (idxs L).set k (x : Int) := by unfold idxs; rw [List.map_set]
theorem idxs_get (L : List Nat) {k : Nat} (h : k < L.length) : (idxs L).getD k 0 = ((L.getD k 0 : Nat) : Int) := by
  unfold idxs
  rw [List.getD_eq_getElem?_getD, List.getElem?_map, List.getD_eq_getElem?_getD, List.getElem?_eq_getElem h]
  rfl
/-- One more number, and two that change places. -/
theorem perm_swap {L : List Nat} {i k : Nat} (hp : L.Perm (List.range i)) (hk : k ≤ i) : (((L ++ [i]).set k i).set i ((L ++ [i]).getD k 0)).Perm (List.range (i + 1)) := by
  have hl : L.length = i := by rw [hp.length_eq, List.length_range]
  have h1 : k < (L ++ [i]).length := by simp; omega
  have h2 : i < (L ++ [i]).length := by simp; omega
  have h := List.set_set_perm h1 h2
  have e1 : (L ++ [i])[i] = i := by rw [List.getElem_append_right (by omega)]; simp
  have e2 : (L ++ [i]).getD k 0 = (L ++ [i])[k] := by rw [List.getD_eq_getElem?_getD, List.getElem?_eq_getElem h1]; rfl
  rw [e1] at h
  rw [e2]
  refine h.trans ?_
  rw [List.range_succ]
  exact hp.append_right [i]

set_option maxHeartbeats 2000000 in
set_option maxRecDepth 4000 in
theorem R8Order_any (v : Value) (bs : List Int) (w : World) (hR : RdB w v bs) (hw : WfB bs) (n : Nat) (hn : n ≤ 64) :
    Calls Try.prog 9 #[v, .int .i64 n] w fun e w' => ∃ (L : List Nat) (v' : Value), L.Perm (List.range n) ∧ e = .returned v' ∧ OwnI w.heap.size w'.heap.size w' v' (idxs L) ∧ Below w.heap.size w w' := by
  have HR := Lib.hid hR
  have HW := Lib.hid hw
  have HF := Lib.hid (l00From_any v bs w hR)
  clear hR hw
  go_enter Try.func9, Try.ntmps9
  go_wp2_with fail
  refine HF.out.mono ?_
  rintro e w1 ⟨rfl, hs, hb1⟩
  have HS1 := Lib.hid hs
  have HB1 := Lib.hid hb1
  have hz1 := HB1.out.size
  have hs1 := hs.lt
  clear hs hb1 HF
  go_wp2_with fail
  go_loopw [6, 7] (fun ov iv wr => ∃ (i : Nat) (L : List Nat) (oa : Option Addr) (oc : Nat), iv = .int .i64 i ∧ i ≤ n ∧ ov = .slice oa i oc ∧ Hid (L.Perm (List.range i)) ∧ Hid (wr.ownsRow w1.heap.size 2 1 (.slice oa i oc) i ((idxs L).map I64)) ∧ Hid (SrcAt wr w.heap.size v (2 * i)) ∧ Hid (Below w.heap.size w wr) ∧ w1.heap.size ≤ wr.heap.size) (fun _ iv _ => n + 1 - (intOf iv).toNat)
  case atStart => exact ⟨0, [], _, 0, rfl, Nat.zero_le _, rfl, Lib.hid (List.Perm.refl _), Lib.hid (owns_emptyB _ _ rfl), Lib.hid (HS1.out.below ((Below.refl _ _).alloc (Nat.le_refl _) _) hs1), Lib.hid (HB1.out.alloc hz1 _), by simp⟩
  case round =>
    obtain ⟨i, L, oa, oc, rfl, hi, rfl, HP, HO, HS, HB, hzw⟩ := hrel
    obtain ⟨wo, rfl⟩ : ∃ wo, wo = wr := ⟨wr, rfl⟩
    by_cases hlt : i < n
    · have hltI : (i : Int) < (n : Int) := by omega
      have hadd : IntKind.i64.wrap ((i : Int) + 1) = (i : Int) + 1 := IntWalk.i64_in _ (by omega)
      go_upto_region 7 with (go_at_call 38; refine (pick_any w v bs HR.out HW.out w.heap.size (2 * i) wo (Nat.le_refl _) HB.out HS.out (by omega) ((i : Int) + 1) (by omega) (by omega)).mono ?_; rintro e w2 ⟨x, hx0, hx1, rfl, hs2, hk2⟩)
      obtain ⟨k, rfl⟩ := Int.eq_ofNat_of_zero_le hx0
      have hki : k ≤ i := by omega
      have hz2 := hk2.size
      have HO2 := Lib.hid (ownsK_kept HO.out hk2 (fun g hg e => by have := (HO.out.lt g hg).1; omega))
      have HS2 := Lib.hid hs2
      have HB2 := Lib.hid (HB.out.trans (hk2.toBelow HB.out.size (fun k h1 h2 => by omega)))
      clear hs2 hk2 hx0 hx1
      have HLN := Lib.hid (show (idxs L).length = i by rw [idxs_len, HP.out.length_eq, List.length_range])
      go_upto_region 8 with (at_builtin; refine app_ints rfl _ _ rfl w1.heap.size (.slice oa i oc) i (idxs L) rfl (HO2.out.alloc _) _ [(i : Int)] rfl (slc_one _ _) (i + 1) (idxs (L ++ [i])) (by simp) (by unfold idxs; rw [List.map_append]; rfl) (by omega) (by simp; omega) ?_; intro b3 c3 w3 hown3 hbl3 _ _)
      obtain ⟨g, rfl⟩ := owns_ptr hown3 (by omega)
      have hg1 : w1.heap.size ≤ g := (hown3.lt g rfl).1
      have HB3 := Lib.hid (show Below w1.heap.size w2 w3 from ((Below.refl w1.heap.size w2).alloc (by omega) _).trans hbl3)
      have hz3 := HB3.out.size
      have hll : (L ++ [i]).length = i + 1 := by rw [List.length_append]; have := HLN.out; rw [idxs_len] at this; simp; omega
      have c1 := owns_cell8 hown3 (k := k) (by rw [idxs_len, hll]; omega)
      have c2 := owns_cell8 hown3 (k := i) (by rw [idxs_len, hll]; omega)
      have hLi : (L ++ [i]).getD i 0 = i := by
        have hl : L.length = i := by have := HLN.out; rw [idxs_len] at this; exact this
        rw [List.getD_eq_getElem?_getD, List.getElem?_append_right (by omega), hl, Nat.sub_self]
        rfl
      rw [idxs_get _ (by omega)] at c1 c2
      rw [hLi] at c2
      have f1 := hown3.frozenAt k
      have f2 := hown3.frozenAt i
      have HPM := Lib.hid (perm_swap HP.out hki)
      obtain ⟨x, hx⟩ : ∃ x, x = (L ++ [i]).getD k 0 := ⟨_, rfl⟩
      rw [← hx] at c1 HPM
      have hkI : (k : Int) < (i : Int) + 1 := by omega
      have hiI : (i : Int) < (i : Int) + 1 := by omega
      have HS4 := Lib.hid (show ((w3.setCell ⟨g, k, none⟩ (.int .i64 i)).setCell ⟨g, i, none⟩ (.int .i64 x)).ownsRow w1.heap.size 2 1 (.slice (some ⟨g, 0, none⟩) (i + 1) c3) (i + 1) ((idxs (((L ++ [i]).set k i).set i x)).map I64) by
        rw [idxs_set, idxs_set, List.map_set, List.map_set]
        exact ((hown3.stored k (.int .i64 i)).1.stored i (.int .i64 x)).1)
      have HK4 := Lib.hid (show Kept (· = g) w3 ((w3.setCell ⟨g, k, none⟩ (.int .i64 i)).setCell ⟨g, i, none⟩ (.int .i64 x)) from ((Kept.refl (· = g) w3).setCell (p := ⟨g, k, none⟩) (.inr rfl) _).setCell (p := ⟨g, i, none⟩) (.inr rfl) _)
      have HS5 := Lib.hid ((HS2.out.below HB3.out hs1).kept HK4.out (by omega))
      have HB5 := Lib.hid ((HB2.out.trans (HB3.out.mono hz1)).trans (HK4.out.toBelow (by omega) (fun k h1 h2 => by omega)))
      have hz5 := HK4.out.size
      clear hown3 hbl3
      have hw1 : IntKind.i64.wrap ((i : Int) + 1) = (i : Int) + 1 := hadd
      by_cases hki2 : k = i
      · subst hki2
        obtain rfl : x = k := by rw [hx]; exact hLi
        clear hx hLi c2 f2
        go_wp2_with fail
        go_roundw
        case rel => exact ⟨x + 1, _, _, c3, by go_num, by omega, rfl, HPM, HS4, Lib.hid (HS5.out.mono (by omega)), HB5, by omega⟩
        case measure => simp [intOf]; omega
      · have hki3 : ¬ i = k := fun e => hki2 e.symm
        clear hx hLi
        go_wp2_with fail
        go_roundw
        case rel => exact ⟨i + 1, _, _, c3, by go_num, by omega, rfl, HPM, HS4, Lib.hid (HS5.out.mono (by omega)), HB5, by omega⟩
        case measure => simp [intOf]; omega
    · obtain rfl : i = n := by omega
      go_wp2_with fail
      go_ret
      exact ⟨L, _, HP.out, rfl, (OwnI.mk HO.out).wide hz1 (Nat.le_refl _), HB.out⟩

end Go.Proofs.Ytfdaifmfecfchaa

namespace Go.Proofs.Ytfdaifmfecfchaa
open Go.RowKit Go.Sort

theorem drop_cons8 {xs : List Int} {i : Nat} (h : i < xs.length) : xs.drop i = xs.getD i 0 :: xs.drop (i + 1) := by
  rw [List.getD_eq_getElem?_getD, List.getElem?_eq_getElem h, List.drop_eq_getElem_cons h]; rfl
/-- What lies behind the first ones of a list. -/
theorem rdI_tail {w : World} {b off n cap : Nat} {xs : List Int} (h : RdI w (.slice (some ⟨b, off, none⟩) n cap) xs) (m : Nat) (hm : m < xs.length) : RdI w (.slice (some ⟨b, off + m, none⟩) (n - m) (cap - m)) (xs.drop m) := by
  have hsh := h.shape
  obtain ⟨a', c', e⟩ := hsh
  injection e with e1 e2 e3
  subst e2
  have hcap : xs.length ≤ cap ∧ cap ≤ maxLen := by
    rcases h with ⟨e, _⟩ | ⟨ad, cp, e, h1, h2, _⟩
    · cases e
    · injection e with _ _ e3
      subst e3
      rw [List.length_map] at h1
      exact ⟨h1, h2⟩
  refine .inr ⟨⟨b, off + m, none⟩, cap - m, by rw [List.length_map, List.length_drop], by rw [List.length_map, List.length_drop]; omega, by omega, fun i u hi => ?_⟩
  simp only [List.getElem?_map, Option.map_eq_some_iff] at hi
  obtain ⟨q, hq, rfl⟩ := hi
  rw [List.getElem?_drop] at hq
  have hlt := (List.getElem?_eq_some_iff.1 hq).1
  obtain ⟨b', off', e, _, hcell⟩ := h.at (i := m + i) hlt
  simp only [Option.some.injEq, Addr.mk.injEq, and_true] at e
  obtain ⟨rfl, rfl⟩ := e
  have e2 : xs.getD (m + i) 0 = q := by rw [List.getD_eq_getElem?_getD, hq]; rfl
  rw [e2] at hcell
  have : (⟨b, off + m, none⟩ : Addr).add i = ⟨b, off + (m + i), none⟩ := by
    unfold Addr.add
    by_cases hz : i = 0
    · simp [hz]
    · simp [hz, Nat.add_assoc]
  rw [this]
  exact hcell
theorem rdI_nil8 (w : World) (ad : Addr) (cap : Nat) (h : cap ≤ maxLen) : RdI w (.slice (some ad) 0 cap) [] := .inr ⟨ad, cap, rfl, Nat.zero_le _, h, fun i u hi => by simp at hi⟩

set_option maxHeartbeats 4000000 in
set_option maxRecDepth 8000 in
theorem faults_any (v : Value) (xs : List Int) (rm : Nat) (rule : Int) (w : World) (h : RdI w v xs) (hA : asksB xs = true) (hr1 : 1 ≤ rm) (hr16 : rm ≤ 16) (hu0 : 0 ≤ rule) (hu2 : rule ≤ 2) :
    Calls Try.prog 27 #[v, .int .i64 rm, .int .i64 rule] w fun e w' => e = .returned (.tuple #[.int .i64 (flL rm rule [] xs : Nat), .bool true]) ∧ Below w.heap.size w w' := by
  obtain ⟨a, c, rfl⟩ := h.shape
  have hAA := hA
  unfold asksB at hAA
  rw [Bool.and_eq_true] at hAA
  have hn : 1 ≤ (xs.length : Int) ∧ (xs.length : Int) ≤ 64 := by
    have := hAA.1
    unfold inB at this
    simpa using this
  have hsz : ∀ i, i < xs.length → 0 ≤ xs.getD i 0 ∧ xs.getD i 0 ≤ 63 := fun i hi => by
    have := hAA.2
    unfold allIn at this
    rw [List.all_eq_true] at this
    have := this (xs[i]) (List.getElem_mem hi)
    rw [List.getD_eq_getElem?_getD, List.getElem?_eq_getElem hi]
    unfold inB at this
    simpa using this
  have HSZ := Lib.hid hsz
  have HAS := Lib.hid (areAsks_any _ xs w h)
  rw [hA] at HAS
  have HI1 := Lib.hid (fun X => within_any (rm : Int) 1 16 X)
  have HI2 := Lib.hid (fun X => within_any rule 0 2 X)
  rw [inB_true (by omega)] at HI1 HI2
  have HR := Lib.hid h
  have hcl : xs.length ≤ c ∧ c ≤ maxLen := by
    rcases h with ⟨e, hz⟩ | ⟨ad, cp, e, h1, h2, _⟩
    · simp at hz; rw [hz] at hn; simp at hn
    · injection e with _ _ e3
      subst e3
      rw [List.length_map] at h1
      exact ⟨h1, h2⟩
  have HTL := Lib.hid (fun i (hi : i < xs.length) => drop_cons8 hi)
  obtain ⟨N, hN⟩ : ∃ N, N = flL rm rule [] xs := ⟨_, rfl⟩
  have HN := Lib.hid hN.symm
  rw [← hN]
  obtain ⟨n, hnn⟩ : ∃ n, n = xs.length := ⟨_, rfl⟩
  have HL := Lib.hid hnn.symm
  rw [← hnn] at HAS HR HTL HSZ hn hcl ⊢
  clear h hA hAA hsz hN hnn
  go_enter Try.func27, Try.ntmps27
  go_upto_region 3 with (first
    | (go_at_call 58; refine HAS.out.mono ?_; rintro e w' ⟨rfl, rfl⟩)
    | (go_at_call_of 55 rm; refine (HI1.out _).mono ?_; rintro e w' ⟨rfl, rfl⟩)
    | (go_at_call_of 55 rule; refine (HI2.out _).mono ?_; rintro e w' ⟨rfl, rfl⟩)
    | fail)
  clear HAS HI1 HI2
  go_wp2_with fail
  go_loopw [8, 9, 10, 11, 12, 13, 29] (fun sv fv _ _ _ _ iv wr => ∃ (i : Nat) (S : List Int) (f : Nat) (sa : Option Addr) (sc m : Nat), iv = .int .i64 i ∧ i ≤ n ∧ sv = .slice sa m sc ∧ fv = .int .i64 f ∧ m = S.length ∧ Hid (f + flL rm rule S (xs.drop i) = N) ∧ f ≤ i ∧ Hid (InOk rm S) ∧ Hid (wr.ownsRow w.heap.size 2 1 (.slice sa m sc) m (S.map I64)) ∧ Hid (Below w.heap.size w wr)) (fun _ _ _ _ _ _ iv _ => n + 1 - (intOf iv).toNat)
  case atStart => exact ⟨0, [], 0, none, 0, 0, rfl, Nat.zero_le _, rfl, rfl, rfl, Lib.hid (by rw [List.drop_zero, Nat.zero_add]; exact HN.out), Nat.le_refl _, Lib.hid ⟨List.nodup_nil, fun y hy => (by cases hy), Nat.zero_le _⟩, Lib.hid (World.ownsRow_nil _ _ _ _), Lib.hid (Below.refl _ _)⟩
  case round =>
    obtain ⟨i, S, f, sa, sc, m, rfl, hi, rfl, rfl, hm, HF, hfi, HIO, HO, HB⟩ := hrel
    obtain ⟨wo, rfl⟩ : ∃ wo, wo = wr := ⟨wr, rfl⟩
    have HM := Lib.hid hm
    have hsm := HIO.out.le
    rw [← hm] at hsm
    clear hm
    have hszo := HB.out.size
    by_cases hlt : i < n
    · have hiI : (i : Int) < (n : Int) := by omega
      obtain ⟨ab, ao, rfl, _, ca⟩ := (HR.out.up HB.out (Nat.le_refl _)).at (i := i) (by rw [HL.out]; exact hlt)
      have hx := HSZ.out i hlt
      have hf := HF.out
      rw [HTL.out i hlt] at hf
      simp only [flL] at hf
      have hok := HIO.out.step hr1 rule (xs.drop (i + 1)) hx.1
      have HIX := Lib.hid (index_any (.slice sa m sc) S (xs.getD i 0) wo (by have := slc_of_owns HO.out; exact this) (by rw [← HM.out]; omega))
      obtain ⟨x, hxe⟩ : ∃ x, x = xs.getD i 0 := ⟨_, rfl⟩
      rw [← hxe] at ca hx hf hok HIX
      obtain ⟨R, hR⟩ : ∃ R, R = xs.drop (i + 1) := ⟨_, rfl⟩
      rw [← hR] at hf hok
      have HRE := Lib.hid hR
      clear hxe hR
      by_cases hmem : x ∈ S
      · rw [if_pos hmem, Nat.zero_add] at hf
        have hk := idx_lt8 hmem
        have hix : idxI S x = ((S.idxOf x : Nat) : Int) := by unfold idxI; rw [if_pos hmem]
        rw [hix] at HIX
        obtain ⟨k, hke⟩ : ∃ k, k = S.idxOf x := ⟨_, rfl⟩
        rw [← hke] at HIX hk
        have hk2 : k < m := by rw [HM.out]; exact hk
        have hk0 : (0 : Int) ≤ (k : Int) := by omega
        by_cases hr : rule = 1
        · have q1 : (rule == 1) = true := by rw [hr]; simp
          have hin : inS rm rule R S x = S.eraseIdx k ++ [x] := by rw [hr, inS_hit1 hmem, ← hke]
          rw [hin] at hf hok
          have HF2 := Lib.hid hf
          have HOK := Lib.hid hok
          obtain ⟨g, rfl⟩ := owns_ptr HO.out (by omega)
          have HD := Lib.hid (delete_any w.heap.size g sc k S wo (by rw [← HM.out]; exact HO.out) hk hszo)
          have hel : (S.eraseIdx k).length = m - 1 := by rw [List.length_eraseIdx_of_lt hk, ← HM.out]
          have HEL := Lib.hid hel
          rw [← HM.out] at HD
          clear hf hok hin hmem hke hr hk hix hel
          go_wp2_with (first
            | (go_at_call 59; refine HIX.out.mono ?_; rintro e w' ⟨rfl, rfl⟩)
            | (go_at_call 46; refine HD.out.mono ?_; rintro e w2 ⟨rfl, ho2, hk2'⟩; have HB2 := Lib.hid (HB.out.trans (hk2'.toBelow hszo (fun q h1 h2 => by have := (HO.out.lt g rfl).1; omega))))
            | (at_builtin; refine app_ints rfl _ _ rfl w.heap.size (.slice (some ⟨g, 0, none⟩) (m - 1) sc) (m - 1) (S.eraseIdx k) rfl (ho2.alloc _) _ [x] rfl (slc_one _ _) m (S.eraseIdx k ++ [x]) (by simp; omega) rfl (by omega) (by have := HB2.out.size; simp; omega) ?_; intro b3 c3 w3 hown3 hbl3 _ _)
            | fail)
          have hz2 := HB2.out.size
          go_roundw
          case rel => exact ⟨i + 1, S.eraseIdx k ++ [x], f, b3, c3, m, by go_num, by omega, rfl, rfl, by rw [List.length_append, HEL.out]; simp; omega, Lib.hid (by rw [← HRE.out]; exact HF2.out), by omega, HOK, Lib.hid hown3, Lib.hid (HB2.out.trans (((Below.refl _ _).alloc hz2 _).trans hbl3))⟩
          case measure => simp [intOf]; omega
        · have q1 : (rule == 1) = false := by rw [beq_eq_false_iff_ne]; exact hr
          have hin : inS rm rule R S x = S := by unfold inS; rw [if_pos hmem, if_neg hr]
          rw [hin] at hf hok
          have HF2 := Lib.hid hf
          clear hf hok hin hmem hke hr hk hix
          go_wp2_with (first
            | (go_at_call 59; refine HIX.out.mono ?_; rintro e w' ⟨rfl, rfl⟩)
            | fail)
          go_roundw
          case rel => exact ⟨i + 1, S, f, sa, sc, m, by go_num, by omega, rfl, rfl, HM.out, Lib.hid (by rw [← HRE.out]; exact HF2.out), by omega, HIO, HO, HB⟩
          case measure => simp [intOf]; omega
      · rw [if_neg hmem] at hf
        have hix : idxI S x = -1 := by unfold idxI; rw [if_neg hmem]
        rw [hix] at HIX
        have hwf : IntKind.i64.wrap ((f : Int) + 1) = (f : Int) + 1 := IntWalk.i64_in _ (by omega)
        by_cases hfull : m = rm
        · have hfl : S.length = rm := by rw [← HM.out]; exact hfull
          have q2 : ((m : Int) == (rm : Int)) = true := by rw [hfull]; simp
          have ho := outI_lt hr1 rule S R hfl
          have hin : inS rm rule R S x = S.eraseIdx (outI rule S R) ++ [x] := by unfold inS; rw [if_neg hmem, if_pos hfl]
          rw [hin] at hf hok
          have hoi : outI rule S R = if rule = 2 then (latK S R S.length).1.toNat else 0 := rfl
          obtain ⟨o, hoe⟩ : ∃ o, o = outI rule S R := ⟨_, rfl⟩
          rw [← hoe] at hf hok ho hoi
          have HF2 := Lib.hid (show f + 1 + flL rm rule (S.eraseIdx o ++ [x]) R = N by omega)
          have HOK := Lib.hid hok
          obtain ⟨g, rfl⟩ := owns_ptr HO.out (by omega)
          have HD := Lib.hid (delete_any w.heap.size g sc o S wo (by rw [← HM.out]; exact HO.out) ho hszo)
          have hel : (S.eraseIdx o).length = m - 1 := by rw [List.length_eraseIdx_of_lt ho, ← HM.out]
          have HEL := Lib.hid hel
          rw [← HM.out] at HD ho
          have hsz2 := size_any m wo (by unfold maxLen; omega)
          have HSZ2 := Lib.hid hsz2
          by_cases hr : rule = 2
          · have q1 : (rule == 2) = true := by rw [hr]; simp
            rw [if_pos hr] at hoi
            have hlk : (latK S R S.length).1 = (o : Int) := by
              obtain ⟨⟨b, hb1, hb2, _⟩, _⟩ := latK_is S R S.length (by rw [← HM.out]; omega)
              rw [hb2] at hoi ⊢
              omega
            have HLT := Lib.hid (fun u (hu : RdI wo u R) => latest_any (.slice (some ⟨g, 0, none⟩) m sc) u S R wo (by have := slc_of_owns HO.out; exact this) hu (by rw [← HM.out]; omega) (by rw [HRE.out, List.length_drop, HL.out]; omega))
            rw [hlk] at HLT
            clear hf hok hin hmem hfl hoi hlk hel hsz2 hr hix hoe
            have hwi : IntKind.i64.wrap ((i : Int) + 1) = (i : Int) + 1 := IntWalk.i64_in _ (by omega)
            by_cases hlast : i + 1 < n
            · have HTAIL := Lib.hid (show RdI wo (.slice (some ⟨ab, ao + (i + 1), none⟩) (n - (i + 1)) (c - (i + 1))) R by rw [HRE.out]; exact rdI_tail (HR.out.up HB.out (Nat.le_refl _)) (i + 1) (by rw [HL.out]; exact hlast))
              have hc1 : ¬ c = i + 1 := by omega
              clear hfull
              go_wp2_with (first
                | (go_at_call 59; refine HIX.out.mono ?_; rintro e w' ⟨rfl, rfl⟩)
                | (go_at_call 47; refine HSZ2.out.mono ?_; rintro e w' ⟨rfl, rfl⟩)
                | (go_at_call 60; refine (HLT.out _ HTAIL.out).mono ?_; rintro e w' ⟨rfl, rfl⟩)
                | (go_at_call 46; refine HD.out.mono ?_; rintro e w2 ⟨rfl, ho2, hk2'⟩; have HB2 := Lib.hid (HB.out.trans (hk2'.toBelow hszo (fun q h1 h2 => by have := (HO.out.lt g rfl).1; omega))))
                | (at_builtin; refine app_ints rfl _ _ rfl w.heap.size (.slice (some ⟨g, 0, none⟩) (m - 1) sc) (m - 1) (S.eraseIdx o) rfl (ho2.alloc _) _ [x] rfl (slc_one _ _) m (S.eraseIdx o ++ [x]) (by simp; omega) rfl (by omega) (by have := HB2.out.size; simp; omega) ?_; intro b3 c3 w3 hown3 hbl3 _ _)
                | fail)
              have hz2 := HB2.out.size
              go_roundw
              case rel => exact ⟨i + 1, S.eraseIdx o ++ [x], f + 1, b3, c3, m, by go_num, by omega, rfl, by go_num, by rw [List.length_append, HEL.out]; simp; omega, Lib.hid (by rw [← HRE.out]; exact HF2.out), by omega, HOK, Lib.hid hown3, Lib.hid (HB2.out.trans (((Below.refl _ _).alloc hz2 _).trans hbl3))⟩
              case measure => simp [intOf]; omega
            · have HNIL := Lib.hid (fun ad cap (k : Nat) (hk : k = 0) (hcap : cap ≤ maxLen) => show RdI wo (.slice (some ad) k cap) R by rw [HRE.out, List.drop_of_length_le (by rw [HL.out]; omega), hk]; exact rdI_nil8 wo ad cap hcap)
              have hiI2 : (i : Int) + 1 ≤ (n : Int) := by omega
              clear hfull
              go_wp2_with (first
                | (go_at_call 59; refine HIX.out.mono ?_; rintro e w' ⟨rfl, rfl⟩)
                | (go_at_call 47; refine HSZ2.out.mono ?_; rintro e w' ⟨rfl, rfl⟩)
                | (go_at_call 60; go_loud (refine (HLT.out _ (by first | exact HNIL.out _ _ _ (by omega) (by omega) | (split <;> exact HNIL.out _ _ _ (by omega) (by omega)))).mono ?_; rintro e w' ⟨rfl, rfl⟩))
                | (go_at_call 46; refine HD.out.mono ?_; rintro e w2 ⟨rfl, ho2, hk2'⟩; have HB2 := Lib.hid (HB.out.trans (hk2'.toBelow hszo (fun q h1 h2 => by have := (HO.out.lt g rfl).1; omega))))
                | (at_builtin; refine app_ints rfl _ _ rfl w.heap.size (.slice (some ⟨g, 0, none⟩) (m - 1) sc) (m - 1) (S.eraseIdx o) rfl (ho2.alloc _) _ [x] rfl (slc_one _ _) m (S.eraseIdx o ++ [x]) (by simp; omega) rfl (by omega) (by have := HB2.out.size; simp; omega) ?_; intro b3 c3 w3 hown3 hbl3 _ _)
                | fail)
              all_goals
                have hz2 := HB2.out.size
                go_roundw
                case rel => exact ⟨i + 1, S.eraseIdx o ++ [x], f + 1, b3, c3, m, by go_num, by omega, rfl, by go_num, by rw [List.length_append, HEL.out]; simp; omega, Lib.hid (by rw [← HRE.out]; exact HF2.out), by omega, HOK, Lib.hid hown3, Lib.hid (HB2.out.trans (((Below.refl _ _).alloc hz2 _).trans hbl3))⟩
                case measure => simp [intOf]; omega
          · have q1 : (rule == 2) = false := by rw [beq_eq_false_iff_ne]; exact hr
            rw [if_neg hr] at hoi
            subst hoi
            clear hf hok hin hmem hfl hfull hel hsz2 hr hix hoe
            go_wp2_with (first
              | (go_at_call 59; refine HIX.out.mono ?_; rintro e w' ⟨rfl, rfl⟩)
              | (go_at_call 47; refine HSZ2.out.mono ?_; rintro e w' ⟨rfl, rfl⟩)
              | (go_at_call 46; refine HD.out.mono ?_; rintro e w2 ⟨rfl, ho2, hk2'⟩; have HB2 := Lib.hid (HB.out.trans (hk2'.toBelow hszo (fun q h1 h2 => by have := (HO.out.lt g rfl).1; omega))))
              | (at_builtin; refine app_ints rfl _ _ rfl w.heap.size (.slice (some ⟨g, 0, none⟩) (m - 1) sc) (m - 1) (S.eraseIdx 0) rfl (ho2.alloc _) _ [x] rfl (slc_one _ _) m (S.eraseIdx 0 ++ [x]) (by simp; omega) rfl (by omega) (by have := HB2.out.size; simp; omega) ?_; intro b3 c3 w3 hown3 hbl3 _ _)
              | fail)
            have hz2 := HB2.out.size
            go_roundw
            case rel => exact ⟨i + 1, S.eraseIdx 0 ++ [x], f + 1, b3, c3, m, by go_num, by omega, rfl, by go_num, by rw [List.length_append, HEL.out]; simp; omega, Lib.hid (by rw [← HRE.out]; exact HF2.out), by omega, HOK, Lib.hid hown3, Lib.hid (HB2.out.trans (((Below.refl _ _).alloc hz2 _).trans hbl3))⟩
            case measure => simp [intOf]; omega
        · have hfl : S.length ≠ rm := by rw [← HM.out]; exact hfull
          have q2 : ((m : Int) == (rm : Int)) = false := by rw [beq_eq_false_iff_ne]; omega
          have hin : inS rm rule R S x = S ++ [x] := by unfold inS; rw [if_neg hmem, if_neg hfl]
          rw [hin] at hf hok
          have HF2 := Lib.hid (show f + 1 + flL rm rule (S ++ [x]) R = N by omega)
          have HOK := Lib.hid hok
          have HSZ2 := Lib.hid (size_any m wo (by unfold maxLen; omega))
          clear hf hok hin hmem hfl hfull hix
          go_wp2_with (first
            | (go_at_call 59; refine HIX.out.mono ?_; rintro e w' ⟨rfl, rfl⟩)
            | (go_at_call 47; refine HSZ2.out.mono ?_; rintro e w' ⟨rfl, rfl⟩)
            | (at_builtin; refine app_ints rfl _ _ rfl w.heap.size (.slice sa m sc) m S rfl (HO.out.alloc _) _ [x] rfl (slc_one _ _) (m + 1) (S ++ [x]) (by simp) rfl (by omega) (by simp; omega) ?_; intro b3 c3 w3 hown3 hbl3 _ _)
            | fail)
          go_roundw
          case rel => exact ⟨i + 1, S ++ [x], f + 1, b3, c3, m + 1, by go_num, by omega, rfl, by go_num, by rw [List.length_append, ← HM.out]; rfl, Lib.hid (by rw [← HRE.out]; exact HF2.out), by omega, HOK, Lib.hid hown3, Lib.hid (HB.out.trans (((Below.refl _ _).alloc hszo _).trans hbl3))⟩
          case measure => simp [intOf]; omega
    · obtain rfl : i = n := by omega
      have hf := HF.out
      rw [List.drop_of_length_le (by rw [HL.out]; exact Nat.le_refl _)] at hf
      simp only [flL] at hf
      have HFN := Lib.hid hf
      have hii : ¬ (i : Int) < (i : Int) := by omega
      clear hf
      go_wp2_with fail
      go_ret2
      exact ⟨by rw [← HFN.out]; rfl, HB.out⟩

end Go.Proofs.Ytfdaifmfecfchaa

namespace Go.Proofs.Ytfdaifmfecfchaa
open Go.RowKit Go.Sort

/-- Cells that are written in a row of one's own. -/
theorem owns_setCells {base g cap n : Nat} {e : TypeId} : ∀ (cs : List Value) (o : Nat) (w : World) (vs : List Value), o + cs.length ≤ n → vs.length = n → w.ownsRow base e 1 (.slice (some ⟨g, 0, none⟩) n cap) n vs →
    (w.setCells g o cs).ownsRow base e 1 (.slice (some ⟨g, 0, none⟩) n cap) n (vs.take o ++ cs ++ vs.drop (o + cs.length)) ∧ Kept (· = g) w (w.setCells g o cs)
  | [], o, w, vs, h, hl, ho => by
    refine ⟨?_, Kept.refl _ _⟩
    simp only [World.setCells, List.append_nil, List.length_nil, Nat.add_zero, List.take_append_drop]
    exact ho
  | v :: r, o, w, vs, h, hl, ho => by
    simp only [List.length_cons] at h
    have h1 := (ho.stored o v).1
    obtain ⟨h2, h3⟩ := owns_setCells r (o + 1) (w.setCell ⟨g, o, none⟩ v) (vs.set o v) (by omega) (by rw [List.length_set]; exact hl) h1
    refine ⟨?_, ?_⟩
    · have e1 : (vs.set o v).take (o + 1) ++ r ++ (vs.set o v).drop (o + 1 + r.length) = vs.take o ++ (v :: r) ++ vs.drop (o + (r.length + 1)) := by
        have a1 : (vs.set o v).take (o + 1) = vs.take o ++ [v] := by
          rw [List.take_add_one, List.take_set_of_le (Nat.le_refl _), List.getElem?_set_self (by omega)]
          rfl
        have a2 : (vs.set o v).drop (o + 1 + r.length) = vs.drop (o + (r.length + 1)) := by
          rw [List.drop_set_of_lt (by omega)]
          congr 1
          omega
        rw [a1, a2]
        simp
      rw [e1] at h2
      exact h2
    · exact (show Kept (· = g) w (w.setCell ⟨g, o, none⟩ v) from (Kept.refl (· = g) w).setCell (p := ⟨g, o, none⟩) (.inr rfl) v).trans h3
/-- A row of one's own, seen with one cell more. -/
theorem owns_longer {w : World} {base g cap n : Nat} {e : TypeId} {vs : List Value} (h : w.ownsRow base e 1 (.slice (some ⟨g, 0, none⟩) n cap) n vs) (hr : n + 1 ≤ cap) : ∃ u, w.ownsRow base e 1 (.slice (some ⟨g, 0, none⟩) (n + 1) cap) (n + 1) (vs ++ [u]) := by
  have hl := h.1
  rcases h.2 with ⟨h', _⟩ | ⟨g', cap', cur, h', hb, hg, hnc, hcm, hcs, htake⟩
  · simp at h'
  · simp only [Value.slice.injEq, Option.some.injEq, Addr.mk.injEq, and_true, true_and] at h'
    obtain ⟨rfl, rfl⟩ := h'
    rw [Nat.mul_one] at hcs htake hl
    have hlt : n < cur.toList.length := by rw [Array.length_toList]; omega
    refine ⟨cur.toList[n], by simp; omega, .inr ⟨g, cap, cur, rfl, hb, hg, hr, hcm, by omega, ?_⟩⟩
    rw [Nat.mul_one, List.take_add_one, htake, List.getElem?_eq_getElem hlt]
    rfl

set_option maxHeartbeats 4000000 in
set_option maxRecDepth 100000 in
theorem insert0_any (lo g cap m : Nat) (xs : List Int) (z : Int) (vb : Nat) (w : World) (ho : w.ownsRow lo 2 1 (.slice (some ⟨g, 0, none⟩) m cap) m (xs.map I64)) (hm : 1 ≤ m) (hr : m + 1 ≤ cap)
    (hv : w.heap[vb]? = some (.cells #[.int .i64 z] 2 (0, 0))) (hne : vb ≠ g) :
    Calls Try.prog 61 #[.slice (some ⟨g, 0, none⟩) m cap, .int .i64 0, .slice (some ⟨vb, 0, none⟩) 1 1] w fun e w' => e = .returned (.slice (some ⟨g, 0, none⟩) (m + 1) cap) ∧ w'.ownsRow lo 2 1 (.slice (some ⟨g, 0, none⟩) (m + 1) cap) (m + 1) ((z :: xs).map I64) ∧ Kept (· = g) w w' := by
  obtain ⟨u, hou⟩ := owns_longer ho hr
  have hxl : xs.length = m := by have := ho.1; rw [List.length_map, Nat.mul_one] at this; exact this
  have hcm : cap ≤ maxLen := by
    rcases ho.2 with ⟨h', _⟩ | ⟨g', cap', cur, h', hb, hg, hnc, hcm, _⟩
    · simp at h'
    · simp only [Value.slice.injEq, Option.some.injEq, Addr.mk.injEq, and_true, true_and] at h'
      obtain ⟨_, rfl⟩ := h'
      exact hcm
  have hgh : ∃ cur, w.heap[g]? = some (.cells cur 2 (0, 0)) ∧ cur.size = cap := by
    rcases ho.2 with ⟨h', _⟩ | ⟨g', cap', cur, h', hb, hg, hnc, _, hcs, _⟩
    · simp at h'
    · simp only [Value.slice.injEq, Option.some.injEq, Addr.mk.injEq, and_true, true_and] at h'
      obtain ⟨rfl, rfl⟩ := h'
      exact ⟨cur, hg, by omega⟩
  obtain ⟨cur, hgc, hgs⟩ := hgh
  unfold maxLen at hcm
  have hcell : ∀ j v, (xs.map I64)[j]? = some v → w.cell? ⟨g, j, none⟩ = some v := fun j v hj => by
    have := (List.getElem?_eq_some_iff.1 hj).1
    rw [List.length_map] at this
    rw [ho.cellAt j (by omega)]
    exact hj
  have hsp : ∀ j, j < m + 1 → (w.cell? ⟨g, j, none⟩).isSome = true := fun j hj => by
    rw [hou.cellAt j (by omega), List.getElem?_eq_getElem (by simp; omega)]
    rfl
  have hfz : ∀ j, w.frozen? ⟨g, j, none⟩ = false := fun j => ho.frozenAt j
  have hsz : (Try.prog.info? 2).map (·.size) = some 1 := by
    obtain ⟨i0, hi, hz0, hz1, hz2⟩ := info_parts Try.infoI64
    rw [hi]
    simp [hz1]
  have h1c : ∀ v ∈ xs.map I64, v.oneCell' = true := fun v hv => by
    obtain ⟨x, _, rfl⟩ := List.mem_map.1 hv
    rfl
  have hvc : w.cell? ⟨vb, 0, none⟩ = some (.int .i64 z) := by simp [World.cell?, hv]
  have hov : ∀ lb cb, (callFunc 81 #[.slice (some ⟨vb, 0, none⟩) 1 1, .slice (some ⟨g, 1, none⟩) lb cb]).run Try.prog w = .ok (.value (.bool false)) w := fun lb cb => by
    rw [run_callFunc_extern Try.func81 (by kernel_rfl) (by kernel_rfl) (by kernel_rfl) (e := Extern.SlicesOverlaps.overlaps #[27, 27] #[4]) (by kernel_rfl),
      Lib.run_overlaps_apart w 27 4 2 Try.underlying27 1 Try.sizeOf2 ⟨vb, 0, none⟩ ⟨g, 1, none⟩ 1 1 lb cb hne 2 2 1 cap (by simp [World.shape?, hv]) (by simp [World.shape?, hgc, hgs]) (by omega) (by simp [World.frozen?, hv]) (by simp [World.frozen?, hv])]
    rfl
  have hcp1 : ∀ ty dc sc, (Builtin.copy_ #[27, 27] ty #[.slice (some ⟨g, 1, none⟩) m dc, .slice (some ⟨g, 0, none⟩) (m + 1) sc]).run Try.prog w.drew = .ok (goInt (xs.map I64).length) (w.drew.setCells g 1 (xs.map I64)) := fun ty dc sc =>
    run_copy_cells w.drew _ _ ty 2 g 1 m dc ⟨g, 0, none⟩ (m + 1) sc (xs.map I64) Try.underlying27 hsz (by rw [List.length_map]; simp only [Nat.min_def]; split <;> omega)
      (fun j v hj => by rw [Addr.add_lit, Nat.zero_add]; exact hcell j v hj)
      (fun j hj => by rw [List.length_map] at hj; exact hsp (1 + j) (by omega)) (fun j hj => hfz (1 + j)) h1c
  obtain ⟨W1, hW1⟩ : ∃ W1, W1 = w.drew.setCells g 1 (xs.map I64) := ⟨_, rfl⟩
  have hlen : (xs.map I64 ++ [u]).length = m + 1 := by simp; omega
  obtain ⟨o1, k1⟩ := owns_setCells (xs.map I64) 1 w.drew (xs.map I64 ++ [u]) (by rw [List.length_map]; omega) hlen (owns_drew hou)
  rw [← hW1] at o1 k1 hcp1
  have hcp2 : ∀ (W : World), (∀ x, W.cell? x = W1.cell? x) → (∀ x, W.frozen? x = W1.frozen? x) → ∀ ty dc, (Builtin.copy_ #[27, 27] ty #[.slice (some ⟨g, 0, none⟩) (m + 1) dc, .slice (some ⟨vb, 0, none⟩) 1 1]).run Try.prog W = .ok (goInt 1) (W.setCells g 0 [I64 z]) := fun W hWc hWf ty dc =>
    run_copy_cells W _ _ ty 2 g 0 (m + 1) dc ⟨vb, 0, none⟩ 1 1 [I64 z] Try.underlying27 hsz (by simp [Nat.min_def])
      (fun j v hj => by
        have hj0 : j = 0 := by have := (List.getElem?_eq_some_iff.1 hj).1; simpa using this
        subst hj0
        rw [hWc, hW1, Addr.add_lit, World.cell?_setCells_out g _ _ _ _ (fun h _ => absurd h hne)]
        simp at hj
        rw [← hj]
        exact hvc)
      (fun j hj => by
        have hj0 : j = 0 := by simpa using hj
        subst hj0
        rw [hWc, o1.cellAt 0 (by omega)]
        rw [List.getElem?_eq_getElem (by simp; omega)]
        rfl)
      (fun j hj => by rw [hWf]; exact o1.frozenAt _) (fun v hv => by rw [List.mem_singleton.1 hv]; rfl)
  have hov2 : ∀ lb cb, (callFunc 81 #[.slice (some ⟨vb, 0, none⟩) 1 1, .slice (some ⟨g, 1, none⟩) lb cb]).run Try.prog w = .ok (.value (.bool false)) w := hov
  have hm0 : ¬ ((m : Int) = 0) := by omega
  have hm1 : ¬ ((0 : Int) = (m : Int)) := by omega
  have hc1 : ¬ (cap = 1) := by omega
  have hc0 : ¬ (cap = 0) := by omega
  have hw1 : IntKind.i64.wrap ((m : Int) + 1) = (m : Int) + 1 := by rw [IntKind.wrap_i64]; omega
  have hw0 : IntKind.i64.wrap (1 : Int) = 1 := by decide
  have hb4 : (1 : Int) ≤ (m : Int) + 1 := by omega
  have hb5 : (0 : Int) ≤ (m : Int) + 1 := by omega
  have hb3 : (m : Int) + 1 ≤ (cap : Int) := by omega
  have hbg : ¬ ((cap : Int) < (m : Int) + 1) := by omega
  have HR1 := Lib.hid (show ((z :: xs).map I64) = ([] : List Value) ++ [I64 z] ++ ((xs.map I64 ++ [u]).take 1 ++ xs.map I64 ++ (xs.map I64 ++ [u]).drop (1 + (xs.map I64).length)).drop 1 by
    have e3 : (xs.map I64 ++ [u]).drop (1 + (xs.map I64).length) = [] := List.drop_of_length_le (by simp; omega)
    have h1 : ((xs.map I64 ++ [u]).take 1).length = 1 := by rw [List.length_take, hlen]; omega
    rw [e3, List.append_nil, List.drop_append_of_le_length (by omega), List.drop_of_length_le (Nat.le_of_eq h1)]
    rfl)
  have HO1 := Lib.hid o1
  have HK1 := Lib.hid k1
  clear o1 k1 hcell hsp hfz h1c hvc hov hou ho hgc hgs hxl hlen hsz
  go_enter Try.func61, Try.ntmps61
  go_wp2_with (simp only [hov2])
  go_region_law (refine step_copy_runI rfl _ _ 27 27 rfl _ _ (by simp [Act.eval, Act.put]) (by simp [Act.eval, Act.put]) (hcp1 _ _ _) ?_)
  go_wp2_with (at_builtin; refine wpList_copy_runI _ rfl _ _ 27 27 rfl _ _ rfl rfl (hcp2 _ (fun _ => rfl) (fun _ => rfl) _ _) ?_)
  go_ret
  subst hW1
  obtain ⟨h2, h3⟩ := owns_setCells [I64 z] 0 _ _ (by simp) (by rw [← Nat.mul_one (m + 1)]; exact HO1.out.1) HO1.out
  refine ⟨rfl, ?_, ((Kept.refl (· = g) w).drewN 1).trans (HK1.out.trans h3)⟩
  rw [HR1.out]
  exact h2

end Go.Proofs.Ytfdaifmfecfchaa

namespace Go.Proofs.Ytfdaifmfecfchaa
open Go.RowKit Go.Sort

/-- Indices in the order of a comparison. -/
def ordCA (cf : Nat → Nat → Int) (n : Nat) : Array Nat := Sort.insertionSort (ltOf cf) (Array.range n) 0 n
def ordC (cf : Nat → Nat → Int) (n : Nat) : List Nat := (ordCA cf n).toList
theorem ordCA_perm {cf : Nat → Nat → Int} (hs : SWO (ltOf cf)) (n : Nat) : PermIn 0 n (Array.range n) (ordCA cf n) :=
  (insertionSort_holds hs (Array.range n) 0 n (Nat.zero_le _) (by simp)).1
theorem ordCA_size {cf : Nat → Nat → Int} (hs : SWO (ltOf cf)) (n : Nat) : (ordCA cf n).size = n := by rw [(ordCA_perm hs n).1]; simp
theorem ordC_len {cf : Nat → Nat → Int} (hs : SWO (ltOf cf)) (n : Nat) : (ordC cf n).length = n := by unfold ordC; rw [Array.length_toList, ordCA_size hs]
theorem ordC_perm {cf : Nat → Nat → Int} (hs : SWO (ltOf cf)) (n : Nat) : (ordC cf n).Perm (List.range n) := by
  have h := (ordCA_perm hs n).2.2
  have e0 : ∀ (a : Array Nat) k, a.size = k → a.extract 0 k = a := by
    rintro a _ rfl
    exact Array.extract_size
  have e1 := e0 _ _ (ordCA_size hs n)
  have e2 := e0 (Array.range n) n (by simp)
  rw [e1, e2, Array.toList_range] at h
  exact h
theorem ordC_lt {cf : Nat → Nat → Int} (hs : SWO (ltOf cf)) (n : Nat) : ∀ x ∈ ordC cf n, x < n := fun x hx => List.mem_range.1 ((ordC_perm hs n).mem_iff.1 hx)

theorem stableC_any (f : Nat) (fb : Array Value) (eg : ∀ args w, (callFunc f args).run Try.prog w = .ok (.enter f args) w) (cf : Nat → Nat → Int) (g n cap : Nat) (hn1 : 1 ≤ n) (hn2 : n ≤ 12) (w : World) (hcmp : CmpReads Try.prog f fb (encN n) cf g 0 n w) (hH : Holds (encN n) w g 0 (Array.range n)) :
    Calls Try.prog 89 #[.slice (some ⟨g, 0, none⟩) n cap, .int .i64 n, .func (.func f) #[] fb] w fun e w' =>
      e = .returned (.tuple #[]) ∧ ∃ q, w' = (putRow (encN n) w g 0 (ordCA cf n)).drewN q := by
  have hs : (Array.range n).size = n := Array.size_range
  have HC := insOne_any (encN n) (one_encN _) cf f fb g 0 cap 0 n (Array.range n) w eg (by rw [hs]; exact hcmp) hH (Nat.zero_le _) (by rw [hs]; exact Nat.le_refl _) (by rw [hs]; omega)
  rw [hs] at HC
  have HC := Lib.hid HC
  have h1 : ¬ (20 : Int) ≤ n := by omega
  have h2 : ¬ (20 : Int) < n := by omega
  clear hcmp hH eg
  go_enter Try.func89, Try.ntmps89
  go_wp2_with fail
  go_loopw [7, 8] (fun av bv wr => av = .int .i64 0 ∧ bv = .int .i64 20 ∧ w = wr) (fun _ _ _ => 0)
  case atStart => exact ⟨rfl, rfl, rfl⟩
  case round =>
    obtain ⟨rfl, rfl, rfl⟩ := hrel
    go_wp2_with (go_at_call 101; refine HC.out.mono ?_; rintro e w1 ⟨rfl, hq⟩)
    have HQ := Lib.hid hq
    clear hq
    go_loopw [6] (fun sv wr => sv = .int .i64 20 ∧ w1 = wr) (fun _ _ => 0)
    case atStart => exact ⟨rfl, rfl⟩
    case round =>
      obtain ⟨rfl, rfl⟩ := hrel
      go_wp2_with fail
      go_end0
      exact ⟨rfl, HQ.out⟩

theorem sortStableC_any (f : Nat) (fb : Array Value) (eg : ∀ args w, (callFunc f args).run Try.prog w = .ok (.enter f args) w) (cf : Nat → Nat → Int) (g n cap : Nat) (hn1 : 1 ≤ n) (hn2 : n ≤ 12) (w : World) (hcmp : CmpReads Try.prog f fb (encN n) cf g 0 n w) (hH : Holds (encN n) w g 0 (Array.range n)) :
    Calls Try.prog 77 #[.slice (some ⟨g, 0, none⟩) n cap, .func (.func f) #[] fb] w fun e w' =>
      e = .returned (.tuple #[]) ∧ ∃ q, w' = (putRow (encN n) w g 0 (ordCA cf n)).drewN q := by
  have HC := Lib.hid (stableC_any f fb eg cf g n cap hn1 hn2 w hcmp hH)
  clear hcmp hH
  go_enter Try.func77, Try.ntmps77
  go_wp2_with (go_at_call 89; refine HC.out.mono ?_; rintro e w1 ⟨rfl, hq⟩)
  go_end0
  exact ⟨rfl, hq⟩

/-- The program's list of indices, sorted by a comparison. -/
theorem orderByC_any (f : Nat) (fb : Array Value) (eg : ∀ args w, (callFunc f args).run Try.prog w = .ok (.enter f args) w) (cf : Nat → Nat → Int) (hs : SWO (ltOf cf)) (n : Nat) (hn1 : 1 ≤ n) (hn2 : n ≤ 12) (w : World) (hcmp : ∀ w0 g, Below w.heap.size w w0 → w.heap.size ≤ g → CmpReads Try.prog f fb (encN n) cf g 0 n w0) :
    Calls Try.prog 42 #[.int .i64 n, .func (.func f) #[] fb] w fun e w' => ∃ u, e = .returned u ∧ OwnI w.heap.size w'.heap.size w' u (idxs (ordC cf n)) ∧ Below w.heap.size w w' := by
  have HCMP := Lib.hid hcmp
  have HSW := Lib.hid hs
  clear hcmp hs
  go_enter Try.func42, Try.ntmps42
  go_wp2_with fail
  go_loopw [5, 6] (fun out kk wr => ∃ (i : Nat) (b : Option Addr) (cap : Nat), kk = .int .i64 i ∧ i ≤ n ∧ out = .slice b i cap ∧ Hid (wr.ownsRow w.heap.size 2 1 (.slice b i cap) i ((idxs (List.range i)).map I64)) ∧ Hid (Below w.heap.size w wr)) (fun _ kk _ => n + 1 - (intOf kk).toNat)
  case atStart => exact ⟨0, none, 0, rfl, Nat.zero_le _, rfl, World.ownsRow_nil _ _ _ _, Below.refl _ _⟩
  case round =>
    obtain ⟨i, b, cap, rfl, hi, rfl, HO, HB⟩ := hrel
    by_cases hlt : i < n
    · have hlt' : (i : Int) < n := by omega
      have hsz := HB.out.size
      go_wp2_with (at_builtin; refine app_ints rfl _ _ rfl w.heap.size (.slice b i cap) i (idxs (List.range i)) rfl (HO.out.alloc _) _ [(i : Int)] rfl (slc_one _ _) (i + 1) (idxs (List.range (i + 1))) (by simp) (by unfold idxs; rw [List.range_succ, List.map_append]; rfl) (by omega) (by simp; omega) ?_; intro b2 cap2 w3 hown2 hbl2 _ _)
      go_roundw
      case rel => exact ⟨i + 1, b2, cap2, by go_num, by omega, rfl, Lib.hid hown2, Lib.hid (HB.out.trans (((Below.refl _ _).alloc hsz _).trans hbl2))⟩
      case measure => simp [intOf]; omega
    · obtain rfl : i = n := by omega
      obtain ⟨wo, rfl⟩ : ∃ wo, wo = wr := ⟨wr, rfl⟩
      have hnn : Value.slice b i cap ≠ .slice none 0 0 := by intro e; injection e with _ e _; omega
      have hmem : ∀ x, x ∈ List.range i → x < i := fun x hx => List.mem_range.1 hx
      have HO2 : Hid (wo.ownsRow w.heap.size 2 1 (.slice b i cap) i ((List.range i).map (encN i))) := Lib.hid (by rw [encN_map _ _ hmem]; exact HO.out)
      obtain ⟨g, cap', e, hbg, hgl, _, _, _, hH⟩ := Lib.holds_of_ownsRow HO2.out hnn
      injection e with e1 _ e2
      subst e1; subst e2
      have HC := Lib.hid (sortStableC_any f fb eg cf g i cap hn1 hn2 wo (HCMP.out wo g HB.out hbg) (by rw [← List.toArray_range]; exact hH))
      clear hH hnn hmem
      go_wp2_with (go_at_call 77; refine HC.out.mono ?_; rintro e w1 ⟨rfl, hq⟩)
      go_ret
      obtain ⟨q, rfl⟩ := hq
      have hoL : (ordC cf i).length = i := ordC_len HSW.out _
      have hx := Lib.ownsRow_putRow (q := 0) (k := i) HO2.out hoL (Nat.le_refl _)
      rw [List.take_of_length_le (by omega), encN_map _ _ (ordC_lt HSW.out _)] at hx
      refine ⟨_, rfl, ?_, ?_⟩
      · exact OwnI.mk (n := i) hx
      · exact below_drewN (Lib.below_putRow (q := 0) HB.out hbg) q

end Go.Proofs.Ytfdaifmfecfchaa

namespace Go.Proofs.Ytfdaifmfecfchaa
open Go.RowKit

theorem jobs_all {js : List JobD} (h : areJobsB js = true) : 1 ≤ js.length ∧ js.length ≤ 12 ∧ ∀ i, i < js.length → (1 ≤ (js.getD i J0).long ∧ (js.getD i J0).long ≤ 1000) ∧ (0 ≤ (js.getD i J0).due ∧ (js.getD i J0).due ≤ 100000) ∧ (0 ≤ (js.getD i J0).ready ∧ (js.getD i J0).ready ≤ 100000) ∧ 0 ≤ (js.getD i J0).weight ∧ (js.getD i J0).weight ≤ 1000 := by
  unfold areJobsB at h
  rw [Bool.and_eq_true, inB_iff, allB_iff] at h
  refine ⟨by omega, by omega, fun i hi => ?_⟩
  have := h.2 i hi
  unfold jobB at this
  simp only [Bool.and_eq_true, inB_iff] at this
  omega

/-- The end of those ready at a time or later, from that time on, among the first ones. -/
def headK (js : List JobD) (r : Int) : Nat → Int
  | 0 => r
  | m + 1 => if r ≤ (js.getD m J0).ready then headK js r m + (js.getD m J0).long else headK js r m
def headsK (js : List JobD) : Nat → Int
  | 0 => 0
  | j + 1 => max (headsK js j) (headK js (js.getD j J0).ready js.length)
def headsN (js : List JobD) : Int := if areJobsB js = true then headsK js js.length else 0
theorem headK_rng {js : List JobD} (h : ∀ i, i < js.length → (js.getD i J0).long ≤ 1000 ∧ 0 ≤ (js.getD i J0).long) (r : Int) : ∀ m, m ≤ js.length → r ≤ headK js r m ∧ headK js r m ≤ r + 1000 * m
  | 0, _ => by simp [headK]
  | m + 1, hm => by
    have ih := headK_rng h r m (by omega)
    have := h m (by omega)
    simp only [headK]
    split <;> push_cast <;> omega

end Go.Proofs.Ytfdaifmfecfchaa
