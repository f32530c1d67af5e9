/-
  FnExactWholesShared: texts joined: Str, Reg, Whole, WholeS, WholeN, EachW.
-/
import Derived.Deep.RegionHeld3
import Derived.Test.YtkmbkjbammpdhaaMEWholesSharedAA
import Derived.Test.YtkmbkjbammpdhaaMEWholesSharedAF
namespace Go.Proofs.Ytkmbkjbammpdhaa
open Go.RowKit

theorem str_ext {s t : ByteArray} (h : s.toList = t.toList) : s = t := by
  rw [ByteArray.toList_eq, ByteArray.toList_eq] at h
  exact ByteArray.ext (Array.ext' h)
theorem str_ne {s t : ByteArray} (h : s ≠ t) : (s.toList == t.toList) = false := by
  cases hb : s.toList == t.toList
  · rfl
  · exact absurd (str_ext (eq_of_beq hb)) h

@[go_sem] theorem binOp_string_neq_true (t : TypeId) (a b : ByteArray) (h : (a.toList == b.toList) = false) : binOp .neq t (.string a) (.string b) = pure (.bool true) := by
  rw [binOp_string_neq, h]; rfl
@[go_sem] theorem binOp_string_neq_same (t : TypeId) (a : ByteArray) : binOp .neq t (.string a) (.string a) = pure (.bool false) := by
  rw [binOp_string_neq]; simp
@[go_sem] theorem binOp_string_eql_false (t : TypeId) (a b : ByteArray) (h : (a.toList == b.toList) = false) : binOp .eql t (.string a) (.string b) = pure (.bool false) := by
  rw [binOp_string_eql, h]
@[go_sem] theorem binOp_string_eql_same (t : TypeId) (a : ByteArray) : binOp .eql t (.string a) (.string a) = pure (.bool true) := by
  rw [binOp_string_eql]; simp

def allB (m : Nat) (p : Nat → Bool) : Bool := (List.range m).all p
theorem allB_true {m : Nat} {p : Nat → Bool} (h : ∀ i, i < m → p i = true) : allB m p = true := by
  unfold allB; rw [List.all_eq_true]; intro i hi; exact h i (List.mem_range.1 hi)
theorem allB_false {m : Nat} {p : Nat → Bool} {i : Nat} (hi : i < m) (h : p i = false) : allB m p = false := by
  unfold allB
  cases hb : (List.range m).all p
  · rfl
  · rw [List.all_eq_true] at hb
    have := hb i (List.mem_range.2 hi)
    rw [h] at this; cases this
theorem allB_iff {m : Nat} {p : Nat → Bool} : allB m p = true ↔ ∀ i, i < m → p i = true := by
  unfold allB; rw [List.all_eq_true]
  exact ⟨fun h i hi => h i (List.mem_range.2 hi), fun h i hi => h i (List.mem_range.1 hi)⟩

theorem inB_iff {lo hi n : Int} : inB lo hi n = true ↔ lo ≤ n ∧ n ≤ hi := by unfold inB; simp
theorem bool_false {b : Bool} (h : ¬ b = true) : b = false := by cases b <;> simp_all

end Go.Proofs.Ytkmbkjbammpdhaa

namespace Go.Proofs.Ytkmbkjbammpdhaa
open Go.RowKit

theorem wp_region_cls {P : Program} {id : Nat} {Q : Exit → Act → World → Prop} {a : Act} {w : World} {l : List Oper} (C : World → Prop) (hm : P.follows .mixedOrders = true) (hB : Region.lexB .any l.toArray = true) (hC : C w.drew)
    (h : wpQuiet P l.toArray C (fun a' => ∀ w', C w' → Q .normal a' w') l a) : (Code.region id l.toArray true).wp P Q a w :=
  wp_region_quiet (C := C) hm hB hC (by simpa using h)

theorem q_step {P : Program} {ops : Array Oper} {C : World → Prop} {Q : Act → Prop} {o : Oper} {rest : List Oper} {a : Act} (hw : Region.wanted o (yielded ops a.tmps) = true)
    (h : ∃ v, (∀ X, C X → o.quietAt P a C X v) ∧ wpQuiet P ops C Q rest (a.put o.dst v)) : wpQuiet P ops C Q (o :: rest) a :=
  wpQuiet_step fun _ hK => by obtain ⟨v, h1, h2⟩ := h; rw [if_pos hw]; exact ⟨v, h1, hK _ h2⟩

end Go.Proofs.Ytkmbkjbammpdhaa

namespace Go.Proofs.Ytkmbkjbammpdhaa
open Go.RowKit

theorem map_snoc (xs : List Int) (k : Nat) (h : k < xs.length) : (xs.take (k + 1)).map fI = (xs.take k).map fI ++ [fI (xs.getD k 0)] := by
  rw [List.take_succ_eq_append_getElem h, List.map_append]
  simp [h]

theorem run_conv_if {P : Program} (n : Int) (hd : P.underlying 37 = some (.float .f32)) (hs : P.underlying 2 = some (.int .i64)) (w : World) : (convert 2 37 (.int .i64 n)).run P w = .ok (.float .f32 (fI n)) w := by
  simp [convert, run_underlying hs, run_underlying hd, Conv.intToFloat, floatOfInt, fI]

set_option maxHeartbeats 2000000 in
theorem asNumbers_any (v : Value) (xs : List Int) (w : World) (h : RdI w v xs) (hb : xs.length ≤ 1048576) :
    Calls Try.prog 102 #[v] w fun e w' => ∃ u, e = .returned u ∧ RdF w' u (xs.map fI) ∧ Below w.heap.size w w' := by
  obtain ⟨a, c, rfl⟩ := h.shape
  have HS := Lib.hid h
  clear h
  go_enter Try.func102, Try.ntmps102
  go_wp2_with fail
  go_loopw [3, 8] (fun out i wr => ∃ (k : Nat) (b : Option Addr) (cap : Nat), i = .int .i64 k ∧ k ≤ xs.length ∧ out = .slice b k cap ∧ Hid (wr.ownsRow w.heap.size 37 1 (.slice b k cap) k (((xs.take k).map fI).map F32)) ∧ Hid (Below w.heap.size w wr)) (fun _ i _ => xs.length - (intOf i).toNat)
  case atStart => exact ⟨0, none, 0, rfl, Nat.zero_le _, rfl, World.ownsRow_nil _ _ _ _, Below.refl _ _⟩
  case round =>
    obtain ⟨k, b, cap, rfl, hk, rfl, HO, HB⟩ := hrel
    by_cases hlt : k < xs.length
    · obtain ⟨ub, uo, rfl, _, hc⟩ := (HS.out.up HB.out (Nat.le_refl _)).at hlt
      have HM := Lib.hid (map_snoc xs k hlt)
      obtain ⟨y, hy⟩ : ∃ y, y = xs.getD k 0 := ⟨_, rfl⟩
      rw [← hy] at hc HM
      have hconv := fun (W : World) => run_conv_if (P := Try.prog) y Try.underlying37 Try.underlying2 W
      have hz := HB.out.size
      clear hy
      go_wp2_with (at_builtin; refine app_flts rfl _ _ rfl w.heap.size (.slice b k cap) k _ rfl (owns_below HO.out ((Below.refl _ _).alloc (Nat.le_refl _) _) (Nat.le_refl _)) _ [_] rfl (slcF_one _ _) (k + 1) _ (by simp) rfl (by omega) (by simp; omega) ?_; intro a2 cap2 w5 hown hbl hg _)
      go_roundw
      case rel => exact ⟨k + 1, a2, cap2, by go_num, by omega, rfl, by rw [HM.out]; exact hown, (HB.out.alloc HB.out.size _).trans hbl⟩
      case measure => simp [intOf]; omega
    · obtain rfl : k = xs.length := by omega
      go_wp2_with fail
      go_ret
      refine ⟨_, rfl, ?_, HB.out⟩
      have := slc_of_owns HO.out
      rwa [List.take_length] at this

set_option maxHeartbeats 2000000 in
theorem l07Floats_any (v : Value) (xs : List Int) (w : World) (h : RdI w v xs) (hb : xs.length ≤ 1048576) :
    Calls Try.prog 104 #[v] w fun e w' => ∃ u, e = .returned u ∧ RdF w' u (xs.map fI) ∧ Below w.heap.size w w' := by
  obtain ⟨a, c, rfl⟩ := h.shape
  have HS := Lib.hid h
  clear h
  go_enter Try.func104, Try.ntmps104
  go_wp2_with fail
  refine wp_at fun W0 hW0 => ?_
  have HB0 := Lib.hid (show Below w.heap.size w W0 by subst hW0; exact (Below.refl _ _).alloc (Nat.le_refl _) _)
  have HO0 := Lib.hid (show W0.ownsRow w.heap.size 37 1 (.slice (some ⟨w.heap.size, 0, none⟩) 0 0) 0 (([] : List Nat).map F32) by subst hW0; exact ownsF_empty w)
  clear hW0
  go_loopw [3, 8] (fun out i wr => ∃ (k : Nat) (b : Option Addr) (cap : Nat), i = .int .i64 k ∧ k ≤ xs.length ∧ out = .slice b k cap ∧ Hid (wr.ownsRow w.heap.size 37 1 (.slice b k cap) k (((xs.take k).map fI).map F32)) ∧ Hid (Below w.heap.size w wr)) (fun _ i _ => xs.length - (intOf i).toNat)
  case atStart => exact ⟨0, _, 0, rfl, Nat.zero_le _, rfl, HO0.out, HB0.out⟩
  case round =>
    obtain ⟨k, b, cap, rfl, hk, rfl, HO, HB⟩ := hrel
    by_cases hlt : k < xs.length
    · obtain ⟨ub, uo, rfl, _, hc⟩ := (HS.out.up HB.out (Nat.le_refl _)).at hlt
      have HM := Lib.hid (map_snoc xs k hlt)
      obtain ⟨y, hy⟩ : ∃ y, y = xs.getD k 0 := ⟨_, rfl⟩
      rw [← hy] at hc HM
      have hconv := fun (W : World) => run_conv_if (P := Try.prog) y Try.underlying37 Try.underlying2 W
      have hz := HB.out.size
      clear hy
      go_wp2_with (at_builtin; refine app_flts rfl _ _ rfl w.heap.size (.slice b k cap) k _ rfl (owns_below HO.out ((Below.refl _ _).alloc (Nat.le_refl _) _) (Nat.le_refl _)) _ [_] rfl (slcF_one _ _) (k + 1) _ (by simp) rfl (by omega) (by simp; omega) ?_; intro a2 cap2 w5 hown hbl hg _)
      go_roundw
      case rel => exact ⟨k + 1, a2, cap2, by go_num, by omega, rfl, by rw [HM.out]; exact hown, (HB.out.alloc HB.out.size _).trans hbl⟩
      case measure => simp [intOf]; omega
    · obtain rfl : k = xs.length := by omega
      go_wp2_with fail
      go_ret
      refine ⟨_, rfl, ?_, HB.out⟩
      have := slc_of_owns HO.out
      rwa [List.take_length] at this

theorem all_get {xs : List Nat} {p : Nat → Bool} : xs.all p = true ↔ ∀ i, i < xs.length → p (xs.getD i 0) = true := by
  rw [List.all_eq_true]
  constructor
  · intro h i hi
    have : xs.getD i 0 = xs[i] := by simp [hi]
    rw [this]; exact h _ (List.getElem_mem hi)
  · intro h y hy
    obtain ⟨i, hi, rfl⟩ := List.mem_iff_getElem.1 hy
    have : xs.getD i 0 = xs[i] := by simp [hi]
    rw [← this]; exact h i hi
theorem all_no {xs : List Nat} {p : Nat → Bool} {i : Nat} (hi : i < xs.length) (h : p (xs.getD i 0) = false) : xs.all p = false := by
  cases hb : xs.all p
  · rfl
  · have := all_get.1 hb i hi
    rw [h] at this; cases this

theorem run_neg0 {P : Program} (w : World) : (Op.unary UnOp.neg (.float .f32 0)).run P w = .ok (.float .f32 2147483648) w := by
  first | rfl | (simp [Op.unary]; done) | (simp [Op.unary]; rfl)

set_option maxHeartbeats 2000000 in
theorem areAtLeast_any (v : Value) (xs : List Nat) (w : World) (h : RdF w v xs) :
    Calls Try.prog 166 #[v, .float .f32 0] w fun e w' => e = .returned (.bool (xs.all geB)) ∧ w = w' := by
  obtain ⟨a, c, rfl⟩ := h.shape
  have hm := h.len
  simp only [maxLen] at hm
  have HS := Lib.hid h
  clear h
  go_enter Try.func166, Try.ntmps166
  go_wp2_with fail
  go_loop [9] (fun i => ∃ k : Nat, i = .int .i64 k ∧ k ≤ xs.length ∧ Hid (∀ j, j < k → geB (xs.getD j 0) = true)) (fun i => xs.length - (intOf i).toNat)
  case atStart => exact ⟨0, rfl, Nat.zero_le _, fun j hj => by omega⟩
  case round =>
    obtain ⟨k, rfl, hk, hall⟩ := hrel
    by_cases hlt : k < xs.length
    · obtain ⟨b, off, rfl, hb, hc⟩ := HS.out.at hlt
      obtain ⟨y, hy⟩ : ∃ y, y = xs.getD k 0 := ⟨_, rfl⟩
      rw [← hy] at hc
      have HY := Lib.hid hy
      clear hy
      have hneg := fun (W : World) => run_neg0 (P := Try.prog) W
      cases hq : (FloatKind.f32.format.order y 0 == some .lt)
      · have hq' : (FloatKind.f32.format.order y 2147483648 == some .lt) = false := by rw [order_negz]; exact hq
        have HQ := Lib.hid hq
        clear hq
        go_wp2_with fail
        go_round
        case rel =>
          refine ⟨k + 1, by go_num, by omega, fun j hj => ?_⟩
          by_cases hjk : j < k
          · exact hall.out j hjk
          · obtain rfl : j = k := by omega
            rw [← HY.out]; unfold geB; rw [HQ.out]; rfl
        case measure => simp [intOf]; omega
      · have hq' : (FloatKind.f32.format.order y 2147483648 == some .lt) = true := by rw [order_negz]; exact hq
        have HQ := Lib.hid hq
        clear hq
        go_wp2_with fail
        go_ret
        exact ⟨by rw [all_no hlt (by rw [← HY.out]; unfold geB; rw [HQ.out]; rfl)]; rfl, rfl⟩
    · obtain rfl : k = xs.length := by omega
      go_wp2_with fail
      go_ret
      exact ⟨by rw [all_get.2 hall.out]; rfl, rfl⟩

theorem implLeft_b (q : Bool) (L : List Nat) (v : Value) (r : RowsD) (u : Value) (x : List Nat) (w : World) (h : RdR w v r) (hu : RdF w u x) (hq : leftOk r x = q) (hL : leftR r x = L) :
    Calls Try.prog 165 #[v, u] w (ListPost q L w.heap.size w) := by
  have := implLeft_any v r u x w h hu
  rwa [hq, hL] at this
theorem specLeft_b (q : Bool) (L : List Nat) (v : Value) (r : RowsD) (u : Value) (x : List Nat) (w : World) (h : RdR w v r) (hu : RdF w u x) (hq : leftOk r x = q) (hL : leftR r x = L) :
    Calls Try.prog 158 #[v, u] w (ListPost q L w.heap.size w) := by
  have := specLeft_any v r u x w h hu
  rwa [hq, hL] at this

set_option maxHeartbeats 4000000 in
set_option maxRecDepth 4000 in
theorem isWhole_any (v : Value) (r : RowsD) (u : Value) (xs : List Int) (w : World) (h : RdR w v r) (hu : RdI w u xs) (hb : xs.length ≤ 1048576) :
    Calls Try.prog 107 #[v, u] w fun e w' => e = .returned (.bool (wholeB r xs)) ∧ Below w.heap.size w w' := by
  obtain ⟨a1, c1, a2, c2, a3, c3, rfl⟩ := h.shape
  obtain ⟨a, c, rfl⟩ := hu.shape
  have HP := Lib.hid h
  have HU := Lib.hid hu
  obtain ⟨q, hq⟩ : ∃ q, leftOk r (xs.map fI) = q := ⟨_, rfl⟩
  obtain ⟨L, hL⟩ : ∃ L, leftR r (xs.map fI) = L := ⟨_, rfl⟩
  have HQ := Lib.hid hq
  have HL := Lib.hid hL
  have HW := Lib.hid (show wholeB r xs = (q && L.all geB) by unfold wholeB; rw [hq, hL])
  clear h hu hq hL
  go_enter Try.func107, Try.ntmps107
  go_wp2_with fail
  refine wp_at fun W hW => ?_
  have HB := Lib.hid (show Below w.heap.size w W by subst hW; (repeat' first | exact Below.refl _ _ | assumption | refine Below.alloc ?_ ?_ _ | refine Below.setCell ?_ ?_ _ | refine Below.drew ?_ | (simp; done) | (simp; omega)))
  have HK := Lib.hid (show Blk W w.heap.size 26 #[.int .i64 r.vars, .slice a1 r.nums.length c1, .slice a2 r.bnds.length c2, .slice a3 r.gains.length c3] by subst hW; exact Blk.new _ _ _)
  have d0 : W.cell? ⟨w.heap.size, 0, none⟩ = some (.int .i64 r.vars) := HK.out.cell 0 rfl
  have d1 : W.cell? ⟨w.heap.size, 1, none⟩ = some (.slice a1 r.nums.length c1) := HK.out.cell 1 rfl
  have d2 : W.cell? ⟨w.heap.size, 2, none⟩ = some (.slice a2 r.bnds.length c2) := HK.out.cell 2 rfl
  have d3 : W.cell? ⟨w.heap.size, 3, none⟩ = some (.slice a3 r.gains.length c3) := HK.out.cell 3 rfl
  clear hW
  go_region_held3 (fun X => X.cell? ⟨w.heap.size, 0, none⟩ = some (.int .i64 r.vars) ∧ X.cell? ⟨w.heap.size, 1, none⟩ = some (.slice a1 r.nums.length c1) ∧ X.cell? ⟨w.heap.size, 2, none⟩ = some (.slice a2 r.bnds.length c2) ∧ X.cell? ⟨w.heap.size, 3, none⟩ = some (.slice a3 r.gains.length c3) ∧ Below W.heap.size W X)
    (first | exact ⟨held_of hbn d0 (Nat.le_refl _), held_of hbn d1 (Nat.le_refl _), held_of hbn d2 (Nat.le_refl _), held_of hbn d3 (Nat.le_refl _), hbn⟩ | exact ⟨d0, d1, d2, d3, (Below.refl _ _).drew⟩)
    (first
      | (go_at_call 102; have hh := (‹_ ∧ _ ∧ _ ∧ _ ∧ Below W.heap.size W _›).2.2.2.2; refine (asNumbers_any _ xs _ (HU.out.up (HB.out.trans (hh.mono HB.out.size)) (Nat.le_refl _)) hb).mono ?_; rintro e w1 ⟨nu, rfl, hnu, hb1⟩; have hbn := hh.trans (hb1.mono hh.size))
      | (go_at_call 165; have hh := (‹_ ∧ _ ∧ _ ∧ _ ∧ Below W.heap.size W _›).2.2.2.2; refine (implLeft_b q L _ r _ (xs.map fI) _ (HP.out.up (HB.out.trans (hh.mono HB.out.size)) (Nat.le_refl _)) hnu HQ.out HL.out).mono ?_; rintro e w2 ⟨lv, rfl, hlv, hb2⟩; have hbn := hh.trans (hb2.mono hh.size))
      | fail)
  have HB2 := Lib.hid (HB.out.trans (hbn.mono HB.out.size))
  obtain ⟨la, lc, rfl⟩ := hlv.shape
  have HLV := Lib.hid hlv
  clear hlv hbn hb2 hb1 hnu hh d0 d1 d2 d3
  cases q
  · go_wp2_with fail
    go_ret
    exact ⟨by rw [HW.out]; rfl, HB2.out⟩
  · go_wp2_with fail
    refine (areAtLeast_any _ L _ HLV.out).mono ?_
    rintro e w3 ⟨rfl, rfl⟩
    obtain ⟨p, hp⟩ : ∃ p, p = L.all geB := ⟨_, rfl⟩
    rw [← hp]
    have HPP := Lib.hid hp
    clear hp
    go_wp2_with fail
    go_ret
    exact ⟨by rw [HW.out, ← HPP.out]; rfl, HB2.out⟩

end Go.Proofs.Ytkmbkjbammpdhaa

namespace Go.Proofs.Ytkmbkjbammpdhaa
open Go.RowKit

noncomputable def wokB (r : RowsD) (xs : List Int) (top : Int) : Bool := ((xs.length : Int) == r.vars) && (allB xs.length (fun i => inB 0 top (xs.getD i 0)) && wholeB r xs)

set_option maxHeartbeats 4000000 in
set_option maxRecDepth 4000 in
theorem l07Whole_any (bb : Nat) (v0 v1 v2 v3 : Value) (r : RowsD) (u : Value) (xs : List Int) (top : Int) (w : World) (hk : Blk w bb 26 #[v0, v1, v2, v3]) (h : RdR w (.agg #[v0, v1, v2, v3]) r) (hu : RdI w u xs) (hv8 : r.vars ≤ 8) :
    Calls Try.prog 95 #[.pointer (some ⟨bb, 0, none⟩), u, .int .i64 top] w fun e w' => e = .returned (.bool (wokB r xs top)) ∧ Below w.heap.size w w' := by
  obtain ⟨a1, c1, a2, c2, a3, c3, e⟩ := h.shape
  simp only [Value.agg.injEq, Array.mk.injEq, List.cons.injEq, and_true] at e
  obtain ⟨rfl, rfl, rfl, rfl⟩ := e
  obtain ⟨a, c, rfl⟩ := hu.shape
  have l1 := hu.len
  unfold maxLen at l1
  have HP := Lib.hid h
  have HU := Lib.hid hu
  have HK := Lib.hid hk
  have d0 : w.cell? ⟨bb, 0, none⟩ = some (.int .i64 r.vars) := hk.cell 0 rfl
  have d1 : w.cell? ⟨bb, 1, none⟩ = some (.slice a1 r.nums.length c1) := hk.cell 1 rfl
  have d2 : w.cell? ⟨bb, 2, none⟩ = some (.slice a2 r.bnds.length c2) := hk.cell 2 rfl
  have d3 : w.cell? ⟨bb, 3, none⟩ = some (.slice a3 r.gains.length c3) := hk.cell 3 rfl
  obtain ⟨q, hq⟩ : ∃ q, leftOk r (xs.map fI) = q := ⟨_, rfl⟩
  obtain ⟨L, hL⟩ : ∃ L, leftR r (xs.map fI) = L := ⟨_, rfl⟩
  have HQ := Lib.hid hq
  have HL := Lib.hid hL
  have HW := Lib.hid (show wholeB r xs = (q && L.all geB) by unfold wholeB; rw [hq, hL])
  clear h hu hk hq hL
  by_cases hlen : (xs.length : Int) = r.vars
  case neg =>
    have hne : ((xs.length : Int) != r.vars) = true := by simpa using hlen
    have HNO := Lib.hid (show wokB r xs top = false by unfold wokB; rw [show ((xs.length : Int) == r.vars) = false by simpa using hlen]; rfl)
    clear hlen
    go_enter Try.func95, Try.ntmps95
    go_wp2_with fail
    go_ret
    exact ⟨by rw [HNO.out]; rfl, Below.refl _ _⟩
  have hne : ((xs.length : Int) != r.vars) = false := by simpa using hlen
  have HLE := Lib.hid (show ((xs.length : Int) == r.vars) = true by simpa using hlen)
  have hx8 : xs.length ≤ 8 := by omega
  clear hlen
  go_enter Try.func95, Try.ntmps95
  go_wp2_with fail
  go_loop [20] (fun i => ∃ k : Nat, i = .int .i64 k ∧ k ≤ xs.length ∧ Hid (∀ j, j < k → inB 0 top (xs.getD j 0) = true)) (fun i => xs.length - (intOf i).toNat)
  case atStart => exact ⟨0, rfl, Nat.zero_le _, fun j hj => by omega⟩
  case round =>
    obtain ⟨k, rfl, hk, hall⟩ := hrel
    by_cases hlt : k < xs.length
    · obtain ⟨b, off, rfl, hb, hc⟩ := HU.out.at hlt
      obtain ⟨y, hy⟩ : ∃ y, y = xs.getD k 0 := ⟨_, rfl⟩
      rw [← hy] at hc
      have HY := Lib.hid hy
      clear hy
      cases hin : inB 0 top y
      · have HI := Lib.hid hin
        have HNO := Lib.hid (show wokB r xs top = false by unfold wokB; rw [allB_false hlt (by rw [← HY.out]; exact hin), Bool.false_and, Bool.and_false])
        clear hin
        go_wp2_with (go_at_call 135; refine (in_any _ _ _ _).mono ?_; rintro e w' ⟨rfl, rfl⟩; rw [HI.out])
        go_ret
        exact ⟨by rw [HNO.out]; rfl, Below.refl _ _⟩
      · have HI := Lib.hid hin
        clear hin
        go_wp2_with (go_at_call 135; refine (in_any _ _ _ _).mono ?_; rintro e w' ⟨rfl, rfl⟩; rw [HI.out])
        go_round
        case rel =>
          refine ⟨k + 1, by go_num, by omega, fun j hj => ?_⟩
          by_cases hjk : j < k
          · exact hall.out j hjk
          · obtain rfl : j = k := by omega
            rw [← HY.out]; exact HI.out
        case measure => simp [intOf]; omega
    · obtain rfl : k = xs.length := by omega
      have HA := Lib.hid (show wokB r xs top = (q && L.all geB) by unfold wokB; rw [HLE.out, allB_true hall.out, HW.out]; simp)
      go_wp2_with fail
      go_region_held3 (fun X => X.cell? ⟨bb, 0, none⟩ = some (.int .i64 r.vars) ∧ X.cell? ⟨bb, 1, none⟩ = some (.slice a1 r.nums.length c1) ∧ X.cell? ⟨bb, 2, none⟩ = some (.slice a2 r.bnds.length c2) ∧ X.cell? ⟨bb, 3, none⟩ = some (.slice a3 r.gains.length c3) ∧ Below w.heap.size w X)
        (first | exact ⟨held_of hbn d0 (Nat.le_refl _), held_of hbn d1 (Nat.le_refl _), held_of hbn d2 (Nat.le_refl _), held_of hbn d3 (Nat.le_refl _), hbn⟩ | exact ⟨d0, d1, d2, d3, (Below.refl _ _).drew⟩)
        (first
          | (go_at_call 104; have hh := (‹_ ∧ _ ∧ _ ∧ _ ∧ Below w.heap.size w _›).2.2.2.2; refine (l07Floats_any _ xs _ (HU.out.up hh (Nat.le_refl _)) (by omega)).mono ?_; rintro e w1 ⟨nu, rfl, hnu, hb1⟩; have hbn := hh.trans (hb1.mono hh.size))
          | (go_at_call 158; have hh := (‹_ ∧ _ ∧ _ ∧ _ ∧ Below w.heap.size w _›).2.2.2.2; refine (specLeft_b q L _ r _ (xs.map fI) _ (HP.out.up hh (Nat.le_refl _)) hnu HQ.out HL.out).mono ?_; rintro e w2 ⟨lv, rfl, hlv, hb2⟩; have hbn := hh.trans (hb2.mono hh.size))
          | fail)
      have HB2 := Lib.hid hbn
      obtain ⟨la, lc, rfl⟩ := hlv.shape
      have hll := hlv.len
      unfold maxLen at hll
      have HLV := Lib.hid hlv
      clear hlv hbn hb2 hb1 hnu hh d0 d1 d2 d3
      cases q
      · go_wp2_with fail
        go_ret
        exact ⟨by rw [HA.out]; rfl, HB2.out⟩
      · go_wp2_with fail
        go_loop [44] (fun i => ∃ k : Nat, i = .int .i64 k ∧ k ≤ L.length ∧ Hid (∀ j, j < k → geB (L.getD j 0) = true)) (fun i => L.length - (intOf i).toNat)
        case atStart => exact ⟨0, rfl, Nat.zero_le _, fun j hj => by omega⟩
        case round =>
          obtain ⟨k, rfl, hk, hall⟩ := hrel
          by_cases hlt : k < L.length
          · obtain ⟨b, off, rfl, hb, hc⟩ := HLV.out.at hlt
            obtain ⟨y, hy⟩ : ∃ y, y = L.getD k 0 := ⟨_, rfl⟩
            rw [← hy] at hc
            have HY := Lib.hid hy
            clear hy
            cases hq : (FloatKind.f32.format.order y 0 == some .lt)
            · have HQ := Lib.hid hq
              go_wp2_with fail
              go_round
              case rel =>
                refine ⟨k + 1, by go_num, by omega, fun j hj => ?_⟩
                by_cases hjk : j < k
                · exact hall.out j hjk
                · obtain rfl : j = k := by omega
                  rw [← HY.out]; unfold geB; rw [HQ.out]; rfl
              case measure => simp [intOf]; omega
            · have HQ := Lib.hid hq
              go_wp2_with fail
              go_ret
              exact ⟨by rw [HA.out, all_no hlt (by rw [← HY.out]; unfold geB; rw [HQ.out]; rfl)]; rfl, HB2.out⟩
          · obtain rfl : k = L.length := by omega
            go_wp2_with fail
            go_ret
            exact ⟨by rw [HA.out, all_get.2 hall.out]; rfl, HB2.out⟩

end Go.Proofs.Ytkmbkjbammpdhaa

namespace Go.Proofs.Ytkmbkjbammpdhaa
open Go.RowKit

/-- What is laid after the last ones were made zeros. -/
def zTail (x : List Int) (k : Nat) : List Int := x.take k ++ List.replicate (x.length - k) 0
theorem zTail_full (x : List Int) : zTail x x.length = x := by unfold zTail; simp
theorem zTail_len (x : List Int) (k : Nat) (h : k ≤ x.length) : (zTail x k).length = x.length := by unfold zTail; simp; omega
theorem zTail_at (x : List Int) (k : Nat) (h0 : 0 < k) (h : k ≤ x.length) : (zTail x k)[k - 1]? = some (x.getD (k - 1) 0) := by
  unfold zTail
  rw [List.getElem?_append_left (by simp; omega), List.getElem?_take_of_lt (by omega)]
  simp [show k - 1 < x.length by omega]
theorem zTail_set (x : List Int) (k : Nat) (y : Int) (h0 : 0 < k) (h : k ≤ x.length) : (zTail x k).set (k - 1) y = x.take (k - 1) ++ y :: List.replicate (x.length - k) 0 := by
  unfold zTail
  have e : x.take k = x.take (k - 1) ++ [x.getD (k - 1) 0] := by
    rw [show k = k - 1 + 1 by omega, List.take_succ_eq_append_getElem (by omega)]
    simp [show k - 1 < x.length by omega]
  rw [e, List.append_assoc, List.singleton_append]
  exact set_mid _ _ _ _ _ (by simp; omega)
theorem zTail_zero (x : List Int) (k : Nat) (h0 : 0 < k) (h : k ≤ x.length) : (zTail x k).set (k - 1) 0 = zTail x (k - 1) := by
  rw [zTail_set x k 0 h0 h]
  unfold zTail
  rw [show x.length - (k - 1) = (x.length - k) + 1 by omega, List.replicate_succ]

set_option maxHeartbeats 2000000 in
theorem l07Next_any (base g cap : Nat) (x : List Int) (n : Nat) (top : Int) (w : World) (hn : x.length = n) (h8 : n ≤ 8) (ht : top ≤ 5) (hx : ∀ i, i < n → 0 ≤ x.getD i 0) (h : w.ownsRow base 2 1 (.slice (some ⟨g, 0, none⟩) n cap) n (x.map I64)) :
    Calls Try.prog 94 #[.slice (some ⟨g, 0, none⟩) n cap, .int .i64 top] w fun e w' => e = .returned (.bool (nextL top x).1) ∧ w'.ownsRow base 2 1 (.slice (some ⟨g, 0, none⟩) n cap) n ((nextL top x).2.map I64) ∧ Kept (· = g) w w' := by
  have HO := Lib.hid h
  have HX := Lib.hid hx
  have HN := Lib.hid hn
  clear h hx hn
  go_enter Try.func94, Try.ntmps94
  go_wp2_with fail
  go_loopw [5] (fun i wr => ∃ k : Nat, k ≤ n ∧ i = .int .i64 ((k : Int) - 1) ∧ Hid (nextL top (x.drop k) = (false, List.replicate (n - k) 0)) ∧ Hid (wr.ownsRow base 2 1 (.slice (some ⟨g, 0, none⟩) n cap) n ((zTail x k).map I64)) ∧ Hid (Kept (· = g) w wr)) (fun i _ => (intOf i + 1).toNat)
  case atStart =>
    refine ⟨n, Nat.le_refl _, rfl, ?_, ?_, Kept.refl _ _⟩
    · have := HN.out
      subst this
      show nextL top (x.drop x.length) = _
      simp [nextL]
    · have := HN.out
      subst this
      rw [zTail_full]
      exact HO.out
  case round =>
    obtain ⟨k, hk, rfl, hnx, HO1, HK1⟩ := hrel
    by_cases h0 : 0 < k
    · have hd := HO1.out.cellAt (k - 1) (by omega)
      have hf := HO1.out.frozenAt (k - 1)
      have hx0 := HX.out (k - 1) (by omega)
      rw [List.getElem?_map, zTail_at x k h0 (by rw [HN.out]; exact hk)] at hd
      simp only [Option.map_some, I64] at hd
      have hjm : (k : Int) - 1 < n := by omega
      have hjm0 : (0 : Int) ≤ (k : Int) - 1 := by omega
      have hjt : ((k : Int) - 1).toNat = k - 1 := by omega
      have hhit := Lib.hid (show x.getD (k - 1) 0 < top → nextL top x = (true, x.take (k - 1) ++ (x.getD (k - 1) 0 + 1) :: List.replicate (n - k) 0) from fun hlt => by
        have := next_hit top x (k - 1) (by rw [HN.out]; omega) (by rw [show k - 1 + 1 = k by omega, HN.out]; exact hnx.out) hlt
        rwa [show k - 1 + 1 = k by omega, HN.out] at this)
      have hmiss := Lib.hid (show ¬ x.getD (k - 1) 0 < top → nextL top (x.drop (k - 1)) = (false, List.replicate (n - (k - 1)) 0) from fun hlt => by
        have := next_miss top x (k - 1) (by rw [HN.out]; omega) (by rw [show k - 1 + 1 = k by omega, HN.out]; exact hnx.out) hlt
        rwa [HN.out] at this)
      have hs1 := Lib.hid (zTail_set x k (x.getD (k - 1) 0 + 1) h0 (by rw [HN.out]; exact hk))
      have hs0 := Lib.hid (zTail_zero x k h0 (by rw [HN.out]; exact hk))
      obtain ⟨y, hy⟩ : ∃ y, y = x.getD (k - 1) 0 := ⟨_, rfl⟩
      rw [← hy] at hd hx0 hhit hmiss hs1
      have hst1 := Lib.hid (HO1.out.stored (k - 1) (.int .i64 (y + 1))).1
      have hst0 := Lib.hid (HO1.out.stored (k - 1) (.int .i64 0)).1
      clear hy
      by_cases hlt : y < top
      · have HH := Lib.hid (hhit.out hlt)
        go_wp2_with fail
        go_ret
        refine ⟨by rw [HH.out]; rfl, ?_, HK1.out.setCell (.inr rfl) _⟩
        have h1 := hst1.out
        rw [show (Value.int .i64 (y + 1)) = I64 (y + 1) from rfl, ← List.map_set, hs1.out, HN.out] at h1
        rw [HH.out]
        exact h1
      · have HH := Lib.hid (hmiss.out hlt)
        go_wp2_with fail
        clear hjt
        go_roundw
        case rel =>
          refine ⟨k - 1, by omega, congrArg (Value.int IntKind.i64) (by omega), HH.out, ?_, HK1.out.setCell (.inr rfl) _⟩
          have h1 := hst0.out
          rw [show (Value.int .i64 0) = I64 0 from rfl, ← List.map_set, hs0.out] at h1
          exact h1
        case measure => simp [intOf]; omega
    · obtain rfl : k = 0 := by omega
      have HH := Lib.hid (show nextL top x = (false, List.replicate n 0) from hnx.out)
      go_wp2_with fail
      go_ret
      refine ⟨by rw [HH.out]; rfl, ?_, HK1.out⟩
      have h1 := HO1.out
      rw [HH.out]
      unfold zTail at h1
      rw [HN.out] at h1
      exact h1

noncomputable def topB (r : RowsD) (top : Int) : Bool := (validR r && decide (r.vars ≤ 4)) && inB 1 5 top

set_option maxHeartbeats 2000000 in
theorem isTop_any (v : Value) (r : RowsD) (top : Int) (w : World) (h : RdR w v r) :
    Calls Try.prog 96 #[v, .int .i64 top] w fun e w' => e = .returned (.bool (topB r top)) ∧ Below w.heap.size w w' := by
  obtain ⟨a1, c1, a2, c2, a3, c3, rfl⟩ := h.shape
  have HP := Lib.hid h
  obtain ⟨n0, x1, x2, x3⟩ := r
  simp only at HP ⊢
  clear h
  go_enter Try.func96, Try.ntmps96
  go_wp2_with fail
  refine Calls.at fun W hW => ?_
  have hb := Lib.hid (show Below w.heap.size w W by subst hW; (repeat' first | exact Below.refl _ _ | assumption | refine Below.alloc ?_ ?_ _ | refine Below.setCell ?_ ?_ _ | refine Below.drew ?_ | (simp; done) | (simp; omega)))
  have hk := Lib.hid (show Blk W w.heap.size 26 #[.int .i64 n0, .slice a1 x1.length c1, .slice a2 x2.length c2, .slice a3 x3.length c3] by subst hW; exact Blk.new _ _ _)
  clear hW
  refine (ValidRows_any _ ⟨n0, x1, x2, x3⟩ W (HP.out.up hb.out (Nat.le_refl _))).mono ?_
  rintro e w1 ⟨rfl, hb1⟩
  have HB1 := Lib.hid (hb.out.trans (hb1.mono hb.out.size))
  have HK1 := Lib.hid (hk.out.below hb1 hk.out.lt)
  have d0 : w1.cell? ⟨w.heap.size, 0, none⟩ = some (.int .i64 n0) := HK1.out.cell 0 rfl
  clear hb1 hb hk
  obtain ⟨q, hq⟩ : ∃ q, q = validR ⟨n0, x1, x2, x3⟩ := ⟨_, rfl⟩
  rw [← hq]
  have HQ := Lib.hid hq
  clear hq
  cases q
  · have HN := Lib.hid (show topB ⟨n0, x1, x2, x3⟩ top = false by unfold topB; rw [← HQ.out]; rfl)
    go_wp2_with fail
    go_ret
    exact ⟨by rw [HN.out]; rfl, HB1.out⟩
  · by_cases h4 : n0 ≤ 4
    · have HN := Lib.hid (show topB ⟨n0, x1, x2, x3⟩ top = inB 1 5 top by unfold topB; rw [← HQ.out]; simp [h4])
      go_wp2_with (go_at_call 109; refine (within_any _ _ _ _).mono ?_; rintro e w' ⟨rfl, rfl⟩)
      go_ret
      exact ⟨by rw [HN.out]; rfl, HB1.out⟩
    · have HN := Lib.hid (show topB ⟨n0, x1, x2, x3⟩ top = false by unfold topB; simp [h4])
      go_wp2_with fail
      go_ret
      exact ⟨by rw [HN.out]; rfl, HB1.out⟩

set_option maxHeartbeats 2000000 in
theorem l07Rows_any (bb : Nat) (v0 v1 v2 v3 : Value) (r : RowsD) (top : Int) (w : World) (hk : Blk w bb 26 #[v0, v1, v2, v3]) (h : RdR w (.agg #[v0, v1, v2, v3]) r) :
    Calls Try.prog 93 #[.pointer (some ⟨bb, 0, none⟩), .int .i64 top] w fun e w' => e = .returned (.bool (topB r top)) ∧ ∃ m, w' = w.drewN m := by
  obtain ⟨a1, c1, a2, c2, a3, c3, e⟩ := h.shape
  simp only [Value.agg.injEq, Array.mk.injEq, List.cons.injEq, and_true] at e
  obtain ⟨rfl, rfl, rfl, rfl⟩ := e
  have HV := Lib.hid (l02Is_any bb _ _ _ _ r w hk h)
  have d0 : w.cell? ⟨bb, 0, none⟩ = some (.int .i64 r.vars) := hk.cell 0 rfl
  obtain ⟨n0, x1, x2, x3⟩ := r
  simp only at HV d0 ⊢
  clear h hk
  obtain ⟨q, hq⟩ : ∃ q, q = validR ⟨n0, x1, x2, x3⟩ := ⟨_, rfl⟩
  rw [← hq] at HV
  have HQ := Lib.hid hq
  clear hq
  cases q
  · have HN := Lib.hid (show topB ⟨n0, x1, x2, x3⟩ top = false by unfold topB; rw [← HQ.out]; rfl)
    go_enter Try.func93, Try.ntmps93
    go_wp2_with fail
    refine HV.out.mono ?_
    rintro e w1 ⟨rfl, m1, rfl⟩
    go_wp2_with fail
    go_ret
    exact ⟨by rw [HN.out]; rfl, _, rfl⟩
  · by_cases h4 : n0 ≤ 4
    · have HN := Lib.hid (show topB ⟨n0, x1, x2, x3⟩ top = inB 1 5 top by unfold topB; rw [← HQ.out]; simp [h4])
      go_enter Try.func93, Try.ntmps93
      go_wp2_with fail
      refine HV.out.mono ?_
      rintro e w1 ⟨rfl, m1, rfl⟩
      go_wp2_with (go_at_call 135; refine (in_any _ _ _ _).mono ?_; rintro e w' ⟨rfl, rfl⟩)
      go_ret
      exact ⟨by rw [HN.out]; rfl, _, rfl⟩
    · have HN := Lib.hid (show topB ⟨n0, x1, x2, x3⟩ top = false by unfold topB; simp [h4])
      go_enter Try.func93, Try.ntmps93
      go_wp2_with fail
      refine HV.out.mono ?_
      rintro e w1 ⟨rfl, m1, rfl⟩
      go_wp2_with fail
      go_ret
      exact ⟨by rw [HN.out]; rfl, _, rfl⟩

theorem topB_parts {r : RowsD} {top : Int} (h : topB r top = true) : ValR r ∧ r.vars ≤ 4 ∧ 1 ≤ top ∧ top ≤ 5 := by
  unfold topB at h
  simp only [Bool.and_eq_true, decide_eq_true_eq] at h
  exact ⟨validR_iff.1 h.1.1, h.1.2, (inB_iff.1 h.2).1, (inB_iff.1 h.2).2⟩

end Go.Proofs.Ytkmbkjbammpdhaa

namespace Go.Proofs.Ytkmbkjbammpdhaa
open Go.RowKit

theorem isWhole_b (q : Bool) (v : Value) (r : RowsD) (u : Value) (xs : List Int) (w : World) (h : RdR w v r) (hu : RdI w u xs) (hb : xs.length ≤ 1048576) (hq : wholeB r xs = q) :
    Calls Try.prog 107 #[v, u] w fun e w' => e = .returned (.bool q) ∧ Below w.heap.size w w' := by
  have := isWhole_any v r u xs w h hu hb
  rwa [hq] at this

set_option maxHeartbeats 1000000 in
set_option maxRecDepth 4000 in
theorem eachWhole_any (r : RowsD) (v : Value) (top V : Nat) (hV : r.vars = (V : Int)) (hV4 : V ≤ 4) (ht : top ≤ 5) (g : FuncId) (hent : ∀ (args : Array Value) (w : World), (callFunc g args).run Try.prog w = .ok (.enter g args) w) (caps : Array Value) (B0 : Nat) (S : Nat → Prop) (hS : ∀ b, S b → b < B0) (I : List (List Int) → World → Prop) (w0 : World)
    (hR : ∀ X, Kept S w0 X → RdR X v r)
    (hI : ∀ done w w', I done w → Below w.heap.size w w' → I done w')
    (hT : ∀ done (s : List Int) (a : Option Addr) (cap m : Nat) (w : World), s.length = m → m = V → w.ownsRow B0 2 1 (.slice a m cap) m (s.map I64) → done.length ≤ 16777216 → Kept S w0 w → I done w →
      Calls Try.prog g (#[.slice a m cap] ++ caps) w fun e w' => e = .returned (.tuple #[]) ∧ I (done ++ [s]) w' ∧ Kept S w w')
    (f : Nat) : ∀ (a : Option Addr) (cap : Nat) (now : List Int) (w : World) (done : List (List Int)) (m : Nat), now.length = m →
    now.length + f = V → B0 ≤ w.heap.size → w.ownsRow B0 2 1 (.slice a m cap) m (now.map I64) → Kept S w0 w → I done w → done.length + (wSols r top f now).length ≤ 16777216 →
    Calls Try.prog 97 #[v, .int .i64 top, .slice a m cap, .func (.func g) #[] caps] w fun e w' =>
      e = .returned (.tuple #[]) ∧ I (done ++ wSols r top f now) w' ∧ Kept S w w' := by
  induction f with
  | zero =>
    intro a cap now w done m hm hlen hB hs hk0 hi hcount
    subst hm
    obtain rfl : now.length = V := hlen
    obtain ⟨a1, c1, a2, c2, a3, c3, hvs⟩ := (hR w hk0).shape
    have HR := Lib.hid (hR w hk0)
    have HS := Lib.hid hs
    have HI := Lib.hid hI
    have HII := Lib.hid hi
    have HK0 := Lib.hid hk0
    have HT := Lib.hid hT
    have hqb : ((now.length : Int) == r.vars) = true := by rw [hV]; simp
    have hcnt : done.length ≤ 16777216 := by omega
    obtain ⟨q, hq⟩ : ∃ q, wholeB r now = q := ⟨_, rfl⟩
    have HQ := Lib.hid hq
    have HW := Lib.hid (show wSols r top 0 now = if q = true then [now] else [] by rw [← hq]; rfl)
    subst hvs
    clear hs hT hI hi hR hk0 hq hV
    go_enter Try.func97, Try.ntmps97
    go_wp2_with fail
    refine wp_at fun W hW => ?_
    have HB := Lib.hid (show Below w.heap.size w W by subst hW; (repeat' first | exact Below.refl _ _ | assumption | refine Below.alloc ?_ ?_ _ | refine Below.setCell ?_ ?_ _ | refine Below.drew ?_ | (simp; done) | (simp; omega)))
    have HK := Lib.hid (show Blk W w.heap.size 26 #[.int .i64 r.vars, .slice a1 r.nums.length c1, .slice a2 r.bnds.length c2, .slice a3 r.gains.length c3] by subst hW; exact Blk.new _ _ _)
    have d0 : W.cell? ⟨w.heap.size, 0, none⟩ = some (.int .i64 r.vars) := HK.out.cell 0 rfl
    clear hW
    go_quiet ((go_at_call 105; exact quiet_same (size_any _ _ (by unfold maxLen; omega))))
    have d0 : W.cell? ⟨w.heap.size, 0, none⟩ = some (.int .i64 r.vars) := HK.out.cell 0 rfl
    have d1 : W.cell? ⟨w.heap.size, 1, none⟩ = some (.slice a1 r.nums.length c1) := HK.out.cell 1 rfl
    have d2 : W.cell? ⟨w.heap.size, 2, none⟩ = some (.slice a2 r.bnds.length c2) := HK.out.cell 2 rfl
    have d3 : W.cell? ⟨w.heap.size, 3, none⟩ = some (.slice a3 r.gains.length c3) := HK.out.cell 3 rfl
    have HBn := Lib.hid (below_drewN HB.out nq)
    go_wp2_with fail
    have hR1 : RdI w (.slice a now.length cap) now := slc_of_owns HS.out
    refine (isWhole_b q _ r _ now _ (HR.out.up HBn.out (Nat.le_refl _)) (hR1.up HBn.out (Nat.le_refl _)) (by omega) HQ.out).mono ?_
    rintro e w1 ⟨rfl, hb1⟩
    have HB1 := Lib.hid (HBn.out.trans (hb1.mono HBn.out.size))
    clear hb1 hR1
    cases q
    · go_wp2_with fail
      refine bodyPost_ret (results_none rfl _ _ _) rfl ?_
      exact ⟨rfl, by rw [HW.out]; simpa using HI.out _ _ _ HII.out HB1.out, Kept.of_below HB1.out (Nat.le_refl _)⟩
    · have HTT := Lib.hid (HT.out done now a cap now.length w1 rfl rfl (owns_below HS.out HB1.out (Nat.le_refl _)) hcnt (HK0.out.below HB1.out HK0.out.size) (HI.out _ _ _ HII.out HB1.out))
      go_wp2_with fail
      refine HTT.out.mono ?_
      rintro e w2 ⟨rfl, hi1, hk1⟩
      have HI1 := Lib.hid hi1
      have HK1 := Lib.hid hk1
      clear hi1 hk1 HTT
      go_wp2_with fail
      refine bodyPost_ret (results_none rfl _ _ _) rfl ?_
      exact ⟨rfl, by rw [HW.out]; exact HI1.out, (Kept.of_below HB1.out (Nat.le_refl _)).trans HK1.out⟩
  | succ f ih =>
    intro a cap now w done m hm hlen hB hs hk0 hi hcount
    subst hm
    obtain ⟨a1, c1, a2, c2, a3, c3, hvs⟩ := (hR w hk0).shape
    have hnl : ((now.length : Int) == r.vars) = false := by rw [hV]; simp; omega
    have hnl4 : now.length ≤ 4 := by omega
    have HS := Lib.hid hs
    have HII := Lib.hid hi
    have HC := Lib.hid hcount
    have HK0 := Lib.hid hk0
    have HI := Lib.hid hI
    have HIH := Lib.hid ih
    have HL := Lib.hid hlen
    have HSS := Lib.hid hS
    subst hvs
    clear hs hT hI ih hlen hi hcount hS hR hk0 hV
    go_enter Try.func97, Try.ntmps97
    go_wp2_with fail
    refine wp_at fun W hW => ?_
    have HB := Lib.hid (show Below w.heap.size w W by subst hW; (repeat' first | exact Below.refl _ _ | assumption | refine Below.alloc ?_ ?_ _ | refine Below.setCell ?_ ?_ _ | refine Below.drew ?_ | (simp; done) | (simp; omega)))
    have HK := Lib.hid (show Blk W w.heap.size 26 #[.int .i64 r.vars, .slice a1 r.nums.length c1, .slice a2 r.bnds.length c2, .slice a3 r.gains.length c3] by subst hW; exact Blk.new _ _ _)
    have d0 : W.cell? ⟨w.heap.size, 0, none⟩ = some (.int .i64 r.vars) := HK.out.cell 0 rfl
    clear hW
    go_quiet ((go_at_call 105; exact quiet_same (size_any _ _ (by unfold maxLen; omega))))
    have HBn := Lib.hid (below_drewN HB.out nq)
    have HKn := Lib.hid (show Blk (W.drewN nq) w.heap.size 26 #[.int .i64 r.vars, .slice a1 r.nums.length c1, .slice a2 r.bnds.length c2, .slice a3 r.gains.length c3] from HK.out)
    go_wp2_with fail
    go_loopw [8] (fun c wr => ∃ k : Nat, c = .int .i64 k ∧ k ≤ top + 1 ∧ Hid (I (done ++ wPart r top f now k) wr) ∧ Hid (Kept S (W.drewN nq) wr)) (fun c _ => top + 1 - (intOf c).toNat)
    case atStart => exact ⟨0, rfl, Nat.zero_le _, Lib.hid (by simpa [wPart] using HI.out _ _ _ HII.out HBn.out), Kept.refl _ _⟩
    case round =>
      obtain ⟨k, rfl, hk, HI1, HK1⟩ := hrel
      have hWl := HKn.out.lt
      have HKw := Lib.hid ((Kept.of_below HBn.out (Nat.le_refl _) : Kept S w (W.drewN nq)).trans HK1.out)
      have HS1 := Lib.hid (owns_kept HS.out HKw.out (fun b hb => by have := (owns_lt HS.out hb).1; intro hs; have := HSS.out b hs; omega))
      have HKr := Lib.hid (HKn.out.kept HK1.out (by intro hs; have := HSS.out _ hs; omega))
      have hszw := HKw.out.size
      by_cases hlt : k ≤ top
      · have d0 : wr.cell? ⟨w.heap.size, 0, none⟩ = some (.int .i64 r.vars) := HKr.out.cell 0 rfl
        have d1 : wr.cell? ⟨w.heap.size, 1, none⟩ = some (.slice a1 r.nums.length c1) := HKr.out.cell 1 rfl
        have d2 : wr.cell? ⟨w.heap.size, 2, none⟩ = some (.slice a2 r.bnds.length c2) := HKr.out.cell 2 rfl
        have d3 : wr.cell? ⟨w.heap.size, 3, none⟩ = some (.slice a3 r.gains.length c3) := HKr.out.cell 3 rfl
        have hcnt : (done ++ wPart r top f now k).length + (wSols r top f (now ++ [(k : Int)])).length ≤ 16777216 := by
          have h1 := HC.out
          rw [wSols_succ] at h1
          have h2 : (wPart r top f now (k + 1)).length ≤ (wPart r top f now (top + 1)).length := by
            have : ∀ d, (wPart r top f now (k + 1)).length ≤ (wPart r top f now (k + 1 + d)).length := by
              intro d
              induction d with
              | zero => exact Nat.le_refl _
              | succ d ih =>
                have e := wPart_succ r top f now (k + 1 + d)
                show _ ≤ (wPart r top f now (k + 1 + d + 1)).length
                rw [e, List.length_append]; omega
            have := this (top - k)
            rwa [show k + 1 + (top - k) = top + 1 by omega] at this
          rw [wPart_succ, List.length_append] at h2
          rw [List.length_append]; omega
        have HCN := Lib.hid hcnt
        clear hcnt
        have HSLC := Lib.hid (slc_of_owns HS1.out)
        have HKEEP := Lib.hid (show ∀ X, Kept S wr X → X.cell? ⟨w.heap.size, 0, none⟩ = some (.int .i64 r.vars) ∧ X.cell? ⟨w.heap.size, 1, none⟩ = some (.slice a1 r.nums.length c1) ∧ X.cell? ⟨w.heap.size, 2, none⟩ = some (.slice a2 r.bnds.length c2) ∧ X.cell? ⟨w.heap.size, 3, none⟩ = some (.slice a3 r.gains.length c3) ∧ Kept S wr X from fun X hk =>
          have q := HKr.out.kept hk (by intro hs; have := HSS.out _ hs; omega)
          ⟨q.cell 0 rfl, q.cell 1 rfl, q.cell 2 rfl, q.cell 3 rfl, hk⟩)
        go_wp2_with fail
        go_region_held3 (fun X => X.cell? ⟨w.heap.size, 0, none⟩ = some (.int .i64 r.vars) ∧ X.cell? ⟨w.heap.size, 1, none⟩ = some (.slice a1 r.nums.length c1) ∧ X.cell? ⟨w.heap.size, 2, none⟩ = some (.slice a2 r.bnds.length c2) ∧ X.cell? ⟨w.heap.size, 3, none⟩ = some (.slice a3 r.gains.length c3) ∧ Kept S wr X)
          (first | (refine HKEEP.out _ ?_; repeat' first | assumption | exact Kept.refl _ _ | refine Kept.alloc ?_ _ | refine Kept.drew ?_))
          (first
            | (go_at_call 108; have hh := (‹_ ∧ _ ∧ _ ∧ _ ∧ Kept S wr _›).2.2.2.2; refine (copyInts_any a cap now _ (slc_of_owns (owns_kept HS1.out hh (fun b hb hs => by have := (owns_lt HS1.out hb).1; have := HSS.out b hs; omega))) (by omega)).mono ?_; rintro e w1 ⟨g1, cap1, rfl, hown, hbl⟩; have hkc := hh.below hbl hh.size; have hbc : Below wr.heap.size wr w1 := Below.trans (by repeat' first | assumption | exact Below.refl _ _ | refine Below.alloc ?_ (by simp) _ | refine Below.drew ?_) (hbl.mono (by simp)))
            | (refine step_app_own rfl (.tmp 29) (.tmp 31) (by rfl) wr.heap.size ⟨g1, 0, none⟩ now.length cap1 now (by rfl) (by first | exact owns_base hown (by simp) | exact owns_base hown (by have := hh.size; simp at this; omega) | exact owns_base (hown.alloc _) (by simp) | exact owns_base (hown.alloc _) (by have := hh.size; simp at this; omega)) _ [(k : Int)] (by rfl) (by first | exact slc_one _ _ | exact slc_oneB _ _ _ (by simp) | exact slc_drew (slc_oneB _ _ _ (by simp)) | exact (slc_oneB _ _ _ (by simp)).below hbl (Nat.le_refl _) | exact (slc_drew (slc_oneB _ _ _ (by simp))).below hbl (Nat.le_refl _)) (now.length + 1) (now ++ [(k : Int)]) (by simp) (by simp) (by omega) (by have := hkc.size; simp at this ⊢; omega) ?_; intro g2 cap2 w2 hown2 hbl2 hg2; have hba : Below wr.heap.size wr w2 := Below.trans (by first | assumption | exact hbc.alloc hbc.size _) hbl2; have hka : Kept S wr w2 := Kept.of_below hba (Nat.le_refl _))
            | (go_at_call 97; refine (HIH.out (some ⟨g2, 0, none⟩) cap2 (now ++ [(k : Int)]) w2 (done ++ wPart r top f now k) (now.length + 1) (by simp) (by have := HL.out; simp; omega) (by have := hka.size; omega) (owns_base hown2 (by omega)) ((HK0.out.trans HKw.out).trans hka) (HI.out _ _ _ HI1.out hba) HCN.out).mono ?_; rintro e w3 ⟨rfl, hi2, hkp2⟩; have hkz := hka.trans hkp2)
            | fail)
        all_goals
          have HI2 := Lib.hid hi2
          have HKZ := Lib.hid (HK1.out.trans hkz)
          clear hi2 hkz hkp2 hka hba hbc hkc hown2 hbl2 hg2 hown hbl hh
          go_wp2_with fail
          go_roundw
          case rel => exact ⟨k + 1, by go_num, by omega, by rw [wPart_succ, ← List.append_assoc]; exact HI2.out, HKZ.out⟩
          case measure => simp [intOf]; omega
      · obtain rfl : k = top + 1 := by omega
        go_wp2_with fail
        go_end0
        exact ⟨rfl, by rw [wSols_succ]; exact HI1.out, HKw.out⟩

end Go.Proofs.Ytkmbkjbammpdhaa
