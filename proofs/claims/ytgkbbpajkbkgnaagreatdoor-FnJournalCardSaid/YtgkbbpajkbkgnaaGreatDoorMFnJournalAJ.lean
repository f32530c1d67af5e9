/-
  FnJournal: texts joined: Quo, TabM, TabI, PlnI, PrcI.
-/
import Derived.BigQuiet
import Derived.Test.YtgkbbpajkbkgnaaGreatDoorMFnJournalAG
import Derived.Test.YtgkbbpajkbkgnaaGreatDoorMFnJournalAI
set_option linter.unusedVariables false
set_option linter.unusedSimpArgs false
namespace Go.Proofs.YtgkbbpajkbkgnaaGreatDoor
open Go.RowKit
def gtF (a b : Nat) : Bool := Ieee.single.order a b == some .gt
def divV (x m : Nat) : Nat := (Ieee.single.div x m).getD 0
theorem datum_swap (a b : Ieee.Datum) : a.order b = (b.order a).map Ordering.swap := by
  cases a <;> cases b <;> simp only [Ieee.Datum.order, Option.map_none, Option.map_some]
  · rename_i s m i t n j
    rw [Int.min_comm, ← Std.OrientedCmp.eq_swap]
  · rename_i s _ _ t; cases t <;> rfl
  · rename_i s t _ _; cases s <;> rfl
  · rw [← Std.OrientedCmp.eq_swap]
theorem order_swap (a b : Nat) : Ieee.single.order a b = (Ieee.single.order b a).map Ordering.swap := datum_swap _ _
theorem order_fin {a b : Nat} (ha : fin32 a = true) (hb : fin32 b = true) : ∃ o, Ieee.single.order a b = some o := by
  obtain ⟨s, m, e, h, _⟩ := read32_parts ha
  obtain ⟨s', m', e', h', _⟩ := read32_parts hb
  unfold Ieee.Format.order
  rw [h, h']
  exact ⟨_, rfl⟩
theorem gt_lt {a b : Nat} (h : gtF a b = true) : FloatKind.f32.format.order b a = some .lt := by
  show Ieee.single.order b a = _
  unfold gtF at h
  simp only [beq_iff_eq] at h
  rw [order_swap, h]; rfl
theorem not_gt {a b : Nat} (ha : fin32 a = true) (hb : fin32 b = true) (h : gtF a b = false) : FloatKind.f32.format.order b a = some .gt ∨ FloatKind.f32.format.order b a = some .eq := by
  show Ieee.single.order b a = _ ∨ Ieee.single.order b a = _
  obtain ⟨o, ho⟩ := order_fin hb ha
  rw [ho]
  cases o
  · rw [order_swap] at ho
    unfold gtF at h
    cases hx : Ieee.single.order a b with
    | none => rw [hx] at ho; simp at ho
    | some q => rw [hx] at ho h; cases q <;> simp_all
  · exact .inr rfl
  · exact .inl rfl
theorem not_gt_b {a b : Nat} (h : gtF a b = false) : (FloatKind.f32.format.order a b == some .gt) = false := h
theorem yes_gt_b {a b : Nat} (h : gtF a b = true) : (FloatKind.f32.format.order a b == some .gt) = true := h
theorem fin0 : fin32 0 = true := by decide +kernel
theorem div_some {x m : Nat} (hx : fin32 x = true) (hm : fin32 m = true) (hp : gtF m 0 = true) : Ieee.single.div x m = some (divV x m) := by
  obtain ⟨s, a, e, h, _⟩ := read32_parts hx
  obtain ⟨s', a', e', h', _⟩ := read32_parts hm
  have hn : a' ≠ 0 := by
    intro e0
    subst e0
    unfold gtF Ieee.Format.order at hp
    rw [h', show Ieee.single.read 0 = .number false 0 (-149) by decide +kernel] at hp
    simp [Ieee.Datum.order, Ieee.signed] at hp
  unfold divV Ieee.Format.div
  rw [h, h']
  simp only [Ieee.Datum.quotient, if_neg hn, Option.map_some, Option.getD_some]
theorem run_div_some {P : Program} (t : TypeId) {x y : Nat} (h : Ieee.single.div x y = some (divV x y)) (w : World) :
    (binOp .quo t (.float .f32 x) (.float .f32 y)).run P w = .ok (.float .f32 (divV x y)) w := run_float_arith w .quo t .f32 x y _ h
def valI (x : Nat) : Int := match Ieee.single.read x with
  | .number s m e => Ieee.signed s m (e + 149).toNat
  | _ => 0
theorem valI_of {x m : Nat} {s : Bool} {e : Int} (h : Ieee.single.read x = .number s m e) : valI x = Ieee.signed s m (e + 149).toNat := by unfold valI; rw [h]
theorem signed_eq (s : Bool) (m k : Nat) : Ieee.signed s m k = (if s = true then -1 else 1) * ((m * 2 ^ k : Nat) : Int) := by
  unfold Ieee.signed
  rw [Nat.shiftLeft_eq]
  cases s <;> simp
theorem signed_shift (s : Bool) (m k d : Nat) : Ieee.signed s m (k + d) = Ieee.signed s m k * ((2 ^ d : Nat) : Int) := by
  rw [signed_eq, signed_eq, Nat.pow_add, ← Nat.mul_assoc, Int.natCast_mul, Int.mul_assoc]
theorem cmp_mul (a b : Int) (d : Nat) (h : 0 < d) : compare (a * (d : Int)) (b * (d : Int)) = compare a b := by
  have hd : (0 : Int) < (d : Int) := by omega
  rcases Int.lt_trichotomy a b with h1 | h1 | h1
  · rw [Int.compare_eq_lt.2 h1, Int.compare_eq_lt.2 (Int.mul_lt_mul_of_pos_right h1 hd)]
  · rw [h1]; simp
  · rw [Int.compare_eq_gt.2 h1, Int.compare_eq_gt.2 (Int.mul_lt_mul_of_pos_right h1 hd)]
theorem order_val {x y : Nat} (hx : fin32 x = true) (hy : fin32 y = true) : Ieee.single.order x y = some (compare (valI x) (valI y)) := by
  obtain ⟨s, m, e, h, _, _, h1, _⟩ := read32_parts hx
  obtain ⟨t, n, j, h', _, _, h2, _⟩ := read32_parts hy
  rw [valI_of h, valI_of h']
  unfold Ieee.Format.order
  rw [h, h']
  simp only [Ieee.Datum.order]
  have e1 : (e + 149).toNat = (e - min e j).toNat + (min e j + 149).toNat := by omega
  have e2 : (j + 149).toNat = (j - min e j).toNat + (min e j + 149).toNat := by omega
  rw [e1, e2, signed_shift, signed_shift, cmp_mul _ _ _ (Nat.two_pow_pos _)]
theorem gtF_val {x y : Nat} (hx : fin32 x = true) (hy : fin32 y = true) : gtF x y = decide (valI y < valI x) := by
  unfold gtF
  rw [order_val hx hy]
  rcases Int.lt_trichotomy (valI x) (valI y) with h1 | h1 | h1
  · rw [Int.compare_eq_lt.2 h1, decide_eq_false (by omega)]; rfl
  · rw [h1, decide_eq_false (by omega)]; simp
  · rw [Int.compare_eq_gt.2 h1, decide_eq_true h1]; rfl
end Go.Proofs.YtgkbbpajkbkgnaaGreatDoor

namespace Go.Proofs.YtgkbbpajkbkgnaaGreatDoor
open Go.RowKit
def negF (x : Nat) : Nat := Go.Op.negFloat .f32 x
def ltF (x y : Nat) : Bool := FloatKind.f32.format.order x y == some .lt
def eqF (x y : Nat) : Bool := FloatKind.f32.format.order x y == some .eq
def oneF : Nat := 1065353216
def colsT (t : TabD) : Nat := t.vars + t.basis.length
def lastT (t : TabD) (i : Nat) : Nat := atT t i (colsT t)
def entersAt (t : TabD) (near c : Nat) : Bool := ltF (atT t t.basis.length c) (negF near)
def enterT (t : TabD) (near : Nat) : Int := match (List.range (colsT t)).find? (entersAt t near) with
  | some c => (c : Int)
  | none => -1
theorem find_first {p : Nat → Bool} {n c : Nat} (hc : c < n) (h : p c = true) (h0 : ∀ j, j < c → p j = false) : (List.range n).find? p = some c := by
  rw [List.find?_eq_some_iff_getElem]
  refine ⟨h, c, by simpa using hc, by simp, fun j hj => ?_⟩
  simp [h0 j hj]
theorem find_none {p : Nat → Bool} {n : Nat} (h0 : ∀ j, j < n → p j = false) : (List.range n).find? p = none := by
  rw [List.find?_eq_none]
  intro x hx
  rw [h0 x (List.mem_range.1 hx)]
  simp
theorem enterT_at {t : TabD} {near c : Nat} (hc : c < colsT t) (h : entersAt t near c = true) (h0 : ∀ j, j < c → entersAt t near j = false) : enterT t near = (c : Int) := by
  unfold enterT
  rw [find_first hc h h0]
theorem enterT_none {t : TabD} {near : Nat} (h0 : ∀ j, j < colsT t → entersAt t near j = false) : enterT t near = -1 := by
  unfold enterT
  rw [find_none h0]
theorem enterT_rng (t : TabD) (near : Nat) : enterT t near = -1 ∨ ∃ c : Nat, c < colsT t ∧ enterT t near = (c : Int) := by
  unfold enterT
  cases h : (List.range (colsT t)).find? (entersAt t near) with
  | none => exact .inl rfl
  | some c =>
    have := List.mem_of_find?_eq_some h
    exact .inr ⟨c, List.mem_range.1 this, rfl⟩
def leaveK (t : TabD) (col near : Nat) : Nat → Int × Nat
  | 0 => (-1, 0)
  | i + 1 => if gtF (atT t i col) near = true then
      (if ((decide ((leaveK t col near i).1 < 0) || ltF (divV (lastT t i) (atT t i col)) (leaveK t col near i).2) || (eqF (divV (lastT t i) (atT t i col)) (leaveK t col near i).2 && decide (t.basis.getD i 0 < t.basis.getD (leaveK t col near i).1.toNat 0))) = true then ((i : Int), divV (lastT t i) (atT t i col)) else leaveK t col near i)
    else leaveK t col near i
def leaveT (t : TabD) (col near : Nat) : Int := (leaveK t col near t.basis.length).1
theorem leaveK_rng (t : TabD) (col near : Nat) : ∀ i, (leaveK t col near i).1 = -1 ∨ ∃ r : Nat, r < i ∧ (leaveK t col near i).1 = (r : Int) ∧ gtF (atT t r col) near = true
  | 0 => .inl rfl
  | i + 1 => by
    have ih := leaveK_rng t col near i
    simp only [leaveK]
    split
    · rename_i h
      split
      · exact .inr ⟨i, by omega, rfl, h⟩
      · rcases ih with e | ⟨r, h1, h2⟩
        · exact .inl e
        · exact .inr ⟨r, by omega, h2⟩
    · rcases ih with e | ⟨r, h1, h2⟩
      · exact .inl e
      · exact .inr ⟨r, by omega, h2⟩
def ownV (t : TabD) (row col c : Nat) : Nat := if c = col then oneF else divV (atT t row c) (atT t row col)
def othO (t : TabD) (row col i c : Nat) : Option Nat := if c = col then some 0 else (Ieee.single.mul (atT t i col) (ownV t row col c)).bind fun q => Ieee.single.sub (atT t i c) q
def cellO (t : TabD) (row col i c : Nat) : Option Nat := if i = row then some (ownV t row col c) else othO t row col i c
def pivO (t : TabD) (row col : Nat) : List (Option Nat) := (List.range t.nums.length).map fun x => cellO t row col (x / wdT t) (x % wdT t)
def pivB (t : TabD) (row col : Nat) : List Int := t.basis.set row (col : Int)
def basOk (n : Nat) (l : List Int) : Bool := allB l.length fun i => inB 0 ((n : Int) - 1) (l.getD i 0) && !hasB (l.take i) (l.getD i 0)
def pivOk (t : TabD) (row col : Nat) : Bool := (pivO t row col).all finO && basOk (colsT t) (pivB t row col)
def pivT (t : TabD) (row col : Nat) : TabD := ⟨t.vars, (pivO t row col).map (fun o => o.getD 0), pivB t row col⟩
theorem pivO_len (t : TabD) (row col : Nat) : (pivO t row col).length = t.nums.length := by unfold pivO; simp
theorem pivB_len (t : TabD) (row col : Nat) : (pivB t row col).length = t.basis.length := by unfold pivB; simp
theorem pivT_dim {t : TabD} (h : DimT t) (row col : Nat) : DimT (pivT t row col) := by
  refine ⟨h.v1, h.v8, ?_, ?_, ?_⟩
  · show 1 ≤ (pivB t row col).length; rw [pivB_len]; exact h.b1
  · show (pivB t row col).length ≤ 8; rw [pivB_len]; exact h.b8
  · show ((pivO t row col).map _).length = (t.vars + (pivB t row col).length + 1) * ((pivB t row col).length + 1)
    rw [List.length_map, pivO_len, pivB_len, h.nl]
    rfl
structure GoodT (t : TabD) : Prop where
  dim : DimT t
  fin : allFin t.nums = true
  bas : ∀ i, i < t.basis.length → 0 ≤ t.basis.getD i 0 ∧ t.basis.getD i 0 < (colsT t : Nat)
theorem GoodT.at {t : TabD} (h : GoodT t) {i k : Nat} (hi : i ≤ t.basis.length) (hk : k < wdT t) : fin32 (atT t i k) = true := allFin_get h.fin (h.dim.ix hi hk)
theorem pivT_good {t : TabD} (h : GoodT t) {row col : Nat} (ho : pivOk t row col = true) : GoodT (pivT t row col) := by
  unfold pivOk at ho
  rw [Bool.and_eq_true, List.all_eq_true] at ho
  refine ⟨pivT_dim h.dim row col, ?_, fun i hi => ?_⟩
  · unfold allFin pivT
    rw [List.all_eq_true]
    intro x hx
    rw [List.mem_map] at hx
    obtain ⟨o, ho1, rfl⟩ := hx
    have := ho.1 o ho1
    cases o with
    | none => cases this
    | some v => exact this
  · have h2 := ho.2
    unfold basOk at h2
    rw [allB_iff] at h2
    have h3 := h2 i hi
    rw [Bool.and_eq_true, inB_iff] at h3
    have e : colsT (pivT t row col) = colsT t := by
      show t.vars + (pivB t row col).length = _
      rw [pivB_len]
      rfl
    rw [e]
    have : (pivT t row col).basis = pivB t row col := rfl
    rw [this]
    omega
def solveO (near : Nat) : Nat → TabD → Option TabD
  | 0, t => if enterT t near < 0 then some t else none
  | F + 1, t => if enterT t near < 0 then some t
    else if leaveT t (enterT t near).toNat near < 0 then none
    else if pivOk t (leaveT t (enterT t near).toNat near).toNat (enterT t near).toNat = true then solveO near F (pivT t (leaveT t (enterT t near).toNat near).toNat (enterT t near).toNat) else none
theorem solveO_good {near : Nat} : ∀ (F : Nat) (t t' : TabD), GoodT t → solveO near F t = some t' → GoodT t'
  | 0, t, t', h, e => by
    simp only [solveO] at e
    split at e
    · cases e; exact h
    · cases e
  | F + 1, t, t', h, e => by
    simp only [solveO] at e
    split at e
    · cases e; exact h
    · split at e
      · cases e
      · split at e
        · rename_i h3
          exact solveO_good F _ t' (pivT_good h h3) e
        · cases e
def unitsL (n i : Nat) : List Nat := (List.range n).map fun k => if k = i then oneF else 0
def tabN (r : RowsD) : Nat → List Nat
  | 0 => []
  | i + 1 => tabN r i ++ (rowO r i ++ unitsL r.bnds.length i ++ [r.bnds.getD i 0])
def tabG (r : RowsD) (k : Nat) : List Nat := (r.gains.take k).map negF
def tabB (r : RowsD) (i : Nat) : List Int := (List.range i).map fun k : Nat => r.vars + (k : Int)
def tableT (r : RowsD) : TabD := ⟨r.gains.length, tabN r r.bnds.length ++ tabG r r.gains.length ++ List.replicate (r.bnds.length + 1) 0, tabB r r.bnds.length⟩
def planK (t : TabD) : Nat → List Nat
  | 0 => List.replicate t.vars 0
  | i + 1 => if t.basis.getD i 0 < (t.vars : Int) then (planK t i).set (t.basis.getD i 0).toNat (lastT t i) else planK t i
def planT (t : TabD) : List Nat := planK t t.basis.length
def priceK (t : TabD) (k : Nat) : List Nat := (List.range k).map fun c => atT t t.basis.length (t.vars + c)
def priceT (t : TabD) : List Nat := priceK t t.basis.length
theorem planK_len (t : TabD) : ∀ i, (planK t i).length = t.vars
  | 0 => List.length_replicate
  | i + 1 => by
    simp only [planK]
    split
    · rw [List.length_set, planK_len t i]
    · exact planK_len t i
end Go.Proofs.YtgkbbpajkbkgnaaGreatDoor

namespace Go.Proofs.YtgkbbpajkbkgnaaGreatDoor
open Go.RowKit
@[go_sem] theorem unary_negF (x : Nat) : Op.unary .neg (.float .f32 x) = pure (.float .f32 (negF x)) := rfl
theorem wdT_cols (t : TabD) : wdT t = colsT t + 1 := rfl
set_option maxHeartbeats 1000000 in
theorem tabLast_any (v : Value) (t : TabD) (i : Nat) (w : World) (h : RdTb w v t) (hd : DimT t) (hi : i ≤ t.basis.length) :
    Calls Tryz.prog 320 #[v, .int .i64 i] w fun e w' => e = .returned (.float .f32 (lastT t i)) ∧ Below w.heap.size w w' := by
  have HRT := Lib.hid h
  have h17 := hd.w17
  have hb8 := hd.b8
  obtain ⟨a, c, b, d, rfl⟩ := h.shape
  have HW := Lib.hid (fun X (hb : Below w.heap.size w X) => tabWide_any _ t X (HRT.out.up hb (Nat.le_refl _)) hd)
  have HA := Lib.hid (fun X (hb : Below w.heap.size w X) => tabAt_any _ t i (colsT t) X (HRT.out.up hb (Nat.le_refl _)) hd hi (by rw [wdT_cols]; omega))
  rw [show atT t i (colsT t) = lastT t i from rfl] at HA
  obtain ⟨C, hC⟩ : ∃ C, C = colsT t := ⟨_, rfl⟩
  have hWC : wdT t = C + 1 := by rw [hC]; rfl
  rw [hWC] at HW h17
  rw [← hC] at HA
  have hw1 : IntKind.i64.wrap (((C + 1 : Nat) : Int) - 1) = (C : Int) := by rw [IntWalk.i64_in _ (by omega)]; omega
  obtain ⟨W, hW⟩ : ∃ W : Int, W = ((C + 1 : Nat) : Int) := ⟨_, rfl⟩
  rw [← hW] at hw1 HW
  obtain ⟨x, hx⟩ : ∃ x, x = lastT t i := ⟨_, rfl⟩
  rw [← hx] at HA ⊢
  clear h hd hC hWC hW hx HRT
  go_enter Tryz.func320, Tryz.ntmps320
  go_upto_region 1 with fail
  refine wp_at fun W0 hW0 => ?_
  have HB0 := Lib.hid (show Below w.heap.size w W0 by subst hW0; (repeat' first | exact Below.refl _ _ | assumption | refine Below.alloc ?_ ?_ _ | refine Below.setCell ?_ ?_ _ | refine Below.drew ?_ | (simp; done) | (simp; omega)))
  have HK0 := Lib.hid (show Blk W0 w.heap.size 258 #[.int .i64 t.vars, .slice a t.nums.length c, .slice b t.basis.length d] by subst hW0; exact Blk.new _ _ _)
  clear hW0
  have d0 : W0.cell? ⟨w.heap.size, 0, none⟩ = some (.int .i64 t.vars) := HK0.out.cell 0 rfl
  have d1 : W0.cell? ⟨w.heap.size, 1, none⟩ = some (.slice a t.nums.length c) := HK0.out.cell 1 rfl
  have d2 : W0.cell? ⟨w.heap.size, 2, none⟩ = some (.slice b t.basis.length d) := HK0.out.cell 2 rfl
  have hz0 := HB0.out.size
  refine wp_region_cls (fun X => X.cell? ⟨w.heap.size, 0, none⟩ = some (.int .i64 t.vars) ∧ X.cell? ⟨w.heap.size, 1, none⟩ = some (.slice a t.nums.length c) ∧ X.cell? ⟨w.heap.size, 2, none⟩ = some (.slice b t.basis.length d) ∧ Hid (Below W0.heap.size W0 X)) (by kernel_rfl) (by kernel_rfl) (⟨d0, d1, d2, (Below.refl _ _).drew⟩) ?_
  repeat (first
    | go_big_quiet_skip
    | (go_big_quiet_want
       apply Exists.intro
       refine ⟨fun X hX => ?_, ?_⟩
       · (try dsimp only at hX)
         go_simp
         (first | with_reducible rfl | done | (have hcur := hX.2.2.2; first | (go_at_call 321; refine (HW.out X (HB0.out.trans (hcur.out.mono hz0))).mono ?_; rintro e w2 ⟨rfl, hb2⟩; have hbn := hcur.out.trans (hb2.mono hcur.out.size); exact ⟨rfl, held_of hbn d0 (Nat.le_refl _), held_of hbn d1 (Nat.le_refl _), held_of hbn d2 (Nat.le_refl _), hbn⟩) | (go_at_call 322; refine (HA.out X (HB0.out.trans (hcur.out.mono hz0))).mono ?_; rintro e w2 ⟨rfl, hb2⟩; have hbn := hcur.out.trans (hb2.mono hcur.out.size); exact ⟨rfl, held_of hbn d0 (Nat.le_refl _), held_of hbn d1 (Nat.le_refl _), held_of hbn d2 (Nat.le_refl _), hbn⟩)))
       go_big_quiet_on
       (try simp only [Act.put, List.setIfInBounds_toArray, List.set_cons_zero, List.set_cons_succ])))
  refine wpQuiet_nil ?_
  intro w1 hC
  (try dsimp only at hC)
  go_wp2_with fail
  go_ret
  exact ⟨rfl, HB0.out.trans (hC.2.2.2.out.mono hz0)⟩
set_option maxHeartbeats 2000000 in
set_option maxRecDepth 8000 in
theorem tabEnter_any (v : Value) (t : TabD) (near : Nat) (w : World) (h : RdTb w v t) (hg : GoodT t) :
    Calls Tryz.prog 331 #[v, .float .f32 near] w fun e w' => e = .returned (.int .i64 (enterT t near)) ∧ Below w.heap.size w w' := by
  have hd := hg.dim
  have HRT := Lib.hid h
  have h17 := hd.w17
  have hb8 := hd.b8
  obtain ⟨a, c, b, d, rfl⟩ := h.shape
  have HW := Lib.hid (fun X (hb : Below w.heap.size w X) => tabWide_any _ t X (HRT.out.up hb (Nat.le_refl _)) hd)
  have HA := Lib.hid (fun X (hb : Below w.heap.size w X) j (hj : j < colsT t) => tabAt_any _ t t.basis.length j X (HRT.out.up hb (Nat.le_refl _)) hd (Nat.le_refl _) (by rw [wdT_cols]; omega))
  have HE1 := Lib.hid (fun j (hj : j < colsT t) h1 h0 => @enterT_at t near j hj h1 h0)
  have HE0 := Lib.hid (fun h0 => @enterT_none t near h0)
  have HEA := Lib.hid (fun j => (show entersAt t near j = (FloatKind.f32.format.order (atT t t.basis.length j) (negF near) == some .lt) from rfl))
  obtain ⟨C, hC⟩ : ∃ C, C = colsT t := ⟨_, rfl⟩
  have hWC : wdT t = C + 1 := by rw [hC]; rfl
  rw [hWC] at HW h17
  rw [← hC] at HA HE1 HE0
  have hw1 : IntKind.i64.wrap (((C + 1 : Nat) : Int) - 1) = (C : Int) := by rw [IntWalk.i64_in _ (by omega)]; omega
  obtain ⟨W, hW⟩ : ∃ W : Int, W = ((C + 1 : Nat) : Int) := ⟨_, rfl⟩
  rw [← hW] at hw1 HW
  obtain ⟨N, hN⟩ : ∃ N, N = t.basis.length := ⟨_, rfl⟩
  rw [← hN] at HA HEA HW ⊢
  clear h hd hC hWC hW HRT hN hg
  go_enter Tryz.func331, Tryz.ntmps331
  go_upto_region 1 with fail
  refine wp_at fun W0 hW0 => ?_
  have HB0 := Lib.hid (show Below w.heap.size w W0 by subst hW0; (repeat' first | exact Below.refl _ _ | assumption | refine Below.alloc ?_ ?_ _ | refine Below.setCell ?_ ?_ _ | refine Below.drew ?_ | (simp; done) | (simp; omega)))
  have HK0 := Lib.hid (show Blk W0 w.heap.size 258 #[.int .i64 t.vars, .slice a t.nums.length c, .slice b N d] by subst hW0; exact Blk.new _ _ _)
  clear hW0
  have hz0 := HB0.out.size
  go_wp2_with fail
  go_loopw [5] (fun jv wr => ∃ j : Nat, jv = .int .i64 j ∧ j ≤ C ∧ Hid (∀ k, k < j → entersAt t near k = false) ∧ Hid (Below W0.heap.size W0 wr)) (fun jv _ => C + 1 - (intOf jv).toNat)
  case atStart => exact ⟨0, rfl, Nat.zero_le _, Lib.hid (by intro k hk; omega), Lib.hid (Below.refl _ _)⟩
  case round =>
    obtain ⟨j, rfl, hj, HJ, HB⟩ := hrel
    obtain ⟨wo, rfl⟩ : ∃ wo, wo = wr := ⟨wr, rfl⟩
    have HBW := Lib.hid (HB0.out.trans (HB.out.mono hz0))
    have HKo := Lib.hid (HK0.out.below HB.out HK0.out.lt)
    have d0 : wo.cell? ⟨w.heap.size, 0, none⟩ = some (.int .i64 t.vars) := HKo.out.cell 0 rfl
    have d1 : wo.cell? ⟨w.heap.size, 1, none⟩ = some (.slice a t.nums.length c) := HKo.out.cell 1 rfl
    have d2 : wo.cell? ⟨w.heap.size, 2, none⟩ = some (.slice b N d) := HKo.out.cell 2 rfl
    have hszo := HB.out.size
    by_cases hjC : j < C
    · have hjI : (j : Int) < (C : Int) := by omega
      have HAJ := Lib.hid (fun X hb => HA.out X hb j hjC)
      have hea := HEA.out j
      obtain ⟨x, hx⟩ : ∃ x, x = atT t N j := ⟨_, rfl⟩
      rw [← hx] at HAJ hea
      obtain ⟨q, hq⟩ : ∃ q, q = entersAt t near j := ⟨_, rfl⟩
      rw [← hq] at hea
      have HQ := Lib.hid hq.symm
      have hcmp := hea.symm
      clear hx hq hea
      cases q
      · have HJ2 := Lib.hid (show ∀ k, k < j + 1 → entersAt t near k = false from fun k hk => by
          by_cases e : k = j
          · rw [e]; exact HQ.out
          · exact HJ.out k (by omega))
        go_wp2_with (first
          | (go_at_call 321; refine (HW.out wo HBW.out).mono ?_; rintro e w2 ⟨rfl, hb2⟩; have HB2 := Lib.hid (HB.out.trans (hb2.mono hszo)); have e0 := (HKo.out.below hb2 HKo.out.lt).cell 0 rfl; have e1 := (HKo.out.below hb2 HKo.out.lt).cell 1 rfl; have e2 := (HKo.out.below hb2 HKo.out.lt).cell 2 rfl)
          | (go_at_call 322; refine (HAJ.out w2 (HB0.out.trans (HB2.out.mono hz0))).mono ?_; rintro e w3 ⟨rfl, hb3⟩; have HB3 := Lib.hid (HB2.out.trans (hb3.mono HB2.out.size))))
        go_roundw
        case rel => exact ⟨j + 1, by go_num, by omega, HJ2, HB3⟩
        case measure => simp [intOf]; omega
      · have HE := Lib.hid (HE1.out j hjC HQ.out HJ.out)
        go_wp2_with (first
          | (go_at_call 321; refine (HW.out wo HBW.out).mono ?_; rintro e w2 ⟨rfl, hb2⟩; have HB2 := Lib.hid (HB.out.trans (hb2.mono hszo)); have e0 := (HKo.out.below hb2 HKo.out.lt).cell 0 rfl; have e1 := (HKo.out.below hb2 HKo.out.lt).cell 1 rfl; have e2 := (HKo.out.below hb2 HKo.out.lt).cell 2 rfl)
          | (go_at_call 322; refine (HAJ.out w2 (HB0.out.trans (HB2.out.mono hz0))).mono ?_; rintro e w3 ⟨rfl, hb3⟩; have HB3 := Lib.hid (HB2.out.trans (hb3.mono HB2.out.size))))
        go_ret
        exact ⟨by rw [HE.out]; rfl, HB0.out.trans (HB3.out.mono hz0)⟩
    · obtain rfl : j = C := by omega
      have HE := Lib.hid (HE0.out HJ.out)
      go_wp2_with (go_at_call 321; refine (HW.out wo HBW.out).mono ?_; rintro e w2 ⟨rfl, hb2⟩)
      go_ret
      exact ⟨by rw [HE.out]; rfl, HB0.out.trans ((HB.out.trans (hb2.mono hszo)).mono hz0)⟩
theorem gt_zero {n near : Nat} (hn : fin32 n = true) (hl : least near = true) (h : gtF n near = true) : gtF n 0 = true := by
  unfold least at hl
  rw [Bool.and_eq_true] at hl
  rw [gtF_val hn hl.1, decide_eq_true_eq] at h
  rw [gtF_val hn fin0, decide_eq_true_eq]
  have h2 : valI 0 ≤ valI near := by
    have h3 := hl.2
    unfold geq0 at h3
    rw [show FloatKind.f32.format = Ieee.single from rfl, order_val hl.1 fin0] at h3
    rcases Int.lt_trichotomy (valI near) (valI 0) with c | c | c
    · rw [Int.compare_eq_lt.2 c] at h3; cases h3
    · omega
    · omega
  omega
set_option maxHeartbeats 4000000 in
set_option maxRecDepth 8000 in
theorem tabLeave_any (v : Value) (t : TabD) (col near : Nat) (w : World) (h : RdTb w v t) (hg : GoodT t) (hc : col < colsT t) (hnr : least near = true) :
    Calls Tryz.prog 332 #[v, .int .i64 col, .float .f32 near] w fun e w' => e = .returned (.int .i64 (leaveT t col near)) ∧ Below w.heap.size w w' := by
  have hd := hg.dim
  have HRT := Lib.hid h
  have hb8 := hd.b8
  obtain ⟨a, c, b, d, rfl⟩ := h.shape
  have HBS := Lib.hid h.parts.2
  have HA := Lib.hid (fun X (hb : Below w.heap.size w X) i (hi : i < t.basis.length) => tabAt_any _ t i col X (HRT.out.up hb (Nat.le_refl _)) hd (by omega) (by rw [wdT_cols]; omega))
  have HL := Lib.hid (fun X (hb : Below w.heap.size w X) i (hi : i < t.basis.length) => tabLast_any _ t i X (HRT.out.up hb (Nat.le_refl _)) hd (by omega))
  have HDV := Lib.hid (show ∀ i, i < t.basis.length → gtF (atT t i col) near = true → Ieee.single.div (lastT t i) (atT t i col) = some (divV (lastT t i) (atT t i col)) from fun i hi hq => by
    have f1 := hg.at (i := i) (k := col) (by omega) (by rw [wdT_cols]; omega)
    have f2 := hg.at (i := i) (k := colsT t) (by omega) (by rw [wdT_cols]; omega)
    exact div_some f2 f1 (gt_zero f1 hnr hq))
  have HRG := Lib.hid (leaveK_rng t col near)
  have HST := Lib.hid (show ∀ i, leaveK t col near (i + 1) = if gtF (atT t i col) near = true then
      (if ((decide ((leaveK t col near i).1 < 0) || ltF (divV (lastT t i) (atT t i col)) (leaveK t col near i).2) || (eqF (divV (lastT t i) (atT t i col)) (leaveK t col near i).2 && decide (t.basis.getD i 0 < t.basis.getD (leaveK t col near i).1.toNat 0))) = true then ((i : Int), divV (lastT t i) (atT t i col)) else leaveK t col near i)
    else leaveK t col near i from fun i => rfl)
  obtain ⟨K, hK⟩ : ∃ K, K = leaveK t col near := ⟨_, rfl⟩
  have HEND := Lib.hid (show leaveT t col near = (K t.basis.length).1 by rw [hK]; rfl)
  have HK0 := Lib.hid (show K 0 = (-1, 0) by rw [hK]; rfl)
  rw [← hK] at HRG HST
  obtain ⟨N, hN⟩ : ∃ N, N = t.basis.length := ⟨_, rfl⟩
  have HN := Lib.hid hN.symm
  rw [← hN] at HA HL HDV HEND HBS hb8 ⊢
  clear h hd hg hK hc hN
  go_enter Tryz.func332, Tryz.ntmps332
  go_upto_region 1 with fail
  refine wp_at fun W0 hW0 => ?_
  have HB0 := Lib.hid (show Below w.heap.size w W0 by subst hW0; (repeat' first | exact Below.refl _ _ | assumption | refine Below.alloc ?_ ?_ _ | refine Below.setCell ?_ ?_ _ | refine Below.drew ?_ | (simp; done) | (simp; omega)))
  have HKB := Lib.hid (show Blk W0 w.heap.size 258 #[.int .i64 t.vars, .slice a t.nums.length c, .slice b N d] by subst hW0; exact Blk.new _ _ _)
  clear hW0
  have hz0 := HB0.out.size
  have d2 : W0.cell? ⟨w.heap.size, 2, none⟩ = some (.slice b N d) := HKB.out.cell 2 rfl
  go_wp2_with fail
  go_loopw [7, 8, 15] (fun bv lv iv wr => ∃ i : Nat, iv = .int .i64 i ∧ i ≤ N ∧ bv = .int .i64 (K i).1 ∧ lv = .float .f32 (K i).2 ∧ Hid (Below W0.heap.size W0 wr)) (fun _ _ iv _ => N + 1 - (intOf iv).toNat)
  case atStart => exact ⟨0, rfl, Nat.zero_le _, by rw [HK0.out], by rw [HK0.out], Lib.hid (Below.refl _ _)⟩
  case round =>
    obtain ⟨i, rfl, hi, rfl, rfl, HB⟩ := hrel
    obtain ⟨wo, rfl⟩ : ∃ wo, wo = wr := ⟨wr, rfl⟩
    have HBW := Lib.hid (HB0.out.trans (HB.out.mono hz0))
    have HKo := Lib.hid (HKB.out.below HB.out HKB.out.lt)
    have e0 : wo.cell? ⟨w.heap.size, 0, none⟩ = some (.int .i64 t.vars) := HKo.out.cell 0 rfl
    have e1 : wo.cell? ⟨w.heap.size, 1, none⟩ = some (.slice a t.nums.length c) := HKo.out.cell 1 rfl
    have e2 : wo.cell? ⟨w.heap.size, 2, none⟩ = some (.slice b N d) := HKo.out.cell 2 rfl
    have hszo := HB.out.size
    by_cases hlt : i < N
    · have hltI : (i : Int) < (N : Int) := by omega
      have HAI := Lib.hid (fun X hb => HA.out X hb i hlt)
      have HLI := Lib.hid (fun X hb => HL.out X hb i hlt)
      have hst := HST.out i
      have hdv := HDV.out i hlt
      have hrg := HRG.out i
      obtain ⟨n, hn⟩ : ∃ n, n = atT t i col := ⟨_, rfl⟩
      obtain ⟨l, hl⟩ : ∃ l, l = lastT t i := ⟨_, rfl⟩
      rw [← hn] at HAI hst hdv
      rw [← hl] at HLI hst hdv
      obtain ⟨q, hq⟩ : ∃ q, q = divV l n := ⟨_, rfl⟩
      rw [← hq] at hst
      obtain ⟨p, hp⟩ : ∃ p, p = gtF n near := ⟨_, rfl⟩
      rw [← hp] at hst hdv
      have hcmp : (FloatKind.f32.format.order n near == some .gt) = p := hp.symm
      have HQ := Lib.hid hq.symm
      clear hn hl hp hq
      cases p
      · have HS2 := Lib.hid (show K (i + 1) = K i from hst)
        clear hst hdv hrg
        go_wp2_with (go_at_call 322; refine (HAI.out wo HBW.out).mono ?_; rintro e w2 ⟨rfl, hb2⟩)
        go_roundw
        case rel => exact ⟨i + 1, by go_num, by omega, by rw [HS2.out], by rw [HS2.out], Lib.hid (HB.out.trans (hb2.mono hszo))⟩
        case measure => simp [intOf]; omega
      · have hdiv := fun (W : World) => run_div_some (P := Tryz.prog) 100 (hdv rfl) W
        have hquo : divV l n = q := HQ.out
        obtain ⟨⟨B, L⟩, hS⟩ : ∃ s, s = K i := ⟨_, rfl⟩
        rw [← hS] at hst hrg ⊢
        simp only [if_true] at hst hrg ⊢
        clear hS
        go_upto_region 9 with (first
          | (go_at_call 322; refine (HAI.out wo HBW.out).mono ?_; rintro e w2 ⟨rfl, hb2⟩; have HB2 := Lib.hid (HB.out.trans (hb2.mono hszo)); have a0 := (HKo.out.below hb2 HKo.out.lt).cell 0 rfl; have a1 := (HKo.out.below hb2 HKo.out.lt).cell 1 rfl; have a2 := (HKo.out.below hb2 HKo.out.lt).cell 2 rfl)
          | (go_at_call 320; refine (HLI.out w2 (HB0.out.trans (HB2.out.mono hz0))).mono ?_; rintro e w3 ⟨rfl, hb3⟩; have HB3 := Lib.hid (HB2.out.trans (hb3.mono HB2.out.size))))
        have HBW3 := Lib.hid (HB0.out.trans (HB3.out.mono hz0))
        have g2 : w3.cell? ⟨w.heap.size, 2, none⟩ = some (.slice b N d) := (HKB.out.below HB3.out HKB.out.lt).cell 2 rfl
        obtain ⟨gb, go, rfl, _, h1⟩ := (HBS.out.up HBW3.out (Nat.le_refl _)).at (i := i) (by rw [HN.out]; exact hlt)
        obtain ⟨bi, hbi⟩ : ∃ x, x = t.basis.getD i 0 := ⟨_, rfl⟩
        rw [← hbi] at h1 hst
        clear hbi e0 e1 e2 a0 a1 a2
        rcases hrg with hB | ⟨r, hri, hB, _⟩
        · subst hB
          have HS2 := Lib.hid (show K (i + 1) = ((i : Int), q) by rw [hst]; simp)
          clear hst
          go_quiet (fail)
          go_wp2_with fail
          go_roundw
          case rel => exact ⟨i + 1, by go_num, by omega, by rw [HS2.out], by rw [HS2.out], Lib.hid (below_drewN HB3.out _)⟩
          case measure => simp [intOf]; omega
        · subst hB
          obtain ⟨gb2, go2, ee, _, h2⟩ := (HBS.out.up HBW3.out (Nat.le_refl _)).at (i := r) (by rw [HN.out]; omega)
          simp only [Option.some.injEq, Addr.mk.injEq, and_true] at ee
          obtain ⟨rfl, rfl⟩ := ee
          rw [show ((r : Int)).toNat = r by omega] at hst
          obtain ⟨br, hbr⟩ : ∃ x, x = t.basis.getD r 0 := ⟨_, rfl⟩
          rw [← hbr] at h2 hst
          have hrN : (r : Int) < (N : Int) := by omega
          have q0 : decide ((r : Int) < 0) = false := decide_eq_false (by omega)
          rw [q0] at hst
          clear hbr
          obtain ⟨c2, hc2⟩ : ∃ p, p = ltF q L := ⟨_, rfl⟩
          rw [← hc2] at hst
          have q2 : (FloatKind.f32.format.order q L == some .lt) = c2 := hc2.symm
          clear hc2
          cases c2
          · obtain ⟨c3, hc3⟩ : ∃ p, p = eqF q L := ⟨_, rfl⟩
            rw [← hc3] at hst
            have q3 : (FloatKind.f32.format.order q L == some .eq) = c3 := hc3.symm
            clear hc3
            cases c3
            · have HS2 := Lib.hid (show K (i + 1) = ((r : Int), L) by rw [hst]; simp)
              clear hst
              go_quiet (fail)
              go_wp2_with fail
              go_roundw
              case rel => exact ⟨i + 1, by go_num, by omega, by rw [HS2.out], by rw [HS2.out], Lib.hid (below_drewN HB3.out _)⟩
              case measure => simp [intOf]; omega
            · by_cases c4 : bi < br
              · have q4 : decide (bi < br) = true := decide_eq_true c4
                have HS2 := Lib.hid (show K (i + 1) = ((i : Int), q) by rw [hst, q4]; simp)
                clear hst c4
                go_quiet (fail)
                go_wp2_with fail
                go_roundw
                case rel => exact ⟨i + 1, by go_num, by omega, by rw [HS2.out], by rw [HS2.out], Lib.hid (below_drewN HB3.out _)⟩
                case measure => simp [intOf]; omega
              · have q4 : decide (bi < br) = false := decide_eq_false c4
                have HS2 := Lib.hid (show K (i + 1) = ((r : Int), L) by rw [hst, q4]; simp)
                clear hst c4
                go_quiet (fail)
                go_wp2_with fail
                go_roundw
                case rel => exact ⟨i + 1, by go_num, by omega, by rw [HS2.out], by rw [HS2.out], Lib.hid (below_drewN HB3.out _)⟩
                case measure => simp [intOf]; omega
          · have HS2 := Lib.hid (show K (i + 1) = ((i : Int), q) by rw [hst]; simp)
            clear hst
            go_quiet (fail)
            go_wp2_with fail
            go_roundw
            case rel => exact ⟨i + 1, by go_num, by omega, by rw [HS2.out], by rw [HS2.out], Lib.hid (below_drewN HB3.out _)⟩
            case measure => simp [intOf]; omega
    · obtain rfl : i = N := by omega
      go_wp2_with fail
      go_ret
      exact ⟨by rw [HEND.out]; rfl, HBW.out⟩
end Go.Proofs.YtgkbbpajkbkgnaaGreatDoor

namespace Go.Proofs.YtgkbbpajkbkgnaaGreatDoor
open Go.RowKit
set_option maxHeartbeats 2000000 in
set_option maxRecDepth 8000 in
theorem planI_any (v : Value) (t : TabD) (w : World) (h : RdTb w v t) (hg : GoodT t) :
    Calls Tryz.prog 287 #[v] w fun e w' => ∃ u, e = .returned u ∧ OwnF w.heap.size w'.heap.size w' u (planT t) ∧ Below w.heap.size w w' := by
  have hd := hg.dim
  have HRT := Lib.hid h
  obtain ⟨a, c, b, d, rfl⟩ := h.shape
  obtain ⟨i0, hi, hz0, hz1, hz2⟩ := info_parts Tryz.infoF32
  have HBS := Lib.hid h.parts.2
  have HL := Lib.hid (fun X (hb : Below w.heap.size w X) i (hi : i < t.basis.length) => tabLast_any _ t i X (HRT.out.up hb (Nat.le_refl _)) hd (by omega))
  have HBA := Lib.hid hg.bas
  have HST := Lib.hid (show ∀ i, planK t (i + 1) = if t.basis.getD i 0 < (t.vars : Int) then (planK t i).set (t.basis.getD i 0).toNat (lastT t i) else planK t i from fun i => rfl)
  have HPL := Lib.hid (planK_len t)
  obtain ⟨P, hP⟩ : ∃ P, P = planK t := ⟨_, rfl⟩
  have HEND := Lib.hid (show planT t = P t.basis.length by rw [hP]; rfl)
  have HP0 := Lib.hid (show P 0 = List.replicate t.vars 0 by rw [hP]; rfl)
  rw [← hP] at HST HPL
  obtain ⟨N, hN⟩ : ∃ N, N = t.basis.length := ⟨_, rfl⟩
  obtain ⟨V, hV⟩ : ∃ V, V = t.vars := ⟨_, rfl⟩
  have HN := Lib.hid hN.symm
  have hb8 : N ≤ 8 := by rw [hN]; exact hd.b8
  have hv8 : V ≤ 8 := by rw [hV]; exact hd.v8
  have hv1 : 1 ≤ V := by rw [hV]; exact hd.v1
  rw [← hN] at HBS HEND HBA
  rw [← hN, ← hV] at HL ⊢
  rw [← hV] at HST HPL HP0
  clear h hd hg hP hN hV HRT
  go_enter Tryz.func287, Tryz.ntmps287
  go_upto_region 1 with fail
  refine wp_at fun W0 hW0 => ?_
  have HB0 := Lib.hid (show Below w.heap.size w W0 by subst hW0; (repeat' first | exact Below.refl _ _ | assumption | refine Below.alloc ?_ ?_ _ | refine Below.setCell ?_ ?_ _ | refine Below.drew ?_ | (simp; done) | (simp; omega)))
  have HK0 := Lib.hid (show Blk W0 w.heap.size 258 #[.int .i64 V, .slice a t.nums.length c, .slice b N d] by subst hW0; exact Blk.new _ _ _)
  clear hW0
  have hz0' := HB0.out.size
  have hzl : w.heap.size < W0.heap.size := HK0.out.lt
  have d0 : W0.cell? ⟨w.heap.size, 0, none⟩ = some (.int .i64 V) := HK0.out.cell 0 rfl
  go_upto_region 2 with (at_make; refine wpList_make_full _ rfl _ _ 24 rfl W0.heap.size 100 i0 (.float .f32 0) 1 Tryz.underlying24 hi hz0 hz1 .i64 .i64 V V V rfl rfl rfl rfl (by rw [hz2]; omega) (by simp [maxLen]; omega) (by simp) ?_; intro w2 hown hgrow)
  have hb2 : Below W0.heap.size W0 w2 := (Below.refl _ _).grown hgrow (Nat.le_refl _) (by intro k hk; cases hk)
  have hz : (madeCells (Value.float .f32 0).cells (V * 1)).toList = (P 0).map F32 := by
    rw [HP0.out, List.map_replicate]
    show _ = List.replicate V (Value.float .f32 0)
    simpa [Value.cells] using toList_madeCells_one (Value.float .f32 0) V
  rw [hz] at hown
  obtain ⟨g, hg⟩ : ∃ g, g = W0.heap.size := ⟨_, rfl⟩
  rw [← hg] at hown ⊢
  have hgl : g < w2.heap.size := (owns_lt hown (k := g) rfl).2
  have HO2 := Lib.hid hown
  have HB2 := Lib.hid (HB0.out.trans (hb2.mono hz0'))
  have HK2 := Lib.hid (HK0.out.below hb2 HK0.out.lt)
  have hgw : w.heap.size < g := by omega
  have HGE := Lib.hid hg
  clear hown hb2 hz hgrow hg d0
  have d2 : w2.cell? ⟨w.heap.size, 2, none⟩ = some (.slice b N d) := HK2.out.cell 2 rfl
  have hz2' := HB2.out.size
  go_wp2_with fail
  go_loopw [12] (fun iv wr => ∃ i : Nat, iv = .int .i64 i ∧ i ≤ N ∧ Hid (wr.ownsRow g 100 1 (.slice (some ⟨g, 0, none⟩) V V) V ((P i).map F32)) ∧ Hid (Kept (· = g) w2 wr)) (fun iv _ => N + 1 - (intOf iv).toNat)
  case atStart => exact ⟨0, rfl, Nat.zero_le _, HO2, Lib.hid (Kept.refl _ _)⟩
  case round =>
    obtain ⟨i, rfl, hi, HO, HKP⟩ := hrel
    obtain ⟨wo, rfl⟩ : ∃ wo, wo = wr := ⟨wr, rfl⟩
    have HBo := Lib.hid (HB2.out.trans (HKP.out.toBelow hz2' (fun k h1 h2 => by omega)))
    have HKo := Lib.hid (HK2.out.kept HKP.out (by omega))
    by_cases hlt : i < N
    · have hltI : (i : Int) < (N : Int) := by omega
      obtain ⟨gb, go, rfl, _, h1⟩ := (HBS.out.up HBo.out (Nat.le_refl _)).at (i := i) (by rw [HN.out]; exact hlt)
      have hbr := HBA.out i hlt
      have hst := HST.out i
      have HLI := Lib.hid (fun X hb => HL.out X hb i hlt)
      obtain ⟨x, hx⟩ : ∃ x, x = t.basis.getD i 0 := ⟨_, rfl⟩
      obtain ⟨l, hl⟩ : ∃ x, x = lastT t i := ⟨_, rfl⟩
      rw [← hx] at h1 hbr hst
      rw [← hl] at hst HLI
      have d0 : wo.cell? ⟨w.heap.size, 0, none⟩ = some (.int .i64 V) := HKo.out.cell 0 rfl
      have d1 : wo.cell? ⟨w.heap.size, 1, none⟩ = some (.slice a t.nums.length c) := HKo.out.cell 1 rfl
      have d2 : wo.cell? ⟨w.heap.size, 2, none⟩ = some (.slice (some ⟨gb, go, none⟩) N d) := HKo.out.cell 2 rfl
      clear hx hl
      by_cases hxv : x < (V : Int)
      · obtain ⟨y, rfl⟩ : ∃ y : Nat, x = (y : Int) := ⟨x.toNat, by omega⟩
        have hyV : y < V := by omega
        have HS2 := Lib.hid (show P (i + 1) = (P i).set y l by rw [hst, if_pos hxv, show ((y : Int)).toNat = y by omega])
        have hpl : y < (P i).length := by rw [HPL.out]; exact hyV
        clear hst
        go_wp2_with (go_at_call 320; refine (HLI.out wo HBo.out).mono ?_; rintro e w3 ⟨rfl, hb3⟩; have HO3 := Lib.hid (owns_below HO.out hb3 (Nat.le_refl _)); have HK3 := Lib.hid (HKP.out.below hb3 HKP.out.size); have c1 : w3.cell? ⟨g, y, none⟩ = some (.float .f32 ((P i).getD y 0)) := (by rw [HO3.out.cellAt y (by omega), List.getElem?_map, List.getElem?_eq_getElem hpl, List.getD_eq_getElem?_getD, List.getElem?_eq_getElem hpl]; rfl); have c2 := HO3.out.frozenAt y)
        go_roundw
        case rel => exact ⟨i + 1, by go_num, by omega, Lib.hid (by rw [HS2.out, List.map_set]; exact (HO3.out.stored y (.float .f32 l)).1), Lib.hid (HK3.out.setCell (.inr rfl) _)⟩
        case measure => simp [intOf]; omega
      · have HS2 := Lib.hid (show P (i + 1) = P i by rw [hst, if_neg hxv])
        clear hst
        go_wp2_with fail
        go_roundw
        case rel => exact ⟨i + 1, by go_num, by omega, Lib.hid (by rw [HS2.out]; exact HO.out), HKP⟩
        case measure => simp [intOf]; omega
    · obtain rfl : i = N := by omega
      go_wp2_with fail
      go_ret
      refine ⟨_, rfl, ?_, HBo.out⟩
      rw [HEND.out]
      exact (OwnF.mk (n := V) HO.out).wide (by omega) (Nat.le_refl _)
end Go.Proofs.YtgkbbpajkbkgnaaGreatDoor

namespace Go.Proofs.YtgkbbpajkbkgnaaGreatDoor
open Go.RowKit
theorem priceK_next (t : TabD) (k : Nat) : priceK t (k + 1) = priceK t k ++ [atT t t.basis.length (t.vars + k)] := by
  unfold priceK
  rw [List.range_succ, List.map_append]
  rfl
set_option maxHeartbeats 2000000 in
set_option maxRecDepth 8000 in
theorem pricesI_any (v : Value) (t : TabD) (w : World) (h : RdTb w v t) (hg : GoodT t) :
    Calls Tryz.prog 288 #[v] w fun e w' => ∃ u, e = .returned u ∧ OwnF w.heap.size w'.heap.size w' u (priceT t) ∧ Below w.heap.size w w' := by
  have hd := hg.dim
  have HRT := Lib.hid h
  have h17 := hd.w17
  have hb8 := hd.b8
  have hv8 := hd.v8
  have hv1 := hd.v1
  obtain ⟨a, c, b, d, rfl⟩ := h.shape
  have HW := Lib.hid (fun X (hb : Below w.heap.size w X) => tabWide_any _ t X (HRT.out.up hb (Nat.le_refl _)) hd)
  have HA := Lib.hid (fun X (hb : Below w.heap.size w X) j (hj : j < wdT t) => tabAt_any _ t t.basis.length j X (HRT.out.up hb (Nat.le_refl _)) hd (Nat.le_refl _) hj)
  have HNX := Lib.hid (priceK_next t)
  obtain ⟨P, hP⟩ : ∃ P, P = priceK t := ⟨_, rfl⟩
  have HEND := Lib.hid (show priceT t = P t.basis.length by rw [hP]; rfl)
  have HP0 := Lib.hid (show P 0 = [] by rw [hP]; rfl)
  rw [← hP] at HNX
  have hWC : wdT t = t.vars + t.basis.length + 1 := rfl
  obtain ⟨N, hN⟩ : ∃ N, N = t.basis.length := ⟨_, rfl⟩
  obtain ⟨V, hV⟩ : ∃ V, V = t.vars := ⟨_, rfl⟩
  rw [← hN] at HW HA HEND HNX hWC hb8
  rw [← hV] at HW HA HNX hWC hv8 hv1
  rw [hWC] at HW HA h17
  obtain ⟨C, hC⟩ : ∃ C, C = V + N := ⟨_, rfl⟩
  rw [← hC] at HW HA h17
  have hw1 : IntKind.i64.wrap (((C + 1 : Nat) : Int) - 1) = (C : Int) := by rw [IntWalk.i64_in _ (by omega)]; omega
  obtain ⟨W, hW⟩ : ∃ W : Int, W = ((C + 1 : Nat) : Int) := ⟨_, rfl⟩
  rw [← hW] at hw1 HW
  rw [← hN, ← hV]
  clear h hd hg hP hN hV HRT hWC hW h17
  go_enter Tryz.func288, Tryz.ntmps288
  go_upto_region 1 with fail
  refine wp_at fun W0 hW0 => ?_
  have HB0 := Lib.hid (show Below w.heap.size w W0 by subst hW0; (repeat' first | exact Below.refl _ _ | assumption | refine Below.alloc ?_ ?_ _ | refine Below.setCell ?_ ?_ _ | refine Below.drew ?_ | (simp; done) | (simp; omega)))
  have HK0 := Lib.hid (show Blk W0 w.heap.size 258 #[.int .i64 V, .slice a t.nums.length c, .slice b N d] by subst hW0; exact Blk.new _ _ _)
  clear hW0
  have hz0 := HB0.out.size
  have d0 : W0.cell? ⟨w.heap.size, 0, none⟩ = some (.int .i64 V) := HK0.out.cell 0 rfl
  go_wp2_with fail
  go_loopw [3, 4] (fun ov sv wr => ∃ (k s : Nat) (g : Option Addr) (cc : Nat), ov = .slice g k cc ∧ sv = .int .i64 s ∧ Hid (s = V + k) ∧ k ≤ N ∧ Hid (wr.ownsRow W0.heap.size 100 1 (.slice g k cc) k ((P k).map F32)) ∧ Hid (Below W0.heap.size W0 wr)) (fun _ sv _ => C + 1 - (intOf sv).toNat)
  case atStart => exact ⟨0, V, none, 0, rfl, rfl, Lib.hid rfl, Nat.zero_le _, Lib.hid (by rw [HP0.out]; exact World.ownsRow_nil _ _ _ _), Lib.hid (Below.refl _ _)⟩
  case round =>
    obtain ⟨k, s, g, cc, rfl, rfl, HS, hk, HO, HB⟩ := hrel
    obtain ⟨wo, rfl⟩ : ∃ wo, wo = wr := ⟨wr, rfl⟩
    have HBW := Lib.hid (HB0.out.trans (HB.out.mono hz0))
    have HKo := Lib.hid (HK0.out.below HB.out HK0.out.lt)
    have d0 : wo.cell? ⟨w.heap.size, 0, none⟩ = some (.int .i64 V) := HKo.out.cell 0 rfl
    have d1 : wo.cell? ⟨w.heap.size, 1, none⟩ = some (.slice a t.nums.length c) := HKo.out.cell 1 rfl
    have d2 : wo.cell? ⟨w.heap.size, 2, none⟩ = some (.slice b N d) := HKo.out.cell 2 rfl
    have hszo := HB.out.size
    by_cases hlt : k < N
    · have hsI : (s : Int) < (C : Int) := by have := HS.out; omega
      have hsC : s < C := by omega
      have HAJ := Lib.hid (fun X hb => HA.out X hb s (by omega))
      have HE := Lib.hid (show P (k + 1) = P k ++ [atT t N s] by rw [HNX.out, HS.out])
      obtain ⟨x, hx⟩ : ∃ x, x = atT t N s := ⟨_, rfl⟩
      rw [← hx] at HAJ HE
      clear hx
      go_wp2_with (first
        | (go_at_call 321; refine (HW.out wo HBW.out).mono ?_; rintro e w2 ⟨rfl, hb2⟩; have HB2 := Lib.hid (HB.out.trans (hb2.mono hszo)); have e0 := (HKo.out.below hb2 HKo.out.lt).cell 0 rfl; have e1 := (HKo.out.below hb2 HKo.out.lt).cell 1 rfl; have e2 := (HKo.out.below hb2 HKo.out.lt).cell 2 rfl)
        | (go_at_call 322; refine (HAJ.out w2 (HB0.out.trans (HB2.out.mono hz0))).mono ?_; rintro e w3 ⟨rfl, hb3⟩; have HB3 := Lib.hid (HB2.out.trans (hb3.mono HB2.out.size)); have HO3 := Lib.hid (owns_below (owns_below HO.out hb2 (Nat.le_refl _)) hb3 (Nat.le_refl _)); have hsz3 := HB3.out.size)
        | (at_builtin; refine app_flts rfl _ _ rfl W0.heap.size (.slice g k cc) k (P k) rfl (HO3.out.alloc _) _ [x] rfl (slcF_oneB w3 x _ rfl) (k + 1) (P (k + 1)) (by simp) HE.out (by omega) (by simp; omega) ?_; intro g4 c4 w4 hown4 hbl4 _ _; have HB4 := Lib.hid (HB3.out.trans (((Below.refl _ _).alloc hsz3 _).trans hbl4)); have HO4 := Lib.hid hown4; clear hown4 hbl4))
      go_roundw
      case rel => exact ⟨k + 1, s + 1, g4, c4, rfl, by go_num, Lib.hid (by have := HS.out; omega), by omega, HO4, HB4⟩
      case measure => simp [intOf]; omega
    · obtain rfl : k = N := by omega
      have hsI : ¬ (s : Int) < (C : Int) := by have := HS.out; omega
      go_wp2_with (go_at_call 321; refine (HW.out wo HBW.out).mono ?_; rintro e w2 ⟨rfl, hb2⟩; have HO2 := Lib.hid (owns_below HO.out hb2 (Nat.le_refl _)))
      go_ret
      refine ⟨_, rfl, ?_, HB0.out.trans ((HB.out.trans (hb2.mono hszo)).mono hz0)⟩
      rw [HEND.out]
      exact (OwnF.mk (n := k) HO2.out).wide hz0 (Nat.le_refl _)
end Go.Proofs.YtgkbbpajkbkgnaaGreatDoor
