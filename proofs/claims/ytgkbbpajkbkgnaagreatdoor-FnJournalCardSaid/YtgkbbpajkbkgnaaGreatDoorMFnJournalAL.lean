/-
  FnJournal: texts joined: PivM, TabV, OwnT.
-/
import Derived.Test.YtgkbbpajkbkgnaaGreatDoorMFnJournalAA
import Derived.Test.YtgkbbpajkbkgnaaGreatDoorMFnJournalAJ
set_option linter.unusedVariables false
set_option linter.unusedSimpArgs false
namespace Go.Proofs.YtgkbbpajkbkgnaaGreatDoor
open Go.RowKit
theorem run_mul_none {P : Program} (t : TypeId) (x y : Nat) (h : Ieee.single.mul x y = none) (w : World) :
    (binOp .mul t (.float .f32 x) (.float .f32 y)).run P w = .ok (.float .f32 (tape32 (.nanBits .f32 x y) w)) w.drew := by
  have h' : FloatKind.f32.format.mul x y = none := h
  simp [binOp, Op.floatArith, h', tape32, Question.forced, Result.andThen]
def mulV (x y : Nat) (w : World) : Nat := match Ieee.single.mul x y with
  | some r => r
  | none => tape32 (.nanBits .f32 x y) w
def mulD (x y : Nat) : Nat := match Ieee.single.mul x y with
  | some _ => 0
  | none => 1
theorem run_mul_all {P : Program} (t : TypeId) (x y : Nat) (w : World) : (binOp .mul t (.float .f32 x) (.float .f32 y)).run P w = .ok (.float .f32 (mulV x y w)) (w.drewN (mulD x y)) := by
  unfold mulV mulD
  cases h : Ieee.single.mul x y with
  | some r => exact run_mul_some t x y r h w
  | none => exact run_mul_none t x y h w
theorem mt_rest (a f o : Nat) (w w' : World) : Mt ((Ieee.single.mul f o).bind fun q => Ieee.single.sub a q) (subV a (mulV f o w) w') := by
  unfold mulV
  cases h : Ieee.single.mul f o with
  | some q =>
    simp only [Option.bind_some]
    unfold subV
    cases h2 : Ieee.single.sub a q with
    | some r => exact Mt.some' r
    | none => exact ⟨fun _ h => (by cases h), fun _ => tape32_nan _ _ _⟩
  | none =>
    simp only [Option.bind_none]
    unfold subV
    rw [sub_nanR (tape32_nan _ _ _)]
    exact ⟨fun _ h => (by cases h), fun _ => tape32_nan _ _ _⟩
structure Cnt (F : Nat → Option Nat) (M : Nat) (cs : List Nat) : Prop where
  len : cs.length = M
  at' : ∀ x, x < M → Mt (F x) (cs.getD x 0)
theorem Cnt.set {F F' : Nat → Option Nat} {M : Nat} {cs : List Nat} (h : Cnt F M cs) {x b : Nat} (hx : x < M) (hb : Mt (F' x) b) (hn : ∀ y, y < M → y ≠ x → F' y = F y) : Cnt F' M (cs.set x b) := by
  refine ⟨by rw [List.length_set]; exact h.len, fun y hy => ?_⟩
  rw [List.getD_eq_getElem?_getD, List.getElem?_set]
  by_cases e : x = y
  · subst e
    rw [if_pos rfl, if_pos (by rw [h.len]; exact hx)]
    exact hb
  · rw [if_neg e, ← List.getD_eq_getElem?_getD, hn y hy (fun h => e h.symm)]
    exact h.at' y hy
theorem Cnt.eq {F : Nat → Option Nat} {M : Nat} {cs : List Nat} (h : Cnt F M cs) {x v : Nat} (hx : x < M) (hv : F x = some v) : cs.getD x 0 = v := by
  have := h.at' x hx
  rw [hv] at this
  exact this.of_some
theorem Cnt.mono {F F' : Nat → Option Nat} {M : Nat} {cs : List Nat} (h : Cnt F M cs) (he : ∀ y, y < M → F' y = F y) : Cnt F' M cs := ⟨h.len, fun y hy => by rw [he y hy]; exact h.at' y hy⟩
theorem dm_div {W i c : Nat} (hc : c < W) : (i * W + c) / W = i := by
  rw [Nat.mul_comm, Nat.mul_add_div (by omega), Nat.div_eq_of_lt hc]
  omega
theorem dm_mod {W i c : Nat} (hc : c < W) : (i * W + c) % W = c := by
  rw [Nat.mul_comm, Nat.mul_add_mod, Nat.mod_eq_of_lt hc]
theorem dm_ne {W i c y : Nat} (hy : y ≠ i * W + c) : y / W ≠ i ∨ y % W ≠ c := by
  by_cases e : y / W = i
  · right
    intro e2
    have := Nat.div_add_mod y W
    rw [e, e2, Nat.mul_comm] at this
    exact hy this.symm
  · exact .inl e
section
variable (t : TabD) (row col : Nat)
def F0 (x : Nat) : Option Nat := some (t.nums.getD x 0)
def FA (k x : Nat) : Option Nat := if x / wdT t = row ∧ x % wdT t < k then some (divV (atT t row (x % wdT t)) (atT t row col)) else F0 t x
def FB (i x : Nat) : Option Nat := if x / wdT t = row then some (ownV t row col (x % wdT t)) else if x / wdT t < i then othO t row col (x / wdT t) (x % wdT t) else F0 t x
def rawO (i c : Nat) : Option Nat := (Ieee.single.mul (atT t i col) (ownV t row col c)).bind fun q => Ieee.single.sub (atT t i c) q
def FC (i k x : Nat) : Option Nat := if x / wdT t = i ∧ x % wdT t < k then rawO t row col i (x % wdT t) else FB t row col i x
def FE (x : Nat) : Option Nat := cellO t row col (x / wdT t) (x % wdT t)
end
section
variable {t : TabD} {row col : Nat} {M : Nat} {cs : List Nat}
theorem FA_zero (h : Cnt (F0 t) M cs) : Cnt (FA t row col 0) M cs := h.mono fun y _ => by unfold FA; rw [if_neg (fun h => absurd h.2 (Nat.not_lt_zero _))]
theorem FA_read {k : Nat} (hk : k < wdT t) : FA t row col k (row * wdT t + k) = some (atT t row k) := by
  unfold FA
  rw [dm_div hk, dm_mod hk, if_neg (fun h => absurd h.2 (Nat.lt_irrefl _))]
  rfl
theorem FA_step {k : Nat} (h : Cnt (FA t row col k) M cs) (hk : k < wdT t) (hx : row * wdT t + k < M) : Cnt (FA t row col (k + 1)) M (cs.set (row * wdT t + k) (divV (atT t row k) (atT t row col))) := by
  refine h.set hx ?_ fun y _ hne => ?_
  · unfold FA
    rw [dm_div hk, dm_mod hk, if_pos ⟨rfl, by omega⟩]
    exact Mt.some' _
  · unfold FA
    rcases dm_ne hne with e | e
    · rw [if_neg (fun h => e h.1), if_neg (fun h => e h.1)]
    · by_cases e2 : y / wdT t = row ∧ y % wdT t < k
      · rw [if_pos e2, if_pos ⟨e2.1, by omega⟩]
      · rw [if_neg e2, if_neg (fun h => e2 ⟨h.1, by omega⟩)]
theorem FB_zero (hw : 0 < wdT t) (h : Cnt (FA t row col (wdT t)) M cs) (hc : col < wdT t) (hx : row * wdT t + col < M) : Cnt (FB t row col 0) M (cs.set (row * wdT t + col) oneF) := by
  refine h.set hx ?_ fun y _ hne => ?_
  · unfold FB ownV
    rw [dm_div hc, dm_mod hc, if_pos rfl, if_pos rfl]
    exact Mt.some' _
  · unfold FB FA ownV
    by_cases e : y / wdT t = row
    · have e2 : y % wdT t ≠ col := by
        rcases dm_ne hne with c | c
        · exact absurd e c
        · exact c
      rw [if_pos e, if_neg e2, if_pos ⟨e, Nat.mod_lt _ hw⟩]
    · rw [if_neg e, if_neg (Nat.not_lt_zero _), if_neg (fun h => e h.1)]
theorem FB_skip (h : Cnt (FB t row col row) M cs) : Cnt (FB t row col (row + 1)) M cs := h.mono fun y _ => by
  unfold FB
  by_cases e : y / wdT t = row
  · rw [if_pos e, if_pos e]
  · rw [if_neg e, if_neg e]
    by_cases c : y / wdT t < row
    · rw [if_pos c, if_pos (by omega)]
    · rw [if_neg c, if_neg (by omega)]
theorem FC_zero {i : Nat} (h : Cnt (FB t row col i) M cs) : Cnt (FC t row col i 0) M cs := h.mono fun y _ => by unfold FC; rw [if_neg (fun h => absurd h.2 (Nat.not_lt_zero _))]
theorem FC_read {i k : Nat} (hk : k < wdT t) (hi : i ≠ row) : FC t row col i k (i * wdT t + k) = some (atT t i k) := by
  unfold FC FB
  rw [dm_div hk, dm_mod hk, if_neg (fun h => absurd h.2 (Nat.lt_irrefl _)), if_neg hi, if_neg (Nat.lt_irrefl _)]
  rfl
theorem FB_read {i k : Nat} (hk : k < wdT t) (hi : i ≠ row) : FB t row col i (i * wdT t + k) = some (atT t i k) := by
  unfold FB
  rw [dm_div hk, dm_mod hk, if_neg hi, if_neg (Nat.lt_irrefl _)]
  rfl
theorem FC_own {i k c : Nat} (hc : c < wdT t) (hi : i ≠ row) : FC t row col i k (row * wdT t + c) = some (ownV t row col c) := by
  unfold FC FB
  rw [dm_div hc, dm_mod hc, if_neg (fun h => hi h.1.symm), if_pos rfl]
theorem FC_step {i k b : Nat} (h : Cnt (FC t row col i k) M cs) (hk : k < wdT t) (hx : i * wdT t + k < M) (hb : Mt (rawO t row col i k) b) : Cnt (FC t row col i (k + 1)) M (cs.set (i * wdT t + k) b) := by
  refine h.set hx ?_ fun y _ hne => ?_
  · unfold FC
    rw [dm_div hk, dm_mod hk, if_pos ⟨rfl, by omega⟩]
    exact hb
  · unfold FC
    rcases dm_ne hne with e | e
    · rw [if_neg (fun h => e h.1), if_neg (fun h => e h.1)]
    · by_cases e2 : y / wdT t = i ∧ y % wdT t < k
      · rw [if_pos e2, if_pos ⟨e2.1, by omega⟩]
      · rw [if_neg e2, if_neg (fun h => e2 ⟨h.1, by omega⟩)]
theorem FB_next {i : Nat} (hw : 0 < wdT t) (h : Cnt (FC t row col i (wdT t)) M cs) (hc : col < wdT t) (hx : i * wdT t + col < M) (hi : i ≠ row) : Cnt (FB t row col (i + 1)) M (cs.set (i * wdT t + col) 0) := by
  refine h.set hx ?_ fun y _ hne => ?_
  · unfold FB othO
    rw [dm_div hc, dm_mod hc, if_neg hi, if_pos (by omega), if_pos rfl]
    exact Mt.some' _
  · unfold FB FC
    by_cases e : y / wdT t = i
    · have e2 : y % wdT t ≠ col := by
        rcases dm_ne hne with c | c
        · exact absurd e c
        · exact c
      rw [if_pos (⟨e, Nat.mod_lt _ hw⟩ : y / wdT t = i ∧ y % wdT t < wdT t), e, if_neg hi, if_pos (by omega)]
      unfold othO rawO
      rw [if_neg e2]
    · rw [if_neg (fun h : y / wdT t = i ∧ _ => e h.1)]
      unfold FB
      by_cases r : y / wdT t = row
      · rw [if_pos r, if_pos r]
      · rw [if_neg r, if_neg r]
        by_cases c : y / wdT t < i
        · rw [if_pos c, if_pos (by omega)]
        · rw [if_neg c, if_neg (by omega)]
theorem FE_end (hd : DimT t) (h : Cnt (FB t row col (t.basis.length + 1)) t.nums.length cs) : Cnt (FE t row col) t.nums.length cs := h.mono fun y hy => by
  have hw := hd.w17
  have hlt : y / wdT t < t.basis.length + 1 := by
    rw [hd.nl] at hy
    exact Nat.div_lt_of_lt_mul hy
  unfold FE FB cellO
  by_cases r : y / wdT t = row
  · rw [if_pos r, if_pos r]
  · rw [if_neg r, if_neg r, if_pos hlt]
theorem FE_fin (h : Cnt (FE t row col) t.nums.length cs) : allFin cs = (pivO t row col).all finO := by
  rw [Bool.eq_iff_iff, List.all_eq_true]
  unfold allFin
  rw [List.all_eq_true]
  constructor
  · intro h1 o ho
    unfold pivO at ho
    rw [List.mem_map] at ho
    obtain ⟨x, hx, rfl⟩ := ho
    have hx := List.mem_range.1 hx
    have h2 := (h.at' x hx).fin
    have h3 : cs.getD x 0 ∈ cs := by
      rw [List.getD_eq_getElem?_getD, List.getElem?_eq_getElem (by rw [h.len]; exact hx)]
      exact List.getElem_mem _
    rw [h1 _ h3] at h2
    exact h2.symm
  · intro h1 b hb
    obtain ⟨x, hx, rfl⟩ := List.getElem_of_mem hb
    have hx2 : x < t.nums.length := by rw [← h.len]; exact hx
    have h2 := (h.at' x hx2).fin
    rw [List.getD_eq_getElem?_getD, List.getElem?_eq_getElem hx] at h2
    simp only [Option.getD_some] at h2
    rw [h2]
    exact h1 _ (by unfold pivO; rw [List.mem_map]; exact ⟨x, List.mem_range.2 hx2, rfl⟩)
theorem FE_is (h : Cnt (FE t row col) t.nums.length cs) (hf : (pivO t row col).all finO = true) : cs = (pivT t row col).nums := by
  rw [List.all_eq_true] at hf
  refine List.ext_getElem? fun x => ?_
  show cs[x]? = ((pivO t row col).map _)[x]?
  by_cases hx : x < t.nums.length
  · have h1 := h.at' x hx
    have h2 := hf (FE t row col x) (by unfold pivO; rw [List.mem_map]; exact ⟨x, List.mem_range.2 hx, rfl⟩)
    unfold pivO
    rw [List.getElem?_map, List.getElem?_map, List.getElem?_range hx]
    have hxl : x < cs.length := by rw [h.len]; exact hx
    rw [List.getElem?_eq_getElem hxl]
    rw [List.getD_eq_getElem?_getD, List.getElem?_eq_getElem hxl] at h1
    simp only [Option.getD_some] at h1
    simp only [Option.map_some]
    show some cs[x] = some ((FE t row col x).getD 0)
    cases ho : FE t row col x with
    | none => rw [ho] at h2; cases h2
    | some v => rw [ho] at h1; rw [h1.of_some]; rfl
  · rw [List.getElem?_eq_none (by rw [h.len]; omega), List.getElem?_eq_none (by rw [List.length_map, pivO_len]; omega)]
end
end Go.Proofs.YtgkbbpajkbkgnaaGreatDoor

namespace Go.Proofs.YtgkbbpajkbkgnaaGreatDoor
open Go.RowKit
theorem rdI_take {w : World} {b off n cap : Nat} {xs : List Int} (h : RdI w (.slice (some ⟨b, off, none⟩) n cap) xs) (k : Nat) (hk : k ≤ n) (hn : xs.length = n) : RdI w (.slice (some ⟨b, off, none⟩) k cap) (xs.take k) := by
  have hl : (xs.take k).length = k := by rw [List.length_take]; omega
  rcases h with ⟨e, _⟩ | ⟨ad, c', e, q1, q2, hc⟩
  · cases e
  · simp only [Value.slice.injEq, Option.some.injEq] at e
    obtain ⟨rfl, _, rfl⟩ := e
    rw [List.length_map] at q1
    refine .inr ⟨⟨b, off, none⟩, cap, by rw [List.length_map, hl], by rw [List.length_map, hl]; omega, q2, fun i u hi => hc i u ?_⟩
    have hlt : i < k := by have := (List.getElem?_eq_some_iff.1 hi).1; rw [List.length_map, hl] at this; exact this
    rw [List.getElem?_map] at hi ⊢
    rw [List.getElem?_take_of_lt hlt] at hi
    exact hi
theorem isIndex_any (i n : Int) (w : World) (h0 : 0 ≤ n) (h1 : n ≤ 1000000) :
    Calls Tryz.prog 282 #[.int .i64 i, .int .i64 n] w fun e w' => e = .returned (.bool (inB 0 (n - 1) i)) ∧ w = w' := by
  go_enter Tryz.func282, Tryz.ntmps282
  go_wp2_with (go_at_call 115; refine (within_any _ _ _ _).mono ?_; rintro e w' ⟨rfl, rfl⟩)
  go_ret
  exact ⟨rfl, rfl⟩
set_option maxHeartbeats 1000000 in
theorem isColumn_any (v : Value) (t : TabD) (c : Int) (w : World) (h : RdTb w v t) (hd : DimT t) :
    Calls Tryz.prog 336 #[v, .int .i64 c] w fun e w' => e = .returned (.bool (inB 0 ((colsT t : Nat) - 1) c)) ∧ Below w.heap.size w w' := by
  have HRT := Lib.hid h
  have h17 := hd.w17
  obtain ⟨a, cc, b, d, rfl⟩ := h.shape
  have HW := Lib.hid (fun X (hb : Below w.heap.size w X) => tabWide_any _ t X (HRT.out.up hb (Nat.le_refl _)) hd)
  obtain ⟨C, hC⟩ : ∃ C, C = colsT t := ⟨_, rfl⟩
  have hWC : wdT t = C + 1 := by rw [hC]; rfl
  rw [hWC] at HW h17
  rw [← hC]
  have hw1 : IntKind.i64.wrap (((C + 1 : Nat) : Int) - 1) = (C : Int) := by rw [IntWalk.i64_in _ (by omega)]; omega
  obtain ⟨W, hW⟩ : ∃ W : Int, W = ((C + 1 : Nat) : Int) := ⟨_, rfl⟩
  rw [← hW] at hw1 HW
  have HII := Lib.hid (fun X => isIndex_any c (C : Int) X (by omega) (by omega))
  clear h hd hC hWC hW HRT
  go_enter Tryz.func336, Tryz.ntmps336
  go_upto_region 1 with fail
  refine wp_at fun W0 hW0 => ?_
  have HB0 := Lib.hid (show Below w.heap.size w W0 by subst hW0; (repeat' first | exact Below.refl _ _ | assumption | refine Below.alloc ?_ ?_ _ | refine Below.setCell ?_ ?_ _ | refine Below.drew ?_ | (simp; done) | (simp; omega)))
  have HK0 := Lib.hid (show Blk W0 w.heap.size 258 #[.int .i64 t.vars, .slice a t.nums.length cc, .slice b t.basis.length d] by subst hW0; exact Blk.new _ _ _)
  clear hW0
  have d0 : W0.cell? ⟨w.heap.size, 0, none⟩ = some (.int .i64 t.vars) := HK0.out.cell 0 rfl
  have d1 : W0.cell? ⟨w.heap.size, 1, none⟩ = some (.slice a t.nums.length cc) := HK0.out.cell 1 rfl
  have d2 : W0.cell? ⟨w.heap.size, 2, none⟩ = some (.slice b t.basis.length d) := HK0.out.cell 2 rfl
  go_wp2_with (first
    | (go_at_call 321; refine (HW.out W0 HB0.out).mono ?_; rintro e w2 ⟨rfl, hb2⟩)
    | (go_at_call 282; refine (HII.out _).mono ?_; rintro e w3 ⟨rfl, rfl⟩))
  go_ret
  exact ⟨rfl, HB0.out.trans (hb2.mono HB0.out.size)⟩
theorem basOk_no {n : Nat} {l : List Int} {i : Nat} (hi : i < l.length) (h : (inB 0 ((n : Int) - 1) (l.getD i 0) && !hasB (l.take i) (l.getD i 0)) = false) : basOk n l = false := allB_false hi h
set_option maxHeartbeats 4000000 in
set_option maxRecDepth 8000 in
theorem validT_any (v : Value) (t : TabD) (w : World) (h : RdTb w v t) (hd : DimT t) :
    Calls Tryz.prog 335 #[v] w fun e w' => e = .returned (.bool (allFin t.nums && basOk (colsT t) t.basis)) ∧ Below w.heap.size w w' := by
  have HRT := Lib.hid h
  have h17 := hd.w17
  have hb8 := hd.b8
  have hb1 := hd.b1
  obtain ⟨a, c, b, d, rfl⟩ := h.shape
  have HBS := Lib.hid h.parts.2
  have HNS := Lib.hid h.parts.1
  have HI1 := Lib.hid (show inB 1 8 (t.vars : Int) = true by rw [inB_iff]; have := hd.v1; have := hd.v8; omega)
  have HI2 := Lib.hid (show inB 1 8 (t.basis.length : Int) = true by rw [inB_iff]; omega)
  have HW := Lib.hid (fun X (hb : Below w.heap.size w X) => tabWide_any _ t X (HRT.out.up hb (Nat.le_refl _)) hd)
  have HC := Lib.hid (fun X (hb : Below w.heap.size w X) (x : Int) => isColumn_any _ t x X (HRT.out.up hb (Nat.le_refl _)) hd)
  have HF := Lib.hid (fun X (hb : Below w.heap.size w X) => areFinite_any _ t.nums X (HNS.out.up hb (Nat.le_refl _)))
  have hm := hd.n153
  have hnl := hd.nl
  have HBN := Lib.hid (fun i hi h => @basOk_no (colsT t) t.basis i hi h)
  have HBY := Lib.hid (show (∀ i, i < t.basis.length → (inB 0 ((colsT t : Int) - 1) (t.basis.getD i 0) && !hasB (t.basis.take i) (t.basis.getD i 0)) = true) → basOk (colsT t) t.basis = true from fun h => allB_true h)
  obtain ⟨N, hN⟩ : ∃ N, N = t.basis.length := ⟨_, rfl⟩
  obtain ⟨M, hM⟩ : ∃ M, M = t.nums.length := ⟨_, rfl⟩
  obtain ⟨W, hW⟩ : ∃ W, W = wdT t := ⟨_, rfl⟩
  obtain ⟨C, hC⟩ : ∃ C, C = colsT t := ⟨_, rfl⟩
  obtain ⟨f, hf⟩ : ∃ f, f = allFin t.nums := ⟨_, rfl⟩
  have HN := Lib.hid hN.symm
  have HM := Lib.hid hM.symm
  rw [← hN] at HI2 hb8 hb1 HW HC HBS HBY HBN hnl
  rw [← hM, ← hW] at hnl
  rw [← hM] at hm HW HC HNS HF
  rw [← hW] at HW h17
  rw [← hC] at HC HBY HBN
  rw [← hf] at HF
  rw [← hN, ← hM, ← hf, ← hC]
  obtain ⟨N1, hN1⟩ : ∃ N1 : Int, N1 = (N : Int) + 1 := ⟨_, rfl⟩
  have e1 : IntKind.i64.wrap ((N : Int) + 1) = N1 := by rw [hN1]; exact IntWalk.i64_in _ (by omega)
  have e2 : IntKind.i64.wrap ((W : Int) * N1) = (M : Int) := by
    have : (W : Int) * N1 = (M : Int) := by rw [hN1, hnl]; push_cast; rfl
    rw [this]
    exact IntWalk.i64_in _ (by omega)
  have e3 : ((M : Int) != (M : Int)) = false := by simp
  clear h hd hN hM hW hC hf hnl hN1 HRT
  go_enter Tryz.func335, Tryz.ntmps335
  go_upto_region 1 with fail
  refine wp_at fun W0 hW0 => ?_
  have HB0 := Lib.hid (show Below w.heap.size w W0 by subst hW0; (repeat' first | exact Below.refl _ _ | assumption | refine Below.alloc ?_ ?_ _ | refine Below.setCell ?_ ?_ _ | refine Below.drew ?_ | (simp; done) | (simp; omega)))
  have HK0 := Lib.hid (show Blk W0 w.heap.size 258 #[.int .i64 t.vars, .slice a M c, .slice b N d] by subst hW0; exact Blk.new _ _ _)
  clear hW0
  have d0 : W0.cell? ⟨w.heap.size, 0, none⟩ = some (.int .i64 t.vars) := HK0.out.cell 0 rfl
  have d1 : W0.cell? ⟨w.heap.size, 1, none⟩ = some (.slice a M c) := HK0.out.cell 1 rfl
  have d2 : W0.cell? ⟨w.heap.size, 2, none⟩ = some (.slice b N d) := HK0.out.cell 2 rfl
  have hz0 := HB0.out.size
  cases f
  · skip
    refine wp_region_cls (fun X => X.cell? ⟨w.heap.size, 0, none⟩ = some (.int .i64 t.vars) ∧ X.cell? ⟨w.heap.size, 1, none⟩ = some (.slice a M c) ∧ X.cell? ⟨w.heap.size, 2, none⟩ = some (.slice b N d) ∧ Hid (Below W0.heap.size W0 X)) (by kernel_rfl) (by kernel_rfl) (⟨d0, d1, d2, (Below.refl _ _).drew⟩) ?_
    repeat (first
      | go_big_quiet_skip
      | (go_big_quiet_want
         apply Exists.intro
         refine ⟨fun X hX => ?_, ?_⟩
         · (try dsimp only at hX)
           go_simp
           (first | with_reducible rfl | done | (have hcur := hX.2.2.2; first | (go_at_call 66; refine (size_any _ _ (by unfold maxLen; omega)).mono ?_; rintro e w2 ⟨rfl, rfl⟩; exact ⟨rfl, hX⟩) | (go_at_call 115; refine (within_any _ _ _ _).mono ?_; rintro e w2 ⟨rfl, rfl⟩; (first | rw [HI1.out] | rw [HI2.out]); exact ⟨rfl, hX⟩) | (go_at_call 321; refine (HW.out X (HB0.out.trans (hcur.out.mono hz0))).mono ?_; rintro e w2 ⟨rfl, hb2⟩; have hbn := hcur.out.trans (hb2.mono hcur.out.size); exact ⟨rfl, held_of hbn d0 (Nat.le_refl _), held_of hbn d1 (Nat.le_refl _), held_of hbn d2 (Nat.le_refl _), hbn⟩) | (go_at_call 116; refine (HF.out X (HB0.out.trans (hcur.out.mono hz0))).mono ?_; rintro e w2 ⟨rfl, k, rfl⟩; exact ⟨rfl, hX.1, hX.2.1, hX.2.2.1, below_drewN hX.2.2.2.out _⟩)))
         go_big_quiet_on
         (try simp only [Act.put, List.setIfInBounds_toArray, List.set_cons_zero, List.set_cons_succ])))
    refine wpQuiet_nil ?_
    intro w1 hC
    (try dsimp only at hC)
    go_wp2_with fail
    go_ret
    exact ⟨rfl, HB0.out.trans (hC.2.2.2.out.mono hz0)⟩
  · skip
    refine wp_region_cls (fun X => X.cell? ⟨w.heap.size, 0, none⟩ = some (.int .i64 t.vars) ∧ X.cell? ⟨w.heap.size, 1, none⟩ = some (.slice a M c) ∧ X.cell? ⟨w.heap.size, 2, none⟩ = some (.slice b N d) ∧ Hid (Below W0.heap.size W0 X)) (by kernel_rfl) (by kernel_rfl) (⟨d0, d1, d2, (Below.refl _ _).drew⟩) ?_
    repeat (first
      | go_big_quiet_skip
      | (go_big_quiet_want
         apply Exists.intro
         refine ⟨fun X hX => ?_, ?_⟩
         · (try dsimp only at hX)
           go_simp
           (first | with_reducible rfl | done | (have hcur := hX.2.2.2; first | (go_at_call 66; refine (size_any _ _ (by unfold maxLen; omega)).mono ?_; rintro e w2 ⟨rfl, rfl⟩; exact ⟨rfl, hX⟩) | (go_at_call 115; refine (within_any _ _ _ _).mono ?_; rintro e w2 ⟨rfl, rfl⟩; (first | rw [HI1.out] | rw [HI2.out]); exact ⟨rfl, hX⟩) | (go_at_call 321; refine (HW.out X (HB0.out.trans (hcur.out.mono hz0))).mono ?_; rintro e w2 ⟨rfl, hb2⟩; have hbn := hcur.out.trans (hb2.mono hcur.out.size); exact ⟨rfl, held_of hbn d0 (Nat.le_refl _), held_of hbn d1 (Nat.le_refl _), held_of hbn d2 (Nat.le_refl _), hbn⟩) | (go_at_call 116; refine (HF.out X (HB0.out.trans (hcur.out.mono hz0))).mono ?_; rintro e w2 ⟨rfl, k, rfl⟩; exact ⟨rfl, hX.1, hX.2.1, hX.2.2.1, below_drewN hX.2.2.2.out _⟩)))
         go_big_quiet_on
         (try simp only [Act.put, List.setIfInBounds_toArray, List.set_cons_zero, List.set_cons_succ])))
    refine wpQuiet_nil ?_
    intro w1 hC
    (try dsimp only at hC)
    have HB1 := Lib.hid (HB0.out.trans (hC.2.2.2.out.mono hz0))
    have HKw := Lib.hid (show Blk w1 w.heap.size 258 #[.int .i64 t.vars, .slice a M c, .slice b N d] from HK0.out.below hC.2.2.2.out HK0.out.lt)
    have d2 := hC.2.2.1
    have hz1 := HB1.out.size
    go_wp2_with fail
    go_loopw [39] (fun iv wr => ∃ i : Nat, iv = .int .i64 i ∧ i ≤ N ∧ Hid (∀ j, j < i → (inB 0 ((C : Int) - 1) (t.basis.getD j 0) && !hasB (t.basis.take j) (t.basis.getD j 0)) = true) ∧ Hid (Below w1.heap.size w1 wr)) (fun iv _ => N + 1 - (intOf iv).toNat)
    case atStart => exact ⟨0, rfl, Nat.zero_le _, Lib.hid (by intro j hj; omega), Lib.hid (Below.refl _ _)⟩
    case round =>
      obtain ⟨i, rfl, hi, HJ, HB⟩ := hrel
      obtain ⟨wo, rfl⟩ : ∃ wo, wo = wr := ⟨wr, rfl⟩
      have HBW := Lib.hid (HB1.out.trans (HB.out.mono hz1))
      have HKo := Lib.hid (HKw.out.below HB.out HKw.out.lt)
      have e0 : wo.cell? ⟨w.heap.size, 0, none⟩ = some (.int .i64 t.vars) := HKo.out.cell 0 rfl
      have e1 : wo.cell? ⟨w.heap.size, 1, none⟩ = some (.slice a M c) := HKo.out.cell 1 rfl
      have e2 : wo.cell? ⟨w.heap.size, 2, none⟩ = some (.slice b N d) := HKo.out.cell 2 rfl
      have hszo := HB.out.size
      by_cases hlt : i < N
      · have hltI : (i : Int) < (N : Int) := by omega
        have hrd := HBS.out.up HBW.out (Nat.le_refl _)
        obtain ⟨gb, go, rfl, _, h1⟩ := hrd.at (i := i) (by rw [HN.out]; exact hlt)
        have HTK := Lib.hid (rdI_take hrd i (by omega) HN.out)
        have hcap : N ≤ d := by
          rcases HBS.out with ⟨e, _⟩ | ⟨ad, c', e, q1, _, _⟩
          · cases e
          · simp only [Value.slice.injEq] at e
            obtain ⟨_, _, rfl⟩ := e
            rw [List.length_map, HN.out] at q1
            exact q1
        have HJ2 := Lib.hid (fun (h : (inB 0 ((C : Int) - 1) (t.basis.getD i 0) && !hasB (t.basis.take i) (t.basis.getD i 0)) = true) => (show ∀ j, j < i + 1 → (inB 0 ((C : Int) - 1) (t.basis.getD j 0) && !hasB (t.basis.take j) (t.basis.getD j 0)) = true from fun j hj => by
          by_cases e : j = i
          · rw [e]; exact h
          · exact HJ.out j (by omega)))
        have HNO := Lib.hid (HBN.out i hlt)
        obtain ⟨x, hx⟩ : ∃ x, x = t.basis.getD i 0 := ⟨_, rfl⟩
        rw [← hx] at h1 HJ2 HNO
        have HCX := Lib.hid (HC.out wo HBW.out x)
        have HHX := Lib.hid (fun X (hb : Below wo.heap.size wo X) => has_any (.slice (some ⟨gb, go, none⟩) i d) (t.basis.take i) x X (HTK.out.up hb (Nat.le_refl _)))
        obtain ⟨p1, hp1⟩ : ∃ p, p = inB 0 ((C : Int) - 1) x := ⟨_, rfl⟩
        obtain ⟨p2, hp2⟩ : ∃ p, p = hasB (t.basis.take i) x := ⟨_, rfl⟩
        rw [← hp1] at HCX HJ2 HNO
        rw [← hp2] at HHX HJ2 HNO
        clear hrd hx hp1 hp2
        cases p1
        · have HN2 := Lib.hid (HNO.out rfl)
          go_wp2_with (go_at_call 336; refine HCX.out.mono ?_; rintro e w2 ⟨rfl, hb2⟩)
          go_ret
          exact ⟨by rw [HN2.out]; rfl, HBW.out.trans (hb2.mono HBW.out.size)⟩
        · cases p2
          · have HJ3 := Lib.hid (HJ2.out rfl)
            go_wp2_with (first
              | (go_at_call 336; refine HCX.out.mono ?_; rintro e w2 ⟨rfl, hb2⟩; have e2 := (HKo.out.below hb2 HKo.out.lt).cell 2 rfl)
              | (go_at_call 129; refine (HHX.out w2 hb2).mono ?_; rintro e w3 ⟨rfl, rfl⟩))
            go_roundw
            case rel => exact ⟨i + 1, by go_num, by omega, HJ3, Lib.hid (HB.out.trans (hb2.mono hszo))⟩
            case measure => simp [intOf]; omega
          · have HN2 := Lib.hid (HNO.out rfl)
            go_wp2_with (first
              | (go_at_call 336; refine HCX.out.mono ?_; rintro e w2 ⟨rfl, hb2⟩; have e2 := (HKo.out.below hb2 HKo.out.lt).cell 2 rfl)
              | (go_at_call 129; refine (HHX.out w2 hb2).mono ?_; rintro e w3 ⟨rfl, rfl⟩))
            go_ret
            exact ⟨by rw [HN2.out]; rfl, HBW.out.trans (hb2.mono HBW.out.size)⟩
      · obtain rfl : i = N := by omega
        have HY := Lib.hid (HBY.out HJ.out)
        go_wp2_with fail
        go_ret
        exact ⟨by rw [HY.out]; rfl, HBW.out⟩
end Go.Proofs.YtgkbbpajkbkgnaaGreatDoor

namespace Go.Proofs.YtgkbbpajkbkgnaaGreatDoor
open Go.RowKit
theorem owns_types {w : World} {base base' size size' n n' : Nat} {e e' : TypeId} {v v' : Value} {vs vs' : List Value} (h : w.ownsRow base e size v n vs) (h' : w.ownsRow base' e' size' v' n' vs') (he : e ≠ e') : ∀ g, v.ownBlock = some g → v'.ownBlock ≠ some g := by
  intro g hg hg'
  rcases h.2 with ⟨rfl, _⟩ | ⟨g1, cap, cur, rfl, _, hb, _⟩
  · cases hg
  · rcases h'.2 with ⟨rfl, _⟩ | ⟨g2, cap2, cur2, rfl, _, hb2, _⟩
    · cases hg'
    · have e1 : g1 = g := Option.some.inj hg
      have e2 : g2 = g := Option.some.inj hg'
      subst e1
      subst e2
      rw [hb] at hb2
      simp only [Option.some.injEq, Obj.cells.injEq] at hb2
      exact he hb2.2.1
end Go.Proofs.YtgkbbpajkbkgnaaGreatDoor
