/-
  FnExactWholesShared: texts joined: Differ, PlanW, PlanI, PlanS.
-/
import Derived.Test.YtkmbkjbammpdhaaMEWholesSharedAA
import Derived.Test.YtkmbkjbammpdhaaMEWholesSharedAH
namespace Go.Proofs.Ytkmbkjbammpdhaa
open Go.RowKit

/-- All choices. -/
def allC (D : List (List Int)) : List (List Int) := choi D D.length []

theorem Try.infoBools : (Try.prog.info? 132).map (fun i => (i.zero, i.size, i.bytes)) = some (some (.slice none 0 0), 1, 24) := by kernel_rfl
theorem Try.infoBool : (Try.prog.info? 4).map (fun i => (i.zero, i.size, i.bytes)) = some (some (.bool false), 1, 1) := by kernel_rfl

/-- The rows of marks as they are built. -/
def rowsV (D : List (List Int)) (gs : Nat → Nat) (k : Nat) : List Value := (List.range k).map fun i => .slice (some ⟨gs i, 0, none⟩) (D.getD i []).length (D.getD i []).length
def Built (D : List (List Int)) (lo : Nat) (w : World) (v : Value) (k : Nat) : Prop :=
  ∃ gs : Nat → Nat, w.ownsRow lo 132 1 v k (rowsV D gs k) ∧ ∀ i, i < k → lo ≤ gs i ∧ (∀ j, j < k → j ≠ i → gs j ≠ gs i) ∧ w.rowIs (gs i) 4 (D.getD i []).length (fun _ => .bool false)
theorem Built.marks {D : List (List Int)} {lo : Nat} {w : World} {v : Value} (h : Built D lo w v D.length) (h1 : 1 ≤ D.length) : Marks lo w.heap.size w v D (fun _ _ => false) := by
  obtain ⟨gs, ho, hr⟩ := h
  have hn : v ≠ .slice none 0 0 := by
    rintro rfl
    rcases ho.2 with ⟨_, e⟩ | ⟨g, cap, cur, e, _⟩
    · omega
    · simp at e
  obtain ⟨g, cap, rfl, hg1, hg2⟩ := owns_some ho hn
  refine ⟨g, cap, gs, fun i => (D.getD i []).length, rfl, hg1, hg2, hg2, fun i hi => ?_⟩
  obtain ⟨a1, a2, a3⟩ := hr i hi
  refine ⟨?_, a1, a3.lt, ?_, a2, a3⟩
  · have := ho.cellAt i (by omega)
    rw [this]
    simp [rowsV, hi]
  · rintro rfl
    rcases ho.2 with ⟨e, _⟩ | ⟨g', cap', cur, e, _, hh, _⟩
    · simp at e
    · simp only [Value.slice.injEq, Option.some.injEq, Addr.mk.injEq, and_true] at e
      obtain ⟨rfl, _⟩ := e
      obtain ⟨c, hb, _, _⟩ := a3
      rw [hh] at hb
      simp at hb

theorem slc_lit (w : World) (b : Nat) (hb : b = w.heap.size) (t : TypeId) (u : Value) : Slc (w.alloc (.cells #[u] t)) (.slice (some ⟨b, 0, none⟩) 1 1) [u] := by
  subst hb
  exact slc_of_owns (World.ownsRow_lit (base := w.heap.size) (e := t) (size := 1) w #[u] 1 (Nat.le_refl _) (by simp [maxLen]) rfl)
theorem row_not_owned {w : World} {g n base m : Nat} {t e : TypeId} {f : Nat → Value} {v : Value} {vs : List Value} (h : w.rowIs g t n f) (ho : w.ownsRow base e 1 v m vs) (hte : t ≠ e) : v.ownBlock ≠ some g := by
  rcases ho.2 with ⟨rfl, _⟩ | ⟨g', cap, cur, rfl, _, hh, _⟩
  · simp [Value.ownBlock]
  · intro e2
    simp only [Value.ownBlock, Option.some.injEq] at e2
    subst e2
    obtain ⟨c, hb, _⟩ := h
    rw [hh] at hb
    simp only [Option.some.injEq, Obj.cells.injEq] at hb
    exact hte hb.2.1.symm
theorem rowsV_succ (D : List (List Int)) (gs : Nat → Nat) (k g n : Nat) (hn : n = (D.getD k []).length) : rowsV D (fun i => if i = k then g else gs i) (k + 1) = rowsV D gs k ++ [.slice (some ⟨g, 0, none⟩) n n] := by
  subst hn
  unfold rowsV
  rw [List.range_succ, List.map_append]
  congr 1
  · apply List.map_congr_left
    intro i hi
    have := List.mem_range.1 hi
    simp [show i ≠ k by omega]
  · simp
theorem Built.next {D : List (List Int)} {lo k n : Nat} {w w1 w3 : World} {v v3 : Value} {gs : Nat → Nat} (hn : n = (D.getD k []).length) (h : w.ownsRow lo 132 1 v k (rowsV D gs k))
    (hr : ∀ i, i < k → lo ≤ gs i ∧ (∀ j, j < k → j ≠ i → gs j ≠ gs i) ∧ w.rowIs (gs i) 4 (D.getD i []).length (fun _ => .bool false)) (hlo : lo ≤ w.heap.size)
    (h1 : ∀ i, i < w.heap.size → w1.heap[i]? = w.heap[i]?) (hsz : w.heap.size < w1.heap.size) (hk : w1.rowIs w.heap.size 4 n (fun _ => .bool false)) (hg : w1.grownBy w3 v.ownBlock)
    (h3 : w3.ownsRow lo 132 1 v3 (k + 1) (rowsV D gs k ++ [.slice (some ⟨w.heap.size, 0, none⟩) n n])) : Built D lo w3 v3 (k + 1) := by
  refine ⟨fun i => if i = k then w.heap.size else gs i, by rw [rowsV_succ D gs k _ n hn]; exact h3, fun i hi => ?_⟩
  have key : ∀ j, j < k → gs j < w.heap.size := fun j hj => (hr j hj).2.2.lt
  by_cases e : i = k
  · subst e
    simp only [if_true]
    refine ⟨hlo, fun j hj hne => ?_, ?_⟩
    · rw [if_neg hne]; have := key j (by omega); omega
    · rw [← hn]
      refine hk.of_block (hg.block _ hsz ?_)
      intro e2
      have := (owns_lt h e2.symm).2
      omega
  · simp only [if_neg e]
    obtain ⟨a1, a2, a3⟩ := hr i (by omega)
    refine ⟨a1, fun j hj hne => ?_, ?_⟩
    · by_cases ej : j = k
      · subst ej; rw [if_pos rfl]; have := key i (by omega); omega
      · rw [if_neg ej]; exact a2 j (by omega) hne
    · refine a3.of_block ((hg.block _ (by have := a3.lt; omega) ?_).trans (h1 _ a3.lt))
      exact fun e2 => row_not_owned a3 h (by decide) e2.symm

end Go.Proofs.Ytkmbkjbammpdhaa

namespace Go.Proofs.Ytkmbkjbammpdhaa
open Go.RowKit

abbrev WB := Option (List Int) × Nat
def gtB (x y : Nat) : Bool := FloatKind.f32.format.order x y == some .gt
noncomputable def wbStep (r : RowsD) (b : WB) (s : List Int) : WB := if (gainOk r (s.map fI) && (b.1.isNone || gtB (gainV r (s.map fI)) b.2)) = true then (some s, gainV r (s.map fI)) else b
noncomputable def wbAll (r : RowsD) (l : List (List Int)) : WB := l.foldl (wbStep r) (none, 0)
theorem wbAll_snoc (r : RowsD) (l : List (List Int)) (s : List Int) : wbAll r (l ++ [s]) = wbStep r (wbAll r l) s := by simp [wbAll]

theorem wbStep_no {r : RowsD} {b : WB} {s : List Int} (h : gainOk r (s.map fI) = false) : wbStep r b s = b := by unfold wbStep; rw [h]; rfl
theorem wbStep_first {r : RowsD} {x : Nat} {s : List Int} (h : gainOk r (s.map fI) = true) : wbStep r (none, x) s = (some s, gainV r (s.map fI)) := by unfold wbStep; rw [h]; rfl
theorem wbStep_more {r : RowsD} {x : Nat} {t s : List Int} (h : gainOk r (s.map fI) = true) (hq : gtB (gainV r (s.map fI)) x = true) : wbStep r (some t, x) s = (some s, gainV r (s.map fI)) := by unfold wbStep; rw [h]; simp [hq]
theorem wbStep_less {r : RowsD} {x : Nat} {t s : List Int} (h : gainOk r (s.map fI) = true) (hq : gtB (gainV r (s.map fI)) x = false) : wbStep r (some t, x) s = (some t, x) := by unfold wbStep; rw [h]; simp [hq]

/-- The best one so far, in two variables. -/
def PQ (B0 bb mb n : Nat) (st : WB) (w : World) : Prop :=
  Box w mb 37 (.float .f32 st.2) ∧ ((st.1 = none ∧ Box w bb 36 (.slice none 0 0)) ∨ ∃ s g cap, st.1 = some s ∧ Box w bb 36 (.slice (some ⟨g, 0, none⟩) n cap) ∧ w.ownsRow B0 2 1 (.slice (some ⟨g, 0, none⟩) n cap) n (s.map I64))
theorem PQ.up {B0 bb mb n : Nat} {st : WB} {w w' : World} (h : PQ B0 bb mb n st w) (hb : Below w.heap.size w w') : PQ B0 bb mb n st w' := by
  obtain ⟨h1, h2⟩ := h
  refine ⟨h1.below hb h1.lt, ?_⟩
  rcases h2 with ⟨h2, h3⟩ | ⟨s, g, cap, h2, h3, h4⟩
  · exact .inl ⟨h2, h3.below hb h3.lt⟩
  · exact .inr ⟨s, g, cap, h2, h3.below hb h3.lt, owns_below h4 hb (Nat.le_refl _)⟩

theorem Box.other' {w : World} {b : Nat} {t : TypeId} {v : Value} (h : Box w b t v) {c : Nat} (hc : b ≠ c) (u : Value) : Box (w.setCell ⟨c, 0, none⟩ u) b t v := h.kept (Kept.setCell (S := (· = c)) (p := ⟨c, 0, none⟩) (Kept.refl _ _) (.inr rfl) _) hc
theorem PQ.set {B0 bb mb n g0 cap x y : Nat} {z : Value} {s : List Int} {w : World} (hbb : bb < B0) (hmb : mb < B0) (hne : bb ≠ mb) (hg0 : B0 ≤ g0) (h1 : Box w bb 36 z) (h2 : Box w mb 37 (.float .f32 x)) (h3 : w.ownsRow B0 2 1 (.slice (some ⟨g0, 0, none⟩) n cap) n (s.map I64)) :
    PQ B0 bb mb n (some s, y) ((w.setCell ⟨bb, 0, none⟩ (.slice (some ⟨g0, 0, none⟩) n cap)).setCell ⟨mb, 0, none⟩ (.float .f32 y)) := by
  refine ⟨(h2.other' (by omega) _).set _, .inr ⟨s, g0, cap, rfl, (h1.set _).other' hne _, ?_⟩⟩
  exact owns_other (owns_other h3 (by simp [Value.ownBlock]; omega) _) (by simp [Value.ownBlock]; omega) _

theorem Try.entersPW (args : Array Value) (w : World) : (callFunc 100 args).run Try.prog w = .ok (.enter 100 args) w :=
  enters_of Try.func100 (by kernel_rfl) rfl args w

theorem implGain_b (q : Bool) (y : Nat) (v : Value) (r : RowsD) (u : Value) (x : List Nat) (w : World) (h : RdR w v r) (hu : RdF w u x) (hq : gainOk r x = q) (hy : gainV r x = y) :
    Calls Try.prog 101 #[v, u] w fun e w' => e = .returned (.tuple #[.float .f32 y, .bool q]) ∧ Below w.heap.size w w' := by
  have := implGain_any v r u x w h hu
  rw [hq, hy] at this
  exact this

set_option maxHeartbeats 4000000 in
set_option maxRecDepth 4000 in
theorem planW1_any (B0 rb bb mb n : Nat) (r : RowsD) (a1 : Option Addr) (c1 : Nat) (a2 : Option Addr) (c2 : Nat) (a3 : Option Addr) (c3 : Nat) (st : WB) (s : List Int) (a : Option Addr) (cap m : Nat) (w : World)
    (hm : s.length = m) (hmn : m = n) (h1 : 1 ≤ n) (hn8 : n ≤ 8) (hs : w.ownsRow B0 2 1 (.slice a m cap) m (s.map I64)) (hbb : bb < B0) (hmb : mb < B0) (hne : bb ≠ mb)
    (hk : Blk w rb 26 #[.int .i64 r.vars, .slice a1 r.nums.length c1, .slice a2 r.bnds.length c2, .slice a3 r.gains.length c3]) (hr : RdR w (.agg #[.int .i64 r.vars, .slice a1 r.nums.length c1, .slice a2 r.bnds.length c2, .slice a3 r.gains.length c3]) r) (h : PQ B0 bb mb n st w) :
    Calls Try.prog 100 (#[.slice a m cap] ++ #[.pointer (some ⟨rb, 0, none⟩), .pointer (some ⟨bb, 0, none⟩), .pointer (some ⟨mb, 0, none⟩)]) w fun e w' =>
      e = .returned (.tuple #[]) ∧ PQ B0 bb mb n (wbStep r st s) w' ∧ Kept (fun b => b = bb ∨ b = mb) w w' := by
  subst hm
  subst hmn
  have heq := fun (w : World) (a : Option Addr) (n c : Nat) => Lib.run_eql_slice_nil (P := Try.prog) w 36 2 a n c 0 0 Try.underlying36
  obtain ⟨g0, rfl, hg0⟩ := owns_slice_some hs (by omega)
  have HS := Lib.hid hs
  have HR := Lib.hid hr
  have HPQ := Lib.hid h
  have HKB := Lib.hid hk
  have d0 : w.cell? ⟨rb, 0, none⟩ = some (.int .i64 r.vars) := hk.cell 0 rfl
  have d1 : w.cell? ⟨rb, 1, none⟩ = some (.slice a1 r.nums.length c1) := hk.cell 1 rfl
  have d2 : w.cell? ⟨rb, 2, none⟩ = some (.slice a2 r.bnds.length c2) := hk.cell 2 rfl
  have d3 : w.cell? ⟨rb, 3, none⟩ = some (.slice a3 r.gains.length c3) := hk.cell 3 rfl
  obtain ⟨q, hq⟩ : ∃ q, gainOk r (s.map fI) = q := ⟨_, rfl⟩
  obtain ⟨y, hy⟩ : ∃ y, gainV r (s.map fI) = y := ⟨_, rfl⟩
  have HQ := Lib.hid hq
  have HY := Lib.hid hy
  clear hs hr h hq hy hk
  go_enter Try.func100, Try.ntmps100
  go_wp2_with fail
  go_region_held3 (fun X => X.cell? ⟨rb, 0, none⟩ = some (.int .i64 r.vars) ∧ X.cell? ⟨rb, 1, none⟩ = some (.slice a1 r.nums.length c1) ∧ X.cell? ⟨rb, 2, none⟩ = some (.slice a2 r.bnds.length c2) ∧ X.cell? ⟨rb, 3, none⟩ = some (.slice a3 r.gains.length c3) ∧ Below w.heap.size w X)
    (first | exact ⟨held_of hbn d0 (Nat.le_refl _), held_of hbn d1 (Nat.le_refl _), held_of hbn d2 (Nat.le_refl _), held_of hbn d3 (Nat.le_refl _), hbn⟩ | exact ⟨d0, d1, d2, d3, (Below.refl _ _).drew⟩)
    (first
      | (go_at_call 102; have hh := (‹_ ∧ _ ∧ _ ∧ _ ∧ Below w.heap.size w _›).2.2.2.2; refine (asNumbers_any _ s _ (Slc.below (slc_of_owns HS.out) hh (Nat.le_refl _)) (by omega)).mono ?_; rintro e w1 ⟨nu, rfl, hnu, hb1⟩; have hbn := hh.trans (hb1.mono hh.size))
      | (go_at_call 101; have hh := (‹_ ∧ _ ∧ _ ∧ _ ∧ Below w.heap.size w _›).2.2.2.2; refine (implGain_b q y _ r _ (s.map fI) _ (HR.out.up hh (Nat.le_refl _)) hnu HQ.out HY.out).mono ?_; rintro e w2 ⟨rfl, hb2⟩; have hbn := hh.trans (hb2.mono hh.size))
      | fail)
  have HB := Lib.hid hbn
  clear hbn d0 d1 d2 d3
  have HS2 := Lib.hid (owns_below HS.out HB.out (Nat.le_refl _))
  have HK2 := Lib.hid (Kept.of_below (S := fun b => b = bb ∨ b = mb) HB.out (Nat.le_refl _))
  have HPQ2 := Lib.hid (HPQ.out.up HB.out)
  obtain ⟨o, x⟩ := st
  clear HPQ
  cases q
  · have HN := Lib.hid (wbStep_no (b := (o, x)) HQ.out)
    go_wp2_with fail
    go_end0
    exact ⟨rfl, by rw [HN.out]; exact HPQ2.out, HK2.out⟩
  · obtain ⟨hm, hb⟩ := HPQ2.out
    have cm := hm.cell
    have fm := hm.free
    have HM := Lib.hid hm
    simp only at cm hb
    rcases hb with ⟨rfl, hb⟩ | ⟨t, g, cap', rfl, hb, ho⟩
    · have cb := hb.cell
      have fb := hb.free
      have HBB := Lib.hid hb
      have HN := Lib.hid (wbStep_first (x := x) HQ.out)
      clear hm hb
      go_wp2_with fail
      go_end0
      refine ⟨rfl, ?_, Kept.setCell (Kept.setCell HK2.out (.inr (.inl rfl)) _) (.inr (.inr rfl)) _⟩
      rw [HN.out, HY.out]
      exact PQ.set hbb hmb hne hg0 HBB.out HM.out HS2.out
    · have cb := hb.cell
      have fb := hb.free
      have HBB := Lib.hid hb
      cases hq : gtB y x
      · have hq' : (FloatKind.f32.format.order y x == some .gt) = false := hq
        have HN := Lib.hid (wbStep_less (t := t) HQ.out (by rw [HY.out]; exact hq))
        clear hm hb hq ho
        go_wp2_with fail
        go_end0
        exact ⟨rfl, by rw [HN.out]; exact HPQ2.out, HK2.out⟩
      · have hq' : (FloatKind.f32.format.order y x == some .gt) = true := hq
        have HN := Lib.hid (wbStep_more (t := t) HQ.out (by rw [HY.out]; exact hq))
        clear hm hb hq ho
        go_wp2_with fail
        go_end0
        refine ⟨rfl, ?_, Kept.setCell (Kept.setCell HK2.out (.inr (.inl rfl)) _) (.inr (.inr rfl)) _⟩
        rw [HN.out, HY.out]
        exact PQ.set hbb hmb hne hg0 HBB.out HM.out HS2.out

end Go.Proofs.Ytkmbkjbammpdhaa

namespace Go.Proofs.Ytkmbkjbammpdhaa
open Go.RowKit

noncomputable def planB (r : RowsD) (top : Int) : WB := if topB r top = true then wbAll r (wSolsT r top) else (none, 0)
noncomputable def planL (r : RowsD) (top : Int) : List Int := (planB r top).1.getD []
noncomputable def planY (r : RowsD) (top : Int) : Nat := (planB r top).2
noncomputable def planOk (r : RowsD) (top : Int) : Bool := (planB r top).1.isSome

theorem wbStep_len {r : RowsD} {b : WB} {s t : List Int} (h : (wbStep r b s).1 = some t) : t = s ∨ b.1 = some t := by
  unfold wbStep at h
  split at h
  · left; simpa using h.symm
  · right; exact h
theorem wbAll_mem {r : RowsD} {l : List (List Int)} : ∀ {t : List Int}, (wbAll r l).1 = some t → t ∈ l := by
  suffices H : ∀ (l : List (List Int)) (b : WB) (t : List Int), (l.foldl (wbStep r) b).1 = some t → t ∈ l ∨ b.1 = some t by
    intro t h
    rcases H l (none, 0) t h with h | h
    · exact h
    · cases h
  intro l
  induction l with
  | nil => intro b t h; exact .inr h
  | cons s l ih =>
    intro b t h
    rcases ih _ t h with h | h
    · exact .inl (List.mem_cons_of_mem _ h)
    · rcases wbStep_len h with rfl | h
      · exact .inl (List.mem_cons_self ..)
      · exact .inr h
theorem wbStep_zero {r : RowsD} {b : WB} {s : List Int} (h0 : b.1 = none → b.2 = 0) (h : (wbStep r b s).1 = none) : (wbStep r b s).2 = 0 := by
  unfold wbStep at h ⊢
  split at h
  · cases h
  · next hn => rw [if_neg hn]; exact h0 h
theorem wbAll_zero {r : RowsD} {l : List (List Int)} (h : (wbAll r l).1 = none) : (wbAll r l).2 = 0 := by
  suffices H : ∀ (l : List (List Int)) (b : WB), (b.1 = none → b.2 = 0) → (l.foldl (wbStep r) b).1 = none → (l.foldl (wbStep r) b).2 = 0 from H l (none, 0) (fun _ => rfl) h
  intro l
  induction l with
  | nil => intro b h0 h; exact h0 h
  | cons s l ih => intro b h0 h; exact ih _ (fun h1 => wbStep_zero h0 h1) h
theorem wSols_mem (r : RowsD) (top : Nat) : ∀ (f : Nat) (now s : List Int), s ∈ wSols r top f now → s.length = now.length + f
  | 0, now, s, h => by
    unfold wSols at h
    split at h <;> simp_all
  | f + 1, now, s, h => by
    rw [wSols_succ] at h
    unfold wPart at h
    obtain ⟨k, _, h⟩ := List.mem_flatMap.1 h
    have := wSols_mem r top f _ s h
    simp at this
    omega
theorem planL_cnt (r : RowsD) (top : Int) : cntI (planL r top) ≤ 1048576 := by
  unfold cntI planL planB
  split
  · next h =>
    cases e : (wbAll r (wSolsT r top)).1 with
    | none => simp
    | some s =>
      have h1 := wSols_mem _ _ _ _ _ (wbAll_mem e)
      obtain ⟨hv, h4, _, _⟩ := topB_parts h
      have := hv.gl
      simp at h1
      simp
      omega
  · simp

set_option maxHeartbeats 2000000 in
set_option maxRecDepth 4000 in
theorem implWP_any (v : Value) (r : RowsD) (top : Int) (w : World) (h : RdR w v r) :
    Calls Try.prog 25 #[v, .int .i64 top] w fun e w' => ∃ v', e = .returned (.tuple #[v', .float .f32 (planY r top), .bool (planOk r top)]) ∧ OwnI w.heap.size w'.heap.size w' v' (planL r top) ∧ Below w.heap.size w w' := by
  obtain ⟨a1, c1, a2, c2, a3, c3, rfl⟩ := h.shape
  have HP := Lib.hid h
  have HNE := Lib.hid (fun (w : World) (a : Option Addr) (n c : Nat) => run_neq_slice_nil_any (P := Try.prog) w 36 2 a n c 0 0 Try.underlying36)
  clear h
  obtain ⟨q, hq⟩ : ∃ q, topB r top = q := ⟨_, rfl⟩
  have HQ := Lib.hid hq
  clear hq
  go_enter Try.func25, Try.ntmps25
  go_wp2_with fail
  refine Calls.at fun W hW => ?_
  have hb := Lib.hid (show Below w.heap.size w W by subst hW; (repeat' first | exact Below.refl _ _ | assumption | refine Below.alloc ?_ ?_ _ | refine Below.setCell ?_ ?_ _ | refine Below.drew ?_ | (simp; done) | (simp; omega)))
  have hk := Lib.hid (show Blk W w.heap.size 26 #[.int .i64 r.vars, .slice a1 r.nums.length c1, .slice a2 r.bnds.length c2, .slice a3 r.gains.length c3] by subst hW; exact Blk.new _ _ _)
  clear hW
  refine (isTop_any _ r top W (HP.out.up hb.out (Nat.le_refl _))).mono ?_
  rintro e w1 ⟨rfl, hb1⟩
  rw [HQ.out]
  have HB1 := Lib.hid (hb.out.trans (hb1.mono hb.out.size))
  have HK1 := Lib.hid (hk.out.below hb1 hk.out.lt)
  have d0 : w1.cell? ⟨w.heap.size, 0, none⟩ = some (.int .i64 r.vars) := HK1.out.cell 0 rfl
  have d1 : w1.cell? ⟨w.heap.size, 1, none⟩ = some (.slice a1 r.nums.length c1) := HK1.out.cell 1 rfl
  have d2 : w1.cell? ⟨w.heap.size, 2, none⟩ = some (.slice a2 r.bnds.length c2) := HK1.out.cell 2 rfl
  have d3 : w1.cell? ⟨w.heap.size, 3, none⟩ = some (.slice a3 r.gains.length c3) := HK1.out.cell 3 rfl
  have hsz := HB1.out.size
  have hkl := HK1.out.lt
  clear hb1 hb hk
  cases q
  · have HN := Lib.hid (show planB r top = (none, 0) by unfold planB; rw [HQ.out]; rfl)
    go_wp2_with fail
    go_ret3
    exact ⟨_, by unfold planY planOk; rw [HN.out]; rfl, by unfold planL; rw [HN.out]; exact ⟨World.ownsRow_nil _ _ _ _, by intro g hg; cases hg⟩, HB1.out⟩
  · obtain ⟨hv, h4, t1, t5⟩ := topB_parts HQ.out
    have hgl := hv.gl
    have hv1 := hv.v1
    have HLEN := Lib.hid (wSolsT_len HQ.out)
    obtain ⟨T, rfl⟩ := Int.eq_ofNat_of_zero_le (by omega : 0 ≤ top)
    have HN := Lib.hid (show planB r (T : Int) = wbAll r (wSols r T r.gains.length []) by unfold planB; rw [HQ.out, if_pos rfl]; rfl)
    have HL2 := Lib.hid (show (wSols r T r.gains.length []).length ≤ 1296 from HLEN.out)
    have HGL := Lib.hid hgl
    have hgn : 1 ≤ r.gains.length := by omega
    have hg4 : r.gains.length ≤ 4 := by omega
    have HGN := Lib.hid (And.intro hgn hg4)
    clear hgl hv hgn hg4
    go_wp2_with fail
    refine Calls.at fun W2 hW2 => ?_
    have hb2 := Lib.hid (show Below w.heap.size w W2 by subst hW2; exact (HB1.out.alloc hsz _).alloc (by simp; omega) _)
    have hbx := Lib.hid (show Box W2 w1.heap.size 36 (.slice none 0 0) by subst hW2; exact (Box.new w1 36 (.slice none 0 0)).below ((Below.refl _ _).alloc (Nat.le_refl _) _) (by simp))
    have hmx := Lib.hid (show Box W2 (w1.heap.size + 1) 37 (.float .f32 0) by subst hW2; simpa using Box.new (w1.alloc (.cells #[.slice none 0 0] 36)) 37 (.float .f32 0))
    have hk2 := Lib.hid (show Blk W2 w.heap.size 26 #[.int .i64 r.vars, .slice a1 r.nums.length c1, .slice a2 r.bnds.length c2, .slice a3 r.gains.length c3] by subst hW2; exact (HK1.out.alloc _).alloc _)
    have hz2 : W2.heap.size = w1.heap.size + 2 := by subst hW2; simp
    clear hW2 d0 d1 d2 d3
    refine (eachWhole_any r _ T r.gains.length HGL.out.symm HGN.out.2 (by omega) 100 Try.entersPW #[.pointer (some ⟨w.heap.size, 0, none⟩), .pointer (some ⟨w1.heap.size, 0, none⟩), .pointer (some ⟨w1.heap.size + 1, 0, none⟩)] (w1.heap.size + 2) (fun b => b = w1.heap.size ∨ b = w1.heap.size + 1) (by intro b hb; omega)
      (fun done w' => PQ (w1.heap.size + 2) w1.heap.size (w1.heap.size + 1) r.gains.length (wbAll r done) w' ∧ Below w1.heap.size W2 w') W2 ?_ ?_ ?_ r.gains.length none 0 [] W2 [] 0 rfl (by simp) (by omega) (World.ownsRow_nil _ _ _ _) (Kept.refl _ _) ?_ (by have := HL2.out; simp; omega)).mono ?_
    · intro X hX
      exact HP.out.up (hb2.out.trans (hX.toBelow (B := w.heap.size) hb2.out.size (by intro k h1 h2; omega))) (Nat.le_refl _)
    · rintro done wa wb ⟨hb, hbl⟩ h12
      exact ⟨hb.up h12, hbl.trans (h12.mono (by have := hbl.size; omega))⟩
    · rintro done s a cap m wa hm hmn hs hlen hka ⟨hb, hbl⟩
      refine (planW1_any (w1.heap.size + 2) w.heap.size w1.heap.size (w1.heap.size + 1) r.gains.length r a1 c1 a2 c2 a3 c3 (wbAll r done) s a cap m wa hm hmn HGN.out.1 (by have := HGN.out.2; omega) hs (by omega) (by omega) (by omega)
        (hk2.out.kept hka (by show ¬ (w.heap.size = w1.heap.size ∨ w.heap.size = w1.heap.size + 1); omega))
        (HP.out.up (hb2.out.trans (hka.toBelow (B := w.heap.size) hb2.out.size (by intro k h1 h2; omega))) (Nat.le_refl _)) hb).mono ?_
      rintro e wb ⟨rfl, h1, h2⟩
      refine ⟨rfl, ⟨by rw [wbAll_snoc]; exact h1, hbl.trans (h2.toBelow (by have := hbl.size; omega) (by intro k h1 h2; omega))⟩, h2⟩
    · exact ⟨⟨hmx.out, .inl ⟨rfl, hbx.out⟩⟩, Below.refl _ _⟩
    · rintro e wa ⟨rfl, ⟨hb, hbl⟩, hk⟩
      simp only [List.nil_append] at hb
      have HB := Lib.hid (hb2.out.trans (hbl.mono hsz))
      have hne := HNE.out
      obtain ⟨hm, hb⟩ := hb
      have cm := hm.cell
      obtain ⟨st, hst⟩ : ∃ st, st = wbAll r (wSols r T r.gains.length []) := ⟨_, rfl⟩
      rw [← hst] at cm hm hb HN
      obtain ⟨o, y⟩ := st
      simp only at cm hm hb
      clear hbl hk hst hm
      rcases hb with ⟨rfl, h2⟩ | ⟨s, g, cap, rfl, h2, h3⟩
      · have hc := h2.cell
        clear h2
        go_wp2_with fail
        go_quiet (fail)
        go_wp2_with fail
        go_ret3
        exact ⟨_, by unfold planY planOk; rw [HN.out]; rfl, by unfold planL; rw [HN.out]; exact ⟨World.ownsRow_nil _ _ _ _, by intro g hg; cases hg⟩, below_drewN HB.out _⟩
      · have hc := h2.cell
        have H3 := Lib.hid h3
        clear h2 h3
        go_wp2_with fail
        go_quiet (fail)
        go_wp2_with fail
        go_ret3
        exact ⟨_, by unfold planY planOk; rw [HN.out]; rfl, by unfold planL; rw [HN.out]; exact OwnI.mk (owns_base (owns_below H3.out (below_drewN (Below.refl _ _) _) (Nat.le_refl _)) (by omega)), below_drewN HB.out _⟩

end Go.Proofs.Ytkmbkjbammpdhaa

namespace Go.Proofs.Ytkmbkjbammpdhaa
open Go.RowKit

noncomputable def wbUp (r : RowsD) (B n : Nat) : Nat → WB
  | 0 => (none, 0)
  | N + 1 => if wholeB r (digB B n N) = true then wbStep r (wbUp r B n N) (digB B n N) else wbUp r B n N
theorem wbUp_succ (r : RowsD) (B n N : Nat) : wbUp r B n (N + 1) = if wholeB r (digB B n N) = true then wbStep r (wbUp r B n N) (digB B n N) else wbUp r B n N := rfl
theorem wbUp_all (r : RowsD) (top n : Nat) : wbAll r (wSols r top n []) = wbUp r (top + 1) n ((top + 1) ^ n) := by
  rw [wSols_dig]
  generalize (top + 1) ^ n = K
  induction K with
  | zero => rfl
  | succ K ih =>
    rw [List.range_succ, List.flatMap_append, wbUp_succ, ← ih]
    unfold wbAll
    rw [List.foldl_append]
    by_cases h : wholeB r (digB (top + 1) n K) = true <;> simp [h]

/-- The best one so far, in a slice of its own. -/
def BS (base n : Nat) (o : Option (List Int)) (bv : Value) (w : World) : Prop :=
  (o = none ∧ ∃ a, bv = .slice a 0 0) ∨ ∃ s gb cap, o = some s ∧ bv = .slice (some ⟨gb, 0, none⟩) n cap ∧ w.ownsRow base 2 1 (.slice (some ⟨gb, 0, none⟩) n cap) n (s.map I64)
theorem BS.up {base n : Nat} {o : Option (List Int)} {bv : Value} {w w' : World} (h : BS base n o bv w) (hb : Below w.heap.size w w') : BS base n o bv w' := by
  rcases h with h | ⟨s, gb, cap, h1, h2, h3⟩
  · exact .inl h
  · exact .inr ⟨s, gb, cap, h1, h2, owns_below h3 hb (Nat.le_refl _)⟩
theorem BS.kept {base n g : Nat} {o : Option (List Int)} {bv : Value} {w w' : World} (h : BS base n o bv w) (hk : Kept (· = g) w w') (hg : g < base) : BS base n o bv w' := by
  rcases h with h | ⟨s, gb, cap, h1, h2, h3⟩
  · exact .inl h
  · refine .inr ⟨s, gb, cap, h1, h2, owns_kept h3 hk ?_⟩
    intro b hb
    have := (owns_lt h3 hb).1
    show ¬ (b = g)
    omega

theorem specGain_b (q : Bool) (y : Nat) (v : Value) (r : RowsD) (u : Value) (x : List Nat) (w : World) (h : RdR w v r) (hu : RdF w u x) (hq : gainOk r x = q) (hy : gainV r x = y) :
    Calls Try.prog 103 #[v, u] w fun e w' => e = .returned (.tuple #[.float .f32 y, .bool q]) ∧ Below w.heap.size w w' := by
  have := specGain_any v r u x w h hu
  rw [hq, hy] at this
  exact this

set_option maxHeartbeats 4000000 in
set_option maxRecDepth 4000 in
theorem l07Best_any (bb : Nat) (a1 : Option Addr) (c1 : Nat) (a2 : Option Addr) (c2 : Nat) (a3 : Option Addr) (c3 : Nat) (r : RowsD) (T : Nat) (w : World) (ht : topB r (T : Int) = true)
    (hk : Blk w bb 26 #[.int .i64 r.vars, .slice a1 r.nums.length c1, .slice a2 r.bnds.length c2, .slice a3 r.gains.length c3]) (h : RdR w (.agg #[.int .i64 r.vars, .slice a1 r.nums.length c1, .slice a2 r.bnds.length c2, .slice a3 r.gains.length c3]) r) :
    Calls Try.prog 99 #[.pointer (some ⟨bb, 0, none⟩), .int .i64 T] w fun e w' => ∃ bv, e = .returned (.tuple #[bv, .float .f32 (planY r T), .bool (planOk r T)]) ∧ BS w.heap.size r.gains.length (planB r T).1 bv w' ∧ Below w.heap.size w w' := by
  obtain ⟨i0, hi, hz0, hz1, hz2⟩ := info_parts Try.infoI64
  have HP := Lib.hid h
  have HK := Lib.hid hk
  have HQ := Lib.hid ht
  obtain ⟨hv, h4, t1, t5⟩ := topB_parts ht
  have hgl := hv.gl
  obtain ⟨n, hn⟩ : ∃ n, n = r.gains.length := ⟨_, rfl⟩
  have HN := Lib.hid (show planB r (T : Int) = wbUp r (T + 1) n ((T + 1) ^ n) by unfold planB; rw [ht, if_pos rfl, ← wbUp_all, hn]; rfl)
  have hvn : r.vars = (n : Int) := by rw [hn]; exact hgl.symm
  have HVN := Lib.hid hvn
  have HNN := Lib.hid hn
  have hn4 : n ≤ 4 := by omega
  have hn1 : 1 ≤ n := by have := hv.v1; omega
  have d0 : w.cell? ⟨bb, 0, none⟩ = some (.int .i64 n) := by have := hk.cell 0 rfl; rwa [hvn] at this
  have hbw := hk.lt
  have hpw : (T + 1) ^ n ≤ 1296 := by
    have h2 : (T + 1) ^ n ≤ 6 ^ 4 := Nat.le_trans (Nat.pow_le_pow_left (by omega) _) (Nat.pow_le_pow_right (by decide) (by omega))
    have : 6 ^ 4 = 1296 := by decide
    omega
  have hpp : 0 < (T + 1) ^ n := Nat.pow_pos (by omega)
  obtain ⟨P, hP⟩ : ∃ P, P = (T + 1) ^ n := ⟨_, rfl⟩
  rw [← hP] at hpw hpp HN
  have HPP := Lib.hid hP
  have hn0 : ((n : Int) == 0) = false := by simp; omega
  clear hgl hv hn hvn h hk ht hP
  go_enter Try.func99, Try.ntmps99
  go_wp2_with (at_make; refine wpList_make_full _ rfl _ _ 36 rfl w.heap.size 2 i0 (.int .i64 0) 1 Try.underlying36 hi hz0 hz1 .i64 .i64 n n n rfl rfl rfl rfl (by rw [hz2]; omega) (by unfold maxLen; omega) (by simp) ?_; intro w2 hown hgrow)
  have hb2 : Below w.heap.size w w2 := (Below.refl _ _).grown hgrow (by simp) (by intro k hk; cases hk)
  have hg2 := (owns_lt hown (k := w.heap.size) (by first | rfl | (simp [Value.ownBlock]))).2
  have hz : (madeCells (Value.int .i64 0).cells (n * 1)).toList = (digB (T + 1) n 0).map I64 := by
    rw [digB_zero]; simpa [Value.cells, I64] using toList_madeCells_one (Value.int .i64 0) n
  rw [hz] at hown
  refine wp_at fun W hW => ?_
  have HZ := Lib.hid (show W.ownsRow w.heap.size 2 1 (.slice (some ⟨w.heap.size, 0, none⟩) n n) n ((digB (T + 1) n 0).map I64) by subst hW; exact hown.alloc _)
  have HB2 := Lib.hid (show Below w.heap.size w W by subst hW; exact hb2.alloc hb2.size _)
  have HK2 := Lib.hid (HK.out.below HB2.out hbw)
  have hWz : w2.heap.size ≤ W.heap.size := by subst hW; simp
  clear hW hown hb2 hgrow hz d0
  obtain ⟨g, hg⟩ : ∃ g, g = w.heap.size := ⟨_, rfl⟩
  rw [← hg] at HZ hg2
  have HG := Lib.hid hg
  have hgb : bb < g := by omega
  have hgB : g < w2.heap.size := hg2
  have hwg : w.heap.size ≤ g := by omega
  rw [show (Value.slice (some ⟨w.heap.size, 0, none⟩) n n) = Value.slice (some ⟨g, 0, none⟩) n n by rw [hg]]
  clear hg
  go_loopw [8, 9, 10] (fun bv my m wr => ∃ N : Nat, ∃ bv' : Value, bv' = bv ∧ N ≤ P ∧ w2.heap.size ≤ wr.heap.size ∧ Hid (BS w2.heap.size n (wbUp r (T + 1) n N).1 bv' wr) ∧ my = .float .f32 (wbUp r (T + 1) n N).2 ∧ m = .bool (decide (N < P)) ∧ Hid (wr.ownsRow w.heap.size 2 1 (.slice (some ⟨g, 0, none⟩) n n) n ((digB (T + 1) n (N % P)).map I64)) ∧ Hid (Blk wr bb 26 #[.int .i64 r.vars, .slice a1 r.nums.length c1, .slice a2 r.bnds.length c2, .slice a3 r.gains.length c3]) ∧ Hid (Below w.heap.size w wr)) (fun _ _ m wr => match m with | .bool true => P - digAt (T + 1) g n wr | _ => 0)
  case atStart => exact ⟨0, _, rfl, Nat.zero_le _, hWz, Lib.hid (.inl ⟨rfl, _, rfl⟩), rfl, by rw [decide_eq_true hpp], by rw [Nat.zero_mod]; exact Lib.hid (owns_base HZ.out (by omega)), HK2, HB2⟩
  case round =>
    obtain ⟨N, bv, rfl, hN, hwr2, HBS1, rfl, rfl, HO1, HK1, HB1⟩ := hrel
    have hwz1 := HB1.out.size
    by_cases hlt : N < P
    · have HUP := Lib.hid (wbUp_succ r (T + 1) n N)
      rw [decide_eq_true hlt]
      have HO2 := Lib.hid (show wr.ownsRow w.heap.size 2 1 (.slice (some ⟨g, 0, none⟩) n n) n ((digB (T + 1) n N).map I64) by have := HO1.out; rwa [Nat.mod_eq_of_lt hlt] at this)
      have HNX := Lib.hid (show nextL (T : Int) (digB (T + 1) n N) = (decide (N + 1 < P), digB (T + 1) n ((N + 1) % P)) by have := next_dig T n N (by rw [← HPP.out]; exact hlt); rwa [← HPP.out] at this)
      have HAT := Lib.hid (fun i hi => digB_at (T + 1) (by omega) n N i (by rw [← HPP.out]; exact hlt) hi)
      have HXL := Lib.hid (digB_len (T + 1) n N)
      have HMU := Lib.hid (digAt_owns (by omega) HO2.out)
      obtain ⟨st, hst⟩ : ∃ st, st = wbUp r (T + 1) n N := ⟨_, rfl⟩
      rw [← hst] at HUP HBS1
      rw [← hst]
      clear hst
      obtain ⟨x, hx⟩ : ∃ x, x = digB (T + 1) n N := ⟨_, rfl⟩
      rw [← hx] at HUP HO2 HNX HAT HXL
      clear hx HO1
      obtain ⟨q, hq⟩ : ∃ q, q = wholeB r x := ⟨_, rfl⟩
      have HWQ := Lib.hid (show wokB r x T = q by
        unfold wokB
        rw [show ((x.length : Int) == r.vars) = true by rw [HXL.out, HVN.out]; simp, allB_true (fun j hj => ?_), ← hq]
        · simp
        · have hj2 := HAT.out j (by have := HXL.out; omega)
          exact inB_iff.2 ⟨hj2.1, by omega⟩)
      rw [← hq] at HUP
      clear hq
      have HEND := Lib.hid (show ∀ w4 : World, w4.ownsRow w.heap.size 2 1 (.slice (some ⟨g, 0, none⟩) n n) n ((digB (T + 1) n ((N + 1) % P)).map I64) → (match Value.bool (decide (N + 1 < P)) with | .bool true => P - digAt (T + 1) g n w4 | _ => 0) < P - N by
        intro w4 ho
        by_cases h1 : N + 1 < P
        · rw [Nat.mod_eq_of_lt h1] at ho
          rw [decide_eq_true h1]
          have := digAt_owns (by omega) ho
          simp only [this]
          omega
        · rw [decide_eq_false h1]
          simp only
          omega)
      obtain ⟨o, z⟩ := st
      simp only at HBS1
      obtain ⟨ba, bl, bc, hbv, hbl⟩ : ∃ ba bl bc, bv = .slice ba bl bc ∧ bl ≤ 4 := by
        rcases HBS1.out with ⟨_, a, h⟩ | ⟨_, _, _, _, h, _⟩
        · exact ⟨_, _, _, h, by omega⟩
        · exact ⟨_, _, _, h, hn4⟩
      subst hbv
      go_wp2_with fail
      have hsl : RdI wr (.slice (some ⟨g, 0, none⟩) n n) x := slc_of_owns HO2.out
      refine (l07Whole_any bb _ _ _ _ r _ x T wr HK1.out (HP.out.up HB1.out (Nat.le_refl _)) hsl (by rw [HVN.out]; omega)).mono ?_
      rintro e w3 ⟨rfl, hb3⟩
      rw [HWQ.out]
      have HO3 := Lib.hid (owns_below HO2.out hb3 (Nat.le_refl _))
      have HK3 := Lib.hid (HK1.out.below hb3 HK1.out.lt)
      have HB3 := Lib.hid (HB1.out.trans (hb3.mono hwz1))
      have HBS3 := Lib.hid (HBS1.out.up hb3)
      have hz13 := hb3.size
      clear hb3 hsl
      cases q
      · have HU2 := Lib.hid (show wbUp r (T + 1) n (N + 1) = (o, z) by rw [HUP.out]; rfl)
        clear HUP
        go_wp2_with fail
        refine (l07Next_any w.heap.size g n x n (T : Int) w3 HXL.out (by omega) t5 (fun i hi => (HAT.out i hi).1) HO3.out).mono ?_
        rintro e w4 ⟨rfl, ho4, hk4⟩
        rw [HNX.out] at ho4 ⊢
        have hz4 := hk4.size
        have HB4 := Lib.hid (HB3.out.trans (hk4.toBelow HB3.out.size (by rintro k h1 rfl; omega)))
        have HK4 := Lib.hid (HK3.out.kept hk4 (by show ¬ (bb = g); omega))
        have HBS4 := Lib.hid (HBS3.out.kept hk4 hgB)
        have HO4 := Lib.hid ho4
        clear ho4 hk4
        go_wp2_with fail
        go_roundw
        case rel => exact ⟨N + 1, _, rfl, hlt, by omega, by rw [HU2.out]; exact HBS4, by rw [HU2.out], rfl, HO4, HK4, HB4⟩
        case measure => simp only [HMU.out]; exact HEND.out _ HO4.out
      · have d0 : w3.cell? ⟨bb, 0, none⟩ = some (.int .i64 r.vars) := HK3.out.cell 0 rfl
        have d1 : w3.cell? ⟨bb, 1, none⟩ = some (.slice a1 r.nums.length c1) := HK3.out.cell 1 rfl
        have d2 : w3.cell? ⟨bb, 2, none⟩ = some (.slice a2 r.bnds.length c2) := HK3.out.cell 2 rfl
        have d3 : w3.cell? ⟨bb, 3, none⟩ = some (.slice a3 r.gains.length c3) := HK3.out.cell 3 rfl
        have HU1 := Lib.hid (show wbUp r (T + 1) n (N + 1) = wbStep r (o, z) x by rw [HUP.out]; rfl)
        clear HUP
        obtain ⟨q, hq⟩ : ∃ q, gainOk r (x.map fI) = q := ⟨_, rfl⟩
        obtain ⟨y, hy⟩ : ∃ y, gainV r (x.map fI) = y := ⟨_, rfl⟩
        have HGQ := Lib.hid hq
        have HGY := Lib.hid hy
        clear hq hy
        have hx8 : x.length ≤ 8 := by have := HXL.out; omega
        go_wp2_with fail
        go_region_held3 (fun X => X.cell? ⟨bb, 0, none⟩ = some (.int .i64 r.vars) ∧ X.cell? ⟨bb, 1, none⟩ = some (.slice a1 r.nums.length c1) ∧ X.cell? ⟨bb, 2, none⟩ = some (.slice a2 r.bnds.length c2) ∧ X.cell? ⟨bb, 3, none⟩ = some (.slice a3 r.gains.length c3) ∧ Below w3.heap.size w3 X)
          (first | exact ⟨held_of hbn d0 (Nat.le_refl _), held_of hbn d1 (Nat.le_refl _), held_of hbn d2 (Nat.le_refl _), held_of hbn d3 (Nat.le_refl _), hbn⟩ | exact ⟨d0, d1, d2, d3, (Below.refl _ _).drew⟩)
          (first
            | (go_at_call 104; have hh := (‹_ ∧ _ ∧ _ ∧ _ ∧ Below w3.heap.size w3 _›).2.2.2.2; refine (l07Floats_any _ x _ (Slc.below (slc_of_owns HO3.out) hh (Nat.le_refl _)) (by omega)).mono ?_; rintro e w1 ⟨nu, rfl, hnu, hb1⟩; have hbn := hh.trans (hb1.mono hh.size))
            | (go_at_call 103; have hh := (‹_ ∧ _ ∧ _ ∧ _ ∧ Below w3.heap.size w3 _›).2.2.2.2; refine (specGain_b q y _ r _ (x.map fI) _ (HP.out.up (HB3.out.trans (hh.mono HB3.out.size)) (Nat.le_refl _)) hnu HGQ.out HGY.out).mono ?_; rintro e w2' ⟨rfl, hb2⟩; have hbn := hh.trans (hb2.mono hh.size))
            | fail)
        have hb5 : Below w3.heap.size w3 w2' := hbn
        have HO5 := Lib.hid (owns_below HO3.out hb5 (Nat.le_refl _))
        have HK5 := Lib.hid (HK3.out.below hb5 HK3.out.lt)
        have HB5 := Lib.hid (HB3.out.trans (hb5.mono HB3.out.size))
        have HBS5 := Lib.hid (HBS3.out.up hb5)
        have hz5 := hb5.size
        clear hbn hb5 d0 d1 d2 d3
        cases q
        · have HU2 := Lib.hid (show wbUp r (T + 1) n (N + 1) = (o, z) by rw [HU1.out]; exact wbStep_no HGQ.out)
          go_wp2_with fail
          refine (l07Next_any w.heap.size g n x n (T : Int) w2' HXL.out (by omega) t5 (fun i hi => (HAT.out i hi).1) HO5.out).mono ?_
          rintro e w4 ⟨rfl, ho4, hk4⟩
          rw [HNX.out] at ho4 ⊢
          have hz4 := hk4.size
          have HB4 := Lib.hid (HB5.out.trans (hk4.toBelow HB5.out.size (by rintro k h1 rfl; omega)))
          have HK4 := Lib.hid (HK5.out.kept hk4 (by show ¬ (bb = g); omega))
          have HBS4 := Lib.hid (HBS5.out.kept hk4 hgB)
          have HO4 := Lib.hid ho4
          clear ho4 hk4
          go_wp2_with fail
          go_roundw
          case rel => exact ⟨N + 1, _, rfl, hlt, by omega, by rw [HU2.out]; exact HBS4, by rw [HU2.out], rfl, HO4, HK4, HB4⟩
          case measure => simp only [HMU.out]; exact HEND.out _ HO4.out
        · rcases HBS5.out with ⟨rfl, a, he⟩ | ⟨t, gb0, cap0, rfl, he, ho0⟩
          · simp only [Value.slice.injEq] at he
            obtain ⟨rfl, rfl, rfl⟩ := he
            have HU2 := Lib.hid (show wbUp r (T + 1) n (N + 1) = (some x, y) by rw [HU1.out, ← HGY.out]; exact wbStep_first HGQ.out)
            go_wp2_with (at_builtin; refine app_own rfl _ _ rfl w2'.heap.size ⟨w2'.heap.size, 0, none⟩ 0 0 [] rfl (owns_empty w2') _ x rfl (Slc.below (slc_of_owns HO5.out) ((Below.refl _ _).alloc (Nat.le_refl _) _) (Nat.le_refl _)) n x (by have := HXL.out; simp; omega) (by simp) (by omega) (by simp) ?_; intro gb cap6 w6 hown hbl hg6)
            have hb6 : Below w2'.heap.size w2' w6 := ((Below.refl _ _).alloc (Nat.le_refl _) _).trans hbl
            have hz6 := hb6.size
            have HO6 := Lib.hid (owns_below HO5.out hb6 (Nat.le_refl _))
            have HK6 := Lib.hid (HK5.out.below hb6 HK5.out.lt)
            have HB6 := Lib.hid (HB5.out.trans (hb6.mono HB5.out.size))
            have HBS6 : Hid (BS w2.heap.size n (some x) (.slice (some ⟨gb, 0, none⟩) n cap6) w6) := Lib.hid (.inr ⟨x, gb, cap6, rfl, rfl, owns_base hown (by omega)⟩)
            clear hown hbl hg6 hb6
            go_wp2_with fail
            refine (l07Next_any w.heap.size g n x n (T : Int) w6 HXL.out (by omega) t5 (fun i hi => (HAT.out i hi).1) HO6.out).mono ?_
            rintro e w4 ⟨rfl, ho4, hk4⟩
            rw [HNX.out] at ho4 ⊢
            have hz4 := hk4.size
            have HB4 := Lib.hid (HB6.out.trans (hk4.toBelow HB6.out.size (by rintro k h1 rfl; omega)))
            have HK4 := Lib.hid (HK6.out.kept hk4 (by show ¬ (bb = g); omega))
            have HBS4 := Lib.hid (HBS6.out.kept hk4 hgB)
            have HO4 := Lib.hid ho4
            clear ho4 hk4
            go_wp2_with fail
            go_roundw
            case rel => exact ⟨N + 1, _, rfl, hlt, by omega, by rw [HU2.out]; exact HBS4, by rw [HU2.out], rfl, HO4, HK4, HB4⟩
            case measure => simp only [HMU.out]; exact HEND.out _ HO4.out
          · simp only [Value.slice.injEq] at he
            obtain ⟨rfl, hbln, rfl⟩ := he
            have hbln' := hbln.symm
            subst hbln'
            clear hbln
            cases hq : gtB y z
            · have hq' : (FloatKind.f32.format.order y z == some .gt) = false := hq
              have HU2 := Lib.hid (show wbUp r (T + 1) n (N + 1) = (some t, z) by rw [HU1.out]; exact wbStep_less HGQ.out (by rw [HGY.out]; exact hq))
              clear hq ho0
              go_wp2_with fail
              refine (l07Next_any w.heap.size g n x n (T : Int) w2' HXL.out (by omega) t5 (fun i hi => (HAT.out i hi).1) HO5.out).mono ?_
              rintro e w4 ⟨rfl, ho4, hk4⟩
              rw [HNX.out] at ho4 ⊢
              have hz4 := hk4.size
              have HB4 := Lib.hid (HB5.out.trans (hk4.toBelow HB5.out.size (by rintro k h1 rfl; omega)))
              have HK4 := Lib.hid (HK5.out.kept hk4 (by show ¬ (bb = g); omega))
              have HBS4 := Lib.hid (HBS5.out.kept hk4 hgB)
              have HO4 := Lib.hid ho4
              clear ho4 hk4
              go_wp2_with fail
              go_roundw
              case rel => exact ⟨N + 1, _, rfl, hlt, by omega, by rw [HU2.out]; exact HBS4, by rw [HU2.out], rfl, HO4, HK4, HB4⟩
              case measure => simp only [HMU.out]; exact HEND.out _ HO4.out
            · have hq' : (FloatKind.f32.format.order y z == some .gt) = true := hq
              have HU2 := Lib.hid (show wbUp r (T + 1) n (N + 1) = (some x, y) by rw [HU1.out, ← HGY.out]; exact wbStep_more HGQ.out (by rw [HGY.out]; exact hq))
              clear hq ho0
              go_wp2_with (at_builtin; refine app_own rfl _ _ rfl w2'.heap.size ⟨w2'.heap.size, 0, none⟩ 0 0 [] rfl (owns_empty w2') _ x rfl (Slc.below (slc_of_owns HO5.out) ((Below.refl _ _).alloc (Nat.le_refl _) _) (Nat.le_refl _)) n x (by have := HXL.out; simp; omega) (by simp) (by omega) (by simp) ?_; intro gb cap6 w6 hown hbl hg6)
              have hb6 : Below w2'.heap.size w2' w6 := ((Below.refl _ _).alloc (Nat.le_refl _) _).trans hbl
              have hz6 := hb6.size
              have HO6 := Lib.hid (owns_below HO5.out hb6 (Nat.le_refl _))
              have HK6 := Lib.hid (HK5.out.below hb6 HK5.out.lt)
              have HB6 := Lib.hid (HB5.out.trans (hb6.mono HB5.out.size))
              have HBS6 : Hid (BS w2.heap.size n (some x) (.slice (some ⟨gb, 0, none⟩) n cap6) w6) := Lib.hid (.inr ⟨x, gb, cap6, rfl, rfl, owns_base hown (by omega)⟩)
              clear hown hbl hg6 hb6
              go_wp2_with fail
              refine (l07Next_any w.heap.size g n x n (T : Int) w6 HXL.out (by omega) t5 (fun i hi => (HAT.out i hi).1) HO6.out).mono ?_
              rintro e w4 ⟨rfl, ho4, hk4⟩
              rw [HNX.out] at ho4 ⊢
              have hz4 := hk4.size
              have HB4 := Lib.hid (HB6.out.trans (hk4.toBelow HB6.out.size (by rintro k h1 rfl; omega)))
              have HK4 := Lib.hid (HK6.out.kept hk4 (by show ¬ (bb = g); omega))
              have HBS4 := Lib.hid (HBS6.out.kept hk4 hgB)
              have HO4 := Lib.hid ho4
              clear ho4 hk4
              go_wp2_with fail
              go_roundw
              case rel => exact ⟨N + 1, _, rfl, hlt, by omega, by rw [HU2.out]; exact HBS4, by rw [HU2.out], rfl, HO4, HK4, HB4⟩
              case measure => simp only [HMU.out]; exact HEND.out _ HO4.out
    · obtain rfl : N = P := by omega
      rw [decide_eq_false hlt]
      rw [← HN.out] at HBS1 ⊢
      have HPY := Lib.hid (show planY r (T : Int) = (planB r (T : Int)).2 from rfl)
      have HPO := Lib.hid (show planOk r (T : Int) = (planB r (T : Int)).1.isSome from rfl)
      rw [← HPY.out]
      rcases HBS1.out with ⟨h1, a, rfl⟩ | ⟨s, gb, cap, h1, rfl, h3⟩
      · have H1 := Lib.hid h1
        clear h1
        go_wp2_with fail
        go_ret3
        exact ⟨_, by rw [HPO.out, H1.out]; rfl, by rw [← HNN.out]; exact .inl ⟨H1.out, _, rfl⟩, HB1.out⟩
      · have H1 := Lib.hid h1
        have H3 := Lib.hid h3
        have hp1 : 0 < n := by omega
        clear h1 h3
        go_wp2_with fail
        go_ret3
        exact ⟨_, by rw [HPO.out, H1.out]; rfl, by rw [← HNN.out]; exact .inr ⟨s, gb, cap, H1.out, rfl, owns_base H3.out (by omega)⟩, HB1.out⟩

end Go.Proofs.Ytkmbkjbammpdhaa
