/-
  FnExactWholeGap: texts joined: PlanW, PlanI, GapM, GapI, OwnB, TabS.
-/
import Derived.Test.YtkfiepiipigcmaaMEWholeGapAB
import Derived.Test.YtkfiepiipigcmaaMEWholeGapAD
import Derived.Test.YtkfiepiipigcmaaMEWholeGapAF
import Derived.Test.YtkfiepiipigcmaaMEWholeGapAG
import Derived.Test.YtkfiepiipigcmaaMEWholeGapAK
import Derived.Test.YtkfiepiipigcmaaMEWholeGapAM
namespace Go.Proofs.Ytkfiepiipigcmaa
open Go.RowKit

abbrev WB := Option (List Int) × Nat
def gtB (x y : Nat) : Bool := FloatKind.f32.format.order x y == some .gt
noncomputable def wbStep (r : RowsD) (b : WB) (s : List Int) : WB := if (gainOk r (s.map fI) && (b.1.isNone || gtB (gainV r (s.map fI)) b.2)) = true then (some s, gainV r (s.map fI)) else b
noncomputable def wbAll (r : RowsD) (l : List (List Int)) : WB := l.foldl (wbStep r) (none, 0)
theorem wbAll_snoc (r : RowsD) (l : List (List Int)) (s : List Int) : wbAll r (l ++ [s]) = wbStep r (wbAll r l) s := by simp [wbAll]

theorem wbStep_no {r : RowsD} {b : WB} {s : List Int} (h : gainOk r (s.map fI) = false) : wbStep r b s = b := by unfold wbStep; rw [h]; rfl
theorem wbStep_first {r : RowsD} {x : Nat} {s : List Int} (h : gainOk r (s.map fI) = true) : wbStep r (none, x) s = (some s, gainV r (s.map fI)) := by unfold wbStep; rw [h]; rfl
theorem wbStep_more {r : RowsD} {x : Nat} {t s : List Int} (h : gainOk r (s.map fI) = true) (hq : gtB (gainV r (s.map fI)) x = true) : wbStep r (some t, x) s = (some s, gainV r (s.map fI)) := by unfold wbStep; rw [h]; simp [hq]
theorem wbStep_less {r : RowsD} {x : Nat} {t s : List Int} (h : gainOk r (s.map fI) = true) (hq : gtB (gainV r (s.map fI)) x = false) : wbStep r (some t, x) s = (some t, x) := by unfold wbStep; rw [h]; simp [hq]

/-- The best one so far, in two variables. -/
def PQ (B0 bb mb n : Nat) (st : WB) (w : World) : Prop :=
  Box w mb 63 (.float .f32 st.2) ∧ ((st.1 = none ∧ Box w bb 24 (.slice none 0 0)) ∨ ∃ s g cap, st.1 = some s ∧ Box w bb 24 (.slice (some ⟨g, 0, none⟩) n cap) ∧ w.ownsRow B0 2 1 (.slice (some ⟨g, 0, none⟩) n cap) n (s.map I64))
theorem PQ.up {B0 bb mb n : Nat} {st : WB} {w w' : World} (h : PQ B0 bb mb n st w) (hb : Below w.heap.size w w') : PQ B0 bb mb n st w' := by
  obtain ⟨h1, h2⟩ := h
  refine ⟨h1.below hb h1.lt, ?_⟩
  rcases h2 with ⟨h2, h3⟩ | ⟨s, g, cap, h2, h3, h4⟩
  · exact .inl ⟨h2, h3.below hb h3.lt⟩
  · exact .inr ⟨s, g, cap, h2, h3.below hb h3.lt, owns_below h4 hb (Nat.le_refl _)⟩

theorem Box.other' {w : World} {b : Nat} {t : TypeId} {v : Value} (h : Box w b t v) {c : Nat} (hc : b ≠ c) (u : Value) : Box (w.setCell ⟨c, 0, none⟩ u) b t v := h.kept (Kept.setCell (S := (· = c)) (p := ⟨c, 0, none⟩) (Kept.refl _ _) (.inr rfl) _) hc
theorem PQ.set {B0 bb mb n g0 cap x y : Nat} {z : Value} {s : List Int} {w : World} (hbb : bb < B0) (hmb : mb < B0) (hne : bb ≠ mb) (hg0 : B0 ≤ g0) (h1 : Box w bb 24 z) (h2 : Box w mb 63 (.float .f32 x)) (h3 : w.ownsRow B0 2 1 (.slice (some ⟨g0, 0, none⟩) n cap) n (s.map I64)) :
    PQ B0 bb mb n (some s, y) ((w.setCell ⟨bb, 0, none⟩ (.slice (some ⟨g0, 0, none⟩) n cap)).setCell ⟨mb, 0, none⟩ (.float .f32 y)) := by
  refine ⟨(h2.other' (by omega) _).set _, .inr ⟨s, g0, cap, rfl, (h1.set _).other' hne _, ?_⟩⟩
  exact owns_other (owns_other h3 (by simp [Value.ownBlock]; omega) _) (by simp [Value.ownBlock]; omega) _

theorem Try.entersPW (args : Array Value) (w : World) : (callFunc 124 args).run Try.prog w = .ok (.enter 124 args) w :=
  enters_of Try.func124 (by kernel_rfl) rfl args w

theorem implGain_b (q : Bool) (y : Nat) (v : Value) (r : RowsD) (u : Value) (x : List Nat) (w : World) (h : RdR w v r) (hu : RdF w u x) (hq : gainOk r x = q) (hy : gainV r x = y) :
    Calls Try.prog 91 #[v, u] w fun e w' => e = .returned (.tuple #[.float .f32 y, .bool q]) ∧ Below w.heap.size w w' := by
  have := implGain_any v r u x w h hu
  rw [hq, hy] at this
  exact this

set_option maxHeartbeats 4000000 in
set_option maxRecDepth 4000 in
theorem planW1_any (B0 rb bb mb n : Nat) (r : RowsD) (a1 : Option Addr) (c1 : Nat) (a2 : Option Addr) (c2 : Nat) (a3 : Option Addr) (c3 : Nat) (st : WB) (s : List Int) (a : Option Addr) (cap m : Nat) (w : World)
    (hm : s.length = m) (hmn : m = n) (h1 : 1 ≤ n) (hn8 : n ≤ 8) (hs : w.ownsRow B0 2 1 (.slice a m cap) m (s.map I64)) (hbb : bb < B0) (hmb : mb < B0) (hne : bb ≠ mb)
    (hk : Blk w rb 67 #[.int .i64 r.vars, .slice a1 r.nums.length c1, .slice a2 r.bnds.length c2, .slice a3 r.gains.length c3]) (hr : RdR w (.agg #[.int .i64 r.vars, .slice a1 r.nums.length c1, .slice a2 r.bnds.length c2, .slice a3 r.gains.length c3]) r) (h : PQ B0 bb mb n st w) :
    Calls Try.prog 124 (#[.slice a m cap] ++ #[.pointer (some ⟨rb, 0, none⟩), .pointer (some ⟨bb, 0, none⟩), .pointer (some ⟨mb, 0, none⟩)]) w fun e w' =>
      e = .returned (.tuple #[]) ∧ PQ B0 bb mb n (wbStep r st s) w' ∧ Kept (fun b => b = bb ∨ b = mb) w w' := by
  subst hm
  subst hmn
  have heq := fun (w : World) (a : Option Addr) (n c : Nat) => Lib.run_eql_slice_nil (P := Try.prog) w 24 2 a n c 0 0 Try.underlying24
  obtain ⟨g0, rfl, hg0⟩ := owns_slice_some hs (by omega)
  have HS := Lib.hid hs
  have HR := Lib.hid hr
  have HPQ := Lib.hid h
  have HKB := Lib.hid hk
  have d0 : w.cell? ⟨rb, 0, none⟩ = some (.int .i64 r.vars) := hk.cell 0 rfl
  have d1 : w.cell? ⟨rb, 1, none⟩ = some (.slice a1 r.nums.length c1) := hk.cell 1 rfl
  have d2 : w.cell? ⟨rb, 2, none⟩ = some (.slice a2 r.bnds.length c2) := hk.cell 2 rfl
  have d3 : w.cell? ⟨rb, 3, none⟩ = some (.slice a3 r.gains.length c3) := hk.cell 3 rfl
  obtain ⟨q, hq⟩ : ∃ q, gainOk r (s.map fI) = q := ⟨_, rfl⟩
  obtain ⟨y, hy⟩ : ∃ y, gainV r (s.map fI) = y := ⟨_, rfl⟩
  have HQ := Lib.hid hq
  have HY := Lib.hid hy
  clear hs hr h hq hy hk
  go_enter Try.func124, Try.ntmps124
  go_wp2_with fail
  go_region_held3 (fun X => X.cell? ⟨rb, 0, none⟩ = some (.int .i64 r.vars) ∧ X.cell? ⟨rb, 1, none⟩ = some (.slice a1 r.nums.length c1) ∧ X.cell? ⟨rb, 2, none⟩ = some (.slice a2 r.bnds.length c2) ∧ X.cell? ⟨rb, 3, none⟩ = some (.slice a3 r.gains.length c3) ∧ Below w.heap.size w X)
    (first | exact ⟨held_of hbn d0 (Nat.le_refl _), held_of hbn d1 (Nat.le_refl _), held_of hbn d2 (Nat.le_refl _), held_of hbn d3 (Nat.le_refl _), hbn⟩ | exact ⟨d0, d1, d2, d3, (Below.refl _ _).drew⟩)
    (first
      | (go_at_call 125; have hh := (‹_ ∧ _ ∧ _ ∧ _ ∧ Below w.heap.size w _›).2.2.2.2; refine (asNumbers_any _ s _ (Slc.below (slc_of_owns HS.out) hh (Nat.le_refl _)) (by omega)).mono ?_; rintro e w1 ⟨nu, rfl, hnu, hb1⟩; have hbn := hh.trans (hb1.mono hh.size))
      | (go_at_call 91; have hh := (‹_ ∧ _ ∧ _ ∧ _ ∧ Below w.heap.size w _›).2.2.2.2; refine (implGain_b q y _ r _ (s.map fI) _ (HR.out.up hh (Nat.le_refl _)) hnu HQ.out HY.out).mono ?_; rintro e w2 ⟨rfl, hb2⟩; have hbn := hh.trans (hb2.mono hh.size))
      | fail)
  have HB := Lib.hid hbn
  clear hbn d0 d1 d2 d3
  have HS2 := Lib.hid (owns_below HS.out HB.out (Nat.le_refl _))
  have HK2 := Lib.hid (Kept.of_below (S := fun b => b = bb ∨ b = mb) HB.out (Nat.le_refl _))
  have HPQ2 := Lib.hid (HPQ.out.up HB.out)
  obtain ⟨o, x⟩ := st
  clear HPQ
  cases q
  · have HN := Lib.hid (wbStep_no (b := (o, x)) HQ.out)
    go_wp2_with fail
    go_end0
    exact ⟨rfl, by rw [HN.out]; exact HPQ2.out, HK2.out⟩
  · obtain ⟨hm, hb⟩ := HPQ2.out
    have cm := hm.cell
    have fm := hm.free
    have HM := Lib.hid hm
    simp only at cm hb
    rcases hb with ⟨rfl, hb⟩ | ⟨t, g, cap', rfl, hb, ho⟩
    · have cb := hb.cell
      have fb := hb.free
      have HBB := Lib.hid hb
      have HN := Lib.hid (wbStep_first (x := x) HQ.out)
      clear hm hb
      go_wp2_with fail
      go_end0
      refine ⟨rfl, ?_, Kept.setCell (Kept.setCell HK2.out (.inr (.inl rfl)) _) (.inr (.inr rfl)) _⟩
      rw [HN.out, HY.out]
      exact PQ.set hbb hmb hne hg0 HBB.out HM.out HS2.out
    · have cb := hb.cell
      have fb := hb.free
      have HBB := Lib.hid hb
      cases hq : gtB y x
      · have hq' : (FloatKind.f32.format.order y x == some .gt) = false := hq
        have HN := Lib.hid (wbStep_less (t := t) HQ.out (by rw [HY.out]; exact hq))
        clear hm hb hq ho
        go_wp2_with fail
        go_end0
        exact ⟨rfl, by rw [HN.out]; exact HPQ2.out, HK2.out⟩
      · have hq' : (FloatKind.f32.format.order y x == some .gt) = true := hq
        have HN := Lib.hid (wbStep_more (t := t) HQ.out (by rw [HY.out]; exact hq))
        clear hm hb hq ho
        go_wp2_with fail
        go_end0
        refine ⟨rfl, ?_, Kept.setCell (Kept.setCell HK2.out (.inr (.inl rfl)) _) (.inr (.inr rfl)) _⟩
        rw [HN.out, HY.out]
        exact PQ.set hbb hmb hne hg0 HBB.out HM.out HS2.out

end Go.Proofs.Ytkfiepiipigcmaa

namespace Go.Proofs.Ytkfiepiipigcmaa
open Go.RowKit

noncomputable def planB (r : RowsD) (top : Int) : WB := if topB r top = true then wbAll r (wSolsT r top) else (none, 0)
noncomputable def planL (r : RowsD) (top : Int) : List Int := (planB r top).1.getD []
noncomputable def planY (r : RowsD) (top : Int) : Nat := (planB r top).2
noncomputable def planOk (r : RowsD) (top : Int) : Bool := (planB r top).1.isSome

theorem wbStep_len {r : RowsD} {b : WB} {s t : List Int} (h : (wbStep r b s).1 = some t) : t = s ∨ b.1 = some t := by
  unfold wbStep at h
  split at h
  · left; simpa using h.symm
  · right; exact h
theorem wbAll_mem {r : RowsD} {l : List (List Int)} : ∀ {t : List Int}, (wbAll r l).1 = some t → t ∈ l := by
  suffices H : ∀ (l : List (List Int)) (b : WB) (t : List Int), (l.foldl (wbStep r) b).1 = some t → t ∈ l ∨ b.1 = some t by
    intro t h
    rcases H l (none, 0) t h with h | h
    · exact h
    · cases h
  intro l
  induction l with
  | nil => intro b t h; exact .inr h
  | cons s l ih =>
    intro b t h
    rcases ih _ t h with h | h
    · exact .inl (List.mem_cons_of_mem _ h)
    · rcases wbStep_len h with rfl | h
      · exact .inl (List.mem_cons_self ..)
      · exact .inr h
theorem wbStep_zero {r : RowsD} {b : WB} {s : List Int} (h0 : b.1 = none → b.2 = 0) (h : (wbStep r b s).1 = none) : (wbStep r b s).2 = 0 := by
  unfold wbStep at h ⊢
  split at h
  · cases h
  · next hn => rw [if_neg hn]; exact h0 h
theorem wbAll_zero {r : RowsD} {l : List (List Int)} (h : (wbAll r l).1 = none) : (wbAll r l).2 = 0 := by
  suffices H : ∀ (l : List (List Int)) (b : WB), (b.1 = none → b.2 = 0) → (l.foldl (wbStep r) b).1 = none → (l.foldl (wbStep r) b).2 = 0 from H l (none, 0) (fun _ => rfl) h
  intro l
  induction l with
  | nil => intro b h0 h; exact h0 h
  | cons s l ih => intro b h0 h; exact ih _ (fun h1 => wbStep_zero h0 h1) h
theorem wSols_mem (r : RowsD) (top : Nat) : ∀ (f : Nat) (now s : List Int), s ∈ wSols r top f now → s.length = now.length + f
  | 0, now, s, h => by
    unfold wSols at h
    split at h <;> simp_all
  | f + 1, now, s, h => by
    rw [wSols_succ] at h
    unfold wPart at h
    obtain ⟨k, _, h⟩ := List.mem_flatMap.1 h
    have := wSols_mem r top f _ s h
    simp at this
    omega
theorem planL_cnt (r : RowsD) (top : Int) : cntI (planL r top) ≤ 1048576 := by
  unfold cntI planL planB
  split
  · next h =>
    cases e : (wbAll r (wSolsT r top)).1 with
    | none => simp
    | some s =>
      have h1 := wSols_mem _ _ _ _ _ (wbAll_mem e)
      obtain ⟨hv, h4, _, _⟩ := topB_parts h
      have := hv.gl
      simp at h1
      simp
      omega
  · simp

set_option maxHeartbeats 2000000 in
set_option maxRecDepth 4000 in
theorem implWP_any (v : Value) (r : RowsD) (top : Int) (w : World) (h : RdR w v r) :
    Calls Try.prog 92 #[v, .int .i64 top] w fun e w' => ∃ v', e = .returned (.tuple #[v', .float .f32 (planY r top), .bool (planOk r top)]) ∧ OwnI w.heap.size w'.heap.size w' v' (planL r top) ∧ Below w.heap.size w w' := by
  obtain ⟨a1, c1, a2, c2, a3, c3, rfl⟩ := h.shape
  have HP := Lib.hid h
  have HNE := Lib.hid (fun (w : World) (a : Option Addr) (n c : Nat) => run_neq_slice_nil_any (P := Try.prog) w 24 2 a n c 0 0 Try.underlying24)
  clear h
  obtain ⟨q, hq⟩ : ∃ q, topB r top = q := ⟨_, rfl⟩
  have HQ := Lib.hid hq
  clear hq
  go_enter Try.func92, Try.ntmps92
  go_wp2_with fail
  refine Calls.at fun W hW => ?_
  have hb := Lib.hid (show Below w.heap.size w W by subst hW; (repeat' first | exact Below.refl _ _ | assumption | refine Below.alloc ?_ ?_ _ | refine Below.setCell ?_ ?_ _ | refine Below.drew ?_ | (simp; done) | (simp; omega)))
  have hk := Lib.hid (show Blk W w.heap.size 67 #[.int .i64 r.vars, .slice a1 r.nums.length c1, .slice a2 r.bnds.length c2, .slice a3 r.gains.length c3] by subst hW; exact Blk.new _ _ _)
  clear hW
  refine (isTop_any _ r top W (HP.out.up hb.out (Nat.le_refl _))).mono ?_
  rintro e w1 ⟨rfl, hb1⟩
  rw [HQ.out]
  have HB1 := Lib.hid (hb.out.trans (hb1.mono hb.out.size))
  have HK1 := Lib.hid (hk.out.below hb1 hk.out.lt)
  have d0 : w1.cell? ⟨w.heap.size, 0, none⟩ = some (.int .i64 r.vars) := HK1.out.cell 0 rfl
  have d1 : w1.cell? ⟨w.heap.size, 1, none⟩ = some (.slice a1 r.nums.length c1) := HK1.out.cell 1 rfl
  have d2 : w1.cell? ⟨w.heap.size, 2, none⟩ = some (.slice a2 r.bnds.length c2) := HK1.out.cell 2 rfl
  have d3 : w1.cell? ⟨w.heap.size, 3, none⟩ = some (.slice a3 r.gains.length c3) := HK1.out.cell 3 rfl
  have hsz := HB1.out.size
  have hkl := HK1.out.lt
  clear hb1 hb hk
  cases q
  · have HN := Lib.hid (show planB r top = (none, 0) by unfold planB; rw [HQ.out]; rfl)
    go_wp2_with fail
    go_ret3
    exact ⟨_, by unfold planY planOk; rw [HN.out]; rfl, by unfold planL; rw [HN.out]; exact ⟨World.ownsRow_nil _ _ _ _, by intro g hg; cases hg⟩, HB1.out⟩
  · obtain ⟨hv, h4, t1, t5⟩ := topB_parts HQ.out
    have hgl := hv.gl
    have hv1 := hv.v1
    have HLEN := Lib.hid (wSolsT_len HQ.out)
    obtain ⟨T, rfl⟩ := Int.eq_ofNat_of_zero_le (by omega : 0 ≤ top)
    have HN := Lib.hid (show planB r (T : Int) = wbAll r (wSols r T r.gains.length []) by unfold planB; rw [HQ.out, if_pos rfl]; rfl)
    have HL2 := Lib.hid (show (wSols r T r.gains.length []).length ≤ 1296 from HLEN.out)
    have HGL := Lib.hid hgl
    have hgn : 1 ≤ r.gains.length := by omega
    have hg4 : r.gains.length ≤ 4 := by omega
    have HGN := Lib.hid (And.intro hgn hg4)
    clear hgl hv hgn hg4
    go_wp2_with fail
    refine Calls.at fun W2 hW2 => ?_
    have hb2 := Lib.hid (show Below w.heap.size w W2 by subst hW2; exact (HB1.out.alloc hsz _).alloc (by simp; omega) _)
    have hbx := Lib.hid (show Box W2 w1.heap.size 24 (.slice none 0 0) by subst hW2; exact (Box.new w1 24 (.slice none 0 0)).below ((Below.refl _ _).alloc (Nat.le_refl _) _) (by simp))
    have hmx := Lib.hid (show Box W2 (w1.heap.size + 1) 63 (.float .f32 0) by subst hW2; simpa using Box.new (w1.alloc (.cells #[.slice none 0 0] 24)) 63 (.float .f32 0))
    have hk2 := Lib.hid (show Blk W2 w.heap.size 67 #[.int .i64 r.vars, .slice a1 r.nums.length c1, .slice a2 r.bnds.length c2, .slice a3 r.gains.length c3] by subst hW2; exact (HK1.out.alloc _).alloc _)
    have hz2 : W2.heap.size = w1.heap.size + 2 := by subst hW2; simp
    clear hW2 d0 d1 d2 d3
    refine (eachWhole_any r _ T r.gains.length HGL.out.symm HGN.out.2 (by omega) 124 Try.entersPW #[.pointer (some ⟨w.heap.size, 0, none⟩), .pointer (some ⟨w1.heap.size, 0, none⟩), .pointer (some ⟨w1.heap.size + 1, 0, none⟩)] (w1.heap.size + 2) (fun b => b = w1.heap.size ∨ b = w1.heap.size + 1) (by intro b hb; omega)
      (fun done w' => PQ (w1.heap.size + 2) w1.heap.size (w1.heap.size + 1) r.gains.length (wbAll r done) w' ∧ Below w1.heap.size W2 w') W2 ?_ ?_ ?_ r.gains.length none 0 [] W2 [] 0 rfl (by simp) (by omega) (World.ownsRow_nil _ _ _ _) (Kept.refl _ _) ?_ (by have := HL2.out; simp; omega)).mono ?_
    · intro X hX
      exact HP.out.up (hb2.out.trans (hX.toBelow (B := w.heap.size) hb2.out.size (by intro k h1 h2; omega))) (Nat.le_refl _)
    · rintro done wa wb ⟨hb, hbl⟩ h12
      exact ⟨hb.up h12, hbl.trans (h12.mono (by have := hbl.size; omega))⟩
    · rintro done s a cap m wa hm hmn hs hlen hka ⟨hb, hbl⟩
      refine (planW1_any (w1.heap.size + 2) w.heap.size w1.heap.size (w1.heap.size + 1) r.gains.length r a1 c1 a2 c2 a3 c3 (wbAll r done) s a cap m wa hm hmn HGN.out.1 (by have := HGN.out.2; omega) hs (by omega) (by omega) (by omega)
        (hk2.out.kept hka (by show ¬ (w.heap.size = w1.heap.size ∨ w.heap.size = w1.heap.size + 1); omega))
        (HP.out.up (hb2.out.trans (hka.toBelow (B := w.heap.size) hb2.out.size (by intro k h1 h2; omega))) (Nat.le_refl _)) hb).mono ?_
      rintro e wb ⟨rfl, h1, h2⟩
      refine ⟨rfl, ⟨by rw [wbAll_snoc]; exact h1, hbl.trans (h2.toBelow (by have := hbl.size; omega) (by intro k h1 h2; omega))⟩, h2⟩
    · exact ⟨⟨hmx.out, .inl ⟨rfl, hbx.out⟩⟩, Below.refl _ _⟩
    · rintro e wa ⟨rfl, ⟨hb, hbl⟩, hk⟩
      simp only [List.nil_append] at hb
      have HB := Lib.hid (hb2.out.trans (hbl.mono hsz))
      have hne := HNE.out
      obtain ⟨hm, hb⟩ := hb
      have cm := hm.cell
      obtain ⟨st, hst⟩ : ∃ st, st = wbAll r (wSols r T r.gains.length []) := ⟨_, rfl⟩
      rw [← hst] at cm hm hb HN
      obtain ⟨o, y⟩ := st
      simp only at cm hm hb
      clear hbl hk hst hm
      rcases hb with ⟨rfl, h2⟩ | ⟨s, g, cap, rfl, h2, h3⟩
      · have hc := h2.cell
        clear h2
        go_wp2_with fail
        go_quiet (fail)
        go_wp2_with fail
        go_ret3
        exact ⟨_, by unfold planY planOk; rw [HN.out]; rfl, by unfold planL; rw [HN.out]; exact ⟨World.ownsRow_nil _ _ _ _, by intro g hg; cases hg⟩, below_drewN HB.out _⟩
      · have hc := h2.cell
        have H3 := Lib.hid h3
        clear h2 h3
        go_wp2_with fail
        go_quiet (fail)
        go_wp2_with fail
        go_ret3
        exact ⟨_, by unfold planY planOk; rw [HN.out]; rfl, by unfold planL; rw [HN.out]; exact OwnI.mk (owns_base (owns_below H3.out (below_drewN (Below.refl _ _) _) (Nat.le_refl _)) (by omega)), below_drewN HB.out _⟩

end Go.Proofs.Ytkfiepiipigcmaa

namespace Go.Proofs.Ytkfiepiipigcmaa
open Go.RowKit

theorem mt_sub (x y : Nat) (w : World) : Mt (Ieee.single.sub x y) (subV x y w) := by
  unfold subV
  cases h : Ieee.single.sub x y with
  | some r => exact Mt.some' r
  | none => exact ⟨fun _ e => (by cases e), fun _ => tape32_nan _ _ _⟩
/-- The difference that is told, if there is one. -/
noncomputable def gapO (r : RowsD) (top most : Int) (near : Nat) : Option Nat := match solvO r most near with
  | none => none
  | some t => if (gainOk r (planT t) && planOk r top) = true then (if finO (Ieee.single.sub (gainV r (planT t)) (planY r top)) = true then Ieee.single.sub (gainV r (planT t)) (planY r top) else none) else none
theorem gapO_eq (r : RowsD) (top most : Int) (near : Nat) : gapO r top most near = match solvO r most near with
  | none => none
  | some t => if (gainOk r (planT t) && planOk r top) = true then (if finO (Ieee.single.sub (gainV r (planT t)) (planY r top)) = true then Ieee.single.sub (gainV r (planT t)) (planY r top) else none) else none := rfl
noncomputable def gapOk (r : RowsD) (top most : Int) (near : Nat) : Bool := (gapO r top most near).isSome
noncomputable def gapV (r : RowsD) (top most : Int) (near : Nat) : Nat := (gapO r top most near).getD 0
def GapPost (q : Bool) (s : Nat) (B : Nat) (w : World) (e : Ending) (w' : World) : Prop := e = .returned (.tuple #[.float .f32 s, .bool q]) ∧ Below B w w'

theorem gap_none {r : RowsD} {top most : Int} {near : Nat} (h : gapO r top most near = none) : gapOk r top most near = false ∧ gapV r top most near = 0 := by
  unfold gapOk gapV; rw [h]; exact ⟨rfl, rfl⟩
theorem gap_some {r : RowsD} {top most : Int} {near s : Nat} (h : gapO r top most near = some s) : gapOk r top most near = true ∧ gapV r top most near = s := by
  unfold gapOk gapV; rw [h]; exact ⟨rfl, rfl⟩

theorem nan_of_fin {x : Nat} (h : fin32 x = true) : nan32 x = false := by
  cases e : nan32 x with
  | false => rfl
  | true => rw [fin_of_nan e] at h; cases h
theorem gapV_nan (r : RowsD) (top most : Int) (near : Nat) : nan32 (gapV r top most near) = false := by
  unfold gapV gapO
  cases solvO r most near with
  | none => exact nan_of_fin fin0
  | some t =>
    simp only
    by_cases h1 : (gainOk r (planT t) && planOk r top) = true
    · rw [if_pos h1]
      by_cases h2 : finO (Ieee.single.sub (gainV r (planT t)) (planY r top)) = true
      · rw [if_pos h2]
        cases e : Ieee.single.sub (gainV r (planT t)) (planY r top) with
        | none => rw [e] at h2; cases h2
        | some s => rw [e] at h2; exact nan_of_fin h2
      · rw [if_neg h2]
        exact nan_of_fin fin0
    · rw [if_neg h1]
      exact nan_of_fin fin0

end Go.Proofs.Ytkfiepiipigcmaa

namespace Go.Proofs.Ytkfiepiipigcmaa
open Go.RowKit

set_option maxHeartbeats 4000000 in
set_option maxRecDepth 8000 in
theorem gapI_any (v : Value) (r : RowsD) (top most : Int) (near : Nat) (w : World) (h : RdR w v r) :
    Calls Try.prog 47 #[v, .int .i64 top, .int .i64 most, .float .f32 near] w (GapPost (gapOk r top most near) (gapV r top most near) w.heap.size w) := by
  obtain ⟨a1, c1, a2, c2, a3, c3, rfl⟩ := h.shape
  have HSV := Lib.hid (fun X (hb : Below w.heap.size w X) => solveRowsI_any _ r most near X (h.up hb (Nat.le_refl _)))
  have HGV := Lib.hid (fun X (hb : Below w.heap.size w X) u x (hu : RdF X u x) => implGain_any _ r u x X (h.up hb (Nat.le_refl _)) hu)
  have HWV := Lib.hid (fun X (hb : Below w.heap.size w X) => implWP_any _ r top X (h.up hb (Nat.le_refl _)))
  have HGN := Lib.hid (@gap_none r top most near)
  have HGS := Lib.hid (fun s h => @gap_some r top most near s h)
  have HDF := Lib.hid (gapO_eq r top most near)
  clear h
  obtain ⟨py, hpy⟩ : ∃ py, py = planY r top := ⟨_, rfl⟩
  obtain ⟨po, hpo⟩ : ∃ py, py = planOk r top := ⟨_, rfl⟩
  obtain ⟨o, ho⟩ : ∃ o, o = solvO r most near := ⟨_, rfl⟩
  obtain ⟨gk, hgk⟩ : ∃ gk, gk = gapOk r top most near := ⟨_, rfl⟩
  obtain ⟨gv, hgv⟩ : ∃ gv, gv = gapV r top most near := ⟨_, rfl⟩
  obtain ⟨go, hgo⟩ : ∃ gv, gv = gapO r top most near := ⟨_, rfl⟩
  rw [← hpy, ← hpo, ← ho] at HDF
  rw [← hpy, ← hpo] at HWV
  rw [← hgk, ← hgv, ← hgo] at HGN HGS
  unfold SrwPost at HSV
  rw [← ho] at HSV
  rw [← hgk, ← hgv]
  rw [← hgo] at HDF
  have HNO := Lib.hid (show go = none → ∀ Wf, Below w.heap.size w Wf → GapPost gk gv w.heap.size w (.returned (.tuple #[.float .f32 0, .bool false])) Wf from fun h Wf hb => by
    obtain ⟨h1, h2⟩ := HGN.out h
    rw [h1, h2]
    exact ⟨rfl, hb⟩)
  have HYES := Lib.hid (show ∀ s, go = some s → ∀ Wf, Below w.heap.size w Wf → GapPost gk gv w.heap.size w (.returned (.tuple #[.float .f32 s, .bool true])) Wf from fun s h Wf hb => by
    obtain ⟨h1, h2⟩ := HGS.out s h
    rw [h1, h2]
    exact ⟨rfl, hb⟩)
  clear HGN HGS hpy hpo ho hgk hgv hgo
  go_enter Try.func47, Try.ntmps47
  go_upto_region 1 with fail
  refine wp_at fun W0 hW0 => ?_
  have HB0 := Lib.hid (show Below w.heap.size w W0 by subst hW0; (repeat' first | exact Below.refl _ _ | assumption | refine Below.alloc ?_ ?_ _ | refine Below.setCell ?_ ?_ _ | refine Below.drew ?_ | (simp; done) | (simp; omega)))
  have HK0 := Lib.hid (show Blk W0 w.heap.size 67 #[.int .i64 r.vars, .slice a1 r.nums.length c1, .slice a2 r.bnds.length c2, .slice a3 r.gains.length c3] by subst hW0; exact Blk.new _ _ _)
  have hz0 := HB0.out.size
  have hk0 := HK0.out.lt
  clear hW0
  have d0 := HK0.out.cell 0 rfl
  have d1 := HK0.out.cell 1 rfl
  have d2 := HK0.out.cell 2 rfl
  have d3 := HK0.out.cell 3 rfl
  go_upto_region 2 with (go_at_call 90; refine (HSV.out W0 HB0.out).mono ?_; rintro e w1 ⟨va, vb, rfl, hyes, hno, hb1⟩; have HB1 := Lib.hid (HB0.out.trans (hb1.mono hz0)); have HK1 := Lib.hid (HK0.out.below hb1 hk0))
  have hz1 := HB1.out.size
  have hk1 := HK1.out.lt
  clear d0 d1 d2 d3
  cases o with
  | none =>
    go_wp2_with fail
    go_ret2
    exact HNO.out (by rw [HDF.out]) _ HB1.out
  | some t =>
    obtain ⟨hva, hvb⟩ := hyes t rfl
    have HG := Lib.hid (HGV.out w1 HB1.out va _ hva)
    unfold NumPost at HG
    obtain ⟨x, hx⟩ : ∃ x, x = gainV r (planT t) := ⟨_, rfl⟩
    obtain ⟨g, hg⟩ : ∃ x, x = gainOk r (planT t) := ⟨_, rfl⟩
    simp only at HDF
    rw [← hx, ← hg] at HG HDF
    have HD := Lib.hid (show go = if (g && po) = true then (if finO (Ieee.single.sub x py) = true then Ieee.single.sub x py else none) else none from HDF.out)
    clear HDF hx hg hyes hno hva hvb HSV hb1
    have d0 := HK1.out.cell 0 rfl
    have d1 := HK1.out.cell 1 rfl
    have d2 := HK1.out.cell 2 rfl
    have d3 := HK1.out.cell 3 rfl
    go_upto_region 5 with (go_at_call 91; refine HG.out.mono ?_; rintro e w2 ⟨rfl, hb2⟩; have HB2 := Lib.hid (HB1.out.trans (hb2.mono hz1)); have HK2 := Lib.hid (HK1.out.below hb2 hk1))
    have hz2 := HB2.out.size
    have hk2 := HK2.out.lt
    clear d0 d1 d2 d3
    have d0 := HK2.out.cell 0 rfl
    have d1 := HK2.out.cell 1 rfl
    have d2 := HK2.out.cell 2 rfl
    have d3 := HK2.out.cell 3 rfl
    go_upto_region 6 with (go_at_call 92; refine (HWV.out w2 HB2.out).mono ?_; rintro e w3 ⟨vw, rfl, _, hb3⟩; have HB3 := Lib.hid (HB2.out.trans (hb3.mono hz2)))
    clear d0 d1 d2 d3
    cases g
    · go_wp2_with fail
      go_ret2
      exact HNO.out (by rw [HD.out]; rfl) _ HB3.out
    · cases po
      · go_wp2_with fail
        go_ret2
        exact HNO.out (by rw [HD.out]; rfl) _ HB3.out
      · by_cases hf : finO (Ieee.single.sub x py) = true
        · obtain ⟨s, hs⟩ : ∃ s, Ieee.single.sub x py = some s := by
            cases h : Ieee.single.sub x py with
            | some s => exact ⟨s, rfl⟩
            | none => rw [h] at hf; cases hf
          have hfs : fin32 s = true := by rw [hs] at hf; exact hf
          have HS := Lib.hid (show go = some s by rw [HD.out, Bool.and_self, if_pos rfl, if_pos hf, hs])
          have hsub := fun (W : World) => run_sub_some (P := Try.prog) 63 x py s hs W
          have HF := Lib.hid hfs
          clear hf hs hfs HD
          go_wp2_with (go_at_call 93; refine (IsFinite_any s _).mono ?_; rintro e w4 ⟨rfl, m4, rfl⟩; rw [HF.out])
          go_ret2
          exact HYES.out s HS.out _ (below_drewN HB3.out _)
        · rw [Bool.not_eq_true] at hf
          have HS := Lib.hid (show go = none by rw [HD.out, Bool.and_self, if_pos rfl, hf]; rfl)
          have hsub := fun (W : World) => run_sub_all (P := Try.prog) 63 x py W
          have HF := Lib.hid (fun W => show fin32 (subV x py W) = false by rw [(mt_sub x py W).fin]; exact hf)
          clear hf HD
          go_wp2_with (go_at_call 93; refine (IsFinite_any _ _).mono ?_; rintro e w4 ⟨rfl, m4, rfl⟩; rw [HF.out])
          go_ret2
          exact HNO.out HS.out _ (by first | exact below_drewN HB3.out _ | (rw [World.drewN_drewN]; exact below_drewN HB3.out _) | exact below_drewN (below_drewN HB3.out _) _)

end Go.Proofs.Ytkfiepiipigcmaa

namespace Go.Proofs.Ytkfiepiipigcmaa
open Go.RowKit

theorem ownsF_emptyB (w : World) (b : Nat) (hb : b = w.heap.size) : (w.alloc (.cells #[] 63)).ownsRow w.heap.size 63 1 (.slice (some ⟨b, 0, none⟩) 0 0) 0 (([] : List Nat).map F32) := by subst hb; exact ownsF_empty w

theorem Blk.newB (w : World) (t : TypeId) (cs : Array Value) (b : Nat) (hb : b = w.heap.size) : Blk (w.alloc (.cells cs t)) b t cs := by subst hb; exact Blk.new w t cs

/-- A block beside what has grown. -/
theorem blk_grown {w w' : World} {b : Nat} {t : TypeId} {cs : Array Value} {row : Option Nat} (h : Blk w b t cs) (hg : w.grownBy w' row) (hne : row ≠ some b) : Blk w' b t cs :=
  (hg.block b h.lt fun e => hne e.symm).trans h

end Go.Proofs.Ytkfiepiipigcmaa

namespace Go.Proofs.Ytkfiepiipigcmaa
open Go.RowKit

/-- A table lies in a block. -/
def TpB (w : World) (bb : Nat) (t : TabD) : Prop := ∃ a c b d, Blk w bb 136 #[.int .i64 t.vars, .slice a t.nums.length c, .slice b t.basis.length d] ∧ RdTb w (.agg #[.int .i64 t.vars, .slice a t.nums.length c, .slice b t.basis.length d]) t
theorem TpB.drewN {w : World} {bb : Nat} {t : TabD} (h : TpB w bb t) (n : Nat) : TpB (w.drewN n) bb t := h
theorem TpB.below {w w' : World} {bb B : Nat} {t : TabD} (h : TpB w bb t) (hb : Below B w w') (hB : w.heap.size ≤ B) : TpB w' bb t := by
  obtain ⟨a, c, b, d, h1, h2⟩ := h
  exact ⟨a, c, b, d, h1.below hb (Nat.lt_of_lt_of_le h1.lt hB), h2.up hb hB⟩

theorem qs_of {P : Program} {f : FuncId} {args : Array Value} {w : World} {n : Nat} {v : Value} (h : Calls P f args (w.drewN n) fun e w' => e = .returned v ∧ ∃ m, w' = (w.drewN n).drewN m) :
    Calls P f args (w.drewN n) fun e w'' => e = .returned v ∧ ∃ m, w'' = w.drewN m := h.mono fun _ _ ⟨he, m, hm⟩ => ⟨he, n + m, by rw [hm, World.drewN_drewN]⟩

set_option maxHeartbeats 1000000 in
theorem l02Wide_any (bb : Nat) (t : TabD) (w : World) (h : TpB w bb t) (hd : DimT t) :
    Calls Try.prog 165 #[.pointer (some ⟨bb, 0, none⟩)] w fun e w' => e = .returned (.int .i64 (wdT t : Nat)) ∧ ∃ m, w' = w.drewN m := by
  obtain ⟨a, c, b, d, hk, _⟩ := h
  have h8 := hd.v8
  have hb8 := hd.b8
  have HW := Lib.hid (show ((wdT t : Nat) : Int) = (t.vars : Int) + t.basis.length + 1 by unfold wdT; push_cast; rfl)
  obtain ⟨V, hV⟩ : ∃ V, V = t.vars := ⟨_, rfl⟩
  obtain ⟨N, hN⟩ : ∃ N, N = t.basis.length := ⟨_, rfl⟩
  rw [← hV] at h8 HW hk
  rw [← hN] at hb8 HW hk
  have d0 := hk.cell 0 rfl
  have d1 := hk.cell 1 rfl
  have d2 := hk.cell 2 rfl
  clear hd hV hN hk
  go_enter Try.func165, Try.ntmps165
  go_wp2_with fail
  go_quiet (fail)
  go_wp2_with fail
  go_ret
  exact ⟨by rw [HW.out]; rfl, _, rfl⟩

set_option maxHeartbeats 1000000 in
theorem l02At_any (bb : Nat) (t : TabD) (i k : Nat) (w : World) (h : TpB w bb t) (hd : DimT t) (hi : i ≤ t.basis.length) (hk : k < wdT t) :
    Calls Try.prog 164 #[.pointer (some ⟨bb, 0, none⟩), .int .i64 i, .int .i64 k] w fun e w' => e = .returned (.float .f32 (atT t i k)) ∧ ∃ m, w' = w.drewN m := by
  have HW := Lib.hid (fun n => qs_of (l02Wide_any bb t (w.drewN n) (h.drewN n) hd))
  obtain ⟨a, c, b, d, hkb, hrt⟩ := h
  have hx := hd.ix hi hk
  have hn := hd.n153
  have h17 := hd.w17
  have hb8 := hd.b8
  obtain ⟨gb, go, rfl, _, hc⟩ := hrt.parts.1.at hx
  obtain ⟨x, hxe⟩ : ∃ x, x = atT t i k := ⟨_, rfl⟩
  rw [show t.nums.getD (i * wdT t + k) 0 = x from hxe.symm] at hc
  rw [← hxe]
  obtain ⟨W, hW⟩ : ∃ W, W = wdT t := ⟨_, rfl⟩
  obtain ⟨m, hm⟩ : ∃ m, m = i * W + k := ⟨_, rfl⟩
  obtain ⟨p, hp⟩ : ∃ p, p = i * W := ⟨_, rfl⟩
  have e1 : (i : Int) * (W : Int) = (p : Int) := by rw [hp]; push_cast; rfl
  have e2 : (p : Int) + (k : Int) = (m : Int) := by rw [hm, ← hp]; push_cast; rfl
  have hpm : p ≤ m := by omega
  have hm153 : m < 153 := by rw [← hW, ← hm] at hx; omega
  have hw1 : IntKind.i64.wrap (p : Int) = (p : Int) := IntWalk.i64_in _ (by omega)
  have hw2 : IntKind.i64.wrap ((p : Int) + (k : Int)) = (m : Int) := by rw [e2]; exact IntWalk.i64_in _ (by omega)
  rw [← hW] at hx hc hk h17 HW
  rw [← hm] at hx hc
  obtain ⟨N, hN⟩ : ∃ N, N = t.nums.length := ⟨_, rfl⟩
  rw [← hN] at hx hn hkb
  have hxI : (m : Int) < (N : Int) := by omega
  have d0 := hkb.cell 0 rfl
  have d1 := hkb.cell 1 rfl
  have d2 := hkb.cell 2 rfl
  clear hd hxe hW hm hN hp e2 hrt hkb
  go_enter Try.func164, Try.ntmps164
  go_wp2_with fail
  go_quiet ((go_at_call 165; exact HW.out _))
  go_wp2_with fail
  go_ret
  exact ⟨rfl, _, rfl⟩

set_option maxHeartbeats 2000000 in
set_option maxRecDepth 8000 in
theorem l02Enter_any (bb : Nat) (t : TabD) (near : Nat) (w : World) (h : TpB w bb t) (hg : GoodT t) :
    Calls Try.prog 177 #[.pointer (some ⟨bb, 0, none⟩), .float .f32 near] w fun e w' => e = .returned (.int .i64 (enterT t near)) ∧ ∃ m, w' = w.drewN m := by
  have hd := hg.dim
  have h17 := hd.w17
  have hb8 := hd.b8
  have HW := Lib.hid (fun n => qs_of (l02Wide_any bb t (w.drewN n) (h.drewN n) hd))
  have HA := Lib.hid (fun n j (hj : j < colsT t) => qs_of (l02At_any bb t t.basis.length j (w.drewN n) (h.drewN n) hd (Nat.le_refl _) (by rw [wdT_cols]; omega)))
  have HE1 := Lib.hid (fun j (hj : j < colsT t) h1 h0 => @enterT_at t near j hj h1 h0)
  have HE0 := Lib.hid (fun h0 => @enterT_none t near h0)
  have HEA := Lib.hid (fun j => (show entersAt t near j = (FloatKind.f32.format.order (atT t t.basis.length j) (negF near) == some .lt) from rfl))
  obtain ⟨a, c, b, d, hkb, _⟩ := h
  obtain ⟨C, hC⟩ : ∃ C, C = colsT t := ⟨_, rfl⟩
  have hWC : wdT t = C + 1 := by rw [hC]; rfl
  rw [hWC] at HW h17
  rw [← hC] at HA HE1 HE0
  have hw1 : IntKind.i64.wrap (((C + 1 : Nat) : Int) - 1) = (C : Int) := by rw [IntWalk.i64_in _ (by omega)]; omega
  obtain ⟨W, hW⟩ : ∃ W : Int, W = ((C + 1 : Nat) : Int) := ⟨_, rfl⟩
  rw [← hW] at hw1 HW
  obtain ⟨N, hN⟩ : ∃ N, N = t.basis.length := ⟨_, rfl⟩
  rw [← hN] at HA HEA hkb
  have d2 := hkb.cell 2 rfl
  clear hd hC hWC hW hN hg hkb
  go_enter Try.func177, Try.ntmps177
  go_wp2_with fail
  go_loopw [5] (fun jv wr => ∃ j m : Nat, jv = .int .i64 j ∧ j ≤ C ∧ Hid (∀ k, k < j → entersAt t near k = false) ∧ wr = w.drewN m) (fun jv _ => C + 1 - (intOf jv).toNat)
  case atStart => exact ⟨0, 0, rfl, Nat.zero_le _, Lib.hid (by intro k hk; omega), rfl⟩
  case round =>
    obtain ⟨j, m, rfl, hj, HJ, rfl⟩ := hrel
    by_cases hjC : j < C
    · have hjI : (j : Int) < (C : Int) := by omega
      have HAJ := Lib.hid (fun n => HA.out n j hjC)
      have hea := HEA.out j
      obtain ⟨x, hx⟩ : ∃ x, x = atT t N j := ⟨_, rfl⟩
      rw [← hx] at HAJ hea
      obtain ⟨q, hq⟩ : ∃ q, q = entersAt t near j := ⟨_, rfl⟩
      rw [← hq] at hea
      have HQ := Lib.hid hq.symm
      have hcmp := hea.symm
      clear hx hq hea
      cases q
      · have HJ2 := Lib.hid (show ∀ k, k < j + 1 → entersAt t near k = false from fun k hk => by
          by_cases e : k = j
          · rw [e]; exact HQ.out
          · exact HJ.out k (by omega))
        go_wp2_with (first
          | (go_at_call 165; refine (HW.out _).mono ?_; rintro e w2 ⟨rfl, m2, rfl⟩)
          | (go_at_call 164; refine (HAJ.out _).mono ?_; rintro e w3 ⟨rfl, m3, rfl⟩))
        go_roundw
        case rel => exact ⟨j + 1, _, by go_num, by omega, HJ2, rfl⟩
        case measure => simp [intOf]; omega
      · have HE := Lib.hid (HE1.out j hjC HQ.out HJ.out)
        go_wp2_with (first
          | (go_at_call 165; refine (HW.out _).mono ?_; rintro e w2 ⟨rfl, m2, rfl⟩)
          | (go_at_call 164; refine (HAJ.out _).mono ?_; rintro e w3 ⟨rfl, m3, rfl⟩))
        go_ret
        exact ⟨by rw [HE.out]; rfl, _, rfl⟩
    · obtain rfl : j = C := by omega
      have HE := Lib.hid (HE0.out HJ.out)
      go_wp2_with (go_at_call 165; refine (HW.out _).mono ?_; rintro e w2 ⟨rfl, m2, rfl⟩)
      go_ret
      exact ⟨by rw [HE.out]; rfl, _, rfl⟩

end Go.Proofs.Ytkfiepiipigcmaa
