/-
  The best whole plan: what the program's function does with each.
-/
import Derived.Test.YtkmbkjbammpdhaaWholeC
import Derived.Test.YtkmbkjbammpdhaaDiffer
namespace Go.Proofs.Ytkmbkjbammpdhaa
open Go.RowKit

abbrev WB := Option (List Int) × Nat
def gtB (x y : Nat) : Bool := FloatKind.f32.format.order x y == some .gt
noncomputable def wbStep (r : RowsD) (b : WB) (s : List Int) : WB := if (gainOk r (s.map fI) && (b.1.isNone || gtB (gainV r (s.map fI)) b.2)) = true then (some s, gainV r (s.map fI)) else b
noncomputable def wbAll (r : RowsD) (l : List (List Int)) : WB := l.foldl (wbStep r) (none, 0)
theorem wbAll_snoc (r : RowsD) (l : List (List Int)) (s : List Int) : wbAll r (l ++ [s]) = wbStep r (wbAll r l) s := by simp [wbAll]

theorem wbStep_no {r : RowsD} {b : WB} {s : List Int} (h : gainOk r (s.map fI) = false) : wbStep r b s = b := by unfold wbStep; rw [h]; rfl
theorem wbStep_first {r : RowsD} {x : Nat} {s : List Int} (h : gainOk r (s.map fI) = true) : wbStep r (none, x) s = (some s, gainV r (s.map fI)) := by unfold wbStep; rw [h]; rfl
theorem wbStep_more {r : RowsD} {x : Nat} {t s : List Int} (h : gainOk r (s.map fI) = true) (hq : gtB (gainV r (s.map fI)) x = true) : wbStep r (some t, x) s = (some s, gainV r (s.map fI)) := by unfold wbStep; rw [h]; simp [hq]
theorem wbStep_less {r : RowsD} {x : Nat} {t s : List Int} (h : gainOk r (s.map fI) = true) (hq : gtB (gainV r (s.map fI)) x = false) : wbStep r (some t, x) s = (some t, x) := by unfold wbStep; rw [h]; simp [hq]

/-- The best one so far, in two variables. -/
def PQ (B0 bb mb n : Nat) (st : WB) (w : World) : Prop :=
  Box w mb 37 (.float .f32 st.2) ∧ ((st.1 = none ∧ Box w bb 36 (.slice none 0 0)) ∨ ∃ s g cap, st.1 = some s ∧ Box w bb 36 (.slice (some ⟨g, 0, none⟩) n cap) ∧ w.ownsRow B0 2 1 (.slice (some ⟨g, 0, none⟩) n cap) n (s.map I64))
theorem PQ.up {B0 bb mb n : Nat} {st : WB} {w w' : World} (h : PQ B0 bb mb n st w) (hb : Below w.heap.size w w') : PQ B0 bb mb n st w' := by
  obtain ⟨h1, h2⟩ := h
  refine ⟨h1.below hb h1.lt, ?_⟩
  rcases h2 with ⟨h2, h3⟩ | ⟨s, g, cap, h2, h3, h4⟩
  · exact .inl ⟨h2, h3.below hb h3.lt⟩
  · exact .inr ⟨s, g, cap, h2, h3.below hb h3.lt, owns_below h4 hb (Nat.le_refl _)⟩

theorem Box.other' {w : World} {b : Nat} {t : TypeId} {v : Value} (h : Box w b t v) {c : Nat} (hc : b ≠ c) (u : Value) : Box (w.setCell ⟨c, 0, none⟩ u) b t v := h.kept (Kept.setCell (S := (· = c)) (p := ⟨c, 0, none⟩) (Kept.refl _ _) (.inr rfl) _) hc
theorem PQ.set {B0 bb mb n g0 cap x y : Nat} {z : Value} {s : List Int} {w : World} (hbb : bb < B0) (hmb : mb < B0) (hne : bb ≠ mb) (hg0 : B0 ≤ g0) (h1 : Box w bb 36 z) (h2 : Box w mb 37 (.float .f32 x)) (h3 : w.ownsRow B0 2 1 (.slice (some ⟨g0, 0, none⟩) n cap) n (s.map I64)) :
    PQ B0 bb mb n (some s, y) ((w.setCell ⟨bb, 0, none⟩ (.slice (some ⟨g0, 0, none⟩) n cap)).setCell ⟨mb, 0, none⟩ (.float .f32 y)) := by
  refine ⟨(h2.other' (by omega) _).set _, .inr ⟨s, g0, cap, rfl, (h1.set _).other' hne _, ?_⟩⟩
  exact owns_other (owns_other h3 (by simp [Value.ownBlock]; omega) _) (by simp [Value.ownBlock]; omega) _

theorem Try.entersPW (args : Array Value) (w : World) : (callFunc 100 args).run Try.prog w = .ok (.enter 100 args) w :=
  enters_of Try.func100 (by kernel_rfl) rfl args w

theorem implGain_b (q : Bool) (y : Nat) (v : Value) (r : RowsD) (u : Value) (x : List Nat) (w : World) (h : RdR w v r) (hu : RdF w u x) (hq : gainOk r x = q) (hy : gainV r x = y) :
    Calls Try.prog 101 #[v, u] w fun e w' => e = .returned (.tuple #[.float .f32 y, .bool q]) ∧ Below w.heap.size w w' := by
  have := implGain_any v r u x w h hu
  rw [hq, hy] at this
  exact this

set_option maxHeartbeats 4000000 in
set_option maxRecDepth 4000 in
theorem planW1_any (B0 rb bb mb n : Nat) (r : RowsD) (a1 : Option Addr) (c1 : Nat) (a2 : Option Addr) (c2 : Nat) (a3 : Option Addr) (c3 : Nat) (st : WB) (s : List Int) (a : Option Addr) (cap m : Nat) (w : World)
    (hm : s.length = m) (hmn : m = n) (h1 : 1 ≤ n) (hn8 : n ≤ 8) (hs : w.ownsRow B0 2 1 (.slice a m cap) m (s.map I64)) (hbb : bb < B0) (hmb : mb < B0) (hne : bb ≠ mb)
    (hk : Blk w rb 26 #[.int .i64 r.vars, .slice a1 r.nums.length c1, .slice a2 r.bnds.length c2, .slice a3 r.gains.length c3]) (hr : RdR w (.agg #[.int .i64 r.vars, .slice a1 r.nums.length c1, .slice a2 r.bnds.length c2, .slice a3 r.gains.length c3]) r) (h : PQ B0 bb mb n st w) :
    Calls Try.prog 100 (#[.slice a m cap] ++ #[.pointer (some ⟨rb, 0, none⟩), .pointer (some ⟨bb, 0, none⟩), .pointer (some ⟨mb, 0, none⟩)]) w fun e w' =>
      e = .returned (.tuple #[]) ∧ PQ B0 bb mb n (wbStep r st s) w' ∧ Kept (fun b => b = bb ∨ b = mb) w w' := by
  subst hm
  subst hmn
  have heq := fun (w : World) (a : Option Addr) (n c : Nat) => Lib.run_eql_slice_nil (P := Try.prog) w 36 2 a n c 0 0 Try.underlying36
  obtain ⟨g0, rfl, hg0⟩ := owns_slice_some hs (by omega)
  have HS := Lib.hid hs
  have HR := Lib.hid hr
  have HPQ := Lib.hid h
  have HKB := Lib.hid hk
  have d0 : w.cell? ⟨rb, 0, none⟩ = some (.int .i64 r.vars) := hk.cell 0 rfl
  have d1 : w.cell? ⟨rb, 1, none⟩ = some (.slice a1 r.nums.length c1) := hk.cell 1 rfl
  have d2 : w.cell? ⟨rb, 2, none⟩ = some (.slice a2 r.bnds.length c2) := hk.cell 2 rfl
  have d3 : w.cell? ⟨rb, 3, none⟩ = some (.slice a3 r.gains.length c3) := hk.cell 3 rfl
  obtain ⟨q, hq⟩ : ∃ q, gainOk r (s.map fI) = q := ⟨_, rfl⟩
  obtain ⟨y, hy⟩ : ∃ y, gainV r (s.map fI) = y := ⟨_, rfl⟩
  have HQ := Lib.hid hq
  have HY := Lib.hid hy
  clear hs hr h hq hy hk
  go_enter Try.func100, Try.ntmps100
  go_wp2_with fail
  go_region_held3 (fun X => X.cell? ⟨rb, 0, none⟩ = some (.int .i64 r.vars) ∧ X.cell? ⟨rb, 1, none⟩ = some (.slice a1 r.nums.length c1) ∧ X.cell? ⟨rb, 2, none⟩ = some (.slice a2 r.bnds.length c2) ∧ X.cell? ⟨rb, 3, none⟩ = some (.slice a3 r.gains.length c3) ∧ Below w.heap.size w X)
    (first | exact ⟨held_of hbn d0 (Nat.le_refl _), held_of hbn d1 (Nat.le_refl _), held_of hbn d2 (Nat.le_refl _), held_of hbn d3 (Nat.le_refl _), hbn⟩ | exact ⟨d0, d1, d2, d3, (Below.refl _ _).drew⟩)
    (first
      | (go_at_call 102; have hh := (‹_ ∧ _ ∧ _ ∧ _ ∧ Below w.heap.size w _›).2.2.2.2; refine (asNumbers_any _ s _ (Slc.below (slc_of_owns HS.out) hh (Nat.le_refl _)) (by omega)).mono ?_; rintro e w1 ⟨nu, rfl, hnu, hb1⟩; have hbn := hh.trans (hb1.mono hh.size))
      | (go_at_call 101; have hh := (‹_ ∧ _ ∧ _ ∧ _ ∧ Below w.heap.size w _›).2.2.2.2; refine (implGain_b q y _ r _ (s.map fI) _ (HR.out.up hh (Nat.le_refl _)) hnu HQ.out HY.out).mono ?_; rintro e w2 ⟨rfl, hb2⟩; have hbn := hh.trans (hb2.mono hh.size))
      | fail)
  have HB := Lib.hid hbn
  clear hbn d0 d1 d2 d3
  have HS2 := Lib.hid (owns_below HS.out HB.out (Nat.le_refl _))
  have HK2 := Lib.hid (Kept.of_below (S := fun b => b = bb ∨ b = mb) HB.out (Nat.le_refl _))
  have HPQ2 := Lib.hid (HPQ.out.up HB.out)
  obtain ⟨o, x⟩ := st
  clear HPQ
  cases q
  · have HN := Lib.hid (wbStep_no (b := (o, x)) HQ.out)
    go_wp2_with fail
    go_end0
    exact ⟨rfl, by rw [HN.out]; exact HPQ2.out, HK2.out⟩
  · obtain ⟨hm, hb⟩ := HPQ2.out
    have cm := hm.cell
    have fm := hm.free
    have HM := Lib.hid hm
    simp only at cm hb
    rcases hb with ⟨rfl, hb⟩ | ⟨t, g, cap', rfl, hb, ho⟩
    · have cb := hb.cell
      have fb := hb.free
      have HBB := Lib.hid hb
      have HN := Lib.hid (wbStep_first (x := x) HQ.out)
      clear hm hb
      go_wp2_with fail
      go_end0
      refine ⟨rfl, ?_, Kept.setCell (Kept.setCell HK2.out (.inr (.inl rfl)) _) (.inr (.inr rfl)) _⟩
      rw [HN.out, HY.out]
      exact PQ.set hbb hmb hne hg0 HBB.out HM.out HS2.out
    · have cb := hb.cell
      have fb := hb.free
      have HBB := Lib.hid hb
      cases hq : gtB y x
      · have hq' : (FloatKind.f32.format.order y x == some .gt) = false := hq
        have HN := Lib.hid (wbStep_less (t := t) HQ.out (by rw [HY.out]; exact hq))
        clear hm hb hq ho
        go_wp2_with fail
        go_end0
        exact ⟨rfl, by rw [HN.out]; exact HPQ2.out, HK2.out⟩
      · have hq' : (FloatKind.f32.format.order y x == some .gt) = true := hq
        have HN := Lib.hid (wbStep_more (t := t) HQ.out (by rw [HY.out]; exact hq))
        clear hm hb hq ho
        go_wp2_with fail
        go_end0
        refine ⟨rfl, ?_, Kept.setCell (Kept.setCell HK2.out (.inr (.inl rfl)) _) (.inr (.inr rfl)) _⟩
        rw [HN.out, HY.out]
        exact PQ.set hbb hmb hne hg0 HBB.out HM.out HS2.out

end Go.Proofs.Ytkmbkjbammpdhaa
