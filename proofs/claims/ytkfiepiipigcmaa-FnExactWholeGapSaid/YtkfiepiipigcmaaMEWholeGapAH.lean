/-
  FnExactWholeGap: texts joined: Marks, EachC, Choices, Differ, PlanW, PlanI, Tab.
-/
import Derived.Deep.OwnRows
import Derived.Deep.Cut
import Derived.Test.YtkfiepiipigcmaaMEWholeGapAA
import Derived.Test.YtkfiepiipigcmaaMEWholeGapAC
import Derived.Test.YtkfiepiipigcmaaMEWholeGapAE
import Derived.Test.YtkfiepiipigcmaaMEWholeGapAF
import Derived.Test.YtkfiepiipigcmaaMEWholeGapAG
namespace Go.Proofs.Ytkfiepiipigcmaa
open Go.RowKit

/-- The rows of marks: in blocks from lo on, below hi. -/
def Marks (lo hi : Nat) (w : World) (v : Value) (D : List (List Int)) (F : Nat → Nat → Bool) : Prop :=
  ∃ (ob cap : Nat) (gs cs : Nat → Nat), v = .slice (some ⟨ob, 0, none⟩) D.length cap ∧ lo ≤ ob ∧ ob < hi ∧ ob < w.heap.size ∧
    ∀ i, i < D.length → w.cell? ⟨ob, i, none⟩ = some (.slice (some ⟨gs i, 0, none⟩) (D.getD i []).length (cs i)) ∧ lo ≤ gs i ∧ gs i < hi ∧ gs i ≠ ob ∧ (∀ j, j < D.length → j ≠ i → gs j ≠ gs i) ∧
      w.rowIs (gs i) 4 (D.getD i []).length (fun k => .bool (F i k))

theorem Marks.kept {lo hi : Nat} {w w' : World} {v : Value} {D : List (List Int)} {F : Nat → Nat → Bool} {S : Nat → Prop} (h : Marks lo hi w v D F) (hk : Kept S w w') (hs : ∀ b, lo ≤ b → b < hi → ¬ S b) : Marks lo hi w' v D F := by
  obtain ⟨ob, cap, gs, cs, hv, h1, h2, h3, h4⟩ := h
  refine ⟨ob, cap, gs, cs, hv, h1, h2, Nat.lt_of_lt_of_le h3 hk.size, fun i hi => ?_⟩
  obtain ⟨a1, a2, a3, a4, a5, a6⟩ := h4 i hi
  exact ⟨(hk.cell h3 (hs _ h1 h2)).trans a1, a2, a3, a4, a5, a6.of_block (hk.block _ a6.lt (hs _ a2 a3))⟩
theorem Marks.up {lo hi : Nat} {w w' : World} {v : Value} {D : List (List Int)} {F : Nat → Nat → Bool} {B : Nat} (h : Marks lo hi w v D F) (hb : Below B w w') (hB : w.heap.size ≤ B) : Marks lo hi w' v D F :=
  h.kept (Kept.of_below (S := fun _ => False) hb hB) (fun _ _ _ x => x)
theorem Marks.congr {lo hi : Nat} {w : World} {v : Value} {D : List (List Int)} {F G : Nat → Nat → Bool} (h : Marks lo hi w v D F) (e : ∀ i k, i < D.length → k < (D.getD i []).length → F i k = G i k) : Marks lo hi w v D G := by
  obtain ⟨ob, cap, gs, cs, hv, h1, h2, h3, h4⟩ := h
  refine ⟨ob, cap, gs, cs, hv, h1, h2, h3, fun i hi => ?_⟩
  obtain ⟨a1, a2, a3, a4, a5, a6⟩ := h4 i hi
  exact ⟨a1, a2, a3, a4, a5, a6.congr fun k hk => by rw [e i k hi hk]⟩
theorem Marks.shape {lo hi : Nat} {w : World} {v : Value} {D : List (List Int)} {F : Nat → Nat → Bool} (h : Marks lo hi w v D F) : ∃ ob cap, v = .slice (some ⟨ob, 0, none⟩) D.length cap := by
  obtain ⟨ob, cap, gs, cs, hv, _⟩ := h
  exact ⟨ob, cap, hv⟩
/-- One of the marks: it is read, and it is set. -/
theorem Marks.at {lo hi : Nat} {w : World} {ob cap : Nat} {D : List (List Int)} {F : Nat → Nat → Bool} (h : Marks lo hi w (.slice (some ⟨ob, 0, none⟩) D.length cap) D F) {i k : Nat} (hi' : i < D.length) (hk : k < (D.getD i []).length) :
    ∃ g c, w.cell? ⟨ob, i, none⟩ = some (.slice (some ⟨g, 0, none⟩) (D.getD i []).length c) ∧ w.cell? ⟨g, k, none⟩ = some (.bool (F i k)) ∧ w.frozen? ⟨g, k, none⟩ = false ∧ lo ≤ g ∧ g < hi ∧ g < w.heap.size ∧
      Marks lo hi (w.setCell ⟨g, k, none⟩ (.bool true)) (.slice (some ⟨ob, 0, none⟩) D.length cap) D (fun i' k' => if i' = i ∧ k' = k then true else F i' k') := by
  obtain ⟨ob', cap', gs, cs, hv, h1, h2, h3, h4⟩ := h
  simp only [Value.slice.injEq, Option.some.injEq, Addr.mk.injEq, and_true, true_and] at hv
  obtain ⟨rfl, rfl⟩ := hv
  obtain ⟨a1, a2, a3, a4, a5, a6⟩ := h4 i hi'
  refine ⟨gs i, cs i, a1, a6.cell hk, a6.frozen k, a2, a3, a6.lt, ob, cap, gs, cs, rfl, h1, h2, by simpa using h3, fun j hj => ?_⟩
  obtain ⟨b1, b2, b3, b4, b5, b6⟩ := h4 j hj
  refine ⟨?_, b2, b3, b4, b5, ?_⟩
  · rw [World.cell?_setCell_far _ _ _ _ (by simp only; exact a4)]; exact b1
  · by_cases hji : j = i
    · subst hji
      refine (a6.set k (.bool true)).congr fun k' hk' => ?_
      by_cases hkk : k' = k
      · simp [hkk]
      · simp [hkk]
    · refine (b6.setOther (by simp only; exact a5 j hj hji) _).congr fun k' hk' => ?_
      simp [hji]

/-- What is marked behind the choices l. -/
def markL (D : List (List Int)) (F : Nat → Nat → Bool) (l : List (List Int)) : Nat → Nat → Bool := fun i k => F i k || l.any (fun ch => (D.getD i []).getD k 0 == ch.getD i 0)
theorem markL_nil (D : List (List Int)) (F : Nat → Nat → Bool) : markL D F [] = F := by funext i k; simp [markL]
theorem markL_append (D : List (List Int)) (F : Nat → Nat → Bool) (a b : List (List Int)) : markL D (markL D F a) b = markL D F (a ++ b) := by
  funext i k; simp [markL, Bool.or_assoc]
/-- In the midst of one choice: the rows before i, and k of row i. -/
def markP (D : List (List Int)) (F : Nat → Nat → Bool) (now : List Int) (i k : Nat) : Nat → Nat → Bool := fun i' k' => F i' k' || (decide (i' < i ∨ (i' = i ∧ k' < k)) && (D.getD i' []).getD k' 0 == now.getD i' 0)
theorem markP_zero (D : List (List Int)) (F : Nat → Nat → Bool) (now : List Int) : markP D F now 0 0 = F := by funext i k; simp [markP]
theorem markP_row (D : List (List Int)) (F : Nat → Nat → Bool) (now : List Int) (i i' k' : Nat) (hk : k' < (D.getD i' []).length) : markP D F now i (D.getD i []).length i' k' = markP D F now (i + 1) 0 i' k' := by
  unfold markP
  congr 2
  rw [decide_eq_decide]
  constructor
  · rintro (h | ⟨rfl, h⟩)
    · exact .inl (by omega)
    · exact .inl (by omega)
  · rintro (h | ⟨rfl, h⟩)
    · by_cases e : i' = i
      · subst e; exact .inr ⟨rfl, hk⟩
      · exact .inl (by omega)
    · omega
theorem markP_set (D : List (List Int)) (F : Nat → Nat → Bool) (now : List Int) (i k : Nat) (h : ((D.getD i []).getD k 0 == now.getD i 0) = true) (i' k' : Nat) : (if i' = i ∧ k' = k then true else markP D F now i k i' k') = markP D F now i (k + 1) i' k' := by
  unfold markP
  by_cases e : i' = i ∧ k' = k
  · obtain ⟨rfl, rfl⟩ := e
    simp only [and_self, if_true, h, Bool.and_true]
    simp
  · rw [if_neg e]
    congr 2
    rw [decide_eq_decide]
    omega
theorem markP_skip (D : List (List Int)) (F : Nat → Nat → Bool) (now : List Int) (i k : Nat) (h : ((D.getD i []).getD k 0 == now.getD i 0) = false) : markP D F now i k = markP D F now i (k + 1) := by
  funext i' k'
  unfold markP
  by_cases e : i' = i ∧ k' = k
  · obtain ⟨rfl, rfl⟩ := e
    simp only [h, Bool.and_false]
  · congr 2
    rw [decide_eq_decide]
    omega
theorem markP_all (D : List (List Int)) (F : Nat → Nat → Bool) (now : List Int) (i k : Nat) (hi : i < D.length) : markP D F now D.length 0 i k = markL D F [now] i k := by
  unfold markP markL
  simp [hi]

end Go.Proofs.Ytkfiepiipigcmaa

namespace Go.Proofs.Ytkfiepiipigcmaa
open Go.RowKit

theorem validD_iff {D : List (List Int)} : validD D = true ↔ ValD D := by simp [validD]

/-- Where all blocks that may turn lie above, the domains read as before. -/
theorem keptUp {S : Nat → Prop} {w0 w w' : World} (h : Below w0.heap.size w0 w) (hk : Kept S w w') (hs : ∀ b, S b → w0.heap.size ≤ b) : Below w0.heap.size w0 w' :=
  h.trans (hk.toBelow h.size (fun k h1 h2 => by have := hs k h2; omega))

end Go.Proofs.Ytkfiepiipigcmaa

namespace Go.Proofs.Ytkfiepiipigcmaa
open Go.RowKit

theorem choi_8 {D : List (List Int)} (hD : ValD D) (f : Nat) (now : List Int) (hf : f ≤ 6) : (choi D f now).length ≤ 262144 := by
  have h1 := choi_len D (fun d hd => by
    obtain ⟨i, hi, rfl⟩ := List.getElem_of_mem hd
    have := (hD.2.2 i hi).2.1
    simpa [hi] using this) f now
  have : 8 ^ f ≤ 8 ^ 6 := Nat.pow_le_pow_right (by decide) hf
  omega

end Go.Proofs.Ytkfiepiipigcmaa

namespace Go.Proofs.Ytkfiepiipigcmaa
open Go.RowKit

/-- All choices. -/
def allC (D : List (List Int)) : List (List Int) := choi D D.length []

theorem Try.infoBools : (Try.prog.info? 73).map (fun i => (i.zero, i.size, i.bytes)) = some (some (.slice none 0 0), 1, 24) := by kernel_rfl
theorem Try.infoBool : (Try.prog.info? 4).map (fun i => (i.zero, i.size, i.bytes)) = some (some (.bool false), 1, 1) := by kernel_rfl

/-- The rows of marks as they are built. -/
def rowsV (D : List (List Int)) (gs : Nat → Nat) (k : Nat) : List Value := (List.range k).map fun i => .slice (some ⟨gs i, 0, none⟩) (D.getD i []).length (D.getD i []).length
def Built (D : List (List Int)) (lo : Nat) (w : World) (v : Value) (k : Nat) : Prop :=
  ∃ gs : Nat → Nat, w.ownsRow lo 73 1 v k (rowsV D gs k) ∧ ∀ i, i < k → lo ≤ gs i ∧ (∀ j, j < k → j ≠ i → gs j ≠ gs i) ∧ w.rowIs (gs i) 4 (D.getD i []).length (fun _ => .bool false)
theorem Built.marks {D : List (List Int)} {lo : Nat} {w : World} {v : Value} (h : Built D lo w v D.length) (h1 : 1 ≤ D.length) : Marks lo w.heap.size w v D (fun _ _ => false) := by
  obtain ⟨gs, ho, hr⟩ := h
  have hn : v ≠ .slice none 0 0 := by
    rintro rfl
    rcases ho.2 with ⟨_, e⟩ | ⟨g, cap, cur, e, _⟩
    · omega
    · simp at e
  obtain ⟨g, cap, rfl, hg1, hg2⟩ := owns_some ho hn
  refine ⟨g, cap, gs, fun i => (D.getD i []).length, rfl, hg1, hg2, hg2, fun i hi => ?_⟩
  obtain ⟨a1, a2, a3⟩ := hr i hi
  refine ⟨?_, a1, a3.lt, ?_, a2, a3⟩
  · have := ho.cellAt i (by omega)
    rw [this]
    simp [rowsV, hi]
  · rintro rfl
    rcases ho.2 with ⟨e, _⟩ | ⟨g', cap', cur, e, _, hh, _⟩
    · simp at e
    · simp only [Value.slice.injEq, Option.some.injEq, Addr.mk.injEq, and_true] at e
      obtain ⟨rfl, _⟩ := e
      obtain ⟨c, hb, _, _⟩ := a3
      rw [hh] at hb
      simp at hb

theorem slc_lit (w : World) (b : Nat) (hb : b = w.heap.size) (t : TypeId) (u : Value) : Slc (w.alloc (.cells #[u] t)) (.slice (some ⟨b, 0, none⟩) 1 1) [u] := by
  subst hb
  exact slc_of_owns (World.ownsRow_lit (base := w.heap.size) (e := t) (size := 1) w #[u] 1 (Nat.le_refl _) (by simp [maxLen]) rfl)
theorem row_not_owned {w : World} {g n base m : Nat} {t e : TypeId} {f : Nat → Value} {v : Value} {vs : List Value} (h : w.rowIs g t n f) (ho : w.ownsRow base e 1 v m vs) (hte : t ≠ e) : v.ownBlock ≠ some g := by
  rcases ho.2 with ⟨rfl, _⟩ | ⟨g', cap, cur, rfl, _, hh, _⟩
  · simp [Value.ownBlock]
  · intro e2
    simp only [Value.ownBlock, Option.some.injEq] at e2
    subst e2
    obtain ⟨c, hb, _⟩ := h
    rw [hh] at hb
    simp only [Option.some.injEq, Obj.cells.injEq] at hb
    exact hte hb.2.1.symm
theorem rowsV_succ (D : List (List Int)) (gs : Nat → Nat) (k g n : Nat) (hn : n = (D.getD k []).length) : rowsV D (fun i => if i = k then g else gs i) (k + 1) = rowsV D gs k ++ [.slice (some ⟨g, 0, none⟩) n n] := by
  subst hn
  unfold rowsV
  rw [List.range_succ, List.map_append]
  congr 1
  · apply List.map_congr_left
    intro i hi
    have := List.mem_range.1 hi
    simp [show i ≠ k by omega]
  · simp
theorem Built.next {D : List (List Int)} {lo k n : Nat} {w w1 w3 : World} {v v3 : Value} {gs : Nat → Nat} (hn : n = (D.getD k []).length) (h : w.ownsRow lo 73 1 v k (rowsV D gs k))
    (hr : ∀ i, i < k → lo ≤ gs i ∧ (∀ j, j < k → j ≠ i → gs j ≠ gs i) ∧ w.rowIs (gs i) 4 (D.getD i []).length (fun _ => .bool false)) (hlo : lo ≤ w.heap.size)
    (h1 : ∀ i, i < w.heap.size → w1.heap[i]? = w.heap[i]?) (hsz : w.heap.size < w1.heap.size) (hk : w1.rowIs w.heap.size 4 n (fun _ => .bool false)) (hg : w1.grownBy w3 v.ownBlock)
    (h3 : w3.ownsRow lo 73 1 v3 (k + 1) (rowsV D gs k ++ [.slice (some ⟨w.heap.size, 0, none⟩) n n])) : Built D lo w3 v3 (k + 1) := by
  refine ⟨fun i => if i = k then w.heap.size else gs i, by rw [rowsV_succ D gs k _ n hn]; exact h3, fun i hi => ?_⟩
  have key : ∀ j, j < k → gs j < w.heap.size := fun j hj => (hr j hj).2.2.lt
  by_cases e : i = k
  · subst e
    simp only [if_true]
    refine ⟨hlo, fun j hj hne => ?_, ?_⟩
    · rw [if_neg hne]; have := key j (by omega); omega
    · rw [← hn]
      refine hk.of_block (hg.block _ hsz ?_)
      intro e2
      have := (owns_lt h e2.symm).2
      omega
  · simp only [if_neg e]
    obtain ⟨a1, a2, a3⟩ := hr i (by omega)
    refine ⟨a1, fun j hj hne => ?_, ?_⟩
    · by_cases ej : j = k
      · subst ej; rw [if_pos rfl]; have := key i (by omega); omega
      · rw [if_neg ej]; exact a2 j (by omega) hne
    · refine a3.of_block ((hg.block _ (by have := a3.lt; omega) ?_).trans (h1 _ a3.lt))
      exact fun e2 => row_not_owned a3 h (by decide) e2.symm

end Go.Proofs.Ytkfiepiipigcmaa

namespace Go.Proofs.Ytkfiepiipigcmaa
open Go.RowKit

abbrev WB := Option (List Int) × Nat
def gtB (x y : Nat) : Bool := FloatKind.f32.format.order x y == some .gt
noncomputable def wbStep (r : RowsD) (b : WB) (s : List Int) : WB := if (gainOk r (s.map fI) && (b.1.isNone || gtB (gainV r (s.map fI)) b.2)) = true then (some s, gainV r (s.map fI)) else b
noncomputable def wbAll (r : RowsD) (l : List (List Int)) : WB := l.foldl (wbStep r) (none, 0)
theorem wbAll_snoc (r : RowsD) (l : List (List Int)) (s : List Int) : wbAll r (l ++ [s]) = wbStep r (wbAll r l) s := by simp [wbAll]

theorem wbStep_no {r : RowsD} {b : WB} {s : List Int} (h : gainOk r (s.map fI) = false) : wbStep r b s = b := by unfold wbStep; rw [h]; rfl
theorem wbStep_first {r : RowsD} {x : Nat} {s : List Int} (h : gainOk r (s.map fI) = true) : wbStep r (none, x) s = (some s, gainV r (s.map fI)) := by unfold wbStep; rw [h]; rfl
theorem wbStep_more {r : RowsD} {x : Nat} {t s : List Int} (h : gainOk r (s.map fI) = true) (hq : gtB (gainV r (s.map fI)) x = true) : wbStep r (some t, x) s = (some s, gainV r (s.map fI)) := by unfold wbStep; rw [h]; simp [hq]
theorem wbStep_less {r : RowsD} {x : Nat} {t s : List Int} (h : gainOk r (s.map fI) = true) (hq : gtB (gainV r (s.map fI)) x = false) : wbStep r (some t, x) s = (some t, x) := by unfold wbStep; rw [h]; simp [hq]

/-- The best one so far, in two variables. -/
def PQ (B0 bb mb n : Nat) (st : WB) (w : World) : Prop :=
  Box w mb 63 (.float .f32 st.2) ∧ ((st.1 = none ∧ Box w bb 24 (.slice none 0 0)) ∨ ∃ s g cap, st.1 = some s ∧ Box w bb 24 (.slice (some ⟨g, 0, none⟩) n cap) ∧ w.ownsRow B0 2 1 (.slice (some ⟨g, 0, none⟩) n cap) n (s.map I64))
theorem PQ.up {B0 bb mb n : Nat} {st : WB} {w w' : World} (h : PQ B0 bb mb n st w) (hb : Below w.heap.size w w') : PQ B0 bb mb n st w' := by
  obtain ⟨h1, h2⟩ := h
  refine ⟨h1.below hb h1.lt, ?_⟩
  rcases h2 with ⟨h2, h3⟩ | ⟨s, g, cap, h2, h3, h4⟩
  · exact .inl ⟨h2, h3.below hb h3.lt⟩
  · exact .inr ⟨s, g, cap, h2, h3.below hb h3.lt, owns_below h4 hb (Nat.le_refl _)⟩

theorem Box.other' {w : World} {b : Nat} {t : TypeId} {v : Value} (h : Box w b t v) {c : Nat} (hc : b ≠ c) (u : Value) : Box (w.setCell ⟨c, 0, none⟩ u) b t v := h.kept (Kept.setCell (S := (· = c)) (p := ⟨c, 0, none⟩) (Kept.refl _ _) (.inr rfl) _) hc
theorem PQ.set {B0 bb mb n g0 cap x y : Nat} {z : Value} {s : List Int} {w : World} (hbb : bb < B0) (hmb : mb < B0) (hne : bb ≠ mb) (hg0 : B0 ≤ g0) (h1 : Box w bb 24 z) (h2 : Box w mb 63 (.float .f32 x)) (h3 : w.ownsRow B0 2 1 (.slice (some ⟨g0, 0, none⟩) n cap) n (s.map I64)) :
    PQ B0 bb mb n (some s, y) ((w.setCell ⟨bb, 0, none⟩ (.slice (some ⟨g0, 0, none⟩) n cap)).setCell ⟨mb, 0, none⟩ (.float .f32 y)) := by
  refine ⟨(h2.other' (by omega) _).set _, .inr ⟨s, g0, cap, rfl, (h1.set _).other' hne _, ?_⟩⟩
  exact owns_other (owns_other h3 (by simp [Value.ownBlock]; omega) _) (by simp [Value.ownBlock]; omega) _

theorem Try.entersPW (args : Array Value) (w : World) : (callFunc 124 args).run Try.prog w = .ok (.enter 124 args) w :=
  enters_of Try.func124 (by kernel_rfl) rfl args w

theorem implGain_b (q : Bool) (y : Nat) (v : Value) (r : RowsD) (u : Value) (x : List Nat) (w : World) (h : RdR w v r) (hu : RdF w u x) (hq : gainOk r x = q) (hy : gainV r x = y) :
    Calls Try.prog 91 #[v, u] w fun e w' => e = .returned (.tuple #[.float .f32 y, .bool q]) ∧ Below w.heap.size w w' := by
  have := implGain_any v r u x w h hu
  rw [hq, hy] at this
  exact this

set_option maxHeartbeats 4000000 in
set_option maxRecDepth 4000 in
theorem planW1_any (B0 rb bb mb n : Nat) (r : RowsD) (a1 : Option Addr) (c1 : Nat) (a2 : Option Addr) (c2 : Nat) (a3 : Option Addr) (c3 : Nat) (st : WB) (s : List Int) (a : Option Addr) (cap m : Nat) (w : World)
    (hm : s.length = m) (hmn : m = n) (h1 : 1 ≤ n) (hn8 : n ≤ 8) (hs : w.ownsRow B0 2 1 (.slice a m cap) m (s.map I64)) (hbb : bb < B0) (hmb : mb < B0) (hne : bb ≠ mb)
    (hk : Blk w rb 67 #[.int .i64 r.vars, .slice a1 r.nums.length c1, .slice a2 r.bnds.length c2, .slice a3 r.gains.length c3]) (hr : RdR w (.agg #[.int .i64 r.vars, .slice a1 r.nums.length c1, .slice a2 r.bnds.length c2, .slice a3 r.gains.length c3]) r) (h : PQ B0 bb mb n st w) :
    Calls Try.prog 124 (#[.slice a m cap] ++ #[.pointer (some ⟨rb, 0, none⟩), .pointer (some ⟨bb, 0, none⟩), .pointer (some ⟨mb, 0, none⟩)]) w fun e w' =>
      e = .returned (.tuple #[]) ∧ PQ B0 bb mb n (wbStep r st s) w' ∧ Kept (fun b => b = bb ∨ b = mb) w w' := by
  subst hm
  subst hmn
  have heq := fun (w : World) (a : Option Addr) (n c : Nat) => Lib.run_eql_slice_nil (P := Try.prog) w 24 2 a n c 0 0 Try.underlying24
  obtain ⟨g0, rfl, hg0⟩ := owns_slice_some hs (by omega)
  have HS := Lib.hid hs
  have HR := Lib.hid hr
  have HPQ := Lib.hid h
  have HKB := Lib.hid hk
  have d0 : w.cell? ⟨rb, 0, none⟩ = some (.int .i64 r.vars) := hk.cell 0 rfl
  have d1 : w.cell? ⟨rb, 1, none⟩ = some (.slice a1 r.nums.length c1) := hk.cell 1 rfl
  have d2 : w.cell? ⟨rb, 2, none⟩ = some (.slice a2 r.bnds.length c2) := hk.cell 2 rfl
  have d3 : w.cell? ⟨rb, 3, none⟩ = some (.slice a3 r.gains.length c3) := hk.cell 3 rfl
  obtain ⟨q, hq⟩ : ∃ q, gainOk r (s.map fI) = q := ⟨_, rfl⟩
  obtain ⟨y, hy⟩ : ∃ y, gainV r (s.map fI) = y := ⟨_, rfl⟩
  have HQ := Lib.hid hq
  have HY := Lib.hid hy
  clear hs hr h hq hy hk
  go_enter Try.func124, Try.ntmps124
  go_wp2_with fail
  go_region_held3 (fun X => X.cell? ⟨rb, 0, none⟩ = some (.int .i64 r.vars) ∧ X.cell? ⟨rb, 1, none⟩ = some (.slice a1 r.nums.length c1) ∧ X.cell? ⟨rb, 2, none⟩ = some (.slice a2 r.bnds.length c2) ∧ X.cell? ⟨rb, 3, none⟩ = some (.slice a3 r.gains.length c3) ∧ Below w.heap.size w X)
    (first | exact ⟨held_of hbn d0 (Nat.le_refl _), held_of hbn d1 (Nat.le_refl _), held_of hbn d2 (Nat.le_refl _), held_of hbn d3 (Nat.le_refl _), hbn⟩ | exact ⟨d0, d1, d2, d3, (Below.refl _ _).drew⟩)
    (first
      | (go_at_call 125; have hh := (‹_ ∧ _ ∧ _ ∧ _ ∧ Below w.heap.size w _›).2.2.2.2; refine (asNumbers_any _ s _ (Slc.below (slc_of_owns HS.out) hh (Nat.le_refl _)) (by omega)).mono ?_; rintro e w1 ⟨nu, rfl, hnu, hb1⟩; have hbn := hh.trans (hb1.mono hh.size))
      | (go_at_call 91; have hh := (‹_ ∧ _ ∧ _ ∧ _ ∧ Below w.heap.size w _›).2.2.2.2; refine (implGain_b q y _ r _ (s.map fI) _ (HR.out.up hh (Nat.le_refl _)) hnu HQ.out HY.out).mono ?_; rintro e w2 ⟨rfl, hb2⟩; have hbn := hh.trans (hb2.mono hh.size))
      | fail)
  have HB := Lib.hid hbn
  clear hbn d0 d1 d2 d3
  have HS2 := Lib.hid (owns_below HS.out HB.out (Nat.le_refl _))
  have HK2 := Lib.hid (Kept.of_below (S := fun b => b = bb ∨ b = mb) HB.out (Nat.le_refl _))
  have HPQ2 := Lib.hid (HPQ.out.up HB.out)
  obtain ⟨o, x⟩ := st
  clear HPQ
  cases q
  · have HN := Lib.hid (wbStep_no (b := (o, x)) HQ.out)
    go_wp2_with fail
    go_end0
    exact ⟨rfl, by rw [HN.out]; exact HPQ2.out, HK2.out⟩
  · obtain ⟨hm, hb⟩ := HPQ2.out
    have cm := hm.cell
    have fm := hm.free
    have HM := Lib.hid hm
    simp only at cm hb
    rcases hb with ⟨rfl, hb⟩ | ⟨t, g, cap', rfl, hb, ho⟩
    · have cb := hb.cell
      have fb := hb.free
      have HBB := Lib.hid hb
      have HN := Lib.hid (wbStep_first (x := x) HQ.out)
      clear hm hb
      go_wp2_with fail
      go_end0
      refine ⟨rfl, ?_, Kept.setCell (Kept.setCell HK2.out (.inr (.inl rfl)) _) (.inr (.inr rfl)) _⟩
      rw [HN.out, HY.out]
      exact PQ.set hbb hmb hne hg0 HBB.out HM.out HS2.out
    · have cb := hb.cell
      have fb := hb.free
      have HBB := Lib.hid hb
      cases hq : gtB y x
      · have hq' : (FloatKind.f32.format.order y x == some .gt) = false := hq
        have HN := Lib.hid (wbStep_less (t := t) HQ.out (by rw [HY.out]; exact hq))
        clear hm hb hq ho
        go_wp2_with fail
        go_end0
        exact ⟨rfl, by rw [HN.out]; exact HPQ2.out, HK2.out⟩
      · have hq' : (FloatKind.f32.format.order y x == some .gt) = true := hq
        have HN := Lib.hid (wbStep_more (t := t) HQ.out (by rw [HY.out]; exact hq))
        clear hm hb hq ho
        go_wp2_with fail
        go_end0
        refine ⟨rfl, ?_, Kept.setCell (Kept.setCell HK2.out (.inr (.inl rfl)) _) (.inr (.inr rfl)) _⟩
        rw [HN.out, HY.out]
        exact PQ.set hbb hmb hne hg0 HBB.out HM.out HS2.out

end Go.Proofs.Ytkfiepiipigcmaa

namespace Go.Proofs.Ytkfiepiipigcmaa
open Go.RowKit

noncomputable def planB (r : RowsD) (top : Int) : WB := if topB r top = true then wbAll r (wSolsT r top) else (none, 0)
noncomputable def planL (r : RowsD) (top : Int) : List Int := (planB r top).1.getD []
noncomputable def planY (r : RowsD) (top : Int) : Nat := (planB r top).2
noncomputable def planOk (r : RowsD) (top : Int) : Bool := (planB r top).1.isSome

theorem wbStep_len {r : RowsD} {b : WB} {s t : List Int} (h : (wbStep r b s).1 = some t) : t = s ∨ b.1 = some t := by
  unfold wbStep at h
  split at h
  · left; simpa using h.symm
  · right; exact h
theorem wbAll_mem {r : RowsD} {l : List (List Int)} : ∀ {t : List Int}, (wbAll r l).1 = some t → t ∈ l := by
  suffices H : ∀ (l : List (List Int)) (b : WB) (t : List Int), (l.foldl (wbStep r) b).1 = some t → t ∈ l ∨ b.1 = some t by
    intro t h
    rcases H l (none, 0) t h with h | h
    · exact h
    · cases h
  intro l
  induction l with
  | nil => intro b t h; exact .inr h
  | cons s l ih =>
    intro b t h
    rcases ih _ t h with h | h
    · exact .inl (List.mem_cons_of_mem _ h)
    · rcases wbStep_len h with rfl | h
      · exact .inl (List.mem_cons_self ..)
      · exact .inr h
theorem wbStep_zero {r : RowsD} {b : WB} {s : List Int} (h0 : b.1 = none → b.2 = 0) (h : (wbStep r b s).1 = none) : (wbStep r b s).2 = 0 := by
  unfold wbStep at h ⊢
  split at h
  · cases h
  · next hn => rw [if_neg hn]; exact h0 h
theorem wbAll_zero {r : RowsD} {l : List (List Int)} (h : (wbAll r l).1 = none) : (wbAll r l).2 = 0 := by
  suffices H : ∀ (l : List (List Int)) (b : WB), (b.1 = none → b.2 = 0) → (l.foldl (wbStep r) b).1 = none → (l.foldl (wbStep r) b).2 = 0 from H l (none, 0) (fun _ => rfl) h
  intro l
  induction l with
  | nil => intro b h0 h; exact h0 h
  | cons s l ih => intro b h0 h; exact ih _ (fun h1 => wbStep_zero h0 h1) h
theorem wSols_mem (r : RowsD) (top : Nat) : ∀ (f : Nat) (now s : List Int), s ∈ wSols r top f now → s.length = now.length + f
  | 0, now, s, h => by
    unfold wSols at h
    split at h <;> simp_all
  | f + 1, now, s, h => by
    rw [wSols_succ] at h
    unfold wPart at h
    obtain ⟨k, _, h⟩ := List.mem_flatMap.1 h
    have := wSols_mem r top f _ s h
    simp at this
    omega
theorem planL_cnt (r : RowsD) (top : Int) : cntI (planL r top) ≤ 1048576 := by
  unfold cntI planL planB
  split
  · next h =>
    cases e : (wbAll r (wSolsT r top)).1 with
    | none => simp
    | some s =>
      have h1 := wSols_mem _ _ _ _ _ (wbAll_mem e)
      obtain ⟨hv, h4, _, _⟩ := topB_parts h
      have := hv.gl
      simp at h1
      simp
      omega
  · simp

set_option maxHeartbeats 2000000 in
set_option maxRecDepth 4000 in
theorem implWP_any (v : Value) (r : RowsD) (top : Int) (w : World) (h : RdR w v r) :
    Calls Try.prog 92 #[v, .int .i64 top] w fun e w' => ∃ v', e = .returned (.tuple #[v', .float .f32 (planY r top), .bool (planOk r top)]) ∧ OwnI w.heap.size w'.heap.size w' v' (planL r top) ∧ Below w.heap.size w w' := by
  obtain ⟨a1, c1, a2, c2, a3, c3, rfl⟩ := h.shape
  have HP := Lib.hid h
  have HNE := Lib.hid (fun (w : World) (a : Option Addr) (n c : Nat) => run_neq_slice_nil_any (P := Try.prog) w 24 2 a n c 0 0 Try.underlying24)
  clear h
  obtain ⟨q, hq⟩ : ∃ q, topB r top = q := ⟨_, rfl⟩
  have HQ := Lib.hid hq
  clear hq
  go_enter Try.func92, Try.ntmps92
  go_wp2_with fail
  refine Calls.at fun W hW => ?_
  have hb := Lib.hid (show Below w.heap.size w W by subst hW; (repeat' first | exact Below.refl _ _ | assumption | refine Below.alloc ?_ ?_ _ | refine Below.setCell ?_ ?_ _ | refine Below.drew ?_ | (simp; done) | (simp; omega)))
  have hk := Lib.hid (show Blk W w.heap.size 67 #[.int .i64 r.vars, .slice a1 r.nums.length c1, .slice a2 r.bnds.length c2, .slice a3 r.gains.length c3] by subst hW; exact Blk.new _ _ _)
  clear hW
  refine (isTop_any _ r top W (HP.out.up hb.out (Nat.le_refl _))).mono ?_
  rintro e w1 ⟨rfl, hb1⟩
  rw [HQ.out]
  have HB1 := Lib.hid (hb.out.trans (hb1.mono hb.out.size))
  have HK1 := Lib.hid (hk.out.below hb1 hk.out.lt)
  have d0 : w1.cell? ⟨w.heap.size, 0, none⟩ = some (.int .i64 r.vars) := HK1.out.cell 0 rfl
  have d1 : w1.cell? ⟨w.heap.size, 1, none⟩ = some (.slice a1 r.nums.length c1) := HK1.out.cell 1 rfl
  have d2 : w1.cell? ⟨w.heap.size, 2, none⟩ = some (.slice a2 r.bnds.length c2) := HK1.out.cell 2 rfl
  have d3 : w1.cell? ⟨w.heap.size, 3, none⟩ = some (.slice a3 r.gains.length c3) := HK1.out.cell 3 rfl
  have hsz := HB1.out.size
  have hkl := HK1.out.lt
  clear hb1 hb hk
  cases q
  · have HN := Lib.hid (show planB r top = (none, 0) by unfold planB; rw [HQ.out]; rfl)
    go_wp2_with fail
    go_ret3
    exact ⟨_, by unfold planY planOk; rw [HN.out]; rfl, by unfold planL; rw [HN.out]; exact ⟨World.ownsRow_nil _ _ _ _, by intro g hg; cases hg⟩, HB1.out⟩
  · obtain ⟨hv, h4, t1, t5⟩ := topB_parts HQ.out
    have hgl := hv.gl
    have hv1 := hv.v1
    have HLEN := Lib.hid (wSolsT_len HQ.out)
    obtain ⟨T, rfl⟩ := Int.eq_ofNat_of_zero_le (by omega : 0 ≤ top)
    have HN := Lib.hid (show planB r (T : Int) = wbAll r (wSols r T r.gains.length []) by unfold planB; rw [HQ.out, if_pos rfl]; rfl)
    have HL2 := Lib.hid (show (wSols r T r.gains.length []).length ≤ 1296 from HLEN.out)
    have HGL := Lib.hid hgl
    have hgn : 1 ≤ r.gains.length := by omega
    have hg4 : r.gains.length ≤ 4 := by omega
    have HGN := Lib.hid (And.intro hgn hg4)
    clear hgl hv hgn hg4
    go_wp2_with fail
    refine Calls.at fun W2 hW2 => ?_
    have hb2 := Lib.hid (show Below w.heap.size w W2 by subst hW2; exact (HB1.out.alloc hsz _).alloc (by simp; omega) _)
    have hbx := Lib.hid (show Box W2 w1.heap.size 24 (.slice none 0 0) by subst hW2; exact (Box.new w1 24 (.slice none 0 0)).below ((Below.refl _ _).alloc (Nat.le_refl _) _) (by simp))
    have hmx := Lib.hid (show Box W2 (w1.heap.size + 1) 63 (.float .f32 0) by subst hW2; simpa using Box.new (w1.alloc (.cells #[.slice none 0 0] 24)) 63 (.float .f32 0))
    have hk2 := Lib.hid (show Blk W2 w.heap.size 67 #[.int .i64 r.vars, .slice a1 r.nums.length c1, .slice a2 r.bnds.length c2, .slice a3 r.gains.length c3] by subst hW2; exact (HK1.out.alloc _).alloc _)
    have hz2 : W2.heap.size = w1.heap.size + 2 := by subst hW2; simp
    clear hW2 d0 d1 d2 d3
    refine (eachWhole_any r _ T r.gains.length HGL.out.symm HGN.out.2 (by omega) 124 Try.entersPW #[.pointer (some ⟨w.heap.size, 0, none⟩), .pointer (some ⟨w1.heap.size, 0, none⟩), .pointer (some ⟨w1.heap.size + 1, 0, none⟩)] (w1.heap.size + 2) (fun b => b = w1.heap.size ∨ b = w1.heap.size + 1) (by intro b hb; omega)
      (fun done w' => PQ (w1.heap.size + 2) w1.heap.size (w1.heap.size + 1) r.gains.length (wbAll r done) w' ∧ Below w1.heap.size W2 w') W2 ?_ ?_ ?_ r.gains.length none 0 [] W2 [] 0 rfl (by simp) (by omega) (World.ownsRow_nil _ _ _ _) (Kept.refl _ _) ?_ (by have := HL2.out; simp; omega)).mono ?_
    · intro X hX
      exact HP.out.up (hb2.out.trans (hX.toBelow (B := w.heap.size) hb2.out.size (by intro k h1 h2; omega))) (Nat.le_refl _)
    · rintro done wa wb ⟨hb, hbl⟩ h12
      exact ⟨hb.up h12, hbl.trans (h12.mono (by have := hbl.size; omega))⟩
    · rintro done s a cap m wa hm hmn hs hlen hka ⟨hb, hbl⟩
      refine (planW1_any (w1.heap.size + 2) w.heap.size w1.heap.size (w1.heap.size + 1) r.gains.length r a1 c1 a2 c2 a3 c3 (wbAll r done) s a cap m wa hm hmn HGN.out.1 (by have := HGN.out.2; omega) hs (by omega) (by omega) (by omega)
        (hk2.out.kept hka (by show ¬ (w.heap.size = w1.heap.size ∨ w.heap.size = w1.heap.size + 1); omega))
        (HP.out.up (hb2.out.trans (hka.toBelow (B := w.heap.size) hb2.out.size (by intro k h1 h2; omega))) (Nat.le_refl _)) hb).mono ?_
      rintro e wb ⟨rfl, h1, h2⟩
      refine ⟨rfl, ⟨by rw [wbAll_snoc]; exact h1, hbl.trans (h2.toBelow (by have := hbl.size; omega) (by intro k h1 h2; omega))⟩, h2⟩
    · exact ⟨⟨hmx.out, .inl ⟨rfl, hbx.out⟩⟩, Below.refl _ _⟩
    · rintro e wa ⟨rfl, ⟨hb, hbl⟩, hk⟩
      simp only [List.nil_append] at hb
      have HB := Lib.hid (hb2.out.trans (hbl.mono hsz))
      have hne := HNE.out
      obtain ⟨hm, hb⟩ := hb
      have cm := hm.cell
      obtain ⟨st, hst⟩ : ∃ st, st = wbAll r (wSols r T r.gains.length []) := ⟨_, rfl⟩
      rw [← hst] at cm hm hb HN
      obtain ⟨o, y⟩ := st
      simp only at cm hm hb
      clear hbl hk hst hm
      rcases hb with ⟨rfl, h2⟩ | ⟨s, g, cap, rfl, h2, h3⟩
      · have hc := h2.cell
        clear h2
        go_wp2_with fail
        go_quiet (fail)
        go_wp2_with fail
        go_ret3
        exact ⟨_, by unfold planY planOk; rw [HN.out]; rfl, by unfold planL; rw [HN.out]; exact ⟨World.ownsRow_nil _ _ _ _, by intro g hg; cases hg⟩, below_drewN HB.out _⟩
      · have hc := h2.cell
        have H3 := Lib.hid h3
        clear h2 h3
        go_wp2_with fail
        go_quiet (fail)
        go_wp2_with fail
        go_ret3
        exact ⟨_, by unfold planY planOk; rw [HN.out]; rfl, by unfold planL; rw [HN.out]; exact OwnI.mk (owns_base (owns_below H3.out (below_drewN (Below.refl _ _) _) (Nat.le_refl _)) (by omega)), below_drewN HB.out _⟩

end Go.Proofs.Ytkfiepiipigcmaa

namespace Go.Proofs.Ytkfiepiipigcmaa
open Go.RowKit

structure TabD where
  vars : Nat
  nums : List Nat
  basis : List Int
def RdTb (w : World) (v : Value) (t : TabD) : Prop := ∃ va vb, v = .agg #[.int .i64 t.vars, va, vb] ∧ RdF w va t.nums ∧ RdI w vb t.basis
theorem RdTb.shape {w : World} {v : Value} {t : TabD} (h : RdTb w v t) : ∃ a c b d, v = .agg #[.int .i64 t.vars, .slice a t.nums.length c, .slice b t.basis.length d] := by
  obtain ⟨va, vb, rfl, h1, h2⟩ := h
  obtain ⟨a, c, rfl⟩ := h1.shape
  obtain ⟨b, d, rfl⟩ := h2.shape
  exact ⟨a, c, b, d, rfl⟩
theorem RdTb.parts {w : World} {x0 x y : Value} {t : TabD} (h : RdTb w (.agg #[x0, x, y]) t) : RdF w x t.nums ∧ RdI w y t.basis := by
  obtain ⟨va, vb, e, h1, h2⟩ := h
  simp only [Value.agg.injEq, Array.mk.injEq, List.cons.injEq, and_true] at e
  obtain ⟨_, rfl, rfl⟩ := e
  exact ⟨h1, h2⟩
theorem RdTb.up {w w' : World} {v : Value} {t : TabD} {B : Nat} (h : RdTb w v t) (hb : Below B w w') (hB : w.heap.size ≤ B) : RdTb w' v t := by
  obtain ⟨va, vb, e, h1, h2⟩ := h
  exact ⟨va, vb, e, h1.up hb hB, h2.up hb hB⟩
/-- How many numbers a row of a table has. -/
def wdT (t : TabD) : Nat := t.vars + t.basis.length + 1
/-- The sides of a table are as they should be. -/
structure DimT (t : TabD) : Prop where
  v1 : 1 ≤ t.vars
  v8 : t.vars ≤ 8
  b1 : 1 ≤ t.basis.length
  b8 : t.basis.length ≤ 8
  nl : t.nums.length = wdT t * (t.basis.length + 1)
theorem DimT.w17 {t : TabD} (h : DimT t) : 3 ≤ wdT t ∧ wdT t ≤ 17 := by have := h.v1; have := h.v8; have := h.b1; have := h.b8; unfold wdT; omega
theorem DimT.ix {t : TabD} (h : DimT t) {i k : Nat} (hi : i ≤ t.basis.length) (hk : k < wdT t) : i * wdT t + k < t.nums.length := by
  rw [h.nl, Nat.mul_comm (wdT t)]
  have : (i + 1) * wdT t ≤ (t.basis.length + 1) * wdT t := Nat.mul_le_mul_right _ (by omega)
  rw [Nat.add_mul] at this
  omega
theorem DimT.n153 {t : TabD} (h : DimT t) : t.nums.length ≤ 153 := by
  have h1 := h.w17
  have h2 := h.b8
  rw [h.nl]
  exact Nat.le_trans (Nat.mul_le_mul h1.2 (show t.basis.length + 1 ≤ 9 by omega)) (by decide)
def atT (t : TabD) (i k : Nat) : Nat := t.nums.getD (i * wdT t + k) 0

set_option maxHeartbeats 1000000 in
theorem tabWide_any (v : Value) (t : TabD) (w : World) (h : RdTb w v t) (hd : DimT t) :
    Calls Try.prog 151 #[v] w fun e w' => e = .returned (.int .i64 (wdT t : Nat)) ∧ Below w.heap.size w w' := by
  obtain ⟨a, c, b, d, rfl⟩ := h.shape
  have h8 := hd.v8
  have hb8 := hd.b8
  have HW := Lib.hid (show ((wdT t : Nat) : Int) = (t.vars : Int) + t.basis.length + 1 by unfold wdT; push_cast; rfl)
  obtain ⟨V, hV⟩ : ∃ V, V = t.vars := ⟨_, rfl⟩
  obtain ⟨N, hN⟩ : ∃ N, N = t.basis.length := ⟨_, rfl⟩
  rw [← hV] at h8 HW ⊢
  rw [← hN] at hb8 HW ⊢
  clear hd hV hN h
  go_enter Try.func151, Try.ntmps151
  go_wp2_with fail
  go_ret
  exact ⟨by rw [HW.out]; rfl, by (repeat' first | exact Below.refl _ _ | assumption | refine Below.alloc ?_ ?_ _ | refine Below.setCell ?_ ?_ _ | refine Below.drew ?_ | (simp; done) | (simp; omega))⟩

set_option maxHeartbeats 1000000 in
theorem tabAt_any (v : Value) (t : TabD) (i k : Nat) (w : World) (h : RdTb w v t) (hd : DimT t) (hi : i ≤ t.basis.length) (hk : k < wdT t) :
    Calls Try.prog 152 #[v, .int .i64 i, .int .i64 k] w fun e w' => e = .returned (.float .f32 (atT t i k)) ∧ Below w.heap.size w w' := by
  have HRT := Lib.hid h
  obtain ⟨a, c, b, d, rfl⟩ := h.shape
  have hx := hd.ix hi hk
  have hn := hd.n153
  have h17 := hd.w17
  have hb8 := hd.b8
  obtain ⟨gb, go, rfl, _, hc⟩ := h.parts.1.at hx
  obtain ⟨x, hxe⟩ : ∃ x, x = atT t i k := ⟨_, rfl⟩
  rw [show t.nums.getD (i * wdT t + k) 0 = x from hxe.symm] at hc
  rw [← hxe]
  obtain ⟨W, hW⟩ : ∃ W, W = wdT t := ⟨_, rfl⟩
  obtain ⟨m, hm⟩ : ∃ m, m = i * W + k := ⟨_, rfl⟩
  obtain ⟨p, hp⟩ : ∃ p, p = i * W := ⟨_, rfl⟩
  have e1 : (i : Int) * (W : Int) = (p : Int) := by rw [hp]; push_cast; rfl
  have e2 : (p : Int) + (k : Int) = (m : Int) := by rw [hm, ← hp]; push_cast; rfl
  have hpm : p ≤ m := by omega
  have hm153 : m < 153 := by rw [← hW, ← hm] at hx; omega
  have hw1 : IntKind.i64.wrap (p : Int) = (p : Int) := IntWalk.i64_in _ (by omega)
  have hw2 : IntKind.i64.wrap ((p : Int) + (k : Int)) = (m : Int) := by rw [e2]; exact IntWalk.i64_in _ (by omega)
  rw [← hW] at hx hc hk h17
  rw [← hm] at hx hc
  have HW := Lib.hid (fun X (hb : Below w.heap.size w X) => tabWide_any _ t X (HRT.out.up hb (Nat.le_refl _)) hd)
  rw [← hW] at HW
  obtain ⟨N, hN⟩ : ∃ N, N = t.nums.length := ⟨_, rfl⟩
  rw [← hN] at hx hn HW ⊢
  have hxI : (m : Int) < (N : Int) := by omega
  clear h hd hxe hW hm hN HRT hp e2
  go_enter Try.func152, Try.ntmps152
  go_upto_region 1 with fail
  refine wp_at fun W0 hW0 => ?_
  have HB0 := Lib.hid (show Below w.heap.size w W0 by subst hW0; (repeat' first | exact Below.refl _ _ | assumption | refine Below.alloc ?_ ?_ _ | refine Below.setCell ?_ ?_ _ | refine Below.drew ?_ | (simp; done) | (simp; omega)))
  have HK0 := Lib.hid (show Blk W0 w.heap.size 136 #[.int .i64 t.vars, .slice (some ⟨gb, go, none⟩) N c, .slice b t.basis.length d] by subst hW0; exact Blk.new _ _ _)
  clear hW0
  have d0 : W0.cell? ⟨w.heap.size, 0, none⟩ = some (.int .i64 t.vars) := HK0.out.cell 0 rfl
  have d1 : W0.cell? ⟨w.heap.size, 1, none⟩ = some (.slice (some ⟨gb, go, none⟩) N c) := HK0.out.cell 1 rfl
  have d2 : W0.cell? ⟨w.heap.size, 2, none⟩ = some (.slice b t.basis.length d) := HK0.out.cell 2 rfl
  have hc0 := held_of HB0.out hc (Nat.le_refl _)
  have hz0 := HB0.out.size
  clear hc
  refine wp_region_cls (fun X => X.cell? ⟨w.heap.size, 0, none⟩ = some (.int .i64 t.vars) ∧ X.cell? ⟨w.heap.size, 1, none⟩ = some (.slice (some ⟨gb, go, none⟩) N c) ∧ X.cell? ⟨w.heap.size, 2, none⟩ = some (.slice b t.basis.length d) ∧ X.cell? ⟨gb, go + m, none⟩ = some (.float .f32 x) ∧ Hid (Below W0.heap.size W0 X)) (by kernel_rfl) (by kernel_rfl) (⟨d0, d1, d2, hc0, (Below.refl _ _).drew⟩) ?_
  repeat (first
    | go_big_quiet_skip
    | (go_big_quiet_want
       apply Exists.intro
       refine ⟨fun X hX => ?_, ?_⟩
       · (try dsimp only at hX)
         go_simp
         (first | with_reducible rfl | done | (have hcur := hX.2.2.2.2; go_at_call 151; refine (HW.out X (HB0.out.trans (hcur.out.mono hz0))).mono ?_; rintro e w2 ⟨rfl, hb2⟩; have hbn := hcur.out.trans (hb2.mono hcur.out.size); exact ⟨rfl, held_of hbn d0 (Nat.le_refl _), held_of hbn d1 (Nat.le_refl _), held_of hbn d2 (Nat.le_refl _), held_of hbn hc0 (Nat.le_refl _), hbn⟩))
       go_big_quiet_on
       (try simp only [Act.put, List.setIfInBounds_toArray, List.set_cons_zero, List.set_cons_succ])))
  refine wpQuiet_nil ?_
  intro w1 hC
  (try dsimp only at hC)
  go_wp2_with fail
  go_ret
  exact ⟨rfl, HB0.out.trans (hC.2.2.2.2.out.mono hz0)⟩

end Go.Proofs.Ytkfiepiipigcmaa
