/-
  FnExactWholesShared: texts joined: Plan, Jobs, RowsL, Shared.
-/
import Derived.Deep.RegionHeld3
import Derived.Test.YtkmbkjbammpdhaaMEWholesSharedAB
import Derived.Test.YtkmbkjbammpdhaaMEWholesSharedAC
import Derived.Test.YtkmbkjbammpdhaaMEWholesSharedAF
import Derived.Test.YtkmbkjbammpdhaaMEWholesSharedAI
namespace Go.Proofs.Ytkmbkjbammpdhaa
open Go.RowKit

set_option maxHeartbeats 2000000 in
set_option maxRecDepth 4000 in
theorem specWP_any (v : Value) (r : RowsD) (top : Int) (w : World) (h : RdR w v r) :
    Calls Try.prog 24 #[v, .int .i64 top] w fun e w' => ∃ v', e = .returned (.tuple #[v', .float .f32 (planY r top), .bool (planOk r top)]) ∧ OwnI w.heap.size w'.heap.size w' v' (planL r top) ∧ Below w.heap.size w w' := by
  obtain ⟨a1, c1, a2, c2, a3, c3, rfl⟩ := h.shape
  have HP := Lib.hid h
  clear h
  obtain ⟨q, hq⟩ : ∃ q, topB r top = q := ⟨_, rfl⟩
  have HQ := Lib.hid hq
  clear hq
  go_enter Try.func24, Try.ntmps24
  go_wp2_with fail
  refine Calls.at fun W hW => ?_
  have hb := Lib.hid (show Below w.heap.size w W by subst hW; (repeat' first | exact Below.refl _ _ | assumption | refine Below.alloc ?_ ?_ _ | refine Below.setCell ?_ ?_ _ | refine Below.drew ?_ | (simp; done) | (simp; omega)))
  have hk := Lib.hid (show Blk W w.heap.size 26 #[.int .i64 r.vars, .slice a1 r.nums.length c1, .slice a2 r.bnds.length c2, .slice a3 r.gains.length c3] by subst hW; exact Blk.new _ _ _)
  clear hW
  refine (l07Rows_any w.heap.size _ _ _ _ r top W hk.out (HP.out.up hb.out (Nat.le_refl _))).mono ?_
  rintro e w1 ⟨rfl, m1, rfl⟩
  rw [HQ.out]
  cases q
  · have HN := Lib.hid (show planB r top = (none, 0) by unfold planB; rw [HQ.out]; rfl)
    go_wp2_with fail
    go_ret3
    exact ⟨_, by unfold planY planOk; rw [HN.out]; rfl, by unfold planL; rw [HN.out]; exact ⟨World.ownsRow_nil _ _ _ _, by intro g hg; cases hg⟩, below_drewN hb.out _⟩
  · obtain ⟨hv, h4, t1, t5⟩ := topB_parts HQ.out
    obtain ⟨T, rfl⟩ := Int.eq_ofNat_of_zero_le (by omega : 0 ≤ top)
    have hgl := hv.gl
    have hv1 := hv.v1
    have HGN := Lib.hid (show 1 ≤ r.gains.length by omega)
    clear hgl hv hv1
    have HB1 := Lib.hid (below_drewN hb.out m1)
    have HK1 := Lib.hid (show Blk (W.drewN m1) w.heap.size 26 #[.int .i64 r.vars, .slice a1 r.nums.length c1, .slice a2 r.bnds.length c2, .slice a3 r.gains.length c3] from hk.out)
    have hsz := hb.out.size
    clear hb hk
    go_wp2_with fail
    refine (l07Best_any w.heap.size a1 c1 a2 c2 a3 c3 r T _ HQ.out HK1.out (HP.out.up HB1.out (Nat.le_refl _))).mono ?_
    rintro e w2 ⟨bv, rfl, hbs, hbl⟩
    have HB2 := Lib.hid (HB1.out.trans (hbl.mono HB1.out.size))
    have HPO := Lib.hid (show planOk r (T : Int) = (planB r (T : Int)).1.isSome from rfl)
    have HPL := Lib.hid (show planL r (T : Int) = (planB r (T : Int)).1.getD [] from rfl)
    have HZ := Lib.hid (show (planB r (T : Int)).1 = none → planY r (T : Int) = 0 by
      intro h
      have e : planB r (T : Int) = wbAll r (wSolsT r (T : Int)) := by unfold planB; rw [if_pos HQ.out]
      unfold planY
      rw [e] at h ⊢
      exact wbAll_zero h)
    clear hbl
    obtain ⟨y, hy⟩ : ∃ y, y = planY r (T : Int) := ⟨_, rfl⟩
    rw [← hy] at HZ ⊢
    have HY := Lib.hid hy
    clear hy
    rcases hbs with ⟨h1, a, rfl⟩ | ⟨s, gb, cap, h1, rfl, h3⟩
    · have H1 := Lib.hid h1
      have hy0 : y = 0 := HZ.out h1
      subst hy0
      have HOK := Lib.hid (show planOk r (T : Int) = false by rw [HPO.out, h1]; rfl)
      rw [HOK.out]
      clear h1
      go_wp2_with fail
      go_ret3
      exact ⟨_, by rw [← HY.out, HOK.out]; rfl, by rw [HPL.out, H1.out]; exact ⟨World.ownsRow_nil _ _ _ _, by intro g hg; cases hg⟩, HB2.out⟩
    · have H1 := Lib.hid h1
      have H3 := Lib.hid h3
      have HOK := Lib.hid (show planOk r (T : Int) = true by rw [HPO.out, h1]; rfl)
      rw [HOK.out]
      clear h1 h3 HZ
      go_wp2_with fail
      go_ret3
      exact ⟨_, by rw [← HY.out, HOK.out]; rfl, by rw [HPL.out, H1.out]; exact OwnI.mk (owns_base H3.out (by simpa using hsz)), HB2.out⟩

theorem nan_zero : nan32 0 = false := by decide +kernel
theorem gainV_nan (r : RowsD) (x : List Nat) (h : gainOk r x = true) : nan32 (gainV r x) = false := by
  have h2 : fin32 (gainV r x) = true := by
    unfold gainV
    rw [if_pos h]
    unfold gainOk at h
    simp only [Bool.and_eq_true] at h
    cases hg : gainO r x with
    | none => rw [hg] at h; cases h.2
    | some g => rw [hg] at h; exact h.2
  cases hn : nan32 (gainV r x) with
  | false => rfl
  | true => rw [fin_of_nan hn] at h2; cases h2
theorem wbStep_nan {r : RowsD} {b : WB} {s : List Int} (h0 : nan32 b.2 = false) : nan32 (wbStep r b s).2 = false := by
  unfold wbStep
  split
  · next h =>
    simp only [Bool.and_eq_true] at h
    exact gainV_nan r _ h.1
  · exact h0
theorem planY_nan (r : RowsD) (top : Int) : nan32 (planY r top) = false := by
  unfold planY planB
  split
  · suffices H : ∀ (l : List (List Int)) (b : WB), nan32 b.2 = false → nan32 (l.foldl (wbStep r) b).2 = false from H _ (none, 0) nan_zero
    intro l
    induction l with
    | nil => intro b h; exact h
    | cons s l ih => intro b h; exact ih _ (wbStep_nan h)
  · exact nan_zero

theorem sameFloat_b (r : Nat) (h : (Ieee.double.read r).isNaN = false) (w : World) :
    Calls Try.prog 27 #[.float .f64 r, .float .f64 r] w fun e w' => e = .returned (.bool true) ∧ Below w.heap.size w w' := by
  refine (sameFloat_self r h w).mono ?_
  rintro e w' ⟨rfl, rfl⟩
  exact ⟨rfl, Below.refl _ _⟩

end Go.Proofs.Ytkmbkjbammpdhaa

namespace Go.Proofs.Ytkmbkjbammpdhaa
open Go.RowKit

structure JobD where
  long : Int
  due : Int
  weight : Int
  ready : Int
def J0 : JobD := ⟨0, 0, 0, 0⟩
def jobCells (j : JobD) : List Value := [I64 j.long, I64 j.due, I64 j.weight, I64 j.ready]
def jobsC (js : List JobD) : List Value := js.flatMap jobCells
theorem jobsC_len (js : List JobD) : (jobsC js).length = js.length * 4 := by
  induction js with
  | nil => rfl
  | cons j r ih => simp only [jobsC, List.flatMap_cons, List.length_append, List.length_cons, jobCells] at ih ⊢; simp at ih ⊢; omega
theorem jobsC_at : ∀ (js : List JobD) (i c : Nat), i < js.length → c < 4 → (jobsC js)[i * 4 + c]? = (jobCells (js.getD i J0))[c]?
  | [], i, c, h, _ => by simp at h
  | j :: r, 0, c, _, hc => by
    simp only [jobsC, List.flatMap_cons, Nat.zero_mul, Nat.zero_add, List.getD_cons_zero]
    rw [List.getElem?_append_left (by simp [jobCells]; omega)]
  | j :: r, i + 1, c, h, hc => by
    have ih := jobsC_at r i c (by simpa using h) hc
    simp only [jobsC, List.flatMap_cons, List.getD_cons_succ] at ih ⊢
    rw [List.getElem?_append_right (by simp [jobCells]; omega), ← ih]
    congr 1
    simp [jobCells]; omega

/-- The slice reads as these jobs. -/
def RdJ (w : World) (v : Value) (js : List JobD) : Prop :=
  (∃ a cap, v = .slice a 0 cap ∧ cap ≤ maxLen ∧ js = []) ∨ ∃ b off cap, v = .slice (some ⟨b, off, none⟩) js.length cap ∧ js.length ≤ cap ∧ cap ≤ maxLen ∧ ∀ i, i < js.length → ∀ c u, (jobCells (js.getD i J0))[c]? = some u → w.cell? ⟨b, off + i * 4 + c, none⟩ = some u
def OwnJ (lo hi : Nat) (w : World) (v : Value) (js : List JobD) : Prop := w.ownsRow lo 91 4 v js.length (jobsC js) ∧ ∀ g, v.ownBlock = some g → g < hi
def bulkJ (js : List JobD) : Nat := js.length
def cntJ (js : List JobD) : Nat := js.length * 4

theorem RdJ.shape {w : World} {v : Value} {js : List JobD} (h : RdJ w v js) : ∃ a c, v = .slice a js.length c := by
  rcases h with ⟨a, cap, rfl, _, rfl⟩ | ⟨b, off, cap, rfl, _⟩
  · exact ⟨a, cap, rfl⟩
  · exact ⟨_, cap, rfl⟩
theorem RdJ.len {w : World} {v : Value} {js : List JobD} (h : RdJ w v js) : js.length ≤ maxLen := by
  rcases h with ⟨a, cap, rfl, _, rfl⟩ | ⟨b, off, cap, rfl, h1, h2, _⟩
  · simp [maxLen]
  · omega
theorem RdJ.at {w : World} {a : Option Addr} {n c : Nat} {js : List JobD} (h : RdJ w (.slice a n c) js) {i : Nat} (hi : i < js.length) :
    ∃ b off, a = some ⟨b, off, none⟩ ∧ b < w.heap.size ∧ w.cell? ⟨b, off + i * 4, none⟩ = some (.int .i64 (js.getD i J0).long) ∧ w.cell? ⟨b, off + i * 4 + 1, none⟩ = some (.int .i64 (js.getD i J0).due) ∧ w.cell? ⟨b, off + i * 4 + 2, none⟩ = some (.int .i64 (js.getD i J0).weight) ∧ w.cell? ⟨b, off + i * 4 + 3, none⟩ = some (.int .i64 (js.getD i J0).ready) := by
  rcases h with ⟨_, _, _, _, rfl⟩ | ⟨b, off, cap, e, _, _, hc⟩
  · simp at hi
  · simp only [Value.slice.injEq] at e
    obtain ⟨rfl, rfl, rfl⟩ := e
    have h0 := hc i hi 0 _ rfl
    exact ⟨b, off, rfl, cell_lt h0, h0, hc i hi 1 _ rfl, hc i hi 2 _ rfl, hc i hi 3 _ rfl⟩
theorem RdJ.up {w w' : World} {v : Value} {js : List JobD} {B : Nat} (h : RdJ w v js) (hb : Below B w w') (hB : w.heap.size ≤ B) : RdJ w' v js := by
  rcases h with h | ⟨b, off, cap, e, h1, h2, hc⟩
  · exact .inl h
  · exact .inr ⟨b, off, cap, e, h1, h2, fun i hi c u hu => held_of hb (hc i hi c u hu) hB⟩

theorem ownsK_below {w w' : World} {base B size : Nat} {e : TypeId} {v : Value} {n : Nat} {vs : List Value} (h : w.ownsRow base e size v n vs) (hb : Below B w w') (hB : w.heap.size ≤ B) : w'.ownsRow base e size v n vs := by
  refine ⟨h.1, ?_⟩
  rcases h.2 with h2 | ⟨g, cap, cur, hv, h3, hg, r⟩
  · exact .inl h2
  · exact .inr ⟨g, cap, cur, hv, h3, by rw [hb.block g (by have := lt_of_block hg; omega)]; exact hg, r⟩
theorem ownsK_base {w : World} {base base' size : Nat} {e : TypeId} {v : Value} {n : Nat} {vs : List Value} (h : w.ownsRow base e size v n vs) (hb : base' ≤ base) : w.ownsRow base' e size v n vs := by
  refine ⟨h.1, ?_⟩
  rcases h.2 with h2 | ⟨g, cap, cur, hv, h3, hg, r⟩
  · exact .inl h2
  · exact .inr ⟨g, cap, cur, hv, by omega, hg, r⟩
theorem ownsK_kept {S : Nat → Prop} {w w' : World} {base size : Nat} {e : TypeId} {v : Value} {n : Nat} {vs : List Value} (h : w.ownsRow base e size v n vs) (hk : Kept S w w') (hs : ∀ g, v.ownBlock = some g → ¬ S g) : w'.ownsRow base e size v n vs := by
  refine ⟨h.1, ?_⟩
  rcases h.2 with h2 | ⟨g, cap, cur, hv, h3, hg, r⟩
  · exact .inl h2
  · exact .inr ⟨g, cap, cur, hv, h3, by rw [hk.block g (lt_of_block hg) (hs g (by rw [hv]; rfl))]; exact hg, r⟩

theorem OwnJ.rd {lo hi : Nat} {w : World} {v : Value} {js : List JobD} (h : OwnJ lo hi w v js) : RdJ w v js := by
  rcases h.1.2 with ⟨rfl, e⟩ | ⟨g, cap, cur, rfl, hb, hg, hn, hm, hs, ht⟩
  · left; exact ⟨none, 0, rfl, by simp [maxLen], List.length_eq_zero_iff.1 e⟩
  · right
    refine ⟨g, 0, cap, rfl, hn, hm, fun i hi c u hu => ?_⟩
    have hc : c < 4 := by
      have := (List.getElem?_eq_some_iff.1 hu).1
      simpa [jobCells] using this
    have h1 := h.1.cellAt (i * 4 + c) (by omega)
    rw [jobsC_at js i c hi hc, hu] at h1
    simpa [Nat.add_assoc] using h1
theorem OwnJ.up {lo hi : Nat} {w w' : World} {v : Value} {js : List JobD} {B : Nat} (h : OwnJ lo hi w v js) (hb : Below B w w') (hB : w.heap.size ≤ B) : OwnJ lo hi w' v js := ⟨ownsK_below h.1 hb hB, h.2⟩
theorem OwnJ.wide {lo hi lo' hi' : Nat} {w : World} {v : Value} {js : List JobD} (h : OwnJ lo hi w v js) (h1 : lo' ≤ lo) (h2 : hi ≤ hi') : OwnJ lo' hi' w v js := ⟨ownsK_base h.1 h1, fun g hg => Nat.lt_of_lt_of_le (h.2 g hg) h2⟩
theorem OwnJ.kept {lo hi : Nat} {w w' : World} {v : Value} {js : List JobD} {S : Nat → Prop} (h : OwnJ lo hi w v js) (hk : Kept S w w') (hs : ∀ b, lo ≤ b → b < hi → ¬ S b) : OwnJ lo hi w' v js :=
  ⟨ownsK_kept h.1 hk fun g hg => hs g (h.1.lt g hg).1 (h.2 g hg), h.2⟩
theorem OwnJ.mk {lo : Nat} {w : World} {v : Value} {js : List JobD} (h : w.ownsRow lo 91 4 v js.length (jobsC js)) : OwnJ lo w.heap.size w v js := ⟨h, fun g hg => (h.lt g hg).2⟩

end Go.Proofs.Ytkmbkjbammpdhaa

namespace Go.Proofs.Ytkmbkjbammpdhaa
open Go.RowKit

def IRL : RowsD := ⟨0, [], [], []⟩
/-- One of a list: its data, the values of its slices, and where they lie. -/
structure RowRL where
  d : RowsD
  a1 : Value
  a2 : Value
  a3 : Value
  l : Nat
  h : Nat
def cellsRL (r : RowRL) : List Value := [.int .i64 r.d.vars, r.a1, r.a2, r.a3]
def aggRL (r : RowRL) : Value := .agg #[.int .i64 r.d.vars, r.a1, r.a2, r.a3]
theorem cellsRL_len (r : RowRL) : (cellsRL r).length = 4 := rfl
def sumRL : List RowsD → Nat
  | [] => 0
  | z :: r => bulkR z + sumRL r
theorem sumRL_append : ∀ (a b : List RowsD), sumRL (a ++ b) = sumRL a + sumRL b
  | [], b => by simp [sumRL]
  | z :: r, b => by simp only [List.cons_append, sumRL, sumRL_append r b]; omega
def bulkRL (ds : List RowsD) : Nat := ds.length + sumRL ds
theorem sumRL_take_succ (ds : List RowsD) (k : Nat) (hk : k < ds.length) : sumRL (ds.take (k + 1)) = sumRL (ds.take k) + bulkR (ds.getD k IRL) := by
  rw [List.take_succ_eq_append_getElem hk, sumRL_append]
  simp [hk, sumRL]
theorem bulkRL_le (ds : List RowsD) (k : Nat) : sumRL (ds.take k) + ds.length ≤ bulkRL ds := by
  unfold bulkRL
  have : sumRL (ds.take k) + sumRL (ds.drop k) = sumRL ds := by rw [← sumRL_append, List.take_append_drop]
  omega

/-- The slice reads as these. -/
def RdRL (w : World) (v : Value) (ds : List RowsD) : Prop := (∃ a cap, v = .slice a 0 cap ∧ cap ≤ maxLen ∧ ds = []) ∨
  ∃ (b off cap : Nat) (rows : List RowRL), v = .slice (some ⟨b, off, none⟩) ds.length cap ∧ ds.length ≤ cap ∧ cap ≤ maxLen ∧ ds = rows.map (·.d) ∧
    ∀ (i : Nat) (r : RowRL), rows[i]? = some r → (∀ c u, (cellsRL r)[c]? = some u → w.cell? ⟨b, off + i * 4 + c, none⟩ = some u) ∧ RdR w (aggRL r) r.d
def OwnERL (lo hi : Nat) (w : World) (rows : List RowRL) : Prop :=
  (∀ (i : Nat) (r : RowRL), rows[i]? = some r → OwnR r.l r.h w (aggRL r) r.d ∧ lo ≤ r.l ∧ r.h ≤ hi) ∧ ∀ (i j : Nat) (r s : RowRL), i < j → rows[i]? = some r → rows[j]? = some s → r.h ≤ s.l
def OwnRL (lo hi : Nat) (w : World) (v : Value) (ds : List RowsD) : Prop :=
  ∃ rows : List RowRL, ds = rows.map (·.d) ∧ w.ownsRow lo 26 4 v ds.length (rows.flatMap cellsRL) ∧ (∀ g, v.ownBlock = some g → g < hi ∧ ∀ (i : Nat) (r : RowRL), rows[i]? = some r → ¬ (r.l ≤ g ∧ g < r.h)) ∧ OwnERL lo hi w rows

theorem RdRL.shape {w : World} {v : Value} {ds : List RowsD} (h : RdRL w v ds) : ∃ a c, v = .slice a ds.length c := by
  rcases h with ⟨a, cap, rfl, _, rfl⟩ | ⟨b, off, cap, rows, rfl, _⟩
  · exact ⟨a, cap, rfl⟩
  · exact ⟨_, cap, rfl⟩
theorem RdRL.len {w : World} {v : Value} {ds : List RowsD} (h : RdRL w v ds) : ds.length ≤ maxLen := by
  rcases h with ⟨a, cap, rfl, _, rfl⟩ | ⟨b, off, cap, rows, rfl, h1, h2, _⟩
  · simp [maxLen]
  · omega
theorem RdRL.up {w w' : World} {v : Value} {ds : List RowsD} {B : Nat} (h : RdRL w v ds) (hb : Below B w w') (hB : w.heap.size ≤ B) : RdRL w' v ds := by
  rcases h with h | ⟨b, off, cap, rows, e, h1, h2, h3, hc⟩
  · exact .inl h
  · exact .inr ⟨b, off, cap, rows, e, h1, h2, h3, fun i r hr => ⟨fun c u hu => held_of hb ((hc i r hr).1 c u hu) hB, (hc i r hr).2.up hb hB⟩⟩
theorem RdRL.at {w : World} {a : Option Addr} {n c : Nat} {ds : List RowsD} (h : RdRL w (.slice a n c) ds) {i : Nat} (hi : i < ds.length) :
    ∃ b off a1 a2 a3, a = some ⟨b, off, none⟩ ∧ b < w.heap.size ∧ w.cell? ⟨b, off + i * 4, none⟩ = some (.int .i64 (ds.getD i IRL).vars) ∧ w.cell? ⟨b, off + i * 4 + 1, none⟩ = some (a1) ∧ w.cell? ⟨b, off + i * 4 + 2, none⟩ = some (a2) ∧ w.cell? ⟨b, off + i * 4 + 3, none⟩ = some (a3) ∧ RdR w (.agg #[.int .i64 (ds.getD i IRL).vars, a1, a2, a3]) (ds.getD i IRL) := by
  rcases h with ⟨_, _, _, _, rfl⟩ | ⟨b, off, cap, rows, e, _, _, hd, hc⟩
  · simp at hi
  · simp only [Value.slice.injEq] at e
    obtain ⟨rfl, rfl, rfl⟩ := e
    have hir : i < rows.length := by rw [hd] at hi; simpa using hi
    have hg : ds.getD i IRL = rows[i].d := by rw [hd]; simp [hir]
    obtain ⟨h1, h2⟩ := hc i _ (List.getElem?_eq_getElem hir)
    rw [hg]
    have h0 := h1 0 _ rfl
    exact ⟨b, off, rows[i].a1, rows[i].a2, rows[i].a3, rfl, cell_lt h0, h0, h1 1 _ rfl, h1 2 _ rfl, h1 3 _ rfl, h2⟩

theorem OwnERL.up {lo hi : Nat} {w w' : World} {rows : List RowRL} {B : Nat} (h : OwnERL lo hi w rows) (hb : Below B w w') (hB : w.heap.size ≤ B) : OwnERL lo hi w' rows :=
  ⟨fun i r hr => ⟨(h.1 i r hr).1.up hb hB, (h.1 i r hr).2⟩, h.2⟩
theorem OwnERL.wide {lo hi lo' hi' : Nat} {w : World} {rows : List RowRL} (h : OwnERL lo hi w rows) (a : lo' ≤ lo) (b : hi ≤ hi') : OwnERL lo' hi' w rows :=
  ⟨fun i r hr => ⟨(h.1 i r hr).1, Nat.le_trans a (h.1 i r hr).2.1, Nat.le_trans (h.1 i r hr).2.2 b⟩, h.2⟩
theorem OwnERL.kept {lo hi : Nat} {w w' : World} {rows : List RowRL} {S : Nat → Prop} (h : OwnERL lo hi w rows) (hk : Kept S w w') (hs : ∀ (i : Nat) (r : RowRL), rows[i]? = some r → ∀ b, r.l ≤ b → b < r.h → ¬ S b) : OwnERL lo hi w' rows :=
  ⟨fun i r hr => ⟨(h.1 i r hr).1.kept hk (hs i r hr), (h.1 i r hr).2⟩, h.2⟩
theorem OwnRL.len {lo hi : Nat} {w : World} {v : Value} {ds : List RowsD} (h : OwnRL lo hi w v ds) : ds.length ≤ maxLen := by
  obtain ⟨rows, _, h2, _⟩ := h
  rcases h2.2 with ⟨_, e⟩ | ⟨g, cap, cur, _, _, _, hn, hm, _⟩
  · rw [e]; simp [maxLen]
  · omega
theorem OwnRL.rd {lo hi : Nat} {w : World} {v : Value} {ds : List RowsD} (h : OwnRL lo hi w v ds) : RdRL w v ds := by
  have hlen := h.len
  obtain ⟨rows, h1, h2, h3, h4⟩ := h
  have h2' := h2
  rcases h2.2 with ⟨rfl, e⟩ | ⟨g, cap, cur, rfl, hb, hg, hn, hm, hs, ht⟩
  · left; exact ⟨none, 0, rfl, by simp [maxLen], List.length_eq_zero_iff.1 e⟩
  · right
    refine ⟨g, 0, cap, rows, rfl, hn, hm, h1, fun i r hr => ⟨fun c u hu => ?_, (h4.1 i r hr).1.rd⟩⟩
    have hc : c < 4 := by
      have := (List.getElem?_eq_some_iff.1 hu).1
      rwa [cellsRL_len] at this
    have hi : i < ds.length := by rw [h1, List.length_map]; exact (List.getElem?_eq_some_iff.1 hr).1
    have h5 := h2'.cellAt (i * 4 + c) (by omega)
    rw [flat_at cellsRL 4 cellsRL_len rows i c r hr hc, hu] at h5
    simpa [Nat.add_assoc] using h5
theorem OwnRL.up {lo hi : Nat} {w w' : World} {v : Value} {ds : List RowsD} {B : Nat} (h : OwnRL lo hi w v ds) (hb : Below B w w') (hB : w.heap.size ≤ B) : OwnRL lo hi w' v ds := by
  obtain ⟨rows, h1, h2, h3, h4⟩ := h
  exact ⟨rows, h1, ownsK_below h2 hb hB, h3, h4.up hb hB⟩
theorem OwnRL.wide {lo hi lo' hi' : Nat} {w : World} {v : Value} {ds : List RowsD} (h : OwnRL lo hi w v ds) (a : lo' ≤ lo) (b : hi ≤ hi') : OwnRL lo' hi' w v ds := by
  obtain ⟨rows, h1, h2, h3, h4⟩ := h
  exact ⟨rows, h1, ownsK_base h2 a, fun g hg => ⟨Nat.lt_of_lt_of_le (h3 g hg).1 b, (h3 g hg).2⟩, h4.wide a b⟩
theorem OwnRL.kept {lo hi : Nat} {w w' : World} {v : Value} {ds : List RowsD} {S : Nat → Prop} (h : OwnRL lo hi w v ds) (hk : Kept S w w') (hs : ∀ b, lo ≤ b → b < hi → ¬ S b) : OwnRL lo hi w' v ds := by
  obtain ⟨rows, h1, h2, h3, h4⟩ := h
  exact ⟨rows, h1, ownsK_kept h2 hk fun g hg => hs g (h2.lt g hg).1 (h3 g hg).1, h3, h4.kept hk fun i r hr b a c => hs b (by have := (h4.1 i r hr).2.1; omega) (by have := (h4.1 i r hr).2.2; omega)⟩


set_option maxHeartbeats 400000 in
theorem szRL_any (v : Value) (ds : List RowsD) (left : Int) (w : World) (h : RdRL w v ds) (h1 : left ≤ 1048576) (h0 : 0 ≤ left) :
    Calls Try.prog 53 #[v, .int .i64 left] w fun e w' => ∃ r : Int, e = .returned (.int .i64 r) ∧ -1 ≤ r ∧ r ≤ left ∧ (0 ≤ r → (bulkRL ds : Int) ≤ left - r) ∧ Below w.heap.size w w' := by
  obtain ⟨a, c, rfl⟩ := h.shape
  have hl := h.len
  unfold maxLen at hl
  have HS := Lib.hid h
  clear h
  by_cases hn : left - ds.length < 0
  · go_enter Try.func53, Try.ntmps53
    go_wp2_with fail
    go_ret
    exact ⟨-1, rfl, by omega, by omega, by omega, Below.refl _ _⟩
  · go_enter Try.func53, Try.ntmps53
    go_wp2_with fail
    go_loopw [1, 5] (fun l i wr => ∃ (k : Nat) (r : Int), i = .int .i64 k ∧ k ≤ ds.length ∧ l = .int .i64 r ∧ 0 ≤ r ∧ r ≤ left ∧ Hid (sumRL (ds.take k) + ds.length ≤ left - r) ∧ Below w.heap.size w wr) (fun _ i _ => ds.length - (intOf i).toNat)
    case atStart => exact ⟨0, left - ds.length, rfl, Nat.zero_le _, rfl, by omega, by omega, (by simp [sumRL]; omega : sumRL (ds.take 0) + (ds.length : Int) ≤ left - (left - ds.length)), Below.refl _ _⟩
    case round =>
      obtain ⟨k, r, rfl, hk, rfl, hr0, hr1, hsum, hb⟩ := hrel
      have HB := Lib.hid hb
      clear hb
      by_cases hlt : k < ds.length
      · obtain ⟨b, off, z1, z2, z3, rfl, hbk, x0, x1, x2, x3, hu⟩ := (HS.out.up HB.out (Nat.le_refl _)).at hlt
        have HT := Lib.hid (sumRL_take_succ ds k hlt)
        obtain ⟨d, hd⟩ : ∃ d, d = ds.getD k IRL := ⟨_, rfl⟩
        rw [← hd] at x0 hu HT
        have HU := Lib.hid hu
        clear hu hd
        go_wp2_with fail
        refine (szR_any _ d _ _ HU.out (by omega) hr0).mono ?_
        rintro e w1 ⟨r', rfl, s1, s2, s3, hb1⟩
        have HB1 := Lib.hid (HB.out.trans (hb1.mono HB.out.size))
        clear hb1
        by_cases hneg : r' < 0
        · go_wp2_with fail
          go_ret
          exact ⟨-1, rfl, by omega, by omega, by omega, HB1.out⟩
        · go_wp2_with fail
          go_roundw
          case rel =>
            refine ⟨k + 1, r', by go_num, by omega, rfl, by omega, by omega, ?_, HB1.out⟩
            have h3 := s3 (by omega)
            have h4 := hsum.out
            show (sumRL (ds.take (k + 1)) : Int) + ds.length ≤ left - r'
            rw [HT.out]
            push_cast
            omega
          case measure => simp [intOf]; omega
      · obtain rfl : k = ds.length := by omega
        go_wp2_with fail
        go_ret
        refine ⟨r, rfl, by omega, by omega, fun _ => ?_, HB.out⟩
        have h4 := hsum.out
        rw [List.take_length] at h4
        unfold bulkRL
        push_cast
        omega


theorem Try.infoZRL : (Try.prog.info? 26).map (fun i => (i.zero, i.size, i.bytes)) = some (some (.agg #[.int .i64 0, .slice none 0 0, .slice none 0 0, .slice none 0 0]), 4, 80) := by kernel_rfl

set_option maxHeartbeats 2000000 in
set_option maxRecDepth 4000 in
theorem toRL_any (v : Value) (ds : List RowsD) (w : World) (h : RdRL w v ds) (hb : bulkRL ds ≤ 1048576) :
    Calls Try.prog 55 #[v] w fun e w' => ∃ v', e = .returned v' ∧ OwnRL w.heap.size w'.heap.size w' v' ds ∧ Below w.heap.size w w' := by
  obtain ⟨i0, hi, hz0, hz1, hz2⟩ := info_parts Try.infoZRL
  obtain ⟨a, c, rfl⟩ := h.shape
  have hln : ds.length ≤ 1048576 := by unfold bulkRL at hb; omega
  have HS := Lib.hid h
  have HBU := Lib.hid hb
  clear h hb
  go_enter Try.func55, Try.ntmps55
  go_wp2_with (at_make; refine wpList_make_full _ rfl _ _ 75 rfl w.heap.size 26 i0 (.agg #[.int .i64 0, .slice none 0 0, .slice none 0 0, .slice none 0 0]) 4 Try.underlying75 hi hz0 hz1 .i64 .i64 ds.length ds.length ds.length rfl rfl rfl rfl (by rw [hz2]; omega) (by unfold maxLen; omega) (by simp) ?_; intro w1 hown hgrow)
  have hb1 : Below w.heap.size w w1 := (Below.refl _ _).grown hgrow (Nat.le_refl _) (by intro k hk; cases hk)
  have hlt1 := (hown.lt w.heap.size rfl).2
  have hmr : (madeCells (.agg #[.int .i64 0, .slice none 0 0, .slice none 0 0, .slice none 0 0] : Value).cells (ds.length * 4)).toList = (List.replicate ds.length (⟨IRL, .slice none 0 0, .slice none 0 0, .slice none 0 0, 0, 0⟩ : RowRL)).flatMap cellsRL := flat_made cellsRL (⟨IRL, .slice none 0 0, .slice none 0 0, .slice none 0 0, 0, 0⟩ : RowRL) ds.length (by simp [cellsRL])
  rw [hmr] at hown
  have HO := Lib.hid hown
  have HB := Lib.hid hb1
  have HL := Lib.hid hlt1
  clear hown hb1 hgrow hlt1 hmr
  go_loopw [4] (fun i wr => ∃ (k : Nat) (rows : List RowRL), i = .int .i64 k ∧ k ≤ ds.length ∧ ds.take k = rows.map (·.d) ∧ rows.length = k ∧ wr.ownsRow w.heap.size 26 4 (.slice (some ⟨w.heap.size, 0, none⟩) ds.length ds.length) ds.length ((rows ++ List.replicate (ds.length - k) (⟨IRL, .slice none 0 0, .slice none 0 0, .slice none 0 0, 0, 0⟩ : RowRL)).flatMap cellsRL) ∧ OwnERL (w.heap.size + 1) wr.heap.size wr rows ∧ w.heap.size < wr.heap.size ∧ Below w.heap.size w wr) (fun i _ => ds.length - (intOf i).toNat)
  case atStart => exact ⟨0, [], rfl, Nat.zero_le _, rfl, rfl, by simpa using HO.out, ⟨by intro i r h; simp at h, by intro i j r s _ h; simp at h⟩, HL.out, HB.out⟩
  case round =>
    obtain ⟨k, rows, rfl, hk, hrd, hrl, hown, heach, hlt2, hbel⟩ := hrel
    have HO1 := Lib.hid hown
    have HE1 := Lib.hid heach
    have HB1 := Lib.hid hbel
    have HRD := Lib.hid hrd
    have HRL := Lib.hid hrl
    clear hown heach hbel hrd hrl
    by_cases hlt : k < ds.length
    · obtain ⟨b, off, z1, z2, z3, rfl, hb0, x0, x1, x2, x3, hu⟩ := (HS.out.up HB1.out (Nat.le_refl _)).at hlt
      have hle : bulkR (ds.getD k IRL) ≤ 1048576 := by
        have h1 := bulkRL_le ds (k + 1)
        rw [sumRL_take_succ ds k hlt] at h1
        have h2 := HBU.out
        omega
      obtain ⟨d, hd⟩ : ∃ d, d = ds.getD k IRL := ⟨_, rfl⟩
      rw [← hd] at x0 hu hle
      have HU := Lib.hid hu
      have HLE := Lib.hid hle
      have HD := Lib.hid hd
      clear hu hle hd
      go_wp2_with fail
      refine (toR_any _ d wr HU.out HLE.out).mono ?_
      rintro e w2 ⟨v', rfl, ho2, hb2⟩
      obtain ⟨b1, e1, b2, e2, b3, e3, rfl⟩ := ho2.rd.shape
      have HO2 := Lib.hid (ownsK_below HO1.out hb2 (Nat.le_refl _))
      have HE2 := Lib.hid (HE1.out.up hb2 (Nat.le_refl _))
      have HB2 := Lib.hid (HB1.out.trans (hb2.mono HB1.out.size))
      have HN := Lib.hid ho2
      have hsz := hb2.size
      clear ho2 hb2
      have hlen : (rows ++ List.replicate (ds.length - k) (⟨IRL, .slice none 0 0, .slice none 0 0, .slice none 0 0, 0, 0⟩ : RowRL)).length = ds.length := by rw [List.length_append, List.length_replicate, HRL.out]; omega
      have d0 := HO2.out.cellAt (k * 4) (by omega)
      have d1 := HO2.out.cellAt (k * 4 + 1) (by omega)
      have d2 := HO2.out.cellAt (k * 4 + 2) (by omega)
      have d3 := HO2.out.cellAt (k * 4 + 3) (by omega)
      have hz : (rows ++ List.replicate (ds.length - k) (⟨IRL, .slice none 0 0, .slice none 0 0, .slice none 0 0, 0, 0⟩ : RowRL))[k]? = some ⟨IRL, .slice none 0 0, .slice none 0 0, .slice none 0 0, 0, 0⟩ := by
        rw [List.getElem?_append_right (by rw [HRL.out]; omega), HRL.out, List.getElem?_replicate, if_pos (by omega)]
      have ee0 := flat_at cellsRL 4 cellsRL_len _ k 0 _ hz (by omega)
      rw [Nat.add_zero] at ee0
      rw [ee0] at d0
      have ee1 := flat_at cellsRL 4 cellsRL_len _ k 1 _ hz (by omega)
      rw [ee1] at d1
      have ee2 := flat_at cellsRL 4 cellsRL_len _ k 2 _ hz (by omega)
      rw [ee2] at d2
      have ee3 := flat_at cellsRL 4 cellsRL_len _ k 3 _ hz (by omega)
      rw [ee3] at d3
      simp only [cellsRL, IRL, List.getElem?_cons_zero, List.getElem?_cons_succ] at d0 d1 d2 d3
      have f0 := HO2.out.frozenAt (k * 4)
      have f1 := HO2.out.frozenAt (k * 4 + 1)
      have f2 := HO2.out.frozenAt (k * 4 + 2)
      have f3 := HO2.out.frozenAt (k * 4 + 3)
      have HST := Lib.hid (((((HO2.out.stored (k * 4) (.int .i64 d.vars)).1.stored (k * 4 + 1) (.slice b1 d.nums.length e1)).1.stored (k * 4 + 2) (.slice b2 d.bnds.length e2)).1.stored (k * 4 + 3) (.slice b3 d.gains.length e3)).1)
      have HJC := Lib.hid (flat_put cellsRL 4 cellsRL_len (rows ++ List.replicate (ds.length - k) (⟨IRL, .slice none 0 0, .slice none 0 0, .slice none 0 0, 0, 0⟩ : RowRL)) k ⟨d, .slice b1 d.nums.length e1, .slice b2 d.bnds.length e2, .slice b3 d.gains.length e3, wr.heap.size, w2.heap.size⟩ (by omega))
      have HLT := Lib.hid (set_mid rows (List.replicate (ds.length - (k + 1)) (⟨IRL, .slice none 0 0, .slice none 0 0, .slice none 0 0, 0, 0⟩ : RowRL)) ⟨IRL, .slice none 0 0, .slice none 0 0, .slice none 0 0, 0, 0⟩ ⟨d, .slice b1 d.nums.length e1, .slice b2 d.bnds.length e2, .slice b3 d.gains.length e3, wr.heap.size, w2.heap.size⟩ k HRL.out)
      clear ee0 ee1 ee2 ee3 hlen hz
      go_wp2_with fail
      go_roundw
      case rel =>
        have hkp : Kept (· = w.heap.size) w2 ((((w2.setCell ⟨w.heap.size, k * 4, none⟩ (.int .i64 d.vars)).setCell ⟨w.heap.size, k * 4 + 1, none⟩ (.slice b1 d.nums.length e1)).setCell ⟨w.heap.size, k * 4 + 2, none⟩ (.slice b2 d.bnds.length e2)).setCell ⟨w.heap.size, k * 4 + 3, none⟩ (.slice b3 d.gains.length e3)) := (Kept.setCell (S := (· = w.heap.size)) (p := ⟨w.heap.size, k * 4 + 3, none⟩) (Kept.setCell (S := (· = w.heap.size)) (p := ⟨w.heap.size, k * 4 + 2, none⟩) (Kept.setCell (S := (· = w.heap.size)) (p := ⟨w.heap.size, k * 4 + 1, none⟩) (Kept.setCell (S := (· = w.heap.size)) (p := ⟨w.heap.size, k * 4, none⟩) (Kept.refl _ _) (.inr rfl) _) (.inr rfl) _) (.inr rfl) _) (.inr rfl) _)
        have hws : ((((w2.setCell ⟨w.heap.size, k * 4, none⟩ (.int .i64 d.vars)).setCell ⟨w.heap.size, k * 4 + 1, none⟩ (.slice b1 d.nums.length e1)).setCell ⟨w.heap.size, k * 4 + 2, none⟩ (.slice b2 d.bnds.length e2)).setCell ⟨w.heap.size, k * 4 + 3, none⟩ (.slice b3 d.gains.length e3)).heap.size = w2.heap.size := by simp
        refine ⟨k + 1, rows ++ [⟨d, .slice b1 d.nums.length e1, .slice b2 d.bnds.length e2, .slice b3 d.gains.length e3, wr.heap.size, w2.heap.size⟩], by go_num, by omega, ?_, by simp [HRL.out], ?_, ?_, by rw [hws]; omega, ((((HB2.out.setCell (Nat.le_refl _) _).setCell (Nat.le_refl _) _).setCell (Nat.le_refl _) _).setCell (Nat.le_refl _) _)⟩
        · rw [List.take_succ_eq_append_getElem hlt, HRD.out, List.map_append, List.map_cons, List.map_nil]
          congr 2
          show _ = d
          rw [HD.out]; simp [hlt]
        · have h1 := HST.out
          have h2 := HJC.out
          simp only [cellsRL, putAt] at h2
          rw [show ds.length - k = (ds.length - (k + 1)) + 1 by omega, List.replicate_succ] at h1 h2
          rw [HLT.out] at h2
          rw [List.append_assoc, List.singleton_append, ← h2]
          exact h1
        · rw [hws]
          refine ⟨fun i r hr => ?_, fun i j r s hij hr hs => ?_⟩
          · by_cases hik : i < k
            · rw [List.getElem?_append_left (by rw [HRL.out]; exact hik)] at hr
              obtain ⟨q1, q2, q3⟩ := HE2.out.1 i r hr
              exact ⟨q1.kept hkp (by intro b p1 p2 p3; omega), q2, by omega⟩
            · have hik' : i = k := by
                have := (List.getElem?_eq_some_iff.1 hr).1
                simp [HRL.out] at this
                omega
              subst hik'
              rw [List.getElem?_append_right (by rw [HRL.out]; exact Nat.le_refl _), HRL.out] at hr
              simp only [Nat.sub_self, List.getElem?_cons_zero, Option.some.injEq] at hr
              subst hr
              exact ⟨HN.out.kept hkp (by intro b p1 p2 p3; omega), hlt2, Nat.le_refl _⟩
          · have hjl := (List.getElem?_eq_some_iff.1 hs).1
            simp [HRL.out] at hjl
            rw [List.getElem?_append_left (by rw [HRL.out]; omega)] at hr
            by_cases hjk : j < k
            · rw [List.getElem?_append_left (by rw [HRL.out]; exact hjk)] at hs
              exact HE2.out.2 i j r s hij hr hs
            · have hjk' : j = k := by omega
              subst hjk'
              rw [List.getElem?_append_right (by rw [HRL.out]; exact Nat.le_refl _), HRL.out] at hs
              simp only [Nat.sub_self, List.getElem?_cons_zero, Option.some.injEq] at hs
              subst hs
              exact (HE1.out.1 i r hr).2.2
      case measure => simp [intOf]; omega
    · obtain rfl : k = ds.length := by omega
      go_wp2_with fail
      go_ret
      refine ⟨_, rfl, ⟨rows, ?_, by simpa using HO1.out, ?_, HE1.out.wide (by omega) (Nat.le_refl _)⟩, HB1.out⟩
      · have := HRD.out
        rwa [List.take_length] at this
      · intro g hg
        simp [Value.ownBlock] at hg
        subst hg
        exact ⟨hlt2, fun i r hr h => by have := (HE1.out.1 i r hr).2.1; omega⟩


set_option maxHeartbeats 2000000 in
set_option maxRecDepth 4000 in
theorem eqRL_same (v v' : Value) (ds : List RowsD) (w : World) (h : RdRL w v ds) (h' : RdRL w v' ds) :
    Calls Try.prog 57 #[v, v'] w fun e w' => e = .returned (.bool true) ∧ Below w.heap.size w w' := by
  obtain ⟨a, c, rfl⟩ := h.shape
  obtain ⟨a', c', rfl⟩ := h'.shape
  have hl := h.len
  unfold maxLen at hl
  have hne : ((ds.length : Int) != (ds.length : Int)) = false := by simp
  have HS := Lib.hid h
  have HS' := Lib.hid h'
  clear h h'
  go_enter Try.func57, Try.ntmps57
  go_wp2_with fail
  go_loopw [5] (fun i wr => ∃ k : Nat, i = .int .i64 k ∧ k ≤ ds.length ∧ Below w.heap.size w wr) (fun i _ => ds.length - (intOf i).toNat)
  case atStart => exact ⟨0, rfl, Nat.zero_le _, Below.refl _ _⟩
  case round =>
    obtain ⟨k, rfl, hk, hbl⟩ := hrel
    have HB := Lib.hid hbl
    clear hbl
    by_cases hlt : k < ds.length
    · obtain ⟨b, off, z1, z2, z3, rfl, hb0, x0, x1, x2, x3, hu⟩ := (HS.out.up HB.out (Nat.le_refl _)).at hlt
      obtain ⟨b', off', z1', z2', z3', rfl, hb0', y0, y1, y2, y3, hu'⟩ := (HS'.out.up HB.out (Nat.le_refl _)).at hlt
      obtain ⟨d, hd⟩ : ∃ d, d = ds.getD k IRL := ⟨_, rfl⟩
      rw [← hd] at x0 y0 hu hu'
      obtain ⟨p1, q1, p2, q2, p3, q3, hsz⟩ := hu.shape
      obtain ⟨P1, Q1, P2, Q2, P3, Q3, hsy⟩ := hu'.shape
      simp only [Value.agg.injEq, Array.mk.injEq, List.cons.injEq, and_true, true_and] at hsz hsy
      obtain ⟨rfl, rfl, rfl⟩ := hsz
      obtain ⟨rfl, rfl, rfl⟩ := hsy
      have HU := Lib.hid hu
      have HU' := Lib.hid hu'
      clear hd hu hu'
      have kk : (k : Int) < (ds.length : Int) := by omega
      have HKEEP := Lib.hid (show ∀ X, Below wr.heap.size wr X → (fun X => X.cell? ⟨b, off + k * 4, none⟩ = some (.int .i64 d.vars) ∧ X.cell? ⟨b, off + k * 4 + 1, none⟩ = some ((.slice p1 d.nums.length q1)) ∧ X.cell? ⟨b, off + k * 4 + 2, none⟩ = some ((.slice p2 d.bnds.length q2)) ∧ X.cell? ⟨b, off + k * 4 + 3, none⟩ = some ((.slice p3 d.gains.length q3)) ∧ X.cell? ⟨b', off' + k * 4, none⟩ = some (.int .i64 d.vars) ∧ X.cell? ⟨b', off' + k * 4 + 1, none⟩ = some ((.slice P1 d.nums.length Q1)) ∧ X.cell? ⟨b', off' + k * 4 + 2, none⟩ = some ((.slice P2 d.bnds.length Q2)) ∧ X.cell? ⟨b', off' + k * 4 + 3, none⟩ = some ((.slice P3 d.gains.length Q3)) ∧ Below wr.heap.size wr X) X from fun X hb => ⟨held_of hb x0 (Nat.le_refl _), held_of hb x1 (Nat.le_refl _), held_of hb x2 (Nat.le_refl _), held_of hb x3 (Nat.le_refl _), held_of hb y0 (Nat.le_refl _), held_of hb y1 (Nat.le_refl _), held_of hb y2 (Nat.le_refl _), held_of hb y3 (Nat.le_refl _), hb⟩)
      go_wp2_with fail
      go_region_held3 (fun X => X.cell? ⟨b, off + k * 4, none⟩ = some (.int .i64 d.vars) ∧ X.cell? ⟨b, off + k * 4 + 1, none⟩ = some ((.slice p1 d.nums.length q1)) ∧ X.cell? ⟨b, off + k * 4 + 2, none⟩ = some ((.slice p2 d.bnds.length q2)) ∧ X.cell? ⟨b, off + k * 4 + 3, none⟩ = some ((.slice p3 d.gains.length q3)) ∧ X.cell? ⟨b', off' + k * 4, none⟩ = some (.int .i64 d.vars) ∧ X.cell? ⟨b', off' + k * 4 + 1, none⟩ = some ((.slice P1 d.nums.length Q1)) ∧ X.cell? ⟨b', off' + k * 4 + 2, none⟩ = some ((.slice P2 d.bnds.length Q2)) ∧ X.cell? ⟨b', off' + k * 4 + 3, none⟩ = some ((.slice P3 d.gains.length Q3)) ∧ Below wr.heap.size wr X)
        (first | exact HKEEP.out _ hbn | (refine HKEEP.out _ ?_; (repeat' first | exact Below.refl _ _ | assumption | refine Below.alloc ?_ ?_ _ | refine Below.setCell ?_ ?_ _ | refine Below.drew ?_ | (simp; done) | (simp; omega)); done) | go_keep)
        (first
          | (go_at_call 19; have hcur := (‹_ ∧ _ ∧ _ ∧ _ ∧ _ ∧ _ ∧ _ ∧ _ ∧ Below wr.heap.size wr _›).2.2.2.2.2.2.2.2; refine (eqR_same _ _ d _ (HU.out.up hcur (Nat.le_refl _)) (HU'.out.up hcur (Nat.le_refl _))).mono ?_; rintro e w1 ⟨rfl, hb1⟩; have hbn : Below wr.heap.size wr w1 := Below.trans hcur (hb1.mono hcur.size))
          | fail)
      go_wp2_with fail
      go_roundw
      case rel => exact ⟨k + 1, by go_num, by omega, HB.out.trans (hbn.mono HB.out.size)⟩
      case measure => simp [intOf]; omega
    · obtain rfl : k = ds.length := by omega
      go_wp2_with fail
      go_ret
      exact ⟨rfl, HB.out⟩

end Go.Proofs.Ytkmbkjbammpdhaa

namespace Go.Proofs.Ytkmbkjbammpdhaa
open Go.RowKit

def shArgs (n : Nat) (top wk : Int) : Bool := decide (n ≤ 8) && (inB 1 5 top && inB 1 8 wk)
noncomputable def shOk (ds : List RowsD) (top wk : Int) : Bool := shArgs ds.length top wk && allB ds.length (fun i => planOk (ds.getD i IRL) top)
noncomputable def shL (ds : List RowsD) (top wk : Int) : List Nat := if shOk ds top wk = true then ds.map (planY · top) else []
theorem sh_snoc (ds : List RowsD) (top : Int) (k : Nat) (h : k < ds.length) : (ds.take (k + 1)).map (planY · top) = (ds.take k).map (planY · top) ++ [planY (ds.getD k IRL) top] := by
  rw [List.take_succ_eq_append_getElem h, List.map_append]
  simp [h]

set_option maxHeartbeats 2000000 in
set_option maxRecDepth 4000 in
theorem specShared_any (v : Value) (ds : List RowsD) (top wk : Int) (w : World) (h : RdRL w v ds) :
    Calls Try.prog 54 #[v, .int .i64 top, .int .i64 wk] w fun e w' => ∃ v', e = .returned (.tuple #[v', .bool (shOk ds top wk)]) ∧ OwnF w.heap.size w'.heap.size w' v' (shL ds top wk) ∧ Below w.heap.size w w' := by
  obtain ⟨a, c, rfl⟩ := h.shape
  have HP := Lib.hid h
  have hm := h.len
  simp only [maxLen] at hm
  clear h
  obtain ⟨q1, hq1⟩ : ∃ q, inB 1 8 wk = q := ⟨_, rfl⟩
  obtain ⟨q2, hq2⟩ : ∃ q, inB 1 5 top = q := ⟨_, rfl⟩
  have HQ1 := Lib.hid hq1
  have HQ2 := Lib.hid hq2
  clear hq1 hq2
  by_cases h8 : ds.length ≤ 8
  case neg =>
    have HN := Lib.hid (show shOk ds top wk = false by unfold shOk shArgs; rw [decide_eq_false h8]; rfl)
    have HL := Lib.hid (show shL ds top wk = [] by unfold shL; rw [HN.out]; rfl)
    go_enter Try.func54, Try.ntmps54
    go_wp2_with fail
    go_ret2
    exact ⟨_, by rw [HN.out]; rfl, by rw [HL.out]; exact ⟨World.ownsRow_nil _ _ _ _, by intro g hg; cases hg⟩, Below.refl _ _⟩
  go_enter Try.func54, Try.ntmps54
  cases q1
  · have HN := Lib.hid (show shOk ds top wk = false by unfold shOk shArgs; rw [HQ1.out]; simp)
    have HL := Lib.hid (show shL ds top wk = [] by unfold shL; rw [HN.out]; rfl)
    go_wp2_with (go_at_call 135; refine (in_any _ _ _ _).mono ?_; rintro e w' ⟨rfl, rfl⟩; rw [HQ1.out])
    go_ret2
    exact ⟨_, by rw [HN.out]; rfl, by rw [HL.out]; exact ⟨World.ownsRow_nil _ _ _ _, by intro g hg; cases hg⟩, Below.refl _ _⟩
  cases q2
  · have HN := Lib.hid (show shOk ds top wk = false by unfold shOk shArgs; rw [HQ2.out]; simp)
    have HL := Lib.hid (show shL ds top wk = [] by unfold shL; rw [HN.out]; rfl)
    go_wp2_with (go_at_call 135; refine (in_any _ _ _ _).mono ?_; rintro e w' ⟨rfl, rfl⟩; first | rw [HQ1.out] | rw [HQ2.out])
    go_ret2
    exact ⟨_, by rw [HN.out]; rfl, by rw [HL.out]; exact ⟨World.ownsRow_nil _ _ _ _, by intro g hg; cases hg⟩, Below.refl _ _⟩
  have HA := Lib.hid (show shArgs ds.length top wk = true by unfold shArgs; rw [HQ1.out, HQ2.out, decide_eq_true h8]; rfl)
  go_wp2_with (go_at_call 135; refine (in_any _ _ _ _).mono ?_; rintro e w' ⟨rfl, rfl⟩; first | rw [HQ1.out] | rw [HQ2.out])
  refine wp_at fun W0 hW0 => ?_
  have HB0 := Lib.hid (show Below w.heap.size w W0 by subst hW0; exact (Below.refl _ _).alloc (Nat.le_refl _) _)
  have HO0 := Lib.hid (show W0.ownsRow w.heap.size 37 1 (.slice (some ⟨w.heap.size, 0, none⟩) 0 0) 0 (([] : List Nat).map F32) by subst hW0; exact ownsF_empty w)
  clear hW0
  go_loopw [8, 29] (fun out i wr => ∃ (k : Nat) (b : Option Addr) (cap : Nat), i = .int .i64 k ∧ k ≤ ds.length ∧ out = .slice b k cap ∧ Hid (wr.ownsRow w.heap.size 37 1 (.slice b k cap) k (((ds.take k).map (planY · top)).map F32)) ∧ Hid (Below w.heap.size w wr) ∧ Hid (∀ j, j < k → planOk (ds.getD j IRL) top = true)) (fun _ i _ => ds.length - (intOf i).toNat)
  case atStart => exact ⟨0, _, 0, rfl, Nat.zero_le _, rfl, HO0, HB0, fun j hj => by omega⟩
  case round =>
    obtain ⟨k, b, cap, rfl, hk, rfl, HO, HB, HALL⟩ := hrel
    by_cases hlt : k < ds.length
    · obtain ⟨b0, off, v1, v2, v3, rfl, hb, x0, x1, x2, x3, hu⟩ := (HP.out.up HB.out (Nat.le_refl _)).at hlt
      have HM := Lib.hid (sh_snoc ds top k hlt)
      have HNO := Lib.hid (show planOk (ds.getD k IRL) top = false → shOk ds top wk = false from fun h => by unfold shOk; rw [allB_false hlt h, Bool.and_false])
      obtain ⟨x, hx⟩ : ∃ x, x = ds.getD k IRL := ⟨_, rfl⟩
      rw [← hx] at x0 hu HM HNO
      have HX := Lib.hid hx
      obtain ⟨p1, q1, p2, q2, p3, q3, hsz⟩ := hu.shape
      simp only [Value.agg.injEq, Array.mk.injEq, List.cons.injEq, and_true, true_and] at hsz
      obtain ⟨rfl, rfl, rfl⟩ := hsz
      obtain ⟨y, hy⟩ : ∃ y, planY x top = y := ⟨_, rfl⟩
      obtain ⟨q, hq⟩ : ∃ q, planOk x top = q := ⟨_, rfl⟩
      have HY := Lib.hid hy
      have HQ := Lib.hid hq
      have HU := Lib.hid hu
      have hlt' : (k : Int) < ds.length := by omega
      have hz := HB.out.size
      clear hx hy hq hu
      go_wp2_with fail
      refine (specWP_any _ x top _ HU.out).mono ?_
      rintro e w1 ⟨vp, rfl, _, hb1⟩
      rw [HY.out, HQ.out]
      have HB1 := Lib.hid (HB.out.trans (hb1.mono hz))
      have HO1 := Lib.hid (owns_below HO.out hb1 (Nat.le_refl _))
      have hz1 := HB1.out.size
      clear hb1
      cases q
      · have HN := Lib.hid (HNO.out HQ.out)
        have HL := Lib.hid (show shL ds top wk = [] by unfold shL; rw [HN.out]; rfl)
        go_wp2_with fail
        go_ret2
        exact ⟨_, by rw [HN.out]; rfl, by rw [HL.out]; exact ⟨World.ownsRow_nil _ _ _ _, by intro g hg; cases hg⟩, HB1.out⟩
      · go_wp2_with (at_builtin; refine app_flts rfl _ _ rfl w.heap.size (.slice b k cap) k _ rfl (owns_below HO1.out ((Below.refl _ _).alloc (Nat.le_refl _) _) (Nat.le_refl _)) _ [_] rfl (slcF_one _ _) (k + 1) _ (by simp) rfl (by omega) (by simp; omega) ?_; intro a2 cap2 w5 hown hbl hg _)
        go_roundw
        case rel =>
          refine ⟨k + 1, a2, cap2, by go_num, by omega, rfl, by rw [HM.out, HY.out]; exact hown, (HB1.out.alloc hz1 _).trans hbl, fun j hj => ?_⟩
          by_cases hjk : j < k
          · exact HALL.out j hjk
          · obtain rfl : j = k := by omega
            rw [← HX.out]; exact HQ.out
        case measure => simp [intOf]; omega
    · obtain rfl : k = ds.length := by omega
      have HN := Lib.hid (show shOk ds top wk = true by unfold shOk; rw [HA.out, allB_true HALL.out]; rfl)
      have HL := Lib.hid (show shL ds top wk = ds.map (planY · top) by unfold shL; rw [HN.out]; rfl)
      go_wp2_with fail
      go_ret2
      exact ⟨_, by rw [HN.out]; rfl, by rw [HL.out]; have := HO.out; rw [List.take_length] at this; exact OwnF.mk this, HB.out⟩

end Go.Proofs.Ytkmbkjbammpdhaa
