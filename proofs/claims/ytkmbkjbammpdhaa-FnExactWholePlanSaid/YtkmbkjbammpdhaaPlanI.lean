/-
  The best whole plan, by the program.
-/
import Derived.Test.YtkmbkjbammpdhaaPlanW
namespace Go.Proofs.Ytkmbkjbammpdhaa
open Go.RowKit

noncomputable def planB (r : RowsD) (top : Int) : WB := if topB r top = true then wbAll r (wSolsT r top) else (none, 0)
noncomputable def planL (r : RowsD) (top : Int) : List Int := (planB r top).1.getD []
noncomputable def planY (r : RowsD) (top : Int) : Nat := (planB r top).2
noncomputable def planOk (r : RowsD) (top : Int) : Bool := (planB r top).1.isSome

theorem wbStep_len {r : RowsD} {b : WB} {s t : List Int} (h : (wbStep r b s).1 = some t) : t = s ∨ b.1 = some t := by
  unfold wbStep at h
  split at h
  · left; simpa using h.symm
  · right; exact h
theorem wbAll_mem {r : RowsD} {l : List (List Int)} : ∀ {t : List Int}, (wbAll r l).1 = some t → t ∈ l := by
  suffices H : ∀ (l : List (List Int)) (b : WB) (t : List Int), (l.foldl (wbStep r) b).1 = some t → t ∈ l ∨ b.1 = some t by
    intro t h
    rcases H l (none, 0) t h with h | h
    · exact h
    · cases h
  intro l
  induction l with
  | nil => intro b t h; exact .inr h
  | cons s l ih =>
    intro b t h
    rcases ih _ t h with h | h
    · exact .inl (List.mem_cons_of_mem _ h)
    · rcases wbStep_len h with rfl | h
      · exact .inl (List.mem_cons_self ..)
      · exact .inr h
theorem wbStep_zero {r : RowsD} {b : WB} {s : List Int} (h0 : b.1 = none → b.2 = 0) (h : (wbStep r b s).1 = none) : (wbStep r b s).2 = 0 := by
  unfold wbStep at h ⊢
  split at h
  · cases h
  · next hn => rw [if_neg hn]; exact h0 h
theorem wbAll_zero {r : RowsD} {l : List (List Int)} (h : (wbAll r l).1 = none) : (wbAll r l).2 = 0 := by
  suffices H : ∀ (l : List (List Int)) (b : WB), (b.1 = none → b.2 = 0) → (l.foldl (wbStep r) b).1 = none → (l.foldl (wbStep r) b).2 = 0 from H l (none, 0) (fun _ => rfl) h
  intro l
  induction l with
  | nil => intro b h0 h; exact h0 h
  | cons s l ih => intro b h0 h; exact ih _ (fun h1 => wbStep_zero h0 h1) h
theorem wSols_mem (r : RowsD) (top : Nat) : ∀ (f : Nat) (now s : List Int), s ∈ wSols r top f now → s.length = now.length + f
  | 0, now, s, h => by
    unfold wSols at h
    split at h <;> simp_all
  | f + 1, now, s, h => by
    rw [wSols_succ] at h
    unfold wPart at h
    obtain ⟨k, _, h⟩ := List.mem_flatMap.1 h
    have := wSols_mem r top f _ s h
    simp at this
    omega
theorem planL_cnt (r : RowsD) (top : Int) : cntI (planL r top) ≤ 1048576 := by
  unfold cntI planL planB
  split
  · next h =>
    cases e : (wbAll r (wSolsT r top)).1 with
    | none => simp
    | some s =>
      have h1 := wSols_mem _ _ _ _ _ (wbAll_mem e)
      obtain ⟨hv, h4, _, _⟩ := topB_parts h
      have := hv.gl
      simp at h1
      simp
      omega
  · simp

set_option maxHeartbeats 2000000 in
set_option maxRecDepth 4000 in
theorem implWP_any (v : Value) (r : RowsD) (top : Int) (w : World) (h : RdR w v r) :
    Calls Try.prog 25 #[v, .int .i64 top] w fun e w' => ∃ v', e = .returned (.tuple #[v', .float .f32 (planY r top), .bool (planOk r top)]) ∧ OwnI w.heap.size w'.heap.size w' v' (planL r top) ∧ Below w.heap.size w w' := by
  obtain ⟨a1, c1, a2, c2, a3, c3, rfl⟩ := h.shape
  have HP := Lib.hid h
  have HNE := Lib.hid (fun (w : World) (a : Option Addr) (n c : Nat) => run_neq_slice_nil_any (P := Try.prog) w 36 2 a n c 0 0 Try.underlying36)
  clear h
  obtain ⟨q, hq⟩ : ∃ q, topB r top = q := ⟨_, rfl⟩
  have HQ := Lib.hid hq
  clear hq
  go_enter Try.func25, Try.ntmps25
  go_wp2_with fail
  refine Calls.at fun W hW => ?_
  have hb := Lib.hid (show Below w.heap.size w W by subst hW; (repeat' first | exact Below.refl _ _ | assumption | refine Below.alloc ?_ ?_ _ | refine Below.setCell ?_ ?_ _ | refine Below.drew ?_ | (simp; done) | (simp; omega)))
  have hk := Lib.hid (show Blk W w.heap.size 26 #[.int .i64 r.vars, .slice a1 r.nums.length c1, .slice a2 r.bnds.length c2, .slice a3 r.gains.length c3] by subst hW; exact Blk.new _ _ _)
  clear hW
  refine (isTop_any _ r top W (HP.out.up hb.out (Nat.le_refl _))).mono ?_
  rintro e w1 ⟨rfl, hb1⟩
  rw [HQ.out]
  have HB1 := Lib.hid (hb.out.trans (hb1.mono hb.out.size))
  have HK1 := Lib.hid (hk.out.below hb1 hk.out.lt)
  have d0 : w1.cell? ⟨w.heap.size, 0, none⟩ = some (.int .i64 r.vars) := HK1.out.cell 0 rfl
  have d1 : w1.cell? ⟨w.heap.size, 1, none⟩ = some (.slice a1 r.nums.length c1) := HK1.out.cell 1 rfl
  have d2 : w1.cell? ⟨w.heap.size, 2, none⟩ = some (.slice a2 r.bnds.length c2) := HK1.out.cell 2 rfl
  have d3 : w1.cell? ⟨w.heap.size, 3, none⟩ = some (.slice a3 r.gains.length c3) := HK1.out.cell 3 rfl
  have hsz := HB1.out.size
  have hkl := HK1.out.lt
  clear hb1 hb hk
  cases q
  · have HN := Lib.hid (show planB r top = (none, 0) by unfold planB; rw [HQ.out]; rfl)
    go_wp2_with fail
    go_ret3
    exact ⟨_, by unfold planY planOk; rw [HN.out]; rfl, by unfold planL; rw [HN.out]; exact ⟨World.ownsRow_nil _ _ _ _, by intro g hg; cases hg⟩, HB1.out⟩
  · obtain ⟨hv, h4, t1, t5⟩ := topB_parts HQ.out
    have hgl := hv.gl
    have hv1 := hv.v1
    have HLEN := Lib.hid (wSolsT_len HQ.out)
    obtain ⟨T, rfl⟩ := Int.eq_ofNat_of_zero_le (by omega : 0 ≤ top)
    have HN := Lib.hid (show planB r (T : Int) = wbAll r (wSols r T r.gains.length []) by unfold planB; rw [HQ.out, if_pos rfl]; rfl)
    have HL2 := Lib.hid (show (wSols r T r.gains.length []).length ≤ 1296 from HLEN.out)
    have HGL := Lib.hid hgl
    have hgn : 1 ≤ r.gains.length := by omega
    have hg4 : r.gains.length ≤ 4 := by omega
    have HGN := Lib.hid (And.intro hgn hg4)
    clear hgl hv hgn hg4
    go_wp2_with fail
    refine Calls.at fun W2 hW2 => ?_
    have hb2 := Lib.hid (show Below w.heap.size w W2 by subst hW2; exact (HB1.out.alloc hsz _).alloc (by simp; omega) _)
    have hbx := Lib.hid (show Box W2 w1.heap.size 36 (.slice none 0 0) by subst hW2; exact (Box.new w1 36 (.slice none 0 0)).below ((Below.refl _ _).alloc (Nat.le_refl _) _) (by simp))
    have hmx := Lib.hid (show Box W2 (w1.heap.size + 1) 37 (.float .f32 0) by subst hW2; simpa using Box.new (w1.alloc (.cells #[.slice none 0 0] 36)) 37 (.float .f32 0))
    have hk2 := Lib.hid (show Blk W2 w.heap.size 26 #[.int .i64 r.vars, .slice a1 r.nums.length c1, .slice a2 r.bnds.length c2, .slice a3 r.gains.length c3] by subst hW2; exact (HK1.out.alloc _).alloc _)
    have hz2 : W2.heap.size = w1.heap.size + 2 := by subst hW2; simp
    clear hW2 d0 d1 d2 d3
    refine (eachWhole_any r _ T r.gains.length HGL.out.symm HGN.out.2 (by omega) 100 Try.entersPW #[.pointer (some ⟨w.heap.size, 0, none⟩), .pointer (some ⟨w1.heap.size, 0, none⟩), .pointer (some ⟨w1.heap.size + 1, 0, none⟩)] (w1.heap.size + 2) (fun b => b = w1.heap.size ∨ b = w1.heap.size + 1) (by intro b hb; omega)
      (fun done w' => PQ (w1.heap.size + 2) w1.heap.size (w1.heap.size + 1) r.gains.length (wbAll r done) w' ∧ Below w1.heap.size W2 w') W2 ?_ ?_ ?_ r.gains.length none 0 [] W2 [] 0 rfl (by simp) (by omega) (World.ownsRow_nil _ _ _ _) (Kept.refl _ _) ?_ (by have := HL2.out; simp; omega)).mono ?_
    · intro X hX
      exact HP.out.up (hb2.out.trans (hX.toBelow (B := w.heap.size) hb2.out.size (by intro k h1 h2; omega))) (Nat.le_refl _)
    · rintro done wa wb ⟨hb, hbl⟩ h12
      exact ⟨hb.up h12, hbl.trans (h12.mono (by have := hbl.size; omega))⟩
    · rintro done s a cap m wa hm hmn hs hlen hka ⟨hb, hbl⟩
      refine (planW1_any (w1.heap.size + 2) w.heap.size w1.heap.size (w1.heap.size + 1) r.gains.length r a1 c1 a2 c2 a3 c3 (wbAll r done) s a cap m wa hm hmn HGN.out.1 (by have := HGN.out.2; omega) hs (by omega) (by omega) (by omega)
        (hk2.out.kept hka (by show ¬ (w.heap.size = w1.heap.size ∨ w.heap.size = w1.heap.size + 1); omega))
        (HP.out.up (hb2.out.trans (hka.toBelow (B := w.heap.size) hb2.out.size (by intro k h1 h2; omega))) (Nat.le_refl _)) hb).mono ?_
      rintro e wb ⟨rfl, h1, h2⟩
      refine ⟨rfl, ⟨by rw [wbAll_snoc]; exact h1, hbl.trans (h2.toBelow (by have := hbl.size; omega) (by intro k h1 h2; omega))⟩, h2⟩
    · exact ⟨⟨hmx.out, .inl ⟨rfl, hbx.out⟩⟩, Below.refl _ _⟩
    · rintro e wa ⟨rfl, ⟨hb, hbl⟩, hk⟩
      simp only [List.nil_append] at hb
      have HB := Lib.hid (hb2.out.trans (hbl.mono hsz))
      have hne := HNE.out
      obtain ⟨hm, hb⟩ := hb
      have cm := hm.cell
      obtain ⟨st, hst⟩ : ∃ st, st = wbAll r (wSols r T r.gains.length []) := ⟨_, rfl⟩
      rw [← hst] at cm hm hb HN
      obtain ⟨o, y⟩ := st
      simp only at cm hm hb
      clear hbl hk hst hm
      rcases hb with ⟨rfl, h2⟩ | ⟨s, g, cap, rfl, h2, h3⟩
      · have hc := h2.cell
        clear h2
        go_wp2_with fail
        go_quiet (fail)
        go_wp2_with fail
        go_ret3
        exact ⟨_, by unfold planY planOk; rw [HN.out]; rfl, by unfold planL; rw [HN.out]; exact ⟨World.ownsRow_nil _ _ _ _, by intro g hg; cases hg⟩, below_drewN HB.out _⟩
      · have hc := h2.cell
        have H3 := Lib.hid h3
        clear h2 h3
        go_wp2_with fail
        go_quiet (fail)
        go_wp2_with fail
        go_ret3
        exact ⟨_, by unfold planY planOk; rw [HN.out]; rfl, by unfold planL; rw [HN.out]; exact OwnI.mk (owns_base (owns_below H3.out (below_drewN (Below.refl _ _) _) (Nat.le_refl _)) (by omega)), below_drewN HB.out _⟩

end Go.Proofs.Ytkmbkjbammpdhaa
