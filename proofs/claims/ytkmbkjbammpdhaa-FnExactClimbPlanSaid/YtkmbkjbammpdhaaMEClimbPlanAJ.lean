/-
  FnExactClimbPlan: texts joined: ClimbM, ClimbI.
-/
import Derived.Test.YtkmbkjbammpdhaaMEClimbPlanAI
namespace Go.Proofs.Ytkmbkjbammpdhaa
open Go.RowKit

/-- Entry k turned by d. -/
def turned (now : List Int) (k : Nat) (d : Int) : List Int := now.set k (now.getD k 0 + d)
theorem turned_len (now : List Int) (k : Nat) (d : Int) : (turned now k d).length = now.length := by simp [turned]
theorem turned_at (now : List Int) (k : Nat) (d : Int) (h : k < now.length) : (turned now k d).getD k 0 = now.getD k 0 + d := by simp [turned, h]
theorem turned_ne (now : List Int) (k j : Nat) (d : Int) (h : j ≠ k) : (turned now k d).getD j 0 = now.getD j 0 := by simp [turned, List.getElem?_set, Ne.symm h]
/-- Turned, it is a whole plan still. -/
noncomputable def stepOk (r : RowsD) (top : Int) (now : List Int) (k : Nat) (d : Int) : Bool := inB 0 top (now.getD k 0 + d) && wholeB r (turned now k d)
/-- A better one taken. -/
noncomputable def better (r : RowsD) (b : WB) (s : List Int) : WB := if (gainOk r (s.map fI) && gtB (gainV r (s.map fI)) b.2) = true then (some s, gainV r (s.map fI)) else b
theorem better_no {r : RowsD} {b : WB} {s : List Int} (h : gainOk r (s.map fI) = false) : better r b s = b := by unfold better; rw [h]; rfl
theorem better_less {r : RowsD} {b : WB} {s : List Int} (h : gtB (gainV r (s.map fI)) b.2 = false) : better r b s = b := by unfold better; rw [h]; simp
theorem better_more {r : RowsD} {b : WB} {s : List Int} (h1 : gainOk r (s.map fI) = true) (h : gtB (gainV r (s.map fI)) b.2 = true) : better r b s = (some s, gainV r (s.map fI)) := by unfold better; rw [h1, h]; rfl
noncomputable def cStep (r : RowsD) (top : Int) (now : List Int) (b : WB) (k : Nat) (d : Int) : WB := if stepOk r top now k d = true then better r b (turned now k d) else b
theorem cStep_no {r : RowsD} {top : Int} {now : List Int} {b : WB} {k : Nat} {d : Int} (h : stepOk r top now k d = false) : cStep r top now b k d = b := by unfold cStep; rw [h]; rfl
theorem cStep_yes {r : RowsD} {top : Int} {now : List Int} {b : WB} {k : Nat} {d : Int} (h : stepOk r top now k d = true) : cStep r top now b k d = better r b (turned now k d) := by unfold cStep; rw [h]; rfl
noncomputable def cIn (r : RowsD) (top : Int) (now : List Int) (b : WB) (k : Nat) : Nat → WB
  | 0 => b
  | j + 1 => cStep r top now (cIn r top now b k j) k (2 * (j : Int) - 1)
noncomputable def cUp (r : RowsD) (top : Int) (now : List Int) (y : Nat) : Nat → WB
  | 0 => (none, y)
  | k + 1 => cIn r top now (cUp r top now y k) k 2
theorem cUp_succ (r : RowsD) (top : Int) (now : List Int) (y k : Nat) : cUp r top now y (k + 1) = cIn r top now (cUp r top now y k) k 2 := rfl
theorem cIn_succ (r : RowsD) (top : Int) (now : List Int) (b : WB) (k j : Nat) : cIn r top now b k (j + 1) = cStep r top now (cIn r top now b k j) k (2 * (j : Int) - 1) := rfl
noncomputable def climb (r : RowsD) (top : Int) : Nat → List Int → Nat → List Int × Int
  | 0, now, _ => (now, 0)
  | f + 1, now, y => match (cUp r top now y now.length).1 with
    | none => (now, 0)
    | some s => ((climb r top f s (cUp r top now y now.length).2).1, (climb r top f s (cUp r top now y now.length).2).2 + 1)
theorem climb_zero (r : RowsD) (top : Int) (now : List Int) (y : Nat) : climb r top 0 now y = (now, 0) := rfl
theorem climb_stop {r : RowsD} {top : Int} {f : Nat} {now : List Int} {y : Nat} (h : (cUp r top now y now.length).1 = none) : climb r top f now y = (now, 0) := by
  cases f with
  | zero => rfl
  | succ f => simp only [climb]; rw [h]
theorem climb_more {r : RowsD} {top : Int} {f : Nat} {now s : List Int} {y z : Nat} (h : cUp r top now y now.length = (some s, z)) : climb r top (f + 1) now y = ((climb r top f s z).1, (climb r top f s z).2 + 1) := by
  simp only [climb]; rw [h]

/-- Integers from 0 to top, as many as there are variables. -/
def Good (n : Nat) (top : Int) (s : List Int) : Prop := s.length = n ∧ ∀ i, i < n → inB 0 top (s.getD i 0) = true
theorem good_turned {n : Nat} {top : Int} {s : List Int} (h : Good n top s) {k : Nat} (hk : k < n) {d : Int} (hd : inB 0 top (s.getD k 0 + d) = true) : Good n top (turned s k d) := by
  refine ⟨by rw [turned_len]; exact h.1, fun i hi => ?_⟩
  by_cases e : i = k
  · subst e; rw [turned_at _ _ _ (by rw [h.1]; exact hi)]; exact hd
  · rw [turned_ne _ _ _ _ e]; exact h.2 i hi
theorem wok_turned {r : RowsD} {n : Nat} {top : Int} {s : List Int} (hv : r.vars = (n : Int)) (h : Good n top s) {k : Nat} (hk : k < n) (d : Int) : wokB r (turned s k d) top = stepOk r top s k d := by
  unfold wokB stepOk
  rw [turned_len, h.1, show ((n : Int) == r.vars) = true by rw [hv]; simp, Bool.true_and]
  congr 1
  cases hq : inB 0 top (s.getD k 0 + d)
  · exact allB_false hk (by rw [turned_at _ _ _ (by rw [h.1]; exact hk)]; exact hq)
  · exact allB_true (good_turned h hk hq).2
/-- What has been found is good. -/
def GoodW (n : Nat) (top : Int) (b : WB) : Prop := ∀ s, b.1 = some s → Good n top s
theorem goodW_step {r : RowsD} {n : Nat} {top : Int} {now : List Int} {b : WB} {k : Nat} {d : Int} (hg : Good n top now) (hk : k < n) (h : GoodW n top b) : GoodW n top (cStep r top now b k d) := by
  unfold cStep
  by_cases h1 : stepOk r top now k d = true
  · rw [if_pos h1]
    unfold better
    split
    · intro s hs
      simp only [Option.some.injEq] at hs
      subst hs
      unfold stepOk at h1
      simp only [Bool.and_eq_true] at h1
      exact good_turned hg hk h1.1
    · exact h
  · rw [if_neg h1]; exact h
theorem goodW_in {r : RowsD} {n : Nat} {top : Int} {now : List Int} {b : WB} {k : Nat} (hg : Good n top now) (hk : k < n) (h : GoodW n top b) : ∀ j, GoodW n top (cIn r top now b k j)
  | 0 => h
  | j + 1 => goodW_step hg hk (goodW_in hg hk h j)
theorem goodW_up {r : RowsD} {n : Nat} {top : Int} {now : List Int} {y : Nat} (hg : Good n top now) : ∀ k, k ≤ n → GoodW n top (cUp r top now y k)
  | 0, _ => fun s h => by cases h
  | k + 1, hk => goodW_in hg (by omega) (goodW_up hg k (by omega)) 2
theorem climb_len {r : RowsD} {n : Nat} {top : Int} : ∀ (f : Nat) (now : List Int) (y : Nat), Good n top now → (climb r top f now y).1.length = n
  | 0, now, y, h => h.1
  | f + 1, now, y, h => by
    cases hq : (cUp r top now y now.length).1 with
    | none => rw [climb_stop hq]; exact h.1
    | some s =>
      rw [climb_more (s := s) (z := (cUp r top now y now.length).2) (by rw [← hq])]
      exact climb_len f s _ (goodW_up h now.length (by rw [h.1]; exact Nat.le_refl _) s hq)

noncomputable def climbOk (r : RowsD) (x : List Int) (top : Int) : Bool := topB r top && (wokB r x top && gainOk r (x.map fI))
noncomputable def climbL (r : RowsD) (x : List Int) (top : Int) : List Int := if climbOk r x top = true then (climb r top 1000 x (gainV r (x.map fI))).1 else []
noncomputable def climbN (r : RowsD) (x : List Int) (top : Int) : Int := if climbOk r x top = true then (climb r top 1000 x (gainV r (x.map fI))).2 else 0
theorem good_of_wok {r : RowsD} {x : List Int} {top : Int} {n : Nat} (hv : r.vars = (n : Int)) (h : wokB r x top = true) : Good n top x := by
  unfold wokB at h
  simp only [Bool.and_eq_true, beq_iff_eq] at h
  obtain ⟨h1, h2, _⟩ := h
  have hl : x.length = n := by omega
  exact ⟨hl, fun i hi => allB_iff.1 h2 i (by omega)⟩
theorem climbL_cnt (r : RowsD) (x : List Int) (top : Int) : cntI (climbL r x top) ≤ 1048576 := by
  unfold climbL
  split
  · next h =>
    unfold climbOk at h
    simp only [Bool.and_eq_true] at h
    obtain ⟨h1, h2, _⟩ := h
    obtain ⟨hv, h4, _⟩ := topB_parts h1
    have hgl := hv.gl
    have := climb_len (r := r) (top := top) 1000 x (gainV r (x.map fI)) (good_of_wok (n := r.gains.length) (by omega) h2)
    unfold cntI
    omega
  · simp [cntI]
theorem allIn_allB (top : Int) (xs : List Int) : allB xs.length (fun i => inB 0 top (xs.getD i 0)) = allIn 0 top xs := by
  rw [Bool.eq_iff_iff, allB_iff, allIn_iff]

end Go.Proofs.Ytkmbkjbammpdhaa

namespace Go.Proofs.Ytkmbkjbammpdhaa
open Go.RowKit

theorem copyInts_n (a : Option Addr) (cap n : Nat) (xs : List Int) (w : World) (hn : xs.length = n) (hs : Slc w (.slice a n cap) (xs.map I64)) (hb : n ≤ 17592186044416) :
    Calls Try.prog 108 #[.slice a n cap] w fun e w' => ∃ g cap, e = .returned (.slice (some ⟨g, 0, none⟩) n cap) ∧ w'.ownsRow w.heap.size 2 1 (.slice (some ⟨g, 0, none⟩) n cap) n (xs.map I64) ∧ Below w.heap.size w w' := by
  subst hn; exact copyInts_any a cap xs w hs hb

/-- The best one so far: none is nil. -/
def BN (base n : Nat) (o : Option (List Int)) (bv : Value) (w : World) : Prop :=
  (o = none ∧ bv = .slice none 0 0) ∨ ∃ s gb cap, o = some s ∧ bv = .slice (some ⟨gb, 0, none⟩) n cap ∧ w.ownsRow base 2 1 (.slice (some ⟨gb, 0, none⟩) n cap) n (s.map I64)
theorem BN.up {base n : Nat} {o : Option (List Int)} {bv : Value} {w w' : World} (h : BN base n o bv w) (hb : Below w.heap.size w w') : BN base n o bv w' := by
  rcases h with h | ⟨s, gb, cap, h1, h2, h3⟩
  · exact .inl h
  · exact .inr ⟨s, gb, cap, h1, h2, owns_below h3 hb (Nat.le_refl _)⟩

/-- An entry written in a row of one's own. -/
theorem owns_turned {w : World} {base g n cap k : Nat} {now : List Int} {d : Int} (h : w.ownsRow base 2 1 (.slice (some ⟨g, 0, none⟩) n cap) n (now.map I64)) :
    (w.setCell ⟨g, k, none⟩ (.int .i64 (now.getD k 0 + d))).ownsRow base 2 1 (.slice (some ⟨g, 0, none⟩) n cap) n ((turned now k d).map I64) := by
  have h1 := (h.stored k (.int .i64 (now.getD k 0 + d))).1
  have e : (now.map I64).set k (.int .i64 (now.getD k 0 + d)) = (turned now k d).map I64 := by
    unfold turned; rw [List.map_set]; rfl
  rw [e] at h1
  exact h1
theorem owns_cell {w : World} {base g n cap k : Nat} {now : List Int} (h : w.ownsRow base 2 1 (.slice (some ⟨g, 0, none⟩) n cap) n (now.map I64)) (hk : k < now.length) :
    w.cell? ⟨g, k, none⟩ = some (.int .i64 (now.getD k 0)) := by
  obtain ⟨b, off, e, hb, hc⟩ := (show RdI w (.slice (some ⟨g, 0, none⟩) n cap) now from slc_of_owns h).at hk
  simp only [Option.some.injEq, Addr.mk.injEq, and_true] at e
  obtain ⟨rfl, rfl⟩ := e
  simpa using hc

theorem implGain_b2 (q : Bool) (y : Nat) (v : Value) (r : RowsD) (u : Value) (x : List Nat) (w : World) (h : RdR w v r) (hu : RdF w u x) (hq : gainOk r x = q) (hy : gainV r x = y) :
    Calls Try.prog 101 #[v, u] w fun e w' => e = .returned (.tuple #[.float .f32 y, .bool q]) ∧ Below w.heap.size w w' := by
  have := implGain_any v r u x w h hu
  rw [hq, hy] at this
  exact this

set_option maxHeartbeats 8000000 in
set_option maxRecDepth 8000 in
theorem implClimb_any (v : Value) (r : RowsD) (u : Value) (x : List Int) (top : Int) (w : World) (h : RdR w v r) (hu : RdI w u x) :
    Calls Try.prog 32 #[v, u, .int .i64 top] w fun e w' => ∃ v', e = .returned (.tuple #[v', .int .i64 (climbN r x top), .bool (climbOk r x top)]) ∧ OwnI w.heap.size w'.heap.size w' v' (climbL r x top) ∧ Below w.heap.size w w' := by
  obtain ⟨a1, c1, a2, c2, a3, c3, rfl⟩ := h.shape
  obtain ⟨ax, cx, rfl⟩ := hu.shape
  have hxl := hu.len
  unfold maxLen at hxl
  have HP := Lib.hid h
  have HU := Lib.hid hu
  clear h hu
  have HNO := Lib.hid (show climbOk r x top = false → climbN r x top = 0 ∧ climbL r x top = [] from fun h => by unfold climbN climbL; rw [h]; exact ⟨rfl, rfl⟩)
  obtain ⟨q1, h1⟩ : ∃ q, topB r top = q := ⟨_, rfl⟩
  obtain ⟨q3, h3⟩ : ∃ q, allIn 0 top x = q := ⟨_, rfl⟩
  obtain ⟨q4, h4⟩ : ∃ q, wholeB r x = q := ⟨_, rfl⟩
  have HC := Lib.hid (show climbOk r x top = (q1 && ((((x.length : Int) == r.vars) && (q3 && q4)) && gainOk r (x.map fI))) by unfold climbOk wokB; rw [allIn_allB, h1, h3, h4])
  have H1 := Lib.hid h1
  have H3 := Lib.hid h3
  have H4 := Lib.hid h4
  have HEQ := Lib.hid (fun (w : World) (a : Option Addr) (n c : Nat) => Lib.run_eql_slice_nil (P := Try.prog) w 36 2 a n c 0 0 Try.underlying36)
  clear h1 h3 h4
  go_enter Try.func32, Try.ntmps32
  go_upto_region 1 with fail
  refine wp_at fun W hW => ?_
  have HB := Lib.hid (show Below w.heap.size w W by subst hW; (repeat' first | exact Below.refl _ _ | assumption | refine Below.alloc ?_ ?_ _ | refine Below.setCell ?_ ?_ _ | refine Below.drew ?_ | (simp; done) | (simp; omega)))
  have HK := Lib.hid (show Blk W w.heap.size 26 #[.int .i64 r.vars, .slice a1 r.nums.length c1, .slice a2 r.bnds.length c2, .slice a3 r.gains.length c3] by subst hW; exact Blk.new _ _ _)
  clear hW
  have d0 : W.cell? ⟨w.heap.size, 0, none⟩ = some (.int .i64 r.vars) := HK.out.cell 0 rfl
  have d1 : W.cell? ⟨w.heap.size, 1, none⟩ = some (.slice a1 r.nums.length c1) := HK.out.cell 1 rfl
  have d2 : W.cell? ⟨w.heap.size, 2, none⟩ = some (.slice a2 r.bnds.length c2) := HK.out.cell 2 rfl
  have d3 : W.cell? ⟨w.heap.size, 3, none⟩ = some (.slice a3 r.gains.length c3) := HK.out.cell 3 rfl
  cases q1
  · have HN := Lib.hid (show climbOk r x top = false by rw [HC.out]; simp)
    refine wp_region_cls (fun X => X.cell? ⟨w.heap.size, 0, none⟩ = some (.int .i64 r.vars) ∧ X.cell? ⟨w.heap.size, 1, none⟩ = some (.slice a1 r.nums.length c1) ∧ X.cell? ⟨w.heap.size, 2, none⟩ = some (.slice a2 r.bnds.length c2) ∧ X.cell? ⟨w.heap.size, 3, none⟩ = some (.slice a3 r.gains.length c3) ∧ Hid (Below W.heap.size W X)) (by kernel_rfl) (by kernel_rfl) (⟨d0, d1, d2, d3, (Below.refl _ _).drew⟩) ?_
    repeat (first
      | go_big_quiet_skip
      | (refine q_step (by kernel_rfl) ?_
         apply Exists.intro
         refine ⟨fun X hX => ?_, ?_⟩
         · (try dsimp only at hX)
           go_simp
           (first | with_reducible rfl | done | (have hcur := hX.2.2.2.2; first | (go_at_call 96; refine (isTop_any _ r top _ (HP.out.up (HB.out.trans (hcur.out.mono HB.out.size)) (Nat.le_refl _))).mono ?_; rintro e w1 ⟨rfl, hb1⟩; rw [H1.out]; have hbn := hcur.out.trans (hb1.mono hcur.out.size); exact ⟨rfl, held_of hbn d0 (Nat.le_refl _), held_of hbn d1 (Nat.le_refl _), held_of hbn d2 (Nat.le_refl _), held_of hbn d3 (Nat.le_refl _), hbn⟩)))
         (try simp only [Act.put, List.setIfInBounds_toArray, List.set_cons_zero, List.set_cons_succ])))
    refine wpQuiet_nil ?_
    intro w1 hC
    (try dsimp only at hC)
    go_wp2_with fail
    go_ret3
    exact ⟨_, by rw [HN.out, (HNO.out HN.out).1]; rfl, by rw [(HNO.out HN.out).2]; exact ⟨World.ownsRow_nil _ _ _ _, by intro g hg; cases hg⟩, HB.out.trans (hC.2.2.2.2.out.mono HB.out.size)⟩
  obtain ⟨hv, hv4, t1, t5⟩ := topB_parts H1.out
  have hgl := hv.gl
  have hv1 := hv.v1
  clear hv
  by_cases hlen : (x.length : Int) = r.vars
  case neg =>
    have hne : ((x.length : Int) != r.vars) = true := by simpa using hlen
    have hne' : ((x.length : Int) == r.vars) = false := by simpa using hlen
    clear hlen
    have HN := Lib.hid (show climbOk r x top = false by rw [HC.out]; simp [hne'])
    refine wp_region_cls (fun X => X.cell? ⟨w.heap.size, 0, none⟩ = some (.int .i64 r.vars) ∧ X.cell? ⟨w.heap.size, 1, none⟩ = some (.slice a1 r.nums.length c1) ∧ X.cell? ⟨w.heap.size, 2, none⟩ = some (.slice a2 r.bnds.length c2) ∧ X.cell? ⟨w.heap.size, 3, none⟩ = some (.slice a3 r.gains.length c3) ∧ Hid (Below W.heap.size W X)) (by kernel_rfl) (by kernel_rfl) (⟨d0, d1, d2, d3, (Below.refl _ _).drew⟩) ?_
    repeat (first
      | go_big_quiet_skip
      | (refine q_step (by kernel_rfl) ?_
         apply Exists.intro
         refine ⟨fun X hX => ?_, ?_⟩
         · (try dsimp only at hX)
           go_simp
           (first | with_reducible rfl | done | (have hcur := hX.2.2.2.2; first | (go_at_call 96; refine (isTop_any _ r top _ (HP.out.up (HB.out.trans (hcur.out.mono HB.out.size)) (Nat.le_refl _))).mono ?_; rintro e w1 ⟨rfl, hb1⟩; rw [H1.out]; have hbn := hcur.out.trans (hb1.mono hcur.out.size); exact ⟨rfl, held_of hbn d0 (Nat.le_refl _), held_of hbn d1 (Nat.le_refl _), held_of hbn d2 (Nat.le_refl _), held_of hbn d3 (Nat.le_refl _), hbn⟩) | (go_at_call 105; refine (size_any _ _ (by unfold maxLen; omega)).mono ?_; rintro e w1 ⟨rfl, rfl⟩; exact ⟨rfl, hX⟩)))
         (try simp only [Act.put, List.setIfInBounds_toArray, List.set_cons_zero, List.set_cons_succ])))
    refine wpQuiet_nil ?_
    intro w1 hC
    (try dsimp only at hC)
    go_wp2_with fail
    go_ret3
    exact ⟨_, by rw [HN.out, (HNO.out HN.out).1]; rfl, by rw [(HNO.out HN.out).2]; exact ⟨World.ownsRow_nil _ _ _ _, by intro g hg; cases hg⟩, HB.out.trans (hC.2.2.2.2.out.mono HB.out.size)⟩
  have hne : ((x.length : Int) != r.vars) = false := by simpa using hlen
  have hne' : ((x.length : Int) == r.vars) = true := by simpa using hlen
  have HLEN := Lib.hid hlen
  have hx1 : x.length ≤ 1048576 := by omega
  clear hlen
  cases q3
  · have HN := Lib.hid (show climbOk r x top = false by rw [HC.out]; simp)
    refine wp_region_cls (fun X => X.cell? ⟨w.heap.size, 0, none⟩ = some (.int .i64 r.vars) ∧ X.cell? ⟨w.heap.size, 1, none⟩ = some (.slice a1 r.nums.length c1) ∧ X.cell? ⟨w.heap.size, 2, none⟩ = some (.slice a2 r.bnds.length c2) ∧ X.cell? ⟨w.heap.size, 3, none⟩ = some (.slice a3 r.gains.length c3) ∧ Hid (Below W.heap.size W X)) (by kernel_rfl) (by kernel_rfl) (⟨d0, d1, d2, d3, (Below.refl _ _).drew⟩) ?_
    repeat (first
      | go_big_quiet_skip
      | (refine q_step (by kernel_rfl) ?_
         apply Exists.intro
         refine ⟨fun X hX => ?_, ?_⟩
         · (try dsimp only at hX)
           go_simp
           (first | with_reducible rfl | done | (have hcur := hX.2.2.2.2; first | (go_at_call 96; refine (isTop_any _ r top _ (HP.out.up (HB.out.trans (hcur.out.mono HB.out.size)) (Nat.le_refl _))).mono ?_; rintro e w1 ⟨rfl, hb1⟩; rw [H1.out]; have hbn := hcur.out.trans (hb1.mono hcur.out.size); exact ⟨rfl, held_of hbn d0 (Nat.le_refl _), held_of hbn d1 (Nat.le_refl _), held_of hbn d2 (Nat.le_refl _), held_of hbn d3 (Nat.le_refl _), hbn⟩) | (go_at_call 105; refine (size_any _ _ (by unfold maxLen; omega)).mono ?_; rintro e w1 ⟨rfl, rfl⟩; exact ⟨rfl, hX⟩) | (go_at_call 106; refine (allWithin_any _ x 0 top _ (HU.out.up (HB.out.trans (hcur.out.mono HB.out.size)) (Nat.le_refl _))).mono ?_; rintro e w1 ⟨rfl, rfl⟩; rw [H3.out]; exact ⟨rfl, hX⟩)))
         (try simp only [Act.put, List.setIfInBounds_toArray, List.set_cons_zero, List.set_cons_succ])))
    refine wpQuiet_nil ?_
    intro w1 hC
    (try dsimp only at hC)
    go_wp2_with fail
    go_ret3
    exact ⟨_, by rw [HN.out, (HNO.out HN.out).1]; rfl, by rw [(HNO.out HN.out).2]; exact ⟨World.ownsRow_nil _ _ _ _, by intro g hg; cases hg⟩, HB.out.trans (hC.2.2.2.2.out.mono HB.out.size)⟩
  cases q4
  · have HN := Lib.hid (show climbOk r x top = false by rw [HC.out]; simp)
    refine wp_region_cls (fun X => X.cell? ⟨w.heap.size, 0, none⟩ = some (.int .i64 r.vars) ∧ X.cell? ⟨w.heap.size, 1, none⟩ = some (.slice a1 r.nums.length c1) ∧ X.cell? ⟨w.heap.size, 2, none⟩ = some (.slice a2 r.bnds.length c2) ∧ X.cell? ⟨w.heap.size, 3, none⟩ = some (.slice a3 r.gains.length c3) ∧ Hid (Below W.heap.size W X)) (by kernel_rfl) (by kernel_rfl) (⟨d0, d1, d2, d3, (Below.refl _ _).drew⟩) ?_
    repeat (first
      | go_big_quiet_skip
      | (refine q_step (by kernel_rfl) ?_
         apply Exists.intro
         refine ⟨fun X hX => ?_, ?_⟩
         · (try dsimp only at hX)
           go_simp
           (first | with_reducible rfl | done | (have hcur := hX.2.2.2.2; first | (go_at_call 96; refine (isTop_any _ r top _ (HP.out.up (HB.out.trans (hcur.out.mono HB.out.size)) (Nat.le_refl _))).mono ?_; rintro e w1 ⟨rfl, hb1⟩; rw [H1.out]; have hbn := hcur.out.trans (hb1.mono hcur.out.size); exact ⟨rfl, held_of hbn d0 (Nat.le_refl _), held_of hbn d1 (Nat.le_refl _), held_of hbn d2 (Nat.le_refl _), held_of hbn d3 (Nat.le_refl _), hbn⟩) | (go_at_call 105; refine (size_any _ _ (by unfold maxLen; omega)).mono ?_; rintro e w1 ⟨rfl, rfl⟩; exact ⟨rfl, hX⟩) | (go_at_call 106; refine (allWithin_any _ x 0 top _ (HU.out.up (HB.out.trans (hcur.out.mono HB.out.size)) (Nat.le_refl _))).mono ?_; rintro e w1 ⟨rfl, rfl⟩; rw [H3.out]; exact ⟨rfl, hX⟩) | (go_at_call 107; refine (isWhole_any _ r _ x _ (HP.out.up (HB.out.trans (hcur.out.mono HB.out.size)) (Nat.le_refl _)) (HU.out.up (HB.out.trans (hcur.out.mono HB.out.size)) (Nat.le_refl _)) (by omega)).mono ?_; rintro e w1 ⟨rfl, hb1⟩; rw [H4.out]; have hbn := hcur.out.trans (hb1.mono hcur.out.size); exact ⟨rfl, held_of hbn d0 (Nat.le_refl _), held_of hbn d1 (Nat.le_refl _), held_of hbn d2 (Nat.le_refl _), held_of hbn d3 (Nat.le_refl _), hbn⟩)))
         (try simp only [Act.put, List.setIfInBounds_toArray, List.set_cons_zero, List.set_cons_succ])))
    refine wpQuiet_nil ?_
    intro w1 hC
    (try dsimp only at hC)
    go_wp2_with fail
    go_ret3
    exact ⟨_, by rw [HN.out, (HNO.out HN.out).1]; rfl, by rw [(HNO.out HN.out).2]; exact ⟨World.ownsRow_nil _ _ _ _, by intro g hg; cases hg⟩, HB.out.trans (hC.2.2.2.2.out.mono HB.out.size)⟩
  refine wp_region_cls (fun X => X.cell? ⟨w.heap.size, 0, none⟩ = some (.int .i64 r.vars) ∧ X.cell? ⟨w.heap.size, 1, none⟩ = some (.slice a1 r.nums.length c1) ∧ X.cell? ⟨w.heap.size, 2, none⟩ = some (.slice a2 r.bnds.length c2) ∧ X.cell? ⟨w.heap.size, 3, none⟩ = some (.slice a3 r.gains.length c3) ∧ Hid (Below W.heap.size W X)) (by kernel_rfl) (by kernel_rfl) (⟨d0, d1, d2, d3, (Below.refl _ _).drew⟩) ?_
  repeat (first
    | go_big_quiet_skip
    | (refine q_step (by kernel_rfl) ?_
       apply Exists.intro
       refine ⟨fun X hX => ?_, ?_⟩
       · (try dsimp only at hX)
         go_simp
         (first | with_reducible rfl | done | (have hcur := hX.2.2.2.2; first | (go_at_call 96; refine (isTop_any _ r top _ (HP.out.up (HB.out.trans (hcur.out.mono HB.out.size)) (Nat.le_refl _))).mono ?_; rintro e w1 ⟨rfl, hb1⟩; rw [H1.out]; have hbn := hcur.out.trans (hb1.mono hcur.out.size); exact ⟨rfl, held_of hbn d0 (Nat.le_refl _), held_of hbn d1 (Nat.le_refl _), held_of hbn d2 (Nat.le_refl _), held_of hbn d3 (Nat.le_refl _), hbn⟩) | (go_at_call 105; refine (size_any _ _ (by unfold maxLen; omega)).mono ?_; rintro e w1 ⟨rfl, rfl⟩; exact ⟨rfl, hX⟩) | (go_at_call 106; refine (allWithin_any _ x 0 top _ (HU.out.up (HB.out.trans (hcur.out.mono HB.out.size)) (Nat.le_refl _))).mono ?_; rintro e w1 ⟨rfl, rfl⟩; rw [H3.out]; exact ⟨rfl, hX⟩) | (go_at_call 107; refine (isWhole_any _ r _ x _ (HP.out.up (HB.out.trans (hcur.out.mono HB.out.size)) (Nat.le_refl _)) (HU.out.up (HB.out.trans (hcur.out.mono HB.out.size)) (Nat.le_refl _)) (by omega)).mono ?_; rintro e w1 ⟨rfl, hb1⟩; rw [H4.out]; have hbn := hcur.out.trans (hb1.mono hcur.out.size); exact ⟨rfl, held_of hbn d0 (Nat.le_refl _), held_of hbn d1 (Nat.le_refl _), held_of hbn d2 (Nat.le_refl _), held_of hbn d3 (Nat.le_refl _), hbn⟩)))
       (try simp only [Act.put, List.setIfInBounds_toArray, List.set_cons_zero, List.set_cons_succ])))
  refine wpQuiet_nil ?_
  intro w1 hC
  (try dsimp only at hC)
  have HWK := Lib.hid (show wokB r x top = true by unfold wokB; rw [allIn_allB, hne', H3.out, H4.out]; rfl)
  obtain ⟨n, hn⟩ : ∃ n, n = r.gains.length := ⟨_, rfl⟩
  have hvn : r.vars = (n : Int) := by rw [hn]; exact hgl.symm
  have hxn : x.length = n := by have := HLEN.out; omega
  have hn1 : 1 ≤ n := by omega
  have hn4 : n ≤ 4 := by omega
  have HGD := Lib.hid (good_of_wok hvn HWK.out)
  have HVN := Lib.hid hvn
  have HXN := Lib.hid hxn
  have HB1 := Lib.hid (HB.out.trans (hC.2.2.2.2.out.mono HB.out.size))
  have HK1 := Lib.hid (HK.out.below hC.2.2.2.2.out HK.out.lt)
  have hz1 := HB1.out.size
  have hkl := HK1.out.lt
  clear hC d0 d1 d2 d3 hne hne' hgl hv1 hv4 hn hvn HB HK
  go_wp2_with fail
  rw [show (Value.slice ax x.length cx) = Value.slice ax n cx by rw [HXN.out]]
  refine (copyInts_n ax cx n x w1 HXN.out (by have := HU.out.up HB1.out (Nat.le_refl _); rwa [HXN.out] at this) (by omega)).mono ?_
  rintro e w2 ⟨g0, cap0, rfl, ho2, hb2⟩
  have HO2 := Lib.hid ho2
  have HB2 := Lib.hid (HB1.out.trans (hb2.mono hz1))
  have HK2 := Lib.hid (HK1.out.below hb2 HK1.out.lt)
  clear ho2 hb2
  obtain ⟨q, hq⟩ : ∃ q, gainOk r (x.map fI) = q := ⟨_, rfl⟩
  obtain ⟨y, hy⟩ : ∃ y, gainV r (x.map fI) = y := ⟨_, rfl⟩
  have HGQ := Lib.hid hq
  have HGY := Lib.hid hy
  clear hq hy
  have hx8 : x.length ≤ 8 := by have := HXN.out; omega
  have d0 : w2.cell? ⟨w.heap.size, 0, none⟩ = some (.int .i64 r.vars) := HK2.out.cell 0 rfl
  have d1 : w2.cell? ⟨w.heap.size, 1, none⟩ = some (.slice a1 r.nums.length c1) := HK2.out.cell 1 rfl
  have d2 : w2.cell? ⟨w.heap.size, 2, none⟩ = some (.slice a2 r.bnds.length c2) := HK2.out.cell 2 rfl
  have d3 : w2.cell? ⟨w.heap.size, 3, none⟩ = some (.slice a3 r.gains.length c3) := HK2.out.cell 3 rfl
  go_wp2_with fail
  go_region_held3 (fun X => X.cell? ⟨w.heap.size, 0, none⟩ = some (.int .i64 r.vars) ∧ X.cell? ⟨w.heap.size, 1, none⟩ = some (.slice a1 r.nums.length c1) ∧ X.cell? ⟨w.heap.size, 2, none⟩ = some (.slice a2 r.bnds.length c2) ∧ X.cell? ⟨w.heap.size, 3, none⟩ = some (.slice a3 r.gains.length c3) ∧ Below w2.heap.size w2 X)
    (first | exact ⟨held_of hbn d0 (Nat.le_refl _), held_of hbn d1 (Nat.le_refl _), held_of hbn d2 (Nat.le_refl _), held_of hbn d3 (Nat.le_refl _), hbn⟩ | exact ⟨d0, d1, d2, d3, (Below.refl _ _).drew⟩)
    (first
      | (go_at_call 102; have hh := (‹_ ∧ _ ∧ _ ∧ _ ∧ Below w2.heap.size w2 _›).2.2.2.2; refine (asNumbers_any _ x _ (Slc.below (slc_of_owns HO2.out) hh (Nat.le_refl _)) (by omega)).mono ?_; rintro e wn1 ⟨nu, rfl, hnu, hb1⟩; have hbn := hh.trans (hb1.mono hh.size))
      | (go_at_call 101; have hh := (‹_ ∧ _ ∧ _ ∧ _ ∧ Below w2.heap.size w2 _›).2.2.2.2; refine (implGain_b2 q y _ r _ (x.map fI) _ (HP.out.up (HB2.out.trans (hh.mono HB2.out.size)) (Nat.le_refl _)) hnu HGQ.out HGY.out).mono ?_; rintro e w3 ⟨rfl, hb2⟩; have hbn := hh.trans (hb2.mono hh.size))
      | fail)
  have hb5 : Below w2.heap.size w2 w3 := hbn
  have HO3 := Lib.hid (owns_base (owns_below HO2.out hb5 (Nat.le_refl _)) hz1)
  have HB3 := Lib.hid (HB2.out.trans (hb5.mono HB2.out.size))
  have HK3 := Lib.hid (HK2.out.below hb5 HK2.out.lt)
  clear hbn hb5 d0 d1 d2 d3 hb1 hb2 hh hnu HO2 HB2 HK2
  cases q
  · have HN := Lib.hid (show climbOk r x top = false by unfold climbOk; rw [HGQ.out]; simp)
    go_wp2_with fail
    go_ret3
    exact ⟨_, by rw [HN.out, (HNO.out HN.out).1]; rfl, by rw [(HNO.out HN.out).2]; exact ⟨World.ownsRow_nil _ _ _ _, by intro g hg; cases hg⟩, HB3.out⟩
  have HYES := Lib.hid (show climbOk r x top = true by unfold climbOk; rw [H1.out, HWK.out, HGQ.out]; rfl)
  have HFL := Lib.hid (show climbL r x top = (climb r top 1000 x y).1 by unfold climbL; rw [HYES.out, if_pos rfl, HGY.out])
  have HFN := Lib.hid (show climbN r x top = (climb r top 1000 x y).2 by unfold climbN; rw [HYES.out, if_pos rfl, HGY.out])
  clear HNO HC
  go_wp2_with fail
  go_loopw [9, 10, 12] (fun nv mv cv wr => ∃ (c : Nat) (now : List Int) (m g cap : Nat), nv = .slice (some ⟨g, 0, none⟩) n cap ∧ mv = .float .f32 m ∧ cv = .int .i64 c ∧ c ≤ 1000 ∧ Hid (Good n top now) ∧ Hid ((climb r top 1000 x y).1 = (climb r top (1000 - c) now m).1) ∧ Hid ((climb r top 1000 x y).2 = (c : Int) + (climb r top (1000 - c) now m).2) ∧ Hid (wr.ownsRow w.heap.size 2 1 (.slice (some ⟨g, 0, none⟩) n cap) n (now.map I64)) ∧ Hid (Blk wr w.heap.size 26 #[.int .i64 r.vars, .slice a1 r.nums.length c1, .slice a2 r.bnds.length c2, .slice a3 r.gains.length c3]) ∧ Hid (Below w.heap.size w wr)) (fun _ _ cv _ => 1001 - (intOf cv).toNat)
  case atStart => exact ⟨0, x, y, g0, cap0, rfl, rfl, rfl, by omega, HGD, rfl, (Int.zero_add _).symm, HO3, HK3, HB3⟩
  case round =>
    obtain ⟨c, now, m, g, cap, rfl, rfl, rfl, hc, HGN, HL1, HL2, HO, HK, HB⟩ := hrel
    obtain ⟨wo, rfl⟩ : ∃ wo, wo = wr := ⟨wr, rfl⟩
    have hzo := HB.out.size
    have hlb := HK.out.lt
    go_wp2_with fail
    go_loopw [10, 13, 59] (fun mv bv kv wr => ∃ k : Nat, kv = .int .i64 k ∧ k ≤ n ∧ mv = .float .f32 (cUp r top now m k).2 ∧ Hid (BN w.heap.size n (cUp r top now m k).1 bv wr) ∧ Hid (Below wo.heap.size wo wr)) (fun _ _ kv _ => n - (intOf kv).toNat)
    case atStart => exact ⟨0, rfl, Nat.zero_le _, rfl, .inl ⟨rfl, rfl⟩, Below.refl _ _⟩
    case round =>
      obtain ⟨k, rfl, hk, rfl, HBN, HBW⟩ := hrel
      by_cases hlt : k < n
      · obtain ⟨st, hst⟩ : ∃ st, st = cUp r top now m k := ⟨_, rfl⟩
        have HST := Lib.hid (show cUp r top now m (k + 1) = cIn r top now st k 2 by rw [hst]; rfl)
        rw [← hst] at HBN ⊢
        clear hst
        obtain ⟨wi, rfl⟩ : ∃ wi, wi = wr := ⟨wr, rfl⟩
        have hzi := HBW.out.size
        have hltI : (k : Int) < (n : Int) := by omega
        go_wp2_with fail
        refine wp_at fun ws hws => ?_
        have hbs := Lib.hid (show Below wi.heap.size wi ws by subst hws; (repeat' first | exact Below.refl _ _ | assumption | refine Below.alloc ?_ ?_ _ | refine Below.setCell ?_ ?_ _ | refine Below.drew ?_ | (simp; done) | (simp; omega)))
        have l0 := Lib.hid (show ws.cell? ⟨wi.heap.size, 0, none⟩ = some (.int .i64 (-1)) by subst hws; exact (Blk.new wi 2 #[.int .i64 (-1), .int .i64 1]).cell 0 rfl)
        have l1 := Lib.hid (show ws.cell? ⟨wi.heap.size, 1, none⟩ = some (.int .i64 1) by subst hws; exact (Blk.new wi 2 #[.int .i64 (-1), .int .i64 1]).cell 1 rfl)
        have hzs : wi.heap.size < ws.heap.size := by subst hws; simp
        clear hws
        go_loopw [10, 13, 64] (fun mv bv jv wr => ∃ (j : Nat) (b : WB), jv = .int .i64 j ∧ j ≤ 2 ∧ b = cIn r top now st k j ∧ mv = .float .f32 b.2 ∧ Hid (BN w.heap.size n b.1 bv wr) ∧ Hid (Below ws.heap.size ws wr)) (fun _ _ jv _ => 2 - (intOf jv).toNat)
        case atStart => exact ⟨0, st, rfl, Nat.zero_le _, rfl, rfl, HBN.out.up hbs.out, Below.refl _ _⟩
        case round =>
          obtain ⟨j, b, rfl, hj, hb0, rfl, HBN1, HBW1⟩ := hrel
          have HBJ := Lib.hid hb0
          clear hb0
          have hzr := HBW1.out.size
          by_cases hjl : j < 2
          · have hjl' : (j : Int) < 2 := by omega
            obtain ⟨d, hd⟩ : ∃ d : Int, d = 2 * (j : Int) - 1 := ⟨_, rfl⟩
            have lj : wr.cell? ⟨wi.heap.size, j, none⟩ = some (.int .i64 d) := by
              rcases (by omega : j = 0 ∨ j = 1) with rfl | rfl
              · subst hd; exact held_of HBW1.out l0.out (Nat.le_refl _)
              · subst hd; exact held_of HBW1.out l1.out (Nat.le_refl _)
            have hd1 : -1 ≤ d ∧ d ≤ 1 := by omega
            have HCS := Lib.hid (show cIn r top now st k (j + 1) = cStep r top now b k d by rw [cIn_succ, ← HBJ.out, hd])
            clear hd
            have HOr := Lib.hid (owns_below (owns_below (owns_below HO.out HBW.out (Nat.le_refl _)) hbs.out (Nat.le_refl _)) HBW1.out (Nat.le_refl _))
            have HBr := Lib.hid (((HB.out.trans (HBW.out.mono hzo)).trans (hbs.out.mono (by omega))).trans (HBW1.out.mono (by omega)))
            have HKr := Lib.hid (((HK.out.below HBW.out HK.out.lt).below hbs.out (by omega)).below HBW1.out (by omega))
            have hwz := HBr.out.size
            go_wp2_with fail
            refine (copyInts_n _ cap n now wr HGN.out.1 (slc_of_owns HOr.out) (by omega)).mono ?_
            rintro e w4 ⟨g1, cap1, rfl, ho4, hb4⟩
            have hgl1 := (owns_lt ho4 (k := g1) (by first | rfl | (simp [Value.ownBlock])))
            have hc4 := owns_cell ho4 (k := k) (by rw [HGN.out.1]; exact hlt)
            have hf4 := ho4.frozenAt k
            have hin := inB_iff.1 (HGN.out.2 k hlt)
            obtain ⟨z, hz⟩ : ∃ z, z = now.getD k 0 := ⟨_, rfl⟩
            obtain ⟨W1, hW1⟩ : ∃ W1, W1 = w4.setCell ⟨g1, k, none⟩ (.int .i64 (now.getD k 0 + d)) := ⟨_, rfl⟩
            have HO5 := Lib.hid (show W1.ownsRow wr.heap.size 2 1 (.slice (some ⟨g1, 0, none⟩) n cap1) n ((turned now k d).map I64) by rw [hW1]; exact owns_turned ho4)
            have hb5 : Below wr.heap.size wr W1 := by rw [hW1]; exact hb4.setCell hgl1.1 _
            have hc5 : W1.cell? ⟨g1, k, none⟩ = some (.int .i64 (z + d)) := by
              have := owns_cell HO5.out (k := k) (by rw [turned_len, HGN.out.1]; exact hlt)
              rwa [turned_at _ _ _ (by rw [HGN.out.1]; exact hlt), ← hz] at this
            have HB5 := Lib.hid (HBr.out.trans (hb5.mono hwz))
            have HK5 := Lib.hid (HKr.out.below hb5 HKr.out.lt)
            have HBN5 := Lib.hid (HBN1.out.up hb5)
            have HBW5 := Lib.hid (HBW1.out.trans (hb5.mono hzr))
            have hz5 := hb5.size
            rw [← hz] at hc4 hW1 hin
            have hzd : -1 ≤ z + d ∧ z + d ≤ 6 := by omega
            have HW1 := Lib.hid hW1
            have HSO := Lib.hid (show stepOk r top now k d = (inB 0 top (z + d) && wholeB r (turned now k d)) by unfold stepOk; rw [← hz])
            obtain ⟨qi, hqi⟩ : ∃ q, inB 0 top (z + d) = q := ⟨_, rfl⟩
            obtain ⟨qw, hqw⟩ : ∃ q, wholeB r (turned now k d) = q := ⟨_, rfl⟩
            rw [hqi, hqw] at HSO
            have HQI := Lib.hid hqi
            have HQW := Lib.hid hqw
            have HTL := Lib.hid (show (turned now k d).length = n by rw [turned_len]; exact HGN.out.1)
            clear hqi hqw hz hW1 ho4 hb4 hb5
            have HC5 := Lib.hid hc5
            clear hc5
            go_upto_region 18 with fail
            rw [← HW1.out]
            clear hc4 hf4 lj
            have hc5 := HC5.out
            have d0 : W1.cell? ⟨w.heap.size, 0, none⟩ = some (.int .i64 r.vars) := HK5.out.cell 0 rfl
            have d1 : W1.cell? ⟨w.heap.size, 1, none⟩ = some (.slice a1 r.nums.length c1) := HK5.out.cell 1 rfl
            have d2 : W1.cell? ⟨w.heap.size, 2, none⟩ = some (.slice a2 r.bnds.length c2) := HK5.out.cell 2 rfl
            have d3 : W1.cell? ⟨w.heap.size, 3, none⟩ = some (.slice a3 r.gains.length c3) := HK5.out.cell 3 rfl
            cases qi
            · have HU2 := Lib.hid (show cIn r top now st k (j + 1) = b by rw [HCS.out]; exact cStep_no (by rw [HSO.out]; rfl))
              go_wp2_with (go_at_call 109; refine (within_any _ _ _ _).mono ?_; rintro e w' ⟨rfl, rfl⟩; rw [HQI.out])
              go_roundw
              case rel => exact ⟨j + 1, b, by go_num, by omega, HU2.out.symm, rfl, HBN5, HBW5⟩
              case measure => simp [intOf]; omega
            go_wp2_with (go_at_call 109; refine (within_any _ _ _ _).mono ?_; rintro e w' ⟨rfl, rfl⟩; rw [HQI.out])
            refine (isWhole_any _ r _ (turned now k d) W1 (HP.out.up HB5.out (Nat.le_refl _)) (slc_of_owns HO5.out) (by have := HTL.out; omega)).mono ?_
            rintro e w6 ⟨rfl, hb6⟩
            rw [HQW.out]
            have HO6 := Lib.hid (owns_below HO5.out hb6 (Nat.le_refl _))
            have HB6 := Lib.hid (HB5.out.trans (hb6.mono HB5.out.size))
            have HK6 := Lib.hid (HK5.out.below hb6 HK5.out.lt)
            have HBN6 := Lib.hid (HBN5.out.up hb6)
            have HBW6 := Lib.hid (HBW5.out.trans (hb6.mono HBW5.out.size))
            have hz6 := hb6.size
            clear hb6 d0 d1 d2 d3 hc5
            cases qw
            · have HU2 := Lib.hid (show cIn r top now st k (j + 1) = b by rw [HCS.out]; exact cStep_no (by rw [HSO.out]; rfl))
              go_wp2_with fail
              go_roundw
              case rel => exact ⟨j + 1, b, by go_num, by omega, HU2.out.symm, rfl, HBN6, HBW6⟩
              case measure => simp [intOf]; omega
            have HBE := Lib.hid (show cIn r top now st k (j + 1) = better r b (turned now k d) by rw [HCS.out]; exact cStep_yes (by rw [HSO.out]; rfl))
            clear HCS HSO HGQ HGY
            obtain ⟨q, hq⟩ : ∃ q, gainOk r ((turned now k d).map fI) = q := ⟨_, rfl⟩
            obtain ⟨y2, hy⟩ : ∃ y, gainV r ((turned now k d).map fI) = y := ⟨_, rfl⟩
            have HGQ := Lib.hid hq
            have HGY := Lib.hid hy
            clear hq hy
            have hx8 : (turned now k d).length ≤ 8 := by have := HTL.out; omega
            have d0 : w6.cell? ⟨w.heap.size, 0, none⟩ = some (.int .i64 r.vars) := HK6.out.cell 0 rfl
            have d1 : w6.cell? ⟨w.heap.size, 1, none⟩ = some (.slice a1 r.nums.length c1) := HK6.out.cell 1 rfl
            have d2 : w6.cell? ⟨w.heap.size, 2, none⟩ = some (.slice a2 r.bnds.length c2) := HK6.out.cell 2 rfl
            have d3 : w6.cell? ⟨w.heap.size, 3, none⟩ = some (.slice a3 r.gains.length c3) := HK6.out.cell 3 rfl
            go_wp2_with fail
            go_region_held3 (fun X => X.cell? ⟨w.heap.size, 0, none⟩ = some (.int .i64 r.vars) ∧ X.cell? ⟨w.heap.size, 1, none⟩ = some (.slice a1 r.nums.length c1) ∧ X.cell? ⟨w.heap.size, 2, none⟩ = some (.slice a2 r.bnds.length c2) ∧ X.cell? ⟨w.heap.size, 3, none⟩ = some (.slice a3 r.gains.length c3) ∧ Below w6.heap.size w6 X)
              (first | exact ⟨held_of hbn d0 (Nat.le_refl _), held_of hbn d1 (Nat.le_refl _), held_of hbn d2 (Nat.le_refl _), held_of hbn d3 (Nat.le_refl _), hbn⟩ | exact ⟨d0, d1, d2, d3, (Below.refl _ _).drew⟩)
              (first
                | (go_at_call 102; have hh := (‹_ ∧ _ ∧ _ ∧ _ ∧ Below w6.heap.size w6 _›).2.2.2.2; refine (asNumbers_any _ (turned now k d) _ (Slc.below (slc_of_owns HO6.out) hh (Nat.le_refl _)) (by omega)).mono ?_; rintro e wn1 ⟨nu, rfl, hnu, hb1⟩; have hbn := hh.trans (hb1.mono hh.size))
                | (go_at_call 101; have hh := (‹_ ∧ _ ∧ _ ∧ _ ∧ Below w6.heap.size w6 _›).2.2.2.2; refine (implGain_b2 q y2 _ r _ ((turned now k d).map fI) _ (HP.out.up (HB6.out.trans (hh.mono HB6.out.size)) (Nat.le_refl _)) hnu HGQ.out HGY.out).mono ?_; rintro e w7 ⟨rfl, hb2⟩; have hbn := hh.trans (hb2.mono hh.size))
                | fail)
            have hb7 : Below w6.heap.size w6 w7 := hbn
            have HO7 := Lib.hid (owns_below HO6.out hb7 (Nat.le_refl _))
            have HBN7 := Lib.hid (HBN6.out.up hb7)
            have HBW7 := Lib.hid (HBW6.out.trans (hb7.mono HBW6.out.size))
            clear hbn hb7 d0 d1 d2 d3 hb1 hb2 hh hnu HO6 HB6 HK6
            cases q
            · have HU2 := Lib.hid (show cIn r top now st k (j + 1) = b by rw [HBE.out]; exact better_no HGQ.out)
              go_wp2_with fail
              go_roundw
              case rel => exact ⟨j + 1, b, by go_num, by omega, HU2.out.symm, rfl, HBN7, HBW7⟩
              case measure => simp [intOf]; omega
            cases hq : gtB y2 b.2
            · have hq' : (FloatKind.f32.format.order y2 b.2 == some .gt) = false := hq
              have HU2 := Lib.hid (show cIn r top now st k (j + 1) = b by rw [HBE.out]; exact better_less (by rw [HGY.out]; exact hq))
              clear hq
              go_wp2_with fail
              go_roundw
              case rel => exact ⟨j + 1, b, by go_num, by omega, HU2.out.symm, rfl, HBN7, HBW7⟩
              case measure => simp [intOf]; omega
            · have hq' : (FloatKind.f32.format.order y2 b.2 == some .gt) = true := hq
              have HU2 := Lib.hid (show cIn r top now st k (j + 1) = (some (turned now k d), y2) by rw [HBE.out, ← HGY.out]; exact better_more HGQ.out (by rw [HGY.out]; exact hq))
              clear hq
              have HBN8 : Hid (BN w.heap.size n (some (turned now k d)) (.slice (some ⟨g1, 0, none⟩) n cap1) w7) := Lib.hid (.inr ⟨_, g1, cap1, rfl, rfl, owns_base HO7.out hwz⟩)
              go_wp2_with fail
              go_roundw
              case rel => exact ⟨j + 1, (some (turned now k d), y2), by go_num, by omega, HU2.out.symm, rfl, HBN8, HBW7⟩
              case measure => simp [intOf]; omega
          · obtain rfl : j = 2 := by omega
            have HE2 := Lib.hid (HST.out.trans HBJ.out.symm)
            go_wp2_with fail
            go_roundw
            case rel => exact ⟨k + 1, by go_num, by omega, by rw [HE2.out], by rw [HE2.out]; exact HBN1, HBW.out.trans ((hbs.out.trans (HBW1.out.mono (by omega))).mono hzi)⟩
            case measure => simp [intOf]; omega
      · obtain rfl : k = n := by omega
        have HBe := Lib.hid (HB.out.trans (HBW.out.mono hzo))
        have HKe := Lib.hid (HK.out.below HBW.out HK.out.lt)
        have HOe := Lib.hid (owns_below HO.out HBW.out (Nat.le_refl _))
        obtain ⟨b, hb⟩ : ∃ b, b = cUp r top now m k := ⟨_, rfl⟩
        have HUP := Lib.hid (show cUp r top now m now.length = b by rw [HGN.out.1, hb])
        have HGW := Lib.hid (show GoodW k top b by rw [hb]; exact goodW_up HGN.out k (Nat.le_refl _))
        rw [← hb] at HBN ⊢
        clear hb
        obtain ⟨bo, bm⟩ := b
        rcases HBN.out with ⟨e1, rfl⟩ | ⟨s, gb, capb, e1, rfl, e3⟩
        · simp only at e1
          subst e1
          have HF1 := Lib.hid (show climbL r x top = now by rw [HFL.out, HL1.out, climb_stop (by rw [HUP.out])])
          have HF2 := Lib.hid (show climbN r x top = (c : Int) by rw [HFN.out, HL2.out, climb_stop (by rw [HUP.out])]; simp)
          have heq := HEQ.out
          go_wp2_with fail
          go_ret3
          exact ⟨_, by rw [HYES.out, HF2.out]; rfl, by rw [HF1.out]; exact OwnI.mk HOe.out, HBe.out⟩
        · simp only at e1
          subst e1
          have E3 := Lib.hid e3
          have heq := HEQ.out
          clear e3
          by_cases hc2 : c = 1000
          · subst hc2
            have HF1 := Lib.hid (show climbL r x top = now by rw [HFL.out, HL1.out]; rfl)
            have HF2 := Lib.hid (show climbN r x top = (1000 : Int) by rw [HFN.out, HL2.out]; rfl)
            go_wp2_with fail
            go_ret3
            exact ⟨_, by rw [HYES.out, HF2.out]; rfl, by rw [HF1.out]; exact OwnI.mk HOe.out, HBe.out⟩
          · have hc3 : ((c : Int) == 1000) = false := by rw [beq_eq_false_iff_ne]; omega
            have HM := Lib.hid (climb_more (f := 1000 - (c + 1)) HUP.out)
            go_wp2_with fail
            go_roundw
            case rel =>
              refine ⟨c + 1, s, bm, gb, capb, rfl, rfl, by go_num, by omega, HGW.out s rfl, ?_, ?_, E3, HKe, HBe⟩
              · have h1 := HL1.out
                rw [show 1000 - c = (1000 - (c + 1)) + 1 by omega, HM.out] at h1
                exact h1
              · have h1 := HL2.out
                rw [show 1000 - c = (1000 - (c + 1)) + 1 by omega, HM.out] at h1
                show _ = ((c + 1 : Nat) : Int) + _
                rw [h1]; push_cast; omega
            case measure => simp [intOf]; omega

end Go.Proofs.Ytkmbkjbammpdhaa
