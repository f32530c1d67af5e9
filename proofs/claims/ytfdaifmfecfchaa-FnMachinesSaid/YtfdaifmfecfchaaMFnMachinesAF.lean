/-
  FnMachines: texts joined: McB, JbA, OntM.
-/
import Derived.Test.YtfdaifmfecfchaaMFnMachinesAA
import Derived.Test.YtfdaifmfecfchaaMFnMachinesAD
import Derived.Test.YtfdaifmfecfchaaMFnMachinesAE
namespace Go.Proofs.Ytfdaifmfecfchaa
open Go.RowKit

theorem set_getD {l : List Int} {i : Nat} (h : i < l.length) (j : Nat) (v : Int) : (l.set i v).getD j 0 = if i = j then v else l.getD j 0 := by
  rw [List.getD_eq_getElem?_getD, List.getElem?_set, List.getD_eq_getElem?_getD]
  by_cases e : i = j
  · rw [if_pos e, if_pos e, if_pos h]; rfl
  · rw [if_neg e, if_neg e]
theorem maxK_ge (l : List Int) : ∀ k i, i ≤ k → l.getD i 0 ≤ maxK l k
  | 0, i, h => by have : i = 0 := by omega
                  rw [this]; exact Int.le_refl _
  | k + 1, i, h => by
    show _ ≤ max (maxK l k) (l.getD (k + 1) 0)
    by_cases e : i = k + 1
    · rw [e]; omega
    · have := maxK_ge l k i (by omega); omega
theorem maxK_le {l : List Int} {M : Int} : ∀ k, (∀ i, i ≤ k → l.getD i 0 ≤ M) → maxK l k ≤ M
  | 0, h => h 0 (Nat.le_refl _)
  | k + 1, h => by
    show max (maxK l k) (l.getD (k + 1) 0) ≤ M
    have := maxK_le k (fun i hi => h i (by omega))
    have := h (k + 1) (Nat.le_refl _)
    omega
theorem maxL_ge {l : List Int} {i : Nat} (h : i < l.length) : l.getD i 0 ≤ maxL l := maxK_ge l _ i (by omega)
theorem maxL_le {l : List Int} {M : Int} (h1 : 1 ≤ l.length) (h : ∀ i, i < l.length → l.getD i 0 ≤ M) : maxL l ≤ M := maxK_le _ (fun i hi => h i (by omega))

/-- What the last f jobs give to a machine. -/
def tS (js : List JobD) (B : Nat → Nat) (i : Nat) : Nat → Int
  | 0 => 0
  | f + 1 => (if B (js.length - (f + 1)) = i then (js.getD (js.length - (f + 1)) J0).long else 0) + tS js B i f
theorem tS_sum (js : List JobD) (B : Nat → Nat) (i : Nat) : ∀ f, f ≤ js.length → sR (fun k => if B k = i then (js.getD k J0).long else 0) (js.length - f) + tS js B i f = sR (fun k => if B k = i then (js.getD k J0).long else 0) js.length
  | 0, _ => by simp [tS]
  | f + 1, hf => by
    rw [← tS_sum js B i f (by omega)]
    obtain ⟨a, ha⟩ : ∃ a, js.length - (f + 1) = a := ⟨_, rfl⟩
    have e : js.length - f = a + 1 := by omega
    simp only [tS]
    rw [e, ha]
    simp only [sR]
    omega
theorem tS_congr {js : List JobD} {B C : Nat → Nat} {i i' : Nat} : ∀ f, (∀ g, g < f → (B (js.length - (g + 1)) = i ↔ C (js.length - (g + 1)) = i')) → tS js B i f = tS js C i' f
  | 0, _ => rfl
  | f + 1, h => by
    have h1 := h f (by omega)
    simp only [tS]
    rw [tS_congr f (fun g hg => h g (by omega))]
    by_cases e : B (js.length - (f + 1)) = i
    · rw [if_pos e, if_pos (h1.1 e)]
    · rw [if_neg e, if_neg (fun e2 => e (h1.2 e2))]

/-! ### one job tried on each machine -/
theorem spanK_met (rec : List Int → Int) (l : Int) (used : List Int) : ∀ k, (spanK rec l used k).2 = true ↔ ∃ j, j < k ∧ used.getD j 0 = 0
  | 0 => by simp [spanK]
  | k + 1 => by
    have ih := spanK_met rec l used k
    show ((if (spanK rec l used k).2 = true then _ else _) : Int × Bool).2 = true ↔ _
    by_cases h : (spanK rec l used k).2 = true
    · rw [if_pos h]
      obtain ⟨j, hj, hj2⟩ := ih.1 h
      exact ⟨fun _ => ⟨j, by omega, hj2⟩, fun _ => h⟩
    · rw [if_neg h]
      show (used.getD k 0 == 0) = true ↔ _
      rw [beq_iff_eq]
      refine ⟨fun e => ⟨k, by omega, e⟩, fun ⟨j, hj, hj2⟩ => ?_⟩
      by_cases e : j = k
      · rw [← e]; exact hj2
      · exact absurd (ih.2 ⟨j, by omega, hj2⟩) h
theorem spanK_low {rec : List Int → Int} {l : Int} {used : List Int} : ∀ k, (∀ i, i < k → 0 ≤ rec (used.set i (used.getD i 0 + l))) →
    (1 ≤ k → ∃ i, i < k ∧ (∀ j, j < i → used.getD j 0 ≠ 0) ∧ (spanK rec l used k).1 = rec (used.set i (used.getD i 0 + l))) ∧ ∀ i, i < k → (∀ j, j < i → used.getD j 0 ≠ 0) → (spanK rec l used k).1 ≤ rec (used.set i (used.getD i 0 + l))
  | 0, _ => ⟨fun h => by omega, fun i hi => by omega⟩
  | k + 1, h => by
    obtain ⟨ih1, ih2⟩ := spanK_low k (fun i hi => h i (by omega))
    have hk := h k (by omega)
    have e : spanK rec l used (k + 1) = if (spanK rec l used k).2 = true then spanK rec l used k else
      (if (spanK rec l used k).1 < 0 ∨ rec (used.set k (used.getD k 0 + l)) < (spanK rec l used k).1 then rec (used.set k (used.getD k 0 + l)) else (spanK rec l used k).1, used.getD k 0 == 0) := rfl
    by_cases hm : (spanK rec l used k).2 = true
    · rw [e, if_pos hm]
      obtain ⟨j, hj, hj2⟩ := (spanK_met rec l used k).1 hm
      refine ⟨fun _ => ?_, fun i hi hz => ?_⟩
      · obtain ⟨i, hi, hz, he⟩ := ih1 (by omega)
        exact ⟨i, by omega, hz, he⟩
      · by_cases e2 : i = k
        · exact absurd hj2 (hz j (by omega))
        · exact ih2 i (by omega) hz
    · rw [e, if_neg hm]
      have hno : ∀ j, j < k → used.getD j 0 ≠ 0 := fun j hj e2 => hm ((spanK_met rec l used k).2 ⟨j, hj, e2⟩)
      simp only
      by_cases hc : (spanK rec l used k).1 < 0 ∨ rec (used.set k (used.getD k 0 + l)) < (spanK rec l used k).1
      · rw [if_pos hc]
        refine ⟨fun _ => ⟨k, by omega, hno, rfl⟩, fun i hi hz => ?_⟩
        by_cases e2 : i = k
        · rw [e2]; exact Int.le_refl _
        · have h1 := ih2 i (by omega) hz
          rcases hc with hc | hc
          · obtain ⟨i', hi', _, he'⟩ := ih1 (by omega)
            have := h i' (by omega)
            omega
          · omega
      · rw [if_neg hc]
        have hk1 : 1 ≤ k := by
          refine Classical.byContradiction fun hk0 => hc (.inl ?_)
          have : k = 0 := by omega
          rw [this]
          show (-1 : Int) < 0
          decide
        refine ⟨fun _ => ?_, fun i hi hz => ?_⟩
        · obtain ⟨i, hi, hz, he⟩ := ih1 hk1
          exact ⟨i, by omega, hz, he⟩
        · by_cases e2 : i = k
          · rw [e2]; omega
          · exact ih2 i (by omega) hz

/-- The machines without a job are the last ones. -/
def Zf (used : List Int) : Prop := ∀ i j, i < j → j < used.length → used.getD i 0 = 0 → used.getD j 0 = 0
theorem spanR_low {js : List JobD} (hl : ∀ k, 0 ≤ (js.getD k J0).long) : ∀ (f : Nat) (used : List Int), 1 ≤ used.length → (∀ i, i < used.length → 0 ≤ used.getD i 0) → 0 ≤ spanR js f used
  | 0, used, h1, h => by
    have := maxL_ge (l := used) (i := 0) (by omega)
    have := h 0 (by omega)
    show 0 ≤ maxL used
    omega
  | f + 1, used, h1, h => by
    show 0 ≤ (spanK (spanR js f) (js.getD (js.length - (f + 1)) J0).long used used.length).1
    have hr : ∀ i, i < used.length → 0 ≤ spanR js f (used.set i (used.getD i 0 + (js.getD (js.length - (f + 1)) J0).long)) := fun i hi => spanR_low hl f _ (by rw [List.length_set]; exact h1) fun j hj => by
      rw [List.length_set] at hj
      rw [set_getD hi]
      have := h j hj
      have := h i hi
      have := hl (js.length - (f + 1))
      split <;> omega
    obtain ⟨i, hi, _, he⟩ := (spanK_low used.length hr).1 h1
    rw [he]
    exact hr i hi
theorem spanR_is {js : List JobD} (hl : ∀ k, k < js.length → 1 ≤ (js.getD k J0).long) (hl0 : ∀ k, 0 ≤ (js.getD k J0).long) : ∀ (f : Nat) (used : List Int), f ≤ js.length → 1 ≤ used.length → (∀ i, i < used.length → 0 ≤ used.getD i 0) →
    ∃ B : Nat → Nat, (∀ k, B k < used.length) ∧ ∀ i, i < used.length → used.getD i 0 + tS js B i f ≤ spanR js f used
  | 0, used, _, h1, h => ⟨fun _ => 0, fun _ => h1, fun i hi => by
      have := maxL_ge hi
      show used.getD i 0 + 0 ≤ maxL used
      omega⟩
  | f + 1, used, hf, h1, h => by
    obtain ⟨l, hle⟩ : ∃ l, l = (js.getD (js.length - (f + 1)) J0).long := ⟨_, rfl⟩
    have hl1 := hl0 (js.length - (f + 1))
    rw [← hle] at hl1
    have hn : ∀ i, i < used.length → ∀ j, j < (used.set i (used.getD i 0 + l)).length → 0 ≤ (used.set i (used.getD i 0 + l)).getD j 0 := fun i hi j hj => by
      rw [List.length_set] at hj
      rw [set_getD hi]
      have := h j hj
      have := h i hi
      split <;> omega
    have hr : ∀ i, i < used.length → 0 ≤ spanR js f (used.set i (used.getD i 0 + l)) := fun i hi => spanR_low hl0 f _ (by rw [List.length_set]; exact h1) (hn i hi)
    obtain ⟨i, hi, _, he⟩ := (spanK_low used.length hr).1 h1
    obtain ⟨B, hB1, hB2⟩ := spanR_is hl hl0 f (used.set i (used.getD i 0 + l)) (by omega) (by rw [List.length_set]; exact h1) (hn i hi)
    rw [List.length_set] at hB1 hB2
    refine ⟨fun k => if k = js.length - (f + 1) then i else B k, fun k => (by show (if k = js.length - (f + 1) then i else B k) < used.length; split; exact hi; exact hB1 k), fun j hj => ?_⟩
    show _ ≤ (spanK (spanR js f) (js.getD (js.length - (f + 1)) J0).long used used.length).1
    rw [← hle, he]
    have h2 := hB2 j hj
    rw [set_getD hi] at h2
    have e1 : tS js (fun k => if k = js.length - (f + 1) then i else B k) j f = tS js B j f := tS_congr f fun g hg => by
      rw [if_neg (by omega)]
    simp only [tS, if_true]
    rw [e1, ← hle]
    by_cases e2 : i = j
    · rw [if_pos e2] at h2 ⊢
      rw [e2] at h2 ⊢
      omega
    · rw [if_neg e2] at h2 ⊢
      omega
/-- No plan ends ahead of it. -/
theorem spanR_le {js : List JobD} (hl : ∀ k, k < js.length → 1 ≤ (js.getD k J0).long) (hl0 : ∀ k, 0 ≤ (js.getD k J0).long) : ∀ (f : Nat) (used : List Int), f ≤ js.length → 1 ≤ used.length → (∀ i, i < used.length → 0 ≤ used.getD i 0) → Zf used →
    ∀ (B : Nat → Nat) (M : Int), (∀ k, k < js.length → B k < used.length) → (∀ i, i < used.length → used.getD i 0 + tS js B i f ≤ M) → spanR js f used ≤ M
  | 0, used, _, h1, _, _, B, M, _, hM => by
    show maxL used ≤ M
    refine maxL_le h1 fun i hi => ?_
    have := hM i hi
    simp only [tS] at this
    omega
  | f + 1, used, hf, h1, h, hz, B, M, hB, hM => by
    obtain ⟨x, hx⟩ : ∃ x, x = js.length - (f + 1) := ⟨_, rfl⟩
    have hxl : x < js.length := by omega
    obtain ⟨l, hle⟩ : ∃ l, l = (js.getD x J0).long := ⟨_, rfl⟩
    have hl1 := hl x hxl
    rw [← hle] at hl1
    have hn : ∀ i, i < used.length → ∀ j, j < (used.set i (used.getD i 0 + l)).length → 0 ≤ (used.set i (used.getD i 0 + l)).getD j 0 := fun i hi j hj => by
      rw [List.length_set] at hj
      rw [set_getD hi]
      have := h j hj
      have := h i hi
      split <;> omega
    have hr : ∀ i, i < used.length → 0 ≤ spanR js f (used.set i (used.getD i 0 + l)) := fun i hi => spanR_low hl0 f _ (by rw [List.length_set]; exact h1) (hn i hi)
    have hZ : ∀ i, i < used.length → (∀ j, j < i → used.getD j 0 ≠ 0) → Zf (used.set i (used.getD i 0 + l)) := fun i hi hnz a b hab hb => by
      rw [List.length_set] at hb
      rw [set_getD hi, set_getD hi]
      have := h i hi
      intro ha
      by_cases e1 : i = a
      · rw [if_pos e1] at ha; omega
      · rw [if_neg e1] at ha
        have hai : i < a := by
          refine Classical.byContradiction fun hc => hnz a (by omega) ha
        rw [if_neg (by omega)]
        exact hz a b hab hb ha
    show (spanK (spanR js f) (js.getD (js.length - (f + 1)) J0).long used used.length).1 ≤ M
    rw [← hx, ← hle]
    have hlow := (spanK_low used.length hr).2
    have hjx := hB x hxl
    obtain ⟨j, hj⟩ : ∃ j, j = B x := ⟨_, rfl⟩
    rw [← hj] at hjx
    have hM2 : ∀ i, i < used.length → used.getD i 0 + ((if j = i then l else 0) + tS js B i f) ≤ M := fun i hi => by
      have := hM i hi
      simp only [tS] at this
      rw [← hx, ← hle, ← hj] at this
      exact this
    by_cases hfree : ∀ i, i < j → used.getD i 0 ≠ 0
    · refine Int.le_trans (hlow j hjx hfree) ?_
      refine spanR_le hl hl0 f _ (by omega) (by rw [List.length_set]; exact h1) (hn j hjx) (hZ j hjx hfree) B M (by rw [List.length_set]; exact hB) fun i hi => ?_
      rw [List.length_set] at hi
      rw [set_getD hjx]
      have := hM2 i hi
      by_cases e : j = i
      · rw [if_pos e] at this ⊢; rw [e]; omega
      · rw [if_neg e] at this ⊢; omega
    · -- the first machine without a job
      have hex : ∃ z, z < j ∧ used.getD z 0 = 0 ∧ ∀ i, i < z → used.getD i 0 ≠ 0 := by
        have : ∀ b, (∃ i, i < b ∧ used.getD i 0 = 0) → ∃ z, z < b ∧ used.getD z 0 = 0 ∧ ∀ i, i < z → used.getD i 0 ≠ 0 := fun b => by
          induction b with
          | zero => rintro ⟨i, hi, _⟩; omega
          | succ b ih =>
            rintro ⟨i, hi, hi2⟩
            by_cases hc : ∃ i, i < b ∧ used.getD i 0 = 0
            · obtain ⟨z, hz1, hz2⟩ := ih hc
              exact ⟨z, by omega, hz2⟩
            · refine ⟨i, hi, hi2, fun k hk e => hc ⟨k, by omega, e⟩⟩
        refine this j (Classical.byContradiction fun hc => hfree fun i hi e => hc ⟨i, hi, e⟩)
      obtain ⟨z, hzj, hz0, hzf⟩ := hex
      have hzl : z < used.length := by omega
      have hj0 := hz z j hzj hjx hz0
      refine Int.le_trans (hlow z hzl hzf) ?_
      refine spanR_le hl hl0 f _ (by omega) (by rw [List.length_set]; exact h1) (hn z hzl) (hZ z hzl hzf) (fun k => if B k = j then z else if B k = z then j else B k) M (fun k hk => ?_) fun i hi => ?_
      · rw [List.length_set]
        have := hB k hk
        split
        · exact hzl
        · split
          · exact hjx
          · exact this
      · rw [List.length_set] at hi
        rw [set_getD hzl]
        by_cases e1 : z = i
        · rw [if_pos e1]
          have e2 : tS js (fun k => if B k = j then z else if B k = z then j else B k) i f = tS js B j f := tS_congr f fun g _ => by
            try simp only []
            split
            · rename_i e; exact ⟨fun _ => e, fun _ => e1⟩
            · rename_i e
              split
              · exact ⟨fun e3 => by omega, fun e3 => absurd e3 e⟩
              · exact ⟨fun e3 => by omega, fun e3 => absurd e3 e⟩
          have := hM2 j hjx
          rw [if_pos rfl, hj0] at this
          rw [e2, hz0]
          omega
        · rw [if_neg e1]
          by_cases e3 : j = i
          · have e2 : tS js (fun k => if B k = j then z else if B k = z then j else B k) i f = tS js B z f := tS_congr f fun g _ => by
              try simp only []
              split
              · rename_i e; exact ⟨fun e4 => by omega, fun e4 => by omega⟩
              · split
                · rename_i e; exact ⟨fun _ => e, fun _ => e3⟩
                · rename_i e; exact ⟨fun e4 => by omega, fun e4 => absurd e4 e⟩
            have := hM2 z hzl
            rw [if_neg (by omega), hz0] at this
            rw [e2, ← e3, hj0]
            omega
          · have e2 : tS js (fun k => if B k = j then z else if B k = z then j else B k) i f = tS js B i f := tS_congr f fun g _ => by
              try simp only []
              split
              · exact ⟨fun e4 => by omega, fun e4 => by omega⟩
              · split
                · exact ⟨fun e4 => by omega, fun e4 => by omega⟩
                · exact Iff.rfl
            have := hM2 i hi
            rw [if_neg e3] at this
            rw [e2]
            omega

end Go.Proofs.Ytfdaifmfecfchaa

namespace Go.Proofs.Ytfdaifmfecfchaa
open Go.RowKit Go.Sort

/-! ### sums -/
def sumF (f : Nat → Int) : List Nat → Int
  | [] => 0
  | x :: r => f x + sumF f r
theorem sumF_app (f : Nat → Int) : ∀ (a b : List Nat), sumF f (a ++ b) = sumF f a + sumF f b
  | [], b => by simp [sumF]
  | x :: a, b => by simp only [List.cons_append, sumF, sumF_app f a b]; omega
theorem sumF_perm (f : Nat → Int) {a b : List Nat} (h : a.Perm b) : sumF f a = sumF f b := by
  induction h with
  | nil => rfl
  | cons x _ ih => simp only [sumF, ih]
  | swap x y l => simp only [sumF]; omega
  | trans _ _ i1 i2 => exact i1.trans i2
theorem sumF_nonneg {f : Nat → Int} : ∀ {a : List Nat}, (∀ x ∈ a, 0 ≤ f x) → 0 ≤ sumF f a
  | [], _ => by simp [sumF]
  | x :: a, h => by
    have := sumF_nonneg (f := f) (a := a) (fun y hy => h y (List.mem_cons_of_mem _ hy))
    have := h x (List.mem_cons_self ..)
    simp only [sumF]
    omega
theorem sumF_le {f g : Nat → Int} : ∀ {a : List Nat}, (∀ x ∈ a, f x ≤ g x) → sumF f a ≤ sumF g a
  | [], _ => by simp [sumF]
  | x :: a, h => by
    have := sumF_le (f := f) (g := g) (a := a) (fun y hy => h y (List.mem_cons_of_mem _ hy))
    have := h x (List.mem_cons_self ..)
    simp only [sumF]
    omega
theorem sumF_congr {f g : Nat → Int} : ∀ {a : List Nat}, (∀ x ∈ a, f x = g x) → sumF f a = sumF g a
  | [], _ => rfl
  | x :: a, h => by
    simp only [sumF, h x (List.mem_cons_self ..), sumF_congr (f := f) (g := g) (a := a) (fun y hy => h y (List.mem_cons_of_mem _ hy))]
theorem sumF_mul (c : Int) (f : Nat → Int) : ∀ a : List Nat, sumF (fun x => c * f x) a = c * sumF f a
  | [] => by simp [sumF]
  | x :: a => by simp only [sumF, sumF_mul c f a, Int.mul_add]
theorem sumF_range_succ (f : Nat → Int) (n : Nat) : sumF f (List.range (n + 1)) = sumF f (List.range n) + f n := by
  rw [List.range_succ, sumF_app]
  simp [sumF]
theorem sumF_erase (f : Nat → Int) {a : List Nat} {x : Nat} (h : x ∈ a) : sumF f a = f x + sumF f (a.erase x) := sumF_perm f (List.perm_cons_erase h)
theorem nodup_sub_len : ∀ {a b : List Nat}, a.Nodup → (∀ x ∈ a, x ∈ b) → a.length ≤ b.length
  | [], _, _, _ => Nat.zero_le _
  | x :: a, b, hn, h => by
    have hx := h x (List.mem_cons_self ..)
    have hn' := List.nodup_cons.1 hn
    have := nodup_sub_len (a := a) (b := b.erase x) hn'.2 (fun y hy => (List.mem_erase_of_ne (fun e : y = x => hn'.1 (e ▸ hy))).2 (h y (List.mem_cons_of_mem _ hy)))
    rw [List.length_erase_of_mem hx] at this
    have : 0 < b.length := List.length_pos_of_mem hx
    simp only [List.length_cons]
    omega
theorem nodup_sub_perm {a b : List Nat} (ha : a.Nodup) (hs : ∀ x ∈ a, x ∈ b) (hl : b.length ≤ a.length) : a.Perm b := by
  induction a generalizing b with
  | nil => rw [List.length_nil, Nat.le_zero, List.length_eq_zero_iff] at hl; rw [hl]
  | cons x a ih =>
    have hx := hs x (List.mem_cons_self ..)
    have hn' := List.nodup_cons.1 ha
    have h0 : 0 < b.length := List.length_pos_of_mem hx
    refine (List.Perm.cons x (ih (b := b.erase x) hn'.2 (fun y hy => (List.mem_erase_of_ne (fun e : y = x => hn'.1 (e ▸ hy))).2 (hs y (List.mem_cons_of_mem _ hy))) ?_)).trans (List.perm_cons_erase hx).symm
    rw [List.length_erase_of_mem hx]
    simp only [List.length_cons] at hl
    omega

/-! ### pairs in order -/
def pairG (g : Nat → Nat → Int) : List Nat → Int
  | [] => 0
  | x :: r => sumF (g x) r + pairG g r
theorem pairG_perm {h : Nat → Nat → Int} (hs : ∀ x y, h x y = h y x) {a b : List Nat} (hp : a.Perm b) : pairG h a = pairG h b := by
  induction hp with
  | nil => rfl
  | cons x hp ih => simp only [pairG, ih, sumF_perm (h x) hp]
  | swap x y l => simp only [pairG, sumF, hs x y]; omega
  | trans _ _ i1 i2 => exact i1.trans i2
theorem pairG_le {g h : Nat → Nat → Int} (hl : ∀ x y, h x y ≤ g x y) : ∀ a : List Nat, pairG h a ≤ pairG g a
  | [] => by simp [pairG]
  | x :: a => by
    have := pairG_le hl a
    have := sumF_le (f := h x) (g := g x) (a := a) (fun y _ => hl x y)
    simp only [pairG]
    omega
theorem pairG_eq {g h : Nat → Nat → Int} : ∀ {a : List Nat}, a.Pairwise (fun x y => g x y = h x y) → pairG g a = pairG h a
  | [], _ => rfl
  | x :: a, hp => by
    obtain ⟨h1, h2⟩ := List.pairwise_cons.1 hp
    simp only [pairG, pairG_eq h2, sumF_congr h1]
/-- The sum over pairs is least in an order in which each pair stands as is cheaper. -/
theorem pair_best {g : Nat → Nat → Int} {a b : List Nat} (hp : a.Perm b) (ha : a.Pairwise (fun x y => g x y ≤ g y x)) : pairG g a ≤ pairG g b := by
  have h1 : pairG g a = pairG (fun x y => min (g x y) (g y x)) a := pairG_eq (ha.imp fun {x y} h => by omega)
  have h2 := pairG_perm (h := fun x y => min (g x y) (g y x)) (fun x y => by omega) hp
  have h3 := pairG_le (g := g) (h := fun x y => min (g x y) (g y x)) (fun x y => by omega) b
  omega

/-! ### what ends cost -/
def gcost (l : Nat → Int) (p : Nat → Int → Int) (t : Int) : List Nat → Int
  | [] => 0
  | x :: r => p x (t + l x) + gcost l p (t + l x) r
theorem gcost_app (l : Nat → Int) (p : Nat → Int → Int) : ∀ (t : Int) (a b : List Nat), gcost l p t (a ++ b) = gcost l p t a + gcost l p (t + sumF l a) b
  | t, [], b => by simp [gcost, sumF]
  | t, x :: a, b => by
    simp only [List.cons_append, gcost, sumF, gcost_app l p (t + l x) a b]
    rw [Int.add_assoc t]
    omega
theorem gcost_w (l w : Nat → Int) : ∀ (t : Int) (L : List Nat), gcost l (fun x c => w x * c) t L = t * sumF w L + sumF (fun x => w x * l x) L + pairG (fun x y => l x * w y) L
  | t, [] => by simp [gcost, sumF, pairG]
  | t, x :: L => by
    simp only [gcost, sumF, pairG, gcost_w l w (t + l x) L, sumF_mul (l x) w L, Int.mul_add, Int.add_mul]
    rw [Int.mul_comm (w x) t]
    omega
theorem gcost_congr {l : Nat → Int} {p q : Nat → Int → Int} : ∀ (t : Int) (L : List Nat), (∀ x ∈ L, ∀ c, p x c = q x c) → gcost l p t L = gcost l q t L
  | t, [], _ => rfl
  | t, x :: L, h => by
    simp only [gcost]
    rw [h x (List.mem_cons_self ..), gcost_congr (t + l x) L (fun y hy => h y (List.mem_cons_of_mem _ hy))]
/-- When a job of an order ends. -/
def cEnd (l : Nat → Int) : List Nat → Nat → Int
  | [], _ => 0
  | y :: r, x => if y = x then l y else l y + cEnd l r x
theorem cEnd_mid (l : Nat → Int) (x : Nat) (b : List Nat) : ∀ a : List Nat, x ∉ a → cEnd l (a ++ x :: b) x = sumF l a + l x
  | [], _ => by simp [cEnd, sumF]
  | y :: a, h => by
    have h1 : y ≠ x := fun e => h (e ▸ List.mem_cons_self ..)
    have h2 : x ∉ a := fun e => h (List.mem_cons_of_mem _ e)
    simp only [List.cons_append, cEnd, if_neg h1, cEnd_mid l x b a h2, sumF]
    omega
theorem gcost_cEnd (l : Nat → Int) (p : Nat → Int → Int) : ∀ (t : Int) (L : List Nat), L.Nodup → gcost l p t L = sumF (fun x => p x (t + cEnd l L x)) L
  | t, [], _ => rfl
  | t, y :: L, h => by
    obtain ⟨h1, h2⟩ := List.nodup_cons.1 h
    simp only [gcost, sumF, cEnd, if_pos]
    rw [gcost_cEnd l p (t + l y) L h2]
    congr 1
    refine sumF_congr fun x hx => ?_
    have e : (if y = x then l y else l y + cEnd l L x) = l y + cEnd l L x := if_neg (fun e : y = x => h1 (e ▸ hx))
    rw [e, ← Int.add_assoc]
/-- Of some jobs of an order one ends not before the time that they take together. -/
theorem core_end {l : Nat → Int} : ∀ (L : List Nat), (∀ x ∈ L, 0 ≤ l x) → L.Nodup → ∀ A : List Nat, A.Nodup → A ≠ [] → (∀ x ∈ A, x ∈ L) → ∃ x ∈ A, sumF l A ≤ cEnd l L x
  | [], _, _, A, _, h0, hs => by
    cases A with
    | nil => exact absurd rfl h0
    | cons x A => exact absurd (hs x (List.mem_cons_self ..)) (by simp)
  | y :: L, hl, hL, A, hA, h0, hs => by
    obtain ⟨n1, n2⟩ := List.nodup_cons.1 hL
    have hy := hl y (List.mem_cons_self ..)
    have hl' : ∀ x ∈ L, 0 ≤ l x := fun x hx => hl x (List.mem_cons_of_mem _ hx)
    by_cases hyA : y ∈ A
    · have e := sumF_erase l hyA
      by_cases h1 : A.erase y = []
      · refine ⟨y, hyA, ?_⟩
        rw [e, h1]
        simp [sumF, cEnd]
      · obtain ⟨x, hx, hle⟩ := core_end L hl' n2 (A.erase y) (hA.erase y) h1 (fun x hx => by
          have hx' := (hA.mem_erase_iff).1 hx
          rcases List.mem_cons.1 (hs x hx'.2) with h | h
          · exact absurd h hx'.1
          · exact h)
        have hx' := (hA.mem_erase_iff).1 hx
        refine ⟨x, hx'.2, ?_⟩
        simp only [cEnd, if_neg (fun h : y = x => hx'.1 h.symm)]
        omega
    · obtain ⟨x, hx, hle⟩ := core_end L hl' n2 A hA h0 (fun x hx => by
        rcases List.mem_cons.1 (hs x hx) with h | h
        · exact absurd (h ▸ hx) hyA
        · exact h)
      refine ⟨x, hx, ?_⟩
      simp only [cEnd, if_neg (fun h : y = x => hyA (h ▸ hx))]
      omega

/-! ### by due times -/
/-- In the order of due times no job is later than some job in any other order. -/
theorem due_best {l d : Nat → Int} {D L : List Nat} (hp : D.Perm L) (hL : L.Nodup) (hl : ∀ x ∈ L, 0 ≤ l x) (hD : D.Pairwise fun x y => d x ≤ d y) (i : Nat) (hi : i ∈ D) : ∃ x ∈ L, cEnd l D i - d i ≤ cEnd l L x - d x := by
  obtain ⟨a, b, rfl⟩ := List.append_of_mem hi
  have hN : (a ++ i :: b).Nodup := hp.nodup_iff.2 hL
  have hia : i ∉ a := fun h => (List.nodup_append.1 hN).2.2 i h i (List.mem_cons_self ..) rfl
  have hna : (a ++ [i]).Nodup := by
    refine hN.sublist (List.Sublist.append_left ?_ a)
    exact List.Sublist.cons_cons i (List.nil_sublist b)
  obtain ⟨x, hx, hle⟩ := core_end L hl hL (a ++ [i]) hna (by simp) (fun x hx => hp.mem_iff.1 (by
    rcases List.mem_append.1 hx with h | h
    · exact List.mem_append_left _ h
    · rw [List.mem_singleton.1 h]; exact hi))
  have hdx : d x ≤ d i := by
    rcases List.mem_append.1 hx with h | h
    · exact (List.pairwise_append.1 hD).2.2 x h i (List.mem_cons_self ..)
    · rw [List.mem_singleton.1 h]; exact Int.le_refl _
  refine ⟨x, ?_, ?_⟩
  · refine hp.mem_iff.1 ?_
    rcases List.mem_append.1 hx with h | h
    · exact List.mem_append_left _ h
    · rw [List.mem_singleton.1 h]; exact hi
  · rw [cEnd_mid l i b a hia]
    rw [sumF_app] at hle
    simp only [sumF] at hle
    omega

/-! ### a sorted order -/
theorem ordC_sorted {cf : Nat → Nat → Int} (hs : SWO (ltOf cf)) (n : Nat) : (ordC cf n).Pairwise fun x y => ¬ cf y x < 0 := by
  have h : SortedIn (ltOf cf) 0 n (ordCA cf n) := (insertionSort_holds hs (Array.range n) 0 n (Nat.zero_le _) (by simp)).2
  have hsz := ordCA_size hs n
  unfold ordC
  rw [List.pairwise_iff_getElem]
  intro i j hi hj hij
  have h1 := h i j (Nat.zero_le _) hij (by rw [Array.length_toList] at hj; omega)
  rw [Array.length_toList] at hi hj
  rw [getElem!_pos (ordCA cf n) j hj, getElem!_pos (ordCA cf n) i hi] at h1
  rw [Array.getElem_toList, Array.getElem_toList]
  unfold ltOf at h1
  simpa using h1

end Go.Proofs.Ytfdaifmfecfchaa

namespace Go.Proofs.Ytfdaifmfecfchaa
open Go.RowKit Go.Sort

def longK (js : List JobD) (x : Nat) : Int := (js.getD x J0).long
/-- The first of the greatest. -/
def mostN (f : Nat → Int) : Nat → Nat
  | 0 => 0
  | k + 1 => if f (mostN f k) < f k then k else mostN f k
theorem mostN_lt (f : Nat → Int) : ∀ k, 0 < k → mostN f k < k
  | 0, h => absurd h (by omega)
  | k + 1, _ => by
    simp only [mostN]
    split
    · omega
    · cases k with
      | zero => simp [mostN]
      | succ k => have := mostN_lt f (k + 1) (by omega); omega
theorem mostN_le (f : Nat → Int) (k : Nat) : mostN f k ≤ k := by
  cases k with
  | zero => exact Nat.le_refl _
  | succ k => have := mostN_lt f (k + 1) (by omega); omega
theorem mostN_one (f : Nat → Int) : mostN f 1 = 0 := by simp [mostN]
def keptLong (js : List JobD) (K : List Nat) (k : Nat) : Int := longK js (K.getD k 0)
def longest (js : List JobD) (K : List Nat) : Nat := mostN (keptLong js K) K.length

/-- One job more. -/
def otStep (js : List JobD) (K A : List Nat) (t : Int) (i : Nat) : List Nat × List Nat × Int :=
  if t + longK js i ≤ (js.getD i J0).due then (K ++ [i], A, t + longK js i)
  else ((K ++ [i]).eraseIdx (longest js (K ++ [i])), A ++ [(K ++ [i]).getD (longest js (K ++ [i])) 0], t + longK js i - longK js ((K ++ [i]).getD (longest js (K ++ [i])) 0))
def otRun (js : List JobD) : List Nat → List Nat → List Nat → Int → List Nat × List Nat
  | [], K, A, _ => (K, A)
  | i :: r, K, A, t => otRun js r (otStep js K A t i).1 (otStep js K A t i).2.1 (otStep js K A t i).2.2
def ordJ (js : List JobD) : List Nat := ordL (dueK js) js.length
def otEnd (js : List JobD) : List Nat × List Nat := otRun js (ordJ js) [] [] 0
def otL (js : List JobD) : List Int := if areJobsB js = true then idxs ((otEnd js).1 ++ (otEnd js).2) else []
def otN (js : List JobD) : Int := if areJobsB js = true then ((otEnd js).1.length : Nat) else 0

theorem areJobs_facts {js : List JobD} (h : areJobsB js = true) : 1 ≤ js.length ∧ js.length ≤ 12 ∧ ∀ i, i < js.length → 1 ≤ longK js i ∧ longK js i ≤ 1000 ∧ 0 ≤ (js.getD i J0).due ∧ (js.getD i J0).due ≤ 100000 := by
  unfold areJobsB at h
  rw [Bool.and_eq_true, inB_iff, allB_iff] at h
  refine ⟨by omega, by omega, fun i hi => ?_⟩
  have := h.2 i hi
  unfold jobB at this
  simp only [Bool.and_eq_true, inB_iff] at this
  unfold longK
  omega

/-- Where the work stands behind k jobs. -/
structure Ont (js : List JobD) (k : Nat) (K A : List Nat) (t : Int) : Prop where
  lens : K.length + A.length = k
  small : ∀ x, x ∈ K → x < js.length
  lo : -(1000 * (k : Int)) ≤ t
  hi : t ≤ 1000 * (k : Int)
  run : otRun js ((ordJ js).drop k) K A t = otEnd js
theorem Ont.start (js : List JobD) : Ont js 0 [] [] 0 := ⟨rfl, fun _ h => absurd h (by simp), by omega, by omega, rfl⟩
theorem ordJ_len (js : List JobD) : (ordJ js).length = js.length := ordL_len _ _
theorem ordJ_lt (js : List JobD) (k : Nat) (h : k < js.length) : (ordJ js).getD k 0 < js.length := by
  refine ordL_lt (dueK js) js.length _ ?_
  rw [List.getD_eq_getElem?_getD, List.getElem?_eq_getElem (by rw [ordJ_len]; exact h)]
  exact List.getElem_mem _
theorem Ont.next {js : List JobD} {k : Nat} {K A : List Nat} {t : Int} (h : Ont js k K A t) (hk : k < js.length) (i : Nat) (hi : i = (ordJ js).getD k 0) (hj : areJobsB js = true) :
    Ont js (k + 1) (otStep js K A t i).1 (otStep js K A t i).2.1 (otStep js K A t i).2.2 := by
  have hf := (areJobs_facts hj).2.2
  have hin : i < js.length := by rw [hi]; exact ordJ_lt js k hk
  have hl := hf i hin
  have hd : (ordJ js).drop k = i :: (ordJ js).drop (k + 1) := by
    have hlt : k < (ordJ js).length := by rw [ordJ_len]; exact hk
    rw [List.drop_eq_getElem_cons hlt, hi, List.getD_eq_getElem?_getD, List.getElem?_eq_getElem hlt]
    rfl
  have hrun := h.run
  rw [hd] at hrun
  have hK1 : ∀ x, x ∈ K ++ [i] → x < js.length := fun x hx => by
    rcases List.mem_append.1 hx with h1 | h1
    · exact h.small x h1
    · rw [List.mem_singleton.1 h1]; exact hin
  have h0 := h.lens
  have h1 := h.lo
  have h2 := h.hi
  by_cases ht : t + longK js i ≤ (js.getD i J0).due
  · have e : otStep js K A t i = (K ++ [i], A, t + longK js i) := if_pos ht
    rw [otRun, e] at hrun
    rw [e]
    exact ⟨by simp; omega, hK1, by simp; omega, by simp; omega, hrun⟩
  · have e := (show otStep js K A t i = _ from if_neg ht)
    rw [otRun, e] at hrun
    rw [e]
    have hm := mostN_lt (keptLong js (K ++ [i])) (K ++ [i]).length (by simp)
    have hx : (K ++ [i]).getD (longest js (K ++ [i])) 0 < js.length := by
      refine hK1 _ ?_
      unfold longest
      rw [List.getD_eq_getElem?_getD, List.getElem?_eq_getElem hm]
      exact List.getElem_mem _
    have hlx := hf _ hx
    refine ⟨?_, fun x hx => hK1 x (List.mem_of_mem_eraseIdx hx), ?_, ?_, hrun⟩
    · unfold longest
      simp only [List.length_append, List.length_singleton] at hm ⊢
      rw [List.length_eraseIdx, if_pos (by simpa using hm)]
      simp; omega
    · simp only; omega
    · simp only; omega
theorem Ont.done {js : List JobD} {K A : List Nat} {t : Int} (h : Ont js js.length K A t) : otEnd js = (K, A) := by
  have := h.run
  rw [List.drop_of_length_le (by rw [ordJ_len]; exact Nat.le_refl _)] at this
  exact this.symm

theorem otStep_len (js : List JobD) (K A : List Nat) (t : Int) (i : Nat) : (otStep js K A t i).1.length + (otStep js K A t i).2.1.length = K.length + A.length + 1 := by
  unfold otStep
  split
  · simp; omega
  · have hm := mostN_lt (keptLong js (K ++ [i])) (K ++ [i]).length (by simp)
    simp only [List.length_eraseIdx, List.length_append, List.length_singleton] at hm ⊢
    unfold longest
    simp only [List.length_append, List.length_singleton]
    rw [if_pos hm]
    omega
theorem otRun_len (js : List JobD) : ∀ (r K A : List Nat) (t : Int), (otRun js r K A t).1.length + (otRun js r K A t).2.length = K.length + A.length + r.length
  | [], K, A, t => rfl
  | i :: r, K, A, t => by
    rw [otRun, otRun_len js r, otStep_len]
    simp; omega
theorem otL_cnt (js : List JobD) : cntI (otL js) ≤ 1048576 := by
  unfold cntI otL
  split
  · rename_i h
    have h1 := otRun_len js (ordJ js) [] [] 0
    have h2 := ordJ_len js
    have h3 := (areJobs_facts h).2.1
    rw [idxs_len, List.length_append]
    unfold otEnd
    simp only [List.length_nil] at h1
    omega
  · simp

theorem cntJ_le (js : List JobD) : cntJ js ≤ 4 * bulkJ js := by unfold cntJ bulkJ; omega

theorem idxs_app (L M : List Nat) : idxs (L ++ M) = idxs L ++ idxs M := by unfold idxs; rw [List.map_append]
theorem idxs_erase (L : List Nat) (m : Nat) : idxs (L.eraseIdx m) = (idxs L).eraseIdx m := by
  unfold idxs
  rw [List.eraseIdx_eq_take_drop_succ, List.eraseIdx_eq_take_drop_succ, List.map_append, List.map_take, List.map_drop]
theorem idxs_at (L : List Nat) (k : Nat) (h : k < L.length) : (idxs L).getD k 0 = ((L.getD k 0 : Nat) : Int) := by
  unfold idxs
  rw [List.getD_eq_getElem?_getD, List.getD_eq_getElem?_getD, List.getElem?_map, List.getElem?_eq_getElem h]
  rfl

/-- Two rows of the call, apart. -/
def Own2 (B : Nat) (w : World) (kv av : Value) (xs ys : List Int) : Prop :=
  w.ownsRow B 2 1 kv xs.length (xs.map I64) ∧ w.ownsRow B 2 1 av ys.length (ys.map I64) ∧ ∀ g, kv.ownBlock = some g → av.ownBlock ≠ some g
theorem Own2.symm {B : Nat} {w : World} {kv av : Value} {xs ys : List Int} (h : Own2 B w kv av xs ys) : Own2 B w av kv ys xs := ⟨h.2.1, h.1, fun g h1 h2 => h.2.2 g h2 h1⟩
theorem Own2.up {B C : Nat} {w w' : World} {kv av : Value} {xs ys : List Int} (h : Own2 B w kv av xs ys) (hb : Below C w w') (hC : w.heap.size ≤ C) : Own2 B w' kv av xs ys := ⟨owns_below h.1 hb hC, owns_below h.2.1 hb hC, h.2.2⟩
/-- The first has grown; the second lies as it lay. -/
theorem Own2.grow {B : Nat} {w w0 w' : World} {kv av : Value} {xs ys zs : List Int} {a' : Option Addr} {m c' : Nat} (h : Own2 B w0 kv av xs ys) (h0 : Below w0.heap.size w0 w) (ho : w'.ownsRow B 2 1 (.slice a' m c') m (zs.map I64)) (hm : m = zs.length)
    (hg : w.grownBy w' kv.ownBlock) (hb : (Value.slice a' m c').ownBlock = kv.ownBlock ∨ (Value.slice a' m c').ownBlock = some w.heap.size) : Own2 B w' (.slice a' m c') av zs ys := by
  subst hm
  have hav := owns_below h.2.1 h0 (Nat.le_refl _)
  have hs := h0.size
  refine ⟨ho, owns_kept (S := fun k => kv.ownBlock = some k) hav ⟨hg.os, hg.tape, hg.output, hg.size, fun k hk hs => hg.block k hk fun e => hs e.symm⟩ (fun g h1 h2 => h.2.2 g h2 h1), fun g h1 h2 => ?_⟩
  rcases hb with hb | hb
  · exact h.2.2 g (by rw [← hb]; exact h1) h2
  · have := (owns_lt h.2.1 h2).2
    rw [h1] at hb
    injection hb with hb
    omega
/-- One is taken out of the first. -/
theorem Own2.cut {B g c c' m m' : Nat} {w w' : World} {av : Value} {xs ys zs : List Int} (h : Own2 B w (.slice (some ⟨g, 0, none⟩) m c) av xs ys) (ho : w'.ownsRow B 2 1 (.slice (some ⟨g, 0, none⟩) m' c') m' (zs.map I64)) (hm : m' = zs.length) (hk : Kept (· = g) w w') : Own2 B w' (.slice (some ⟨g, 0, none⟩) m' c') av zs ys := by
  subst hm
  exact ⟨ho, owns_kept h.2.1 hk (fun k h1 h2 => h.2.2 g rfl (by rw [← h2]; exact h1)), fun k h1 => h.2.2 k h1⟩

end Go.Proofs.Ytfdaifmfecfchaa
