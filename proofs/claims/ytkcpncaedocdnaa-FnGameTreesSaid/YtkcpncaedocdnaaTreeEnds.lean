/-
  Trees: there are no more ends under the first index than ends.
-/
import Derived.Test.YtkcpncaedocdnaaTreeM
namespace Go.Proofs.Ytkcpncaedocdnaa

def endsL (P : List Int) : Nat → Nat → List Nat
  | 0, i => [i]
  | f + 1, i => match kids P i with
    | [] => [i]
    | k :: r => (k :: r).flatMap (endsL P f)

theorem endsT_len (P : List Int) : ∀ (f i : Nat), endsT P f i = (endsL P f i).length
  | 0, _ => rfl
  | f + 1, i => by
    simp only [endsT, endsL]
    cases kids P i with
    | nil => rfl
    | cons k r =>
      simp only
      rw [List.length_flatMap]
      congr 1
      apply List.map_congr_left
      intro k _
      exact endsT_len P f k

inductive Under (P : List Int) (i : Nat) : Nat → Prop
  | refl : Under P i i
  | step {j k : Nat} : P.getD k 0 = (j : Int) → Under P i j → Under P i k

theorem Under.head {P : List Int} {i k x : Nat} (h : Under P k x) (hk : P.getD k 0 = (i : Int)) : Under P i x := by
  induction h with
  | refl => exact .step hk .refl
  | step h1 _ ih => exact .step h1 ih

theorem parent_lt {P : List Int} (h : GoodP P) {j k : Nat} (hk : k < P.length) (e : P.getD k 0 = (j : Int)) : j < k := by
  by_cases h0 : k = 0
  · subst h0; rw [h.1] at e; omega
  · have := h.2 k (by omega) hk; omega

theorem Under.le {P : List Int} (h : GoodP P) {i x : Nat} (hu : Under P i x) (hx : x < P.length) : i ≤ x := by
  induction hu with
  | refl => exact Nat.le_refl _
  | step e _ ih =>
    have := parent_lt h hx e
    have := ih (by omega)
    omega

theorem under_same {P : List Int} (h : GoodP P) {i a b : Nat} (ha : P.getD a 0 = (i : Int)) (hb : P.getD b 0 = (i : Int)) : ∀ (x : Nat), x < P.length → Under P a x → Under P b x → a = b := by
  intro x
  induction x using Nat.strongRecOn with
  | _ x ih =>
    intro hx h1 h2
    cases h1 with
    | refl =>
      cases h2 with
      | refl => rfl
      | step e h2 =>
        rw [ha] at e
        obtain rfl := Int.ofNat.inj e
        have hi := parent_lt h hx ha
        have := Under.le h h2 (by omega)
        have hbl : b < P.length := by omega
        have := parent_lt h hbl hb
        omega
    | step e h1 =>
      cases h2 with
      | refl =>
        rw [hb] at e
        obtain rfl := Int.ofNat.inj e
        have hi := parent_lt h hx hb
        have := Under.le h h1 (by omega)
        have hal : a < P.length := by omega
        have := parent_lt h hal ha
        omega
      | step e' h2 =>
        rw [e] at e'
        obtain rfl := Int.ofNat.inj e'
        have := parent_lt h hx e
        exact ih _ this (by omega) h1 h2

theorem endsL_under (P : List Int) : ∀ (f i x : Nat), x ∈ endsL P f i → Under P i x
  | 0, i, x, h => by simp only [endsL, List.mem_singleton] at h; subst h; exact .refl
  | f + 1, i, x, h => by
    simp only [endsL] at h
    split at h
    · simp only [List.mem_singleton] at h; subst h; exact .refl
    · next k r hk =>
      obtain ⟨j, hj, hx⟩ := List.mem_flatMap.1 h
      exact (endsL_under P f j x hx).head (kid_iff.1 (by rw [hk]; exact hj)).2

theorem endsL_leaf {P : List Int} (h : GoodP P) : ∀ (f i x : Nat), P.length ≤ i + f → i < P.length → x ∈ endsL P f i → x < P.length ∧ kids P x = []
  | 0, i, x, h1, h2, _ => by omega
  | f + 1, i, x, h1, h2, hx => by
    simp only [endsL] at hx
    split at hx
    · next hk => simp only [List.mem_singleton] at hx; subst hx; exact ⟨h2, hk⟩
    · next k r hk =>
      obtain ⟨j, hj, hx⟩ := List.mem_flatMap.1 hx
      have := kid_gt h (i := i) (k := j) (by rw [hk]; exact hj)
      exact endsL_leaf h f j x (by omega) this.2 hx

theorem kids_lt (P : List Int) (i : Nat) : (kids P i).Pairwise (· < ·) := List.Pairwise.filter _ List.pairwise_lt_range

theorem endsL_nodup {P : List Int} (h : GoodP P) : ∀ (f i : Nat), P.length ≤ i + f → i < P.length → (endsL P f i).Nodup
  | 0, i, h1, h2 => by omega
  | f + 1, i, h1, h2 => by
    simp only [endsL]
    split
    · simp
    · next k r hk =>
      have hm : ∀ j ∈ k :: r, j ∈ kids P i := fun j hj => by rw [hk]; exact hj
      refine List.pairwise_flatMap.2 ⟨fun j hj => ?_, ?_⟩
      · have := kid_gt h (hm j hj)
        exact endsL_nodup h f j (by omega) this.2
      · rw [← hk]
        refine List.Pairwise.imp_of_mem ?_ (kids_lt P i)
        intro a b ha hb hab x hx y hy e
        subst e
        have h3 := kid_gt h ha
        have := endsL_leaf h f a x (by omega) h3.2 hx
        have := under_same h (kid_iff.1 ha).2 (kid_iff.1 hb).2 x this.1 (endsL_under P f a x hx) (endsL_under P f b x hy)
        omega

theorem nodup_le (p : Nat → Bool) : ∀ (n : Nat) (l : List Nat), l.Nodup → (∀ x ∈ l, x < n ∧ p x = true) → l.length ≤ ((List.range n).filter p).length
  | 0, l, _, h => by
    cases l with
    | nil => simp
    | cons x l => have := (h x (by simp)).1; omega
  | n + 1, l, hn, h => by
    have ih := nodup_le p n (l.erase n) (hn.erase n) (fun x hx => by
      have h1 := h x (List.mem_of_mem_erase hx)
      have h2 : x ≠ n := by
        have := (List.Nodup.mem_erase_iff hn).1 hx
        exact this.1
      exact ⟨by omega, h1.2⟩)
    rw [List.range_succ, List.filter_append, List.length_append]
    by_cases hm : n ∈ l
    · have h1 := List.length_erase_of_mem hm
      have h2 : p n = true := (h n hm).2
      simp [h2]
      have := List.length_pos_of_mem hm
      omega
    · rw [List.erase_of_not_mem hm] at ih
      omega

/-- All ends. -/
def leaves (P : List Int) : List Nat := (List.range P.length).filter fun i => (kids P i).isEmpty
theorem leaves_len (P : List Int) : (leaves P).length ≤ P.length := by
  have := List.length_filter_le (fun i => (kids P i).isEmpty) (List.range P.length)
  simpa [leaves] using this
theorem ends_le {P : List Int} (h : GoodP P) (f i : Nat) (h1 : P.length ≤ i + f) (h2 : i < P.length) : endsT P f i ≤ (leaves P).length := by
  rw [endsT_len]
  exact nodup_le _ _ _ (endsL_nodup h f i h1 h2) fun x hx => by
    have := endsL_leaf h f i x h1 h2 hx
    exact ⟨this.1, by rw [this.2]; rfl⟩

end Go.Proofs.Ytkcpncaedocdnaa
