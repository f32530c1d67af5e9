/-
  What choices tell a law.
-/
import Derived.Test.YtnhamdkpeefioaaDiffM
import Derived.Test.YtnhamdkpeefioaaNarrow
import Derived.Test.YtnhamdkpeefioaaDiffers
import Derived.Test.YtnhamdkpeefioaaTight
namespace Go.Proofs.Ytnhamdkpeefioaa

theorem allC_in {D : List (List Int)} {s : List Int} (h : s ∈ allC D) {i : Nat} (hi : i < D.length) : s.getD i 0 ∈ D.getD i [] := by
  have h1 := choi_in D.length [] s (InD.nil D) h
  have h2 := allC_mem h
  exact h1 i (by omega)

theorem val_fixed {D : List (List Int)} (hD : ValD D) {i : Nat} (hi : i < D.length) {x : Int} (hx : x ∈ D.getD i []) : ValD (D.set i [x]) := by
  have hr := (hD.2.2 i hi).range hx
  refine ⟨by rw [List.length_set]; exact hD.1, by rw [List.length_set]; exact hD.2.1, fun j hj => ?_⟩
  rw [List.length_set] at hj
  by_cases he : i = j
  · subst he
    rw [set_at hi]
    refine ⟨by simp, by simp, fun k hk => ?_⟩
    simp at hk
    subst hk
    exact ⟨inB_true (by simp; omega), fun h => by omega⟩
  · rw [set_off he]; exact hD.2.2 j hj

theorem valDom_of {d : List Int} (h1 : 1 ≤ d.length) (h8 : d.length ≤ 8) (hp : d.Pairwise (· < ·)) (hr : ∀ x ∈ d, 0 ≤ x ∧ x ≤ 31) : ValDom d := by
  refine ⟨h1, h8, fun k hk => ⟨?_, fun h0 => ?_⟩⟩
  · have e : d.getD k 0 = d[k] := by simp [hk]
    rw [e]; exact inB_true (hr _ (List.getElem_mem hk))
  · have e : d.getD k 0 = d[k] := by simp [hk]
    have e2 : d.getD (k - 1) 0 = d[k - 1] := by simp [show k - 1 < d.length by omega]
    rw [e, e2]
    exact (List.pairwise_iff_getElem.1 hp) (k - 1) k (by omega) hk (by omega)

theorem val_narrow {D : List (List Int)} (hD : ValD D) (hA : allC D ≠ []) : ValD (nrAll D) := by
  refine ⟨by rw [nrAll_len']; exact hD.1, by rw [nrAll_len']; exact hD.2.1, fun i hi => ?_⟩
  rw [nrAll_len'] at hi
  rw [nrAll_at hi]
  have hd := hD.2.2 i hi
  refine valDom_of ?_ (Nat.le_trans (List.length_filter_le _ _) hd.2.1) (hd.pair.filter _) (fun x hx => hd.range (List.mem_filter.1 hx).1)
  cases hc : allC D with
  | nil => exact absurd hc hA
  | cons s r =>
    have hs : s ∈ allC D := by rw [hc]; simp
    have hm : s.getD i 0 ∈ nrRow D i := by
      unfold nrRow
      rw [List.mem_filter]
      refine ⟨allC_in hs hi, ?_⟩
      unfold colB
      rw [List.any_eq_true]
      exact ⟨s, hs, by simp⟩
    exact List.length_pos_of_mem hm

theorem cd_val {D : List (List Int)} (hD : ValD D) : cdN D = ((allC D).length : Nat) := if_pos (validD_iff.2 hD)

/-- With one number: how many choices, and whether it stays. -/
theorem fixed_facts {D : List (List Int)} (hD : ValD D) {i : Nat} (hi : i < D.length) {x : Int} (hx : x ∈ D.getD i []) : ∃ F : Nat, validD (D.set i [x]) = true ∧ cdN (D.set i [x]) = F ∧ F = ((allC D).filter (fun ch => ch.getD i 0 == x)).length ∧ F ≤ 262144 ∧ hasB (nrRow D i) x = decide (0 < F) := by
  have hv := val_fixed hD hi hx
  refine ⟨((allC D).filter (fun ch => ch.getD i 0 == x)).length, validD_iff.2 hv, by rw [cd_val hv, allC_fixed hD hi hx], rfl, Nat.le_trans (List.length_filter_le _ _) (allC_len hD), ?_⟩
  rw [Bool.eq_iff_iff]
  unfold hasB nrRow
  rw [List.contains_iff_mem, List.mem_filter, decide_eq_true_eq, List.length_pos_iff_exists_mem]
  constructor
  · rintro ⟨_, h⟩
    unfold colB at h
    rw [List.any_eq_true] at h
    obtain ⟨s, hs, he⟩ := h
    exact ⟨s, List.mem_filter.2 ⟨hs, by simp at he ⊢; exact he.symm⟩⟩
  · rintro ⟨s, hs⟩
    obtain ⟨h1, h2⟩ := List.mem_filter.1 hs
    refine ⟨hx, ?_⟩
    unfold colB
    rw [List.any_eq_true]
    exact ⟨s, h1, by simp at h2 ⊢; exact h2.symm⟩

theorem sum_facts {D : List (List Int)} (hD : ValD D) {i : Nat} (hi : i < D.length) : fixSum (allC D) i (D.getD i []) (D.getD i []).length = (allC D).length :=
  fixSum_all i _ (((hD.2.2 i hi).pair).imp (fun h => by omega)) _ (fun ch hc => allC_in hc hi)
theorem fixSum_le (l : List (List Int)) (i : Nat) (d : List Int) (k : Nat) : fixSum l i d k ≤ k * l.length := by
  unfold fixSum
  induction k with
  | zero => simp
  | succ k ih =>
    rw [List.take_add_one, List.map_append, List.sum_append, Nat.succ_mul]
    refine Nat.add_le_add ih ?_
    cases h : d[k]? with
    | none => exact Nat.zero_le _
    | some x =>
      have := List.length_filter_le (fun ch => ch.getD i 0 == x) l
      simpa using this

theorem tight_facts {D : List (List Int)} (hD : ValD D) : 1 ≤ (tsL D).length ∧ (tsL D).getD 0 0 = 0 := by
  have h1 : tsL D = tightL D (2 ^ D.length) := if_pos (validD_iff.2 hD)
  obtain ⟨m, hm⟩ : ∃ m, 2 ^ D.length = m + 1 := ⟨2 ^ D.length - 1, by have := Nat.two_pow_pos D.length; omega⟩
  have h0 : tight D 0 = true := by
    unfold tight
    have : dig 0 = [] := by unfold dig; rw [List.filter_eq_nil_iff]; intro a _; simp
    rw [this]; rfl
  rw [h1, hm]
  unfold tightL
  rw [List.range_succ_eq_map, List.filter_cons, if_pos h0]
  simp

theorem first_facts {D : List (List Int)} (hD : ValD D) (hA : allC D ≠ []) : fdOk D = true ∧ (fdL D).length = D.length ∧ ∀ i, i < D.length → hasB (D.getD i []) ((fdL D).getD i 0) = true := by
  have hv := validD_iff.2 hD
  cases hc : allC D with
  | nil => exact absurd hc hA
  | cons s r =>
    have hs : s ∈ allC D := by rw [hc]; simp
    have e : fdL D = s := by simp [fdL, hv, hc]
    rw [e]
    refine ⟨by simp [fdOk, hv, hc], allC_mem hs, fun i hi => ?_⟩
    unfold hasB
    rw [List.contains_iff_mem]
    exact allC_in hs hi
theorem none_facts {D : List (List Int)} (hA : allC D = []) : fdOk D = false ∧ nrOk D = false := by
  refine ⟨?_, nrOk_none hA⟩
  unfold fdOk
  split
  · simp [hA]
  · rfl

end Go.Proofs.Ytnhamdkpeefioaa
