/-
  A list is put behind a list of lists.
-/
import Derived.Test.YtnhamdkpeefioaaMarkL
namespace Go.Proofs.Ytnhamdkpeefioaa
open Go.RowKit

theorem app_list {w : World} {ops : Array Oper} {rest : List Oper} {o : Oper} {a : Act} {Q : Exit → Act → World → Prop} (hgd : o.guard = none) (s x : Operand)
    (ho : o.op = .call { callee := .builtin .append, args := #[s, x], argTypes := #[22, 22] })
    (base : Nat) (v : Value) (n : Nat) (vs : List Value) (hs : a.eval s = v) (hown : w.ownsRow base 32 1 v n vs)
    (sv : Value) (ua : Option Addr) (un uc : Nat) (hx : a.eval x = sv) (hsv : Slc w sv [.slice ua un uc]) (hlen : n ≤ 1048576) (hbase : base ≤ w.heap.size)
    (h : ∀ a' cap' w', w'.ownsRow base 32 1 (.slice a' (n + 1) cap') (n + 1) (vs ++ [.slice ua un uc]) → Below base w w' → w.grownBy w' v.ownBlock → wpList Try.prog ops Q rest (a.put o.dst (.slice a' (n + 1) cap')) w') :
    wpList Try.prog ops Q (o :: rest) a w := by
  obtain ⟨i0, hi, hz0, hz1, hz2⟩ := info_parts Try.infoInts
  refine wpList_append_slc hgd s x 22 ho base 32 i0 (.slice none 0 0) 24 Try.underlying22 hi hz0 hz1 hz2 rfl v n vs hs hown sv [.slice ua un uc] hx hsv (by intro u hu; simp at hu; subst hu; rfl) (by simp [maxLen]; omega) (by simp; omega) hbase ?_
  intro v' w' h1 h2 h3
  obtain ⟨a', cap', rfl⟩ := owns_shape h1
  exact h a' cap' w' h1 (below_grown hown hbase h2) h2

/-- A new row of one list. -/
theorem slc_list (w : World) (u : Value) (b : Nat) (hb : b = w.heap.size) : Slc (w.alloc (.cells #[u] 32)) (.slice (some ⟨b, 0, none⟩) 1 1) [u] := by
  subst hb
  exact slc_of_owns (World.ownsRow_lit (base := w.heap.size) (e := 32) (size := 1) w #[u] 1 (Nat.le_refl _) (by simp [maxLen]) rfl)

/-- The lists of one's own, and one more. -/
theorem OwnEach.snoc {lo hi l2 h2 : Nat} {w w' : World} {v u : Value} {n : Nat} {vs : List Value} {zss : List (List Int)} {z : List Int} (hv : w.ownsRow lo 32 1 v n vs) (he : OwnEach lo hi w vs zss) (hu : OwnI l2 h2 w u z) (hhi : hi ≤ l2) (hl : lo ≤ l2) (h2w : h2 ≤ w.heap.size) (hiw : hi ≤ w.heap.size) (hg : w.grownBy w' v.ownBlock) :
    OwnEach lo w'.heap.size w' (vs ++ [u]) (zss ++ [z]) := by
  have hz := hg.size
  have keep : ∀ {l h : Nat} {u : Value} {z : List Int}, OwnI l h w u z → OwnI l h w' u z := by
    intro l h u z ho
    refine ⟨owns_kept (S := fun k => v.ownBlock = some k) ho.1 ⟨hg.os, hg.tape, hg.output, hg.size, fun k hk hs => hg.block k hk fun e => hs e.symm⟩ (fun g h1 h2 => owns_ne ho.1 hv (by decide) h1 h2), ho.2⟩
  have at' : ∀ (i : Nat) u1 z1, (vs ++ [u])[i]? = some u1 → (zss ++ [z])[i]? = some z1 → (i < zss.length ∧ vs[i]? = some u1 ∧ zss[i]? = some z1) ∨ (i = zss.length ∧ u1 = u ∧ z1 = z) := by
    intro i u1 z1 h1 h2
    by_cases hik : i < zss.length
    · rw [List.getElem?_append_left (by rw [he.1]; exact hik)] at h1
      rw [List.getElem?_append_left hik] at h2
      exact .inl ⟨hik, h1, h2⟩
    · have hik' : i = zss.length := by
        have := (List.getElem?_eq_some_iff.1 h2).1
        simp at this
        omega
      subst hik'
      rw [List.getElem?_append_right (by rw [he.1]; exact Nat.le_refl _), he.1] at h1
      rw [List.getElem?_append_right (Nat.le_refl _)] at h2
      simp at h1 h2
      exact .inr ⟨rfl, h1.symm, h2.symm⟩
  refine ⟨by simp [he.1], ?_, ?_⟩
  · intro i u1 z1 h1 h2'
    rcases at' i u1 z1 h1 h2' with ⟨_, q1, q2⟩ | ⟨_, rfl, rfl⟩
    · exact (keep (he.2.1 i u1 z1 q1 q2)).wide (Nat.le_refl _) (by omega)
    · exact (keep hu).wide hl (by omega)
  · intro i j u1 u2 g hij h1 h2' hg1 hg2
    have zat : ∀ (i : Nat) u1, (vs ++ [u])[i]? = some u1 → ∃ z1, (zss ++ [z])[i]? = some z1 := by
      intro i u1 h
      have := (List.getElem?_eq_some_iff.1 h).1
      simp [he.1] at this
      exact ⟨(zss ++ [z])[i]'(by simp; omega), List.getElem?_eq_getElem (by simp; omega)⟩
    obtain ⟨z1, q1⟩ := zat i u1 h1
    obtain ⟨z2, q2⟩ := zat j u2 h2'
    rcases at' i u1 z1 h1 q1 with ⟨a1, a2, a3⟩ | ⟨a1, rfl, rfl⟩ <;> rcases at' j u2 z2 h2' q2 with ⟨c1, c2, c3⟩ | ⟨c1, rfl, rfl⟩
    · exact he.2.2 i j u1 u2 g hij a2 c2 hg1 hg2
    · have := (he.2.1 i u1 z1 a2 a3).2 g hg1
      have := (owns_lt hu.1 hg2).1
      omega
    · have := (he.2.1 j u2 z2 c2 c3).2 g hg2
      have := (owns_lt hu.1 hg1).1
      omega
    · omega

end Go.Proofs.Ytnhamdkpeefioaa
