/-
  Queens and squares that are found: they do not meet.
-/
import Derived.Test.YtkcpncaedocdnaaQueensM
import Derived.Test.YtkcpncaedocdnaaCountSM
namespace Go.Proofs.Ytkcpncaedocdnaa

/-- Queens that do not meet, on n columns. -/
def QOk (n : Nat) (s : List Int) : Prop := ∀ i, i < s.length → 0 ≤ s.getD i 0 ∧ s.getD i 0 < n ∧ ∀ k, k < i → s.getD i 0 ≠ s.getD k 0 ∧ s.getD i 0 ≠ s.getD k 0 - ((i : Int) - k) ∧ s.getD i 0 ≠ s.getD k 0 + ((i : Int) - k)

theorem qBad_not {now : List Int} {c : Int} : ∀ {m : Nat}, qBad now c m = false → ∀ k, k < m → c ≠ now.getD k 0 ∧ c ≠ now.getD k 0 + ((now.length : Int) - k) ∧ c ≠ now.getD k 0 - ((now.length : Int) - k)
  | 0, _, k, hk => by omega
  | m + 1, h, k, hk => by
    simp only [qBad, Bool.or_eq_false_iff, beq_eq_false_iff_ne] at h
    by_cases he : k = m
    · subst he; omega
    · exact qBad_not h.1 k (by omega)

theorem QOk.snoc {n : Nat} {now : List Int} {c : Nat} (h : QOk n now) (hc : c < n) (hb : qBad now c now.length = false) : QOk n (now ++ [(c : Int)]) := by
  intro i hi
  simp only [List.length_append, List.length_singleton] at hi
  have hg : ∀ j, j < now.length → (now ++ [(c : Int)]).getD j 0 = now.getD j 0 := by
    intro j hj
    simp [List.getElem?_append_left hj]
  by_cases he : i = now.length
  · subst he
    have e : (now ++ [(c : Int)]).getD now.length 0 = c := by simp
    rw [e]
    refine ⟨by omega, by omega, fun k hk => ?_⟩
    rw [hg k hk]
    have := qBad_not hb k hk
    omega
  · have hlt : i < now.length := by omega
    rw [hg i hlt]
    obtain ⟨h1, h2, h3⟩ := h i hlt
    refine ⟨h1, h2, fun k hk => ?_⟩
    rw [hg k (by omega)]
    exact h3 k hk

theorem qSols_ok (n : Nat) : ∀ (f : Nat) (now : List Int), QOk n now → ∀ s ∈ qSols n f now, QOk n s
  | 0, now, h, s, hs => by simp only [qSols, List.mem_singleton] at hs; subst hs; exact h
  | f + 1, now, h, s, hs => by
    simp only [qSols, List.mem_flatMap] at hs
    obtain ⟨c, hc, hs⟩ := hs
    split at hs
    · simp at hs
    · next hb =>
      rw [Bool.not_eq_true] at hb
      exact qSols_ok n f _ (h.snoc (List.mem_range.1 hc) hb) s hs

/-- Squares that are found. -/
theorem isols_good {n : Nat} (hn : 0 < n) : ∀ (f : Nat) (sq : List Int) (i : Nat), i + f = n * n → GoodSq n sq → (∀ j, j < i → sq.getD j 0 ≠ 0) → ∀ s ∈ isols n f sq i,
    GoodSq n s ∧ (∀ j, j < n * n → s.getD j 0 ≠ 0) ∧ ∀ j, sq.getD j 0 ≠ 0 → s.getD j 0 = sq.getD j 0
  | 0, sq, i, hi, hg, h0, s, hs => by
    simp only [isols, List.mem_singleton] at hs
    subst hs
    exact ⟨hg, fun j hj => h0 j (by omega), fun j _ => rfl⟩
  | f + 1, sq, i, hi, hg, h0, s, hs => by
    simp only [isols, List.mem_flatMap] at hs
    obtain ⟨v, hv, hs⟩ := hs
    split at hs
    · next hf =>
      have hil : i < n * n := by omega
      have hb := hg.at hil
      have hv1 : 1 ≤ v ∧ v ≤ n ∧ (sq.getD i 0 ≠ 0 → v = sq.getD i 0) := by
        unfold cands at hv
        split at hv
        · simp only [List.mem_singleton] at hv; subst hv; exact ⟨by omega, hb.2, fun _ => rfl⟩
        · have := mem_oneTo.1 hv; exact ⟨this.1, this.2, fun h => by omega⟩
      have hlen : i < sq.length := by rw [hg.1]; exact hil
      obtain ⟨h1, h2, h3⟩ := isols_good hn f (sq.set i v) (i + 1) (by omega) (hg.set hn hil ⟨hv1.1, hv1.2.1⟩ hf) (by
        intro j hj
        by_cases he : j = i
        · subst he; rw [set_getD_self hlen]; omega
        · rw [set_getD_ne (Ne.symm he)]; exact h0 j (by omega)) s hs
      refine ⟨h1, h2, fun j hj => ?_⟩
      by_cases he : j = i
      · subst he
        rw [h3 j (by rw [set_getD_self hlen]; omega), set_getD_self hlen, hv1.2.2 hj]
      · have e := set_getD_ne (sq := sq) (v := v) (Ne.symm he)
        rw [h3 j (by rw [e]; exact hj), e]
    · simp at hs

/-- What is told of a square that is found. -/
def SqOk (n : Nat) (cells s : List Int) : Prop := s.length = n * n ∧ ∀ i, i < n * n → 1 ≤ s.getD i 0 ∧ s.getD i 0 ≤ n ∧ (cells.getD i 0 ≠ 0 → cells.getD i 0 = s.getD i 0) ∧
  ∀ k, k < n * n → k ≠ i → s.getD k 0 = s.getD i 0 → k / n ≠ i / n ∧ k % n ≠ i % n

theorem isols_ok {n : Nat} {xs s : List Int} (hn : 0 < n) (hl : xs.length = n * n) (hr : allIn 0 n xs = true) (hs : s ∈ isols n (n * n) xs 0) : SqOk n xs s := by
  by_cases hf : cellsFit n xs = true
  · have hg := (cellsFit_iff hn hl hr).1 hf
    obtain ⟨h1, h2, h3⟩ := isols_good hn (n * n) xs 0 (by omega) hg (by intro j hj; omega) s hs
    refine ⟨h1.1, fun i hi => ?_⟩
    have hb := h1.at hi
    have hz := h2 i hi
    refine ⟨by omega, hb.2, fun h => (h3 i h).symm, fun k hk hki he => ?_⟩
    have key : ¬ (k / n = i / n ∨ k % n = i % n) := fun hp => h1.2.2 k i ⟨hki, hk, hi, hp⟩ (h2 k hk) he
    exact ⟨fun h => key (.inl h), fun h => key (.inr h)⟩
  · rw [Bool.not_eq_true] at hf
    rw [isols_unfit hn hl hr hf] at hs
    simp at hs

end Go.Proofs.Ytkcpncaedocdnaa
