/-
  Narrow domains, as plain lists: the numbers of choices, by marks and by masks.
-/
import Derived.Test.YtnhamdkpeefioaaEachD
import Derived.Test.YtnhamdkpeefioaaDiffer
import Derived.Test.YtnhamdkpeefioaaTightM
namespace Go.Proofs.Ytnhamdkpeefioaa

/-- Is x at place i of a choice? -/
def colB (l : List (List Int)) (i : Nat) (x : Int) : Bool := l.any fun ch => x == ch.getD i 0
def nrRow (D : List (List Int)) (i : Nat) : List Int := (D.getD i []).filter (colB (allC D) i)
def nrPart (D : List (List Int)) (i k : Nat) : List Int := ((D.getD i []).take k).filter (colB (allC D) i)
def nrAll (D : List (List Int)) : List (List Int) := (List.range D.length).map (nrRow D)
open Classical in
noncomputable def nrOk (D : List (List Int)) : Bool := validD D && !(allC D).isEmpty
open Classical in
noncomputable def nrL (D : List (List Int)) : List (List Int) := if nrOk D = true then nrAll D else []

theorem nrPart_succ (D : List (List Int)) (i k : Nat) (h : k < (D.getD i []).length) : nrPart D i (k + 1) = nrPart D i k ++ if colB (allC D) i ((D.getD i []).getD k 0) = true then [(D.getD i []).getD k 0] else [] := by
  unfold nrPart
  generalize D.getD i [] = d at h ⊢
  rw [List.take_add_one, List.filter_append]
  congr 1
  have e : d[k]? = some (d.getD k 0) := by simp [h]
  rw [e]
  simp only [Option.toList_some, List.filter_cons, List.filter_nil]
theorem nrPart_all (D : List (List Int)) (i : Nat) : nrPart D i (D.getD i []).length = nrRow D i := by unfold nrPart nrRow; rw [List.take_length]
theorem nrPart_len (D : List (List Int)) (i k : Nat) : (nrPart D i k).length ≤ k := by
  unfold nrPart
  exact Nat.le_trans (List.length_filter_le _ _) (List.length_take_le _ _)
theorem markL_col (D : List (List Int)) (i k : Nat) : markL D (fun _ _ => false) (allC D) i k = colB (allC D) i ((D.getD i []).getD k 0) := by simp [markL, colB]

/-- The mask of place i. -/
def orM (l : List (List Int)) (i : Nat) : Nat := l.foldl (fun m ch => m ||| 2 ^ (ch.getD i 0).toNat) 0
theorem orM_snoc (l : List (List Int)) (s : List Int) (i : Nat) : orM (l ++ [s]) i = orM l i ||| 2 ^ (s.getD i 0).toNat := by simp [orM, List.foldl_append]
theorem orM_bit (i b : Nat) (l : List (List Int)) : (orM l i).testBit b = l.any fun ch => (ch.getD i 0).toNat == b := by
  have key : ∀ (l : List (List Int)) (m : Nat), (l.foldl (fun m ch => m ||| 2 ^ (ch.getD i 0).toNat) m).testBit b = (m.testBit b || l.any fun ch => (ch.getD i 0).toNat == b) := by
    intro l
    induction l with
    | nil => intro m; simp
    | cons s l ih =>
      intro m
      rw [List.foldl_cons, ih, Nat.testBit_or, Nat.testBit_two_pow, List.any_cons, Bool.or_assoc]
      congr 2
  have := key l 0
  simpa [orM] using this

theorem rising_ext : ∀ (a b : List Int), a.Pairwise (· < ·) → b.Pairwise (· < ·) → (∀ x, x ∈ a ↔ x ∈ b) → a = b
  | [], [], _, _, _ => rfl
  | [], y :: b, _, _, h => by have := (h y).2 (by simp); simp at this
  | x :: a, [], _, _, h => by have := (h x).1 (by simp); simp at this
  | x :: a, y :: b, ha, hb, h => by
    rw [List.pairwise_cons] at ha hb
    have e : x = y := by
      have h1 := (h x).1 (by simp)
      have h2 := (h y).2 (by simp)
      rcases List.mem_cons.1 h1 with e | m1
      · exact e
      · rcases List.mem_cons.1 h2 with e | m2
        · exact e.symm
        · have := hb.1 _ m1; have := ha.1 _ m2; omega
    subst e
    congr 1
    refine rising_ext a b ha.2 hb.2 (fun z => ?_)
    have hz := h z
    simp only [List.mem_cons] at hz
    constructor
    · intro hm
      rcases hz.1 (.inr hm) with e | m
      · subst e; have := ha.1 _ hm; omega
      · exact m
    · intro hm
      rcases hz.2 (.inr hm) with e | m
      · subst e; have := hb.1 _ hm; omega
      · exact m

theorem ValDom.pair {d : List Int} (h : ValDom d) : d.Pairwise (· < ·) := by
  have step : ∀ i j, i < j → j < d.length → d.getD i 0 < d.getD j 0 := by
    intro i j hij hj
    induction j with
    | zero => omega
    | succ j ih =>
      have h1 := (h.2.2 (j + 1) hj).2 (by omega)
      simp only [Nat.add_sub_cancel] at h1
      by_cases he : i = j
      · subst he; exact h1
      · have := ih (by omega) (by omega); omega
  rw [List.pairwise_iff_getElem]
  intro i j hi hj hij
  have := step i j hij hj
  simpa [hi, hj] using this
theorem ValDom.range {d : List Int} (h : ValDom d) {x : Int} (hx : x ∈ d) : 0 ≤ x ∧ x ≤ 31 := by
  obtain ⟨k, hk, rfl⟩ := List.getElem_of_mem hx
  have := (h.2.2 k hk).1
  simpa [inB, hk] using this

theorem choi_in {D : List (List Int)} : ∀ (f : Nat) (now s : List Int), InD D now → s ∈ choi D f now → InD D s
  | 0, now, s, h, hs => by simp only [choi, List.mem_singleton] at hs; subst hs; exact h
  | f + 1, now, s, h, hs => by
    simp only [choi, List.mem_flatMap] at hs
    obtain ⟨n, hn, hs⟩ := hs
    split at hs
    · simp at hs
    · exact choi_in f _ s (h.snoc hn) hs

/-- The digits of a mask are the narrow domain. -/
theorem nr_dig {D : List (List Int)} (hD : ValD D) {i : Nat} (hi : i < D.length) : ((dig (orM (allC D) i)).map fun (k : Nat) => (k : Int)) = nrRow D i := by
  have hd := hD.2.2 i hi
  have hin : ∀ ch ∈ allC D, ch.getD i 0 ∈ D.getD i [] := fun ch hc => by
    have h1 := choi_in D.length [] ch (InD.nil D) hc
    have h2 := choi_mem D D.length [] ch hc
    exact h1 i (by simp at h2; omega)
  refine rising_ext _ _ ?_ (hd.pair.filter _) (fun x => ?_)
  · unfold dig
    rw [List.pairwise_map]
    refine (List.Pairwise.filter _ List.pairwise_lt_range).imp ?_
    intro a b h; omega
  · unfold dig nrRow
    simp only [List.mem_map, List.mem_filter, List.mem_range, orM_bit, colB, List.any_eq_true, beq_iff_eq]
    constructor
    · rintro ⟨k, ⟨hk, ch, hc, he⟩, rfl⟩
      have hm := hin ch hc
      have hr := hd.range hm
      have e : ch.getD i 0 = (k : Int) := by omega
      rw [e] at hm
      exact ⟨hm, ch, hc, e.symm⟩
    · rintro ⟨hm, ch, hc, he⟩
      have hr := hd.range hm
      exact ⟨x.toNat, ⟨by omega, ch, hc, by rw [← he]⟩, by omega⟩
theorem orM_lt {D : List (List Int)} (hD : ValD D) : ∀ (l : List (List Int)), (∀ ch ∈ l, ∀ i, i < D.length → 0 ≤ ch.getD i 0 ∧ ch.getD i 0 ≤ 31) → ∀ i, i < D.length → orM l i < 4294967296 := by
  intro l hl i hi
  have key : ∀ (l : List (List Int)) (m : Nat), m < 2 ^ 32 → (∀ ch ∈ l, 0 ≤ ch.getD i 0 ∧ ch.getD i 0 ≤ 31) → l.foldl (fun m ch => m ||| 2 ^ (ch.getD i 0).toNat) m < 2 ^ 32 := by
    intro l
    induction l with
    | nil => intro m hm _; exact hm
    | cons s l ih =>
      intro m hm h
      rw [List.foldl_cons]
      have hs := h s (by simp)
      refine ih _ (Nat.or_lt_two_pow hm (Nat.pow_lt_pow_right (by omega) (by omega))) (fun ch hc => h ch (by simp [hc]))
  exact key l 0 (by decide) (fun ch hc => hl ch hc i hi)
theorem orM_zero {D : List (List Int)} (hD : ValD D) : orM (allC D) 0 = 0 ↔ allC D = [] := by
  constructor
  · intro h
    cases hc : allC D with
    | nil => rfl
    | cons s r =>
      have hb := orM_bit 0 (s.getD 0 0).toNat (allC D)
      rw [h, hc] at hb
      simp at hb
  · intro h; rw [h]; rfl

end Go.Proofs.Ytnhamdkpeefioaa
