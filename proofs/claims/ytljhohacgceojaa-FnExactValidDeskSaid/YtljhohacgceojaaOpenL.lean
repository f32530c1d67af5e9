/-
  An argument of the row that is a slice of slices of integers.
-/
import Derived.Test.YtljhohacgceojaaOpenI
import Derived.Test.YtljhohacgceojaaPredL
namespace Go.Proofs.Ytljhohacgceojaa
open Go.ChangeShapes Go.WideShapes Go.ChangeAt Go.RowKit
set_option linter.unusedVariables false

section
variable {H : Type} {enc : TypeId × Value → H} {w : World} {base : Nat} {spare : Nat → Bool} {held : Bool}

theorem cells_ints' : Try.prog.cellsOf 60 = 1 := by kernel_rfl
def WfL (zss : List (List Int)) : Prop := ∀ zs ∈ zss, WfI zs

set_option maxRecDepth 100000 in
theorem trod_L {fuel : Nat} {cs : List Value} {x : DataW H × List MemPlace} (h : DataW.trod enc Try.prog w base spare held fuel 28 cs = some x) : ∃ v zss, cs = [v] ∧ RdL w v zss ∧ WfL zss := by
  rcases DataW.trod_slice Try.underlying28 h with ⟨rfl, _⟩ | ⟨a, len, cap, elems, rest, n, _, rfl, _, hb, hl, hm, hlen, hel, _, _⟩
  · exact ⟨_, [], rfl, ⟨[], .inl ⟨rfl, rfl⟩, rfl, by intro i u zs h; simp at h⟩, by intro z hz; simp at hz⟩
  · rw [cells_ints'] at hel
    have hex : ∀ i, i < len → ∃ q : Value × List Int, w.cell? (a.add i) = some q.1 ∧ RdI w q.1 q.2 ∧ WfI q.2 := by
      intro i hi
      have h1 := hel i hi
      rw [List.getElem?_eq_getElem (by omega)] at h1
      cases hc : w.cells? base (a.add (i * 1)) 1 with
      | none => rw [hc] at h1; simp at h1
      | some cs' =>
        rw [hc] at h1
        simp only [Option.bind_some] at h1
        obtain ⟨u, rfl, hu⟩ := cells_one hc
        obtain ⟨v, zs, e, r, f⟩ := trod_I h1
        simp at e
        subst e
        exact ⟨(u, zs), by simpa using hu, r, f⟩
    obtain ⟨l, hll, hlp⟩ := exists_list _ len hex
    refine ⟨_, l.map (·.2), rfl, ⟨l.map (·.1), .inr ⟨a, cap, by simp [hll], by simp [hll]; omega, hm, ?_⟩, by simp, ?_⟩, ?_⟩
    · intro i u hi
      simp at hi
      obtain ⟨zs, h⟩ := hi
      exact (hlp i _ h).1
    · intro i u zs h1 h2
      simp only [List.getElem?_map, Option.map_eq_some_iff] at h1 h2
      obtain ⟨q, hq, rfl⟩ := h1
      obtain ⟨q', hq', rfl⟩ := h2
      rw [hq] at hq'
      cases hq'
      exact (hlp i q hq).2.1
    · intro z hz
      simp at hz
      obtain ⟨v, hv⟩ := hz
      obtain ⟨i, hi, he⟩ := List.mem_iff_getElem.1 hv
      have := (hlp i _ (List.getElem?_eq_getElem hi)).2.2
      rw [he] at this
      exact this

set_option maxRecDepth 100000 in
theorem arg_L {r : Reach} {b0 : Nat} {v : Value} {d : DataW H} {p : List MemPlace} (hv : Value.okWide Try.prog w r b0 28 v) (h : DataW.Trod enc Try.prog w base spare held 28 v d p) : ∃ zss, RdL w v zss ∧ WfL zss := by
  obtain ⟨a, len, cap, rfl⟩ := okWide_slice Try.underlying28 hv
  obtain ⟨fuel, hf⟩ := h
  obtain ⟨v, zs, e, h1, h2⟩ := trod_L hf
  simp [Value.cells] at e
  subst e
  exact ⟨zs, h1, h2⟩
end
end Go.Proofs.Ytljhohacgceojaa
