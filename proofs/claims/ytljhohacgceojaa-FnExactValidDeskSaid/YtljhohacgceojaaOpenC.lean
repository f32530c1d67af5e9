/-
  An argument of the row that is a form, a case, or a list of cases.
-/
import Derived.Test.YtljhohacgceojaaOpenL
import Derived.Test.YtljhohacgceojaaCaseL
import Derived.Lib.SmallJoins
namespace Go.Proofs.Ytljhohacgceojaa
open Go.ChangeShapes Go.WideShapes Go.ChangeAt Go.RowKit
set_option linter.unusedVariables false

section
variable {H : Type} {enc : TypeId × Value → H} {w : World} {base : Nat} {spare : Nat → Bool} {held : Bool}

theorem cells_four {a : Addr} {cs : List Value} (h : w.cells? base a (0 + 4) = some cs) : ∃ v0 v1 v2 v3, cs = [v0, v1, v2, v3] ∧ w.cell? (a.add 0) = some v0 ∧ w.cell? (a.add 1) = some v1 ∧ w.cell? (a.add 2) = some v2 ∧ w.cell? (a.add 3) = some v3 := by
  simp only [World.cells?, Nat.zero_add] at h
  split at h
  · rw [show List.range 4 = [0, 1, 2, 3] from rfl] at h
    cases h0 : w.cell? (a.add 0) with
    | none => rw [List.mapM_cons, h0] at h; simp at h
    | some v0 =>
      cases h1 : w.cell? (a.add 1) with
      | none => rw [List.mapM_cons, h0, List.mapM_cons, h1] at h; simp at h
      | some v1 =>
        cases h2 : w.cell? (a.add 2) with
        | none => rw [List.mapM_cons, h0, List.mapM_cons, h1, List.mapM_cons, h2] at h; simp at h
        | some v2 =>
          cases h3 : w.cell? (a.add 3) with
          | none => rw [List.mapM_cons, h0, List.mapM_cons, h1, List.mapM_cons, h2, List.mapM_cons, h3] at h; simp at h
          | some v3 =>
            rw [List.mapM_cons, h0, List.mapM_cons, h1, List.mapM_cons, h2, List.mapM_cons, h3] at h
            simp at h
            exact ⟨v0, v1, v2, v3, h.symm, rfl, rfl, rfl, rfl⟩
  · cases h

/-- An address whose cells read has no spot: its cells lie one behind another. -/
theorem add_plain {a : Addr} {u : Value} (h : w.cell? (a.add 0) = some u) : ∃ b off, a = ⟨b, off, none⟩ := by
  obtain ⟨b, off, spot⟩ := a
  have h0 := World.cell?_spot h
  have : spot = none := by simpa [Addr.add] using h0
  subst this
  exact ⟨b, off, rfl⟩

theorem trod_three {P : Program} {t : TypeId} {f0 f1 f2 : Field} {fuel : Nat} {cs : List Value} {x : DataW H × List MemPlace} (ht : P.underlying t = some (.struct #[f0, f1, f2])) (h : DataW.trod enc P w base spare held fuel t cs = some x) :
    ∃ y0 y1 y2 n, cs.length = P.cellsOf t ∧ DataW.trod enc P w base spare held n f0.type ((cs.drop f0.offset).take (P.cellsOf f0.type)) = some y0 ∧
      DataW.trod enc P w base spare held n f1.type ((cs.drop f1.offset).take (P.cellsOf f1.type)) = some y1 ∧ DataW.trod enc P w base spare held n f2.type ((cs.drop f2.offset).take (P.cellsOf f2.type)) = some y2 := by
  obtain ⟨xs, n, _, rfl, hl, hlen, hf⟩ := DataW.trod_struct ht h
  match xs, hlen with
  | [y0, y1, y2], _ => exact ⟨y0, y1, y2, n, hl, by simpa using hf 0 f0 rfl, by simpa using hf 1 f1 rfl, by simpa using hf 2 f2 rfl⟩

theorem cells_form : Try.prog.cellsOf 30 = 2 := by kernel_rfl
theorem cells_case : Try.prog.cellsOf 32 = 4 := by kernel_rfl
theorem cells_lists : Try.prog.cellsOf 28 = 1 := by kernel_rfl
theorem cells_str : Try.prog.cellsOf 9 = 1 := by kernel_rfl
theorem cells_num : Try.prog.cellsOf 2 = 1 := by kernel_rfl

def WfFm (d : FormD) : Prop := (-9223372036854775808 ≤ d.letters ∧ d.letters ≤ 9223372036854775807) ∧ WfL d.clauses
def WfCs (d : CaseD) : Prop := WfFm d.form ∧ WfL d.proof
def WfCL (ds : List CaseD) : Prop := ∀ d ∈ ds, WfCs d

set_option maxRecDepth 100000 in
theorem trod_Fm {fuel : Nat} {cs : List Value} {x : DataW H × List MemPlace} (h : DataW.trod enc Try.prog w base spare held fuel 30 cs = some x) : ∃ z v d, cs = [.int .i64 z, v] ∧ RdFm w (.agg #[.int .i64 z, v]) d ∧ z = d.letters ∧ WfFm d := by
  obtain ⟨y0, y1, n, _, hl, h0, h1⟩ := trod_struct2 Try.underlying30 h
  rw [cells_form] at hl
  match cs, hl with
  | [a, b], _ =>
    rw [cells_num] at h0
    rw [cells_lists] at h1
    obtain ⟨z, e0, _, f0⟩ := DataW.trod_int Try.underlying2 h0
    obtain ⟨v, q, e1, r1, f1⟩ := trod_L (w := w) h1
    simp at e0 e1
    subst e0 e1
    exact ⟨z, _, ⟨z, q⟩, rfl, ⟨_, rfl, r1⟩, rfl, wf_i64_bounds f0, f1⟩

set_option maxRecDepth 100000 in
theorem trod_Cs {fuel : Nat} {cs : List Value} {x : DataW H × List MemPlace} (h : DataW.trod enc Try.prog w base spare held fuel 32 cs = some x) : ∃ v1 v2 d, cs = [.string d.name, .int .i64 d.form.letters, v1, v2] ∧ RdCs w (.agg #[.string d.name, .int .i64 d.form.letters, v1, v2]) d ∧ WfCs d := by
  obtain ⟨y0, y1, y2, n, hl, h0, h1, h2⟩ := trod_three Try.underlying32 h
  rw [cells_case] at hl
  match cs, hl with
    | [a, b, c, e], _ =>
      rw [cells_str] at h0
      rw [cells_form] at h1
      rw [cells_lists] at h2
      obtain ⟨s, e0, _, f0⟩ := DataW.trod_string Try.underlying9 (by simpa using h0)
      obtain ⟨z, vv, d, e1, r1, hz, f1⟩ := trod_Fm (w := w) (by simpa using h1)
      obtain ⟨vw, q, e2, r2, f2⟩ := trod_L (w := w) (by simpa using h2)
      simp at e0 e1 e2
      obtain ⟨rfl, rfl⟩ := e1
      subst e0 e2 hz
      exact ⟨_, _, ⟨s, d, q⟩, rfl, ⟨_, _, rfl, r1, r2, f0⟩, f1, f2⟩

set_option maxRecDepth 100000 in
theorem arg_Cs {r : Reach} {b0 : Nat} {v : Value} {d : DataW H} {p : List MemPlace} (hv : Value.okWide Try.prog w r b0 32 v) (h : DataW.Trod enc Try.prog w base spare held 32 v d p) : ∃ t, RdCs w v t ∧ WfCs t := by
  obtain ⟨cs, rfl, hsz⟩ := okWide_struct Try.underlying32 hv
  obtain ⟨fuel, hf⟩ := h
  obtain ⟨v1, v2, d, e, r1, f1⟩ := trod_Cs (w := w) hf
  obtain ⟨l⟩ := cs
  simp only [Value.cells] at e
  subst e
  exact ⟨d, r1, f1⟩

set_option maxRecDepth 100000 in
theorem trod_CL {fuel : Nat} {cs : List Value} {x : DataW H × List MemPlace} (h : DataW.trod enc Try.prog w base spare held fuel 22 cs = some x) : ∃ v ds, cs = [v] ∧ RdCL w v ds ∧ WfCL ds := by
  rcases DataW.trod_slice Try.underlying22 h with ⟨rfl, _⟩ | ⟨a, len, cap, elems, rest, n, _, rfl, _, hb, hl, hm, hlen, hel, _, _⟩
  · exact ⟨_, [], rfl, .inl ⟨none, 0, rfl, by simp [maxLen], rfl⟩, by intro z hz; simp at hz⟩
  · rw [cells_case] at hel
    have hex : ∀ i, i < len → ∃ q : RowCL, (i = 0 → ∃ b off, a = ⟨b, off, none⟩) ∧ (∀ c u, (cellsCL q)[c]? = some u → w.cell? ((a.add (i * 4)).add c) = some u) ∧ RdCs w (aggCL q) q.d ∧ WfCs q.d := by
      intro i hi
      have h1 := hel i hi
      rw [List.getElem?_eq_getElem (by omega)] at h1
      cases hc : w.cells? base (a.add (i * 4)) 4 with
      | none => rw [hc] at h1; simp at h1
      | some cs' =>
        rw [hc] at h1
        simp only [Option.bind_some] at h1
        obtain ⟨v0, v1, v2, v3, rfl, q0, q1, q2, q3⟩ := cells_four hc
        obtain ⟨u1, u2, d, e, r, f⟩ := trod_Cs h1
        simp at e
        obtain ⟨rfl, rfl, rfl, rfl⟩ := e
        refine ⟨⟨d, v2, v3, 0, 0⟩, ?_, ?_, r, f⟩
        · rintro rfl
          obtain ⟨b, off, ha⟩ := add_plain q0
          exact ⟨b, off, by simpa [Addr.add] using ha⟩
        · intro c u hu
          match c, hu with
          | 0, hu => simp [cellsCL] at hu; subst hu; exact q0
          | 1, hu => simp [cellsCL] at hu; subst hu; exact q1
          | 2, hu => simp [cellsCL] at hu; subst hu; exact q2
          | 3, hu => simp [cellsCL] at hu; subst hu; exact q3
          | c + 4, hu => simp [cellsCL] at hu
    obtain ⟨l, hll, hlp⟩ := exists_list _ len hex
    by_cases hz : len = 0
    · subst hz
      exact ⟨_, [], rfl, .inl ⟨some a, cap, rfl, hm, rfl⟩, by intro z hz; simp at hz⟩
    · have h0 : l[0]? = some (l[0]'(by omega)) := List.getElem?_eq_getElem (by omega)
      obtain ⟨b, off, rfl⟩ := (hlp 0 _ h0).1 rfl
      refine ⟨_, l.map (·.d), rfl, .inr ⟨b, off, cap, l, by simp [hll], by simp [hll]; omega, hm, rfl, fun i r hr => ⟨fun c u hu => ?_, (hlp i r hr).2.2.1⟩⟩, ?_⟩
      · have h5 := (hlp i r hr).2.1 c u hu
        have e : ((⟨b, off, none⟩ : Addr).add (i * 4)).add c = ⟨b, off + i * 4 + c, none⟩ := by
          unfold Addr.add
          by_cases q1 : i * 4 = 0 <;> by_cases q2 : c = 0 <;> simp [q1, q2]
        rwa [e] at h5
      · intro z hz
        simp at hz
        obtain ⟨q, hq, rfl⟩ := hz
        obtain ⟨i, hi, he⟩ := List.mem_iff_getElem.1 hq
        have := (hlp i _ (List.getElem?_eq_getElem hi)).2.2.2
        rwa [he] at this

set_option maxRecDepth 100000 in
theorem arg_CL {r : Reach} {b0 : Nat} {v : Value} {d : DataW H} {p : List MemPlace} (hv : Value.okWide Try.prog w r b0 22 v) (h : DataW.Trod enc Try.prog w base spare held 22 v d p) : ∃ ds, RdCL w v ds ∧ WfCL ds := by
  obtain ⟨a, len, cap, rfl⟩ := okWide_slice Try.underlying22 hv
  obtain ⟨fuel, hf⟩ := h
  obtain ⟨v, zs, e, h1, h2⟩ := trod_CL hf
  simp [Value.cells] at e
  subst e
  exact ⟨zs, h1, h2⟩
end
end Go.Proofs.Ytljhohacgceojaa
