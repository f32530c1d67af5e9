/-
  An argument of the row that is a list of jobs, or a desk.
-/
import Derived.Test.YtljhohacgceojaaOpenR
import Derived.Test.YtljhohacgceojaaOpenC
import Derived.Test.YtljhohacgceojaaDeskT
namespace Go.Proofs.Ytljhohacgceojaa
open Go.ChangeShapes Go.WideShapes Go.ChangeAt Go.RowKit
set_option linter.unusedVariables false

def WfJ (js : List JobD) : Prop := True
def BitsF (zs : List Nat) : Prop := ∀ z ∈ zs, z < 4294967296
def WfD (d : DeskD) : Prop := BitsF d.rows.nums ∧ BitsF d.rows.bnds ∧ BitsF d.rows.gains

section
variable {H : Type} {enc : TypeId × Value → H} {w : World} {base : Nat} {spare : Nat → Bool} {held : Bool}

theorem cells_job : Try.prog.cellsOf 145 = 4 := by kernel_rfl
theorem cells_jobs : Try.prog.cellsOf 61 = 1 := by kernel_rfl
theorem cells_desk : Try.prog.cellsOf 63 = 7 := by kernel_rfl

set_option maxRecDepth 100000 in
theorem trod_Jo {fuel : Nat} {cs : List Value} {x : DataW H × List MemPlace} (h : DataW.trod enc Try.prog w base spare held fuel 145 cs = some x) : ∃ j : JobD, cs = jobCells j := by
  obtain ⟨y0, y1, y2, y3, n, _, hl, h0, h1, h2, h3⟩ := Go.Joins.trod_struct4 Try.underlying145 h
  rw [cells_job] at hl
  match cs, hl with
  | [a, b, c, e], _ =>
    rw [cells_i64'] at h0 h1 h2 h3
    obtain ⟨z0, e0⟩ := trod_i64 h0
    obtain ⟨z1, e1⟩ := trod_i64 h1
    obtain ⟨z2, e2⟩ := trod_i64 h2
    obtain ⟨z3, e3⟩ := trod_i64 h3
    simp at e0 e1 e2 e3
    subst e0 e1 e2 e3
    exact ⟨⟨z0, z1, z2, z3⟩, rfl⟩

set_option maxRecDepth 100000 in
theorem trod_J {fuel : Nat} {cs : List Value} {x : DataW H × List MemPlace} (h : DataW.trod enc Try.prog w base spare held fuel 61 cs = some x) : ∃ v js, cs = [v] ∧ RdJ w v js := by
  rcases DataW.trod_slice Try.underlying61 h with ⟨rfl, _⟩ | ⟨a, len, cap, elems, rest, n, _, rfl, _, hb, hl, hm, hlen, hel, _, _⟩
  · exact ⟨_, [], rfl, .inl ⟨none, 0, rfl, by simp [maxLen], rfl⟩⟩
  · rw [cells_job] at hel
    have hex : ∀ i, i < len → ∃ q : JobD, (i = 0 → ∃ b off, a = ⟨b, off, none⟩) ∧ (∀ c u, (jobCells q)[c]? = some u → w.cell? ((a.add (i * 4)).add c) = some u) := by
      intro i hi
      have h1 := hel i hi
      rw [List.getElem?_eq_getElem (by omega)] at h1
      cases hc : w.cells? base (a.add (i * 4)) 4 with
      | none => rw [hc] at h1; simp at h1
      | some cs' =>
        rw [hc] at h1
        simp only [Option.bind_some] at h1
        obtain ⟨v0, v1, v2, v3, rfl, q0, q1, q2, q3⟩ := cells_four hc
        obtain ⟨q, e⟩ := trod_Jo h1
        simp [jobCells] at e
        obtain ⟨rfl, rfl, rfl, rfl⟩ := e
        refine ⟨q, ?_, ?_⟩
        · rintro rfl
          obtain ⟨b, off, ha⟩ := add_plain q0
          exact ⟨b, off, by simpa [Addr.add] using ha⟩
        · intro c u hu
          match c, hu with
          | 0, hu => simp [jobCells] at hu; subst hu; exact q0
          | 1, hu => simp [jobCells] at hu; subst hu; exact q1
          | 2, hu => simp [jobCells] at hu; subst hu; exact q2
          | 3, hu => simp [jobCells] at hu; subst hu; exact q3
          | c + 4, hu => simp [jobCells] at hu
    obtain ⟨l, hll, hlp⟩ := exists_list _ len hex
    by_cases hz : len = 0
    · subst hz
      exact ⟨_, [], rfl, .inl ⟨some a, cap, rfl, hm, rfl⟩⟩
    · have h0 : l[0]? = some (l[0]'(by omega)) := List.getElem?_eq_getElem (by omega)
      obtain ⟨b, off, rfl⟩ := (hlp 0 _ h0).1 rfl
      refine ⟨_, l, rfl, .inr ⟨b, off, cap, by simp [hll], by omega, hm, fun i hi c u hu => ?_⟩⟩
      have hg : l[i]? = some (l.getD i J0) := by simp [hi]
      have h5 := (hlp i _ hg).2 c u hu
      have e : ((⟨b, off, none⟩ : Addr).add (i * 4)).add c = ⟨b, off + i * 4 + c, none⟩ := by
        unfold Addr.add
        by_cases q1 : i * 4 = 0 <;> by_cases q2 : c = 0 <;> simp [q1, q2]
      rwa [e] at h5

set_option maxRecDepth 100000 in
theorem arg_J {r : Reach} {b0 : Nat} {v : Value} {d : DataW H} {p : List MemPlace} (hv : Value.okWide Try.prog w r b0 61 v) (h : DataW.Trod enc Try.prog w base spare held 61 v d p) : ∃ zs, RdJ w v zs ∧ WfJ zs := by
  obtain ⟨a, len, cap, rfl⟩ := okWide_slice Try.underlying61 hv
  obtain ⟨fuel, hf⟩ := h
  obtain ⟨v, zs, e, h1⟩ := trod_J hf
  simp [Value.cells] at e
  subst e
  exact ⟨zs, h1, trivial⟩

set_option maxRecDepth 100000 in
theorem trod_f32w {n : Nat} {cs : List Value} {x : DataW H × List MemPlace} (h : DataW.trod enc Try.prog w base spare held n 148 cs = some x) : ∃ b, cs = [.float .f32 b] ∧ b < 4294967296 := by
  cases n with
  | zero => simp [DataW.trod] at h
  | succ n =>
    obtain ⟨b, rfl⟩ := trod_f32 h
    refine ⟨b, rfl, ?_⟩
    simp only [DataW.trod, Try.underlying148] at h
    split at h
    · next hw =>
      have := hw.2
      simpa [Lit.wf] using this
    · cases h

set_option maxRecDepth 100000 in
theorem trod_Fw {fuel : Nat} {cs : List Value} {x : DataW H × List MemPlace} (h : DataW.trod enc Try.prog w base spare held fuel 57 cs = some x) : ∃ v zs, cs = [v] ∧ RdF w v zs ∧ BitsF zs := by
  rcases DataW.trod_slice Try.underlying57 h with ⟨rfl, _⟩ | ⟨a, len, cap, elems, rest, n, _, rfl, _, hb, hl, hm, hlen, hel, _, _⟩
  · exact ⟨_, [], rfl, .inl ⟨rfl, rfl⟩, by intro z hz; simp at hz⟩
  · rw [cells_f32] at hel
    have hex : ∀ i, i < len → ∃ q : Nat, w.cell? (a.add i) = some (.float .f32 q) ∧ q < 4294967296 := by
      intro i hi
      have h1 := hel i hi
      rw [List.getElem?_eq_getElem (by omega)] at h1
      cases hc : w.cells? base (a.add (i * 1)) 1 with
      | none => rw [hc] at h1; simp at h1
      | some cs' =>
        rw [hc] at h1
        simp only [Option.bind_some] at h1
        obtain ⟨u, rfl, hu⟩ := cells_one hc
        obtain ⟨b, e, hb⟩ := trod_f32w h1
        simp at e
        subst e
        exact ⟨b, by simpa using hu, hb⟩
    obtain ⟨l, hll, hlp⟩ := exists_list _ len hex
    refine ⟨_, l, rfl, .inr ⟨a, cap, by simp [hll], by simp [hll]; omega, hm, ?_⟩, ?_⟩
    · intro i u hi
      simp only [List.getElem?_map, Option.map_eq_some_iff] at hi
      obtain ⟨q, hq, rfl⟩ := hi
      exact (hlp i q hq).1
    · intro z hz
      obtain ⟨i, hi, he⟩ := List.mem_iff_getElem.1 hz
      have := (hlp i _ (List.getElem?_eq_getElem hi)).2
      rwa [he] at this

set_option maxRecDepth 100000 in
theorem trod_R {fuel : Nat} {cs : List Value} {x : DataW H × List MemPlace} (h : DataW.trod enc Try.prog w base spare held fuel 59 cs = some x) : ∃ va vb vc d, cs = [.int .i64 d.vars, va, vb, vc] ∧ RdR w (.agg #[.int .i64 d.vars, va, vb, vc]) d ∧ BitsF d.nums ∧ BitsF d.bnds ∧ BitsF d.gains := by
  obtain ⟨y0, y1, y2, y3, n, _, hl, h0, h1, h2, h3⟩ := Go.Joins.trod_struct4 Try.underlying59 h
  rw [cells_rows] at hl
  match cs, hl with
  | [a, b, c, e], _ =>
    rw [cells_floats] at h1 h2 h3
    rw [cells_i64'] at h0
    obtain ⟨z, e0⟩ := trod_i64 h0
    obtain ⟨vb, p, e1, r1, f1⟩ := trod_Fw (w := w) h1
    obtain ⟨vc, q, e2, r2, f2⟩ := trod_Fw (w := w) h2
    obtain ⟨vd, s, e3, r3, f3⟩ := trod_Fw (w := w) h3
    simp at e0 e1 e2 e3
    subst e0 e1 e2 e3
    exact ⟨_, _, _, ⟨z, p, q, s⟩, rfl, ⟨_, _, _, rfl, r1, r2, r3⟩, f1, f2, f3⟩

set_option maxRecDepth 100000 in
theorem arg_D {r : Reach} {b0 : Nat} {v : Value} {d : DataW H} {p : List MemPlace} (hv : Value.okWide Try.prog w r b0 63 v) (h : DataW.Trod enc Try.prog w base spare held 63 v d p) : ∃ t, RdD w v t ∧ WfD t := by
  obtain ⟨cs, rfl, hsz⟩ := okWide_struct Try.underlying63 hv
  obtain ⟨fuel, hf⟩ := h
  obtain ⟨y0, y1, y2, y3, n, _, hl, h0, h1, h2, h3⟩ := Go.Joins.trod_struct4 Try.underlying63 hf
  rw [cells_desk] at hl
  simp only [Value.cells] at hl h0 h1 h2 h3
  obtain ⟨l⟩ := cs
  match l, hl with
  | [a, b, c, e, f, g, k], _ =>
    rw [cells_rows] at h0
    rw [cells_ints'] at h1 h3
    rw [cells_jobs] at h2
    obtain ⟨va, vb, vc, q0, e0, r0, f0⟩ := trod_R (w := w) (by simpa using h0)
    obtain ⟨v1, q1, e1, r1, _⟩ := trod_I (w := w) h1
    obtain ⟨v2, q2, e2, r2⟩ := trod_J (w := w) h2
    obtain ⟨v3, q3, e3, r3, _⟩ := trod_I (w := w) h3
    simp at e0 e1 e2 e3
    obtain ⟨rfl, rfl, rfl, rfl⟩ := e0
    subst e1 e2 e3
    exact ⟨⟨q0, q1, q2, q3⟩, ⟨_, _, _, _, _, _, rfl, r0, r1, r2, r3⟩, f0⟩
end
end Go.Proofs.Ytljhohacgceojaa
