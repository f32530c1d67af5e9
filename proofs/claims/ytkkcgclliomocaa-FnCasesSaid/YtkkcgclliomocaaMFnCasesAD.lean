/-
  FnCases: texts joined: CaseL, Str, ClauseM, Reg, Clause, CaseV.
-/
import Derived.Deep.RegionHeld3
import Derived.Test.YtkkcgclliomocaaMFnCasesAA
import Derived.Test.YtkkcgclliomocaaMFnCasesAC
namespace Go.Proofs.Ytkkcgclliomocaa
open Go.RowKit

def ICL : CaseD := ⟨⟨#[]⟩, ⟨0, []⟩, []⟩
/-- One of a list: its data, the values of its slices, and where they lie. -/
structure RowCL where
  d : CaseD
  a1 : Value
  a2 : Value
  l : Nat
  h : Nat
def cellsCL (r : RowCL) : List Value := [.string r.d.name, .int .i64 r.d.form.letters, r.a1, r.a2]
def aggCL (r : RowCL) : Value := .agg #[.string r.d.name, .int .i64 r.d.form.letters, r.a1, r.a2]
theorem cellsCL_len (r : RowCL) : (cellsCL r).length = 4 := rfl
def sumCL : List CaseD → Nat
  | [] => 0
  | z :: r => bulkCs z + sumCL r
theorem sumCL_append : ∀ (a b : List CaseD), sumCL (a ++ b) = sumCL a + sumCL b
  | [], b => by simp [sumCL]
  | z :: r, b => by simp only [List.cons_append, sumCL, sumCL_append r b]; omega
def bulkCL (ds : List CaseD) : Nat := ds.length + sumCL ds
theorem sumCL_take_succ (ds : List CaseD) (k : Nat) (hk : k < ds.length) : sumCL (ds.take (k + 1)) = sumCL (ds.take k) + bulkCs (ds.getD k ICL) := by
  rw [List.take_succ_eq_append_getElem hk, sumCL_append]
  simp [hk, sumCL]
theorem bulkCL_le (ds : List CaseD) (k : Nat) : sumCL (ds.take k) + ds.length ≤ bulkCL ds := by
  unfold bulkCL
  have : sumCL (ds.take k) + sumCL (ds.drop k) = sumCL ds := by rw [← sumCL_append, List.take_append_drop]
  omega

/-- The slice reads as these. -/
def RdCL (w : World) (v : Value) (ds : List CaseD) : Prop := (∃ a cap, v = .slice a 0 cap ∧ cap ≤ maxLen ∧ ds = []) ∨
  ∃ (b off cap : Nat) (rows : List RowCL), v = .slice (some ⟨b, off, none⟩) ds.length cap ∧ ds.length ≤ cap ∧ cap ≤ maxLen ∧ ds = rows.map (·.d) ∧
    ∀ (i : Nat) (r : RowCL), rows[i]? = some r → (∀ c u, (cellsCL r)[c]? = some u → w.cell? ⟨b, off + i * 4 + c, none⟩ = some u) ∧ RdCs w (aggCL r) r.d
def OwnECL (lo hi : Nat) (w : World) (rows : List RowCL) : Prop :=
  (∀ (i : Nat) (r : RowCL), rows[i]? = some r → OwnCs r.l r.h w (aggCL r) r.d ∧ lo ≤ r.l ∧ r.h ≤ hi) ∧ ∀ (i j : Nat) (r s : RowCL), i < j → rows[i]? = some r → rows[j]? = some s → r.h ≤ s.l
def OwnCL (lo hi : Nat) (w : World) (v : Value) (ds : List CaseD) : Prop :=
  ∃ rows : List RowCL, ds = rows.map (·.d) ∧ w.ownsRow lo 33 4 v ds.length (rows.flatMap cellsCL) ∧ (∀ g, v.ownBlock = some g → g < hi ∧ ∀ (i : Nat) (r : RowCL), rows[i]? = some r → ¬ (r.l ≤ g ∧ g < r.h)) ∧ OwnECL lo hi w rows

theorem RdCL.shape {w : World} {v : Value} {ds : List CaseD} (h : RdCL w v ds) : ∃ a c, v = .slice a ds.length c := by
  rcases h with ⟨a, cap, rfl, _, rfl⟩ | ⟨b, off, cap, rows, rfl, _⟩
  · exact ⟨a, cap, rfl⟩
  · exact ⟨_, cap, rfl⟩
theorem RdCL.len {w : World} {v : Value} {ds : List CaseD} (h : RdCL w v ds) : ds.length ≤ maxLen := by
  rcases h with ⟨a, cap, rfl, _, rfl⟩ | ⟨b, off, cap, rows, rfl, h1, h2, _⟩
  · simp [maxLen]
  · omega
theorem RdCL.up {w w' : World} {v : Value} {ds : List CaseD} {B : Nat} (h : RdCL w v ds) (hb : Below B w w') (hB : w.heap.size ≤ B) : RdCL w' v ds := by
  rcases h with h | ⟨b, off, cap, rows, e, h1, h2, h3, hc⟩
  · exact .inl h
  · exact .inr ⟨b, off, cap, rows, e, h1, h2, h3, fun i r hr => ⟨fun c u hu => held_of hb ((hc i r hr).1 c u hu) hB, (hc i r hr).2.up hb hB⟩⟩
theorem RdCL.at {w : World} {a : Option Addr} {n c : Nat} {ds : List CaseD} (h : RdCL w (.slice a n c) ds) {i : Nat} (hi : i < ds.length) :
    ∃ b off a1 a2, a = some ⟨b, off, none⟩ ∧ b < w.heap.size ∧ w.cell? ⟨b, off + i * 4, none⟩ = some (.string (ds.getD i ICL).name) ∧ w.cell? ⟨b, off + i * 4 + 1, none⟩ = some (.int .i64 (ds.getD i ICL).form.letters) ∧ w.cell? ⟨b, off + i * 4 + 2, none⟩ = some (a1) ∧ w.cell? ⟨b, off + i * 4 + 3, none⟩ = some (a2) ∧ RdCs w (.agg #[.string (ds.getD i ICL).name, .int .i64 (ds.getD i ICL).form.letters, a1, a2]) (ds.getD i ICL) := by
  rcases h with ⟨_, _, _, _, rfl⟩ | ⟨b, off, cap, rows, e, _, _, hd, hc⟩
  · simp at hi
  · simp only [Value.slice.injEq] at e
    obtain ⟨rfl, rfl, rfl⟩ := e
    have hir : i < rows.length := by rw [hd] at hi; simpa using hi
    have hg : ds.getD i ICL = rows[i].d := by rw [hd]; simp [hir]
    obtain ⟨h1, h2⟩ := hc i _ (List.getElem?_eq_getElem hir)
    rw [hg]
    have h0 := h1 0 _ rfl
    exact ⟨b, off, rows[i].a1, rows[i].a2, rfl, cell_lt h0, h0, h1 1 _ rfl, h1 2 _ rfl, h1 3 _ rfl, h2⟩

theorem OwnECL.up {lo hi : Nat} {w w' : World} {rows : List RowCL} {B : Nat} (h : OwnECL lo hi w rows) (hb : Below B w w') (hB : w.heap.size ≤ B) : OwnECL lo hi w' rows :=
  ⟨fun i r hr => ⟨(h.1 i r hr).1.up hb hB, (h.1 i r hr).2⟩, h.2⟩
theorem OwnECL.wide {lo hi lo' hi' : Nat} {w : World} {rows : List RowCL} (h : OwnECL lo hi w rows) (a : lo' ≤ lo) (b : hi ≤ hi') : OwnECL lo' hi' w rows :=
  ⟨fun i r hr => ⟨(h.1 i r hr).1, Nat.le_trans a (h.1 i r hr).2.1, Nat.le_trans (h.1 i r hr).2.2 b⟩, h.2⟩
theorem OwnECL.kept {lo hi : Nat} {w w' : World} {rows : List RowCL} {S : Nat → Prop} (h : OwnECL lo hi w rows) (hk : Kept S w w') (hs : ∀ (i : Nat) (r : RowCL), rows[i]? = some r → ∀ b, r.l ≤ b → b < r.h → ¬ S b) : OwnECL lo hi w' rows :=
  ⟨fun i r hr => ⟨(h.1 i r hr).1.kept hk (hs i r hr), (h.1 i r hr).2⟩, h.2⟩
theorem OwnCL.len {lo hi : Nat} {w : World} {v : Value} {ds : List CaseD} (h : OwnCL lo hi w v ds) : ds.length ≤ maxLen := by
  obtain ⟨rows, _, h2, _⟩ := h
  rcases h2.2 with ⟨_, e⟩ | ⟨g, cap, cur, _, _, _, hn, hm, _⟩
  · rw [e]; simp [maxLen]
  · omega
theorem OwnCL.rd {lo hi : Nat} {w : World} {v : Value} {ds : List CaseD} (h : OwnCL lo hi w v ds) : RdCL w v ds := by
  have hlen := h.len
  obtain ⟨rows, h1, h2, h3, h4⟩ := h
  have h2' := h2
  rcases h2.2 with ⟨rfl, e⟩ | ⟨g, cap, cur, rfl, hb, hg, hn, hm, hs, ht⟩
  · left; exact ⟨none, 0, rfl, by simp [maxLen], List.length_eq_zero_iff.1 e⟩
  · right
    refine ⟨g, 0, cap, rows, rfl, hn, hm, h1, fun i r hr => ⟨fun c u hu => ?_, (h4.1 i r hr).1.rd⟩⟩
    have hc : c < 4 := by
      have := (List.getElem?_eq_some_iff.1 hu).1
      rwa [cellsCL_len] at this
    have hi : i < ds.length := by rw [h1, List.length_map]; exact (List.getElem?_eq_some_iff.1 hr).1
    have h5 := h2'.cellAt (i * 4 + c) (by omega)
    rw [flat_at cellsCL 4 cellsCL_len rows i c r hr hc, hu] at h5
    simpa [Nat.add_assoc] using h5
theorem OwnCL.up {lo hi : Nat} {w w' : World} {v : Value} {ds : List CaseD} {B : Nat} (h : OwnCL lo hi w v ds) (hb : Below B w w') (hB : w.heap.size ≤ B) : OwnCL lo hi w' v ds := by
  obtain ⟨rows, h1, h2, h3, h4⟩ := h
  exact ⟨rows, h1, ownsK_below h2 hb hB, h3, h4.up hb hB⟩
theorem OwnCL.wide {lo hi lo' hi' : Nat} {w : World} {v : Value} {ds : List CaseD} (h : OwnCL lo hi w v ds) (a : lo' ≤ lo) (b : hi ≤ hi') : OwnCL lo' hi' w v ds := by
  obtain ⟨rows, h1, h2, h3, h4⟩ := h
  exact ⟨rows, h1, ownsK_base h2 a, fun g hg => ⟨Nat.lt_of_lt_of_le (h3 g hg).1 b, (h3 g hg).2⟩, h4.wide a b⟩
theorem OwnCL.kept {lo hi : Nat} {w w' : World} {v : Value} {ds : List CaseD} {S : Nat → Prop} (h : OwnCL lo hi w v ds) (hk : Kept S w w') (hs : ∀ b, lo ≤ b → b < hi → ¬ S b) : OwnCL lo hi w' v ds := by
  obtain ⟨rows, h1, h2, h3, h4⟩ := h
  exact ⟨rows, h1, ownsK_kept h2 hk fun g hg => hs g (h2.lt g hg).1 (h3 g hg).1, h3, h4.kept hk fun i r hr b a c => hs b (by have := (h4.1 i r hr).2.1; omega) (by have := (h4.1 i r hr).2.2; omega)⟩


theorem Try.infoZCL : (Try.prog.info? 33).map (fun i => (i.zero, i.size, i.bytes)) = some (some (.agg #[.string ⟨#[]⟩, .int .i64 0, .slice none 0 0, .slice none 0 0]), 4, 72) := by kernel_rfl

set_option maxHeartbeats 2000000 in
set_option maxRecDepth 4000 in
theorem eqCL_same (v v' : Value) (ds : List CaseD) (w : World) (h : RdCL w v ds) (h' : RdCL w v' ds) :
    Calls Try.prog 23 #[v, v'] w fun e w' => e = .returned (.bool true) ∧ Below w.heap.size w w' := by
  obtain ⟨a, c, rfl⟩ := h.shape
  obtain ⟨a', c', rfl⟩ := h'.shape
  have hl := h.len
  unfold maxLen at hl
  have hne : ((ds.length : Int) != (ds.length : Int)) = false := by simp
  have HS := Lib.hid h
  have HS' := Lib.hid h'
  clear h h'
  go_enter Try.func23, Try.ntmps23
  go_wp2_with fail
  go_loopw [5] (fun i wr => ∃ k : Nat, i = .int .i64 k ∧ k ≤ ds.length ∧ Below w.heap.size w wr) (fun i _ => ds.length - (intOf i).toNat)
  case atStart => exact ⟨0, rfl, Nat.zero_le _, Below.refl _ _⟩
  case round =>
    obtain ⟨k, rfl, hk, hbl⟩ := hrel
    have HB := Lib.hid hbl
    clear hbl
    by_cases hlt : k < ds.length
    · obtain ⟨b, off, z1, z2, rfl, hb0, x0, x1, x2, x3, hu⟩ := (HS.out.up HB.out (Nat.le_refl _)).at hlt
      obtain ⟨b', off', z1', z2', rfl, hb0', y0, y1, y2, y3, hu'⟩ := (HS'.out.up HB.out (Nat.le_refl _)).at hlt
      obtain ⟨d, hd⟩ : ∃ d, d = ds.getD k ICL := ⟨_, rfl⟩
      rw [← hd] at x0 x1 y0 y1 hu hu'
      obtain ⟨p1, q1, p2, q2, hsz⟩ := hu.shape
      obtain ⟨P1, Q1, P2, Q2, hsy⟩ := hu'.shape
      simp only [Value.agg.injEq, Array.mk.injEq, List.cons.injEq, and_true, true_and] at hsz hsy
      obtain ⟨rfl, rfl⟩ := hsz
      obtain ⟨rfl, rfl⟩ := hsy
      have HU := Lib.hid hu
      have HU' := Lib.hid hu'
      clear hd hu hu'
      have kk : (k : Int) < (ds.length : Int) := by omega
      have HKEEP := Lib.hid (show ∀ X, Below wr.heap.size wr X → (fun X => X.cell? ⟨b, off + k * 4, none⟩ = some (.string d.name) ∧ X.cell? ⟨b, off + k * 4 + 1, none⟩ = some (.int .i64 d.form.letters) ∧ X.cell? ⟨b, off + k * 4 + 2, none⟩ = some ((.slice p1 d.form.clauses.length q1)) ∧ X.cell? ⟨b, off + k * 4 + 3, none⟩ = some ((.slice p2 d.proof.length q2)) ∧ X.cell? ⟨b', off' + k * 4, none⟩ = some (.string d.name) ∧ X.cell? ⟨b', off' + k * 4 + 1, none⟩ = some (.int .i64 d.form.letters) ∧ X.cell? ⟨b', off' + k * 4 + 2, none⟩ = some ((.slice P1 d.form.clauses.length Q1)) ∧ X.cell? ⟨b', off' + k * 4 + 3, none⟩ = some ((.slice P2 d.proof.length Q2)) ∧ Below wr.heap.size wr X) X from fun X hb => ⟨held_of hb x0 (Nat.le_refl _), held_of hb x1 (Nat.le_refl _), held_of hb x2 (Nat.le_refl _), held_of hb x3 (Nat.le_refl _), held_of hb y0 (Nat.le_refl _), held_of hb y1 (Nat.le_refl _), held_of hb y2 (Nat.le_refl _), held_of hb y3 (Nat.le_refl _), hb⟩)
      go_wp2_with fail
      go_region_held3 (fun X => X.cell? ⟨b, off + k * 4, none⟩ = some (.string d.name) ∧ X.cell? ⟨b, off + k * 4 + 1, none⟩ = some (.int .i64 d.form.letters) ∧ X.cell? ⟨b, off + k * 4 + 2, none⟩ = some ((.slice p1 d.form.clauses.length q1)) ∧ X.cell? ⟨b, off + k * 4 + 3, none⟩ = some ((.slice p2 d.proof.length q2)) ∧ X.cell? ⟨b', off' + k * 4, none⟩ = some (.string d.name) ∧ X.cell? ⟨b', off' + k * 4 + 1, none⟩ = some (.int .i64 d.form.letters) ∧ X.cell? ⟨b', off' + k * 4 + 2, none⟩ = some ((.slice P1 d.form.clauses.length Q1)) ∧ X.cell? ⟨b', off' + k * 4 + 3, none⟩ = some ((.slice P2 d.proof.length Q2)) ∧ Below wr.heap.size wr X)
        (first | exact HKEEP.out _ hbn | (refine HKEEP.out _ ?_; (repeat' first | exact Below.refl _ _ | assumption | refine Below.alloc ?_ ?_ _ | refine Below.setCell ?_ ?_ _ | refine Below.drew ?_ | (simp; done) | (simp; omega)); done) | go_keep)
        (first
          | (go_at_call 19; have hcur := (‹_ ∧ _ ∧ _ ∧ _ ∧ _ ∧ _ ∧ _ ∧ _ ∧ Below wr.heap.size wr _›).2.2.2.2.2.2.2.2; refine (eqCs_same _ _ d _ (HU.out.up hcur (Nat.le_refl _)) (HU'.out.up hcur (Nat.le_refl _))).mono ?_; rintro e w1 ⟨rfl, hb1⟩; have hbn : Below wr.heap.size wr w1 := Below.trans hcur (hb1.mono hcur.size))
          | fail)
      go_wp2_with fail
      go_roundw
      case rel => exact ⟨k + 1, by go_num, by omega, HB.out.trans (hbn.mono HB.out.size)⟩
      case measure => simp [intOf]; omega
    · obtain rfl : k = ds.length := by omega
      go_wp2_with fail
      go_ret
      exact ⟨rfl, HB.out⟩

end Go.Proofs.Ytkkcgclliomocaa

namespace Go.Proofs.Ytkkcgclliomocaa
open Go.RowKit

theorem str_ext {s t : ByteArray} (h : s.toList = t.toList) : s = t := by
  rw [ByteArray.toList_eq, ByteArray.toList_eq] at h
  exact ByteArray.ext (Array.ext' h)
theorem str_ne {s t : ByteArray} (h : s ≠ t) : (s.toList == t.toList) = false := by
  cases hb : s.toList == t.toList
  · rfl
  · exact absurd (str_ext (eq_of_beq hb)) h

@[go_sem] theorem binOp_string_neq_true (t : TypeId) (a b : ByteArray) (h : (a.toList == b.toList) = false) : binOp .neq t (.string a) (.string b) = pure (.bool true) := by
  rw [binOp_string_neq, h]; rfl
@[go_sem] theorem binOp_string_neq_same (t : TypeId) (a : ByteArray) : binOp .neq t (.string a) (.string a) = pure (.bool false) := by
  rw [binOp_string_neq]; simp
@[go_sem] theorem binOp_string_eql_false (t : TypeId) (a b : ByteArray) (h : (a.toList == b.toList) = false) : binOp .eql t (.string a) (.string b) = pure (.bool false) := by
  rw [binOp_string_eql, h]
@[go_sem] theorem binOp_string_eql_same (t : TypeId) (a : ByteArray) : binOp .eql t (.string a) (.string a) = pure (.bool true) := by
  rw [binOp_string_eql]; simp

def allB (m : Nat) (p : Nat → Bool) : Bool := (List.range m).all p
theorem allB_true {m : Nat} {p : Nat → Bool} (h : ∀ i, i < m → p i = true) : allB m p = true := by
  unfold allB; rw [List.all_eq_true]; intro i hi; exact h i (List.mem_range.1 hi)
theorem allB_false {m : Nat} {p : Nat → Bool} {i : Nat} (hi : i < m) (h : p i = false) : allB m p = false := by
  unfold allB
  cases hb : (List.range m).all p
  · rfl
  · rw [List.all_eq_true] at hb
    have := hb i (List.mem_range.2 hi)
    rw [h] at this; cases this
theorem allB_iff {m : Nat} {p : Nat → Bool} : allB m p = true ↔ ∀ i, i < m → p i = true := by
  unfold allB; rw [List.all_eq_true]
  exact ⟨fun h i hi => h i (List.mem_range.2 hi), fun h i hi => h i (List.mem_range.1 hi)⟩

theorem inB_iff {lo hi n : Int} : inB lo hi n = true ↔ lo ≤ n ∧ n ≤ hi := by unfold inB; simp
theorem bool_false {b : Bool} (h : ¬ b = true) : b = false := by cases b <;> simp_all

end Go.Proofs.Ytkkcgclliomocaa

namespace Go.Proofs.Ytkkcgclliomocaa
open Go.RowKit

/-- The byte is a small letter. -/
def smallB (c : UInt8) : Bool := decide (97 ≤ c.toNat) && decide (c.toNat ≤ 122)
def nameB (s : ByteArray) : Bool := inB 1 8 s.size && allB s.size fun i => smallB (s.data.toList.getD i 0)

def litB (n x : Int) : Bool := decide (x ≠ 0) && inB (-n) n x
def okAt (n : Int) (xs : List Int) (i : Nat) : Bool := litB n (xs.getD i 0) && (decide (i = 0) || decide ((xs.getD (i - 1) 0).natAbs < (xs.getD i 0).natAbs))
def clauseB (n : Int) (xs : List Int) : Bool := inB 1 10 n && allB xs.length (okAt n xs)
/-- What the reference looks for first: literals of different letters. -/
def litAt (n : Int) (xs : List Int) (i : Nat) : Bool := litB n (xs.getD i 0) && allB i fun j => decide ((xs.getD j 0).natAbs ≠ (xs.getD i 0).natAbs)
def litsB (n : Int) (xs : List Int) : Bool := allB xs.length (litAt n xs)
def downAt (xs : List Int) (i : Nat) : Bool := decide (i = 0) || decide ((xs.getD (i - 1) 0).natAbs ≤ (xs.getD i 0).natAbs)

theorem clause_eq (n : Int) (xs : List Int) : (litsB n xs && allB xs.length (downAt xs)) = allB xs.length (okAt n xs) := by
  rw [Bool.eq_iff_iff, Bool.and_eq_true]
  unfold litsB
  rw [allB_iff, allB_iff, allB_iff]
  constructor
  · rintro ⟨h1, h2⟩ i hi
    have a := h1 i hi
    have b := h2 i hi
    unfold litAt at a
    unfold downAt at b
    unfold okAt
    rw [Bool.and_eq_true, allB_iff] at a
    rw [Bool.and_eq_true]
    refine ⟨a.1, ?_⟩
    rcases Nat.eq_zero_or_pos i with rfl | h0
    · simp
    · have c := a.2 (i - 1) (by omega)
      have hz : ¬ i = 0 := by omega
      simp only [hz, decide_false, Bool.false_or, decide_eq_true_eq] at b c ⊢
      omega
  · intro h
    have mono : ∀ d i, i < xs.length → d ≤ i → d ≠ 0 → (xs.getD (i - d) 0).natAbs < (xs.getD i 0).natAbs := by
      intro d
      induction d with
      | zero => intro i _ _ h; exact absurd rfl h
      | succ d ih =>
        intro i hi hd _
        have a := h (i - d) (by omega)
        unfold okAt at a
        rw [Bool.and_eq_true] at a
        have hz : ¬ i - d = 0 := by omega
        have a2 := a.2
        simp only [hz, decide_false, Bool.false_or, decide_eq_true_eq] at a2
        rw [show i - d - 1 = i - (d + 1) by omega] at a2
        by_cases h0 : d = 0
        · subst h0; exact a2
        · exact Nat.lt_trans a2 (ih i hi (by omega) h0)
    refine ⟨fun i hi => ?_, fun i hi => ?_⟩
    · unfold litAt
      rw [Bool.and_eq_true, allB_iff]
      have a := h i hi
      unfold okAt at a
      rw [Bool.and_eq_true] at a
      refine ⟨a.1, fun j hj => ?_⟩
      have := mono (i - j) i hi (by omega) (by omega)
      rw [show i - (i - j) = j by omega] at this
      simp only [decide_eq_true_eq]
      omega
    · unfold downAt
      rcases Nat.eq_zero_or_pos i with rfl | h0
      · simp
      · have := mono 1 i hi (by omega) (by omega)
        rw [Bool.or_eq_true, decide_eq_true_eq, decide_eq_true_eq]
        right; omega

def formB (f : FormD) : Bool := (inB 1 10 f.letters && decide (f.clauses.length ≤ 48)) && allB f.clauses.length fun i => clauseB f.letters (f.clauses.getD i [])
def caseB (c : CaseD) : Bool := (nameB c.name && (formB c.form && decide (c.proof.length ≤ 128))) && allB c.proof.length fun i => clauseB c.form.letters (c.proof.getD i [])

theorem litB_bd {n x : Int} (hn : inB 1 10 n = true) (h : litB n x = true) : -10 ≤ x ∧ x ≤ 10 ∧ x ≠ 0 := by
  unfold litB inB at h
  unfold inB at hn
  simp only [Bool.and_eq_true, decide_eq_true_eq] at h hn
  omega

end Go.Proofs.Ytkkcgclliomocaa

namespace Go.Proofs.Ytkkcgclliomocaa
open Go.RowKit

theorem wp_region_cls {P : Program} {id : Nat} {Q : Exit → Act → World → Prop} {a : Act} {w : World} {l : List Oper} (C : World → Prop) (hm : P.follows .mixedOrders = true) (hB : Region.lexB .any l.toArray = true) (hC : C w.drew)
    (h : wpQuiet P l.toArray C (fun a' => ∀ w', C w' → Q .normal a' w') l a) : (Code.region id l.toArray true).wp P Q a w :=
  wp_region_quiet (C := C) hm hB hC (by simpa using h)

theorem q_step {P : Program} {ops : Array Oper} {C : World → Prop} {Q : Act → Prop} {o : Oper} {rest : List Oper} {a : Act} (hw : Region.wanted o (yielded ops a.tmps) = true)
    (h : ∃ v, (∀ X, C X → o.quietAt P a C X v) ∧ wpQuiet P ops C Q rest (a.put o.dst v)) : wpQuiet P ops C Q (o :: rest) a :=
  wpQuiet_step fun _ hK => by obtain ⟨v, h1, h2⟩ := h; rw [if_pos hw]; exact ⟨v, h1, hK _ h2⟩

end Go.Proofs.Ytkkcgclliomocaa

namespace Go.Proofs.Ytkkcgclliomocaa
open Go.RowKit

theorem getD_str (s : ByteArray) (k : Nat) (h : k < s.size) : s.data.toList.getD k 0 = s[k] := by
  have h' : k < s.data.toList.length := by simpa using h
  rw [List.getD_eq_getElem?_getD, List.getElem?_eq_getElem h']
  rfl

set_option maxHeartbeats 1000000 in
theorem implIsName_any (s : ByteArray) (w : World) (hs : s.size ≤ maxLen) :
    Calls Try.prog 55 #[.string s] w fun e w' => e = .returned (.bool (nameB s)) ∧ w = w' := by
  have HS := Lib.hid hs
  unfold maxLen at hs
  by_cases hn : inB 1 8 s.size = true
  · have HN := Lib.hid hn
    have hb := inB_iff.1 hn
    go_enter Try.func55, Try.ntmps55
    go_wp2_with (first
      | (go_at_call 97; refine (size_any _ _ HS.out).mono ?_; rintro e w' ⟨rfl, rfl⟩)
      | (go_at_call 106; refine (within_any _ _ _ _).mono ?_; rintro e w' ⟨rfl, rfl⟩))
    clear hn
    go_loop [3] (fun i => ∃ k : Nat, i = .int .i64 k ∧ k ≤ s.size ∧ Hid (∀ j, j < k → smallB (s.data.toList.getD j 0) = true)) (fun i => s.size - (intOf i).toNat)
    case atStart => exact ⟨0, rfl, Nat.zero_le _, fun j hj => by omega⟩
    case round =>
      obtain ⟨k, rfl, hk, hall⟩ := hrel
      by_cases hlt : k < s.size
      · have HG := Lib.hid (getD_str s k hlt)
        by_cases h1 : 97 ≤ s[k].toNat
        · by_cases h2 : s[k].toNat ≤ 122
          · go_wp2
            go_round
            case rel =>
              refine ⟨k + 1, by go_num, by omega, fun j hj => ?_⟩
              by_cases hjk : j < k
              · exact hall.out j hjk
              · obtain rfl : j = k := by omega
                rw [HG.out]; unfold smallB; simp [h1, h2]
            case measure => simp [intOf]; omega
          · go_wp2
            go_ret
            refine ⟨?_, rfl⟩
            rw [show nameB s = false by unfold nameB; rw [allB_false hlt (by rw [HG.out]; unfold smallB; simp; omega), Bool.and_false]]; rfl
        · go_wp2
          go_ret
          refine ⟨?_, rfl⟩
          rw [show nameB s = false by unfold nameB; rw [allB_false hlt (by rw [HG.out]; unfold smallB; simp; omega), Bool.and_false]]; rfl
      · obtain rfl : k = s.size := by omega
        go_wp2
        go_ret
        refine ⟨?_, rfl⟩
        rw [show nameB s = true by unfold nameB; rw [HN.out, Bool.true_and]; exact allB_true hall.out]; rfl
  · have hn' := bool_false hn
    clear hn
    go_enter Try.func55, Try.ntmps55
    go_wp2_with (first
      | (go_at_call 97; refine (size_any _ _ HS.out).mono ?_; rintro e w' ⟨rfl, rfl⟩)
      | (go_at_call 106; refine (within_any _ _ _ _).mono ?_; rintro e w' ⟨rfl, rfl⟩))
    go_ret
    refine ⟨?_, rfl⟩
    rw [show nameB s = false by unfold nameB; rw [hn', Bool.false_and]]; rfl

set_option maxHeartbeats 1000000 in
theorem specIsName_any (s : ByteArray) (w : World) (hs : s.size ≤ maxLen) :
    Calls Try.prog 128 #[.string s] w fun e w' => e = .returned (.bool (nameB s)) ∧ w = w' := by
  unfold maxLen at hs
  go_enter Try.func128, Try.ntmps128
  go_wp2
  go_loop [3] (fun i => ∃ k : Nat, i = .int .i64 k ∧ k ≤ s.size ∧ Hid (∀ j, j < k → smallB (s.data.toList.getD j 0) = true)) (fun i => s.size - (intOf i).toNat)
  case atStart => exact ⟨0, rfl, Nat.zero_le _, fun j hj => by omega⟩
  case round =>
    obtain ⟨k, rfl, hk, hall⟩ := hrel
    by_cases hlt : k < s.size
    · have HG := Lib.hid (getD_str s k hlt)
      by_cases h1 : 97 ≤ s[k].toNat
      · by_cases h2 : s[k].toNat ≤ 122
        · go_wp2
          go_round
          case rel =>
            refine ⟨k + 1, by go_num, by omega, fun j hj => ?_⟩
            by_cases hjk : j < k
            · exact hall.out j hjk
            · obtain rfl : j = k := by omega
              rw [HG.out]; unfold smallB; simp [h1, h2]
          case measure => simp [intOf]; omega
        · go_wp2
          go_ret
          refine ⟨?_, rfl⟩
          rw [show nameB s = false by unfold nameB; rw [allB_false hlt (by rw [HG.out]; unfold smallB; simp; omega), Bool.and_false]]; rfl
      · go_wp2
        go_ret
        refine ⟨?_, rfl⟩
        rw [show nameB s = false by unfold nameB; rw [allB_false hlt (by rw [HG.out]; unfold smallB; simp; omega), Bool.and_false]]; rfl
    · obtain rfl : k = s.size := by omega
      by_cases h1 : 1 ≤ s.size
      · by_cases h8 : s.size ≤ 8
        · go_wp2
          go_ret
          refine ⟨?_, rfl⟩
          rw [show nameB s = true by unfold nameB; rw [inB_true (by omega), Bool.true_and]; exact allB_true hall.out]; first | rfl | (simp; omega)
        · go_wp2
          go_ret
          refine ⟨?_, rfl⟩
          rw [show nameB s = false by unfold nameB; rw [inB_false (by omega), Bool.false_and]]; first | rfl | (simp; omega)
      · go_wp2
        go_ret
        refine ⟨?_, rfl⟩
        rw [show nameB s = false by unfold nameB; rw [inB_false (by omega), Bool.false_and]]; first | rfl | (simp; omega)

set_option maxHeartbeats 400000 in
theorem isLetterCount_any (n : Int) (w : World) :
    Calls Try.prog 107 #[.int .i64 n] w fun e w' => e = .returned (.bool (inB 1 10 n)) ∧ w = w' := by
  go_enter Try.func107, Try.ntmps107
  go_wp2_with (go_at_call 106; refine (within_any _ _ _ _).mono ?_; rintro e w' ⟨rfl, rfl⟩)
  go_ret
  exact ⟨rfl, rfl⟩

set_option maxHeartbeats 400000 in
theorem isLiteral_any (n x : Int) (w : World) (hn : 1 ≤ n) (hn2 : n ≤ 10) :
    Calls Try.prog 108 #[.int .i64 n, .int .i64 x] w fun e w' => e = .returned (.bool (litB n x)) ∧ w = w' := by
  by_cases hx : x = 0
  · subst hx
    go_enter Try.func108, Try.ntmps108
    go_wp2_with fail
    go_ret
    exact ⟨rfl, rfl⟩
  · have h0 : (x != 0) = true := by simp [hx]
    have h1 := Lib.hid (show decide (x ≠ 0) = true by simp [hx])
    clear hx
    go_enter Try.func108, Try.ntmps108
    go_wp2_with (go_at_call 106; refine (within_any _ _ _ _).mono ?_; rintro e w' ⟨rfl, rfl⟩)
    go_ret
    exact ⟨by unfold litB; rw [h1.out]; simp, rfl⟩

set_option maxHeartbeats 400000 in
theorem letterOf_any (x : Int) (w : World) (h1 : -10 ≤ x) (h2 : x ≤ 10) :
    Calls Try.prog 109 #[.int .i64 x] w fun e w' => e = .returned (.int .i64 (x.natAbs : Nat)) ∧ w = w' := by
  go_enter Try.func109, Try.ntmps109
  go_wp2_with fail
  all_goals
    go_ret
    exact ⟨congrArg (fun z => Ending.returned (Value.int IntKind.i64 z)) (by omega), rfl⟩

set_option maxHeartbeats 2000000 in
theorem implClause_any (n : Int) (v : Value) (xs : List Int) (w : World) (h : RdI w v xs) :
    Calls Try.prog 57 #[.int .i64 n, v] w fun e w' => e = .returned (.bool (clauseB n xs)) ∧ w = w' := by
  obtain ⟨a, c, rfl⟩ := h.shape
  have hl := h.len
  unfold maxLen at hl
  have HS := Lib.hid h
  clear h
  by_cases hn : inB 1 10 n = true
  · have HN := Lib.hid hn
    obtain ⟨n1, n2⟩ := inB_iff.1 hn
    go_enter Try.func57, Try.ntmps57
    go_wp2_with (go_at_call 107; refine (isLetterCount_any _ _).mono ?_; rintro e w' ⟨rfl, rfl⟩)
    clear hn
    go_loop [12] (fun i => ∃ k : Nat, i = .int .i64 k ∧ k ≤ xs.length ∧ Hid (∀ j, j < k → okAt n xs j = true)) (fun i => xs.length - (intOf i).toNat)
    case atStart => exact ⟨0, rfl, Nat.zero_le _, fun j hj => by omega⟩
    case round =>
      obtain ⟨k, rfl, hk, hall⟩ := hrel
      by_cases hlt : k < xs.length
      · obtain ⟨b, off, rfl, hb0, hc⟩ := HS.out.at hlt
        have hno := Lib.hid (show okAt n xs k = false → clauseB n xs = false from fun h => by unfold clauseB; rw [allB_false hlt h, Bool.and_false])
        have hok := Lib.hid (show okAt n xs k = true → ∀ j, j < k + 1 → okAt n xs j = true from fun h j hj => by
          by_cases hjk : j < k
          · exact hall.out j hjk
          · obtain rfl : j = k := by omega
            exact h)
        by_cases hlit : litB n (xs.getD k 0) = true
        · obtain ⟨x1, x2, x3⟩ := litB_bd HN.out hlit
          rcases Nat.eq_zero_or_pos k with hk0 | h0
          · have hg := Lib.hid (hok.out (by unfold okAt; rw [hlit]; simp [hk0]))
            replace hk0 : (k : Int) ≤ 0 := by omega
            generalize xs.getD k 0 = x at *
            go_wp2_with (first
              | (go_at_call 108; refine (isLiteral_any _ _ _ n1 n2).mono ?_; rintro e w' ⟨rfl, rfl⟩)
              | (go_at_call 109; refine (letterOf_any _ _ (by omega) (by omega)).mono ?_; rintro e w' ⟨rfl, rfl⟩))
            go_round
            case rel => exact ⟨k + 1, by go_num, by omega, hg.out⟩
            case measure => simp [intOf]; omega
          · have hp := hall.out (k - 1) (by omega)
            have hpl : litB n (xs.getD (k - 1) 0) = true := by unfold okAt at hp; rw [Bool.and_eq_true] at hp; exact hp.1
            obtain ⟨y1, y2, y3⟩ := litB_bd HN.out hpl
            obtain ⟨_, _, e, _, hc2⟩ := HS.out.at (i := k - 1) (by omega)
            simp only [Option.some.injEq, Addr.mk.injEq, and_true] at e
            obtain ⟨rfl, rfl⟩ := e
            have hval := Lib.hid (show okAt n xs k = decide ((xs.getD (k - 1) 0).natAbs < (xs.getD k 0).natAbs) by unfold okAt; rw [hlit]; simp; intro h; omega)
            have hjm : (k : Int) - 1 < xs.length := by omega
            have hjm0 : (0 : Int) ≤ (k : Int) - 1 := by omega
            have hjt : ((k : Int) - 1).toNat = k - 1 := by omega
            clear hp hpl
            generalize xs.getD k 0 = x at *
            generalize xs.getD (k - 1) 0 = y at *
            by_cases hxy : y.natAbs < x.natAbs
            · have hxd : decide (x.natAbs ≤ y.natAbs) = false := by simp; omega
              have hg := Lib.hid (hok.out (by rw [hval.out]; simp [hxy]))
              clear hxy
              go_wp2_with (first
                | (go_at_call 108; refine (isLiteral_any _ _ _ n1 n2).mono ?_; rintro e w' ⟨rfl, rfl⟩)
                | (go_at_call 109; refine (letterOf_any _ _ (by omega) (by omega)).mono ?_; rintro e w' ⟨rfl, rfl⟩))
              clear hjt
              go_round
              case rel => exact ⟨k + 1, by go_num, by omega, hg.out⟩
              case measure => simp [intOf]; omega
            · have hxd : decide (x.natAbs ≤ y.natAbs) = true := by simp; omega
              have hg := Lib.hid (hno.out (by rw [hval.out]; simp [hxy]))
              clear hxy
              go_wp2_with (first
                | (go_at_call 108; refine (isLiteral_any _ _ _ n1 n2).mono ?_; rintro e w' ⟨rfl, rfl⟩)
                | (go_at_call 109; refine (letterOf_any _ _ (by omega) (by omega)).mono ?_; rintro e w' ⟨rfl, rfl⟩))
              go_ret
              exact ⟨by rw [hg.out]; rfl, rfl⟩
        · have hlf := bool_false hlit
          have hg := Lib.hid (hno.out (by unfold okAt; rw [hlf, Bool.false_and]))
          clear hlit
          generalize xs.getD k 0 = x at *
          go_wp2_with (go_at_call 108; refine (isLiteral_any _ _ _ n1 n2).mono ?_; rintro e w' ⟨rfl, rfl⟩)
          go_ret
          exact ⟨by rw [hg.out]; rfl, rfl⟩
      · obtain rfl : k = xs.length := by omega
        go_wp2_with fail
        go_ret
        exact ⟨by rw [show clauseB n xs = true by unfold clauseB; rw [HN.out, Bool.true_and]; exact allB_true hall.out]; rfl, rfl⟩
  · have hn' := bool_false hn
    clear hn
    go_enter Try.func57, Try.ntmps57
    go_wp2_with (go_at_call 107; refine (isLetterCount_any _ _).mono ?_; rintro e w' ⟨rfl, rfl⟩)
    go_ret
    exact ⟨by rw [show clauseB n xs = false by unfold clauseB; rw [hn', Bool.false_and]]; rfl, rfl⟩

end Go.Proofs.Ytkkcgclliomocaa

namespace Go.Proofs.Ytkkcgclliomocaa
open Go.RowKit

set_option maxHeartbeats 2000000 in
theorem implValidForm_any (v : Value) (f : FormD) (w : World) (h : RdFm w v f) :
    Calls Try.prog 56 #[v] w fun e w' => e = .returned (.bool (formB f)) ∧ Below w.heap.size w w' := by
  obtain ⟨a, c, rfl⟩ := h.shape
  have p := h.parts
  obtain ⟨n, xs⟩ := f
  simp only at p ⊢
  have hl := p.len
  unfold maxLen at hl
  have HS := Lib.hid p
  clear h p
  by_cases hn : inB 1 10 n = true
  · have HN := Lib.hid hn
    clear hn
    by_cases h48 : xs.length ≤ 48
    · go_enter Try.func56, Try.ntmps56
      go_wp2_with (go_at_call 107; refine (isLetterCount_any _ _).mono ?_; rintro e w' ⟨rfl, rfl⟩; rw [HN.out])
      refine wp_at fun W hW => ?_
      have HB := Lib.hid (show Below w.heap.size w W by subst hW; (repeat' first | exact Below.refl _ _ | assumption | refine Below.alloc ?_ ?_ _ | refine Below.setCell ?_ ?_ _ | refine Below.drew ?_ | (simp; done) | (simp; omega)))
      have d0 : W.cell? ⟨w.heap.size, 0, none⟩ = some (.int .i64 n) := by subst hW; exact (Blk.new w 31 #[.int .i64 n, .slice a xs.length c]).cell 0 rfl
      clear hW
      go_loop [18] (fun i => ∃ k : Nat, i = .int .i64 k ∧ k ≤ xs.length ∧ Hid (∀ j, j < k → clauseB n (xs.getD j []) = true)) (fun i => xs.length - (intOf i).toNat)
      case atStart => exact ⟨0, rfl, Nat.zero_le _, fun j hj => by omega⟩
      case round =>
        obtain ⟨k, rfl, hk, hall⟩ := hrel
        by_cases hlt : k < xs.length
        · obtain ⟨b, off, u, rfl, hb0, hc, hu⟩ := (HS.out.up HB.out (Nat.le_refl _)).at hlt
          have HU := Lib.hid hu
          have hno := Lib.hid (show clauseB n (xs.getD k []) = false → formB ⟨n, xs⟩ = false from fun h => by unfold formB; rw [allB_false hlt h, Bool.and_false])
          have hok := Lib.hid (show clauseB n (xs.getD k []) = true → ∀ j, j < k + 1 → clauseB n (xs.getD j []) = true from fun h j hj => by
            by_cases hjk : j < k
            · exact hall.out j hjk
            · obtain rfl : j = k := by omega
              exact h)
          clear hu
          cases hq : clauseB n (xs.getD k [])
          · have hg := Lib.hid (hno.out hq)
            have HQ := Lib.hid hq
            clear hq
            go_wp2_with (go_at_call 57; refine (implClause_any _ _ _ _ HU.out).mono ?_; rintro e w' ⟨rfl, rfl⟩; rw [HQ.out])
            go_ret
            exact ⟨by rw [hg.out]; rfl, HB.out⟩
          · have hg := Lib.hid (hok.out hq)
            have HQ := Lib.hid hq
            clear hq
            go_wp2_with (go_at_call 57; refine (implClause_any _ _ _ _ HU.out).mono ?_; rintro e w' ⟨rfl, rfl⟩; rw [HQ.out])
            go_round
            case rel => exact ⟨k + 1, by go_num, by omega, hg.out⟩
            case measure => simp [intOf]; omega
        · obtain rfl : k = xs.length := by omega
          go_wp2_with fail
          go_ret
          exact ⟨by rw [show formB ⟨n, xs⟩ = true by unfold formB; simp only [HN.out, Bool.true_and]; rw [allB_true hall.out]; simp [h48]]; rfl, HB.out⟩
    · go_enter Try.func56, Try.ntmps56
      go_wp2_with (go_at_call 107; refine (isLetterCount_any _ _).mono ?_; rintro e w' ⟨rfl, rfl⟩; rw [HN.out])
      go_ret
      refine ⟨by rw [show formB ⟨n, xs⟩ = false by unfold formB; simp only [h48, decide_false, Bool.and_false, Bool.false_and]]; rfl, ?_⟩
      (repeat' first | exact Below.refl _ _ | assumption | refine Below.alloc ?_ ?_ _ | refine Below.setCell ?_ ?_ _ | refine Below.drew ?_ | (simp; done) | (simp; omega))
  · have HN := Lib.hid (bool_false hn)
    clear hn
    go_enter Try.func56, Try.ntmps56
    go_wp2_with (go_at_call 107; refine (isLetterCount_any _ _).mono ?_; rintro e w' ⟨rfl, rfl⟩; rw [HN.out])
    go_ret
    refine ⟨by rw [show formB ⟨n, xs⟩ = false by unfold formB; simp only [HN.out, Bool.false_and]]; rfl, ?_⟩
    (repeat' first | exact Below.refl _ _ | assumption | refine Below.alloc ?_ ?_ _ | refine Below.setCell ?_ ?_ _ | refine Below.drew ?_ | (simp; done) | (simp; omega))

set_option maxHeartbeats 2000000 in
theorem implValidCase_any (v : Value) (d : CaseD) (w : World) (h : RdCs w v d) :
    Calls Try.prog 13 #[v] w fun e w' => e = .returned (.bool (caseB d)) ∧ Below w.heap.size w w' := by
  obtain ⟨a1, c1, a2, c2, rfl⟩ := h.shape
  obtain ⟨p, q, hns⟩ := h.parts
  obtain ⟨nm, f, xs⟩ := d
  simp only at p q hns ⊢
  have hl := q.len
  unfold maxLen at hl
  have HF := Lib.hid p
  have HS := Lib.hid q
  have HNS := Lib.hid hns
  clear h p q hns
  by_cases hn : nameB nm = true
  · have HN := Lib.hid hn
    clear hn
    by_cases hf : formB f = true
    · have HFB := Lib.hid hf
      clear hf
      by_cases h128 : xs.length ≤ 128
      · go_enter Try.func13, Try.ntmps13
        go_wp2_with (go_at_call 55; refine (implIsName_any _ _ HNS.out).mono ?_; rintro e w' ⟨rfl, rfl⟩; rw [HN.out])
        refine Calls.at fun W hW => ?_
        have hb := show Below w.heap.size w W by subst hW; (repeat' first | exact Below.refl _ _ | assumption | refine Below.alloc ?_ ?_ _ | refine Below.setCell ?_ ?_ _ | refine Below.drew ?_ | (simp; done) | (simp; omega))
        have hk := show Blk W w.heap.size 33 #[.string nm, .int .i64 f.letters, .slice a1 f.clauses.length c1, .slice a2 xs.length c2] by subst hW; exact Blk.new _ _ _
        clear hW
        refine (implValidForm_any _ f W (HF.out.up hb (Nat.le_refl _))).mono ?_
        rintro e w1 ⟨rfl, hb1⟩
        rw [HFB.out]
        have HB := Lib.hid (hb.trans (hb1.mono hb.size))
        have hk1 := hk.below hb1 hk.lt
        have d1 : w1.cell? ⟨w.heap.size, 1, none⟩ = some (.int .i64 f.letters) := hk1.cell 1 rfl
        have d3 : w1.cell? ⟨w.heap.size, 3, none⟩ = some (.slice a2 xs.length c2) := hk1.cell 3 rfl
        clear hb hk hb1 hk1
        go_wp2_with fail
        go_loop [24] (fun i => ∃ k : Nat, i = .int .i64 k ∧ k ≤ xs.length ∧ Hid (∀ j, j < k → clauseB f.letters (xs.getD j []) = true)) (fun i => xs.length - (intOf i).toNat)
        case atStart => exact ⟨0, rfl, Nat.zero_le _, fun j hj => by omega⟩
        case round =>
          obtain ⟨k, rfl, hk, hall⟩ := hrel
          by_cases hlt : k < xs.length
          · obtain ⟨b, off, u, rfl, hb0, hc, hu⟩ := (HS.out.up HB.out (Nat.le_refl _)).at hlt
            have HU := Lib.hid hu
            have hno := Lib.hid (show clauseB f.letters (xs.getD k []) = false → caseB ⟨nm, f, xs⟩ = false from fun h => by unfold caseB; rw [allB_false hlt h, Bool.and_false])
            have hok := Lib.hid (show clauseB f.letters (xs.getD k []) = true → ∀ j, j < k + 1 → clauseB f.letters (xs.getD j []) = true from fun h j hj => by
              by_cases hjk : j < k
              · exact hall.out j hjk
              · obtain rfl : j = k := by omega
                exact h)
            clear hu
            cases hq : clauseB f.letters (xs.getD k [])
            · have hg := Lib.hid (hno.out hq)
              have HQ := Lib.hid hq
              clear hq
              go_wp2_with (go_at_call 57; refine (implClause_any _ _ _ _ HU.out).mono ?_; rintro e w' ⟨rfl, rfl⟩; rw [HQ.out])
              go_ret
              exact ⟨by rw [hg.out]; rfl, HB.out⟩
            · have hg := Lib.hid (hok.out hq)
              have HQ := Lib.hid hq
              clear hq
              go_wp2_with (go_at_call 57; refine (implClause_any _ _ _ _ HU.out).mono ?_; rintro e w' ⟨rfl, rfl⟩; rw [HQ.out])
              go_round
              case rel => exact ⟨k + 1, by go_num, by omega, hg.out⟩
              case measure => simp [intOf]; omega
          · obtain rfl : k = xs.length := by omega
            go_wp2_with fail
            go_ret
            exact ⟨by rw [show caseB ⟨nm, f, xs⟩ = true by unfold caseB; simp only [HN.out, HFB.out, Bool.true_and]; rw [allB_true hall.out]; simp [h128]]; rfl, HB.out⟩
      · go_enter Try.func13, Try.ntmps13
        go_wp2_with (go_at_call 55; refine (implIsName_any _ _ HNS.out).mono ?_; rintro e w' ⟨rfl, rfl⟩; rw [HN.out])
        refine Calls.at fun W hW => ?_
        have hb := show Below w.heap.size w W by subst hW; (repeat' first | exact Below.refl _ _ | assumption | refine Below.alloc ?_ ?_ _ | refine Below.setCell ?_ ?_ _ | refine Below.drew ?_ | (simp; done) | (simp; omega))
        have hk := show Blk W w.heap.size 33 #[.string nm, .int .i64 f.letters, .slice a1 f.clauses.length c1, .slice a2 xs.length c2] by subst hW; exact Blk.new _ _ _
        clear hW
        refine (implValidForm_any _ f W (HF.out.up hb (Nat.le_refl _))).mono ?_
        rintro e w1 ⟨rfl, hb1⟩
        rw [HFB.out]
        have HB := Lib.hid (hb.trans (hb1.mono hb.size))
        have hk1 := hk.below hb1 hk.lt
        have d3 : w1.cell? ⟨w.heap.size, 3, none⟩ = some (.slice a2 xs.length c2) := hk1.cell 3 rfl
        clear hb hk hb1 hk1
        go_wp2_with fail
        go_ret
        exact ⟨by rw [show caseB ⟨nm, f, xs⟩ = false by unfold caseB; simp only [h128, decide_false, Bool.and_false, Bool.false_and]]; rfl, HB.out⟩
    · have HFB := Lib.hid (bool_false hf)
      clear hf
      go_enter Try.func13, Try.ntmps13
      go_wp2_with (go_at_call 55; refine (implIsName_any _ _ HNS.out).mono ?_; rintro e w' ⟨rfl, rfl⟩; rw [HN.out])
      refine Calls.at fun W hW => ?_
      have hb := show Below w.heap.size w W by subst hW; (repeat' first | exact Below.refl _ _ | assumption | refine Below.alloc ?_ ?_ _ | refine Below.setCell ?_ ?_ _ | refine Below.drew ?_ | (simp; done) | (simp; omega))
      clear hW
      refine (implValidForm_any _ f W (HF.out.up hb (Nat.le_refl _))).mono ?_
      rintro e w1 ⟨rfl, hb1⟩
      rw [HFB.out]
      have HB := Lib.hid (hb.trans (hb1.mono hb.size))
      clear hb hb1
      go_wp2_with fail
      go_ret
      exact ⟨by rw [show caseB ⟨nm, f, xs⟩ = false by unfold caseB; simp only [HFB.out, Bool.and_false, Bool.false_and]]; rfl, HB.out⟩
  · have HN := Lib.hid (bool_false hn)
    clear hn
    go_enter Try.func13, Try.ntmps13
    go_wp2_with (go_at_call 55; refine (implIsName_any _ _ HNS.out).mono ?_; rintro e w' ⟨rfl, rfl⟩; rw [HN.out])
    go_ret
    refine ⟨by rw [show caseB ⟨nm, f, xs⟩ = false by unfold caseB; simp only [HN.out, Bool.false_and]]; rfl, ?_⟩
    (repeat' first | exact Below.refl _ _ | assumption | refine Below.alloc ?_ ?_ _ | refine Below.setCell ?_ ?_ _ | refine Below.drew ?_ | (simp; done) | (simp; omega))

end Go.Proofs.Ytkkcgclliomocaa
