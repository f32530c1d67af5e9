/-
  FnExactToSimplex: texts joined: MarkL, HeldL, FormO, CaseO, Flat, Jobs.
-/
import Derived.Test.YtkkcgclliomocaaMEToSimplexAA
import Derived.Test.YtkkcgclliomocaaMEToSimplexAC
import Derived.Test.YtkkcgclliomocaaMEToSimplexAG
namespace Go.Proofs.Ytkkcgclliomocaa
open Go.RowKit

def cntL (zss : List (List Int)) : Nat := lsum zss
theorem cntL_le (zss : List (List Int)) : cntL zss ≤ bulkL zss := by unfold cntL bulkL; omega
/-- The first j lists marked from k on. -/
def mkP (k : Int) : List (List Int) → Nat → List (List Int)
  | [], _ => []
  | zss, 0 => zss
  | z :: r, j + 1 => mkI k z.length :: mkP (k + z.length) r j
def mkdL (k : Int) (zss : List (List Int)) : List (List Int) := mkP k zss zss.length
theorem mkP_zero (k : Int) (zss : List (List Int)) : mkP k zss 0 = zss := by cases zss <;> rfl
theorem mkP_length (k : Int) : ∀ (zss : List (List Int)) (j : Nat), (mkP k zss j).length = zss.length
  | [], j => by cases j <;> rfl
  | z :: r, 0 => rfl
  | z :: r, j + 1 => by simp only [mkP, List.length_cons, mkP_length (k + z.length) r j]
theorem mkP_late (k : Int) : ∀ (zss : List (List Int)) (j i : Nat), j ≤ i → (mkP k zss j)[i]? = zss[i]?
  | [], j, i, _ => by cases j <;> rfl
  | z :: r, 0, i, _ => rfl
  | z :: r, j + 1, i, h => by
    cases i with
    | zero => omega
    | succ i => simp only [mkP, List.getElem?_cons_succ]; exact mkP_late (k + z.length) r j i (by omega)
theorem mkP_set (k : Int) : ∀ (zss : List (List Int)) (j : Nat), j < zss.length → mkP k zss (j + 1) = (mkP k zss j).set j (mkI (k + lsum (zss.take j)) (zss.getD j []).length)
  | [], j, h => by simp at h
  | z :: r, 0, h => by simp [mkP, mkP_zero, lsum]
  | z :: r, j + 1, h => by
    have ih := mkP_set (k + z.length) r j (by simpa using h)
    rw [mkP, ih, mkP, List.set_cons_succ]
    congr 2
    simp only [List.take_succ_cons, lsum, List.getD_cons_succ]
    congr 1
    push_cast
    omega
theorem mkdL_at (k : Int) : ∀ (zss : List (List Int)) (j i : Nat), i < j → i < zss.length → (mkP k zss j)[i]? = some (mkI (k + lsum (zss.take i)) (zss.getD i []).length)
  | [], j, i, _, h => by simp at h
  | z :: r, 0, i, h, _ => by omega
  | z :: r, j + 1, 0, _, _ => by simp [mkP, lsum]
  | z :: r, j + 1, i + 1, h, h2 => by
    have ih := mkdL_at (k + z.length) r j i (by omega) (by simpa using h2)
    simp only [mkP, List.getElem?_cons_succ, ih, List.take_succ_cons, lsum, List.getD_cons_succ]
    congr 2
    push_cast
    omega

theorem owns_ne {w : World} {b1 b2 n1 n2 g : Nat} {e1 e2 : TypeId} {v1 v2 : Value} {x1 x2 : List Value} (h1 : w.ownsRow b1 e1 1 v1 n1 x1) (h2 : w.ownsRow b2 e2 1 v2 n2 x2) (hne : e1 ≠ e2) (hg : v1.ownBlock = some g) : v2.ownBlock ≠ some g := by
  intro hg2
  rcases h1.2 with ⟨rfl, _⟩ | ⟨a, cap, cur, rfl, _, hh, _⟩
  · simp [Value.ownBlock] at hg
  · rcases h2.2 with ⟨rfl, _⟩ | ⟨a2, cap2, cur2, rfl, _, hh2, _⟩
    · simp [Value.ownBlock] at hg2
    · simp only [Value.ownBlock, Option.some.injEq] at hg hg2
      subst hg hg2
      rw [hh] at hh2
      simp only [Option.some.injEq, Obj.cells.injEq] at hh2
      exact hne hh2.2.1
/-- Where memory that is owned lies: in a block of its own, or nowhere. -/
theorem OwnI.own {lo hi : Nat} {w : World} {u : Value} {zs : List Int} (h : OwnI lo hi w u zs) : ∃ l h', OwnI l h' w u zs ∧ ((u.ownBlock = none ∧ l = 0 ∧ h' = 0) ∨ (u.ownBlock = some l ∧ h' = l + 1 ∧ lo ≤ l ∧ l < hi)) := by
  obtain ⟨h1, h2⟩ := h
  rcases h1.2 with ⟨rfl, e⟩ | ⟨g, cap, cur, rfl, a1, a2⟩
  · exact ⟨0, 0, ⟨⟨h1.1, .inl ⟨rfl, e⟩⟩, by intro g hg; cases hg⟩, .inl ⟨rfl, rfl, rfl⟩⟩
  · exact ⟨g, g + 1, ⟨⟨h1.1, .inr ⟨g, cap, cur, rfl, Nat.le_refl _, a2⟩⟩, by intro g' hg; simp only [Value.ownBlock, Option.some.injEq] at hg; omega⟩, .inr ⟨rfl, rfl, a1, h2 g rfl⟩⟩

/-- One of the rows is written anew: the others are as they were. -/
theorem OwnEach.set {lo hi l h' : Nat} {w w' : World} {vs : List Value} {zss : List (List Int)} {i : Nat} {u : Value} {z : List Int} (h : OwnEach lo hi w vs zss) (hu : vs[i]? = some u)
    (hl : (u.ownBlock = none ∧ l = 0 ∧ h' = 0) ∨ (u.ownBlock = some l ∧ h' = l + 1 ∧ lo ≤ l ∧ l < hi)) (hn : OwnI l h' w' u z) (hk : Kept (fun b => l ≤ b ∧ b < h') w w') : OwnEach lo hi w' vs (zss.set i z) := by
  refine ⟨by rw [List.length_set]; exact h.1, fun j u' zs h1 h2 => ?_, h.2.2⟩
  by_cases hji : j = i
  · subst hji
    rw [hu] at h1
    simp only [Option.some.injEq] at h1
    subst h1
    have hlt : j < zss.length := by rw [← h.1]; exact (List.getElem?_eq_some_iff.1 hu).1
    rw [List.getElem?_set_self (by simpa using hlt)] at h2
    simp only [Option.some.injEq] at h2
    subst h2
    rcases hl with ⟨e, rfl, rfl⟩ | ⟨e, rfl, a1, a2⟩
    · refine ⟨⟨hn.1.1, ?_⟩, by intro g hg; rw [e] at hg; cases hg⟩
      rcases hn.1.2 with x | ⟨g, cap, cur, rfl, _⟩
      · exact .inl x
      · simp [Value.ownBlock] at e
    · exact hn.wide a1 (by omega)
  · rw [List.getElem?_set_ne (by omega)] at h2
    have ho := h.2.1 j u' zs h1 h2
    refine ⟨owns_kept ho.1 hk ?_, ho.2⟩
    rintro g hg ⟨hs1, hs2⟩
    rcases hl with ⟨e, rfl, rfl⟩ | ⟨e, rfl, a1, a2⟩
    · omega
    · have : g = l := by omega
      subst this
      exact h.2.2 i j u u' g (by omega) hu h1 e hg

set_option maxHeartbeats 1000000 in
theorem markL_o (v : Value) (lo hi : Nat) (zss : List (List Int)) (k : Int) (w : World) (ho : OwnL lo hi w v zss) (h0 : 0 ≤ k) (h1 : k + cntL zss ≤ 1099511627776) :
    Calls Try.prog 66 #[v, .int .i64 k] w fun e w' => e = .returned (.int .i64 (k + cntL zss)) ∧ OwnL lo hi w' v (mkdL k zss) ∧ Kept (fun b => lo ≤ b ∧ b < hi) w w' := by
  obtain ⟨a, c, rfl⟩ := ho.rd.shape
  have hl := ho.rd.len
  unfold maxLen at hl
  obtain ⟨vs, hown, hhi, heach⟩ := ho
  have hvl : vs.length = zss.length := heach.1
  have HO := Lib.hid hown
  have HH := Lib.hid hhi
  have HE := Lib.hid heach
  have HVL := Lib.hid hvl
  have HC := Lib.hid h1
  clear hown heach hhi hvl h1
  go_enter Try.func66, Try.ntmps66
  go_wp2_with fail
  go_loopw [1, 5] (fun kk i wr => ∃ j : Nat, i = .int .i64 j ∧ j ≤ zss.length ∧ kk = .int .i64 (k + lsum (zss.take j)) ∧ wr.ownsRow lo 65 1 (.slice a zss.length c) zss.length vs ∧ OwnEach lo hi wr vs (mkP k zss j) ∧ Kept (fun b => lo ≤ b ∧ b < hi) w wr) (fun _ i _ => zss.length - (intOf i).toNat)
  case atStart => exact ⟨0, rfl, Nat.zero_le _, by simp [lsum], HO.out, by rw [mkP_zero]; exact HE.out, Kept.refl _ _⟩
  case round =>
    obtain ⟨j, rfl, hj, rfl, hown, heach, hkp⟩ := hrel
    have HO1 := Lib.hid hown
    have HE1 := Lib.hid heach
    have HK1 := Lib.hid hkp
    clear heach hkp
    by_cases hlt : j < zss.length
    · obtain ⟨g, rfl, hlo⟩ := owns_slice_some hown (by omega)
      clear hown
      obtain ⟨u, hu⟩ : ∃ u, vs[j]? = some u := ⟨vs[j]'(by rw [HVL.out]; exact hlt), by simp [HVL.out, hlt]⟩
      have hd := HO1.out.cellAt j (by omega)
      rw [hu] at hd
      have hz : (mkP k zss j)[j]? = some (zss.getD j []) := by rw [mkP_late k zss j j (Nat.le_refl _)]; simp [hlt]
      obtain ⟨l, h', hoi, hcase⟩ := (HE1.out.2.1 j u _ hu hz).own
      have HS := Lib.hid (mkP_set k zss j hlt)
      have HT := Lib.hid (sum_take_succ zss j hlt)
      have HB := Lib.hid (bulkL_le zss (j + 1))
      obtain ⟨z, hzk⟩ : ∃ z, z = zss.getD j [] := ⟨_, rfl⟩
      rw [← hzk] at hoi HS HT
      obtain ⟨sm, hsm⟩ : ∃ s, s = lsum (zss.take j) := ⟨_, rfl⟩
      rw [← hsm] at HS HT ⊢
      have hbound : (sm : Int) + z.length ≤ cntL zss := by
        have h1 := HT.out
        have h2 := HB.out
        unfold cntL
        unfold bulkL at h2
        omega
      obtain ⟨ua, uc, rfl⟩ := hoi.rd.shape
      have HOI := Lib.hid hoi
      have HU := Lib.hid hu
      have HCA := Lib.hid hcase
      clear hoi hz hu hsm hzk
      go_wp2_with fail
      refine (markI_any _ l h' z (k + sm) wr HOI.out (by omega) (by have := HC.out; omega)).mono ?_
      rintro e w2 ⟨rfl, ho2, hk2⟩
      have HE2 := Lib.hid (HE1.out.set HU.out HCA.out ho2 hk2)
      have HO2 := Lib.hid (owns_kept HO1.out hk2 (by
        rintro g' hg' ⟨s1, s2⟩
        rcases HCA.out with ⟨_, rfl, rfl⟩ | ⟨e, rfl, _, _⟩
        · omega
        · have : g' = l := by omega
          subst this
          exact owns_ne HO1.out HOI.out.1 (by decide) hg' e))
      have HK2 := Lib.hid (HK1.out.trans (hk2.mono (S' := fun b => lo ≤ b ∧ b < hi) (by
        rintro b _ ⟨s1, s2⟩
        rcases HCA.out with ⟨_, rfl, rfl⟩ | ⟨e, rfl, a1, a2⟩
        · omega
        · omega)))
      clear ho2 hk2 hd
      have HCC := HC.out
      go_wp2_with fail
      go_roundw
      case rel => exact ⟨j + 1, by go_num, by omega, by rw [HT.out]; push_cast; go_num, HO2.out, by rw [HS.out]; exact HE2.out, HK2.out⟩
      case measure => simp [intOf]; omega
    · obtain rfl : j = zss.length := by omega
      clear hown
      go_wp2_with fail
      go_ret
      refine ⟨by rw [List.take_length]; rfl, ⟨vs, ?_, HH.out, HE1.out⟩, HK1.out⟩
      rw [mkdL, mkP_length]
      exact HO1.out

end Go.Proofs.Ytkkcgclliomocaa

namespace Go.Proofs.Ytkkcgclliomocaa
open Go.RowKit

set_option maxHeartbeats 1000000 in
theorem heldL_o (v : Value) (zss : List (List Int)) (k : Int) (w : World) (h : RdL w v (mkdL k zss)) (h0 : 0 ≤ k) (h1 : k + cntL zss ≤ 1099511627776) :
    Calls Try.prog 68 #[v, .int .i64 k] w fun e w' => e = .returned (.int .i64 (k + cntL zss)) ∧ Below w.heap.size w w' := by
  obtain ⟨a, c, rfl⟩ := h.shape
  have hl := h.len
  unfold maxLen at hl
  have hln : (mkdL k zss).length = zss.length := mkP_length k zss zss.length
  rw [hln] at hl ⊢
  have HS := Lib.hid h
  rw [hln] at HS
  have HLN := Lib.hid hln
  have HC := Lib.hid h1
  clear h h1 hln
  go_enter Try.func68, Try.ntmps68
  go_wp2_with fail
  go_loopw [1, 5] (fun kk i wr => ∃ j : Nat, i = .int .i64 j ∧ j ≤ zss.length ∧ kk = .int .i64 (k + lsum (zss.take j)) ∧ Below w.heap.size w wr) (fun _ i _ => zss.length - (intOf i).toNat)
  case atStart => exact ⟨0, rfl, Nat.zero_le _, by simp [lsum], Below.refl _ _⟩
  case round =>
    obtain ⟨j, rfl, hj, rfl, hbl⟩ := hrel
    have HB := Lib.hid hbl
    clear hbl
    by_cases hlt : j < zss.length
    · obtain ⟨b, off, u, rfl, _, hc, hu⟩ := (HS.out.up HB.out (Nat.le_refl _)).at (i := j) (by rw [HLN.out]; exact hlt)
      have hat : (mkdL k zss).getD j [] = mkI (k + lsum (zss.take j)) (zss.getD j []).length := by
        have h := mkdL_at k zss zss.length j hlt hlt
        unfold mkdL
        rw [List.getD_eq_getElem?_getD, h]; rfl
      rw [hat] at hu
      have HT := Lib.hid (sum_take_succ zss j hlt)
      have HBK := Lib.hid (bulkL_le zss (j + 1))
      obtain ⟨z, hzk⟩ : ∃ z, z = (zss.getD j []).length := ⟨_, rfl⟩
      rw [← hzk] at hu HT
      obtain ⟨sm, hsm⟩ : ∃ s, s = lsum (zss.take j) := ⟨_, rfl⟩
      rw [← hsm] at hu HT ⊢
      have hbound : (sm : Int) + z ≤ cntL zss := by
        have h1 := HT.out
        have h2 := HBK.out
        unfold cntL
        unfold bulkL at h2
        omega
      have hh := Lib.hid (heldI_any u z (k + sm) wr hu (by omega) (by have := HC.out; omega))
      have HCC := HC.out
      clear hat hu hzk hsm
      go_wp2_with fail
      refine hh.out.mono ?_
      rintro e w2 ⟨rfl, hb2⟩
      have HB2 := Lib.hid (HB.out.trans (hb2.mono HB.out.size))
      clear hb2 hc
      go_wp2_with fail
      go_roundw
      case rel => exact ⟨j + 1, by go_num, by omega, by rw [HT.out]; push_cast; go_num, HB2.out⟩
      case measure => simp [intOf]; omega
    · obtain rfl : j = zss.length := by omega
      go_wp2_with fail
      go_ret
      exact ⟨by rw [List.take_length]; rfl, HB.out⟩

end Go.Proofs.Ytkkcgclliomocaa

namespace Go.Proofs.Ytkkcgclliomocaa
open Go.RowKit

structure FormD where
  letters : Int
  clauses : List (List Int)

def RdFm (w : World) (v : Value) (d : FormD) : Prop := ∃ v1, v = .agg #[.int .i64 d.letters, v1] ∧ RdL w v1 d.clauses
def OwnFm (lo hi : Nat) (w : World) (v : Value) (d : FormD) : Prop := ∃ v1 l1 h1, v = .agg #[.int .i64 d.letters, v1] ∧ OwnL l1 h1 w v1 d.clauses ∧
  lo ≤ l1 ∧ l1 ≤ h1 ∧ h1 ≤ hi ∧ h1 ≤ w.heap.size
def bulkFm (d : FormD) : Nat := bulkL d.clauses
def cntFm (d : FormD) : Nat := cntL d.clauses

theorem RdFm.shape {w : World} {v : Value} {d : FormD} (h : RdFm w v d) : ∃ a1 c1, v = .agg #[.int .i64 d.letters, .slice a1 d.clauses.length c1] := by
  obtain ⟨v1, rfl, p1⟩ := h
  obtain ⟨a1, c1, rfl⟩ := p1.shape
  exact ⟨_, _, rfl⟩
theorem RdFm.parts {w : World} {z1 z2 : Value} {d : FormD} (h : RdFm w (.agg #[z1, z2]) d) : RdL w z2 d.clauses := by
  obtain ⟨v1, e, p1⟩ := h
  simp only [Value.agg.injEq, Array.mk.injEq, List.cons.injEq, and_true] at e
  obtain ⟨rfl, rfl⟩ := e
  exact p1
theorem RdFm.up {w w' : World} {v : Value} {d : FormD} {B : Nat} (h : RdFm w v d) (hb : Below B w w') (hB : w.heap.size ≤ B) : RdFm w' v d := by
  obtain ⟨v1, e, p1⟩ := h
  exact ⟨v1, e, p1.up hb hB⟩
theorem OwnFm.rd {lo hi : Nat} {w : World} {v : Value} {d : FormD} (h : OwnFm lo hi w v d) : RdFm w v d := by
  obtain ⟨v1, l1, h1, e, p1, r1, r2, r3, r4⟩ := h
  exact ⟨v1, e, p1.rd⟩
theorem OwnFm.up {lo hi : Nat} {w w' : World} {v : Value} {d : FormD} {B : Nat} (h : OwnFm lo hi w v d) (hb : Below B w w') (hB : w.heap.size ≤ B) : OwnFm lo hi w' v d := by
  obtain ⟨v1, l1, h1, e, p1, r1, r2, r3, r4⟩ := h
  exact ⟨v1, l1, h1, e, p1.up hb hB, r1, r2, r3, Nat.le_trans r4 hb.size⟩
theorem OwnFm.wide {lo hi lo' hi' : Nat} {w : World} {v : Value} {d : FormD} (h : OwnFm lo hi w v d) (a : lo' ≤ lo) (b : hi ≤ hi') : OwnFm lo' hi' w v d := by
  obtain ⟨v1, l1, h1, e, p1, r1, r2, r3, r4⟩ := h
  exact ⟨v1, l1, h1, e, p1, by omega, r2, by omega, r4⟩
theorem OwnFm.kept {lo hi : Nat} {w w' : World} {v : Value} {d : FormD} {S : Nat → Prop} (h : OwnFm lo hi w v d) (hk : Kept S w w') (hs : ∀ b, lo ≤ b → b < hi → ¬ S b) : OwnFm lo hi w' v d := by
  obtain ⟨v1, l1, h1, e, p1, r1, r2, r3, r4⟩ := h
  exact ⟨v1, l1, h1, e, p1.kept hk (fun b a c => hs b (by omega) (by omega)), r1, r2, r3, Nat.le_trans r4 hk.size⟩

set_option maxHeartbeats 2000000 in
set_option maxRecDepth 4000 in
theorem eqFm_same (v v' : Value) (d : FormD) (w : World) (h : RdFm w v d) (h' : RdFm w v' d) :
    Calls Try.prog 63 #[v, v'] w fun e w' => e = .returned (.bool true) ∧ Below w.heap.size w w' := by
  obtain ⟨a1, c1, rfl⟩ := h.shape
  obtain ⟨b1, e1, rfl⟩ := h'.shape
  obtain p1 := h.parts
  obtain q1 := h'.parts
  obtain ⟨n1, x2⟩ := d
  simp only at p1 q1 ⊢
  have hne0 : (n1 != n1) = false := by simp
  have P1 := Lib.hid p1
  have Q1 := Lib.hid q1
  clear h h' p1 q1
  go_enter Try.func63, Try.ntmps63
  go_wp2_with fail
  refine Calls.at fun W hW => ?_
  have HB := Lib.hid (show Below w.heap.size w W by subst hW; (repeat' first | exact Below.refl _ _ | assumption | refine Below.alloc ?_ ?_ _ | refine Below.setCell ?_ ?_ _ | refine Below.drew ?_ | (simp; done) | (simp; omega)))
  have HK := Lib.hid (show Blk W w.heap.size 31 #[.int .i64 n1, .slice a1 x2.length c1] by subst hW; exact (Blk.new _ _ _).alloc _)
  have HL := Lib.hid (show Blk W (w.heap.size + 1) 31 #[.int .i64 n1, .slice b1 x2.length e1] by subst hW; simpa using Blk.new (w.alloc (.cells #[.int .i64 n1, .slice a1 x2.length c1] 31)) 31 #[.int .i64 n1, .slice b1 x2.length e1])
  clear hW
  refine (eqL_same _ _ x2 W (P1.out.up HB.out (Nat.le_refl _)) (Q1.out.up HB.out (Nat.le_refl _))).mono ?_
  rintro e w1 ⟨rfl, hb1⟩
  have HB1 := Lib.hid (HB.out.trans (hb1.mono HB.out.size))
  clear hb1
  go_wp2_with fail
  go_ret
  exact ⟨rfl, HB1.out⟩

def mkdFm (k : Int) (d : FormD) : FormD := ⟨d.letters, mkdL k d.clauses⟩

set_option maxHeartbeats 2000000 in
set_option maxRecDepth 4000 in
theorem markFm_o (v : Value) (lo hi : Nat) (d : FormD) (k : Int) (w : World) (ho : OwnFm lo hi w v d) (h0 : 0 ≤ k) (h1 : k + cntFm d ≤ 1099511627776) :
    Calls Try.prog 65 #[v, .int .i64 k] w fun e w' => e = .returned (.int .i64 (k + cntFm d)) ∧ OwnFm lo hi w' v (mkdFm k d) ∧ Kept (fun b => lo ≤ b ∧ b < hi) w w' := by
  obtain ⟨a1, c1, hv⟩ := ho.rd.shape
  obtain ⟨v1, l1, h1', e, o1, r1, r2, r3, r4⟩ := ho
  rw [e] at hv
  simp only [Value.agg.injEq, Array.mk.injEq, List.cons.injEq, and_true, true_and] at hv
  obtain rfl := hv
  subst e
  obtain ⟨n1, x2⟩ := d
  unfold cntFm mkdFm at *
  simp only at o1 h1 ⊢
  obtain ⟨C1, hC1⟩ : ∃ C, C = cntL x2 := ⟨_, rfl⟩
  try rw [← hC1] at h1
  try rw [← hC1]
  have HC1 := Lib.hid hC1
  have b1 : k + C1 ≤ 1099511627776 := by omega
  have O1 := Lib.hid o1
  clear o1 h1 hC1
  go_enter Try.func65, Try.ntmps65
  go_wp2_with fail
  refine Calls.at fun W hW => ?_
  have HB := Lib.hid (show Below w.heap.size w W by subst hW; (repeat' first | exact Below.refl _ _ | assumption | refine Below.alloc ?_ ?_ _ | refine Below.setCell ?_ ?_ _ | refine Below.drew ?_ | (simp; done) | (simp; omega)))
  have HK := Lib.hid (show Blk W w.heap.size 31 #[.int .i64 n1, .slice a1 x2.length c1] by subst hW; exact Blk.new _ _ _)
  clear hW
  have A1 := Lib.hid (O1.out.up HB.out (Nat.le_refl _))
  have hzW := HB.out.size
  have hKl := HK.out.lt
  refine (markL_o _ l1 h1' x2 (k) W A1.out (by omega) (by rw [← HC1.out]; exact b1)).mono ?_
  rintro e w1 ⟨rfl, m1, k1⟩
  rw [← HC1.out]
  have HK1 := Lib.hid (HK.out.kept k1 (by omega))
  have M1 := Lib.hid m1
  have KK1 := Lib.hid ((Kept.of_below HB.out (Nat.le_refl _)).trans (k1.mono (S' := fun b => lo ≤ b ∧ b < hi) (by intro b _ q; omega)))
  clear m1 k1
  go_wp2_with fail
  go_ret
  refine ⟨congrArg (fun x => Ending.returned (Value.int IntKind.i64 x)) (by have := HC1.out; push_cast; omega), ?_, KK1.out⟩
  have hz := KK1.out.size
  exact ⟨_, l1, h1', rfl, M1.out, r1, r2, r3, by omega⟩

set_option maxHeartbeats 2000000 in
set_option maxRecDepth 4000 in
theorem heldFm_o (v : Value) (d : FormD) (k : Int) (w : World) (h : RdFm w v (mkdFm k d)) (h0 : 0 ≤ k) (h1 : k + cntFm d ≤ 1099511627776) :
    Calls Try.prog 67 #[v, .int .i64 k] w fun e w' => e = .returned (.int .i64 (k + cntFm d)) ∧ Below w.heap.size w w' := by
  obtain ⟨a1, c1, rfl⟩ := h.shape
  obtain p1 := h.parts
  obtain ⟨n1, x2⟩ := d
  unfold cntFm mkdFm at *
  simp only at p1 h1 ⊢
  obtain ⟨C1, hC1⟩ : ∃ C, C = cntL x2 := ⟨_, rfl⟩
  rw [← hC1] at h1 ⊢
  have HC1 := Lib.hid hC1
  have b1 : k + C1 ≤ 1099511627776 := by omega
  have P1 := Lib.hid p1
  obtain ⟨g1_0, hg1_0⟩ : ∃ x, x = (mkdL (k) x2).length := ⟨_, rfl⟩
  clear h p1 h1 hC1
  rw [← hg1_0] at P1 ⊢
  clear hg1_0
  go_enter Try.func67, Try.ntmps67
  go_wp2_with fail
  refine Calls.at fun W hW => ?_
  have HB := Lib.hid (show Below w.heap.size w W by subst hW; (repeat' first | exact Below.refl _ _ | assumption | refine Below.alloc ?_ ?_ _ | refine Below.setCell ?_ ?_ _ | refine Below.drew ?_ | (simp; done) | (simp; omega)))
  have HK := Lib.hid (show Blk W w.heap.size 31 #[.int .i64 n1, .slice a1 g1_0 c1] by subst hW; exact Blk.new _ _ _)
  clear hW
  refine (heldL_o _ x2 (k) W (P1.out.up HB.out (Nat.le_refl _)) (by omega) (by rw [← HC1.out]; exact b1)).mono ?_
  rintro e w1 ⟨rfl, hb1⟩
  rw [← HC1.out]
  have HB1 := Lib.hid (HB.out.trans (hb1.mono HB.out.size))
  clear hb1
  have e1 : ¬ (k + (C1 : Int) < 0) := by omega
  go_wp2_with fail
  go_ret
  exact ⟨congrArg (fun x => Ending.returned (Value.int IntKind.i64 x)) (by push_cast; omega), HB1.out⟩

end Go.Proofs.Ytkkcgclliomocaa

namespace Go.Proofs.Ytkkcgclliomocaa
open Go.RowKit

structure CaseD where
  name : ByteArray
  form : FormD
  proof : List (List Int)

def RdCs (w : World) (v : Value) (d : CaseD) : Prop := ∃ v1 v2, v = .agg #[.string d.name, .int .i64 d.form.letters, v1, v2] ∧ RdFm w (.agg #[.int .i64 d.form.letters, v1]) d.form ∧ RdL w v2 d.proof ∧ d.name.size ≤ maxLen
def OwnCs (lo hi : Nat) (w : World) (v : Value) (d : CaseD) : Prop := ∃ v1 v2 l1 h1 l2 h2, v = .agg #[.string d.name, .int .i64 d.form.letters, v1, v2] ∧ OwnFm l1 h1 w (.agg #[.int .i64 d.form.letters, v1]) d.form ∧ OwnL l2 h2 w v2 d.proof ∧ d.name.size ≤ maxLen ∧
  lo ≤ l1 ∧ l1 ≤ h1 ∧ h1 ≤ l2 ∧ l2 ≤ h2 ∧ h2 ≤ hi ∧ h2 ≤ w.heap.size
def bulkCs (d : CaseD) : Nat := d.name.size + bulkFm d.form + bulkL d.proof
def cntCs (d : CaseD) : Nat := cntFm d.form + cntL d.proof

theorem RdCs.shape {w : World} {v : Value} {d : CaseD} (h : RdCs w v d) : ∃ a1 c1 a2 c2, v = .agg #[.string d.name, .int .i64 d.form.letters, .slice a1 d.form.clauses.length c1, .slice a2 d.proof.length c2] := by
  obtain ⟨v1, v2, rfl, p1, p2, y1⟩ := h
  obtain ⟨a1, c1, e1⟩ := p1.shape
  simp only [Value.agg.injEq, Array.mk.injEq, List.cons.injEq, and_true, true_and] at e1
  obtain rfl := e1
  obtain ⟨a2, c2, rfl⟩ := p2.shape
  exact ⟨_, _, _, _, rfl⟩
theorem RdCs.parts {w : World} {z1 z2 z3 z4 : Value} {d : CaseD} (h : RdCs w (.agg #[z1, z2, z3, z4]) d) : RdFm w (.agg #[z2, z3]) d.form ∧ RdL w z4 d.proof ∧ d.name.size ≤ maxLen := by
  obtain ⟨v1, v2, e, p1, p2, y1⟩ := h
  simp only [Value.agg.injEq, Array.mk.injEq, List.cons.injEq, and_true] at e
  obtain ⟨rfl, rfl, rfl, rfl⟩ := e
  exact ⟨p1, p2, y1⟩
theorem RdCs.up {w w' : World} {v : Value} {d : CaseD} {B : Nat} (h : RdCs w v d) (hb : Below B w w') (hB : w.heap.size ≤ B) : RdCs w' v d := by
  obtain ⟨v1, v2, e, p1, p2, y1⟩ := h
  exact ⟨v1, v2, e, p1.up hb hB, p2.up hb hB, y1⟩
theorem OwnCs.rd {lo hi : Nat} {w : World} {v : Value} {d : CaseD} (h : OwnCs lo hi w v d) : RdCs w v d := by
  obtain ⟨v1, v2, l1, h1, l2, h2, e, p1, p2, y1, r1, r2, r3, r4, r5, r6⟩ := h
  exact ⟨v1, v2, e, p1.rd, p2.rd, y1⟩
theorem OwnCs.up {lo hi : Nat} {w w' : World} {v : Value} {d : CaseD} {B : Nat} (h : OwnCs lo hi w v d) (hb : Below B w w') (hB : w.heap.size ≤ B) : OwnCs lo hi w' v d := by
  obtain ⟨v1, v2, l1, h1, l2, h2, e, p1, p2, y1, r1, r2, r3, r4, r5, r6⟩ := h
  exact ⟨v1, v2, l1, h1, l2, h2, e, p1.up hb hB, p2.up hb hB, y1, r1, r2, r3, r4, r5, Nat.le_trans r6 hb.size⟩
theorem OwnCs.wide {lo hi lo' hi' : Nat} {w : World} {v : Value} {d : CaseD} (h : OwnCs lo hi w v d) (a : lo' ≤ lo) (b : hi ≤ hi') : OwnCs lo' hi' w v d := by
  obtain ⟨v1, v2, l1, h1, l2, h2, e, p1, p2, y1, r1, r2, r3, r4, r5, r6⟩ := h
  exact ⟨v1, v2, l1, h1, l2, h2, e, p1, p2, y1, by omega, r2, r3, r4, by omega, r6⟩
theorem OwnCs.kept {lo hi : Nat} {w w' : World} {v : Value} {d : CaseD} {S : Nat → Prop} (h : OwnCs lo hi w v d) (hk : Kept S w w') (hs : ∀ b, lo ≤ b → b < hi → ¬ S b) : OwnCs lo hi w' v d := by
  obtain ⟨v1, v2, l1, h1, l2, h2, e, p1, p2, y1, r1, r2, r3, r4, r5, r6⟩ := h
  exact ⟨v1, v2, l1, h1, l2, h2, e, p1.kept hk (fun b a c => hs b (by omega) (by omega)), p2.kept hk (fun b a c => hs b (by omega) (by omega)), y1, r1, r2, r3, r4, r5, Nat.le_trans r6 hk.size⟩

set_option maxHeartbeats 2000000 in
set_option maxRecDepth 4000 in
theorem eqCs_same (v v' : Value) (d : CaseD) (w : World) (h : RdCs w v d) (h' : RdCs w v' d) :
    Calls Try.prog 19 #[v, v'] w fun e w' => e = .returned (.bool true) ∧ Below w.heap.size w w' := by
  obtain ⟨a1, c1, a2, c2, rfl⟩ := h.shape
  obtain ⟨b1, e1, b2, e2, rfl⟩ := h'.shape
  obtain ⟨p1, p2, ys1⟩ := h.parts
  obtain ⟨q1, q2, yt1⟩ := h'.parts
  obtain ⟨n1, x2, x3⟩ := d
  simp only at p1 p2 q1 q2 ⊢
  have P1 := Lib.hid p1
  have Q1 := Lib.hid q1
  have P2 := Lib.hid p2
  have Q2 := Lib.hid q2
  clear h h' p1 p2 q1 q2
  go_enter Try.func19, Try.ntmps19
  go_wp2_with fail
  refine Calls.at fun W hW => ?_
  have HB := Lib.hid (show Below w.heap.size w W by subst hW; (repeat' first | exact Below.refl _ _ | assumption | refine Below.alloc ?_ ?_ _ | refine Below.setCell ?_ ?_ _ | refine Below.drew ?_ | (simp; done) | (simp; omega)))
  have HK := Lib.hid (show Blk W w.heap.size 33 #[.string n1, .int .i64 x2.letters, .slice a1 x2.clauses.length c1, .slice a2 x3.length c2] by subst hW; exact (Blk.new _ _ _).alloc _)
  have HL := Lib.hid (show Blk W (w.heap.size + 1) 33 #[.string n1, .int .i64 x2.letters, .slice b1 x2.clauses.length e1, .slice b2 x3.length e2] by subst hW; simpa using Blk.new (w.alloc (.cells #[.string n1, .int .i64 x2.letters, .slice a1 x2.clauses.length c1, .slice a2 x3.length c2] 33)) 33 #[.string n1, .int .i64 x2.letters, .slice b1 x2.clauses.length e1, .slice b2 x3.length e2])
  clear hW
  refine (eqFm_same _ _ x2 W (P1.out.up HB.out (Nat.le_refl _)) (Q1.out.up HB.out (Nat.le_refl _))).mono ?_
  rintro e w1 ⟨rfl, hb1⟩
  have HB1 := Lib.hid (HB.out.trans (hb1.mono HB.out.size))
  have HK1 := Lib.hid (HK.out.below hb1 HK.out.lt)
  have HL1 := Lib.hid (HL.out.below hb1 HL.out.lt)
  clear hb1
  have d2_0 : w1.cell? ⟨w.heap.size, 3, none⟩ = some (.slice a2 x3.length c2) := HK1.out.cell 3 rfl
  have g2_0 : w1.cell? ⟨w.heap.size + 1, 3, none⟩ = some (.slice b2 x3.length e2) := HL1.out.cell 3 rfl
  go_wp2_with fail
  refine (eqL_same _ _ x3 w1 (P2.out.up HB1.out (Nat.le_refl _)) (Q2.out.up HB1.out (Nat.le_refl _))).mono ?_
  rintro e w2 ⟨rfl, hb2⟩
  have HB2 := Lib.hid (HB1.out.trans (hb2.mono HB1.out.size))
  clear hb2
  go_wp2_with fail
  go_ret
  exact ⟨rfl, HB2.out⟩

def mkdCs (k : Int) (d : CaseD) : CaseD := ⟨d.name, mkdFm k d.form, mkdL (k + cntFm d.form) d.proof⟩

set_option maxHeartbeats 2000000 in
set_option maxRecDepth 4000 in
theorem markCs_o (v : Value) (lo hi : Nat) (d : CaseD) (k : Int) (w : World) (ho : OwnCs lo hi w v d) (h0 : 0 ≤ k) (h1 : k + cntCs d ≤ 1099511627776) :
    Calls Try.prog 20 #[v, .int .i64 k] w fun e w' => e = .returned (.int .i64 (k + cntCs d)) ∧ OwnCs lo hi w' v (mkdCs k d) ∧ Kept (fun b => lo ≤ b ∧ b < hi) w w' := by
  obtain ⟨a1, c1, a2, c2, hv⟩ := ho.rd.shape
  obtain ⟨v1, v2, l1, h1', l2, h2, e, o1, o2, y1, r1, r2, r3, r4, r5, r6⟩ := ho
  rw [e] at hv
  simp only [Value.agg.injEq, Array.mk.injEq, List.cons.injEq, and_true, true_and] at hv
  obtain ⟨rfl, rfl⟩ := hv
  subst e
  obtain ⟨n1, x2, x3⟩ := d
  unfold cntCs mkdCs at *
  simp only at o1 o2 h1 ⊢
  obtain ⟨C1, hC1⟩ : ∃ C, C = cntFm x2 := ⟨_, rfl⟩
  obtain ⟨C2, hC2⟩ : ∃ C, C = cntL x3 := ⟨_, rfl⟩
  try rw [← hC1] at h1
  try rw [← hC1]
  have HC1 := Lib.hid hC1
  try rw [← hC2] at h1
  try rw [← hC2]
  have HC2 := Lib.hid hC2
  have b1 : k + C1 ≤ 1099511627776 := by omega
  have b2 : k + C1 + C2 ≤ 1099511627776 := by omega
  have O1 := Lib.hid o1
  have O2 := Lib.hid o2
  clear o1 o2 h1 hC1 hC2
  go_enter Try.func20, Try.ntmps20
  go_wp2_with fail
  refine Calls.at fun W hW => ?_
  have HB := Lib.hid (show Below w.heap.size w W by subst hW; (repeat' first | exact Below.refl _ _ | assumption | refine Below.alloc ?_ ?_ _ | refine Below.setCell ?_ ?_ _ | refine Below.drew ?_ | (simp; done) | (simp; omega)))
  have HK := Lib.hid (show Blk W w.heap.size 33 #[.string n1, .int .i64 x2.letters, .slice a1 x2.clauses.length c1, .slice a2 x3.length c2] by subst hW; exact Blk.new _ _ _)
  clear hW
  have A1 := Lib.hid (O1.out.up HB.out (Nat.le_refl _))
  have A2 := Lib.hid (O2.out.up HB.out (Nat.le_refl _))
  have hzW := HB.out.size
  have hKl := HK.out.lt
  refine (markFm_o _ l1 h1' x2 (k) W A1.out (by omega) (by rw [← HC1.out]; exact b1)).mono ?_
  rintro e w1 ⟨rfl, m1, k1⟩
  rw [← HC1.out]
  have HK1 := Lib.hid (HK.out.kept k1 (by omega))
  have M1 := Lib.hid m1
  replace A2 := Lib.hid (A2.out.kept k1 (by intro b q1 q2 q3; omega))
  have KK1 := Lib.hid ((Kept.of_below HB.out (Nat.le_refl _)).trans (k1.mono (S' := fun b => lo ≤ b ∧ b < hi) (by intro b _ q; omega)))
  clear m1 k1
  have d2_0 : w1.cell? ⟨w.heap.size, 3, none⟩ = some (.slice a2 x3.length c2) := HK1.out.cell 3 rfl
  go_wp2_with fail
  refine (markL_o _ l2 h2 x3 (k + C1) w1 A2.out (by omega) (by rw [← HC2.out]; exact b2)).mono ?_
  rintro e w2 ⟨rfl, m2, k2⟩
  rw [← HC2.out]
  have HK2 := Lib.hid (HK1.out.kept k2 (by omega))
  replace M1 := Lib.hid (M1.out.kept k2 (by intro b q1 q2 q3; omega))
  have M2 := Lib.hid m2
  have KK2 := Lib.hid (KK1.out.trans (k2.mono (S' := fun b => lo ≤ b ∧ b < hi) (by intro b _ q; omega)))
  clear m2 k2 d2_0
  go_wp2_with fail
  go_ret
  refine ⟨congrArg (fun x => Ending.returned (Value.int IntKind.i64 x)) (by have := HC2.out; push_cast; omega), ?_, KK2.out⟩
  have hz := KK2.out.size
  exact ⟨_, _, l1, h1', l2, h2, rfl, M1.out, M2.out, y1, r1, r2, r3, r4, r5, by omega⟩

set_option maxHeartbeats 2000000 in
set_option maxRecDepth 4000 in
theorem heldCs_o (v : Value) (d : CaseD) (k : Int) (w : World) (h : RdCs w v (mkdCs k d)) (h0 : 0 ≤ k) (h1 : k + cntCs d ≤ 1099511627776) :
    Calls Try.prog 21 #[v, .int .i64 k] w fun e w' => e = .returned (.int .i64 (k + cntCs d)) ∧ Below w.heap.size w w' := by
  obtain ⟨a1, c1, a2, c2, rfl⟩ := h.shape
  obtain ⟨p1, p2, ys1⟩ := h.parts
  obtain ⟨n1, x2, x3⟩ := d
  unfold cntCs mkdCs at *
  simp only at p1 p2 h1 ⊢
  obtain ⟨C1, hC1⟩ : ∃ C, C = cntFm x2 := ⟨_, rfl⟩
  obtain ⟨C2, hC2⟩ : ∃ C, C = cntL x3 := ⟨_, rfl⟩
  rw [← hC1] at h1 ⊢
  rw [← hC1] at p2
  have HC1 := Lib.hid hC1
  rw [← hC2] at h1 ⊢
  have HC2 := Lib.hid hC2
  have b1 : k + C1 ≤ 1099511627776 := by omega
  have b2 : k + C1 + C2 ≤ 1099511627776 := by omega
  have P1 := Lib.hid p1
  obtain ⟨g1_0, hg1_0⟩ : ∃ x, x = (mkdFm (k) x2).letters := ⟨_, rfl⟩
  obtain ⟨g1_1, hg1_1⟩ : ∃ x, x = (mkdFm (k) x2).clauses.length := ⟨_, rfl⟩
  have P2 := Lib.hid p2
  obtain ⟨g2_0, hg2_0⟩ : ∃ x, x = (mkdL (k + C1) x3).length := ⟨_, rfl⟩
  clear h p1 p2 h1 hC1 hC2
  rw [← hg1_0] at P1 ⊢
  rw [← hg1_1] at P1 ⊢
  rw [← hg2_0] at P2 ⊢
  clear hg1_0 hg1_1 hg2_0
  go_enter Try.func21, Try.ntmps21
  go_wp2_with fail
  refine Calls.at fun W hW => ?_
  have HB := Lib.hid (show Below w.heap.size w W by subst hW; (repeat' first | exact Below.refl _ _ | assumption | refine Below.alloc ?_ ?_ _ | refine Below.setCell ?_ ?_ _ | refine Below.drew ?_ | (simp; done) | (simp; omega)))
  have HK := Lib.hid (show Blk W w.heap.size 33 #[.string n1, .int .i64 g1_0, .slice a1 g1_1 c1, .slice a2 g2_0 c2] by subst hW; exact Blk.new _ _ _)
  clear hW
  refine (heldFm_o _ x2 (k) W (P1.out.up HB.out (Nat.le_refl _)) (by omega) (by rw [← HC1.out]; exact b1)).mono ?_
  rintro e w1 ⟨rfl, hb1⟩
  rw [← HC1.out]
  have HB1 := Lib.hid (HB.out.trans (hb1.mono HB.out.size))
  have HK1 := Lib.hid (HK.out.below hb1 HK.out.lt)
  clear hb1
  have d2_0 : w1.cell? ⟨w.heap.size, 3, none⟩ = some (.slice a2 g2_0 c2) := HK1.out.cell 3 rfl
  have e1 : ¬ (k + (C1 : Int) < 0) := by omega
  go_wp2_with fail
  refine (heldL_o _ x3 (k + C1) w1 (P2.out.up HB1.out (Nat.le_refl _)) (by omega) (by rw [← HC2.out]; exact b2)).mono ?_
  rintro e w2 ⟨rfl, hb2⟩
  rw [← HC2.out]
  have HB2 := Lib.hid (HB1.out.trans (hb2.mono HB1.out.size))
  clear hb2
  have e2 : ¬ (k + (C1 : Int) + (C2 : Int) < 0) := by omega
  go_wp2_with fail
  go_ret
  exact ⟨congrArg (fun x => Ending.returned (Value.int IntKind.i64 x)) (by push_cast; omega), HB2.out⟩

end Go.Proofs.Ytkkcgclliomocaa

namespace Go.Proofs.Ytkkcgclliomocaa
open Go.RowKit

theorem flat_len {α : Type} (f : α → List Value) (c : Nat) (hf : ∀ a, (f a).length = c) : ∀ (l : List α), (l.flatMap f).length = l.length * c
  | [] => by simp
  | a :: r => by
    have ih := flat_len f c hf r
    simp only [List.flatMap_cons, List.length_append, List.length_cons, hf a, ih]
    rw [Nat.add_mul]; omega

theorem flat_at {α : Type} (f : α → List Value) (c : Nat) (hf : ∀ a, (f a).length = c) : ∀ (l : List α) (i d : Nat) (a : α), l[i]? = some a → d < c → (l.flatMap f)[i * c + d]? = (f a)[d]?
  | [], i, d, a, h, _ => by simp at h
  | b :: r, 0, d, a, h, hd => by
    simp only [List.getElem?_cons_zero, Option.some.injEq] at h
    subst h
    simp only [List.flatMap_cons, Nat.zero_mul, Nat.zero_add]
    rw [List.getElem?_append_left (by rw [hf b]; exact hd)]
  | b :: r, i + 1, d, a, h, hd => by
    have ih := flat_at f c hf r i d a (by simpa using h) hd
    simp only [List.flatMap_cons]
    rw [List.getElem?_append_right (by rw [hf b, Nat.add_mul]; omega), ← ih]
    congr 1
    rw [hf b, Nat.add_mul]; omega

/-- Cells written one behind another. -/
def putAt : List Value → Nat → List Value → List Value
  | L, _, [] => L
  | L, b, u :: us => putAt (L.set b u) (b + 1) us

theorem putAt_append : ∀ (us A B : List Value) (b : Nat), A.length ≤ b → putAt (A ++ B) b us = A ++ putAt B (b - A.length) us
  | [], A, B, b, _ => rfl
  | u :: us, A, B, b, h => by
    simp only [putAt]
    rw [List.set_append_right _ _ h, putAt_append us A _ (b + 1) (by omega), show b + 1 - A.length = b - A.length + 1 by omega]
theorem putAt_whole : ∀ (us A B : List Value), A.length = us.length → putAt (A ++ B) 0 us = us ++ B
  | [], A, B, h => by
    have : A = [] := List.length_eq_zero_iff.1 (by simpa using h)
    subst this; rfl
  | u :: us, [], B, h => by simp at h
  | u :: us, x :: A, B, h => by
    simp only [putAt, List.cons_append, List.set_cons_zero]
    have := putAt_append us [u] (A ++ B) 1 (by simp)
    simp only [List.cons_append, List.nil_append, List.length_cons, List.length_nil] at this
    rw [this]
    simp only [Nat.sub_self]
    rw [putAt_whole us A B (by simpa using h)]

theorem flat_put {α : Type} (f : α → List Value) (c : Nat) (hf : ∀ a, (f a).length = c) : ∀ (l : List α) (i : Nat) (a : α), i < l.length → putAt (l.flatMap f) (i * c) (f a) = (l.set i a).flatMap f
  | [], i, a, h => by simp at h
  | b :: r, 0, a, _ => by
    simp only [List.flatMap_cons, Nat.zero_mul, List.set_cons_zero]
    exact putAt_whole _ _ _ (by rw [hf, hf])
  | b :: r, i + 1, a, h => by
    have ih := flat_put f c hf r i a (by simpa using h)
    simp only [List.flatMap_cons, List.set_cons_succ]
    rw [putAt_append _ _ _ _ (by rw [hf, Nat.add_mul]; omega), ← ih]
    congr 2
    rw [hf, Nat.add_mul]; omega

theorem made_rows (zs : List Value) (n : Nat) (h : zs ≠ []) : (madeCells zs.toArray (n * zs.length)).toList = (List.replicate n zs).flatten := by
  have hp : 0 < zs.length := List.length_pos_iff.2 h
  induction n with
  | zero => simp [madeCells]
  | succ n ih =>
    rw [List.replicate_succ, List.flatten_cons, ← ih]
    apply List.ext_getElem?
    intro j
    by_cases hj : j < zs.length
    · have hj2 : j < (n + 1) * zs.length := by rw [Nat.add_mul]; omega
      rw [List.getElem?_append_left hj]
      simp [madeCells, hj2, Nat.mod_eq_of_lt hj, hj]
    · rw [List.getElem?_append_right (by omega)]
      by_cases hj2 : j < (n + 1) * zs.length
      · have hj3 : j - zs.length < n * zs.length := by rw [Nat.add_mul] at hj2; omega
        have hm : (j - zs.length) % zs.length = j % zs.length := by
          rw [Nat.mod_eq_sub_mod (a := j) (by omega)]
        simp [madeCells, hj2, hj3, hm]
      · have hj3 : ¬ j - zs.length < n * zs.length := by rw [Nat.add_mul] at hj2; omega
        simp [madeCells, hj2, hj3]

theorem flat_made {α : Type} (f : α → List Value) (z : α) (n : Nat) (h : f z ≠ []) : (madeCells (f z).toArray (n * (f z).length)).toList = (List.replicate n z).flatMap f := by
  rw [made_rows _ _ h, List.flatMap_def, List.map_replicate]

end Go.Proofs.Ytkkcgclliomocaa

namespace Go.Proofs.Ytkkcgclliomocaa
open Go.RowKit

structure JobD where
  long : Int
  due : Int
  weight : Int
  ready : Int
def J0 : JobD := ⟨0, 0, 0, 0⟩
def jobCells (j : JobD) : List Value := [I64 j.long, I64 j.due, I64 j.weight, I64 j.ready]
def jobsC (js : List JobD) : List Value := js.flatMap jobCells
theorem jobsC_len (js : List JobD) : (jobsC js).length = js.length * 4 := by
  induction js with
  | nil => rfl
  | cons j r ih => simp only [jobsC, List.flatMap_cons, List.length_append, List.length_cons, jobCells] at ih ⊢; simp at ih ⊢; omega
theorem jobsC_at : ∀ (js : List JobD) (i c : Nat), i < js.length → c < 4 → (jobsC js)[i * 4 + c]? = (jobCells (js.getD i J0))[c]?
  | [], i, c, h, _ => by simp at h
  | j :: r, 0, c, _, hc => by
    simp only [jobsC, List.flatMap_cons, Nat.zero_mul, Nat.zero_add, List.getD_cons_zero]
    rw [List.getElem?_append_left (by simp [jobCells]; omega)]
  | j :: r, i + 1, c, h, hc => by
    have ih := jobsC_at r i c (by simpa using h) hc
    simp only [jobsC, List.flatMap_cons, List.getD_cons_succ] at ih ⊢
    rw [List.getElem?_append_right (by simp [jobCells]; omega), ← ih]
    congr 1
    simp [jobCells]; omega

/-- The slice reads as these jobs. -/
def RdJ (w : World) (v : Value) (js : List JobD) : Prop :=
  (∃ a cap, v = .slice a 0 cap ∧ cap ≤ maxLen ∧ js = []) ∨ ∃ b off cap, v = .slice (some ⟨b, off, none⟩) js.length cap ∧ js.length ≤ cap ∧ cap ≤ maxLen ∧ ∀ i, i < js.length → ∀ c u, (jobCells (js.getD i J0))[c]? = some u → w.cell? ⟨b, off + i * 4 + c, none⟩ = some u
def OwnJ (lo hi : Nat) (w : World) (v : Value) (js : List JobD) : Prop := w.ownsRow lo 113 4 v js.length (jobsC js) ∧ ∀ g, v.ownBlock = some g → g < hi
def bulkJ (js : List JobD) : Nat := js.length
def cntJ (js : List JobD) : Nat := js.length * 4

theorem RdJ.shape {w : World} {v : Value} {js : List JobD} (h : RdJ w v js) : ∃ a c, v = .slice a js.length c := by
  rcases h with ⟨a, cap, rfl, _, rfl⟩ | ⟨b, off, cap, rfl, _⟩
  · exact ⟨a, cap, rfl⟩
  · exact ⟨_, cap, rfl⟩
theorem RdJ.len {w : World} {v : Value} {js : List JobD} (h : RdJ w v js) : js.length ≤ maxLen := by
  rcases h with ⟨a, cap, rfl, _, rfl⟩ | ⟨b, off, cap, rfl, h1, h2, _⟩
  · simp [maxLen]
  · omega
theorem RdJ.at {w : World} {a : Option Addr} {n c : Nat} {js : List JobD} (h : RdJ w (.slice a n c) js) {i : Nat} (hi : i < js.length) :
    ∃ b off, a = some ⟨b, off, none⟩ ∧ b < w.heap.size ∧ w.cell? ⟨b, off + i * 4, none⟩ = some (.int .i64 (js.getD i J0).long) ∧ w.cell? ⟨b, off + i * 4 + 1, none⟩ = some (.int .i64 (js.getD i J0).due) ∧ w.cell? ⟨b, off + i * 4 + 2, none⟩ = some (.int .i64 (js.getD i J0).weight) ∧ w.cell? ⟨b, off + i * 4 + 3, none⟩ = some (.int .i64 (js.getD i J0).ready) := by
  rcases h with ⟨_, _, _, _, rfl⟩ | ⟨b, off, cap, e, _, _, hc⟩
  · simp at hi
  · simp only [Value.slice.injEq] at e
    obtain ⟨rfl, rfl, rfl⟩ := e
    have h0 := hc i hi 0 _ rfl
    exact ⟨b, off, rfl, cell_lt h0, h0, hc i hi 1 _ rfl, hc i hi 2 _ rfl, hc i hi 3 _ rfl⟩
theorem RdJ.up {w w' : World} {v : Value} {js : List JobD} {B : Nat} (h : RdJ w v js) (hb : Below B w w') (hB : w.heap.size ≤ B) : RdJ w' v js := by
  rcases h with h | ⟨b, off, cap, e, h1, h2, hc⟩
  · exact .inl h
  · exact .inr ⟨b, off, cap, e, h1, h2, fun i hi c u hu => held_of hb (hc i hi c u hu) hB⟩

theorem ownsK_below {w w' : World} {base B size : Nat} {e : TypeId} {v : Value} {n : Nat} {vs : List Value} (h : w.ownsRow base e size v n vs) (hb : Below B w w') (hB : w.heap.size ≤ B) : w'.ownsRow base e size v n vs := by
  refine ⟨h.1, ?_⟩
  rcases h.2 with h2 | ⟨g, cap, cur, hv, h3, hg, r⟩
  · exact .inl h2
  · exact .inr ⟨g, cap, cur, hv, h3, by rw [hb.block g (by have := lt_of_block hg; omega)]; exact hg, r⟩
theorem ownsK_base {w : World} {base base' size : Nat} {e : TypeId} {v : Value} {n : Nat} {vs : List Value} (h : w.ownsRow base e size v n vs) (hb : base' ≤ base) : w.ownsRow base' e size v n vs := by
  refine ⟨h.1, ?_⟩
  rcases h.2 with h2 | ⟨g, cap, cur, hv, h3, hg, r⟩
  · exact .inl h2
  · exact .inr ⟨g, cap, cur, hv, by omega, hg, r⟩
theorem ownsK_kept {S : Nat → Prop} {w w' : World} {base size : Nat} {e : TypeId} {v : Value} {n : Nat} {vs : List Value} (h : w.ownsRow base e size v n vs) (hk : Kept S w w') (hs : ∀ g, v.ownBlock = some g → ¬ S g) : w'.ownsRow base e size v n vs := by
  refine ⟨h.1, ?_⟩
  rcases h.2 with h2 | ⟨g, cap, cur, hv, h3, hg, r⟩
  · exact .inl h2
  · exact .inr ⟨g, cap, cur, hv, h3, by rw [hk.block g (lt_of_block hg) (hs g (by rw [hv]; rfl))]; exact hg, r⟩

theorem OwnJ.rd {lo hi : Nat} {w : World} {v : Value} {js : List JobD} (h : OwnJ lo hi w v js) : RdJ w v js := by
  rcases h.1.2 with ⟨rfl, e⟩ | ⟨g, cap, cur, rfl, hb, hg, hn, hm, hs, ht⟩
  · left; exact ⟨none, 0, rfl, by simp [maxLen], List.length_eq_zero_iff.1 e⟩
  · right
    refine ⟨g, 0, cap, rfl, hn, hm, fun i hi c u hu => ?_⟩
    have hc : c < 4 := by
      have := (List.getElem?_eq_some_iff.1 hu).1
      simpa [jobCells] using this
    have h1 := h.1.cellAt (i * 4 + c) (by omega)
    rw [jobsC_at js i c hi hc, hu] at h1
    simpa [Nat.add_assoc] using h1
theorem OwnJ.up {lo hi : Nat} {w w' : World} {v : Value} {js : List JobD} {B : Nat} (h : OwnJ lo hi w v js) (hb : Below B w w') (hB : w.heap.size ≤ B) : OwnJ lo hi w' v js := ⟨ownsK_below h.1 hb hB, h.2⟩
theorem OwnJ.wide {lo hi lo' hi' : Nat} {w : World} {v : Value} {js : List JobD} (h : OwnJ lo hi w v js) (h1 : lo' ≤ lo) (h2 : hi ≤ hi') : OwnJ lo' hi' w v js := ⟨ownsK_base h.1 h1, fun g hg => Nat.lt_of_lt_of_le (h.2 g hg) h2⟩
theorem OwnJ.kept {lo hi : Nat} {w w' : World} {v : Value} {js : List JobD} {S : Nat → Prop} (h : OwnJ lo hi w v js) (hk : Kept S w w') (hs : ∀ b, lo ≤ b → b < hi → ¬ S b) : OwnJ lo hi w' v js :=
  ⟨ownsK_kept h.1 hk fun g hg => hs g (h.1.lt g hg).1 (h.2 g hg), h.2⟩
theorem OwnJ.mk {lo : Nat} {w : World} {v : Value} {js : List JobD} (h : w.ownsRow lo 113 4 v js.length (jobsC js)) : OwnJ lo w.heap.size w v js := ⟨h, fun g hg => (h.lt g hg).2⟩

end Go.Proofs.Ytkkcgclliomocaa
