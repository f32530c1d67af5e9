/-
  FnExactRecoverCases: texts joined: MarkL, AppLL, Concat, Bytes, HeldL, FormO.
-/
import Derived.Lib.AppendZeros
import Derived.ProofKit
import Derived.OpenShut
import Derived.Test.YtkkcgclliomocaaMERecoverCasesAA
namespace Go.Proofs.Ytkkcgclliomocaa
open Go.RowKit

def cntL (zss : List (List Int)) : Nat := lsum zss
theorem cntL_le (zss : List (List Int)) : cntL zss ≤ bulkL zss := by unfold cntL bulkL; omega
/-- The first j lists marked from k on. -/
def mkP (k : Int) : List (List Int) → Nat → List (List Int)
  | [], _ => []
  | zss, 0 => zss
  | z :: r, j + 1 => mkI k z.length :: mkP (k + z.length) r j
def mkdL (k : Int) (zss : List (List Int)) : List (List Int) := mkP k zss zss.length
theorem mkP_zero (k : Int) (zss : List (List Int)) : mkP k zss 0 = zss := by cases zss <;> rfl
theorem mkP_length (k : Int) : ∀ (zss : List (List Int)) (j : Nat), (mkP k zss j).length = zss.length
  | [], j => by cases j <;> rfl
  | z :: r, 0 => rfl
  | z :: r, j + 1 => by simp only [mkP, List.length_cons, mkP_length (k + z.length) r j]
theorem mkP_late (k : Int) : ∀ (zss : List (List Int)) (j i : Nat), j ≤ i → (mkP k zss j)[i]? = zss[i]?
  | [], j, i, _ => by cases j <;> rfl
  | z :: r, 0, i, _ => rfl
  | z :: r, j + 1, i, h => by
    cases i with
    | zero => omega
    | succ i => simp only [mkP, List.getElem?_cons_succ]; exact mkP_late (k + z.length) r j i (by omega)
theorem mkP_set (k : Int) : ∀ (zss : List (List Int)) (j : Nat), j < zss.length → mkP k zss (j + 1) = (mkP k zss j).set j (mkI (k + lsum (zss.take j)) (zss.getD j []).length)
  | [], j, h => by simp at h
  | z :: r, 0, h => by simp [mkP, mkP_zero, lsum]
  | z :: r, j + 1, h => by
    have ih := mkP_set (k + z.length) r j (by simpa using h)
    rw [mkP, ih, mkP, List.set_cons_succ]
    congr 2
    simp only [List.take_succ_cons, lsum, List.getD_cons_succ]
    congr 1
    push_cast
    omega
theorem mkdL_at (k : Int) : ∀ (zss : List (List Int)) (j i : Nat), i < j → i < zss.length → (mkP k zss j)[i]? = some (mkI (k + lsum (zss.take i)) (zss.getD i []).length)
  | [], j, i, _, h => by simp at h
  | z :: r, 0, i, h, _ => by omega
  | z :: r, j + 1, 0, _, _ => by simp [mkP, lsum]
  | z :: r, j + 1, i + 1, h, h2 => by
    have ih := mkdL_at (k + z.length) r j i (by omega) (by simpa using h2)
    simp only [mkP, List.getElem?_cons_succ, ih, List.take_succ_cons, lsum, List.getD_cons_succ]
    congr 2
    push_cast
    omega

theorem owns_ne {w : World} {b1 b2 n1 n2 g : Nat} {e1 e2 : TypeId} {v1 v2 : Value} {x1 x2 : List Value} (h1 : w.ownsRow b1 e1 1 v1 n1 x1) (h2 : w.ownsRow b2 e2 1 v2 n2 x2) (hne : e1 ≠ e2) (hg : v1.ownBlock = some g) : v2.ownBlock ≠ some g := by
  intro hg2
  rcases h1.2 with ⟨rfl, _⟩ | ⟨a, cap, cur, rfl, _, hh, _⟩
  · simp [Value.ownBlock] at hg
  · rcases h2.2 with ⟨rfl, _⟩ | ⟨a2, cap2, cur2, rfl, _, hh2, _⟩
    · simp [Value.ownBlock] at hg2
    · simp only [Value.ownBlock, Option.some.injEq] at hg hg2
      subst hg hg2
      rw [hh] at hh2
      simp only [Option.some.injEq, Obj.cells.injEq] at hh2
      exact hne hh2.2.1
/-- Where memory that is owned lies: in a block of its own, or nowhere. -/
theorem OwnI.own {lo hi : Nat} {w : World} {u : Value} {zs : List Int} (h : OwnI lo hi w u zs) : ∃ l h', OwnI l h' w u zs ∧ ((u.ownBlock = none ∧ l = 0 ∧ h' = 0) ∨ (u.ownBlock = some l ∧ h' = l + 1 ∧ lo ≤ l ∧ l < hi)) := by
  obtain ⟨h1, h2⟩ := h
  rcases h1.2 with ⟨rfl, e⟩ | ⟨g, cap, cur, rfl, a1, a2⟩
  · exact ⟨0, 0, ⟨⟨h1.1, .inl ⟨rfl, e⟩⟩, by intro g hg; cases hg⟩, .inl ⟨rfl, rfl, rfl⟩⟩
  · exact ⟨g, g + 1, ⟨⟨h1.1, .inr ⟨g, cap, cur, rfl, Nat.le_refl _, a2⟩⟩, by intro g' hg; simp only [Value.ownBlock, Option.some.injEq] at hg; omega⟩, .inr ⟨rfl, rfl, a1, h2 g rfl⟩⟩

/-- One of the rows is written anew: the others are as they were. -/
theorem OwnEach.set {lo hi l h' : Nat} {w w' : World} {vs : List Value} {zss : List (List Int)} {i : Nat} {u : Value} {z : List Int} (h : OwnEach lo hi w vs zss) (hu : vs[i]? = some u)
    (hl : (u.ownBlock = none ∧ l = 0 ∧ h' = 0) ∨ (u.ownBlock = some l ∧ h' = l + 1 ∧ lo ≤ l ∧ l < hi)) (hn : OwnI l h' w' u z) (hk : Kept (fun b => l ≤ b ∧ b < h') w w') : OwnEach lo hi w' vs (zss.set i z) := by
  refine ⟨by rw [List.length_set]; exact h.1, fun j u' zs h1 h2 => ?_, h.2.2⟩
  by_cases hji : j = i
  · subst hji
    rw [hu] at h1
    simp only [Option.some.injEq] at h1
    subst h1
    have hlt : j < zss.length := by rw [← h.1]; exact (List.getElem?_eq_some_iff.1 hu).1
    rw [List.getElem?_set_self (by simpa using hlt)] at h2
    simp only [Option.some.injEq] at h2
    subst h2
    rcases hl with ⟨e, rfl, rfl⟩ | ⟨e, rfl, a1, a2⟩
    · refine ⟨⟨hn.1.1, ?_⟩, by intro g hg; rw [e] at hg; cases hg⟩
      rcases hn.1.2 with x | ⟨g, cap, cur, rfl, _⟩
      · exact .inl x
      · simp [Value.ownBlock] at e
    · exact hn.wide a1 (by omega)
  · rw [List.getElem?_set_ne (by omega)] at h2
    have ho := h.2.1 j u' zs h1 h2
    refine ⟨owns_kept ho.1 hk ?_, ho.2⟩
    rintro g hg ⟨hs1, hs2⟩
    rcases hl with ⟨e, rfl, rfl⟩ | ⟨e, rfl, a1, a2⟩
    · omega
    · have : g = l := by omega
      subst this
      exact h.2.2 i j u u' g (by omega) hu h1 e hg

set_option maxHeartbeats 1000000 in
theorem markL_o (v : Value) (lo hi : Nat) (zss : List (List Int)) (k : Int) (w : World) (ho : OwnL lo hi w v zss) (h0 : 0 ≤ k) (h1 : k + cntL zss ≤ 1099511627776) :
    Calls Try.prog 66 #[v, .int .i64 k] w fun e w' => e = .returned (.int .i64 (k + cntL zss)) ∧ OwnL lo hi w' v (mkdL k zss) ∧ Kept (fun b => lo ≤ b ∧ b < hi) w w' := by
  obtain ⟨a, c, rfl⟩ := ho.rd.shape
  have hl := ho.rd.len
  unfold maxLen at hl
  obtain ⟨vs, hown, hhi, heach⟩ := ho
  have hvl : vs.length = zss.length := heach.1
  have HO := Lib.hid hown
  have HH := Lib.hid hhi
  have HE := Lib.hid heach
  have HVL := Lib.hid hvl
  have HC := Lib.hid h1
  clear hown heach hhi hvl h1
  go_enter Try.func66, Try.ntmps66
  go_wp2_with fail
  go_loopw [1, 5] (fun kk i wr => ∃ j : Nat, i = .int .i64 j ∧ j ≤ zss.length ∧ kk = .int .i64 (k + lsum (zss.take j)) ∧ wr.ownsRow lo 65 1 (.slice a zss.length c) zss.length vs ∧ OwnEach lo hi wr vs (mkP k zss j) ∧ Kept (fun b => lo ≤ b ∧ b < hi) w wr) (fun _ i _ => zss.length - (intOf i).toNat)
  case atStart => exact ⟨0, rfl, Nat.zero_le _, by simp [lsum], HO.out, by rw [mkP_zero]; exact HE.out, Kept.refl _ _⟩
  case round =>
    obtain ⟨j, rfl, hj, rfl, hown, heach, hkp⟩ := hrel
    have HO1 := Lib.hid hown
    have HE1 := Lib.hid heach
    have HK1 := Lib.hid hkp
    clear heach hkp
    by_cases hlt : j < zss.length
    · obtain ⟨g, rfl, hlo⟩ := owns_slice_some hown (by omega)
      clear hown
      obtain ⟨u, hu⟩ : ∃ u, vs[j]? = some u := ⟨vs[j]'(by rw [HVL.out]; exact hlt), by simp [HVL.out, hlt]⟩
      have hd := HO1.out.cellAt j (by omega)
      rw [hu] at hd
      have hz : (mkP k zss j)[j]? = some (zss.getD j []) := by rw [mkP_late k zss j j (Nat.le_refl _)]; simp [hlt]
      obtain ⟨l, h', hoi, hcase⟩ := (HE1.out.2.1 j u _ hu hz).own
      have HS := Lib.hid (mkP_set k zss j hlt)
      have HT := Lib.hid (sum_take_succ zss j hlt)
      have HB := Lib.hid (bulkL_le zss (j + 1))
      obtain ⟨z, hzk⟩ : ∃ z, z = zss.getD j [] := ⟨_, rfl⟩
      rw [← hzk] at hoi HS HT
      obtain ⟨sm, hsm⟩ : ∃ s, s = lsum (zss.take j) := ⟨_, rfl⟩
      rw [← hsm] at HS HT ⊢
      have hbound : (sm : Int) + z.length ≤ cntL zss := by
        have h1 := HT.out
        have h2 := HB.out
        unfold cntL
        unfold bulkL at h2
        omega
      obtain ⟨ua, uc, rfl⟩ := hoi.rd.shape
      have HOI := Lib.hid hoi
      have HU := Lib.hid hu
      have HCA := Lib.hid hcase
      clear hoi hz hu hsm hzk
      go_wp2_with fail
      refine (markI_any _ l h' z (k + sm) wr HOI.out (by omega) (by have := HC.out; omega)).mono ?_
      rintro e w2 ⟨rfl, ho2, hk2⟩
      have HE2 := Lib.hid (HE1.out.set HU.out HCA.out ho2 hk2)
      have HO2 := Lib.hid (owns_kept HO1.out hk2 (by
        rintro g' hg' ⟨s1, s2⟩
        rcases HCA.out with ⟨_, rfl, rfl⟩ | ⟨e, rfl, _, _⟩
        · omega
        · have : g' = l := by omega
          subst this
          exact owns_ne HO1.out HOI.out.1 (by decide) hg' e))
      have HK2 := Lib.hid (HK1.out.trans (hk2.mono (S' := fun b => lo ≤ b ∧ b < hi) (by
        rintro b _ ⟨s1, s2⟩
        rcases HCA.out with ⟨_, rfl, rfl⟩ | ⟨e, rfl, a1, a2⟩
        · omega
        · omega)))
      clear ho2 hk2 hd
      have HCC := HC.out
      go_wp2_with fail
      go_roundw
      case rel => exact ⟨j + 1, by go_num, by omega, by rw [HT.out]; push_cast; go_num, HO2.out, by rw [HS.out]; exact HE2.out, HK2.out⟩
      case measure => simp [intOf]; omega
    · obtain rfl : j = zss.length := by omega
      clear hown
      go_wp2_with fail
      go_ret
      refine ⟨by rw [List.take_length]; rfl, ⟨vs, ?_, HH.out, HE1.out⟩, HK1.out⟩
      rw [mkdL, mkP_length]
      exact HO1.out

end Go.Proofs.Ytkkcgclliomocaa

namespace Go.Proofs.Ytkkcgclliomocaa
open Go.RowKit

theorem app_list {w : World} {ops : Array Oper} {rest : List Oper} {o : Oper} {a : Act} {Q : Exit → Act → World → Prop} (hgd : o.guard = none) (s x : Operand)
    (ho : o.op = .call { callee := .builtin .append, args := #[s, x], argTypes := #[29, 29] })
    (base : Nat) (v : Value) (n : Nat) (vs : List Value) (hs : a.eval s = v) (hown : w.ownsRow base 65 1 v n vs)
    (sv : Value) (ua : Option Addr) (un uc : Nat) (hx : a.eval x = sv) (hsv : Slc w sv [.slice ua un uc]) (hlen : n ≤ 1048576) (hbase : base ≤ w.heap.size)
    (h : ∀ a' cap' w', w'.ownsRow base 65 1 (.slice a' (n + 1) cap') (n + 1) (vs ++ [.slice ua un uc]) → Below base w w' → w.grownBy w' v.ownBlock → wpList Try.prog ops Q rest (a.put o.dst (.slice a' (n + 1) cap')) w') :
    wpList Try.prog ops Q (o :: rest) a w := by
  obtain ⟨i0, hi, hz0, hz1, hz2⟩ := info_parts Try.infoInts
  refine wpList_append_slc hgd s x 29 ho base 65 i0 (.slice none 0 0) 24 Try.underlying29 hi hz0 hz1 hz2 rfl v n vs hs hown sv [.slice ua un uc] hx hsv (by intro u hu; simp at hu; subst hu; rfl) (by simp [maxLen]; omega) (by simp; omega) hbase ?_
  intro v' w' h1 h2 h3
  obtain ⟨a', cap', rfl⟩ := owns_shape h1
  exact h a' cap' w' h1 (below_grown hown hbase h2) h2

/-- A new row of one list. -/
theorem slc_list (w : World) (u : Value) (b : Nat) (hb : b = w.heap.size) : Slc (w.alloc (.cells #[u] 65)) (.slice (some ⟨b, 0, none⟩) 1 1) [u] := by
  subst hb
  exact slc_of_owns (World.ownsRow_lit (base := w.heap.size) (e := 65) (size := 1) w #[u] 1 (Nat.le_refl _) (by simp [maxLen]) rfl)

/-- The lists of one's own, and one more. -/
theorem OwnEach.snoc {lo hi l2 h2 : Nat} {w w' : World} {v u : Value} {n : Nat} {vs : List Value} {zss : List (List Int)} {z : List Int} (hv : w.ownsRow lo 65 1 v n vs) (he : OwnEach lo hi w vs zss) (hu : OwnI l2 h2 w u z) (hhi : hi ≤ l2) (hl : lo ≤ l2) (h2w : h2 ≤ w.heap.size) (hiw : hi ≤ w.heap.size) (hg : w.grownBy w' v.ownBlock) :
    OwnEach lo w'.heap.size w' (vs ++ [u]) (zss ++ [z]) := by
  have hz := hg.size
  have keep : ∀ {l h : Nat} {u : Value} {z : List Int}, OwnI l h w u z → OwnI l h w' u z := by
    intro l h u z ho
    refine ⟨owns_kept (S := fun k => v.ownBlock = some k) ho.1 ⟨hg.os, hg.tape, hg.output, hg.size, fun k hk hs => hg.block k hk fun e => hs e.symm⟩ (fun g h1 h2 => owns_ne ho.1 hv (by decide) h1 h2), ho.2⟩
  have at' : ∀ (i : Nat) u1 z1, (vs ++ [u])[i]? = some u1 → (zss ++ [z])[i]? = some z1 → (i < zss.length ∧ vs[i]? = some u1 ∧ zss[i]? = some z1) ∨ (i = zss.length ∧ u1 = u ∧ z1 = z) := by
    intro i u1 z1 h1 h2
    by_cases hik : i < zss.length
    · rw [List.getElem?_append_left (by rw [he.1]; exact hik)] at h1
      rw [List.getElem?_append_left hik] at h2
      exact .inl ⟨hik, h1, h2⟩
    · have hik' : i = zss.length := by
        have := (List.getElem?_eq_some_iff.1 h2).1
        simp at this
        omega
      subst hik'
      rw [List.getElem?_append_right (by rw [he.1]; exact Nat.le_refl _), he.1] at h1
      rw [List.getElem?_append_right (Nat.le_refl _)] at h2
      simp at h1 h2
      exact .inr ⟨rfl, h1.symm, h2.symm⟩
  refine ⟨by simp [he.1], ?_, ?_⟩
  · intro i u1 z1 h1 h2'
    rcases at' i u1 z1 h1 h2' with ⟨_, q1, q2⟩ | ⟨_, rfl, rfl⟩
    · exact (keep (he.2.1 i u1 z1 q1 q2)).wide (Nat.le_refl _) (by omega)
    · exact (keep hu).wide hl (by omega)
  · intro i j u1 u2 g hij h1 h2' hg1 hg2
    have zat : ∀ (i : Nat) u1, (vs ++ [u])[i]? = some u1 → ∃ z1, (zss ++ [z])[i]? = some z1 := by
      intro i u1 h
      have := (List.getElem?_eq_some_iff.1 h).1
      simp [he.1] at this
      exact ⟨(zss ++ [z])[i]'(by simp; omega), List.getElem?_eq_getElem (by simp; omega)⟩
    obtain ⟨z1, q1⟩ := zat i u1 h1
    obtain ⟨z2, q2⟩ := zat j u2 h2'
    rcases at' i u1 z1 h1 q1 with ⟨a1, a2, a3⟩ | ⟨a1, rfl, rfl⟩ <;> rcases at' j u2 z2 h2' q2 with ⟨c1, c2, c3⟩ | ⟨c1, rfl, rfl⟩
    · exact he.2.2 i j u1 u2 g hij a2 c2 hg1 hg2
    · have := (he.2.1 i u1 z1 a2 a3).2 g hg1
      have := (owns_lt hu.1 hg2).1
      omega
    · have := (he.2.1 j u2 z2 c2 c3).2 g hg2
      have := (owns_lt hu.1 hg1).1
      omega
    · omega

end Go.Proofs.Ytkkcgclliomocaa

namespace Go.Proofs.Ytkkcgclliomocaa
open Go.RowKit

/-- The head of what has just been made of zeros, at length 0. -/
theorem owns_head {w : World} {e : TypeId} (cs : Array Value) (cap : Nat) (hc : cs.size = cap) (hm : cap ≤ maxLen) : (w.drew.alloc (.cells cs e)).ownsRow w.heap.size e 1 (.slice (some ⟨w.heap.size, 0, none⟩) 0 cap) 0 [] := by
  refine ⟨rfl, .inr ⟨w.heap.size, cap, cs, rfl, Nat.le_refl _, ?_, Nat.zero_le _, hm, by simpa using hc, by simp⟩⟩
  simpa using heap_alloc_new w.drew (.cells cs e)

set_option maxHeartbeats 1000000 in
set_option maxRecDepth 4000 in
theorem growLL_nil (n : Nat) (w : World) (hn : n ≤ 2097152) :
    Calls Try.prog 127 #[.slice none 0 0, .int .i64 n] w fun e w' => ∃ a cap, e = .returned (.slice a 0 cap) ∧ w'.ownsRow w.heap.size 65 1 (.slice a 0 cap) 0 [] ∧ Below w.heap.size w w' := by
  obtain ⟨i0, hi, hz0, hz1, hz2⟩ := info_parts Try.infoInts
  go_enter Try.func127, Try.ntmps127
  by_cases h0 : 0 < n
  · have HR := Lib.hid (show ∃ (w1 : World) (cap : Nat), (Builtin.append_ #[29, 3] 29 #[.slice none 0 0, .int .i64 n]).run Try.prog w = .ok (.slice (some ⟨w.heap.size, 0, none⟩) n cap) w1 ∧ n ≤ cap ∧ cap ≤ maxLen ∧ w1.ownsRow w.heap.size 65 1 (.slice (some ⟨w.heap.size, 0, none⟩) 0 cap) 0 [] ∧ Below w.heap.size w w1 from by
      refine ⟨_, _, Lib.run_append_nil_zeros (P := Try.prog) w 29 3 29 65 i0 (.slice none 0 0) .i64 .i64 Try.underlying29 Try.underlying3 hi hz0 n h0 (by omega) (by omega) (by rw [hz2]; omega), grownCap_ge _ _ _ _, grownCap_le_maxLen _ _ _ _ (by unfold maxLen; omega), owns_head _ _ ?_ (grownCap_le_maxLen _ _ _ _ (by unfold maxLen; omega)), ?_⟩
      · have := grownCap_ge w n 0 65
        simp [Builtin.zeroCells, Value.cells]; omega
      · exact (Below.refl _ _).drew.alloc (by simp) _)
    obtain ⟨w1, cap, hr, hn1, hn2, hown, hb⟩ := HR.out
    have HR1 := Lib.hid hr
    clear hr HR
    simp only [maxLen] at hn2
    go_wp2_with (at_builtin; refine Lib.wpList_append_run w rfl _ _ 29 3 rfl _ _ rfl rfl _ _ HR1.out ?_)
    go_ret
    exact ⟨_, _, rfl, hown, hb⟩
  · obtain rfl : n = 0 := by omega
    go_wp2_with fail
    go_ret
    exact ⟨none, 0, rfl, World.ownsRow_nil _ _ _ _, Below.refl _ _⟩

def upTo2 {α : Type} (a b : List α) : Nat → List α
  | 0 => []
  | 1 => a
  | _ => a ++ b

set_option maxHeartbeats 2000000 in
set_option maxRecDepth 4000 in
theorem concatLL_any (b : Nat) (a1 : Option Addr) (c1 n1 : Nat) (a2 : Option Addr) (c2 n2 : Nat) (vs1 vs2 : List Value) (w : World) (s1 : Slc w (.slice a1 n1 c1) vs1) (s2 : Slc w (.slice a2 n2 c2) vs2)
    (o1 : ∀ u ∈ vs1, u.oneCell' = true) (o2 : ∀ u ∈ vs2, u.oneCell' = true) (l1 : vs1.length = n1) (l2 : vs2.length = n2)
    (k1 : w.cell? ⟨b, 0, none⟩ = some (.slice a1 n1 c1)) (k2 : w.cell? ⟨b, 1, none⟩ = some (.slice a2 n2 c2)) (hn : n1 + n2 ≤ 1048576) :
    Calls Try.prog 101 #[.slice (some ⟨b, 0, none⟩) 2 2] w fun e w' => ∃ a cap, e = .returned (.slice a (n1 + n2) cap) ∧ w'.ownsRow w.heap.size 65 1 (.slice a (n1 + n2) cap) (n1 + n2) (vs1 ++ vs2) ∧ Below w.heap.size w w' := by
  obtain ⟨i0, hi, hz0, hz1, hz2⟩ := info_parts Try.infoInts
  have S1 := Lib.hid s1
  have S2 := Lib.hid s2
  have O1 := Lib.hid o1
  have O2 := Lib.hid o2
  have K1 := Lib.hid k1
  have K2 := Lib.hid k2
  have N1 := Lib.hid l1
  have N2 := Lib.hid l2
  clear s1 s2 o1 o2 l1 l2
  go_enter Try.func101, Try.ntmps101
  go_wp2_with fail
  go_loop [3, 11] (fun s i => ∃ k m : Nat, i = .int .i64 k ∧ k ≤ 2 ∧ s = .int .i64 m ∧ m ≤ 1048576 ∧ Hid (m = (upTo2 vs1 vs2 k).length)) (fun _ i => 2 - (intOf i).toNat)
  case atStart => exact ⟨0, 0, rfl, Nat.zero_le _, rfl, by omega, rfl⟩
  case round =>
    obtain ⟨k, m, rfl, hk, rfl, hm, HM⟩ := hrel
    rcases (by omega : k = 0 ∨ k = 1 ∨ k = 2) with rfl | rfl | rfl
    · have hm0 : m = 0 := HM.out
      subst hm0
      go_wp2_with fail
      go_round
      case rel => exact ⟨1, n1, by go_num, by omega, by go_num, by omega, N1.out.symm⟩
      case measure => simp [intOf]
    · have hm0 : n1 = m := (HM.out.trans N1.out).symm
      subst hm0
      go_wp2_with fail
      go_round
      case rel => exact ⟨2, n1 + n2, by go_num, by omega, by go_num, by omega, by show _ = (vs1 ++ vs2).length; rw [List.length_append, N1.out, N2.out]⟩
      case measure => simp [intOf]
    · have hm0 : m = n1 + n2 := by have := HM.out; rw [this]; show (vs1 ++ vs2).length = _; rw [List.length_append, N1.out, N2.out]
      subst hm0
      go_wp2_with fail
      have e2 : ((n1 + n2 : Nat) : Int) = (n1 : Int) + n2 := by push_cast; rfl
      refine (growLL_nil (n1 + n2) w (by omega)).mono ?_
      rintro e w1 ⟨a, cap, rfl, hown, hb⟩
      have HO := Lib.hid hown
      have HB := Lib.hid hb
      clear hown hb
      go_wp2_with fail
      go_loopw [6, 27] (fun o i wr => ∃ (k : Nat) (a : Option Addr) (n cap : Nat), i = .int .i64 k ∧ k ≤ 2 ∧ o = .slice a n cap ∧ n ≤ 1048576 ∧ n = (upTo2 vs1 vs2 k).length ∧ Hid (wr.ownsRow w.heap.size 65 1 (.slice a n cap) n (upTo2 vs1 vs2 k)) ∧ Hid (Below w.heap.size w wr)) (fun _ i _ => 2 - (intOf i).toNat)
      case atStart => exact ⟨0, a, 0, cap, rfl, Nat.zero_le _, rfl, by omega, rfl, HO, HB⟩
      case round =>
        obtain ⟨k, a', n, cap', rfl, hk, rfl, hn0, hnl, HO1, HB1⟩ := hrel
        have HNL := Lib.hid hnl
        have hz := HB1.out.size
        clear hnl
        rcases (by omega : k = 0 ∨ k = 1 ∨ k = 2) with rfl | rfl | rfl
        · have q1 := held_of HB1.out K1.out (Nat.le_refl _)
          go_wp2_with (at_builtin; refine wpList_append_slc rfl _ _ 29 rfl w.heap.size 65 i0 (.slice none 0 0) 24 Try.underlying29 hi hz0 hz1 hz2 rfl _ n (upTo2 vs1 vs2 0) rfl HO1.out _ vs1 rfl (Slc.below S1.out HB1.out (Nat.le_refl _)) O1.out (by have := N1.out; have := HNL.out; simp only [upTo2, List.length_nil] at this; simp [maxLen]; omega) (by have := N1.out; have := HNL.out; simp only [upTo2, List.length_nil] at this; omega) hz ?_; intro v' w' o1 o2 o3)
          obtain ⟨a3, cap3, rfl⟩ := owns_shape o1
          have hn1 : n + vs1.length = n1 := by have := N1.out; have := HNL.out; simp only [upTo2, List.length_nil] at this; omega
          rw [hn1] at o1 ⊢
          have hbl := below_grown HO1.out hz o2
          go_wp2_with fail
          go_roundw
          case rel => exact ⟨1, a3, _, cap3, by go_num, by omega, rfl, by omega, N1.out.symm, o1, HB1.out.trans hbl⟩
          case measure => simp [intOf]
        · have q2 := held_of HB1.out K2.out (Nat.le_refl _)
          go_wp2_with (at_builtin; refine wpList_append_slc rfl _ _ 29 rfl w.heap.size 65 i0 (.slice none 0 0) 24 Try.underlying29 hi hz0 hz1 hz2 rfl _ n (upTo2 vs1 vs2 1) rfl HO1.out _ vs2 rfl (Slc.below S2.out HB1.out (Nat.le_refl _)) O2.out (by have := N2.out; simp [maxLen]; omega) (by have := N2.out; omega) hz ?_; intro v' w' o1 o2 o3)
          obtain ⟨a3, cap3, rfl⟩ := owns_shape o1
          have hn1 : n + vs2.length = n1 + n2 := by have := N1.out; have := N2.out; have := HNL.out; simp only [upTo2] at this; omega
          rw [hn1] at o1 ⊢
          have hbl := below_grown HO1.out hz o2
          go_wp2_with fail
          go_roundw
          case rel => exact ⟨2, a3, _, cap3, by go_num, by omega, rfl, by omega, by show _ = (vs1 ++ vs2).length; rw [List.length_append, N1.out, N2.out], o1, HB1.out.trans hbl⟩
          case measure => simp [intOf]
        · go_wp2_with fail
          go_ret
          have hn1 : n1 + n2 = n := by have := HNL.out; rw [this]; show _ = (vs1 ++ vs2).length; rw [List.length_append, N1.out, N2.out]
          subst hn1
          exact ⟨_, _, rfl, HO1.out, HB1.out⟩

theorem owns_beside {w w' : World} {b1 b2 e1 e2 n m : Nat} {v u : Value} {vs us : List Value} (ho : w.ownsRow b1 e1 1 v n vs) (hv : w.ownsRow b2 e2 1 u m us) (hne : e1 ≠ e2) (hg : w.grownBy w' u.ownBlock) : w'.ownsRow b1 e1 1 v n vs :=
  owns_kept (S := fun k => u.ownBlock = some k) ho ⟨hg.os, hg.tape, hg.output, hg.size, fun k hk hs => hg.block k hk fun e => hs e.symm⟩ (fun _ h1 h2 => owns_ne ho hv hne h1 h2)

end Go.Proofs.Ytkkcgclliomocaa

namespace Go.Proofs.Ytkkcgclliomocaa
open Go.RowKit

def B8 (x : Int) : Value := .int .u8 x
/-- The slice reads as these bytes. -/
def RdB (w : World) (v : Value) (xs : List Int) : Prop := Slc w v (xs.map B8)
def WfB (zs : List Int) : Prop := ∀ z ∈ zs, 0 ≤ z ∧ z ≤ 255

theorem RdB.shape {w : World} {v : Value} {xs : List Int} (h : RdB w v xs) : ∃ a c, v = .slice a xs.length c := by
  obtain ⟨a, c, e⟩ := Slc.shape h; exact ⟨a, c, by simpa using e⟩
theorem RdB.up {w w' : World} {v : Value} {xs : List Int} {B : Nat} (h : RdB w v xs) (hb : Below B w w') (hB : w.heap.size ≤ B) : RdB w' v xs := Slc.below h hb hB
theorem RdB.len {w : World} {v : Value} {xs : List Int} (h : RdB w v xs) : xs.length ≤ maxLen := by simpa using Slc.len h
theorem RdB.at {w : World} {a : Option Addr} {n c : Nat} {xs : List Int} (h : RdB w (.slice a n c) xs) {i : Nat} (hi : i < xs.length) :
    ∃ b off, a = some ⟨b, off, none⟩ ∧ b < w.heap.size ∧ w.cell? ⟨b, off + i, none⟩ = some (.int .u8 (xs.getD i 0)) := by
  exact Slc.at h (i := i) (u := .int .u8 (xs.getD i 0)) (by simp [B8, hi])
theorem WfB.at {xs : List Int} (h : WfB xs) {i : Nat} (hi : i < xs.length) : 0 ≤ xs.getD i 0 ∧ xs.getD i 0 ≤ 255 := by
  have e : xs.getD i 0 = xs[i] := by simp [hi]
  rw [e]; exact h _ (List.getElem_mem hi)

def isLong (a b : List Int) : Bool := decide (1048576 < (a.length : Int)) || decide (1048576 < (b.length : Int))

set_option maxHeartbeats 400000 in
theorem b10Long_any (v v' : Value) (xs ys : List Int) (w : World) (h : RdB w v xs) (h' : RdB w v' ys) :
    Calls Try.prog 9 #[v, v'] w fun e w' => e = .returned (.bool (isLong xs ys)) ∧ w = w' := by
  obtain ⟨a, c, rfl⟩ := h.shape
  obtain ⟨a', c', rfl⟩ := h'.shape
  clear h h'
  by_cases h1 : 1048576 < (xs.length : Int)
  · go_enter Try.func9, Try.ntmps9
    go_wp2_with fail
    go_ret
    exact ⟨by simp [isLong, h1], rfl⟩
  · go_enter Try.func9, Try.ntmps9
    go_wp2_with fail
    go_ret
    exact ⟨by congr 2; simp [isLong, h1]; omega, rfl⟩

/-- A number that is chosen. -/
def PickE (n : Int) (w : World) (e : Ending) (w' : World) : Prop := ∃ r : Int, 0 ≤ r ∧ r < n ∧ e = .returned (.int .i64 r) ∧ w = w'

set_option maxHeartbeats 400000 in
theorem b10At_any (v : Value) (xs : List Int) (i n : Int) (w : World) (h : RdB w v xs) (hw : WfB xs) (h0 : 0 ≤ i) (h1 : i ≤ 1000000) (n1 : 1 ≤ n) (n2 : n ≤ 1000) :
    Calls Try.prog 17 #[v, .int .i64 i, .int .i64 n] w (PickE n w) := by
  obtain ⟨a, c, rfl⟩ := h.shape
  by_cases hn : n ≤ 1
  · clear h
    go_enter Try.func17, Try.ntmps17
    go_wp2_with fail
    go_ret
    exact ⟨0, by omega, by omega, rfl, rfl⟩
  · by_cases hl : i < (xs.length : Int)
    · obtain ⟨k, rfl⟩ := Int.eq_ofNat_of_zero_le h0
      have hk : k < xs.length := by omega
      obtain ⟨b, off, rfl, _, hc⟩ := h.at hk
      obtain ⟨hx0, hx1⟩ := hw.at hk
      obtain ⟨x, hx⟩ : ∃ x, x = xs.getD k 0 := ⟨_, rfl⟩
      rw [← hx] at hc hx0 hx1
      have hle := h.len
      unfold maxLen at hle
      clear hx h hw
      go_enter Try.func17, Try.ntmps17
      go_wp2_with fail
      go_ret
      exact ⟨x % n, Int.emod_nonneg _ (by omega), Int.emod_lt_of_pos _ (by omega), rfl, rfl⟩
    · clear h
      go_enter Try.func17, Try.ntmps17
      go_wp2_with fail
      go_ret
      exact ⟨(i * 37 + 11) % n, Int.emod_nonneg _ (by omega), Int.emod_lt_of_pos _ (by omega), rfl, rfl⟩

end Go.Proofs.Ytkkcgclliomocaa

namespace Go.Proofs.Ytkkcgclliomocaa
open Go.RowKit

set_option maxHeartbeats 1000000 in
theorem heldL_o (v : Value) (zss : List (List Int)) (k : Int) (w : World) (h : RdL w v (mkdL k zss)) (h0 : 0 ≤ k) (h1 : k + cntL zss ≤ 1099511627776) :
    Calls Try.prog 68 #[v, .int .i64 k] w fun e w' => e = .returned (.int .i64 (k + cntL zss)) ∧ Below w.heap.size w w' := by
  obtain ⟨a, c, rfl⟩ := h.shape
  have hl := h.len
  unfold maxLen at hl
  have hln : (mkdL k zss).length = zss.length := mkP_length k zss zss.length
  rw [hln] at hl ⊢
  have HS := Lib.hid h
  rw [hln] at HS
  have HLN := Lib.hid hln
  have HC := Lib.hid h1
  clear h h1 hln
  go_enter Try.func68, Try.ntmps68
  go_wp2_with fail
  go_loopw [1, 5] (fun kk i wr => ∃ j : Nat, i = .int .i64 j ∧ j ≤ zss.length ∧ kk = .int .i64 (k + lsum (zss.take j)) ∧ Below w.heap.size w wr) (fun _ i _ => zss.length - (intOf i).toNat)
  case atStart => exact ⟨0, rfl, Nat.zero_le _, by simp [lsum], Below.refl _ _⟩
  case round =>
    obtain ⟨j, rfl, hj, rfl, hbl⟩ := hrel
    have HB := Lib.hid hbl
    clear hbl
    by_cases hlt : j < zss.length
    · obtain ⟨b, off, u, rfl, _, hc, hu⟩ := (HS.out.up HB.out (Nat.le_refl _)).at (i := j) (by rw [HLN.out]; exact hlt)
      have hat : (mkdL k zss).getD j [] = mkI (k + lsum (zss.take j)) (zss.getD j []).length := by
        have h := mkdL_at k zss zss.length j hlt hlt
        unfold mkdL
        rw [List.getD_eq_getElem?_getD, h]; rfl
      rw [hat] at hu
      have HT := Lib.hid (sum_take_succ zss j hlt)
      have HBK := Lib.hid (bulkL_le zss (j + 1))
      obtain ⟨z, hzk⟩ : ∃ z, z = (zss.getD j []).length := ⟨_, rfl⟩
      rw [← hzk] at hu HT
      obtain ⟨sm, hsm⟩ : ∃ s, s = lsum (zss.take j) := ⟨_, rfl⟩
      rw [← hsm] at hu HT ⊢
      have hbound : (sm : Int) + z ≤ cntL zss := by
        have h1 := HT.out
        have h2 := HBK.out
        unfold cntL
        unfold bulkL at h2
        omega
      have hh := Lib.hid (heldI_any u z (k + sm) wr hu (by omega) (by have := HC.out; omega))
      have HCC := HC.out
      clear hat hu hzk hsm
      go_wp2_with fail
      refine hh.out.mono ?_
      rintro e w2 ⟨rfl, hb2⟩
      have HB2 := Lib.hid (HB.out.trans (hb2.mono HB.out.size))
      clear hb2 hc
      go_wp2_with fail
      go_roundw
      case rel => exact ⟨j + 1, by go_num, by omega, by rw [HT.out]; push_cast; go_num, HB2.out⟩
      case measure => simp [intOf]; omega
    · obtain rfl : j = zss.length := by omega
      go_wp2_with fail
      go_ret
      exact ⟨by rw [List.take_length]; rfl, HB.out⟩

end Go.Proofs.Ytkkcgclliomocaa

namespace Go.Proofs.Ytkkcgclliomocaa
open Go.RowKit

structure FormD where
  letters : Int
  clauses : List (List Int)

def RdFm (w : World) (v : Value) (d : FormD) : Prop := ∃ v1, v = .agg #[.int .i64 d.letters, v1] ∧ RdL w v1 d.clauses
def OwnFm (lo hi : Nat) (w : World) (v : Value) (d : FormD) : Prop := ∃ v1 l1 h1, v = .agg #[.int .i64 d.letters, v1] ∧ OwnL l1 h1 w v1 d.clauses ∧
  lo ≤ l1 ∧ l1 ≤ h1 ∧ h1 ≤ hi ∧ h1 ≤ w.heap.size
def bulkFm (d : FormD) : Nat := bulkL d.clauses
def cntFm (d : FormD) : Nat := cntL d.clauses

theorem RdFm.shape {w : World} {v : Value} {d : FormD} (h : RdFm w v d) : ∃ a1 c1, v = .agg #[.int .i64 d.letters, .slice a1 d.clauses.length c1] := by
  obtain ⟨v1, rfl, p1⟩ := h
  obtain ⟨a1, c1, rfl⟩ := p1.shape
  exact ⟨_, _, rfl⟩
theorem RdFm.parts {w : World} {z1 z2 : Value} {d : FormD} (h : RdFm w (.agg #[z1, z2]) d) : RdL w z2 d.clauses := by
  obtain ⟨v1, e, p1⟩ := h
  simp only [Value.agg.injEq, Array.mk.injEq, List.cons.injEq, and_true] at e
  obtain ⟨rfl, rfl⟩ := e
  exact p1
theorem RdFm.up {w w' : World} {v : Value} {d : FormD} {B : Nat} (h : RdFm w v d) (hb : Below B w w') (hB : w.heap.size ≤ B) : RdFm w' v d := by
  obtain ⟨v1, e, p1⟩ := h
  exact ⟨v1, e, p1.up hb hB⟩
theorem OwnFm.rd {lo hi : Nat} {w : World} {v : Value} {d : FormD} (h : OwnFm lo hi w v d) : RdFm w v d := by
  obtain ⟨v1, l1, h1, e, p1, r1, r2, r3, r4⟩ := h
  exact ⟨v1, e, p1.rd⟩
theorem OwnFm.up {lo hi : Nat} {w w' : World} {v : Value} {d : FormD} {B : Nat} (h : OwnFm lo hi w v d) (hb : Below B w w') (hB : w.heap.size ≤ B) : OwnFm lo hi w' v d := by
  obtain ⟨v1, l1, h1, e, p1, r1, r2, r3, r4⟩ := h
  exact ⟨v1, l1, h1, e, p1.up hb hB, r1, r2, r3, Nat.le_trans r4 hb.size⟩
theorem OwnFm.wide {lo hi lo' hi' : Nat} {w : World} {v : Value} {d : FormD} (h : OwnFm lo hi w v d) (a : lo' ≤ lo) (b : hi ≤ hi') : OwnFm lo' hi' w v d := by
  obtain ⟨v1, l1, h1, e, p1, r1, r2, r3, r4⟩ := h
  exact ⟨v1, l1, h1, e, p1, by omega, r2, by omega, r4⟩
theorem OwnFm.kept {lo hi : Nat} {w w' : World} {v : Value} {d : FormD} {S : Nat → Prop} (h : OwnFm lo hi w v d) (hk : Kept S w w') (hs : ∀ b, lo ≤ b → b < hi → ¬ S b) : OwnFm lo hi w' v d := by
  obtain ⟨v1, l1, h1, e, p1, r1, r2, r3, r4⟩ := h
  exact ⟨v1, l1, h1, e, p1.kept hk (fun b a c => hs b (by omega) (by omega)), r1, r2, r3, Nat.le_trans r4 hk.size⟩

set_option maxHeartbeats 2000000 in
set_option maxRecDepth 4000 in
theorem eqFm_same (v v' : Value) (d : FormD) (w : World) (h : RdFm w v d) (h' : RdFm w v' d) :
    Calls Try.prog 63 #[v, v'] w fun e w' => e = .returned (.bool true) ∧ Below w.heap.size w w' := by
  obtain ⟨a1, c1, rfl⟩ := h.shape
  obtain ⟨b1, e1, rfl⟩ := h'.shape
  obtain p1 := h.parts
  obtain q1 := h'.parts
  obtain ⟨n1, x2⟩ := d
  simp only at p1 q1 ⊢
  have hne0 : (n1 != n1) = false := by simp
  have P1 := Lib.hid p1
  have Q1 := Lib.hid q1
  clear h h' p1 q1
  go_enter Try.func63, Try.ntmps63
  go_wp2_with fail
  refine Calls.at fun W hW => ?_
  have HB := Lib.hid (show Below w.heap.size w W by subst hW; (repeat' first | exact Below.refl _ _ | assumption | refine Below.alloc ?_ ?_ _ | refine Below.setCell ?_ ?_ _ | refine Below.drew ?_ | (simp; done) | (simp; omega)))
  have HK := Lib.hid (show Blk W w.heap.size 31 #[.int .i64 n1, .slice a1 x2.length c1] by subst hW; exact (Blk.new _ _ _).alloc _)
  have HL := Lib.hid (show Blk W (w.heap.size + 1) 31 #[.int .i64 n1, .slice b1 x2.length e1] by subst hW; simpa using Blk.new (w.alloc (.cells #[.int .i64 n1, .slice a1 x2.length c1] 31)) 31 #[.int .i64 n1, .slice b1 x2.length e1])
  clear hW
  refine (eqL_same _ _ x2 W (P1.out.up HB.out (Nat.le_refl _)) (Q1.out.up HB.out (Nat.le_refl _))).mono ?_
  rintro e w1 ⟨rfl, hb1⟩
  have HB1 := Lib.hid (HB.out.trans (hb1.mono HB.out.size))
  clear hb1
  go_wp2_with fail
  go_ret
  exact ⟨rfl, HB1.out⟩

def mkdFm (k : Int) (d : FormD) : FormD := ⟨d.letters, mkdL k d.clauses⟩

set_option maxHeartbeats 2000000 in
set_option maxRecDepth 4000 in
theorem markFm_o (v : Value) (lo hi : Nat) (d : FormD) (k : Int) (w : World) (ho : OwnFm lo hi w v d) (h0 : 0 ≤ k) (h1 : k + cntFm d ≤ 1099511627776) :
    Calls Try.prog 65 #[v, .int .i64 k] w fun e w' => e = .returned (.int .i64 (k + cntFm d)) ∧ OwnFm lo hi w' v (mkdFm k d) ∧ Kept (fun b => lo ≤ b ∧ b < hi) w w' := by
  obtain ⟨a1, c1, hv⟩ := ho.rd.shape
  obtain ⟨v1, l1, h1', e, o1, r1, r2, r3, r4⟩ := ho
  rw [e] at hv
  simp only [Value.agg.injEq, Array.mk.injEq, List.cons.injEq, and_true, true_and] at hv
  obtain rfl := hv
  subst e
  obtain ⟨n1, x2⟩ := d
  unfold cntFm mkdFm at *
  simp only at o1 h1 ⊢
  obtain ⟨C1, hC1⟩ : ∃ C, C = cntL x2 := ⟨_, rfl⟩
  try rw [← hC1] at h1
  try rw [← hC1]
  have HC1 := Lib.hid hC1
  have b1 : k + C1 ≤ 1099511627776 := by omega
  have O1 := Lib.hid o1
  clear o1 h1 hC1
  go_enter Try.func65, Try.ntmps65
  go_wp2_with fail
  refine Calls.at fun W hW => ?_
  have HB := Lib.hid (show Below w.heap.size w W by subst hW; (repeat' first | exact Below.refl _ _ | assumption | refine Below.alloc ?_ ?_ _ | refine Below.setCell ?_ ?_ _ | refine Below.drew ?_ | (simp; done) | (simp; omega)))
  have HK := Lib.hid (show Blk W w.heap.size 31 #[.int .i64 n1, .slice a1 x2.length c1] by subst hW; exact Blk.new _ _ _)
  clear hW
  have A1 := Lib.hid (O1.out.up HB.out (Nat.le_refl _))
  have hzW := HB.out.size
  have hKl := HK.out.lt
  refine (markL_o _ l1 h1' x2 (k) W A1.out (by omega) (by rw [← HC1.out]; exact b1)).mono ?_
  rintro e w1 ⟨rfl, m1, k1⟩
  rw [← HC1.out]
  have HK1 := Lib.hid (HK.out.kept k1 (by omega))
  have M1 := Lib.hid m1
  have KK1 := Lib.hid ((Kept.of_below HB.out (Nat.le_refl _)).trans (k1.mono (S' := fun b => lo ≤ b ∧ b < hi) (by intro b _ q; omega)))
  clear m1 k1
  go_wp2_with fail
  go_ret
  refine ⟨congrArg (fun x => Ending.returned (Value.int IntKind.i64 x)) (by have := HC1.out; push_cast; omega), ?_, KK1.out⟩
  have hz := KK1.out.size
  exact ⟨_, l1, h1', rfl, M1.out, r1, r2, r3, by omega⟩

set_option maxHeartbeats 2000000 in
set_option maxRecDepth 4000 in
theorem heldFm_o (v : Value) (d : FormD) (k : Int) (w : World) (h : RdFm w v (mkdFm k d)) (h0 : 0 ≤ k) (h1 : k + cntFm d ≤ 1099511627776) :
    Calls Try.prog 67 #[v, .int .i64 k] w fun e w' => e = .returned (.int .i64 (k + cntFm d)) ∧ Below w.heap.size w w' := by
  obtain ⟨a1, c1, rfl⟩ := h.shape
  obtain p1 := h.parts
  obtain ⟨n1, x2⟩ := d
  unfold cntFm mkdFm at *
  simp only at p1 h1 ⊢
  obtain ⟨C1, hC1⟩ : ∃ C, C = cntL x2 := ⟨_, rfl⟩
  rw [← hC1] at h1 ⊢
  have HC1 := Lib.hid hC1
  have b1 : k + C1 ≤ 1099511627776 := by omega
  have P1 := Lib.hid p1
  obtain ⟨g1_0, hg1_0⟩ : ∃ x, x = (mkdL (k) x2).length := ⟨_, rfl⟩
  clear h p1 h1 hC1
  rw [← hg1_0] at P1 ⊢
  clear hg1_0
  go_enter Try.func67, Try.ntmps67
  go_wp2_with fail
  refine Calls.at fun W hW => ?_
  have HB := Lib.hid (show Below w.heap.size w W by subst hW; (repeat' first | exact Below.refl _ _ | assumption | refine Below.alloc ?_ ?_ _ | refine Below.setCell ?_ ?_ _ | refine Below.drew ?_ | (simp; done) | (simp; omega)))
  have HK := Lib.hid (show Blk W w.heap.size 31 #[.int .i64 n1, .slice a1 g1_0 c1] by subst hW; exact Blk.new _ _ _)
  clear hW
  refine (heldL_o _ x2 (k) W (P1.out.up HB.out (Nat.le_refl _)) (by omega) (by rw [← HC1.out]; exact b1)).mono ?_
  rintro e w1 ⟨rfl, hb1⟩
  rw [← HC1.out]
  have HB1 := Lib.hid (HB.out.trans (hb1.mono HB.out.size))
  clear hb1
  have e1 : ¬ (k + (C1 : Int) < 0) := by omega
  go_wp2_with fail
  go_ret
  exact ⟨congrArg (fun x => Ending.returned (Value.int IntKind.i64 x)) (by push_cast; omega), HB1.out⟩

end Go.Proofs.Ytkkcgclliomocaa
