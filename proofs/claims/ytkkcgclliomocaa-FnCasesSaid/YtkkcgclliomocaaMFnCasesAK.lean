/-
  FnCases: texts joined: CasesM, ClauseDraw, AppL.
-/
import Derived.Maps.AppendAt
import Derived.Test.YtkkcgclliomocaaMFnCasesAA
import Derived.Test.YtkkcgclliomocaaMFnCasesAC
import Derived.Test.YtkkcgclliomocaaMFnCasesAF
import Derived.Test.YtkkcgclliomocaaMFnCasesAJ
namespace Go.Proofs.Ytkkcgclliomocaa
open Go.RowKit

theorem strOf_bytes (s : ByteArray) : strOfNums (bytesOf s) = s := by
  have h := extract_pre s s.size
  unfold preS at h
  rw [List.take_of_length_le (by rw [bytesOf_len]; exact Nat.le_refl _)] at h
  rw [← h]
  exact ByteArray.extract_zero_size
theorem bytes_extract (s : ByteArray) (p q : Nat) (hpq : p ≤ q) : bytesOf (s.extract p q) = ((bytesOf s).drop p).take (q - p) := by
  have h := extract_mid s p (q - p)
  rw [show p + (q - p) = q by omega] at h
  rw [h]
  unfold midL
  exact bytes_back _ fun x hx => bytesOf_rng s x (List.mem_of_mem_drop (List.mem_of_mem_take hx))
theorem bytes_tail (s : ByteArray) (p : Nat) : bytesOf (tailS s p) = (bytesOf s).drop p := by
  by_cases h : p ≤ s.size
  · unfold tailS
    rw [bytes_extract s p s.size h, List.take_of_length_le (by rw [List.length_drop, bytesOf_len]; exact Nat.le_refl _)]
  · have e1 : (bytesOf (tailS s p)).length = 0 := by rw [bytesOf_len, tailS_size]; omega
    have e2 : ((bytesOf s).drop p).length = 0 := by rw [List.length_drop, bytesOf_len]; omega
    rw [List.length_eq_zero_iff.1 e1, List.length_eq_zero_iff.1 e2]
theorem sgn_by8 {x : Int} (h : -128 ≤ x ∧ x ≤ 127) : sgn (by8 x) = x := by
  rw [by8_eq]; unfold sgn; split <;> omega
theorem by8_small {x : Int} (h : 0 ≤ x ∧ x < 256) : by8 x = x := by rw [by8_eq]; omega

theorem clAt_of {s : ByteArray} {p : Nat} {c R : List Int} (h : (bytesOf s).drop p = clauseBytes c ++ R) (hl : c.length ≤ 255) (hr : ∀ x ∈ c, -128 ≤ x ∧ x ≤ 127) :
    clAt s p = some (c, p + 1 + c.length) := by
  have hlen := congrArg List.length h
  rw [List.length_drop, bytesOf_len] at hlen
  unfold clauseBytes at h hlen
  simp only [List.length_append, List.length_cons, List.length_map] at hlen
  have hb : byteAt s p = (c.length : Int) := by
    unfold byteAt
    rw [List.getD_eq_getElem?_getD, ← Nat.add_zero p, ← List.getElem?_drop, h]
    simp only [List.cons_append, List.getElem?_cons_zero, Option.getD_some]
    exact by8_small (by omega)
  have hm : midL s (p + 1) c.length = c.map by8 := by
    unfold midL
    rw [show p + 1 = p + 1 from rfl, ← List.drop_drop, h]
    simp only [List.cons_append, List.drop_succ_cons, List.drop_zero]
    rw [List.take_append_of_le_length (by rw [List.length_map]; exact Nat.le_refl _), List.take_of_length_le (by rw [List.length_map]; exact Nat.le_refl _)]
  unfold clAt
  rw [hb, Int.toNat_natCast, hm, if_pos ⟨by omega, by omega⟩, List.map_map]
  congr 2
  conv => rhs; rw [← List.map_id c]
  apply List.map_congr_left
  intro x hx
  exact sgn_by8 (hr x hx)
theorem clsAt_of {s : ByteArray} : ∀ (L : List (List Int)) (p : Nat) (R : List Int), (bytesOf s).drop p = clausesBytes L ++ R → (∀ c ∈ L, c.length ≤ 255 ∧ ∀ x ∈ c, -128 ≤ x ∧ x ≤ 127) →
    clsAt s L.length p = some (L, p + (clausesBytes L).length)
  | [], p, R, h, hr => rfl
  | c :: L, p, R, h, hr => by
    unfold clausesBytes at h
    rw [List.flatMap_cons, List.append_assoc] at h
    obtain ⟨h1, h2⟩ := hr c (List.mem_cons_self ..)
    have hc := clAt_of h h1 h2
    have hd : (bytesOf s).drop (p + 1 + c.length) = clausesBytes L ++ R := by
      rw [show p + 1 + c.length = p + (1 + c.length) by omega, ← List.drop_drop, h, List.drop_append_of_le_length (by unfold clauseBytes; simp; omega), List.drop_of_length_le (by unfold clauseBytes; simp; omega), List.nil_append]
      rfl
    have ih := clsAt_of L (p + 1 + c.length) R hd (fun c hc => hr c (List.mem_cons_of_mem _ hc))
    simp only [List.length_cons, clsAt, hc, Option.bind_some, ih, Option.map_some]
    congr 2
    unfold clausesBytes
    rw [List.flatMap_cons, List.length_append]
    unfold clauseBytes
    simp only [List.length_cons, List.length_map]
    omega
theorem clause_rng {n : Int} {c : List Int} (h : clauseB n c = true) : c.length ≤ 255 ∧ ∀ x ∈ c, -128 ≤ x ∧ x ≤ 127 := by
  refine ⟨by have := clause_len h; omega, fun x hx => ?_⟩
  obtain ⟨i, hi, rfl⟩ := List.mem_iff_getElem.1 hx
  have := lit_bd h hi
  simp only [List.getD_eq_getElem?_getD, List.getElem?_eq_getElem hi, Option.getD_some] at this
  omega

theorem getD_mid {A B C : List Int} {i : Nat} (h : A.length = i) (x : Int) (hB : B = x :: C) : (A ++ B).getD i 0 = x := by
  subst hB
  rw [List.getD_eq_getElem?_getD, List.getElem?_append_right (by omega), h, Nat.sub_self]
  rfl
/-- What is read of a stored case, whatever stands behind it. -/
theorem specP_of {s : ByteArray} {d : CaseD} {R : List Int} (hd : caseB d = true) (h : bytesOf s = storeBytes d ++ R) : specP s = some (d, (storeBytes d).length) := by
  obtain ⟨hn, hc, hp, hcl, hlet⟩ := case_parts hd
  have hlet' := inB_iff.1 hlet
  have hsz : s.size = (storeBytes d).length + R.length := by rw [← bytesOf_len, h, List.length_append]
  have hbl : (storeBytes d).length = 4 + 1 + d.name.size + 3 + (clausesBytes (d.form.clauses ++ d.proof)).length + 2 := by
    unfold storeBytes bodyBytes headBytes
    simp only [List.length_append, List.length_cons, List.length_nil, bytesOf_len]
  obtain ⟨chk, hchk⟩ : ∃ chk : List Int, chk = [by8 (chkL 0 (bodyBytes d)), by8 (chkL 0 (bodyBytes d) / 256)] := ⟨_, rfl⟩
  have hL : bytesOf s = [67, 65, 83, 49] ++ (by8 d.name.size :: (bytesOf d.name ++ (by8 d.form.letters :: by8 d.form.clauses.length :: by8 d.proof.length :: (clausesBytes (d.form.clauses ++ d.proof) ++ (chk ++ R))))) := by
    rw [h]; unfold storeBytes
    rw [← hchk]
    unfold bodyBytes headBytes
    simp only [List.append_assoc, List.cons_append, List.nil_append]
  have b4 : byteAt s 4 = (d.name.size : Int) := by
    unfold byteAt
    rw [hL]
    show by8 (d.name.size : Int) = _
    exact by8_small (by omega)
  have k4 : (byteAt s 4).toNat = d.name.size := by rw [b4]; rfl
  have hL2 : bytesOf s = ([67, 65, 83, 49] ++ (by8 d.name.size :: bytesOf d.name)) ++ (by8 d.form.letters :: by8 d.form.clauses.length :: by8 d.proof.length :: (clausesBytes (d.form.clauses ++ d.proof) ++ (chk ++ R))) := by
    rw [hL]; simp only [List.append_assoc, List.cons_append, List.nil_append]
  have hpre : ([67, 65, 83, 49] ++ (by8 d.name.size :: bytesOf d.name)).length = 5 + d.name.size := by
    simp only [List.length_append, List.length_cons, List.length_nil, bytesOf_len]; omega
  have dr : (bytesOf s).drop (5 + d.name.size) = by8 d.form.letters :: by8 d.form.clauses.length :: by8 d.proof.length :: (clausesBytes (d.form.clauses ++ d.proof) ++ (chk ++ R)) := by
    rw [hL2, List.drop_append_of_le_length (by omega), List.drop_of_length_le (by omega), List.nil_append]
  have at0 : ∀ j, byteAt s (5 + d.name.size + j) = ((bytesOf s).drop (5 + d.name.size)).getD j 0 := by
    intro j; unfold byteAt; rw [List.getD_eq_getElem?_getD, List.getD_eq_getElem?_getD, List.getElem?_drop]
  have bl : byteAt s (5 + d.name.size) = d.form.letters := by
    have := at0 0
    rw [Nat.add_zero, dr] at this
    rw [this]
    exact by8_small (by omega)
  have b1 : (byteAt s (5 + d.name.size + 1)).toNat = d.form.clauses.length := by
    rw [at0 1, dr]
    show (by8 (d.form.clauses.length : Int)).toNat = _
    rw [by8_small (by omega)]; rfl
  have b2 : (byteAt s (5 + d.name.size + 2)).toNat = d.proof.length := by
    rw [at0 2, dr]
    show (by8 (d.proof.length : Int)).toNat = _
    rw [by8_small (by omega)]; rfl
  have hnm : strOfNums (midL s 5 d.name.size) = d.name := by
    have : midL s 5 d.name.size = bytesOf d.name := by
      unfold midL
      rw [hL]
      simp only [List.cons_append, List.nil_append, List.drop_succ_cons, List.drop_zero]
      rw [List.take_append_of_le_length (by rw [bytesOf_len]; exact Nat.le_refl _), List.take_of_length_le (by rw [bytesOf_len]; exact Nat.le_refl _)]
    rw [this, strOf_bytes]
  have dr3 : (bytesOf s).drop (5 + d.name.size + 3) = clausesBytes (d.form.clauses ++ d.proof) ++ (chk ++ R) := by
    rw [← List.drop_drop, dr]; rfl
  have hcls := clsAt_of (d.form.clauses ++ d.proof) (5 + d.name.size + 3) (chk ++ R) dr3 (fun c hc => clause_rng (hcl c hc))
  rw [List.length_append] at hcls
  rw [specP_some k4 rfl (by omega) b1 b2 hcls, if_pos (by simp only; omega), hnm, bl]
  simp only [List.take_left, List.drop_left, Option.some.injEq, Prod.mk.injEq, true_and]
  omega
theorem accP_of {s : ByteArray} {d : CaseD} {R : List Int} (hd : caseB d = true) (h : bytesOf s = storeBytes d ++ R) : accP s = some (d, (storeBytes d).length) := by
  unfold accP
  rw [specP_of hd h]
  simp only [Option.bind_some]
  rw [if_pos ⟨hd, by unfold storeS preS; rw [h, List.take_left]⟩]
theorem rc_of {s : ByteArray} {d : CaseD} {R : List Int} (hd : caseB d = true) (h : bytesOf s = storeBytes d ++ R) : rcOk s = true ∧ rcC s = d ∧ rcN s = (storeBytes d).length := by
  unfold rcOk rcC rcN
  rw [accP_of hd h]
  exact ⟨rfl, rfl, rfl⟩
/-- What is accepted is what stands there. -/
theorem acc_bytes {s : ByteArray} {r : CaseD × Nat} (h : accP s = some r) : caseB r.1 = true ∧ storeBytes r.1 = (bytesOf s).take r.2 ∧ (storeBytes r.1).length = r.2 ∧ r.2 ≤ s.size := by
  obtain ⟨h1, h2, h3⟩ := accP_parts h
  have h4 := specP_le h1
  have e : storeBytes r.1 = (bytesOf s).take r.2 := by
    unfold storeS preS at h3
    exact strOf_inj (store_rng r.1) (fun x hx => bytesOf_rng s x (List.mem_of_mem_take hx)) h3
  refine ⟨h2, e, ?_, h4⟩
  rw [e, List.length_take, bytesOf_len]
  omega
/-- No stored case begins with another one. -/
theorem no_prefix {t : ByteArray} {d : CaseD} {j : Nat} (hd : caseB d = true) (h : bytesOf t = (storeBytes d).take j) (hj : j < (storeBytes d).length) : rcOk t = false := by
  unfold rcOk
  cases hq : accP t with
  | none => rfl
  | some r =>
    exfalso
    obtain ⟨h1, h2, h3, h4⟩ := acc_bytes hq
    have hts : t.size ≤ j := by rw [← bytesOf_len, h, List.length_take]; omega
    have e : storeBytes d = storeBytes r.1 ++ (storeBytes d).drop r.2 := by
      rw [h2, h, List.take_take, Nat.min_eq_left (by omega), List.take_append_drop]
    have hb : bytesOf (storeS d) = storeBytes d := bytes_back _ (store_rng d)
    have a1 := rc_of (R := []) hd (by rw [hb, List.append_nil])
    have a2 := rc_of h1 (by rw [hb]; exact e)
    have := a1.2.2.symm.trans a2.2.2
    omega

def flatB (ds : List CaseD) : List Int := ds.flatMap storeBytes
theorem flatB_append (a b : List CaseD) : flatB (a ++ b) = flatB a ++ flatB b := List.flatMap_append
theorem storeB_pos (d : CaseD) : 2 ≤ (storeBytes d).length := by unfold storeBytes; simp
/-- Stored cases are read again. -/
theorem recL_of (s : ByteArray) : ∀ (ds : List CaseD) (m p : Nat) (R : List Int), (∀ d ∈ ds, caseB d = true) → ds.length ≤ m → (bytesOf s).drop p = flatB ds ++ R →
    recL s m p = (ds ++ (recL s (m - ds.length) (p + (flatB ds).length)).1, (recL s (m - ds.length) (p + (flatB ds).length)).2)
  | [], m, p, R, hc, hm, h => by simp [flatB]
  | d :: ds, m, p, R, hc, hm, h => by
    obtain ⟨m', rfl⟩ : ∃ m', m = m' + 1 := ⟨m - 1, by simp only [List.length_cons] at hm; omega⟩
    have hf : flatB (d :: ds) = storeBytes d ++ flatB ds := rfl
    rw [hf, List.append_assoc] at h
    obtain ⟨h1, h2, h3⟩ := rc_of (hc d (List.mem_cons_self ..)) (by rw [bytes_tail]; exact h)
    have hd : (bytesOf s).drop (p + (storeBytes d).length) = flatB ds ++ R := by
      rw [← List.drop_drop, h, List.drop_left]
    have ih := recL_of s ds m' (p + (storeBytes d).length) R (fun x hx => hc x (List.mem_cons_of_mem _ hx)) (by simp only [List.length_cons] at hm; omega) hd
    rw [recL_go s m' p h1, h2, h3, ih, hf, List.length_append, List.length_cons, Nat.add_sub_add_right, Nat.add_assoc]
    rfl
theorem rcOk_empty (s : ByteArray) (p : Nat) (h : s.size ≤ p) : rcOk (tailS s p) = false := by
  have hs := tailS_size s p
  unfold rcOk accP specP
  rw [if_neg (by omega)]
  rfl
/-- What is read, stored again, is what stands there. -/
theorem recL_back (s : ByteArray) : ∀ (m p : Nat), p ≤ s.size → (∀ d ∈ (recL s m p).1, caseB d = true) ∧ (recL s m p).1.length ≤ m ∧ p ≤ (recL s m p).2 ∧ (recL s m p).2 ≤ s.size ∧ flatB (recL s m p).1 = ((bytesOf s).drop p).take ((recL s m p).2 - p)
  | 0, p, h => by simp [recL, flatB, h]
  | m + 1, p, h => by
    cases hq : accP (tailS s p) with
    | none =>
      have : rcOk (tailS s p) = false := by unfold rcOk; rw [hq]; rfl
      rw [recL_no s (m + 1) p this]
      simp [flatB, h]
    | some r =>
      have hok : rcOk (tailS s p) = true := by unfold rcOk; rw [hq]; rfl
      have hC : rcC (tailS s p) = r.1 := by unfold rcC; rw [hq]
      have hN : rcN (tailS s p) = r.2 := by unfold rcN; rw [hq]
      obtain ⟨h1, h2, h3, h4⟩ := acc_bytes hq
      rw [tailS_size] at h4
      rw [bytes_tail] at h2
      have ih := recL_back s m (p + r.2) (by omega)
      rw [recL_go s m p hok, hC, hN]
      obtain ⟨q, hqq⟩ : ∃ q, q = recL s m (p + r.2) := ⟨_, rfl⟩
      rw [← hqq] at ih ⊢
      obtain ⟨i1, i2, i3, i4, i5⟩ := ih
      refine ⟨fun d hd => ?_, by simp only [List.length_cons]; omega, by simp only; omega, i4, ?_⟩
      · rcases List.mem_cons.1 hd with rfl | hd
        · exact h1
        · exact i1 d hd
      · show flatB (r.1 :: q.1) = _
        have hf : flatB (r.1 :: q.1) = storeBytes r.1 ++ flatB q.1 := rfl
        rw [hf, h2, i5, ← List.drop_drop]
        simp only
        rw [show q.2 - p = r.2 + (q.2 - (p + r.2)) by omega, List.take_add]
theorem strOf_append (a b : List Int) : strOfNums (a ++ b) = strOfNums a ++ strOfNums b := by
  apply ByteArray.ext
  unfold strOfNums
  simp
theorem storesF_flat (ds : List CaseD) : storesF ds = strOfNums (flatB ds) := by
  have : ∀ (ds : List CaseD) (acc : ByteArray), (ds.map storeS).foldl (· ++ ·) acc = acc ++ strOfNums (flatB ds) := by
    intro ds
    induction ds with
    | nil =>
      intro acc
      have : strOfNums (flatB []) = ⟨#[]⟩ := rfl
      rw [this]
      exact (ByteArray.append_empty (b := acc)).symm
    | cons d r ih =>
      intro acc
      simp only [List.map_cons, List.foldl_cons]
      rw [ih, show flatB (d :: r) = storeBytes d ++ flatB r from rfl, strOf_append, ByteArray.append_assoc]
      rfl
  unfold storesF
  rw [this]
  exact ByteArray.empty_append
theorem flat_rng (ds : List CaseD) : AllB (flatB ds) := by
  intro x hx
  obtain ⟨d, _, h⟩ := List.mem_flatMap.1 hx
  exact store_rng d x h
theorem storesF_bytes (ds : List CaseD) : bytesOf (storesF ds) = flatB ds := by rw [storesF_flat, bytes_back _ (flat_rng ds)]
theorem storesB_of {ds : List CaseD} (h : ∀ d ∈ ds, caseB d = true) (h8 : ds.length ≤ 8) : storesB ds = true ∧ storesR ds = storesF ds := by
  have : storesB ds = true := by
    unfold storesB
    rw [decide_eq_true h8, Bool.true_and]
    apply allB_true
    intro i hi
    rw [List.getD_eq_getElem?_getD, List.getElem?_eq_getElem hi]
    exact h _ (List.getElem_mem hi)
  exact ⟨this, by unfold storesR; rw [if_pos this]⟩

end Go.Proofs.Ytkkcgclliomocaa

namespace Go.Proofs.Ytkkcgclliomocaa
open Go.RowKit

/-- The literals of a clause so far: of letters below k, rising. -/
def LitsTo (d : List Int) (k : Nat) : Prop := d.length ≤ k ∧ ∀ i, i < d.length → d.getD i 0 ≠ 0 ∧ (d.getD i 0).natAbs < k ∧ (0 < i → (d.getD (i - 1) 0).natAbs < (d.getD i 0).natAbs)
theorem LitsTo.nil (k : Nat) : LitsTo [] k := ⟨Nat.zero_le _, by intro i hi; simp at hi⟩
theorem LitsTo.skip {d : List Int} {k : Nat} (h : LitsTo d k) : LitsTo d (k + 1) := ⟨by have := h.1; omega, fun i hi => by have := h.2 i hi; exact ⟨this.1, by omega, this.2.2⟩⟩
theorem LitsTo.snoc {d : List Int} {k : Nat} (h : LitsTo d k) (hk : 0 < k) {y : Int} (hy : y = k ∨ y = -(k : Int)) : LitsTo (d ++ [y]) (k + 1) := by
  refine ⟨by have := h.1; simp; omega, fun i hi => ?_⟩
  simp only [List.length_append, List.length_singleton] at hi
  have gl : ∀ j, j < d.length → (d ++ [y]).getD j 0 = d.getD j 0 := fun j hj => by simp [List.getElem?_append_left hj]
  by_cases he : i = d.length
  · subst he
    have e : (d ++ [y]).getD d.length 0 = y := by simp
    rw [e]
    refine ⟨by omega, by omega, fun h0 => ?_⟩
    rw [gl _ (by omega)]
    have := (h.2 (d.length - 1) (by omega)).2.1
    omega
  · rw [gl i (by omega)]
    have := h.2 i (by omega)
    refine ⟨this.1, by omega, fun h0 => ?_⟩
    rw [gl _ (by omega)]
    exact this.2.2 h0
theorem LitsTo.val {d : List Int} {n : Nat} (h : LitsTo d (n + 1)) (h1 : 1 ≤ n ∧ n ≤ 10) : clauseB n d = true := by
  unfold clauseB
  rw [inB_true (by omega), Bool.true_and]
  apply allB_true
  intro i hi
  obtain ⟨q1, q2, q3⟩ := h.2 i hi
  unfold okAt litB
  rw [decide_eq_true q1, inB_true (by omega)]
  by_cases h0 : i = 0
  · rw [decide_eq_true h0]; rfl
  · rw [decide_eq_true (q3 (by omega))]; simp

set_option maxHeartbeats 2000000 in
set_option maxRecDepth 4000 in
theorem drawClause_any (W0 : World) (v : Value) (bs : List Int) (hR : RdB W0 v bs) (hw : WfB bs) (sb c : Nat) (w : World) (hsb : W0.heap.size ≤ sb) (hb : Below W0.heap.size W0 w) (h : SrcAt w sb v c) (hc : c ≤ 900000) (n : Nat) (h1 : 1 ≤ n ∧ n ≤ 10) (most : Int) (h2 : 0 ≤ most ∧ most ≤ 3) :
    Calls Try.prog 52 #[.pointer (some ⟨sb, 0, none⟩), .int .i64 n, .int .i64 most] w fun e w' => ∃ (d : List Int) (a : Option Addr) (cap : Nat), clauseB n d = true ∧ e = .returned (.slice a d.length cap) ∧ w'.ownsRow w.heap.size 2 1 (.slice a d.length cap) d.length (d.map I64) ∧ SrcAt w' sb v (c + 40) ∧ Kept (· = sb) w w' := by
  have HR := Lib.hid hR
  have HW := Lib.hid hw
  have HB := Lib.hid hb
  have HS := Lib.hid h
  have hsl := h.lt
  clear hR hw hb h
  go_enter Try.func52, Try.ntmps52
  go_wp2_with fail
  go_loopw [7, 8, 9] (fun ov lv xv wr => ∃ (k : Nat) (d : List Int) (a : Option Addr) (cap : Nat) (l x : Int), xv = .int .i64 x ∧ Hid (x = (k : Int) + 1) ∧ k ≤ n ∧ ov = .slice a d.length cap ∧ lv = .int .i64 l ∧ l ≤ 3 ∧ -1 ≤ l ∧ Hid (LitsTo d (k + 1)) ∧ Hid (wr.ownsRow w.heap.size 2 1 (.slice a d.length cap) d.length (d.map I64)) ∧ Hid (SrcAt wr sb v (c + 4 * k)) ∧ Hid (Kept (· = sb) w wr)) (fun _ _ xv _ => n + 1 - (intOf xv).toNat)
  case atStart => exact ⟨0, [], _, 0, most, 1, rfl, rfl, Nat.zero_le _, rfl, rfl, h2.2, by omega, LitsTo.nil _, owns_empty w, HS.out.below ((Below.refl _ _).alloc (Nat.le_refl _) _) hsl, (Kept.refl _ _).alloc _⟩
  case round =>
    obtain ⟨k, d, a, cap, l, x, rfl, HX, hk, rfl, rfl, hl3, hl1, HL, HO, HSI, HK⟩ := hrel
    have hx := HX.out
    have hx1 : 1 ≤ x := by omega
    have hx10 : x ≤ 11 := by omega
    have hdk := HL.out.1
    have hkz := HK.out.size
    have HBI := Lib.hid (HB.out.trans (HK.out.toBelow HB.out.size (by intro j h1 h2; omega)))
    by_cases hlt : k < n
    · have hltI : x ≤ (n : Int) := by omega
      have HXN := Lib.hid (show x + 1 = ((k + 1 : Nat) : Int) + 1 by push_cast; omega)
      clear hx
      by_cases hl : 0 < l
      case neg =>
        go_wp2_with fail
        go_roundw
        case rel => exact ⟨k + 1, d, a, cap, l, x + 1, rfl, HXN, by omega, rfl, rfl, hl3, hl1, HL.out.skip, HO, HSI.out.mono (by omega), HK⟩
        case measure => have := HX.out; simp [intOf]; omega
      go_wp2_with fail
      refine (one_any W0 v bs HR.out HW.out sb (c + 4 * k) wr hsb HBI.out HSI.out (by omega) 2 (by omega) (by omega)).mono ?_
      rintro e w1 ⟨y, rfl, hs, hk1⟩
      have HS1 := Lib.hid hs
      have HO1 := Lib.hid (owns_kept HO.out hk1 (by intro g hg e; have := (owns_lt HO.out hg).1; omega))
      have HK1 := Lib.hid (HK.out.trans hk1)
      have HB1 := Lib.hid (HBI.out.trans (hk1.toBelow HBI.out.size (by intro j h1 h2; omega)))
      have hz1 := hk1.size
      clear hs hk1
      cases y
      case false =>
        go_wp2_with fail
        go_roundw
        case rel => exact ⟨k + 1, d, a, cap, l, x + 1, rfl, HXN, by omega, rfl, rfl, hl3, hl1, HL.out.skip, HO1, HS1.out.mono (by omega), HK1⟩
        case measure => have := HX.out; simp [intOf]; omega
      go_wp2_with fail
      refine (one_any W0 v bs HR.out HW.out sb (c + 4 * k + 2) w1 hsb HB1.out HS1.out (by omega) 2 (by omega) (by omega)).mono ?_
      rintro e w2 ⟨y, rfl, hs, hk2⟩
      have HS2 := Lib.hid hs
      have HO2 := Lib.hid (owns_kept HO1.out hk2 (by intro g hg e; have := (owns_lt HO1.out hg).1; omega))
      have HK2 := Lib.hid (HK1.out.trans hk2)
      have hz2 := hk2.size
      clear hs hk2
      have hneg : IntKind.i64.wrap (-x) = -x := IntWalk.i64_in _ (by omega)
      have fin : ∀ z : Int, (z = x ∨ z = -x) → LitsTo (d ++ [z]) (k + 1 + 1) := fun z hz => HL.out.snoc (by omega) (by have := HX.out; omega)
      have FIN := Lib.hid fin
      clear fin
      cases y
      case false =>
        go_wp2_with (at_builtin; refine app_ints rfl _ _ rfl w.heap.size (.slice a d.length cap) d.length d rfl (HO2.out.alloc _) _ [x] rfl (slc_one _ _) (d.length + 1) (d ++ [x]) (by simp) rfl (by omega) (by simp; omega) ?_; intro b2 cap2 w6 hown2 hbl2 _ _)
        go_roundw
        case rel =>
          have hal : Below w2.heap.size w2 (w2.alloc (.cells #[.int .i64 x] 2)) := (Below.refl _ _).alloc (Nat.le_refl _) _
          have hb6 : Below w.heap.size w2 w6 := (hal.mono (by omega)).trans hbl2
          exact ⟨k + 1, d ++ [x], b2, cap2, l - 1, x + 1, rfl, HXN, by omega, by simp, rfl, by omega, by omega, FIN.out _ (.inl rfl), by simpa using Lib.hid hown2, (HS2.out.below hb6 hsl).mono (by omega), HK2.out.below hb6 (Nat.le_refl _)⟩
        case measure => have := HX.out; simp [intOf]; omega
      case true =>
        go_wp2_with (at_builtin; refine app_ints rfl _ _ rfl w.heap.size (.slice a d.length cap) d.length d rfl (HO2.out.alloc _) _ [-x] rfl (slc_one _ _) (d.length + 1) (d ++ [-x]) (by simp) rfl (by omega) (by simp; omega) ?_; intro b2 cap2 w6 hown2 hbl2 _ _)
        go_roundw
        case rel =>
          have hal : Below w2.heap.size w2 (w2.alloc (.cells #[.int .i64 (-x)] 2)) := (Below.refl _ _).alloc (Nat.le_refl _) _
          have hb6 : Below w.heap.size w2 w6 := (hal.mono (by omega)).trans hbl2
          exact ⟨k + 1, d ++ [-x], b2, cap2, l - 1, x + 1, rfl, HXN, by omega, by simp, rfl, by omega, by omega, FIN.out _ (.inr rfl), by simpa using Lib.hid hown2, (HS2.out.below hb6 hsl).mono (by omega), HK2.out.below hb6 (Nat.le_refl _)⟩
        case measure => have := HX.out; simp [intOf]; omega
    · obtain rfl : k = n := by omega
      have hgt : ¬ x ≤ (k : Int) := by omega
      clear hx
      go_wp2_with fail
      go_ret
      first | exact ⟨d, HL.out.val h1, a, cap, rfl, HO.out, HSI.out.mono (by omega), HK.out⟩ | exact ⟨d, HL.out.val h1, ⟨a, cap, rfl, HO.out⟩, HSI.out.mono (by omega), HK.out⟩ | exact ⟨d, a, cap, HL.out.val h1, rfl, HO.out, HSI.out.mono (by omega), HK.out⟩

set_option maxHeartbeats 1000000 in
theorem text_any (W0 : World) (v : Value) (bs : List Int) (hR : RdB W0 v bs) (hw : WfB bs) (sb c : Nat) (w : World) (hsb : W0.heap.size ≤ sb) (hb : Below W0.heap.size W0 w) (h : SrcAt w sb v c) (hc : c ≤ 900000)
    (g : Nat) (ss : List ByteArray) (h1 : 1 ≤ ss.length) (h2 : ss.length ≤ 100) (hg : g ≠ sb) (hss : ∀ i s, ss[i]? = some s → w.cell? ⟨g, i, none⟩ = some (.string s)) :
    Calls Try.prog 50 #[.pointer (some ⟨sb, 0, none⟩), .slice (some ⟨g, 0, none⟩) ss.length ss.length] w fun e w' => ∃ s, s ∈ ss ∧ e = .returned (.string s) ∧ SrcAt w' sb v (c + 2) ∧ Kept (· = sb) w w' := by
  have H := Lib.hid (pick_any W0 v bs hR hw sb c w hsb hb h (by omega) ss.length (by omega) (by omega))
  have HSS := Lib.hid hss
  clear hR hw hb h hss
  go_enter Try.func50, Try.ntmps50
  go_wp2_with fail
  refine H.out.mono ?_
  rintro e w1 ⟨x, hx0, hx1, rfl, hs, hk⟩
  have HS := Lib.hid hs
  have HK := Lib.hid hk
  clear hs hk H
  obtain ⟨i, rfl⟩ := Int.eq_ofNat_of_zero_le hx0
  have hi : i < ss.length := by omega
  have hcell := HSS.out i ss[i] (List.getElem?_eq_getElem hi)
  have hcell1 : w1.cell? ⟨g, i, none⟩ = some (.string ss[i]) := (HK.out.cell (p := ⟨g, i, none⟩) (cell_lt hcell) hg).trans hcell
  obtain ⟨s, hs⟩ : ∃ s, s = ss[i] := ⟨_, rfl⟩
  rw [← hs] at hcell1
  have HM := Lib.hid (show s ∈ ss by rw [hs]; exact List.getElem_mem hi)
  clear hs hcell
  go_wp2_with fail
  go_ret
  exact ⟨s, HM.out, rfl, HS.out, HK.out⟩

end Go.Proofs.Ytkkcgclliomocaa

namespace Go.Proofs.Ytkkcgclliomocaa
open Go.RowKit

theorem wp_app_intsL {w : World} {o : Oper} {a : Act} {K : Act → World → Prop} {Q : Exit → Act → World → Prop} (s x : Operand)
    (ho : o.op = .call { callee := .builtin .append, args := #[s, x], argTypes := #[65, 65] })
    (base : Nat) (v : Value) (n : Nat) (xs : List Int) (hs : a.eval s = v) (hown : w.ownsRow base 2 1 v n (xs.map I64))
    (sv : Value) (news : List Int) (hx : a.eval x = sv) (hsv : Slc w sv (news.map I64)) (m : Nat) (ys : List Int) (hm : m = n + news.length) (hys : ys = xs ++ news) (hlen : m ≤ 17592186044416) (hbase : base ≤ w.heap.size)
    (h : ∀ a' cap' w', w'.ownsRow base 2 1 (.slice a' m cap') m (ys.map I64) → Below base w w' → w.grownBy w' v.ownBlock → ((Value.slice a' m cap').ownBlock = v.ownBlock ∨ (Value.slice a' m cap').ownBlock = some w.heap.size) → K (a.put o.dst (.slice a' m cap')) w') :
    o.wp Try.prog a w K Q := by
  obtain ⟨i0, hi, hz0, hz1, hz2⟩ := info_parts Try.infoI64
  subst hm hys
  have hk : ∀ v' w', w'.ownsRow base 2 1 v' (n + news.length) (xs.map I64 ++ news.map I64) → w.grownBy w' v.ownBlock → (v'.ownBlock = v.ownBlock ∨ v'.ownBlock = some w.heap.size) → K (a.put o.dst v') w' := by
    intro v' w' h1 h2 h3
    have h1' : w'.ownsRow base 2 1 v' (n + news.length) ((xs ++ news).map I64) := by simpa using h1
    obtain ⟨a', cap', rfl⟩ := owns_shape h1'
    exact h a' cap' w' h1' (below_grown hown hbase h2) h2 h3
  rcases hsv with ⟨rfl, hnil⟩ | ⟨ad, cap, rfl, hcl, hcm, hc⟩
  · have hn : news = [] := by simpa using hnil
    subst hn
    have hrun := run_append_owned_none (P := Try.prog) (w := w) base 65 o.type 2 i0 1 Try.underlying65 hi v n (xs.map I64) hown
    unfold Oper.wp
    simp [execOp, ho, resolve, invoke, builtin, hs, hx, hrun, Result.andThen]
    exact hk v w (by simpa using hown) (World.grownBy.refl _ _) (.inl rfl)
  · obtain ⟨v', w', hr, h2, h3, _, h5⟩ := run_append_own_at (P := Try.prog) w base 65 o.type 2 i0 (.int .i64 0) 1 8 Try.underlying65 hi hz0 hz1 hz2 rfl (by decide) v n (xs.map I64) hown ad (news.map I64).length cap (news.map I64) (by simp) hc (i64_one news) (by simp [maxLen]; omega) (by simp; omega) hbase
    unfold Oper.wp execOp
    simp only [ho, resolve, invoke, builtin, Sem.run_bind, Sem.run_pure, Result.andThen_ok, List.map_toArray, List.map_cons, List.map_nil, hs, hx, hr]
    exact hk _ _ (by simpa using h2) h3 h5

theorem app_intsL {w : World} {ops : Array Oper} {rest : List Oper} {o : Oper} {a : Act} {Q : Exit → Act → World → Prop} (hgd : o.guard = none) (s x : Operand)
    (ho : o.op = .call { callee := .builtin .append, args := #[s, x], argTypes := #[65, 65] })
    (base : Nat) (v : Value) (n : Nat) (xs : List Int) (hs : a.eval s = v) (hown : w.ownsRow base 2 1 v n (xs.map I64))
    (sv : Value) (news : List Int) (hx : a.eval x = sv) (hsv : Slc w sv (news.map I64)) (m : Nat) (ys : List Int) (hm : m = n + news.length) (hys : ys = xs ++ news) (hlen : m ≤ 17592186044416) (hbase : base ≤ w.heap.size)
    (h : ∀ a' cap' w', w'.ownsRow base 2 1 (.slice a' m cap') m (ys.map I64) → Below base w w' → w.grownBy w' v.ownBlock → ((Value.slice a' m cap').ownBlock = v.ownBlock ∨ (Value.slice a' m cap').ownBlock = some w.heap.size) → wpList Try.prog ops Q rest (a.put o.dst (.slice a' m cap')) w') :
    wpList Try.prog ops Q (o :: rest) a w := by
  obtain ⟨i0, hi, hz0, hz1, hz2⟩ := info_parts Try.infoI64
  subst hm hys
  have hk : ∀ v' w', w'.ownsRow base 2 1 v' (n + news.length) (xs.map I64 ++ news.map I64) → w.grownBy w' v.ownBlock → (v'.ownBlock = v.ownBlock ∨ v'.ownBlock = some w.heap.size) → wpList Try.prog ops Q rest (a.put o.dst v') w' := by
    intro v' w' h1 h2 h3
    have h1' : w'.ownsRow base 2 1 v' (n + news.length) ((xs ++ news).map I64) := by simpa using h1
    obtain ⟨a', cap', rfl⟩ := owns_shape h1'
    exact h a' cap' w' h1' (below_grown hown hbase h2) h2 h3
  rcases hsv with ⟨rfl, hnil⟩ | ⟨ad, cap, rfl, hcl, hcm, hc⟩
  · have hn : news = [] := by simpa using hnil
    subst hn
    refine wpList_append_own_none hgd s x 65 ho base 2 i0 1 Try.underlying65 hi v n (xs.map I64) hs hown hx ?_
    exact hk v w (by simpa using hown) (World.grownBy.refl _ _) (.inl rfl)
  · refine wpList_append_own_at w hgd s x 65 ho base 2 i0 (.int .i64 0) 1 8 Try.underlying65 hi hz0 hz1 hz2 rfl (by decide) v n (xs.map I64) hs hown ad (news.map I64).length cap (news.map I64) hx (by simp) hc (i64_one news) (by simp [maxLen]; omega) (by simp; omega) hbase ?_
    intro v' w' h2 h3 _ h5
    exact hk v' w' (by simpa using h2) h3 h5

theorem step_app_intsL {w : World} {ops : Array Oper} {o : Oper} {a : Act} {K : Act → World → Prop} {Q : Exit → Act → World → Prop} {E : Prop} (hgd : o.guard = none) (s x : Operand)
    (ho : o.op = .call { callee := .builtin .append, args := #[s, x], argTypes := #[65, 65] })
    (base : Nat) (v : Value) (n : Nat) (xs : List Int) (hs : a.eval s = v) (hown : w.ownsRow base 2 1 v n (xs.map I64))
    (sv : Value) (news : List Int) (hx : a.eval x = sv) (hsv : Slc w sv (news.map I64)) (m : Nat) (ys : List Int) (hm : m = n + news.length) (hys : ys = xs ++ news) (hlen : m ≤ 17592186044416) (hbase : base ≤ w.heap.size)
    (h : ∀ a' cap' w', w'.ownsRow base 2 1 (.slice a' m cap') m (ys.map I64) → Below base w w' → w.grownBy w' v.ownBlock → ((Value.slice a' m cap').ownBlock = v.ownBlock ∨ (Value.slice a' m cap').ownBlock = some w.heap.size) → K (a.put o.dst (.slice a' m cap')) w') :
    if Region.wanted o (yielded ops a.tmps) = true then Oper.wp Try.prog o a w K Q else E := by
  have hw : Region.wanted o (yielded ops a.tmps) = true := by simp [Region.wanted, hgd]
  rw [if_pos hw]
  exact wp_app_intsL s x ho base v n xs hs hown sv news hx hsv m ys hm hys hlen hbase h

theorem blkI_newB (w : World) (t : TypeId) (cs : Array Value) (b : Nat) (hb : b = w.heap.size) : Blk (w.alloc (.cells cs t)) b t cs := by subst hb; exact Blk.new w t cs
theorem blkI_grown {w w' : World} {b : Nat} {t : TypeId} {cs : Array Value} {row : Option Nat} (h : Blk w b t cs) (hg : w.grownBy w' row) (hne : row ≠ some b) : Blk w' b t cs :=
  (hg.block b h.lt (fun e => hne e.symm)).trans h
theorem OwnI.blk {lo hi : Nat} {w : World} {v : Value} {xs : List Int} (h : OwnI lo hi w v xs) {b : Nat} (hb : v.ownBlock = some b) : lo ≤ b ∧ b < hi := ⟨(owns_lt h.1 hb).1, h.2 b hb⟩

/-- Another list stays its own where one has grown. -/
theorem ownI_grown {lo hi : Nat} {w w' : World} {v u : Value} {xs : List Int} (h : OwnI lo hi w v xs) (hg : w.grownBy w' u.ownBlock) (hn : ∀ g, v.ownBlock = some g → u.ownBlock ≠ some g) : OwnI lo hi w' v xs := by
  refine ⟨owns_kept (S := fun k => u.ownBlock = some k) h.1 ⟨hg.os, hg.tape, hg.output, hg.size, fun k hk hs => hg.block k hk fun e => hs e.symm⟩ hn, h.2⟩
end Go.Proofs.Ytkkcgclliomocaa
