/-
  FnCases: texts joined: SameC, CasesL, RecI.
-/
import Derived.Test.YtkkcgclliomocaaMFnCasesAD
import Derived.Test.YtkkcgclliomocaaMFnCasesAJ
import Derived.Test.YtkkcgclliomocaaMFnCasesAK
import Derived.Test.YtkkcgclliomocaaMFnCasesAL
namespace Go.Proofs.Ytkkcgclliomocaa
open Go.RowKit

def eqBy {α : Type} (f : α → α → Bool) : List α → List α → Bool
  | [], [] => true
  | x :: xs, y :: ys => f x y && eqBy f xs ys
  | _, _ => false
theorem eqBy_len {α : Type} (f : α → α → Bool) : ∀ (a b : List α), a.length ≠ b.length → eqBy f a b = false
  | [], [], h => by simp at h
  | [], y :: ys, _ => rfl
  | x :: xs, [], _ => rfl
  | x :: xs, y :: ys, h => by simp only [eqBy, eqBy_len f xs ys (by simpa using h), Bool.and_false]
theorem eqBy_ne {α : Type} (f : α → α → Bool) (d : α) : ∀ (a b : List α) (k : Nat), k < a.length → k < b.length → f (a.getD k d) (b.getD k d) = false → eqBy f a b = false
  | [], b, k, h, _, _ => by simp at h
  | x :: xs, [], k, _, h, _ => by simp at h
  | x :: xs, y :: ys, 0, _, _, h => by simp only [List.getD_cons_zero] at h; simp only [eqBy, h, Bool.false_and]
  | x :: xs, y :: ys, k + 1, h1, h2, h => by
    simp only [List.getD_cons_succ] at h
    simp only [eqBy, eqBy_ne f d xs ys k (by simpa using h1) (by simpa using h2) h, Bool.and_false]
theorem eqBy_all {α : Type} (f : α → α → Bool) (d : α) : ∀ (a b : List α), a.length = b.length → (∀ k, k < a.length → f (a.getD k d) (b.getD k d) = true) → eqBy f a b = true
  | [], [], _, _ => rfl
  | [], y :: ys, h, _ => by simp at h
  | x :: xs, [], h, _ => by simp at h
  | x :: xs, y :: ys, h, h2 => by
    have h0 := h2 0 (by simp)
    simp only [List.getD_cons_zero] at h0
    simp only [eqBy, h0, Bool.true_and]
    exact eqBy_all f d xs ys (by simpa using h) fun k hk => by have := h2 (k + 1) (by simpa using hk); simpa using this

def sameC (x y : CaseD) : Bool := (decide (x.name = y.name) && (decide (x.form.letters = y.form.letters) && decide (x.form.clauses = y.form.clauses))) && decide (x.proof = y.proof)
def sameCL : List CaseD → List CaseD → Bool := eqBy sameC

set_option maxHeartbeats 1000000 in
theorem sameClo_any (v v' : Value) (x y : CaseD) (w : World) (h : RdCs w v x) (h' : RdCs w v' y) :
    Calls Try.prog 59 #[v, v'] w fun e w' => e = .returned (.bool (sameC x y)) ∧ Below w.heap.size w w' := by
  obtain ⟨a1, c1, a2, c2, rfl⟩ := h.shape
  obtain ⟨b1, e1, b2, e2, rfl⟩ := h'.shape
  obtain ⟨p1, p2, ps⟩ := h.parts
  obtain ⟨q1, q2, qs⟩ := h'.parts
  obtain ⟨n1, f1, r1⟩ := x
  obtain ⟨n2, f2, r2⟩ := y
  simp only at p1 p2 q1 q2 ⊢
  have P1 := Lib.hid p1
  have P2 := Lib.hid p2
  have Q1 := Lib.hid q1
  have Q2 := Lib.hid q2
  clear h h' p1 p2 q1 q2 ps qs
  by_cases hn : n1 = n2
  · subst hn
    go_enter Try.func59, Try.ntmps59
    go_wp2_with fail
    refine Calls.at fun W hW => ?_
    have HB := Lib.hid (show Below w.heap.size w W by subst hW; (repeat' first | exact Below.refl _ _ | assumption | refine Below.alloc ?_ ?_ _ | refine Below.setCell ?_ ?_ _ | refine Below.drew ?_ | (simp; done) | (simp; omega)))
    have HK := Lib.hid (show Blk W w.heap.size 33 #[.string n1, .int .i64 f1.letters, .slice a1 f1.clauses.length c1, .slice a2 r1.length c2] by subst hW; exact (Blk.new _ _ _).alloc _)
    have HM := Lib.hid (show Blk W (w.heap.size + 1) 33 #[.string n1, .int .i64 f2.letters, .slice b1 f2.clauses.length e1, .slice b2 r2.length e2] by subst hW; simpa using Blk.new (w.alloc (.cells #[.string n1, .int .i64 f1.letters, .slice a1 f1.clauses.length c1, .slice a2 r1.length c2] 33)) 33 #[.string n1, .int .i64 f2.letters, .slice b1 f2.clauses.length e1, .slice b2 r2.length e2])
    clear hW
    refine (implSameForm_any _ _ f1 f2 W (P1.out.up HB.out (Nat.le_refl _)) (Q1.out.up HB.out (Nat.le_refl _))).mono ?_
    rintro e w1 ⟨rfl, hb1⟩
    obtain ⟨bb, hbb⟩ : ∃ bb, bb = (decide (f1.letters = f2.letters) && decide (f1.clauses = f2.clauses)) := ⟨_, rfl⟩
    rw [← hbb]
    have HBB := Lib.hid hbb
    have HB1 := Lib.hid (HB.out.trans (hb1.mono HB.out.size))
    have d1 : w1.cell? ⟨w.heap.size, 3, none⟩ = some (.slice a2 r1.length c2) := (HK.out.below hb1 HK.out.lt).cell 3 rfl
    have d2 : w1.cell? ⟨w.heap.size + 1, 3, none⟩ = some (.slice b2 r2.length e2) := (HM.out.below hb1 HM.out.lt).cell 3 rfl
    clear hbb hb1 HK HM
    cases bb
    · go_wp2_with fail
      go_ret
      exact ⟨by unfold sameC; simp only [← HBB.out]; simp, HB1.out⟩
    · go_wp2_with fail
      refine (equalFuncL_any _ _ r1 r2 w1 (P2.out.up HB1.out (Nat.le_refl _)) (Q2.out.up HB1.out (Nat.le_refl _))).mono ?_
      rintro e w2 ⟨rfl, m, rfl⟩
      obtain ⟨cc, hcc⟩ : ∃ cc, cc = decide (r1 = r2) := ⟨_, rfl⟩
      rw [← hcc]
      have HCC := Lib.hid hcc
      clear hcc
      go_wp2_with fail
      go_ret
      exact ⟨by unfold sameC; simp only [← HBB.out, ← HCC.out]; simp, below_drewN HB1.out _⟩
  · have hxd := Lib.hid (show decide (n1 = n2) = false from decide_eq_false hn)
    have hb0 : (n1.toList == n2.toList) = false := str_ne hn
    clear hn
    go_enter Try.func59, Try.ntmps59
    go_wp2_with fail
    go_ret
    refine ⟨by unfold sameC; simp only [hxd.out]; simp, ?_⟩
    (repeat' first | exact Below.refl _ _ | assumption | refine Below.alloc ?_ ?_ _ | refine Below.setCell ?_ ?_ _ | refine Below.drew ?_ | (simp; done) | (simp; omega))

set_option maxHeartbeats 2000000 in
set_option maxRecDepth 4000 in
theorem implSameCases_any (v v' : Value) (xs ys : List CaseD) (w : World) (h : RdCL w v xs) (h' : RdCL w v' ys) :
    Calls Try.prog 14 #[v, v'] w fun e w' => e = .returned (.bool (sameCL xs ys)) ∧ Below w.heap.size w w' := by
  obtain ⟨a, c, rfl⟩ := h.shape
  obtain ⟨a', c', rfl⟩ := h'.shape
  have hm := h.len
  simp only [maxLen] at hm
  have H1 := Lib.hid h
  have H2 := Lib.hid h'
  clear h h'
  by_cases hl : xs.length = ys.length
  · have hne : ((xs.length : Int) != (ys.length : Int)) = false := by simp [hl]
    have HL := Lib.hid hl
    clear hl
    go_enter Try.func14, Try.ntmps14
    go_wp2_with go_in
    go_loopw [17] (fun i wr => ∃ k : Nat, i = .int .i64 k ∧ k ≤ xs.length ∧ Hid (∀ j, j < k → sameC (xs.getD j ICL) (ys.getD j ICL) = true) ∧ Hid (Below w.heap.size w wr)) (fun i _ => xs.length - (intOf i).toNat)
    case atStart => exact ⟨0, rfl, Nat.zero_le _, fun j hj => by omega, Below.refl _ _⟩
    case round =>
      obtain ⟨k, rfl, hk, hall, HB⟩ := hrel
      by_cases hlt : k < xs.length
      · have hlt2 : k < ys.length := by have := HL.out; omega
        obtain ⟨b, off, z1, z2, rfl, hb, x0, x1, x2, x3, hu⟩ := (H1.out.up HB.out (Nat.le_refl _)).at hlt
        obtain ⟨b', off', z1', z2', rfl, hb', y0, y1, y2, y3, hu'⟩ := (H2.out.up HB.out (Nat.le_refl _)).at hlt2
        obtain ⟨x, hx⟩ : ∃ x, x = xs.getD k ICL := ⟨_, rfl⟩
        obtain ⟨y, hy⟩ : ∃ y, y = ys.getD k ICL := ⟨_, rfl⟩
        rw [← hx] at x0 x1 hu
        rw [← hy] at y0 y1 hu'
        obtain ⟨p1, q1, p2, q2, hsz⟩ := hu.shape
        obtain ⟨P1, Q1, P2, Q2, hsy⟩ := hu'.shape
        simp only [Value.agg.injEq, Array.mk.injEq, List.cons.injEq, and_true, true_and] at hsz hsy
        obtain ⟨rfl, rfl⟩ := hsz
        obtain ⟨rfl, rfl⟩ := hsy
        have HX := Lib.hid hx
        have HY := Lib.hid hy
        have HU := Lib.hid hu
        have HU' := Lib.hid hu'
        have hlt2' : (k : Int) < ys.length := by omega
        clear hx hy hu hu'
        go_wp2_with fail
        refine Calls.at fun W hW => ?_
        have hbw := Lib.hid (show Below wr.heap.size wr W by subst hW; (repeat' first | exact Below.refl _ _ | assumption | refine Below.alloc ?_ ?_ _ | refine Below.setCell ?_ ?_ _ | refine Below.drew ?_ | (simp; done) | (simp; omega)))
        clear hW
        refine (sameClo_any _ _ x y W (HU.out.up hbw.out (Nat.le_refl _)) (HU'.out.up hbw.out (Nat.le_refl _))).mono ?_
        rintro e w1 ⟨rfl, hb1⟩
        have HB1 := Lib.hid ((HB.out.trans (hbw.out.mono HB.out.size)).trans (hb1.mono (Nat.le_trans HB.out.size hbw.out.size)))
        clear hb1
        obtain ⟨bb, hbb⟩ : ∃ bb, bb = sameC x y := ⟨_, rfl⟩
        rw [← hbb]
        have HBB := Lib.hid hbb
        clear hbb
        cases bb
        · go_wp2_with fail
          go_ret
          exact ⟨by rw [show sameCL xs ys = false from eqBy_ne sameC ICL xs ys k hlt hlt2 (by rw [← HX.out, ← HY.out]; exact HBB.out.symm)]; rfl, HB1.out⟩
        · go_wp2_with fail
          go_roundw
          case rel =>
            refine ⟨k + 1, by go_num, by omega, fun j hj => ?_, HB1.out⟩
            by_cases hjk : j < k
            · exact hall.out j hjk
            · obtain rfl : j = k := by omega
              rw [← HX.out, ← HY.out]; exact HBB.out.symm
          case measure => simp [intOf]; omega
      · obtain rfl : k = xs.length := by omega
        go_wp2_with fail
        go_ret
        exact ⟨by rw [show sameCL xs ys = true from eqBy_all sameC ICL xs ys HL.out hall.out]; rfl, HB.out⟩
  · have hne : ((xs.length : Int) != (ys.length : Int)) = true := by simp; omega
    have hx := Lib.hid (show sameCL xs ys = false from eqBy_len sameC xs ys hl)
    clear hl
    go_enter Try.func14, Try.ntmps14
    go_wp2_with go_in
    go_ret
    exact ⟨by rw [hx.out]; rfl, Below.refl _ _⟩

end Go.Proofs.Ytkkcgclliomocaa

namespace Go.Proofs.Ytkkcgclliomocaa
open Go.RowKit

/-- Where the first cases end. -/
def endAt (ds : List CaseD) (i : Nat) : Nat := (flatB (ds.take i)).length
theorem endAt_zero (ds : List CaseD) : endAt ds 0 = 0 := rfl
theorem take_succ_d (ds : List CaseD) {i : Nat} (h : i < ds.length) : ds.take (i + 1) = ds.take i ++ [ds.getD i ICL] := by
  rw [List.take_succ_eq_append_getElem h, List.getD_eq_getElem?_getD, List.getElem?_eq_getElem h]; rfl
theorem endAt_succ (ds : List CaseD) {i : Nat} (h : i < ds.length) : endAt ds (i + 1) = endAt ds i + (storeBytes (ds.getD i ICL)).length := by
  unfold endAt
  rw [take_succ_d ds h, flatB_append, List.length_append]
  simp [flatB]
theorem endAt_len (ds : List CaseD) : endAt ds ds.length = (flatB ds).length := by unfold endAt; rw [List.take_length]
theorem endAt_le (ds : List CaseD) (i : Nat) : endAt ds i ≤ (flatB ds).length := by
  unfold endAt
  have : flatB ds = flatB (ds.take i) ++ flatB (ds.drop i) := by rw [← flatB_append, List.take_append_drop]
  rw [this, List.length_append]; omega
theorem storeLen {d : CaseD} (h : caseB d = true) : (storeBytes d).length ≤ 2002 := by
  have := storeS_size h
  unfold storeS at this
  rwa [strOfNums_size] at this
theorem flatLen : ∀ (ds : List CaseD), (∀ d ∈ ds, caseB d = true) → (flatB ds).length ≤ 2002 * ds.length
  | [], _ => Nat.zero_le _
  | d :: r, h => by
    have h1 := storeLen (h d (List.mem_cons_self ..))
    have h2 := flatLen r (fun x hx => h x (List.mem_cons_of_mem _ hx))
    show (storeBytes d ++ flatB r).length ≤ _
    rw [List.length_append, List.length_cons]; omega
theorem sameC_refl (d : CaseD) : sameC d d = true := by unfold sameC; simp
theorem sameCL_refl : ∀ (ds : List CaseD), sameCL ds ds = true
  | [] => rfl
  | d :: r => by
    show (sameC d d && eqBy sameC r r) = true
    rw [sameC_refl, Bool.true_and]
    exact sameCL_refl r
/-- One case stored and loaded. -/
theorem one_back {d : CaseD} (h : caseB d = true) : storeR d = storeS d ∧ ldB (storeS d) = true ∧ ldC (storeS d) = d ∧ (storeS d).size = (storeBytes d).length := by
  have hb : bytesOf (storeS d) = storeBytes d := bytes_back _ (store_rng d)
  have hs : (storeS d).size = (storeBytes d).length := by rw [← bytesOf_len, hb]
  obtain ⟨h1, h2, h3⟩ := rc_of (R := []) h (by rw [hb, List.append_nil])
  have hl : ldB (storeS d) = true := by unfold ldB; rw [h1, h3, hs]; simp
  refine ⟨by unfold storeR; rw [h]; rfl, hl, ?_, hs⟩
  unfold ldC
  rw [if_pos hl, h2]
/-- All cases stored and loaded. -/
theorem all_back {ds : List CaseD} (h : ∀ d ∈ ds, caseB d = true) (h8 : ds.length ≤ 8) : (storesF ds).size = endAt ds ds.length ∧ recC (storesF ds) = ds ∧ recP (storesF ds) = (storesF ds).size := by
  have hb := storesF_bytes ds
  have hs : (storesF ds).size = (flatB ds).length := by rw [← bytesOf_len, hb]
  have hr := recL_of (storesF ds) ds 8 0 [] h h8 (by rw [List.drop_zero, hb, List.append_nil])
  rw [recL_no (storesF ds) (8 - ds.length) (0 + (flatB ds).length) (rcOk_empty _ _ (by omega))] at hr
  refine ⟨by rw [hs, endAt_len], ?_, ?_⟩
  · unfold recC; rw [hr]; simp
  · unfold recP; rw [hr]; simp only; omega
/-- What is cut off. -/
theorem cut_back {ds : List CaseD} (h : ∀ d ∈ ds, caseB d = true) (h8 : ds.length ≤ 8) {k c : Nat} (hk : k < ds.length) (h1 : endAt ds k ≤ c) (h2 : c < endAt ds (k + 1)) (s : ByteArray) (hs : bytesOf s = (flatB ds).take c) :
    recC s = ds.take k ∧ recP s = endAt ds k := by
  have hsplit : flatB ds = flatB (ds.take k) ++ (storeBytes (ds.getD k ICL) ++ flatB (ds.drop (k + 1))) := by
    conv => lhs; rw [← List.take_append_drop (k + 1) ds, flatB_append, take_succ_d ds hk, flatB_append, List.append_assoc]
    simp [flatB]
  rw [endAt_succ ds hk] at h2
  have hb : bytesOf s = flatB (ds.take k) ++ (storeBytes (ds.getD k ICL)).take (c - endAt ds k) := by
    rw [hs, hsplit, List.take_append]
    rw [List.take_of_length_le (show (flatB (ds.take k)).length ≤ c from h1)]
    congr 1
    show ((storeBytes (ds.getD k ICL)) ++ _).take (c - endAt ds k) = _
    rw [List.take_append_of_le_length (by omega)]
  have hd : caseB (ds.getD k ICL) = true := by
    rw [List.getD_eq_getElem?_getD, List.getElem?_eq_getElem hk]; exact h _ (List.getElem_mem hk)
  have hr := recL_of s (ds.take k) 8 0 ((storeBytes (ds.getD k ICL)).take (c - endAt ds k)) (fun d hd => h d (List.mem_of_mem_take hd)) (by rw [List.length_take]; omega) (by rw [List.drop_zero]; exact hb)
  have ht : bytesOf (tailS s (0 + (flatB (ds.take k)).length)) = (storeBytes (ds.getD k ICL)).take (c - endAt ds k) := by
    rw [bytes_tail, hb, Nat.zero_add, List.drop_left]
  rw [recL_no _ _ _ (no_prefix hd ht (by omega))] at hr
  refine ⟨?_, ?_⟩
  · unfold recC; rw [hr]; simp
  · unfold recP; rw [hr]; exact Nat.zero_add _
/-- What is bent. -/
theorem bent_back {ds : List CaseD} (h : ∀ d ∈ ds, caseB d = true) (h8 : ds.length ≤ 8) {k c : Nat} (hk : k ≤ ds.length) (h1 : endAt ds k ≤ c) (x : Int) (s : ByteArray) (hs : bytesOf s = (flatB ds).set c x) :
    k ≤ (recC s).length ∧ storesB (recC s) = true ∧ recP s ≤ s.size ∧ storesR (recC s) = strOfNums ((bytesOf s).take (recP s)) := by
  have hsplit : flatB ds = flatB (ds.take k) ++ flatB (ds.drop k) := by rw [← flatB_append, List.take_append_drop]
  have hb : bytesOf s = flatB (ds.take k) ++ (flatB (ds.drop k)).set (c - endAt ds k) x := by
    rw [hs, hsplit, List.set_append_right _ _ (show (flatB (ds.take k)).length ≤ c from h1)]
    rfl
  have hr := recL_of s (ds.take k) 8 0 _ (fun d hd => h d (List.mem_of_mem_take hd)) (by rw [List.length_take]; omega) (by rw [List.drop_zero]; exact hb)
  obtain ⟨q1, q2, q3, q4, q5⟩ := recL_back s 8 0 (Nat.zero_le _)
  have hC : recC s = (recL s 8 0).1 := rfl
  have hP : recP s = (recL s 8 0).2 := rfl
  rw [← hC] at q1 q2 q5
  rw [← hP] at q4 q5
  obtain ⟨p1, p2⟩ := storesB_of q1 q2
  refine ⟨?_, p1, q4, ?_⟩
  · rw [hC, hr]
    simp only [List.length_append, List.length_take]
    omega
  · rw [p2, storesF_flat, q5, List.drop_zero, Nat.sub_zero]

end Go.Proofs.Ytkkcgclliomocaa

namespace Go.Proofs.Ytkkcgclliomocaa
open Go.RowKit

set_option maxHeartbeats 4000000 in
set_option maxRecDepth 8000 in
theorem implRec_any (s : ByteArray) (w : World) (hs : s.size ≤ 1048576) :
    Calls Try.prog 16 #[.string s] w fun e w' => ∃ v', e = .returned (.tuple #[v', .int .i64 (recP s), .bool true]) ∧ OwnCL w.heap.size w'.heap.size w' v' (recC s) ∧ Below w.heap.size w w' := by
  go_enter Try.func16, Try.ntmps16
  go_wp2_with fail
  go_loopw [5, 6] (fun ov av wr => ∃ (k p : Nat) (rows : List RowCL) (a : Option Addr) (cap : Nat), ov = .slice a k cap ∧ av = .int .i64 p ∧ k ≤ 8 ∧ rows.length = k ∧ p ≤ s.size ∧ Hid (recL s 8 0 = (rows.map (·.d) ++ (recL s (8 - k) p).1, (recL s (8 - k) p).2)) ∧ Hid (wr.ownsRow w.heap.size 33 4 (.slice a k cap) k (rows.flatMap cellsCL)) ∧ Hid (∀ g, (Value.slice a k cap).ownBlock = some g → g < wr.heap.size ∧ ∀ (i : Nat) (r : RowCL), rows[i]? = some r → ¬ (r.l ≤ g ∧ g < r.h)) ∧ Hid (OwnECL w.heap.size wr.heap.size wr rows) ∧ Hid (Below w.heap.size w wr)) (fun ov _ _ => 8 - (match ov with | .slice _ n _ => n | _ => 0))
  case atStart =>
    exact ⟨0, 0, [], none, 0, rfl, rfl, by omega, rfl, Nat.zero_le _, rfl, World.ownsRow_nil _ _ _ _, (by intro g hg; cases hg), ⟨by intro i r h; simp at h, by intro i j r s _ h; simp at h⟩, Below.refl _ _⟩
  case round =>
    obtain ⟨k, p, rows, a, cap, rfl, rfl, hk, hlen, hp, HEQ, HO, HBK, HE, HB⟩ := hrel
    have hz := HB.out.size
    have HEND := Lib.hid (show recL s (8 - k) p = ([], p) → ∀ Wf, Below wr.heap.size wr Wf → ∃ v', Ending.returned (.tuple #[.slice a k cap, .int .i64 (p : Int), .bool true]) = Ending.returned (.tuple #[v', .int .i64 (recP s), .bool true]) ∧ OwnCL w.heap.size Wf.heap.size Wf v' (recC s) ∧ Below w.heap.size w Wf from fun hr Wf hbf => by
      have he := HEQ.out
      rw [hr, List.append_nil] at he
      unfold recP recC
      rw [he]
      refine ⟨_, rfl, ⟨rows, rfl, ?_, ?_, ?_⟩, HB.out.trans (hbf.mono hz)⟩
      · rw [show (rows.map (·.d)).length = k by rw [List.length_map, hlen]]
        exact ownsK_below HO.out hbf (Nat.le_refl _)
      · exact fun g hg => ⟨Nat.lt_of_lt_of_le (HBK.out g hg).1 hbf.size, (HBK.out g hg).2⟩
      · exact (HE.out.up hbf (Nat.le_refl _)).wide (Nat.le_refl _) hbf.size)
    by_cases hlt : k < 8
    · have hkI : (k : Int) < 8 := by omega
      have hpI : (p : Int) ≤ (s.size : Int) := by omega
      obtain ⟨t, ht⟩ : ∃ t, t = s.extract p s.size := ⟨_, rfl⟩
      have hts : t.size ≤ s.size := by rw [ht]; simp
      have HT := Lib.hid (show tailS s p = t by rw [ht]; rfl)
      have HLEN := Lib.hid hlen
      have HTE := Lib.hid ht
      clear ht hlen
      go_wp2_with fail
      rw [← HTE.out]
      refine (readCase_any t wr (by omega)).mono ?_
      rintro e w1 ⟨v', rfl, ho, hb⟩
      obtain ⟨a1, c1, a2, c2, rfl⟩ := ho.rd.shape
      have hn := rcN_le t
      have HOK := Lib.hid (rcOk_iff t)
      have HPN := Lib.hid (show p + rcN t ≤ s.size by
        have h1 := congrArg ByteArray.size HTE.out
        rw [ByteArray.size_extract] at h1
        omega)
      obtain ⟨ok, hok⟩ : ∃ ok, rcOk t = ok := ⟨_, rfl⟩
      obtain ⟨n, hnn⟩ : ∃ n, n = rcN t := ⟨_, rfl⟩
      obtain ⟨d, hd⟩ : ∃ d, d = rcC t := ⟨_, rfl⟩
      have HQ := Lib.hid hok
      have HD := Lib.hid hd
      have HNN := Lib.hid hnn
      rw [← hnn] at hn HPN HOK
      try rw [← hnn]
      try rw [hok]
      rw [hok] at HOK
      rw [← hd] at ho
      try rw [← hd]
      have HN1 := Lib.hid ho
      have hb1 := Lib.hid hb
      have hz1 := hb.size
      clear ho hb hok hd hnn
      cases ok
      · have HNO := Lib.hid (HEND.out (recL_no s _ p (by rw [HT.out]; exact HQ.out)))
        clear HEND
        go_wp2_with fail
        go_ret3
        refine HNO.out _ ?_
        repeat' first | exact hb1.out | refine Below.setCell ?_ (by exact hz1) _ | refine Below.alloc ?_ hz1 _
      obtain ⟨m, hm⟩ : ∃ m, 8 - k = m + 1 := ⟨7 - k, by omega⟩
      have HREC := Lib.hid (show recL s 8 0 = ((rows ++ [(⟨d, .slice a1 d.form.clauses.length c1, .slice a2 d.proof.length c2, wr.heap.size, w1.heap.size⟩ : RowCL)]).map (·.d) ++ (recL s (8 - (k + 1)) (p + n)).1, (recL s (8 - (k + 1)) (p + n)).2) by
        have he := HEQ.out
        have hg := recL_go s m p (by rw [HT.out]; exact HQ.out)
        rw [HT.out, ← HNN.out, ← HD.out] at hg
        rw [hm, hg] at he
        rw [he, show 8 - (k + 1) = m by omega, List.map_append, List.append_assoc]
        rfl)
      clear HEND HEQ hm
      go_upto_region 6 with fail
      refine wp_at fun W2 hW2 => ?_
      have HK2 := Lib.hid (show Blk W2 w1.heap.size 33 #[.string d.name, .int .i64 d.form.letters, .slice a1 d.form.clauses.length c1, .slice a2 d.proof.length c2] by
        subst hW2; first | exact Blk.new _ _ _ | simpa using ((((Blk.new w1 33 #[.string ⟨#[]⟩, .int .i64 0, .slice none 0 0, .slice none 0 0]).set 0 (.string d.name)).set 1 (.int .i64 d.form.letters)).set 2 (.slice a1 d.form.clauses.length c1)).set 3 (.slice a2 d.proof.length c2))
      have hb2 := Lib.hid (show Below w1.heap.size w1 W2 by subst hW2; first | (repeat' first | exact Below.refl _ _ | assumption | refine Below.alloc ?_ ?_ _ | refine Below.setCell ?_ ?_ _ | refine Below.drew ?_ | (simp; done) | (simp; omega)) | (repeat' first | exact Below.refl _ _ | refine Below.setCell ?_ (by exact Nat.le_refl _) _ | refine Below.alloc ?_ (Nat.le_refl _) _))
      clear hW2
      have y0 : W2.cell? ⟨w1.heap.size, 0, none⟩ = some (.string d.name) := HK2.out.cell 0 rfl
      have y1 : W2.cell? ⟨w1.heap.size, 1, none⟩ = some (.int .i64 d.form.letters) := HK2.out.cell 1 rfl
      have y2 : W2.cell? ⟨w1.heap.size, 2, none⟩ = some (.slice a1 d.form.clauses.length c1) := HK2.out.cell 2 rfl
      have y3 : W2.cell? ⟨w1.heap.size, 3, none⟩ = some (.slice a2 d.proof.length c2) := HK2.out.cell 3 rfl
      have hz2 := hb2.out.size
      have HB2 := Lib.hid (hb1.out.trans (hb2.out.mono hz1))
      have HO2 := Lib.hid (ownsK_below HO.out HB2.out (Nat.le_refl _))
      have HE2 := Lib.hid (HE.out.up HB2.out (Nat.le_refl _))
      have HN2 := Lib.hid (HN1.out.up hb2.out (Nat.le_refl _))
      clear HN1 HK2 HO HE
      go_wp2_with (at_builtin; refine app_CL rfl _ _ rfl w.heap.size (.slice a k cap) k rows rfl HO2.out ⟨d, .slice a1 d.form.clauses.length c1, .slice a2 d.proof.length c2, wr.heap.size, w1.heap.size⟩ _ rfl _ rfl rfl rfl rfl (k + 1) rfl (by omega) (by omega) ?_; intro a' cap' w4 hown4 hbl4 hkp4 hz4 hat4)
      go_roundw
      case rel =>
        refine ⟨k + 1, p + n, rows ++ [⟨d, .slice a1 d.form.clauses.length c1, .slice a2 d.proof.length c2, wr.heap.size, w1.heap.size⟩], a', cap', rfl, by go_num, by omega, by rw [List.length_append, HLEN.out]; rfl, HPN.out, HREC, Lib.hid hown4, Lib.hid ?_, Lib.hid ?_, Lib.hid (HB.out.trans ((HB2.out.mono hz).trans hbl4))⟩
        · intro g hg
          have hg4 := (hown4.lt g hg).2
          have hsep : ∀ (i : Nat) (r : RowCL), rows[i]? = some r → ¬ (r.l ≤ g ∧ g < r.h) := by
            intro i r hr ⟨q1, q2⟩
            rcases hat4 with h | h
            · exact (HBK.out g (by rw [← h]; exact hg)).2 i r hr ⟨q1, q2⟩
            · rw [h] at hg
              cases hg
              have := (HE2.out.1 i r hr).2.2
              omega
          refine ⟨hg4, fun i r hr ⟨q1, q2⟩ => ?_⟩
          by_cases hi : i < rows.length
          · rw [List.getElem?_append_left hi] at hr
            exact hsep i r hr ⟨q1, q2⟩
          · have hil := (List.getElem?_eq_some_iff.1 hr).1
            rw [List.length_append, List.length_singleton] at hil
            rw [List.getElem?_append_right (by omega), show i - rows.length = 0 by omega] at hr
            simp only [List.getElem?_cons_zero, Option.some.injEq] at hr
            subst hr
            simp only at q1 q2
            rcases hat4 with h | h
            · have := (HBK.out g (by rw [← h]; exact hg)).1
              omega
            · rw [h] at hg
              cases hg
              omega
        · refine OwnECL.snoc (hi := wr.heap.size) (HE2.out.kept hkp4 ?_) (HN2.out.kept hkp4 ?_) (Nat.le_refl _) hz (by show w1.heap.size ≤ _; omega) (by omega)
          · intro i r hr b q1 q2 hb'
            exact (HBK.out b hb').2 i r hr ⟨q1, q2⟩
          · intro b q1 q2 hb'
            have := (HBK.out b hb').1
            omega
      case measure => simp only []; omega
    · obtain rfl : k = 8 := by omega
      have HNO := Lib.hid (HEND.out rfl)
      clear HEND
      go_wp2_with fail
      go_ret3
      exact HNO.out _ (Below.refl _ _)

end Go.Proofs.Ytkkcgclliomocaa
