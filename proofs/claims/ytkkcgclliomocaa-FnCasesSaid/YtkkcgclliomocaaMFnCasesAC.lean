/-
  FnCases: texts joined: DomDraw, Concat, HeldL, FormO, CaseO, Flat, Jobs.
-/
import Derived.Deep.CutRange
import Derived.Lib.AppendZeros
import Derived.Test.YtkkcgclliomocaaMFnCasesAA
import Derived.Test.YtkkcgclliomocaaMFnCasesAB
namespace Go.Proofs.Ytkkcgclliomocaa
open Go.RowKit

/-- A draw of yes or no. -/
def YesE (sb : Nat) (v : Value) (c : Nat) (w : World) (e : Ending) (w' : World) : Prop :=
  ∃ b : Bool, e = .returned (.bool b) ∧ SrcAt w' sb v c ∧ Kept (· = sb) w w'

set_option maxHeartbeats 400000 in
theorem one_any (W0 : World) (v : Value) (xs : List Int) (hR : RdB W0 v xs) (hw : WfB xs) (sb c : Nat) (w : World) (hsb : W0.heap.size ≤ sb) (hb : Below W0.heap.size W0 w) (h : SrcAt w sb v c) (hc : c ≤ 999990) (n : Int) (h1 : 1 ≤ n) (h2 : n ≤ 65536) :
    Calls Try.prog 100 #[.pointer (some ⟨sb, 0, none⟩), .int .i64 n] w (YesE sb v (c + 2) w) := by
  have H := Lib.hid (pick_any W0 v xs hR hw sb c w hsb hb h hc n h1 h2)
  clear hR hw hb h
  go_enter Try.func100, Try.ntmps100
  go_wp2_with fail
  refine H.out.mono ?_
  rintro e w1 ⟨x, hx0, hx1, rfl, hs, hk⟩
  have HS := Lib.hid hs
  have HK := Lib.hid hk
  clear hs hk H
  go_wp2_with fail
  go_ret
  exact ⟨_, rfl, HS.out, HK.out⟩

theorem OwnEach.kept {lo hi : Nat} {w w' : World} {vs : List Value} {zss : List (List Int)} {S : Nat → Prop} (h : OwnEach lo hi w vs zss) (hk : Kept S w w') (hs : ∀ b, lo ≤ b → b < hi → ¬ S b) : OwnEach lo hi w' vs zss :=
  ⟨h.1, fun i u zs a b => (h.2.1 i u zs a b).kept hk hs, h.2.2⟩

theorem keptAbove {B : Nat} {w w' : World} (h : Below B w w') : Kept (fun b => B ≤ b) w w' := ⟨h.os, h.tape, h.output, h.size, fun k _ hs => h.block k (by omega)⟩

/-- The numbers of a domain so far. -/
def UpTo (d : List Int) (k : Nat) : Prop := d.length ≤ k ∧ ∀ i, i < d.length → 0 ≤ d.getD i 0 ∧ d.getD i 0 < k ∧ (0 < i → d.getD (i - 1) 0 < d.getD i 0)
theorem UpTo.nil : UpTo [] 0 := ⟨Nat.le_refl _, by intro i hi; simp at hi⟩
theorem UpTo.skip {d : List Int} {k : Nat} (h : UpTo d k) : UpTo d (k + 1) := ⟨by have := h.1; omega, fun i hi => by have := h.2 i hi; omega⟩
theorem UpTo.snoc {d : List Int} {k : Nat} (h : UpTo d k) : UpTo (d ++ [(k : Int)]) (k + 1) := by
  refine ⟨by have := h.1; simp; omega, fun i hi => ?_⟩
  simp only [List.length_append, List.length_singleton] at hi
  have gl : ∀ j, j < d.length → (d ++ [(k : Int)]).getD j 0 = d.getD j 0 := fun j hj => by simp [List.getElem?_append_left hj]
  by_cases he : i = d.length
  · subst he
    have e : (d ++ [(k : Int)]).getD d.length 0 = k := by simp
    rw [e]
    refine ⟨by omega, by omega, fun h0 => ?_⟩
    rw [gl _ (by omega)]
    have := h.2 (d.length - 1) (by omega)
    omega
  · rw [gl i (by omega)]
    have := h.2 i (by omega)
    refine ⟨this.1, by omega, fun h0 => ?_⟩
    rw [gl _ (by omega)]
    exact this.2.2 h0
theorem UpTo.val {d : List Int} {k : Nat} (h : UpTo d k) (h1 : 1 ≤ d.length) (hk : k ≤ 6) : ValDom d :=
  ⟨h1, by have := h.1; omega, fun i hi => by
    have := h.2 i hi
    exact ⟨inB_true (by omega), this.2.2⟩⟩
theorem val_one {x : Int} (h : 0 ≤ x ∧ x < 6) : ValDom [x] := by
  refine ⟨by simp, by simp, fun i hi => ?_⟩
  simp at hi
  subst hi
  exact ⟨inB_true (by simp; omega), fun h => by omega⟩
/-- The domains so far. -/
def ValSome (D : List (List Int)) : Prop := ∀ i, i < D.length → ValDom (D.getD i [])
theorem ValSome.snoc {D : List (List Int)} {d : List Int} (h : ValSome D) (hd : ValDom d) : ValSome (D ++ [d]) := by
  intro i hi
  simp only [List.length_append, List.length_singleton] at hi
  by_cases he : i = D.length
  · subst he; simpa using hd
  · have hl : i < D.length := by omega
    have := h i hl
    simpa [List.getElem?_append_left hl] using this

end Go.Proofs.Ytkkcgclliomocaa

namespace Go.Proofs.Ytkkcgclliomocaa
open Go.RowKit

/-- The head of what has just been made of zeros, at length 0. -/
theorem owns_head {w : World} {e : TypeId} (cs : Array Value) (cap : Nat) (hc : cs.size = cap) (hm : cap ≤ maxLen) : (w.drew.alloc (.cells cs e)).ownsRow w.heap.size e 1 (.slice (some ⟨w.heap.size, 0, none⟩) 0 cap) 0 [] := by
  refine ⟨rfl, .inr ⟨w.heap.size, cap, cs, rfl, Nat.le_refl _, ?_, Nat.zero_le _, hm, by simpa using hc, by simp⟩⟩
  simpa using heap_alloc_new w.drew (.cells cs e)

set_option maxHeartbeats 1000000 in
set_option maxRecDepth 4000 in
theorem growLL_nil (n : Nat) (w : World) (hn : n ≤ 2097152) :
    Calls Try.prog 127 #[.slice none 0 0, .int .i64 n] w fun e w' => ∃ a cap, e = .returned (.slice a 0 cap) ∧ w'.ownsRow w.heap.size 65 1 (.slice a 0 cap) 0 [] ∧ Below w.heap.size w w' := by
  obtain ⟨i0, hi, hz0, hz1, hz2⟩ := info_parts Try.infoInts
  go_enter Try.func127, Try.ntmps127
  by_cases h0 : 0 < n
  · have HR := Lib.hid (show ∃ (w1 : World) (cap : Nat), (Builtin.append_ #[29, 3] 29 #[.slice none 0 0, .int .i64 n]).run Try.prog w = .ok (.slice (some ⟨w.heap.size, 0, none⟩) n cap) w1 ∧ n ≤ cap ∧ cap ≤ maxLen ∧ w1.ownsRow w.heap.size 65 1 (.slice (some ⟨w.heap.size, 0, none⟩) 0 cap) 0 [] ∧ Below w.heap.size w w1 from by
      refine ⟨_, _, Lib.run_append_nil_zeros (P := Try.prog) w 29 3 29 65 i0 (.slice none 0 0) .i64 .i64 Try.underlying29 Try.underlying3 hi hz0 n h0 (by omega) (by omega) (by rw [hz2]; omega), grownCap_ge _ _ _ _, grownCap_le_maxLen _ _ _ _ (by unfold maxLen; omega), owns_head _ _ ?_ (grownCap_le_maxLen _ _ _ _ (by unfold maxLen; omega)), ?_⟩
      · have := grownCap_ge w n 0 65
        simp [Builtin.zeroCells, Value.cells]; omega
      · exact (Below.refl _ _).drew.alloc (by simp) _)
    obtain ⟨w1, cap, hr, hn1, hn2, hown, hb⟩ := HR.out
    have HR1 := Lib.hid hr
    clear hr HR
    simp only [maxLen] at hn2
    go_wp2_with (at_builtin; refine Lib.wpList_append_run w rfl _ _ 29 3 rfl _ _ rfl rfl _ _ HR1.out ?_)
    go_ret
    exact ⟨_, _, rfl, hown, hb⟩
  · obtain rfl : n = 0 := by omega
    go_wp2_with fail
    go_ret
    exact ⟨none, 0, rfl, World.ownsRow_nil _ _ _ _, Below.refl _ _⟩

def upTo2 {α : Type} (a b : List α) : Nat → List α
  | 0 => []
  | 1 => a
  | _ => a ++ b

set_option maxHeartbeats 2000000 in
set_option maxRecDepth 4000 in
theorem concatLL_any (b : Nat) (a1 : Option Addr) (c1 n1 : Nat) (a2 : Option Addr) (c2 n2 : Nat) (vs1 vs2 : List Value) (w : World) (s1 : Slc w (.slice a1 n1 c1) vs1) (s2 : Slc w (.slice a2 n2 c2) vs2)
    (o1 : ∀ u ∈ vs1, u.oneCell' = true) (o2 : ∀ u ∈ vs2, u.oneCell' = true) (l1 : vs1.length = n1) (l2 : vs2.length = n2)
    (k1 : w.cell? ⟨b, 0, none⟩ = some (.slice a1 n1 c1)) (k2 : w.cell? ⟨b, 1, none⟩ = some (.slice a2 n2 c2)) (hn : n1 + n2 ≤ 1048576) :
    Calls Try.prog 101 #[.slice (some ⟨b, 0, none⟩) 2 2] w fun e w' => ∃ a cap, e = .returned (.slice a (n1 + n2) cap) ∧ w'.ownsRow w.heap.size 65 1 (.slice a (n1 + n2) cap) (n1 + n2) (vs1 ++ vs2) ∧ Below w.heap.size w w' := by
  obtain ⟨i0, hi, hz0, hz1, hz2⟩ := info_parts Try.infoInts
  have S1 := Lib.hid s1
  have S2 := Lib.hid s2
  have O1 := Lib.hid o1
  have O2 := Lib.hid o2
  have K1 := Lib.hid k1
  have K2 := Lib.hid k2
  have N1 := Lib.hid l1
  have N2 := Lib.hid l2
  clear s1 s2 o1 o2 l1 l2
  go_enter Try.func101, Try.ntmps101
  go_wp2_with fail
  go_loop [3, 11] (fun s i => ∃ k m : Nat, i = .int .i64 k ∧ k ≤ 2 ∧ s = .int .i64 m ∧ m ≤ 1048576 ∧ Hid (m = (upTo2 vs1 vs2 k).length)) (fun _ i => 2 - (intOf i).toNat)
  case atStart => exact ⟨0, 0, rfl, Nat.zero_le _, rfl, by omega, rfl⟩
  case round =>
    obtain ⟨k, m, rfl, hk, rfl, hm, HM⟩ := hrel
    rcases (by omega : k = 0 ∨ k = 1 ∨ k = 2) with rfl | rfl | rfl
    · have hm0 : m = 0 := HM.out
      subst hm0
      go_wp2_with fail
      go_round
      case rel => exact ⟨1, n1, by go_num, by omega, by go_num, by omega, N1.out.symm⟩
      case measure => simp [intOf]
    · have hm0 : n1 = m := (HM.out.trans N1.out).symm
      subst hm0
      go_wp2_with fail
      go_round
      case rel => exact ⟨2, n1 + n2, by go_num, by omega, by go_num, by omega, by show _ = (vs1 ++ vs2).length; rw [List.length_append, N1.out, N2.out]⟩
      case measure => simp [intOf]
    · have hm0 : m = n1 + n2 := by have := HM.out; rw [this]; show (vs1 ++ vs2).length = _; rw [List.length_append, N1.out, N2.out]
      subst hm0
      go_wp2_with fail
      have e2 : ((n1 + n2 : Nat) : Int) = (n1 : Int) + n2 := by push_cast; rfl
      refine (growLL_nil (n1 + n2) w (by omega)).mono ?_
      rintro e w1 ⟨a, cap, rfl, hown, hb⟩
      have HO := Lib.hid hown
      have HB := Lib.hid hb
      clear hown hb
      go_wp2_with fail
      go_loopw [6, 27] (fun o i wr => ∃ (k : Nat) (a : Option Addr) (n cap : Nat), i = .int .i64 k ∧ k ≤ 2 ∧ o = .slice a n cap ∧ n ≤ 1048576 ∧ n = (upTo2 vs1 vs2 k).length ∧ Hid (wr.ownsRow w.heap.size 65 1 (.slice a n cap) n (upTo2 vs1 vs2 k)) ∧ Hid (Below w.heap.size w wr)) (fun _ i _ => 2 - (intOf i).toNat)
      case atStart => exact ⟨0, a, 0, cap, rfl, Nat.zero_le _, rfl, by omega, rfl, HO, HB⟩
      case round =>
        obtain ⟨k, a', n, cap', rfl, hk, rfl, hn0, hnl, HO1, HB1⟩ := hrel
        have HNL := Lib.hid hnl
        have hz := HB1.out.size
        clear hnl
        rcases (by omega : k = 0 ∨ k = 1 ∨ k = 2) with rfl | rfl | rfl
        · have q1 := held_of HB1.out K1.out (Nat.le_refl _)
          go_wp2_with (at_builtin; refine wpList_append_slc rfl _ _ 29 rfl w.heap.size 65 i0 (.slice none 0 0) 24 Try.underlying29 hi hz0 hz1 hz2 rfl _ n (upTo2 vs1 vs2 0) rfl HO1.out _ vs1 rfl (Slc.below S1.out HB1.out (Nat.le_refl _)) O1.out (by have := N1.out; have := HNL.out; simp only [upTo2, List.length_nil] at this; simp [maxLen]; omega) (by have := N1.out; have := HNL.out; simp only [upTo2, List.length_nil] at this; omega) hz ?_; intro v' w' o1 o2 o3)
          obtain ⟨a3, cap3, rfl⟩ := owns_shape o1
          have hn1 : n + vs1.length = n1 := by have := N1.out; have := HNL.out; simp only [upTo2, List.length_nil] at this; omega
          rw [hn1] at o1 ⊢
          have hbl := below_grown HO1.out hz o2
          go_wp2_with fail
          go_roundw
          case rel => exact ⟨1, a3, _, cap3, by go_num, by omega, rfl, by omega, N1.out.symm, o1, HB1.out.trans hbl⟩
          case measure => simp [intOf]
        · have q2 := held_of HB1.out K2.out (Nat.le_refl _)
          go_wp2_with (at_builtin; refine wpList_append_slc rfl _ _ 29 rfl w.heap.size 65 i0 (.slice none 0 0) 24 Try.underlying29 hi hz0 hz1 hz2 rfl _ n (upTo2 vs1 vs2 1) rfl HO1.out _ vs2 rfl (Slc.below S2.out HB1.out (Nat.le_refl _)) O2.out (by have := N2.out; simp [maxLen]; omega) (by have := N2.out; omega) hz ?_; intro v' w' o1 o2 o3)
          obtain ⟨a3, cap3, rfl⟩ := owns_shape o1
          have hn1 : n + vs2.length = n1 + n2 := by have := N1.out; have := N2.out; have := HNL.out; simp only [upTo2] at this; omega
          rw [hn1] at o1 ⊢
          have hbl := below_grown HO1.out hz o2
          go_wp2_with fail
          go_roundw
          case rel => exact ⟨2, a3, _, cap3, by go_num, by omega, rfl, by omega, by show _ = (vs1 ++ vs2).length; rw [List.length_append, N1.out, N2.out], o1, HB1.out.trans hbl⟩
          case measure => simp [intOf]
        · go_wp2_with fail
          go_ret
          have hn1 : n1 + n2 = n := by have := HNL.out; rw [this]; show _ = (vs1 ++ vs2).length; rw [List.length_append, N1.out, N2.out]
          subst hn1
          exact ⟨_, _, rfl, HO1.out, HB1.out⟩

theorem owns_beside {w w' : World} {b1 b2 e1 e2 n m : Nat} {v u : Value} {vs us : List Value} (ho : w.ownsRow b1 e1 1 v n vs) (hv : w.ownsRow b2 e2 1 u m us) (hne : e1 ≠ e2) (hg : w.grownBy w' u.ownBlock) : w'.ownsRow b1 e1 1 v n vs :=
  owns_kept (S := fun k => u.ownBlock = some k) ho ⟨hg.os, hg.tape, hg.output, hg.size, fun k hk hs => hg.block k hk fun e => hs e.symm⟩ (fun _ h1 h2 => owns_ne ho hv hne h1 h2)

end Go.Proofs.Ytkkcgclliomocaa

namespace Go.Proofs.Ytkkcgclliomocaa
open Go.RowKit

set_option maxHeartbeats 1000000 in
theorem heldL_o (v : Value) (zss : List (List Int)) (k : Int) (w : World) (h : RdL w v (mkdL k zss)) (h0 : 0 ≤ k) (h1 : k + cntL zss ≤ 1099511627776) :
    Calls Try.prog 68 #[v, .int .i64 k] w fun e w' => e = .returned (.int .i64 (k + cntL zss)) ∧ Below w.heap.size w w' := by
  obtain ⟨a, c, rfl⟩ := h.shape
  have hl := h.len
  unfold maxLen at hl
  have hln : (mkdL k zss).length = zss.length := mkP_length k zss zss.length
  rw [hln] at hl ⊢
  have HS := Lib.hid h
  rw [hln] at HS
  have HLN := Lib.hid hln
  have HC := Lib.hid h1
  clear h h1 hln
  go_enter Try.func68, Try.ntmps68
  go_wp2_with fail
  go_loopw [1, 5] (fun kk i wr => ∃ j : Nat, i = .int .i64 j ∧ j ≤ zss.length ∧ kk = .int .i64 (k + lsum (zss.take j)) ∧ Below w.heap.size w wr) (fun _ i _ => zss.length - (intOf i).toNat)
  case atStart => exact ⟨0, rfl, Nat.zero_le _, by simp [lsum], Below.refl _ _⟩
  case round =>
    obtain ⟨j, rfl, hj, rfl, hbl⟩ := hrel
    have HB := Lib.hid hbl
    clear hbl
    by_cases hlt : j < zss.length
    · obtain ⟨b, off, u, rfl, _, hc, hu⟩ := (HS.out.up HB.out (Nat.le_refl _)).at (i := j) (by rw [HLN.out]; exact hlt)
      have hat : (mkdL k zss).getD j [] = mkI (k + lsum (zss.take j)) (zss.getD j []).length := by
        have h := mkdL_at k zss zss.length j hlt hlt
        unfold mkdL
        rw [List.getD_eq_getElem?_getD, h]; rfl
      rw [hat] at hu
      have HT := Lib.hid (sum_take_succ zss j hlt)
      have HBK := Lib.hid (bulkL_le zss (j + 1))
      obtain ⟨z, hzk⟩ : ∃ z, z = (zss.getD j []).length := ⟨_, rfl⟩
      rw [← hzk] at hu HT
      obtain ⟨sm, hsm⟩ : ∃ s, s = lsum (zss.take j) := ⟨_, rfl⟩
      rw [← hsm] at hu HT ⊢
      have hbound : (sm : Int) + z ≤ cntL zss := by
        have h1 := HT.out
        have h2 := HBK.out
        unfold cntL
        unfold bulkL at h2
        omega
      have hh := Lib.hid (heldI_any u z (k + sm) wr hu (by omega) (by have := HC.out; omega))
      have HCC := HC.out
      clear hat hu hzk hsm
      go_wp2_with fail
      refine hh.out.mono ?_
      rintro e w2 ⟨rfl, hb2⟩
      have HB2 := Lib.hid (HB.out.trans (hb2.mono HB.out.size))
      clear hb2 hc
      go_wp2_with fail
      go_roundw
      case rel => exact ⟨j + 1, by go_num, by omega, by rw [HT.out]; push_cast; go_num, HB2.out⟩
      case measure => simp [intOf]; omega
    · obtain rfl : j = zss.length := by omega
      go_wp2_with fail
      go_ret
      exact ⟨by rw [List.take_length]; rfl, HB.out⟩

end Go.Proofs.Ytkkcgclliomocaa

namespace Go.Proofs.Ytkkcgclliomocaa
open Go.RowKit

structure FormD where
  letters : Int
  clauses : List (List Int)

def RdFm (w : World) (v : Value) (d : FormD) : Prop := ∃ v1, v = .agg #[.int .i64 d.letters, v1] ∧ RdL w v1 d.clauses
def OwnFm (lo hi : Nat) (w : World) (v : Value) (d : FormD) : Prop := ∃ v1 l1 h1, v = .agg #[.int .i64 d.letters, v1] ∧ OwnL l1 h1 w v1 d.clauses ∧
  lo ≤ l1 ∧ l1 ≤ h1 ∧ h1 ≤ hi ∧ h1 ≤ w.heap.size
def bulkFm (d : FormD) : Nat := bulkL d.clauses
def cntFm (d : FormD) : Nat := cntL d.clauses

theorem RdFm.shape {w : World} {v : Value} {d : FormD} (h : RdFm w v d) : ∃ a1 c1, v = .agg #[.int .i64 d.letters, .slice a1 d.clauses.length c1] := by
  obtain ⟨v1, rfl, p1⟩ := h
  obtain ⟨a1, c1, rfl⟩ := p1.shape
  exact ⟨_, _, rfl⟩
theorem RdFm.parts {w : World} {z1 z2 : Value} {d : FormD} (h : RdFm w (.agg #[z1, z2]) d) : RdL w z2 d.clauses := by
  obtain ⟨v1, e, p1⟩ := h
  simp only [Value.agg.injEq, Array.mk.injEq, List.cons.injEq, and_true] at e
  obtain ⟨rfl, rfl⟩ := e
  exact p1
theorem RdFm.up {w w' : World} {v : Value} {d : FormD} {B : Nat} (h : RdFm w v d) (hb : Below B w w') (hB : w.heap.size ≤ B) : RdFm w' v d := by
  obtain ⟨v1, e, p1⟩ := h
  exact ⟨v1, e, p1.up hb hB⟩
theorem OwnFm.rd {lo hi : Nat} {w : World} {v : Value} {d : FormD} (h : OwnFm lo hi w v d) : RdFm w v d := by
  obtain ⟨v1, l1, h1, e, p1, r1, r2, r3, r4⟩ := h
  exact ⟨v1, e, p1.rd⟩
theorem OwnFm.up {lo hi : Nat} {w w' : World} {v : Value} {d : FormD} {B : Nat} (h : OwnFm lo hi w v d) (hb : Below B w w') (hB : w.heap.size ≤ B) : OwnFm lo hi w' v d := by
  obtain ⟨v1, l1, h1, e, p1, r1, r2, r3, r4⟩ := h
  exact ⟨v1, l1, h1, e, p1.up hb hB, r1, r2, r3, Nat.le_trans r4 hb.size⟩
theorem OwnFm.wide {lo hi lo' hi' : Nat} {w : World} {v : Value} {d : FormD} (h : OwnFm lo hi w v d) (a : lo' ≤ lo) (b : hi ≤ hi') : OwnFm lo' hi' w v d := by
  obtain ⟨v1, l1, h1, e, p1, r1, r2, r3, r4⟩ := h
  exact ⟨v1, l1, h1, e, p1, by omega, r2, by omega, r4⟩
theorem OwnFm.kept {lo hi : Nat} {w w' : World} {v : Value} {d : FormD} {S : Nat → Prop} (h : OwnFm lo hi w v d) (hk : Kept S w w') (hs : ∀ b, lo ≤ b → b < hi → ¬ S b) : OwnFm lo hi w' v d := by
  obtain ⟨v1, l1, h1, e, p1, r1, r2, r3, r4⟩ := h
  exact ⟨v1, l1, h1, e, p1.kept hk (fun b a c => hs b (by omega) (by omega)), r1, r2, r3, Nat.le_trans r4 hk.size⟩

set_option maxHeartbeats 2000000 in
set_option maxRecDepth 4000 in
theorem eqFm_same (v v' : Value) (d : FormD) (w : World) (h : RdFm w v d) (h' : RdFm w v' d) :
    Calls Try.prog 63 #[v, v'] w fun e w' => e = .returned (.bool true) ∧ Below w.heap.size w w' := by
  obtain ⟨a1, c1, rfl⟩ := h.shape
  obtain ⟨b1, e1, rfl⟩ := h'.shape
  obtain p1 := h.parts
  obtain q1 := h'.parts
  obtain ⟨n1, x2⟩ := d
  simp only at p1 q1 ⊢
  have hne0 : (n1 != n1) = false := by simp
  have P1 := Lib.hid p1
  have Q1 := Lib.hid q1
  clear h h' p1 q1
  go_enter Try.func63, Try.ntmps63
  go_wp2_with fail
  refine Calls.at fun W hW => ?_
  have HB := Lib.hid (show Below w.heap.size w W by subst hW; (repeat' first | exact Below.refl _ _ | assumption | refine Below.alloc ?_ ?_ _ | refine Below.setCell ?_ ?_ _ | refine Below.drew ?_ | (simp; done) | (simp; omega)))
  have HK := Lib.hid (show Blk W w.heap.size 31 #[.int .i64 n1, .slice a1 x2.length c1] by subst hW; exact (Blk.new _ _ _).alloc _)
  have HL := Lib.hid (show Blk W (w.heap.size + 1) 31 #[.int .i64 n1, .slice b1 x2.length e1] by subst hW; simpa using Blk.new (w.alloc (.cells #[.int .i64 n1, .slice a1 x2.length c1] 31)) 31 #[.int .i64 n1, .slice b1 x2.length e1])
  clear hW
  refine (eqL_same _ _ x2 W (P1.out.up HB.out (Nat.le_refl _)) (Q1.out.up HB.out (Nat.le_refl _))).mono ?_
  rintro e w1 ⟨rfl, hb1⟩
  have HB1 := Lib.hid (HB.out.trans (hb1.mono HB.out.size))
  clear hb1
  go_wp2_with fail
  go_ret
  exact ⟨rfl, HB1.out⟩

def mkdFm (k : Int) (d : FormD) : FormD := ⟨d.letters, mkdL k d.clauses⟩

set_option maxHeartbeats 2000000 in
set_option maxRecDepth 4000 in
theorem markFm_o (v : Value) (lo hi : Nat) (d : FormD) (k : Int) (w : World) (ho : OwnFm lo hi w v d) (h0 : 0 ≤ k) (h1 : k + cntFm d ≤ 1099511627776) :
    Calls Try.prog 65 #[v, .int .i64 k] w fun e w' => e = .returned (.int .i64 (k + cntFm d)) ∧ OwnFm lo hi w' v (mkdFm k d) ∧ Kept (fun b => lo ≤ b ∧ b < hi) w w' := by
  obtain ⟨a1, c1, hv⟩ := ho.rd.shape
  obtain ⟨v1, l1, h1', e, o1, r1, r2, r3, r4⟩ := ho
  rw [e] at hv
  simp only [Value.agg.injEq, Array.mk.injEq, List.cons.injEq, and_true, true_and] at hv
  obtain rfl := hv
  subst e
  obtain ⟨n1, x2⟩ := d
  unfold cntFm mkdFm at *
  simp only at o1 h1 ⊢
  obtain ⟨C1, hC1⟩ : ∃ C, C = cntL x2 := ⟨_, rfl⟩
  try rw [← hC1] at h1
  try rw [← hC1]
  have HC1 := Lib.hid hC1
  have b1 : k + C1 ≤ 1099511627776 := by omega
  have O1 := Lib.hid o1
  clear o1 h1 hC1
  go_enter Try.func65, Try.ntmps65
  go_wp2_with fail
  refine Calls.at fun W hW => ?_
  have HB := Lib.hid (show Below w.heap.size w W by subst hW; (repeat' first | exact Below.refl _ _ | assumption | refine Below.alloc ?_ ?_ _ | refine Below.setCell ?_ ?_ _ | refine Below.drew ?_ | (simp; done) | (simp; omega)))
  have HK := Lib.hid (show Blk W w.heap.size 31 #[.int .i64 n1, .slice a1 x2.length c1] by subst hW; exact Blk.new _ _ _)
  clear hW
  have A1 := Lib.hid (O1.out.up HB.out (Nat.le_refl _))
  have hzW := HB.out.size
  have hKl := HK.out.lt
  refine (markL_o _ l1 h1' x2 (k) W A1.out (by omega) (by rw [← HC1.out]; exact b1)).mono ?_
  rintro e w1 ⟨rfl, m1, k1⟩
  rw [← HC1.out]
  have HK1 := Lib.hid (HK.out.kept k1 (by omega))
  have M1 := Lib.hid m1
  have KK1 := Lib.hid ((Kept.of_below HB.out (Nat.le_refl _)).trans (k1.mono (S' := fun b => lo ≤ b ∧ b < hi) (by intro b _ q; omega)))
  clear m1 k1
  go_wp2_with fail
  go_ret
  refine ⟨congrArg (fun x => Ending.returned (Value.int IntKind.i64 x)) (by have := HC1.out; push_cast; omega), ?_, KK1.out⟩
  have hz := KK1.out.size
  exact ⟨_, l1, h1', rfl, M1.out, r1, r2, r3, by omega⟩

set_option maxHeartbeats 2000000 in
set_option maxRecDepth 4000 in
theorem heldFm_o (v : Value) (d : FormD) (k : Int) (w : World) (h : RdFm w v (mkdFm k d)) (h0 : 0 ≤ k) (h1 : k + cntFm d ≤ 1099511627776) :
    Calls Try.prog 67 #[v, .int .i64 k] w fun e w' => e = .returned (.int .i64 (k + cntFm d)) ∧ Below w.heap.size w w' := by
  obtain ⟨a1, c1, rfl⟩ := h.shape
  obtain p1 := h.parts
  obtain ⟨n1, x2⟩ := d
  unfold cntFm mkdFm at *
  simp only at p1 h1 ⊢
  obtain ⟨C1, hC1⟩ : ∃ C, C = cntL x2 := ⟨_, rfl⟩
  rw [← hC1] at h1 ⊢
  have HC1 := Lib.hid hC1
  have b1 : k + C1 ≤ 1099511627776 := by omega
  have P1 := Lib.hid p1
  obtain ⟨g1_0, hg1_0⟩ : ∃ x, x = (mkdL (k) x2).length := ⟨_, rfl⟩
  clear h p1 h1 hC1
  rw [← hg1_0] at P1 ⊢
  clear hg1_0
  go_enter Try.func67, Try.ntmps67
  go_wp2_with fail
  refine Calls.at fun W hW => ?_
  have HB := Lib.hid (show Below w.heap.size w W by subst hW; (repeat' first | exact Below.refl _ _ | assumption | refine Below.alloc ?_ ?_ _ | refine Below.setCell ?_ ?_ _ | refine Below.drew ?_ | (simp; done) | (simp; omega)))
  have HK := Lib.hid (show Blk W w.heap.size 31 #[.int .i64 n1, .slice a1 g1_0 c1] by subst hW; exact Blk.new _ _ _)
  clear hW
  refine (heldL_o _ x2 (k) W (P1.out.up HB.out (Nat.le_refl _)) (by omega) (by rw [← HC1.out]; exact b1)).mono ?_
  rintro e w1 ⟨rfl, hb1⟩
  rw [← HC1.out]
  have HB1 := Lib.hid (HB.out.trans (hb1.mono HB.out.size))
  clear hb1
  have e1 : ¬ (k + (C1 : Int) < 0) := by omega
  go_wp2_with fail
  go_ret
  exact ⟨congrArg (fun x => Ending.returned (Value.int IntKind.i64 x)) (by push_cast; omega), HB1.out⟩

end Go.Proofs.Ytkkcgclliomocaa

namespace Go.Proofs.Ytkkcgclliomocaa
open Go.RowKit

structure CaseD where
  name : ByteArray
  form : FormD
  proof : List (List Int)

def RdCs (w : World) (v : Value) (d : CaseD) : Prop := ∃ v1 v2, v = .agg #[.string d.name, .int .i64 d.form.letters, v1, v2] ∧ RdFm w (.agg #[.int .i64 d.form.letters, v1]) d.form ∧ RdL w v2 d.proof ∧ d.name.size ≤ maxLen
def OwnCs (lo hi : Nat) (w : World) (v : Value) (d : CaseD) : Prop := ∃ v1 v2 l1 h1 l2 h2, v = .agg #[.string d.name, .int .i64 d.form.letters, v1, v2] ∧ OwnFm l1 h1 w (.agg #[.int .i64 d.form.letters, v1]) d.form ∧ OwnL l2 h2 w v2 d.proof ∧ d.name.size ≤ maxLen ∧
  lo ≤ l1 ∧ l1 ≤ h1 ∧ h1 ≤ l2 ∧ l2 ≤ h2 ∧ h2 ≤ hi ∧ h2 ≤ w.heap.size
def bulkCs (d : CaseD) : Nat := d.name.size + bulkFm d.form + bulkL d.proof
def cntCs (d : CaseD) : Nat := cntFm d.form + cntL d.proof

theorem RdCs.shape {w : World} {v : Value} {d : CaseD} (h : RdCs w v d) : ∃ a1 c1 a2 c2, v = .agg #[.string d.name, .int .i64 d.form.letters, .slice a1 d.form.clauses.length c1, .slice a2 d.proof.length c2] := by
  obtain ⟨v1, v2, rfl, p1, p2, y1⟩ := h
  obtain ⟨a1, c1, e1⟩ := p1.shape
  simp only [Value.agg.injEq, Array.mk.injEq, List.cons.injEq, and_true, true_and] at e1
  obtain rfl := e1
  obtain ⟨a2, c2, rfl⟩ := p2.shape
  exact ⟨_, _, _, _, rfl⟩
theorem RdCs.parts {w : World} {z1 z2 z3 z4 : Value} {d : CaseD} (h : RdCs w (.agg #[z1, z2, z3, z4]) d) : RdFm w (.agg #[z2, z3]) d.form ∧ RdL w z4 d.proof ∧ d.name.size ≤ maxLen := by
  obtain ⟨v1, v2, e, p1, p2, y1⟩ := h
  simp only [Value.agg.injEq, Array.mk.injEq, List.cons.injEq, and_true] at e
  obtain ⟨rfl, rfl, rfl, rfl⟩ := e
  exact ⟨p1, p2, y1⟩
theorem RdCs.up {w w' : World} {v : Value} {d : CaseD} {B : Nat} (h : RdCs w v d) (hb : Below B w w') (hB : w.heap.size ≤ B) : RdCs w' v d := by
  obtain ⟨v1, v2, e, p1, p2, y1⟩ := h
  exact ⟨v1, v2, e, p1.up hb hB, p2.up hb hB, y1⟩
theorem OwnCs.rd {lo hi : Nat} {w : World} {v : Value} {d : CaseD} (h : OwnCs lo hi w v d) : RdCs w v d := by
  obtain ⟨v1, v2, l1, h1, l2, h2, e, p1, p2, y1, r1, r2, r3, r4, r5, r6⟩ := h
  exact ⟨v1, v2, e, p1.rd, p2.rd, y1⟩
theorem OwnCs.up {lo hi : Nat} {w w' : World} {v : Value} {d : CaseD} {B : Nat} (h : OwnCs lo hi w v d) (hb : Below B w w') (hB : w.heap.size ≤ B) : OwnCs lo hi w' v d := by
  obtain ⟨v1, v2, l1, h1, l2, h2, e, p1, p2, y1, r1, r2, r3, r4, r5, r6⟩ := h
  exact ⟨v1, v2, l1, h1, l2, h2, e, p1.up hb hB, p2.up hb hB, y1, r1, r2, r3, r4, r5, Nat.le_trans r6 hb.size⟩
theorem OwnCs.wide {lo hi lo' hi' : Nat} {w : World} {v : Value} {d : CaseD} (h : OwnCs lo hi w v d) (a : lo' ≤ lo) (b : hi ≤ hi') : OwnCs lo' hi' w v d := by
  obtain ⟨v1, v2, l1, h1, l2, h2, e, p1, p2, y1, r1, r2, r3, r4, r5, r6⟩ := h
  exact ⟨v1, v2, l1, h1, l2, h2, e, p1, p2, y1, by omega, r2, r3, r4, by omega, r6⟩
theorem OwnCs.kept {lo hi : Nat} {w w' : World} {v : Value} {d : CaseD} {S : Nat → Prop} (h : OwnCs lo hi w v d) (hk : Kept S w w') (hs : ∀ b, lo ≤ b → b < hi → ¬ S b) : OwnCs lo hi w' v d := by
  obtain ⟨v1, v2, l1, h1, l2, h2, e, p1, p2, y1, r1, r2, r3, r4, r5, r6⟩ := h
  exact ⟨v1, v2, l1, h1, l2, h2, e, p1.kept hk (fun b a c => hs b (by omega) (by omega)), p2.kept hk (fun b a c => hs b (by omega) (by omega)), y1, r1, r2, r3, r4, r5, Nat.le_trans r6 hk.size⟩

set_option maxHeartbeats 2000000 in
set_option maxRecDepth 4000 in
theorem eqCs_same (v v' : Value) (d : CaseD) (w : World) (h : RdCs w v d) (h' : RdCs w v' d) :
    Calls Try.prog 19 #[v, v'] w fun e w' => e = .returned (.bool true) ∧ Below w.heap.size w w' := by
  obtain ⟨a1, c1, a2, c2, rfl⟩ := h.shape
  obtain ⟨b1, e1, b2, e2, rfl⟩ := h'.shape
  obtain ⟨p1, p2, ys1⟩ := h.parts
  obtain ⟨q1, q2, yt1⟩ := h'.parts
  obtain ⟨n1, x2, x3⟩ := d
  simp only at p1 p2 q1 q2 ⊢
  have P1 := Lib.hid p1
  have Q1 := Lib.hid q1
  have P2 := Lib.hid p2
  have Q2 := Lib.hid q2
  clear h h' p1 p2 q1 q2
  go_enter Try.func19, Try.ntmps19
  go_wp2_with fail
  refine Calls.at fun W hW => ?_
  have HB := Lib.hid (show Below w.heap.size w W by subst hW; (repeat' first | exact Below.refl _ _ | assumption | refine Below.alloc ?_ ?_ _ | refine Below.setCell ?_ ?_ _ | refine Below.drew ?_ | (simp; done) | (simp; omega)))
  have HK := Lib.hid (show Blk W w.heap.size 33 #[.string n1, .int .i64 x2.letters, .slice a1 x2.clauses.length c1, .slice a2 x3.length c2] by subst hW; exact (Blk.new _ _ _).alloc _)
  have HL := Lib.hid (show Blk W (w.heap.size + 1) 33 #[.string n1, .int .i64 x2.letters, .slice b1 x2.clauses.length e1, .slice b2 x3.length e2] by subst hW; simpa using Blk.new (w.alloc (.cells #[.string n1, .int .i64 x2.letters, .slice a1 x2.clauses.length c1, .slice a2 x3.length c2] 33)) 33 #[.string n1, .int .i64 x2.letters, .slice b1 x2.clauses.length e1, .slice b2 x3.length e2])
  clear hW
  refine (eqFm_same _ _ x2 W (P1.out.up HB.out (Nat.le_refl _)) (Q1.out.up HB.out (Nat.le_refl _))).mono ?_
  rintro e w1 ⟨rfl, hb1⟩
  have HB1 := Lib.hid (HB.out.trans (hb1.mono HB.out.size))
  have HK1 := Lib.hid (HK.out.below hb1 HK.out.lt)
  have HL1 := Lib.hid (HL.out.below hb1 HL.out.lt)
  clear hb1
  have d2_0 : w1.cell? ⟨w.heap.size, 3, none⟩ = some (.slice a2 x3.length c2) := HK1.out.cell 3 rfl
  have g2_0 : w1.cell? ⟨w.heap.size + 1, 3, none⟩ = some (.slice b2 x3.length e2) := HL1.out.cell 3 rfl
  go_wp2_with fail
  refine (eqL_same _ _ x3 w1 (P2.out.up HB1.out (Nat.le_refl _)) (Q2.out.up HB1.out (Nat.le_refl _))).mono ?_
  rintro e w2 ⟨rfl, hb2⟩
  have HB2 := Lib.hid (HB1.out.trans (hb2.mono HB1.out.size))
  clear hb2
  go_wp2_with fail
  go_ret
  exact ⟨rfl, HB2.out⟩

def mkdCs (k : Int) (d : CaseD) : CaseD := ⟨d.name, mkdFm k d.form, mkdL (k + cntFm d.form) d.proof⟩

set_option maxHeartbeats 2000000 in
set_option maxRecDepth 4000 in
theorem markCs_o (v : Value) (lo hi : Nat) (d : CaseD) (k : Int) (w : World) (ho : OwnCs lo hi w v d) (h0 : 0 ≤ k) (h1 : k + cntCs d ≤ 1099511627776) :
    Calls Try.prog 20 #[v, .int .i64 k] w fun e w' => e = .returned (.int .i64 (k + cntCs d)) ∧ OwnCs lo hi w' v (mkdCs k d) ∧ Kept (fun b => lo ≤ b ∧ b < hi) w w' := by
  obtain ⟨a1, c1, a2, c2, hv⟩ := ho.rd.shape
  obtain ⟨v1, v2, l1, h1', l2, h2, e, o1, o2, y1, r1, r2, r3, r4, r5, r6⟩ := ho
  rw [e] at hv
  simp only [Value.agg.injEq, Array.mk.injEq, List.cons.injEq, and_true, true_and] at hv
  obtain ⟨rfl, rfl⟩ := hv
  subst e
  obtain ⟨n1, x2, x3⟩ := d
  unfold cntCs mkdCs at *
  simp only at o1 o2 h1 ⊢
  obtain ⟨C1, hC1⟩ : ∃ C, C = cntFm x2 := ⟨_, rfl⟩
  obtain ⟨C2, hC2⟩ : ∃ C, C = cntL x3 := ⟨_, rfl⟩
  try rw [← hC1] at h1
  try rw [← hC1]
  have HC1 := Lib.hid hC1
  try rw [← hC2] at h1
  try rw [← hC2]
  have HC2 := Lib.hid hC2
  have b1 : k + C1 ≤ 1099511627776 := by omega
  have b2 : k + C1 + C2 ≤ 1099511627776 := by omega
  have O1 := Lib.hid o1
  have O2 := Lib.hid o2
  clear o1 o2 h1 hC1 hC2
  go_enter Try.func20, Try.ntmps20
  go_wp2_with fail
  refine Calls.at fun W hW => ?_
  have HB := Lib.hid (show Below w.heap.size w W by subst hW; (repeat' first | exact Below.refl _ _ | assumption | refine Below.alloc ?_ ?_ _ | refine Below.setCell ?_ ?_ _ | refine Below.drew ?_ | (simp; done) | (simp; omega)))
  have HK := Lib.hid (show Blk W w.heap.size 33 #[.string n1, .int .i64 x2.letters, .slice a1 x2.clauses.length c1, .slice a2 x3.length c2] by subst hW; exact Blk.new _ _ _)
  clear hW
  have A1 := Lib.hid (O1.out.up HB.out (Nat.le_refl _))
  have A2 := Lib.hid (O2.out.up HB.out (Nat.le_refl _))
  have hzW := HB.out.size
  have hKl := HK.out.lt
  refine (markFm_o _ l1 h1' x2 (k) W A1.out (by omega) (by rw [← HC1.out]; exact b1)).mono ?_
  rintro e w1 ⟨rfl, m1, k1⟩
  rw [← HC1.out]
  have HK1 := Lib.hid (HK.out.kept k1 (by omega))
  have M1 := Lib.hid m1
  replace A2 := Lib.hid (A2.out.kept k1 (by intro b q1 q2 q3; omega))
  have KK1 := Lib.hid ((Kept.of_below HB.out (Nat.le_refl _)).trans (k1.mono (S' := fun b => lo ≤ b ∧ b < hi) (by intro b _ q; omega)))
  clear m1 k1
  have d2_0 : w1.cell? ⟨w.heap.size, 3, none⟩ = some (.slice a2 x3.length c2) := HK1.out.cell 3 rfl
  go_wp2_with fail
  refine (markL_o _ l2 h2 x3 (k + C1) w1 A2.out (by omega) (by rw [← HC2.out]; exact b2)).mono ?_
  rintro e w2 ⟨rfl, m2, k2⟩
  rw [← HC2.out]
  have HK2 := Lib.hid (HK1.out.kept k2 (by omega))
  replace M1 := Lib.hid (M1.out.kept k2 (by intro b q1 q2 q3; omega))
  have M2 := Lib.hid m2
  have KK2 := Lib.hid (KK1.out.trans (k2.mono (S' := fun b => lo ≤ b ∧ b < hi) (by intro b _ q; omega)))
  clear m2 k2 d2_0
  go_wp2_with fail
  go_ret
  refine ⟨congrArg (fun x => Ending.returned (Value.int IntKind.i64 x)) (by have := HC2.out; push_cast; omega), ?_, KK2.out⟩
  have hz := KK2.out.size
  exact ⟨_, _, l1, h1', l2, h2, rfl, M1.out, M2.out, y1, r1, r2, r3, r4, r5, by omega⟩

set_option maxHeartbeats 2000000 in
set_option maxRecDepth 4000 in
theorem heldCs_o (v : Value) (d : CaseD) (k : Int) (w : World) (h : RdCs w v (mkdCs k d)) (h0 : 0 ≤ k) (h1 : k + cntCs d ≤ 1099511627776) :
    Calls Try.prog 21 #[v, .int .i64 k] w fun e w' => e = .returned (.int .i64 (k + cntCs d)) ∧ Below w.heap.size w w' := by
  obtain ⟨a1, c1, a2, c2, rfl⟩ := h.shape
  obtain ⟨p1, p2, ys1⟩ := h.parts
  obtain ⟨n1, x2, x3⟩ := d
  unfold cntCs mkdCs at *
  simp only at p1 p2 h1 ⊢
  obtain ⟨C1, hC1⟩ : ∃ C, C = cntFm x2 := ⟨_, rfl⟩
  obtain ⟨C2, hC2⟩ : ∃ C, C = cntL x3 := ⟨_, rfl⟩
  rw [← hC1] at h1 ⊢
  rw [← hC1] at p2
  have HC1 := Lib.hid hC1
  rw [← hC2] at h1 ⊢
  have HC2 := Lib.hid hC2
  have b1 : k + C1 ≤ 1099511627776 := by omega
  have b2 : k + C1 + C2 ≤ 1099511627776 := by omega
  have P1 := Lib.hid p1
  obtain ⟨g1_0, hg1_0⟩ : ∃ x, x = (mkdFm (k) x2).letters := ⟨_, rfl⟩
  obtain ⟨g1_1, hg1_1⟩ : ∃ x, x = (mkdFm (k) x2).clauses.length := ⟨_, rfl⟩
  have P2 := Lib.hid p2
  obtain ⟨g2_0, hg2_0⟩ : ∃ x, x = (mkdL (k + C1) x3).length := ⟨_, rfl⟩
  clear h p1 p2 h1 hC1 hC2
  rw [← hg1_0] at P1 ⊢
  rw [← hg1_1] at P1 ⊢
  rw [← hg2_0] at P2 ⊢
  clear hg1_0 hg1_1 hg2_0
  go_enter Try.func21, Try.ntmps21
  go_wp2_with fail
  refine Calls.at fun W hW => ?_
  have HB := Lib.hid (show Below w.heap.size w W by subst hW; (repeat' first | exact Below.refl _ _ | assumption | refine Below.alloc ?_ ?_ _ | refine Below.setCell ?_ ?_ _ | refine Below.drew ?_ | (simp; done) | (simp; omega)))
  have HK := Lib.hid (show Blk W w.heap.size 33 #[.string n1, .int .i64 g1_0, .slice a1 g1_1 c1, .slice a2 g2_0 c2] by subst hW; exact Blk.new _ _ _)
  clear hW
  refine (heldFm_o _ x2 (k) W (P1.out.up HB.out (Nat.le_refl _)) (by omega) (by rw [← HC1.out]; exact b1)).mono ?_
  rintro e w1 ⟨rfl, hb1⟩
  rw [← HC1.out]
  have HB1 := Lib.hid (HB.out.trans (hb1.mono HB.out.size))
  have HK1 := Lib.hid (HK.out.below hb1 HK.out.lt)
  clear hb1
  have d2_0 : w1.cell? ⟨w.heap.size, 3, none⟩ = some (.slice a2 g2_0 c2) := HK1.out.cell 3 rfl
  have e1 : ¬ (k + (C1 : Int) < 0) := by omega
  go_wp2_with fail
  refine (heldL_o _ x3 (k + C1) w1 (P2.out.up HB1.out (Nat.le_refl _)) (by omega) (by rw [← HC2.out]; exact b2)).mono ?_
  rintro e w2 ⟨rfl, hb2⟩
  rw [← HC2.out]
  have HB2 := Lib.hid (HB1.out.trans (hb2.mono HB1.out.size))
  clear hb2
  have e2 : ¬ (k + (C1 : Int) + (C2 : Int) < 0) := by omega
  go_wp2_with fail
  go_ret
  exact ⟨congrArg (fun x => Ending.returned (Value.int IntKind.i64 x)) (by push_cast; omega), HB2.out⟩

end Go.Proofs.Ytkkcgclliomocaa

namespace Go.Proofs.Ytkkcgclliomocaa
open Go.RowKit

theorem flat_len {α : Type} (f : α → List Value) (c : Nat) (hf : ∀ a, (f a).length = c) : ∀ (l : List α), (l.flatMap f).length = l.length * c
  | [] => by simp
  | a :: r => by
    have ih := flat_len f c hf r
    simp only [List.flatMap_cons, List.length_append, List.length_cons, hf a, ih]
    rw [Nat.add_mul]; omega

theorem flat_at {α : Type} (f : α → List Value) (c : Nat) (hf : ∀ a, (f a).length = c) : ∀ (l : List α) (i d : Nat) (a : α), l[i]? = some a → d < c → (l.flatMap f)[i * c + d]? = (f a)[d]?
  | [], i, d, a, h, _ => by simp at h
  | b :: r, 0, d, a, h, hd => by
    simp only [List.getElem?_cons_zero, Option.some.injEq] at h
    subst h
    simp only [List.flatMap_cons, Nat.zero_mul, Nat.zero_add]
    rw [List.getElem?_append_left (by rw [hf b]; exact hd)]
  | b :: r, i + 1, d, a, h, hd => by
    have ih := flat_at f c hf r i d a (by simpa using h) hd
    simp only [List.flatMap_cons]
    rw [List.getElem?_append_right (by rw [hf b, Nat.add_mul]; omega), ← ih]
    congr 1
    rw [hf b, Nat.add_mul]; omega

/-- Cells written one behind another. -/
def putAt : List Value → Nat → List Value → List Value
  | L, _, [] => L
  | L, b, u :: us => putAt (L.set b u) (b + 1) us

theorem putAt_append : ∀ (us A B : List Value) (b : Nat), A.length ≤ b → putAt (A ++ B) b us = A ++ putAt B (b - A.length) us
  | [], A, B, b, _ => rfl
  | u :: us, A, B, b, h => by
    simp only [putAt]
    rw [List.set_append_right _ _ h, putAt_append us A _ (b + 1) (by omega), show b + 1 - A.length = b - A.length + 1 by omega]
theorem putAt_whole : ∀ (us A B : List Value), A.length = us.length → putAt (A ++ B) 0 us = us ++ B
  | [], A, B, h => by
    have : A = [] := List.length_eq_zero_iff.1 (by simpa using h)
    subst this; rfl
  | u :: us, [], B, h => by simp at h
  | u :: us, x :: A, B, h => by
    simp only [putAt, List.cons_append, List.set_cons_zero]
    have := putAt_append us [u] (A ++ B) 1 (by simp)
    simp only [List.cons_append, List.nil_append, List.length_cons, List.length_nil] at this
    rw [this]
    simp only [Nat.sub_self]
    rw [putAt_whole us A B (by simpa using h)]

theorem flat_put {α : Type} (f : α → List Value) (c : Nat) (hf : ∀ a, (f a).length = c) : ∀ (l : List α) (i : Nat) (a : α), i < l.length → putAt (l.flatMap f) (i * c) (f a) = (l.set i a).flatMap f
  | [], i, a, h => by simp at h
  | b :: r, 0, a, _ => by
    simp only [List.flatMap_cons, Nat.zero_mul, List.set_cons_zero]
    exact putAt_whole _ _ _ (by rw [hf, hf])
  | b :: r, i + 1, a, h => by
    have ih := flat_put f c hf r i a (by simpa using h)
    simp only [List.flatMap_cons, List.set_cons_succ]
    rw [putAt_append _ _ _ _ (by rw [hf, Nat.add_mul]; omega), ← ih]
    congr 2
    rw [hf, Nat.add_mul]; omega

theorem made_rows (zs : List Value) (n : Nat) (h : zs ≠ []) : (madeCells zs.toArray (n * zs.length)).toList = (List.replicate n zs).flatten := by
  have hp : 0 < zs.length := List.length_pos_iff.2 h
  induction n with
  | zero => simp [madeCells]
  | succ n ih =>
    rw [List.replicate_succ, List.flatten_cons, ← ih]
    apply List.ext_getElem?
    intro j
    by_cases hj : j < zs.length
    · have hj2 : j < (n + 1) * zs.length := by rw [Nat.add_mul]; omega
      rw [List.getElem?_append_left hj]
      simp [madeCells, hj2, Nat.mod_eq_of_lt hj, hj]
    · rw [List.getElem?_append_right (by omega)]
      by_cases hj2 : j < (n + 1) * zs.length
      · have hj3 : j - zs.length < n * zs.length := by rw [Nat.add_mul] at hj2; omega
        have hm : (j - zs.length) % zs.length = j % zs.length := by
          rw [Nat.mod_eq_sub_mod (a := j) (by omega)]
        simp [madeCells, hj2, hj3, hm]
      · have hj3 : ¬ j - zs.length < n * zs.length := by rw [Nat.add_mul] at hj2; omega
        simp [madeCells, hj2, hj3]

theorem flat_made {α : Type} (f : α → List Value) (z : α) (n : Nat) (h : f z ≠ []) : (madeCells (f z).toArray (n * (f z).length)).toList = (List.replicate n z).flatMap f := by
  rw [made_rows _ _ h, List.flatMap_def, List.map_replicate]

end Go.Proofs.Ytkkcgclliomocaa

namespace Go.Proofs.Ytkkcgclliomocaa
open Go.RowKit

structure JobD where
  long : Int
  due : Int
  weight : Int
  ready : Int
def J0 : JobD := ⟨0, 0, 0, 0⟩
def jobCells (j : JobD) : List Value := [I64 j.long, I64 j.due, I64 j.weight, I64 j.ready]
def jobsC (js : List JobD) : List Value := js.flatMap jobCells
theorem jobsC_len (js : List JobD) : (jobsC js).length = js.length * 4 := by
  induction js with
  | nil => rfl
  | cons j r ih => simp only [jobsC, List.flatMap_cons, List.length_append, List.length_cons, jobCells] at ih ⊢; simp at ih ⊢; omega
theorem jobsC_at : ∀ (js : List JobD) (i c : Nat), i < js.length → c < 4 → (jobsC js)[i * 4 + c]? = (jobCells (js.getD i J0))[c]?
  | [], i, c, h, _ => by simp at h
  | j :: r, 0, c, _, hc => by
    simp only [jobsC, List.flatMap_cons, Nat.zero_mul, Nat.zero_add, List.getD_cons_zero]
    rw [List.getElem?_append_left (by simp [jobCells]; omega)]
  | j :: r, i + 1, c, h, hc => by
    have ih := jobsC_at r i c (by simpa using h) hc
    simp only [jobsC, List.flatMap_cons, List.getD_cons_succ] at ih ⊢
    rw [List.getElem?_append_right (by simp [jobCells]; omega), ← ih]
    congr 1
    simp [jobCells]; omega

/-- The slice reads as these jobs. -/
def RdJ (w : World) (v : Value) (js : List JobD) : Prop :=
  (∃ a cap, v = .slice a 0 cap ∧ cap ≤ maxLen ∧ js = []) ∨ ∃ b off cap, v = .slice (some ⟨b, off, none⟩) js.length cap ∧ js.length ≤ cap ∧ cap ≤ maxLen ∧ ∀ i, i < js.length → ∀ c u, (jobCells (js.getD i J0))[c]? = some u → w.cell? ⟨b, off + i * 4 + c, none⟩ = some u
def OwnJ (lo hi : Nat) (w : World) (v : Value) (js : List JobD) : Prop := w.ownsRow lo 113 4 v js.length (jobsC js) ∧ ∀ g, v.ownBlock = some g → g < hi
def bulkJ (js : List JobD) : Nat := js.length
def cntJ (js : List JobD) : Nat := js.length * 4

theorem RdJ.shape {w : World} {v : Value} {js : List JobD} (h : RdJ w v js) : ∃ a c, v = .slice a js.length c := by
  rcases h with ⟨a, cap, rfl, _, rfl⟩ | ⟨b, off, cap, rfl, _⟩
  · exact ⟨a, cap, rfl⟩
  · exact ⟨_, cap, rfl⟩
theorem RdJ.len {w : World} {v : Value} {js : List JobD} (h : RdJ w v js) : js.length ≤ maxLen := by
  rcases h with ⟨a, cap, rfl, _, rfl⟩ | ⟨b, off, cap, rfl, h1, h2, _⟩
  · simp [maxLen]
  · omega
theorem RdJ.at {w : World} {a : Option Addr} {n c : Nat} {js : List JobD} (h : RdJ w (.slice a n c) js) {i : Nat} (hi : i < js.length) :
    ∃ b off, a = some ⟨b, off, none⟩ ∧ b < w.heap.size ∧ w.cell? ⟨b, off + i * 4, none⟩ = some (.int .i64 (js.getD i J0).long) ∧ w.cell? ⟨b, off + i * 4 + 1, none⟩ = some (.int .i64 (js.getD i J0).due) ∧ w.cell? ⟨b, off + i * 4 + 2, none⟩ = some (.int .i64 (js.getD i J0).weight) ∧ w.cell? ⟨b, off + i * 4 + 3, none⟩ = some (.int .i64 (js.getD i J0).ready) := by
  rcases h with ⟨_, _, _, _, rfl⟩ | ⟨b, off, cap, e, _, _, hc⟩
  · simp at hi
  · simp only [Value.slice.injEq] at e
    obtain ⟨rfl, rfl, rfl⟩ := e
    have h0 := hc i hi 0 _ rfl
    exact ⟨b, off, rfl, cell_lt h0, h0, hc i hi 1 _ rfl, hc i hi 2 _ rfl, hc i hi 3 _ rfl⟩
theorem RdJ.up {w w' : World} {v : Value} {js : List JobD} {B : Nat} (h : RdJ w v js) (hb : Below B w w') (hB : w.heap.size ≤ B) : RdJ w' v js := by
  rcases h with h | ⟨b, off, cap, e, h1, h2, hc⟩
  · exact .inl h
  · exact .inr ⟨b, off, cap, e, h1, h2, fun i hi c u hu => held_of hb (hc i hi c u hu) hB⟩

theorem ownsK_below {w w' : World} {base B size : Nat} {e : TypeId} {v : Value} {n : Nat} {vs : List Value} (h : w.ownsRow base e size v n vs) (hb : Below B w w') (hB : w.heap.size ≤ B) : w'.ownsRow base e size v n vs := by
  refine ⟨h.1, ?_⟩
  rcases h.2 with h2 | ⟨g, cap, cur, hv, h3, hg, r⟩
  · exact .inl h2
  · exact .inr ⟨g, cap, cur, hv, h3, by rw [hb.block g (by have := lt_of_block hg; omega)]; exact hg, r⟩
theorem ownsK_base {w : World} {base base' size : Nat} {e : TypeId} {v : Value} {n : Nat} {vs : List Value} (h : w.ownsRow base e size v n vs) (hb : base' ≤ base) : w.ownsRow base' e size v n vs := by
  refine ⟨h.1, ?_⟩
  rcases h.2 with h2 | ⟨g, cap, cur, hv, h3, hg, r⟩
  · exact .inl h2
  · exact .inr ⟨g, cap, cur, hv, by omega, hg, r⟩
theorem ownsK_kept {S : Nat → Prop} {w w' : World} {base size : Nat} {e : TypeId} {v : Value} {n : Nat} {vs : List Value} (h : w.ownsRow base e size v n vs) (hk : Kept S w w') (hs : ∀ g, v.ownBlock = some g → ¬ S g) : w'.ownsRow base e size v n vs := by
  refine ⟨h.1, ?_⟩
  rcases h.2 with h2 | ⟨g, cap, cur, hv, h3, hg, r⟩
  · exact .inl h2
  · exact .inr ⟨g, cap, cur, hv, h3, by rw [hk.block g (lt_of_block hg) (hs g (by rw [hv]; rfl))]; exact hg, r⟩

theorem OwnJ.rd {lo hi : Nat} {w : World} {v : Value} {js : List JobD} (h : OwnJ lo hi w v js) : RdJ w v js := by
  rcases h.1.2 with ⟨rfl, e⟩ | ⟨g, cap, cur, rfl, hb, hg, hn, hm, hs, ht⟩
  · left; exact ⟨none, 0, rfl, by simp [maxLen], List.length_eq_zero_iff.1 e⟩
  · right
    refine ⟨g, 0, cap, rfl, hn, hm, fun i hi c u hu => ?_⟩
    have hc : c < 4 := by
      have := (List.getElem?_eq_some_iff.1 hu).1
      simpa [jobCells] using this
    have h1 := h.1.cellAt (i * 4 + c) (by omega)
    rw [jobsC_at js i c hi hc, hu] at h1
    simpa [Nat.add_assoc] using h1
theorem OwnJ.up {lo hi : Nat} {w w' : World} {v : Value} {js : List JobD} {B : Nat} (h : OwnJ lo hi w v js) (hb : Below B w w') (hB : w.heap.size ≤ B) : OwnJ lo hi w' v js := ⟨ownsK_below h.1 hb hB, h.2⟩
theorem OwnJ.wide {lo hi lo' hi' : Nat} {w : World} {v : Value} {js : List JobD} (h : OwnJ lo hi w v js) (h1 : lo' ≤ lo) (h2 : hi ≤ hi') : OwnJ lo' hi' w v js := ⟨ownsK_base h.1 h1, fun g hg => Nat.lt_of_lt_of_le (h.2 g hg) h2⟩
theorem OwnJ.kept {lo hi : Nat} {w w' : World} {v : Value} {js : List JobD} {S : Nat → Prop} (h : OwnJ lo hi w v js) (hk : Kept S w w') (hs : ∀ b, lo ≤ b → b < hi → ¬ S b) : OwnJ lo hi w' v js :=
  ⟨ownsK_kept h.1 hk fun g hg => hs g (h.1.lt g hg).1 (h.2 g hg), h.2⟩
theorem OwnJ.mk {lo : Nat} {w : World} {v : Value} {js : List JobD} (h : w.ownsRow lo 113 4 v js.length (jobsC js)) : OwnJ lo w.heap.size w v js := ⟨h, fun g hg => (h.lt g hg).2⟩

end Go.Proofs.Ytkkcgclliomocaa
