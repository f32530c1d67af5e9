/-
  FnExactStoreCases: texts joined: Concat, Bytes, Str, ClauseM, Reg, Clause, CaseV.
-/
import Derived.Lib.AppendZeros
import Derived.ProofKit
import Derived.OpenShut
import Derived.Deep.RegionHeld3
import Derived.Test.YtljhohacgceojaaMEStoreCasesAA
import Derived.Test.YtljhohacgceojaaMEStoreCasesAD
namespace Go.Proofs.Ytljhohacgceojaa
open Go.RowKit

/-- The head of what has just been made of zeros, at length 0. -/
theorem owns_head {w : World} {e : TypeId} (cs : Array Value) (cap : Nat) (hc : cs.size = cap) (hm : cap ≤ maxLen) : (w.drew.alloc (.cells cs e)).ownsRow w.heap.size e 1 (.slice (some ⟨w.heap.size, 0, none⟩) 0 cap) 0 [] := by
  refine ⟨rfl, .inr ⟨w.heap.size, cap, cs, rfl, Nat.le_refl _, ?_, Nat.zero_le _, hm, by simpa using hc, by simp⟩⟩
  simpa using heap_alloc_new w.drew (.cells cs e)

set_option maxHeartbeats 1000000 in
set_option maxRecDepth 4000 in
theorem growLL_nil (n : Nat) (w : World) (hn : n ≤ 2097152) :
    Calls Try.prog 130 #[.slice none 0 0, .int .i64 n] w fun e w' => ∃ a cap, e = .returned (.slice a 0 cap) ∧ w'.ownsRow w.heap.size 60 1 (.slice a 0 cap) 0 [] ∧ Below w.heap.size w w' := by
  obtain ⟨i0, hi, hz0, hz1, hz2⟩ := info_parts Try.infoInts
  go_enter Try.func130, Try.ntmps130
  by_cases h0 : 0 < n
  · have HR := Lib.hid (show ∃ (w1 : World) (cap : Nat), (Builtin.append_ #[28, 3] 28 #[.slice none 0 0, .int .i64 n]).run Try.prog w = .ok (.slice (some ⟨w.heap.size, 0, none⟩) n cap) w1 ∧ n ≤ cap ∧ cap ≤ maxLen ∧ w1.ownsRow w.heap.size 60 1 (.slice (some ⟨w.heap.size, 0, none⟩) 0 cap) 0 [] ∧ Below w.heap.size w w1 from by
      refine ⟨_, _, Lib.run_append_nil_zeros (P := Try.prog) w 28 3 28 60 i0 (.slice none 0 0) .i64 .i64 Try.underlying28 Try.underlying3 hi hz0 n h0 (by omega) (by omega) (by rw [hz2]; omega), grownCap_ge _ _ _ _, grownCap_le_maxLen _ _ _ _ (by unfold maxLen; omega), owns_head _ _ ?_ (grownCap_le_maxLen _ _ _ _ (by unfold maxLen; omega)), ?_⟩
      · have := grownCap_ge w n 0 60
        simp [Builtin.zeroCells, Value.cells]; omega
      · exact (Below.refl _ _).drew.alloc (by simp) _)
    obtain ⟨w1, cap, hr, hn1, hn2, hown, hb⟩ := HR.out
    have HR1 := Lib.hid hr
    clear hr HR
    simp only [maxLen] at hn2
    go_wp2_with (at_builtin; refine Lib.wpList_append_run w rfl _ _ 28 3 rfl _ _ rfl rfl _ _ HR1.out ?_)
    go_ret
    exact ⟨_, _, rfl, hown, hb⟩
  · obtain rfl : n = 0 := by omega
    go_wp2_with fail
    go_ret
    exact ⟨none, 0, rfl, World.ownsRow_nil _ _ _ _, Below.refl _ _⟩

def upTo2 {α : Type} (a b : List α) : Nat → List α
  | 0 => []
  | 1 => a
  | _ => a ++ b

set_option maxHeartbeats 2000000 in
set_option maxRecDepth 4000 in
theorem concatLL_any (b : Nat) (a1 : Option Addr) (c1 n1 : Nat) (a2 : Option Addr) (c2 n2 : Nat) (vs1 vs2 : List Value) (w : World) (s1 : Slc w (.slice a1 n1 c1) vs1) (s2 : Slc w (.slice a2 n2 c2) vs2)
    (o1 : ∀ u ∈ vs1, u.oneCell' = true) (o2 : ∀ u ∈ vs2, u.oneCell' = true) (l1 : vs1.length = n1) (l2 : vs2.length = n2)
    (k1 : w.cell? ⟨b, 0, none⟩ = some (.slice a1 n1 c1)) (k2 : w.cell? ⟨b, 1, none⟩ = some (.slice a2 n2 c2)) (hn : n1 + n2 ≤ 1048576) :
    Calls Try.prog 105 #[.slice (some ⟨b, 0, none⟩) 2 2] w fun e w' => ∃ a cap, e = .returned (.slice a (n1 + n2) cap) ∧ w'.ownsRow w.heap.size 60 1 (.slice a (n1 + n2) cap) (n1 + n2) (vs1 ++ vs2) ∧ Below w.heap.size w w' := by
  obtain ⟨i0, hi, hz0, hz1, hz2⟩ := info_parts Try.infoInts
  have S1 := Lib.hid s1
  have S2 := Lib.hid s2
  have O1 := Lib.hid o1
  have O2 := Lib.hid o2
  have K1 := Lib.hid k1
  have K2 := Lib.hid k2
  have N1 := Lib.hid l1
  have N2 := Lib.hid l2
  clear s1 s2 o1 o2 l1 l2
  go_enter Try.func105, Try.ntmps105
  go_wp2_with fail
  go_loop [3, 11] (fun s i => ∃ k m : Nat, i = .int .i64 k ∧ k ≤ 2 ∧ s = .int .i64 m ∧ m ≤ 1048576 ∧ Hid (m = (upTo2 vs1 vs2 k).length)) (fun _ i => 2 - (intOf i).toNat)
  case atStart => exact ⟨0, 0, rfl, Nat.zero_le _, rfl, by omega, rfl⟩
  case round =>
    obtain ⟨k, m, rfl, hk, rfl, hm, HM⟩ := hrel
    rcases (by omega : k = 0 ∨ k = 1 ∨ k = 2) with rfl | rfl | rfl
    · have hm0 : m = 0 := HM.out
      subst hm0
      go_wp2_with fail
      go_round
      case rel => exact ⟨1, n1, by go_num, by omega, by go_num, by omega, N1.out.symm⟩
      case measure => simp [intOf]
    · have hm0 : n1 = m := (HM.out.trans N1.out).symm
      subst hm0
      go_wp2_with fail
      go_round
      case rel => exact ⟨2, n1 + n2, by go_num, by omega, by go_num, by omega, by show _ = (vs1 ++ vs2).length; rw [List.length_append, N1.out, N2.out]⟩
      case measure => simp [intOf]
    · have hm0 : m = n1 + n2 := by have := HM.out; rw [this]; show (vs1 ++ vs2).length = _; rw [List.length_append, N1.out, N2.out]
      subst hm0
      go_wp2_with fail
      have e2 : ((n1 + n2 : Nat) : Int) = (n1 : Int) + n2 := by push_cast; rfl
      refine (growLL_nil (n1 + n2) w (by omega)).mono ?_
      rintro e w1 ⟨a, cap, rfl, hown, hb⟩
      have HO := Lib.hid hown
      have HB := Lib.hid hb
      clear hown hb
      go_wp2_with fail
      go_loopw [6, 27] (fun o i wr => ∃ (k : Nat) (a : Option Addr) (n cap : Nat), i = .int .i64 k ∧ k ≤ 2 ∧ o = .slice a n cap ∧ n ≤ 1048576 ∧ n = (upTo2 vs1 vs2 k).length ∧ Hid (wr.ownsRow w.heap.size 60 1 (.slice a n cap) n (upTo2 vs1 vs2 k)) ∧ Hid (Below w.heap.size w wr)) (fun _ i _ => 2 - (intOf i).toNat)
      case atStart => exact ⟨0, a, 0, cap, rfl, Nat.zero_le _, rfl, by omega, rfl, HO, HB⟩
      case round =>
        obtain ⟨k, a', n, cap', rfl, hk, rfl, hn0, hnl, HO1, HB1⟩ := hrel
        have HNL := Lib.hid hnl
        have hz := HB1.out.size
        clear hnl
        rcases (by omega : k = 0 ∨ k = 1 ∨ k = 2) with rfl | rfl | rfl
        · have q1 := held_of HB1.out K1.out (Nat.le_refl _)
          go_wp2_with (at_builtin; refine wpList_append_slc rfl _ _ 28 rfl w.heap.size 60 i0 (.slice none 0 0) 24 Try.underlying28 hi hz0 hz1 hz2 rfl _ n (upTo2 vs1 vs2 0) rfl HO1.out _ vs1 rfl (Slc.below S1.out HB1.out (Nat.le_refl _)) O1.out (by have := N1.out; have := HNL.out; simp only [upTo2, List.length_nil] at this; simp [maxLen]; omega) (by have := N1.out; have := HNL.out; simp only [upTo2, List.length_nil] at this; omega) hz ?_; intro v' w' o1 o2 o3)
          obtain ⟨a3, cap3, rfl⟩ := owns_shape o1
          have hn1 : n + vs1.length = n1 := by have := N1.out; have := HNL.out; simp only [upTo2, List.length_nil] at this; omega
          rw [hn1] at o1 ⊢
          have hbl := below_grown HO1.out hz o2
          go_wp2_with fail
          go_roundw
          case rel => exact ⟨1, a3, _, cap3, by go_num, by omega, rfl, by omega, N1.out.symm, o1, HB1.out.trans hbl⟩
          case measure => simp [intOf]
        · have q2 := held_of HB1.out K2.out (Nat.le_refl _)
          go_wp2_with (at_builtin; refine wpList_append_slc rfl _ _ 28 rfl w.heap.size 60 i0 (.slice none 0 0) 24 Try.underlying28 hi hz0 hz1 hz2 rfl _ n (upTo2 vs1 vs2 1) rfl HO1.out _ vs2 rfl (Slc.below S2.out HB1.out (Nat.le_refl _)) O2.out (by have := N2.out; simp [maxLen]; omega) (by have := N2.out; omega) hz ?_; intro v' w' o1 o2 o3)
          obtain ⟨a3, cap3, rfl⟩ := owns_shape o1
          have hn1 : n + vs2.length = n1 + n2 := by have := N1.out; have := N2.out; have := HNL.out; simp only [upTo2] at this; omega
          rw [hn1] at o1 ⊢
          have hbl := below_grown HO1.out hz o2
          go_wp2_with fail
          go_roundw
          case rel => exact ⟨2, a3, _, cap3, by go_num, by omega, rfl, by omega, by show _ = (vs1 ++ vs2).length; rw [List.length_append, N1.out, N2.out], o1, HB1.out.trans hbl⟩
          case measure => simp [intOf]
        · go_wp2_with fail
          go_ret
          have hn1 : n1 + n2 = n := by have := HNL.out; rw [this]; show _ = (vs1 ++ vs2).length; rw [List.length_append, N1.out, N2.out]
          subst hn1
          exact ⟨_, _, rfl, HO1.out, HB1.out⟩

theorem owns_beside {w w' : World} {b1 b2 e1 e2 n m : Nat} {v u : Value} {vs us : List Value} (ho : w.ownsRow b1 e1 1 v n vs) (hv : w.ownsRow b2 e2 1 u m us) (hne : e1 ≠ e2) (hg : w.grownBy w' u.ownBlock) : w'.ownsRow b1 e1 1 v n vs :=
  owns_kept (S := fun k => u.ownBlock = some k) ho ⟨hg.os, hg.tape, hg.output, hg.size, fun k hk hs => hg.block k hk fun e => hs e.symm⟩ (fun _ h1 h2 => owns_ne ho hv hne h1 h2)

end Go.Proofs.Ytljhohacgceojaa

namespace Go.Proofs.Ytljhohacgceojaa
open Go.RowKit

def B8 (x : Int) : Value := .int .u8 x
/-- The slice reads as these bytes. -/
def RdB (w : World) (v : Value) (xs : List Int) : Prop := Slc w v (xs.map B8)
def WfB (zs : List Int) : Prop := ∀ z ∈ zs, 0 ≤ z ∧ z ≤ 255

theorem RdB.shape {w : World} {v : Value} {xs : List Int} (h : RdB w v xs) : ∃ a c, v = .slice a xs.length c := by
  obtain ⟨a, c, e⟩ := Slc.shape h; exact ⟨a, c, by simpa using e⟩
theorem RdB.up {w w' : World} {v : Value} {xs : List Int} {B : Nat} (h : RdB w v xs) (hb : Below B w w') (hB : w.heap.size ≤ B) : RdB w' v xs := Slc.below h hb hB
theorem RdB.len {w : World} {v : Value} {xs : List Int} (h : RdB w v xs) : xs.length ≤ maxLen := by simpa using Slc.len h
theorem RdB.at {w : World} {a : Option Addr} {n c : Nat} {xs : List Int} (h : RdB w (.slice a n c) xs) {i : Nat} (hi : i < xs.length) :
    ∃ b off, a = some ⟨b, off, none⟩ ∧ b < w.heap.size ∧ w.cell? ⟨b, off + i, none⟩ = some (.int .u8 (xs.getD i 0)) := by
  exact Slc.at h (i := i) (u := .int .u8 (xs.getD i 0)) (by simp [B8, hi])
theorem WfB.at {xs : List Int} (h : WfB xs) {i : Nat} (hi : i < xs.length) : 0 ≤ xs.getD i 0 ∧ xs.getD i 0 ≤ 255 := by
  have e : xs.getD i 0 = xs[i] := by simp [hi]
  rw [e]; exact h _ (List.getElem_mem hi)

def isLong (a b : List Int) : Bool := decide (1048576 < (a.length : Int)) || decide (1048576 < (b.length : Int))

set_option maxHeartbeats 400000 in
theorem b10Long_any (v v' : Value) (xs ys : List Int) (w : World) (h : RdB w v xs) (h' : RdB w v' ys) :
    Calls Try.prog 22 #[v, v'] w fun e w' => e = .returned (.bool (isLong xs ys)) ∧ w = w' := by
  obtain ⟨a, c, rfl⟩ := h.shape
  obtain ⟨a', c', rfl⟩ := h'.shape
  clear h h'
  by_cases h1 : 1048576 < (xs.length : Int)
  · go_enter Try.func22, Try.ntmps22
    go_wp2_with fail
    go_ret
    exact ⟨by simp [isLong, h1], rfl⟩
  · go_enter Try.func22, Try.ntmps22
    go_wp2_with fail
    go_ret
    exact ⟨by congr 2; simp [isLong, h1]; omega, rfl⟩

/-- A number that is chosen. -/
def PickE (n : Int) (w : World) (e : Ending) (w' : World) : Prop := ∃ r : Int, 0 ≤ r ∧ r < n ∧ e = .returned (.int .i64 r) ∧ w = w'

set_option maxHeartbeats 400000 in
theorem b10At_any (v : Value) (xs : List Int) (i n : Int) (w : World) (h : RdB w v xs) (hw : WfB xs) (h0 : 0 ≤ i) (h1 : i ≤ 1000000) (n1 : 1 ≤ n) (n2 : n ≤ 1000) :
    Calls Try.prog 28 #[v, .int .i64 i, .int .i64 n] w (PickE n w) := by
  obtain ⟨a, c, rfl⟩ := h.shape
  by_cases hn : n ≤ 1
  · clear h
    go_enter Try.func28, Try.ntmps28
    go_wp2_with fail
    go_ret
    exact ⟨0, by omega, by omega, rfl, rfl⟩
  · by_cases hl : i < (xs.length : Int)
    · obtain ⟨k, rfl⟩ := Int.eq_ofNat_of_zero_le h0
      have hk : k < xs.length := by omega
      obtain ⟨b, off, rfl, _, hc⟩ := h.at hk
      obtain ⟨hx0, hx1⟩ := hw.at hk
      obtain ⟨x, hx⟩ : ∃ x, x = xs.getD k 0 := ⟨_, rfl⟩
      rw [← hx] at hc hx0 hx1
      have hle := h.len
      unfold maxLen at hle
      clear hx h hw
      go_enter Try.func28, Try.ntmps28
      go_wp2_with fail
      go_ret
      exact ⟨x % n, Int.emod_nonneg _ (by omega), Int.emod_lt_of_pos _ (by omega), rfl, rfl⟩
    · clear h
      go_enter Try.func28, Try.ntmps28
      go_wp2_with fail
      go_ret
      exact ⟨(i * 37 + 11) % n, Int.emod_nonneg _ (by omega), Int.emod_lt_of_pos _ (by omega), rfl, rfl⟩

end Go.Proofs.Ytljhohacgceojaa

namespace Go.Proofs.Ytljhohacgceojaa
open Go.RowKit

theorem str_ext {s t : ByteArray} (h : s.toList = t.toList) : s = t := by
  rw [ByteArray.toList_eq, ByteArray.toList_eq] at h
  exact ByteArray.ext (Array.ext' h)
theorem str_ne {s t : ByteArray} (h : s ≠ t) : (s.toList == t.toList) = false := by
  cases hb : s.toList == t.toList
  · rfl
  · exact absurd (str_ext (eq_of_beq hb)) h

@[go_sem] theorem binOp_string_neq_true (t : TypeId) (a b : ByteArray) (h : (a.toList == b.toList) = false) : binOp .neq t (.string a) (.string b) = pure (.bool true) := by
  rw [binOp_string_neq, h]; rfl
@[go_sem] theorem binOp_string_neq_same (t : TypeId) (a : ByteArray) : binOp .neq t (.string a) (.string a) = pure (.bool false) := by
  rw [binOp_string_neq]; simp
@[go_sem] theorem binOp_string_eql_false (t : TypeId) (a b : ByteArray) (h : (a.toList == b.toList) = false) : binOp .eql t (.string a) (.string b) = pure (.bool false) := by
  rw [binOp_string_eql, h]
@[go_sem] theorem binOp_string_eql_same (t : TypeId) (a : ByteArray) : binOp .eql t (.string a) (.string a) = pure (.bool true) := by
  rw [binOp_string_eql]; simp

def allB (m : Nat) (p : Nat → Bool) : Bool := (List.range m).all p
theorem allB_true {m : Nat} {p : Nat → Bool} (h : ∀ i, i < m → p i = true) : allB m p = true := by
  unfold allB; rw [List.all_eq_true]; intro i hi; exact h i (List.mem_range.1 hi)
theorem allB_false {m : Nat} {p : Nat → Bool} {i : Nat} (hi : i < m) (h : p i = false) : allB m p = false := by
  unfold allB
  cases hb : (List.range m).all p
  · rfl
  · rw [List.all_eq_true] at hb
    have := hb i (List.mem_range.2 hi)
    rw [h] at this; cases this
theorem allB_iff {m : Nat} {p : Nat → Bool} : allB m p = true ↔ ∀ i, i < m → p i = true := by
  unfold allB; rw [List.all_eq_true]
  exact ⟨fun h i hi => h i (List.mem_range.2 hi), fun h i hi => h i (List.mem_range.1 hi)⟩

theorem inB_iff {lo hi n : Int} : inB lo hi n = true ↔ lo ≤ n ∧ n ≤ hi := by unfold inB; simp
theorem bool_false {b : Bool} (h : ¬ b = true) : b = false := by cases b <;> simp_all

end Go.Proofs.Ytljhohacgceojaa

namespace Go.Proofs.Ytljhohacgceojaa
open Go.RowKit

/-- The byte is a small letter. -/
def smallB (c : UInt8) : Bool := decide (97 ≤ c.toNat) && decide (c.toNat ≤ 122)
def nameB (s : ByteArray) : Bool := inB 1 8 s.size && allB s.size fun i => smallB (s.data.toList.getD i 0)

def litB (n x : Int) : Bool := decide (x ≠ 0) && inB (-n) n x
def okAt (n : Int) (xs : List Int) (i : Nat) : Bool := litB n (xs.getD i 0) && (decide (i = 0) || decide ((xs.getD (i - 1) 0).natAbs < (xs.getD i 0).natAbs))
def clauseB (n : Int) (xs : List Int) : Bool := inB 1 10 n && allB xs.length (okAt n xs)
/-- What the reference looks for first: literals of different letters. -/
def litAt (n : Int) (xs : List Int) (i : Nat) : Bool := litB n (xs.getD i 0) && allB i fun j => decide ((xs.getD j 0).natAbs ≠ (xs.getD i 0).natAbs)
def litsB (n : Int) (xs : List Int) : Bool := allB xs.length (litAt n xs)
def downAt (xs : List Int) (i : Nat) : Bool := decide (i = 0) || decide ((xs.getD (i - 1) 0).natAbs ≤ (xs.getD i 0).natAbs)

theorem clause_eq (n : Int) (xs : List Int) : (litsB n xs && allB xs.length (downAt xs)) = allB xs.length (okAt n xs) := by
  rw [Bool.eq_iff_iff, Bool.and_eq_true]
  unfold litsB
  rw [allB_iff, allB_iff, allB_iff]
  constructor
  · rintro ⟨h1, h2⟩ i hi
    have a := h1 i hi
    have b := h2 i hi
    unfold litAt at a
    unfold downAt at b
    unfold okAt
    rw [Bool.and_eq_true, allB_iff] at a
    rw [Bool.and_eq_true]
    refine ⟨a.1, ?_⟩
    rcases Nat.eq_zero_or_pos i with rfl | h0
    · simp
    · have c := a.2 (i - 1) (by omega)
      have hz : ¬ i = 0 := by omega
      simp only [hz, decide_false, Bool.false_or, decide_eq_true_eq] at b c ⊢
      omega
  · intro h
    have mono : ∀ d i, i < xs.length → d ≤ i → d ≠ 0 → (xs.getD (i - d) 0).natAbs < (xs.getD i 0).natAbs := by
      intro d
      induction d with
      | zero => intro i _ _ h; exact absurd rfl h
      | succ d ih =>
        intro i hi hd _
        have a := h (i - d) (by omega)
        unfold okAt at a
        rw [Bool.and_eq_true] at a
        have hz : ¬ i - d = 0 := by omega
        have a2 := a.2
        simp only [hz, decide_false, Bool.false_or, decide_eq_true_eq] at a2
        rw [show i - d - 1 = i - (d + 1) by omega] at a2
        by_cases h0 : d = 0
        · subst h0; exact a2
        · exact Nat.lt_trans a2 (ih i hi (by omega) h0)
    refine ⟨fun i hi => ?_, fun i hi => ?_⟩
    · unfold litAt
      rw [Bool.and_eq_true, allB_iff]
      have a := h i hi
      unfold okAt at a
      rw [Bool.and_eq_true] at a
      refine ⟨a.1, fun j hj => ?_⟩
      have := mono (i - j) i hi (by omega) (by omega)
      rw [show i - (i - j) = j by omega] at this
      simp only [decide_eq_true_eq]
      omega
    · unfold downAt
      rcases Nat.eq_zero_or_pos i with rfl | h0
      · simp
      · have := mono 1 i hi (by omega) (by omega)
        rw [Bool.or_eq_true, decide_eq_true_eq, decide_eq_true_eq]
        right; omega

def formB (f : FormD) : Bool := (inB 1 10 f.letters && decide (f.clauses.length ≤ 48)) && allB f.clauses.length fun i => clauseB f.letters (f.clauses.getD i [])
def caseB (c : CaseD) : Bool := (nameB c.name && (formB c.form && decide (c.proof.length ≤ 128))) && allB c.proof.length fun i => clauseB c.form.letters (c.proof.getD i [])

theorem litB_bd {n x : Int} (hn : inB 1 10 n = true) (h : litB n x = true) : -10 ≤ x ∧ x ≤ 10 ∧ x ≠ 0 := by
  unfold litB inB at h
  unfold inB at hn
  simp only [Bool.and_eq_true, decide_eq_true_eq] at h hn
  omega

end Go.Proofs.Ytljhohacgceojaa

namespace Go.Proofs.Ytljhohacgceojaa
open Go.RowKit

theorem wp_region_cls {P : Program} {id : Nat} {Q : Exit → Act → World → Prop} {a : Act} {w : World} {l : List Oper} (C : World → Prop) (hm : P.follows .mixedOrders = true) (hB : Region.lexB .any l.toArray = true) (hC : C w.drew)
    (h : wpQuiet P l.toArray C (fun a' => ∀ w', C w' → Q .normal a' w') l a) : (Code.region id l.toArray true).wp P Q a w :=
  wp_region_quiet (C := C) hm hB hC (by simpa using h)

theorem q_step {P : Program} {ops : Array Oper} {C : World → Prop} {Q : Act → Prop} {o : Oper} {rest : List Oper} {a : Act} (hw : Region.wanted o (yielded ops a.tmps) = true)
    (h : ∃ v, (∀ X, C X → o.quietAt P a C X v) ∧ wpQuiet P ops C Q rest (a.put o.dst v)) : wpQuiet P ops C Q (o :: rest) a :=
  wpQuiet_step fun _ hK => by obtain ⟨v, h1, h2⟩ := h; rw [if_pos hw]; exact ⟨v, h1, hK _ h2⟩

end Go.Proofs.Ytljhohacgceojaa

namespace Go.Proofs.Ytljhohacgceojaa
open Go.RowKit

theorem getD_str (s : ByteArray) (k : Nat) (h : k < s.size) : s.data.toList.getD k 0 = s[k] := by
  have h' : k < s.data.toList.length := by simpa using h
  rw [List.getD_eq_getElem?_getD, List.getElem?_eq_getElem h']
  rfl

set_option maxHeartbeats 1000000 in
theorem implIsName_any (s : ByteArray) (w : World) (hs : s.size ≤ maxLen) :
    Calls Try.prog 55 #[.string s] w fun e w' => e = .returned (.bool (nameB s)) ∧ w = w' := by
  have HS := Lib.hid hs
  unfold maxLen at hs
  by_cases hn : inB 1 8 s.size = true
  · have HN := Lib.hid hn
    have hb := inB_iff.1 hn
    go_enter Try.func55, Try.ntmps55
    go_wp2_with (first
      | (go_at_call 99; refine (size_any _ _ HS.out).mono ?_; rintro e w' ⟨rfl, rfl⟩)
      | (go_at_call 98; refine (within_any _ _ _ _).mono ?_; rintro e w' ⟨rfl, rfl⟩))
    clear hn
    go_loop [3] (fun i => ∃ k : Nat, i = .int .i64 k ∧ k ≤ s.size ∧ Hid (∀ j, j < k → smallB (s.data.toList.getD j 0) = true)) (fun i => s.size - (intOf i).toNat)
    case atStart => exact ⟨0, rfl, Nat.zero_le _, fun j hj => by omega⟩
    case round =>
      obtain ⟨k, rfl, hk, hall⟩ := hrel
      by_cases hlt : k < s.size
      · have HG := Lib.hid (getD_str s k hlt)
        by_cases h1 : 97 ≤ s[k].toNat
        · by_cases h2 : s[k].toNat ≤ 122
          · go_wp2
            go_round
            case rel =>
              refine ⟨k + 1, by go_num, by omega, fun j hj => ?_⟩
              by_cases hjk : j < k
              · exact hall.out j hjk
              · obtain rfl : j = k := by omega
                rw [HG.out]; unfold smallB; simp [h1, h2]
            case measure => simp [intOf]; omega
          · go_wp2
            go_ret
            refine ⟨?_, rfl⟩
            rw [show nameB s = false by unfold nameB; rw [allB_false hlt (by rw [HG.out]; unfold smallB; simp; omega), Bool.and_false]]; rfl
        · go_wp2
          go_ret
          refine ⟨?_, rfl⟩
          rw [show nameB s = false by unfold nameB; rw [allB_false hlt (by rw [HG.out]; unfold smallB; simp; omega), Bool.and_false]]; rfl
      · obtain rfl : k = s.size := by omega
        go_wp2
        go_ret
        refine ⟨?_, rfl⟩
        rw [show nameB s = true by unfold nameB; rw [HN.out, Bool.true_and]; exact allB_true hall.out]; rfl
  · have hn' := bool_false hn
    clear hn
    go_enter Try.func55, Try.ntmps55
    go_wp2_with (first
      | (go_at_call 99; refine (size_any _ _ HS.out).mono ?_; rintro e w' ⟨rfl, rfl⟩)
      | (go_at_call 98; refine (within_any _ _ _ _).mono ?_; rintro e w' ⟨rfl, rfl⟩))
    go_ret
    refine ⟨?_, rfl⟩
    rw [show nameB s = false by unfold nameB; rw [hn', Bool.false_and]]; rfl

set_option maxHeartbeats 1000000 in
theorem specIsName_any (s : ByteArray) (w : World) (hs : s.size ≤ maxLen) :
    Calls Try.prog 95 #[.string s] w fun e w' => e = .returned (.bool (nameB s)) ∧ w = w' := by
  unfold maxLen at hs
  go_enter Try.func95, Try.ntmps95
  go_wp2
  go_loop [3] (fun i => ∃ k : Nat, i = .int .i64 k ∧ k ≤ s.size ∧ Hid (∀ j, j < k → smallB (s.data.toList.getD j 0) = true)) (fun i => s.size - (intOf i).toNat)
  case atStart => exact ⟨0, rfl, Nat.zero_le _, fun j hj => by omega⟩
  case round =>
    obtain ⟨k, rfl, hk, hall⟩ := hrel
    by_cases hlt : k < s.size
    · have HG := Lib.hid (getD_str s k hlt)
      by_cases h1 : 97 ≤ s[k].toNat
      · by_cases h2 : s[k].toNat ≤ 122
        · go_wp2
          go_round
          case rel =>
            refine ⟨k + 1, by go_num, by omega, fun j hj => ?_⟩
            by_cases hjk : j < k
            · exact hall.out j hjk
            · obtain rfl : j = k := by omega
              rw [HG.out]; unfold smallB; simp [h1, h2]
          case measure => simp [intOf]; omega
        · go_wp2
          go_ret
          refine ⟨?_, rfl⟩
          rw [show nameB s = false by unfold nameB; rw [allB_false hlt (by rw [HG.out]; unfold smallB; simp; omega), Bool.and_false]]; rfl
      · go_wp2
        go_ret
        refine ⟨?_, rfl⟩
        rw [show nameB s = false by unfold nameB; rw [allB_false hlt (by rw [HG.out]; unfold smallB; simp; omega), Bool.and_false]]; rfl
    · obtain rfl : k = s.size := by omega
      by_cases h1 : 1 ≤ s.size
      · by_cases h8 : s.size ≤ 8
        · go_wp2
          go_ret
          refine ⟨?_, rfl⟩
          rw [show nameB s = true by unfold nameB; rw [inB_true (by omega), Bool.true_and]; exact allB_true hall.out]; first | rfl | (simp; omega)
        · go_wp2
          go_ret
          refine ⟨?_, rfl⟩
          rw [show nameB s = false by unfold nameB; rw [inB_false (by omega), Bool.false_and]]; first | rfl | (simp; omega)
      · go_wp2
        go_ret
        refine ⟨?_, rfl⟩
        rw [show nameB s = false by unfold nameB; rw [inB_false (by omega), Bool.false_and]]; first | rfl | (simp; omega)

set_option maxHeartbeats 400000 in
theorem isLetterCount_any (n : Int) (w : World) :
    Calls Try.prog 100 #[.int .i64 n] w fun e w' => e = .returned (.bool (inB 1 10 n)) ∧ w = w' := by
  go_enter Try.func100, Try.ntmps100
  go_wp2_with (go_at_call 98; refine (within_any _ _ _ _).mono ?_; rintro e w' ⟨rfl, rfl⟩)
  go_ret
  exact ⟨rfl, rfl⟩

set_option maxHeartbeats 400000 in
theorem isLiteral_any (n x : Int) (w : World) (hn : 1 ≤ n) (hn2 : n ≤ 10) :
    Calls Try.prog 101 #[.int .i64 n, .int .i64 x] w fun e w' => e = .returned (.bool (litB n x)) ∧ w = w' := by
  by_cases hx : x = 0
  · subst hx
    go_enter Try.func101, Try.ntmps101
    go_wp2_with fail
    go_ret
    exact ⟨rfl, rfl⟩
  · have h0 : (x != 0) = true := by simp [hx]
    have h1 := Lib.hid (show decide (x ≠ 0) = true by simp [hx])
    clear hx
    go_enter Try.func101, Try.ntmps101
    go_wp2_with (go_at_call 98; refine (within_any _ _ _ _).mono ?_; rintro e w' ⟨rfl, rfl⟩)
    go_ret
    exact ⟨by unfold litB; rw [h1.out]; simp, rfl⟩

set_option maxHeartbeats 400000 in
theorem letterOf_any (x : Int) (w : World) (h1 : -10 ≤ x) (h2 : x ≤ 10) :
    Calls Try.prog 102 #[.int .i64 x] w fun e w' => e = .returned (.int .i64 (x.natAbs : Nat)) ∧ w = w' := by
  go_enter Try.func102, Try.ntmps102
  go_wp2_with fail
  all_goals
    go_ret
    exact ⟨congrArg (fun z => Ending.returned (Value.int IntKind.i64 z)) (by omega), rfl⟩

set_option maxHeartbeats 2000000 in
theorem implClause_any (n : Int) (v : Value) (xs : List Int) (w : World) (h : RdI w v xs) :
    Calls Try.prog 57 #[.int .i64 n, v] w fun e w' => e = .returned (.bool (clauseB n xs)) ∧ w = w' := by
  obtain ⟨a, c, rfl⟩ := h.shape
  have hl := h.len
  unfold maxLen at hl
  have HS := Lib.hid h
  clear h
  by_cases hn : inB 1 10 n = true
  · have HN := Lib.hid hn
    obtain ⟨n1, n2⟩ := inB_iff.1 hn
    go_enter Try.func57, Try.ntmps57
    go_wp2_with (go_at_call 100; refine (isLetterCount_any _ _).mono ?_; rintro e w' ⟨rfl, rfl⟩)
    clear hn
    go_loop [12] (fun i => ∃ k : Nat, i = .int .i64 k ∧ k ≤ xs.length ∧ Hid (∀ j, j < k → okAt n xs j = true)) (fun i => xs.length - (intOf i).toNat)
    case atStart => exact ⟨0, rfl, Nat.zero_le _, fun j hj => by omega⟩
    case round =>
      obtain ⟨k, rfl, hk, hall⟩ := hrel
      by_cases hlt : k < xs.length
      · obtain ⟨b, off, rfl, hb0, hc⟩ := HS.out.at hlt
        have hno := Lib.hid (show okAt n xs k = false → clauseB n xs = false from fun h => by unfold clauseB; rw [allB_false hlt h, Bool.and_false])
        have hok := Lib.hid (show okAt n xs k = true → ∀ j, j < k + 1 → okAt n xs j = true from fun h j hj => by
          by_cases hjk : j < k
          · exact hall.out j hjk
          · obtain rfl : j = k := by omega
            exact h)
        by_cases hlit : litB n (xs.getD k 0) = true
        · obtain ⟨x1, x2, x3⟩ := litB_bd HN.out hlit
          rcases Nat.eq_zero_or_pos k with hk0 | h0
          · have hg := Lib.hid (hok.out (by unfold okAt; rw [hlit]; simp [hk0]))
            replace hk0 : (k : Int) ≤ 0 := by omega
            generalize xs.getD k 0 = x at *
            go_wp2_with (first
              | (go_at_call 101; refine (isLiteral_any _ _ _ n1 n2).mono ?_; rintro e w' ⟨rfl, rfl⟩)
              | (go_at_call 102; refine (letterOf_any _ _ (by omega) (by omega)).mono ?_; rintro e w' ⟨rfl, rfl⟩))
            go_round
            case rel => exact ⟨k + 1, by go_num, by omega, hg.out⟩
            case measure => simp [intOf]; omega
          · have hp := hall.out (k - 1) (by omega)
            have hpl : litB n (xs.getD (k - 1) 0) = true := by unfold okAt at hp; rw [Bool.and_eq_true] at hp; exact hp.1
            obtain ⟨y1, y2, y3⟩ := litB_bd HN.out hpl
            obtain ⟨_, _, e, _, hc2⟩ := HS.out.at (i := k - 1) (by omega)
            simp only [Option.some.injEq, Addr.mk.injEq, and_true] at e
            obtain ⟨rfl, rfl⟩ := e
            have hval := Lib.hid (show okAt n xs k = decide ((xs.getD (k - 1) 0).natAbs < (xs.getD k 0).natAbs) by unfold okAt; rw [hlit]; simp; intro h; omega)
            have hjm : (k : Int) - 1 < xs.length := by omega
            have hjm0 : (0 : Int) ≤ (k : Int) - 1 := by omega
            have hjt : ((k : Int) - 1).toNat = k - 1 := by omega
            clear hp hpl
            generalize xs.getD k 0 = x at *
            generalize xs.getD (k - 1) 0 = y at *
            by_cases hxy : y.natAbs < x.natAbs
            · have hxd : decide (x.natAbs ≤ y.natAbs) = false := by simp; omega
              have hg := Lib.hid (hok.out (by rw [hval.out]; simp [hxy]))
              clear hxy
              go_wp2_with (first
                | (go_at_call 101; refine (isLiteral_any _ _ _ n1 n2).mono ?_; rintro e w' ⟨rfl, rfl⟩)
                | (go_at_call 102; refine (letterOf_any _ _ (by omega) (by omega)).mono ?_; rintro e w' ⟨rfl, rfl⟩))
              clear hjt
              go_round
              case rel => exact ⟨k + 1, by go_num, by omega, hg.out⟩
              case measure => simp [intOf]; omega
            · have hxd : decide (x.natAbs ≤ y.natAbs) = true := by simp; omega
              have hg := Lib.hid (hno.out (by rw [hval.out]; simp [hxy]))
              clear hxy
              go_wp2_with (first
                | (go_at_call 101; refine (isLiteral_any _ _ _ n1 n2).mono ?_; rintro e w' ⟨rfl, rfl⟩)
                | (go_at_call 102; refine (letterOf_any _ _ (by omega) (by omega)).mono ?_; rintro e w' ⟨rfl, rfl⟩))
              go_ret
              exact ⟨by rw [hg.out]; rfl, rfl⟩
        · have hlf := bool_false hlit
          have hg := Lib.hid (hno.out (by unfold okAt; rw [hlf, Bool.false_and]))
          clear hlit
          generalize xs.getD k 0 = x at *
          go_wp2_with (go_at_call 101; refine (isLiteral_any _ _ _ n1 n2).mono ?_; rintro e w' ⟨rfl, rfl⟩)
          go_ret
          exact ⟨by rw [hg.out]; rfl, rfl⟩
      · obtain rfl : k = xs.length := by omega
        go_wp2_with fail
        go_ret
        exact ⟨by rw [show clauseB n xs = true by unfold clauseB; rw [HN.out, Bool.true_and]; exact allB_true hall.out]; rfl, rfl⟩
  · have hn' := bool_false hn
    clear hn
    go_enter Try.func57, Try.ntmps57
    go_wp2_with (go_at_call 100; refine (isLetterCount_any _ _).mono ?_; rintro e w' ⟨rfl, rfl⟩)
    go_ret
    exact ⟨by rw [show clauseB n xs = false by unfold clauseB; rw [hn', Bool.false_and]]; rfl, rfl⟩

end Go.Proofs.Ytljhohacgceojaa

namespace Go.Proofs.Ytljhohacgceojaa
open Go.RowKit

set_option maxHeartbeats 2000000 in
theorem implValidForm_any (v : Value) (f : FormD) (w : World) (h : RdFm w v f) :
    Calls Try.prog 56 #[v] w fun e w' => e = .returned (.bool (formB f)) ∧ Below w.heap.size w w' := by
  obtain ⟨a, c, rfl⟩ := h.shape
  have p := h.parts
  obtain ⟨n, xs⟩ := f
  simp only at p ⊢
  have hl := p.len
  unfold maxLen at hl
  have HS := Lib.hid p
  clear h p
  by_cases hn : inB 1 10 n = true
  · have HN := Lib.hid hn
    clear hn
    by_cases h48 : xs.length ≤ 48
    · go_enter Try.func56, Try.ntmps56
      go_wp2_with (go_at_call 100; refine (isLetterCount_any _ _).mono ?_; rintro e w' ⟨rfl, rfl⟩; rw [HN.out])
      refine wp_at fun W hW => ?_
      have HB := Lib.hid (show Below w.heap.size w W by subst hW; (repeat' first | exact Below.refl _ _ | assumption | refine Below.alloc ?_ ?_ _ | refine Below.setCell ?_ ?_ _ | refine Below.drew ?_ | (simp; done) | (simp; omega)))
      have d0 : W.cell? ⟨w.heap.size, 0, none⟩ = some (.int .i64 n) := by subst hW; exact (Blk.new w 35 #[.int .i64 n, .slice a xs.length c]).cell 0 rfl
      clear hW
      go_loop [18] (fun i => ∃ k : Nat, i = .int .i64 k ∧ k ≤ xs.length ∧ Hid (∀ j, j < k → clauseB n (xs.getD j []) = true)) (fun i => xs.length - (intOf i).toNat)
      case atStart => exact ⟨0, rfl, Nat.zero_le _, fun j hj => by omega⟩
      case round =>
        obtain ⟨k, rfl, hk, hall⟩ := hrel
        by_cases hlt : k < xs.length
        · obtain ⟨b, off, u, rfl, hb0, hc, hu⟩ := (HS.out.up HB.out (Nat.le_refl _)).at hlt
          have HU := Lib.hid hu
          have hno := Lib.hid (show clauseB n (xs.getD k []) = false → formB ⟨n, xs⟩ = false from fun h => by unfold formB; rw [allB_false hlt h, Bool.and_false])
          have hok := Lib.hid (show clauseB n (xs.getD k []) = true → ∀ j, j < k + 1 → clauseB n (xs.getD j []) = true from fun h j hj => by
            by_cases hjk : j < k
            · exact hall.out j hjk
            · obtain rfl : j = k := by omega
              exact h)
          clear hu
          cases hq : clauseB n (xs.getD k [])
          · have hg := Lib.hid (hno.out hq)
            have HQ := Lib.hid hq
            clear hq
            go_wp2_with (go_at_call 57; refine (implClause_any _ _ _ _ HU.out).mono ?_; rintro e w' ⟨rfl, rfl⟩; rw [HQ.out])
            go_ret
            exact ⟨by rw [hg.out]; rfl, HB.out⟩
          · have hg := Lib.hid (hok.out hq)
            have HQ := Lib.hid hq
            clear hq
            go_wp2_with (go_at_call 57; refine (implClause_any _ _ _ _ HU.out).mono ?_; rintro e w' ⟨rfl, rfl⟩; rw [HQ.out])
            go_round
            case rel => exact ⟨k + 1, by go_num, by omega, hg.out⟩
            case measure => simp [intOf]; omega
        · obtain rfl : k = xs.length := by omega
          go_wp2_with fail
          go_ret
          exact ⟨by rw [show formB ⟨n, xs⟩ = true by unfold formB; simp only [HN.out, Bool.true_and]; rw [allB_true hall.out]; simp [h48]]; rfl, HB.out⟩
    · go_enter Try.func56, Try.ntmps56
      go_wp2_with (go_at_call 100; refine (isLetterCount_any _ _).mono ?_; rintro e w' ⟨rfl, rfl⟩; rw [HN.out])
      go_ret
      refine ⟨by rw [show formB ⟨n, xs⟩ = false by unfold formB; simp only [h48, decide_false, Bool.and_false, Bool.false_and]]; rfl, ?_⟩
      (repeat' first | exact Below.refl _ _ | assumption | refine Below.alloc ?_ ?_ _ | refine Below.setCell ?_ ?_ _ | refine Below.drew ?_ | (simp; done) | (simp; omega))
  · have HN := Lib.hid (bool_false hn)
    clear hn
    go_enter Try.func56, Try.ntmps56
    go_wp2_with (go_at_call 100; refine (isLetterCount_any _ _).mono ?_; rintro e w' ⟨rfl, rfl⟩; rw [HN.out])
    go_ret
    refine ⟨by rw [show formB ⟨n, xs⟩ = false by unfold formB; simp only [HN.out, Bool.false_and]]; rfl, ?_⟩
    (repeat' first | exact Below.refl _ _ | assumption | refine Below.alloc ?_ ?_ _ | refine Below.setCell ?_ ?_ _ | refine Below.drew ?_ | (simp; done) | (simp; omega))

set_option maxHeartbeats 2000000 in
theorem implValidCase_any (v : Value) (d : CaseD) (w : World) (h : RdCs w v d) :
    Calls Try.prog 20 #[v] w fun e w' => e = .returned (.bool (caseB d)) ∧ Below w.heap.size w w' := by
  obtain ⟨a1, c1, a2, c2, rfl⟩ := h.shape
  obtain ⟨p, q, hns⟩ := h.parts
  obtain ⟨nm, f, xs⟩ := d
  simp only at p q hns ⊢
  have hl := q.len
  unfold maxLen at hl
  have HF := Lib.hid p
  have HS := Lib.hid q
  have HNS := Lib.hid hns
  clear h p q hns
  by_cases hn : nameB nm = true
  · have HN := Lib.hid hn
    clear hn
    by_cases hf : formB f = true
    · have HFB := Lib.hid hf
      clear hf
      by_cases h128 : xs.length ≤ 128
      · go_enter Try.func20, Try.ntmps20
        go_wp2_with (go_at_call 55; refine (implIsName_any _ _ HNS.out).mono ?_; rintro e w' ⟨rfl, rfl⟩; rw [HN.out])
        refine Calls.at fun W hW => ?_
        have hb := show Below w.heap.size w W by subst hW; (repeat' first | exact Below.refl _ _ | assumption | refine Below.alloc ?_ ?_ _ | refine Below.setCell ?_ ?_ _ | refine Below.drew ?_ | (simp; done) | (simp; omega))
        have hk := show Blk W w.heap.size 37 #[.string nm, .int .i64 f.letters, .slice a1 f.clauses.length c1, .slice a2 xs.length c2] by subst hW; exact Blk.new _ _ _
        clear hW
        refine (implValidForm_any _ f W (HF.out.up hb (Nat.le_refl _))).mono ?_
        rintro e w1 ⟨rfl, hb1⟩
        rw [HFB.out]
        have HB := Lib.hid (hb.trans (hb1.mono hb.size))
        have hk1 := hk.below hb1 hk.lt
        have d1 : w1.cell? ⟨w.heap.size, 1, none⟩ = some (.int .i64 f.letters) := hk1.cell 1 rfl
        have d3 : w1.cell? ⟨w.heap.size, 3, none⟩ = some (.slice a2 xs.length c2) := hk1.cell 3 rfl
        clear hb hk hb1 hk1
        go_wp2_with fail
        go_loop [24] (fun i => ∃ k : Nat, i = .int .i64 k ∧ k ≤ xs.length ∧ Hid (∀ j, j < k → clauseB f.letters (xs.getD j []) = true)) (fun i => xs.length - (intOf i).toNat)
        case atStart => exact ⟨0, rfl, Nat.zero_le _, fun j hj => by omega⟩
        case round =>
          obtain ⟨k, rfl, hk, hall⟩ := hrel
          by_cases hlt : k < xs.length
          · obtain ⟨b, off, u, rfl, hb0, hc, hu⟩ := (HS.out.up HB.out (Nat.le_refl _)).at hlt
            have HU := Lib.hid hu
            have hno := Lib.hid (show clauseB f.letters (xs.getD k []) = false → caseB ⟨nm, f, xs⟩ = false from fun h => by unfold caseB; rw [allB_false hlt h, Bool.and_false])
            have hok := Lib.hid (show clauseB f.letters (xs.getD k []) = true → ∀ j, j < k + 1 → clauseB f.letters (xs.getD j []) = true from fun h j hj => by
              by_cases hjk : j < k
              · exact hall.out j hjk
              · obtain rfl : j = k := by omega
                exact h)
            clear hu
            cases hq : clauseB f.letters (xs.getD k [])
            · have hg := Lib.hid (hno.out hq)
              have HQ := Lib.hid hq
              clear hq
              go_wp2_with (go_at_call 57; refine (implClause_any _ _ _ _ HU.out).mono ?_; rintro e w' ⟨rfl, rfl⟩; rw [HQ.out])
              go_ret
              exact ⟨by rw [hg.out]; rfl, HB.out⟩
            · have hg := Lib.hid (hok.out hq)
              have HQ := Lib.hid hq
              clear hq
              go_wp2_with (go_at_call 57; refine (implClause_any _ _ _ _ HU.out).mono ?_; rintro e w' ⟨rfl, rfl⟩; rw [HQ.out])
              go_round
              case rel => exact ⟨k + 1, by go_num, by omega, hg.out⟩
              case measure => simp [intOf]; omega
          · obtain rfl : k = xs.length := by omega
            go_wp2_with fail
            go_ret
            exact ⟨by rw [show caseB ⟨nm, f, xs⟩ = true by unfold caseB; simp only [HN.out, HFB.out, Bool.true_and]; rw [allB_true hall.out]; simp [h128]]; rfl, HB.out⟩
      · go_enter Try.func20, Try.ntmps20
        go_wp2_with (go_at_call 55; refine (implIsName_any _ _ HNS.out).mono ?_; rintro e w' ⟨rfl, rfl⟩; rw [HN.out])
        refine Calls.at fun W hW => ?_
        have hb := show Below w.heap.size w W by subst hW; (repeat' first | exact Below.refl _ _ | assumption | refine Below.alloc ?_ ?_ _ | refine Below.setCell ?_ ?_ _ | refine Below.drew ?_ | (simp; done) | (simp; omega))
        have hk := show Blk W w.heap.size 37 #[.string nm, .int .i64 f.letters, .slice a1 f.clauses.length c1, .slice a2 xs.length c2] by subst hW; exact Blk.new _ _ _
        clear hW
        refine (implValidForm_any _ f W (HF.out.up hb (Nat.le_refl _))).mono ?_
        rintro e w1 ⟨rfl, hb1⟩
        rw [HFB.out]
        have HB := Lib.hid (hb.trans (hb1.mono hb.size))
        have hk1 := hk.below hb1 hk.lt
        have d3 : w1.cell? ⟨w.heap.size, 3, none⟩ = some (.slice a2 xs.length c2) := hk1.cell 3 rfl
        clear hb hk hb1 hk1
        go_wp2_with fail
        go_ret
        exact ⟨by rw [show caseB ⟨nm, f, xs⟩ = false by unfold caseB; simp only [h128, decide_false, Bool.and_false, Bool.false_and]]; rfl, HB.out⟩
    · have HFB := Lib.hid (bool_false hf)
      clear hf
      go_enter Try.func20, Try.ntmps20
      go_wp2_with (go_at_call 55; refine (implIsName_any _ _ HNS.out).mono ?_; rintro e w' ⟨rfl, rfl⟩; rw [HN.out])
      refine Calls.at fun W hW => ?_
      have hb := show Below w.heap.size w W by subst hW; (repeat' first | exact Below.refl _ _ | assumption | refine Below.alloc ?_ ?_ _ | refine Below.setCell ?_ ?_ _ | refine Below.drew ?_ | (simp; done) | (simp; omega))
      clear hW
      refine (implValidForm_any _ f W (HF.out.up hb (Nat.le_refl _))).mono ?_
      rintro e w1 ⟨rfl, hb1⟩
      rw [HFB.out]
      have HB := Lib.hid (hb.trans (hb1.mono hb.size))
      clear hb hb1
      go_wp2_with fail
      go_ret
      exact ⟨by rw [show caseB ⟨nm, f, xs⟩ = false by unfold caseB; simp only [HFB.out, Bool.and_false, Bool.false_and]]; rfl, HB.out⟩
  · have HN := Lib.hid (bool_false hn)
    clear hn
    go_enter Try.func20, Try.ntmps20
    go_wp2_with (go_at_call 55; refine (implIsName_any _ _ HNS.out).mono ?_; rintro e w' ⟨rfl, rfl⟩; rw [HN.out])
    go_ret
    refine ⟨by rw [show caseB ⟨nm, f, xs⟩ = false by unfold caseB; simp only [HN.out, Bool.false_and]]; rfl, ?_⟩
    (repeat' first | exact Below.refl _ _ | assumption | refine Below.alloc ?_ ?_ _ | refine Below.setCell ?_ ?_ _ | refine Below.drew ?_ | (simp; done) | (simp; omega))

end Go.Proofs.Ytljhohacgceojaa
