/-
  FnCases: texts joined: MarkI, Has, PredL, Dom, AllIn, Rising, DomO, TightM, Digits, Src, MarkL, AppLL.
-/
import Derived.Deep.Cut
import Derived.Test.YtkkcgclliomocaaMFnCasesAA
namespace Go.Proofs.Ytkkcgclliomocaa
open Go.RowKit

theorem mark_set {xs : List Int} {k : Int} {j : Nat} (hj : j < xs.length) :
    ((mkI k j ++ xs.drop j).map I64).set j (.int .i64 (k + j)) = (mkI k (j + 1) ++ xs.drop (j + 1)).map I64 := by
  rw [List.drop_eq_getElem_cons hj, List.map_append, List.map_cons, set_mid _ _ _ _ _ (by simp [mkI])]
  simp [mkI, List.range_succ, I64]

theorem owns_slice_some {w : World} {lo : Nat} {e : TypeId} {a : Option Addr} {n cap : Nat} {vs : List Value} (h : w.ownsRow lo e 1 (.slice a n cap) n vs) (hn : 0 < n) : ∃ g, a = some ⟨g, 0, none⟩ ∧ lo ≤ g := by
  rcases h.2 with ⟨e1, e2⟩ | ⟨g, cap', cur, e1, hb, _⟩
  · omega
  · simp only [Value.slice.injEq] at e1
    exact ⟨g, e1.1, hb⟩

set_option maxHeartbeats 400000 in
theorem markI_any (v : Value) (lo hi : Nat) (xs : List Int) (k : Int) (w : World) (ho : OwnI lo hi w v xs) (h0 : 0 ≤ k) (h1 : k + xs.length ≤ 1099511627776) :
    Calls Try.prog 46 #[v, .int .i64 k] w fun e w' => e = .returned (.int .i64 (k + xs.length)) ∧ OwnI lo hi w' v (mkI k xs.length) ∧ Kept (fun b => lo ≤ b ∧ b < hi) w w' := by
  obtain ⟨a, cap, rfl⟩ := ho.rd.shape
  have HO := Lib.hid ho
  clear ho
  go_enter Try.func46, Try.ntmps46
  go_wp2_with fail
  go_loopw [1, 5] (fun kk i wr => ∃ j : Nat, i = .int .i64 j ∧ j ≤ xs.length ∧ kk = .int .i64 (k + j) ∧ wr.ownsRow lo 2 1 (.slice a xs.length cap) xs.length ((mkI k j ++ xs.drop j).map I64) ∧ Kept (fun b => lo ≤ b ∧ b < hi) w wr) (fun _ i _ => xs.length - (intOf i).toNat)
  case atStart => exact ⟨0, rfl, Nat.zero_le _, by simp, by simpa [mkI] using HO.out.1, Kept.refl _ _⟩
  case round =>
    obtain ⟨j, rfl, hj, rfl, hown, hkp⟩ := hrel
    have HO1 := Lib.hid hown
    have HK1 := Lib.hid hkp
    clear hkp
    by_cases hlt : j < xs.length
    · obtain ⟨g, rfl, hlo⟩ := owns_slice_some hown (by omega)
      have hhi := HO.out.2 g rfl
      clear hown
      have hd := HO1.out.cellAt j (by omega)
      have hfr := HO1.out.frozenAt j
      have hdl : ((mkI k j ++ xs.drop j).map I64)[j]? = some (.int .i64 (xs.getD j 0)) := by
        rw [List.getElem?_map, List.getElem?_append_right (by simp [mkI])]
        simp [I64, mkI, hlt]
      rw [hdl] at hd
      clear hdl
      go_wp2_with fail
      go_roundw
      case rel =>
        refine ⟨j + 1, by go_num, by omega, by go_num, ?_, HK1.out.setCell (.inr ⟨hlo, hhi⟩) _⟩
        have h1 := (HO1.out.stored j (.int .i64 (k + j))).1
        rw [mark_set hlt] at h1
        exact h1
      case measure => simp [intOf]; omega
    · clear hown
      obtain rfl : j = xs.length := by omega
      go_wp2_with fail
      go_ret
      refine ⟨rfl, ⟨?_, HO.out.2⟩, HK1.out⟩
      have h := HO1.out
      rw [List.drop_length, List.append_nil] at h
      have e : (mkI k xs.length).length = xs.length := by simp [mkI]
      rw [e]
      simpa using h

set_option maxHeartbeats 400000 in
theorem heldInts_any (a : Option Addr) (n cap : Nat) (k : Int) (w : World) (hs : Slc w (.slice a n cap) ((mkI k n).map I64)) (h0 : 0 ≤ k) (h1 : k + n ≤ 1099511627776) :
    Calls Try.prog 47 #[.slice a n cap, .int .i64 k] w fun e w' => e = .returned (.int .i64 (k + n)) ∧ Below w.heap.size w w' := by
  have HS := Lib.hid hs
  clear hs
  go_enter Try.func47, Try.ntmps47
  go_wp2_with fail
  go_loopw [1, 5] (fun kk i wr => ∃ j : Nat, i = .int .i64 j ∧ j ≤ n ∧ kk = .int .i64 (k + j) ∧ Below w.heap.size w wr) (fun _ i _ => n - (intOf i).toNat)
  case atStart => exact ⟨0, rfl, Nat.zero_le _, by simp, Below.refl _ _⟩
  case round =>
    obtain ⟨j, rfl, hj, rfl, hbl⟩ := hrel
    have HB := Lib.hid hbl
    clear hbl
    by_cases hlt : j < n
    · obtain ⟨b, off, rfl, hb, hc⟩ := (HS.out.below HB.out (Nat.le_refl _)).at (i := j) (u := .int .i64 (k + j)) (by simp [I64, mkI, hlt])
      have hne : ((k + j : Int) != (k + j : Int)) = false := by simp
      go_wp2_with fail
      go_roundw
      case rel => exact ⟨j + 1, by go_num, by omega, by go_num, HB.out⟩
      case measure => simp [intOf]; omega
    · obtain rfl : j = n := by omega
      go_wp2_with fail
      go_ret
      exact ⟨rfl, HB.out⟩

theorem heldI_any (v : Value) (n : Nat) (k : Int) (w : World) (h : RdI w v (mkI k n)) (h0 : 0 ≤ k) (h1 : k + n ≤ 1099511627776) :
    Calls Try.prog 47 #[v, .int .i64 k] w fun e w' => e = .returned (.int .i64 (k + n)) ∧ Below w.heap.size w w' := by
  obtain ⟨a, c, e⟩ := h.shape
  rw [show (mkI k n).length = n by simp [mkI]] at e
  subst e
  exact heldInts_any a n c k w h h0 h1

def cntI (xs : List Int) : Nat := xs.length
theorem cntI_le (xs : List Int) : cntI xs ≤ bulkI xs := Nat.le_refl _
def mkdI (k : Int) (xs : List Int) : List Int := mkI k xs.length

theorem markI_o (v : Value) (lo hi : Nat) (xs : List Int) (k : Int) (w : World) (ho : OwnI lo hi w v xs) (h0 : 0 ≤ k) (h1 : k + cntI xs ≤ 1099511627776) :
    Calls Try.prog 46 #[v, .int .i64 k] w fun e w' => e = .returned (.int .i64 (k + cntI xs)) ∧ OwnI lo hi w' v (mkdI k xs) ∧ Kept (fun b => lo ≤ b ∧ b < hi) w w' :=
  markI_any v lo hi xs k w ho h0 h1

theorem heldI_o (v : Value) (xs : List Int) (k : Int) (w : World) (h : RdI w v (mkdI k xs)) (h0 : 0 ≤ k) (h1 : k + cntI xs ≤ 1099511627776) :
    Calls Try.prog 47 #[v, .int .i64 k] w fun e w' => e = .returned (.int .i64 (k + cntI xs)) ∧ Below w.heap.size w w' :=
  heldI_any v xs.length k w h h0 h1

theorem eqI_same (v v' : Value) (xs : List Int) (w : World) (h : RdI w v xs) (h' : RdI w v' xs) :
    Calls Try.prog 43 #[v, v'] w fun e w' => e = .returned (.bool true) ∧ Below w.heap.size w w' := by
  refine (eqI_any v v' xs xs w h h').mono ?_
  rintro e w' ⟨rfl, hb⟩
  exact ⟨by simp, hb⟩

end Go.Proofs.Ytkkcgclliomocaa

namespace Go.Proofs.Ytkkcgclliomocaa
open Go.RowKit

def hasB (l : List Int) (x : Int) : Bool := l.contains x
theorem hasB_yes {l : List Int} {x : Int} {j : Nat} (hj : j < l.length) (h : l.getD j 0 = x) : hasB l x = true := by
  unfold hasB; rw [List.contains_iff_mem]
  have : l.getD j 0 = l[j] := by simp [hj]
  rw [this] at h; rw [← h]; exact List.getElem_mem hj
theorem hasB_no {l : List Int} {x : Int} (h : ∀ j, j < l.length → l.getD j 0 ≠ x) : hasB l x = false := by
  unfold hasB; rw [Bool.eq_false_iff]; intro hc
  rw [List.contains_iff_mem] at hc
  obtain ⟨j, hj, e⟩ := List.getElem_of_mem hc
  exact h j hj (by simp [hj, e])

end Go.Proofs.Ytkkcgclliomocaa

namespace Go.Proofs.Ytkkcgclliomocaa
open Go.RowKit

/-- Each of the values reads as the list at its place. -/
def Each (w : World) (vs : List Value) (zss : List (List Int)) : Prop := vs.length = zss.length ∧ ∀ (i : Nat) u zs, vs[i]? = some u → zss[i]? = some zs → RdI w u zs
def RdL (w : World) (v : Value) (zss : List (List Int)) : Prop := ∃ vs, Slc w v vs ∧ Each w vs zss
/-- Owned: the outer row, and the inner ones, each in a block of its own. -/
def OwnEach (lo hi : Nat) (w : World) (vs : List Value) (zss : List (List Int)) : Prop :=
  vs.length = zss.length ∧ (∀ (i : Nat) u zs, vs[i]? = some u → zss[i]? = some zs → OwnI lo hi w u zs) ∧ ∀ (i j : Nat) u u' g, i ≠ j → vs[i]? = some u → vs[j]? = some u' → u.ownBlock = some g → u'.ownBlock ≠ some g
def OwnL (lo hi : Nat) (w : World) (v : Value) (zss : List (List Int)) : Prop :=
  ∃ vs, w.ownsRow lo 65 1 v zss.length vs ∧ (∀ g, v.ownBlock = some g → g < hi) ∧ OwnEach lo hi w vs zss
def lsum : List (List Int) → Nat
  | [] => 0
  | z :: r => z.length + lsum r
theorem lsum_append : ∀ (a b : List (List Int)), lsum (a ++ b) = lsum a + lsum b
  | [], b => by simp [lsum]
  | z :: r, b => by simp only [List.cons_append, lsum, lsum_append r b]; omega
def bulkL (zss : List (List Int)) : Nat := zss.length + lsum zss

theorem RdL.shape {w : World} {v : Value} {zss : List (List Int)} (h : RdL w v zss) : ∃ a c, v = .slice a zss.length c := by
  obtain ⟨vs, h1, h2⟩ := h
  obtain ⟨a, c, e⟩ := h1.shape
  exact ⟨a, c, by rw [e, h2.1]⟩
theorem RdL.len {w : World} {v : Value} {zss : List (List Int)} (h : RdL w v zss) : zss.length ≤ maxLen := by
  obtain ⟨vs, h1, h2⟩ := h
  rw [← h2.1]; exact h1.len
theorem Each.up {w w' : World} {vs : List Value} {zss : List (List Int)} {B : Nat} (h : Each w vs zss) (hb : Below B w w') (hB : w.heap.size ≤ B) : Each w' vs zss :=
  ⟨h.1, fun i u zs h1 h2 => (h.2 i u zs h1 h2).up hb hB⟩
theorem RdL.up {w w' : World} {v : Value} {zss : List (List Int)} {B : Nat} (h : RdL w v zss) (hb : Below B w w') (hB : w.heap.size ≤ B) : RdL w' v zss := by
  obtain ⟨vs, h1, h2⟩ := h
  exact ⟨vs, h1.below hb hB, h2.up hb hB⟩
/-- One of the lists. -/
theorem RdL.at {w : World} {a : Option Addr} {n c : Nat} {zss : List (List Int)} (h : RdL w (.slice a n c) zss) {i : Nat} (hi : i < zss.length) :
    ∃ b off u, a = some ⟨b, off, none⟩ ∧ b < w.heap.size ∧ w.cell? ⟨b, off + i, none⟩ = some u ∧ RdI w u (zss.getD i []) := by
  obtain ⟨vs, h1, h2⟩ := h
  have hv : i < vs.length := by rw [h2.1]; exact hi
  obtain ⟨b, off, ha, hb, hc⟩ := h1.at (List.getElem?_eq_getElem hv)
  exact ⟨b, off, vs[i], ha, hb, hc, h2.2 i _ _ (List.getElem?_eq_getElem hv) (by simp [hi])⟩

theorem OwnEach.each {lo hi : Nat} {w : World} {vs : List Value} {zss : List (List Int)} (h : OwnEach lo hi w vs zss) : Each w vs zss := ⟨h.1, fun i u zs h1 h2 => (h.2.1 i u zs h1 h2).rd⟩
theorem OwnL.rd {lo hi : Nat} {w : World} {v : Value} {zss : List (List Int)} (h : OwnL lo hi w v zss) : RdL w v zss := by
  obtain ⟨vs, h1, h2, h3⟩ := h
  exact ⟨vs, slc_of_owns h1, h3.each⟩
theorem OwnEach.up {lo hi : Nat} {w w' : World} {vs : List Value} {zss : List (List Int)} {B : Nat} (h : OwnEach lo hi w vs zss) (hb : Below B w w') (hB : w.heap.size ≤ B) : OwnEach lo hi w' vs zss :=
  ⟨h.1, fun i u zs h1 h2 => (h.2.1 i u zs h1 h2).up hb hB, h.2.2⟩
theorem OwnL.up {lo hi : Nat} {w w' : World} {v : Value} {zss : List (List Int)} {B : Nat} (h : OwnL lo hi w v zss) (hb : Below B w w') (hB : w.heap.size ≤ B) : OwnL lo hi w' v zss := by
  obtain ⟨vs, h1, h2, h3⟩ := h
  exact ⟨vs, owns_below h1 hb hB, h2, h3.up hb hB⟩
theorem OwnEach.wide {lo hi lo' hi' : Nat} {w : World} {vs : List Value} {zss : List (List Int)} (h : OwnEach lo hi w vs zss) (a : lo' ≤ lo) (b : hi ≤ hi') : OwnEach lo' hi' w vs zss :=
  ⟨h.1, fun i u zs h1 h2 => (h.2.1 i u zs h1 h2).wide a b, h.2.2⟩
theorem OwnL.wide {lo hi lo' hi' : Nat} {w : World} {v : Value} {zss : List (List Int)} (h : OwnL lo hi w v zss) (a : lo' ≤ lo) (b : hi ≤ hi') : OwnL lo' hi' w v zss := by
  obtain ⟨vs, h1, h2, h3⟩ := h
  exact ⟨vs, owns_base h1 a, fun g hg => Nat.lt_of_lt_of_le (h2 g hg) b, h3.wide a b⟩
theorem OwnL.kept {lo hi : Nat} {w w' : World} {v : Value} {zss : List (List Int)} {S : Nat → Prop} (h : OwnL lo hi w v zss) (hk : Kept S w w') (hs : ∀ b, lo ≤ b → b < hi → ¬ S b) : OwnL lo hi w' v zss := by
  obtain ⟨vs, h1, h2, h3⟩ := h
  exact ⟨vs, owns_kept h1 hk fun g hg => hs g (owns_lt h1 hg).1 (h2 g hg), h2, h3.1, fun i u zs a b => (h3.2.1 i u zs a b).kept hk hs, h3.2.2⟩

theorem sum_take_succ (zss : List (List Int)) (k : Nat) (hk : k < zss.length) : lsum (zss.take (k + 1)) = lsum (zss.take k) + (zss.getD k []).length := by
  rw [List.take_succ_eq_append_getElem hk, lsum_append]
  simp [hk, lsum]

theorem bulkL_le (zss : List (List Int)) (k : Nat) : lsum (zss.take k) + zss.length ≤ bulkL zss := by
  unfold bulkL
  have : lsum (zss.take k) + lsum (zss.drop k) = lsum zss := by rw [← lsum_append, List.take_append_drop]
  omega

theorem Try.infoInts : (Try.prog.info? 65).map (fun i => (i.zero, i.size, i.bytes)) = some (some (.slice none 0 0), 1, 24) := by kernel_rfl

set_option maxHeartbeats 400000 in
theorem eqL_same (v v' : Value) (zss : List (List Int)) (w : World) (h : RdL w v zss) (h' : RdL w v' zss) :
    Calls Try.prog 64 #[v, v'] w fun e w' => e = .returned (.bool true) ∧ Below w.heap.size w w' := by
  obtain ⟨a, c, rfl⟩ := h.shape
  obtain ⟨a', c', rfl⟩ := h'.shape
  have hl := h.len
  unfold maxLen at hl
  have HS := Lib.hid h
  have HS' := Lib.hid h'
  have hne : ((zss.length : Int) != (zss.length : Int)) = false := by simp
  clear h h'
  go_enter Try.func64, Try.ntmps64
  go_wp2_with fail
  go_loopw [5] (fun i wr => ∃ k : Nat, i = .int .i64 k ∧ k ≤ zss.length ∧ Below w.heap.size w wr) (fun i _ => zss.length - (intOf i).toNat)
  case atStart => exact ⟨0, rfl, Nat.zero_le _, Below.refl _ _⟩
  case round =>
    obtain ⟨k, rfl, hk, hb⟩ := hrel
    have HB := Lib.hid hb
    clear hb
    by_cases hlt : k < zss.length
    · obtain ⟨b, off, u, rfl, hbk, hc, hu⟩ := (HS.out.up HB.out (Nat.le_refl _)).at hlt
      obtain ⟨b', off', u', rfl, hbk', hc', hu'⟩ := (HS'.out.up HB.out (Nat.le_refl _)).at hlt
      have HU := Lib.hid hu
      have HU' := Lib.hid hu'
      clear hu hu'
      have hd : decide (zss.getD k [] = zss.getD k []) = true := by simp
      obtain ⟨zk, hzk⟩ : ∃ zk, zk = zss.getD k [] := ⟨_, rfl⟩
      rw [← hzk] at HU HU'
      clear hzk hd
      go_wp2_with fail
      go_quiet ((go_at_call 43; exact eqI_qs _ _ zk _ _ HU.out HU'.out))
      go_wp2_with fail
      go_roundw
      case rel => exact ⟨k + 1, by go_num, by omega, below_drewN HB.out _⟩
      case measure => simp [intOf]; omega
    · obtain rfl : k = zss.length := by omega
      go_wp2_with fail
      go_ret
      exact ⟨rfl, HB.out⟩

end Go.Proofs.Ytkkcgclliomocaa

namespace Go.Proofs.Ytkkcgclliomocaa
open Go.RowKit

def ValDom (d : List Int) : Prop := 1 ≤ d.length ∧ d.length ≤ 8 ∧ ∀ k, k < d.length → inB 0 31 (d.getD k 0) = true ∧ (0 < k → d.getD (k - 1) 0 < d.getD k 0)
def ValD (zss : List (List Int)) : Prop := 1 ≤ zss.length ∧ zss.length ≤ 6 ∧ ∀ i, i < zss.length → ValDom (zss.getD i [])
open Classical in
noncomputable def validD (zss : List (List Int)) : Bool := decide (ValD zss)
theorem validD_true {zss : List (List Int)} (h : ValD zss) : validD zss = true := by simp [validD, h]
theorem validD_false {zss : List (List Int)} (h : ¬ ValD zss) : validD zss = false := by simp [validD, h]

end Go.Proofs.Ytkkcgclliomocaa

namespace Go.Proofs.Ytkkcgclliomocaa
open Go.RowKit

def allIn (lo hi : Int) (xs : List Int) : Bool := xs.all (inB lo hi)

theorem allIn_true {lo hi : Int} {xs : List Int} (h : ∀ i, i < xs.length → inB lo hi (xs.getD i 0) = true) : allIn lo hi xs = true := by
  unfold allIn
  rw [List.all_eq_true]
  intro x hx
  obtain ⟨i, hi, rfl⟩ := List.mem_iff_getElem.1 hx
  have := h i hi
  simpa [hi] using this
theorem allIn_false {lo hi : Int} {xs : List Int} {i : Nat} (hlt : i < xs.length) (h : inB lo hi (xs.getD i 0) = false) : allIn lo hi xs = false := by
  unfold allIn
  rw [List.all_eq_false]
  exact ⟨xs[i], List.getElem_mem hlt, by simpa [hlt] using h⟩

theorem allIn_iff (lo hi : Int) (xs : List Int) : allIn lo hi xs = true ↔ ∀ i, i < xs.length → inB lo hi (xs.getD i 0) = true := by
  constructor
  · intro h i hi
    unfold allIn at h
    rw [List.all_eq_true] at h
    have := h xs[i] (List.getElem_mem hi)
    simpa [hi] using this
  · exact allIn_true

def Rising (xs : List Int) : Prop := ∀ i, i < xs.length → 0 < i → xs.getD (i - 1) 0 < xs.getD i 0
instance (xs : List Int) : Decidable (Rising xs) := by unfold Rising; exact inferInstance
def risingB (xs : List Int) : Bool := decide (Rising xs)
theorem risingB_true {xs : List Int} (h : Rising xs) : risingB xs = true := by simp [risingB, h]
theorem risingB_false {xs : List Int} (h : ¬ Rising xs) : risingB xs = false := by simp [risingB, h]

end Go.Proofs.Ytkkcgclliomocaa

namespace Go.Proofs.Ytkkcgclliomocaa
open Go.RowKit

end Go.Proofs.Ytkkcgclliomocaa

namespace Go.Proofs.Ytkkcgclliomocaa
open Go.RowKit

theorem ValDom_iff (d : List Int) : ValDom d ↔ (1 ≤ d.length ∧ d.length ≤ 8) ∧ Rising d ∧ allIn 0 31 d = true := by
  rw [allIn_iff]
  constructor
  · rintro ⟨h1, h2, h3⟩
    exact ⟨⟨h1, h2⟩, fun i hi h0 => (h3 i hi).2 h0, fun i hi => (h3 i hi).1⟩
  · rintro ⟨⟨h1, h2⟩, h3, h4⟩
    exact ⟨h1, h2, fun i hi => ⟨h4 i hi, h3 i hi⟩⟩

end Go.Proofs.Ytkkcgclliomocaa

namespace Go.Proofs.Ytkkcgclliomocaa

theorem popN_filter (x : Nat) : ∀ n, popN n x = ((List.range n).filter x.testBit).length
  | 0 => rfl
  | n + 1 => by
    rw [List.range_succ, List.filter_append, List.length_append, popN, popN_filter x n]
    cases h : x.testBit n <;> simp [h] <;> omega
/-- The digits 1. -/
def dig (s : Nat) : List Nat := (List.range 63).filter s.testBit
theorem dig_of {s i : Nat} (hs : s < 2 ^ i) (hi : i ≤ 63) : (List.range i).filter s.testBit = dig s := by
  unfold dig
  rw [show (63 : Nat) = i + (63 - i) by omega, List.range_add, List.filter_append]
  have : ((List.range (63 - i)).map (i + ·)).filter s.testBit = [] := by
    rw [List.filter_eq_nil_iff]
    intro a ha
    obtain ⟨b, _, rfl⟩ := List.mem_map.1 ha
    have : s.testBit (i + b) = false := Nat.testBit_lt_two_pow (Nat.lt_of_lt_of_le hs (Nat.pow_le_pow_right (by decide) (by omega)))
    simp [this]
  rw [this, List.append_nil]
theorem dig_len {s : Nat} (hs : s < 4294967296) : (dig s).length = popN 32 s := by
  rw [popN_filter, dig_of (i := 32) hs (by decide)]

def addN (l : List Int) (n : Int) : List Int := if hasB l n then l else l ++ [n]
/-- The numbers of some domains. -/
def uni (D : List (List Int)) (ds : List Nat) : List Int := ds.foldl (fun l i => (D.getD i []).foldl addN l) []
def tight (D : List (List Int)) (s : Nat) : Bool := (dig s).length == (uni D (dig s)).length
def tightL (D : List (List Int)) (m : Nat) : List Int := ((List.range m).filter (tight D)).map fun (k : Nat) => (k : Int)
theorem tightL_yes {D : List (List Int)} {m : Nat} (h : tight D m = true) : tightL D (m + 1) = tightL D m ++ [(m : Int)] := by
  simp [tightL, List.range_succ, h]
theorem tightL_no {D : List (List Int)} {m : Nat} (h : tight D m = false) : tightL D (m + 1) = tightL D m := by
  simp [tightL, List.range_succ, h]
theorem tightL_len (D : List (List Int)) (m : Nat) : (tightL D m).length ≤ m := by
  have := List.length_filter_le (tight D) (List.range m)
  simpa [tightL] using this

/-- The domains that are walked, of the first i, and k numbers of the next one. -/
def uniP (D : List (List Int)) (ds : List Nat) (i k : Nat) : List Int := ((D.getD i []).take k).foldl addN (uni D ds)
theorem uniP_zero (D : List (List Int)) (ds : List Nat) (i : Nat) : uniP D ds i 0 = uni D ds := by simp [uniP]
theorem uniP_succ (D : List (List Int)) (ds : List Nat) (i k : Nat) (h : k < (D.getD i []).length) : uniP D ds i (k + 1) = addN (uniP D ds i k) ((D.getD i []).getD k 0) := by
  unfold uniP
  rw [List.take_add_one, List.foldl_append]
  generalize D.getD i [] = d at h ⊢
  simp [h]
theorem uniP_all (D : List (List Int)) (ds : List Nat) (i : Nat) : uniP D ds i (D.getD i []).length = uni D (ds ++ [i]) := by
  unfold uniP uni
  rw [List.take_length, List.foldl_append]
  rfl
theorem addN_len (l : List Int) (n : Int) : (addN l n).length ≤ l.length + 1 := by
  unfold addN; split <;> simp

/-- A number's binary digits 1 are a list. -/
structure Mask (m : Nat) (l : List Int) : Prop where
  lt : m < 4294967296
  bit : ∀ b, b < 32 → m.testBit b = hasB l (b : Int)
  len : popN 32 m = l.length
theorem Mask.nil : Mask 0 [] := ⟨by decide, by intro b _; simp [hasB], popN_zero 32⟩
theorem hasB_append (l : List Int) (n x : Int) : hasB (l ++ [n]) x = (hasB l x || x == n) := by
  unfold hasB; rw [Bool.eq_iff_iff]; simp
theorem Mask.add {m : Nat} {l : List Int} (h : Mask m l) {n : Nat} (hn : n < 32) : Mask (m ||| 2 ^ n) (addN l (n : Int)) := by
  have hb := h.bit n hn
  have h32 : (2 : Nat) ^ n < 2 ^ 32 := Nat.pow_lt_pow_right (by decide) hn
  refine ⟨?_, ?_, ?_⟩
  · have h1 : m < 2 ^ 32 := h.lt
    exact Nat.or_lt_two_pow h1 h32
  · intro b hb2
    rw [Nat.testBit_or, Nat.testBit_two_pow, h.bit b hb2]
    unfold addN
    split
    · next hh =>
      by_cases e : n = b
      · subst e; rw [hh]; simp
      · simp [e]
    · rw [hasB_append]
      congr 1
      rw [Bool.eq_iff_iff]; simp; omega
  · rw [popN_or, h.len, hb]
    unfold addN
    split
    · next hh => rw [hh]; simp
    · next hh => rw [Bool.not_eq_true] at hh; rw [hh]; simp [hn]

end Go.Proofs.Ytkkcgclliomocaa

namespace Go.Proofs.Ytkkcgclliomocaa
open Go.RowKit

def digI (n i : Nat) : List Int := ((List.range i).filter n.testBit).map fun (k : Nat) => (k : Int)
theorem digI_yes {n i : Nat} (h : n.testBit i = true) : digI n (i + 1) = digI n i ++ [(i : Int)] := by simp [digI, List.range_succ, h]
theorem digI_no {n i : Nat} (h : n.testBit i = false) : digI n (i + 1) = digI n i := by simp [digI, List.range_succ, h]
theorem digI_len (n i : Nat) : (digI n i).length ≤ i := by
  have := List.length_filter_le n.testBit (List.range i)
  simpa [digI] using this
theorem shr_cast (n i : Nat) : (n : Int) / 2 ^ i = ((n >>> i : Nat) : Int) := by
  rw [Nat.shiftRight_eq_div_pow]; push_cast; rfl
theorem ofInt_i64 (a : Nat) (ha : a < 9223372036854775808) : (BitVec.ofInt 64 (a : Int)).toNat = a := by
  rw [BitVec.ofInt_natCast, BitVec.toNat_ofNat]; exact Nat.mod_eq_of_lt (by omega)
theorem i64_and_nat (a b : Nat) (ha : a < 9223372036854775808) (hb : b < 9223372036854775808) : bits .and .i64 (a : Int) (b : Int) = ((a &&& b : Nat) : Int) := by
  have hx : a &&& b < 2 ^ 63 := Nat.and_lt_two_pow _ (by omega)
  show IntKind.i64.wrap ((BitVec.ofInt 64 (a : Int) &&& BitVec.ofInt 64 (b : Int)).toNat : Int) = _
  rw [BitVec.toNat_and, ofInt_i64 a ha, ofInt_i64 b hb, IntKind.wrap_i64]
  omega
theorem i64_or_nat (a b : Nat) (ha : a < 9223372036854775808) (hb : b < 9223372036854775808) : bits .or .i64 (a : Int) (b : Int) = ((a ||| b : Nat) : Int) := by
  have hx : a ||| b < 2 ^ 63 := Nat.or_lt_two_pow (by omega) (by omega)
  show IntKind.i64.wrap ((BitVec.ofInt 64 (a : Int) ||| BitVec.ofInt 64 (b : Int)).toNat : Int) = _
  rw [BitVec.toNat_or, ofInt_i64 a ha, ofInt_i64 b hb, IntKind.wrap_i64]
  omega
theorem bit_of (n i : Nat) : (n >>> i) &&& 1 = (n.testBit i).toNat := by
  rw [Nat.and_one_is_mod, Nat.testBit_eq_decide_div_mod_eq, Nat.shiftRight_eq_div_pow]
  by_cases h : n / 2 ^ i % 2 = 1
  · simp [h]
  · have : n / 2 ^ i % 2 = 0 := by omega
    simp [this]

theorem u64_shr_cast (n i : Nat) : (n : Int) / 2 ^ i = ((n >>> i : Nat) : Int) := shr_cast n i

theorem wrap64_nat {n : Nat} (h : n < 18446744073709551616) : IntKind.u64.wrap (n : Int) = (n : Int) := IntWalk.u64_in _ (by omega)
theorem and64 (a b : Nat) (ha : a < 18446744073709551616) (hb : b < 18446744073709551616) : bits .and .u64 (a : Int) (b : Int) = ((a &&& b : Nat) : Int) := u64_and_nat a b ha hb

end Go.Proofs.Ytkkcgclliomocaa

namespace Go.Proofs.Ytkkcgclliomocaa
open Go.RowKit Go.ChangeShapes

/-- The source in block sb: it has been read at most c times. -/
def SrcAt (w : World) (sb : Nat) (v : Value) (c : Nat) : Prop := ∃ a S : Nat, a ≤ c ∧ S < 18446744073709551616 ∧ Blk w sb 121 #[v, .int .i64 a, .int .u64 S]

theorem SrcAt.below {w w' : World} {sb : Nat} {v : Value} {c B : Nat} (h : SrcAt w sb v c) (hb : Below B w w') (hB : sb < B) : SrcAt w' sb v c := by
  obtain ⟨a, S, h1, h2, h3⟩ := h; exact ⟨a, S, h1, h2, h3.below hb hB⟩
theorem SrcAt.lt {w : World} {sb : Nat} {v : Value} {c : Nat} (h : SrcAt w sb v c) : sb < w.heap.size := by obtain ⟨a, S, h1, h2, h3⟩ := h; exact h3.lt
theorem SrcAt.mono {w : World} {sb : Nat} {v : Value} {c d : Nat} (h : SrcAt w sb v c) (hc : c ≤ d) : SrcAt w sb v d := by obtain ⟨a, S, h1, h2, h3⟩ := h; exact ⟨a, S, by omega, h2, h3⟩
theorem SrcAt.kept {S : Nat → Prop} {w w' : World} {sb : Nat} {v : Value} {c : Nat} (h : SrcAt w sb v c) (hk : Kept S w w') (hs : ¬ S sb) : SrcAt w' sb v c := by obtain ⟨a, S, h1, h2, h3⟩ := h; exact ⟨a, S, h1, h2, h3.kept hk hs⟩

/-- A draw: the answer lies in its bounds. -/
def DrawE (sb : Nat) (v : Value) (c : Nat) (n : Int) (w : World) (e : Ending) (w' : World) : Prop :=
  ∃ x : Int, 0 ≤ x ∧ x < n ∧ e = .returned (.int .i64 x) ∧ SrcAt w' sb v c ∧ Kept (· = sb) w w'

theorem shr40 (S : Nat) (h : S < 18446744073709551616) : ∃ x : Nat, x < 256 ∧ bits .and .u64 ((S : Int) / 1099511627776) 255 = (x : Int) := by
  refine ⟨(S >>> 40) &&& 255, ?_, ?_⟩
  · rw [show (255 : Nat) = 2 ^ 8 - 1 from rfl, Nat.and_two_pow_sub_one_eq_mod]; omega
  · have a1 : ((S : Int) / (1099511627776 : Int)) = ((S >>> 40 : Nat) : Int) := by rw [Nat.shiftRight_eq_div_pow]; rfl
    have l1 : S >>> 40 < 18446744073709551616 := Nat.lt_of_le_of_lt (Nat.shiftRight_le S 40) h
    rw [a1, show (255 : Int) = ((255 : Nat) : Int) from rfl, and64 _ _ l1 (by decide)]


theorem src_set {w : World} {sb : Nat} {v : Value} {a a' S : Nat} {e : Int} (h : Blk w sb 121 #[v, .int .i64 a, .int .u64 S]) :
    ∃ T : Nat, T < 18446744073709551616 ∧ Blk ((w.setCell ⟨sb, 1, none⟩ (.int .i64 a')).setCell ⟨sb, 2, none⟩ (.int .u64 (IntKind.u64.wrap e))) sb 121 #[v, .int .i64 a', .int .u64 T] := by
  have hw := bounds_u64 (wf_wrap .u64 e)
  refine ⟨(IntKind.u64.wrap e).toNat, by omega, ?_⟩
  have h1 := (h.set 1 (.int .i64 a')).set 2 (.int .u64 (IntKind.u64.wrap e))
  have e1 : (((IntKind.u64.wrap e).toNat : Nat) : Int) = IntKind.u64.wrap e := by omega
  rw [e1]
  simpa using h1

set_option maxHeartbeats 1000000 in
set_option maxRecDepth 4000 in
theorem next_any (W0 : World) (v : Value) (xs : List Int) (hR : RdB W0 v xs) (hw : WfB xs) (sb c : Nat) (w : World) (hb : Below W0.heap.size W0 w) (h : SrcAt w sb v c) (hc : c ≤ 1000000) :
    Calls Try.prog 99 #[.pointer (some ⟨sb, 0, none⟩)] w (DrawE sb v (c + 1) 256 w) := by
  obtain ⟨a, S, ha, hS, hk⟩ := h
  obtain ⟨ad, cap, rfl⟩ := hR.shape
  have hlen := hR.len
  unfold maxLen at hlen
  have d0 : w.cell? ⟨sb, 0, none⟩ = some (.slice ad xs.length cap) := hk.cell 0 rfl
  have d1 : w.cell? ⟨sb, 1, none⟩ = some (.int .i64 a) := hk.cell 1 rfl
  have d2 : w.cell? ⟨sb, 2, none⟩ = some (.int .u64 S) := hk.cell 2 rfl
  have f1 := hk.free 1
  have f2 := hk.free 2
  have HK := Lib.hid hk
  have HR := Lib.hid (hR.up hb (Nat.le_refl _))
  have HS := Lib.hid hS
  clear hR hk hb hS
  by_cases hl : a < xs.length
  · obtain ⟨b, off, rfl, _, hcell⟩ := HR.out.at hl
    obtain ⟨hx0, hx1⟩ := hw.at hl
    obtain ⟨x, hx⟩ : ∃ x, x = xs.getD a 0 := ⟨_, rfl⟩
    rw [← hx] at hcell hx0 hx1
    clear hx hw
    have k1 : (a : Int) < (xs.length : Int) := by omega
    have k2 : (a : Int) + 1 ≤ (xs.length : Int) := by omega
    go_enter Try.func99, Try.ntmps99
    go_wp2_with fail
    go_quiet (fail)
    go_wp2_with fail
    go_quiet (fail)
    go_upto_region 6 with fail
    refine wp_at fun W hW => ?_
    have HW : Hid (∃ T : Nat, T < 18446744073709551616 ∧ Blk W sb 121 #[.slice (some ⟨b, off, none⟩) xs.length cap, .int .i64 ((a + 1 : Nat) : Int), .int .u64 T]) := by subst hW; exact src_set (w := w.drewN _) HK.out
    have HKP := Lib.hid (show Kept (· = sb) w W by subst hW; exact (((Kept.refl (· = sb) w).drewN _).setCell (.inr rfl) _).setCell (.inr rfl) _)
    clear hW d0 d1 d2 f1 f2 hcell
    obtain ⟨T, hT, hB⟩ := HW.out
    have d0 : W.cell? ⟨sb, 0, none⟩ = some (.slice (some ⟨b, off, none⟩) xs.length cap) := hB.cell 0 rfl
    have d1 : W.cell? ⟨sb, 1, none⟩ = some (.int .i64 ((a + 1 : Nat) : Int)) := hB.cell 1 rfl
    have HT := Lib.hid hT
    have HB := Lib.hid hB
    have k3 : ((a + 1 : Nat) : Int) ≤ (xs.length : Int) := by omega
    clear hT hB
    go_quiet (fail)
    go_wp2_with fail
    go_ret
    exact ⟨x, hx0, by omega, rfl, ⟨a + 1, T, by omega, HT.out, HB.out⟩, HKP.out.drewN _⟩
  · have k1 : ¬ (a : Int) < (xs.length : Int) := by omega
    have k2 : (xs.length : Int) ≤ (a : Int) := by omega
    clear hl
    go_enter Try.func99, Try.ntmps99
    go_wp2_with fail
    go_quiet (fail)
    go_upto_region 6 with fail
    refine wp_at fun W hW => ?_
    have HW : Hid (∃ T : Nat, T < 18446744073709551616 ∧ Blk W sb 121 #[.slice ad xs.length cap, .int .i64 ((a + 1 : Nat) : Int), .int .u64 T]) := by subst hW; exact src_set (w := w.drewN _) HK.out
    have HKP := Lib.hid (show Kept (· = sb) w W by subst hW; exact (((Kept.refl (· = sb) w).drewN _).setCell (.inr rfl) _).setCell (.inr rfl) _)
    clear hW d0 d1 d2 f1 f2
    obtain ⟨T, hT, hB⟩ := HW.out
    have d0 : W.cell? ⟨sb, 0, none⟩ = some (.slice ad xs.length cap) := hB.cell 0 rfl
    have d1 : W.cell? ⟨sb, 1, none⟩ = some (.int .i64 ((a + 1 : Nat) : Int)) := hB.cell 1 rfl
    have d2 : W.cell? ⟨sb, 2, none⟩ = some (.int .u64 T) := hB.cell 2 rfl
    obtain ⟨x, hx1, hx2⟩ := shr40 T hT
    have HT := Lib.hid hT
    have HB := Lib.hid hB
    have k3 : (xs.length : Int) < ((a + 1 : Nat) : Int) := by omega
    clear hT hB
    go_quiet (fail)
    go_wp2_with fail
    go_ret
    exact ⟨x, by omega, by omega, rfl, ⟨a + 1, T, by omega, HT.out, HB.out⟩, HKP.out.drewN _⟩

set_option maxHeartbeats 1000000 in
theorem pick_any (W0 : World) (v : Value) (xs : List Int) (hR : RdB W0 v xs) (hw : WfB xs) (sb c : Nat) (w : World) (hsb : W0.heap.size ≤ sb) (hb : Below W0.heap.size W0 w) (h : SrcAt w sb v c) (hc : c ≤ 999990) (n : Int) (h1 : 1 ≤ n) (h2 : n ≤ 65536) :
    Calls Try.prog 49 #[.pointer (some ⟨sb, 0, none⟩), .int .i64 n] w (DrawE sb v (c + 2) n w) := by
  have HR := Lib.hid hR
  have HW := Lib.hid hw
  have HB := Lib.hid hb
  have HS := Lib.hid h
  clear hR hw hb h
  by_cases hn : n ≤ 1
  · go_enter Try.func49, Try.ntmps49
    go_wp2_with fail
    go_ret
    exact ⟨0, by omega, by omega, rfl, HS.out.mono (by omega), Kept.refl _ _⟩
  by_cases hm : n ≤ 200
  · go_enter Try.func49, Try.ntmps49
    go_wp2_with fail
    refine (next_any W0 v xs HR.out HW.out sb c w HB.out HS.out (by omega)).mono ?_
    rintro e w1 ⟨x, hx0, hx1, rfl, hs, hk⟩
    have HS1 := Lib.hid hs
    have HK1 := Lib.hid hk
    clear hs hk
    go_wp2_with fail
    go_ret
    exact ⟨x % n, Int.emod_nonneg _ (by omega), Int.emod_lt_of_pos _ (by omega), rfl, HS1.out.mono (by omega), HK1.out⟩
  · go_enter Try.func49, Try.ntmps49
    go_wp2_with fail
    refine (next_any W0 v xs HR.out HW.out sb c w HB.out HS.out (by omega)).mono ?_
    rintro e w1 ⟨x, hx0, hx1, rfl, hs, hk⟩
    have HS1 := Lib.hid hs
    have HK1 := Lib.hid hk
    have HB1 := Lib.hid (HB.out.trans (hk.toBelow HB.out.size (by intro k h1 h2; omega)))
    clear hs hk
    go_wp2_with fail
    refine (next_any W0 v xs HR.out HW.out sb (c + 1) w1 HB1.out HS1.out (by omega)).mono ?_
    rintro e w2 ⟨y, hy0, hy1, rfl, hs, hk⟩
    have HS2 := Lib.hid hs
    have HK2 := Lib.hid hk
    clear hs hk
    go_wp2_with fail
    go_ret
    exact ⟨(x * 256 + y) % n, Int.emod_nonneg _ (by omega), Int.emod_lt_of_pos _ (by omega), rfl, HS2.out.mono (by omega), HK1.out.trans HK2.out⟩

set_option maxHeartbeats 400000 in
theorem l00From_any (v : Value) (xs : List Int) (w : World) (hR : RdB w v xs) :
    Calls Try.prog 48 #[v] w fun e w' => e = .returned (.pointer (some ⟨w.heap.size, 0, none⟩)) ∧ SrcAt w' w.heap.size v 0 ∧ Below w.heap.size w w' := by
  obtain ⟨ad, cap, rfl⟩ := hR.shape
  clear hR
  go_enter Try.func48, Try.ntmps48
  go_wp2_with fail
  go_ret
  exact ⟨rfl, ⟨0, 0, Nat.le_refl _, by decide, Blk.new _ _ _⟩, by (repeat' first | exact Below.refl _ _ | assumption | refine Below.alloc ?_ ?_ _ | refine Below.setCell ?_ ?_ _ | refine Below.drew ?_ | (simp; done) | (simp; omega))⟩

end Go.Proofs.Ytkkcgclliomocaa

namespace Go.Proofs.Ytkkcgclliomocaa
open Go.RowKit

def cntL (zss : List (List Int)) : Nat := lsum zss
theorem cntL_le (zss : List (List Int)) : cntL zss ≤ bulkL zss := by unfold cntL bulkL; omega
/-- The first j lists marked from k on. -/
def mkP (k : Int) : List (List Int) → Nat → List (List Int)
  | [], _ => []
  | zss, 0 => zss
  | z :: r, j + 1 => mkI k z.length :: mkP (k + z.length) r j
def mkdL (k : Int) (zss : List (List Int)) : List (List Int) := mkP k zss zss.length
theorem mkP_zero (k : Int) (zss : List (List Int)) : mkP k zss 0 = zss := by cases zss <;> rfl
theorem mkP_length (k : Int) : ∀ (zss : List (List Int)) (j : Nat), (mkP k zss j).length = zss.length
  | [], j => by cases j <;> rfl
  | z :: r, 0 => rfl
  | z :: r, j + 1 => by simp only [mkP, List.length_cons, mkP_length (k + z.length) r j]
theorem mkP_late (k : Int) : ∀ (zss : List (List Int)) (j i : Nat), j ≤ i → (mkP k zss j)[i]? = zss[i]?
  | [], j, i, _ => by cases j <;> rfl
  | z :: r, 0, i, _ => rfl
  | z :: r, j + 1, i, h => by
    cases i with
    | zero => omega
    | succ i => simp only [mkP, List.getElem?_cons_succ]; exact mkP_late (k + z.length) r j i (by omega)
theorem mkP_set (k : Int) : ∀ (zss : List (List Int)) (j : Nat), j < zss.length → mkP k zss (j + 1) = (mkP k zss j).set j (mkI (k + lsum (zss.take j)) (zss.getD j []).length)
  | [], j, h => by simp at h
  | z :: r, 0, h => by simp [mkP, mkP_zero, lsum]
  | z :: r, j + 1, h => by
    have ih := mkP_set (k + z.length) r j (by simpa using h)
    rw [mkP, ih, mkP, List.set_cons_succ]
    congr 2
    simp only [List.take_succ_cons, lsum, List.getD_cons_succ]
    congr 1
    push_cast
    omega
theorem mkdL_at (k : Int) : ∀ (zss : List (List Int)) (j i : Nat), i < j → i < zss.length → (mkP k zss j)[i]? = some (mkI (k + lsum (zss.take i)) (zss.getD i []).length)
  | [], j, i, _, h => by simp at h
  | z :: r, 0, i, h, _ => by omega
  | z :: r, j + 1, 0, _, _ => by simp [mkP, lsum]
  | z :: r, j + 1, i + 1, h, h2 => by
    have ih := mkdL_at (k + z.length) r j i (by omega) (by simpa using h2)
    simp only [mkP, List.getElem?_cons_succ, ih, List.take_succ_cons, lsum, List.getD_cons_succ]
    congr 2
    push_cast
    omega

theorem owns_ne {w : World} {b1 b2 n1 n2 g : Nat} {e1 e2 : TypeId} {v1 v2 : Value} {x1 x2 : List Value} (h1 : w.ownsRow b1 e1 1 v1 n1 x1) (h2 : w.ownsRow b2 e2 1 v2 n2 x2) (hne : e1 ≠ e2) (hg : v1.ownBlock = some g) : v2.ownBlock ≠ some g := by
  intro hg2
  rcases h1.2 with ⟨rfl, _⟩ | ⟨a, cap, cur, rfl, _, hh, _⟩
  · simp [Value.ownBlock] at hg
  · rcases h2.2 with ⟨rfl, _⟩ | ⟨a2, cap2, cur2, rfl, _, hh2, _⟩
    · simp [Value.ownBlock] at hg2
    · simp only [Value.ownBlock, Option.some.injEq] at hg hg2
      subst hg hg2
      rw [hh] at hh2
      simp only [Option.some.injEq, Obj.cells.injEq] at hh2
      exact hne hh2.2.1
/-- Where memory that is owned lies: in a block of its own, or nowhere. -/
theorem OwnI.own {lo hi : Nat} {w : World} {u : Value} {zs : List Int} (h : OwnI lo hi w u zs) : ∃ l h', OwnI l h' w u zs ∧ ((u.ownBlock = none ∧ l = 0 ∧ h' = 0) ∨ (u.ownBlock = some l ∧ h' = l + 1 ∧ lo ≤ l ∧ l < hi)) := by
  obtain ⟨h1, h2⟩ := h
  rcases h1.2 with ⟨rfl, e⟩ | ⟨g, cap, cur, rfl, a1, a2⟩
  · exact ⟨0, 0, ⟨⟨h1.1, .inl ⟨rfl, e⟩⟩, by intro g hg; cases hg⟩, .inl ⟨rfl, rfl, rfl⟩⟩
  · exact ⟨g, g + 1, ⟨⟨h1.1, .inr ⟨g, cap, cur, rfl, Nat.le_refl _, a2⟩⟩, by intro g' hg; simp only [Value.ownBlock, Option.some.injEq] at hg; omega⟩, .inr ⟨rfl, rfl, a1, h2 g rfl⟩⟩

/-- One of the rows is written anew: the others are as they were. -/
theorem OwnEach.set {lo hi l h' : Nat} {w w' : World} {vs : List Value} {zss : List (List Int)} {i : Nat} {u : Value} {z : List Int} (h : OwnEach lo hi w vs zss) (hu : vs[i]? = some u)
    (hl : (u.ownBlock = none ∧ l = 0 ∧ h' = 0) ∨ (u.ownBlock = some l ∧ h' = l + 1 ∧ lo ≤ l ∧ l < hi)) (hn : OwnI l h' w' u z) (hk : Kept (fun b => l ≤ b ∧ b < h') w w') : OwnEach lo hi w' vs (zss.set i z) := by
  refine ⟨by rw [List.length_set]; exact h.1, fun j u' zs h1 h2 => ?_, h.2.2⟩
  by_cases hji : j = i
  · subst hji
    rw [hu] at h1
    simp only [Option.some.injEq] at h1
    subst h1
    have hlt : j < zss.length := by rw [← h.1]; exact (List.getElem?_eq_some_iff.1 hu).1
    rw [List.getElem?_set_self (by simpa using hlt)] at h2
    simp only [Option.some.injEq] at h2
    subst h2
    rcases hl with ⟨e, rfl, rfl⟩ | ⟨e, rfl, a1, a2⟩
    · refine ⟨⟨hn.1.1, ?_⟩, by intro g hg; rw [e] at hg; cases hg⟩
      rcases hn.1.2 with x | ⟨g, cap, cur, rfl, _⟩
      · exact .inl x
      · simp [Value.ownBlock] at e
    · exact hn.wide a1 (by omega)
  · rw [List.getElem?_set_ne (by omega)] at h2
    have ho := h.2.1 j u' zs h1 h2
    refine ⟨owns_kept ho.1 hk ?_, ho.2⟩
    rintro g hg ⟨hs1, hs2⟩
    rcases hl with ⟨e, rfl, rfl⟩ | ⟨e, rfl, a1, a2⟩
    · omega
    · have : g = l := by omega
      subst this
      exact h.2.2 i j u u' g (by omega) hu h1 e hg

set_option maxHeartbeats 1000000 in
theorem markL_o (v : Value) (lo hi : Nat) (zss : List (List Int)) (k : Int) (w : World) (ho : OwnL lo hi w v zss) (h0 : 0 ≤ k) (h1 : k + cntL zss ≤ 1099511627776) :
    Calls Try.prog 66 #[v, .int .i64 k] w fun e w' => e = .returned (.int .i64 (k + cntL zss)) ∧ OwnL lo hi w' v (mkdL k zss) ∧ Kept (fun b => lo ≤ b ∧ b < hi) w w' := by
  obtain ⟨a, c, rfl⟩ := ho.rd.shape
  have hl := ho.rd.len
  unfold maxLen at hl
  obtain ⟨vs, hown, hhi, heach⟩ := ho
  have hvl : vs.length = zss.length := heach.1
  have HO := Lib.hid hown
  have HH := Lib.hid hhi
  have HE := Lib.hid heach
  have HVL := Lib.hid hvl
  have HC := Lib.hid h1
  clear hown heach hhi hvl h1
  go_enter Try.func66, Try.ntmps66
  go_wp2_with fail
  go_loopw [1, 5] (fun kk i wr => ∃ j : Nat, i = .int .i64 j ∧ j ≤ zss.length ∧ kk = .int .i64 (k + lsum (zss.take j)) ∧ wr.ownsRow lo 65 1 (.slice a zss.length c) zss.length vs ∧ OwnEach lo hi wr vs (mkP k zss j) ∧ Kept (fun b => lo ≤ b ∧ b < hi) w wr) (fun _ i _ => zss.length - (intOf i).toNat)
  case atStart => exact ⟨0, rfl, Nat.zero_le _, by simp [lsum], HO.out, by rw [mkP_zero]; exact HE.out, Kept.refl _ _⟩
  case round =>
    obtain ⟨j, rfl, hj, rfl, hown, heach, hkp⟩ := hrel
    have HO1 := Lib.hid hown
    have HE1 := Lib.hid heach
    have HK1 := Lib.hid hkp
    clear heach hkp
    by_cases hlt : j < zss.length
    · obtain ⟨g, rfl, hlo⟩ := owns_slice_some hown (by omega)
      clear hown
      obtain ⟨u, hu⟩ : ∃ u, vs[j]? = some u := ⟨vs[j]'(by rw [HVL.out]; exact hlt), by simp [HVL.out, hlt]⟩
      have hd := HO1.out.cellAt j (by omega)
      rw [hu] at hd
      have hz : (mkP k zss j)[j]? = some (zss.getD j []) := by rw [mkP_late k zss j j (Nat.le_refl _)]; simp [hlt]
      obtain ⟨l, h', hoi, hcase⟩ := (HE1.out.2.1 j u _ hu hz).own
      have HS := Lib.hid (mkP_set k zss j hlt)
      have HT := Lib.hid (sum_take_succ zss j hlt)
      have HB := Lib.hid (bulkL_le zss (j + 1))
      obtain ⟨z, hzk⟩ : ∃ z, z = zss.getD j [] := ⟨_, rfl⟩
      rw [← hzk] at hoi HS HT
      obtain ⟨sm, hsm⟩ : ∃ s, s = lsum (zss.take j) := ⟨_, rfl⟩
      rw [← hsm] at HS HT ⊢
      have hbound : (sm : Int) + z.length ≤ cntL zss := by
        have h1 := HT.out
        have h2 := HB.out
        unfold cntL
        unfold bulkL at h2
        omega
      obtain ⟨ua, uc, rfl⟩ := hoi.rd.shape
      have HOI := Lib.hid hoi
      have HU := Lib.hid hu
      have HCA := Lib.hid hcase
      clear hoi hz hu hsm hzk
      go_wp2_with fail
      refine (markI_any _ l h' z (k + sm) wr HOI.out (by omega) (by have := HC.out; omega)).mono ?_
      rintro e w2 ⟨rfl, ho2, hk2⟩
      have HE2 := Lib.hid (HE1.out.set HU.out HCA.out ho2 hk2)
      have HO2 := Lib.hid (owns_kept HO1.out hk2 (by
        rintro g' hg' ⟨s1, s2⟩
        rcases HCA.out with ⟨_, rfl, rfl⟩ | ⟨e, rfl, _, _⟩
        · omega
        · have : g' = l := by omega
          subst this
          exact owns_ne HO1.out HOI.out.1 (by decide) hg' e))
      have HK2 := Lib.hid (HK1.out.trans (hk2.mono (S' := fun b => lo ≤ b ∧ b < hi) (by
        rintro b _ ⟨s1, s2⟩
        rcases HCA.out with ⟨_, rfl, rfl⟩ | ⟨e, rfl, a1, a2⟩
        · omega
        · omega)))
      clear ho2 hk2 hd
      have HCC := HC.out
      go_wp2_with fail
      go_roundw
      case rel => exact ⟨j + 1, by go_num, by omega, by rw [HT.out]; push_cast; go_num, HO2.out, by rw [HS.out]; exact HE2.out, HK2.out⟩
      case measure => simp [intOf]; omega
    · obtain rfl : j = zss.length := by omega
      clear hown
      go_wp2_with fail
      go_ret
      refine ⟨by rw [List.take_length]; rfl, ⟨vs, ?_, HH.out, HE1.out⟩, HK1.out⟩
      rw [mkdL, mkP_length]
      exact HO1.out

end Go.Proofs.Ytkkcgclliomocaa

namespace Go.Proofs.Ytkkcgclliomocaa
open Go.RowKit

theorem app_list {w : World} {ops : Array Oper} {rest : List Oper} {o : Oper} {a : Act} {Q : Exit → Act → World → Prop} (hgd : o.guard = none) (s x : Operand)
    (ho : o.op = .call { callee := .builtin .append, args := #[s, x], argTypes := #[29, 29] })
    (base : Nat) (v : Value) (n : Nat) (vs : List Value) (hs : a.eval s = v) (hown : w.ownsRow base 65 1 v n vs)
    (sv : Value) (ua : Option Addr) (un uc : Nat) (hx : a.eval x = sv) (hsv : Slc w sv [.slice ua un uc]) (hlen : n ≤ 1048576) (hbase : base ≤ w.heap.size)
    (h : ∀ a' cap' w', w'.ownsRow base 65 1 (.slice a' (n + 1) cap') (n + 1) (vs ++ [.slice ua un uc]) → Below base w w' → w.grownBy w' v.ownBlock → wpList Try.prog ops Q rest (a.put o.dst (.slice a' (n + 1) cap')) w') :
    wpList Try.prog ops Q (o :: rest) a w := by
  obtain ⟨i0, hi, hz0, hz1, hz2⟩ := info_parts Try.infoInts
  refine wpList_append_slc hgd s x 29 ho base 65 i0 (.slice none 0 0) 24 Try.underlying29 hi hz0 hz1 hz2 rfl v n vs hs hown sv [.slice ua un uc] hx hsv (by intro u hu; simp at hu; subst hu; rfl) (by simp [maxLen]; omega) (by simp; omega) hbase ?_
  intro v' w' h1 h2 h3
  obtain ⟨a', cap', rfl⟩ := owns_shape h1
  exact h a' cap' w' h1 (below_grown hown hbase h2) h2

/-- A new row of one list. -/
theorem slc_list (w : World) (u : Value) (b : Nat) (hb : b = w.heap.size) : Slc (w.alloc (.cells #[u] 65)) (.slice (some ⟨b, 0, none⟩) 1 1) [u] := by
  subst hb
  exact slc_of_owns (World.ownsRow_lit (base := w.heap.size) (e := 65) (size := 1) w #[u] 1 (Nat.le_refl _) (by simp [maxLen]) rfl)

/-- The lists of one's own, and one more. -/
theorem OwnEach.snoc {lo hi l2 h2 : Nat} {w w' : World} {v u : Value} {n : Nat} {vs : List Value} {zss : List (List Int)} {z : List Int} (hv : w.ownsRow lo 65 1 v n vs) (he : OwnEach lo hi w vs zss) (hu : OwnI l2 h2 w u z) (hhi : hi ≤ l2) (hl : lo ≤ l2) (h2w : h2 ≤ w.heap.size) (hiw : hi ≤ w.heap.size) (hg : w.grownBy w' v.ownBlock) :
    OwnEach lo w'.heap.size w' (vs ++ [u]) (zss ++ [z]) := by
  have hz := hg.size
  have keep : ∀ {l h : Nat} {u : Value} {z : List Int}, OwnI l h w u z → OwnI l h w' u z := by
    intro l h u z ho
    refine ⟨owns_kept (S := fun k => v.ownBlock = some k) ho.1 ⟨hg.os, hg.tape, hg.output, hg.size, fun k hk hs => hg.block k hk fun e => hs e.symm⟩ (fun g h1 h2 => owns_ne ho.1 hv (by decide) h1 h2), ho.2⟩
  have at' : ∀ (i : Nat) u1 z1, (vs ++ [u])[i]? = some u1 → (zss ++ [z])[i]? = some z1 → (i < zss.length ∧ vs[i]? = some u1 ∧ zss[i]? = some z1) ∨ (i = zss.length ∧ u1 = u ∧ z1 = z) := by
    intro i u1 z1 h1 h2
    by_cases hik : i < zss.length
    · rw [List.getElem?_append_left (by rw [he.1]; exact hik)] at h1
      rw [List.getElem?_append_left hik] at h2
      exact .inl ⟨hik, h1, h2⟩
    · have hik' : i = zss.length := by
        have := (List.getElem?_eq_some_iff.1 h2).1
        simp at this
        omega
      subst hik'
      rw [List.getElem?_append_right (by rw [he.1]; exact Nat.le_refl _), he.1] at h1
      rw [List.getElem?_append_right (Nat.le_refl _)] at h2
      simp at h1 h2
      exact .inr ⟨rfl, h1.symm, h2.symm⟩
  refine ⟨by simp [he.1], ?_, ?_⟩
  · intro i u1 z1 h1 h2'
    rcases at' i u1 z1 h1 h2' with ⟨_, q1, q2⟩ | ⟨_, rfl, rfl⟩
    · exact (keep (he.2.1 i u1 z1 q1 q2)).wide (Nat.le_refl _) (by omega)
    · exact (keep hu).wide hl (by omega)
  · intro i j u1 u2 g hij h1 h2' hg1 hg2
    have zat : ∀ (i : Nat) u1, (vs ++ [u])[i]? = some u1 → ∃ z1, (zss ++ [z])[i]? = some z1 := by
      intro i u1 h
      have := (List.getElem?_eq_some_iff.1 h).1
      simp [he.1] at this
      exact ⟨(zss ++ [z])[i]'(by simp; omega), List.getElem?_eq_getElem (by simp; omega)⟩
    obtain ⟨z1, q1⟩ := zat i u1 h1
    obtain ⟨z2, q2⟩ := zat j u2 h2'
    rcases at' i u1 z1 h1 q1 with ⟨a1, a2, a3⟩ | ⟨a1, rfl, rfl⟩ <;> rcases at' j u2 z2 h2' q2 with ⟨c1, c2, c3⟩ | ⟨c1, rfl, rfl⟩
    · exact he.2.2 i j u1 u2 g hij a2 c2 hg1 hg2
    · have := (he.2.1 i u1 z1 a2 a3).2 g hg1
      have := (owns_lt hu.1 hg2).1
      omega
    · have := (he.2.1 j u2 z2 c2 c3).2 g hg2
      have := (owns_lt hu.1 hg1).1
      omega
    · omega

end Go.Proofs.Ytkkcgclliomocaa
