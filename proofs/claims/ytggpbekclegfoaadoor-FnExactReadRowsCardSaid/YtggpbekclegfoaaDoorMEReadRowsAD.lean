/-
  FnExactReadRows: texts joined: JournM, TextM, AllIn, CutM, JournI, TextI, Same, SameL, SameC, Float, PredF.
-/
import Derived.Lib.SmallJoins
import Derived.Lib.Join
import Derived.Lib.IndexMore
import Derived.Deep.RegionHeld3
import Derived.Laws.FloatArith
import Derived.Test.YtggpbekclegfoaaDoorMEReadRowsAA
import Derived.Test.YtggpbekclegfoaaDoorMEReadRowsAB
import Derived.Test.YtggpbekclegfoaaDoorMEReadRowsAC
namespace Go.Proofs.YtggpbekclegfoaaDoor
open Go.RowKit

def B1 (b : UInt8) : ByteArray := ⟨#[b]⟩
def ent (c : Nat) (l : ByteArray) : ByteArray := decS c ++ B1 32 ++ l ++ B1 10
def chkN (c : Nat) (l : ByteArray) : Nat := (chkL c (bytesOf l)).toNat
theorem chkN_eq {c : Nat} (h : c < 65003) (l : ByteArray) : chkL c (bytesOf l) = (chkN c l : Int) := by
  have := chkL_bd (bytesOf l) c (by omega) (by omega)
  unfold chkN
  omega
theorem chkN_lt {c : Nat} (h : c < 65003) (l : ByteArray) : chkN c l < 65003 := by
  have := chkL_bd (bytesOf l) c (by omega) (by omega)
  unfold chkN
  omega
def jrC (ls : List ByteArray) : Nat → Nat
  | 0 => 0
  | k + 1 => chkN (jrC ls k) (ls.getD k E0)
def jrS (ls : List ByteArray) : Nat → ByteArray
  | 0 => E0
  | k + 1 => jrS ls k ++ ent (jrC ls (k + 1)) (ls.getD k E0)
theorem jrC_lt (ls : List ByteArray) : ∀ k, jrC ls k < 65003
  | 0 => by simp [jrC]
  | k + 1 => chkN_lt (jrC_lt ls k) _
theorem ent_size (c : Nat) (l : ByteArray) : (ent c l).size = (decS c).size + l.size + 2 := by
  unfold ent
  rw [ByteArray.size_append, ByteArray.size_append, ByteArray.size_append]
  have e : ∀ b, (B1 b).size = 1 := fun _ => rfl
  rw [e, e]
  omega
theorem jrS_ge (ls : List ByteArray) : ∀ k, k ≤ ls.length → sumS (ls.take k) + 3 * k ≤ (jrS ls k).size
  | 0, _ => by simp [sumS, jrS]
  | k + 1, h => by
    have ih := jrS_ge ls k (by omega)
    have h1 := sumS_take ls k (by omega)
    have h2 := decS_pos (jrC ls (k + 1))
    show _ ≤ (jrS ls k ++ ent (jrC ls (k + 1)) (ls.getD k E0)).size
    rw [ByteArray.size_append, ent_size, h1]
    omega
theorem jrS_le (ls : List ByteArray) : ∀ k, k ≤ ls.length → (jrS ls k).size ≤ sumS (ls.take k) + 20 * k
  | 0, _ => by show E0.size ≤ _; exact Nat.zero_le _
  | k + 1, h => by
    have ih := jrS_le ls k (by omega)
    have h1 := sumS_take ls k (by omega)
    have h2 := decS_size (n := jrC ls (k + 1)) (by have := jrC_lt ls (k + 1); omega)
    show (jrS ls k ++ ent (jrC ls (k + 1)) (ls.getD k E0)).size ≤ _
    rw [ByteArray.size_append, ent_size, h1]
    omega
theorem jrS_mono (ls : List ByteArray) : ∀ (k d : Nat), (jrS ls k).size ≤ (jrS ls (k + d)).size
  | k, 0 => Nat.le_refl _
  | k, d + 1 => by
    refine Nat.le_trans (jrS_mono ls k d) ?_
    show _ ≤ (jrS ls (k + d) ++ _).size
    rw [ByteArray.size_append]
    omega
theorem sumS_le (ls : List ByteArray) : ∀ k, sumS (ls.take k) ≤ sumS ls := by
  intro k
  have : sumS ls = sumS (ls.take k) + sumS (ls.drop k) := by
    unfold sumS
    rw [← List.sum_append, ← List.map_append, List.take_append_drop]
  omega

def hasNL (l : ByteArray) : Bool := decide (0 ≤ Lib.indexByte l.data.toList 10)
theorem indexByte_mem (l : List UInt8) (c : UInt8) : 0 ≤ Lib.indexByte l c ↔ c ∈ l := by
  induction l with
  | nil => simp [Lib.indexByte]
  | cons b r ih =>
    have hge := Lib.indexByte_ge r c
    simp only [Lib.indexByte, List.mem_cons]
    by_cases hb : (b == c) = true
    · rw [if_pos hb]
      have := eq_of_beq hb
      simp [this]
    · rw [if_neg hb]
      have hne : ¬ c = b := fun e => hb (by simp [e])
      by_cases h2 : (Lib.indexByte r c == -1) = true
      · rw [if_pos h2]
        have h3 := eq_of_beq h2
        rw [h3] at ih
        simp only [hne, false_or, ← ih]
      · rw [if_neg h2]
        have h3 : ¬ Lib.indexByte r c = -1 := by simpa using h2
        simp only [hne, false_or, ← ih]
        omega
theorem hasNL_yes {l : ByteArray} {k : Nat} (hk : k < l.size) (h : l[k].toNat = 10) : hasNL l = true := by
  unfold hasNL
  rw [decide_eq_true_iff, indexByte_mem]
  have h1 : l.data.toList[k]? = some l[k] := by
    rw [List.getElem?_eq_getElem (by rw [Array.length_toList]; exact hk), Array.getElem_toList]; rfl
  have h2 : l[k] = 10 := UInt8.toNat_inj.1 (by rw [h]; rfl)
  rw [h2] at h1
  exact List.mem_of_getElem? h1
theorem hasNL_no {l : ByteArray} (h : ∀ k (hk : k < l.size), l[k].toNat ≠ 10) : hasNL l = false := by
  unfold hasNL
  rw [decide_eq_false_iff_not, indexByte_mem]
  intro hm
  obtain ⟨k, hk, he⟩ := List.mem_iff_getElem.1 hm
  rw [Array.length_toList] at hk
  refine h k hk ?_
  have : l[k] = 10 := by rw [← he, Array.getElem_toList]; rfl
  rw [this]; rfl

def noNL (ls : List ByteArray) : Bool := ls.all fun l => !hasNL l
def jrOk (ls : List ByteArray) : Bool := noNL ls && decide ((jrS ls ls.length).size ≤ 16000)
def jrR (ls : List ByteArray) : ByteArray := if jrOk ls = true then jrS ls ls.length else E0
theorem noNL_false {ls : List ByteArray} {k : Nat} (hk : k < ls.length) (h : hasNL (ls.getD k E0) = true) : noNL ls = false := by
  cases hb : noNL ls
  · rfl
  · unfold noNL at hb
    rw [List.all_eq_true] at hb
    have := hb _ (getD_mem hk)
    rw [h] at this
    cases this
theorem noNL_true {ls : List ByteArray} (h : ∀ k, k < ls.length → hasNL (ls.getD k E0) = false) : noNL ls = true := by
  unfold noNL
  rw [List.all_eq_true]
  intro l hl
  obtain ⟨k, hk, rfl⟩ := List.mem_iff_getElem.1 hl
  have := h k hk
  rw [List.getD_eq_getElem?_getD, List.getElem?_eq_getElem hk] at this
  rw [show (some ls[k]).getD E0 = ls[k] from rfl] at this
  rw [this]; rfl
theorem jrOk_nl {ls : List ByteArray} {k : Nat} (hk : k < ls.length) (h : hasNL (ls.getD k E0) = true) : jrOk ls = false ∧ jrR ls = E0 := by
  have : jrOk ls = false := by unfold jrOk; rw [noNL_false hk h]; rfl
  exact ⟨this, by unfold jrR; rw [this]; rfl⟩
theorem jrOk_big {ls : List ByteArray} (h : 16000 < (jrS ls ls.length).size) : jrOk ls = false ∧ jrR ls = E0 := by
  have : jrOk ls = false := by unfold jrOk; rw [show decide ((jrS ls ls.length).size ≤ 16000) = false by simp; omega, Bool.and_false]
  exact ⟨this, by unfold jrR; rw [this]; rfl⟩
theorem jrOk_big2 {ls : List ByteArray} {k : Nat} (hk : k ≤ ls.length) (h : 16000 < sumS (ls.take k) + 3 * k) : jrOk ls = false ∧ jrR ls = E0 := by
  refine jrOk_big ?_
  have h1 := jrS_ge ls k hk
  have h2 := jrS_mono ls k (ls.length - k)
  rw [show k + (ls.length - k) = ls.length by omega] at h2
  omega
theorem jrOk_yes {ls : List ByteArray} (h : ∀ k, k < ls.length → hasNL (ls.getD k E0) = false) (h2 : (jrS ls ls.length).size ≤ 16000) : jrOk ls = true ∧ jrR ls = jrS ls ls.length := by
  have : jrOk ls = true := by unfold jrOk; rw [noNL_true h]; simp; exact h2
  exact ⟨this, by unfold jrR; rw [if_pos this]⟩
theorem strCells_add (a b : ByteArray) : Lib.strCells (a ++ b) = Lib.strCells a ++ Lib.strCells b := by
  unfold Lib.strCells
  rw [ByteArray.data_append, Array.toList_append, List.map_append]

end Go.Proofs.YtggpbekclegfoaaDoor

namespace Go.Proofs.YtggpbekclegfoaaDoor
open Go.RowKit

def noneS : ByteArray := ⟨#[110, 111, 110, 101]⟩
def joinBy (c : UInt8) (ws : List ByteArray) : ByteArray := ⟨(Lib.join (ws.map (·.data.toList)) [c]).toArray⟩
def textS (ws : List ByteArray) : ByteArray := if ws.isEmpty = true then noneS else joinBy 44 ws
theorem joinBy_one (c : UInt8) (x : ByteArray) : joinBy c [x] = x := by
  unfold joinBy
  rw [List.map_cons, List.map_nil, Lib.join_one]
theorem joinBy_snoc (c : UInt8) (ws : List ByteArray) (x : ByteArray) (h : ws ≠ []) : joinBy c (ws ++ [x]) = joinBy c ws ++ B1 c ++ x := by
  cases ws with
  | nil => exact absurd rfl h
  | cons y r =>
    apply ByteArray.ext
    unfold joinBy
    rw [ByteArray.data_append, ByteArray.data_append]
    apply Array.ext'
    rw [Array.toList_append, Array.toList_append, List.cons_append, List.map_cons, List.map_cons, Lib.join_cons, Lib.join_cons, List.map_append]
    unfold Lib.joinTail
    simp [B1]
/-- The first k of them. -/
def jnK (c : UInt8) (ws : List ByteArray) (k : Nat) : ByteArray := joinBy c (ws.take k)
theorem jnK_one (c : UInt8) (ws : List ByteArray) (h : 0 < ws.length) : jnK c ws 1 = ws.getD 0 E0 := by
  cases ws with
  | nil => simp at h
  | cons y r => exact joinBy_one c y
theorem jnK_succ (c : UInt8) (ws : List ByteArray) (k : Nat) (h : k < ws.length) (hk : 1 ≤ k) : jnK c ws (k + 1) = jnK c ws k ++ B1 c ++ ws.getD k E0 := by
  unfold jnK
  rw [List.take_add_one, List.getElem?_eq_getElem h, List.getD_eq_getElem?_getD, List.getElem?_eq_getElem h]
  exact joinBy_snoc c _ _ (by intro e; have := congrArg List.length e; rw [List.length_take, List.length_nil] at this; omega)
theorem jnK_all (c : UInt8) (ws : List ByteArray) : jnK c ws ws.length = joinBy c ws := by unfold jnK; rw [List.take_length]
theorem joinBy_size (c : UInt8) (ws : List ByteArray) (N : Nat) (h : ∀ x ∈ ws, x.size ≤ N) : (joinBy c ws).size ≤ (N + 1) * ws.length := by
  have hs : ∀ (l : List UInt8), (⟨l.toArray⟩ : ByteArray).size = l.length := fun l => by simp [ByteArray.size]
  unfold joinBy
  rw [hs]
  cases ws with
  | nil => simp [Lib.join_nil]
  | cons y r =>
    rw [List.map_cons, Lib.join_length]
    have hl : ∀ (r : List ByteArray), (∀ x ∈ r, x.size ≤ N) → Lib.lens (r.map (·.data.toList)) ≤ N * r.length := by
      intro r
      induction r with
      | nil => intro _; simp [Lib.lens]
      | cons z s ih =>
        intro h
        have h1 := h z (by simp)
        have h2 := ih fun x hx => h x (by simp [hx])
        have e : z.data.toList.length = z.size := by rw [Array.length_toList]; rfl
        unfold Lib.lens at h2 ⊢
        rw [List.map_cons, List.map_cons, List.sum_cons, e, List.length_cons, Nat.mul_succ]
        omega
    have h3 := hl (y :: r) h
    rw [List.map_cons] at h3
    simp only [List.length_cons, List.length_map, List.length_nil] at h3 ⊢
    have e : (N + 1) * (r.length + 1) = N * (r.length + 1) + (r.length + 1) := by rw [Nat.add_mul, Nat.one_mul]
    rw [e]
    omega

end Go.Proofs.YtggpbekclegfoaaDoor

namespace Go.Proofs.YtggpbekclegfoaaDoor
open Go.RowKit

def allIn (lo hi : Int) (xs : List Int) : Bool := xs.all (inB lo hi)

theorem allIn_true {lo hi : Int} {xs : List Int} (h : ∀ i, i < xs.length → inB lo hi (xs.getD i 0) = true) : allIn lo hi xs = true := by
  unfold allIn
  rw [List.all_eq_true]
  intro x hx
  obtain ⟨i, hi, rfl⟩ := List.mem_iff_getElem.1 hx
  have := h i hi
  simpa [hi] using this
theorem allIn_false {lo hi : Int} {xs : List Int} {i : Nat} (hlt : i < xs.length) (h : inB lo hi (xs.getD i 0) = false) : allIn lo hi xs = false := by
  unfold allIn
  rw [List.all_eq_false]
  exact ⟨xs[i], List.getElem_mem hlt, by simpa [hlt] using h⟩

set_option maxHeartbeats 400000 in
theorem allWithin_any (v : Value) (xs : List Int) (lo hi : Int) (w : World) (h : RdI w v xs) :
    Calls Tryd.prog 78 #[v, .int .i64 lo, .int .i64 hi] w fun e w' => e = .returned (.bool (allIn lo hi xs)) ∧ w = w' := by
  obtain ⟨a, c, rfl⟩ := h.shape
  have hl := h.len
  unfold maxLen at hl
  have HS := Lib.hid h
  clear h
  go_enter Tryd.func78, Tryd.ntmps78
  go_wp2_with fail
  go_loop [11] (fun i => ∃ k : Nat, i = .int .i64 k ∧ k ≤ xs.length ∧ Hid (∀ i, i < k → inB lo hi (xs.getD i 0) = true)) (fun i => xs.length - (intOf i).toNat)
  case atStart => exact ⟨0, rfl, Nat.zero_le _, fun i hi => by omega⟩
  case round =>
    obtain ⟨k, rfl, hk, hall⟩ := hrel
    by_cases hlt : k < xs.length
    · obtain ⟨b, off, rfl, hb, hc⟩ := HS.out.at hlt
      obtain ⟨x, hx⟩ : ∃ x, x = xs.getD k 0 := ⟨_, rfl⟩
      rw [← hx] at hc
      have HX := Lib.hid hx
      clear hx
      by_cases hin : inB lo hi x = true
      · go_wp2_with (go_at_call 51; refine (within_any _ _ _ _).mono ?_; rintro e w' ⟨rfl, rfl⟩)
        go_round
        case rel => exact ⟨k + 1, by go_num, by omega, fun i hi => by
          rcases Nat.lt_succ_iff_lt_or_eq.1 hi with h | rfl
          · exact hall.out i h
          · rw [← HX.out]; exact hin⟩
        case measure => simp [intOf]; omega
      · have hin' : inB lo hi x = false := by simpa using hin
        go_wp2_with (go_at_call 51; refine (within_any _ _ _ _).mono ?_; rintro e w' ⟨rfl, rfl⟩)
        go_ret
        exact ⟨by rw [allIn_false hlt (by rw [← HX.out]; exact hin')]; rfl, rfl⟩
    · obtain rfl : k = xs.length := by omega
      go_wp2_with fail
      go_ret
      exact ⟨by rw [allIn_true hall.out]; rfl, rfl⟩

theorem allIn_iff (lo hi : Int) (xs : List Int) : allIn lo hi xs = true ↔ ∀ i, i < xs.length → inB lo hi (xs.getD i 0) = true := by
  constructor
  · intro h i hi
    unfold allIn at h
    rw [List.all_eq_true] at h
    have := h xs[i] (List.getElem_mem hi)
    simpa [hi] using this
  · exact allIn_true

def Rising (xs : List Int) : Prop := ∀ i, i < xs.length → 0 < i → xs.getD (i - 1) 0 < xs.getD i 0
instance (xs : List Int) : Decidable (Rising xs) := by unfold Rising; exact inferInstance
def risingB (xs : List Int) : Bool := decide (Rising xs)
theorem risingB_true {xs : List Int} (h : Rising xs) : risingB xs = true := by simp [risingB, h]
theorem risingB_false {xs : List Int} (h : ¬ Rising xs) : risingB xs = false := by simp [risingB, h]

end Go.Proofs.YtggpbekclegfoaaDoor

namespace Go.Proofs.YtggpbekclegfoaaDoor
open Go.RowKit

def partsC (c : UInt8) : List UInt8 → List (List UInt8)
  | [] => [[]]
  | b :: r => if b = c then [] :: partsC c r else match partsC c r with
    | [] => [[b]]
    | h :: t => (b :: h) :: t
theorem partsC_none {c : UInt8} : ∀ {l : List UInt8}, c ∉ l → partsC c l = [l]
  | [], _ => rfl
  | b :: r, h => by
    simp only [List.mem_cons, not_or] at h
    simp only [partsC]
    rw [if_neg (fun e => h.1 e.symm), partsC_none h.2]
theorem partsC_hit {c : UInt8} : ∀ {l1 l2 : List UInt8}, c ∉ l1 → partsC c (l1 ++ c :: l2) = l1 :: partsC c l2
  | [], l2, _ => by simp [partsC]
  | b :: r, l2, h => by
    simp only [List.mem_cons, not_or] at h
    simp only [List.cons_append, partsC]
    rw [if_neg (fun e => h.1 e.symm), partsC_hit h.2]
theorem partsC_ne (c : UInt8) (l : List UInt8) : partsC c l ≠ [] := by
  by_cases h : c ∈ l
  · obtain ⟨l1, l2, rfl, h1⟩ := List.eq_append_cons_of_mem h
    rw [partsC_hit h1]; simp
  · rw [partsC_none h]; simp
def mkB (l : List UInt8) : ByteArray := ⟨l.toArray⟩
theorem mkB_size (l : List UInt8) : (mkB l).size = l.length := by simp [mkB, ByteArray.size]
theorem mkB_list (l : List UInt8) : (mkB l).data.toList = l := by simp [mkB]
theorem mkB_of (s : ByteArray) : mkB s.data.toList = s := by simp [mkB]
def cutS (c : UInt8) (s : ByteArray) : List ByteArray := (partsC c s.data.toList).map mkB

theorem index_none {c : UInt8} : ∀ {l : List UInt8}, c ∉ l → Lib.index l [c] = -1
  | [], _ => rfl
  | b :: r, h => by
    simp only [List.mem_cons, not_or] at h
    simp only [Lib.index]
    rw [if_neg (by simp [List.isPrefixOf, h.1]), index_none h.2]
    rfl
theorem index_hit {c : UInt8} : ∀ {l1 l2 : List UInt8}, c ∉ l1 → Lib.index (l1 ++ c :: l2) [c] = l1.length
  | [], l2, _ => by simp [Lib.index, List.isPrefixOf]
  | b :: r, l2, h => by
    simp only [List.mem_cons, not_or] at h
    simp only [List.cons_append, Lib.index]
    rw [if_neg (by simp [List.isPrefixOf, h.1]), index_hit h.2]
    rw [if_neg (by simp)]
    simp
theorem cut_none {c : UInt8} {l : List UInt8} (h : c ∉ l) : Lib.cut l [c] = (l, [], false) := by
  unfold Lib.cut
  rw [index_none h, if_neg (by omega)]
theorem cut_hit {c : UInt8} {l1 l2 : List UInt8} (h : c ∉ l1) : Lib.cut (l1 ++ c :: l2) [c] = (l1, l2, true) := by
  unfold Lib.cut
  rw [index_hit h, if_pos (by omega)]
  simp

/-! ### Lines of a journal -/
def recJ (c : Nat) : List (List UInt8) → List ByteArray × Nat
  | [] => ([], 0)
  | e :: more => if (Lib.cut e [32]).2.2 = true ∧ (Lib.cut e [32]).1 = Lib.decDigits (chkN c (mkB (Lib.cut e [32]).2.1)) then
      (mkB (Lib.cut e [32]).2.1 :: (recJ (chkN c (mkB (Lib.cut e [32]).2.1)) more).1, e.length + 1 + (recJ (chkN c (mkB (Lib.cut e [32]).2.1)) more).2)
    else ([], 0)
theorem recJ_no {c : Nat} {e : List UInt8} (more : List (List UInt8)) (h : (32 : UInt8) ∉ e) : recJ c (e :: more) = ([], 0) := by
  simp only [recJ]
  rw [cut_none h, if_neg (by simp)]
theorem recJ_bad {c : Nat} {w l : List UInt8} (more : List (List UInt8)) (h : (32 : UInt8) ∉ w) (hd : mkB w ≠ decS (chkN c (mkB l))) : recJ c ((w ++ 32 :: l) :: more) = ([], 0) := by
  simp only [recJ]
  rw [cut_hit h, if_neg]
  rintro ⟨_, h2⟩
  exact hd (congrArg mkB h2)
theorem recJ_good {c : Nat} {w l : List UInt8} (more : List (List UInt8)) (h : (32 : UInt8) ∉ w) (hd : mkB w = decS (chkN c (mkB l))) : recJ c ((w ++ 32 :: l) :: more) = (mkB l :: (recJ (chkN c (mkB l)) more).1, (w ++ 32 :: l).length + 1 + (recJ (chkN c (mkB l)) more).2) := by
  have hw : w = Lib.decDigits (chkN c (mkB l)) := by
    have := congrArg (fun s : ByteArray => s.data.toList) hd
    rw [mkB_list] at this
    rw [this]; simp [decS]
  simp only [recJ]
  rw [cut_hit h, if_pos ⟨rfl, hw⟩]
def linesL (l : List UInt8) : List (List UInt8) := (partsC 10 l).dropLast
theorem linesL_none {l : List UInt8} (h : (10 : UInt8) ∉ l) : linesL l = [] := by unfold linesL; rw [partsC_none h]; rfl
theorem linesL_hit {l1 l2 : List UInt8} (h : (10 : UInt8) ∉ l1) : linesL (l1 ++ 10 :: l2) = l1 :: linesL l2 := by
  unfold linesL
  rw [partsC_hit h]
  exact List.dropLast_cons_of_ne_nil (partsC_ne _ _)
def rjP (t : ByteArray) : List ByteArray × Nat := recJ 0 (linesL t.data.toList)
def rjOk (t : ByteArray) : Bool := decide (t.size ≤ 16000)
def rjR (t : ByteArray) : List ByteArray := if t.size ≤ 16000 then (rjP t).1 else []
def rjN (t : ByteArray) : Nat := if t.size ≤ 16000 then (rjP t).2 else 0
theorem recJ_cnt : ∀ (c : Nat) (L : List (List UInt8)), (recJ c L).1.length ≤ L.length
  | _, [] => by simp [recJ]
  | c, e :: more => by
    simp only [recJ]
    split
    · have := recJ_cnt (chkN c (mkB (Lib.cut e [32]).2.1)) more
      simp; omega
    · simp
theorem partsC_cnt (c : UInt8) : ∀ l : List UInt8, (partsC c l).length ≤ l.length + 1
  | [] => by simp [partsC]
  | b :: r => by
    have ih := partsC_cnt c r
    simp only [partsC]
    split
    · simp; omega
    · cases h : partsC c r with
      | nil => simp
      | cons x y => rw [h] at ih; simp at ih ⊢; omega
theorem rjR_cnt (t : ByteArray) : cntSs (rjR t) ≤ 16001 := by
  unfold rjR cntSs
  split
  · rename_i h
    have h1 := recJ_cnt 0 (linesL t.data.toList)
    have h2 := partsC_cnt 10 t.data.toList
    have h3 : t.data.toList.length = t.size := by rw [Array.length_toList]; rfl
    unfold rjP
    unfold linesL at h1 ⊢
    rw [List.length_dropLast] at h1
    omega
  · simp

/-- Append of one string to what the call owns; it may be nil. -/
theorem app_strs {w : World} {ops : Array Oper} {rest : List Oper} {o : Oper} {a : Act} {Q : Exit → Act → World → Prop} (hgd : o.guard = none) (s x : Operand)
    (ho : o.op = .call { callee := .builtin .append, args := #[s, x], argTypes := #[62, 62] })
    (base : Nat) (v : Value) (n : Nat) (xs : List ByteArray) (hs : a.eval s = v) (hown : w.ownsRow base 9 1 v n (xs.map SV))
    (sv : Value) (news : List ByteArray) (hx : a.eval x = sv) (hsv : Slc w sv (news.map SV)) (m : Nat) (ys : List ByteArray) (hm : m = n + news.length) (hys : ys = xs ++ news) (hlen : m ≤ 1099511627776) (hbase : base ≤ w.heap.size)
    (h : ∀ a' cap' w', w'.ownsRow base 9 1 (.slice a' m cap') m (ys.map SV) → Below base w w' → w.grownBy w' v.ownBlock → wpList Tryd.prog ops Q rest (a.put o.dst (.slice a' m cap')) w') :
    wpList Tryd.prog ops Q (o :: rest) a w := by
  obtain ⟨i0, hi, hz0, hz1, hz2⟩ := info_parts Tryd.infoStr
  subst hm hys
  refine wpList_append_slc hgd s x 62 ho base 9 i0 (.string ⟨#[]⟩) 16 Tryd.underlying62 hi hz0 hz1 hz2 rfl v n (xs.map SV) hs hown sv (news.map SV) hx hsv (by intro u hu; obtain ⟨x, _, rfl⟩ := List.mem_map.1 hu; rfl) (by simp [maxLen]; omega) (by simp; omega) hbase ?_
  intro v' w' h1 h2 h3
  have h1' : w'.ownsRow base 9 1 v' (n + news.length) ((xs ++ news).map SV) := by simpa using h1
  obtain ⟨a', cap', rfl⟩ := owns_shape h1'
  exact h a' cap' w' h1' (below_grown hown hbase h2) h2
theorem slcS_one (w : World) (s : ByteArray) (b : Nat) (hb : b = w.heap.size) : Slc (w.alloc (.cells #[.string s] 9)) (.slice (some ⟨b, 0, none⟩) 1 1) ([s].map SV) := by
  subst hb
  have h := World.ownsRow_lit (base := w.heap.size) (e := 9) (size := 1) w #[.string s] 1 (Nat.le_refl _) (by simp [maxLen]) rfl
  exact slc_of_owns h

end Go.Proofs.YtggpbekclegfoaaDoor

namespace Go.Proofs.YtggpbekclegfoaaDoor
open Go.RowKit

theorem pow_global : (Tryd.prog.globalNamed "internal/strconv.uint64pow10").isSome = true := by kernel_rfl
theorem HasPow.up {w w' : World} {B : Nat} (h : HasPow w) (hb : Below B w w') (hB : w.heap.size ≤ B) : HasPow w' := by
  obtain ⟨g, hg⟩ := Option.isSome_iff_exists.1 pow_global
  exact Go.Joins.tab_stays hg h hb hB

end Go.Proofs.YtggpbekclegfoaaDoor

namespace Go.Proofs.YtggpbekclegfoaaDoor
open Go.RowKit

def wordsN (xs : List Int) : List ByteArray := xs.map fun x => decS x.toNat
def listT (xs : List Int) : ByteArray := textS (wordsN xs)
theorem wordsN_len (xs : List Int) : (wordsN xs).length = xs.length := by simp [wordsN]
theorem wordsN_take (xs : List Int) (k : Nat) (h : k < xs.length) : wordsN (xs.take (k + 1)) = wordsN (xs.take k) ++ [decS (xs.getD k 0).toNat] := by
  unfold wordsN
  rw [List.take_add_one, List.map_append, List.getElem?_eq_getElem h, List.getD_eq_getElem?_getD, List.getElem?_eq_getElem h]
  rfl
theorem wordsN_at (xs : List Int) (k : Nat) (h : k < xs.length) : (wordsN xs).getD k E0 = decS (xs.getD k 0).toNat := by
  unfold wordsN
  rw [List.getD_eq_getElem?_getD, List.getD_eq_getElem?_getD, List.getElem?_map, List.getElem?_eq_getElem h]
  rfl
/-- Numbers that are written without a sign. -/
def Small (xs : List Int) : Prop := ∀ k, k < xs.length → 0 ≤ xs.getD k 0 ∧ xs.getD k 0 < 1000000000000000000
theorem wordsN_size {xs : List Int} (h : Small xs) : ∀ x ∈ wordsN xs, x.size ≤ 18 := by
  intro x hx
  obtain ⟨y, hy, rfl⟩ := List.mem_map.1 hx
  obtain ⟨k, hk, rfl⟩ := List.mem_iff_getElem.1 hy
  have := h k hk
  rw [List.getD_eq_getElem?_getD, List.getElem?_eq_getElem hk] at this
  exact decS_size (by simp only [Option.getD_some] at this; omega)

/-- Texts joined with commas. -/
theorem joined_any (v : Value) (ws : List ByteArray) (w : World) (h : RdSs w v ws) (hN : ∀ x ∈ ws, x.size ≤ 1000) (hl : ws.length ≤ 1000000) :
    Calls Tryd.prog 64 #[v] w fun e w' => e = .returned (.string (textS ws)) ∧ Below w.heap.size w w' := by
  obtain ⟨a, c, rfl⟩ := h.shape
  by_cases h0 : ws.length = 0
  · have hd : ((ws.length : Int) == 0) = true := by simp [h0]
    have he := Lib.hid (show textS ws = noneS by unfold textS; rw [show ws.isEmpty = true by rw [List.isEmpty_iff]; exact List.length_eq_zero_iff.1 h0]; rfl)
    clear h0 h
    go_enter Tryd.func64, Tryd.ntmps64
    go_wp2_with fail
    go_ret
    exact ⟨by rw [he.out]; rfl, Below.refl _ _⟩
  · have hd : ((ws.length : Int) == 0) = false := by rw [beq_eq_false_iff_ne]; omega
    obtain ⟨b, off, rfl, hbw, _⟩ := h.at (i := 0) (Nat.pos_of_ne_zero h0)
    have hcells : ∀ (j : Nat) x, ws[j]? = some x → w.cell? ⟨b, off + j, none⟩ = some (.string x) := by
      intro j x hj
      have hlt := (List.getElem?_eq_some_iff.1 hj).1
      obtain ⟨b', off', e, _, hc⟩ := h.at hlt
      simp only [Option.some.injEq, Addr.mk.injEq, and_true] at e
      obtain ⟨rfl, rfl⟩ := e
      rw [hc, List.getD_eq_getElem?_getD, hj]
      rfl
    have hcap : ws.length ≤ c := by
      rcases h.1 with ⟨e, _⟩ | ⟨ad, cap, e, h1, h2, _⟩
      · cases e
      · simp only [Value.slice.injEq, List.length_map] at e h1
        obtain ⟨_, _, rfl⟩ := e
        exact h1
    have hsz := joinBy_size 44 ws 1000 hN
    have hC := Tryd.strings_Join b off c ws ⟨#[44]⟩ w hcells hbw (by omega) hcap (by
      have e : (Lib.join (ws.map (·.data.toList)) (⟨#[44]⟩ : ByteArray).data.toList).length = (joinBy 44 ws).size := by simp [joinBy, ByteArray.size]
      rw [e]; omega)
    have he : (⟨(Lib.join (ws.map (·.data.toList)) (⟨#[44]⟩ : ByteArray).data.toList).toArray⟩ : ByteArray) = textS ws := by
      unfold textS
      rw [if_neg (by rw [List.isEmpty_iff]; intro e; rw [e] at h0; exact h0 rfl)]
      rfl
    rw [he] at hC
    have HC := Lib.hid hC
    clear hC he hcells h0 h
    go_enter Tryd.func64, Tryd.ntmps64
    go_wp2_with (go_at_call 38; refine HC.out.mono ?_; rintro e w' ⟨rfl, hb⟩)
    go_ret
    exact ⟨rfl, hb⟩

set_option maxHeartbeats 1000000 in
theorem listTextI_any (v : Value) (xs : List Int) (w : World) (h : RdI w v xs) (hs : Small xs) (hl : xs.length ≤ 1000000) (hp : HasPow w) :
    Calls Tryd.prog 54 #[v] w fun e w' => e = .returned (.string (listT xs)) ∧ Below w.heap.size w w' := by
  obtain ⟨a, c, rfl⟩ := h.shape
  have HR := Lib.hid h
  have HS := Lib.hid hs
  have HPW := Lib.hid hp
  clear h hs hp
  go_enter Tryd.func54, Tryd.ntmps54
  go_wp2_with fail
  go_loopw [3, 8] (fun ov iv wr => ∃ (k : Nat) (b : Option Addr) (cc : Nat), iv = .int .i64 k ∧ k ≤ xs.length ∧ ov = .slice b k cc ∧ Hid (wr.ownsRow w.heap.size 9 1 (.slice b k cc) k ((wordsN (xs.take k)).map SV)) ∧ Hid (Below w.heap.size w wr)) (fun _ iv _ => xs.length + 1 - (intOf iv).toNat)
  case atStart => exact ⟨0, none, 0, rfl, Nat.zero_le _, rfl, Lib.hid (World.ownsRow_nil _ _ _ _), Lib.hid (Below.refl _ _)⟩
  case round =>
    obtain ⟨k, b, cc, rfl, hk, rfl, HO, HB⟩ := hrel
    obtain ⟨wo, rfl⟩ : ∃ wo, wo = wr := ⟨wr, rfl⟩
    have hsz := HB.out.size
    by_cases hlt : k < xs.length
    · have hlt' : (k : Int) < xs.length := by omega
      obtain ⟨xb, xo, rfl, _, hx⟩ := (HR.out.up HB.out (Nat.le_refl _)).at hlt
      have hsm := HS.out k hlt
      have HE := Lib.hid (wordsN_take xs k hlt)
      obtain ⟨x, hxe⟩ : ∃ x, x = xs.getD k 0 := ⟨_, rfl⟩
      rw [← hxe] at hx hsm HE
      clear hxe
      obtain ⟨n, rfl⟩ : ∃ n : Nat, x = (n : Int) := ⟨x.toNat, by omega⟩
      have HE2 := Lib.hid (show wordsN (xs.take (k + 1)) = wordsN (xs.take k) ++ [decS n] from HE.out)
      have HD := Lib.hid (Decimal_any n (by omega) wo (HPW.out.up HB.out (Nat.le_refl _)))
      clear HE hsm
      go_wp2_with (first
        | (go_at_call 36; refine HD.out.mono ?_; rintro e w1 ⟨rfl, hb1⟩; have HO1 := Lib.hid (owns_below HO.out hb1 (Nat.le_refl _)); have hsz1 := hb1.size)
        | (at_builtin; refine app_strs rfl _ _ rfl w.heap.size (.slice b k cc) k (wordsN (xs.take k)) rfl (HO1.out.alloc _) _ [decS n] rfl (slcS_one w1 (decS n) _ rfl) (k + 1) (wordsN (xs.take (k + 1))) (by simp) HE2.out (by omega) (by simp; omega) ?_; intro b3 c3 w3 hown3 hbl3 _)
        | fail)
      go_roundw
      case rel => exact ⟨k + 1, b3, c3, by go_num, by omega, rfl, Lib.hid hown3, Lib.hid (HB.out.trans ((hb1.mono hsz).trans (((Below.refl _ _).alloc (by omega) _).trans hbl3)))⟩
      case measure => simp [intOf]; omega
    · obtain rfl : k = xs.length := by omega
      have hwl := wordsN_len xs
      have hws := wordsN_size HS.out
      have hrd : RdSs wo (.slice b xs.length cc) (wordsN xs) := ⟨by have := slc_of_owns HO.out; rw [List.take_length] at this; exact this, fun s hs => by have := hws s hs; simp [maxLen]; omega⟩
      have HJ := Lib.hid (joined_any _ (wordsN xs) wo hrd (fun x hx => by have := hws x hx; omega) (by omega))
      clear hwl hws hrd
      go_wp2_with (go_at_call 64; refine HJ.out.mono ?_; rintro e w1 ⟨rfl, hb1⟩)
      go_ret
      exact ⟨rfl, HB.out.trans (hb1.mono hsz)⟩

end Go.Proofs.YtggpbekclegfoaaDoor

namespace Go.Proofs.YtggpbekclegfoaaDoor
open Go.RowKit

end Go.Proofs.YtggpbekclegfoaaDoor

namespace Go.Proofs.YtggpbekclegfoaaDoor
open Go.RowKit

theorem gtake_ne {α : Type} {d : α} {xs ys : List α} {k : Nat} (h : xs.getD k d ≠ ys.getD k d) : xs ≠ ys := by
  rintro rfl; exact h rfl
theorem gtake_succ {α : Type} {d : α} {xs ys : List α} {k : Nat} (hx : k < xs.length) (hy : k < ys.length) (h : xs.take k = ys.take k) (h2 : xs.getD k d = ys.getD k d) : xs.take (k + 1) = ys.take (k + 1) := by
  rw [List.take_succ_eq_append_getElem hx, List.take_succ_eq_append_getElem hy, h]
  simp [hx, hy] at h2
  rw [h2]

theorem RdL.drewN {w : World} {v : Value} {zss : List (List Int)} (h : RdL w v zss) (n : Nat) : RdL (w.drewN n) v zss := by
  obtain ⟨vs, h1, h2⟩ := h
  exact ⟨vs, h1.drewN n, h2.1, fun i u zs a b => (h2.2 i u zs a b).drewN n⟩

end Go.Proofs.YtggpbekclegfoaaDoor

namespace Go.Proofs.YtggpbekclegfoaaDoor
open Go.RowKit

def eqBy {α : Type} (f : α → α → Bool) : List α → List α → Bool
  | [], [] => true
  | x :: xs, y :: ys => f x y && eqBy f xs ys
  | _, _ => false
theorem eqBy_len {α : Type} (f : α → α → Bool) : ∀ (a b : List α), a.length ≠ b.length → eqBy f a b = false
  | [], [], h => by simp at h
  | [], y :: ys, _ => rfl
  | x :: xs, [], _ => rfl
  | x :: xs, y :: ys, h => by simp only [eqBy, eqBy_len f xs ys (by simpa using h), Bool.and_false]
theorem eqBy_ne {α : Type} (f : α → α → Bool) (d : α) : ∀ (a b : List α) (k : Nat), k < a.length → k < b.length → f (a.getD k d) (b.getD k d) = false → eqBy f a b = false
  | [], b, k, h, _, _ => by simp at h
  | x :: xs, [], k, _, h, _ => by simp at h
  | x :: xs, y :: ys, 0, _, _, h => by simp only [List.getD_cons_zero] at h; simp only [eqBy, h, Bool.false_and]
  | x :: xs, y :: ys, k + 1, h1, h2, h => by
    simp only [List.getD_cons_succ] at h
    simp only [eqBy, eqBy_ne f d xs ys k (by simpa using h1) (by simpa using h2) h, Bool.and_false]
theorem eqBy_all {α : Type} (f : α → α → Bool) (d : α) : ∀ (a b : List α), a.length = b.length → (∀ k, k < a.length → f (a.getD k d) (b.getD k d) = true) → eqBy f a b = true
  | [], [], _, _ => rfl
  | [], y :: ys, h, _ => by simp at h
  | x :: xs, [], h, _ => by simp at h
  | x :: xs, y :: ys, h, h2 => by
    have h0 := h2 0 (by simp)
    simp only [List.getD_cons_zero] at h0
    simp only [eqBy, h0, Bool.true_and]
    exact eqBy_all f d xs ys (by simpa using h) fun k hk => by have := h2 (k + 1) (by simpa using hk); simpa using this

def sameC (x y : CaseD) : Bool := (decide (x.name = y.name) && (decide (x.form.letters = y.form.letters) && decide (x.form.clauses = y.form.clauses))) && decide (x.proof = y.proof)
def sameCL : List CaseD → List CaseD → Bool := eqBy sameC

end Go.Proofs.YtggpbekclegfoaaDoor

namespace Go.Proofs.YtggpbekclegfoaaDoor
open Go.RowKit

def F32 (b : Nat) : Value := .float .f32 b
def nan32 (x : Nat) : Bool := (Ieee.single.read x).isNaN
def fin32 (x : Nat) : Bool := match Ieee.single.read x with
  | .number .. => true
  | _ => false

theorem order_self (f : Ieee.Format) (x : Nat) (h : (f.read x).isNaN = false) : f.order x x = some .eq := by
  unfold Ieee.Format.order
  cases hr : f.read x with
  | nan a b => rw [hr] at h; simp [Ieee.Datum.isNaN] at h
  | infinity s => simp [Ieee.Datum.order]
  | number s m e => simp [Ieee.Datum.order]
theorem order_nanL (f : Ieee.Format) (x y : Nat) (h : (f.read x).isNaN = true) : f.order x y = none := by
  unfold Ieee.Format.order
  cases hr : f.read x with
  | nan a b => simp [Ieee.Datum.order]
  | infinity s => rw [hr] at h; simp [Ieee.Datum.isNaN] at h
  | number s m e => rw [hr] at h; simp [Ieee.Datum.isNaN] at h
theorem order_nanR (f : Ieee.Format) (x y : Nat) (h : (f.read y).isNaN = true) : f.order x y = none := by
  unfold Ieee.Format.order
  cases hr : f.read y with
  | nan a b => cases f.read x <;> simp [Ieee.Datum.order]
  | infinity s => rw [hr] at h; simp [Ieee.Datum.isNaN] at h
  | number s m e => rw [hr] at h; simp [Ieee.Datum.isNaN] at h

theorem sub_fin {x : Nat} (h : fin32 x = true) : Ieee.single.sub x x = some 0 := by
  unfold fin32 at h
  unfold Ieee.Format.sub
  cases hr : Ieee.single.read x with
  | nan a b => rw [hr] at h; simp at h
  | infinity s => rw [hr] at h; simp at h
  | number s m e =>
    have ht : Ieee.signed s m 0 + Ieee.signed (!s) m 0 = 0 := by cases s <;> simp [Ieee.signed] <;> omega
    simp only [Ieee.Datum.opposite, Ieee.Datum.sum, Option.map_some, Int.min_self, Int.sub_self, Int.toNat_zero, ht, if_true, Int.natAbs_zero]
    cases s <;> simp [Ieee.Format.write, Ieee.Format.nearest, Ieee.Format.word]
theorem sub_not {x : Nat} (h : fin32 x = false) : Ieee.single.sub x x = none := by
  unfold fin32 at h
  unfold Ieee.Format.sub
  cases hr : Ieee.single.read x with
  | nan a b => simp [Ieee.Datum.opposite, Ieee.Datum.sum]
  | infinity s => cases s <;> simp [Ieee.Datum.opposite, Ieee.Datum.sum]
  | number s m e => rw [hr] at h; simp at h

/-- The bits of a NaN that the tape names. -/
def tape32 (q : Question) (w : World) : Nat := q.cut (w.tape w.drawn q)
theorem nan_cut32 (t : Nat) : (Ieee.single.read ((t % 2) * 2 ^ 31 + 0x7f800000 + 1 + (t / 2) % (2 ^ 23 - 1))).isNaN = true := by
  have h1 : t % 2 < 2 := Nat.mod_lt _ (by decide)
  have h2 : (t / 2) % (2 ^ 23 - 1) < 2 ^ 23 - 1 := Nat.mod_lt _ (by decide)
  generalize t % 2 = s at h1 ⊢
  generalize (t / 2) % (2 ^ 23 - 1) = r at h2 ⊢
  have e : (s * 2 ^ 31 + 0x7f800000 + 1 + r) % 2147483648 = 0x7f800000 + 1 + r := by omega
  unfold Ieee.Format.read
  have c1 : Ieee.single.signWeight = 2147483648 := rfl
  have c2 : Ieee.single.binade = 8388608 := rfl
  have c3 : Ieee.single.infRung = 2139095040 := rfl
  simp only [c1, c2, c3, e]
  rw [if_neg (by omega), if_neg (by omega), if_neg (by omega)]
  rfl
theorem nan_cut64 (t : Nat) : (Ieee.double.read ((t % 2) * 2 ^ 63 + 0x7ff0000000000000 + 1 + (t / 2) % (2 ^ 52 - 1))).isNaN = true := by
  have h1 : t % 2 < 2 := Nat.mod_lt _ (by decide)
  have h2 : (t / 2) % (2 ^ 52 - 1) < 2 ^ 52 - 1 := Nat.mod_lt _ (by decide)
  generalize t % 2 = s at h1 ⊢
  generalize (t / 2) % (2 ^ 52 - 1) = r at h2 ⊢
  have e : (s * 2 ^ 63 + 0x7ff0000000000000 + 1 + r) % 9223372036854775808 = 0x7ff0000000000000 + 1 + r := by omega
  unfold Ieee.Format.read
  have c1 : Ieee.double.signWeight = 9223372036854775808 := rfl
  have c2 : Ieee.double.binade = 4503599627370496 := rfl
  have c3 : Ieee.double.infRung = 9218868437227405312 := rfl
  simp only [c1, c2, c3, e]
  rw [if_neg (by omega), if_neg (by omega), if_neg (by omega)]
  rfl

/-- A difference that is no number: a NaN that the tape names. -/
theorem run_sub_none {P : Program} (t : TypeId) (x y : Nat) (h : Ieee.single.sub x y = none) (w : World) :
    (binOp .sub t (.float .f32 x) (.float .f32 y)).run P w = .ok (.float .f32 (tape32 (.nanBits .f32 x y) w)) w.drew := by
  have h' : FloatKind.f32.format.sub x y = none := h
  simp [binOp, Op.floatArith, h', tape32, Question.forced, Result.andThen]
theorem tape32_nan (x y : Nat) (w : World) : (Ieee.single.read (tape32 (.nanBits .f32 x y) w)).isNaN = true := by
  unfold tape32
  exact nan_cut32 _
theorem run_sub_some {P : Program} (t : TypeId) (x y r : Nat) (h : Ieee.single.sub x y = some r) (w : World) :
    (binOp .sub t (.float .f32 x) (.float .f32 y)).run P w = .ok (.float .f32 r) w := run_float_arith w .sub t .f32 x y r h

end Go.Proofs.YtggpbekclegfoaaDoor

namespace Go.Proofs.YtggpbekclegfoaaDoor
open Go.RowKit

def RdF (w : World) (v : Value) (xs : List Nat) : Prop := Slc w v (xs.map F32)
def OwnF (lo hi : Nat) (w : World) (v : Value) (xs : List Nat) : Prop := w.ownsRow lo 83 1 v xs.length (xs.map F32) ∧ ∀ g, v.ownBlock = some g → g < hi
def bulkF (xs : List Nat) : Nat := xs.length

theorem RdF.shape {w : World} {v : Value} {xs : List Nat} (h : RdF w v xs) : ∃ a c, v = .slice a xs.length c := by
  obtain ⟨a, c, e⟩ := Slc.shape h; exact ⟨a, c, by simpa using e⟩
theorem RdF.up {w w' : World} {v : Value} {xs : List Nat} {B : Nat} (h : RdF w v xs) (hb : Below B w w') (hB : w.heap.size ≤ B) : RdF w' v xs := Slc.below h hb hB
theorem RdF.at {w : World} {a : Option Addr} {n c : Nat} {xs : List Nat} (h : RdF w (.slice a n c) xs) {i : Nat} (hi : i < xs.length) :
    ∃ b off, a = some ⟨b, off, none⟩ ∧ b < w.heap.size ∧ w.cell? ⟨b, off + i, none⟩ = some (.float .f32 (xs.getD i 0)) := Slc.at h (by simp [F32, hi])
theorem RdF.len {w : World} {v : Value} {xs : List Nat} (h : RdF w v xs) : xs.length ≤ maxLen := by simpa using Slc.len h
theorem RdF.drewN {w : World} {v : Value} {xs : List Nat} (h : RdF w v xs) (n : Nat) : RdF (w.drewN n) v xs := Slc.drewN h n
theorem OwnF.rd {lo hi : Nat} {w : World} {v : Value} {xs : List Nat} (h : OwnF lo hi w v xs) : RdF w v xs := slc_of_owns h.1
theorem OwnF.up {lo hi : Nat} {w w' : World} {v : Value} {xs : List Nat} {B : Nat} (h : OwnF lo hi w v xs) (hb : Below B w w') (hB : w.heap.size ≤ B) : OwnF lo hi w' v xs := ⟨owns_below h.1 hb hB, h.2⟩
theorem OwnF.wide {lo hi lo' hi' : Nat} {w : World} {v : Value} {xs : List Nat} (h : OwnF lo hi w v xs) (h1 : lo' ≤ lo) (h2 : hi ≤ hi') : OwnF lo' hi' w v xs := ⟨owns_base h.1 h1, fun g hg => Nat.lt_of_lt_of_le (h.2 g hg) h2⟩
theorem OwnF.kept {lo hi : Nat} {w w' : World} {v : Value} {xs : List Nat} {S : Nat → Prop} (h : OwnF lo hi w v xs) (hk : Kept S w w') (hs : ∀ b, lo ≤ b → b < hi → ¬ S b) : OwnF lo hi w' v xs :=
  ⟨owns_kept h.1 hk fun g hg => hs g (owns_lt h.1 hg).1 (h.2 g hg), h.2⟩
theorem OwnF.mk {lo : Nat} {w : World} {v : Value} {n : Nat} {xs : List Nat} (h : w.ownsRow lo 83 1 v n (xs.map F32)) : OwnF lo w.heap.size w v xs := by
  obtain rfl : xs.length = n := by simpa using owns_len h
  exact ⟨h, fun g hg => (owns_lt h hg).2⟩

set_option maxHeartbeats 400000 in
theorem szF_any (v : Value) (xs : List Nat) (left : Int) (w : World) (h : RdF w v xs) (h1 : left ≤ 1048576) (h0 : 0 ≤ left) :
    Calls Tryd.prog 31 #[v, .int .i64 left] w fun e w' => ∃ r : Int, e = .returned (.int .i64 r) ∧ -1 ≤ r ∧ r ≤ left ∧ (0 ≤ r → (bulkF xs : Int) ≤ left - r) ∧ Below w.heap.size w w' := by
  obtain ⟨a, c, rfl⟩ := h.shape
  have hn := h.len
  unfold maxLen at hn
  unfold bulkF
  have HB : Hid (Below w.heap.size w w) := Below.refl _ _
  clear h
  by_cases h : left - xs.length < 0
  · go_enter Tryd.func31, Tryd.ntmps31
    go_wp2
    go_ret
    exact ⟨-1, rfl, by omega, by omega, by omega, HB.out⟩
  · go_enter Tryd.func31, Tryd.ntmps31
    go_wp2
    go_ret
    exact ⟨_, rfl, by omega, by omega, by omega, HB.out⟩

theorem Tryd.infoF32 : (Tryd.prog.info? 83).map (fun i => (i.zero, i.size, i.bytes)) = some (some (.float .f32 0), 1, 4) := by kernel_rfl

theorem fill_f {xs : List Nat} {k : Nat} {x : Nat} (hk : k < xs.length) (hx : x = xs.getD k 0) :
    ((xs.take k ++ List.replicate (xs.length - k) 0).map F32).set k (.float .f32 x) = (xs.take (k + 1) ++ List.replicate (xs.length - (k + 1)) 0).map F32 := by
  subst hx
  have e : List.replicate (xs.length - k) (0 : Nat) = 0 :: List.replicate (xs.length - (k + 1)) 0 := by
    rw [show xs.length - k = (xs.length - (k + 1)) + 1 by omega, List.replicate_succ]
  rw [e, List.take_succ_eq_append_getElem hk, List.map_append, List.map_cons, set_mid _ _ _ _ _ (by simp; omega), List.map_append, List.map_append, List.append_assoc, show xs.getD k 0 = xs[k] from by simp [hk]]
  rfl

@[go_sem] theorem run_store_float (P : Program) (w : World) (a : Addr) (m : Mode) (k : FloatKind) (n : Nat) : (store a (.float k n) m).run P w = stored P w a (.float k n) m := run_store P w a _ m rfl

set_option maxHeartbeats 400000 in
theorem toF_any (v : Value) (xs : List Nat) (w : World) (h : RdF w v xs) (hb : bulkF xs ≤ 1048576) :
    Calls Tryd.prog 34 #[v] w fun e w' => ∃ v', e = .returned v' ∧ OwnF w.heap.size w'.heap.size w' v' xs ∧ Below w.heap.size w w' := by
  obtain ⟨i0, hi, hz0, hz1, hz2⟩ := info_parts Tryd.infoF32
  obtain ⟨a, cap, rfl⟩ := h.shape
  unfold bulkF at hb
  have HS := Lib.hid h
  clear h
  go_enter Tryd.func34, Tryd.ntmps34
  go_wp2_with (at_make; refine wpList_make_full _ rfl _ _ 30 rfl w.heap.size 83 i0 (.float .f32 0) 1 Tryd.underlying30 hi hz0 hz1 .i64 .i64 xs.length xs.length xs.length rfl rfl rfl rfl (by rw [hz2]; omega) (by unfold maxLen; omega) (by simp) ?_; intro w1 hown hgrow)
  have hb1 : Below w.heap.size w w1 := (Below.refl _ _).grown hgrow (Nat.le_refl _) (by intro k hk; cases hk)
  have hz : (madeCells (Value.float .f32 0).cells (xs.length * 1)).toList = (List.replicate xs.length (0 : Nat)).map F32 := by
    simpa [Value.cells, F32] using toList_madeCells_one (Value.float .f32 0) xs.length
  rw [hz] at hown
  have HO := Lib.hid hown
  have HB := Lib.hid hb1
  clear hown hb1 hz hgrow
  go_loopw [4] (fun i wr => ∃ k : Nat, i = .int .i64 k ∧ k ≤ xs.length ∧ wr.ownsRow w.heap.size 83 1 (.slice (some ⟨w.heap.size, 0, none⟩) xs.length xs.length) xs.length ((xs.take k ++ List.replicate (xs.length - k) 0).map F32) ∧ Below w.heap.size w wr) (fun i _ => xs.length - (intOf i).toNat)
  case atStart => exact ⟨0, rfl, Nat.zero_le _, by simpa using HO.out, HB.out⟩
  case round =>
    obtain ⟨k, rfl, hk, hown, hbel⟩ := hrel
    have HO1 := Lib.hid hown
    have HB1 := Lib.hid hbel
    clear hown hbel
    by_cases hlt : k < xs.length
    · obtain ⟨b, off, rfl, hb0, hc⟩ := (HS.out.up HB1.out (Nat.le_refl _)).at hlt
      have hd := HO1.out.cellAt k (by omega)
      have hfr := HO1.out.frozenAt k
      have hdl : ((xs.take k ++ List.replicate (xs.length - k) 0).map F32)[k]? = some (.float .f32 0) := by
        rw [List.getElem?_map, List.getElem?_append_right (by simp; omega)]
        simp [F32, List.getElem?_replicate]
        omega
      rw [hdl] at hd
      obtain ⟨x, hx⟩ : ∃ x, x = xs.getD k 0 := ⟨_, rfl⟩
      rw [← hx] at hc
      have HX := Lib.hid hx
      clear hx hdl
      go_wp2_with fail
      go_roundw
      case rel =>
        refine ⟨k + 1, by go_num, by omega, ?_, HB1.out.setCell (Nat.le_refl _) _⟩
        have h1 := (HO1.out.stored k (.float .f32 x)).1
        rw [fill_f hlt HX.out] at h1
        exact h1
      case measure => simp [intOf]; omega
    · obtain rfl : k = xs.length := by omega
      go_wp2_with fail
      go_ret
      exact ⟨_, rfl, OwnF.mk (by simpa using HO1.out), HB1.out⟩

/-! ### The same number -/

theorem zero_div {r : Nat} (h : Ieee.double.order r 0 = some .eq) : ∃ q, Ieee.double.div 4607182418800017408 r = some q := by
  have e1 : Ieee.double.read 4607182418800017408 = .number false 4503599627370496 (-52) := by decide +kernel
  have e0 : Ieee.double.read 0 = .number false 0 (-1074) := by decide +kernel
  unfold Ieee.Format.order at h
  unfold Ieee.Format.div
  rw [e1]
  rw [e0] at h
  cases hr : Ieee.double.read r with
  | nan a b => rw [hr] at h; simp [Ieee.Datum.order] at h
  | infinity s => rw [hr] at h; cases s <;> simp [Ieee.Datum.order] at h
  | number s m e =>
    by_cases hm : m = 0
    · subst hm; simp [Ieee.Datum.quotient]
    · simp [Ieee.Datum.quotient, hm]

set_option maxHeartbeats 1000000 in
theorem sameFloat_self (r : Nat) (hn : (Ieee.double.read r).isNaN = false) (w : World) :
    Calls Tryd.prog 68 #[.float .f64 r, .float .f64 r] w fun e w' => e = .returned (.bool true) ∧ w = w' := by
  have ho : (FloatKind.f64.format.order r r != some .eq) = false := by simp [show FloatKind.f64.format.order r r = some .eq from order_self _ _ hn]
  have ho2 : (FloatKind.f64.format.order r r == some .eq) = true := by simp [show FloatKind.f64.format.order r r = some .eq from order_self _ _ hn]
  by_cases hz : Ieee.double.order r 0 = some .eq
  · obtain ⟨q, hq⟩ := zero_div hz
    have hq2 := fun (W : World) => run_float_arith (P := Tryd.prog) W .quo 100 .f64 4607182418800017408 r q hq
    have hz1 : (FloatKind.f64.format.order r 0 == some .eq) = true := by simp [show FloatKind.f64.format.order r 0 = some .eq from hz]
    clear hz hq
    go_enter Tryd.func68, Tryd.ntmps68
    go_wp2_with fail
    go_ret
    exact ⟨by simp, rfl⟩
  · have hz1 : (FloatKind.f64.format.order r 0 == some .eq) = false := by simp [show ¬ FloatKind.f64.format.order r 0 = some .eq from hz]
    clear hz
    go_enter Tryd.func68, Tryd.ntmps68
    go_wp2_with fail
    go_ret
    exact ⟨rfl, rfl⟩

set_option maxHeartbeats 1000000 in
theorem sameFloat_nan (a b : Nat) (ha : (Ieee.double.read a).isNaN = true) (hb : (Ieee.double.read b).isNaN = true) (w : World) :
    Calls Tryd.prog 68 #[.float .f64 a, .float .f64 b] w fun e w' => e = .returned (.bool true) ∧ w = w' := by
  have h1 : (FloatKind.f64.format.order a a != some .eq) = true := by simp [show FloatKind.f64.format.order a a = none from order_nanL _ _ _ ha]
  have h2 : (FloatKind.f64.format.order b b != some .eq) = true := by simp [show FloatKind.f64.format.order b b = none from order_nanL _ _ _ hb]
  go_enter Tryd.func68, Tryd.ntmps68
  go_wp2_with fail
  go_ret
  exact ⟨rfl, rfl⟩

end Go.Proofs.YtggpbekclegfoaaDoor
