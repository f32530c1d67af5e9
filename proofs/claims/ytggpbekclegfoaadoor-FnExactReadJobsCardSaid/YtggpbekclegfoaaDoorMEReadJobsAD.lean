/-
  FnExactReadJobs: texts joined: RdM, JournM, TextM, CutM, CutS, JournI, RcJI, CountM, AllIn.
-/
import Derived.Lib.ParseIntBCases
import Derived.Lib.SmallJoins
import Derived.Lib.Join
import Derived.Lib.IndexMore
import Derived.Deep.RegionHeld3
import Derived.Lib.SplitLaws
import Derived.Test.YtggpbekclegfoaaDoorMEReadJobsAB
import Derived.Test.YtggpbekclegfoaaDoorMEReadJobsAC
namespace Go.Proofs.YtggpbekclegfoaaDoor
open Go.RowKit

def itoaB (n : Int) : ByteArray := ⟨(Lib.itoa n).toArray⟩
theorem itoaB_nat (n : Nat) : itoaB (n : Int) = decS n := by
  unfold itoaB decS Lib.itoa
  rw [if_neg (by omega), Int.toNat_natCast]
theorem decDigits_step (n : Nat) : Lib.decDigits n = (if n < 10 then [] else Lib.decDigits (n / 10)) ++ [UInt8.ofNat (48 + n % 10)] := by
  rw [Lib.decDigits]
  by_cases h : n < 10
  · rw [dif_pos h, if_pos h, Nat.mod_eq_of_lt h]; rfl
  · rw [dif_neg h, if_neg h]
theorem dig_nat (n : Nat) : (UInt8.ofNat (48 + n % 10)).toNat = 48 + n % 10 := by
  have : n % 10 < 10 := Nat.mod_lt _ (by omega)
  rw [UInt8.toNat_ofNat']
  exact Nat.mod_eq_of_lt (by omega)
theorem decDigits_mem (n : Nat) : ∀ c ∈ Lib.decDigits n, 48 ≤ c.toNat ∧ c.toNat ≤ 57 := by
  induction n using Nat.strongRecOn with
  | _ n ih =>
    intro c hc
    rw [decDigits_step, List.mem_append] at hc
    rcases hc with hc | hc
    · split at hc
      · cases hc
      · exact ih (n / 10) (by omega) c hc
    · simp only [List.mem_singleton] at hc
      subst hc
      rw [dig_nat]
      have : n % 10 < 10 := Nat.mod_lt _ (by omega)
      omega
theorem decDigits_ne (n : Nat) : Lib.decDigits n ≠ [] := by rw [decDigits_step]; simp
theorem decDigits_len (k n : Nat) (h : n < 10 ^ (k + 1)) : (Lib.decDigits n).length ≤ k + 1 := by
  have := digI_len k n h
  unfold digI at this
  simpa using this

/-- The first part of a numeral, then the rest. -/
theorem parse_append (M : Nat) : ∀ (l1 l2 : List UInt8) (acc u : Nat), Lib.parseUintM M acc l1 = .ok u → Lib.parseUintM M acc (l1 ++ l2) = Lib.parseUintM M u l2
  | [], l2, acc, u, h => by
    simp only [Lib.parseUintM] at h
    injection h with h
    subst h
    rfl
  | c :: r, l2, acc, u, h => by
    simp only [List.cons_append, Lib.parseUintM] at h ⊢
    split at h
    · rename_i h1
      rw [if_pos h1]
      split at h
      · cases h
      · rename_i h2
        rw [if_neg h2]
        split at h
        · cases h
        · rename_i h3
          rw [if_neg h3]
          exact parse_append M r l2 _ u h
    · cases h
theorem parse_dec (n : Nat) (h : n ≤ 1000000000000000) : Lib.parseUintM (2 ^ 64 - 1) 0 (Lib.decDigits n) = .ok n := by
  induction n using Nat.strongRecOn with
  | _ n ih =>
    have hd := dig_nat n
    have hm : n % 10 < 10 := Nat.mod_lt _ (by omega)
    rw [decDigits_step]
    by_cases h10 : n < 10
    · rw [if_pos h10, List.nil_append]
      simp only [Lib.parseUintM, hd]
      rw [if_pos (by omega), if_neg (by omega), if_neg (by omega)]
      congr 1
      omega
    · rw [if_neg h10, parse_append _ _ _ _ _ (ih (n / 10) (by omega) (by omega))]
      simp only [Lib.parseUintM, hd]
      rw [if_pos (by omega), if_neg (by omega), if_neg (by omega)]
      congr 1
      omega
theorem parse_uint (n : Nat) (h : n ≤ 1000000000000000) : Lib.parseUintB 64 (Lib.decDigits n) = .ok n := by
  unfold Lib.parseUintB
  rw [if_neg (decDigits_ne n)]
  exact parse_dec n h
theorem parse_itoa (n : Int) (h0 : -1000000000000000 ≤ n) (h1 : n ≤ 1000000000000000) : Lib.parseIntB 64 (Lib.itoa n) = .ok n := by
  unfold Lib.itoa
  split
  · rename_i hn
    rw [Lib.parseIntB_minus, parse_uint n.natAbs (by omega)]
    simp only [Lib.signedC]
    rw [if_neg (by omega)]
    congr 1
    omega
  · rename_i hn
    obtain ⟨c, r, e⟩ := List.exists_cons_of_ne_nil (decDigits_ne n.toNat)
    have hc := decDigits_mem n.toNat c (by rw [e]; simp)
    have hp := parse_uint n.toNat (by omega)
    rw [e] at hp ⊢
    rw [Lib.parseIntB_plain _ _ _ (by omega) (by omega), hp]
    simp only [Lib.signlessC]
    rw [if_neg (by omega)]
    congr 1
    omega

/-- The number with a text, if it is one that is not too great. -/
def valB (s : ByteArray) : Option Int := match Lib.parseIntB 64 s.data.toList with
  | .ok v => if (-1000000000000000 ≤ v ∧ v ≤ 1000000000000000) ∧ itoaB v = s then some v else none
  | _ => none
theorem valB_itoa (n : Int) (h0 : -1000000000000000 ≤ n) (h1 : n ≤ 1000000000000000) : valB (itoaB n) = some n := by
  unfold valB
  rw [show (itoaB n).data.toList = Lib.itoa n by simp [itoaB], parse_itoa n h0 h1]
  show (if (-1000000000000000 ≤ n ∧ n ≤ 1000000000000000) ∧ itoaB n = itoaB n then some n else none) = some n
  rw [if_pos ⟨⟨h0, h1⟩, rfl⟩]
theorem valB_some {s : ByteArray} {v : Int} (h : valB s = some v) : -1000000000000000 ≤ v ∧ v ≤ 1000000000000000 ∧ itoaB v = s := by
  unfold valB at h
  split at h
  · split at h
    · rename_i h1
      simp only [Option.some.injEq] at h
      subst h
      exact ⟨h1.1.1, h1.1.2, h1.2⟩
    · cases h
  · cases h
theorem valB_none {s : ByteArray} (h : valB s = none) {n : Int} (h0 : -1000000000000000 ≤ n) (h1 : n ≤ 1000000000000000) : itoaB n ≠ s := by
  rintro rfl
  rw [valB_itoa n h0 h1] at h
  cases h
theorem itoaB_size {n : Int} (h0 : -1000000000000000 ≤ n) (h1 : n ≤ 1000000000000000) : 1 ≤ (itoaB n).size ∧ (itoaB n).size ≤ 17 := by
  have hz : (itoaB n).size = (Lib.itoa n).length := by simp [itoaB, ByteArray.size]
  rw [hz]
  unfold Lib.itoa
  split
  · have := decDigits_len 15 n.natAbs (by omega)
    simp only [List.length_cons]; omega
  · have := decDigits_len 15 n.toNat (by omega)
    have h2 := List.length_pos_iff.2 (decDigits_ne n.toNat)
    omega

/-! ### The reference's reading -/
def accB (l : List UInt8) (a : Nat) : Nat := l.foldl (fun n c => if 48 ≤ c.toNat ∧ c.toNat ≤ 57 then 10 * n + (c.toNat - 48) else n) a
theorem accB_snoc (l : List UInt8) (c : UInt8) (a : Nat) : accB (l ++ [c]) a = if 48 ≤ c.toNat ∧ c.toNat ≤ 57 then 10 * accB l a + (c.toNat - 48) else accB l a := by
  unfold accB
  rw [List.foldl_append]
  rfl
theorem accB_dec (n : Nat) : accB (Lib.decDigits n) 0 = n := by
  induction n using Nat.strongRecOn with
  | _ n ih =>
    have hd := dig_nat n
    have hm : n % 10 < 10 := Nat.mod_lt _ (by omega)
    rw [decDigits_step, accB_snoc, hd, if_pos (by omega)]
    by_cases h10 : n < 10
    · rw [if_pos h10]
      show 10 * 0 + _ = _
      omega
    · rw [if_neg h10, ih (n / 10) (by omega)]
      omega
def accK (s : ByteArray) (k : Nat) : Nat := accB (s.data.toList.take k) 0
theorem accK_zero (s : ByteArray) : accK s 0 = 0 := rfl
theorem accK_succ (s : ByteArray) (k : Nat) (h : k < s.size) : accK s (k + 1) = if 48 ≤ s[k].toNat ∧ s[k].toNat ≤ 57 then 10 * accK s k + (s[k].toNat - 48) else accK s k := by
  unfold accK
  have hk : k < s.data.toList.length := by rw [Array.length_toList]; exact h
  rw [List.take_add_one, List.getElem?_eq_getElem hk, Array.getElem_toList]
  exact accB_snoc _ _ _
theorem accK_lt (s : ByteArray) : ∀ k, k ≤ s.size → accK s k < 10 ^ k
  | 0, _ => by rw [accK_zero]; decide
  | k + 1, h => by
    have ih := accK_lt s k (by omega)
    rw [accK_succ s k (by omega), Nat.pow_succ]
    split <;> omega
/-- What the reference makes of a text. -/
def sval (s : ByteArray) : Int := if s.data[0]! = 45 then -(accK s s.size : Int) else accK s s.size
theorem accK_all (s : ByteArray) : accK s s.size = accB s.data.toList 0 := by
  unfold accK
  rw [List.take_of_length_le (by rw [Array.length_toList]; exact Nat.le_refl _)]
theorem sval_itoa (n : Int) : sval (itoaB n) = n := by
  unfold sval
  rw [accK_all]
  rw [show (itoaB n).data = (Lib.itoa n).toArray from rfl]
  unfold Lib.itoa
  split
  · rename_i hn
    rw [if_pos (by simp)]
    have : accB (45 :: Lib.decDigits n.natAbs) 0 = accB (Lib.decDigits n.natAbs) 0 := rfl
    rw [show ((45 :: Lib.decDigits n.natAbs).toArray).toList = 45 :: Lib.decDigits n.natAbs by simp, this, accB_dec]
    omega
  · rename_i hn
    obtain ⟨c, r, e⟩ := List.exists_cons_of_ne_nil (decDigits_ne n.toNat)
    have hc := decDigits_mem n.toNat c (by rw [e]; simp)
    rw [if_neg (by rw [e]; simp; intro h; rw [h] at hc; exact absurd hc.1 (by decide))]
    rw [show ((Lib.decDigits n.toNat).toArray).toList = Lib.decDigits n.toNat by simp, accB_dec]
    omega

def valN (s : ByteArray) : Int := (valB s).getD 0
def valOk (s : ByteArray) : Bool := (valB s).isSome

theorem valN_some {s : ByteArray} {v : Int} (h : valB s = some v) : valN s = v ∧ valOk s = true := by unfold valN valOk; rw [h]; exact ⟨rfl, rfl⟩
theorem valN_none {s : ByteArray} (h : valB s = none) : valN s = 0 ∧ valOk s = false := by unfold valN valOk; rw [h]; exact ⟨rfl, rfl⟩
theorem valB_sval {s : ByteArray} : valB s = if (-1000000000000000 ≤ sval s ∧ sval s ≤ 1000000000000000) ∧ itoaB (sval s) = s then some (sval s) else none := by
  split
  · rename_i h
    have := valB_itoa (sval s) h.1.1 h.1.2
    rw [h.2] at this
    exact this
  · rename_i h
    cases hv : valB s with
    | none => rfl
    | some v =>
      obtain ⟨h0, h1, h2⟩ := valB_some hv
      refine absurd ?_ h
      rw [← h2, sval_itoa]
      exact ⟨⟨h0, h1⟩, rfl⟩
theorem valB_long {s : ByteArray} (h : s.size < 1 ∨ 17 < s.size) : valB s = none := by
  cases hv : valB s with
  | none => rfl
  | some v =>
    obtain ⟨h0, h1, h2⟩ := valB_some hv
    have := itoaB_size h0 h1
    rw [h2] at this
    omega

end Go.Proofs.YtggpbekclegfoaaDoor

namespace Go.Proofs.YtggpbekclegfoaaDoor
open Go.RowKit

def B1 (b : UInt8) : ByteArray := ⟨#[b]⟩
def ent (c : Nat) (l : ByteArray) : ByteArray := decS c ++ B1 32 ++ l ++ B1 10
def chkN (c : Nat) (l : ByteArray) : Nat := (chkL c (bytesOf l)).toNat
theorem chkN_eq {c : Nat} (h : c < 65003) (l : ByteArray) : chkL c (bytesOf l) = (chkN c l : Int) := by
  have := chkL_bd (bytesOf l) c (by omega) (by omega)
  unfold chkN
  omega
theorem chkN_lt {c : Nat} (h : c < 65003) (l : ByteArray) : chkN c l < 65003 := by
  have := chkL_bd (bytesOf l) c (by omega) (by omega)
  unfold chkN
  omega
def jrC (ls : List ByteArray) : Nat → Nat
  | 0 => 0
  | k + 1 => chkN (jrC ls k) (ls.getD k E0)
def jrS (ls : List ByteArray) : Nat → ByteArray
  | 0 => E0
  | k + 1 => jrS ls k ++ ent (jrC ls (k + 1)) (ls.getD k E0)
theorem jrC_lt (ls : List ByteArray) : ∀ k, jrC ls k < 65003
  | 0 => by simp [jrC]
  | k + 1 => chkN_lt (jrC_lt ls k) _
theorem ent_size (c : Nat) (l : ByteArray) : (ent c l).size = (decS c).size + l.size + 2 := by
  unfold ent
  rw [ByteArray.size_append, ByteArray.size_append, ByteArray.size_append]
  have e : ∀ b, (B1 b).size = 1 := fun _ => rfl
  rw [e, e]
  omega
theorem jrS_ge (ls : List ByteArray) : ∀ k, k ≤ ls.length → sumS (ls.take k) + 3 * k ≤ (jrS ls k).size
  | 0, _ => by simp [sumS, jrS]
  | k + 1, h => by
    have ih := jrS_ge ls k (by omega)
    have h1 := sumS_take ls k (by omega)
    have h2 := decS_pos (jrC ls (k + 1))
    show _ ≤ (jrS ls k ++ ent (jrC ls (k + 1)) (ls.getD k E0)).size
    rw [ByteArray.size_append, ent_size, h1]
    omega
theorem jrS_le (ls : List ByteArray) : ∀ k, k ≤ ls.length → (jrS ls k).size ≤ sumS (ls.take k) + 20 * k
  | 0, _ => by show E0.size ≤ _; exact Nat.zero_le _
  | k + 1, h => by
    have ih := jrS_le ls k (by omega)
    have h1 := sumS_take ls k (by omega)
    have h2 := decS_size (n := jrC ls (k + 1)) (by have := jrC_lt ls (k + 1); omega)
    show (jrS ls k ++ ent (jrC ls (k + 1)) (ls.getD k E0)).size ≤ _
    rw [ByteArray.size_append, ent_size, h1]
    omega
theorem jrS_mono (ls : List ByteArray) : ∀ (k d : Nat), (jrS ls k).size ≤ (jrS ls (k + d)).size
  | k, 0 => Nat.le_refl _
  | k, d + 1 => by
    refine Nat.le_trans (jrS_mono ls k d) ?_
    show _ ≤ (jrS ls (k + d) ++ _).size
    rw [ByteArray.size_append]
    omega
theorem sumS_le (ls : List ByteArray) : ∀ k, sumS (ls.take k) ≤ sumS ls := by
  intro k
  have : sumS ls = sumS (ls.take k) + sumS (ls.drop k) := by
    unfold sumS
    rw [← List.sum_append, ← List.map_append, List.take_append_drop]
  omega

def hasNL (l : ByteArray) : Bool := decide (0 ≤ Lib.indexByte l.data.toList 10)
theorem indexByte_mem (l : List UInt8) (c : UInt8) : 0 ≤ Lib.indexByte l c ↔ c ∈ l := by
  induction l with
  | nil => simp [Lib.indexByte]
  | cons b r ih =>
    have hge := Lib.indexByte_ge r c
    simp only [Lib.indexByte, List.mem_cons]
    by_cases hb : (b == c) = true
    · rw [if_pos hb]
      have := eq_of_beq hb
      simp [this]
    · rw [if_neg hb]
      have hne : ¬ c = b := fun e => hb (by simp [e])
      by_cases h2 : (Lib.indexByte r c == -1) = true
      · rw [if_pos h2]
        have h3 := eq_of_beq h2
        rw [h3] at ih
        simp only [hne, false_or, ← ih]
      · rw [if_neg h2]
        have h3 : ¬ Lib.indexByte r c = -1 := by simpa using h2
        simp only [hne, false_or, ← ih]
        omega
theorem hasNL_yes {l : ByteArray} {k : Nat} (hk : k < l.size) (h : l[k].toNat = 10) : hasNL l = true := by
  unfold hasNL
  rw [decide_eq_true_iff, indexByte_mem]
  have h1 : l.data.toList[k]? = some l[k] := by
    rw [List.getElem?_eq_getElem (by rw [Array.length_toList]; exact hk), Array.getElem_toList]; rfl
  have h2 : l[k] = 10 := UInt8.toNat_inj.1 (by rw [h]; rfl)
  rw [h2] at h1
  exact List.mem_of_getElem? h1
theorem hasNL_no {l : ByteArray} (h : ∀ k (hk : k < l.size), l[k].toNat ≠ 10) : hasNL l = false := by
  unfold hasNL
  rw [decide_eq_false_iff_not, indexByte_mem]
  intro hm
  obtain ⟨k, hk, he⟩ := List.mem_iff_getElem.1 hm
  rw [Array.length_toList] at hk
  refine h k hk ?_
  have : l[k] = 10 := by rw [← he, Array.getElem_toList]; rfl
  rw [this]; rfl

def noNL (ls : List ByteArray) : Bool := ls.all fun l => !hasNL l
def jrOk (ls : List ByteArray) : Bool := noNL ls && decide ((jrS ls ls.length).size ≤ 16000)
def jrR (ls : List ByteArray) : ByteArray := if jrOk ls = true then jrS ls ls.length else E0
theorem noNL_false {ls : List ByteArray} {k : Nat} (hk : k < ls.length) (h : hasNL (ls.getD k E0) = true) : noNL ls = false := by
  cases hb : noNL ls
  · rfl
  · unfold noNL at hb
    rw [List.all_eq_true] at hb
    have := hb _ (getD_mem hk)
    rw [h] at this
    cases this
theorem noNL_true {ls : List ByteArray} (h : ∀ k, k < ls.length → hasNL (ls.getD k E0) = false) : noNL ls = true := by
  unfold noNL
  rw [List.all_eq_true]
  intro l hl
  obtain ⟨k, hk, rfl⟩ := List.mem_iff_getElem.1 hl
  have := h k hk
  rw [List.getD_eq_getElem?_getD, List.getElem?_eq_getElem hk] at this
  rw [show (some ls[k]).getD E0 = ls[k] from rfl] at this
  rw [this]; rfl
theorem jrOk_nl {ls : List ByteArray} {k : Nat} (hk : k < ls.length) (h : hasNL (ls.getD k E0) = true) : jrOk ls = false ∧ jrR ls = E0 := by
  have : jrOk ls = false := by unfold jrOk; rw [noNL_false hk h]; rfl
  exact ⟨this, by unfold jrR; rw [this]; rfl⟩
theorem jrOk_big {ls : List ByteArray} (h : 16000 < (jrS ls ls.length).size) : jrOk ls = false ∧ jrR ls = E0 := by
  have : jrOk ls = false := by unfold jrOk; rw [show decide ((jrS ls ls.length).size ≤ 16000) = false by simp; omega, Bool.and_false]
  exact ⟨this, by unfold jrR; rw [this]; rfl⟩
theorem jrOk_big2 {ls : List ByteArray} {k : Nat} (hk : k ≤ ls.length) (h : 16000 < sumS (ls.take k) + 3 * k) : jrOk ls = false ∧ jrR ls = E0 := by
  refine jrOk_big ?_
  have h1 := jrS_ge ls k hk
  have h2 := jrS_mono ls k (ls.length - k)
  rw [show k + (ls.length - k) = ls.length by omega] at h2
  omega
theorem jrOk_yes {ls : List ByteArray} (h : ∀ k, k < ls.length → hasNL (ls.getD k E0) = false) (h2 : (jrS ls ls.length).size ≤ 16000) : jrOk ls = true ∧ jrR ls = jrS ls ls.length := by
  have : jrOk ls = true := by unfold jrOk; rw [noNL_true h]; simp; exact h2
  exact ⟨this, by unfold jrR; rw [if_pos this]⟩
theorem strCells_add (a b : ByteArray) : Lib.strCells (a ++ b) = Lib.strCells a ++ Lib.strCells b := by
  unfold Lib.strCells
  rw [ByteArray.data_append, Array.toList_append, List.map_append]

end Go.Proofs.YtggpbekclegfoaaDoor

namespace Go.Proofs.YtggpbekclegfoaaDoor
open Go.RowKit

def noneS : ByteArray := ⟨#[110, 111, 110, 101]⟩
def joinBy (c : UInt8) (ws : List ByteArray) : ByteArray := ⟨(Lib.join (ws.map (·.data.toList)) [c]).toArray⟩
def textS (ws : List ByteArray) : ByteArray := if ws.isEmpty = true then noneS else joinBy 44 ws
theorem joinBy_one (c : UInt8) (x : ByteArray) : joinBy c [x] = x := by
  unfold joinBy
  rw [List.map_cons, List.map_nil, Lib.join_one]
theorem joinBy_snoc (c : UInt8) (ws : List ByteArray) (x : ByteArray) (h : ws ≠ []) : joinBy c (ws ++ [x]) = joinBy c ws ++ B1 c ++ x := by
  cases ws with
  | nil => exact absurd rfl h
  | cons y r =>
    apply ByteArray.ext
    unfold joinBy
    rw [ByteArray.data_append, ByteArray.data_append]
    apply Array.ext'
    rw [Array.toList_append, Array.toList_append, List.cons_append, List.map_cons, List.map_cons, Lib.join_cons, Lib.join_cons, List.map_append]
    unfold Lib.joinTail
    simp [B1]
/-- The first k of them. -/
def jnK (c : UInt8) (ws : List ByteArray) (k : Nat) : ByteArray := joinBy c (ws.take k)
theorem jnK_one (c : UInt8) (ws : List ByteArray) (h : 0 < ws.length) : jnK c ws 1 = ws.getD 0 E0 := by
  cases ws with
  | nil => simp at h
  | cons y r => exact joinBy_one c y
theorem jnK_succ (c : UInt8) (ws : List ByteArray) (k : Nat) (h : k < ws.length) (hk : 1 ≤ k) : jnK c ws (k + 1) = jnK c ws k ++ B1 c ++ ws.getD k E0 := by
  unfold jnK
  rw [List.take_add_one, List.getElem?_eq_getElem h, List.getD_eq_getElem?_getD, List.getElem?_eq_getElem h]
  exact joinBy_snoc c _ _ (by intro e; have := congrArg List.length e; rw [List.length_take, List.length_nil] at this; omega)
theorem jnK_all (c : UInt8) (ws : List ByteArray) : jnK c ws ws.length = joinBy c ws := by unfold jnK; rw [List.take_length]
theorem joinBy_size (c : UInt8) (ws : List ByteArray) (N : Nat) (h : ∀ x ∈ ws, x.size ≤ N) : (joinBy c ws).size ≤ (N + 1) * ws.length := by
  have hs : ∀ (l : List UInt8), (⟨l.toArray⟩ : ByteArray).size = l.length := fun l => by simp [ByteArray.size]
  unfold joinBy
  rw [hs]
  cases ws with
  | nil => simp [Lib.join_nil]
  | cons y r =>
    rw [List.map_cons, Lib.join_length]
    have hl : ∀ (r : List ByteArray), (∀ x ∈ r, x.size ≤ N) → Lib.lens (r.map (·.data.toList)) ≤ N * r.length := by
      intro r
      induction r with
      | nil => intro _; simp [Lib.lens]
      | cons z s ih =>
        intro h
        have h1 := h z (by simp)
        have h2 := ih fun x hx => h x (by simp [hx])
        have e : z.data.toList.length = z.size := by rw [Array.length_toList]; rfl
        unfold Lib.lens at h2 ⊢
        rw [List.map_cons, List.map_cons, List.sum_cons, e, List.length_cons, Nat.mul_succ]
        omega
    have h3 := hl (y :: r) h
    rw [List.map_cons] at h3
    simp only [List.length_cons, List.length_map, List.length_nil] at h3 ⊢
    have e : (N + 1) * (r.length + 1) = N * (r.length + 1) + (r.length + 1) := by rw [Nat.add_mul, Nat.one_mul]
    rw [e]
    omega

end Go.Proofs.YtggpbekclegfoaaDoor

namespace Go.Proofs.YtggpbekclegfoaaDoor
open Go.RowKit

def partsC (c : UInt8) : List UInt8 → List (List UInt8)
  | [] => [[]]
  | b :: r => if b = c then [] :: partsC c r else match partsC c r with
    | [] => [[b]]
    | h :: t => (b :: h) :: t
theorem partsC_none {c : UInt8} : ∀ {l : List UInt8}, c ∉ l → partsC c l = [l]
  | [], _ => rfl
  | b :: r, h => by
    simp only [List.mem_cons, not_or] at h
    simp only [partsC]
    rw [if_neg (fun e => h.1 e.symm), partsC_none h.2]
theorem partsC_hit {c : UInt8} : ∀ {l1 l2 : List UInt8}, c ∉ l1 → partsC c (l1 ++ c :: l2) = l1 :: partsC c l2
  | [], l2, _ => by simp [partsC]
  | b :: r, l2, h => by
    simp only [List.mem_cons, not_or] at h
    simp only [List.cons_append, partsC]
    rw [if_neg (fun e => h.1 e.symm), partsC_hit h.2]
theorem partsC_ne (c : UInt8) (l : List UInt8) : partsC c l ≠ [] := by
  by_cases h : c ∈ l
  · obtain ⟨l1, l2, rfl, h1⟩ := List.eq_append_cons_of_mem h
    rw [partsC_hit h1]; simp
  · rw [partsC_none h]; simp
def mkB (l : List UInt8) : ByteArray := ⟨l.toArray⟩
theorem mkB_size (l : List UInt8) : (mkB l).size = l.length := by simp [mkB, ByteArray.size]
theorem mkB_list (l : List UInt8) : (mkB l).data.toList = l := by simp [mkB]
theorem mkB_of (s : ByteArray) : mkB s.data.toList = s := by simp [mkB]
def cutS (c : UInt8) (s : ByteArray) : List ByteArray := (partsC c s.data.toList).map mkB

theorem index_none {c : UInt8} : ∀ {l : List UInt8}, c ∉ l → Lib.index l [c] = -1
  | [], _ => rfl
  | b :: r, h => by
    simp only [List.mem_cons, not_or] at h
    simp only [Lib.index]
    rw [if_neg (by simp [List.isPrefixOf, h.1]), index_none h.2]
    rfl
theorem index_hit {c : UInt8} : ∀ {l1 l2 : List UInt8}, c ∉ l1 → Lib.index (l1 ++ c :: l2) [c] = l1.length
  | [], l2, _ => by simp [Lib.index, List.isPrefixOf]
  | b :: r, l2, h => by
    simp only [List.mem_cons, not_or] at h
    simp only [List.cons_append, Lib.index]
    rw [if_neg (by simp [List.isPrefixOf, h.1]), index_hit h.2]
    rw [if_neg (by simp)]
    simp
theorem cut_none {c : UInt8} {l : List UInt8} (h : c ∉ l) : Lib.cut l [c] = (l, [], false) := by
  unfold Lib.cut
  rw [index_none h, if_neg (by omega)]
theorem cut_hit {c : UInt8} {l1 l2 : List UInt8} (h : c ∉ l1) : Lib.cut (l1 ++ c :: l2) [c] = (l1, l2, true) := by
  unfold Lib.cut
  rw [index_hit h, if_pos (by omega)]
  simp

/-! ### Lines of a journal -/
def recJ (c : Nat) : List (List UInt8) → List ByteArray × Nat
  | [] => ([], 0)
  | e :: more => if (Lib.cut e [32]).2.2 = true ∧ (Lib.cut e [32]).1 = Lib.decDigits (chkN c (mkB (Lib.cut e [32]).2.1)) then
      (mkB (Lib.cut e [32]).2.1 :: (recJ (chkN c (mkB (Lib.cut e [32]).2.1)) more).1, e.length + 1 + (recJ (chkN c (mkB (Lib.cut e [32]).2.1)) more).2)
    else ([], 0)
theorem recJ_no {c : Nat} {e : List UInt8} (more : List (List UInt8)) (h : (32 : UInt8) ∉ e) : recJ c (e :: more) = ([], 0) := by
  simp only [recJ]
  rw [cut_none h, if_neg (by simp)]
theorem recJ_bad {c : Nat} {w l : List UInt8} (more : List (List UInt8)) (h : (32 : UInt8) ∉ w) (hd : mkB w ≠ decS (chkN c (mkB l))) : recJ c ((w ++ 32 :: l) :: more) = ([], 0) := by
  simp only [recJ]
  rw [cut_hit h, if_neg]
  rintro ⟨_, h2⟩
  exact hd (congrArg mkB h2)
theorem recJ_good {c : Nat} {w l : List UInt8} (more : List (List UInt8)) (h : (32 : UInt8) ∉ w) (hd : mkB w = decS (chkN c (mkB l))) : recJ c ((w ++ 32 :: l) :: more) = (mkB l :: (recJ (chkN c (mkB l)) more).1, (w ++ 32 :: l).length + 1 + (recJ (chkN c (mkB l)) more).2) := by
  have hw : w = Lib.decDigits (chkN c (mkB l)) := by
    have := congrArg (fun s : ByteArray => s.data.toList) hd
    rw [mkB_list] at this
    rw [this]; simp [decS]
  simp only [recJ]
  rw [cut_hit h, if_pos ⟨rfl, hw⟩]
def linesL (l : List UInt8) : List (List UInt8) := (partsC 10 l).dropLast
theorem linesL_none {l : List UInt8} (h : (10 : UInt8) ∉ l) : linesL l = [] := by unfold linesL; rw [partsC_none h]; rfl
theorem linesL_hit {l1 l2 : List UInt8} (h : (10 : UInt8) ∉ l1) : linesL (l1 ++ 10 :: l2) = l1 :: linesL l2 := by
  unfold linesL
  rw [partsC_hit h]
  exact List.dropLast_cons_of_ne_nil (partsC_ne _ _)
def rjP (t : ByteArray) : List ByteArray × Nat := recJ 0 (linesL t.data.toList)
def rjOk (t : ByteArray) : Bool := decide (t.size ≤ 16000)
def rjR (t : ByteArray) : List ByteArray := if t.size ≤ 16000 then (rjP t).1 else []
def rjN (t : ByteArray) : Nat := if t.size ≤ 16000 then (rjP t).2 else 0
theorem recJ_cnt : ∀ (c : Nat) (L : List (List UInt8)), (recJ c L).1.length ≤ L.length
  | _, [] => by simp [recJ]
  | c, e :: more => by
    simp only [recJ]
    split
    · have := recJ_cnt (chkN c (mkB (Lib.cut e [32]).2.1)) more
      simp; omega
    · simp
theorem partsC_cnt (c : UInt8) : ∀ l : List UInt8, (partsC c l).length ≤ l.length + 1
  | [] => by simp [partsC]
  | b :: r => by
    have ih := partsC_cnt c r
    simp only [partsC]
    split
    · simp; omega
    · cases h : partsC c r with
      | nil => simp
      | cons x y => rw [h] at ih; simp at ih ⊢; omega
theorem rjR_cnt (t : ByteArray) : cntSs (rjR t) ≤ 16001 := by
  unfold rjR cntSs
  split
  · rename_i h
    have h1 := recJ_cnt 0 (linesL t.data.toList)
    have h2 := partsC_cnt 10 t.data.toList
    have h3 : t.data.toList.length = t.size := by rw [Array.length_toList]; rfl
    unfold rjP
    unfold linesL at h1 ⊢
    rw [List.length_dropLast] at h1
    omega
  · simp

/-- Append of one string to what the call owns; it may be nil. -/
theorem app_strs {w : World} {ops : Array Oper} {rest : List Oper} {o : Oper} {a : Act} {Q : Exit → Act → World → Prop} (hgd : o.guard = none) (s x : Operand)
    (ho : o.op = .call { callee := .builtin .append, args := #[s, x], argTypes := #[62, 62] })
    (base : Nat) (v : Value) (n : Nat) (xs : List ByteArray) (hs : a.eval s = v) (hown : w.ownsRow base 9 1 v n (xs.map SV))
    (sv : Value) (news : List ByteArray) (hx : a.eval x = sv) (hsv : Slc w sv (news.map SV)) (m : Nat) (ys : List ByteArray) (hm : m = n + news.length) (hys : ys = xs ++ news) (hlen : m ≤ 1099511627776) (hbase : base ≤ w.heap.size)
    (h : ∀ a' cap' w', w'.ownsRow base 9 1 (.slice a' m cap') m (ys.map SV) → Below base w w' → w.grownBy w' v.ownBlock → wpList Tryd.prog ops Q rest (a.put o.dst (.slice a' m cap')) w') :
    wpList Tryd.prog ops Q (o :: rest) a w := by
  obtain ⟨i0, hi, hz0, hz1, hz2⟩ := info_parts Tryd.infoStr
  subst hm hys
  refine wpList_append_slc hgd s x 62 ho base 9 i0 (.string ⟨#[]⟩) 16 Tryd.underlying62 hi hz0 hz1 hz2 rfl v n (xs.map SV) hs hown sv (news.map SV) hx hsv (by intro u hu; obtain ⟨x, _, rfl⟩ := List.mem_map.1 hu; rfl) (by simp [maxLen]; omega) (by simp; omega) hbase ?_
  intro v' w' h1 h2 h3
  have h1' : w'.ownsRow base 9 1 v' (n + news.length) ((xs ++ news).map SV) := by simpa using h1
  obtain ⟨a', cap', rfl⟩ := owns_shape h1'
  exact h a' cap' w' h1' (below_grown hown hbase h2) h2
theorem slcS_one (w : World) (s : ByteArray) (b : Nat) (hb : b = w.heap.size) : Slc (w.alloc (.cells #[.string s] 9)) (.slice (some ⟨b, 0, none⟩) 1 1) ([s].map SV) := by
  subst hb
  have h := World.ownsRow_lit (base := w.heap.size) (e := 9) (size := 1) w #[.string s] 1 (Nat.le_refl _) (by simp [maxLen]) rfl
  exact slc_of_owns h

end Go.Proofs.YtggpbekclegfoaaDoor

namespace Go.Proofs.YtggpbekclegfoaaDoor
open Go.RowKit

/-- No byte c from place f up to place i. -/
def NoC (c : UInt8) (s : ByteArray) (f i : Nat) : Prop := ∀ j (hj : j < s.size), f ≤ j → j < i → s[j] ≠ c
theorem noC_mem {c : UInt8} {s : ByteArray} {f i : Nat} (h : NoC c s f i) (hi : i ≤ s.size) : c ∉ ((s.data.toList.drop f).take (i - f)) := by
  intro hm
  obtain ⟨k, hk, he⟩ := List.mem_iff_getElem.1 hm
  rw [List.length_take, List.length_drop, Array.length_toList] at hk
  have hks : f + k < s.size := by have : s.data.size = s.size := rfl; omega
  refine h (f + k) hks (by omega) (by omega) ?_
  rw [← he, List.getElem_take, List.getElem_drop, Array.getElem_toList]
  rfl
theorem drop_split {s : ByteArray} {f i : Nat} (hf : f ≤ i) (hi : i < s.size) : s.data.toList.drop f = (s.data.toList.drop f).take (i - f) ++ s[i] :: s.data.toList.drop (i + 1) := by
  conv => lhs; rw [← List.take_append_drop (i - f) (s.data.toList.drop f)]
  congr 1
  rw [List.drop_drop, show f + (i - f) = i by omega]
  have hk : i < s.data.toList.length := by rw [Array.length_toList]; exact hi
  rw [List.drop_eq_getElem_cons hk, Array.getElem_toList]
  rfl
theorem parts_step {c : UInt8} {s : ByteArray} {f i : Nat} (h : NoC c s f i) (hf : f ≤ i) (hi : i < s.size) (hc : s[i] = c) : (partsC c (s.data.toList.drop f)).map mkB = s.extract f i :: (partsC c (s.data.toList.drop (i + 1))).map mkB := by
  rw [drop_split hf hi, hc, partsC_hit (noC_mem h (by omega)), List.map_cons]
  congr 1
  unfold mkB
  refine ByteArray.ext ?_
  rw [ByteArray.data_extract]
  refine Array.ext' ?_
  simp [Array.toList_extract, List.extract_eq_take_drop]
theorem parts_last {c : UInt8} {s : ByteArray} {f : Nat} (h : NoC c s f s.size) (hf : f ≤ s.size) : (partsC c (s.data.toList.drop f)).map mkB = [s.extract f s.size] := by
  have h1 := noC_mem h (Nat.le_refl _)
  have hl : (s.data.toList.drop f).length = s.size - f := by rw [List.length_drop, Array.length_toList]; rfl
  rw [List.take_of_length_le (by omega)] at h1
  rw [partsC_none h1]
  show [mkB _] = _
  congr 1
  unfold mkB
  refine ByteArray.ext ?_
  rw [ByteArray.data_extract]
  refine Array.ext' ?_
  simp only [Array.toList_extract, List.extract_eq_take_drop]
  rw [List.take_of_length_le (by omega)]

set_option maxHeartbeats 2000000 in
set_option maxRecDepth 4000 in
theorem l01Cut_any (s : ByteArray) (c : UInt8) (w : World) (hs : s.size ≤ 1048576) :
    Calls Tryd.prog 71 #[.string s, .int .u8 c.toNat] w fun e w' => ∃ a cap, e = .returned (.slice a (cutS c s).length cap) ∧ w'.ownsRow w.heap.size 9 1 (.slice a (cutS c s).length cap) (cutS c s).length ((cutS c s).map SV) ∧ Below w.heap.size w w' := by
  obtain ⟨R, hR⟩ : ∃ R, R = cutS c s := ⟨_, rfl⟩
  rw [← hR]
  have HR := Lib.hid hR
  clear hR
  go_enter Tryd.func71, Tryd.ntmps71
  go_upto_region 4 with fail
  refine wp_at fun W1 hW1 => ?_
  have HO0 := Lib.hid (show W1.ownsRow w.heap.size 9 1 (.slice (some ⟨w.heap.size, 0, none⟩) 0 0) 0 (([] : List ByteArray).map SV) by
    subst hW1
    have h := World.ownsRow_lit (base := w.heap.size) (e := 9) (size := 1) w #[] 0 (Nat.le_refl _) (by simp [maxLen]) rfl
    simpa using h)
  have HB0 := Lib.hid (show Below w.heap.size w W1 by subst hW1; exact (Below.refl _ _).alloc (Nat.le_refl _) _)
  clear hW1
  go_loopw [5, 6, 7] (fun ov fv iv wr => ∃ (f i k : Nat) (O : List ByteArray) (a : Option Addr) (cap : Nat), ov = .slice a k cap ∧ fv = .int .i64 f ∧ iv = .int .i64 i ∧ f ≤ i ∧ i ≤ s.size + 1 ∧ k ≤ i ∧ Hid (O.length = k) ∧ Hid ((i = s.size + 1 ∧ R = O) ∨ (i ≤ s.size ∧ R = O ++ (partsC c (s.data.toList.drop f)).map mkB ∧ NoC c s f i)) ∧ Hid (wr.ownsRow w.heap.size 9 1 (.slice a k cap) k (O.map SV)) ∧ Hid (Below w.heap.size w wr)) (fun _ _ iv _ => s.size + 1 - (intOf iv).toNat)
  case atStart => exact ⟨0, 0, 0, [], _, _, rfl, rfl, rfl, Nat.le_refl _, Nat.zero_le _, Nat.le_refl _, Lib.hid rfl, Lib.hid (.inr ⟨Nat.zero_le _, by rw [HR.out]; rfl, by intro j hj h0 h1; omega⟩), HO0, HB0⟩
  case round =>
    clear HO0 HB0
    obtain ⟨f, i, k, O, a, cap, rfl, rfl, rfl, hfi, his, hki, HK, HD, HO, HB⟩ := hrel
    have hszw := HB.out.size
    by_cases hlt : i ≤ s.size
    · have hltI : (i : Int) ≤ (s.size : Int) := by omega
      have HD1 := Lib.hid (show R = O ++ (partsC c (s.data.toList.drop f)).map mkB ∧ NoC c s f i by
        rcases HD.out with ⟨h, _⟩ | ⟨_, h⟩
        · omega
        · exact h)
      have hfI : (f : Int) ≤ (i : Int) := by omega
      by_cases hin : i < s.size
      · have hne : ((i : Int) == (s.size : Int)) = false := by simp; omega
        by_cases hc : s[i] = c
        · have HST := Lib.hid (parts_step HD1.out.2 hfi hin hc)
          have hq : ((s[i].toNat : Int) == (c.toNat : Int)) = true := by rw [hc]; simp
          obtain ⟨x, hx⟩ : ∃ x, x = s.extract f i := ⟨_, rfl⟩
          rw [← hx] at HST
          have HX := Lib.hid hx
          clear hc hx
          go_wp2_with (at_builtin; rw [← HX.out]; refine app_strs rfl _ _ rfl w.heap.size _ k O rfl (owns_below HO.out ((Below.refl _ _).alloc (Nat.le_refl _) _) (Nat.le_refl _)) _ [x] rfl (slcS_one wr x _ rfl) (k + 1) (O ++ [x]) rfl rfl (by omega) (by simp; omega) ?_; intro a' cap' w' r1 r2 _)
          go_roundw
          case rel => exact ⟨i + 1, i + 1, k + 1, O ++ [x], a', cap', by go_num, by go_num, by go_num, Nat.le_refl _, by omega, by omega, Lib.hid (by rw [List.length_append, HK.out]; rfl), Lib.hid (.inr ⟨by omega, by rw [HD1.out.1, HST.out, List.append_assoc]; rfl, fun j hj h0 h1 => by omega⟩), Lib.hid r1, Lib.hid ((HB.out.alloc hszw _).trans r2)⟩
          case measure => simp [intOf]; omega
        · have hq : ((s[i].toNat : Int) == (c.toNat : Int)) = false := by
            simp only [beq_eq_false_iff_ne, ne_eq]
            intro h
            exact hc (UInt8.toNat_inj.1 (by omega))
          have HNC := Lib.hid hc
          clear hc
          go_wp2_with fail
          go_roundw
          case rel =>
            refine ⟨f, i + 1, k, O, a, cap, by go_num, by go_num, by go_num, by omega, by omega, by omega, HK, Lib.hid (.inr ⟨by omega, HD1.out.1, fun j hj h0 h1 => ?_⟩), HO, HB⟩
            by_cases hji : j < i
            · exact HD1.out.2 j hj h0 hji
            · obtain rfl : j = i := by omega
              exact HNC.out
          case measure => simp [intOf]; omega
      · have hie : i = s.size := by omega
        have hne : ((i : Int) == (s.size : Int)) = true := by simp; omega
        have HST := Lib.hid (show (partsC c (s.data.toList.drop f)).map mkB = [s.extract f i] by have := parts_last (c := c) (s := s) (f := f) (by have := HD1.out.2; rw [hie] at this; exact this) (by omega); rw [this, hie])
        obtain ⟨x, hx⟩ : ∃ x, x = s.extract f i := ⟨_, rfl⟩
        rw [← hx] at HST
        have HX := Lib.hid hx
        have HIE := Lib.hid hie
        clear hx hie
        go_wp2_with (at_builtin; rw [← HX.out]; refine app_strs rfl _ _ rfl w.heap.size _ k O rfl (owns_below HO.out ((Below.refl _ _).alloc (Nat.le_refl _) _) (Nat.le_refl _)) _ [x] rfl (slcS_one wr x _ rfl) (k + 1) (O ++ [x]) rfl rfl (by omega) (by simp; omega) ?_; intro a' cap' w' r1 r2 _)
        go_roundw
        case rel => exact ⟨i + 1, i + 1, k + 1, O ++ [x], a', cap', by go_num, by go_num, by go_num, Nat.le_refl _, by omega, by omega, Lib.hid (by rw [List.length_append, HK.out]; rfl), Lib.hid (.inl ⟨by rw [HIE.out], by rw [HD1.out.1, HST.out]⟩), Lib.hid r1, Lib.hid ((HB.out.alloc hszw _).trans r2)⟩
        case measure => simp [intOf]; omega
    · have hltI : ¬ (i : Int) ≤ (s.size : Int) := by omega
      have HE := Lib.hid (show R = O by
        rcases HD.out with ⟨_, h⟩ | ⟨h, _⟩
        · exact h
        · omega)
      go_wp2_with fail
      go_ret
      have hk2 : R.length = k := by rw [HE.out, HK.out]
      exact ⟨a, cap, by rw [hk2]; rfl, by rw [hk2, HE.out]; exact HO.out, HB.out⟩

theorem cutS_lines (s : ByteArray) : (linesL s.data.toList).map mkB = (cutS 10 s).dropLast := by unfold linesL cutS; rw [List.map_dropLast]
theorem cutS_pos (c : UInt8) (s : ByteArray) : 1 ≤ (cutS c s).length := by
  unfold cutS
  rw [List.length_map]
  have := List.length_pos_iff.2 (partsC_ne c s.data.toList)
  omega
theorem cutS_cnt (c : UInt8) (s : ByteArray) : (cutS c s).length ≤ s.size + 1 := by
  unfold cutS
  rw [List.length_map]
  have := partsC_cnt c s.data.toList
  rw [Array.length_toList] at this
  exact this

end Go.Proofs.YtggpbekclegfoaaDoor

namespace Go.Proofs.YtggpbekclegfoaaDoor
open Go.RowKit

theorem pow_global : (Tryd.prog.globalNamed "internal/strconv.uint64pow10").isSome = true := by kernel_rfl
theorem HasPow.up {w w' : World} {B : Nat} (h : HasPow w) (hb : Below B w w') (hB : w.heap.size ≤ B) : HasPow w' := by
  obtain ⟨g, hg⟩ := Option.isSome_iff_exists.1 pow_global
  exact Go.Joins.tab_stays hg h hb hB

end Go.Proofs.YtggpbekclegfoaaDoor

namespace Go.Proofs.YtggpbekclegfoaaDoor
open Go.RowKit

def HasMax (w : World) : Prop := ∃ m, w.cell? ⟨2, 0, none⟩ = some (.int .i64 m)
theorem HasMax.up {w w' : World} {B : Nat} (h : HasMax w) (hb : Below B w w') (hB : w.heap.size ≤ B) : HasMax w' := by
  obtain ⟨m, hm⟩ := h
  exact ⟨m, held_of hb hm hB⟩
end Go.Proofs.YtggpbekclegfoaaDoor

namespace Go.Proofs.YtggpbekclegfoaaDoor
open Go.RowKit

theorem splitK_parts (c : UInt8) : ∀ (k : Nat) (l : List UInt8), l.length ≤ k → Lib.splitK [c] 0 (Lib.count l [c]) l = partsC c l
  | 0, l, h => by
    obtain rfl : l = [] := List.length_eq_zero_iff.1 (by omega)
    rw [Lib.count_miss (index_none (by simp))]
    rfl
  | k + 1, l, h => by
    by_cases hc : c ∈ l
    · obtain ⟨l1, l2, rfl, h1⟩ := List.eq_append_cons_of_mem hc
      have hi := index_hit (l2 := l2) h1
      rw [Lib.count_hit (by simp) hi, Nat.add_comm, partsC_hit h1]
      simp only [Lib.splitK]
      rw [hi, if_neg (by simp)]
      have h2 : (l1 ++ c :: l2).drop (l1.length + [c].length) = l2 := by simp
      have h3 : (((l1.length : Nat) : Int)).toNat = l1.length := by omega
      rw [h3, h2, splitK_parts c k l2 (by simp at h; omega)]
      simp
    · rw [Lib.count_miss (index_none hc), partsC_none hc]
      rfl
theorem splitB_cutS (c : UInt8) (s : ByteArray) : Lib.splitB ⟨#[c]⟩ 0 (Lib.countB s ⟨#[c]⟩) s = cutS c s := by
  have h := Lib.splitB_data ⟨#[c]⟩ 0 (Lib.countB s ⟨#[c]⟩) s
  have h2 : Lib.countB s ⟨#[c]⟩ = Lib.count s.data.toList [c] := rfl
  rw [h2] at h ⊢
  rw [show (⟨#[c]⟩ : ByteArray).data.toList = [c] from rfl, splitK_parts c _ _ (Nat.le_refl _)] at h
  unfold cutS
  rw [← h, List.map_map]
  conv => lhs; rw [← List.map_id (Lib.splitB _ _ _ _)]
  refine List.map_congr_left fun x _ => ?_
  exact (mkB_of x).symm

theorem last_nil (c : UInt8) : ∀ (k : Nat) (l : List UInt8), l.length ≤ k → l ≠ [] → ((partsC c l).getLast? = some [] ↔ l.getLast? = some c)
  | 0, l, h, hn => absurd (List.length_eq_zero_iff.1 (by omega)) hn
  | k + 1, l, h, hn => by
    by_cases hc : c ∈ l
    · obtain ⟨l1, l2, rfl, h1⟩ := List.eq_append_cons_of_mem hc
      rw [partsC_hit h1]
      have hp : (l1 :: partsC c l2).getLast? = (partsC c l2).getLast? := by
        obtain ⟨x, y, hxy⟩ : ∃ x y, partsC c l2 = x :: y := by
          cases hh : partsC c l2 with
          | nil => exact absurd hh (partsC_ne _ _)
          | cons x y => exact ⟨x, y, rfl⟩
        rw [hxy, List.getLast?_cons_cons]
      rw [hp]
      cases l2 with
      | nil => simp [partsC]
      | cons x y =>
        rw [last_nil c k (x :: y) (by simp at h ⊢; omega) (by simp)]
        simp [List.getLast?_append, List.getLast?_cons_cons]
    · rw [partsC_none hc]
      constructor
      · intro h0; simp at h0; exact absurd h0 hn
      · intro h0; exact absurd (List.mem_of_getLast? h0) hc

def lastP (t : ByteArray) : ByteArray := (cutS 10 t).getD ((cutS 10 t).length - 1) E0
theorem lastP_last (t : ByteArray) : ∃ e, (partsC 10 t.data.toList).getLast? = some e ∧ lastP t = mkB e := by
  obtain ⟨e, he⟩ : ∃ e, (partsC 10 t.data.toList).getLast? = some e := by
    cases h : (partsC 10 t.data.toList).getLast? with
    | none => exact absurd (List.getLast?_eq_none_iff.1 h) (partsC_ne _ _)
    | some e => exact ⟨e, rfl⟩
  refine ⟨e, he, ?_⟩
  rw [List.getLast?_eq_getElem?] at he
  unfold lastP cutS
  rw [List.length_map, List.getD_eq_getElem?_getD, List.getElem?_map, he]
  rfl
theorem lastP_empty : (lastP ⟨#[]⟩).size = 0 := by decide +kernel
theorem lastP_size {t : ByteArray} (h : 0 < t.size) : (lastP t).size = 0 ↔ t[t.size - 1] = 10 := by
  obtain ⟨e, he, hl⟩ := lastP_last t
  have hlen : t.data.toList.length = t.size := by rw [Array.length_toList]; rfl
  have hn : t.data.toList ≠ [] := by intro h0; rw [h0] at hlen; simp at hlen; omega
  have h1 := last_nil 10 _ t.data.toList (Nat.le_refl _) hn
  have h2 : t.data.toList.getLast? = some t[t.size - 1] := by
    rw [List.getLast?_eq_getElem?, hlen, List.getElem?_eq_getElem (by omega), Array.getElem_toList]
    rfl
  rw [he, h2] at h1
  rw [hl, mkB_size]
  constructor
  · intro h0
    have : e = [] := List.length_eq_zero_iff.1 h0
    rw [this] at h1
    simpa using h1.1 rfl
  · intro h0
    rw [h0] at h1
    have := h1.2 rfl
    simp at this
    rw [this]; rfl

def coOk (t : ByteArray) : Bool := decide (t.size ≤ 16000) && decide ((lastP t).size = 0)
def isBad (s : ByteArray) : Bool := (s.toList == [110, 111]) || (s.toList == [119, 104, 97, 116])
def badK (L : List ByteArray) : Nat → Nat
  | 0 => 0
  | k + 1 => badK L k + (if isBad (L.getD k E0) = true then 1 else 0)
theorem badK_le (L : List ByteArray) : ∀ k, badK L k ≤ k
  | 0 => Nat.le_refl _
  | k + 1 => by have := badK_le L k; simp only [badK]; split <;> omega
def linesS (t : ByteArray) : List ByteArray := (linesL t.data.toList).map mkB
def coBad (t : ByteArray) : Nat := if coOk t = true then badK (linesS t) (linesS t).length else 0
def coGood (t : ByteArray) : Nat := if coOk t = true then (linesS t).length - badK (linesS t) (linesS t).length else 0
theorem coNo {t : ByteArray} (h : coOk t = false) : coBad t = 0 ∧ coGood t = 0 := by unfold coBad coGood; rw [h]; exact ⟨rfl, rfl⟩
theorem coYes {t : ByteArray} (h : coOk t = true) : coBad t = badK (linesS t) (linesS t).length ∧ coGood t = (linesS t).length - badK (linesS t) (linesS t).length := by unfold coBad coGood; rw [if_pos h, if_pos h]; exact ⟨rfl, rfl⟩
theorem linesS_cnt (t : ByteArray) : (linesS t).length = (cutS 10 t).length - 1 := by unfold linesS; rw [cutS_lines, List.length_dropLast]
theorem linesS_le (t : ByteArray) : (linesS t).length ≤ t.size := by have := linesS_cnt t; have := cutS_cnt 10 t; omega

end Go.Proofs.YtggpbekclegfoaaDoor

namespace Go.Proofs.YtggpbekclegfoaaDoor
open Go.RowKit

def allIn (lo hi : Int) (xs : List Int) : Bool := xs.all (inB lo hi)

theorem allIn_true {lo hi : Int} {xs : List Int} (h : ∀ i, i < xs.length → inB lo hi (xs.getD i 0) = true) : allIn lo hi xs = true := by
  unfold allIn
  rw [List.all_eq_true]
  intro x hx
  obtain ⟨i, hi, rfl⟩ := List.mem_iff_getElem.1 hx
  have := h i hi
  simpa [hi] using this
theorem allIn_false {lo hi : Int} {xs : List Int} {i : Nat} (hlt : i < xs.length) (h : inB lo hi (xs.getD i 0) = false) : allIn lo hi xs = false := by
  unfold allIn
  rw [List.all_eq_false]
  exact ⟨xs[i], List.getElem_mem hlt, by simpa [hlt] using h⟩

set_option maxHeartbeats 400000 in
theorem allWithin_any (v : Value) (xs : List Int) (lo hi : Int) (w : World) (h : RdI w v xs) :
    Calls Tryd.prog 78 #[v, .int .i64 lo, .int .i64 hi] w fun e w' => e = .returned (.bool (allIn lo hi xs)) ∧ w = w' := by
  obtain ⟨a, c, rfl⟩ := h.shape
  have hl := h.len
  unfold maxLen at hl
  have HS := Lib.hid h
  clear h
  go_enter Tryd.func78, Tryd.ntmps78
  go_wp2_with fail
  go_loop [11] (fun i => ∃ k : Nat, i = .int .i64 k ∧ k ≤ xs.length ∧ Hid (∀ i, i < k → inB lo hi (xs.getD i 0) = true)) (fun i => xs.length - (intOf i).toNat)
  case atStart => exact ⟨0, rfl, Nat.zero_le _, fun i hi => by omega⟩
  case round =>
    obtain ⟨k, rfl, hk, hall⟩ := hrel
    by_cases hlt : k < xs.length
    · obtain ⟨b, off, rfl, hb, hc⟩ := HS.out.at hlt
      obtain ⟨x, hx⟩ : ∃ x, x = xs.getD k 0 := ⟨_, rfl⟩
      rw [← hx] at hc
      have HX := Lib.hid hx
      clear hx
      by_cases hin : inB lo hi x = true
      · go_wp2_with (go_at_call 51; refine (within_any _ _ _ _).mono ?_; rintro e w' ⟨rfl, rfl⟩)
        go_round
        case rel => exact ⟨k + 1, by go_num, by omega, fun i hi => by
          rcases Nat.lt_succ_iff_lt_or_eq.1 hi with h | rfl
          · exact hall.out i h
          · rw [← HX.out]; exact hin⟩
        case measure => simp [intOf]; omega
      · have hin' : inB lo hi x = false := by simpa using hin
        go_wp2_with (go_at_call 51; refine (within_any _ _ _ _).mono ?_; rintro e w' ⟨rfl, rfl⟩)
        go_ret
        exact ⟨by rw [allIn_false hlt (by rw [← HX.out]; exact hin')]; rfl, rfl⟩
    · obtain rfl : k = xs.length := by omega
      go_wp2_with fail
      go_ret
      exact ⟨by rw [allIn_true hall.out]; rfl, rfl⟩

theorem allIn_iff (lo hi : Int) (xs : List Int) : allIn lo hi xs = true ↔ ∀ i, i < xs.length → inB lo hi (xs.getD i 0) = true := by
  constructor
  · intro h i hi
    unfold allIn at h
    rw [List.all_eq_true] at h
    have := h xs[i] (List.getElem_mem hi)
    simpa [hi] using this
  · exact allIn_true

def Rising (xs : List Int) : Prop := ∀ i, i < xs.length → 0 < i → xs.getD (i - 1) 0 < xs.getD i 0
instance (xs : List Int) : Decidable (Rising xs) := by unfold Rising; exact inferInstance
def risingB (xs : List Int) : Bool := decide (Rising xs)
theorem risingB_true {xs : List Int} (h : Rising xs) : risingB xs = true := by simp [risingB, h]
theorem risingB_false {xs : List Int} (h : ¬ Rising xs) : risingB xs = false := by simp [risingB, h]

end Go.Proofs.YtggpbekclegfoaaDoor
