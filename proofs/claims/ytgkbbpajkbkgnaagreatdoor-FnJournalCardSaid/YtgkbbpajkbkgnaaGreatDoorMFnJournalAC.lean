/-
  FnJournal: texts joined: DecS, JournM, TextM, AllIn, CutM, JournI, TextI, Same, SameL.
-/
import Derived.Lib.ItoaNum
import Derived.Lib.LaidTab
import Derived.Lib.SmallJoins
import Derived.Lib.Join
import Derived.Lib.IndexMore
import Derived.Deep.RegionHeld3
import Derived.Test.YtgkbbpajkbkgnaaGreatDoorMFnJournalAB
set_option linter.unusedVariables false
set_option linter.unusedSimpArgs false
namespace Go.Proofs.YtgkbbpajkbkgnaaGreatDoor
open Go.RowKit
def digI (n : Nat) : List Int := (Lib.decDigits n).map fun b => (b.toNat : Int)
def decS (n : Nat) : ByteArray := ⟨(Lib.decDigits n).toArray⟩
theorem digI_step (m : Nat) : digI m = (if m / 10 = 0 then [] else digI (m / 10)) ++ [48 + ((m % 10 : Nat) : Int)] := by
  unfold digI
  rw [Lib.decDigits]
  by_cases h : m < 10
  · rw [dif_pos h, if_pos (by omega)]
    have : m % 10 = m := Nat.mod_eq_of_lt h
    simp [this]
    omega
  · rw [dif_neg h, if_neg (by omega), List.map_append]
    have : m % 10 < 10 := Nat.mod_lt _ (by omega)
    simp
    omega
theorem digI_ne (m : Nat) : digI m ≠ [] := by rw [digI_step]; simp
theorem digI_len : ∀ (k n : Nat), n < 10 ^ (k + 1) → (digI n).length ≤ k + 1
  | 0, n, h => by
    rw [digI_step, if_pos (by omega)]; simp
  | k + 1, n, h => by
    rw [digI_step]
    split
    · simp
    · have := digI_len k (n / 10) (by rw [Nat.pow_succ] at h; omega)
      simp; omega
theorem digI_len20 {n : Nat} (h : n < 1000000000000000000) : (digI n).length ≤ 18 := digI_len 17 n h
theorem bytesOf_decS (n : Nat) : bytesOf (decS n) = digI n := rfl
theorem decS_of (n : Nat) : strOfNums (digI n) = decS n := by
  unfold strOfNums digI decS
  congr 2
  rw [List.map_map]
  conv => rhs; rw [← List.map_id (Lib.decDigits n)]
  refine List.map_congr_left fun b _ => ?_
  simp
theorem decS_size {n : Nat} (h : n < 1000000000000000000) : (decS n).size ≤ 18 := by rw [← bytesOf_len, bytesOf_decS]; exact digI_len20 h
theorem decS_pos (n : Nat) : 1 ≤ (decS n).size := by
  rw [← bytesOf_len, bytesOf_decS]
  cases h : digI n with
  | nil => exact absurd h (digI_ne n)
  | cons a l => simp
theorem below_grow {B : Nat} {w a : World} (h : Below B w a) (os : Array Obj) (hB : B ≤ a.heap.size) : Below B w (Sort.grow a os) :=
  ⟨h.os, h.tape, h.output, Nat.le_trans h.size (by simp [Sort.grow]), fun k hk => (by
    show (a.heap ++ os)[k]? = _
    rw [Array.getElem?_append_left (by omega)]
    exact h.block k hk)⟩
def HasPow (w : World) : Prop := Lib.TabIs Tryz.prog w "internal/strconv.uint64pow10" .u64 Lib.pow10Tab
theorem Decimal_any (n : Nat) (hn : n < 1000000000000000000) (w : World) (htab : HasPow w) :
    Calls Tryz.prog 15 #[.int .i64 n] w fun e w' => e = .returned (.string (decS n)) ∧ Below w.heap.size w w' := by
  have hcon := Tryz.strconv_FormatInt_10 n (by omega) (by omega) w htab
  have hi : (⟨(Lib.itoa n).toArray⟩ : ByteArray) = decS n := by
    unfold Lib.itoa decS
    rw [if_neg (by omega), Int.toNat_natCast]
  rw [hi] at hcon
  clear hi htab
  go_enter Tryz.func15, Tryz.ntmps15
  go_wp2_with (go_at_call 52; refine hcon.mono ?_; rintro e w' ⟨rfl, k, os, rfl⟩)
  go_ret
  exact ⟨rfl, below_grow (below_drewN (Below.refl _ _) _) _ (Nat.le_refl _)⟩
set_option maxHeartbeats 2000000 in
set_option maxRecDepth 4000 in
theorem l01Dec_any (n : Nat) (hn : n < 1000000000000000000) (w : World) :
    Calls Tryz.prog 135 #[.int .i64 n] w fun e w' => e = .returned (.string (decS n)) ∧ Below w.heap.size w w' := by
  have HL := Lib.hid (digI_len20 hn)
  have HS := Lib.hid (decS_of n)
  go_enter Tryz.func135, Tryz.ntmps135
  go_upto_region 3 with fail
  refine wp_at fun W1 hW1 => ?_
  have HO0 := Lib.hid (show W1.ownsRow w.heap.size 5 1 (.slice (some ⟨w.heap.size, 0, none⟩) 0 0) 0 (([] : List Int).map B8) by subst hW1; exact ownsB_lit w [] 0 w.heap.size #[] rfl rfl (by omega) rfl)
  have HB0 := Lib.hid (show Below w.heap.size w W1 by subst hW1; exact (Below.refl _ _).alloc (Nat.le_refl _) _)
  clear hW1
  go_loopw [3, 4] (fun ov rv wr => ∃ (m k : Nat) (L : List Int) (a : Option Addr) (cap : Nat), ov = .slice a k cap ∧ rv = .int .i64 m ∧ k ≤ 18 ∧ m ≤ n ∧ Hid (L.length = k) ∧ Hid (wr.ownsRow w.heap.size 5 1 (.slice a k cap) k (L.map B8)) ∧ Hid ((L = [] ∧ m = n) ∨ (L ≠ [] ∧ digI n = (if m = 0 then [] else digI m) ++ L)) ∧ Hid (Below w.heap.size w wr)) (fun ov rv _ => (intOf rv).toNat * 2 + (match ov with | .slice _ 0 _ => 1 | _ => 0))
  case atStart => exact ⟨n, 0, [], _, _, rfl, rfl, by omega, Nat.le_refl _, Lib.hid rfl, HO0, Lib.hid (.inl ⟨rfl, rfl⟩), HB0⟩
  case round =>
    clear HO0 HB0
    obtain ⟨m, k, L, a, cap, rfl, rfl, hk, hm, HK, HO, HD, HB⟩ := hrel
    by_cases hgo : k = 0 ∨ m ≠ 0
    · have HST := Lib.hid (show digI n = (if m / 10 = 0 then [] else digI (m / 10)) ++ ([48 + ((m % 10 : Nat) : Int)] ++ L) by
        rcases HD.out with ⟨h1, h2⟩ | ⟨h1, h2⟩
        · subst h1 h2
          exact digI_step m
        · have hm0 : m ≠ 0 := by
            rcases hgo with h | h
            · exact absurd (List.length_eq_zero_iff.1 (HK.out.trans h)) h1
            · exact h
          rw [h2, if_neg hm0, digI_step m, List.append_assoc])
      have HK1 := Lib.hid (show k + 1 ≤ 18 by
        have h1 := HL.out
        rw [HST.out] at h1
        have h2 := HK.out
        simp only [List.length_append, List.length_cons, List.length_nil] at h1
        omega)
      have hwq : ((m : Int)).tdiv 10 = ((m / 10 : Nat) : Int) := by rw [Int.tdiv_eq_ediv_of_nonneg (by omega)]; omega
      have hwr : ((m : Int)).tmod 10 = ((m % 10 : Nat) : Int) := by rw [Int.tmod_eq_emod_of_nonneg (by omega)]; omega
      have hr10 : m % 10 < 10 := Nat.mod_lt _ (by omega)
      have hq10 : m / 10 ≤ m := Nat.div_le_self _ _
      have HMQ := Lib.hid (show m ≠ 0 → m / 10 < m from fun h => Nat.div_lt_self (by omega) (by omega))
      obtain ⟨r, hr⟩ : ∃ r, r = m % 10 := ⟨_, rfl⟩
      obtain ⟨q, hq⟩ : ∃ q, q = m / 10 := ⟨_, rfl⟩
      rw [← hr] at hwr hr10 HST
      rw [← hq] at hwq hq10 HST HMQ
      clear hr hq
      have hrn : ¬ ((r : Int) < 0) := by omega
      have hwb : IntKind.u8.wrap (48 + (r : Int)) = 48 + (r : Int) := by simp [IntKind.wrap, IntKind.bits, IntKind.signed]; omega
      have hsz := HB.out.size
      rcases (show k = 0 ∨ (k ≠ 0 ∧ m ≠ 0) by omega) with hk0 | ⟨hk0, hm0⟩
      · subst hk0
        go_wp2_with (at_builtin; refine app_bytes rfl _ _ rfl w.heap.size _ 1 [48 + (r : Int)] rfl (owns_base (ownsB_lit wr [48 + (r : Int)] 1 _ _ rfl rfl (by omega) rfl) hsz) _ L rfl (slc_of_owns (owns_below HO.out ((Below.refl _ _).alloc (Nat.le_refl _) _) (Nat.le_refl _))) (0 + 1) ([48 + (r : Int)] ++ L) (by have := HK.out; omega) rfl (by omega) (by simp; omega) ?_; intro a' cap' w' r1 r2 _)
        go_roundw
        case rel => exact ⟨q, 0 + 1, [48 + (r : Int)] ++ L, a', cap', rfl, by go_num, HK1.out, by omega, Lib.hid (by have := HK.out; rw [List.length_append, this]; simp; try omega), Lib.hid r1, Lib.hid (.inr ⟨by simp, HST.out⟩), Lib.hid ((HB.out.alloc hsz _).trans r2)⟩
        case measure => simp [intOf]; omega
      · have hkI : ((k : Int) == 0) = false := by simp; omega
        have hmI : ((m : Int) != 0) = true := by simp; omega
        go_wp2_with (at_builtin; refine app_bytes rfl _ _ rfl w.heap.size _ 1 [48 + (r : Int)] rfl (owns_base (ownsB_lit wr [48 + (r : Int)] 1 _ _ rfl rfl (by omega) rfl) hsz) _ L rfl (slc_of_owns (owns_below HO.out ((Below.refl _ _).alloc (Nat.le_refl _) _) (Nat.le_refl _))) (k + 1) ([48 + (r : Int)] ++ L) (by have := HK.out; omega) rfl (by omega) (by simp; omega) ?_; intro a' cap' w' r1 r2 _)
        go_roundw
        case rel => exact ⟨q, k + 1, [48 + (r : Int)] ++ L, a', cap', by go_num, by go_num, HK1.out, by omega, Lib.hid (by have := HK.out; rw [List.length_append, this]; simp; try omega), Lib.hid r1, Lib.hid (.inr ⟨by simp, HST.out⟩), Lib.hid ((HB.out.alloc hsz _).trans r2)⟩
        case measure => have := HMQ.out hm0; simp [intOf]; omega
    · obtain ⟨hk0, rfl⟩ : k ≠ 0 ∧ m = 0 := by omega
      have hkI : ((k : Int) == 0) = false := by simp; omega
      have HE := Lib.hid (show L = digI n by
        rcases HD.out with ⟨h1, h2⟩ | ⟨h1, h2⟩
        · exact absurd (by rw [← HK.out, h1]; rfl) hk0
        · rw [h2, if_pos rfl, List.nil_append])
      have hn0 : ¬ ((n : Int) < 0) := by omega
      have hcv := conv_bytes HO.out (by omega)
      rw [HE.out, HS.out] at hcv
      go_wp2_with fail
      go_ret
      exact ⟨rfl, HB.out⟩
end Go.Proofs.YtgkbbpajkbkgnaaGreatDoor

namespace Go.Proofs.YtgkbbpajkbkgnaaGreatDoor
open Go.RowKit
def B1 (b : UInt8) : ByteArray := ⟨#[b]⟩
def ent (c : Nat) (l : ByteArray) : ByteArray := decS c ++ B1 32 ++ l ++ B1 10
def chkN (c : Nat) (l : ByteArray) : Nat := (chkL c (bytesOf l)).toNat
theorem chkN_eq {c : Nat} (h : c < 65003) (l : ByteArray) : chkL c (bytesOf l) = (chkN c l : Int) := by
  have := chkL_bd (bytesOf l) c (by omega) (by omega)
  unfold chkN
  omega
theorem chkN_lt {c : Nat} (h : c < 65003) (l : ByteArray) : chkN c l < 65003 := by
  have := chkL_bd (bytesOf l) c (by omega) (by omega)
  unfold chkN
  omega
def jrC (ls : List ByteArray) : Nat → Nat
  | 0 => 0
  | k + 1 => chkN (jrC ls k) (ls.getD k E0)
def jrS (ls : List ByteArray) : Nat → ByteArray
  | 0 => E0
  | k + 1 => jrS ls k ++ ent (jrC ls (k + 1)) (ls.getD k E0)
theorem jrC_lt (ls : List ByteArray) : ∀ k, jrC ls k < 65003
  | 0 => by simp [jrC]
  | k + 1 => chkN_lt (jrC_lt ls k) _
theorem ent_size (c : Nat) (l : ByteArray) : (ent c l).size = (decS c).size + l.size + 2 := by
  unfold ent
  rw [ByteArray.size_append, ByteArray.size_append, ByteArray.size_append]
  have e : ∀ b, (B1 b).size = 1 := fun _ => rfl
  rw [e, e]
  omega
theorem jrS_le (ls : List ByteArray) : ∀ k, k ≤ ls.length → (jrS ls k).size ≤ sumS (ls.take k) + 20 * k
  | 0, _ => by show E0.size ≤ _; exact Nat.zero_le _
  | k + 1, h => by
    have ih := jrS_le ls k (by omega)
    have h1 := sumS_take ls k (by omega)
    have h2 := decS_size (n := jrC ls (k + 1)) (by have := jrC_lt ls (k + 1); omega)
    show (jrS ls k ++ ent (jrC ls (k + 1)) (ls.getD k E0)).size ≤ _
    rw [ByteArray.size_append, ent_size, h1]
    omega
theorem sumS_le (ls : List ByteArray) : ∀ k, sumS (ls.take k) ≤ sumS ls := by
  intro k
  have : sumS ls = sumS (ls.take k) + sumS (ls.drop k) := by
    unfold sumS
    rw [← List.sum_append, ← List.map_append, List.take_append_drop]
  omega
def hasNL (l : ByteArray) : Bool := decide (0 ≤ Lib.indexByte l.data.toList 10)
theorem indexByte_mem (l : List UInt8) (c : UInt8) : 0 ≤ Lib.indexByte l c ↔ c ∈ l := by
  induction l with
  | nil => simp [Lib.indexByte]
  | cons b r ih =>
    have hge := Lib.indexByte_ge r c
    simp only [Lib.indexByte, List.mem_cons]
    by_cases hb : (b == c) = true
    · rw [if_pos hb]
      have := eq_of_beq hb
      simp [this]
    · rw [if_neg hb]
      have hne : ¬ c = b := fun e => hb (by simp [e])
      by_cases h2 : (Lib.indexByte r c == -1) = true
      · rw [if_pos h2]
        have h3 := eq_of_beq h2
        rw [h3] at ih
        simp only [hne, false_or, ← ih]
      · rw [if_neg h2]
        have h3 : ¬ Lib.indexByte r c = -1 := by simpa using h2
        simp only [hne, false_or, ← ih]
        omega
def noNL (ls : List ByteArray) : Bool := ls.all fun l => !hasNL l
def jrOk (ls : List ByteArray) : Bool := noNL ls && decide ((jrS ls ls.length).size ≤ 16000)
def jrR (ls : List ByteArray) : ByteArray := if jrOk ls = true then jrS ls ls.length else E0
theorem noNL_false {ls : List ByteArray} {k : Nat} (hk : k < ls.length) (h : hasNL (ls.getD k E0) = true) : noNL ls = false := by
  cases hb : noNL ls
  · rfl
  · unfold noNL at hb
    rw [List.all_eq_true] at hb
    have := hb _ (getD_mem hk)
    rw [h] at this
    cases this
theorem noNL_true {ls : List ByteArray} (h : ∀ k, k < ls.length → hasNL (ls.getD k E0) = false) : noNL ls = true := by
  unfold noNL
  rw [List.all_eq_true]
  intro l hl
  obtain ⟨k, hk, rfl⟩ := List.mem_iff_getElem.1 hl
  have := h k hk
  rw [List.getD_eq_getElem?_getD, List.getElem?_eq_getElem hk] at this
  rw [show (some ls[k]).getD E0 = ls[k] from rfl] at this
  rw [this]; rfl
theorem jrOk_nl {ls : List ByteArray} {k : Nat} (hk : k < ls.length) (h : hasNL (ls.getD k E0) = true) : jrOk ls = false ∧ jrR ls = E0 := by
  have : jrOk ls = false := by unfold jrOk; rw [noNL_false hk h]; rfl
  exact ⟨this, by unfold jrR; rw [this]; rfl⟩
theorem jrOk_big {ls : List ByteArray} (h : 16000 < (jrS ls ls.length).size) : jrOk ls = false ∧ jrR ls = E0 := by
  have : jrOk ls = false := by unfold jrOk; rw [show decide ((jrS ls ls.length).size ≤ 16000) = false by simp; omega, Bool.and_false]
  exact ⟨this, by unfold jrR; rw [this]; rfl⟩
theorem jrOk_yes {ls : List ByteArray} (h : ∀ k, k < ls.length → hasNL (ls.getD k E0) = false) (h2 : (jrS ls ls.length).size ≤ 16000) : jrOk ls = true ∧ jrR ls = jrS ls ls.length := by
  have : jrOk ls = true := by unfold jrOk; rw [noNL_true h]; simp; exact h2
  exact ⟨this, by unfold jrR; rw [if_pos this]⟩
theorem strCells_add (a b : ByteArray) : Lib.strCells (a ++ b) = Lib.strCells a ++ Lib.strCells b := by
  unfold Lib.strCells
  rw [ByteArray.data_append, Array.toList_append, List.map_append]
end Go.Proofs.YtgkbbpajkbkgnaaGreatDoor

namespace Go.Proofs.YtgkbbpajkbkgnaaGreatDoor
open Go.RowKit
def noneS : ByteArray := ⟨#[110, 111, 110, 101]⟩
def joinBy (c : UInt8) (ws : List ByteArray) : ByteArray := ⟨(Lib.join (ws.map (·.data.toList)) [c]).toArray⟩
def textS (ws : List ByteArray) : ByteArray := if ws.isEmpty = true then noneS else joinBy 44 ws
theorem joinBy_one (c : UInt8) (x : ByteArray) : joinBy c [x] = x := by
  unfold joinBy
  rw [List.map_cons, List.map_nil, Lib.join_one]
theorem joinBy_snoc (c : UInt8) (ws : List ByteArray) (x : ByteArray) (h : ws ≠ []) : joinBy c (ws ++ [x]) = joinBy c ws ++ B1 c ++ x := by
  cases ws with
  | nil => exact absurd rfl h
  | cons y r =>
    apply ByteArray.ext
    unfold joinBy
    rw [ByteArray.data_append, ByteArray.data_append]
    apply Array.ext'
    rw [Array.toList_append, Array.toList_append, List.cons_append, List.map_cons, List.map_cons, Lib.join_cons, Lib.join_cons, List.map_append]
    unfold Lib.joinTail
    simp [B1]
def jnK (c : UInt8) (ws : List ByteArray) (k : Nat) : ByteArray := joinBy c (ws.take k)
theorem jnK_one (c : UInt8) (ws : List ByteArray) (h : 0 < ws.length) : jnK c ws 1 = ws.getD 0 E0 := by
  cases ws with
  | nil => simp at h
  | cons y r => exact joinBy_one c y
theorem jnK_succ (c : UInt8) (ws : List ByteArray) (k : Nat) (h : k < ws.length) (hk : 1 ≤ k) : jnK c ws (k + 1) = jnK c ws k ++ B1 c ++ ws.getD k E0 := by
  unfold jnK
  rw [List.take_add_one, List.getElem?_eq_getElem h, List.getD_eq_getElem?_getD, List.getElem?_eq_getElem h]
  exact joinBy_snoc c _ _ (by intro e; have := congrArg List.length e; rw [List.length_take, List.length_nil] at this; omega)
theorem jnK_all (c : UInt8) (ws : List ByteArray) : jnK c ws ws.length = joinBy c ws := by unfold jnK; rw [List.take_length]
theorem joinBy_size (c : UInt8) (ws : List ByteArray) (N : Nat) (h : ∀ x ∈ ws, x.size ≤ N) : (joinBy c ws).size ≤ (N + 1) * ws.length := by
  have hs : ∀ (l : List UInt8), (⟨l.toArray⟩ : ByteArray).size = l.length := fun l => by simp [ByteArray.size]
  unfold joinBy
  rw [hs]
  cases ws with
  | nil => simp [Lib.join_nil]
  | cons y r =>
    rw [List.map_cons, Lib.join_length]
    have hl : ∀ (r : List ByteArray), (∀ x ∈ r, x.size ≤ N) → Lib.lens (r.map (·.data.toList)) ≤ N * r.length := by
      intro r
      induction r with
      | nil => intro _; simp [Lib.lens]
      | cons z s ih =>
        intro h
        have h1 := h z (by simp)
        have h2 := ih fun x hx => h x (by simp [hx])
        have e : z.data.toList.length = z.size := by rw [Array.length_toList]; rfl
        unfold Lib.lens at h2 ⊢
        rw [List.map_cons, List.map_cons, List.sum_cons, e, List.length_cons, Nat.mul_succ]
        omega
    have h3 := hl (y :: r) h
    rw [List.map_cons] at h3
    simp only [List.length_cons, List.length_map, List.length_nil] at h3 ⊢
    have e : (N + 1) * (r.length + 1) = N * (r.length + 1) + (r.length + 1) := by rw [Nat.add_mul, Nat.one_mul]
    rw [e]
    omega
end Go.Proofs.YtgkbbpajkbkgnaaGreatDoor

namespace Go.Proofs.YtgkbbpajkbkgnaaGreatDoor
open Go.RowKit
def allIn (lo hi : Int) (xs : List Int) : Bool := xs.all (inB lo hi)
theorem allIn_true {lo hi : Int} {xs : List Int} (h : ∀ i, i < xs.length → inB lo hi (xs.getD i 0) = true) : allIn lo hi xs = true := by
  unfold allIn
  rw [List.all_eq_true]
  intro x hx
  obtain ⟨i, hi, rfl⟩ := List.mem_iff_getElem.1 hx
  have := h i hi
  simpa [hi] using this
theorem allIn_false {lo hi : Int} {xs : List Int} {i : Nat} (hlt : i < xs.length) (h : inB lo hi (xs.getD i 0) = false) : allIn lo hi xs = false := by
  unfold allIn
  rw [List.all_eq_false]
  exact ⟨xs[i], List.getElem_mem hlt, by simpa [hlt] using h⟩
set_option maxHeartbeats 400000 in
theorem allWithin_any (v : Value) (xs : List Int) (lo hi : Int) (w : World) (h : RdI w v xs) :
    Calls Tryz.prog 121 #[v, .int .i64 lo, .int .i64 hi] w fun e w' => e = .returned (.bool (allIn lo hi xs)) ∧ w = w' := by
  obtain ⟨a, c, rfl⟩ := h.shape
  have hl := h.len
  unfold maxLen at hl
  have HS := Lib.hid h
  clear h
  go_enter Tryz.func121, Tryz.ntmps121
  go_wp2_with fail
  go_loop [11] (fun i => ∃ k : Nat, i = .int .i64 k ∧ k ≤ xs.length ∧ Hid (∀ i, i < k → inB lo hi (xs.getD i 0) = true)) (fun i => xs.length - (intOf i).toNat)
  case atStart => exact ⟨0, rfl, Nat.zero_le _, fun i hi => by omega⟩
  case round =>
    obtain ⟨k, rfl, hk, hall⟩ := hrel
    by_cases hlt : k < xs.length
    · obtain ⟨b, off, rfl, hb, hc⟩ := HS.out.at hlt
      obtain ⟨x, hx⟩ : ∃ x, x = xs.getD k 0 := ⟨_, rfl⟩
      rw [← hx] at hc
      have HX := Lib.hid hx
      clear hx
      by_cases hin : inB lo hi x = true
      · go_wp2_with (go_at_call 115; refine (within_any _ _ _ _).mono ?_; rintro e w' ⟨rfl, rfl⟩)
        go_round
        case rel => exact ⟨k + 1, by go_num, by omega, fun i hi => by
          rcases Nat.lt_succ_iff_lt_or_eq.1 hi with h | rfl
          · exact hall.out i h
          · rw [← HX.out]; exact hin⟩
        case measure => simp [intOf]; omega
      · have hin' : inB lo hi x = false := by simpa using hin
        go_wp2_with (go_at_call 115; refine (within_any _ _ _ _).mono ?_; rintro e w' ⟨rfl, rfl⟩)
        go_ret
        exact ⟨by rw [allIn_false hlt (by rw [← HX.out]; exact hin')]; rfl, rfl⟩
    · obtain rfl : k = xs.length := by omega
      go_wp2_with fail
      go_ret
      exact ⟨by rw [allIn_true hall.out]; rfl, rfl⟩
theorem allIn_iff (lo hi : Int) (xs : List Int) : allIn lo hi xs = true ↔ ∀ i, i < xs.length → inB lo hi (xs.getD i 0) = true := by
  constructor
  · intro h i hi
    unfold allIn at h
    rw [List.all_eq_true] at h
    have := h xs[i] (List.getElem_mem hi)
    simpa [hi] using this
  · exact allIn_true
def Rising (xs : List Int) : Prop := ∀ i, i < xs.length → 0 < i → xs.getD (i - 1) 0 < xs.getD i 0
instance (xs : List Int) : Decidable (Rising xs) := by unfold Rising; exact inferInstance
end Go.Proofs.YtgkbbpajkbkgnaaGreatDoor

namespace Go.Proofs.YtgkbbpajkbkgnaaGreatDoor
open Go.RowKit
def partsC (c : UInt8) : List UInt8 → List (List UInt8)
  | [] => [[]]
  | b :: r => if b = c then [] :: partsC c r else match partsC c r with
    | [] => [[b]]
    | h :: t => (b :: h) :: t
theorem partsC_none {c : UInt8} : ∀ {l : List UInt8}, c ∉ l → partsC c l = [l]
  | [], _ => rfl
  | b :: r, h => by
    simp only [List.mem_cons, not_or] at h
    simp only [partsC]
    rw [if_neg (fun e => h.1 e.symm), partsC_none h.2]
theorem partsC_hit {c : UInt8} : ∀ {l1 l2 : List UInt8}, c ∉ l1 → partsC c (l1 ++ c :: l2) = l1 :: partsC c l2
  | [], l2, _ => by simp [partsC]
  | b :: r, l2, h => by
    simp only [List.mem_cons, not_or] at h
    simp only [List.cons_append, partsC]
    rw [if_neg (fun e => h.1 e.symm), partsC_hit h.2]
theorem partsC_ne (c : UInt8) (l : List UInt8) : partsC c l ≠ [] := by
  by_cases h : c ∈ l
  · obtain ⟨l1, l2, rfl, h1⟩ := List.eq_append_cons_of_mem h
    rw [partsC_hit h1]; simp
  · rw [partsC_none h]; simp
def mkB (l : List UInt8) : ByteArray := ⟨l.toArray⟩
theorem mkB_size (l : List UInt8) : (mkB l).size = l.length := by simp [mkB, ByteArray.size]
theorem mkB_list (l : List UInt8) : (mkB l).data.toList = l := by simp [mkB]
theorem mkB_of (s : ByteArray) : mkB s.data.toList = s := by simp [mkB]
def cutS (c : UInt8) (s : ByteArray) : List ByteArray := (partsC c s.data.toList).map mkB
theorem index_none {c : UInt8} : ∀ {l : List UInt8}, c ∉ l → Lib.index l [c] = -1
  | [], _ => rfl
  | b :: r, h => by
    simp only [List.mem_cons, not_or] at h
    simp only [Lib.index]
    rw [if_neg (by simp [List.isPrefixOf, h.1]), index_none h.2]
    rfl
theorem index_hit {c : UInt8} : ∀ {l1 l2 : List UInt8}, c ∉ l1 → Lib.index (l1 ++ c :: l2) [c] = l1.length
  | [], l2, _ => by simp [Lib.index, List.isPrefixOf]
  | b :: r, l2, h => by
    simp only [List.mem_cons, not_or] at h
    simp only [List.cons_append, Lib.index]
    rw [if_neg (by simp [List.isPrefixOf, h.1]), index_hit h.2]
    rw [if_neg (by simp)]
    simp
theorem cut_none {c : UInt8} {l : List UInt8} (h : c ∉ l) : Lib.cut l [c] = (l, [], false) := by
  unfold Lib.cut
  rw [index_none h, if_neg (by omega)]
theorem cut_hit {c : UInt8} {l1 l2 : List UInt8} (h : c ∉ l1) : Lib.cut (l1 ++ c :: l2) [c] = (l1, l2, true) := by
  unfold Lib.cut
  rw [index_hit h, if_pos (by omega)]
  simp
def recJ (c : Nat) : List (List UInt8) → List ByteArray × Nat
  | [] => ([], 0)
  | e :: more => if (Lib.cut e [32]).2.2 = true ∧ (Lib.cut e [32]).1 = Lib.decDigits (chkN c (mkB (Lib.cut e [32]).2.1)) then
      (mkB (Lib.cut e [32]).2.1 :: (recJ (chkN c (mkB (Lib.cut e [32]).2.1)) more).1, e.length + 1 + (recJ (chkN c (mkB (Lib.cut e [32]).2.1)) more).2)
    else ([], 0)
theorem recJ_no {c : Nat} {e : List UInt8} (more : List (List UInt8)) (h : (32 : UInt8) ∉ e) : recJ c (e :: more) = ([], 0) := by
  simp only [recJ]
  rw [cut_none h, if_neg (by simp)]
theorem recJ_bad {c : Nat} {w l : List UInt8} (more : List (List UInt8)) (h : (32 : UInt8) ∉ w) (hd : mkB w ≠ decS (chkN c (mkB l))) : recJ c ((w ++ 32 :: l) :: more) = ([], 0) := by
  simp only [recJ]
  rw [cut_hit h, if_neg]
  rintro ⟨_, h2⟩
  exact hd (congrArg mkB h2)
theorem recJ_good {c : Nat} {w l : List UInt8} (more : List (List UInt8)) (h : (32 : UInt8) ∉ w) (hd : mkB w = decS (chkN c (mkB l))) : recJ c ((w ++ 32 :: l) :: more) = (mkB l :: (recJ (chkN c (mkB l)) more).1, (w ++ 32 :: l).length + 1 + (recJ (chkN c (mkB l)) more).2) := by
  have hw : w = Lib.decDigits (chkN c (mkB l)) := by
    have := congrArg (fun s : ByteArray => s.data.toList) hd
    rw [mkB_list] at this
    rw [this]; simp [decS]
  simp only [recJ]
  rw [cut_hit h, if_pos ⟨rfl, hw⟩]
def linesL (l : List UInt8) : List (List UInt8) := (partsC 10 l).dropLast
theorem linesL_none {l : List UInt8} (h : (10 : UInt8) ∉ l) : linesL l = [] := by unfold linesL; rw [partsC_none h]; rfl
theorem linesL_hit {l1 l2 : List UInt8} (h : (10 : UInt8) ∉ l1) : linesL (l1 ++ 10 :: l2) = l1 :: linesL l2 := by
  unfold linesL
  rw [partsC_hit h]
  exact List.dropLast_cons_of_ne_nil (partsC_ne _ _)
def rjP (t : ByteArray) : List ByteArray × Nat := recJ 0 (linesL t.data.toList)
def rjOk (t : ByteArray) : Bool := decide (t.size ≤ 16000)
def rjR (t : ByteArray) : List ByteArray := if t.size ≤ 16000 then (rjP t).1 else []
def rjN (t : ByteArray) : Nat := if t.size ≤ 16000 then (rjP t).2 else 0
theorem recJ_cnt : ∀ (c : Nat) (L : List (List UInt8)), (recJ c L).1.length ≤ L.length
  | _, [] => by simp [recJ]
  | c, e :: more => by
    simp only [recJ]
    split
    · have := recJ_cnt (chkN c (mkB (Lib.cut e [32]).2.1)) more
      simp; omega
    · simp
theorem partsC_cnt (c : UInt8) : ∀ l : List UInt8, (partsC c l).length ≤ l.length + 1
  | [] => by simp [partsC]
  | b :: r => by
    have ih := partsC_cnt c r
    simp only [partsC]
    split
    · simp; omega
    · cases h : partsC c r with
      | nil => simp
      | cons x y => rw [h] at ih; simp at ih ⊢; omega
theorem rjR_cnt (t : ByteArray) : cntSs (rjR t) ≤ 16001 := by
  unfold rjR cntSs
  split
  · rename_i h
    have h1 := recJ_cnt 0 (linesL t.data.toList)
    have h2 := partsC_cnt 10 t.data.toList
    have h3 : t.data.toList.length = t.size := by rw [Array.length_toList]; rfl
    unfold rjP
    unfold linesL at h1 ⊢
    rw [List.length_dropLast] at h1
    omega
  · simp
theorem app_strs {w : World} {ops : Array Oper} {rest : List Oper} {o : Oper} {a : Act} {Q : Exit → Act → World → Prop} (hgd : o.guard = none) (s x : Operand)
    (ho : o.op = .call { callee := .builtin .append, args := #[s, x], argTypes := #[56, 56] })
    (base : Nat) (v : Value) (n : Nat) (xs : List ByteArray) (hs : a.eval s = v) (hown : w.ownsRow base 9 1 v n (xs.map SV))
    (sv : Value) (news : List ByteArray) (hx : a.eval x = sv) (hsv : Slc w sv (news.map SV)) (m : Nat) (ys : List ByteArray) (hm : m = n + news.length) (hys : ys = xs ++ news) (hlen : m ≤ 1099511627776) (hbase : base ≤ w.heap.size)
    (h : ∀ a' cap' w', w'.ownsRow base 9 1 (.slice a' m cap') m (ys.map SV) → Below base w w' → w.grownBy w' v.ownBlock → wpList Tryz.prog ops Q rest (a.put o.dst (.slice a' m cap')) w') :
    wpList Tryz.prog ops Q (o :: rest) a w := by
  obtain ⟨i0, hi, hz0, hz1, hz2⟩ := info_parts Tryz.infoStr
  subst hm hys
  refine wpList_append_slc hgd s x 56 ho base 9 i0 (.string ⟨#[]⟩) 16 Tryz.underlying56 hi hz0 hz1 hz2 rfl v n (xs.map SV) hs hown sv (news.map SV) hx hsv (by intro u hu; obtain ⟨x, _, rfl⟩ := List.mem_map.1 hu; rfl) (by simp [maxLen]; omega) (by simp; omega) hbase ?_
  intro v' w' h1 h2 h3
  have h1' : w'.ownsRow base 9 1 v' (n + news.length) ((xs ++ news).map SV) := by simpa using h1
  obtain ⟨a', cap', rfl⟩ := owns_shape h1'
  exact h a' cap' w' h1' (below_grown hown hbase h2) h2
theorem slcS_one (w : World) (s : ByteArray) (b : Nat) (hb : b = w.heap.size) : Slc (w.alloc (.cells #[.string s] 9)) (.slice (some ⟨b, 0, none⟩) 1 1) ([s].map SV) := by
  subst hb
  have h := World.ownsRow_lit (base := w.heap.size) (e := 9) (size := 1) w #[.string s] 1 (Nat.le_refl _) (by simp [maxLen]) rfl
  exact slc_of_owns h
end Go.Proofs.YtgkbbpajkbkgnaaGreatDoor

namespace Go.Proofs.YtgkbbpajkbkgnaaGreatDoor
open Go.RowKit
theorem pow_global : (Tryz.prog.globalNamed "internal/strconv.uint64pow10").isSome = true := by kernel_rfl
theorem HasPow.up {w w' : World} {B : Nat} (h : HasPow w) (hb : Below B w w') (hB : w.heap.size ≤ B) : HasPow w' := by
  obtain ⟨g, hg⟩ := Option.isSome_iff_exists.1 pow_global
  exact Go.Joins.tab_stays hg h hb hB
set_option maxHeartbeats 2000000 in
set_option maxRecDepth 4000 in
theorem journalI_any (v : Value) (ls : List ByteArray) (w : World) (h : RdSs w v ls) (hp : HasPow w) (hb : bulkSs ls ≤ 1048576) :
    Calls Tryz.prog 33 #[v] w fun e w' => e = .returned (.tuple #[.string (jrR ls), .bool (jrOk ls)]) ∧ Below w.heap.size w w' := by
  obtain ⟨a, c, rfl⟩ := h.shape
  have hl := h.len
  unfold maxLen at hl
  unfold bulkSs at hb
  have HS := Lib.hid h
  have HP := Lib.hid hp
  clear h hp
  obtain ⟨n, hn⟩ : ∃ n, n = ls.length := ⟨_, rfl⟩
  rw [← hn] at hb hl ⊢
  have HN := Lib.hid hn
  have HSUM := Lib.hid (fun k => sumS_le ls k)
  clear hn
  go_enter Tryz.func33, Tryz.ntmps33
  go_upto_region 3 with fail
  refine wp_at fun W hW => ?_
  have HI0 := Lib.hid (show Lib.IsBuilder TB 5 w.heap.size w.heap.size (Lib.strCells (jrS ls 0)) W by subst hW; exact Lib.fresh_isBuilder _ _ _)
  have HB0 := Lib.hid (show Below w.heap.size w W by subst hW; exact (Below.refl _ _).alloc (Nat.le_refl _) _)
  clear hW
  go_wp2_with fail
  go_loopw [5, 10] (fun cv iv wr => ∃ k : Nat, iv = .int .i64 k ∧ k ≤ n ∧ cv = .int .i64 (jrC ls k) ∧ Hid (∀ j, j < k → hasNL (ls.getD j E0) = false) ∧ Hid (Lib.IsBuilder TB 5 w.heap.size w.heap.size (Lib.strCells (jrS ls k)) wr) ∧ Hid (Below w.heap.size w wr)) (fun _ iv _ => n - (intOf iv).toNat)
  case atStart => exact ⟨0, rfl, Nat.zero_le _, rfl, Lib.hid (by intro j hj; omega), HI0, HB0⟩
  case round =>
    clear HI0 HB0
    obtain ⟨k, rfl, hk, rfl, HNL, HI, HB⟩ := hrel
    have hszw := HB.out.size
    by_cases hlt : k < n
    · have hltI : (k : Int) < (n : Int) := by omega
      have hkl : k < ls.length := by rw [← HN.out]; exact hlt
      obtain ⟨b, off, rfl, hb0, hc⟩ := (HS.out.up HB.out (Nat.le_refl _)).at hkl
      have HJC := Lib.hid (show jrC ls (k + 1) = chkN (jrC ls k) (ls.getD k E0) from rfl)
      have HJS := Lib.hid (show jrS ls (k + 1) = jrS ls k ++ ent (jrC ls (k + 1)) (ls.getD k E0) from rfl)
      have HLE := Lib.hid (jrS_le ls k (by omega))
      have HST := Lib.hid (sumS_take ls k hkl)
      have HNN := Lib.hid (fun h => jrOk_nl hkl h)
      have hc0 := jrC_lt ls k
      obtain ⟨l, hl0⟩ : ∃ l, l = ls.getD k E0 := ⟨_, rfl⟩
      obtain ⟨x, hx⟩ : ∃ x, x = jrC ls k := ⟨_, rfl⟩
      rw [← hl0] at hc HJC HJS HST HNN
      rw [← hx] at HJC hc0 ⊢
      have HL0 := Lib.hid hl0
      have hlsz : l.size ≤ 1048576 := by have h1 := HST.out; have h2 := HSUM.out (k + 1); omega
      clear hl0 hx
      have HLN : Hid (decide (0 ≤ Lib.indexByte l.data.toList 10) = hasNL l) := rfl
      cases hnl : hasNL l with
      | true =>
        have HNL1 := Lib.hid (HNN.out hnl)
        have HNLT := Lib.hid (HLN.out.trans hnl)
        clear hnl
        go_wp2_with (go_at_call 87; refine (Tryz.strings_Contains_one l 10 _).mono ?_; rintro e w' ⟨rfl, rfl⟩; rw [HNLT.out])
        go_ret2
        exact ⟨by rw [HNL1.out.1, HNL1.out.2]; rfl, HB.out⟩
      | false =>
        have HNLF := Lib.hid (HLN.out.trans hnl)
        have HNLK := Lib.hid hnl
        clear hnl
        have HCK := Lib.hid (chkN_eq hc0 l)
        have hc1 := chkN_lt hc0 l
        obtain ⟨y, hy⟩ : ∃ y, y = chkN x l := ⟨_, rfl⟩
        rw [← hy] at HCK HJC hc1
        rw [HJC.out] at HJS
        clear hy
        go_upto_region 9 with (first
          | (go_at_call 87; refine (Tryz.strings_Contains_one l 10 _).mono ?_; rintro e w' ⟨rfl, rfl⟩; rw [HNLF.out])
          | (go_at_call 88; refine (implCheck_any x l _ (by omega) (by omega) (by unfold maxLen; omega)).mono ?_; rintro e w' ⟨rfl, rfl⟩; rw [HCK.out]))
        go_wp2_with fail
        refine (Decimal_any y (by omega) _ (HP.out.up HB.out (Nat.le_refl _))).mono ?_
        rintro e w2 ⟨rfl, hb2⟩
        have HB2 := Lib.hid (HB.out.trans (hb2.mono hszw))
        have HI2 := Lib.hid (isB_up HI.out hb2)
        have hsz2 := hb2.size
        clear hb2
        have hds := decS_size (n := y) (by omega)
        have HENT : Hid (ent y l = decS y ++ B1 32 ++ l ++ B1 10) := rfl
        obtain ⟨D, hD⟩ : ∃ D, D = decS y := ⟨_, rfl⟩
        rw [← hD] at hds HENT ⊢
        clear hD
        go_wp2_with fail
        rw [show (D ++ (⟨#[32]⟩ : ByteArray) ++ l ++ (⟨#[10]⟩ : ByteArray)) = ent y l from HENT.out.symm]
        refine (WriteString_any w.heap.size w.heap.size _ (ent y l) w2 HI2.out (by
          rw [Lib.strCells_length, ent_size]
          have h1 := HLE.out
          have h2 := HSUM.out k
          have h3 := decS_size (n := y) (by omega)
          omega) (by omega)).mono ?_
        rintro e w3 ⟨rfl, hbu, hb3⟩
        have HI3 := Lib.hid (show Lib.IsBuilder TB 5 w.heap.size w.heap.size (Lib.strCells (jrS ls (k + 1))) w3 from .inr (by rw [HJS.out, strCells_add]; exact hbu))
        have HB3 := Lib.hid (HB2.out.trans hb3)
        clear hbu hb3
        go_wp2_with fail
        go_roundw
        case rel =>
          refine ⟨k + 1, by go_num, by omega, by rw [HJC.out], Lib.hid (fun j hj => ?_), HI3, HB3⟩
          by_cases hjk : j < k
          · exact HNL.out j hjk
          · obtain rfl : j = k := by omega
            rw [← HL0.out]; exact HNLK.out
        case measure => simp [intOf]; omega
    · obtain rfl : k = n := by omega
      obtain ⟨S, hS⟩ : ∃ S, S = jrS ls k := ⟨_, rfl⟩
      rw [← hS] at HI
      have HSE := Lib.hid (show S = jrS ls ls.length by rw [hS, HN.out])
      have HBIG := Lib.hid (show 16000 < S.size → jrOk ls = false ∧ jrR ls = E0 from fun h => jrOk_big (by rw [← HSE.out]; exact h))
      have HYES := Lib.hid (show S.size ≤ 16000 → jrOk ls = true ∧ jrR ls = S from fun h => by
        have := jrOk_yes (ls := ls) (fun j hj => HNL.out j (by rw [HN.out]; exact hj)) (by rw [← HSE.out]; exact h)
        rw [this.1, this.2, HSE.out]; exact ⟨rfl, rfl⟩)
      have HLN := Lib.hid (Lib.strCells_length S)
      have hsl : S.size ≤ 9223372036854775807 := by
        have h1 := jrS_le ls k (by rw [HN.out]; exact Nat.le_refl _)
        have h2 := HSUM.out k
        rw [hS]
        omega
      clear hS
      by_cases hbig : 16000 < S.size
      · have HR := Lib.hid (HBIG.out hbig)
        have hbI : (16000 : Int) < (S.size : Int) := by omega
        go_wp2_with (go_at_call 89; refine (Tryz.Builder_Len w.heap.size w.heap.size _ _ HI.out).mono ?_; rintro e w' ⟨rfl, rfl⟩; rw [HLN.out])
        go_ret2
        exact ⟨by rw [HR.out.1, HR.out.2]; rfl, HB.out⟩
      · have HR := Lib.hid (HYES.out (by omega))
        have hbI : ¬ (16000 : Int) < (S.size : Int) := by omega
        go_wp2_with (go_at_call 89; refine (Tryz.Builder_Len w.heap.size w.heap.size _ _ HI.out).mono ?_; rintro e w' ⟨rfl, rfl⟩; rw [HLN.out])
        refine (Tryz.Builder_String_any w.heap.size w.heap.size S.data.toList _ HI.out hszw).mono ?_
        rintro e w3 ⟨rfl, hb3⟩
        have HB3 := Lib.hid (HB.out.trans hb3)
        have HSS : Hid ((⟨S.data.toList.toArray⟩ : ByteArray) = S) := by
          show _ = _
          simp
        rw [HSS.out]
        clear hb3
        go_wp2_with fail
        go_ret2
        exact ⟨by rw [HR.out.1, HR.out.2]; rfl, HB3.out⟩
end Go.Proofs.YtgkbbpajkbkgnaaGreatDoor

namespace Go.Proofs.YtgkbbpajkbkgnaaGreatDoor
open Go.RowKit
def wordsN (xs : List Int) : List ByteArray := xs.map fun x => decS x.toNat
def listT (xs : List Int) : ByteArray := textS (wordsN xs)
theorem wordsN_len (xs : List Int) : (wordsN xs).length = xs.length := by simp [wordsN]
theorem wordsN_take (xs : List Int) (k : Nat) (h : k < xs.length) : wordsN (xs.take (k + 1)) = wordsN (xs.take k) ++ [decS (xs.getD k 0).toNat] := by
  unfold wordsN
  rw [List.take_add_one, List.map_append, List.getElem?_eq_getElem h, List.getD_eq_getElem?_getD, List.getElem?_eq_getElem h]
  rfl
theorem wordsN_at (xs : List Int) (k : Nat) (h : k < xs.length) : (wordsN xs).getD k E0 = decS (xs.getD k 0).toNat := by
  unfold wordsN
  rw [List.getD_eq_getElem?_getD, List.getD_eq_getElem?_getD, List.getElem?_map, List.getElem?_eq_getElem h]
  rfl
def Small (xs : List Int) : Prop := ∀ k, k < xs.length → 0 ≤ xs.getD k 0 ∧ xs.getD k 0 < 1000000000000000000
theorem wordsN_size {xs : List Int} (h : Small xs) : ∀ x ∈ wordsN xs, x.size ≤ 18 := by
  intro x hx
  obtain ⟨y, hy, rfl⟩ := List.mem_map.1 hx
  obtain ⟨k, hk, rfl⟩ := List.mem_iff_getElem.1 hy
  have := h k hk
  rw [List.getD_eq_getElem?_getD, List.getElem?_eq_getElem hk] at this
  exact decS_size (by simp only [Option.getD_some] at this; omega)
theorem joined_any (v : Value) (ws : List ByteArray) (w : World) (h : RdSs w v ws) (hN : ∀ x ∈ ws, x.size ≤ 1000) (hl : ws.length ≤ 1000000) :
    Calls Tryz.prog 119 #[v] w fun e w' => e = .returned (.string (textS ws)) ∧ Below w.heap.size w w' := by
  obtain ⟨a, c, rfl⟩ := h.shape
  by_cases h0 : ws.length = 0
  · have hd : ((ws.length : Int) == 0) = true := by simp [h0]
    have he := Lib.hid (show textS ws = noneS by unfold textS; rw [show ws.isEmpty = true by rw [List.isEmpty_iff]; exact List.length_eq_zero_iff.1 h0]; rfl)
    clear h0 h
    go_enter Tryz.func119, Tryz.ntmps119
    go_wp2_with fail
    go_ret
    exact ⟨by rw [he.out]; rfl, Below.refl _ _⟩
  · have hd : ((ws.length : Int) == 0) = false := by rw [beq_eq_false_iff_ne]; omega
    obtain ⟨b, off, rfl, hbw, _⟩ := h.at (i := 0) (Nat.pos_of_ne_zero h0)
    have hcells : ∀ (j : Nat) x, ws[j]? = some x → w.cell? ⟨b, off + j, none⟩ = some (.string x) := by
      intro j x hj
      have hlt := (List.getElem?_eq_some_iff.1 hj).1
      obtain ⟨b', off', e, _, hc⟩ := h.at hlt
      simp only [Option.some.injEq, Addr.mk.injEq, and_true] at e
      obtain ⟨rfl, rfl⟩ := e
      rw [hc, List.getD_eq_getElem?_getD, hj]
      rfl
    have hcap : ws.length ≤ c := by
      rcases h.1 with ⟨e, _⟩ | ⟨ad, cap, e, h1, h2, _⟩
      · cases e
      · simp only [Value.slice.injEq, List.length_map] at e h1
        obtain ⟨_, _, rfl⟩ := e
        exact h1
    have hsz := joinBy_size 44 ws 1000 hN
    have hC := Tryz.strings_Join b off c ws ⟨#[44]⟩ w hcells hbw (by omega) hcap (by
      have e : (Lib.join (ws.map (·.data.toList)) (⟨#[44]⟩ : ByteArray).data.toList).length = (joinBy 44 ws).size := by simp [joinBy, ByteArray.size]
      rw [e]; omega)
    have he : (⟨(Lib.join (ws.map (·.data.toList)) (⟨#[44]⟩ : ByteArray).data.toList).toArray⟩ : ByteArray) = textS ws := by
      unfold textS
      rw [if_neg (by rw [List.isEmpty_iff]; intro e; rw [e] at h0; exact h0 rfl)]
      rfl
    rw [he] at hC
    have HC := Lib.hid hC
    clear hC he hcells h0 h
    go_enter Tryz.func119, Tryz.ntmps119
    go_wp2_with (go_at_call 48; refine HC.out.mono ?_; rintro e w' ⟨rfl, hb⟩)
    go_ret
    exact ⟨rfl, hb⟩
set_option maxHeartbeats 1000000 in
theorem listTextI_any (v : Value) (xs : List Int) (w : World) (h : RdI w v xs) (hs : Small xs) (hl : xs.length ≤ 1000000) (hp : HasPow w) :
    Calls Tryz.prog 50 #[v] w fun e w' => e = .returned (.string (listT xs)) ∧ Below w.heap.size w w' := by
  obtain ⟨a, c, rfl⟩ := h.shape
  have HR := Lib.hid h
  have HS := Lib.hid hs
  have HPW := Lib.hid hp
  clear h hs hp
  go_enter Tryz.func50, Tryz.ntmps50
  go_wp2_with fail
  go_loopw [3, 8] (fun ov iv wr => ∃ (k : Nat) (b : Option Addr) (cc : Nat), iv = .int .i64 k ∧ k ≤ xs.length ∧ ov = .slice b k cc ∧ Hid (wr.ownsRow w.heap.size 9 1 (.slice b k cc) k ((wordsN (xs.take k)).map SV)) ∧ Hid (Below w.heap.size w wr)) (fun _ iv _ => xs.length + 1 - (intOf iv).toNat)
  case atStart => exact ⟨0, none, 0, rfl, Nat.zero_le _, rfl, Lib.hid (World.ownsRow_nil _ _ _ _), Lib.hid (Below.refl _ _)⟩
  case round =>
    obtain ⟨k, b, cc, rfl, hk, rfl, HO, HB⟩ := hrel
    obtain ⟨wo, rfl⟩ : ∃ wo, wo = wr := ⟨wr, rfl⟩
    have hsz := HB.out.size
    by_cases hlt : k < xs.length
    · have hlt' : (k : Int) < xs.length := by omega
      obtain ⟨xb, xo, rfl, _, hx⟩ := (HR.out.up HB.out (Nat.le_refl _)).at hlt
      have hsm := HS.out k hlt
      have HE := Lib.hid (wordsN_take xs k hlt)
      obtain ⟨x, hxe⟩ : ∃ x, x = xs.getD k 0 := ⟨_, rfl⟩
      rw [← hxe] at hx hsm HE
      clear hxe
      obtain ⟨n, rfl⟩ : ∃ n : Nat, x = (n : Int) := ⟨x.toNat, by omega⟩
      have HE2 := Lib.hid (show wordsN (xs.take (k + 1)) = wordsN (xs.take k) ++ [decS n] from HE.out)
      have HD := Lib.hid (Decimal_any n (by omega) wo (HPW.out.up HB.out (Nat.le_refl _)))
      clear HE hsm
      go_wp2_with (first
        | (go_at_call 15; refine HD.out.mono ?_; rintro e w1 ⟨rfl, hb1⟩; have HO1 := Lib.hid (owns_below HO.out hb1 (Nat.le_refl _)); have hsz1 := hb1.size)
        | (at_builtin; refine app_strs rfl _ _ rfl w.heap.size (.slice b k cc) k (wordsN (xs.take k)) rfl (HO1.out.alloc _) _ [decS n] rfl (slcS_one w1 (decS n) _ rfl) (k + 1) (wordsN (xs.take (k + 1))) (by simp) HE2.out (by omega) (by simp; omega) ?_; intro b3 c3 w3 hown3 hbl3 _)
        | fail)
      go_roundw
      case rel => exact ⟨k + 1, b3, c3, by go_num, by omega, rfl, Lib.hid hown3, Lib.hid (HB.out.trans ((hb1.mono hsz).trans (((Below.refl _ _).alloc (by omega) _).trans hbl3)))⟩
      case measure => simp [intOf]; omega
    · obtain rfl : k = xs.length := by omega
      have hwl := wordsN_len xs
      have hws := wordsN_size HS.out
      have hrd : RdSs wo (.slice b xs.length cc) (wordsN xs) := ⟨by have := slc_of_owns HO.out; rw [List.take_length] at this; exact this, fun s hs => by have := hws s hs; simp [maxLen]; omega⟩
      have HJ := Lib.hid (joined_any _ (wordsN xs) wo hrd (fun x hx => by have := hws x hx; omega) (by omega))
      clear hwl hws hrd
      go_wp2_with (go_at_call 119; refine HJ.out.mono ?_; rintro e w1 ⟨rfl, hb1⟩)
      go_ret
      exact ⟨rfl, HB.out.trans (hb1.mono hsz)⟩
end Go.Proofs.YtgkbbpajkbkgnaaGreatDoor

namespace Go.Proofs.YtgkbbpajkbkgnaaGreatDoor
open Go.RowKit
set_option maxHeartbeats 400000 in
theorem slicesEqual_any (a1 a2 : Option Addr) (n1 n2 c1 c2 : Nat) (xs ys : List Int) (w : World) (h1 : xs.length = n1) (h2 : ys.length = n2) (s1 : Slc w (.slice a1 n1 c1) (xs.map I64)) (s2 : Slc w (.slice a2 n2 c2) (ys.map I64)) :
    Calls Tryz.prog 79 #[.slice a1 n1 c1, .slice a2 n2 c2] w fun e w' => e = .returned (.bool (decide (xs = ys))) ∧ ∃ n, w' = w.drewN n := by
  subst h1 h2
  have hm := s1.len
  simp only [List.length_map, maxLen] at hm
  have H1 := Lib.hid s1
  have H2 := Lib.hid s2
  clear s1 s2
  by_cases hl : xs.length = ys.length
  · have hne : ((xs.length : Int) != (ys.length : Int)) = false := by simp [hl]
    have HL := Lib.hid hl
    clear hl
    go_enter Tryz.func79, Tryz.ntmps79
    go_wp2_with fail
    go_loopw [13] (fun i wr => ∃ k : Nat, i = .int .i64 k ∧ k ≤ xs.length ∧ Hid (xs.take k = ys.take k) ∧ ∃ n, wr = w.drewN n) (fun i _ => xs.length - (intOf i).toNat)
    case atStart => exact ⟨0, rfl, Nat.zero_le _, rfl, 0, rfl⟩
    case round =>
      obtain ⟨k, rfl, hk, heq, n, rfl⟩ := hrel
      by_cases hlt : k < xs.length
      · have hlt2 : k < ys.length := by have := HL.out; omega
        obtain ⟨b, off, rfl, hb, hc⟩ := H1.out.at (i := k) (u := .int .i64 (xs.getD k 0)) (by simp [I64, hlt])
        obtain ⟨b', off', rfl, hb', hc'⟩ := H2.out.at (i := k) (u := .int .i64 (ys.getD k 0)) (by simp [I64, hlt2])
        obtain ⟨x, hx⟩ : ∃ x, x = xs.getD k 0 := ⟨_, rfl⟩
        obtain ⟨y, hy⟩ : ∃ y, y = ys.getD k 0 := ⟨_, rfl⟩
        rw [← hx] at hc
        rw [← hy] at hc'
        have HX := Lib.hid hx
        have HY := Lib.hid hy
        clear hx hy
        by_cases hxy : x = y
        · subst hxy
          have hb0 : (x != x) = false := by simp
          have hlt2' : (k : Int) < ys.length := by omega
          go_wp2_with fail
          go_quiet (fail)
          go_wp2_with fail
          go_roundw
          case rel => exact ⟨k + 1, by go_num, by omega, take_eq_succ hlt hlt2 heq (by rw [← HX.out, ← HY.out]), _, rfl⟩
          case measure => simp [intOf]; omega
        · have hb0 : (x != y) = true := by simp [hxy]
          have hlt2' : (k : Int) < ys.length := by omega
          go_wp2_with fail
          go_quiet (fail)
          go_wp2_with fail
          go_ret
          refine ⟨?_, by first | exact ⟨_, rfl⟩ | exact ⟨_, World.drewN_drewN _ _ _⟩⟩
          have : xs ≠ ys := take_ne hlt hlt2 (by rw [← HX.out, ← HY.out]; exact hxy)
          simp [this]
      · obtain rfl : k = xs.length := by omega
        go_wp2_with fail
        go_ret
        refine ⟨?_, _, rfl⟩
        have he := heq.out
        rw [List.take_length, HL.out, List.take_length] at he
        simp [he]
  · have hne : ((xs.length : Int) != (ys.length : Int)) = true := by simp; omega
    have hn : xs ≠ ys := fun e => hl (by rw [e])
    go_enter Tryz.func79, Tryz.ntmps79
    go_wp2_with fail
    go_ret
    exact ⟨by simp [hn], 0, rfl⟩
end Go.Proofs.YtgkbbpajkbkgnaaGreatDoor

namespace Go.Proofs.YtgkbbpajkbkgnaaGreatDoor
open Go.RowKit
theorem slicesEqual_rd (v v' : Value) (xs ys : List Int) (w : World) (h : RdI w v xs) (h' : RdI w v' ys) :
    Calls Tryz.prog 79 #[v, v'] w fun e w' => e = .returned (.bool (decide (xs = ys))) ∧ ∃ n, w' = w.drewN n := by
  obtain ⟨a, c, rfl⟩ := h.shape
  obtain ⟨a', c', rfl⟩ := h'.shape
  exact slicesEqual_any _ _ _ _ _ _ xs ys w rfl rfl h h'
end Go.Proofs.YtgkbbpajkbkgnaaGreatDoor
