/-
  FnDesk: texts joined: FxM, RdM, CutS, RcJI, CountM, Split, FlM, RdrM, OpenR, OpenL, OpenC, MarkJ, DeskO, JobsT, DeskT, OpenD, BitM.
-/
import Derived.Lib.ParseIntBCases
import Derived.Deep.RegionHeld3
import Derived.Lib.SplitLaws
import Derived.Lib.SmallJoins
import Derived.Laws.FloatBits
import Derived.Test.YtgkbbpajkbkgnaaGreatDoorMFnDeskAB
import Derived.Test.YtgkbbpajkbkgnaaGreatDoorMFnDeskAD
import Derived.Test.YtgkbbpajkbkgnaaGreatDoorMFnDeskAI
import Derived.Test.YtgkbbpajkbkgnaaGreatDoorMFnDeskAJ
import Derived.Test.YtgkbbpajkbkgnaaGreatDoorMFnDeskAK
import Derived.Test.YtgkbbpajkbkgnaaGreatDoorMFnDeskAL
set_option linter.unusedVariables false
set_option linter.unusedSimpArgs false
namespace Go.Proofs.YtgkbbpajkbkgnaaGreatDoor
open Go.RowKit
def hexV (c : Nat) : Option Nat := if 48 ≤ c ∧ c ≤ 57 then some (c - 48) else if 97 ≤ c ∧ c ≤ 102 then some (c - 87) else none
def dvB (s : ByteArray) (k : Nat) : Nat := (hexV (s.data[k]!).toNat).getD 0
def okB (s : ByteArray) (k : Nat) : Bool := (hexV (s.data[k]!).toNat).isSome
def accH (s : ByteArray) : Nat → Nat
  | 0 => 0
  | k + 1 => 16 * accH s k + dvB s k
def hexOk (s : ByteArray) : Bool := decide (s.size = 8) && (allB 8 (okB s) && decide (codeN (accH s 8) = accH s 8))
theorem hexV_lt {c d : Nat} (h : hexV c = some d) : d < 16 := by
  unfold hexV at h
  split at h
  · simp only [Option.some.injEq] at h; omega
  · split at h
    · simp only [Option.some.injEq] at h; omega
    · cases h
theorem dvB_lt (s : ByteArray) (k : Nat) : dvB s k < 16 := by
  unfold dvB
  cases h : hexV (s.data[k]!).toNat with
  | none => decide
  | some d => exact hexV_lt h
theorem accH_lt (s : ByteArray) : ∀ k, accH s k < 16 ^ k
  | 0 => Nat.one_pos
  | k + 1 => by
    have h1 := accH_lt s k
    have h2 := dvB_lt s k
    rw [Nat.pow_succ]
    simp only [accH]
    omega
theorem dig_at (n i : Nat) : (n >>> i) &&& 15 = n / 2 ^ i % 16 := by
  rw [Nat.shiftRight_eq_div_pow, show 15 = 2 ^ 4 - 1 from rfl, Nat.and_two_pow_sub_one_eq_mod]
def byteD (n i : Nat) : UInt8 := UInt8.ofNat (dig16 (n / 2 ^ i % 16))
theorem hexS_list (n : Nat) : (hexS n).data.toList = [byteD n 28, byteD n 24, byteD n 20, byteD n 16, byteD n 12, byteD n 8, byteD n 4, byteD n 0] := by
  have e : n &&& 15 = n % 16 := by rw [show 15 = 2 ^ 4 - 1 from rfl, Nat.and_two_pow_sub_one_eq_mod]
  simp [hexS, hexK, B1, E0, ByteArray.data_append, dig_at, byteD, e]
theorem hex_back : ∀ n, n < 256 → (hexV n).isSome = true → dig16 ((hexV n).getD 0) = n := by decide +kernel
theorem hex_forth : ∀ d, d < 16 → hexV (dig16 d) = some d := by decide +kernel
theorem byte_back {c : UInt8} {n i : Nat} (h : (hexV c.toNat).isSome = true) (hd : n / 2 ^ i % 16 = (hexV c.toNat).getD 0) : byteD n i = c := by
  unfold byteD
  rw [hd, hex_back c.toNat c.toNat_lt h]
  exact UInt8.ofNat_toNat
theorem eight {s : ByteArray} (h : s.size = 8) : ∃ a b c d e f g i : UInt8, s = ⟨#[a, b, c, d, e, f, g, i]⟩ := by
  obtain ⟨⟨l⟩⟩ := s
  have hl : l.length = 8 := h
  match l, hl with
  | [a, b, c, d, e, f, g, i], _ => exact ⟨a, b, c, d, e, f, g, i, rfl⟩
theorem hexS_acc {s : ByteArray} (h8 : s.size = 8) (ho : allB 8 (okB s) = true) : hexS (accH s 8) = s := by
  rw [allB_iff] at ho
  have ho0 := ho 0 (by omega)
  have ho1 := ho 1 (by omega)
  have ho2 := ho 2 (by omega)
  have ho3 := ho 3 (by omega)
  have ho4 := ho 4 (by omega)
  have ho5 := ho 5 (by omega)
  have ho6 := ho 6 (by omega)
  have ho7 := ho 7 (by omega)
  have v0 := dvB_lt s 0
  have v1 := dvB_lt s 1
  have v2 := dvB_lt s 2
  have v3 := dvB_lt s 3
  have v4 := dvB_lt s 4
  have v5 := dvB_lt s 5
  have v6 := dvB_lt s 6
  have v7 := dvB_lt s 7
  have hn : accH s 8 = 16 * (16 * (16 * (16 * (16 * (16 * (16 * (16 * 0 + dvB s 0) + dvB s 1) + dvB s 2) + dvB s 3) + dvB s 4) + dvB s 5) + dvB s 6) + dvB s 7 := rfl
  have e0 : accH s 8 / 2 ^ 28 % 16 = dvB s 0 := by rw [hn]; omega
  have e1 : accH s 8 / 2 ^ 24 % 16 = dvB s 1 := by rw [hn]; omega
  have e2 : accH s 8 / 2 ^ 20 % 16 = dvB s 2 := by rw [hn]; omega
  have e3 : accH s 8 / 2 ^ 16 % 16 = dvB s 3 := by rw [hn]; omega
  have e4 : accH s 8 / 2 ^ 12 % 16 = dvB s 4 := by rw [hn]; omega
  have e5 : accH s 8 / 2 ^ 8 % 16 = dvB s 5 := by rw [hn]; omega
  have e6 : accH s 8 / 2 ^ 4 % 16 = dvB s 6 := by rw [hn]; omega
  have e7 : accH s 8 / 2 ^ 0 % 16 = dvB s 7 := by rw [hn]; omega
  obtain ⟨n, hne⟩ : ∃ n, n = accH s 8 := ⟨_, rfl⟩
  rw [← hne] at e0 e1 e2 e3 e4 e5 e6 e7 ⊢
  clear hne hn v0 v1 v2 v3 v4 v5 v6 v7 ho
  obtain ⟨a, b, c, d, e, f, g, i, rfl⟩ := eight h8
  apply ByteArray.ext
  apply Array.ext'
  rw [hexS_list, byte_back (c := a) ho0 e0, byte_back (c := b) ho1 e1, byte_back (c := c) ho2 e2, byte_back (c := d) ho3 e3, byte_back (c := e) ho4 e4, byte_back (c := f) ho5 e5, byte_back (c := g) ho6 e6, byte_back (c := i) ho7 e7]
theorem dv_of {s : ByteArray} {k n i : Nat} (h : s.data[k]! = byteD n i) : dvB s k = n / 2 ^ i % 16 := by
  have hm : n / 2 ^ i % 16 < 16 := Nat.mod_lt _ (by omega)
  have hd := dig16_lt _ hm
  unfold dvB
  rw [h]
  unfold byteD
  rw [UInt8.toNat_ofNat', Nat.mod_eq_of_lt (by omega), hex_forth _ hm]
  rfl
theorem accH_hexS (m : Nat) (h : m < 4294967296) : accH (hexS m) 8 = m := by
  have hs : (hexS m).data = #[byteD m 28, byteD m 24, byteD m 20, byteD m 16, byteD m 12, byteD m 8, byteD m 4, byteD m 0] := Array.ext' (hexS_list m)
  have hn : accH (hexS m) 8 = 16 * (16 * (16 * (16 * (16 * (16 * (16 * (16 * 0 + dvB (hexS m) 0) + dvB (hexS m) 1) + dvB (hexS m) 2) + dvB (hexS m) 3) + dvB (hexS m) 4) + dvB (hexS m) 5) + dvB (hexS m) 6) + dvB (hexS m) 7 := rfl
  rw [hn, dv_of (k := 0) (i := 28) (n := m) (by rw [hs]; rfl), dv_of (k := 1) (i := 24) (n := m) (by rw [hs]; rfl), dv_of (k := 2) (i := 20) (n := m) (by rw [hs]; rfl), dv_of (k := 3) (i := 16) (n := m) (by rw [hs]; rfl), dv_of (k := 4) (i := 12) (n := m) (by rw [hs]; rfl), dv_of (k := 5) (i := 8) (n := m) (by rw [hs]; rfl), dv_of (k := 6) (i := 4) (n := m) (by rw [hs]; rfl), dv_of (k := 7) (i := 0) (n := m) (by rw [hs]; rfl)]
  omega
theorem hex_same {s : ByteArray} (h8 : s.size = 8) (ho : allB 8 (okB s) = true) : hexS (codeN (accH s 8)) = s ↔ codeN (accH s 8) = accH s 8 := by
  have hl : accH s 8 < 4294967296 := accH_lt s 8
  constructor
  · intro h
    have h0 := hexS_acc h8 ho
    have h : hexS (codeN (accH s 8)) = hexS (accH s 8) := h.trans h0.symm
    have h2 : accH (hexS (codeN (accH s 8))) 8 = accH (hexS (accH s 8)) 8 := congrArg (fun t => accH t 8) h
    rwa [accH_hexS _ (codeN_lt hl), accH_hexS _ hl] at h2
  · intro h
    rw [h]
    exact hexS_acc h8 ho
end Go.Proofs.YtgkbbpajkbkgnaaGreatDoor

namespace Go.Proofs.YtgkbbpajkbkgnaaGreatDoor
open Go.RowKit
def itoaB (n : Int) : ByteArray := ⟨(Lib.itoa n).toArray⟩
theorem itoaB_nat (n : Nat) : itoaB (n : Int) = decS n := by
  unfold itoaB decS Lib.itoa
  rw [if_neg (by omega), Int.toNat_natCast]
theorem decDigits_step (n : Nat) : Lib.decDigits n = (if n < 10 then [] else Lib.decDigits (n / 10)) ++ [UInt8.ofNat (48 + n % 10)] := by
  rw [Lib.decDigits]
  by_cases h : n < 10
  · rw [dif_pos h, if_pos h, Nat.mod_eq_of_lt h]; rfl
  · rw [dif_neg h, if_neg h]
theorem dig_nat (n : Nat) : (UInt8.ofNat (48 + n % 10)).toNat = 48 + n % 10 := by
  have : n % 10 < 10 := Nat.mod_lt _ (by omega)
  rw [UInt8.toNat_ofNat']
  exact Nat.mod_eq_of_lt (by omega)
theorem decDigits_mem (n : Nat) : ∀ c ∈ Lib.decDigits n, 48 ≤ c.toNat ∧ c.toNat ≤ 57 := by
  induction n using Nat.strongRecOn with
  | _ n ih =>
    intro c hc
    rw [decDigits_step, List.mem_append] at hc
    rcases hc with hc | hc
    · split at hc
      · cases hc
      · exact ih (n / 10) (by omega) c hc
    · simp only [List.mem_singleton] at hc
      subst hc
      rw [dig_nat]
      have : n % 10 < 10 := Nat.mod_lt _ (by omega)
      omega
theorem decDigits_ne (n : Nat) : Lib.decDigits n ≠ [] := by rw [decDigits_step]; simp
theorem decDigits_len (k n : Nat) (h : n < 10 ^ (k + 1)) : (Lib.decDigits n).length ≤ k + 1 := by
  have := digI_len k n h
  unfold digI at this
  simpa using this
theorem parse_append (M : Nat) : ∀ (l1 l2 : List UInt8) (acc u : Nat), Lib.parseUintM M acc l1 = .ok u → Lib.parseUintM M acc (l1 ++ l2) = Lib.parseUintM M u l2
  | [], l2, acc, u, h => by
    simp only [Lib.parseUintM] at h
    injection h with h
    subst h
    rfl
  | c :: r, l2, acc, u, h => by
    simp only [List.cons_append, Lib.parseUintM] at h ⊢
    split at h
    · rename_i h1
      rw [if_pos h1]
      split at h
      · cases h
      · rename_i h2
        rw [if_neg h2]
        split at h
        · cases h
        · rename_i h3
          rw [if_neg h3]
          exact parse_append M r l2 _ u h
    · cases h
theorem parse_dec (n : Nat) (h : n ≤ 1000000000000000) : Lib.parseUintM (2 ^ 64 - 1) 0 (Lib.decDigits n) = .ok n := by
  induction n using Nat.strongRecOn with
  | _ n ih =>
    have hd := dig_nat n
    have hm : n % 10 < 10 := Nat.mod_lt _ (by omega)
    rw [decDigits_step]
    by_cases h10 : n < 10
    · rw [if_pos h10, List.nil_append]
      simp only [Lib.parseUintM, hd]
      rw [if_pos (by omega), if_neg (by omega), if_neg (by omega)]
      congr 1
      omega
    · rw [if_neg h10, parse_append _ _ _ _ _ (ih (n / 10) (by omega) (by omega))]
      simp only [Lib.parseUintM, hd]
      rw [if_pos (by omega), if_neg (by omega), if_neg (by omega)]
      congr 1
      omega
theorem parse_uint (n : Nat) (h : n ≤ 1000000000000000) : Lib.parseUintB 64 (Lib.decDigits n) = .ok n := by
  unfold Lib.parseUintB
  rw [if_neg (decDigits_ne n)]
  exact parse_dec n h
theorem parse_itoa (n : Int) (h0 : -1000000000000000 ≤ n) (h1 : n ≤ 1000000000000000) : Lib.parseIntB 64 (Lib.itoa n) = .ok n := by
  unfold Lib.itoa
  split
  · rename_i hn
    rw [Lib.parseIntB_minus, parse_uint n.natAbs (by omega)]
    simp only [Lib.signedC]
    rw [if_neg (by omega)]
    congr 1
    omega
  · rename_i hn
    obtain ⟨c, r, e⟩ := List.exists_cons_of_ne_nil (decDigits_ne n.toNat)
    have hc := decDigits_mem n.toNat c (by rw [e]; simp)
    have hp := parse_uint n.toNat (by omega)
    rw [e] at hp ⊢
    rw [Lib.parseIntB_plain _ _ _ (by omega) (by omega), hp]
    simp only [Lib.signlessC]
    rw [if_neg (by omega)]
    congr 1
    omega
def valB (s : ByteArray) : Option Int := match Lib.parseIntB 64 s.data.toList with
  | .ok v => if (-1000000000000000 ≤ v ∧ v ≤ 1000000000000000) ∧ itoaB v = s then some v else none
  | _ => none
theorem valB_itoa (n : Int) (h0 : -1000000000000000 ≤ n) (h1 : n ≤ 1000000000000000) : valB (itoaB n) = some n := by
  unfold valB
  rw [show (itoaB n).data.toList = Lib.itoa n by simp [itoaB], parse_itoa n h0 h1]
  show (if (-1000000000000000 ≤ n ∧ n ≤ 1000000000000000) ∧ itoaB n = itoaB n then some n else none) = some n
  rw [if_pos ⟨⟨h0, h1⟩, rfl⟩]
theorem valB_some {s : ByteArray} {v : Int} (h : valB s = some v) : -1000000000000000 ≤ v ∧ v ≤ 1000000000000000 ∧ itoaB v = s := by
  unfold valB at h
  split at h
  · split at h
    · rename_i h1
      simp only [Option.some.injEq] at h
      subst h
      exact ⟨h1.1.1, h1.1.2, h1.2⟩
    · cases h
  · cases h
theorem itoaB_size {n : Int} (h0 : -1000000000000000 ≤ n) (h1 : n ≤ 1000000000000000) : 1 ≤ (itoaB n).size ∧ (itoaB n).size ≤ 17 := by
  have hz : (itoaB n).size = (Lib.itoa n).length := by simp [itoaB, ByteArray.size]
  rw [hz]
  unfold Lib.itoa
  split
  · have := decDigits_len 15 n.natAbs (by omega)
    simp only [List.length_cons]; omega
  · have := decDigits_len 15 n.toNat (by omega)
    have h2 := List.length_pos_iff.2 (decDigits_ne n.toNat)
    omega
def valN (s : ByteArray) : Int := (valB s).getD 0
def valOk (s : ByteArray) : Bool := (valB s).isSome
theorem valN_some {s : ByteArray} {v : Int} (h : valB s = some v) : valN s = v ∧ valOk s = true := by unfold valN valOk; rw [h]; exact ⟨rfl, rfl⟩
end Go.Proofs.YtgkbbpajkbkgnaaGreatDoor

namespace Go.Proofs.YtgkbbpajkbkgnaaGreatDoor
open Go.RowKit
theorem cutS_lines (s : ByteArray) : (linesL s.data.toList).map mkB = (cutS 10 s).dropLast := by unfold linesL cutS; rw [List.map_dropLast]
theorem cutS_pos (c : UInt8) (s : ByteArray) : 1 ≤ (cutS c s).length := by
  unfold cutS
  rw [List.length_map]
  have := List.length_pos_iff.2 (partsC_ne c s.data.toList)
  omega
theorem cutS_cnt (c : UInt8) (s : ByteArray) : (cutS c s).length ≤ s.size + 1 := by
  unfold cutS
  rw [List.length_map]
  have := partsC_cnt c s.data.toList
  rw [Array.length_toList] at this
  exact this
end Go.Proofs.YtgkbbpajkbkgnaaGreatDoor

namespace Go.Proofs.YtgkbbpajkbkgnaaGreatDoor
open Go.RowKit
def HasMax (w : World) : Prop := ∃ m, w.cell? ⟨2, 0, none⟩ = some (.int .i64 m)
theorem HasMax.up {w w' : World} {B : Nat} (h : HasMax w) (hb : Below B w w') (hB : w.heap.size ≤ B) : HasMax w' := by
  obtain ⟨m, hm⟩ := h
  exact ⟨m, held_of hb hm hB⟩
end Go.Proofs.YtgkbbpajkbkgnaaGreatDoor

namespace Go.Proofs.YtgkbbpajkbkgnaaGreatDoor
open Go.RowKit
theorem splitK_parts (c : UInt8) : ∀ (k : Nat) (l : List UInt8), l.length ≤ k → Lib.splitK [c] 0 (Lib.count l [c]) l = partsC c l
  | 0, l, h => by
    obtain rfl : l = [] := List.length_eq_zero_iff.1 (by omega)
    rw [Lib.count_miss (index_none (by simp))]
    rfl
  | k + 1, l, h => by
    by_cases hc : c ∈ l
    · obtain ⟨l1, l2, rfl, h1⟩ := List.eq_append_cons_of_mem hc
      have hi := index_hit (l2 := l2) h1
      rw [Lib.count_hit (by simp) hi, Nat.add_comm, partsC_hit h1]
      simp only [Lib.splitK]
      rw [hi, if_neg (by simp)]
      have h2 : (l1 ++ c :: l2).drop (l1.length + [c].length) = l2 := by simp
      have h3 : (((l1.length : Nat) : Int)).toNat = l1.length := by omega
      rw [h3, h2, splitK_parts c k l2 (by simp at h; omega)]
      simp
    · rw [Lib.count_miss (index_none hc), partsC_none hc]
      rfl
theorem splitB_cutS (c : UInt8) (s : ByteArray) : Lib.splitB ⟨#[c]⟩ 0 (Lib.countB s ⟨#[c]⟩) s = cutS c s := by
  have h := Lib.splitB_data ⟨#[c]⟩ 0 (Lib.countB s ⟨#[c]⟩) s
  have h2 : Lib.countB s ⟨#[c]⟩ = Lib.count s.data.toList [c] := rfl
  rw [h2] at h ⊢
  rw [show (⟨#[c]⟩ : ByteArray).data.toList = [c] from rfl, splitK_parts c _ _ (Nat.le_refl _)] at h
  unfold cutS
  rw [← h, List.map_map]
  conv => lhs; rw [← List.map_id (Lib.splitB _ _ _ _)]
  refine List.map_congr_left fun x _ => ?_
  exact (mkB_of x).symm
theorem last_nil (c : UInt8) : ∀ (k : Nat) (l : List UInt8), l.length ≤ k → l ≠ [] → ((partsC c l).getLast? = some [] ↔ l.getLast? = some c)
  | 0, l, h, hn => absurd (List.length_eq_zero_iff.1 (by omega)) hn
  | k + 1, l, h, hn => by
    by_cases hc : c ∈ l
    · obtain ⟨l1, l2, rfl, h1⟩ := List.eq_append_cons_of_mem hc
      rw [partsC_hit h1]
      have hp : (l1 :: partsC c l2).getLast? = (partsC c l2).getLast? := by
        obtain ⟨x, y, hxy⟩ : ∃ x y, partsC c l2 = x :: y := by
          cases hh : partsC c l2 with
          | nil => exact absurd hh (partsC_ne _ _)
          | cons x y => exact ⟨x, y, rfl⟩
        rw [hxy, List.getLast?_cons_cons]
      rw [hp]
      cases l2 with
      | nil => simp [partsC]
      | cons x y =>
        rw [last_nil c k (x :: y) (by simp at h ⊢; omega) (by simp)]
        simp [List.getLast?_append, List.getLast?_cons_cons]
    · rw [partsC_none hc]
      constructor
      · intro h0; simp at h0; exact absurd h0 hn
      · intro h0; exact absurd (List.mem_of_getLast? h0) hc
def lastP (t : ByteArray) : ByteArray := (cutS 10 t).getD ((cutS 10 t).length - 1) E0
theorem lastP_last (t : ByteArray) : ∃ e, (partsC 10 t.data.toList).getLast? = some e ∧ lastP t = mkB e := by
  obtain ⟨e, he⟩ : ∃ e, (partsC 10 t.data.toList).getLast? = some e := by
    cases h : (partsC 10 t.data.toList).getLast? with
    | none => exact absurd (List.getLast?_eq_none_iff.1 h) (partsC_ne _ _)
    | some e => exact ⟨e, rfl⟩
  refine ⟨e, he, ?_⟩
  rw [List.getLast?_eq_getElem?] at he
  unfold lastP cutS
  rw [List.length_map, List.getD_eq_getElem?_getD, List.getElem?_map, he]
  rfl
theorem lastP_empty : (lastP ⟨#[]⟩).size = 0 := by decide +kernel
theorem lastP_size {t : ByteArray} (h : 0 < t.size) : (lastP t).size = 0 ↔ t[t.size - 1] = 10 := by
  obtain ⟨e, he, hl⟩ := lastP_last t
  have hlen : t.data.toList.length = t.size := by rw [Array.length_toList]; rfl
  have hn : t.data.toList ≠ [] := by intro h0; rw [h0] at hlen; simp at hlen; omega
  have h1 := last_nil 10 _ t.data.toList (Nat.le_refl _) hn
  have h2 : t.data.toList.getLast? = some t[t.size - 1] := by
    rw [List.getLast?_eq_getElem?, hlen, List.getElem?_eq_getElem (by omega), Array.getElem_toList]
    rfl
  rw [he, h2] at h1
  rw [hl, mkB_size]
  constructor
  · intro h0
    have : e = [] := List.length_eq_zero_iff.1 h0
    rw [this] at h1
    simpa using h1.1 rfl
  · intro h0
    rw [h0] at h1
    have := h1.2 rfl
    simp at this
    rw [this]; rfl
def coOk (t : ByteArray) : Bool := decide (t.size ≤ 16000) && decide ((lastP t).size = 0)
def isBad (s : ByteArray) : Bool := (s.toList == [110, 111]) || (s.toList == [119, 104, 97, 116])
def badK (L : List ByteArray) : Nat → Nat
  | 0 => 0
  | k + 1 => badK L k + (if isBad (L.getD k E0) = true then 1 else 0)
theorem badK_le (L : List ByteArray) : ∀ k, badK L k ≤ k
  | 0 => Nat.le_refl _
  | k + 1 => by have := badK_le L k; simp only [badK]; split <;> omega
def linesS (t : ByteArray) : List ByteArray := (linesL t.data.toList).map mkB
def coBad (t : ByteArray) : Nat := if coOk t = true then badK (linesS t) (linesS t).length else 0
def coGood (t : ByteArray) : Nat := if coOk t = true then (linesS t).length - badK (linesS t) (linesS t).length else 0
theorem coNo {t : ByteArray} (h : coOk t = false) : coBad t = 0 ∧ coGood t = 0 := by unfold coBad coGood; rw [h]; exact ⟨rfl, rfl⟩
theorem coYes {t : ByteArray} (h : coOk t = true) : coBad t = badK (linesS t) (linesS t).length ∧ coGood t = (linesS t).length - badK (linesS t) (linesS t).length := by unfold coBad coGood; rw [if_pos h, if_pos h]; exact ⟨rfl, rfl⟩
theorem linesS_cnt (t : ByteArray) : (linesS t).length = (cutS 10 t).length - 1 := by unfold linesS; rw [cutS_lines, List.length_dropLast]
theorem linesS_le (t : ByteArray) : (linesS t).length ≤ t.size := by have := linesS_cnt t; have := cutS_cnt 10 t; omega
end Go.Proofs.YtgkbbpajkbkgnaaGreatDoor

namespace Go.Proofs.YtgkbbpajkbkgnaaGreatDoor
open Go.RowKit
theorem partsC_le (c : UInt8) : ∀ (l : List UInt8), ∀ p ∈ partsC c l, p.length ≤ l.length
  | [], p, h => by
    simp only [partsC, List.mem_singleton] at h
    subst h
    exact Nat.le_refl _
  | b :: r, p, h => by
    have ih := partsC_le c r
    simp only [partsC] at h
    split at h
    · rw [List.mem_cons] at h
      rcases h with rfl | h
      · simp
      · have := ih p h
        simp only [List.length_cons]; omega
    · split at h
      · rw [List.mem_singleton] at h
        subst h
        simp
      · rename_i x t he
        rw [he] at ih
        rw [List.mem_cons] at h
        rcases h with rfl | h
        · have := ih x (by simp)
          simp only [List.length_cons]; omega
        · have := ih p (by simp [h])
          simp only [List.length_cons]; omega
theorem cutS_le (c : UInt8) (s : ByteArray) : ∀ x ∈ cutS c s, x.size ≤ s.size := by
  intro x hx
  obtain ⟨p, hp, rfl⟩ := List.mem_map.1 hx
  have := partsC_le c s.data.toList p hp
  rw [mkB_size]
  rw [Array.length_toList] at this
  exact this
theorem SplitC_any (c : UInt8) (t : ByteArray) (w : World) (h : HasMax w) (ht : t.size ≤ 1048576) :
    Calls Tryz.prog 83 #[.string t, .string ⟨#[c]⟩] w fun e w' => ∃ a cap, e = .returned (.slice a (cutS c t).length cap) ∧ RdSs w' (.slice a (cutS c t).length cap) (cutS c t) ∧ Below w.heap.size w w' := by
  obtain ⟨m, hm⟩ := h
  refine (Tryz.strings_Split t ⟨#[c]⟩ m w (by omega) hm (by show 1 ≤ 1; omega)).mono ?_
  rintro e w' ⟨rfl, rfl⟩
  have h1 := Lib.splitB_all ⟨#[c]⟩ (by show 1 ≤ 1; omega) 0 _ t rfl
  rw [splitB_cutS] at h1 ⊢
  rw [← h1]
  have hc := cutS_cnt c t
  refine ⟨_, _, rfl, ⟨.inr ⟨⟨w.heap.size, 0, none⟩, (cutS c t).length, by rw [List.length_map], by rw [List.length_map]; exact Nat.le_refl _, by unfold maxLen; omega, fun i u hi => ?_⟩, fun s hs => ?_⟩, (Below.refl _ _).alloc (Nat.le_refl _) _⟩
  · have h1 : (w.alloc (.cells ((cutS c t).map SV).toArray 9)).heap[w.heap.size]? = some (.cells ((cutS c t).map SV).toArray 9) := heap_alloc_new w _
    have h2 : ((⟨w.heap.size, 0, none⟩ : Addr).add i) = ⟨w.heap.size, i, none⟩ := by unfold Addr.add; split <;> simp_all
    rw [h2]
    show (w.alloc (.cells ((cutS c t).map SV).toArray 9)).cell? _ = _
    simp only [World.cell?, h1]
    simpa using hi
  · have := cutS_le c t s hs
    unfold maxLen; omega
def wsOf (s : ByteArray) : List ByteArray := if s = noneS then [] else cutS 44 s
def listOk (s : ByteArray) : Bool := (wsOf s).all valOk && decide ((wsOf s).length ≤ 64)
def valsK (s : ByteArray) (k : Nat) : List Int := ((wsOf s).take k).map valN
def rdV (s : ByteArray) : List Int := if listOk s = true then (wsOf s).map valN else []
theorem wsOf_le (s : ByteArray) : ∀ x ∈ wsOf s, x.size ≤ s.size := by
  unfold wsOf
  split
  · intro x h; cases h
  · exact cutS_le 44 s
theorem wsOf_cnt (s : ByteArray) : (wsOf s).length ≤ s.size + 1 := by
  unfold wsOf
  split
  · simp
  · exact cutS_cnt 44 s
theorem wsOf_at {s : ByteArray} {k : Nat} (h : k < (wsOf s).length) : ((wsOf s).getD k E0).size ≤ s.size := by
  rw [List.getD_eq_getElem?_getD, List.getElem?_eq_getElem h]
  exact wsOf_le s _ (List.getElem_mem _)
theorem valsK_succ (s : ByteArray) (k : Nat) (h : k < (wsOf s).length) : valsK s (k + 1) = valsK s k ++ [valN ((wsOf s).getD k E0)] := by
  unfold valsK
  rw [List.take_add_one, List.map_append, List.getElem?_eq_getElem h, List.getD_eq_getElem?_getD, List.getElem?_eq_getElem h]
  rfl
theorem valsK_all (s : ByteArray) : valsK s (wsOf s).length = (wsOf s).map valN := by unfold valsK; rw [List.take_length]
theorem listOk_bad {s : ByteArray} {k : Nat} (hk : k < (wsOf s).length) (h : valOk ((wsOf s).getD k E0) = false) : listOk s = false := by
  unfold listOk
  rw [Bool.and_eq_false_iff]
  left
  rw [List.all_eq_false]
  refine ⟨(wsOf s)[k], List.getElem_mem _, ?_⟩
  rw [List.getD_eq_getElem?_getD, List.getElem?_eq_getElem hk] at h
  simp only [Option.getD_some] at h
  rw [h]; simp
theorem listOk_all {s : ByteArray} (h : ∀ j, j < (wsOf s).length → valOk ((wsOf s).getD j E0) = true) : listOk s = decide ((wsOf s).length ≤ 64) := by
  unfold listOk
  rw [show (wsOf s).all valOk = true by
    rw [List.all_eq_true]
    intro x hx
    obtain ⟨i, hi, rfl⟩ := List.mem_iff_getElem.1 hx
    have := h i hi
    rwa [List.getD_eq_getElem?_getD, List.getElem?_eq_getElem hi] at this, Bool.true_and]
theorem valOk_in {s : ByteArray} (h : valOk s = true) : -1000000000000000 ≤ valN s ∧ valN s ≤ 1000000000000000 := by
  unfold valOk at h
  cases hv : valB s with
  | none => rw [hv] at h; cases h
  | some v =>
    have h1 := valB_some hv
    rw [(valN_some hv).1]
    exact ⟨h1.1, h1.2.1⟩
theorem vals_allIn {s : ByteArray} (h : ∀ j, j < (wsOf s).length → valOk ((wsOf s).getD j E0) = true) : allIn (-1000000000000000) 1000000000000000 ((wsOf s).map valN) = true := by
  refine allIn_true fun i hi => ?_
  rw [List.length_map] at hi
  have h1 := valOk_in (h i hi)
  rw [List.getD_eq_getElem?_getD, List.getElem?_eq_getElem hi] at h1
  rw [List.getD_eq_getElem?_getD, List.getElem?_map, List.getElem?_eq_getElem hi, inB_iff]
  exact h1
theorem wsOf_none : wsOf noneS = [] := by unfold wsOf; rw [if_pos rfl]
theorem wsOf_not {s : ByteArray} (h : s ≠ noneS) : wsOf s = cutS 44 s := by unfold wsOf; rw [if_neg h]
theorem rdV_ok {s : ByteArray} (h : listOk s = true) : rdV s = (wsOf s).map valN := by unfold rdV; rw [if_pos h]
theorem rdV_no {s : ByteArray} (h : listOk s = false) : rdV s = [] := by unfold rdV; rw [h]; rfl
theorem rdV_len {s : ByteArray} : (rdV s).length ≤ 64 := by
  unfold rdV
  split
  · rename_i h
    unfold listOk at h
    rw [Bool.and_eq_true, decide_eq_true_iff] at h
    rw [List.length_map]
    exact h.2
  · simp
end Go.Proofs.YtgkbbpajkbkgnaaGreatDoor

namespace Go.Proofs.YtgkbbpajkbkgnaaGreatDoor
open Go.RowKit
def fltOk (s : ByteArray) : Bool := (wsOf s).all hexOk && decide ((wsOf s).length ≤ 256)
def fltsK (s : ByteArray) (k : Nat) : List Nat := ((wsOf s).take k).map fun x => accH x 8
def fltV (s : ByteArray) : List Nat := if fltOk s = true then (wsOf s).map (fun x => accH x 8) else []
theorem fltsK_succ (s : ByteArray) (k : Nat) (h : k < (wsOf s).length) : fltsK s (k + 1) = fltsK s k ++ [accH ((wsOf s).getD k E0) 8] := by
  unfold fltsK
  rw [List.take_add_one, List.map_append, List.getElem?_eq_getElem h, List.getD_eq_getElem?_getD, List.getElem?_eq_getElem h]
  rfl
theorem fltsK_all (s : ByteArray) : fltsK s (wsOf s).length = (wsOf s).map (fun x => accH x 8) := by unfold fltsK; rw [List.take_length]
theorem fltOk_bad {s : ByteArray} {k : Nat} (hk : k < (wsOf s).length) (h : hexOk ((wsOf s).getD k E0) = false) : fltOk s = false := by
  unfold fltOk
  rw [Bool.and_eq_false_iff]
  left
  rw [List.all_eq_false]
  refine ⟨(wsOf s)[k], List.getElem_mem _, ?_⟩
  rw [List.getD_eq_getElem?_getD, List.getElem?_eq_getElem hk] at h
  simp only [Option.getD_some] at h
  rw [h]; simp
theorem fltOk_all {s : ByteArray} (h : ∀ j, j < (wsOf s).length → hexOk ((wsOf s).getD j E0) = true) (hl : (wsOf s).length ≤ 256) : fltOk s = true := by
  unfold fltOk
  rw [show (wsOf s).all hexOk = true by
    rw [List.all_eq_true]
    intro x hx
    obtain ⟨i, hi, rfl⟩ := List.mem_iff_getElem.1 hx
    have := h i hi
    rwa [List.getD_eq_getElem?_getD, List.getElem?_eq_getElem hi] at this, Bool.true_and]
  exact decide_eq_true hl
theorem fltOk_long {s : ByteArray} (h : 256 < (wsOf s).length) : fltOk s = false := by
  unfold fltOk
  rw [show decide ((wsOf s).length ≤ 256) = false from decide_eq_false (by omega), Bool.and_false]
theorem fltV_ok {s : ByteArray} (h : fltOk s = true) : fltV s = (wsOf s).map (fun x => accH x 8) := by unfold fltV; rw [if_pos h]
theorem fltV_no {s : ByteArray} (h : fltOk s = false) : fltV s = [] := by unfold fltV; rw [h]; rfl
end Go.Proofs.YtgkbbpajkbkgnaaGreatDoor

namespace Go.Proofs.YtgkbbpajkbkgnaaGreatDoor
open Go.RowKit
def rowsW (p0 p1 p2 p3 : ByteArray) : RowsD := ⟨valN p0, fltV p1, fltV p2, fltV p3⟩
noncomputable def rowsB (p0 p1 p2 p3 : ByteArray) : Bool := valOk p0 && (fltOk p1 && (fltOk p2 && (fltOk p3 && validR (rowsW p0 p1 p2 p3))))
noncomputable def rdrOk (s : ByteArray) : Bool := decide ((cutS 59 s).length = 4) && rowsB ((cutS 59 s).getD 0 E0) ((cutS 59 s).getD 1 E0) ((cutS 59 s).getD 2 E0) ((cutS 59 s).getD 3 E0)
noncomputable def rdrV (s : ByteArray) : RowsD := if rdrOk s = true then rowsW ((cutS 59 s).getD 0 E0) ((cutS 59 s).getD 1 E0) ((cutS 59 s).getD 2 E0) ((cutS 59 s).getD 3 E0) else zeroR
theorem rdr_short {s : ByteArray} (h : (cutS 59 s).length ≠ 4) : rdrOk s = false := by unfold rdrOk; rw [decide_eq_false h, Bool.false_and]
theorem rdr_four {s : ByteArray} (h : (cutS 59 s).length = 4) : rdrOk s = rowsB ((cutS 59 s).getD 0 E0) ((cutS 59 s).getD 1 E0) ((cutS 59 s).getD 2 E0) ((cutS 59 s).getD 3 E0) := by unfold rdrOk; rw [decide_eq_true h, Bool.true_and]
theorem rdrV_no {s : ByteArray} (h : rdrOk s = false) : rdrV s = zeroR := by unfold rdrV; rw [h]; rfl
theorem rdrV_yes {s : ByteArray} (h : rdrOk s = true) : rdrV s = rowsW ((cutS 59 s).getD 0 E0) ((cutS 59 s).getD 1 E0) ((cutS 59 s).getD 2 E0) ((cutS 59 s).getD 3 E0) := by unfold rdrV; rw [if_pos h]
theorem ownR_mk {w3 w4 w5 : World} {lo lo1 lo2 lo3 : Nat} {z : Int} {s1 s2 s3 : Value} {x1 x2 x3 : List Nat}
    (h1 : w3.ownsRow lo1 100 1 s1 x1.length (x1.map F32)) (l1 : lo ≤ lo1) (h2 : w4.ownsRow lo2 100 1 s2 x2.length (x2.map F32)) (l2 : w3.heap.size ≤ lo2) (h3 : w5.ownsRow lo3 100 1 s3 x3.length (x3.map F32)) (l3 : w4.heap.size ≤ lo3)
    (h34 : Below w3.heap.size w3 w4) (h45 : Below w4.heap.size w4 w5) (l4 : lo1 ≤ w3.heap.size) : OwnR lo w5.heap.size w5 (.agg #[.int .i64 z, s1, s2, s3]) ⟨z, x1, x2, x3⟩ := by
  have z34 := h34.size
  have z45 := h45.size
  refine ⟨s1, s2, s3, rfl, ⟨owns_base (owns_below (owns_below h1 h34 (Nat.le_refl _)) h45 (Nat.le_refl _)) l1, fun g hg => ?_⟩, ⟨owns_base (owns_below h2 h45 (Nat.le_refl _)) (by omega), fun g hg => ?_⟩, ⟨owns_base h3 (by omega), fun g hg => (h3.lt g hg).2⟩, fun g hg hg' => ?_, fun g hg hg' => ?_, fun g hg hg' => ?_⟩
  · have := (h1.lt g hg).2; omega
  · have := (h2.lt g hg).2; omega
  · have := (h1.lt g hg).2; have := (h2.lt g hg').1; omega
  · have := (h1.lt g hg).2; have := (h3.lt g hg').1; omega
  · have := (h2.lt g hg).2; have := (h3.lt g hg').1; omega
end Go.Proofs.YtgkbbpajkbkgnaaGreatDoor

namespace Go.Proofs.YtgkbbpajkbkgnaaGreatDoor
open Go.ChangeShapes Go.WideShapes Go.ChangeAt Go.RowKit
set_option linter.unusedVariables false
section
variable {H : Type} {enc : TypeId × Value → H} {w : World} {base : Nat} {spare : Nat → Bool} {held : Bool}
end
end Go.Proofs.YtgkbbpajkbkgnaaGreatDoor

namespace Go.Proofs.YtgkbbpajkbkgnaaGreatDoor
open Go.ChangeShapes Go.WideShapes Go.ChangeAt Go.RowKit
set_option linter.unusedVariables false
section
variable {H : Type} {enc : TypeId × Value → H} {w : World} {base : Nat} {spare : Nat → Bool} {held : Bool}
end
end Go.Proofs.YtgkbbpajkbkgnaaGreatDoor

namespace Go.Proofs.YtgkbbpajkbkgnaaGreatDoor
open Go.ChangeShapes Go.WideShapes Go.ChangeAt Go.RowKit
set_option linter.unusedVariables false
section
variable {H : Type} {enc : TypeId × Value → H} {w : World} {base : Nat} {spare : Nat → Bool} {held : Bool}
end
end Go.Proofs.YtgkbbpajkbkgnaaGreatDoor

namespace Go.Proofs.YtgkbbpajkbkgnaaGreatDoor
open Go.RowKit
end Go.Proofs.YtgkbbpajkbkgnaaGreatDoor

namespace Go.Proofs.YtgkbbpajkbkgnaaGreatDoor
open Go.RowKit
structure DeskD where
  rows : RowsD
  sizes : List Int
  jobs : List JobD
  ways : List Int
def RdD (w : World) (v : Value) (d : DeskD) : Prop := ∃ va vb vc vs vj vw, v = .agg #[.int .i64 d.rows.vars, va, vb, vc, vs, vj, vw] ∧ RdR w (.agg #[.int .i64 d.rows.vars, va, vb, vc]) d.rows ∧ RdI w vs d.sizes ∧ RdJ w vj d.jobs ∧ RdI w vw d.ways
theorem RdD.shape {w : World} {v : Value} {d : DeskD} (h : RdD w v d) : ∃ a1 c1 a2 c2 a3 c3 a4 c4 a5 c5 a6 c6, v = .agg #[.int .i64 d.rows.vars, .slice a1 d.rows.nums.length c1, .slice a2 d.rows.bnds.length c2, .slice a3 d.rows.gains.length c3, .slice a4 d.sizes.length c4, .slice a5 d.jobs.length c5, .slice a6 d.ways.length c6] := by
  obtain ⟨va, vb, vc, vs, vj, vw, rfl, h1, h2, h3, h4⟩ := h
  obtain ⟨a1, c1, a2, c2, a3, c3, e⟩ := h1.shape
  simp only [Value.agg.injEq, Array.mk.injEq, List.cons.injEq, and_true, true_and] at e
  obtain ⟨rfl, rfl, rfl⟩ := e
  obtain ⟨a4, c4, rfl⟩ := h2.shape
  obtain ⟨a5, c5, rfl⟩ := h3.shape
  obtain ⟨a6, c6, rfl⟩ := h4.shape
  exact ⟨_, _, _, _, _, _, _, _, _, _, _, _, rfl⟩
theorem RdD.parts {w : World} {x0 x1 x2 x3 y z u : Value} {d : DeskD} (h : RdD w (.agg #[x0, x1, x2, x3, y, z, u]) d) : RdR w (.agg #[x0, x1, x2, x3]) d.rows ∧ RdI w y d.sizes ∧ RdJ w z d.jobs ∧ RdI w u d.ways := by
  obtain ⟨va, vb, vc, vs, vj, vw, e, h1, h2, h3, h4⟩ := h
  simp only [Value.agg.injEq, Array.mk.injEq, List.cons.injEq, and_true] at e
  obtain ⟨rfl, rfl, rfl, rfl, rfl, rfl, rfl⟩ := e
  exact ⟨h1, h2, h3, h4⟩
theorem RdD.up {w w' : World} {v : Value} {d : DeskD} {B : Nat} (h : RdD w v d) (hb : Below B w w') (hB : w.heap.size ≤ B) : RdD w' v d := by
  obtain ⟨va, vb, vc, vs, vj, vw, e, h1, h2, h3, h4⟩ := h
  exact ⟨va, vb, vc, vs, vj, vw, e, h1.up hb hB, h2.up hb hB, h3.up hb hB, h4.up hb hB⟩
end Go.Proofs.YtgkbbpajkbkgnaaGreatDoor

namespace Go.Proofs.YtgkbbpajkbkgnaaGreatDoor
open Go.RowKit
theorem Tryz.infoJob : (Tryz.prog.info? 86).map (fun i => (i.zero, i.size, i.bytes)) = some (some (.agg #[.int .i64 0, .int .i64 0, .int .i64 0, .int .i64 0]), 4, 32) := by kernel_rfl
end Go.Proofs.YtgkbbpajkbkgnaaGreatDoor

namespace Go.Proofs.YtgkbbpajkbkgnaaGreatDoor
open Go.RowKit
end Go.Proofs.YtgkbbpajkbkgnaaGreatDoor

namespace Go.Proofs.YtgkbbpajkbkgnaaGreatDoor
open Go.ChangeShapes Go.WideShapes Go.ChangeAt Go.RowKit
set_option linter.unusedVariables false
def BitsF (zs : List Nat) : Prop := ∀ z ∈ zs, z < 4294967296
section
variable {H : Type} {enc : TypeId × Value → H} {w : World} {base : Nat} {spare : Nat → Bool} {held : Bool}
end
end Go.Proofs.YtgkbbpajkbkgnaaGreatDoor

namespace Go.Proofs.YtgkbbpajkbkgnaaGreatDoor
open Go.RowKit
theorem bits_nil : BitsF [] := by intro z hz; cases hz
theorem bits_app {a b : List Nat} (ha : BitsF a) (hb : BitsF b) : BitsF (a ++ b) := by
  intro z hz
  rw [List.mem_append] at hz
  rcases hz with h | h
  · exact ha z h
  · exact hb z h
theorem bits_one {x : Nat} (h : x < 4294967296) : BitsF [x] := by
  intro z hz
  rw [List.mem_singleton] at hz
  subst hz; exact h
theorem bits_sub {a b : List Nat} (ha : BitsF a) (h : ∀ x ∈ b, x ∈ a) : BitsF b := fun z hz => ha z (h z hz)
theorem bits_get {a : List Nat} (ha : BitsF a) (i : Nat) : a.getD i 0 < 4294967296 := by
  rw [List.getD_eq_getElem?_getD]
  by_cases h : i < a.length
  · rw [List.getElem?_eq_getElem h]
    exact ha _ (List.getElem_mem _)
  · rw [List.getElem?_eq_none (by omega)]
    decide
theorem bits_map {α : Type} {l : List α} {f : α → Nat} (h : ∀ x ∈ l, f x < 4294967296) : BitsF (l.map f) := by
  intro z hz
  rw [List.mem_map] at hz
  obtain ⟨x, hx, rfl⟩ := hz
  exact h x hx
theorem bits_set {a : List Nat} (ha : BitsF a) (i : Nat) {x : Nat} (hx : x < 4294967296) : BitsF (a.set i x) := by
  intro z hz
  rcases List.mem_or_eq_of_mem_set hz with h | h
  · exact ha z h
  · subst h; exact hx
theorem bits_rep (n : Nat) {x : Nat} (hx : x < 4294967296) : BitsF (List.replicate n x) := by
  intro z hz
  rw [List.mem_replicate] at hz
  obtain ⟨_, rfl⟩ := hz
  exact hx
theorem w32 : 2 ^ Ieee.single.width = 4294967296 := by decide
theorem sub_bits {x y r : Nat} (h : Ieee.single.sub x y = some r) : r < 4294967296 := by have := Ieee.Format.sub_lt Ieee.single h; rwa [w32] at this
theorem add_bits {x y r : Nat} (h : Ieee.single.add x y = some r) : r < 4294967296 := by have := Ieee.Format.add_lt Ieee.single h; rwa [w32] at this
theorem div_bits (x y : Nat) : divV x y < 4294967296 := by
  unfold divV
  cases h : Ieee.single.div x y with
  | none => decide
  | some r => have := Ieee.Format.div_lt Ieee.single h; rw [w32] at this; exact this
theorem neg_bits {x : Nat} (h : x < 4294967296) : negF x < 4294967296 := by
  show x ^^^ 2 ^ 31 < 4294967296
  exact Nat.xor_lt_two_pow (n := 32) h (by decide)
theorem one_bits : oneF < 4294967296 := by decide
def BitsT (t : TabD) : Prop := BitsF t.nums
theorem at_bits {t : TabD} (h : BitsT t) (i k : Nat) : atT t i k < 4294967296 := bits_get h _
theorem own_bits (t : TabD) (row col c : Nat) : ownV t row col c < 4294967296 := by
  unfold ownV
  split
  · exact one_bits
  · exact div_bits _ _
theorem cell_bits (t : TabD) (row col i c : Nat) : (cellO t row col i c).getD 0 < 4294967296 := by
  unfold cellO othO
  split
  · exact own_bits _ _ _ _
  · split
    · decide
    · cases h : Ieee.single.mul (atT t i col) (ownV t row col c) with
      | none => show 0 < 4294967296; decide
      | some q =>
        simp only [Option.bind_some]
        cases h2 : Ieee.single.sub (atT t i c) q with
        | none => decide
        | some r => exact sub_bits h2
theorem piv_bits (t : TabD) (row col : Nat) : BitsT (pivT t row col) := by
  unfold BitsT pivT pivO
  simp only [List.map_map]
  exact bits_map fun x _ => cell_bits t row col _ _
theorem solve_bits {near : Nat} : ∀ (F : Nat) (t t' : TabD), BitsT t → solveO near F t = some t' → BitsT t'
  | 0, t, t', h, e => by
    simp only [solveO] at e
    split at e
    · cases e; exact h
    · cases e
  | F + 1, t, t', h, e => by
    simp only [solveO] at e
    split at e
    · cases e; exact h
    · split at e
      · cases e
      · split at e
        · exact solve_bits F _ t' (piv_bits _ _ _) e
        · cases e
theorem rowO_bits {r : RowsD} (h : BitsF r.nums) (i : Nat) : BitsF (rowO r i) := by
  unfold rowO
  exact bits_sub h fun x hx => List.mem_of_mem_drop (List.mem_of_mem_take hx)
theorem tabN_bits {r : RowsD} (h1 : BitsF r.nums) (h2 : BitsF r.bnds) : ∀ i, BitsF (tabN r i)
  | 0 => bits_nil
  | i + 1 => by
    have ih := tabN_bits h1 h2 i
    refine bits_app ih (bits_app (bits_app (rowO_bits h1 i) ?_) (bits_one (bits_get h2 i)))
    unfold unitsL
    refine bits_map fun k _ => ?_
    split
    · exact one_bits
    · decide
theorem table_bits {r : RowsD} (h1 : BitsF r.nums) (h2 : BitsF r.bnds) (h3 : BitsF r.gains) : BitsT (tableT r) := by
  unfold BitsT tableT tabG
  refine bits_app (bits_app (tabN_bits h1 h2 _) (bits_map fun x hx => neg_bits (h3 x (List.mem_of_mem_take hx)))) (bits_rep _ (by decide))
theorem solved_bits {r : RowsD} {most : Int} {near : Nat} {t : TabD} (h1 : BitsF r.nums) (h2 : BitsF r.bnds) (h3 : BitsF r.gains) (h : solvO r most near = some t) : BitsT t := by
  unfold solvO at h
  split at h
  · exact solve_bits _ _ _ (table_bits h1 h2 h3) h
  · cases h
theorem plan_bits {t : TabD} (h : BitsT t) : ∀ i, BitsF (planK t i)
  | 0 => bits_rep _ (by decide)
  | i + 1 => by
    have ih := plan_bits h i
    simp only [planK]
    split
    · exact bits_set ih _ (at_bits h _ _)
    · exact ih
theorem price_bits {t : TabD} (h : BitsT t) : BitsF (priceT t) := by
  unfold priceT priceK
  exact bits_map fun c _ => at_bits h _ _
theorem dot_bits (a b : List Nat) : ∀ k r, dotO a b k = some r → r < 4294967296
  | 0, r, h => by cases h; decide
  | k + 1, r, h => by
    simp only [dotO] at h
    cases hs : dotO a b k with
    | none => rw [hs] at h; cases h
    | some s =>
      rw [hs] at h
      simp only [Option.bind_some] at h
      cases hm : Ieee.single.mul (a.getD k 0) (b.getD k 0) with
      | none => rw [hm] at h; cases h
      | some p =>
        rw [hm] at h
        exact add_bits h
theorem gain_bits (r : RowsD) (x : List Nat) : gainV r x < 4294967296 := by
  unfold gainV
  split
  · unfold gainO
    cases h : dotO r.gains x r.gains.length with
    | none => decide
    | some s => exact dot_bits _ _ _ _ h
  · decide
def BitsR (r : RowsD) : Prop := BitsF r.nums ∧ BitsF r.bnds ∧ BitsF r.gains
theorem zeroR_bits : BitsR zeroR := ⟨bits_nil, bits_nil, bits_nil⟩
theorem scale_bits {r : RowsD} (h : BitsR r) : BitsR (scaleV r) := by
  unfold scaleV
  split
  · refine ⟨?_, ?_, h.2.2⟩
    · show BitsF (stN r r.nums.length)
      unfold stN scN
      refine bits_map fun j _ => ?_
      split
      · split
        · exact div_bits _ _
        · exact bits_get h.1 _
      · exact bits_get h.1 _
    · show BitsF (stB r r.bnds.length)
      unfold stB scB
      refine bits_map fun j _ => ?_
      split
      · split
        · exact div_bits _ _
        · exact bits_get h.2.1 _
      · exact bits_get h.2.1 _
  · exact zeroR_bits
theorem dropK_bits {r : RowsD} (h : BitsR r) (i : Nat) : ∀ k, BitsF (drK r i k).1 ∧ BitsF (drK r i k).2
  | 0 => ⟨bits_nil, bits_nil⟩
  | k + 1 => by
    have ih := dropK_bits h i k
    simp only [drK]
    split
    · exact ih
    · exact ⟨bits_app ih.1 (rowO_bits h.1 k), bits_app ih.2 (bits_one (bits_get h.2.1 k))⟩
theorem drop_bits {r : RowsD} (h : BitsR r) (i : Int) : BitsR (dropV r i) := by
  unfold dropV
  split
  · exact ⟨(dropK_bits h _ _).1, (dropK_bits h _ _).2, h.2.2⟩
  · exact zeroR_bits
theorem flt_bits (s : ByteArray) : BitsF (fltV s) := by
  unfold fltV
  split
  · exact bits_map fun x _ => accH_lt x 8
  · exact bits_nil
theorem rdr_bits (s : ByteArray) : BitsR (rdrV s) := by
  unfold rdrV
  split
  · exact ⟨flt_bits _, flt_bits _, flt_bits _⟩
  · exact zeroR_bits
end Go.Proofs.YtgkbbpajkbkgnaaGreatDoor
