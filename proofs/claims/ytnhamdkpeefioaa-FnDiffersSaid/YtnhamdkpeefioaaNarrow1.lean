/-
  Narrow domains: the function that is told each choice sets its bits.
-/
import Derived.Test.YtnhamdkpeefioaaNarrowM
import Derived.Test.YtnhamdkpeefioaaDigitsW
import Derived.RegionTactic
import Derived.BigRegion
namespace Go.Proofs.Ytnhamdkpeefioaa
open Go.RowKit

def mkRow (n : Nat) (f : Nat → Nat) : List Value := (List.range n).map fun i => .int .i64 ((f i : Nat) : Int)
theorem mkRow_len (n : Nat) (f : Nat → Nat) : (mkRow n f).length = n := by simp [mkRow]
theorem mkRow_at {n : Nat} {f : Nat → Nat} {i : Nat} (h : i < n) : (mkRow n f)[i]? = some (.int .i64 ((f i : Nat) : Int)) := by simp [mkRow, h]
theorem mkRow_congr {n : Nat} {f g : Nat → Nat} (h : ∀ i, i < n → f i = g i) : mkRow n f = mkRow n g := by
  unfold mkRow
  apply List.map_congr_left
  intro i hi
  rw [h i (List.mem_range.1 hi)]
theorem mkRow_set {n : Nat} {f : Nat → Nat} {k x : Nat} : (mkRow n f).set k (.int .i64 (x : Int)) = mkRow n (fun i => if i = k then x else f i) := by
  apply List.ext_getElem?
  intro i
  rw [List.getElem?_set]
  unfold mkRow
  by_cases hi : i < n
  · by_cases hk : k = i
    · subst hk; simp [hi]
    · simp [hk, hi, Ne.symm hk]
  · by_cases hk : k = i
    · subst hk; simp [hi]
    · simp [hk, hi]

theorem shl_castN (i : Nat) : (1 : Int) * 2 ^ i = ((2 ^ i : Nat) : Int) := by push_cast; omega

set_option maxHeartbeats 2000000 in
set_option maxRecDepth 4000 in
theorem narrow1_any (ub ug B0 n : Nat) (hn6 : n ≤ 6) (hug : ug < B0) (M : Nat → Nat) (hM : ∀ i, i < n → M i < 4294967296) (s : List Int) (hs : ∀ i, i < n → 0 ≤ s.getD i 0 ∧ s.getD i 0 ≤ 31) (a : Option Addr) (cap m : Nat) (w : World) (hm : s.length = m) (hmn : m = n)
    (hsl : w.ownsRow B0 2 1 (.slice a m cap) m (s.map I64)) (hbox : Box w ub 32 (.slice (some ⟨ug, 0, none⟩) n n)) (hrow : w.ownsRow ug 2 1 (.slice (some ⟨ug, 0, none⟩) n n) n (mkRow n M)) :
    Calls Try.prog 78 (#[.slice a m cap] ++ #[.pointer (some ⟨ub, 0, none⟩)]) w fun e w' => e = .returned (.tuple #[]) ∧ w'.ownsRow ug 2 1 (.slice (some ⟨ug, 0, none⟩) n n) n (mkRow n (fun i => M i ||| 2 ^ (s.getD i 0).toNat)) ∧ Kept (· = ug) w w' := by
  subst hmn
  have hne : ub ≠ ug := by have := hbox.not_owned hrow (by decide); simp [Value.ownBlock] at this; omega
  have HS := Lib.hid hsl
  have HB := Lib.hid hbox
  have HR := Lib.hid hrow
  have HM := Lib.hid hM
  have HSR := Lib.hid hs
  have HL := Lib.hid hm
  clear hsl hbox hrow hM hs hm
  go_enter Try.func78, Try.ntmps78
  go_wp2_with fail
  go_loopw [7] (fun i wr => ∃ k : Nat, i = .int .i64 k ∧ k ≤ m ∧ wr.ownsRow ug 2 1 (.slice (some ⟨ug, 0, none⟩) m m) m (mkRow m (fun i => if i < k then M i ||| 2 ^ (s.getD i 0).toNat else M i)) ∧ Kept (· = ug) w wr) (fun i _ => m - (intOf i).toNat)
  case atStart => exact ⟨0, rfl, Nat.zero_le _, by simpa using HR.out, Kept.refl _ _⟩
  case round =>
    obtain ⟨k, rfl, hk, hrow, hkp⟩ := hrel
    have HO := Lib.hid hrow
    have HK := Lib.hid hkp
    clear hrow hkp
    by_cases hlt : k < m
    · have hsn := owns_kept HS.out HK.out (fun b hb => by have := (owns_lt HS.out hb).1; omega)
      obtain ⟨sb, so, rfl, _, hcs⟩ := (show RdI _ _ s by have := slc_of_owns hsn; exact this).at (show k < s.length by have := HL.out; omega)
      clear hsn
      have hbx : wr.cell? ⟨ub, 0, none⟩ = some (.slice (some ⟨ug, 0, none⟩) m m) := (HB.out.kept HK.out hne).cell
      have hd := HO.out.cellAt k (by omega)
      have hfr := HO.out.frozenAt k
      rw [mkRow_at hlt] at hd
      have hr := HSR.out k hlt
      obtain ⟨x, hx⟩ : ∃ x, x = s.getD k 0 := ⟨_, rfl⟩
      rw [← hx] at hcs hr
      obtain ⟨N, rfl⟩ := Int.eq_ofNat_of_zero_le hr.1
      have hN : N < 32 := by omega
      have hMk := HM.out k hlt
      have e0 : (if k < k then M k ||| 2 ^ (s.getD k 0).toNat else M k) = M k := by simp
      rw [e0] at hd
      have hsP := shl_castN N
      have hP32 : 2 ^ N < 4294967296 := Nat.pow_lt_pow_right (by decide) hN
      have hor := i64_or_nat (M k) (2 ^ N) (by omega) (by omega)
      obtain ⟨P, hP⟩ : ∃ P, P = 2 ^ N := ⟨_, rfl⟩
      rw [← hP] at hsP hP32 hor
      obtain ⟨q, hq⟩ : ∃ q, q = M k := ⟨_, rfl⟩
      rw [← hq] at hd hMk hor
      obtain ⟨r, hr3⟩ : ∃ r, r = q ||| P := ⟨_, rfl⟩
      rw [← hr3] at hor
      have HRR := Lib.hid (show r = M k ||| 2 ^ (s.getD k 0).toNat by rw [hr3, hq, hP, ← hx]; simp)
      clear hr hr3 hq hP hx e0
      have k1 : (k : Int) < (m : Int) := by omega
      go_wp2_with fail
      go_region
      all_goals
        go_wp2_with fail
        go_roundw
        case rel =>
          refine ⟨k + 1, by go_num, by omega, ?_, (HK.out.drew).setCell (.inr rfl) _⟩
          have h1 := ((show wr.drew.ownsRow _ _ _ _ _ _ from HO.out).stored k (.int .i64 (r : Int))).1
          rw [mkRow_set] at h1
          have e : (fun i => if i = k then r else if i < k then M i ||| 2 ^ (s.getD i 0).toNat else M i) = (fun i => if i < k + 1 then M i ||| 2 ^ (s.getD i 0).toNat else M i) := by
            funext i
            by_cases h1 : i = k
            · subst h1; simp [HRR.out]
            · by_cases h2 : i < k
              · simp [h1, h2, show i < k + 1 by omega]
              · simp [h1, h2, show ¬ i < k + 1 by omega]
          rw [e] at h1
          exact h1
        case measure => simp [intOf]; omega
    · obtain rfl : m = k := by omega
      go_wp2_with fail
      go_end0
      refine ⟨rfl, ?_, HK.out⟩
      have h := HO.out
      rw [mkRow_congr (g := fun i => M i ||| 2 ^ (s.getD i 0).toNat) (fun i hi => if_pos hi)] at h
      exact h

end Go.Proofs.Ytnhamdkpeefioaa
