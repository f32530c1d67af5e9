/-
  FnMachines: texts joined: OrdI, EndI, DigM, LateM, DigI, RevI.
-/
import Derived.Lib.MinMax
import Derived.Laws.BitsLemmas
import Derived.Deep.Cut
import Derived.Deep.RegionLaw
import Derived.Test.YtfdaifmfecfchaaMFnMachinesAD
import Derived.Test.YtfdaifmfecfchaaMFnMachinesAE
import Derived.Test.YtfdaifmfecfchaaMFnMachinesAG
import Derived.Test.YtfdaifmfecfchaaMFnMachinesAI
namespace Go.Proofs.Ytfdaifmfecfchaa
open Go.RowKit

/-- Each of n numbers once. -/
def ordB (n : Int) (l : List Int) : Bool := ((l.length : Int) == n) && (allIn 0 (n - 1) l && allB l.length fun i => !hasB (l.take i) (l.getD i 0))

set_option maxHeartbeats 1000000 in
theorem isOrderOf_any (v : Value) (l : List Int) (n : Int) (w : World) (h : RdI w v l) (hn : 0 ≤ n ∧ n ≤ 100000) :
    Calls Try.prog 76 #[.int .i64 n, v] w fun e w' => e = .returned (.bool (ordB n l)) ∧ w = w' := by
  obtain ⟨a, c, rfl⟩ := h.shape
  have hl := h.len
  have hle : l.length ≤ maxLen := hl
  unfold maxLen at hl
  have HR := Lib.hid h
  have HD := Lib.hid (show ordB n l = (((l.length : Int) == n) && (allIn 0 (n - 1) l && allB l.length fun i => !hasB (l.take i) (l.getD i 0))) from rfl)
  have hsub : IntKind.i64.wrap (n - 1) = n - 1 := IntWalk.i64_in _ (by omega)
  obtain ⟨p1, hp1⟩ : ∃ p, ((l.length : Int) == n) = p := ⟨_, rfl⟩
  obtain ⟨p2, hp2⟩ : ∃ p, allIn 0 (n - 1) l = p := ⟨_, rfl⟩
  rw [hp1, hp2] at HD
  have HA := Lib.hid (allWithin_any _ l 0 (n - 1) w h)
  rw [hp2] at HA
  have hne : ((l.length : Int) != n) = !p1 := by rw [← hp1]; rfl
  have HSZ := Lib.hid (size_any l.length w hle)
  clear h hp1 hp2 hle
  go_enter Try.func76, Try.ntmps76
  cases p1
  · go_wp2_with (go_at_call 47; refine HSZ.out.mono ?_; rintro e w2 ⟨rfl, rfl⟩)
    go_ret
    exact ⟨by rw [HD.out]; rfl, rfl⟩
  · cases p2
    · go_wp2_with (first | (go_at_call 47; refine HSZ.out.mono ?_; rintro e w2 ⟨rfl, rfl⟩) | (go_at_call 56; refine HA.out.mono ?_; rintro e w2 ⟨rfl, rfl⟩))
      go_ret
      exact ⟨by rw [HD.out]; rfl, rfl⟩
    · go_wp2_with (first | (go_at_call 47; refine HSZ.out.mono ?_; rintro e w2 ⟨rfl, rfl⟩) | (go_at_call 56; refine HA.out.mono ?_; rintro e w2 ⟨rfl, rfl⟩))
      clear hsub hne
      go_loopw [21] (fun iv wr => ∃ i : Nat, iv = .int .i64 i ∧ i ≤ l.length ∧ Hid (∀ j, j < i → (!hasB (l.take j) (l.getD j 0)) = true) ∧ w = wr) (fun iv _ => l.length + 1 - (intOf iv).toNat)
      case atStart => exact ⟨0, rfl, Nat.zero_le _, Lib.hid (by intro j hj; omega), rfl⟩
      case round =>
        obtain ⟨i, rfl, hi, HJ, rfl⟩ := hrel
        by_cases hlt : i < l.length
        · have hltI : (i : Int) < (l.length : Int) := by omega
          obtain ⟨b, o, rfl, _, cx⟩ := HR.out.at (i := i) hlt
          have HTK := Lib.hid (rdI_take HR.out i (by omega) rfl)
          have hcap : l.length ≤ c := by
            rcases HR.out with ⟨e, _⟩ | ⟨ad, c', e, q1, _, _⟩
            · cases e
            · simp only [Value.slice.injEq] at e
              obtain ⟨_, _, rfl⟩ := e
              rw [List.length_map] at q1
              exact q1
          have HN := Lib.hid (fun h => @allB_false l.length (fun i => !hasB (l.take i) (l.getD i 0)) i hlt h)
          have HJ2 := Lib.hid (fun (h : (!hasB (l.take i) (l.getD i 0)) = true) => show ∀ j, j < i + 1 → (!hasB (l.take j) (l.getD j 0)) = true from fun j hj => by
            by_cases e : j = i
            · rw [e]; exact h
            · exact HJ.out j (by omega))
          obtain ⟨x, hx⟩ : ∃ x, x = l.getD i 0 := ⟨_, rfl⟩
          rw [← hx] at cx HJ2
          have HHX := Lib.hid (has_any (.slice (some ⟨b, o, none⟩) i c) (l.take i) x w HTK.out)
          obtain ⟨q, hq⟩ : ∃ q, hasB (l.take i) x = q := ⟨_, rfl⟩
          rw [hq] at HHX HJ2
          have hiI : (i : Int) ≤ (c : Int) := by omega
          have HQ := Lib.hid (show (!hasB (l.take i) (l.getD i 0)) = !q by rw [← hx, hq])
          clear hx hq hcap
          cases q
          · have HJ3 := Lib.hid (HJ2.out rfl)
            go_wp2_with (go_at_call 88; refine HHX.out.mono ?_; rintro e w2 ⟨rfl, rfl⟩)
            go_roundw
            case rel => exact ⟨i + 1, by go_num, by omega, HJ3, by first | rfl | trivial⟩
            case measure => simp [intOf]; omega
          · have HN2 := Lib.hid (HN.out HQ.out)
            go_wp2_with (go_at_call 88; refine HHX.out.mono ?_; rintro e w2 ⟨rfl, rfl⟩)
            go_ret
            exact ⟨by rw [HD.out, HN2.out]; rfl, rfl⟩
        · obtain rfl : i = l.length := by omega
          have HY := Lib.hid (show allB l.length (fun i => !hasB (l.take i) (l.getD i 0)) = true from allB_true HJ.out)
          go_wp2_with fail
          go_ret
          exact ⟨by rw [HD.out, HY.out]; rfl, rfl⟩

def jobOrdB (js : List JobD) (os : List Int) : Bool := areJobsB js && ordB js.length os
theorem isJobOrder_any (v u : Value) (js : List JobD) (os : List Int) (w : World) (h : RdJ w v js) (ho : RdI w u os) :
    Calls Try.prog 39 #[v, u] w fun e w' => e = .returned (.bool (jobOrdB js os)) ∧ Below w.heap.size w w' := by
  obtain ⟨va, vc, rfl⟩ := h.shape
  have HA := Lib.hid (AreJobs_any _ js w h)
  have HB := Lib.hid (show jobOrdB js os = (areJobsB js && ordB js.length os) from rfl)
  have hlm : js.length ≤ maxLen := h.len
  by_cases hq : areJobsB js = true
  · have hn := (jobs_all hq).2.1
    rw [hq] at HA HB
    have HO := Lib.hid (fun X (hb : Below w.heap.size w X) => isOrderOf_any u os js.length X (ho.up hb (Nat.le_refl _)) (by omega))
    clear hq
    go_enter Try.func39, Try.ntmps39
    go_wp2_with (first | (go_at_call 41; refine HA.out.mono ?_; rintro e w1 ⟨rfl, hb1⟩) | (go_at_call 47; refine (size_any _ _ hlm).mono ?_; rintro e w2 ⟨rfl, rfl⟩) | (go_at_call 76; refine (HO.out w1 hb1).mono ?_; rintro e w2 ⟨rfl, rfl⟩))
    go_ret
    exact ⟨by rw [HB.out]; rfl, hb1⟩
  · rw [Bool.not_eq_true] at hq
    rw [hq] at HA HB
    clear hq
    go_enter Try.func39, Try.ntmps39
    go_wp2_with (go_at_call 41; refine HA.out.mono ?_; rintro e w1 ⟨rfl, hb1⟩)
    go_ret
    exact ⟨by rw [HB.out]; rfl, hb1⟩

end Go.Proofs.Ytfdaifmfecfchaa

namespace Go.Proofs.Ytfdaifmfecfchaa
open Go.RowKit

/-- When the first jobs of an order end, and when the last one of them does. -/
def endS (js : List JobD) (os : List Int) : Nat → List Int × Int
  | 0 => (List.replicate js.length 0, 0)
  | k + 1 => ((endS js os k).1.set (os.getD k 0).toNat ((endS js os k).2 + (js.getD (os.getD k 0).toNat J0).long), (endS js os k).2 + (js.getD (os.getD k 0).toNat J0).long)
def endsL (js : List JobD) (os : List Int) : List Int := (endS js os os.length).1
theorem endS_len (js : List JobD) (os : List Int) : ∀ k, (endS js os k).1.length = js.length
  | 0 => by simp [endS]
  | k + 1 => by
    simp only [endS, List.length_set]
    exact endS_len js os k
theorem endS_rng {js : List JobD} (h : ∀ i, 0 ≤ (js.getD i J0).long ∧ (js.getD i J0).long ≤ 1000) (os : List Int) : ∀ k, 0 ≤ (endS js os k).2 ∧ (endS js os k).2 ≤ 1000 * k
  | 0 => by simp [endS]
  | k + 1 => by
    have ih := endS_rng h os k
    have := h (os.getD k 0).toNat
    simp only [endS]
    push_cast
    omega

set_option maxHeartbeats 4000000 in
set_option maxRecDepth 8000 in
theorem endsOfI_any (v u : Value) (js : List JobD) (os : List Int) (w : World) (h : RdJ w v js) (ho : RdI w u os) (hok : areJobsB js = true) (hos : os.length ≤ 12) (hor : ∀ k, k < os.length → 0 ≤ os.getD k 0 ∧ (os.getD k 0).toNat < js.length) (hjs : ∀ i, 0 ≤ (js.getD i J0).long ∧ (js.getD i J0).long ≤ 1000) :
    Calls Try.prog 40 #[v, u] w fun e w' => ∃ v', e = .returned v' ∧ OwnI w.heap.size w'.heap.size w' v' (endsL js os) ∧ Below w.heap.size w w' := by
  obtain ⟨i0, hi, hz0, hz1, hz2⟩ := info_parts Try.infoI64
  obtain ⟨hn1, hn2, _⟩ := jobs_all hok
  obtain ⟨va, vc, rfl⟩ := h.shape
  obtain ⟨ua, uc, rfl⟩ := ho.shape
  have HR := Lib.hid h
  have HO := Lib.hid ho
  have HOR := Lib.hid hor
  have HJL := Lib.hid hjs
  have HRG := Lib.hid (fun k => endS_rng hjs os k)
  have HLN := Lib.hid (endS_len js os)
  have HS := Lib.hid (fun k => show endS js os (k + 1) = ((endS js os k).1.set (os.getD k 0).toNat ((endS js os k).2 + (js.getD (os.getD k 0).toNat J0).long), (endS js os k).2 + (js.getD (os.getD k 0).toNat J0).long) from rfl)
  have HS0 := Lib.hid (show endS js os 0 = (List.replicate js.length 0, 0) from rfl)
  obtain ⟨T, hT⟩ : ∃ T, T = endS js os := ⟨_, rfl⟩
  have HE1 := Lib.hid (show endsL js os = (T os.length).1 by rw [hT]; rfl)
  rw [← hT] at HRG HLN HS HS0
  obtain ⟨n, hn⟩ : ∃ n, n = js.length := ⟨_, rfl⟩
  obtain ⟨N, hN⟩ : ∃ N, N = os.length := ⟨_, rfl⟩
  have HN := Lib.hid hn.symm
  have HNO := Lib.hid hN.symm
  rw [← hn] at HR HOR HLN HS0 hn1 hn2 ⊢
  rw [← hN] at HO HOR HE1 hos ⊢
  clear h ho hor hok hT hn hN hjs
  go_enter Try.func40, Try.ntmps40
  go_wp2_with (at_make; refine wpList_make_full _ rfl _ _ 27 rfl w.heap.size 2 i0 (.int .i64 0) 1 Try.underlying27 hi hz0 hz1 .i64 .i64 n n n rfl rfl rfl rfl (by rw [hz2]; omega) (by simp [maxLen]; omega) (by simp) ?_; intro w2 hown hgrow; have hb2 : Below w.heap.size w w2 := (Below.refl w.heap.size w).grown hgrow (Nat.le_refl _) (by intro k hk; cases hk); have hz : (madeCells (Value.int .i64 0).cells (n * 1)).toList = (List.replicate n (0 : Int)).map I64 := (by rw [List.map_replicate]; show _ = List.replicate n (Value.int .i64 0); simpa [Value.cells] using toList_madeCells_one (Value.int .i64 0) n); rw [hz] at hown)
  obtain ⟨g, hg⟩ : ∃ g, g = w.heap.size := ⟨_, rfl⟩
  have HG0 := Lib.hid (show w2.ownsRow w.heap.size 2 1 (.slice (some ⟨g, 0, none⟩) n n) n ((T 0).1.map I64) by rw [HS0.out, hg]; exact hown)
  have HB0 := Lib.hid hb2
  rw [← hg]
  have hgw : w.heap.size ≤ g := by omega
  clear hown hgrow hb2 hz hg
  go_loopw [6, 14] (fun tv kv wr => ∃ k : Nat, kv = .int .i64 k ∧ k ≤ N ∧ tv = .int .i64 (T k).2 ∧ Hid (wr.ownsRow w.heap.size 2 1 (.slice (some ⟨g, 0, none⟩) n n) n ((T k).1.map I64)) ∧ Hid (Below w.heap.size w wr)) (fun _ kv _ => N + 1 - (intOf kv).toNat)
  case atStart => exact ⟨0, rfl, Nat.zero_le _, by rw [HS0.out], HG0, HB0⟩
  case round =>
    obtain ⟨k, rfl, hk, rfl, HG, HB⟩ := hrel
    obtain ⟨wo, rfl⟩ : ∃ wo, wo = wr := ⟨wr, rfl⟩
    by_cases hlt : k < N
    · have hltI : (k : Int) < (N : Int) := by omega
      obtain ⟨ob, oo, rfl, _, co⟩ := (HO.out.up HB.out (Nat.le_refl _)).at (i := k) (by rw [HNO.out]; exact hlt)
      have hor := HOR.out k hlt
      have hS := HS.out k
      obtain ⟨x, hx⟩ : ∃ x, x = os.getD k 0 := ⟨_, rfl⟩
      rw [← hx] at co hor hS
      obtain ⟨y, rfl⟩ : ∃ y : Nat, x = (y : Int) := ⟨x.toNat, by omega⟩
      rw [show ((y : Int)).toNat = y by omega] at hor hS
      have hyn : (y : Int) < (n : Int) := by omega
      obtain ⟨jb, jo, rfl, _, cj, _⟩ := (HR.out.up HB.out (Nat.le_refl _)).at (i := y) (by rw [HN.out]; exact hor.2)
      have hl := HJL.out y
      obtain ⟨l, hl'⟩ : ∃ l, l = (js.getD y J0).long := ⟨_, rfl⟩
      rw [← hl'] at cj hl hS
      have hln := HLN.out k
      have hrg := HRG.out k
      obtain ⟨⟨out, t⟩, hT⟩ : ∃ p, p = T k := ⟨_, rfl⟩
      rw [← hT] at HG hS hln hrg ⊢
      simp only at HG hS hln hrg ⊢
      have g1 : wo.cell? ⟨g, y, none⟩ = some (.int .i64 (out.getD y 0)) := by
        rw [HG.out.cellAt y (by omega), List.getElem?_map, List.getElem?_eq_getElem (by omega), List.getD_eq_getElem?_getD, List.getElem?_eq_getElem (by omega)]
        rfl
      have g2 := HG.out.frozenAt y
      have hadd : IntKind.i64.wrap (t + l) = t + l := IntWalk.i64_in _ (by omega)
      have HSS := Lib.hid hS
      clear hx hl' hT hS hl hrg hor
      go_wp2_with fail
      go_roundw
      case rel => exact ⟨k + 1, by go_num, by omega, by rw [HSS.out], Lib.hid (by rw [HSS.out]; show World.ownsRow _ _ _ _ _ _ ((out.set y (t + l)).map I64); rw [List.map_set]; exact (HG.out.stored y (.int .i64 (t + l))).1), Lib.hid (HB.out.setCell hgw _)⟩
      case measure => simp [intOf]; omega
    · obtain rfl : k = N := by omega
      go_wp2_with fail
      go_ret
      exact ⟨_, rfl, by rw [HE1.out]; exact OwnI.mk (n := n) HG.out, HB.out⟩

end Go.Proofs.Ytfdaifmfecfchaa

namespace Go.Proofs.Ytfdaifmfecfchaa
open Go.RowKit

theorem i64_and1 (n : Int) : bits .and .i64 n 1 = n % 2 := by
  have h1 : (BitVec.ofInt 64 1).toNat = 2 ^ 1 - 1 := by decide
  have key : (BitVec.ofInt 64 n &&& BitVec.ofInt 64 1).toNat = (n % ((2 ^ 64 : Nat) : Int)).toNat % 2 ^ 1 := by
    rw [BitVec.toNat_and, BitVec.toNat_ofInt, h1, Nat.and_two_pow_sub_one_eq_mod]
  show IntKind.i64.wrap ((BitVec.ofInt 64 n &&& BitVec.ofInt 64 1).toNat : Nat) = n % 2
  rw [key, IntKind.wrap_i64]
  omega
theorem shr_nat (n i : Nat) : (n : Int) / 2 ^ i = ((n >>> i : Nat) : Int) := by rw [Nat.shiftRight_eq_div_pow]; push_cast; rfl

def digK (n : Nat) : Nat → List Nat
  | 0 => []
  | i + 1 => if (n >>> i) % 2 = 1 then digK n i ++ [i] else digK n i
/-- The places of the binary digits 1 of a number below 2^20. -/
def digN (n : Nat) : List Nat := digK n 20
theorem digK_stop {n i : Nat} (h : n >>> i = 0) : ∀ j, i ≤ j → digK n j = digK n i
  | 0, hj => by rw [show i = 0 by omega]
  | j + 1, hj => by
    by_cases e : i = j + 1
    · rw [e]
    · have ih := digK_stop h j (by omega)
      show (if (n >>> j) % 2 = 1 then digK n j ++ [j] else digK n j) = _
      have h0 : n >>> j = 0 := by
        rw [Nat.shiftRight_eq_div_pow] at h ⊢
        have hp : 2 ^ i ≤ 2 ^ j := Nat.pow_le_pow_right (by omega) (by omega)
        have hn : n < 2 ^ i := by
          rcases Nat.lt_or_ge n (2 ^ i) with h1 | h1
          · exact h1
          · have := Nat.div_pos h1 (Nat.pow_pos (by omega))
            omega
        exact Nat.div_eq_of_lt (by omega)
      rw [h0, if_neg (by decide), ih]
theorem digK_lt (n : Nat) : ∀ i, ∀ x ∈ digK n i, x < i
  | 0, x, h => by cases h
  | i + 1, x, h => by
    have ih := digK_lt n i
    simp only [digK] at h
    split at h
    · rw [List.mem_append, List.mem_singleton] at h
      rcases h with h | rfl
      · have := ih x h; omega
      · omega
    · have := ih x h; omega

end Go.Proofs.Ytfdaifmfecfchaa

namespace Go.Proofs.Ytfdaifmfecfchaa
open Go.RowKit

set_option maxRecDepth 100000 in
theorem andNot_bit : ∀ a, a < 4096 → ∀ i, i < 12 → (a >>> i) % 2 = 1 → a &&& (18446744073709551615 - 2 ^ i) = a - 2 ^ i := by decide +kernel

theorem i64_andNot_nat (a b : Nat) (ha : a < 4611686018427387904) (hb : b < 4611686018427387904) : bits .andNot .i64 (a : Int) (b : Int) = ((a &&& (18446744073709551615 - b) : Nat) : Int) := by
  have hx : a &&& (18446744073709551615 - b) ≤ a := Nat.and_le_left
  show IntKind.i64.wrap ((BitVec.ofInt 64 (a : Int) &&& ~~~BitVec.ofInt 64 (b : Int)).toNat : Int) = _
  have e1 : (BitVec.ofInt 64 (a : Int)).toNat = a := by rw [BitVec.ofInt_natCast, BitVec.toNat_ofNat]; exact Nat.mod_eq_of_lt (by omega)
  have e2 : (BitVec.ofInt 64 (b : Int)).toNat = b := by rw [BitVec.ofInt_natCast, BitVec.toNat_ofNat]; exact Nat.mod_eq_of_lt (by omega)
  rw [BitVec.toNat_and, BitVec.toNat_not, e1, e2, IntKind.wrap_i64]
  have e : 2 ^ 64 - 1 - b = 18446744073709551615 - b := by omega
  rw [e]
  omega

theorem dig_bit (s : Nat) : ∀ k, ∀ i ∈ digK s k, (s >>> i) % 2 = 1
  | 0, i, h => by cases h
  | k + 1, i, h => by
    have ih := dig_bit s k
    simp only [digK] at h
    split at h
    · rename_i hb
      rw [List.mem_append, List.mem_singleton] at h
      rcases h with h | rfl
      · exact ih i h
      · exact hb
    · exact ih i h
theorem bit_le {s i : Nat} (h : (s >>> i) % 2 = 1) : 2 ^ i ≤ s := by
  rcases Nat.lt_or_ge s (2 ^ i) with c | c
  · rw [Nat.shiftRight_eq_div_pow, Nat.div_eq_of_lt c] at h
    cases h
  · exact c
theorem dig_lt {s n i : Nat} (hs : s < 2 ^ n) (h : i ∈ digN s) : i < n := by
  have h1 := bit_le (dig_bit s _ i h)
  rcases Nat.lt_or_ge i n with c | c
  · exact c
  · have := Nat.pow_le_pow_right (show 0 < 2 by omega) c
    omega
theorem digK_len (s : Nat) : ∀ k, (digK s k).length ≤ k
  | 0 => Nat.le_refl _
  | k + 1 => by
    have ih := digK_len s k
    simp only [digK]
    split
    · rw [List.length_append]; simp; omega
    · omega

/-- How long the first ones of some jobs are together. -/
def endK (js : List JobD) (L : List Nat) : Nat → Int
  | 0 => 0
  | k + 1 => endK js L k + (js.getD (L.getD k 0) J0).long
def costL (js : List JobD) (tab : List (Int × Nat)) (s : Nat) (E : Int) (i : Nat) : Int := (tab.getD (s - 2 ^ i) (0, 0)).1 + (js.getD i J0).weight * max 0 (E - (js.getD i J0).due)
/-- The first one of the cheapest last jobs, among the first ones of some. -/
def lateO (js : List JobD) (tab : List (Int × Nat)) (s : Nat) (L : List Nat) (E : Int) : Nat → Int × Nat
  | 0 => (0, 0)
  | k + 1 => if k = 0 ∨ costL js tab s E (L.getD k 0) < (lateO js tab s L E k).1 then (costL js tab s E (L.getD k 0), L.getD k 0) else lateO js tab s L E k
def lateAt (js : List JobD) (tab : List (Int × Nat)) (s : Nat) : Int × Nat := lateO js tab s (digN s) (endK js (digN s) (digN s).length) (digN s).length
def ltab (js : List JobD) : Nat → List (Int × Nat)
  | 0 => []
  | s + 1 => ltab js s ++ [lateAt js (ltab js s) s]
theorem ltab_len (js : List JobD) : ∀ s, (ltab js s).length = s
  | 0 => rfl
  | s + 1 => by simp [ltab, ltab_len js s]
theorem endK_rng {js : List JobD} (h : ∀ i, 0 ≤ (js.getD i J0).long ∧ (js.getD i J0).long ≤ 1000) (L : List Nat) : ∀ k, 0 ≤ endK js L k ∧ endK js L k ≤ 1000 * k
  | 0 => by simp [endK]
  | k + 1 => by
    have ih := endK_rng h L k
    have := h (L.getD k 0)
    simp only [endK]
    push_cast
    omega
/-- What a job that ends at a time costs. -/
theorem late_rng {js : List JobD} (h : ∀ i, 0 ≤ (js.getD i J0).due ∧ (0 ≤ (js.getD i J0).weight ∧ (js.getD i J0).weight ≤ 1000)) {E : Int} (hE : E ≤ 20000) (i : Nat) : 0 ≤ (js.getD i J0).weight * max 0 (E - (js.getD i J0).due) ∧ (js.getD i J0).weight * max 0 (E - (js.getD i J0).due) ≤ 20000000 := by
  have h1 := h i
  have hm : 0 ≤ max 0 (E - (js.getD i J0).due) ∧ max 0 (E - (js.getD i J0).due) ≤ 20000 := by omega
  constructor
  · exact Int.mul_nonneg h1.2.1 hm.1
  · have := Int.mul_le_mul h1.2.2 hm.2 hm.1 (by decide)
    omega
theorem ltab_rng {js : List JobD} (h1 : ∀ i, 0 ≤ (js.getD i J0).long ∧ (js.getD i J0).long ≤ 1000) (h2 : ∀ i, 0 ≤ (js.getD i J0).due ∧ (0 ≤ (js.getD i J0).weight ∧ (js.getD i J0).weight ≤ 1000)) : ∀ s t, 0 ≤ ((ltab js s).getD t (0, 0)).1 ∧ ((ltab js s).getD t (0, 0)).1 ≤ 20000000 * (t : Int)
  | 0, t => by simp [ltab]; omega
  | s + 1, t => by
    have ih := ltab_rng h1 h2 s
    simp only [ltab]
    rw [List.getD_eq_getElem?_getD]
    rcases Nat.lt_trichotomy t s with c | c | c
    · rw [List.getElem?_append_left (by rw [ltab_len]; exact c), ← List.getD_eq_getElem?_getD]
      exact ih t
    · subst c
      rw [List.getElem?_append_right (by rw [ltab_len]; exact Nat.le_refl _), ltab_len, Nat.sub_self]
      simp only [List.getElem?_cons_zero, Option.getD_some]
      have hE : endK js (digN t) (digN t).length ≤ 20000 := by
        have := (endK_rng h1 (digN t) (digN t).length).2
        have := digK_len t 20
        unfold digN at *
        omega
      have key : ∀ k, k ≤ (digN t).length → 0 ≤ (lateO js (ltab js t) t (digN t) (endK js (digN t) (digN t).length) k).1 ∧ (lateO js (ltab js t) t (digN t) (endK js (digN t) (digN t).length) k).1 ≤ 20000000 * (t : Int) := by
        intro k
        induction k with
        | zero => intro _; simp [lateO]; omega
        | succ k ihk =>
          intro hk
          have a := ihk (by omega)
          have hm : (digN t).getD k 0 ∈ digN t := by
            rw [List.getD_eq_getElem?_getD, List.getElem?_eq_getElem (by omega)]
            exact List.getElem_mem _
          have hb := bit_le (dig_bit t _ _ hm)
          have hp : 0 < 2 ^ (digN t).getD k 0 := Nat.pow_pos (by omega)
          have b := ih (t - 2 ^ (digN t).getD k 0)
          have d := late_rng h2 hE ((digN t).getD k 0)
          simp only [lateO]
          split
          · unfold costL
            omega
          · exact a
      exact key _ (Nat.le_refl _)
    · rw [List.getElem?_eq_none (by rw [List.length_append, ltab_len]; simp; omega)]
      simp
      omega

/-! ### the order out of the table -/
theorem digK_nil (s : Nat) : ∀ k, digK s k = [] → s % 2 ^ k = 0
  | 0, _ => by simp [Nat.mod_one]
  | k + 1, h => by
    simp only [digK] at h
    split at h
    · simp at h
    · rename_i hb
      have ih := digK_nil s k h
      rw [Nat.shiftRight_eq_div_pow] at hb
      have h2 : s / 2 ^ k % 2 = 0 := by omega
      rw [Nat.mod_pow_succ, ih, h2, Nat.mul_zero]
theorem digN_ne {s : Nat} (h0 : 1 ≤ s) (h : s < 1048576) : digN s ≠ [] := fun e => by
  have := digK_nil s 20 e
  omega
theorem lateO_mem {js : List JobD} {tab : List (Int × Nat)} {s : Nat} {L : List Nat} {E : Int} : ∀ k, 1 ≤ k → k ≤ L.length → (lateO js tab s L E k).2 ∈ L
  | 0, h, _ => by omega
  | k + 1, _, h => by
    have hm : L.getD k 0 ∈ L := by
      rw [List.getD_eq_getElem?_getD, List.getElem?_eq_getElem (by omega)]
      exact List.getElem_mem _
    simp only [lateO]
    split
    · exact hm
    · rename_i hc
      exact lateO_mem k (by omega) (by omega)
theorem ltab_last (js : List JobD) {s : Nat} (h0 : 1 ≤ s) (h1 : s < 1048576) : ∀ t, s < t → ((ltab js t).getD s (0, 0)).2 ∈ digN s
  | 0, h => by omega
  | t + 1, h => by
    simp only [ltab]
    rw [List.getD_eq_getElem?_getD]
    by_cases e : s = t
    · subst e
      rw [List.getElem?_append_right (by rw [ltab_len]; exact Nat.le_refl _), ltab_len, Nat.sub_self]
      simp only [List.getElem?_cons_zero, Option.getD_some]
      unfold lateAt
      refine lateO_mem _ ?_ (Nat.le_refl _)
      rcases Nat.eq_zero_or_pos (digN s).length with c | c
      · exact absurd (List.length_eq_zero_iff.1 c) (digN_ne h0 h1)
      · exact c
    · rw [List.getElem?_append_left (by rw [ltab_len]; omega), ← List.getD_eq_getElem?_getD]
      exact ltab_last js h0 h1 t (by omega)
/-- The last jobs, backwards, of a set. -/
def backK (tab : List (Int × Nat)) : Nat → Nat → List Nat
  | 0, _ => []
  | f + 1, s => if s = 0 then [] else (tab.getD s (0, 0)).2 :: backK tab f (s - 2 ^ (tab.getD s (0, 0)).2)
theorem backK_zero (tab : List (Int × Nat)) : ∀ f, backK tab f 0 = []
  | 0 => rfl
  | f + 1 => by simp [backK]
def ordLate (js : List JobD) : List Nat := (backK (ltab js (2 ^ js.length)) (2 ^ js.length - 1) (2 ^ js.length - 1)).reverse
def lateL (js : List JobD) : List Int := if areJobsB js = true then idxs (ordLate js) else []
def lateN (js : List JobD) : Int := if areJobsB js = true then ((ltab js (2 ^ js.length)).getD (2 ^ js.length - 1) (0, 0)).1 else 0

end Go.Proofs.Ytfdaifmfecfchaa

namespace Go.Proofs.Ytfdaifmfecfchaa
open Go.RowKit

set_option maxHeartbeats 1000000 in
theorem digI_any (n : Nat) (hn : n < 1048576) (w : World) :
    Calls Try.prog 48 #[.int .i64 n] w fun e w' => ∃ u, e = .returned u ∧ OwnI w.heap.size w'.heap.size w' u (idxs (digN n)) ∧ Below w.heap.size w w' := by
  go_enter Try.func48, Try.ntmps48
  go_wp2_with fail
  go_loopw [3, 4] (fun ov iv wr => ∃ (i : Nat) (g : Option Addr) (c : Nat), iv = .int .i64 i ∧ i ≤ 20 ∧ ov = .slice g (digK n i).length c ∧ Hid (wr.ownsRow w.heap.size 2 1 (.slice g (digK n i).length c) (digK n i).length ((idxs (digK n i)).map I64)) ∧ Hid (Below w.heap.size w wr)) (fun _ iv _ => 21 - (intOf iv).toNat)
  case atStart => exact ⟨0, none, 0, rfl, by omega, rfl, Lib.hid (World.ownsRow_nil _ _ _ _), Lib.hid (Below.refl _ _)⟩
  case round =>
    obtain ⟨i, g, c, rfl, hi, rfl, HO, HB⟩ := hrel
    obtain ⟨wo, rfl⟩ : ∃ wo, wo = wr := ⟨wr, rfl⟩
    have hsh := shr_nat n i
    have hst : n >>> i = 0 → digN n = digK n i := fun h => digK_stop h 20 hi
    have hi20 : n >>> i ≠ 0 → i < 20 := fun h => by
      rcases Nat.lt_or_ge i 20 with h1 | h1
      · exact h1
      · obtain rfl : i = 20 := by omega
        exact absurd (by rw [Nat.shiftRight_eq_div_pow]; exact Nat.div_eq_of_lt (by omega)) h
    have hnx : digK n (i + 1) = if (n >>> i) % 2 = 1 then digK n i ++ [i] else digK n i := rfl
    obtain ⟨s, hs⟩ : ∃ s, s = n >>> i := ⟨_, rfl⟩
    rw [← hs] at hsh hst hi20 hnx
    have hb := i64_and1 (s : Int)
    obtain ⟨L, hL⟩ : ∃ L, L = digK n i := ⟨_, rfl⟩
    rw [← hL] at HO hst hnx ⊢
    have HST := Lib.hid hst
    have HNX := Lib.hid hnx
    have hLl : L.length ≤ 20 := by
      have : (digK n i).length ≤ i := by
        have : ∀ k, (digK n k).length ≤ k := fun k => by
          induction k with
          | zero => exact Nat.le_refl _
          | succ k ih =>
            simp only [digK]
            split
            · rw [List.length_append]; simp; omega
            · omega
        exact this i
      rw [hL]; omega
    have hzo := HB.out.size
    clear hs hL hst hnx
    by_cases h0 : s = 0
    · have hs0 : ¬ (0 : Int) < (s : Int) := by omega
      have HE := Lib.hid (HST.out h0)
      clear h0 hb
      go_wp2_with fail
      go_ret
      exact ⟨_, rfl, by rw [HE.out]; exact OwnI.mk HO.out, HB.out⟩
    · have hs0 : (0 : Int) < (s : Int) := by omega
      have hi2 := hi20 h0
      clear h0 hi20
      by_cases h1 : s % 2 = 1
      · have hb1 : bits .and .i64 (s : Int) 1 = 1 := by rw [hb]; omega
        have HN := Lib.hid (show digK n (i + 1) = L ++ [i] by rw [HNX.out, if_pos h1])
        clear hb h1
        go_wp2_with (at_builtin; refine app_ints rfl _ _ rfl w.heap.size (.slice g L.length c) L.length (idxs L) rfl (HO.out.alloc _) _ [(i : Int)] rfl (slc_one _ _) (L.length + 1) (idxs (L ++ [i])) (by simp) (by unfold idxs; rw [List.map_append]; rfl) (by omega) (by simp; omega) ?_; intro b2 cap2 w3 hown2 hbl2 _ _)
        go_roundw
        case rel => exact ⟨i + 1, b2, cap2, by go_num, by omega, by rw [HN.out]; simp, Lib.hid (by rw [HN.out, List.length_append]; exact hown2), Lib.hid (HB.out.trans (((Below.refl _ _).alloc hzo _).trans hbl2))⟩
        case measure => simp [intOf]; omega
      · have hb1 : bits .and .i64 (s : Int) 1 = 0 := by rw [hb]; omega
        have HN := Lib.hid (show digK n (i + 1) = L by rw [HNX.out, if_neg h1])
        clear hb h1
        go_wp2_with fail
        go_roundw
        case rel => exact ⟨i + 1, g, c, by go_num, by omega, by rw [HN.out], Lib.hid (by rw [HN.out]; exact HO.out), HB⟩
        case measure => simp [intOf]; omega

end Go.Proofs.Ytfdaifmfecfchaa

namespace Go.Proofs.Ytfdaifmfecfchaa
open Go.RowKit

/-- A list whose first and last k have changed places. -/
def revK (l : List Int) (k : Nat) : List Int := (List.range l.length).map fun x => if x < k ∨ l.length - k ≤ x then l.getD (l.length - 1 - x) 0 else l.getD x 0
theorem revK_len (l : List Int) (k : Nat) : (revK l k).length = l.length := by unfold revK; simp
theorem revK_at (l : List Int) (k x : Nat) (hx : x < l.length) : (revK l k)[x]? = some (if x < k ∨ l.length - k ≤ x then l.getD (l.length - 1 - x) 0 else l.getD x 0) := by
  unfold revK
  rw [List.getElem?_map, List.getElem?_range hx]
  rfl
theorem revK_zero (l : List Int) : revK l 0 = l := by
  refine List.ext_getElem? fun x => ?_
  by_cases hx : x < l.length
  · rw [revK_at l 0 x hx, if_neg (by omega), List.getD_eq_getElem?_getD, List.getElem?_eq_getElem hx]
    rfl
  · rw [List.getElem?_eq_none (by rw [revK_len]; omega), List.getElem?_eq_none (by omega)]
theorem revK_end (l : List Int) (k : Nat) (hk : l.length ≤ 2 * k + 1) : revK l k = l.reverse := by
  refine List.ext_getElem? fun x => ?_
  by_cases hx : x < l.length
  · rw [revK_at l k x hx, List.getElem?_reverse hx, List.getElem?_eq_getElem (by omega)]
    by_cases c : x < k ∨ l.length - k ≤ x
    · rw [if_pos c, List.getD_eq_getElem?_getD, List.getElem?_eq_getElem (by omega)]
      rfl
    · rw [if_neg c, List.getD_eq_getElem?_getD]
      have e : l.length - 1 - x = x := by omega
      simp only [e]
      rw [List.getElem?_eq_getElem hx]
      rfl
  · rw [List.getElem?_eq_none (by rw [revK_len]; omega), List.getElem?_eq_none (by rw [List.length_reverse]; omega)]
theorem revK_next (l : List Int) (k : Nat) (hk : 2 * k + 1 < l.length) : revK l (k + 1) = ((revK l k).set k (l.getD (l.length - 1 - k) 0)).set (l.length - 1 - k) (l.getD k 0) := by
  refine List.ext_getElem? fun x => ?_
  by_cases hx : x < l.length
  · rw [revK_at l (k + 1) x hx, List.getElem?_set, List.getElem?_set, List.length_set, revK_len, revK_at l k x hx]
    by_cases e1 : l.length - 1 - k = x
    · rw [if_pos e1, if_pos (by omega), if_pos (by omega)]
      have : l.length - 1 - x = k := by omega
      rw [this]
    · rw [if_neg e1]
      by_cases e2 : k = x
      · rw [if_pos e2, if_pos (by omega), if_pos (by omega), e2]
      · rw [if_neg e2]
        by_cases c : x < k ∨ l.length - k ≤ x
        · rw [if_pos c, if_pos (by omega)]
        · rw [if_neg c, if_neg (by omega)]
  · rw [List.getElem?_eq_none (by rw [revK_len]; omega), List.getElem?_eq_none (by rw [List.length_set, List.length_set, revK_len]; omega)]

set_option maxHeartbeats 2000000 in
set_option maxRecDepth 4000 in
theorem rev_any (base g n cap : Nat) (l : List Int) (w : World) (hl : l.length = n) (hn : n ≤ 1000000) (h : w.ownsRow base 2 1 (.slice (some ⟨g, 0, none⟩) n cap) n (l.map I64)) :
    Calls Try.prog 49 #[.slice (some ⟨g, 0, none⟩) n cap] w fun e w' => e = .returned (.tuple #[]) ∧ w'.ownsRow base 2 1 (.slice (some ⟨g, 0, none⟩) n cap) n (l.reverse.map I64) ∧ Kept (· = g) w w' := by
  have HO := Lib.hid h
  have HL := Lib.hid hl
  have hwr : IntKind.i64.wrap ((n : Int) - 1) = (n : Int) - 1 := IntWalk.i64_in _ (by omega)
  clear h hl
  go_enter Try.func49, Try.ntmps49
  go_wp2_with fail
  clear hwr
  go_loopw [2, 3] (fun iv jv wr => ∃ k : Nat, iv = .int .i64 k ∧ k ≤ n ∧ jv = .int .i64 ((n : Int) - 1 - k) ∧ Hid (wr.ownsRow base 2 1 (.slice (some ⟨g, 0, none⟩) n cap) n ((revK l k).map I64)) ∧ Hid (Kept (· = g) w wr)) (fun iv _ _ => n + 1 - (intOf iv).toNat)
  case atStart => exact ⟨0, rfl, Nat.zero_le _, by simp, Lib.hid (by rw [revK_zero]; exact HO.out), Lib.hid (Kept.refl _ _)⟩
  case round =>
    obtain ⟨k, rfl, hk, rfl, HO, HK⟩ := hrel
    obtain ⟨wo, rfl⟩ : ∃ wo, wo = wr := ⟨wr, rfl⟩
    by_cases hlt : 2 * k + 1 < n
    · obtain ⟨m, hm⟩ : ∃ m, m = n - 1 - k := ⟨_, rfl⟩
      have hmi : (n : Int) - 1 - k = (m : Int) := by omega
      have hkm : k < m := by omega
      have hkmI : (k : Int) < (m : Int) := by omega
      have hknI : (k : Int) < (n : Int) := by omega
      have hmnI : (m : Int) < (n : Int) := by omega
      have hne1 : ¬ k = m := by omega
      have hne2 : ¬ m = k := by omega
      have hadd : IntKind.i64.wrap ((k : Int) + 1) = (k : Int) + 1 := IntWalk.i64_in _ (by omega)
      have hsub : IntKind.i64.wrap ((m : Int) - 1) = (m : Int) - 1 := IntWalk.i64_in _ (by omega)
      have c1 : wo.cell? ⟨g, k, none⟩ = some (.int .i64 (l.getD k 0)) := by
        rw [HO.out.cellAt k (by omega), List.getElem?_map, revK_at l k k (by rw [HL.out]; omega), if_neg (by rw [HL.out]; omega)]
        rfl
      have c2 : wo.cell? ⟨g, m, none⟩ = some (.int .i64 (l.getD m 0)) := by
        rw [HO.out.cellAt m (by omega), List.getElem?_map, revK_at l k m (by rw [HL.out]; omega), if_neg (by rw [HL.out]; omega)]
        rfl
      have f1 := HO.out.frozenAt k
      have f2 := HO.out.frozenAt m
      have HNX := Lib.hid (show revK l (k + 1) = ((revK l k).set k (l.getD m 0)).set m (l.getD k 0) by rw [revK_next l k (by rw [HL.out]; exact hlt), HL.out, hm])
      have HM := Lib.hid (show (n : Int) - 1 - ((k + 1 : Nat) : Int) = (m : Int) - 1 by omega)
      obtain ⟨x, hx⟩ : ∃ x, x = l.getD k 0 := ⟨_, rfl⟩
      obtain ⟨y, hy⟩ : ∃ x, x = l.getD m 0 := ⟨_, rfl⟩
      rw [← hx] at c1 HNX
      rw [← hy] at c2 HNX
      rw [hmi]
      have HS1 := Lib.hid (show ((wo.drew.setCell ⟨g, k, none⟩ (.int .i64 y)).setCell ⟨g, m, none⟩ (.int .i64 x)).ownsRow base 2 1 (.slice (some ⟨g, 0, none⟩) n cap) n ((revK l (k + 1)).map I64) by
        rw [HNX.out, List.map_set, List.map_set]
        exact (((owns_drew HO.out).stored k (.int .i64 y)).1.stored m (.int .i64 x)).1)
      have HS2 := Lib.hid (show Kept (· = g) w ((wo.drew.setCell ⟨g, k, none⟩ (.int .i64 y)).setCell ⟨g, m, none⟩ (.int .i64 x)) from (HK.out.drew.setCell (.inr rfl) _).setCell (.inr rfl) _)
      clear hx hy hm hmi
      go_wp2_with fail
      go_region_law (fail)
      all_goals
        go_wp2_with fail
        go_roundw
        case rel => exact ⟨k + 1, by go_num, by omega, by rw [HM.out], HS1, HS2⟩
        case measure => simp [intOf]; omega
    · have hge : ¬ (k : Int) < (n : Int) - 1 - k := by omega
      have HE := Lib.hid (revK_end l k (by rw [HL.out]; omega))
      go_wp2_with fail
      go_end0
      exact ⟨rfl, by first | (rw [← HE.out]; exact HO.out) | (rw [← List.map_reverse, ← HE.out]; exact HO.out), HK.out⟩

end Go.Proofs.Ytfdaifmfecfchaa
