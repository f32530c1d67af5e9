/-
  FnRules: texts joined: SmithM, SmithI, ListM, Make, ListI, FrcI.
-/
import Derived.Deep.RegionLaw
import Derived.Lib.MinMax
import Derived.BigQuiet
import Derived.Test.YtfdaifmfecfchaaMFnRulesAC
import Derived.Test.YtfdaifmfecfchaaMFnRulesAF
import Derived.Test.YtfdaifmfecfchaaMFnRulesAK
namespace Go.Proofs.Ytfdaifmfecfchaa
open Go.RowKit Go.Sort

def longJ (js : List JobD) (x : Nat) : Int := (js.getD (x % js.length) J0).long
def wgtJ (js : List JobD) (x : Nat) : Int := (js.getD (x % js.length) J0).weight
def smithC (js : List JobD) (x y : Nat) : Int := cmpI (wgtJ js y * longJ js x) (wgtJ js x * longJ js y)
theorem cmpI_neg (x y : Int) : decide (cmpI x y < 0) = decide (x < y) := by
  unfold cmpI
  by_cases h1 : x < y
  · simp [h1]
  · by_cases h2 : y < x <;> simp [h1, h2]
theorem ltOf_cmp (f g : Nat → Nat → Int) : ltOf (fun x y => cmpI (f x y) (g x y)) = fun x y => decide (f x y < g x y) := by
  funext x y
  exact cmpI_neg _ _
theorem smith_lt {js : List JobD} (h : areJobsB js = true) (x : Nat) : 1 ≤ longJ js x ∧ longJ js x ≤ 1000 ∧ 0 ≤ wgtJ js x ∧ wgtJ js x ≤ 1000 := by
  obtain ⟨h1, _, h3⟩ := jobs_all h
  have := h3 (x % js.length) (Nat.mod_lt _ (by omega))
  unfold longJ wgtJ
  omega
theorem swo_smith {js : List JobD} (h : areJobsB js = true) : SWO (ltOf (smithC js)) := by
  have e : ltOf (smithC js) = fun x y => decide (wgtJ js y * longJ js x < wgtJ js x * longJ js y) := ltOf_cmp (fun x y => wgtJ js y * longJ js x) (fun x y => wgtJ js x * longJ js y)
  rw [e]
  refine ⟨fun x => by simp, fun x y z h1 h2 => ?_, fun x y z h1 h2 => ?_⟩
  · simp only [decide_eq_true_eq] at h1 h2 ⊢
    have lx := (smith_lt h x).1
    have ly := (smith_lt h y).1
    have lz := (smith_lt h z).1
    have a := Int.mul_lt_mul_of_pos_right h1 (show 0 < longJ js z by omega)
    have b := Int.mul_lt_mul_of_pos_right h2 (show 0 < longJ js x by omega)
    have c : wgtJ js z * longJ js x * longJ js y < wgtJ js x * longJ js z * longJ js y := by
      rw [Int.mul_right_comm (wgtJ js z), Int.mul_right_comm (wgtJ js x)]
      rw [Int.mul_right_comm (wgtJ js y)] at a
      exact Int.lt_trans b a
    exact Int.lt_of_mul_lt_mul_right c (by omega)
  · simp only [decide_eq_false_iff_not, Int.not_lt] at h1 h2 ⊢
    have lx := (smith_lt h x).1
    have ly := (smith_lt h y).1
    have lz := (smith_lt h z).1
    have a := Int.mul_le_mul_of_nonneg_right h1 (show 0 ≤ longJ js z by omega)
    have b := Int.mul_le_mul_of_nonneg_right h2 (show 0 ≤ longJ js x by omega)
    have c : wgtJ js x * longJ js z * longJ js y ≤ wgtJ js z * longJ js x * longJ js y := by
      rw [Int.mul_right_comm (wgtJ js z), Int.mul_right_comm (wgtJ js x)]
      rw [Int.mul_right_comm (wgtJ js y)] at a
      exact Int.le_trans a b
    exact Int.le_of_mul_le_mul_right c (by omega)

end Go.Proofs.Ytfdaifmfecfchaa

namespace Go.Proofs.Ytfdaifmfecfchaa
open Go.RowKit Go.Sort

theorem Try.entersSmith (args : Array Value) (w : World) : (callFunc 43 args).run Try.prog w = .ok (.enter 43 args) w :=
  enters_of Try.func43 (by kernel_rfl) rfl args w

theorem smithCmp_any (i j : Nat) (bx b off n c : Nat) (lx ly gx gy : Int) (w : World) (hi : i < n) (hj : j < n) (hn : n ≤ 1000) (hbox : w.cell? ⟨bx, 0, none⟩ = some (.slice (some ⟨b, off, none⟩) n c))
    (d1 : w.cell? ⟨b, off + i * 4, none⟩ = some (.int .i64 lx)) (d2 : w.cell? ⟨b, off + j * 4, none⟩ = some (.int .i64 ly)) (d3 : w.cell? ⟨b, off + i * 4 + 2, none⟩ = some (.int .i64 gx)) (d4 : w.cell? ⟨b, off + j * 4 + 2, none⟩ = some (.int .i64 gy))
    (h1 : IntKind.i64.wrap (gy * lx) = gy * lx) (h2 : IntKind.i64.wrap (gx * ly) = gx * ly) :
    Calls Try.prog 43 #[.int .i64 i, .int .i64 j, .pointer (some ⟨bx, 0, none⟩)] w fun e w' => e = .returned (.int .i64 (cmpI (gy * lx) (gx * ly))) ∧ ∃ q, w' = w.drewN q := by
  have hi' : (i : Int) < n := by omega
  have hj' : (j : Int) < n := by omega
  go_enter Try.func43, Try.ntmps43
  go_wp2_with fail
  go_quiet ((go_at_call 44; exact quiet_same (cmp64_any _ _ _)))
  go_wp2_with fail
  go_ret
  exact ⟨rfl, _, rfl⟩

theorem wrap_small {x y : Int} (hx : 0 ≤ x ∧ x ≤ 100000) (hy : 0 ≤ y ∧ y ≤ 100000) : IntKind.i64.wrap (x * y) = x * y := by
  refine IntWalk.i64_in _ ?_
  have h1 : 0 ≤ x * y := Int.mul_nonneg hx.1 hy.1
  have h2 : x * y ≤ 100000 * 100000 := Int.mul_le_mul hx.2 hy.2 hy.1 (by decide)
  omega

theorem smithReads {js : List JobD} (hok : areJobsB js = true) (v : Value) (bx g : Nat) (w : World) (h : RdJ w v js) (hb : w.cell? ⟨bx, 0, none⟩ = some v) (hbx : bx < w.heap.size) (hbg : bx ≠ g) (hg : ∀ a, v.ownBlock = some a → a ≠ g) :
    CmpReads Try.prog 43 #[.pointer (some ⟨bx, 0, none⟩)] (encN js.length) (smithC js) g 0 js.length w := by
  intro m os dk hs x y
  obtain ⟨hn, hn2, _⟩ := jobs_all hok
  obtain ⟨a, c, rfl⟩ := h.shape
  have hx := Nat.mod_lt x (show 0 < js.length by omega)
  have hy := Nat.mod_lt y (show 0 < js.length by omega)
  obtain ⟨b, off, rfl, hbl, d1, _, d3, _⟩ := h.at hx
  obtain ⟨b', off', e, _, d2, _, d4, _⟩ := h.at hy
  simp only [Option.some.injEq, Addr.mk.injEq] at e
  obtain ⟨rfl, rfl, _⟩ := e
  have hgb : b ≠ g := hg b rfl
  have up : ∀ p : Addr, p.block < w.heap.size → p.block ≠ g → (sortWorld (encN js.length) w g 0 m dk os).cell? p = w.cell? p := by
    intro p h1 h2
    unfold sortWorld
    rw [cell?_grow _ _ _ (by simpa [putRow, mapBlock, Sort.ahead] using h1), cell?_putRow_other _ _ _ _ _ _ (.inl h2)]
    rfl
  have sx := smith_lt hok x
  have sy := smith_lt hok y
  exact smithCmp_any _ _ bx b off js.length c (longJ js x) (longJ js y) (wgtJ js x) (wgtJ js y) _ hx hy (by omega) ((up _ hbx hbg).trans hb) ((up _ hbl hgb).trans d1) ((up _ hbl hgb).trans d2) ((up _ hbl hgb).trans d3) ((up _ hbl hgb).trans d4) (wrap_small (by omega) (by omega)) (wrap_small (by omega) (by omega))

def smithL (js : List JobD) : List Int := if areJobsB js = true then idxs (ordC (smithC js) js.length) else []

set_option maxHeartbeats 2000000 in
theorem smithI_any (v : Value) (js : List JobD) (w : World) (h : RdJ w v js) :
    Calls Try.prog 14 #[v] w fun e w' => ∃ u, e = .returned (.tuple #[u, .bool (areJobsB js)]) ∧ OwnI w.heap.size w'.heap.size w' u (smithL js) ∧ Below w.heap.size w w' := by
  obtain ⟨q, hq⟩ : ∃ q, areJobsB js = q := ⟨_, rfl⟩
  have HQ := Lib.hid hq
  obtain ⟨va, vc, rfl⟩ := h.shape
  have HR := Lib.hid h
  have HA := Lib.hid (fun X (hb : Below w.heap.size w X) => AreJobs_any _ js X (h.up hb (Nat.le_refl _)))
  rw [hq] at HA ⊢
  clear hq h
  cases q
  · go_enter Try.func14, Try.ntmps14
    go_upto_region 1 with fail
    refine wp_at fun W0 hW0 => ?_
    have HB0 := Lib.hid (show Below w.heap.size w W0 by subst hW0; (repeat' first | exact Below.refl _ _ | assumption | refine Below.alloc ?_ ?_ _ | refine Below.setCell ?_ ?_ _ | refine Below.drew ?_ | (simp; done) | (simp; omega)))
    have HK0 := Lib.hid (show Box W0 w.heap.size 25 (.slice va js.length vc) by subst hW0; exact Box.new _ _ _)
    have hz0 := HB0.out.size
    clear hW0
    have d0 := HK0.out.cell
    go_wp2_with (go_at_call 41; refine (HA.out W0 HB0.out).mono ?_; rintro e w0 ⟨rfl, hb0⟩)
    go_ret2
    exact ⟨_, rfl, by rw [show smithL js = [] by unfold smithL; rw [HQ.out]; rfl]; exact ⟨World.ownsRow_nil _ _ _ _, by intro g hg; cases hg⟩, HB0.out.trans (hb0.mono hz0)⟩
  · obtain ⟨hn, hn2, _⟩ := jobs_all HQ.out
    have hown : ∀ a, (Value.slice va js.length vc).ownBlock = some a → a < w.heap.size := fun a ha => by
      obtain ⟨b, off, rfl, hb, _⟩ := HR.out.at (i := 0) (by omega)
      have : b = a := Option.some.inj ha
      omega
    have HOB := Lib.hid hown
    have HOD := Lib.hid (fun X (hb : Below w.heap.size w X) (hk : Box X w.heap.size 25 (.slice va js.length vc)) (hz : w.heap.size < X.heap.size) => orderByC_any 43 #[.pointer (some ⟨w.heap.size, 0, none⟩)] Try.entersSmith (smithC js) (swo_smith HQ.out) js.length hn hn2 X (fun w0 g hb0 hg => smithReads HQ.out _ w.heap.size g w0 ((HR.out.up hb (Nat.le_refl _)).up hb0 (Nat.le_refl _)) (hk.below hb0 hz).cell (Nat.lt_of_lt_of_le hz hb0.size) (by omega) (fun a ha => by have := HOB.out a ha; omega)))
    clear hown
    go_enter Try.func14, Try.ntmps14
    go_upto_region 1 with fail
    refine wp_at fun W0 hW0 => ?_
    have HB0 := Lib.hid (show Below w.heap.size w W0 by subst hW0; (repeat' first | exact Below.refl _ _ | assumption | refine Below.alloc ?_ ?_ _ | refine Below.setCell ?_ ?_ _ | refine Below.drew ?_ | (simp; done) | (simp; omega)))
    have HK0 := Lib.hid (show Box W0 w.heap.size 25 (.slice va js.length vc) by subst hW0; exact Box.new _ _ _)
    have hz0 := HB0.out.size
    have hk0 := HK0.out.lt
    clear hW0
    have d0 := HK0.out.cell
    go_upto_region 3 with (go_at_call 41; refine (HA.out W0 HB0.out).mono ?_; rintro e w0 ⟨rfl, hb0⟩; have HB1 := Lib.hid (HB0.out.trans (hb0.mono hz0)); have HK1 := Lib.hid (HK0.out.below hb0 hk0))
    have hz1 := HB1.out.size
    clear d0
    have d0 := HK1.out.cell
    go_wp2_with (go_at_call 42; refine (HOD.out w0 HB1.out HK1.out HK1.out.lt).mono ?_; rintro e w1 ⟨u, rfl, ho, hb1⟩)
    go_ret2
    exact ⟨_, rfl, by rw [show smithL js = idxs (ordC (smithC js) js.length) by unfold smithL; rw [HQ.out]; rfl]; exact ho.wide hz1 (Nat.le_refl _), HB1.out.trans (hb1.mono hz1)⟩

end Go.Proofs.Ytfdaifmfecfchaa

namespace Go.Proofs.Ytfdaifmfecfchaa
open Go.RowKit Go.Sort

/-- The first one of the least among the first ones. -/
def minK (l : List Int) : Nat → Nat
  | 0 => 0
  | k + 1 => if l.getD k 0 < l.getD (minK l k) 0 then k else minK l k
theorem minK_lt (l : List Int) : ∀ k, minK l (k + 1) ≤ k
  | 0 => by
    show (if l.getD 0 0 < l.getD 0 0 then 0 else 0) ≤ 0
    simp
  | k + 1 => by
    have ih := minK_lt l k
    show (if l.getD (k + 1) 0 < l.getD (minK l (k + 1)) 0 then k + 1 else minK l (k + 1)) ≤ k + 1
    split <;> omega
theorem minK_le (l : List Int) (m k : Nat) (hm : 0 < m) (hk : k ≤ m) : minK l k < m := by
  cases k with
  | zero => exact hm
  | succ k => have := minK_lt l k; omega
def maxK (l : List Int) : Nat → Int
  | 0 => l.getD 0 0
  | k + 1 => max (maxK l k) (l.getD (k + 1) 0)
def maxL (l : List Int) : Int := maxK l (l.length - 1)
/-- What machines the first jobs of an order have, and how long each machine is used. -/
def listK (js : List JobD) (os : List Int) (m : Nat) : Nat → List Int × List Int
  | 0 => (List.replicate js.length 0, List.replicate m 0)
  | k + 1 => ((listK js os m k).1.set (os.getD k 0).toNat (minK (listK js os m k).2 m : Nat),
      (listK js os m k).2.set (minK (listK js os m k).2 m) ((listK js os m k).2.getD (minK (listK js os m k).2 m) 0 + (js.getD (os.getD k 0).toNat J0).long))
def listO (js : List JobD) (os : List Int) (m : Nat) : List Int := (listK js os m os.length).1
def listE (js : List JobD) (os : List Int) (m : Nat) : Int := maxL (listK js os m os.length).2
theorem listK_len (js : List JobD) (os : List Int) (m : Nat) : ∀ k, (listK js os m k).1.length = js.length ∧ (listK js os m k).2.length = m
  | 0 => by simp [listK]
  | k + 1 => by
    have ih := listK_len js os m k
    simp only [listK, List.length_set]
    exact ih
theorem listK_rng {js : List JobD} (h : ∀ i, i < js.length → (js.getD i J0).long ≤ 1000 ∧ 0 ≤ (js.getD i J0).long) {os : List Int} (ho : ∀ k, k < os.length → (os.getD k 0).toNat < js.length) (m : Nat) : ∀ k, k ≤ os.length → ∀ f, 0 ≤ (listK js os m k).2.getD f 0 ∧ (listK js os m k).2.getD f 0 ≤ 1000 * k
  | 0, _, f => by
    simp only [listK, List.getD_eq_getElem?_getD, List.getElem?_replicate]
    split <;> simp
  | k + 1, hk, f => by
    have ih := listK_rng h ho m k (by omega)
    have hj := h _ (ho k (by omega))
    simp only [listK]
    rw [List.getD_eq_getElem?_getD, List.getElem?_set]
    have a := ih (minK (listK js os m k).2 m)
    have b := ih f
    rw [List.getD_eq_getElem?_getD] at b
    by_cases e : minK (listK js os m k).2 m = f
    · by_cases e2 : minK (listK js os m k).2 m < (listK js os m k).2.length
      · rw [if_pos e, if_pos e2]
        simp only [Option.getD_some]
        push_cast
        omega
      · rw [if_pos e, if_neg e2]
        show (0 : Int) ≤ 0 ∧ (0 : Int) ≤ 1000 * ((k + 1 : Nat) : Int)
        omega
    · rw [if_neg e]
      push_cast
      omega

end Go.Proofs.Ytfdaifmfecfchaa

namespace Go.Proofs.Ytfdaifmfecfchaa
open Go.RowKit

def zerosA (n : Nat) : Array Value := madeCells (Value.int .i64 0).cells n
theorem zerosA_list (n : Nat) : (zerosA n).toList = (List.replicate n (0 : Int)).map I64 := by
  unfold zerosA
  rw [show (Value.int .i64 0).cells = #[Value.int .i64 0] from rfl, toList_madeCells_one, List.map_replicate]
  rfl
theorem run_make_ints (n : Nat) (hn : n ≤ 100000) (W : World) : (Instr.makeSlice 27 (.int .i64 n) (.int .i64 n)).run Try.prog W = .ok (.slice (some ⟨W.heap.size, 0, none⟩) n n) (W.alloc (.cells (zerosA n) 2)) := by
  obtain ⟨i0, hi, hz0, hz1, hz2⟩ := info_parts Try.infoI64
  have h := run_makeSlice (P := Try.prog) W 27 2 i0 (.int .i64 0) Try.underlying27 hi hz0 .i64 .i64 n n (by omega) (Int.le_refl _) (by rw [hz1]; omega) (by rw [hz2]; omega) (by omega)
  rw [h, hz1]
  simp [zerosA]
theorem owns_zerosI (n : Nat) (hn : n ≤ 100000) (W : World) (b : Nat) (hb : b = W.heap.size) : (W.alloc (.cells (zerosA n) 2)).ownsRow W.heap.size 2 1 (.slice (some ⟨b, 0, none⟩) n n) n ((List.replicate n (0 : Int)).map I64) := by
  subst hb
  rw [← zerosA_list]
  have hs : (zerosA n).size = n := by rw [← Array.length_toList, zerosA_list]; simp
  exact World.ownsRow_lit (base := W.heap.size) (e := 2) (size := 1) W (zerosA n) n (Nat.le_refl _) (by simp [maxLen]; omega) (by rw [hs]; omega)

end Go.Proofs.Ytfdaifmfecfchaa

namespace Go.Proofs.Ytfdaifmfecfchaa
open Go.RowKit Go.Sort

set_option maxHeartbeats 1000000 in
theorem maxI_any (v : Value) (l : List Int) (w : World) (h : RdI w v l) (hl : 1 ≤ l.length) :
    Calls Try.prog 63 #[v] w fun e w' => e = .returned (.int .i64 (maxL l)) ∧ w' = w := by
  obtain ⟨a, c, rfl⟩ := h.shape
  have hlm := h.len
  unfold maxLen at hlm
  have HR := Lib.hid h
  have HK := Lib.hid (fun k => show maxK l (k + 1) = max (maxK l k) (l.getD (k + 1) 0) from rfl)
  obtain ⟨b, o, rfl, _, c0⟩ := h.at (i := 0) (by omega)
  have HK0 := Lib.hid (show maxK l 0 = l.getD 0 0 from rfl)
  obtain ⟨T, hT⟩ : ∃ T, T = maxK l := ⟨_, rfl⟩
  have HE := Lib.hid (show maxL l = T (l.length - 1) by rw [hT]; rfl)
  rw [← hT] at HK HK0
  rw [← HK0.out, Nat.add_zero] at c0
  obtain ⟨n, hn⟩ : ∃ n, n = l.length := ⟨_, rfl⟩
  have HN := Lib.hid hn.symm
  rw [← hn] at HE HR hl hlm ⊢
  have hlI : decide ((n : Int) < 1) = false := decide_eq_false (by omega)
  have h0I : (0 : Int) < (n : Int) := by omega
  clear h hn hT
  go_enter Try.func63, Try.ntmps63
  go_wp2_with fail
  go_loopw [3, 4] (fun mv iv wr => ∃ k : Nat, iv = .int .i64 ((k + 1 : Nat) : Int) ∧ k + 1 ≤ n ∧ mv = .int .i64 (T k) ∧ w = wr) (fun _ iv _ => n + 1 - (intOf iv).toNat)
  case atStart => exact ⟨0, rfl, hl, rfl, rfl⟩
  case round =>
    obtain ⟨k, rfl, hk, rfl, rfl⟩ := hrel
    obtain ⟨i, hi⟩ : ∃ i, i = k + 1 := ⟨_, rfl⟩
    have HI := Lib.hid hi
    rw [← hi] at hk ⊢
    by_cases hlt : i < n
    · have hltI : (i : Int) < (n : Int) := by omega
      obtain ⟨b2, o2, ee, _, c1⟩ := HR.out.at (i := i) (by rw [HN.out]; exact hlt)
      simp only [Option.some.injEq, Addr.mk.injEq, and_true] at ee
      obtain ⟨rfl, rfl⟩ := ee
      have hS := HK.out k
      rw [← hi] at hS
      obtain ⟨y, hy⟩ : ∃ y, y = l.getD i 0 := ⟨_, rfl⟩
      rw [← hy] at c1 hS
      have HS := Lib.hid hS
      clear hy hS hi
      go_wp2_with fail
      go_roundw
      case rel => exact ⟨i, by go_num, by omega, by rw [HS.out], by first | rfl | trivial⟩
      case measure => simp [intOf]; omega
    · obtain rfl : i = n := by omega
      have HE2 := Lib.hid (show maxL l = T k by rw [HE.out, hi]; rfl)
      clear hi
      go_wp2_with fail
      go_ret
      exact ⟨by rw [HE2.out]; rfl, rfl⟩

set_option maxHeartbeats 4000000 in
set_option maxRecDepth 8000 in
theorem listPlanI_any (v u : Value) (js : List JobD) (os : List Int) (m : Nat) (w : World) (h : RdJ w v js) (ho : RdI w u os) (hm : 1 ≤ m) (hm8 : m ≤ 8) (hok : areJobsB js = true) (hos : os.length ≤ 12) (hor : ∀ k, k < os.length → 0 ≤ os.getD k 0 ∧ (os.getD k 0).toNat < js.length) :
    Calls Try.prog 51 #[v, .int .i64 m, u] w fun e w' => ∃ v', e = .returned (.tuple #[v', .int .i64 (listE js os m)]) ∧ OwnI w.heap.size w'.heap.size w' v' (listO js os m) ∧ Below w.heap.size w w' := by
  obtain ⟨hn1, hn2, hjf⟩ := jobs_all hok
  obtain ⟨va, vc, rfl⟩ := h.shape
  obtain ⟨ua, uc, rfl⟩ := ho.shape
  have HR := Lib.hid h
  have HO := Lib.hid ho
  have HOR := Lib.hid hor
  have HJL := Lib.hid (fun i (hi : i < js.length) => (hjf i hi).1)
  have HRG := Lib.hid (fun k (hk : k ≤ os.length) f => listK_rng (js := js) (fun i hi => by have := hjf i hi; omega) (fun k hk => (hor k hk).2) m k hk f)
  have HLN := Lib.hid (listK_len js os m)
  have HS := Lib.hid (fun k => show listK js os m (k + 1) = ((listK js os m k).1.set (os.getD k 0).toNat (minK (listK js os m k).2 m : Nat), (listK js os m k).2.set (minK (listK js os m k).2 m) ((listK js os m k).2.getD (minK (listK js os m k).2 m) 0 + (js.getD (os.getD k 0).toNat J0).long)) from rfl)
  have HS0 := Lib.hid (show listK js os m 0 = (List.replicate js.length 0, List.replicate m 0) from rfl)
  obtain ⟨T, hT⟩ : ∃ T, T = listK js os m := ⟨_, rfl⟩
  have HE1 := Lib.hid (show listO js os m = (T os.length).1 by rw [hT]; rfl)
  have HE2 := Lib.hid (show listE js os m = maxL (T os.length).2 by rw [hT]; rfl)
  rw [← hT] at HRG HLN HS HS0
  obtain ⟨n, hn⟩ : ∃ n, n = js.length := ⟨_, rfl⟩
  obtain ⟨N, hN⟩ : ∃ N, N = os.length := ⟨_, rfl⟩
  have HN := Lib.hid hn.symm
  have HNO := Lib.hid hN.symm
  rw [← hn] at HR HOR HJL HLN HS0 hn1 hn2 ⊢
  rw [← hN] at HO HOR HRG HE1 HE2 hos ⊢
  have hmk1 := run_make_ints n (by omega)
  have hmk2 := run_make_ints m (by omega)
  have hnI : (0 : Int) ≤ (n : Int) := by omega
  clear h ho hor hjf hok hT hn hN
  go_enter Try.func51, Try.ntmps51
  go_wp2_with fail
  go_cut [8, 9] from 15 to 20 (fun gv hv wx => ∃ g h : Nat, gv = .slice (some ⟨g, 0, none⟩) n n ∧ hv = .slice (some ⟨h, 0, none⟩) m m ∧ g ≠ h ∧ Hid (wx.ownsRow w.heap.size 2 1 (.slice (some ⟨g, 0, none⟩) n n) n ((T 0).1.map I64)) ∧ Hid (wx.ownsRow w.heap.size 2 1 (.slice (some ⟨h, 0, none⟩) m m) m ((T 0).2.map I64)) ∧ Hid (Below w.heap.size w wx))
  case first =>
    go_region_law (fail)
    all_goals
      go_wp2_with fail
      go_meet
    case rel =>
      refine ⟨w.heap.size, w.heap.size + 1, rfl, rfl, by omega, ?_, ?_, Lib.hid (by (repeat' first | exact Below.refl _ _ | assumption | refine Below.alloc ?_ ?_ _ | refine Below.setCell ?_ ?_ _ | refine Below.drew ?_ | (simp; done) | (simp; omega)))⟩
      · rw [HS0.out]
        exact Lib.hid (owns_drew ((owns_base (owns_zerosI n (by omega) w _ rfl) (Nat.le_refl _)).alloc _))
      · rw [HS0.out]
        exact Lib.hid (owns_drew (owns_base (owns_zerosI m (by omega) _ _ (by simp)) (by simp)))
    case rel =>
      refine ⟨w.heap.size + 1, w.heap.size, rfl, rfl, by omega, ?_, ?_, Lib.hid (by (repeat' first | exact Below.refl _ _ | assumption | refine Below.alloc ?_ ?_ _ | refine Below.setCell ?_ ?_ _ | refine Below.drew ?_ | (simp; done) | (simp; omega)))⟩
      · rw [HS0.out]
        exact Lib.hid (owns_drew (owns_base (owns_zerosI n (by omega) _ _ (by simp)) (by simp)))
      · rw [HS0.out]
        exact Lib.hid (owns_drew ((owns_base (owns_zerosI m (by omega) w _ rfl) (Nat.le_refl _)).alloc _))
  case rest =>
    obtain ⟨g, h, rfl, rfl, hgh, HG, HH, HB⟩ := hcut
    have hg1 : w.heap.size ≤ g := (HG.out.lt g rfl).1
    have hh1 : w.heap.size ≤ h := (HH.out.lt h rfl).1
    have hzc := HB.out.size
    clear hmk1 hmk2
    go_wp2_with fail
    go_loopw [22] (fun kv wr => ∃ k : Nat, kv = .int .i64 k ∧ k ≤ N ∧ Hid (wr.ownsRow w.heap.size 2 1 (.slice (some ⟨g, 0, none⟩) n n) n ((T k).1.map I64)) ∧ Hid (wr.ownsRow w.heap.size 2 1 (.slice (some ⟨h, 0, none⟩) m m) m ((T k).2.map I64)) ∧ Hid (Below w.heap.size w wr)) (fun kv _ => N + 1 - (intOf kv).toNat)
    case atStart => exact ⟨0, rfl, Nat.zero_le _, HG, HH, HB⟩
    case round =>
      obtain ⟨k, rfl, hk, HG, HH, HB⟩ := hrel
      obtain ⟨wo, rfl⟩ : ∃ wo, wo = wr := ⟨wr, rfl⟩
      by_cases hlt : k < N
      · have hltI : (k : Int) < (N : Int) := by omega
        obtain ⟨ob, oo, rfl, _, co⟩ := (HO.out.up HB.out (Nat.le_refl _)).at (i := k) (by rw [HNO.out]; exact hlt)
        have hor := HOR.out k hlt
        have hS := HS.out k
        obtain ⟨x, hx⟩ : ∃ x, x = os.getD k 0 := ⟨_, rfl⟩
        rw [← hx] at co hor hS
        obtain ⟨y, rfl⟩ : ∃ y : Nat, x = (y : Int) := ⟨x.toNat, by omega⟩
        rw [show ((y : Int)).toNat = y by omega] at hor hS
        have hyn : (y : Int) < (n : Int) := by omega
        obtain ⟨jb, jo, rfl, _, cj, _⟩ := (HR.out.up HB.out (Nat.le_refl _)).at (i := y) (by rw [HN.out]; exact hor.2)
        have hl := HJL.out y hor.2
        obtain ⟨l, hl'⟩ : ∃ l, l = (js.getD y J0).long := ⟨_, rfl⟩
        rw [← hl'] at cj hl hS
        have hln := HLN.out k
        have hrg := HRG.out k (by omega)
        obtain ⟨⟨out, fr⟩, hT⟩ : ∃ p, p = T k := ⟨_, rfl⟩
        rw [← hT] at HG HH hS hln hrg
        simp only at HG HH hS hln hrg
        obtain ⟨hln1, hln2⟩ := hln
        have hfm : ∀ j, j ≤ m → minK fr j < m := fun j hj => minK_le fr m j (by omega) hj
        have hfc : ∀ j, j < m → wo.cell? ⟨h, j, none⟩ = some (.int .i64 (fr.getD j 0)) := fun j hj => by
          rw [HH.out.cellAt j (by omega), List.getElem?_map, List.getElem?_eq_getElem (by omega), List.getD_eq_getElem?_getD, List.getElem?_eq_getElem (by omega)]
          rfl
        have HFM := Lib.hid hfm
        have HFC := Lib.hid hfc
        have HSS := Lib.hid hS
        have HRR := Lib.hid hrg
        have hbl : 0 ≤ l ∧ l ≤ 1000 := by omega
        have HCJ := Lib.hid (fun X (hb : Below w.heap.size w X) => show X.cell? ⟨jb, jo + y * 4, none⟩ = some (.int .i64 l) by
          obtain ⟨jb', jo', ee, _, cc, _⟩ := (HR.out.up hb (Nat.le_refl _)).at (i := y) (by rw [HN.out]; exact hor.2)
          simp only [Option.some.injEq, Addr.mk.injEq, and_true] at ee
          obtain ⟨rfl, rfl⟩ := ee
          rw [hl']
          exact cc)
        clear hx hl' hT hfm hfc hS hrg hl
        go_wp2_with fail
        go_loopw [12, 28] (fun fv jv wr => ∃ j : Nat, jv = .int .i64 j ∧ j ≤ m ∧ fv = .int .i64 (minK fr j : Nat) ∧ wo = wr) (fun _ jv _ => m + 1 - (intOf jv).toNat)
        case atStart => exact ⟨0, rfl, Nat.zero_le _, rfl, rfl⟩
        case round =>
          obtain ⟨j, rfl, hj, rfl, rfl⟩ := hrel
          have hmj := HFM.out j hj
          by_cases hjm : j < m
          · have hjI : (j : Int) < (m : Int) := by omega
            have c1 := HFC.out j hjm
            have c2 := HFC.out _ hmj
            have hM : minK fr (j + 1) = if fr.getD j 0 < fr.getD (minK fr j) 0 then j else minK fr j := rfl
            obtain ⟨f, hf⟩ : ∃ f, f = minK fr j := ⟨_, rfl⟩
            rw [← hf] at hmj c2 hM ⊢
            obtain ⟨a, ha⟩ : ∃ a, a = fr.getD j 0 := ⟨_, rfl⟩
            obtain ⟨b, hb⟩ : ∃ a, a = fr.getD f 0 := ⟨_, rfl⟩
            rw [← ha] at c1 hM
            rw [← hb] at c2 hM
            have hfI : (f : Int) < (m : Int) := by omega
            clear ha hb hf
            by_cases hab : a < b
            · have HM := Lib.hid (show minK fr (j + 1) = j by rw [hM, if_pos hab])
              clear hM
              go_wp2_with fail
              go_roundw
              case rel => exact ⟨j + 1, by go_num, by omega, by rw [HM.out], by first | rfl | trivial⟩
              case measure => simp [intOf]; omega
            · have HM := Lib.hid (show minK fr (j + 1) = f by rw [hM, if_neg hab])
              clear hM
              go_wp2_with fail
              go_roundw
              case rel => exact ⟨j + 1, by go_num, by omega, by rw [HM.out], by first | rfl | trivial⟩
              case measure => simp [intOf]; omega
          · obtain rfl : j = m := by omega
            have hfb := HRR.out (minK fr j)
            have c2 := HFC.out _ hmj
            obtain ⟨f, hf⟩ : ∃ f, f = minK fr j := ⟨_, rfl⟩
            rw [← hf] at hmj c2 HSS hfb ⊢
            obtain ⟨b, hb⟩ : ∃ a, a = fr.getD f 0 := ⟨_, rfl⟩
            rw [← hb] at c2 HSS hfb
            have hfI : (f : Int) < (j : Int) := by omega
            have HFR := Lib.hid (show fr[f]? = some b by rw [hb, List.getD_eq_getElem?_getD, List.getElem?_eq_getElem (by omega)]; rfl)
            have hadd : IntKind.i64.wrap (b + l) = b + l := IntWalk.i64_in _ (by omega)
            have g1 : wo.cell? ⟨g, y, none⟩ = some (.int .i64 (out.getD y 0)) := by
              rw [HG.out.cellAt y (by omega), List.getElem?_map, List.getElem?_eq_getElem (by omega), List.getD_eq_getElem?_getD, List.getElem?_eq_getElem (by omega)]
              rfl
            have g2 := HG.out.frozenAt y
            clear hb hf
            go_upto_region 13 with fail
            refine wp_at fun w3 hw3 => ?_
            have HG3 := Lib.hid (show w3.ownsRow w.heap.size 2 1 (.slice (some ⟨g, 0, none⟩) n n) n ((out.set y (f : Int)).map I64) by
              subst hw3
              rw [List.map_set]
              exact (HG.out.stored y (.int .i64 f)).1)
            have HH3 := Lib.hid (show w3.ownsRow w.heap.size 2 1 (.slice (some ⟨h, 0, none⟩) j j) j (fr.map I64) by
              subst hw3
              exact owns_kept HH.out (Kept.setCell (S := (· = g)) (Kept.refl _ _) (.inr rfl) _) (fun b e1 e2 => hgh (by have : h = b := Option.some.inj e1; omega)))
            have HB3 := Lib.hid (show Below w.heap.size w w3 by subst hw3; exact HB.out.setCell hg1 _)
            have cj3 := HCJ.out w3 HB3.out
            have c3 : w3.cell? ⟨h, f, none⟩ = some (.int .i64 b) := by
              rw [HH3.out.cellAt f (by omega), List.getElem?_map, HFR.out]
              rfl
            have c4 := HH3.out.frozenAt f
            clear hw3 g1 g2 c2 cj co
            go_wp2_with fail
            go_region_law (fail)
            all_goals
              go_wp2_with fail
              go_roundw
              case rel =>
                refine ⟨k + 1, by go_num, by omega, Lib.hid ?_, Lib.hid ?_, Lib.hid (HB3.out.drew.setCell hh1 _)⟩
                · rw [HSS.out]
                  exact owns_kept (owns_drew HG3.out) (Kept.setCell (S := (· = h)) (Kept.refl _ _) (.inr rfl) _) (fun b e1 e2 => hgh (by have : g = b := Option.some.inj e1; omega))
                · rw [HSS.out]
                  show World.ownsRow _ _ _ _ _ _ ((fr.set f (b + l)).map I64)
                  rw [List.map_set]
                  exact ((owns_drew HH3.out).stored f (.int .i64 (b + l))).1
              case measure => simp [intOf]; omega
      · obtain rfl : k = N := by omega
        have HMX := Lib.hid (maxI_any (.slice (some ⟨h, 0, none⟩) m m) (T k).2 wo (slc_of_owns HH.out) (by rw [(HLN.out k).2]; exact hm))
        go_wp2_with (go_at_call 63; refine HMX.out.mono ?_; rintro e w3 ⟨rfl, rfl⟩)
        go_ret2
        exact ⟨_, by rw [HE2.out]; rfl, by rw [HE1.out]; exact OwnI.mk (n := n) HG.out, HB.out⟩

end Go.Proofs.Ytfdaifmfecfchaa

namespace Go.Proofs.Ytfdaifmfecfchaa
open Go.RowKit Go.Sort

theorem idxOf_idxs : ∀ (F : List Nat) (x : Nat), (idxs F).idxOf (x : Int) = F.idxOf x
  | [], _ => rfl
  | y :: F, x => by
    have e : idxs (y :: F) = (y : Int) :: idxs F := rfl
    rw [e, List.idxOf_cons, List.idxOf_cons, idxOf_idxs F x]
    by_cases h : y = x
    · subst h; simp
    · have h1 : (y == x) = false := by rw [beq_eq_false_iff_ne]; exact h
      have h2 : ((y : Int) == (x : Int)) = false := by rw [beq_eq_false_iff_ne]; omega
      rw [h1, h2]
theorem mem_idxs {F : List Nat} {x : Nat} (h : x ∈ F) : (x : Int) ∈ idxs F := List.mem_map.2 ⟨x, h, rfl⟩
theorem idxs_erase (F : List Nat) (k : Nat) : (idxs F).eraseIdx k = idxs (F.eraseIdx k) := by unfold idxs; rw [List.eraseIdx_eq_take_drop_succ, List.eraseIdx_eq_take_drop_succ, List.map_append, List.map_take, List.map_drop]
/-- A row that the call owns has as much room as its slice says. -/
theorem owns_room {w : World} {base n g cap : Nat} {e : TypeId} {vs : List Value} (h : w.ownsRow base e 1 (.slice (some ⟨g, 0, none⟩) n cap) n vs) : n ≤ cap := by
  rcases h.2 with ⟨h', _⟩ | ⟨g', cap', cur, h', hb, hg, hnc, hcm, _⟩
  · simp at h'
  · simp only [Value.slice.injEq, Option.some.injEq, Addr.mk.injEq, and_true, true_and] at h'
    obtain ⟨_, rfl⟩ := h'
    exact hnc
/-- The asks as they are counted. -/
def asN (xs : List Int) : List Nat := xs.map Int.toNat

set_option maxHeartbeats 4000000 in
set_option maxRecDepth 8000 in
theorem front_any (v : Value) (xs : List Int) (n : Nat) (w : World) (h : RdI w v xs) (hA : asksB xs = true) (hn2 : 2 ≤ n) (hn : n ≤ 64) (hx : ∀ i, i < xs.length → 0 ≤ xs.getD i 0 ∧ xs.getD i 0 < n) :
    Calls Try.prog 28 #[v, .int .i64 n] w fun e w' => ∃ u, e = .returned (.tuple #[.int .i64 ((frC (List.range n) (asN xs)).1 : Nat), u, .bool true]) ∧ OwnI w.heap.size w'.heap.size w' u (idxs (frC (List.range n) (asN xs)).2) ∧ Below w.heap.size w w' := by
  obtain ⟨a, c, rfl⟩ := h.shape
  have HX := Lib.hid hx
  have hlen : (xs.length : Int) ≤ 64 := by
    unfold asksB at hA
    rw [Bool.and_eq_true] at hA
    have := hA.1
    unfold inB at this
    simp at this
    omega
  have HAS := Lib.hid (areAsks_any _ xs w h)
  rw [hA] at HAS
  have hal : allIn 0 ((n : Int) - 1) xs = true := allIn_true fun i hi => inB_true (by have := hx i hi; omega)
  have HAL := Lib.hid (allWithin_any _ xs 0 ((n : Int) - 1) w h)
  rw [hal] at HAL
  have HWI := Lib.hid (fun X => within_any (n : Int) 1 64 X)
  rw [inB_true (by omega)] at HWI
  have HR := Lib.hid h
  have hal2 : (asN xs).length = xs.length := by unfold asN; rw [List.length_map]
  have HAT := Lib.hid (fun i (hi : i < xs.length) => show (asN xs).drop i = (xs.getD i 0).toNat :: (asN xs).drop (i + 1) by
    unfold asN
    rw [← List.map_drop, drop_cons8 hi, List.map_cons, List.map_drop])
  have HASN := Lib.hid hal2
  obtain ⟨N, hN⟩ : ∃ N, N = frC (List.range n) (asN xs) := ⟨_, rfl⟩
  have HN := Lib.hid hN.symm
  rw [← hN]
  clear hN
  obtain ⟨q, hq⟩ : ∃ q, q = xs.length := ⟨_, rfl⟩
  have HQ := Lib.hid hq.symm
  rw [← hq] at HX HAS HAL HR HAT hlen ⊢
  rw [← hq] at HASN
  clear h hA hal hx hal2 hq
  have hwn : IntKind.i64.wrap ((n : Int) - 1) = (n : Int) - 1 := IntWalk.i64_in _ (by omega)
  go_enter Try.func28, Try.ntmps28
  go_upto_region 3 with (first
    | (go_at_call 58; refine HAS.out.mono ?_; rintro e w' ⟨rfl, rfl⟩)
    | (go_at_call 55; refine (HWI.out _).mono ?_; rintro e w' ⟨rfl, rfl⟩)
    | (go_at_call 56; refine HAL.out.mono ?_; rintro e w' ⟨rfl, rfl⟩)
    | fail)
  clear HAS HAL HWI hwn
  go_wp2_with fail
  go_loopw [7, 8] (fun lv kv wr => ∃ (k : Nat) (b : Option Addr) (cap : Nat), kv = .int .i64 k ∧ k ≤ n ∧ lv = .slice b k cap ∧ Hid (wr.ownsRow w.heap.size 2 1 (.slice b k cap) k ((idxs (List.range k)).map I64)) ∧ Hid (Below w.heap.size w wr)) (fun _ kv _ => n + 1 - (intOf kv).toNat)
  case atStart => exact ⟨0, none, 0, rfl, Nat.zero_le _, rfl, Lib.hid (World.ownsRow_nil _ _ _ _), Lib.hid (Below.refl _ _)⟩
  case round =>
    obtain ⟨k, b, cap, rfl, hk, rfl, HO, HB⟩ := hrel
    obtain ⟨wo, rfl⟩ : ∃ wo, wo = wr := ⟨wr, rfl⟩
    have hsz := HB.out.size
    by_cases hkn : k < n
    · have hkI : (k : Int) < (n : Int) := by omega
      go_wp2_with (at_builtin; refine app_ints rfl _ _ rfl w.heap.size (.slice b k cap) k (idxs (List.range k)) rfl (HO.out.alloc _) _ [(k : Int)] rfl (slc_one _ _) (k + 1) (idxs (List.range (k + 1))) (by simp) (by unfold idxs; rw [List.range_succ, List.map_append]; rfl) (by omega) (by simp; omega) ?_; intro b2 cap2 w3 hown2 hbl2 _ _)
      go_roundw
      case rel => exact ⟨k + 1, b2, cap2, by go_num, by omega, rfl, Lib.hid hown2, Lib.hid (HB.out.trans (((Below.refl _ _).alloc hsz _).trans hbl2))⟩
      case measure => simp [intOf]; omega
    · obtain rfl : k = n := by omega
      have hkk : ¬ (k : Int) < (k : Int) := by omega
      obtain ⟨g, rfl⟩ := owns_ptr HO.out (by omega)
      have hroom := owns_room HO.out
      have hg := (HO.out.lt g rfl).1
      go_wp2_with fail
      go_loopw [7, 9, 11, 12, 39] (fun lv cv _ _ iv wr => ∃ (i : Nat) (F : List Nat) (ct : Nat), iv = .int .i64 i ∧ i ≤ q ∧ lv = .slice (some ⟨g, 0, none⟩) k cap ∧ cv = .int .i64 ct ∧ ct ≤ 64 * i ∧ Hid (F.Perm (List.range k)) ∧ Hid (ct + (frC F ((asN xs).drop i)).1 = N.1 ∧ (frC F ((asN xs).drop i)).2 = N.2) ∧ Hid (wr.ownsRow w.heap.size 2 1 (.slice (some ⟨g, 0, none⟩) k cap) k ((idxs F).map I64)) ∧ Hid (Below w.heap.size w wr)) (fun _ _ _ _ iv _ => q + 1 - (intOf iv).toNat)
      case atStart => exact ⟨0, List.range k, 0, rfl, Nat.zero_le _, rfl, rfl, Nat.zero_le _, Lib.hid (List.Perm.refl _), Lib.hid (by rw [List.drop_zero, HN.out]; exact ⟨Nat.zero_add _, rfl⟩), HO, HB⟩
      case round =>
        obtain ⟨i, F, ct, rfl, hi, rfl, rfl, hct, HP, HF, HOF, HBF⟩ := hrel
        obtain ⟨wi, rfl⟩ : ∃ wi, wi = wr := ⟨wr, rfl⟩
        have hszi := HBF.out.size
        have hfl : F.length = k := by rw [HP.out.length_eq, List.length_range]
        have HFL := Lib.hid hfl
        by_cases hiq : i < q
        · have hiI : (i : Int) < (q : Int) := by omega
          obtain ⟨ab, ao, rfl, _, ca⟩ := (HR.out.up HBF.out (Nat.le_refl _)).at (i := i) (by rw [HQ.out]; exact hiq)
          have hx := HX.out i hiq
          have hf := HF.out
          rw [HAT.out i hiq] at hf
          obtain ⟨x, hxe⟩ : ∃ x : Nat, xs.getD i 0 = (x : Int) := ⟨(xs.getD i 0).toNat, by omega⟩
          rw [hxe] at ca hx hf
          simp only [frC, Int.toNat_natCast] at hf
          have hxm : x ∈ F := HP.out.mem_iff.2 (List.mem_range.2 (by omega))
          have hil := List.idxOf_lt_length_of_mem hxm
          have hpm := (frL_perm hxm).trans HP.out
          have HIX := Lib.hid (index_any (.slice (some ⟨g, 0, none⟩) k cap) (idxs F) (x : Int) wi (by have := slc_of_owns HOF.out; exact this) (by rw [idxs_len, hfl]; omega))
          have hix : idxI (idxs F) (x : Int) = ((F.idxOf x : Nat) : Int) := by unfold idxI; rw [if_pos (mem_idxs hxm), idxOf_idxs]
          rw [hix] at HIX
          have hfr : frL F x = x :: F.eraseIdx (F.idxOf x) := rfl
          rw [hfr] at hf hpm
          obtain ⟨j, hj⟩ : ∃ j, j = F.idxOf x := ⟨_, rfl⟩
          rw [← hj] at HIX hf hpm hil
          have HD := Lib.hid (delete_any w.heap.size g cap j (idxs F) wi (by rw [idxs_len, hfl]; exact HOF.out) (by rw [idxs_len]; exact hil) hszi)
          rw [idxs_len, hfl, idxs_erase] at HD
          have HF2 := Lib.hid hf
          have HP2 := Lib.hid hpm
          have hjk : j < k := by omega
          have w1 : IntKind.i64.wrap ((j : Int) + 1) = (j : Int) + 1 := IntWalk.i64_in _ (by omega)
          have w2' : IntKind.i64.wrap ((ct : Int) + ((j : Int) + 1)) = (ct : Int) + ((j : Int) + 1) := IntWalk.i64_in _ (by omega)
          clear hf hpm hxm hix hfr hj hil hfl hxe
          go_wp2_with (first
            | (go_at_call 59; refine HIX.out.mono ?_; rintro e w' ⟨rfl, rfl⟩)
            | (go_at_call 46; refine HD.out.mono ?_; rintro e w2 ⟨rfl, ho2, hk2⟩; have HO2 := Lib.hid ho2; have HK2 := Lib.hid hk2; have HB2 := Lib.hid (HBF.out.trans (hk2.toBelow hszi (fun q h1 h2 => by omega))); have hgl := (HO2.out.lt g rfl).2)
            | (go_at_call 61; go_loud (refine (insert0_any w.heap.size g cap (k - 1) (idxs (F.eraseIdx j)) (x : Int) w2.heap.size _ (HO2.out.alloc _) (by omega) (by omega) (heap_alloc_new w2 _) (by omega)).mono ?_; rintro e w3 ⟨rfl, ho3, hk3⟩))
            | fail)
          have hk1 : k - 1 + 1 = k := by omega
          rw [hk1] at ho3
          have hz2 := HB2.out.size
          go_roundw
          case rel => exact ⟨i + 1, x :: F.eraseIdx j, ct + (j + 1), by go_num, by omega, by rw [hk1], by go_num, by omega, HP2, Lib.hid ⟨by have := HF2.out.1; omega, HF2.out.2⟩, Lib.hid ho3, Lib.hid ((HB2.out.alloc hz2 _).trans (hk3.toBelow (by simp; omega) (fun q h1 h2 => by omega)))⟩
          case measure => simp [intOf]; omega
        · obtain rfl : i = q := by omega
          have hii : ¬ (i : Int) < (i : Int) := by omega
          have hf := HF.out
          rw [List.drop_of_length_le (by rw [HASN.out]; exact Nat.le_refl _)] at hf
          simp only [frC, Nat.add_zero] at hf
          obtain ⟨h1, h2⟩ := hf
          subst h1
          have HF2 := Lib.hid h2
          clear h2
          go_wp2_with fail
          go_ret3
          refine ⟨_, rfl, ?_, HBF.out⟩
          rw [← HF2.out]
          exact OwnI.mk (n := k) HOF.out

end Go.Proofs.Ytfdaifmfecfchaa
