/-
  FnMachines: texts joined: AllIn, ValidD, CmpI, Shelf, SortI, OrdC, HeadM, SmithM, SmithI, ListM.
-/
import Derived.Shelf.Small.Bits
import Derived.Shelf.Strconv.Itoa0
import Derived.Ground.SlgnProg
import Derived.Shelf.SlicesE.Delete
import Derived.Ground.SlsfProg
import Derived.Shelf.SlSortCmp.Insertion
import Derived.Shelf.SlSortCmp.SiftDown1
import Derived.Shelf.SlSortCmp.HeapSort1
import Derived.Shelf.SlSortCmp.Insertion1
import Derived.Shelf.SlSortCmp.Median1
import Derived.Shelf.SlSortCmp.Pivot1
import Derived.Shelf.SlSortCmp.ReverseRange1
import Derived.Shelf.SlSortCmp.PartialInsertion1
import Derived.Shelf.SlSortCmp.PartitionEqual1
import Derived.Shelf.SlSortCmp.Partition1
import Derived.Shelf.SlSortCmp.Pdq1
import Derived.Shelf.SlSortCmp.Whole1
import Derived.Test.YtfdaifmfecfchaaProg
import Derived.Lib.OwnBridge
import Derived.BigQuiet
import Derived.Deep.Cut
import Derived.Test.YtfdaifmfecfchaaMFnMachinesAB
import Derived.Test.YtfdaifmfecfchaaMFnMachinesAC
namespace Go.Proofs.Ytfdaifmfecfchaa
open Go.RowKit

def allIn (lo hi : Int) (xs : List Int) : Bool := xs.all (inB lo hi)

theorem allIn_true {lo hi : Int} {xs : List Int} (h : ∀ i, i < xs.length → inB lo hi (xs.getD i 0) = true) : allIn lo hi xs = true := by
  unfold allIn
  rw [List.all_eq_true]
  intro x hx
  obtain ⟨i, hi, rfl⟩ := List.mem_iff_getElem.1 hx
  have := h i hi
  simpa [hi] using this
theorem allIn_false {lo hi : Int} {xs : List Int} {i : Nat} (hlt : i < xs.length) (h : inB lo hi (xs.getD i 0) = false) : allIn lo hi xs = false := by
  unfold allIn
  rw [List.all_eq_false]
  exact ⟨xs[i], List.getElem_mem hlt, by simpa [hlt] using h⟩

set_option maxHeartbeats 400000 in
theorem allWithin_any (v : Value) (xs : List Int) (lo hi : Int) (w : World) (h : RdI w v xs) :
    Calls Try.prog 56 #[v, .int .i64 lo, .int .i64 hi] w fun e w' => e = .returned (.bool (allIn lo hi xs)) ∧ w = w' := by
  obtain ⟨a, c, rfl⟩ := h.shape
  have hl := h.len
  unfold maxLen at hl
  have HS := Lib.hid h
  clear h
  go_enter Try.func56, Try.ntmps56
  go_wp2_with fail
  go_loop [11] (fun i => ∃ k : Nat, i = .int .i64 k ∧ k ≤ xs.length ∧ Hid (∀ i, i < k → inB lo hi (xs.getD i 0) = true)) (fun i => xs.length - (intOf i).toNat)
  case atStart => exact ⟨0, rfl, Nat.zero_le _, fun i hi => by omega⟩
  case round =>
    obtain ⟨k, rfl, hk, hall⟩ := hrel
    by_cases hlt : k < xs.length
    · obtain ⟨b, off, rfl, hb, hc⟩ := HS.out.at hlt
      obtain ⟨x, hx⟩ : ∃ x, x = xs.getD k 0 := ⟨_, rfl⟩
      rw [← hx] at hc
      have HX := Lib.hid hx
      clear hx
      by_cases hin : inB lo hi x = true
      · go_wp2_with (go_at_call 55; refine (within_any _ _ _ _).mono ?_; rintro e w' ⟨rfl, rfl⟩)
        go_round
        case rel => exact ⟨k + 1, by go_num, by omega, fun i hi => by
          rcases Nat.lt_succ_iff_lt_or_eq.1 hi with h | rfl
          · exact hall.out i h
          · rw [← HX.out]; exact hin⟩
        case measure => simp [intOf]; omega
      · have hin' : inB lo hi x = false := by simpa using hin
        go_wp2_with (go_at_call 55; refine (within_any _ _ _ _).mono ?_; rintro e w' ⟨rfl, rfl⟩)
        go_ret
        exact ⟨by rw [allIn_false hlt (by rw [← HX.out]; exact hin')]; rfl, rfl⟩
    · obtain rfl : k = xs.length := by omega
      go_wp2_with fail
      go_ret
      exact ⟨by rw [allIn_true hall.out]; rfl, rfl⟩

theorem allIn_iff (lo hi : Int) (xs : List Int) : allIn lo hi xs = true ↔ ∀ i, i < xs.length → inB lo hi (xs.getD i 0) = true := by
  constructor
  · intro h i hi
    unfold allIn at h
    rw [List.all_eq_true] at h
    have := h xs[i] (List.getElem_mem hi)
    simpa [hi] using this
  · exact allIn_true

def Rising (xs : List Int) : Prop := ∀ i, i < xs.length → 0 < i → xs.getD (i - 1) 0 < xs.getD i 0
instance (xs : List Int) : Decidable (Rising xs) := by unfold Rising; exact inferInstance
def risingB (xs : List Int) : Bool := decide (Rising xs)
theorem risingB_true {xs : List Int} (h : Rising xs) : risingB xs = true := by simp [risingB, h]
theorem risingB_false {xs : List Int} (h : ¬ Rising xs) : risingB xs = false := by simp [risingB, h]

end Go.Proofs.Ytfdaifmfecfchaa

namespace Go.Proofs.Ytfdaifmfecfchaa
open Go.RowKit

def jobB (j : JobD) : Bool := inB 1 1000 j.long && (inB 0 100000 j.due && (inB 0 100000 j.ready && inB 0 1000 j.weight))
def areJobsB (js : List JobD) : Bool := inB 1 12 js.length && allB js.length (fun i => jobB (js.getD i J0))

set_option maxHeartbeats 2000000 in
set_option maxRecDepth 4000 in
theorem AreJobs_any (v : Value) (js : List JobD) (w : World) (h : RdJ w v js) :
    Calls Try.prog 41 #[v] w fun e w' => e = .returned (.bool (areJobsB js)) ∧ Below w.heap.size w w' := by
  obtain ⟨a, c, rfl⟩ := h.shape
  have hm := h.len
  simp only [maxLen] at hm
  have HP := Lib.hid h
  clear h
  obtain ⟨q1, hq1⟩ : ∃ q, inB 1 12 (js.length : Int) = q := ⟨_, rfl⟩
  have HQ1 := Lib.hid hq1
  clear hq1
  go_enter Try.func41, Try.ntmps41
  cases q1
  · have HN := Lib.hid (show areJobsB js = false by unfold areJobsB; rw [HQ1.out]; rfl)
    go_wp2_with (first | (go_at_call 47; refine (size_any _ _ (by unfold maxLen; omega)).mono ?_; rintro e w' ⟨rfl, rfl⟩) | (go_at_call 55; refine (within_any _ _ _ _).mono ?_; rintro e w' ⟨rfl, rfl⟩; rw [HQ1.out]))
    go_ret
    exact ⟨by rw [HN.out]; rfl, Below.refl _ _⟩
  go_wp2_with (first | (go_at_call 47; refine (size_any _ _ (by unfold maxLen; omega)).mono ?_; rintro e w' ⟨rfl, rfl⟩) | (go_at_call 55; refine (within_any _ _ _ _).mono ?_; rintro e w' ⟨rfl, rfl⟩; rw [HQ1.out]))
  go_loopw [12] (fun i wr => ∃ k : Nat, i = .int .i64 k ∧ k ≤ js.length ∧ Hid (∀ j, j < k → jobB (js.getD j J0) = true) ∧ Hid (Below w.heap.size w wr)) (fun i _ => js.length - (intOf i).toNat)
  case atStart => exact ⟨0, rfl, Nat.zero_le _, fun j hj => by omega, Below.refl _ _⟩
  case round =>
    obtain ⟨k, rfl, hk, hall, HB⟩ := hrel
    by_cases hlt : k < js.length
    · obtain ⟨b, off, rfl, hb, x0, x1, x2, x3⟩ := (HP.out.up HB.out (Nat.le_refl _)).at hlt
      obtain ⟨x, hx⟩ : ∃ x, x = js.getD k J0 := ⟨_, rfl⟩
      rw [← hx] at x0 x1 x2 x3
      have HX := Lib.hid hx
      clear hx
      obtain ⟨t1, h1⟩ : ∃ t, inB 1 1000 x.long = t := ⟨_, rfl⟩
      obtain ⟨t2, h2⟩ : ∃ t, inB 0 100000 x.due = t := ⟨_, rfl⟩
      obtain ⟨t3, h3⟩ : ∃ t, inB 0 100000 x.ready = t := ⟨_, rfl⟩
      obtain ⟨t4, h4⟩ : ∃ t, inB 0 1000 x.weight = t := ⟨_, rfl⟩
      have HJ := Lib.hid (show jobB x = (t1 && (t2 && (t3 && t4))) by unfold jobB; rw [h1, h2, h3, h4])
      have T1 := Lib.hid h1
      have T2 := Lib.hid h2
      have T3 := Lib.hid h3
      have T4 := Lib.hid h4
      have hz := HB.out.size
      clear h1 h2 h3 h4
      have HNO := Lib.hid (show jobB x = false → areJobsB js = false from fun h => by unfold areJobsB; rw [allB_false hlt (by rw [← HX.out]; exact h), Bool.and_false])
      cases t1
      · have HN := Lib.hid (HNO.out (by rw [HJ.out]; simp))
        go_wp2_with (go_at_call 55; refine (within_any _ _ _ _).mono ?_; rintro e w' ⟨rfl, rfl⟩; first | rw [T1.out] | rw [T2.out] | rw [T3.out] | rw [T4.out])
        go_ret
        refine ⟨by rw [HN.out]; rfl, HB.out.trans (Below.mono ?_ hz)⟩
        (repeat' first | exact Below.refl _ _ | assumption | refine Below.alloc ?_ ?_ _ | refine Below.setCell ?_ ?_ _ | refine Below.drew ?_ | (simp; done) | (simp; omega))
      cases t2
      · have HN := Lib.hid (HNO.out (by rw [HJ.out]; simp))
        go_wp2_with (go_at_call 55; refine (within_any _ _ _ _).mono ?_; rintro e w' ⟨rfl, rfl⟩; first | rw [T1.out] | rw [T2.out] | rw [T3.out] | rw [T4.out])
        go_ret
        refine ⟨by rw [HN.out]; rfl, HB.out.trans (Below.mono ?_ hz)⟩
        (repeat' first | exact Below.refl _ _ | assumption | refine Below.alloc ?_ ?_ _ | refine Below.setCell ?_ ?_ _ | refine Below.drew ?_ | (simp; done) | (simp; omega))
      cases t3
      · have HN := Lib.hid (HNO.out (by rw [HJ.out]; simp))
        go_wp2_with (go_at_call 55; refine (within_any _ _ _ _).mono ?_; rintro e w' ⟨rfl, rfl⟩; first | rw [T1.out] | rw [T2.out] | rw [T3.out] | rw [T4.out])
        go_ret
        refine ⟨by rw [HN.out]; rfl, HB.out.trans (Below.mono ?_ hz)⟩
        (repeat' first | exact Below.refl _ _ | assumption | refine Below.alloc ?_ ?_ _ | refine Below.setCell ?_ ?_ _ | refine Below.drew ?_ | (simp; done) | (simp; omega))
      cases t4
      · have HN := Lib.hid (HNO.out (by rw [HJ.out]; simp))
        go_wp2_with (go_at_call 55; refine (within_any _ _ _ _).mono ?_; rintro e w' ⟨rfl, rfl⟩; first | rw [T1.out] | rw [T2.out] | rw [T3.out] | rw [T4.out])
        go_ret
        refine ⟨by rw [HN.out]; rfl, HB.out.trans (Below.mono ?_ hz)⟩
        (repeat' first | exact Below.refl _ _ | assumption | refine Below.alloc ?_ ?_ _ | refine Below.setCell ?_ ?_ _ | refine Below.drew ?_ | (simp; done) | (simp; omega))
      go_wp2_with (go_at_call 55; refine (within_any _ _ _ _).mono ?_; rintro e w' ⟨rfl, rfl⟩; first | rw [T1.out] | rw [T2.out] | rw [T3.out] | rw [T4.out])
      go_roundw
      case rel =>
        refine ⟨k + 1, by go_num, by omega, fun j hj => ?_, HB.out.trans (Below.mono ?_ hz)⟩
        · by_cases hjk : j < k
          · exact hall.out j hjk
          · obtain rfl : j = k := by omega
            rw [← HX.out, HJ.out]; rfl
        · (repeat' first | exact Below.refl _ _ | assumption | refine Below.alloc ?_ ?_ _ | refine Below.setCell ?_ ?_ _ | refine Below.drew ?_ | (simp; done) | (simp; omega))
      case measure => simp [intOf]; omega
    · obtain rfl : k = js.length := by omega
      have HN := Lib.hid (show areJobsB js = true by unfold areJobsB; rw [HQ1.out, allB_true hall.out]; rfl)
      go_wp2_with fail
      go_ret
      exact ⟨by rw [HN.out]; rfl, HB.out⟩

end Go.Proofs.Ytfdaifmfecfchaa

namespace Go.Proofs.Ytfdaifmfecfchaa
open Go.RowKit Go.Sort

def cmpI (x y : Int) : Int := if x < y then -1 else if y < x then 1 else 0
def idxs (L : List Nat) : List Int := L.map fun k : Nat => (k : Int)
theorem idxs_len (L : List Nat) : (idxs L).length = L.length := by simp [idxs]
def encN (n x : Nat) : Value := I64 ((x % n : Nat) : Int)
theorem encN_map (n : Nat) (L : List Nat) (h : ∀ x, x ∈ L → x < n) : L.map (encN n) = (idxs L).map I64 := by
  unfold idxs
  rw [List.map_map]
  exact List.map_congr_left fun x hx => by simp [encN, Nat.mod_eq_of_lt (h x hx)]

theorem isNaN64_any (x : Int) (w : World) : Calls Try.prog 78 #[.int .i64 x] w fun e w' => e = .returned (.bool false) ∧ w = w' := by
  have h : (x != x) = false := by simp
  go_enter Try.func78, Try.ntmps78
  go_wp2_with fail
  go_ret
  exact ⟨rfl, rfl⟩

theorem cmp64_any (x y : Int) (w : World) : Calls Try.prog 44 #[.int .i64 x, .int .i64 y] w fun e w' => e = .returned (.int .i64 (cmpI x y)) ∧ w = w' := by
  go_enter Try.func44, Try.ntmps44
  by_cases h1 : x < y
  · have hc := Lib.hid (show cmpI x y = -1 by unfold cmpI; rw [if_pos h1])
    go_wp2_with (go_at_call 78; refine (isNaN64_any _ _).mono ?_; rintro e w' ⟨rfl, rfl⟩)
    go_ret
    exact ⟨by rw [hc.out]; rfl, rfl⟩
  · by_cases h2 : y < x
    · have hc := Lib.hid (show cmpI x y = 1 by unfold cmpI; rw [if_neg h1, if_pos h2])
      go_wp2_with (go_at_call 78; refine (isNaN64_any _ _).mono ?_; rintro e w' ⟨rfl, rfl⟩)
      go_ret
      exact ⟨by rw [hc.out]; rfl, rfl⟩
    · have hc := Lib.hid (show cmpI x y = 0 by unfold cmpI; rw [if_neg h1, if_neg h2])
      go_wp2_with (go_at_call 78; refine (isNaN64_any _ _).mono ?_; rintro e w' ⟨rfl, rfl⟩)
      go_ret
      exact ⟨by rw [hc.out]; rfl, rfl⟩

end Go.Proofs.Ytfdaifmfecfchaa

namespace Go.Proofs
open Go.Shelf
def Try.laysSlF20_f101_ren : Go.Shelf.Ren := ⟨fun | 20 => 101 | n => n, fun | 24 => 2 | 22 => 27 | 3 => 3 | 25 => 70 | 4 => 4 | 0 => 0 | n => n, fun | n => n⟩
theorem Try.laysSlF20_f101 : Go.Proofs.SlLaysF.n20 Try.prog Try.laysSlF20_f101_ren := {
  mixed := by kernel_rfl
  f20 := ⟨Try.f101.name, by decide, Try.func101.trans (congrArg some (by kernel_rfl))⟩
  t0 := Try.underlying0
  a0 := Try.isAgg0
  z0 := Try.sizeOf0
  v0 := Try.zeroValue0
  t3 := Try.underlying3
  a3 := Try.isAgg3
  z3 := Try.sizeOf3
  v3 := Try.zeroValue3
  t4 := Try.underlying4
  a4 := Try.isAgg4
  z4 := Try.sizeOf4
  v4 := Try.zeroValue4
  t22 := Try.underlying27
  a22 := Try.isAgg27
  z22 := Try.sizeOf27
  v22 := Try.zeroValue27
  a24 := Try.isAgg2
  z24 := Try.sizeOf2
  t25 := Try.underlying70
  a25 := Try.isAgg70
  z25 := Try.sizeOf70
  v25 := Try.zeroValue70 }
open Go.RowKit Go.Lib Go.Sort in
theorem Try.insertionSortCmpFunc_one_f101 {α : Type} [Inhabited α] (enc : α → Value) (hO : OneCell enc) (cf : α → α → Int) (g : Nat) (cb : Array Value) (blk off cap a b : Nat) (d : Array α) (w : World) (eg : ∀ args w, (callFunc g args).run Try.prog w = .ok (.enter g args) w) (hcmp : CmpReads Try.prog g cb enc cf blk off d.size w) (hH : Holds enc w blk off d) (hab : a ≤ b) (hb : b ≤ d.size) (hsz : d.size < 4611686018427387904) :
    Calls Try.prog 101 #[.slice (some ⟨blk, off, none⟩) d.size cap, .int .i64 a, .int .i64 b, .func (.func g) #[] cb] w fun e w' =>
      e = .returned (.tuple #[]) ∧ ∃ n, w' = (putRow enc w blk off (Sort.insertionSort (ltOf cf) d a b)).drewN n := Any.insertionSortCmpFunc_one Try.laysSlF20_f101 enc hO cf g cb blk off cap a b d w eg hcmp hH hab hb hsz
end Go.Proofs


namespace Go.Proofs.Ytfdaifmfecfchaa
open Go.RowKit Go.Sort

/-- The key of an index: the due time of the job. -/
def dueK (js : List JobD) (x : Nat) : Int := (js.getD (x % js.length) J0).due
theorem Try.entersDue (args : Array Value) (w : World) : (callFunc 79 args).run Try.prog w = .ok (.enter 79 args) w :=
  enters_of Try.func79 (by kernel_rfl) rfl args w

/-- The closure that compares the due times of two jobs. -/
theorem dueCmp_any (i j : Nat) (bx b off n c : Nat) (x y : Int) (w : World) (hi : i < n) (hj : j < n) (hn : n ≤ 1000) (hbox : w.cell? ⟨bx, 0, none⟩ = some (.slice (some ⟨b, off, none⟩) n c))
    (d1 : w.cell? ⟨b, off + i * 4 + 1, none⟩ = some (.int .i64 x)) (d2 : w.cell? ⟨b, off + j * 4 + 1, none⟩ = some (.int .i64 y)) :
    Calls Try.prog 79 #[.int .i64 i, .int .i64 j, .pointer (some ⟨bx, 0, none⟩)] w fun e w' => e = .returned (.int .i64 (cmpI x y)) ∧ ∃ q, w' = w.drewN q := by
  have hi' : (i : Int) < n := by omega
  have hj' : (j : Int) < n := by omega
  go_enter Try.func79, Try.ntmps79
  go_wp2_with fail
  go_quiet ((go_at_call 44; exact quiet_same (cmp64_any _ _ _)))
  go_wp2_with fail
  go_ret
  exact ⟨rfl, _, rfl⟩

/-- What the sort asks of it. -/
theorem dueReads (js : List JobD) (v : Value) (bx g : Nat) (w : World) (h : RdJ w v js) (hn : 1 ≤ js.length) (hn2 : js.length ≤ 12) (hb : w.cell? ⟨bx, 0, none⟩ = some v) (hbx : bx < w.heap.size) (hbg : bx ≠ g) (hg : ∀ a, v.ownBlock = some a → a ≠ g) :
    CmpReads Try.prog 79 #[.pointer (some ⟨bx, 0, none⟩)] (encN js.length) (fun x y => cmpI (dueK js x) (dueK js y)) g 0 js.length w := by
  intro m os dk hs x y
  obtain ⟨a, c, rfl⟩ := h.shape
  have hx := Nat.mod_lt x (show 0 < js.length by omega)
  have hy := Nat.mod_lt y (show 0 < js.length by omega)
  obtain ⟨b, off, rfl, hbl, _, d1, _, _⟩ := h.at hx
  obtain ⟨b', off', e, _, _, d2, _, _⟩ := h.at hy
  simp only [Option.some.injEq, Addr.mk.injEq] at e
  obtain ⟨rfl, rfl, _⟩ := e
  have hgb : b ≠ g := hg b rfl
  have up : ∀ p : Addr, p.block < w.heap.size → p.block ≠ g → (sortWorld (encN js.length) w g 0 m dk os).cell? p = w.cell? p := by
    intro p h1 h2
    unfold sortWorld
    rw [cell?_grow _ _ _ (by simpa [putRow, mapBlock, Sort.ahead] using h1), cell?_putRow_other _ _ _ _ _ _ (.inl h2)]
    rfl
  exact dueCmp_any _ _ bx b off js.length c _ _ _ hx hy (by omega) ((up _ hbx hbg).trans hb) ((up _ hbl hgb).trans d1) ((up _ hbl hgb).trans d2)

theorem one_encN (n : Nat) : OneCell (encN n) := fun _ => rfl

theorem ltOf_due (js : List JobD) : ltOf (fun x y => cmpI (dueK js x) (dueK js y)) = ltK (dueK js) := by
  funext x y
  unfold ltOf ltK cmpI
  by_cases h1 : dueK js x < dueK js y
  · simp [h1]
  · by_cases h2 : dueK js y < dueK js x <;> simp [h1, h2]

/-- The shelf's contract of the insertion sort, whatever its name in this seat's shelf. -/
theorem insOne_any {α : Type} [Inhabited α] (enc : α → Value) (one : OneCell enc) (cf : α → α → Int) (f : Nat) (fb : Array Value) (blk off cap a b : Nat) (d : Array α) (w : World)
    (eg : ∀ args w, (callFunc f args).run Try.prog w = .ok (.enter f args) w) (hcmp : CmpReads Try.prog f fb enc cf blk off d.size w) (hH : Holds enc w blk off d) (hab : a ≤ b) (hb : b ≤ d.size) (hsz : d.size < 4611686018427387904) :
    Calls Try.prog 101 #[.slice (some ⟨blk, off, none⟩) d.size cap, .int .i64 a, .int .i64 b, .func (.func f) #[] fb] w fun e w' => e = .returned (.tuple #[]) ∧ ∃ n, w' = (putRow enc w blk off (Sort.insertionSort (ltOf cf) d a b)).drewN n := by
  first
    | exact Try.insertionSortCmpFunc_one_f101 enc one cf f fb blk off cap a b d w eg hcmp hH hab hb hsz
    | exact Try.insertionSortCmpFunc_one enc one cf f fb blk off cap a b d w eg hcmp hH hab hb hsz

theorem insDue_any (js : List JobD) (v : Value) (bx g cap : Nat) (w : World) (h : RdJ w v js) (hn : 1 ≤ js.length) (hn2 : js.length ≤ 12) (hb : w.cell? ⟨bx, 0, none⟩ = some v) (hbx : bx < w.heap.size) (hbg : bx ≠ g) (hg : ∀ a, v.ownBlock = some a → a ≠ g)
    (hH : Holds (encN js.length) w g 0 (Array.range js.length)) :
    Calls Try.prog 101 #[.slice (some ⟨g, 0, none⟩) js.length cap, .int .i64 0, .int .i64 js.length, .func (.func 79) #[] #[.pointer (some ⟨bx, 0, none⟩)]] w fun e w' =>
      e = .returned (.tuple #[]) ∧ ∃ q, w' = (putRow (encN js.length) w g 0 (ordA (dueK js) js.length)).drewN q := by
  have hs : (Array.range js.length).size = js.length := Array.size_range
  have hr := insOne_any (encN js.length) (one_encN _) (fun x y => cmpI (dueK js x) (dueK js y)) 79 #[.pointer (some ⟨bx, 0, none⟩)] g 0 cap 0 js.length (Array.range js.length) w Try.entersDue (by rw [hs]; exact dueReads js v bx g w h hn hn2 hb hbx hbg hg) hH (Nat.zero_le _) (by rw [hs]; exact Nat.le_refl _) (by rw [hs]; omega)
  rw [hs, ltOf_due] at hr
  exact hr

theorem stableDue_any (js : List JobD) (v : Value) (bx g cap : Nat) (w : World) (h : RdJ w v js) (hn : 1 ≤ js.length) (hn2 : js.length ≤ 12) (hb : w.cell? ⟨bx, 0, none⟩ = some v) (hbx : bx < w.heap.size) (hbg : bx ≠ g) (hg : ∀ a, v.ownBlock = some a → a ≠ g)
    (hH : Holds (encN js.length) w g 0 (Array.range js.length)) :
    Calls Try.prog 89 #[.slice (some ⟨g, 0, none⟩) js.length cap, .int .i64 js.length, .func (.func 79) #[] #[.pointer (some ⟨bx, 0, none⟩)]] w fun e w' =>
      e = .returned (.tuple #[]) ∧ ∃ q, w' = (putRow (encN js.length) w g 0 (ordA (dueK js) js.length)).drewN q := by
  have HC := Lib.hid (insDue_any js v bx g cap w h hn hn2 hb hbx hbg hg hH)
  have h1 : ¬ (20 : Int) ≤ js.length := by omega
  have h2 : ¬ (20 : Int) < js.length := by omega
  clear h hb hbx hbg hg hH
  go_enter Try.func89, Try.ntmps89
  go_wp2_with fail
  go_loopw [7, 8] (fun av bv wr => av = .int .i64 0 ∧ bv = .int .i64 20 ∧ w = wr) (fun _ _ _ => 0)
  case atStart => exact ⟨rfl, rfl, rfl⟩
  case round =>
    obtain ⟨rfl, rfl, rfl⟩ := hrel
    go_wp2_with (go_at_call 101; refine HC.out.mono ?_; rintro e w1 ⟨rfl, hq⟩)
    have HQ := Lib.hid hq
    clear hq
    go_loopw [6] (fun sv wr => sv = .int .i64 20 ∧ w1 = wr) (fun _ _ => 0)
    case atStart => exact ⟨rfl, rfl⟩
    case round =>
      obtain ⟨rfl, rfl⟩ := hrel
      go_wp2_with fail
      go_end0
      exact ⟨rfl, HQ.out⟩

theorem sortStable_any (js : List JobD) (v : Value) (bx g cap : Nat) (w : World) (h : RdJ w v js) (hn : 1 ≤ js.length) (hn2 : js.length ≤ 12) (hb : w.cell? ⟨bx, 0, none⟩ = some v) (hbx : bx < w.heap.size) (hbg : bx ≠ g) (hg : ∀ a, v.ownBlock = some a → a ≠ g)
    (hH : Holds (encN js.length) w g 0 (Array.range js.length)) :
    Calls Try.prog 77 #[.slice (some ⟨g, 0, none⟩) js.length cap, .func (.func 79) #[] #[.pointer (some ⟨bx, 0, none⟩)]] w fun e w' =>
      e = .returned (.tuple #[]) ∧ ∃ q, w' = (putRow (encN js.length) w g 0 (ordA (dueK js) js.length)).drewN q := by
  have HC := Lib.hid (stableDue_any js v bx g cap w h hn hn2 hb hbx hbg hg hH)
  clear h hb hbx hbg hg hH
  go_enter Try.func77, Try.ntmps77
  go_wp2_with (go_at_call 89; refine HC.out.mono ?_; rintro e w1 ⟨rfl, hq⟩)
  go_end0
  exact ⟨rfl, hq⟩

/-- The program's list of indices, sorted. -/
theorem orderBy_any (js : List JobD) (v : Value) (bx : Nat) (w : World) (h : RdJ w v js) (hn : 1 ≤ js.length) (hn2 : js.length ≤ 12) (hb : Box w bx 25 v) (hg : ∀ a, v.ownBlock = some a → a < w.heap.size) :
    Calls Try.prog 42 #[.int .i64 js.length, .func (.func 79) #[] #[.pointer (some ⟨bx, 0, none⟩)]] w fun e w' => ∃ u, e = .returned u ∧ OwnI w.heap.size w'.heap.size w' u (idxs (ordL (dueK js) js.length)) ∧ Below w.heap.size w w' := by
  have HR := Lib.hid h
  have HBx := Lib.hid hb
  have HG := Lib.hid hg
  clear h hb hg
  go_enter Try.func42, Try.ntmps42
  go_wp2_with fail
  go_loopw [5, 6] (fun out kk wr => ∃ (i : Nat) (b : Option Addr) (cap : Nat), kk = .int .i64 i ∧ i ≤ js.length ∧ out = .slice b i cap ∧ Hid (wr.ownsRow w.heap.size 2 1 (.slice b i cap) i ((idxs (List.range i)).map I64)) ∧ Hid (Below w.heap.size w wr)) (fun _ kk _ => js.length + 1 - (intOf kk).toNat)
  case atStart => exact ⟨0, none, 0, rfl, Nat.zero_le _, rfl, World.ownsRow_nil _ _ _ _, Below.refl _ _⟩
  case round =>
    obtain ⟨i, b, cap, rfl, hi, rfl, HO, HB⟩ := hrel
    by_cases hlt : i < js.length
    · have hlt' : (i : Int) < js.length := by omega
      have hsz := HB.out.size
      go_wp2_with (at_builtin; refine app_ints rfl _ _ rfl w.heap.size (.slice b i cap) i (idxs (List.range i)) rfl (HO.out.alloc _) _ [(i : Int)] rfl (slc_one _ _) (i + 1) (idxs (List.range (i + 1))) (by simp) (by unfold idxs; rw [List.range_succ, List.map_append]; rfl) (by omega) (by simp; omega) ?_; intro b2 cap2 w3 hown2 hbl2 _ _)
      go_roundw
      case rel => exact ⟨i + 1, b2, cap2, by go_num, by omega, rfl, Lib.hid hown2, Lib.hid (HB.out.trans (((Below.refl _ _).alloc hsz _).trans hbl2))⟩
      case measure => simp [intOf]; omega
    · obtain rfl : i = js.length := by omega
      obtain ⟨wo, rfl⟩ : ∃ wo, wo = wr := ⟨wr, rfl⟩
      have hnn : Value.slice b js.length cap ≠ .slice none 0 0 := by intro e; injection e with _ e _; omega
      have hmem : ∀ x, x ∈ List.range js.length → x < js.length := fun x hx => List.mem_range.1 hx
      have HO2 : Hid (wo.ownsRow w.heap.size 2 1 (.slice b js.length cap) js.length ((List.range js.length).map (encN js.length))) := Lib.hid (by rw [encN_map _ _ hmem]; exact HO.out)
      obtain ⟨g, cap', e, hbg, hgl, _, _, _, hH⟩ := Lib.holds_of_ownsRow HO2.out hnn
      injection e with e1 _ e2
      subst e1; subst e2
      have hbx := HBx.out.lt
      have HC := Lib.hid (sortStable_any js v bx g cap wo (HR.out.up HB.out (Nat.le_refl _)) hn hn2 (HBx.out.below HB.out hbx).cell (Nat.lt_of_lt_of_le hbx HB.out.size) (by omega) (fun a ha => by have := HG.out a ha; omega) (by rw [← List.toArray_range]; exact hH))
      clear hH hnn hmem
      go_wp2_with (go_at_call 77; refine HC.out.mono ?_; rintro e w1 ⟨rfl, hq⟩)
      go_ret
      obtain ⟨q, rfl⟩ := hq
      have hoL : (ordL (dueK js) js.length).length = js.length := ordL_len _ _
      have hx := Lib.ownsRow_putRow (q := 0) (k := js.length) HO2.out hoL (Nat.le_refl _)
      rw [List.take_of_length_le (by omega), encN_map _ _ (ordL_lt _ _)] at hx
      refine ⟨_, rfl, ?_, ?_⟩
      · exact OwnI.mk (n := js.length) hx
      · exact below_drewN (Lib.below_putRow (q := 0) HB.out hbg) q

/-- The program's jobs by due time. -/
theorem dueOrder_any (js : List JobD) (v : Value) (w : World) (h : RdJ w v js) (hn : 1 ≤ js.length) (hn2 : js.length ≤ 12) :
    Calls Try.prog 45 #[v] w fun e w' => ∃ u, e = .returned u ∧ OwnI w.heap.size w'.heap.size w' u (idxs (ordL (dueK js) js.length)) ∧ Below w.heap.size w w' := by
  obtain ⟨b0, off, hb0, hv⟩ : ∃ b0 off, b0 < w.heap.size ∧ ∃ c, v = .slice (some ⟨b0, off, none⟩) js.length c := by
    obtain ⟨a, c, rfl⟩ := h.shape
    obtain ⟨b, off, rfl, hb, _⟩ := h.at (show 0 < js.length by omega)
    exact ⟨b, off, hb, c, rfl⟩
  obtain ⟨c, rfl⟩ := hv
  have HR := Lib.hid h
  clear h
  have hbl : Below w.heap.size w (w.alloc (.cells #[.slice (some ⟨b0, off, none⟩) js.length c] 25)) := (Below.refl _ _).alloc (Nat.le_refl _) _
  have HB := Lib.hid hbl
  have HC := Lib.hid (orderBy_any js (.slice (some ⟨b0, off, none⟩) js.length c) w.heap.size (w.alloc (.cells #[.slice (some ⟨b0, off, none⟩) js.length c] 25)) (HR.out.up hbl (Nat.le_refl _)) hn hn2 (Box.new w _ _) (fun a ha => by
    have : b0 = a := Option.some.inj ha
    simp; omega))
  clear hbl
  go_enter Try.func45, Try.ntmps45
  go_wp2_with (go_at_call 42; refine HC.out.mono ?_; rintro e w1 ⟨u, rfl, ho, hb1⟩)
  go_ret
  exact ⟨_, rfl, ho.wide (by simp) (Nat.le_refl _), HB.out.trans (hb1.mono (by simp))⟩

end Go.Proofs.Ytfdaifmfecfchaa

namespace Go.Proofs.Ytfdaifmfecfchaa
open Go.RowKit Go.Sort

/-- Indices in the order of a comparison. -/
def ordCA (cf : Nat → Nat → Int) (n : Nat) : Array Nat := Sort.insertionSort (ltOf cf) (Array.range n) 0 n
def ordC (cf : Nat → Nat → Int) (n : Nat) : List Nat := (ordCA cf n).toList
theorem ordCA_perm {cf : Nat → Nat → Int} (hs : SWO (ltOf cf)) (n : Nat) : PermIn 0 n (Array.range n) (ordCA cf n) :=
  (insertionSort_holds hs (Array.range n) 0 n (Nat.zero_le _) (by simp)).1
theorem ordCA_size {cf : Nat → Nat → Int} (hs : SWO (ltOf cf)) (n : Nat) : (ordCA cf n).size = n := by rw [(ordCA_perm hs n).1]; simp
theorem ordC_len {cf : Nat → Nat → Int} (hs : SWO (ltOf cf)) (n : Nat) : (ordC cf n).length = n := by unfold ordC; rw [Array.length_toList, ordCA_size hs]
theorem ordC_perm {cf : Nat → Nat → Int} (hs : SWO (ltOf cf)) (n : Nat) : (ordC cf n).Perm (List.range n) := by
  have h := (ordCA_perm hs n).2.2
  have e0 : ∀ (a : Array Nat) k, a.size = k → a.extract 0 k = a := by
    rintro a _ rfl
    exact Array.extract_size
  have e1 := e0 _ _ (ordCA_size hs n)
  have e2 := e0 (Array.range n) n (by simp)
  rw [e1, e2, Array.toList_range] at h
  exact h
theorem ordC_lt {cf : Nat → Nat → Int} (hs : SWO (ltOf cf)) (n : Nat) : ∀ x ∈ ordC cf n, x < n := fun x hx => List.mem_range.1 ((ordC_perm hs n).mem_iff.1 hx)

theorem stableC_any (f : Nat) (fb : Array Value) (eg : ∀ args w, (callFunc f args).run Try.prog w = .ok (.enter f args) w) (cf : Nat → Nat → Int) (g n cap : Nat) (hn1 : 1 ≤ n) (hn2 : n ≤ 12) (w : World) (hcmp : CmpReads Try.prog f fb (encN n) cf g 0 n w) (hH : Holds (encN n) w g 0 (Array.range n)) :
    Calls Try.prog 89 #[.slice (some ⟨g, 0, none⟩) n cap, .int .i64 n, .func (.func f) #[] fb] w fun e w' =>
      e = .returned (.tuple #[]) ∧ ∃ q, w' = (putRow (encN n) w g 0 (ordCA cf n)).drewN q := by
  have hs : (Array.range n).size = n := Array.size_range
  have HC := insOne_any (encN n) (one_encN _) cf f fb g 0 cap 0 n (Array.range n) w eg (by rw [hs]; exact hcmp) hH (Nat.zero_le _) (by rw [hs]; exact Nat.le_refl _) (by rw [hs]; omega)
  rw [hs] at HC
  have HC := Lib.hid HC
  have h1 : ¬ (20 : Int) ≤ n := by omega
  have h2 : ¬ (20 : Int) < n := by omega
  clear hcmp hH eg
  go_enter Try.func89, Try.ntmps89
  go_wp2_with fail
  go_loopw [7, 8] (fun av bv wr => av = .int .i64 0 ∧ bv = .int .i64 20 ∧ w = wr) (fun _ _ _ => 0)
  case atStart => exact ⟨rfl, rfl, rfl⟩
  case round =>
    obtain ⟨rfl, rfl, rfl⟩ := hrel
    go_wp2_with (go_at_call 101; refine HC.out.mono ?_; rintro e w1 ⟨rfl, hq⟩)
    have HQ := Lib.hid hq
    clear hq
    go_loopw [6] (fun sv wr => sv = .int .i64 20 ∧ w1 = wr) (fun _ _ => 0)
    case atStart => exact ⟨rfl, rfl⟩
    case round =>
      obtain ⟨rfl, rfl⟩ := hrel
      go_wp2_with fail
      go_end0
      exact ⟨rfl, HQ.out⟩

theorem sortStableC_any (f : Nat) (fb : Array Value) (eg : ∀ args w, (callFunc f args).run Try.prog w = .ok (.enter f args) w) (cf : Nat → Nat → Int) (g n cap : Nat) (hn1 : 1 ≤ n) (hn2 : n ≤ 12) (w : World) (hcmp : CmpReads Try.prog f fb (encN n) cf g 0 n w) (hH : Holds (encN n) w g 0 (Array.range n)) :
    Calls Try.prog 77 #[.slice (some ⟨g, 0, none⟩) n cap, .func (.func f) #[] fb] w fun e w' =>
      e = .returned (.tuple #[]) ∧ ∃ q, w' = (putRow (encN n) w g 0 (ordCA cf n)).drewN q := by
  have HC := Lib.hid (stableC_any f fb eg cf g n cap hn1 hn2 w hcmp hH)
  clear hcmp hH
  go_enter Try.func77, Try.ntmps77
  go_wp2_with (go_at_call 89; refine HC.out.mono ?_; rintro e w1 ⟨rfl, hq⟩)
  go_end0
  exact ⟨rfl, hq⟩

/-- The program's list of indices, sorted by a comparison. -/
theorem orderByC_any (f : Nat) (fb : Array Value) (eg : ∀ args w, (callFunc f args).run Try.prog w = .ok (.enter f args) w) (cf : Nat → Nat → Int) (hs : SWO (ltOf cf)) (n : Nat) (hn1 : 1 ≤ n) (hn2 : n ≤ 12) (w : World) (hcmp : ∀ w0 g, Below w.heap.size w w0 → w.heap.size ≤ g → CmpReads Try.prog f fb (encN n) cf g 0 n w0) :
    Calls Try.prog 42 #[.int .i64 n, .func (.func f) #[] fb] w fun e w' => ∃ u, e = .returned u ∧ OwnI w.heap.size w'.heap.size w' u (idxs (ordC cf n)) ∧ Below w.heap.size w w' := by
  have HCMP := Lib.hid hcmp
  have HSW := Lib.hid hs
  clear hcmp hs
  go_enter Try.func42, Try.ntmps42
  go_wp2_with fail
  go_loopw [5, 6] (fun out kk wr => ∃ (i : Nat) (b : Option Addr) (cap : Nat), kk = .int .i64 i ∧ i ≤ n ∧ out = .slice b i cap ∧ Hid (wr.ownsRow w.heap.size 2 1 (.slice b i cap) i ((idxs (List.range i)).map I64)) ∧ Hid (Below w.heap.size w wr)) (fun _ kk _ => n + 1 - (intOf kk).toNat)
  case atStart => exact ⟨0, none, 0, rfl, Nat.zero_le _, rfl, World.ownsRow_nil _ _ _ _, Below.refl _ _⟩
  case round =>
    obtain ⟨i, b, cap, rfl, hi, rfl, HO, HB⟩ := hrel
    by_cases hlt : i < n
    · have hlt' : (i : Int) < n := by omega
      have hsz := HB.out.size
      go_wp2_with (at_builtin; refine app_ints rfl _ _ rfl w.heap.size (.slice b i cap) i (idxs (List.range i)) rfl (HO.out.alloc _) _ [(i : Int)] rfl (slc_one _ _) (i + 1) (idxs (List.range (i + 1))) (by simp) (by unfold idxs; rw [List.range_succ, List.map_append]; rfl) (by omega) (by simp; omega) ?_; intro b2 cap2 w3 hown2 hbl2 _ _)
      go_roundw
      case rel => exact ⟨i + 1, b2, cap2, by go_num, by omega, rfl, Lib.hid hown2, Lib.hid (HB.out.trans (((Below.refl _ _).alloc hsz _).trans hbl2))⟩
      case measure => simp [intOf]; omega
    · obtain rfl : i = n := by omega
      obtain ⟨wo, rfl⟩ : ∃ wo, wo = wr := ⟨wr, rfl⟩
      have hnn : Value.slice b i cap ≠ .slice none 0 0 := by intro e; injection e with _ e _; omega
      have hmem : ∀ x, x ∈ List.range i → x < i := fun x hx => List.mem_range.1 hx
      have HO2 : Hid (wo.ownsRow w.heap.size 2 1 (.slice b i cap) i ((List.range i).map (encN i))) := Lib.hid (by rw [encN_map _ _ hmem]; exact HO.out)
      obtain ⟨g, cap', e, hbg, hgl, _, _, _, hH⟩ := Lib.holds_of_ownsRow HO2.out hnn
      injection e with e1 _ e2
      subst e1; subst e2
      have HC := Lib.hid (sortStableC_any f fb eg cf g i cap hn1 hn2 wo (HCMP.out wo g HB.out hbg) (by rw [← List.toArray_range]; exact hH))
      clear hH hnn hmem
      go_wp2_with (go_at_call 77; refine HC.out.mono ?_; rintro e w1 ⟨rfl, hq⟩)
      go_ret
      obtain ⟨q, rfl⟩ := hq
      have hoL : (ordC cf i).length = i := ordC_len HSW.out _
      have hx := Lib.ownsRow_putRow (q := 0) (k := i) HO2.out hoL (Nat.le_refl _)
      rw [List.take_of_length_le (by omega), encN_map _ _ (ordC_lt HSW.out _)] at hx
      refine ⟨_, rfl, ?_, ?_⟩
      · exact OwnI.mk (n := i) hx
      · exact below_drewN (Lib.below_putRow (q := 0) HB.out hbg) q

end Go.Proofs.Ytfdaifmfecfchaa

namespace Go.Proofs.Ytfdaifmfecfchaa
open Go.RowKit

theorem jobs_all {js : List JobD} (h : areJobsB js = true) : 1 ≤ js.length ∧ js.length ≤ 12 ∧ ∀ i, i < js.length → (1 ≤ (js.getD i J0).long ∧ (js.getD i J0).long ≤ 1000) ∧ (0 ≤ (js.getD i J0).due ∧ (js.getD i J0).due ≤ 100000) ∧ (0 ≤ (js.getD i J0).ready ∧ (js.getD i J0).ready ≤ 100000) ∧ 0 ≤ (js.getD i J0).weight ∧ (js.getD i J0).weight ≤ 1000 := by
  unfold areJobsB at h
  rw [Bool.and_eq_true, inB_iff, allB_iff] at h
  refine ⟨by omega, by omega, fun i hi => ?_⟩
  have := h.2 i hi
  unfold jobB at this
  simp only [Bool.and_eq_true, inB_iff] at this
  omega

/-- The end of those ready at a time or later, from that time on, among the first ones. -/
def headK (js : List JobD) (r : Int) : Nat → Int
  | 0 => r
  | m + 1 => if r ≤ (js.getD m J0).ready then headK js r m + (js.getD m J0).long else headK js r m
def headsK (js : List JobD) : Nat → Int
  | 0 => 0
  | j + 1 => max (headsK js j) (headK js (js.getD j J0).ready js.length)
def headsN (js : List JobD) : Int := if areJobsB js = true then headsK js js.length else 0
theorem headK_rng {js : List JobD} (h : ∀ i, i < js.length → (js.getD i J0).long ≤ 1000 ∧ 0 ≤ (js.getD i J0).long) (r : Int) : ∀ m, m ≤ js.length → r ≤ headK js r m ∧ headK js r m ≤ r + 1000 * m
  | 0, _ => by simp [headK]
  | m + 1, hm => by
    have ih := headK_rng h r m (by omega)
    have := h m (by omega)
    simp only [headK]
    split <;> push_cast <;> omega

end Go.Proofs.Ytfdaifmfecfchaa

namespace Go.Proofs.Ytfdaifmfecfchaa
open Go.RowKit Go.Sort

def longJ (js : List JobD) (x : Nat) : Int := (js.getD (x % js.length) J0).long
def wgtJ (js : List JobD) (x : Nat) : Int := (js.getD (x % js.length) J0).weight
def smithC (js : List JobD) (x y : Nat) : Int := cmpI (wgtJ js y * longJ js x) (wgtJ js x * longJ js y)
theorem cmpI_neg (x y : Int) : decide (cmpI x y < 0) = decide (x < y) := by
  unfold cmpI
  by_cases h1 : x < y
  · simp [h1]
  · by_cases h2 : y < x <;> simp [h1, h2]
theorem ltOf_cmp (f g : Nat → Nat → Int) : ltOf (fun x y => cmpI (f x y) (g x y)) = fun x y => decide (f x y < g x y) := by
  funext x y
  exact cmpI_neg _ _
theorem smith_lt {js : List JobD} (h : areJobsB js = true) (x : Nat) : 1 ≤ longJ js x ∧ longJ js x ≤ 1000 ∧ 0 ≤ wgtJ js x ∧ wgtJ js x ≤ 1000 := by
  obtain ⟨h1, _, h3⟩ := jobs_all h
  have := h3 (x % js.length) (Nat.mod_lt _ (by omega))
  unfold longJ wgtJ
  omega
theorem swo_smith {js : List JobD} (h : areJobsB js = true) : SWO (ltOf (smithC js)) := by
  have e : ltOf (smithC js) = fun x y => decide (wgtJ js y * longJ js x < wgtJ js x * longJ js y) := ltOf_cmp (fun x y => wgtJ js y * longJ js x) (fun x y => wgtJ js x * longJ js y)
  rw [e]
  refine ⟨fun x => by simp, fun x y z h1 h2 => ?_, fun x y z h1 h2 => ?_⟩
  · simp only [decide_eq_true_eq] at h1 h2 ⊢
    have lx := (smith_lt h x).1
    have ly := (smith_lt h y).1
    have lz := (smith_lt h z).1
    have a := Int.mul_lt_mul_of_pos_right h1 (show 0 < longJ js z by omega)
    have b := Int.mul_lt_mul_of_pos_right h2 (show 0 < longJ js x by omega)
    have c : wgtJ js z * longJ js x * longJ js y < wgtJ js x * longJ js z * longJ js y := by
      rw [Int.mul_right_comm (wgtJ js z), Int.mul_right_comm (wgtJ js x)]
      rw [Int.mul_right_comm (wgtJ js y)] at a
      exact Int.lt_trans b a
    exact Int.lt_of_mul_lt_mul_right c (by omega)
  · simp only [decide_eq_false_iff_not, Int.not_lt] at h1 h2 ⊢
    have lx := (smith_lt h x).1
    have ly := (smith_lt h y).1
    have lz := (smith_lt h z).1
    have a := Int.mul_le_mul_of_nonneg_right h1 (show 0 ≤ longJ js z by omega)
    have b := Int.mul_le_mul_of_nonneg_right h2 (show 0 ≤ longJ js x by omega)
    have c : wgtJ js x * longJ js z * longJ js y ≤ wgtJ js z * longJ js x * longJ js y := by
      rw [Int.mul_right_comm (wgtJ js z), Int.mul_right_comm (wgtJ js x)]
      rw [Int.mul_right_comm (wgtJ js y)] at a
      exact Int.le_trans a b
    exact Int.le_of_mul_le_mul_right c (by omega)

end Go.Proofs.Ytfdaifmfecfchaa

namespace Go.Proofs.Ytfdaifmfecfchaa
open Go.RowKit Go.Sort

theorem Try.entersSmith (args : Array Value) (w : World) : (callFunc 43 args).run Try.prog w = .ok (.enter 43 args) w :=
  enters_of Try.func43 (by kernel_rfl) rfl args w

theorem smithCmp_any (i j : Nat) (bx b off n c : Nat) (lx ly gx gy : Int) (w : World) (hi : i < n) (hj : j < n) (hn : n ≤ 1000) (hbox : w.cell? ⟨bx, 0, none⟩ = some (.slice (some ⟨b, off, none⟩) n c))
    (d1 : w.cell? ⟨b, off + i * 4, none⟩ = some (.int .i64 lx)) (d2 : w.cell? ⟨b, off + j * 4, none⟩ = some (.int .i64 ly)) (d3 : w.cell? ⟨b, off + i * 4 + 2, none⟩ = some (.int .i64 gx)) (d4 : w.cell? ⟨b, off + j * 4 + 2, none⟩ = some (.int .i64 gy))
    (h1 : IntKind.i64.wrap (gy * lx) = gy * lx) (h2 : IntKind.i64.wrap (gx * ly) = gx * ly) :
    Calls Try.prog 43 #[.int .i64 i, .int .i64 j, .pointer (some ⟨bx, 0, none⟩)] w fun e w' => e = .returned (.int .i64 (cmpI (gy * lx) (gx * ly))) ∧ ∃ q, w' = w.drewN q := by
  have hi' : (i : Int) < n := by omega
  have hj' : (j : Int) < n := by omega
  go_enter Try.func43, Try.ntmps43
  go_wp2_with fail
  go_quiet ((go_at_call 44; exact quiet_same (cmp64_any _ _ _)))
  go_wp2_with fail
  go_ret
  exact ⟨rfl, _, rfl⟩

theorem wrap_small {x y : Int} (hx : 0 ≤ x ∧ x ≤ 100000) (hy : 0 ≤ y ∧ y ≤ 100000) : IntKind.i64.wrap (x * y) = x * y := by
  refine IntWalk.i64_in _ ?_
  have h1 : 0 ≤ x * y := Int.mul_nonneg hx.1 hy.1
  have h2 : x * y ≤ 100000 * 100000 := Int.mul_le_mul hx.2 hy.2 hy.1 (by decide)
  omega

theorem smithReads {js : List JobD} (hok : areJobsB js = true) (v : Value) (bx g : Nat) (w : World) (h : RdJ w v js) (hb : w.cell? ⟨bx, 0, none⟩ = some v) (hbx : bx < w.heap.size) (hbg : bx ≠ g) (hg : ∀ a, v.ownBlock = some a → a ≠ g) :
    CmpReads Try.prog 43 #[.pointer (some ⟨bx, 0, none⟩)] (encN js.length) (smithC js) g 0 js.length w := by
  intro m os dk hs x y
  obtain ⟨hn, hn2, _⟩ := jobs_all hok
  obtain ⟨a, c, rfl⟩ := h.shape
  have hx := Nat.mod_lt x (show 0 < js.length by omega)
  have hy := Nat.mod_lt y (show 0 < js.length by omega)
  obtain ⟨b, off, rfl, hbl, d1, _, d3, _⟩ := h.at hx
  obtain ⟨b', off', e, _, d2, _, d4, _⟩ := h.at hy
  simp only [Option.some.injEq, Addr.mk.injEq] at e
  obtain ⟨rfl, rfl, _⟩ := e
  have hgb : b ≠ g := hg b rfl
  have up : ∀ p : Addr, p.block < w.heap.size → p.block ≠ g → (sortWorld (encN js.length) w g 0 m dk os).cell? p = w.cell? p := by
    intro p h1 h2
    unfold sortWorld
    rw [cell?_grow _ _ _ (by simpa [putRow, mapBlock, Sort.ahead] using h1), cell?_putRow_other _ _ _ _ _ _ (.inl h2)]
    rfl
  have sx := smith_lt hok x
  have sy := smith_lt hok y
  exact smithCmp_any _ _ bx b off js.length c (longJ js x) (longJ js y) (wgtJ js x) (wgtJ js y) _ hx hy (by omega) ((up _ hbx hbg).trans hb) ((up _ hbl hgb).trans d1) ((up _ hbl hgb).trans d2) ((up _ hbl hgb).trans d3) ((up _ hbl hgb).trans d4) (wrap_small (by omega) (by omega)) (wrap_small (by omega) (by omega))

def smithL (js : List JobD) : List Int := if areJobsB js = true then idxs (ordC (smithC js) js.length) else []

set_option maxHeartbeats 2000000 in
theorem smithI_any (v : Value) (js : List JobD) (w : World) (h : RdJ w v js) :
    Calls Try.prog 14 #[v] w fun e w' => ∃ u, e = .returned (.tuple #[u, .bool (areJobsB js)]) ∧ OwnI w.heap.size w'.heap.size w' u (smithL js) ∧ Below w.heap.size w w' := by
  obtain ⟨q, hq⟩ : ∃ q, areJobsB js = q := ⟨_, rfl⟩
  have HQ := Lib.hid hq
  obtain ⟨va, vc, rfl⟩ := h.shape
  have HR := Lib.hid h
  have HA := Lib.hid (fun X (hb : Below w.heap.size w X) => AreJobs_any _ js X (h.up hb (Nat.le_refl _)))
  rw [hq] at HA ⊢
  clear hq h
  cases q
  · go_enter Try.func14, Try.ntmps14
    go_upto_region 1 with fail
    refine wp_at fun W0 hW0 => ?_
    have HB0 := Lib.hid (show Below w.heap.size w W0 by subst hW0; (repeat' first | exact Below.refl _ _ | assumption | refine Below.alloc ?_ ?_ _ | refine Below.setCell ?_ ?_ _ | refine Below.drew ?_ | (simp; done) | (simp; omega)))
    have HK0 := Lib.hid (show Box W0 w.heap.size 25 (.slice va js.length vc) by subst hW0; exact Box.new _ _ _)
    have hz0 := HB0.out.size
    clear hW0
    have d0 := HK0.out.cell
    go_wp2_with (go_at_call 41; refine (HA.out W0 HB0.out).mono ?_; rintro e w0 ⟨rfl, hb0⟩)
    go_ret2
    exact ⟨_, rfl, by rw [show smithL js = [] by unfold smithL; rw [HQ.out]; rfl]; exact ⟨World.ownsRow_nil _ _ _ _, by intro g hg; cases hg⟩, HB0.out.trans (hb0.mono hz0)⟩
  · obtain ⟨hn, hn2, _⟩ := jobs_all HQ.out
    have hown : ∀ a, (Value.slice va js.length vc).ownBlock = some a → a < w.heap.size := fun a ha => by
      obtain ⟨b, off, rfl, hb, _⟩ := HR.out.at (i := 0) (by omega)
      have : b = a := Option.some.inj ha
      omega
    have HOB := Lib.hid hown
    have HOD := Lib.hid (fun X (hb : Below w.heap.size w X) (hk : Box X w.heap.size 25 (.slice va js.length vc)) (hz : w.heap.size < X.heap.size) => orderByC_any 43 #[.pointer (some ⟨w.heap.size, 0, none⟩)] Try.entersSmith (smithC js) (swo_smith HQ.out) js.length hn hn2 X (fun w0 g hb0 hg => smithReads HQ.out _ w.heap.size g w0 ((HR.out.up hb (Nat.le_refl _)).up hb0 (Nat.le_refl _)) (hk.below hb0 hz).cell (Nat.lt_of_lt_of_le hz hb0.size) (by omega) (fun a ha => by have := HOB.out a ha; omega)))
    clear hown
    go_enter Try.func14, Try.ntmps14
    go_upto_region 1 with fail
    refine wp_at fun W0 hW0 => ?_
    have HB0 := Lib.hid (show Below w.heap.size w W0 by subst hW0; (repeat' first | exact Below.refl _ _ | assumption | refine Below.alloc ?_ ?_ _ | refine Below.setCell ?_ ?_ _ | refine Below.drew ?_ | (simp; done) | (simp; omega)))
    have HK0 := Lib.hid (show Box W0 w.heap.size 25 (.slice va js.length vc) by subst hW0; exact Box.new _ _ _)
    have hz0 := HB0.out.size
    have hk0 := HK0.out.lt
    clear hW0
    have d0 := HK0.out.cell
    go_upto_region 3 with (go_at_call 41; refine (HA.out W0 HB0.out).mono ?_; rintro e w0 ⟨rfl, hb0⟩; have HB1 := Lib.hid (HB0.out.trans (hb0.mono hz0)); have HK1 := Lib.hid (HK0.out.below hb0 hk0))
    have hz1 := HB1.out.size
    clear d0
    have d0 := HK1.out.cell
    go_wp2_with (go_at_call 42; refine (HOD.out w0 HB1.out HK1.out HK1.out.lt).mono ?_; rintro e w1 ⟨u, rfl, ho, hb1⟩)
    go_ret2
    exact ⟨_, rfl, by rw [show smithL js = idxs (ordC (smithC js) js.length) by unfold smithL; rw [HQ.out]; rfl]; exact ho.wide hz1 (Nat.le_refl _), HB1.out.trans (hb1.mono hz1)⟩

end Go.Proofs.Ytfdaifmfecfchaa

namespace Go.Proofs.Ytfdaifmfecfchaa
open Go.RowKit Go.Sort

/-- The first one of the least among the first ones. -/
def minK (l : List Int) : Nat → Nat
  | 0 => 0
  | k + 1 => if l.getD k 0 < l.getD (minK l k) 0 then k else minK l k
theorem minK_lt (l : List Int) : ∀ k, minK l (k + 1) ≤ k
  | 0 => by
    show (if l.getD 0 0 < l.getD 0 0 then 0 else 0) ≤ 0
    simp
  | k + 1 => by
    have ih := minK_lt l k
    show (if l.getD (k + 1) 0 < l.getD (minK l (k + 1)) 0 then k + 1 else minK l (k + 1)) ≤ k + 1
    split <;> omega
theorem minK_le (l : List Int) (m k : Nat) (hm : 0 < m) (hk : k ≤ m) : minK l k < m := by
  cases k with
  | zero => exact hm
  | succ k => have := minK_lt l k; omega
def maxK (l : List Int) : Nat → Int
  | 0 => l.getD 0 0
  | k + 1 => max (maxK l k) (l.getD (k + 1) 0)
def maxL (l : List Int) : Int := maxK l (l.length - 1)
/-- What machines the first jobs of an order have, and how long each machine is used. -/
def listK (js : List JobD) (os : List Int) (m : Nat) : Nat → List Int × List Int
  | 0 => (List.replicate js.length 0, List.replicate m 0)
  | k + 1 => ((listK js os m k).1.set (os.getD k 0).toNat (minK (listK js os m k).2 m : Nat),
      (listK js os m k).2.set (minK (listK js os m k).2 m) ((listK js os m k).2.getD (minK (listK js os m k).2 m) 0 + (js.getD (os.getD k 0).toNat J0).long))
def listO (js : List JobD) (os : List Int) (m : Nat) : List Int := (listK js os m os.length).1
def listE (js : List JobD) (os : List Int) (m : Nat) : Int := maxL (listK js os m os.length).2
theorem listK_len (js : List JobD) (os : List Int) (m : Nat) : ∀ k, (listK js os m k).1.length = js.length ∧ (listK js os m k).2.length = m
  | 0 => by simp [listK]
  | k + 1 => by
    have ih := listK_len js os m k
    simp only [listK, List.length_set]
    exact ih
theorem listK_rng {js : List JobD} (h : ∀ i, i < js.length → (js.getD i J0).long ≤ 1000 ∧ 0 ≤ (js.getD i J0).long) {os : List Int} (ho : ∀ k, k < os.length → (os.getD k 0).toNat < js.length) (m : Nat) : ∀ k, k ≤ os.length → ∀ f, 0 ≤ (listK js os m k).2.getD f 0 ∧ (listK js os m k).2.getD f 0 ≤ 1000 * k
  | 0, _, f => by
    simp only [listK, List.getD_eq_getElem?_getD, List.getElem?_replicate]
    split <;> simp
  | k + 1, hk, f => by
    have ih := listK_rng h ho m k (by omega)
    have hj := h _ (ho k (by omega))
    simp only [listK]
    rw [List.getD_eq_getElem?_getD, List.getElem?_set]
    have a := ih (minK (listK js os m k).2 m)
    have b := ih f
    rw [List.getD_eq_getElem?_getD] at b
    by_cases e : minK (listK js os m k).2 m = f
    · by_cases e2 : minK (listK js os m k).2 m < (listK js os m k).2.length
      · rw [if_pos e, if_pos e2]
        simp only [Option.getD_some]
        push_cast
        omega
      · rw [if_pos e, if_neg e2]
        show (0 : Int) ≤ 0 ∧ (0 : Int) ≤ 1000 * ((k + 1 : Nat) : Int)
        omega
    · rw [if_neg e]
      push_cast
      omega

end Go.Proofs.Ytfdaifmfecfchaa
