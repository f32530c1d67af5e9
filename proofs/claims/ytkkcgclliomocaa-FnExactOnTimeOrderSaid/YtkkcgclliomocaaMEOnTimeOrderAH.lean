/-
  FnExactOnTimeOrder: texts joined: SortI, OntM, Del, Step, AppL.
-/
import Derived.Lib.OwnBridge
import Derived.BigQuiet
import Derived.Shelf.SlicesE.Delete
import Derived.Deep.RegionHeld3
import Derived.Deep.CutRange
import Derived.Maps.AppendAt
import Derived.Test.YtkkcgclliomocaaMEOnTimeOrderAA
import Derived.Test.YtkkcgclliomocaaMEOnTimeOrderAF
import Derived.Test.YtkkcgclliomocaaMEOnTimeOrderAG
namespace Go.Proofs.Ytkkcgclliomocaa
open Go.RowKit Go.Sort

def cmpI (x y : Int) : Int := if x < y then -1 else if y < x then 1 else 0
/-- The key of an index: the due time of the job. -/
def dueK (js : List JobD) (x : Nat) : Int := (js.getD (x % js.length) J0).due
def idxs (L : List Nat) : List Int := L.map fun k : Nat => (k : Int)
theorem idxs_len (L : List Nat) : (idxs L).length = L.length := by simp [idxs]
def encN (n x : Nat) : Value := I64 ((x % n : Nat) : Int)
theorem encN_map (n : Nat) (L : List Nat) (h : ∀ x, x ∈ L → x < n) : L.map (encN n) = (idxs L).map I64 := by
  unfold idxs
  rw [List.map_map]
  exact List.map_congr_left fun x hx => by simp [encN, Nat.mod_eq_of_lt (h x hx)]

theorem isNaN64_any (x : Int) (w : World) : Calls Try.prog 146 #[.int .i64 x] w fun e w' => e = .returned (.bool false) ∧ w = w' := by
  have h : (x != x) = false := by simp
  go_enter Try.func146, Try.ntmps146
  go_wp2_with fail
  go_ret
  exact ⟨rfl, rfl⟩

theorem cmp64_any (x y : Int) (w : World) : Calls Try.prog 126 #[.int .i64 x, .int .i64 y] w fun e w' => e = .returned (.int .i64 (cmpI x y)) ∧ w = w' := by
  go_enter Try.func126, Try.ntmps126
  by_cases h1 : x < y
  · have hc := Lib.hid (show cmpI x y = -1 by unfold cmpI; rw [if_pos h1])
    go_wp2_with (go_at_call 146; refine (isNaN64_any _ _).mono ?_; rintro e w' ⟨rfl, rfl⟩)
    go_ret
    exact ⟨by rw [hc.out]; rfl, rfl⟩
  · by_cases h2 : y < x
    · have hc := Lib.hid (show cmpI x y = 1 by unfold cmpI; rw [if_neg h1, if_pos h2])
      go_wp2_with (go_at_call 146; refine (isNaN64_any _ _).mono ?_; rintro e w' ⟨rfl, rfl⟩)
      go_ret
      exact ⟨by rw [hc.out]; rfl, rfl⟩
    · have hc := Lib.hid (show cmpI x y = 0 by unfold cmpI; rw [if_neg h1, if_neg h2])
      go_wp2_with (go_at_call 146; refine (isNaN64_any _ _).mono ?_; rintro e w' ⟨rfl, rfl⟩)
      go_ret
      exact ⟨by rw [hc.out]; rfl, rfl⟩

theorem Try.entersDue (args : Array Value) (w : World) : (callFunc 125 args).run Try.prog w = .ok (.enter 125 args) w :=
  enters_of Try.func125 (by kernel_rfl) rfl args w

/-- The closure that compares the due times of two jobs. -/
theorem dueCmp_any (i j : Nat) (bx b off n c : Nat) (x y : Int) (w : World) (hi : i < n) (hj : j < n) (hn : n ≤ 1000) (hbox : w.cell? ⟨bx, 0, none⟩ = some (.slice (some ⟨b, off, none⟩) n c))
    (d1 : w.cell? ⟨b, off + i * 4 + 1, none⟩ = some (.int .i64 x)) (d2 : w.cell? ⟨b, off + j * 4 + 1, none⟩ = some (.int .i64 y)) :
    Calls Try.prog 125 #[.int .i64 i, .int .i64 j, .pointer (some ⟨bx, 0, none⟩)] w fun e w' => e = .returned (.int .i64 (cmpI x y)) ∧ ∃ q, w' = w.drewN q := by
  have hi' : (i : Int) < n := by omega
  have hj' : (j : Int) < n := by omega
  go_enter Try.func125, Try.ntmps125
  go_wp2_with fail
  go_quiet ((go_at_call 126; exact quiet_same (cmp64_any _ _ _)))
  go_wp2_with fail
  go_ret
  exact ⟨rfl, _, rfl⟩

/-- What the sort asks of it. -/
theorem dueReads (js : List JobD) (v : Value) (bx g : Nat) (w : World) (h : RdJ w v js) (hn : 1 ≤ js.length) (hn2 : js.length ≤ 12) (hb : w.cell? ⟨bx, 0, none⟩ = some v) (hbx : bx < w.heap.size) (hbg : bx ≠ g) (hg : ∀ a, v.ownBlock = some a → a ≠ g) :
    CmpReads Try.prog 125 #[.pointer (some ⟨bx, 0, none⟩)] (encN js.length) (fun x y => cmpI (dueK js x) (dueK js y)) g 0 js.length w := by
  intro m os dk hs x y
  obtain ⟨a, c, rfl⟩ := h.shape
  have hx := Nat.mod_lt x (show 0 < js.length by omega)
  have hy := Nat.mod_lt y (show 0 < js.length by omega)
  obtain ⟨b, off, rfl, hbl, _, d1, _, _⟩ := h.at hx
  obtain ⟨b', off', e, _, _, d2, _, _⟩ := h.at hy
  simp only [Option.some.injEq, Addr.mk.injEq] at e
  obtain ⟨rfl, rfl, _⟩ := e
  have hgb : b ≠ g := hg b rfl
  have up : ∀ p : Addr, p.block < w.heap.size → p.block ≠ g → (sortWorld (encN js.length) w g 0 m dk os).cell? p = w.cell? p := by
    intro p h1 h2
    unfold sortWorld
    rw [cell?_grow _ _ _ (by simpa [putRow, mapBlock, Sort.ahead] using h1), cell?_putRow_other _ _ _ _ _ _ (.inl h2)]
    rfl
  exact dueCmp_any _ _ bx b off js.length c _ _ _ hx hy (by omega) ((up _ hbx hbg).trans hb) ((up _ hbl hgb).trans d1) ((up _ hbl hgb).trans d2)

theorem one_encN (n : Nat) : OneCell (encN n) := fun _ => rfl

theorem ltOf_due (js : List JobD) : ltOf (fun x y => cmpI (dueK js x) (dueK js y)) = ltK (dueK js) := by
  funext x y
  unfold ltOf ltK cmpI
  by_cases h1 : dueK js x < dueK js y
  · simp [h1]
  · by_cases h2 : dueK js y < dueK js x <;> simp [h1, h2]

theorem insDue_any (js : List JobD) (v : Value) (bx g cap : Nat) (w : World) (h : RdJ w v js) (hn : 1 ≤ js.length) (hn2 : js.length ≤ 12) (hb : w.cell? ⟨bx, 0, none⟩ = some v) (hbx : bx < w.heap.size) (hbg : bx ≠ g) (hg : ∀ a, v.ownBlock = some a → a ≠ g)
    (hH : Holds (encN js.length) w g 0 (Array.range js.length)) :
    Calls Try.prog 157 #[.slice (some ⟨g, 0, none⟩) js.length cap, .int .i64 0, .int .i64 js.length, .func (.func 125) #[] #[.pointer (some ⟨bx, 0, none⟩)]] w fun e w' =>
      e = .returned (.tuple #[]) ∧ ∃ q, w' = (putRow (encN js.length) w g 0 (ordA (dueK js) js.length)).drewN q := by
  have hs : (Array.range js.length).size = js.length := Array.size_range
  have hr := Try.insertionSortCmpFunc_one_f157 (encN js.length) (one_encN _) (fun x y => cmpI (dueK js x) (dueK js y)) 125 #[.pointer (some ⟨bx, 0, none⟩)] g 0 cap 0 js.length (Array.range js.length) w Try.entersDue (by rw [hs]; exact dueReads js v bx g w h hn hn2 hb hbx hbg hg) hH (Nat.zero_le _) (by rw [hs]; exact Nat.le_refl _) (by rw [hs]; omega)
  rw [hs, ltOf_due] at hr
  exact hr

theorem stableDue_any (js : List JobD) (v : Value) (bx g cap : Nat) (w : World) (h : RdJ w v js) (hn : 1 ≤ js.length) (hn2 : js.length ≤ 12) (hb : w.cell? ⟨bx, 0, none⟩ = some v) (hbx : bx < w.heap.size) (hbg : bx ≠ g) (hg : ∀ a, v.ownBlock = some a → a ≠ g)
    (hH : Holds (encN js.length) w g 0 (Array.range js.length)) :
    Calls Try.prog 155 #[.slice (some ⟨g, 0, none⟩) js.length cap, .int .i64 js.length, .func (.func 125) #[] #[.pointer (some ⟨bx, 0, none⟩)]] w fun e w' =>
      e = .returned (.tuple #[]) ∧ ∃ q, w' = (putRow (encN js.length) w g 0 (ordA (dueK js) js.length)).drewN q := by
  have HC := Lib.hid (insDue_any js v bx g cap w h hn hn2 hb hbx hbg hg hH)
  have h1 : ¬ (20 : Int) ≤ js.length := by omega
  have h2 : ¬ (20 : Int) < js.length := by omega
  clear h hb hbx hbg hg hH
  go_enter Try.func155, Try.ntmps155
  go_wp2_with fail
  go_loopw [7, 8] (fun av bv wr => av = .int .i64 0 ∧ bv = .int .i64 20 ∧ w = wr) (fun _ _ _ => 0)
  case atStart => exact ⟨rfl, rfl, rfl⟩
  case round =>
    obtain ⟨rfl, rfl, rfl⟩ := hrel
    go_wp2_with (go_at_call 157; refine HC.out.mono ?_; rintro e w1 ⟨rfl, hq⟩)
    have HQ := Lib.hid hq
    clear hq
    go_loopw [6] (fun sv wr => sv = .int .i64 20 ∧ w1 = wr) (fun _ _ => 0)
    case atStart => exact ⟨rfl, rfl⟩
    case round =>
      obtain ⟨rfl, rfl⟩ := hrel
      go_wp2_with fail
      go_end0
      exact ⟨rfl, HQ.out⟩

theorem sortStable_any (js : List JobD) (v : Value) (bx g cap : Nat) (w : World) (h : RdJ w v js) (hn : 1 ≤ js.length) (hn2 : js.length ≤ 12) (hb : w.cell? ⟨bx, 0, none⟩ = some v) (hbx : bx < w.heap.size) (hbg : bx ≠ g) (hg : ∀ a, v.ownBlock = some a → a ≠ g)
    (hH : Holds (encN js.length) w g 0 (Array.range js.length)) :
    Calls Try.prog 145 #[.slice (some ⟨g, 0, none⟩) js.length cap, .func (.func 125) #[] #[.pointer (some ⟨bx, 0, none⟩)]] w fun e w' =>
      e = .returned (.tuple #[]) ∧ ∃ q, w' = (putRow (encN js.length) w g 0 (ordA (dueK js) js.length)).drewN q := by
  have HC := Lib.hid (stableDue_any js v bx g cap w h hn hn2 hb hbx hbg hg hH)
  clear h hb hbx hbg hg hH
  go_enter Try.func145, Try.ntmps145
  go_wp2_with (go_at_call 155; refine HC.out.mono ?_; rintro e w1 ⟨rfl, hq⟩)
  go_end0
  exact ⟨rfl, hq⟩

/-- The program's list of indices, sorted. -/
theorem orderBy_any (js : List JobD) (v : Value) (bx : Nat) (w : World) (h : RdJ w v js) (hn : 1 ≤ js.length) (hn2 : js.length ≤ 12) (hb : Box w bx 68 v) (hg : ∀ a, v.ownBlock = some a → a < w.heap.size) :
    Calls Try.prog 124 #[.int .i64 js.length, .func (.func 125) #[] #[.pointer (some ⟨bx, 0, none⟩)]] w fun e w' => ∃ u, e = .returned u ∧ OwnI w.heap.size w'.heap.size w' u (idxs (ordL (dueK js) js.length)) ∧ Below w.heap.size w w' := by
  have HR := Lib.hid h
  have HBx := Lib.hid hb
  have HG := Lib.hid hg
  clear h hb hg
  go_enter Try.func124, Try.ntmps124
  go_wp2_with fail
  go_loopw [5, 6] (fun out kk wr => ∃ (i : Nat) (b : Option Addr) (cap : Nat), kk = .int .i64 i ∧ i ≤ js.length ∧ out = .slice b i cap ∧ Hid (wr.ownsRow w.heap.size 2 1 (.slice b i cap) i ((idxs (List.range i)).map I64)) ∧ Hid (Below w.heap.size w wr)) (fun _ kk _ => js.length + 1 - (intOf kk).toNat)
  case atStart => exact ⟨0, none, 0, rfl, Nat.zero_le _, rfl, World.ownsRow_nil _ _ _ _, Below.refl _ _⟩
  case round =>
    obtain ⟨i, b, cap, rfl, hi, rfl, HO, HB⟩ := hrel
    by_cases hlt : i < js.length
    · have hlt' : (i : Int) < js.length := by omega
      have hsz := HB.out.size
      go_wp2_with (at_builtin; refine app_ints rfl _ _ rfl w.heap.size (.slice b i cap) i (idxs (List.range i)) rfl (HO.out.alloc _) _ [(i : Int)] rfl (slc_one _ _) (i + 1) (idxs (List.range (i + 1))) (by simp) (by unfold idxs; rw [List.range_succ, List.map_append]; rfl) (by omega) (by simp; omega) ?_; intro b2 cap2 w3 hown2 hbl2 _ _)
      go_roundw
      case rel => exact ⟨i + 1, b2, cap2, by go_num, by omega, rfl, Lib.hid hown2, Lib.hid (HB.out.trans (((Below.refl _ _).alloc hsz _).trans hbl2))⟩
      case measure => simp [intOf]; omega
    · obtain rfl : i = js.length := by omega
      obtain ⟨wo, rfl⟩ : ∃ wo, wo = wr := ⟨wr, rfl⟩
      have hnn : Value.slice b js.length cap ≠ .slice none 0 0 := by intro e; injection e with _ e _; omega
      have hmem : ∀ x, x ∈ List.range js.length → x < js.length := fun x hx => List.mem_range.1 hx
      have HO2 : Hid (wo.ownsRow w.heap.size 2 1 (.slice b js.length cap) js.length ((List.range js.length).map (encN js.length))) := Lib.hid (by rw [encN_map _ _ hmem]; exact HO.out)
      obtain ⟨g, cap', e, hbg, hgl, _, _, _, hH⟩ := Lib.holds_of_ownsRow HO2.out hnn
      injection e with e1 _ e2
      subst e1; subst e2
      have hbx := HBx.out.lt
      have HC := Lib.hid (sortStable_any js v bx g cap wo (HR.out.up HB.out (Nat.le_refl _)) hn hn2 (HBx.out.below HB.out hbx).cell (Nat.lt_of_lt_of_le hbx HB.out.size) (by omega) (fun a ha => by have := HG.out a ha; omega) (by rw [← List.toArray_range]; exact hH))
      clear hH hnn hmem
      go_wp2_with (go_at_call 145; refine HC.out.mono ?_; rintro e w1 ⟨rfl, hq⟩)
      go_ret
      obtain ⟨q, rfl⟩ := hq
      have hoL : (ordL (dueK js) js.length).length = js.length := ordL_len _ _
      have hx := Lib.ownsRow_putRow (q := 0) (k := js.length) HO2.out hoL (Nat.le_refl _)
      rw [List.take_of_length_le (by omega), encN_map _ _ (ordL_lt _ _)] at hx
      refine ⟨_, rfl, ?_, ?_⟩
      · exact OwnI.mk (n := js.length) hx
      · exact below_drewN (Lib.below_putRow (q := 0) HB.out hbg) q

/-- The program's jobs by due time. -/
theorem dueOrder_any (js : List JobD) (v : Value) (w : World) (h : RdJ w v js) (hn : 1 ≤ js.length) (hn2 : js.length ≤ 12) :
    Calls Try.prog 95 #[v] w fun e w' => ∃ u, e = .returned u ∧ OwnI w.heap.size w'.heap.size w' u (idxs (ordL (dueK js) js.length)) ∧ Below w.heap.size w w' := by
  obtain ⟨b0, off, hb0, hv⟩ : ∃ b0 off, b0 < w.heap.size ∧ ∃ c, v = .slice (some ⟨b0, off, none⟩) js.length c := by
    obtain ⟨a, c, rfl⟩ := h.shape
    obtain ⟨b, off, rfl, hb, _⟩ := h.at (show 0 < js.length by omega)
    exact ⟨b, off, hb, c, rfl⟩
  obtain ⟨c, rfl⟩ := hv
  have HR := Lib.hid h
  clear h
  have hbl : Below w.heap.size w (w.alloc (.cells #[.slice (some ⟨b0, off, none⟩) js.length c] 68)) := (Below.refl _ _).alloc (Nat.le_refl _) _
  have HB := Lib.hid hbl
  have HC := Lib.hid (orderBy_any js (.slice (some ⟨b0, off, none⟩) js.length c) w.heap.size (w.alloc (.cells #[.slice (some ⟨b0, off, none⟩) js.length c] 68)) (HR.out.up hbl (Nat.le_refl _)) hn hn2 (Box.new w _ _) (fun a ha => by
    have : b0 = a := Option.some.inj ha
    simp; omega))
  clear hbl
  go_enter Try.func95, Try.ntmps95
  go_wp2_with (go_at_call 124; refine HC.out.mono ?_; rintro e w1 ⟨u, rfl, ho, hb1⟩)
  go_ret
  exact ⟨_, rfl, ho.wide (by simp) (Nat.le_refl _), HB.out.trans (hb1.mono (by simp))⟩

end Go.Proofs.Ytkkcgclliomocaa

namespace Go.Proofs.Ytkkcgclliomocaa
open Go.RowKit Go.Sort

def longK (js : List JobD) (x : Nat) : Int := (js.getD x J0).long
/-- The first of the greatest. -/
def mostN (f : Nat → Int) : Nat → Nat
  | 0 => 0
  | k + 1 => if f (mostN f k) < f k then k else mostN f k
theorem mostN_lt (f : Nat → Int) : ∀ k, 0 < k → mostN f k < k
  | 0, h => absurd h (by omega)
  | k + 1, _ => by
    simp only [mostN]
    split
    · omega
    · cases k with
      | zero => simp [mostN]
      | succ k => have := mostN_lt f (k + 1) (by omega); omega
theorem mostN_le (f : Nat → Int) (k : Nat) : mostN f k ≤ k := by
  cases k with
  | zero => exact Nat.le_refl _
  | succ k => have := mostN_lt f (k + 1) (by omega); omega
theorem mostN_one (f : Nat → Int) : mostN f 1 = 0 := by simp [mostN]
def keptLong (js : List JobD) (K : List Nat) (k : Nat) : Int := longK js (K.getD k 0)
def longest (js : List JobD) (K : List Nat) : Nat := mostN (keptLong js K) K.length

/-- One job more. -/
def otStep (js : List JobD) (K A : List Nat) (t : Int) (i : Nat) : List Nat × List Nat × Int :=
  if t + longK js i ≤ (js.getD i J0).due then (K ++ [i], A, t + longK js i)
  else ((K ++ [i]).eraseIdx (longest js (K ++ [i])), A ++ [(K ++ [i]).getD (longest js (K ++ [i])) 0], t + longK js i - longK js ((K ++ [i]).getD (longest js (K ++ [i])) 0))
def otRun (js : List JobD) : List Nat → List Nat → List Nat → Int → List Nat × List Nat
  | [], K, A, _ => (K, A)
  | i :: r, K, A, t => otRun js r (otStep js K A t i).1 (otStep js K A t i).2.1 (otStep js K A t i).2.2
def ordJ (js : List JobD) : List Nat := ordL (dueK js) js.length
def otEnd (js : List JobD) : List Nat × List Nat := otRun js (ordJ js) [] [] 0
def otL (js : List JobD) : List Int := if areJobsB js = true then idxs ((otEnd js).1 ++ (otEnd js).2) else []
def otN (js : List JobD) : Int := if areJobsB js = true then ((otEnd js).1.length : Nat) else 0

theorem areJobs_facts {js : List JobD} (h : areJobsB js = true) : 1 ≤ js.length ∧ js.length ≤ 12 ∧ ∀ i, i < js.length → 1 ≤ longK js i ∧ longK js i ≤ 1000 ∧ 0 ≤ (js.getD i J0).due ∧ (js.getD i J0).due ≤ 100000 := by
  unfold areJobsB at h
  rw [Bool.and_eq_true, inB_iff, allB_iff] at h
  refine ⟨by omega, by omega, fun i hi => ?_⟩
  have := h.2 i hi
  unfold jobB at this
  simp only [Bool.and_eq_true, inB_iff] at this
  unfold longK
  omega

/-- Where the work stands behind k jobs. -/
structure Ont (js : List JobD) (k : Nat) (K A : List Nat) (t : Int) : Prop where
  lens : K.length + A.length = k
  small : ∀ x, x ∈ K → x < js.length
  lo : -(1000 * (k : Int)) ≤ t
  hi : t ≤ 1000 * (k : Int)
  run : otRun js ((ordJ js).drop k) K A t = otEnd js
theorem Ont.start (js : List JobD) : Ont js 0 [] [] 0 := ⟨rfl, fun _ h => absurd h (by simp), by omega, by omega, rfl⟩
theorem ordJ_len (js : List JobD) : (ordJ js).length = js.length := ordL_len _ _
theorem ordJ_lt (js : List JobD) (k : Nat) (h : k < js.length) : (ordJ js).getD k 0 < js.length := by
  refine ordL_lt (dueK js) js.length _ ?_
  rw [List.getD_eq_getElem?_getD, List.getElem?_eq_getElem (by rw [ordJ_len]; exact h)]
  exact List.getElem_mem _
theorem Ont.next {js : List JobD} {k : Nat} {K A : List Nat} {t : Int} (h : Ont js k K A t) (hk : k < js.length) (i : Nat) (hi : i = (ordJ js).getD k 0) (hj : areJobsB js = true) :
    Ont js (k + 1) (otStep js K A t i).1 (otStep js K A t i).2.1 (otStep js K A t i).2.2 := by
  have hf := (areJobs_facts hj).2.2
  have hin : i < js.length := by rw [hi]; exact ordJ_lt js k hk
  have hl := hf i hin
  have hd : (ordJ js).drop k = i :: (ordJ js).drop (k + 1) := by
    have hlt : k < (ordJ js).length := by rw [ordJ_len]; exact hk
    rw [List.drop_eq_getElem_cons hlt, hi, List.getD_eq_getElem?_getD, List.getElem?_eq_getElem hlt]
    rfl
  have hrun := h.run
  rw [hd] at hrun
  have hK1 : ∀ x, x ∈ K ++ [i] → x < js.length := fun x hx => by
    rcases List.mem_append.1 hx with h1 | h1
    · exact h.small x h1
    · rw [List.mem_singleton.1 h1]; exact hin
  have h0 := h.lens
  have h1 := h.lo
  have h2 := h.hi
  by_cases ht : t + longK js i ≤ (js.getD i J0).due
  · have e : otStep js K A t i = (K ++ [i], A, t + longK js i) := if_pos ht
    rw [otRun, e] at hrun
    rw [e]
    exact ⟨by simp; omega, hK1, by simp; omega, by simp; omega, hrun⟩
  · have e := (show otStep js K A t i = _ from if_neg ht)
    rw [otRun, e] at hrun
    rw [e]
    have hm := mostN_lt (keptLong js (K ++ [i])) (K ++ [i]).length (by simp)
    have hx : (K ++ [i]).getD (longest js (K ++ [i])) 0 < js.length := by
      refine hK1 _ ?_
      unfold longest
      rw [List.getD_eq_getElem?_getD, List.getElem?_eq_getElem hm]
      exact List.getElem_mem _
    have hlx := hf _ hx
    refine ⟨?_, fun x hx => hK1 x (List.mem_of_mem_eraseIdx hx), ?_, ?_, hrun⟩
    · unfold longest
      simp only [List.length_append, List.length_singleton] at hm ⊢
      rw [List.length_eraseIdx, if_pos (by simpa using hm)]
      simp; omega
    · simp only; omega
    · simp only; omega
theorem Ont.done {js : List JobD} {K A : List Nat} {t : Int} (h : Ont js js.length K A t) : otEnd js = (K, A) := by
  have := h.run
  rw [List.drop_of_length_le (by rw [ordJ_len]; exact Nat.le_refl _)] at this
  exact this.symm

theorem otStep_len (js : List JobD) (K A : List Nat) (t : Int) (i : Nat) : (otStep js K A t i).1.length + (otStep js K A t i).2.1.length = K.length + A.length + 1 := by
  unfold otStep
  split
  · simp; omega
  · have hm := mostN_lt (keptLong js (K ++ [i])) (K ++ [i]).length (by simp)
    simp only [List.length_eraseIdx, List.length_append, List.length_singleton] at hm ⊢
    unfold longest
    simp only [List.length_append, List.length_singleton]
    rw [if_pos hm]
    omega
theorem otRun_len (js : List JobD) : ∀ (r K A : List Nat) (t : Int), (otRun js r K A t).1.length + (otRun js r K A t).2.length = K.length + A.length + r.length
  | [], K, A, t => rfl
  | i :: r, K, A, t => by
    rw [otRun, otRun_len js r, otStep_len]
    simp; omega
theorem otL_cnt (js : List JobD) : cntI (otL js) ≤ 1048576 := by
  unfold cntI otL
  split
  · rename_i h
    have h1 := otRun_len js (ordJ js) [] [] 0
    have h2 := ordJ_len js
    have h3 := (areJobs_facts h).2.1
    rw [idxs_len, List.length_append]
    unfold otEnd
    simp only [List.length_nil] at h1
    omega
  · simp

theorem cntJ_le (js : List JobD) : cntJ js ≤ 4 * bulkJ js := by unfold cntJ bulkJ; omega

theorem idxs_app (L M : List Nat) : idxs (L ++ M) = idxs L ++ idxs M := by unfold idxs; rw [List.map_append]
theorem idxs_erase (L : List Nat) (m : Nat) : idxs (L.eraseIdx m) = (idxs L).eraseIdx m := by
  unfold idxs
  rw [List.eraseIdx_eq_take_drop_succ, List.eraseIdx_eq_take_drop_succ, List.map_append, List.map_take, List.map_drop]
theorem idxs_at (L : List Nat) (k : Nat) (h : k < L.length) : (idxs L).getD k 0 = ((L.getD k 0 : Nat) : Int) := by
  unfold idxs
  rw [List.getD_eq_getElem?_getD, List.getD_eq_getElem?_getD, List.getElem?_map, List.getElem?_eq_getElem h]
  rfl

/-- Two rows of the call, apart. -/
def Own2 (B : Nat) (w : World) (kv av : Value) (xs ys : List Int) : Prop :=
  w.ownsRow B 2 1 kv xs.length (xs.map I64) ∧ w.ownsRow B 2 1 av ys.length (ys.map I64) ∧ ∀ g, kv.ownBlock = some g → av.ownBlock ≠ some g
theorem Own2.symm {B : Nat} {w : World} {kv av : Value} {xs ys : List Int} (h : Own2 B w kv av xs ys) : Own2 B w av kv ys xs := ⟨h.2.1, h.1, fun g h1 h2 => h.2.2 g h2 h1⟩
theorem Own2.up {B C : Nat} {w w' : World} {kv av : Value} {xs ys : List Int} (h : Own2 B w kv av xs ys) (hb : Below C w w') (hC : w.heap.size ≤ C) : Own2 B w' kv av xs ys := ⟨owns_below h.1 hb hC, owns_below h.2.1 hb hC, h.2.2⟩
/-- The first has grown; the second lies as it lay. -/
theorem Own2.grow {B : Nat} {w w0 w' : World} {kv av : Value} {xs ys zs : List Int} {a' : Option Addr} {m c' : Nat} (h : Own2 B w0 kv av xs ys) (h0 : Below w0.heap.size w0 w) (ho : w'.ownsRow B 2 1 (.slice a' m c') m (zs.map I64)) (hm : m = zs.length)
    (hg : w.grownBy w' kv.ownBlock) (hb : (Value.slice a' m c').ownBlock = kv.ownBlock ∨ (Value.slice a' m c').ownBlock = some w.heap.size) : Own2 B w' (.slice a' m c') av zs ys := by
  subst hm
  have hav := owns_below h.2.1 h0 (Nat.le_refl _)
  have hs := h0.size
  refine ⟨ho, owns_kept (S := fun k => kv.ownBlock = some k) hav ⟨hg.os, hg.tape, hg.output, hg.size, fun k hk hs => hg.block k hk fun e => hs e.symm⟩ (fun g h1 h2 => h.2.2 g h2 h1), fun g h1 h2 => ?_⟩
  rcases hb with hb | hb
  · exact h.2.2 g (by rw [← hb]; exact h1) h2
  · have := (owns_lt h.2.1 h2).2
    rw [h1] at hb
    injection hb with hb
    omega
/-- One is taken out of the first. -/
theorem Own2.cut {B g c c' m m' : Nat} {w w' : World} {av : Value} {xs ys zs : List Int} (h : Own2 B w (.slice (some ⟨g, 0, none⟩) m c) av xs ys) (ho : w'.ownsRow B 2 1 (.slice (some ⟨g, 0, none⟩) m' c') m' (zs.map I64)) (hm : m' = zs.length) (hk : Kept (· = g) w w') : Own2 B w' (.slice (some ⟨g, 0, none⟩) m' c') av zs ys := by
  subst hm
  exact ⟨ho, owns_kept h.2.1 hk (fun k h1 h2 => h.2.2 g rfl (by rw [← h2]; exact h1)), fun k h1 => h.2.2 k h1⟩

end Go.Proofs.Ytkkcgclliomocaa

namespace Go.Proofs.Ytkkcgclliomocaa
open Go.RowKit Go.Sort

def Try.delRen : Go.Shelf.Ren := ⟨fun | 45 => 96 | n => n, fun | 23 => 2 | 22 => 65 | 3 => 3 | 4 => 4 | 0 => 0 | n => n, fun | n => n⟩
theorem Try.laysDel : Go.Proofs.SlLaysE.n45 Try.prog Try.delRen := {
  mixed := by kernel_rfl
  f45 := ⟨Try.f96.name, by decide, Try.func96.trans (congrArg some (by kernel_rfl))⟩
  t0 := Try.underlying0
  a0 := Try.isAgg0
  z0 := Try.sizeOf0
  v0 := Try.zeroValue0
  t3 := Try.underlying3
  a3 := Try.isAgg3
  z3 := Try.sizeOf3
  v3 := Try.zeroValue3
  t4 := Try.underlying4
  a4 := Try.isAgg4
  z4 := Try.sizeOf4
  v4 := Try.zeroValue4
  t22 := Try.underlying65
  a22 := Try.isAgg65
  z22 := Try.sizeOf65
  v22 := Try.zeroValue65
  a23 := Try.isAgg2
  z23 := Try.sizeOf2 }

/-- One element is taken out of a row that the call owns. -/
theorem delete_any (lo g cap m : Nat) (xs : List Int) (w : World) (ho : w.ownsRow lo 2 1 (.slice (some ⟨g, 0, none⟩) xs.length cap) xs.length (xs.map I64)) (hm : m < xs.length) (hlo : lo ≤ w.heap.size) :
    Calls Try.prog 96 #[.slice (some ⟨g, 0, none⟩) xs.length cap, .int .i64 m, .int .i64 ((m + 1 : Nat) : Int)] w fun e w' => e = .returned (.slice (some ⟨g, 0, none⟩) (xs.length - 1) cap) ∧ w'.ownsRow lo 2 1 (.slice (some ⟨g, 0, none⟩) (xs.length - 1) cap) (xs.length - 1) ((xs.eraseIdx m).map I64) ∧ Kept (· = g) w w' := by
  obtain ⟨i0, hi, hz0, hz1, hz2⟩ := info_parts Try.infoI64
  obtain ⟨g', cap', e, hbg, hgl, hnc, hcm, _, hH⟩ := Lib.holds_of_ownsRow (enc := I64) ho (by intro e; cases e)
  injection e with e1 _ e2
  injection e1 with e1
  injection e1 with e1
  subst e1; subst e2
  have hs : (xs.toArray).size = xs.length := by simp
  have hr := AnyE.slices_Delete Try.laysDel I64 (fun _ => rfl) 0 Try.zeroValue2 i0 hi hz1 g 0 cap m (m + 1) xs.toArray w hH (by rw [hs]; exact hnc) (by simp only [maxLen] at hcm; omega) (by omega) (by rw [hs]; omega)
  rw [hs] at hr
  refine hr.mono ?_
  rintro e w' ⟨rfl, q, rfl⟩
  have e3 : xs.length - (m + 1 - m) = xs.length - 1 := by omega
  have e4 : m + 1 - m = 1 := by omega
  rw [e3, e4]
  have hlen : (xs.take m ++ xs.drop (m + 1) ++ List.replicate 1 (0 : Int)).length = xs.length := by simp; omega
  have hx := Lib.ownsRow_putRow (q := q) (k := xs.length - 1) ho hlen (by omega)
  have e5 : (xs.take m ++ xs.drop (m + 1) ++ List.replicate 1 (0 : Int)).take (xs.length - 1) = xs.eraseIdx m := by
    rw [← List.eraseIdx_eq_take_drop_succ, List.take_append_of_le_length (by rw [List.length_eraseIdx, if_pos hm]; exact Nat.le_refl _), List.take_of_length_le (by rw [List.length_eraseIdx, if_pos hm]; exact Nat.le_refl _)]
  rw [e5] at hx
  refine ⟨rfl, hx, ?_⟩
  refine ⟨rfl, rfl, rfl, by simp [putRow, mapBlock, Sort.ahead], fun k hk hn => ?_⟩
  simp [putRow, mapBlock, Sort.ahead, Array.getElem?_modify, Ne.symm hn]

end Go.Proofs.Ytkkcgclliomocaa

namespace Go.Proofs.Ytkkcgclliomocaa
open Go.RowKit

theorem wp_app_ints {w : World} {o : Oper} {a : Act} {K : Act → World → Prop} {Q : Exit → Act → World → Prop} (s x : Operand)
    (ho : o.op = .call { callee := .builtin .append, args := #[s, x], argTypes := #[65, 65] })
    (base : Nat) (v : Value) (n : Nat) (xs : List Int) (hs : a.eval s = v) (hown : w.ownsRow base 2 1 v n (xs.map I64))
    (sv : Value) (news : List Int) (hx : a.eval x = sv) (hsv : Slc w sv (news.map I64)) (m : Nat) (ys : List Int) (hm : m = n + news.length) (hys : ys = xs ++ news) (hlen : m ≤ 17592186044416) (hbase : base ≤ w.heap.size)
    (h : ∀ a' cap' w', w'.ownsRow base 2 1 (.slice a' m cap') m (ys.map I64) → Below base w w' → w.grownBy w' v.ownBlock → (Value.slice a' m cap' = .slice none 0 0 ↔ v = .slice none 0 0 ∧ news = []) → K (a.put o.dst (.slice a' m cap')) w') :
    o.wp Try.prog a w K Q := by
  obtain ⟨i0, hi, hz0, hz1, hz2⟩ := info_parts Try.infoI64
  subst hm hys
  have hk : ∀ v' w', w'.ownsRow base 2 1 v' (n + news.length) (xs.map I64 ++ news.map I64) → w.grownBy w' v.ownBlock → (v' = .slice none 0 0 ↔ v = .slice none 0 0 ∧ news = []) → K (a.put o.dst v') w' := by
    intro v' w' h1 h2 h3
    have h1' : w'.ownsRow base 2 1 v' (n + news.length) ((xs ++ news).map I64) := by simpa using h1
    obtain ⟨a', cap', rfl⟩ := owns_shape h1'
    exact h a' cap' w' h1' (below_grown hown hbase h2) h2 h3
  rcases hsv with ⟨rfl, hnil⟩ | ⟨ad, cap, rfl, hcl, hcm, hc⟩
  · have hn : news = [] := by simpa using hnil
    subst hn
    have hrun := run_append_owned_none (P := Try.prog) (w := w) base 65 o.type 2 i0 1 Try.underlying65 hi v n (xs.map I64) hown
    unfold Oper.wp
    simp [execOp, ho, resolve, invoke, builtin, hs, hx, hrun, Result.andThen]
    exact hk v w (by simpa using hown) (World.grownBy.refl _ _) (by simp)
  · refine wp_append_own w s x 65 ho base 2 i0 (.int .i64 0) 1 8 Try.underlying65 hi hz0 hz1 hz2 rfl (by decide) v n (xs.map I64) hs hown ad (news.map I64).length cap (news.map I64) hx (by simp) hc (i64_one news) (by simp [maxLen]; omega) (by simp; omega) hbase ?_
    intro v' w' h2 h3 h4
    exact hk v' w' (by simpa using h2) h3 (by rw [h4]; simp)

theorem step_app_own {w : World} {ops : Array Oper} {o : Oper} {a : Act} {K : Act → World → Prop} {Q : Exit → Act → World → Prop} {E : Prop} (hgd : o.guard = none) (s x : Operand)
    (ho : o.op = .call { callee := .builtin .append, args := #[s, x], argTypes := #[65, 65] })
    (base : Nat) (ad : Addr) (n cap : Nat) (xs : List Int) (hs : a.eval s = .slice (some ad) n cap) (hown : w.ownsRow base 2 1 (.slice (some ad) n cap) n (xs.map I64))
    (sv : Value) (news : List Int) (hx : a.eval x = sv) (hsv : Slc w sv (news.map I64)) (m : Nat) (ys : List Int) (hm : m = n + news.length) (hys : ys = xs ++ news) (hlen : m ≤ 17592186044416) (hbase : base ≤ w.heap.size)
    (h : ∀ g cap' w', w'.ownsRow base 2 1 (.slice (some ⟨g, 0, none⟩) m cap') m (ys.map I64) → Below base w w' → w.grownBy w' (Value.slice (some ad) n cap).ownBlock → K (a.put o.dst (.slice (some ⟨g, 0, none⟩) m cap')) w') :
    if Region.wanted o (yielded ops a.tmps) = true then Oper.wp Try.prog o a w K Q else E := by
  have hw : Region.wanted o (yielded ops a.tmps) = true := by simp [Region.wanted, hgd]
  rw [if_pos hw]
  refine wp_app_ints s x ho base _ n xs hs hown sv news hx hsv m ys hm hys hlen hbase ?_
  intro a' cap' w' h1 h2 h3 h4
  obtain ⟨g, c, e, _⟩ := owns_some h1 (by intro e; have := h4.1 e; simp at this)
  simp only [Value.slice.injEq, true_and] at e
  obtain ⟨rfl, rfl⟩ := e
  exact h g _ w' h1 h2 h3

/-- A slice in one block reads on where this block is kept. -/
theorem slc_keptB {S : Nat → Prop} {w w' : World} {ad : Addr} {n cap : Nat} {vs : List Value} (h : Slc w (.slice (some ad) n cap) vs) (hk : Kept S w w') (hs : ¬ S ad.block) : Slc w' (.slice (some ad) n cap) vs := by
  rcases h with ⟨e1, _⟩ | ⟨ad2, cap2, e1, h1, h2, hc⟩
  · simp at e1
  · simp only [Value.slice.injEq, Option.some.injEq] at e1
    obtain ⟨rfl, rfl, rfl⟩ := e1
    refine .inr ⟨ad, cap, rfl, h1, h2, fun i u hi => ?_⟩
    have h0 := hc i u hi
    rw [hk.cell (cell_lt h0) (by rw [addr_add_block]; exact hs)]
    exact h0

/-- A new row of one stays as it is behind an append to another. -/
theorem slc_grown {w w' : World} {ad : Addr} {n cap : Nat} {vs : List Value} {row : Option Nat} (h : Slc w (.slice (some ad) n cap) vs) (hg : w.grownBy w' row) (hne : row ≠ some ad.block) : Slc w' (.slice (some ad) n cap) vs :=
  slc_keptB (S := fun k => row = some k) h ⟨hg.os, hg.tape, hg.output, hg.size, fun k hk hn => hg.block k hk fun e => hn e.symm⟩ hne

theorem slc_drew {w : World} {v : Value} {vs : List Value} (h : Slc w v vs) : Slc w.drew v vs := h
theorem slc_alloc {w : World} {v : Value} {vs : List Value} (h : Slc w v vs) (o : Obj) : Slc (w.alloc o) v vs := h.below ((Below.refl _ _).alloc (Nat.le_refl _) _) (Nat.le_refl _)

theorem slc_oneB (w : World) (z : Int) (b : Nat) (hb : b = w.heap.size) : Slc (w.alloc (.cells #[.int .i64 z] 2)) (.slice (some ⟨b, 0, none⟩) 1 1) ([z].map I64) := by subst hb; exact slc_one w z

theorem owns_emptyB (w : World) (b : Nat) (hb : b = w.heap.size) : (w.alloc (.cells #[] 2)).ownsRow w.heap.size 2 1 (.slice (some ⟨b, 0, none⟩) 0 0) 0 (([] : List Int).map I64) := by subst hb; exact owns_empty w
theorem owns_drew {w : World} {base : Nat} {e : TypeId} {v : Value} {n : Nat} {vs : List Value} (h : w.ownsRow base e 1 v n vs) : w.drew.ownsRow base e 1 v n vs := h

end Go.Proofs.Ytkkcgclliomocaa

namespace Go.Proofs.Ytkkcgclliomocaa
open Go.RowKit

theorem wp_app_intsL {w : World} {o : Oper} {a : Act} {K : Act → World → Prop} {Q : Exit → Act → World → Prop} (s x : Operand)
    (ho : o.op = .call { callee := .builtin .append, args := #[s, x], argTypes := #[65, 65] })
    (base : Nat) (v : Value) (n : Nat) (xs : List Int) (hs : a.eval s = v) (hown : w.ownsRow base 2 1 v n (xs.map I64))
    (sv : Value) (news : List Int) (hx : a.eval x = sv) (hsv : Slc w sv (news.map I64)) (m : Nat) (ys : List Int) (hm : m = n + news.length) (hys : ys = xs ++ news) (hlen : m ≤ 17592186044416) (hbase : base ≤ w.heap.size)
    (h : ∀ a' cap' w', w'.ownsRow base 2 1 (.slice a' m cap') m (ys.map I64) → Below base w w' → w.grownBy w' v.ownBlock → ((Value.slice a' m cap').ownBlock = v.ownBlock ∨ (Value.slice a' m cap').ownBlock = some w.heap.size) → K (a.put o.dst (.slice a' m cap')) w') :
    o.wp Try.prog a w K Q := by
  obtain ⟨i0, hi, hz0, hz1, hz2⟩ := info_parts Try.infoI64
  subst hm hys
  have hk : ∀ v' w', w'.ownsRow base 2 1 v' (n + news.length) (xs.map I64 ++ news.map I64) → w.grownBy w' v.ownBlock → (v'.ownBlock = v.ownBlock ∨ v'.ownBlock = some w.heap.size) → K (a.put o.dst v') w' := by
    intro v' w' h1 h2 h3
    have h1' : w'.ownsRow base 2 1 v' (n + news.length) ((xs ++ news).map I64) := by simpa using h1
    obtain ⟨a', cap', rfl⟩ := owns_shape h1'
    exact h a' cap' w' h1' (below_grown hown hbase h2) h2 h3
  rcases hsv with ⟨rfl, hnil⟩ | ⟨ad, cap, rfl, hcl, hcm, hc⟩
  · have hn : news = [] := by simpa using hnil
    subst hn
    have hrun := run_append_owned_none (P := Try.prog) (w := w) base 65 o.type 2 i0 1 Try.underlying65 hi v n (xs.map I64) hown
    unfold Oper.wp
    simp [execOp, ho, resolve, invoke, builtin, hs, hx, hrun, Result.andThen]
    exact hk v w (by simpa using hown) (World.grownBy.refl _ _) (.inl rfl)
  · obtain ⟨v', w', hr, h2, h3, _, h5⟩ := run_append_own_at (P := Try.prog) w base 65 o.type 2 i0 (.int .i64 0) 1 8 Try.underlying65 hi hz0 hz1 hz2 rfl (by decide) v n (xs.map I64) hown ad (news.map I64).length cap (news.map I64) (by simp) hc (i64_one news) (by simp [maxLen]; omega) (by simp; omega) hbase
    unfold Oper.wp execOp
    simp only [ho, resolve, invoke, builtin, Sem.run_bind, Sem.run_pure, Result.andThen_ok, List.map_toArray, List.map_cons, List.map_nil, hs, hx, hr]
    exact hk _ _ (by simpa using h2) h3 h5

theorem app_intsL {w : World} {ops : Array Oper} {rest : List Oper} {o : Oper} {a : Act} {Q : Exit → Act → World → Prop} (hgd : o.guard = none) (s x : Operand)
    (ho : o.op = .call { callee := .builtin .append, args := #[s, x], argTypes := #[65, 65] })
    (base : Nat) (v : Value) (n : Nat) (xs : List Int) (hs : a.eval s = v) (hown : w.ownsRow base 2 1 v n (xs.map I64))
    (sv : Value) (news : List Int) (hx : a.eval x = sv) (hsv : Slc w sv (news.map I64)) (m : Nat) (ys : List Int) (hm : m = n + news.length) (hys : ys = xs ++ news) (hlen : m ≤ 17592186044416) (hbase : base ≤ w.heap.size)
    (h : ∀ a' cap' w', w'.ownsRow base 2 1 (.slice a' m cap') m (ys.map I64) → Below base w w' → w.grownBy w' v.ownBlock → ((Value.slice a' m cap').ownBlock = v.ownBlock ∨ (Value.slice a' m cap').ownBlock = some w.heap.size) → wpList Try.prog ops Q rest (a.put o.dst (.slice a' m cap')) w') :
    wpList Try.prog ops Q (o :: rest) a w := by
  obtain ⟨i0, hi, hz0, hz1, hz2⟩ := info_parts Try.infoI64
  subst hm hys
  have hk : ∀ v' w', w'.ownsRow base 2 1 v' (n + news.length) (xs.map I64 ++ news.map I64) → w.grownBy w' v.ownBlock → (v'.ownBlock = v.ownBlock ∨ v'.ownBlock = some w.heap.size) → wpList Try.prog ops Q rest (a.put o.dst v') w' := by
    intro v' w' h1 h2 h3
    have h1' : w'.ownsRow base 2 1 v' (n + news.length) ((xs ++ news).map I64) := by simpa using h1
    obtain ⟨a', cap', rfl⟩ := owns_shape h1'
    exact h a' cap' w' h1' (below_grown hown hbase h2) h2 h3
  rcases hsv with ⟨rfl, hnil⟩ | ⟨ad, cap, rfl, hcl, hcm, hc⟩
  · have hn : news = [] := by simpa using hnil
    subst hn
    refine wpList_append_own_none hgd s x 65 ho base 2 i0 1 Try.underlying65 hi v n (xs.map I64) hs hown hx ?_
    exact hk v w (by simpa using hown) (World.grownBy.refl _ _) (.inl rfl)
  · refine wpList_append_own_at w hgd s x 65 ho base 2 i0 (.int .i64 0) 1 8 Try.underlying65 hi hz0 hz1 hz2 rfl (by decide) v n (xs.map I64) hs hown ad (news.map I64).length cap (news.map I64) hx (by simp) hc (i64_one news) (by simp [maxLen]; omega) (by simp; omega) hbase ?_
    intro v' w' h2 h3 _ h5
    exact hk v' w' (by simpa using h2) h3 h5

theorem step_app_intsL {w : World} {ops : Array Oper} {o : Oper} {a : Act} {K : Act → World → Prop} {Q : Exit → Act → World → Prop} {E : Prop} (hgd : o.guard = none) (s x : Operand)
    (ho : o.op = .call { callee := .builtin .append, args := #[s, x], argTypes := #[65, 65] })
    (base : Nat) (v : Value) (n : Nat) (xs : List Int) (hs : a.eval s = v) (hown : w.ownsRow base 2 1 v n (xs.map I64))
    (sv : Value) (news : List Int) (hx : a.eval x = sv) (hsv : Slc w sv (news.map I64)) (m : Nat) (ys : List Int) (hm : m = n + news.length) (hys : ys = xs ++ news) (hlen : m ≤ 17592186044416) (hbase : base ≤ w.heap.size)
    (h : ∀ a' cap' w', w'.ownsRow base 2 1 (.slice a' m cap') m (ys.map I64) → Below base w w' → w.grownBy w' v.ownBlock → ((Value.slice a' m cap').ownBlock = v.ownBlock ∨ (Value.slice a' m cap').ownBlock = some w.heap.size) → K (a.put o.dst (.slice a' m cap')) w') :
    if Region.wanted o (yielded ops a.tmps) = true then Oper.wp Try.prog o a w K Q else E := by
  have hw : Region.wanted o (yielded ops a.tmps) = true := by simp [Region.wanted, hgd]
  rw [if_pos hw]
  exact wp_app_intsL s x ho base v n xs hs hown sv news hx hsv m ys hm hys hlen hbase h

theorem blkI_newB (w : World) (t : TypeId) (cs : Array Value) (b : Nat) (hb : b = w.heap.size) : Blk (w.alloc (.cells cs t)) b t cs := by subst hb; exact Blk.new w t cs
theorem blkI_grown {w w' : World} {b : Nat} {t : TypeId} {cs : Array Value} {row : Option Nat} (h : Blk w b t cs) (hg : w.grownBy w' row) (hne : row ≠ some b) : Blk w' b t cs :=
  (hg.block b h.lt (fun e => hne e.symm)).trans h
theorem OwnI.blk {lo hi : Nat} {w : World} {v : Value} {xs : List Int} (h : OwnI lo hi w v xs) {b : Nat} (hb : v.ownBlock = some b) : lo ≤ b ∧ b < hi := ⟨(owns_lt h.1 hb).1, h.2 b hb⟩

/-- Another list stays its own where one has grown. -/
theorem ownI_grown {lo hi : Nat} {w w' : World} {v u : Value} {xs : List Int} (h : OwnI lo hi w v xs) (hg : w.grownBy w' u.ownBlock) (hn : ∀ g, v.ownBlock = some g → u.ownBlock ≠ some g) : OwnI lo hi w' v xs := by
  refine ⟨owns_kept (S := fun k => u.ownBlock = some k) h.1 ⟨hg.os, hg.tape, hg.output, hg.size, fun k hk hs => hg.block k hk fun e => hs e.symm⟩ hn, h.2⟩
end Go.Proofs.Ytkkcgclliomocaa
