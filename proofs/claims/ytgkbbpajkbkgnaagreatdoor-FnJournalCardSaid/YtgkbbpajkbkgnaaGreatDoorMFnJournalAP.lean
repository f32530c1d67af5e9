/-
  FnJournal: texts joined: SortI, OrdC, HeadM, SmithM, SmithI, ListM, Make.
-/
import Derived.Lib.OwnBridge
import Derived.BigQuiet
import Derived.Deep.Cut
import Derived.Test.YtgkbbpajkbkgnaaGreatDoorMFnJournalAA
import Derived.Test.YtgkbbpajkbkgnaaGreatDoorMFnJournalAE
import Derived.Test.YtgkbbpajkbkgnaaGreatDoorMFnJournalAF
import Derived.Test.YtgkbbpajkbkgnaaGreatDoorMFnJournalAO
set_option linter.unusedVariables false
set_option linter.unusedSimpArgs false
namespace Go.Proofs.YtgkbbpajkbkgnaaGreatDoor
open Go.RowKit Go.Sort
def dueK (js : List JobD) (x : Nat) : Int := (js.getD (x % js.length) J0).due
theorem Tryz.entersDue (args : Array Value) (w : World) : (callFunc 130 args).run Tryz.prog w = .ok (.enter 130 args) w :=
  enters_of Tryz.func130 (by kernel_rfl) rfl args w
theorem dueCmp_any (i j : Nat) (bx b off n c : Nat) (x y : Int) (w : World) (hi : i < n) (hj : j < n) (hn : n ≤ 1000) (hbox : w.cell? ⟨bx, 0, none⟩ = some (.slice (some ⟨b, off, none⟩) n c))
    (d1 : w.cell? ⟨b, off + i * 4 + 1, none⟩ = some (.int .i64 x)) (d2 : w.cell? ⟨b, off + j * 4 + 1, none⟩ = some (.int .i64 y)) :
    Calls Tryz.prog 130 #[.int .i64 i, .int .i64 j, .pointer (some ⟨bx, 0, none⟩)] w fun e w' => e = .returned (.int .i64 (cmpI x y)) ∧ ∃ q, w' = w.drewN q := by
  have hi' : (i : Int) < n := by omega
  have hj' : (j : Int) < n := by omega
  go_enter Tryz.func130, Tryz.ntmps130
  go_wp2_with fail
  go_quiet ((go_at_call 65; exact quiet_same (cmp64_any _ _ _)))
  go_wp2_with fail
  go_ret
  exact ⟨rfl, _, rfl⟩
theorem dueReads (js : List JobD) (v : Value) (bx g : Nat) (w : World) (h : RdJ w v js) (hn : 1 ≤ js.length) (hn2 : js.length ≤ 12) (hb : w.cell? ⟨bx, 0, none⟩ = some v) (hbx : bx < w.heap.size) (hbg : bx ≠ g) (hg : ∀ a, v.ownBlock = some a → a ≠ g) :
    CmpReads Tryz.prog 130 #[.pointer (some ⟨bx, 0, none⟩)] (encN js.length) (fun x y => cmpI (dueK js x) (dueK js y)) g 0 js.length w := by
  intro m os dk hs x y
  obtain ⟨a, c, rfl⟩ := h.shape
  have hx := Nat.mod_lt x (show 0 < js.length by omega)
  have hy := Nat.mod_lt y (show 0 < js.length by omega)
  obtain ⟨b, off, rfl, hbl, _, d1, _, _⟩ := h.at hx
  obtain ⟨b', off', e, _, _, d2, _, _⟩ := h.at hy
  simp only [Option.some.injEq, Addr.mk.injEq] at e
  obtain ⟨rfl, rfl, _⟩ := e
  have hgb : b ≠ g := hg b rfl
  have up : ∀ p : Addr, p.block < w.heap.size → p.block ≠ g → (sortWorld (encN js.length) w g 0 m dk os).cell? p = w.cell? p := by
    intro p h1 h2
    unfold sortWorld
    rw [cell?_grow _ _ _ (by simpa [putRow, mapBlock, Sort.ahead] using h1), cell?_putRow_other _ _ _ _ _ _ (.inl h2)]
    rfl
  exact dueCmp_any _ _ bx b off js.length c _ _ _ hx hy (by omega) ((up _ hbx hbg).trans hb) ((up _ hbl hgb).trans d1) ((up _ hbl hgb).trans d2)
theorem one_encN (n : Nat) : OneCell (encN n) := fun _ => rfl
theorem ltOf_due (js : List JobD) : ltOf (fun x y => cmpI (dueK js x) (dueK js y)) = ltK (dueK js) := by
  funext x y
  unfold ltOf ltK cmpI
  by_cases h1 : dueK js x < dueK js y
  · simp [h1]
  · by_cases h2 : dueK js y < dueK js x <;> simp [h1, h2]
theorem insOne_any {α : Type} [Inhabited α] (enc : α → Value) (one : OneCell enc) (cf : α → α → Int) (f : Nat) (fb : Array Value) (blk off cap a b : Nat) (d : Array α) (w : World)
    (eg : ∀ args w, (callFunc f args).run Tryz.prog w = .ok (.enter f args) w) (hcmp : CmpReads Tryz.prog f fb enc cf blk off d.size w) (hH : Holds enc w blk off d) (hab : a ≤ b) (hb : b ≤ d.size) (hsz : d.size < 4611686018427387904) :
    Calls Tryz.prog 237 #[.slice (some ⟨blk, off, none⟩) d.size cap, .int .i64 a, .int .i64 b, .func (.func f) #[] fb] w fun e w' => e = .returned (.tuple #[]) ∧ ∃ n, w' = (putRow enc w blk off (Sort.insertionSort (ltOf cf) d a b)).drewN n := by
  first
    | exact Tryz.insertionSortCmpFunc_one_f237 enc one cf f fb blk off cap a b d w eg hcmp hH hab hb hsz
    | exact Tryz.insertionSortCmpFunc_one enc one cf f fb blk off cap a b d w eg hcmp hH hab hb hsz
theorem insDue_any (js : List JobD) (v : Value) (bx g cap : Nat) (w : World) (h : RdJ w v js) (hn : 1 ≤ js.length) (hn2 : js.length ≤ 12) (hb : w.cell? ⟨bx, 0, none⟩ = some v) (hbx : bx < w.heap.size) (hbg : bx ≠ g) (hg : ∀ a, v.ownBlock = some a → a ≠ g)
    (hH : Holds (encN js.length) w g 0 (Array.range js.length)) :
    Calls Tryz.prog 237 #[.slice (some ⟨g, 0, none⟩) js.length cap, .int .i64 0, .int .i64 js.length, .func (.func 130) #[] #[.pointer (some ⟨bx, 0, none⟩)]] w fun e w' =>
      e = .returned (.tuple #[]) ∧ ∃ q, w' = (putRow (encN js.length) w g 0 (ordA (dueK js) js.length)).drewN q := by
  have hs : (Array.range js.length).size = js.length := Array.size_range
  have hr := insOne_any (encN js.length) (one_encN _) (fun x y => cmpI (dueK js x) (dueK js y)) 130 #[.pointer (some ⟨bx, 0, none⟩)] g 0 cap 0 js.length (Array.range js.length) w Tryz.entersDue (by rw [hs]; exact dueReads js v bx g w h hn hn2 hb hbx hbg hg) hH (Nat.zero_le _) (by rw [hs]; exact Nat.le_refl _) (by rw [hs]; omega)
  rw [hs, ltOf_due] at hr
  exact hr
theorem stableDue_any (js : List JobD) (v : Value) (bx g cap : Nat) (w : World) (h : RdJ w v js) (hn : 1 ≤ js.length) (hn2 : js.length ≤ 12) (hb : w.cell? ⟨bx, 0, none⟩ = some v) (hbx : bx < w.heap.size) (hbg : bx ≠ g) (hg : ∀ a, v.ownBlock = some a → a ≠ g)
    (hH : Holds (encN js.length) w g 0 (Array.range js.length)) :
    Calls Tryz.prog 175 #[.slice (some ⟨g, 0, none⟩) js.length cap, .int .i64 js.length, .func (.func 130) #[] #[.pointer (some ⟨bx, 0, none⟩)]] w fun e w' =>
      e = .returned (.tuple #[]) ∧ ∃ q, w' = (putRow (encN js.length) w g 0 (ordA (dueK js) js.length)).drewN q := by
  have HC := Lib.hid (insDue_any js v bx g cap w h hn hn2 hb hbx hbg hg hH)
  have h1 : ¬ (20 : Int) ≤ js.length := by omega
  have h2 : ¬ (20 : Int) < js.length := by omega
  clear h hb hbx hbg hg hH
  go_enter Tryz.func175, Tryz.ntmps175
  go_wp2_with fail
  go_loopw [7, 8] (fun av bv wr => av = .int .i64 0 ∧ bv = .int .i64 20 ∧ w = wr) (fun _ _ _ => 0)
  case atStart => exact ⟨rfl, rfl, rfl⟩
  case round =>
    obtain ⟨rfl, rfl, rfl⟩ := hrel
    go_wp2_with (go_at_call 237; refine HC.out.mono ?_; rintro e w1 ⟨rfl, hq⟩)
    have HQ := Lib.hid hq
    clear hq
    go_loopw [6] (fun sv wr => sv = .int .i64 20 ∧ w1 = wr) (fun _ _ => 0)
    case atStart => exact ⟨rfl, rfl⟩
    case round =>
      obtain ⟨rfl, rfl⟩ := hrel
      go_wp2_with fail
      go_end0
      exact ⟨rfl, HQ.out⟩
theorem sortStable_any (js : List JobD) (v : Value) (bx g cap : Nat) (w : World) (h : RdJ w v js) (hn : 1 ≤ js.length) (hn2 : js.length ≤ 12) (hb : w.cell? ⟨bx, 0, none⟩ = some v) (hbx : bx < w.heap.size) (hbg : bx ≠ g) (hg : ∀ a, v.ownBlock = some a → a ≠ g)
    (hH : Holds (encN js.length) w g 0 (Array.range js.length)) :
    Calls Tryz.prog 126 #[.slice (some ⟨g, 0, none⟩) js.length cap, .func (.func 130) #[] #[.pointer (some ⟨bx, 0, none⟩)]] w fun e w' =>
      e = .returned (.tuple #[]) ∧ ∃ q, w' = (putRow (encN js.length) w g 0 (ordA (dueK js) js.length)).drewN q := by
  have HC := Lib.hid (stableDue_any js v bx g cap w h hn hn2 hb hbx hbg hg hH)
  clear h hb hbx hbg hg hH
  go_enter Tryz.func126, Tryz.ntmps126
  go_wp2_with (go_at_call 175; refine HC.out.mono ?_; rintro e w1 ⟨rfl, hq⟩)
  go_end0
  exact ⟨rfl, hq⟩
theorem orderBy_any (js : List JobD) (v : Value) (bx : Nat) (w : World) (h : RdJ w v js) (hn : 1 ≤ js.length) (hn2 : js.length ≤ 12) (hb : Box w bx 28 v) (hg : ∀ a, v.ownBlock = some a → a < w.heap.size) :
    Calls Tryz.prog 63 #[.int .i64 js.length, .func (.func 130) #[] #[.pointer (some ⟨bx, 0, none⟩)]] w fun e w' => ∃ u, e = .returned u ∧ OwnI w.heap.size w'.heap.size w' u (idxs (ordL (dueK js) js.length)) ∧ Below w.heap.size w w' := by
  have HR := Lib.hid h
  have HBx := Lib.hid hb
  have HG := Lib.hid hg
  clear h hb hg
  go_enter Tryz.func63, Tryz.ntmps63
  go_wp2_with fail
  go_loopw [5, 6] (fun out kk wr => ∃ (i : Nat) (b : Option Addr) (cap : Nat), kk = .int .i64 i ∧ i ≤ js.length ∧ out = .slice b i cap ∧ Hid (wr.ownsRow w.heap.size 2 1 (.slice b i cap) i ((idxs (List.range i)).map I64)) ∧ Hid (Below w.heap.size w wr)) (fun _ kk _ => js.length + 1 - (intOf kk).toNat)
  case atStart => exact ⟨0, none, 0, rfl, Nat.zero_le _, rfl, World.ownsRow_nil _ _ _ _, Below.refl _ _⟩
  case round =>
    obtain ⟨i, b, cap, rfl, hi, rfl, HO, HB⟩ := hrel
    by_cases hlt : i < js.length
    · have hlt' : (i : Int) < js.length := by omega
      have hsz := HB.out.size
      go_wp2_with (at_builtin; refine app_ints rfl _ _ rfl w.heap.size (.slice b i cap) i (idxs (List.range i)) rfl (HO.out.alloc _) _ [(i : Int)] rfl (slc_one _ _) (i + 1) (idxs (List.range (i + 1))) (by simp) (by unfold idxs; rw [List.range_succ, List.map_append]; rfl) (by omega) (by simp; omega) ?_; intro b2 cap2 w3 hown2 hbl2 _ _)
      go_roundw
      case rel => exact ⟨i + 1, b2, cap2, by go_num, by omega, rfl, Lib.hid hown2, Lib.hid (HB.out.trans (((Below.refl _ _).alloc hsz _).trans hbl2))⟩
      case measure => simp [intOf]; omega
    · obtain rfl : i = js.length := by omega
      obtain ⟨wo, rfl⟩ : ∃ wo, wo = wr := ⟨wr, rfl⟩
      have hnn : Value.slice b js.length cap ≠ .slice none 0 0 := by intro e; injection e with _ e _; omega
      have hmem : ∀ x, x ∈ List.range js.length → x < js.length := fun x hx => List.mem_range.1 hx
      have HO2 : Hid (wo.ownsRow w.heap.size 2 1 (.slice b js.length cap) js.length ((List.range js.length).map (encN js.length))) := Lib.hid (by rw [encN_map _ _ hmem]; exact HO.out)
      obtain ⟨g, cap', e, hbg, hgl, _, _, _, hH⟩ := Lib.holds_of_ownsRow HO2.out hnn
      injection e with e1 _ e2
      subst e1; subst e2
      have hbx := HBx.out.lt
      have HC := Lib.hid (sortStable_any js v bx g cap wo (HR.out.up HB.out (Nat.le_refl _)) hn hn2 (HBx.out.below HB.out hbx).cell (Nat.lt_of_lt_of_le hbx HB.out.size) (by omega) (fun a ha => by have := HG.out a ha; omega) (by rw [← List.toArray_range]; exact hH))
      clear hH hnn hmem
      go_wp2_with (go_at_call 126; refine HC.out.mono ?_; rintro e w1 ⟨rfl, hq⟩)
      go_ret
      obtain ⟨q, rfl⟩ := hq
      have hoL : (ordL (dueK js) js.length).length = js.length := ordL_len _ _
      have hx := Lib.ownsRow_putRow (q := 0) (k := js.length) HO2.out hoL (Nat.le_refl _)
      rw [List.take_of_length_le (by omega), encN_map _ _ (ordL_lt _ _)] at hx
      refine ⟨_, rfl, ?_, ?_⟩
      · exact OwnI.mk (n := js.length) hx
      · exact below_drewN (Lib.below_putRow (q := 0) HB.out hbg) q
theorem dueOrder_any (js : List JobD) (v : Value) (w : World) (h : RdJ w v js) (hn : 1 ≤ js.length) (hn2 : js.length ≤ 12) :
    Calls Tryz.prog 68 #[v] w fun e w' => ∃ u, e = .returned u ∧ OwnI w.heap.size w'.heap.size w' u (idxs (ordL (dueK js) js.length)) ∧ Below w.heap.size w w' := by
  obtain ⟨b0, off, hb0, hv⟩ : ∃ b0 off, b0 < w.heap.size ∧ ∃ c, v = .slice (some ⟨b0, off, none⟩) js.length c := by
    obtain ⟨a, c, rfl⟩ := h.shape
    obtain ⟨b, off, rfl, hb, _⟩ := h.at (show 0 < js.length by omega)
    exact ⟨b, off, hb, c, rfl⟩
  obtain ⟨c, rfl⟩ := hv
  have HR := Lib.hid h
  clear h
  have hbl : Below w.heap.size w (w.alloc (.cells #[.slice (some ⟨b0, off, none⟩) js.length c] 28)) := (Below.refl _ _).alloc (Nat.le_refl _) _
  have HB := Lib.hid hbl
  have HC := Lib.hid (orderBy_any js (.slice (some ⟨b0, off, none⟩) js.length c) w.heap.size (w.alloc (.cells #[.slice (some ⟨b0, off, none⟩) js.length c] 28)) (HR.out.up hbl (Nat.le_refl _)) hn hn2 (Box.new w _ _) (fun a ha => by
    have : b0 = a := Option.some.inj ha
    simp; omega))
  clear hbl
  go_enter Tryz.func68, Tryz.ntmps68
  go_wp2_with (go_at_call 63; refine HC.out.mono ?_; rintro e w1 ⟨u, rfl, ho, hb1⟩)
  go_ret
  exact ⟨_, rfl, ho.wide (by simp) (Nat.le_refl _), HB.out.trans (hb1.mono (by simp))⟩
end Go.Proofs.YtgkbbpajkbkgnaaGreatDoor

namespace Go.Proofs.YtgkbbpajkbkgnaaGreatDoor
open Go.RowKit Go.Sort
def ordCA (cf : Nat → Nat → Int) (n : Nat) : Array Nat := Sort.insertionSort (ltOf cf) (Array.range n) 0 n
def ordC (cf : Nat → Nat → Int) (n : Nat) : List Nat := (ordCA cf n).toList
theorem ordCA_perm {cf : Nat → Nat → Int} (hs : SWO (ltOf cf)) (n : Nat) : PermIn 0 n (Array.range n) (ordCA cf n) :=
  (insertionSort_holds hs (Array.range n) 0 n (Nat.zero_le _) (by simp)).1
theorem ordCA_size {cf : Nat → Nat → Int} (hs : SWO (ltOf cf)) (n : Nat) : (ordCA cf n).size = n := by rw [(ordCA_perm hs n).1]; simp
theorem ordC_len {cf : Nat → Nat → Int} (hs : SWO (ltOf cf)) (n : Nat) : (ordC cf n).length = n := by unfold ordC; rw [Array.length_toList, ordCA_size hs]
theorem ordC_perm {cf : Nat → Nat → Int} (hs : SWO (ltOf cf)) (n : Nat) : (ordC cf n).Perm (List.range n) := by
  have h := (ordCA_perm hs n).2.2
  have e0 : ∀ (a : Array Nat) k, a.size = k → a.extract 0 k = a := by
    rintro a _ rfl
    exact Array.extract_size
  have e1 := e0 _ _ (ordCA_size hs n)
  have e2 := e0 (Array.range n) n (by simp)
  rw [e1, e2, Array.toList_range] at h
  exact h
theorem ordC_lt {cf : Nat → Nat → Int} (hs : SWO (ltOf cf)) (n : Nat) : ∀ x ∈ ordC cf n, x < n := fun x hx => List.mem_range.1 ((ordC_perm hs n).mem_iff.1 hx)
theorem stableC_any (f : Nat) (fb : Array Value) (eg : ∀ args w, (callFunc f args).run Tryz.prog w = .ok (.enter f args) w) (cf : Nat → Nat → Int) (g n cap : Nat) (hn1 : 1 ≤ n) (hn2 : n ≤ 19) (w : World) (hcmp : CmpReads Tryz.prog f fb (encN n) cf g 0 n w) (hH : Holds (encN n) w g 0 (Array.range n)) :
    Calls Tryz.prog 175 #[.slice (some ⟨g, 0, none⟩) n cap, .int .i64 n, .func (.func f) #[] fb] w fun e w' =>
      e = .returned (.tuple #[]) ∧ ∃ q, w' = (putRow (encN n) w g 0 (ordCA cf n)).drewN q := by
  have hs : (Array.range n).size = n := Array.size_range
  have HC := insOne_any (encN n) (one_encN _) cf f fb g 0 cap 0 n (Array.range n) w eg (by rw [hs]; exact hcmp) hH (Nat.zero_le _) (by rw [hs]; exact Nat.le_refl _) (by rw [hs]; omega)
  rw [hs] at HC
  have HC := Lib.hid HC
  have h1 : ¬ (20 : Int) ≤ n := by omega
  have h2 : ¬ (20 : Int) < n := by omega
  clear hcmp hH eg
  go_enter Tryz.func175, Tryz.ntmps175
  go_wp2_with fail
  go_loopw [7, 8] (fun av bv wr => av = .int .i64 0 ∧ bv = .int .i64 20 ∧ w = wr) (fun _ _ _ => 0)
  case atStart => exact ⟨rfl, rfl, rfl⟩
  case round =>
    obtain ⟨rfl, rfl, rfl⟩ := hrel
    go_wp2_with (go_at_call 237; refine HC.out.mono ?_; rintro e w1 ⟨rfl, hq⟩)
    have HQ := Lib.hid hq
    clear hq
    go_loopw [6] (fun sv wr => sv = .int .i64 20 ∧ w1 = wr) (fun _ _ => 0)
    case atStart => exact ⟨rfl, rfl⟩
    case round =>
      obtain ⟨rfl, rfl⟩ := hrel
      go_wp2_with fail
      go_end0
      exact ⟨rfl, HQ.out⟩
theorem sortStableC_any (f : Nat) (fb : Array Value) (eg : ∀ args w, (callFunc f args).run Tryz.prog w = .ok (.enter f args) w) (cf : Nat → Nat → Int) (g n cap : Nat) (hn1 : 1 ≤ n) (hn2 : n ≤ 19) (w : World) (hcmp : CmpReads Tryz.prog f fb (encN n) cf g 0 n w) (hH : Holds (encN n) w g 0 (Array.range n)) :
    Calls Tryz.prog 126 #[.slice (some ⟨g, 0, none⟩) n cap, .func (.func f) #[] fb] w fun e w' =>
      e = .returned (.tuple #[]) ∧ ∃ q, w' = (putRow (encN n) w g 0 (ordCA cf n)).drewN q := by
  have HC := Lib.hid (stableC_any f fb eg cf g n cap hn1 hn2 w hcmp hH)
  clear hcmp hH
  go_enter Tryz.func126, Tryz.ntmps126
  go_wp2_with (go_at_call 175; refine HC.out.mono ?_; rintro e w1 ⟨rfl, hq⟩)
  go_end0
  exact ⟨rfl, hq⟩
theorem orderByC19_any (f : Nat) (fb : Array Value) (eg : ∀ args w, (callFunc f args).run Tryz.prog w = .ok (.enter f args) w) (cf : Nat → Nat → Int) (hs : SWO (ltOf cf)) (n : Nat) (hn1 : 1 ≤ n) (hn2 : n ≤ 19) (w : World) (hcmp : ∀ w0 g, Below w.heap.size w w0 → w.heap.size ≤ g → CmpReads Tryz.prog f fb (encN n) cf g 0 n w0) :
    Calls Tryz.prog 63 #[.int .i64 n, .func (.func f) #[] fb] w fun e w' => ∃ u, e = .returned u ∧ OwnI w.heap.size w'.heap.size w' u (idxs (ordC cf n)) ∧ Below w.heap.size w w' := by
  have HCMP := Lib.hid hcmp
  have HSW := Lib.hid hs
  clear hcmp hs
  go_enter Tryz.func63, Tryz.ntmps63
  go_wp2_with fail
  go_loopw [5, 6] (fun out kk wr => ∃ (i : Nat) (b : Option Addr) (cap : Nat), kk = .int .i64 i ∧ i ≤ n ∧ out = .slice b i cap ∧ Hid (wr.ownsRow w.heap.size 2 1 (.slice b i cap) i ((idxs (List.range i)).map I64)) ∧ Hid (Below w.heap.size w wr)) (fun _ kk _ => n + 1 - (intOf kk).toNat)
  case atStart => exact ⟨0, none, 0, rfl, Nat.zero_le _, rfl, World.ownsRow_nil _ _ _ _, Below.refl _ _⟩
  case round =>
    obtain ⟨i, b, cap, rfl, hi, rfl, HO, HB⟩ := hrel
    by_cases hlt : i < n
    · have hlt' : (i : Int) < n := by omega
      have hsz := HB.out.size
      go_wp2_with (at_builtin; refine app_ints rfl _ _ rfl w.heap.size (.slice b i cap) i (idxs (List.range i)) rfl (HO.out.alloc _) _ [(i : Int)] rfl (slc_one _ _) (i + 1) (idxs (List.range (i + 1))) (by simp) (by unfold idxs; rw [List.range_succ, List.map_append]; rfl) (by omega) (by simp; omega) ?_; intro b2 cap2 w3 hown2 hbl2 _ _)
      go_roundw
      case rel => exact ⟨i + 1, b2, cap2, by go_num, by omega, rfl, Lib.hid hown2, Lib.hid (HB.out.trans (((Below.refl _ _).alloc hsz _).trans hbl2))⟩
      case measure => simp [intOf]; omega
    · obtain rfl : i = n := by omega
      obtain ⟨wo, rfl⟩ : ∃ wo, wo = wr := ⟨wr, rfl⟩
      have hnn : Value.slice b i cap ≠ .slice none 0 0 := by intro e; injection e with _ e _; omega
      have hmem : ∀ x, x ∈ List.range i → x < i := fun x hx => List.mem_range.1 hx
      have HO2 : Hid (wo.ownsRow w.heap.size 2 1 (.slice b i cap) i ((List.range i).map (encN i))) := Lib.hid (by rw [encN_map _ _ hmem]; exact HO.out)
      obtain ⟨g, cap', e, hbg, hgl, _, _, _, hH⟩ := Lib.holds_of_ownsRow HO2.out hnn
      injection e with e1 _ e2
      subst e1; subst e2
      have HC := Lib.hid (sortStableC_any f fb eg cf g i cap hn1 hn2 wo (HCMP.out wo g HB.out hbg) (by rw [← List.toArray_range]; exact hH))
      clear hH hnn hmem
      go_wp2_with (go_at_call 126; refine HC.out.mono ?_; rintro e w1 ⟨rfl, hq⟩)
      go_ret
      obtain ⟨q, rfl⟩ := hq
      have hoL : (ordC cf i).length = i := ordC_len HSW.out _
      have hx := Lib.ownsRow_putRow (q := 0) (k := i) HO2.out hoL (Nat.le_refl _)
      rw [List.take_of_length_le (by omega), encN_map _ _ (ordC_lt HSW.out _)] at hx
      refine ⟨_, rfl, ?_, ?_⟩
      · exact OwnI.mk (n := i) hx
      · exact below_drewN (Lib.below_putRow (q := 0) HB.out hbg) q
theorem orderByC_any (f : Nat) (fb : Array Value) (eg : ∀ args w, (callFunc f args).run Tryz.prog w = .ok (.enter f args) w) (cf : Nat → Nat → Int) (hs : SWO (ltOf cf)) (n : Nat) (hn1 : 1 ≤ n) (hn2 : n ≤ 12) (w : World) (hcmp : ∀ w0 g, Below w.heap.size w w0 → w.heap.size ≤ g → CmpReads Tryz.prog f fb (encN n) cf g 0 n w0) :
    Calls Tryz.prog 63 #[.int .i64 n, .func (.func f) #[] fb] w fun e w' => ∃ u, e = .returned u ∧ OwnI w.heap.size w'.heap.size w' u (idxs (ordC cf n)) ∧ Below w.heap.size w w' :=
  orderByC19_any f fb eg cf hs n hn1 (by omega) w hcmp
end Go.Proofs.YtgkbbpajkbkgnaaGreatDoor

namespace Go.Proofs.YtgkbbpajkbkgnaaGreatDoor
open Go.RowKit
theorem jobs_all {js : List JobD} (h : areJobsB js = true) : 1 ≤ js.length ∧ js.length ≤ 12 ∧ ∀ i, i < js.length → (1 ≤ (js.getD i J0).long ∧ (js.getD i J0).long ≤ 1000) ∧ (0 ≤ (js.getD i J0).due ∧ (js.getD i J0).due ≤ 100000) ∧ (0 ≤ (js.getD i J0).ready ∧ (js.getD i J0).ready ≤ 100000) ∧ 0 ≤ (js.getD i J0).weight ∧ (js.getD i J0).weight ≤ 1000 := by
  unfold areJobsB at h
  rw [Bool.and_eq_true, inB_iff, allB_iff] at h
  refine ⟨by omega, by omega, fun i hi => ?_⟩
  have := h.2 i hi
  unfold jobB at this
  simp only [Bool.and_eq_true, inB_iff] at this
  omega
def headK (js : List JobD) (r : Int) : Nat → Int
  | 0 => r
  | m + 1 => if r ≤ (js.getD m J0).ready then headK js r m + (js.getD m J0).long else headK js r m
def headsK (js : List JobD) : Nat → Int
  | 0 => 0
  | j + 1 => max (headsK js j) (headK js (js.getD j J0).ready js.length)
def headsN (js : List JobD) : Int := if areJobsB js = true then headsK js js.length else 0
theorem headK_rng {js : List JobD} (h : ∀ i, i < js.length → (js.getD i J0).long ≤ 1000 ∧ 0 ≤ (js.getD i J0).long) (r : Int) : ∀ m, m ≤ js.length → r ≤ headK js r m ∧ headK js r m ≤ r + 1000 * m
  | 0, _ => by simp [headK]
  | m + 1, hm => by
    have ih := headK_rng h r m (by omega)
    have := h m (by omega)
    simp only [headK]
    split <;> push_cast <;> omega
end Go.Proofs.YtgkbbpajkbkgnaaGreatDoor

namespace Go.Proofs.YtgkbbpajkbkgnaaGreatDoor
open Go.RowKit Go.Sort
def longJ (js : List JobD) (x : Nat) : Int := (js.getD (x % js.length) J0).long
def wgtJ (js : List JobD) (x : Nat) : Int := (js.getD (x % js.length) J0).weight
def smithC (js : List JobD) (x y : Nat) : Int := cmpI (wgtJ js y * longJ js x) (wgtJ js x * longJ js y)
theorem cmpI_neg (x y : Int) : decide (cmpI x y < 0) = decide (x < y) := by
  unfold cmpI
  by_cases h1 : x < y
  · simp [h1]
  · by_cases h2 : y < x <;> simp [h1, h2]
theorem ltOf_cmp (f g : Nat → Nat → Int) : ltOf (fun x y => cmpI (f x y) (g x y)) = fun x y => decide (f x y < g x y) := by
  funext x y
  exact cmpI_neg _ _
theorem smith_lt {js : List JobD} (h : areJobsB js = true) (x : Nat) : 1 ≤ longJ js x ∧ longJ js x ≤ 1000 ∧ 0 ≤ wgtJ js x ∧ wgtJ js x ≤ 1000 := by
  obtain ⟨h1, _, h3⟩ := jobs_all h
  have := h3 (x % js.length) (Nat.mod_lt _ (by omega))
  unfold longJ wgtJ
  omega
theorem swo_smith {js : List JobD} (h : areJobsB js = true) : SWO (ltOf (smithC js)) := by
  have e : ltOf (smithC js) = fun x y => decide (wgtJ js y * longJ js x < wgtJ js x * longJ js y) := ltOf_cmp (fun x y => wgtJ js y * longJ js x) (fun x y => wgtJ js x * longJ js y)
  rw [e]
  refine ⟨fun x => by simp, fun x y z h1 h2 => ?_, fun x y z h1 h2 => ?_⟩
  · simp only [decide_eq_true_eq] at h1 h2 ⊢
    have lx := (smith_lt h x).1
    have ly := (smith_lt h y).1
    have lz := (smith_lt h z).1
    have a := Int.mul_lt_mul_of_pos_right h1 (show 0 < longJ js z by omega)
    have b := Int.mul_lt_mul_of_pos_right h2 (show 0 < longJ js x by omega)
    have c : wgtJ js z * longJ js x * longJ js y < wgtJ js x * longJ js z * longJ js y := by
      rw [Int.mul_right_comm (wgtJ js z), Int.mul_right_comm (wgtJ js x)]
      rw [Int.mul_right_comm (wgtJ js y)] at a
      exact Int.lt_trans b a
    exact Int.lt_of_mul_lt_mul_right c (by omega)
  · simp only [decide_eq_false_iff_not, Int.not_lt] at h1 h2 ⊢
    have lx := (smith_lt h x).1
    have ly := (smith_lt h y).1
    have lz := (smith_lt h z).1
    have a := Int.mul_le_mul_of_nonneg_right h1 (show 0 ≤ longJ js z by omega)
    have b := Int.mul_le_mul_of_nonneg_right h2 (show 0 ≤ longJ js x by omega)
    have c : wgtJ js x * longJ js z * longJ js y ≤ wgtJ js z * longJ js x * longJ js y := by
      rw [Int.mul_right_comm (wgtJ js z), Int.mul_right_comm (wgtJ js x)]
      rw [Int.mul_right_comm (wgtJ js y)] at a
      exact Int.le_trans a b
    exact Int.le_of_mul_le_mul_right c (by omega)
end Go.Proofs.YtgkbbpajkbkgnaaGreatDoor

namespace Go.Proofs.YtgkbbpajkbkgnaaGreatDoor
open Go.RowKit Go.Sort
theorem Tryz.entersSmith (args : Array Value) (w : World) : (callFunc 294 args).run Tryz.prog w = .ok (.enter 294 args) w :=
  enters_of Tryz.func294 (by kernel_rfl) rfl args w
theorem smithCmp_any (i j : Nat) (bx b off n c : Nat) (lx ly gx gy : Int) (w : World) (hi : i < n) (hj : j < n) (hn : n ≤ 1000) (hbox : w.cell? ⟨bx, 0, none⟩ = some (.slice (some ⟨b, off, none⟩) n c))
    (d1 : w.cell? ⟨b, off + i * 4, none⟩ = some (.int .i64 lx)) (d2 : w.cell? ⟨b, off + j * 4, none⟩ = some (.int .i64 ly)) (d3 : w.cell? ⟨b, off + i * 4 + 2, none⟩ = some (.int .i64 gx)) (d4 : w.cell? ⟨b, off + j * 4 + 2, none⟩ = some (.int .i64 gy))
    (h1 : IntKind.i64.wrap (gy * lx) = gy * lx) (h2 : IntKind.i64.wrap (gx * ly) = gx * ly) :
    Calls Tryz.prog 294 #[.int .i64 i, .int .i64 j, .pointer (some ⟨bx, 0, none⟩)] w fun e w' => e = .returned (.int .i64 (cmpI (gy * lx) (gx * ly))) ∧ ∃ q, w' = w.drewN q := by
  have hi' : (i : Int) < n := by omega
  have hj' : (j : Int) < n := by omega
  go_enter Tryz.func294, Tryz.ntmps294
  go_wp2_with fail
  go_quiet ((go_at_call 65; exact quiet_same (cmp64_any _ _ _)))
  go_wp2_with fail
  go_ret
  exact ⟨rfl, _, rfl⟩
theorem wrap_small {x y : Int} (hx : 0 ≤ x ∧ x ≤ 100000) (hy : 0 ≤ y ∧ y ≤ 100000) : IntKind.i64.wrap (x * y) = x * y := by
  refine IntWalk.i64_in _ ?_
  have h1 : 0 ≤ x * y := Int.mul_nonneg hx.1 hy.1
  have h2 : x * y ≤ 100000 * 100000 := Int.mul_le_mul hx.2 hy.2 hy.1 (by decide)
  omega
theorem smithReads {js : List JobD} (hok : areJobsB js = true) (v : Value) (bx g : Nat) (w : World) (h : RdJ w v js) (hb : w.cell? ⟨bx, 0, none⟩ = some v) (hbx : bx < w.heap.size) (hbg : bx ≠ g) (hg : ∀ a, v.ownBlock = some a → a ≠ g) :
    CmpReads Tryz.prog 294 #[.pointer (some ⟨bx, 0, none⟩)] (encN js.length) (smithC js) g 0 js.length w := by
  intro m os dk hs x y
  obtain ⟨hn, hn2, _⟩ := jobs_all hok
  obtain ⟨a, c, rfl⟩ := h.shape
  have hx := Nat.mod_lt x (show 0 < js.length by omega)
  have hy := Nat.mod_lt y (show 0 < js.length by omega)
  obtain ⟨b, off, rfl, hbl, d1, _, d3, _⟩ := h.at hx
  obtain ⟨b', off', e, _, d2, _, d4, _⟩ := h.at hy
  simp only [Option.some.injEq, Addr.mk.injEq] at e
  obtain ⟨rfl, rfl, _⟩ := e
  have hgb : b ≠ g := hg b rfl
  have up : ∀ p : Addr, p.block < w.heap.size → p.block ≠ g → (sortWorld (encN js.length) w g 0 m dk os).cell? p = w.cell? p := by
    intro p h1 h2
    unfold sortWorld
    rw [cell?_grow _ _ _ (by simpa [putRow, mapBlock, Sort.ahead] using h1), cell?_putRow_other _ _ _ _ _ _ (.inl h2)]
    rfl
  have sx := smith_lt hok x
  have sy := smith_lt hok y
  exact smithCmp_any _ _ bx b off js.length c (longJ js x) (longJ js y) (wgtJ js x) (wgtJ js y) _ hx hy (by omega) ((up _ hbx hbg).trans hb) ((up _ hbl hgb).trans d1) ((up _ hbl hgb).trans d2) ((up _ hbl hgb).trans d3) ((up _ hbl hgb).trans d4) (wrap_small (by omega) (by omega)) (wrap_small (by omega) (by omega))
def smithL (js : List JobD) : List Int := if areJobsB js = true then idxs (ordC (smithC js) js.length) else []
set_option maxHeartbeats 2000000 in
theorem smithI_any (v : Value) (js : List JobD) (w : World) (h : RdJ w v js) :
    Calls Tryz.prog 234 #[v] w fun e w' => ∃ u, e = .returned (.tuple #[u, .bool (areJobsB js)]) ∧ OwnI w.heap.size w'.heap.size w' u (smithL js) ∧ Below w.heap.size w w' := by
  obtain ⟨q, hq⟩ : ∃ q, areJobsB js = q := ⟨_, rfl⟩
  have HQ := Lib.hid hq
  obtain ⟨va, vc, rfl⟩ := h.shape
  have HR := Lib.hid h
  have HA := Lib.hid (fun X (hb : Below w.heap.size w X) => AreJobs_any _ js X (h.up hb (Nat.le_refl _)))
  rw [hq] at HA ⊢
  clear hq h
  cases q
  · go_enter Tryz.func234, Tryz.ntmps234
    go_upto_region 1 with fail
    refine wp_at fun W0 hW0 => ?_
    have HB0 := Lib.hid (show Below w.heap.size w W0 by subst hW0; (repeat' first | exact Below.refl _ _ | assumption | refine Below.alloc ?_ ?_ _ | refine Below.setCell ?_ ?_ _ | refine Below.drew ?_ | (simp; done) | (simp; omega)))
    have HK0 := Lib.hid (show Box W0 w.heap.size 28 (.slice va js.length vc) by subst hW0; exact Box.new _ _ _)
    have hz0 := HB0.out.size
    clear hW0
    have d0 := HK0.out.cell
    go_wp2_with (go_at_call 51; refine (HA.out W0 HB0.out).mono ?_; rintro e w0 ⟨rfl, hb0⟩)
    go_ret2
    exact ⟨_, rfl, by rw [show smithL js = [] by unfold smithL; rw [HQ.out]; rfl]; exact ⟨World.ownsRow_nil _ _ _ _, by intro g hg; cases hg⟩, HB0.out.trans (hb0.mono hz0)⟩
  · obtain ⟨hn, hn2, _⟩ := jobs_all HQ.out
    have hown : ∀ a, (Value.slice va js.length vc).ownBlock = some a → a < w.heap.size := fun a ha => by
      obtain ⟨b, off, rfl, hb, _⟩ := HR.out.at (i := 0) (by omega)
      have : b = a := Option.some.inj ha
      omega
    have HOB := Lib.hid hown
    have HOD := Lib.hid (fun X (hb : Below w.heap.size w X) (hk : Box X w.heap.size 28 (.slice va js.length vc)) (hz : w.heap.size < X.heap.size) => orderByC_any 294 #[.pointer (some ⟨w.heap.size, 0, none⟩)] Tryz.entersSmith (smithC js) (swo_smith HQ.out) js.length hn hn2 X (fun w0 g hb0 hg => smithReads HQ.out _ w.heap.size g w0 ((HR.out.up hb (Nat.le_refl _)).up hb0 (Nat.le_refl _)) (hk.below hb0 hz).cell (Nat.lt_of_lt_of_le hz hb0.size) (by omega) (fun a ha => by have := HOB.out a ha; omega)))
    clear hown
    go_enter Tryz.func234, Tryz.ntmps234
    go_upto_region 1 with fail
    refine wp_at fun W0 hW0 => ?_
    have HB0 := Lib.hid (show Below w.heap.size w W0 by subst hW0; (repeat' first | exact Below.refl _ _ | assumption | refine Below.alloc ?_ ?_ _ | refine Below.setCell ?_ ?_ _ | refine Below.drew ?_ | (simp; done) | (simp; omega)))
    have HK0 := Lib.hid (show Box W0 w.heap.size 28 (.slice va js.length vc) by subst hW0; exact Box.new _ _ _)
    have hz0 := HB0.out.size
    have hk0 := HK0.out.lt
    clear hW0
    have d0 := HK0.out.cell
    go_upto_region 3 with (go_at_call 51; refine (HA.out W0 HB0.out).mono ?_; rintro e w0 ⟨rfl, hb0⟩; have HB1 := Lib.hid (HB0.out.trans (hb0.mono hz0)); have HK1 := Lib.hid (HK0.out.below hb0 hk0))
    have hz1 := HB1.out.size
    clear d0
    have d0 := HK1.out.cell
    go_wp2_with (go_at_call 63; refine (HOD.out w0 HB1.out HK1.out HK1.out.lt).mono ?_; rintro e w1 ⟨u, rfl, ho, hb1⟩)
    go_ret2
    exact ⟨_, rfl, by rw [show smithL js = idxs (ordC (smithC js) js.length) by unfold smithL; rw [HQ.out]; rfl]; exact ho.wide hz1 (Nat.le_refl _), HB1.out.trans (hb1.mono hz1)⟩
end Go.Proofs.YtgkbbpajkbkgnaaGreatDoor

namespace Go.Proofs.YtgkbbpajkbkgnaaGreatDoor
open Go.RowKit Go.Sort
def minK (l : List Int) : Nat → Nat
  | 0 => 0
  | k + 1 => if l.getD k 0 < l.getD (minK l k) 0 then k else minK l k
theorem minK_lt (l : List Int) : ∀ k, minK l (k + 1) ≤ k
  | 0 => by
    show (if l.getD 0 0 < l.getD 0 0 then 0 else 0) ≤ 0
    simp
  | k + 1 => by
    have ih := minK_lt l k
    show (if l.getD (k + 1) 0 < l.getD (minK l (k + 1)) 0 then k + 1 else minK l (k + 1)) ≤ k + 1
    split <;> omega
theorem minK_le (l : List Int) (m k : Nat) (hm : 0 < m) (hk : k ≤ m) : minK l k < m := by
  cases k with
  | zero => exact hm
  | succ k => have := minK_lt l k; omega
def maxK (l : List Int) : Nat → Int
  | 0 => l.getD 0 0
  | k + 1 => max (maxK l k) (l.getD (k + 1) 0)
def maxL (l : List Int) : Int := maxK l (l.length - 1)
def listK (js : List JobD) (os : List Int) (m : Nat) : Nat → List Int × List Int
  | 0 => (List.replicate js.length 0, List.replicate m 0)
  | k + 1 => ((listK js os m k).1.set (os.getD k 0).toNat (minK (listK js os m k).2 m : Nat),
      (listK js os m k).2.set (minK (listK js os m k).2 m) ((listK js os m k).2.getD (minK (listK js os m k).2 m) 0 + (js.getD (os.getD k 0).toNat J0).long))
def listO (js : List JobD) (os : List Int) (m : Nat) : List Int := (listK js os m os.length).1
def listE (js : List JobD) (os : List Int) (m : Nat) : Int := maxL (listK js os m os.length).2
theorem listK_len (js : List JobD) (os : List Int) (m : Nat) : ∀ k, (listK js os m k).1.length = js.length ∧ (listK js os m k).2.length = m
  | 0 => by simp [listK]
  | k + 1 => by
    have ih := listK_len js os m k
    simp only [listK, List.length_set]
    exact ih
theorem listK_rng {js : List JobD} (h : ∀ i, i < js.length → (js.getD i J0).long ≤ 1000 ∧ 0 ≤ (js.getD i J0).long) {os : List Int} (ho : ∀ k, k < os.length → (os.getD k 0).toNat < js.length) (m : Nat) : ∀ k, k ≤ os.length → ∀ f, 0 ≤ (listK js os m k).2.getD f 0 ∧ (listK js os m k).2.getD f 0 ≤ 1000 * k
  | 0, _, f => by
    simp only [listK, List.getD_eq_getElem?_getD, List.getElem?_replicate]
    split <;> simp
  | k + 1, hk, f => by
    have ih := listK_rng h ho m k (by omega)
    have hj := h _ (ho k (by omega))
    simp only [listK]
    rw [List.getD_eq_getElem?_getD, List.getElem?_set]
    have a := ih (minK (listK js os m k).2 m)
    have b := ih f
    rw [List.getD_eq_getElem?_getD] at b
    by_cases e : minK (listK js os m k).2 m = f
    · by_cases e2 : minK (listK js os m k).2 m < (listK js os m k).2.length
      · rw [if_pos e, if_pos e2]
        simp only [Option.getD_some]
        push_cast
        omega
      · rw [if_pos e, if_neg e2]
        show (0 : Int) ≤ 0 ∧ (0 : Int) ≤ 1000 * ((k + 1 : Nat) : Int)
        omega
    · rw [if_neg e]
      push_cast
      omega
end Go.Proofs.YtgkbbpajkbkgnaaGreatDoor

namespace Go.Proofs.YtgkbbpajkbkgnaaGreatDoor
open Go.RowKit
def zerosA (n : Nat) : Array Value := madeCells (Value.int .i64 0).cells n
theorem zerosA_list (n : Nat) : (zerosA n).toList = (List.replicate n (0 : Int)).map I64 := by
  unfold zerosA
  rw [show (Value.int .i64 0).cells = #[Value.int .i64 0] from rfl, toList_madeCells_one, List.map_replicate]
  rfl
theorem run_make_ints (n : Nat) (hn : n ≤ 100000) (W : World) : (Instr.makeSlice 27 (.int .i64 n) (.int .i64 n)).run Tryz.prog W = .ok (.slice (some ⟨W.heap.size, 0, none⟩) n n) (W.alloc (.cells (zerosA n) 2)) := by
  obtain ⟨i0, hi, hz0, hz1, hz2⟩ := info_parts Tryz.infoI64
  have h := run_makeSlice (P := Tryz.prog) W 27 2 i0 (.int .i64 0) Tryz.underlying27 hi hz0 .i64 .i64 n n (by omega) (Int.le_refl _) (by rw [hz1]; omega) (by rw [hz2]; omega) (by omega)
  rw [h, hz1]
  simp [zerosA]
theorem owns_zerosI (n : Nat) (hn : n ≤ 100000) (W : World) (b : Nat) (hb : b = W.heap.size) : (W.alloc (.cells (zerosA n) 2)).ownsRow W.heap.size 2 1 (.slice (some ⟨b, 0, none⟩) n n) n ((List.replicate n (0 : Int)).map I64) := by
  subst hb
  rw [← zerosA_list]
  have hs : (zerosA n).size = n := by rw [← Array.length_toList, zerosA_list]; simp
  exact World.ownsRow_lit (base := W.heap.size) (e := 2) (size := 1) W (zerosA n) n (Nat.le_refl _) (by simp [maxLen]; omega) (by rw [hs]; omega)
end Go.Proofs.YtgkbbpajkbkgnaaGreatDoor
