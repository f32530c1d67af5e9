/-
  FnJobs: texts joined: SortI, OrdC, JbA, OntM.
-/
import Derived.Lib.OwnBridge
import Derived.BigQuiet
import Derived.Deep.Cut
import Derived.Test.YtfdaifmfecfchaaMFnJobsAC
namespace Go.Proofs.Ytfdaifmfecfchaa
open Go.RowKit Go.Sort

/-- The key of an index: the due time of the job. -/
def dueK (js : List JobD) (x : Nat) : Int := (js.getD (x % js.length) J0).due
theorem Try.entersDue (args : Array Value) (w : World) : (callFunc 79 args).run Try.prog w = .ok (.enter 79 args) w :=
  enters_of Try.func79 (by kernel_rfl) rfl args w

/-- The closure that compares the due times of two jobs. -/
theorem dueCmp_any (i j : Nat) (bx b off n c : Nat) (x y : Int) (w : World) (hi : i < n) (hj : j < n) (hn : n ≤ 1000) (hbox : w.cell? ⟨bx, 0, none⟩ = some (.slice (some ⟨b, off, none⟩) n c))
    (d1 : w.cell? ⟨b, off + i * 4 + 1, none⟩ = some (.int .i64 x)) (d2 : w.cell? ⟨b, off + j * 4 + 1, none⟩ = some (.int .i64 y)) :
    Calls Try.prog 79 #[.int .i64 i, .int .i64 j, .pointer (some ⟨bx, 0, none⟩)] w fun e w' => e = .returned (.int .i64 (cmpI x y)) ∧ ∃ q, w' = w.drewN q := by
  have hi' : (i : Int) < n := by omega
  have hj' : (j : Int) < n := by omega
  go_enter Try.func79, Try.ntmps79
  go_wp2_with fail
  go_quiet ((go_at_call 44; exact quiet_same (cmp64_any _ _ _)))
  go_wp2_with fail
  go_ret
  exact ⟨rfl, _, rfl⟩

/-- What the sort asks of it. -/
theorem dueReads (js : List JobD) (v : Value) (bx g : Nat) (w : World) (h : RdJ w v js) (hn : 1 ≤ js.length) (hn2 : js.length ≤ 12) (hb : w.cell? ⟨bx, 0, none⟩ = some v) (hbx : bx < w.heap.size) (hbg : bx ≠ g) (hg : ∀ a, v.ownBlock = some a → a ≠ g) :
    CmpReads Try.prog 79 #[.pointer (some ⟨bx, 0, none⟩)] (encN js.length) (fun x y => cmpI (dueK js x) (dueK js y)) g 0 js.length w := by
  intro m os dk hs x y
  obtain ⟨a, c, rfl⟩ := h.shape
  have hx := Nat.mod_lt x (show 0 < js.length by omega)
  have hy := Nat.mod_lt y (show 0 < js.length by omega)
  obtain ⟨b, off, rfl, hbl, _, d1, _, _⟩ := h.at hx
  obtain ⟨b', off', e, _, _, d2, _, _⟩ := h.at hy
  simp only [Option.some.injEq, Addr.mk.injEq] at e
  obtain ⟨rfl, rfl, _⟩ := e
  have hgb : b ≠ g := hg b rfl
  have up : ∀ p : Addr, p.block < w.heap.size → p.block ≠ g → (sortWorld (encN js.length) w g 0 m dk os).cell? p = w.cell? p := by
    intro p h1 h2
    unfold sortWorld
    rw [cell?_grow _ _ _ (by simpa [putRow, mapBlock, Sort.ahead] using h1), cell?_putRow_other _ _ _ _ _ _ (.inl h2)]
    rfl
  exact dueCmp_any _ _ bx b off js.length c _ _ _ hx hy (by omega) ((up _ hbx hbg).trans hb) ((up _ hbl hgb).trans d1) ((up _ hbl hgb).trans d2)

theorem one_encN (n : Nat) : OneCell (encN n) := fun _ => rfl

theorem ltOf_due (js : List JobD) : ltOf (fun x y => cmpI (dueK js x) (dueK js y)) = ltK (dueK js) := by
  funext x y
  unfold ltOf ltK cmpI
  by_cases h1 : dueK js x < dueK js y
  · simp [h1]
  · by_cases h2 : dueK js y < dueK js x <;> simp [h1, h2]

/-- The shelf's contract of the insertion sort, whatever its name in this seat's shelf. -/
theorem insOne_any {α : Type} [Inhabited α] (enc : α → Value) (one : OneCell enc) (cf : α → α → Int) (f : Nat) (fb : Array Value) (blk off cap a b : Nat) (d : Array α) (w : World)
    (eg : ∀ args w, (callFunc f args).run Try.prog w = .ok (.enter f args) w) (hcmp : CmpReads Try.prog f fb enc cf blk off d.size w) (hH : Holds enc w blk off d) (hab : a ≤ b) (hb : b ≤ d.size) (hsz : d.size < 4611686018427387904) :
    Calls Try.prog 101 #[.slice (some ⟨blk, off, none⟩) d.size cap, .int .i64 a, .int .i64 b, .func (.func f) #[] fb] w fun e w' => e = .returned (.tuple #[]) ∧ ∃ n, w' = (putRow enc w blk off (Sort.insertionSort (ltOf cf) d a b)).drewN n := by
  first
    | exact Try.insertionSortCmpFunc_one_f101 enc one cf f fb blk off cap a b d w eg hcmp hH hab hb hsz
    | exact Try.insertionSortCmpFunc_one enc one cf f fb blk off cap a b d w eg hcmp hH hab hb hsz

theorem insDue_any (js : List JobD) (v : Value) (bx g cap : Nat) (w : World) (h : RdJ w v js) (hn : 1 ≤ js.length) (hn2 : js.length ≤ 12) (hb : w.cell? ⟨bx, 0, none⟩ = some v) (hbx : bx < w.heap.size) (hbg : bx ≠ g) (hg : ∀ a, v.ownBlock = some a → a ≠ g)
    (hH : Holds (encN js.length) w g 0 (Array.range js.length)) :
    Calls Try.prog 101 #[.slice (some ⟨g, 0, none⟩) js.length cap, .int .i64 0, .int .i64 js.length, .func (.func 79) #[] #[.pointer (some ⟨bx, 0, none⟩)]] w fun e w' =>
      e = .returned (.tuple #[]) ∧ ∃ q, w' = (putRow (encN js.length) w g 0 (ordA (dueK js) js.length)).drewN q := by
  have hs : (Array.range js.length).size = js.length := Array.size_range
  have hr := insOne_any (encN js.length) (one_encN _) (fun x y => cmpI (dueK js x) (dueK js y)) 79 #[.pointer (some ⟨bx, 0, none⟩)] g 0 cap 0 js.length (Array.range js.length) w Try.entersDue (by rw [hs]; exact dueReads js v bx g w h hn hn2 hb hbx hbg hg) hH (Nat.zero_le _) (by rw [hs]; exact Nat.le_refl _) (by rw [hs]; omega)
  rw [hs, ltOf_due] at hr
  exact hr

theorem stableDue_any (js : List JobD) (v : Value) (bx g cap : Nat) (w : World) (h : RdJ w v js) (hn : 1 ≤ js.length) (hn2 : js.length ≤ 12) (hb : w.cell? ⟨bx, 0, none⟩ = some v) (hbx : bx < w.heap.size) (hbg : bx ≠ g) (hg : ∀ a, v.ownBlock = some a → a ≠ g)
    (hH : Holds (encN js.length) w g 0 (Array.range js.length)) :
    Calls Try.prog 89 #[.slice (some ⟨g, 0, none⟩) js.length cap, .int .i64 js.length, .func (.func 79) #[] #[.pointer (some ⟨bx, 0, none⟩)]] w fun e w' =>
      e = .returned (.tuple #[]) ∧ ∃ q, w' = (putRow (encN js.length) w g 0 (ordA (dueK js) js.length)).drewN q := by
  have HC := Lib.hid (insDue_any js v bx g cap w h hn hn2 hb hbx hbg hg hH)
  have h1 : ¬ (20 : Int) ≤ js.length := by omega
  have h2 : ¬ (20 : Int) < js.length := by omega
  clear h hb hbx hbg hg hH
  go_enter Try.func89, Try.ntmps89
  go_wp2_with fail
  go_loopw [7, 8] (fun av bv wr => av = .int .i64 0 ∧ bv = .int .i64 20 ∧ w = wr) (fun _ _ _ => 0)
  case atStart => exact ⟨rfl, rfl, rfl⟩
  case round =>
    obtain ⟨rfl, rfl, rfl⟩ := hrel
    go_wp2_with (go_at_call 101; refine HC.out.mono ?_; rintro e w1 ⟨rfl, hq⟩)
    have HQ := Lib.hid hq
    clear hq
    go_loopw [6] (fun sv wr => sv = .int .i64 20 ∧ w1 = wr) (fun _ _ => 0)
    case atStart => exact ⟨rfl, rfl⟩
    case round =>
      obtain ⟨rfl, rfl⟩ := hrel
      go_wp2_with fail
      go_end0
      exact ⟨rfl, HQ.out⟩

theorem sortStable_any (js : List JobD) (v : Value) (bx g cap : Nat) (w : World) (h : RdJ w v js) (hn : 1 ≤ js.length) (hn2 : js.length ≤ 12) (hb : w.cell? ⟨bx, 0, none⟩ = some v) (hbx : bx < w.heap.size) (hbg : bx ≠ g) (hg : ∀ a, v.ownBlock = some a → a ≠ g)
    (hH : Holds (encN js.length) w g 0 (Array.range js.length)) :
    Calls Try.prog 77 #[.slice (some ⟨g, 0, none⟩) js.length cap, .func (.func 79) #[] #[.pointer (some ⟨bx, 0, none⟩)]] w fun e w' =>
      e = .returned (.tuple #[]) ∧ ∃ q, w' = (putRow (encN js.length) w g 0 (ordA (dueK js) js.length)).drewN q := by
  have HC := Lib.hid (stableDue_any js v bx g cap w h hn hn2 hb hbx hbg hg hH)
  clear h hb hbx hbg hg hH
  go_enter Try.func77, Try.ntmps77
  go_wp2_with (go_at_call 89; refine HC.out.mono ?_; rintro e w1 ⟨rfl, hq⟩)
  go_end0
  exact ⟨rfl, hq⟩

/-- The program's list of indices, sorted. -/
theorem orderBy_any (js : List JobD) (v : Value) (bx : Nat) (w : World) (h : RdJ w v js) (hn : 1 ≤ js.length) (hn2 : js.length ≤ 12) (hb : Box w bx 25 v) (hg : ∀ a, v.ownBlock = some a → a < w.heap.size) :
    Calls Try.prog 42 #[.int .i64 js.length, .func (.func 79) #[] #[.pointer (some ⟨bx, 0, none⟩)]] w fun e w' => ∃ u, e = .returned u ∧ OwnI w.heap.size w'.heap.size w' u (idxs (ordL (dueK js) js.length)) ∧ Below w.heap.size w w' := by
  have HR := Lib.hid h
  have HBx := Lib.hid hb
  have HG := Lib.hid hg
  clear h hb hg
  go_enter Try.func42, Try.ntmps42
  go_wp2_with fail
  go_loopw [5, 6] (fun out kk wr => ∃ (i : Nat) (b : Option Addr) (cap : Nat), kk = .int .i64 i ∧ i ≤ js.length ∧ out = .slice b i cap ∧ Hid (wr.ownsRow w.heap.size 2 1 (.slice b i cap) i ((idxs (List.range i)).map I64)) ∧ Hid (Below w.heap.size w wr)) (fun _ kk _ => js.length + 1 - (intOf kk).toNat)
  case atStart => exact ⟨0, none, 0, rfl, Nat.zero_le _, rfl, World.ownsRow_nil _ _ _ _, Below.refl _ _⟩
  case round =>
    obtain ⟨i, b, cap, rfl, hi, rfl, HO, HB⟩ := hrel
    by_cases hlt : i < js.length
    · have hlt' : (i : Int) < js.length := by omega
      have hsz := HB.out.size
      go_wp2_with (at_builtin; refine app_ints rfl _ _ rfl w.heap.size (.slice b i cap) i (idxs (List.range i)) rfl (HO.out.alloc _) _ [(i : Int)] rfl (slc_one _ _) (i + 1) (idxs (List.range (i + 1))) (by simp) (by unfold idxs; rw [List.range_succ, List.map_append]; rfl) (by omega) (by simp; omega) ?_; intro b2 cap2 w3 hown2 hbl2 _ _)
      go_roundw
      case rel => exact ⟨i + 1, b2, cap2, by go_num, by omega, rfl, Lib.hid hown2, Lib.hid (HB.out.trans (((Below.refl _ _).alloc hsz _).trans hbl2))⟩
      case measure => simp [intOf]; omega
    · obtain rfl : i = js.length := by omega
      obtain ⟨wo, rfl⟩ : ∃ wo, wo = wr := ⟨wr, rfl⟩
      have hnn : Value.slice b js.length cap ≠ .slice none 0 0 := by intro e; injection e with _ e _; omega
      have hmem : ∀ x, x ∈ List.range js.length → x < js.length := fun x hx => List.mem_range.1 hx
      have HO2 : Hid (wo.ownsRow w.heap.size 2 1 (.slice b js.length cap) js.length ((List.range js.length).map (encN js.length))) := Lib.hid (by rw [encN_map _ _ hmem]; exact HO.out)
      obtain ⟨g, cap', e, hbg, hgl, _, _, _, hH⟩ := Lib.holds_of_ownsRow HO2.out hnn
      injection e with e1 _ e2
      subst e1; subst e2
      have hbx := HBx.out.lt
      have HC := Lib.hid (sortStable_any js v bx g cap wo (HR.out.up HB.out (Nat.le_refl _)) hn hn2 (HBx.out.below HB.out hbx).cell (Nat.lt_of_lt_of_le hbx HB.out.size) (by omega) (fun a ha => by have := HG.out a ha; omega) (by rw [← List.toArray_range]; exact hH))
      clear hH hnn hmem
      go_wp2_with (go_at_call 77; refine HC.out.mono ?_; rintro e w1 ⟨rfl, hq⟩)
      go_ret
      obtain ⟨q, rfl⟩ := hq
      have hoL : (ordL (dueK js) js.length).length = js.length := ordL_len _ _
      have hx := Lib.ownsRow_putRow (q := 0) (k := js.length) HO2.out hoL (Nat.le_refl _)
      rw [List.take_of_length_le (by omega), encN_map _ _ (ordL_lt _ _)] at hx
      refine ⟨_, rfl, ?_, ?_⟩
      · exact OwnI.mk (n := js.length) hx
      · exact below_drewN (Lib.below_putRow (q := 0) HB.out hbg) q

/-- The program's jobs by due time. -/
theorem dueOrder_any (js : List JobD) (v : Value) (w : World) (h : RdJ w v js) (hn : 1 ≤ js.length) (hn2 : js.length ≤ 12) :
    Calls Try.prog 45 #[v] w fun e w' => ∃ u, e = .returned u ∧ OwnI w.heap.size w'.heap.size w' u (idxs (ordL (dueK js) js.length)) ∧ Below w.heap.size w w' := by
  obtain ⟨b0, off, hb0, hv⟩ : ∃ b0 off, b0 < w.heap.size ∧ ∃ c, v = .slice (some ⟨b0, off, none⟩) js.length c := by
    obtain ⟨a, c, rfl⟩ := h.shape
    obtain ⟨b, off, rfl, hb, _⟩ := h.at (show 0 < js.length by omega)
    exact ⟨b, off, hb, c, rfl⟩
  obtain ⟨c, rfl⟩ := hv
  have HR := Lib.hid h
  clear h
  have hbl : Below w.heap.size w (w.alloc (.cells #[.slice (some ⟨b0, off, none⟩) js.length c] 25)) := (Below.refl _ _).alloc (Nat.le_refl _) _
  have HB := Lib.hid hbl
  have HC := Lib.hid (orderBy_any js (.slice (some ⟨b0, off, none⟩) js.length c) w.heap.size (w.alloc (.cells #[.slice (some ⟨b0, off, none⟩) js.length c] 25)) (HR.out.up hbl (Nat.le_refl _)) hn hn2 (Box.new w _ _) (fun a ha => by
    have : b0 = a := Option.some.inj ha
    simp; omega))
  clear hbl
  go_enter Try.func45, Try.ntmps45
  go_wp2_with (go_at_call 42; refine HC.out.mono ?_; rintro e w1 ⟨u, rfl, ho, hb1⟩)
  go_ret
  exact ⟨_, rfl, ho.wide (by simp) (Nat.le_refl _), HB.out.trans (hb1.mono (by simp))⟩

end Go.Proofs.Ytfdaifmfecfchaa

namespace Go.Proofs.Ytfdaifmfecfchaa
open Go.RowKit Go.Sort

/-- Indices in the order of a comparison. -/
def ordCA (cf : Nat → Nat → Int) (n : Nat) : Array Nat := Sort.insertionSort (ltOf cf) (Array.range n) 0 n
def ordC (cf : Nat → Nat → Int) (n : Nat) : List Nat := (ordCA cf n).toList
theorem ordCA_perm {cf : Nat → Nat → Int} (hs : SWO (ltOf cf)) (n : Nat) : PermIn 0 n (Array.range n) (ordCA cf n) :=
  (insertionSort_holds hs (Array.range n) 0 n (Nat.zero_le _) (by simp)).1
theorem ordCA_size {cf : Nat → Nat → Int} (hs : SWO (ltOf cf)) (n : Nat) : (ordCA cf n).size = n := by rw [(ordCA_perm hs n).1]; simp
theorem ordC_len {cf : Nat → Nat → Int} (hs : SWO (ltOf cf)) (n : Nat) : (ordC cf n).length = n := by unfold ordC; rw [Array.length_toList, ordCA_size hs]
theorem ordC_perm {cf : Nat → Nat → Int} (hs : SWO (ltOf cf)) (n : Nat) : (ordC cf n).Perm (List.range n) := by
  have h := (ordCA_perm hs n).2.2
  have e0 : ∀ (a : Array Nat) k, a.size = k → a.extract 0 k = a := by
    rintro a _ rfl
    exact Array.extract_size
  have e1 := e0 _ _ (ordCA_size hs n)
  have e2 := e0 (Array.range n) n (by simp)
  rw [e1, e2, Array.toList_range] at h
  exact h
theorem ordC_lt {cf : Nat → Nat → Int} (hs : SWO (ltOf cf)) (n : Nat) : ∀ x ∈ ordC cf n, x < n := fun x hx => List.mem_range.1 ((ordC_perm hs n).mem_iff.1 hx)

theorem stableC_any (f : Nat) (fb : Array Value) (eg : ∀ args w, (callFunc f args).run Try.prog w = .ok (.enter f args) w) (cf : Nat → Nat → Int) (g n cap : Nat) (hn1 : 1 ≤ n) (hn2 : n ≤ 12) (w : World) (hcmp : CmpReads Try.prog f fb (encN n) cf g 0 n w) (hH : Holds (encN n) w g 0 (Array.range n)) :
    Calls Try.prog 89 #[.slice (some ⟨g, 0, none⟩) n cap, .int .i64 n, .func (.func f) #[] fb] w fun e w' =>
      e = .returned (.tuple #[]) ∧ ∃ q, w' = (putRow (encN n) w g 0 (ordCA cf n)).drewN q := by
  have hs : (Array.range n).size = n := Array.size_range
  have HC := insOne_any (encN n) (one_encN _) cf f fb g 0 cap 0 n (Array.range n) w eg (by rw [hs]; exact hcmp) hH (Nat.zero_le _) (by rw [hs]; exact Nat.le_refl _) (by rw [hs]; omega)
  rw [hs] at HC
  have HC := Lib.hid HC
  have h1 : ¬ (20 : Int) ≤ n := by omega
  have h2 : ¬ (20 : Int) < n := by omega
  clear hcmp hH eg
  go_enter Try.func89, Try.ntmps89
  go_wp2_with fail
  go_loopw [7, 8] (fun av bv wr => av = .int .i64 0 ∧ bv = .int .i64 20 ∧ w = wr) (fun _ _ _ => 0)
  case atStart => exact ⟨rfl, rfl, rfl⟩
  case round =>
    obtain ⟨rfl, rfl, rfl⟩ := hrel
    go_wp2_with (go_at_call 101; refine HC.out.mono ?_; rintro e w1 ⟨rfl, hq⟩)
    have HQ := Lib.hid hq
    clear hq
    go_loopw [6] (fun sv wr => sv = .int .i64 20 ∧ w1 = wr) (fun _ _ => 0)
    case atStart => exact ⟨rfl, rfl⟩
    case round =>
      obtain ⟨rfl, rfl⟩ := hrel
      go_wp2_with fail
      go_end0
      exact ⟨rfl, HQ.out⟩

theorem sortStableC_any (f : Nat) (fb : Array Value) (eg : ∀ args w, (callFunc f args).run Try.prog w = .ok (.enter f args) w) (cf : Nat → Nat → Int) (g n cap : Nat) (hn1 : 1 ≤ n) (hn2 : n ≤ 12) (w : World) (hcmp : CmpReads Try.prog f fb (encN n) cf g 0 n w) (hH : Holds (encN n) w g 0 (Array.range n)) :
    Calls Try.prog 77 #[.slice (some ⟨g, 0, none⟩) n cap, .func (.func f) #[] fb] w fun e w' =>
      e = .returned (.tuple #[]) ∧ ∃ q, w' = (putRow (encN n) w g 0 (ordCA cf n)).drewN q := by
  have HC := Lib.hid (stableC_any f fb eg cf g n cap hn1 hn2 w hcmp hH)
  clear hcmp hH
  go_enter Try.func77, Try.ntmps77
  go_wp2_with (go_at_call 89; refine HC.out.mono ?_; rintro e w1 ⟨rfl, hq⟩)
  go_end0
  exact ⟨rfl, hq⟩

/-- The program's list of indices, sorted by a comparison. -/
theorem orderByC_any (f : Nat) (fb : Array Value) (eg : ∀ args w, (callFunc f args).run Try.prog w = .ok (.enter f args) w) (cf : Nat → Nat → Int) (hs : SWO (ltOf cf)) (n : Nat) (hn1 : 1 ≤ n) (hn2 : n ≤ 12) (w : World) (hcmp : ∀ w0 g, Below w.heap.size w w0 → w.heap.size ≤ g → CmpReads Try.prog f fb (encN n) cf g 0 n w0) :
    Calls Try.prog 42 #[.int .i64 n, .func (.func f) #[] fb] w fun e w' => ∃ u, e = .returned u ∧ OwnI w.heap.size w'.heap.size w' u (idxs (ordC cf n)) ∧ Below w.heap.size w w' := by
  have HCMP := Lib.hid hcmp
  have HSW := Lib.hid hs
  clear hcmp hs
  go_enter Try.func42, Try.ntmps42
  go_wp2_with fail
  go_loopw [5, 6] (fun out kk wr => ∃ (i : Nat) (b : Option Addr) (cap : Nat), kk = .int .i64 i ∧ i ≤ n ∧ out = .slice b i cap ∧ Hid (wr.ownsRow w.heap.size 2 1 (.slice b i cap) i ((idxs (List.range i)).map I64)) ∧ Hid (Below w.heap.size w wr)) (fun _ kk _ => n + 1 - (intOf kk).toNat)
  case atStart => exact ⟨0, none, 0, rfl, Nat.zero_le _, rfl, World.ownsRow_nil _ _ _ _, Below.refl _ _⟩
  case round =>
    obtain ⟨i, b, cap, rfl, hi, rfl, HO, HB⟩ := hrel
    by_cases hlt : i < n
    · have hlt' : (i : Int) < n := by omega
      have hsz := HB.out.size
      go_wp2_with (at_builtin; refine app_ints rfl _ _ rfl w.heap.size (.slice b i cap) i (idxs (List.range i)) rfl (HO.out.alloc _) _ [(i : Int)] rfl (slc_one _ _) (i + 1) (idxs (List.range (i + 1))) (by simp) (by unfold idxs; rw [List.range_succ, List.map_append]; rfl) (by omega) (by simp; omega) ?_; intro b2 cap2 w3 hown2 hbl2 _ _)
      go_roundw
      case rel => exact ⟨i + 1, b2, cap2, by go_num, by omega, rfl, Lib.hid hown2, Lib.hid (HB.out.trans (((Below.refl _ _).alloc hsz _).trans hbl2))⟩
      case measure => simp [intOf]; omega
    · obtain rfl : i = n := by omega
      obtain ⟨wo, rfl⟩ : ∃ wo, wo = wr := ⟨wr, rfl⟩
      have hnn : Value.slice b i cap ≠ .slice none 0 0 := by intro e; injection e with _ e _; omega
      have hmem : ∀ x, x ∈ List.range i → x < i := fun x hx => List.mem_range.1 hx
      have HO2 : Hid (wo.ownsRow w.heap.size 2 1 (.slice b i cap) i ((List.range i).map (encN i))) := Lib.hid (by rw [encN_map _ _ hmem]; exact HO.out)
      obtain ⟨g, cap', e, hbg, hgl, _, _, _, hH⟩ := Lib.holds_of_ownsRow HO2.out hnn
      injection e with e1 _ e2
      subst e1; subst e2
      have HC := Lib.hid (sortStableC_any f fb eg cf g i cap hn1 hn2 wo (HCMP.out wo g HB.out hbg) (by rw [← List.toArray_range]; exact hH))
      clear hH hnn hmem
      go_wp2_with (go_at_call 77; refine HC.out.mono ?_; rintro e w1 ⟨rfl, hq⟩)
      go_ret
      obtain ⟨q, rfl⟩ := hq
      have hoL : (ordC cf i).length = i := ordC_len HSW.out _
      have hx := Lib.ownsRow_putRow (q := 0) (k := i) HO2.out hoL (Nat.le_refl _)
      rw [List.take_of_length_le (by omega), encN_map _ _ (ordC_lt HSW.out _)] at hx
      refine ⟨_, rfl, ?_, ?_⟩
      · exact OwnI.mk (n := i) hx
      · exact below_drewN (Lib.below_putRow (q := 0) HB.out hbg) q

end Go.Proofs.Ytfdaifmfecfchaa

namespace Go.Proofs.Ytfdaifmfecfchaa
open Go.RowKit Go.Sort

/-! ### sums -/
def sumF (f : Nat → Int) : List Nat → Int
  | [] => 0
  | x :: r => f x + sumF f r
theorem sumF_app (f : Nat → Int) : ∀ (a b : List Nat), sumF f (a ++ b) = sumF f a + sumF f b
  | [], b => by simp [sumF]
  | x :: a, b => by simp only [List.cons_append, sumF, sumF_app f a b]; omega
theorem sumF_perm (f : Nat → Int) {a b : List Nat} (h : a.Perm b) : sumF f a = sumF f b := by
  induction h with
  | nil => rfl
  | cons x _ ih => simp only [sumF, ih]
  | swap x y l => simp only [sumF]; omega
  | trans _ _ i1 i2 => exact i1.trans i2
theorem sumF_nonneg {f : Nat → Int} : ∀ {a : List Nat}, (∀ x ∈ a, 0 ≤ f x) → 0 ≤ sumF f a
  | [], _ => by simp [sumF]
  | x :: a, h => by
    have := sumF_nonneg (f := f) (a := a) (fun y hy => h y (List.mem_cons_of_mem _ hy))
    have := h x (List.mem_cons_self ..)
    simp only [sumF]
    omega
theorem sumF_le {f g : Nat → Int} : ∀ {a : List Nat}, (∀ x ∈ a, f x ≤ g x) → sumF f a ≤ sumF g a
  | [], _ => by simp [sumF]
  | x :: a, h => by
    have := sumF_le (f := f) (g := g) (a := a) (fun y hy => h y (List.mem_cons_of_mem _ hy))
    have := h x (List.mem_cons_self ..)
    simp only [sumF]
    omega
theorem sumF_congr {f g : Nat → Int} : ∀ {a : List Nat}, (∀ x ∈ a, f x = g x) → sumF f a = sumF g a
  | [], _ => rfl
  | x :: a, h => by
    simp only [sumF, h x (List.mem_cons_self ..), sumF_congr (f := f) (g := g) (a := a) (fun y hy => h y (List.mem_cons_of_mem _ hy))]
theorem sumF_mul (c : Int) (f : Nat → Int) : ∀ a : List Nat, sumF (fun x => c * f x) a = c * sumF f a
  | [] => by simp [sumF]
  | x :: a => by simp only [sumF, sumF_mul c f a, Int.mul_add]
theorem sumF_range_succ (f : Nat → Int) (n : Nat) : sumF f (List.range (n + 1)) = sumF f (List.range n) + f n := by
  rw [List.range_succ, sumF_app]
  simp [sumF]
theorem sumF_erase (f : Nat → Int) {a : List Nat} {x : Nat} (h : x ∈ a) : sumF f a = f x + sumF f (a.erase x) := sumF_perm f (List.perm_cons_erase h)
theorem nodup_sub_len : ∀ {a b : List Nat}, a.Nodup → (∀ x ∈ a, x ∈ b) → a.length ≤ b.length
  | [], _, _, _ => Nat.zero_le _
  | x :: a, b, hn, h => by
    have hx := h x (List.mem_cons_self ..)
    have hn' := List.nodup_cons.1 hn
    have := nodup_sub_len (a := a) (b := b.erase x) hn'.2 (fun y hy => (List.mem_erase_of_ne (fun e : y = x => hn'.1 (e ▸ hy))).2 (h y (List.mem_cons_of_mem _ hy)))
    rw [List.length_erase_of_mem hx] at this
    have : 0 < b.length := List.length_pos_of_mem hx
    simp only [List.length_cons]
    omega
theorem nodup_sub_perm {a b : List Nat} (ha : a.Nodup) (hs : ∀ x ∈ a, x ∈ b) (hl : b.length ≤ a.length) : a.Perm b := by
  induction a generalizing b with
  | nil => rw [List.length_nil, Nat.le_zero, List.length_eq_zero_iff] at hl; rw [hl]
  | cons x a ih =>
    have hx := hs x (List.mem_cons_self ..)
    have hn' := List.nodup_cons.1 ha
    have h0 : 0 < b.length := List.length_pos_of_mem hx
    refine (List.Perm.cons x (ih (b := b.erase x) hn'.2 (fun y hy => (List.mem_erase_of_ne (fun e : y = x => hn'.1 (e ▸ hy))).2 (hs y (List.mem_cons_of_mem _ hy))) ?_)).trans (List.perm_cons_erase hx).symm
    rw [List.length_erase_of_mem hx]
    simp only [List.length_cons] at hl
    omega

/-! ### pairs in order -/
def pairG (g : Nat → Nat → Int) : List Nat → Int
  | [] => 0
  | x :: r => sumF (g x) r + pairG g r
theorem pairG_perm {h : Nat → Nat → Int} (hs : ∀ x y, h x y = h y x) {a b : List Nat} (hp : a.Perm b) : pairG h a = pairG h b := by
  induction hp with
  | nil => rfl
  | cons x hp ih => simp only [pairG, ih, sumF_perm (h x) hp]
  | swap x y l => simp only [pairG, sumF, hs x y]; omega
  | trans _ _ i1 i2 => exact i1.trans i2
theorem pairG_le {g h : Nat → Nat → Int} (hl : ∀ x y, h x y ≤ g x y) : ∀ a : List Nat, pairG h a ≤ pairG g a
  | [] => by simp [pairG]
  | x :: a => by
    have := pairG_le hl a
    have := sumF_le (f := h x) (g := g x) (a := a) (fun y _ => hl x y)
    simp only [pairG]
    omega
theorem pairG_eq {g h : Nat → Nat → Int} : ∀ {a : List Nat}, a.Pairwise (fun x y => g x y = h x y) → pairG g a = pairG h a
  | [], _ => rfl
  | x :: a, hp => by
    obtain ⟨h1, h2⟩ := List.pairwise_cons.1 hp
    simp only [pairG, pairG_eq h2, sumF_congr h1]
/-- The sum over pairs is least in an order in which each pair stands as is cheaper. -/
theorem pair_best {g : Nat → Nat → Int} {a b : List Nat} (hp : a.Perm b) (ha : a.Pairwise (fun x y => g x y ≤ g y x)) : pairG g a ≤ pairG g b := by
  have h1 : pairG g a = pairG (fun x y => min (g x y) (g y x)) a := pairG_eq (ha.imp fun {x y} h => by omega)
  have h2 := pairG_perm (h := fun x y => min (g x y) (g y x)) (fun x y => by omega) hp
  have h3 := pairG_le (g := g) (h := fun x y => min (g x y) (g y x)) (fun x y => by omega) b
  omega

/-! ### what ends cost -/
def gcost (l : Nat → Int) (p : Nat → Int → Int) (t : Int) : List Nat → Int
  | [] => 0
  | x :: r => p x (t + l x) + gcost l p (t + l x) r
theorem gcost_app (l : Nat → Int) (p : Nat → Int → Int) : ∀ (t : Int) (a b : List Nat), gcost l p t (a ++ b) = gcost l p t a + gcost l p (t + sumF l a) b
  | t, [], b => by simp [gcost, sumF]
  | t, x :: a, b => by
    simp only [List.cons_append, gcost, sumF, gcost_app l p (t + l x) a b]
    rw [Int.add_assoc t]
    omega
theorem gcost_w (l w : Nat → Int) : ∀ (t : Int) (L : List Nat), gcost l (fun x c => w x * c) t L = t * sumF w L + sumF (fun x => w x * l x) L + pairG (fun x y => l x * w y) L
  | t, [] => by simp [gcost, sumF, pairG]
  | t, x :: L => by
    simp only [gcost, sumF, pairG, gcost_w l w (t + l x) L, sumF_mul (l x) w L, Int.mul_add, Int.add_mul]
    rw [Int.mul_comm (w x) t]
    omega
theorem gcost_congr {l : Nat → Int} {p q : Nat → Int → Int} : ∀ (t : Int) (L : List Nat), (∀ x ∈ L, ∀ c, p x c = q x c) → gcost l p t L = gcost l q t L
  | t, [], _ => rfl
  | t, x :: L, h => by
    simp only [gcost]
    rw [h x (List.mem_cons_self ..), gcost_congr (t + l x) L (fun y hy => h y (List.mem_cons_of_mem _ hy))]
/-- When a job of an order ends. -/
def cEnd (l : Nat → Int) : List Nat → Nat → Int
  | [], _ => 0
  | y :: r, x => if y = x then l y else l y + cEnd l r x
theorem cEnd_mid (l : Nat → Int) (x : Nat) (b : List Nat) : ∀ a : List Nat, x ∉ a → cEnd l (a ++ x :: b) x = sumF l a + l x
  | [], _ => by simp [cEnd, sumF]
  | y :: a, h => by
    have h1 : y ≠ x := fun e => h (e ▸ List.mem_cons_self ..)
    have h2 : x ∉ a := fun e => h (List.mem_cons_of_mem _ e)
    simp only [List.cons_append, cEnd, if_neg h1, cEnd_mid l x b a h2, sumF]
    omega
theorem gcost_cEnd (l : Nat → Int) (p : Nat → Int → Int) : ∀ (t : Int) (L : List Nat), L.Nodup → gcost l p t L = sumF (fun x => p x (t + cEnd l L x)) L
  | t, [], _ => rfl
  | t, y :: L, h => by
    obtain ⟨h1, h2⟩ := List.nodup_cons.1 h
    simp only [gcost, sumF, cEnd, if_pos]
    rw [gcost_cEnd l p (t + l y) L h2]
    congr 1
    refine sumF_congr fun x hx => ?_
    have e : (if y = x then l y else l y + cEnd l L x) = l y + cEnd l L x := if_neg (fun e : y = x => h1 (e ▸ hx))
    rw [e, ← Int.add_assoc]
/-- Of some jobs of an order one ends not before the time that they take together. -/
theorem core_end {l : Nat → Int} : ∀ (L : List Nat), (∀ x ∈ L, 0 ≤ l x) → L.Nodup → ∀ A : List Nat, A.Nodup → A ≠ [] → (∀ x ∈ A, x ∈ L) → ∃ x ∈ A, sumF l A ≤ cEnd l L x
  | [], _, _, A, _, h0, hs => by
    cases A with
    | nil => exact absurd rfl h0
    | cons x A => exact absurd (hs x (List.mem_cons_self ..)) (by simp)
  | y :: L, hl, hL, A, hA, h0, hs => by
    obtain ⟨n1, n2⟩ := List.nodup_cons.1 hL
    have hy := hl y (List.mem_cons_self ..)
    have hl' : ∀ x ∈ L, 0 ≤ l x := fun x hx => hl x (List.mem_cons_of_mem _ hx)
    by_cases hyA : y ∈ A
    · have e := sumF_erase l hyA
      by_cases h1 : A.erase y = []
      · refine ⟨y, hyA, ?_⟩
        rw [e, h1]
        simp [sumF, cEnd]
      · obtain ⟨x, hx, hle⟩ := core_end L hl' n2 (A.erase y) (hA.erase y) h1 (fun x hx => by
          have hx' := (hA.mem_erase_iff).1 hx
          rcases List.mem_cons.1 (hs x hx'.2) with h | h
          · exact absurd h hx'.1
          · exact h)
        have hx' := (hA.mem_erase_iff).1 hx
        refine ⟨x, hx'.2, ?_⟩
        simp only [cEnd, if_neg (fun h : y = x => hx'.1 h.symm)]
        omega
    · obtain ⟨x, hx, hle⟩ := core_end L hl' n2 A hA h0 (fun x hx => by
        rcases List.mem_cons.1 (hs x hx) with h | h
        · exact absurd (h ▸ hx) hyA
        · exact h)
      refine ⟨x, hx, ?_⟩
      simp only [cEnd, if_neg (fun h : y = x => hyA (h ▸ hx))]
      omega

/-! ### by due times -/
/-- In the order of due times no job is later than some job in any other order. -/
theorem due_best {l d : Nat → Int} {D L : List Nat} (hp : D.Perm L) (hL : L.Nodup) (hl : ∀ x ∈ L, 0 ≤ l x) (hD : D.Pairwise fun x y => d x ≤ d y) (i : Nat) (hi : i ∈ D) : ∃ x ∈ L, cEnd l D i - d i ≤ cEnd l L x - d x := by
  obtain ⟨a, b, rfl⟩ := List.append_of_mem hi
  have hN : (a ++ i :: b).Nodup := hp.nodup_iff.2 hL
  have hia : i ∉ a := fun h => (List.nodup_append.1 hN).2.2 i h i (List.mem_cons_self ..) rfl
  have hna : (a ++ [i]).Nodup := by
    refine hN.sublist (List.Sublist.append_left ?_ a)
    exact List.Sublist.cons_cons i (List.nil_sublist b)
  obtain ⟨x, hx, hle⟩ := core_end L hl hL (a ++ [i]) hna (by simp) (fun x hx => hp.mem_iff.1 (by
    rcases List.mem_append.1 hx with h | h
    · exact List.mem_append_left _ h
    · rw [List.mem_singleton.1 h]; exact hi))
  have hdx : d x ≤ d i := by
    rcases List.mem_append.1 hx with h | h
    · exact (List.pairwise_append.1 hD).2.2 x h i (List.mem_cons_self ..)
    · rw [List.mem_singleton.1 h]; exact Int.le_refl _
  refine ⟨x, ?_, ?_⟩
  · refine hp.mem_iff.1 ?_
    rcases List.mem_append.1 hx with h | h
    · exact List.mem_append_left _ h
    · rw [List.mem_singleton.1 h]; exact hi
  · rw [cEnd_mid l i b a hia]
    rw [sumF_app] at hle
    simp only [sumF] at hle
    omega

/-! ### a sorted order -/
theorem ordC_sorted {cf : Nat → Nat → Int} (hs : SWO (ltOf cf)) (n : Nat) : (ordC cf n).Pairwise fun x y => ¬ cf y x < 0 := by
  have h : SortedIn (ltOf cf) 0 n (ordCA cf n) := (insertionSort_holds hs (Array.range n) 0 n (Nat.zero_le _) (by simp)).2
  have hsz := ordCA_size hs n
  unfold ordC
  rw [List.pairwise_iff_getElem]
  intro i j hi hj hij
  have h1 := h i j (Nat.zero_le _) hij (by rw [Array.length_toList] at hj; omega)
  rw [Array.length_toList] at hi hj
  rw [getElem!_pos (ordCA cf n) j hj, getElem!_pos (ordCA cf n) i hi] at h1
  rw [Array.getElem_toList, Array.getElem_toList]
  unfold ltOf at h1
  simpa using h1

end Go.Proofs.Ytfdaifmfecfchaa

namespace Go.Proofs.Ytfdaifmfecfchaa
open Go.RowKit Go.Sort

def longK (js : List JobD) (x : Nat) : Int := (js.getD x J0).long
/-- The first of the greatest. -/
def mostN (f : Nat → Int) : Nat → Nat
  | 0 => 0
  | k + 1 => if f (mostN f k) < f k then k else mostN f k
theorem mostN_lt (f : Nat → Int) : ∀ k, 0 < k → mostN f k < k
  | 0, h => absurd h (by omega)
  | k + 1, _ => by
    simp only [mostN]
    split
    · omega
    · cases k with
      | zero => simp [mostN]
      | succ k => have := mostN_lt f (k + 1) (by omega); omega
theorem mostN_le (f : Nat → Int) (k : Nat) : mostN f k ≤ k := by
  cases k with
  | zero => exact Nat.le_refl _
  | succ k => have := mostN_lt f (k + 1) (by omega); omega
theorem mostN_one (f : Nat → Int) : mostN f 1 = 0 := by simp [mostN]
def keptLong (js : List JobD) (K : List Nat) (k : Nat) : Int := longK js (K.getD k 0)
def longest (js : List JobD) (K : List Nat) : Nat := mostN (keptLong js K) K.length

/-- One job more. -/
def otStep (js : List JobD) (K A : List Nat) (t : Int) (i : Nat) : List Nat × List Nat × Int :=
  if t + longK js i ≤ (js.getD i J0).due then (K ++ [i], A, t + longK js i)
  else ((K ++ [i]).eraseIdx (longest js (K ++ [i])), A ++ [(K ++ [i]).getD (longest js (K ++ [i])) 0], t + longK js i - longK js ((K ++ [i]).getD (longest js (K ++ [i])) 0))
def otRun (js : List JobD) : List Nat → List Nat → List Nat → Int → List Nat × List Nat
  | [], K, A, _ => (K, A)
  | i :: r, K, A, t => otRun js r (otStep js K A t i).1 (otStep js K A t i).2.1 (otStep js K A t i).2.2
def ordJ (js : List JobD) : List Nat := ordL (dueK js) js.length
def otEnd (js : List JobD) : List Nat × List Nat := otRun js (ordJ js) [] [] 0
def otL (js : List JobD) : List Int := if areJobsB js = true then idxs ((otEnd js).1 ++ (otEnd js).2) else []
def otN (js : List JobD) : Int := if areJobsB js = true then ((otEnd js).1.length : Nat) else 0

theorem areJobs_facts {js : List JobD} (h : areJobsB js = true) : 1 ≤ js.length ∧ js.length ≤ 12 ∧ ∀ i, i < js.length → 1 ≤ longK js i ∧ longK js i ≤ 1000 ∧ 0 ≤ (js.getD i J0).due ∧ (js.getD i J0).due ≤ 100000 := by
  unfold areJobsB at h
  rw [Bool.and_eq_true, inB_iff, allB_iff] at h
  refine ⟨by omega, by omega, fun i hi => ?_⟩
  have := h.2 i hi
  unfold jobB at this
  simp only [Bool.and_eq_true, inB_iff] at this
  unfold longK
  omega

/-- Where the work stands behind k jobs. -/
structure Ont (js : List JobD) (k : Nat) (K A : List Nat) (t : Int) : Prop where
  lens : K.length + A.length = k
  small : ∀ x, x ∈ K → x < js.length
  lo : -(1000 * (k : Int)) ≤ t
  hi : t ≤ 1000 * (k : Int)
  run : otRun js ((ordJ js).drop k) K A t = otEnd js
theorem Ont.start (js : List JobD) : Ont js 0 [] [] 0 := ⟨rfl, fun _ h => absurd h (by simp), by omega, by omega, rfl⟩
theorem ordJ_len (js : List JobD) : (ordJ js).length = js.length := ordL_len _ _
theorem ordJ_lt (js : List JobD) (k : Nat) (h : k < js.length) : (ordJ js).getD k 0 < js.length := by
  refine ordL_lt (dueK js) js.length _ ?_
  rw [List.getD_eq_getElem?_getD, List.getElem?_eq_getElem (by rw [ordJ_len]; exact h)]
  exact List.getElem_mem _
theorem Ont.next {js : List JobD} {k : Nat} {K A : List Nat} {t : Int} (h : Ont js k K A t) (hk : k < js.length) (i : Nat) (hi : i = (ordJ js).getD k 0) (hj : areJobsB js = true) :
    Ont js (k + 1) (otStep js K A t i).1 (otStep js K A t i).2.1 (otStep js K A t i).2.2 := by
  have hf := (areJobs_facts hj).2.2
  have hin : i < js.length := by rw [hi]; exact ordJ_lt js k hk
  have hl := hf i hin
  have hd : (ordJ js).drop k = i :: (ordJ js).drop (k + 1) := by
    have hlt : k < (ordJ js).length := by rw [ordJ_len]; exact hk
    rw [List.drop_eq_getElem_cons hlt, hi, List.getD_eq_getElem?_getD, List.getElem?_eq_getElem hlt]
    rfl
  have hrun := h.run
  rw [hd] at hrun
  have hK1 : ∀ x, x ∈ K ++ [i] → x < js.length := fun x hx => by
    rcases List.mem_append.1 hx with h1 | h1
    · exact h.small x h1
    · rw [List.mem_singleton.1 h1]; exact hin
  have h0 := h.lens
  have h1 := h.lo
  have h2 := h.hi
  by_cases ht : t + longK js i ≤ (js.getD i J0).due
  · have e : otStep js K A t i = (K ++ [i], A, t + longK js i) := if_pos ht
    rw [otRun, e] at hrun
    rw [e]
    exact ⟨by simp; omega, hK1, by simp; omega, by simp; omega, hrun⟩
  · have e := (show otStep js K A t i = _ from if_neg ht)
    rw [otRun, e] at hrun
    rw [e]
    have hm := mostN_lt (keptLong js (K ++ [i])) (K ++ [i]).length (by simp)
    have hx : (K ++ [i]).getD (longest js (K ++ [i])) 0 < js.length := by
      refine hK1 _ ?_
      unfold longest
      rw [List.getD_eq_getElem?_getD, List.getElem?_eq_getElem hm]
      exact List.getElem_mem _
    have hlx := hf _ hx
    refine ⟨?_, fun x hx => hK1 x (List.mem_of_mem_eraseIdx hx), ?_, ?_, hrun⟩
    · unfold longest
      simp only [List.length_append, List.length_singleton] at hm ⊢
      rw [List.length_eraseIdx, if_pos (by simpa using hm)]
      simp; omega
    · simp only; omega
    · simp only; omega
theorem Ont.done {js : List JobD} {K A : List Nat} {t : Int} (h : Ont js js.length K A t) : otEnd js = (K, A) := by
  have := h.run
  rw [List.drop_of_length_le (by rw [ordJ_len]; exact Nat.le_refl _)] at this
  exact this.symm

theorem otStep_len (js : List JobD) (K A : List Nat) (t : Int) (i : Nat) : (otStep js K A t i).1.length + (otStep js K A t i).2.1.length = K.length + A.length + 1 := by
  unfold otStep
  split
  · simp; omega
  · have hm := mostN_lt (keptLong js (K ++ [i])) (K ++ [i]).length (by simp)
    simp only [List.length_eraseIdx, List.length_append, List.length_singleton] at hm ⊢
    unfold longest
    simp only [List.length_append, List.length_singleton]
    rw [if_pos hm]
    omega
theorem otRun_len (js : List JobD) : ∀ (r K A : List Nat) (t : Int), (otRun js r K A t).1.length + (otRun js r K A t).2.length = K.length + A.length + r.length
  | [], K, A, t => rfl
  | i :: r, K, A, t => by
    rw [otRun, otRun_len js r, otStep_len]
    simp; omega
theorem otL_cnt (js : List JobD) : cntI (otL js) ≤ 1048576 := by
  unfold cntI otL
  split
  · rename_i h
    have h1 := otRun_len js (ordJ js) [] [] 0
    have h2 := ordJ_len js
    have h3 := (areJobs_facts h).2.1
    rw [idxs_len, List.length_append]
    unfold otEnd
    simp only [List.length_nil] at h1
    omega
  · simp

theorem cntJ_le (js : List JobD) : cntJ js ≤ 4 * bulkJ js := by unfold cntJ bulkJ; omega

theorem idxs_app (L M : List Nat) : idxs (L ++ M) = idxs L ++ idxs M := by unfold idxs; rw [List.map_append]
theorem idxs_erase (L : List Nat) (m : Nat) : idxs (L.eraseIdx m) = (idxs L).eraseIdx m := by
  unfold idxs
  rw [List.eraseIdx_eq_take_drop_succ, List.eraseIdx_eq_take_drop_succ, List.map_append, List.map_take, List.map_drop]
theorem idxs_at (L : List Nat) (k : Nat) (h : k < L.length) : (idxs L).getD k 0 = ((L.getD k 0 : Nat) : Int) := by
  unfold idxs
  rw [List.getD_eq_getElem?_getD, List.getD_eq_getElem?_getD, List.getElem?_map, List.getElem?_eq_getElem h]
  rfl

/-- Two rows of the call, apart. -/
def Own2 (B : Nat) (w : World) (kv av : Value) (xs ys : List Int) : Prop :=
  w.ownsRow B 2 1 kv xs.length (xs.map I64) ∧ w.ownsRow B 2 1 av ys.length (ys.map I64) ∧ ∀ g, kv.ownBlock = some g → av.ownBlock ≠ some g
theorem Own2.symm {B : Nat} {w : World} {kv av : Value} {xs ys : List Int} (h : Own2 B w kv av xs ys) : Own2 B w av kv ys xs := ⟨h.2.1, h.1, fun g h1 h2 => h.2.2 g h2 h1⟩
theorem Own2.up {B C : Nat} {w w' : World} {kv av : Value} {xs ys : List Int} (h : Own2 B w kv av xs ys) (hb : Below C w w') (hC : w.heap.size ≤ C) : Own2 B w' kv av xs ys := ⟨owns_below h.1 hb hC, owns_below h.2.1 hb hC, h.2.2⟩
/-- The first has grown; the second lies as it lay. -/
theorem Own2.grow {B : Nat} {w w0 w' : World} {kv av : Value} {xs ys zs : List Int} {a' : Option Addr} {m c' : Nat} (h : Own2 B w0 kv av xs ys) (h0 : Below w0.heap.size w0 w) (ho : w'.ownsRow B 2 1 (.slice a' m c') m (zs.map I64)) (hm : m = zs.length)
    (hg : w.grownBy w' kv.ownBlock) (hb : (Value.slice a' m c').ownBlock = kv.ownBlock ∨ (Value.slice a' m c').ownBlock = some w.heap.size) : Own2 B w' (.slice a' m c') av zs ys := by
  subst hm
  have hav := owns_below h.2.1 h0 (Nat.le_refl _)
  have hs := h0.size
  refine ⟨ho, owns_kept (S := fun k => kv.ownBlock = some k) hav ⟨hg.os, hg.tape, hg.output, hg.size, fun k hk hs => hg.block k hk fun e => hs e.symm⟩ (fun g h1 h2 => h.2.2 g h2 h1), fun g h1 h2 => ?_⟩
  rcases hb with hb | hb
  · exact h.2.2 g (by rw [← hb]; exact h1) h2
  · have := (owns_lt h.2.1 h2).2
    rw [h1] at hb
    injection hb with hb
    omega
/-- One is taken out of the first. -/
theorem Own2.cut {B g c c' m m' : Nat} {w w' : World} {av : Value} {xs ys zs : List Int} (h : Own2 B w (.slice (some ⟨g, 0, none⟩) m c) av xs ys) (ho : w'.ownsRow B 2 1 (.slice (some ⟨g, 0, none⟩) m' c') m' (zs.map I64)) (hm : m' = zs.length) (hk : Kept (· = g) w w') : Own2 B w' (.slice (some ⟨g, 0, none⟩) m' c') av zs ys := by
  subst hm
  exact ⟨ho, owns_kept h.2.1 hk (fun k h1 h2 => h.2.2 g rfl (by rw [← h2]; exact h1)), fun k h1 => h.2.2 k h1⟩

end Go.Proofs.Ytfdaifmfecfchaa
