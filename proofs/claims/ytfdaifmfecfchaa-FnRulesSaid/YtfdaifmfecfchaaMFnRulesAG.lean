/-
  FnRules: texts joined: SortI, SimI, SimP, RuT, RuU, RuUa.
-/
import Derived.Lib.OwnBridge
import Derived.BigQuiet
import Derived.Test.YtfdaifmfecfchaaMFnRulesAC
import Derived.Test.YtfdaifmfecfchaaMFnRulesAD
import Derived.Test.YtfdaifmfecfchaaMFnRulesAF
namespace Go.Proofs.Ytfdaifmfecfchaa
open Go.RowKit Go.Sort

/-- The key of an index: the due time of the job. -/
def dueK (js : List JobD) (x : Nat) : Int := (js.getD (x % js.length) J0).due
theorem Try.entersDue (args : Array Value) (w : World) : (callFunc 79 args).run Try.prog w = .ok (.enter 79 args) w :=
  enters_of Try.func79 (by kernel_rfl) rfl args w

/-- The closure that compares the due times of two jobs. -/
theorem dueCmp_any (i j : Nat) (bx b off n c : Nat) (x y : Int) (w : World) (hi : i < n) (hj : j < n) (hn : n ≤ 1000) (hbox : w.cell? ⟨bx, 0, none⟩ = some (.slice (some ⟨b, off, none⟩) n c))
    (d1 : w.cell? ⟨b, off + i * 4 + 1, none⟩ = some (.int .i64 x)) (d2 : w.cell? ⟨b, off + j * 4 + 1, none⟩ = some (.int .i64 y)) :
    Calls Try.prog 79 #[.int .i64 i, .int .i64 j, .pointer (some ⟨bx, 0, none⟩)] w fun e w' => e = .returned (.int .i64 (cmpI x y)) ∧ ∃ q, w' = w.drewN q := by
  have hi' : (i : Int) < n := by omega
  have hj' : (j : Int) < n := by omega
  go_enter Try.func79, Try.ntmps79
  go_wp2_with fail
  go_quiet ((go_at_call 44; exact quiet_same (cmp64_any _ _ _)))
  go_wp2_with fail
  go_ret
  exact ⟨rfl, _, rfl⟩

/-- What the sort asks of it. -/
theorem dueReads (js : List JobD) (v : Value) (bx g : Nat) (w : World) (h : RdJ w v js) (hn : 1 ≤ js.length) (hn2 : js.length ≤ 12) (hb : w.cell? ⟨bx, 0, none⟩ = some v) (hbx : bx < w.heap.size) (hbg : bx ≠ g) (hg : ∀ a, v.ownBlock = some a → a ≠ g) :
    CmpReads Try.prog 79 #[.pointer (some ⟨bx, 0, none⟩)] (encN js.length) (fun x y => cmpI (dueK js x) (dueK js y)) g 0 js.length w := by
  intro m os dk hs x y
  obtain ⟨a, c, rfl⟩ := h.shape
  have hx := Nat.mod_lt x (show 0 < js.length by omega)
  have hy := Nat.mod_lt y (show 0 < js.length by omega)
  obtain ⟨b, off, rfl, hbl, _, d1, _, _⟩ := h.at hx
  obtain ⟨b', off', e, _, _, d2, _, _⟩ := h.at hy
  simp only [Option.some.injEq, Addr.mk.injEq] at e
  obtain ⟨rfl, rfl, _⟩ := e
  have hgb : b ≠ g := hg b rfl
  have up : ∀ p : Addr, p.block < w.heap.size → p.block ≠ g → (sortWorld (encN js.length) w g 0 m dk os).cell? p = w.cell? p := by
    intro p h1 h2
    unfold sortWorld
    rw [cell?_grow _ _ _ (by simpa [putRow, mapBlock, Sort.ahead] using h1), cell?_putRow_other _ _ _ _ _ _ (.inl h2)]
    rfl
  exact dueCmp_any _ _ bx b off js.length c _ _ _ hx hy (by omega) ((up _ hbx hbg).trans hb) ((up _ hbl hgb).trans d1) ((up _ hbl hgb).trans d2)

theorem one_encN (n : Nat) : OneCell (encN n) := fun _ => rfl

theorem ltOf_due (js : List JobD) : ltOf (fun x y => cmpI (dueK js x) (dueK js y)) = ltK (dueK js) := by
  funext x y
  unfold ltOf ltK cmpI
  by_cases h1 : dueK js x < dueK js y
  · simp [h1]
  · by_cases h2 : dueK js y < dueK js x <;> simp [h1, h2]

/-- The shelf's contract of the insertion sort, whatever its name in this seat's shelf. -/
theorem insOne_any {α : Type} [Inhabited α] (enc : α → Value) (one : OneCell enc) (cf : α → α → Int) (f : Nat) (fb : Array Value) (blk off cap a b : Nat) (d : Array α) (w : World)
    (eg : ∀ args w, (callFunc f args).run Try.prog w = .ok (.enter f args) w) (hcmp : CmpReads Try.prog f fb enc cf blk off d.size w) (hH : Holds enc w blk off d) (hab : a ≤ b) (hb : b ≤ d.size) (hsz : d.size < 4611686018427387904) :
    Calls Try.prog 101 #[.slice (some ⟨blk, off, none⟩) d.size cap, .int .i64 a, .int .i64 b, .func (.func f) #[] fb] w fun e w' => e = .returned (.tuple #[]) ∧ ∃ n, w' = (putRow enc w blk off (Sort.insertionSort (ltOf cf) d a b)).drewN n := by
  first
    | exact Try.insertionSortCmpFunc_one_f101 enc one cf f fb blk off cap a b d w eg hcmp hH hab hb hsz
    | exact Try.insertionSortCmpFunc_one enc one cf f fb blk off cap a b d w eg hcmp hH hab hb hsz

theorem insDue_any (js : List JobD) (v : Value) (bx g cap : Nat) (w : World) (h : RdJ w v js) (hn : 1 ≤ js.length) (hn2 : js.length ≤ 12) (hb : w.cell? ⟨bx, 0, none⟩ = some v) (hbx : bx < w.heap.size) (hbg : bx ≠ g) (hg : ∀ a, v.ownBlock = some a → a ≠ g)
    (hH : Holds (encN js.length) w g 0 (Array.range js.length)) :
    Calls Try.prog 101 #[.slice (some ⟨g, 0, none⟩) js.length cap, .int .i64 0, .int .i64 js.length, .func (.func 79) #[] #[.pointer (some ⟨bx, 0, none⟩)]] w fun e w' =>
      e = .returned (.tuple #[]) ∧ ∃ q, w' = (putRow (encN js.length) w g 0 (ordA (dueK js) js.length)).drewN q := by
  have hs : (Array.range js.length).size = js.length := Array.size_range
  have hr := insOne_any (encN js.length) (one_encN _) (fun x y => cmpI (dueK js x) (dueK js y)) 79 #[.pointer (some ⟨bx, 0, none⟩)] g 0 cap 0 js.length (Array.range js.length) w Try.entersDue (by rw [hs]; exact dueReads js v bx g w h hn hn2 hb hbx hbg hg) hH (Nat.zero_le _) (by rw [hs]; exact Nat.le_refl _) (by rw [hs]; omega)
  rw [hs, ltOf_due] at hr
  exact hr

theorem stableDue_any (js : List JobD) (v : Value) (bx g cap : Nat) (w : World) (h : RdJ w v js) (hn : 1 ≤ js.length) (hn2 : js.length ≤ 12) (hb : w.cell? ⟨bx, 0, none⟩ = some v) (hbx : bx < w.heap.size) (hbg : bx ≠ g) (hg : ∀ a, v.ownBlock = some a → a ≠ g)
    (hH : Holds (encN js.length) w g 0 (Array.range js.length)) :
    Calls Try.prog 89 #[.slice (some ⟨g, 0, none⟩) js.length cap, .int .i64 js.length, .func (.func 79) #[] #[.pointer (some ⟨bx, 0, none⟩)]] w fun e w' =>
      e = .returned (.tuple #[]) ∧ ∃ q, w' = (putRow (encN js.length) w g 0 (ordA (dueK js) js.length)).drewN q := by
  have HC := Lib.hid (insDue_any js v bx g cap w h hn hn2 hb hbx hbg hg hH)
  have h1 : ¬ (20 : Int) ≤ js.length := by omega
  have h2 : ¬ (20 : Int) < js.length := by omega
  clear h hb hbx hbg hg hH
  go_enter Try.func89, Try.ntmps89
  go_wp2_with fail
  go_loopw [7, 8] (fun av bv wr => av = .int .i64 0 ∧ bv = .int .i64 20 ∧ w = wr) (fun _ _ _ => 0)
  case atStart => exact ⟨rfl, rfl, rfl⟩
  case round =>
    obtain ⟨rfl, rfl, rfl⟩ := hrel
    go_wp2_with (go_at_call 101; refine HC.out.mono ?_; rintro e w1 ⟨rfl, hq⟩)
    have HQ := Lib.hid hq
    clear hq
    go_loopw [6] (fun sv wr => sv = .int .i64 20 ∧ w1 = wr) (fun _ _ => 0)
    case atStart => exact ⟨rfl, rfl⟩
    case round =>
      obtain ⟨rfl, rfl⟩ := hrel
      go_wp2_with fail
      go_end0
      exact ⟨rfl, HQ.out⟩

theorem sortStable_any (js : List JobD) (v : Value) (bx g cap : Nat) (w : World) (h : RdJ w v js) (hn : 1 ≤ js.length) (hn2 : js.length ≤ 12) (hb : w.cell? ⟨bx, 0, none⟩ = some v) (hbx : bx < w.heap.size) (hbg : bx ≠ g) (hg : ∀ a, v.ownBlock = some a → a ≠ g)
    (hH : Holds (encN js.length) w g 0 (Array.range js.length)) :
    Calls Try.prog 77 #[.slice (some ⟨g, 0, none⟩) js.length cap, .func (.func 79) #[] #[.pointer (some ⟨bx, 0, none⟩)]] w fun e w' =>
      e = .returned (.tuple #[]) ∧ ∃ q, w' = (putRow (encN js.length) w g 0 (ordA (dueK js) js.length)).drewN q := by
  have HC := Lib.hid (stableDue_any js v bx g cap w h hn hn2 hb hbx hbg hg hH)
  clear h hb hbx hbg hg hH
  go_enter Try.func77, Try.ntmps77
  go_wp2_with (go_at_call 89; refine HC.out.mono ?_; rintro e w1 ⟨rfl, hq⟩)
  go_end0
  exact ⟨rfl, hq⟩

/-- The program's list of indices, sorted. -/
theorem orderBy_any (js : List JobD) (v : Value) (bx : Nat) (w : World) (h : RdJ w v js) (hn : 1 ≤ js.length) (hn2 : js.length ≤ 12) (hb : Box w bx 25 v) (hg : ∀ a, v.ownBlock = some a → a < w.heap.size) :
    Calls Try.prog 42 #[.int .i64 js.length, .func (.func 79) #[] #[.pointer (some ⟨bx, 0, none⟩)]] w fun e w' => ∃ u, e = .returned u ∧ OwnI w.heap.size w'.heap.size w' u (idxs (ordL (dueK js) js.length)) ∧ Below w.heap.size w w' := by
  have HR := Lib.hid h
  have HBx := Lib.hid hb
  have HG := Lib.hid hg
  clear h hb hg
  go_enter Try.func42, Try.ntmps42
  go_wp2_with fail
  go_loopw [5, 6] (fun out kk wr => ∃ (i : Nat) (b : Option Addr) (cap : Nat), kk = .int .i64 i ∧ i ≤ js.length ∧ out = .slice b i cap ∧ Hid (wr.ownsRow w.heap.size 2 1 (.slice b i cap) i ((idxs (List.range i)).map I64)) ∧ Hid (Below w.heap.size w wr)) (fun _ kk _ => js.length + 1 - (intOf kk).toNat)
  case atStart => exact ⟨0, none, 0, rfl, Nat.zero_le _, rfl, World.ownsRow_nil _ _ _ _, Below.refl _ _⟩
  case round =>
    obtain ⟨i, b, cap, rfl, hi, rfl, HO, HB⟩ := hrel
    by_cases hlt : i < js.length
    · have hlt' : (i : Int) < js.length := by omega
      have hsz := HB.out.size
      go_wp2_with (at_builtin; refine app_ints rfl _ _ rfl w.heap.size (.slice b i cap) i (idxs (List.range i)) rfl (HO.out.alloc _) _ [(i : Int)] rfl (slc_one _ _) (i + 1) (idxs (List.range (i + 1))) (by simp) (by unfold idxs; rw [List.range_succ, List.map_append]; rfl) (by omega) (by simp; omega) ?_; intro b2 cap2 w3 hown2 hbl2 _ _)
      go_roundw
      case rel => exact ⟨i + 1, b2, cap2, by go_num, by omega, rfl, Lib.hid hown2, Lib.hid (HB.out.trans (((Below.refl _ _).alloc hsz _).trans hbl2))⟩
      case measure => simp [intOf]; omega
    · obtain rfl : i = js.length := by omega
      obtain ⟨wo, rfl⟩ : ∃ wo, wo = wr := ⟨wr, rfl⟩
      have hnn : Value.slice b js.length cap ≠ .slice none 0 0 := by intro e; injection e with _ e _; omega
      have hmem : ∀ x, x ∈ List.range js.length → x < js.length := fun x hx => List.mem_range.1 hx
      have HO2 : Hid (wo.ownsRow w.heap.size 2 1 (.slice b js.length cap) js.length ((List.range js.length).map (encN js.length))) := Lib.hid (by rw [encN_map _ _ hmem]; exact HO.out)
      obtain ⟨g, cap', e, hbg, hgl, _, _, _, hH⟩ := Lib.holds_of_ownsRow HO2.out hnn
      injection e with e1 _ e2
      subst e1; subst e2
      have hbx := HBx.out.lt
      have HC := Lib.hid (sortStable_any js v bx g cap wo (HR.out.up HB.out (Nat.le_refl _)) hn hn2 (HBx.out.below HB.out hbx).cell (Nat.lt_of_lt_of_le hbx HB.out.size) (by omega) (fun a ha => by have := HG.out a ha; omega) (by rw [← List.toArray_range]; exact hH))
      clear hH hnn hmem
      go_wp2_with (go_at_call 77; refine HC.out.mono ?_; rintro e w1 ⟨rfl, hq⟩)
      go_ret
      obtain ⟨q, rfl⟩ := hq
      have hoL : (ordL (dueK js) js.length).length = js.length := ordL_len _ _
      have hx := Lib.ownsRow_putRow (q := 0) (k := js.length) HO2.out hoL (Nat.le_refl _)
      rw [List.take_of_length_le (by omega), encN_map _ _ (ordL_lt _ _)] at hx
      refine ⟨_, rfl, ?_, ?_⟩
      · exact OwnI.mk (n := js.length) hx
      · exact below_drewN (Lib.below_putRow (q := 0) HB.out hbg) q

/-- The program's jobs by due time. -/
theorem dueOrder_any (js : List JobD) (v : Value) (w : World) (h : RdJ w v js) (hn : 1 ≤ js.length) (hn2 : js.length ≤ 12) :
    Calls Try.prog 45 #[v] w fun e w' => ∃ u, e = .returned u ∧ OwnI w.heap.size w'.heap.size w' u (idxs (ordL (dueK js) js.length)) ∧ Below w.heap.size w w' := by
  obtain ⟨b0, off, hb0, hv⟩ : ∃ b0 off, b0 < w.heap.size ∧ ∃ c, v = .slice (some ⟨b0, off, none⟩) js.length c := by
    obtain ⟨a, c, rfl⟩ := h.shape
    obtain ⟨b, off, rfl, hb, _⟩ := h.at (show 0 < js.length by omega)
    exact ⟨b, off, hb, c, rfl⟩
  obtain ⟨c, rfl⟩ := hv
  have HR := Lib.hid h
  clear h
  have hbl : Below w.heap.size w (w.alloc (.cells #[.slice (some ⟨b0, off, none⟩) js.length c] 25)) := (Below.refl _ _).alloc (Nat.le_refl _) _
  have HB := Lib.hid hbl
  have HC := Lib.hid (orderBy_any js (.slice (some ⟨b0, off, none⟩) js.length c) w.heap.size (w.alloc (.cells #[.slice (some ⟨b0, off, none⟩) js.length c] 25)) (HR.out.up hbl (Nat.le_refl _)) hn hn2 (Box.new w _ _) (fun a ha => by
    have : b0 = a := Option.some.inj ha
    simp; omega))
  clear hbl
  go_enter Try.func45, Try.ntmps45
  go_wp2_with (go_at_call 42; refine HC.out.mono ?_; rintro e w1 ⟨u, rfl, ho, hb1⟩)
  go_ret
  exact ⟨_, rfl, ho.wide (by simp) (Nat.le_refl _), HB.out.trans (hb1.mono (by simp))⟩

end Go.Proofs.Ytfdaifmfecfchaa

namespace Go.Proofs.Ytfdaifmfecfchaa
open Go.RowKit Go.Sort

theorem below_growS {B : Nat} {w a : World} (h : Below B w a) (os : Array Obj) (hB : B ≤ a.heap.size) : Below B w (Sort.grow a os) :=
  ⟨h.os, h.tape, h.output, Nat.le_trans h.size (by simp [Sort.grow]), fun k hk => (by
    show (a.heap ++ os)[k]? = _
    rw [Array.getElem?_append_left (by omega)]
    exact h.block k hk)⟩

structure FinF where
  val : Nat
  fin : fin32 val = true
instance : Inhabited FinF := ⟨⟨0, fin0⟩⟩
def encF (x : FinF) : Value := F32 x.val
theorem one_encF : OneCell encF := fun _ => rfl
def cfD (a b : FinF) : Int := cmpI (valI b.val) (valI a.val)
def ltD (a b : FinF) : Bool := decide (valI b.val < valI a.val)
theorem ltOf_D : ltOf cfD = ltD := by
  funext x y
  unfold ltOf ltD cfD cmpI
  by_cases h1 : valI y.val < valI x.val
  · simp [h1]
  · by_cases h2 : valI x.val < valI y.val <;> simp [h1, h2]
theorem swo_D : SWO ltD where
  irrefl x := by simp [ltD]
  trans x y z h1 h2 := by simp only [ltD, decide_eq_true_eq] at *; omega
  ntrans x y z h1 h2 := by simp only [ltD, decide_eq_false_iff_not] at *; omega

theorem isNaN32_any (x : Nat) (hx : fin32 x = true) (w : World) : Calls Try.prog 85 #[.float .f32 x] w fun e w' => e = .returned (.bool false) ∧ w = w' := by
  have h : FloatKind.f32.format.order x x = some .eq := order_self _ _ (num_fin hx)
  go_enter Try.func85, Try.ntmps85
  go_wp2_with fail
  go_ret
  exact ⟨rfl, rfl⟩

theorem cmp32_any (x y : Nat) (hx : fin32 x = true) (hy : fin32 y = true) (w : World) : Calls Try.prog 70 #[.float .f32 x, .float .f32 y] w fun e w' => e = .returned (.int .i64 (cmpI (valI x) (valI y))) ∧ w = w' := by
  have HX := Lib.hid hx
  have HY := Lib.hid hy
  have ho := order_val hx hy
  clear hx hy
  go_enter Try.func70, Try.ntmps70
  rcases Int.lt_trichotomy (valI x) (valI y) with h1 | h1 | h1
  · have hc := Lib.hid (show cmpI (valI x) (valI y) = -1 by unfold cmpI; rw [if_pos h1])
    rw [Int.compare_eq_lt.2 h1] at ho
    have hq : FloatKind.f32.format.order x y = some .lt := ho
    clear ho h1
    go_wp2_with (go_at_call 85; refine (isNaN32_any _ (by first | with_reducible exact HX.out | with_reducible exact HY.out) _).mono ?_; rintro e w' ⟨rfl, rfl⟩)
    go_ret
    exact ⟨congrArg (fun z => Ending.returned (Value.int .i64 z)) hc.out.symm, rfl⟩
  · have hc := Lib.hid (show cmpI (valI x) (valI y) = 0 by unfold cmpI; rw [if_neg (by omega), if_neg (by omega)])
    rw [h1, Int.compare_eq_eq.2 rfl] at ho
    have hq : FloatKind.f32.format.order x y = some .eq := ho
    clear ho h1
    go_wp2_with (go_at_call 85; refine (isNaN32_any _ (by first | with_reducible exact HX.out | with_reducible exact HY.out) _).mono ?_; rintro e w' ⟨rfl, rfl⟩)
    go_ret
    exact ⟨congrArg (fun z => Ending.returned (Value.int .i64 z)) hc.out.symm, rfl⟩
  · have hc := Lib.hid (show cmpI (valI x) (valI y) = 1 by unfold cmpI; rw [if_neg (by omega), if_pos h1])
    rw [Int.compare_eq_gt.2 h1] at ho
    have hq : FloatKind.f32.format.order x y = some .gt := ho
    clear ho h1
    go_wp2_with (go_at_call 85; refine (isNaN32_any _ (by first | with_reducible exact HX.out | with_reducible exact HY.out) _).mono ?_; rintro e w' ⟨rfl, rfl⟩)
    go_ret
    exact ⟨congrArg (fun z => Ending.returned (Value.int .i64 z)) hc.out.symm, rfl⟩

theorem Try.entersSim (args : Array Value) (w : World) : (callFunc 69 args).run Try.prog w = .ok (.enter 69 args) w :=
  enters_of Try.func69 (by kernel_rfl) rfl args w

theorem simCmp_any (a b : FinF) (w : World) : Calls Try.prog 69 #[encF a, encF b] w fun e w' => e = .returned (.int .i64 (cfD a b)) ∧ w = w' := by
  obtain ⟨a, ha⟩ := a
  obtain ⟨b, hb⟩ := b
  have HC := Lib.hid (cmp32_any b a hb ha)
  unfold encF F32 cfD
  dsimp only
  go_enter Try.func69, Try.ntmps69
  go_wp2_with (go_at_call 70; refine (HC.out _).mono ?_; rintro e w' ⟨rfl, rfl⟩)
  go_ret
  exact ⟨rfl, rfl⟩

/-- The list that the call owns, in descending order. -/
theorem sortF_any (B g cap : Nat) (D : List Nat) (w : World) (ho : w.ownsRow B 53 1 (.slice (some ⟨g, 0, none⟩) D.length cap) D.length (D.map F32)) (hf : allFin D = true) (hB : B ≤ w.heap.size) (hD : D.length ≤ 1000000) :
    Calls Try.prog 68 #[.slice (some ⟨g, 0, none⟩) D.length cap, .func (.func 69) #[] #[]] w fun e w' =>
      e = .returned (.tuple #[]) ∧ ∃ E : List Nat, E.Perm D ∧ (∀ i j, i < j → j < E.length → valI (E.getD j 0) ≤ valI (E.getD i 0)) ∧ w'.ownsRow B 53 1 (.slice (some ⟨g, 0, none⟩) D.length cap) D.length (E.map F32) ∧ Below B w w' := by
  have hall : ∀ x, x ∈ D → fin32 x = true := by unfold allFin at hf; rwa [List.all_eq_true] at hf
  obtain ⟨zs, hzs⟩ : ∃ zs : List FinF, zs.map (·.val) = D := ⟨D.pmap (fun x h => (⟨x, h⟩ : FinF)) hall, by rw [List.map_pmap, List.pmap_eq_map]; exact List.map_id' D⟩
  have hmap : zs.map encF = D.map F32 := by rw [← hzs, List.map_map]; rfl
  have hlen : zs.length = D.length := by rw [← hzs, List.length_map]
  have ho' := ho
  rw [← hmap] at ho'
  obtain ⟨g', cap', e, hbg, hgl, hnc, hcm, _, hH⟩ := Lib.holds_of_ownsRow (enc := encF) ho' (by intro e; cases e)
  injection e with e1 _ e2
  injection e1 with e1
  injection e1 with e1
  subst e1; subst e2
  have hs : (zs.toArray).size = D.length := by simp [hlen]
  have hcmp : CmpLays1 Try.prog 69 #[] encF cfD g 0 zs.toArray.size w := fun m os dk _ x y => (simCmp_any x y _).mono fun e w' ⟨h1, h2⟩ => ⟨h1, 0, #[], by rw [← h2]; simp [grow]; rfl⟩
  have hr := Try.slices_SortFunc encF one_encF cfD (by rw [ltOf_D]; exact swo_D) 69 #[] g 0 cap zs.toArray w Try.entersSim hcmp hH hgl (by rw [hs]; omega)
  rw [hs, ltOf_D] at hr
  refine hr.mono ?_
  rintro e w' ⟨rfl, d', n, os, hp, hso, rfl⟩
  have e0 : ∀ (a : Array FinF) k, a.size = k → a.extract 0 k = a := by
    rintro a _ rfl
    exact Array.extract_size
  have hds : d'.size = D.length := by rw [hp.1, hs]
  have hperm : d'.toList.Perm zs := by
    have := hp.2.2
    rw [e0 d' _ hds, e0 zs.toArray _ hs] at this
    exact this
  refine ⟨rfl, d'.toList.map (·.val), ?_, ?_, ?_, ?_⟩
  · rw [← hzs]; exact hperm.map _
  · intro i j hij hj
    rw [List.length_map, Array.length_toList] at hj
    have := hso i j (Nat.zero_le _) hij (by omega)
    unfold ltD at this
    rw [decide_eq_false_iff_not, getElem!_pos d' i (by omega), getElem!_pos d' j hj] at this
    rw [List.getD_eq_getElem?_getD, List.getD_eq_getElem?_getD, List.getElem?_map, List.getElem?_map, Array.getElem?_toList, Array.getElem?_toList, Array.getElem?_eq_getElem hj, Array.getElem?_eq_getElem (show i < d'.size by omega)]
    simp only [Option.map_some, Option.getD_some]
    omega
  · have hx := Lib.ownsRow_putRow (q := n) (k := D.length) (ys := d'.toList) ho' (by rw [Array.length_toList, hds]) (Nat.le_refl _)
    rw [List.take_of_length_le (by rw [Array.length_toList, hds]; exact Nat.le_refl _)] at hx
    have e1 : d'.toList.map encF = (d'.toList.map (·.val)).map F32 := by rw [List.map_map]; rfl
    rw [e1] at hx
    exact owns_below hx (below_growS (Below.refl _ _) os (Nat.le_refl _)) (Nat.le_refl _)
  · exact below_growS (Lib.below_putRow (q := n) (Below.refl B w) hbg) os (by simpa [putRow, mapBlock, Sort.ahead] using hB)

end Go.Proofs.Ytfdaifmfecfchaa

namespace Go.Proofs.Ytfdaifmfecfchaa
open Go.RowKit Go.Sort

def shortB (xs : List Nat) : Bool := inB 1 64 xs.length && allFin xs
/-- The list in descending order, by insertion. -/
def descL (xs : List Nat) : List Nat := xs
theorem near_small : ∀ k, k < 64 → fin32 (floatOfInt .f32 ((k + 1 : Nat) : Int)) = true ∧ valI (floatOfInt .f32 ((k + 1 : Nat) : Int)) ≠ 0 := by decide +kernel
theorem fin_one : fin32 1065353216 = true := by decide +kernel

theorem isShort_any (v : Value) (xs : List Nat) (w : World) (h : RdF w v xs) :
    Calls Try.prog 64 #[v] w fun e w' => e = .returned (.bool (shortB xs)) ∧ ∃ m, w' = w.drewN m := by
  obtain ⟨a, c, rfl⟩ := h.shape
  have hl := h.len
  have LX := Lib.hid hl
  simp only [maxLen] at hl
  have HF := Lib.hid (areFinite_any _ xs w h)
  clear h
  go_enter Try.func64, Try.ntmps64
  obtain ⟨q, hq⟩ : ∃ q, inB 1 64 (xs.length : Int) = q := ⟨_, rfl⟩
  have HQ := Lib.hid hq
  cases q
  · go_wp2_with (first
      | (go_at_call 47; refine (size_any _ _ LX.out).mono ?_; rintro e w' ⟨rfl, rfl⟩)
      | (go_at_call 55; refine (within_any _ _ _ _).mono ?_; rintro e w' ⟨rfl, rfl⟩; rw [HQ.out]))
    go_ret
    exact ⟨by rw [show shortB xs = false by unfold shortB; rw [HQ.out]; rfl]; rfl, 0, rfl⟩
  · go_wp2_with (first
      | (go_at_call 47; refine (size_any _ _ LX.out).mono ?_; rintro e w' ⟨rfl, rfl⟩)
      | (go_at_call 55; refine (within_any _ _ _ _).mono ?_; rintro e w' ⟨rfl, rfl⟩; rw [HQ.out])
      | (go_at_call 71; refine HF.out.mono ?_; rintro e w' ⟨rfl, hd⟩))
    go_ret
    exact ⟨by rw [show shortB xs = allFin xs by unfold shortB; rw [HQ.out]; rfl]; rfl, hd⟩

theorem ownF_cell2 {lo g n cap j : Nat} {w : World} {xs : List Nat} (h : w.ownsRow lo 53 1 (.slice (some ⟨g, 0, none⟩) n cap) n (xs.map F32)) (hj : j < xs.length) : w.cell? ⟨g, j, none⟩ = some (.float .f32 (xs.getD j 0)) := by
  obtain ⟨b, off, e, _, hc⟩ := (show RdF w (.slice (some ⟨g, 0, none⟩) n cap) xs from slc_of_owns h).at hj
  simp only [Option.some.injEq, Addr.mk.injEq, and_true] at e
  obtain ⟨rfl, rfl⟩ := e
  rw [Nat.zero_add] at hc
  exact hc
/-- The first k of what is left. -/
def outK (xs : List Nat) (less k : Nat) : List Nat := (xs.take k).map fun x => lessV x less
theorem outK_succ (xs : List Nat) (less k : Nat) (h : k < xs.length) : outK xs less (k + 1) = outK xs less k ++ [lessV (xs.getD k 0) less] := by
  unfold outK
  rw [List.take_add_one, List.map_append, List.getElem?_eq_getElem h, List.getD_eq_getElem?_getD, List.getElem?_eq_getElem h]
  rfl
theorem outK_len (xs : List Nat) (less k : Nat) (h : k ≤ xs.length) : (outK xs less k).length = k := by unfold outK; rw [List.length_map, List.length_take]; omega
theorem cutF_num {xs : List Nat} (h : allFin xs = true) (hl : xs.length ≤ 64) : ∀ k, k ≤ xs.length → Num (cutF xs k).1
  | 0, _ => num_fin fin0
  | k + 1, hk => by
    simp only [cutF]
    split
    · have h1 := (totV_num h (k + 1) hk).1
      have h2 := (sub_numR h1 fin_one).2
      have h3 := near_small k (by omega)
      exact (div_num h2 h3.1 h3.2).2
    · exact cutF_num h hl k (by omega)
theorem run_subW {P : Program} (t : TypeId) {x y : Nat} (h : Ieee.single.sub x y = some (subV2 x y)) (w : World) :
    (binOp .sub t (.float .f32 x) (.float .f32 y)).run P w = .ok (.float .f32 (subV2 x y)) w := run_float_arith w .sub t .f32 x y _ h
theorem run_addW {P : Program} (t : TypeId) {x y : Nat} (h : Ieee.single.add x y = some (addW x y)) (w : World) :
    (binOp .add t (.float .f32 x) (.float .f32 y)).run P w = .ok (.float .f32 (addW x y)) w := run_float_arith w .add t .f32 x y _ h

/-- E is xs in descending order. -/
structure Desc (xs E : List Nat) : Prop where
  perm : E.Perm xs
  down : ∀ i j, i < j → j < E.length → valI (E.getD j 0) ≤ valI (E.getD i 0)
/-- What the sorted list E tells of the list xs. -/
def simL (xs E : List Nat) : List Nat := outK xs (cutF E E.length).1 xs.length
def simOk2 (xs E : List Nat) : Bool := (cutF E E.length).2 && allFin (simL xs E)

set_option pp.deepTerms true in
set_option pp.maxSteps 200000 in
set_option maxHeartbeats 2000000 in
set_option maxRecDepth 4000 in
theorem simI_any (v : Value) (xs : List Nat) (w : World) (h : RdF w v xs) :
    Calls Try.prog 33 #[v] w fun e w' => ∃ u E, e = .returned (.tuple #[u, .bool (shortB xs && simOk2 xs E)]) ∧ Hid (shortB xs = true → Desc xs E) ∧ OwnF w.heap.size w'.heap.size w' u (if (shortB xs && simOk2 xs E) = true then simL xs E else []) ∧ Below w.heap.size w w' := by
  obtain ⟨a, c, rfl⟩ := h.shape
  have HS := Lib.hid (isShort_any _ xs w h)
  have HR := Lib.hid h
  obtain ⟨q, hq⟩ : ∃ q, shortB xs = q := ⟨_, rfl⟩
  rw [hq] at HS ⊢
  have HQ := Lib.hid hq
  clear hq h
  go_enter Try.func33, Try.ntmps33
  cases q
  · go_wp2_with (go_at_call 64; refine HS.out.mono ?_; rintro e w0 ⟨rfl, hd⟩)
    go_ret2
    obtain ⟨m, rfl⟩ := hd
    exact ⟨_, xs, rfl, Lib.hid (fun h => nomatch h), ⟨World.ownsRow_nil _ _ _ _, by intro g hg; cases hg⟩, below_drewN (Below.refl _ _) _⟩
  have hsh := HQ.out
  unfold shortB at hsh
  rw [Bool.and_eq_true, inB_iff] at hsh
  obtain ⟨⟨hn1, hn2⟩, hfin⟩ := hsh
  have hn1' : 1 ≤ xs.length := by omega
  have hn2' : xs.length ≤ 64 := by omega
  have HFX := Lib.hid hfin
  clear hfin hn1 hn2
  go_upto_region 3 with (go_at_call 64; refine HS.out.mono ?_; rintro e w0 ⟨rfl, hd⟩)
  have hb0 : Below w.heap.size w w0 := by obtain ⟨m, rfl⟩ := hd; exact below_drewN (Below.refl _ _) _
  have HB0 := Lib.hid hb0
  have HC := Lib.hid (copyF_any _ xs w0 (HR.out.up hb0 (Nat.le_refl _)) (by omega))
  clear hb0 hd HS
  go_upto_region 4 with (go_at_call 67; refine HC.out.mono ?_; rintro e w1 ⟨u, rfl, ho1, hb1⟩)
  obtain ⟨ua, cap, rfl⟩ := ho1.rd.shape
  obtain ⟨g, rfl, hg⟩ := owns_slice_some ho1.1 (by omega)
  have HB1 := Lib.hid (HB0.out.trans (hb1.mono HB0.out.size))
  have hs0 := HB0.out.size
  have hs1 := hb1.size
  have HSO := Lib.hid (sortF_any w.heap.size g cap xs w1 (owns_base ho1.1 hs0) HFX.out (by omega) (by omega))
  clear ho1 hb1 HC
  go_upto_region 5 with (go_at_call 68; refine HSO.out.mono ?_; rintro e w2 ⟨rfl, E, hpe, hse, ho2, hb2⟩)
  have hel : E.length = xs.length := hpe.length_eq
  have HEL := Lib.hid hel
  have HPE := Lib.hid hpe
  have HSE := Lib.hid hse
  have HFE := Lib.hid (show allFin E = true by
    have := HFX.out
    unfold allFin at this ⊢
    rw [List.all_eq_true] at this ⊢
    exact fun x hx => this x (hpe.mem_iff.1 hx))
  have HO2 := Lib.hid ho2
  have HB2 := Lib.hid (HB1.out.trans hb2)
  clear hel hpe hse ho2 hb2 HSO
  have hc1 := fin_one
  go_wp2_with fail
  go_loopw [5, 6, 7, 23] (fun tv lv fv iv wr => ∃ (k : Nat), iv = .int .i64 k ∧ k ≤ xs.length ∧ tv = .float .f32 (totV E k) ∧ lv = .float .f32 (cutF E k).1 ∧ fv = .bool (cutF E k).2 ∧ w2 = wr) (fun _ _ _ iv _ => xs.length + 1 - (intOf iv).toNat)
  case atStart => exact ⟨0, rfl, Nat.zero_le _, rfl, rfl, rfl, rfl⟩
  case round =>
    obtain ⟨k, rfl, hk, rfl, rfl, rfl, rfl⟩ := hrel
    by_cases hlt : k < xs.length
    · have hlt' : (k : Int) < xs.length := by omega
      have hke : k < E.length := by rw [HEL.out]; exact hlt
      have hx := ownF_cell2 HO2.out hke
      have hxf := allFin_get HFE.out hke
      obtain ⟨hn0, _⟩ := totV_num HFE.out k (by omega)
      have ha := (add_num hn0 hxf)
      have hsb := sub_numR ha.2 fin_one
      have hnr := near_small k (by omega)
      have hdv := div_num hsb.2 hnr.1 hnr.2
      have HT := Lib.hid (show totV E (k + 1) = addW (totV E k) (E.getD k 0) from rfl)
      have HK := Lib.hid (show cutK E k = divV (subV2 (addW (totV E k) (E.getD k 0)) 1065353216) (floatOfInt .f32 ((k + 1 : Nat) : Int)) from rfl)
      have HF := Lib.hid (show cutF E (k + 1) = if gtF (E.getD k 0) (cutK E k) = true then (cutK E k, true) else cutF E k from rfl)
      obtain ⟨t, ht⟩ : ∃ t, t = totV E k := ⟨_, rfl⟩
      obtain ⟨x, hxe⟩ : ∃ x, x = E.getD k 0 := ⟨_, rfl⟩
      rw [← ht, ← hxe] at ha hsb hdv HT HK
      rw [← hxe] at hx HF
      rw [← ht]
      obtain ⟨t1, ht1⟩ : ∃ t1, t1 = addW t x := ⟨_, rfl⟩
      rw [← ht1] at hsb hdv HT HK
      obtain ⟨t2, ht2⟩ : ∃ t2, t2 = subV2 t1 1065353216 := ⟨_, rfl⟩
      rw [← ht2] at hdv HK
      have q1 := fun (W : World) => run_addW (P := Try.prog) 53 ha.1 W
      have q2 := fun (W : World) => run_subW (P := Try.prog) 53 hsb.1 W
      rw [← ht1] at q1
      rw [← ht2] at q2
      have hcast : ((k + 1 : Nat) : Int) = (k : Int) + 1 := by omega
      rw [hcast] at hdv HK
      obtain ⟨b, hb⟩ : ∃ b, b = divV t2 (floatOfInt .f32 ((k : Int) + 1)) := ⟨_, rfl⟩
      have q3 := fun (W : World) => run_div_some (P := Try.prog) 53 hdv.1 W
      rw [← hb] at q3 HK
      rw [HK.out] at HF
      have HT1 := Lib.hid ht1
      clear ht1 ht2 hb hxe ht ha hsb hdv hnr hn0 hxf hcast HK
      by_cases hgt : gtF x b = true
      · have hg2 := yes_gt_b hgt
        have HG := Lib.hid hgt
        clear hgt
        go_wp2_with fail
        go_roundw
        case rel => exact ⟨k + 1, by go_num, by omega, by rw [HT.out], by rw [HF.out, if_pos HG.out], by rw [HF.out, if_pos HG.out], trivial⟩
        case measure => simp [intOf]; omega
      · have hg2 := not_gt_b (Bool.not_eq_true _ ▸ hgt)
        have HG := Lib.hid hgt
        clear hgt
        go_wp2_with fail
        go_roundw
        case rel => exact ⟨k + 1, by go_num, by omega, by rw [HT.out], by rw [HF.out, if_neg HG.out], by rw [HF.out, if_neg HG.out], trivial⟩
        case measure => simp [intOf]; omega
    · obtain rfl : k = xs.length := by omega
      have HC1 := Lib.hid (show cutF E E.length = cutF E xs.length by rw [HEL.out])
      have hnum := cutF_num HFE.out (by rw [HEL.out]; exact hn2') xs.length (by rw [HEL.out]; exact Nat.le_refl _)
      obtain ⟨less, hless⟩ : ∃ z, z = (cutF E xs.length).1 := ⟨_, rfl⟩
      obtain ⟨found, hfound⟩ : ∃ z, z = (cutF E xs.length).2 := ⟨_, rfl⟩
      rw [← hless] at hnum ⊢
      rw [← hfound]
      have HL := Lib.hid hless
      have HF := Lib.hid hfound
      have HNUM := Lib.hid hnum
      clear hless hfound hnum
      have HSL := Lib.hid (show simL xs E = outK xs less xs.length by unfold simL; rw [HC1.out, ← HL.out])
      have HSO := Lib.hid (show simOk2 xs E = (found && allFin (simL xs E)) by unfold simOk2; rw [HC1.out, ← HF.out])
      cases found
      · go_wp2_with fail
        go_ret2
        refine ⟨_, E, by rw [HSO.out]; rfl, Lib.hid ⟨HPE.out, HSE.out⟩, ?_, HB2.out⟩
        rw [HSO.out]
        exact ⟨World.ownsRow_nil _ _ _ _, by intro g hg; cases hg⟩
      have hzs := HB2.out.size
      go_wp2_with fail
      go_loopw [11, 46] (fun ov iv wr => ∃ (k : Nat) (b : Option Addr) (cc : Nat), iv = .int .i64 k ∧ k ≤ xs.length ∧ ov = .slice b k cc ∧ Hid (wr.ownsRow w.heap.size 53 1 (.slice b k cc) k ((outK xs less k).map F32)) ∧ Hid (Below w.heap.size w wr)) (fun _ iv _ => xs.length + 1 - (intOf iv).toNat)
      case atStart => exact ⟨0, none, 0, rfl, Nat.zero_le _, rfl, Lib.hid (World.ownsRow_nil _ _ _ _), HB2⟩
      case round =>
        obtain ⟨k, b, cc, rfl, hk, rfl, HO, HB⟩ := hrel
        obtain ⟨wo, rfl⟩ : ∃ wo, wo = wr := ⟨wr, rfl⟩
        have hsz := HB.out.size
        by_cases hlt : k < xs.length
        · have hlt' : (k : Int) < xs.length := by omega
          obtain ⟨xb, xo, rfl, _, hx⟩ := (HR.out.up HB.out (Nat.le_refl _)).at hlt
          have hxf := allFin_get HFX.out hlt
          have hsb := sub_numL hxf HNUM.out
          have HE := Lib.hid (outK_succ xs less k hlt)
          obtain ⟨x, hxe⟩ : ∃ x, x = xs.getD k 0 := ⟨_, rfl⟩
          rw [← hxe] at hx hsb HE
          have q2 := fun (W : World) => run_subW (P := Try.prog) 53 hsb.1 W
          have HLV := Lib.hid (show lessV x less = if ltF0 (subV2 x less) = true then 0 else subV2 x less from rfl)
          obtain ⟨y, hy⟩ : ∃ y, y = subV2 x less := ⟨_, rfl⟩
          rw [← hy] at q2 HLV
          clear hy hxe hsb hxf
          by_cases hn : ltF0 y = true
          · have hcp : (FloatKind.f32.format.order y 0 == some .lt) = true := hn
            have HEV := Lib.hid (show outK xs less (k + 1) = outK xs less k ++ [0] by rw [HE.out, HLV.out, if_pos hn])
            clear hn HE HLV
            go_wp2_with (at_builtin; refine app_flts rfl _ _ rfl w.heap.size (.slice b k cc) k (outK xs less k) rfl (HO.out.alloc _) _ [0] rfl (slcF_one _ _) (k + 1) (outK xs less (k + 1)) (by simp) HEV.out (by omega) (by simp; omega) ?_; intro b3 c3 w3 hown3 hbl3 _ _)
            go_roundw
            case rel => exact ⟨k + 1, b3, c3, by go_num, by omega, rfl, Lib.hid hown3, Lib.hid (HB.out.trans (((Below.refl _ _).alloc hsz _).trans hbl3))⟩
            case measure => simp [intOf]; omega
          · have hcp : (FloatKind.f32.format.order y 0 == some .lt) = false := (Bool.not_eq_true _ ▸ hn)
            have HEV := Lib.hid (show outK xs less (k + 1) = outK xs less k ++ [y] by rw [HE.out, HLV.out, if_neg hn])
            clear hn HE HLV
            go_wp2_with (at_builtin; refine app_flts rfl _ _ rfl w.heap.size (.slice b k cc) k (outK xs less k) rfl (HO.out.alloc _) _ [y] rfl (slcF_one _ _) (k + 1) (outK xs less (k + 1)) (by simp) HEV.out (by omega) (by simp; omega) ?_; intro b3 c3 w3 hown3 hbl3 _ _)
            go_roundw
            case rel => exact ⟨k + 1, b3, c3, by go_num, by omega, rfl, Lib.hid hown3, Lib.hid (HB.out.trans (((Below.refl _ _).alloc hsz _).trans hbl3))⟩
            case measure => simp [intOf]; omega
        · obtain rfl : k = xs.length := by omega
          have hol := outK_len xs less xs.length (Nat.le_refl _)
          have HA := Lib.hid (areFinite_any _ (outK xs less xs.length) wo (show RdF wo (.slice b xs.length cc) _ from slc_of_owns HO.out))
          have HOW := Lib.hid (OwnF.mk HO.out)
          clear hol
          obtain ⟨q, hq⟩ : ∃ q, allFin (outK xs less xs.length) = q := ⟨_, rfl⟩
          rw [hq] at HA
          rw [HSL.out, hq] at HSO
          clear hq
          cases q
          · go_wp2_with (go_at_call 71; refine HA.out.mono ?_; rintro e w4 ⟨rfl, hd⟩)
            go_ret2
            refine ⟨_, E, by rw [HSO.out]; rfl, Lib.hid ⟨HPE.out, HSE.out⟩, ?_, ?_⟩
            · rw [HSO.out]
              exact ⟨World.ownsRow_nil _ _ _ _, by intro g hg; cases hg⟩
            · obtain ⟨m, rfl⟩ := hd
              exact below_drewN HB.out _
          · go_wp2_with (go_at_call 71; refine HA.out.mono ?_; rintro e w4 ⟨rfl, hd⟩)
            go_ret2
            refine ⟨_, E, by rw [HSO.out]; rfl, Lib.hid ⟨HPE.out, HSE.out⟩, ?_, ?_⟩
            · rw [HSO.out, HSL.out]
              obtain ⟨m, rfl⟩ := hd
              exact HOW.out
            · obtain ⟨m, rfl⟩ := hd
              exact below_drewN HB.out _

end Go.Proofs.Ytfdaifmfecfchaa

namespace Go.Proofs.Ytfdaifmfecfchaa
open Go.RowKit Go.Sort

/-- The float of d halves. -/
def hF (d : Int) : Nat := Ieee.single.nearest (decide (d < 0)) d.natAbs (-1)
/-- What is taken off where the k greatest have a sum of s halves. -/
def cutH (s : Int) (k : Nat) : Nat := divV (subV2 (hF s) 1065353216) (floatOfInt .f32 (k : Int))
/-- All integers from lo on. -/
def upto (lo : Int) (n : Nat) : List Int := (List.range n).map fun i : Nat => lo + (i : Int)
theorem mem_upto {lo : Int} {n : Nat} {d : Int} (h0 : lo ≤ d) (h1 : d < lo + n) : d ∈ upto lo n := List.mem_map.2 ⟨(d - lo).toNat, List.mem_range.2 (by omega), by omega⟩
theorem t_val : (upto (-64) 129).all (fun d => fin32 (hF d) && (valI (hF d) == d * (2 ^ 148 : Nat))) = true := by decide +kernel
theorem t_add : (upto (-64) 129).all (fun s => (upto (-8) 17).all fun d => !(decide (-64 ≤ s + d) && decide (s + d ≤ 64)) || (addW (hF s) (hF d) == hF (s + d))) = true := by decide +kernel
theorem t_gt : (upto (-64) 129).all (fun s => (List.range 8).all fun k => (upto (-8) 17).all fun d => gtF (hF d) (cutH s (k + 1)) == decide (s - 2 < (k + 1 : Nat) * d)) = true := by decide +kernel
theorem t_less : (upto (-64) 129).all (fun s => (List.range 8).all fun k => (upto (-8) 17).all fun d => decide (s - 2 < (k + 1 : Nat) * d) || lessV (hF d) (cutH s (k + 1)) == 0) = true := by decide +kernel

end Go.Proofs.Ytfdaifmfecfchaa

namespace Go.Proofs.Ytfdaifmfecfchaa
open Go.RowKit Go.Sort

def c64 (b : Nat) : Nat := (floatToFloatBits .f32 b .f64).getD 0
def is64 (b : Nat) : Bool := (floatToFloatBits .f32 b .f64).isSome
/-- The greater and the lesser one of two floats that are no NaN. -/
def mxO (x y : Nat) : Option Nat := (Ieee.double.order x y).map fun o => if o = .lt then y else if o = .gt then x else if (FloatKind.f64.decode x).neg then y else x
def mnO (x y : Nat) : Option Nat := (Ieee.double.order x y).map fun o => if o = .lt then x else if o = .gt then y else if (FloatKind.f64.decode x).neg then x else y
def gapO (a b : Nat) : Option Nat := (Ieee.double.sub a b).bind fun x => (Ieee.double.sub b a).bind fun y => mxO x y
/-- Two numbers are near: what tells how far they are apart is not above a number. -/
def tinyB (a b t : Nat) : Bool := match gapO a b with
  | some g => Ieee.double.order g t == some .lt || Ieee.double.order g t == some .eq
  | none => false
def underB (a b t : Nat) : Bool := match gapO a b with
  | some g => Ieee.double.order g t == some .lt
  | none => false
def t001 : Nat := 4562254508917369340
def t01 : Nat := 4576918229304087675
def one64 : Nat := 4607182418800017408

/-! ### shrunk -/
/-- b quarters. -/
def qF (b : Nat) : Nat := divV (floatOfInt .f32 (b : Int)) 1082130432
def negF (x : Nat) : Nat := x ^^^ 2147483648
def shrO (x by_ : Nat) : Option Nat := if gtF x by_ = true then Ieee.single.sub x by_ else if Ieee.single.order x (negF by_) = some .lt then Ieee.single.add x by_ else some 0
def wantO (x by_ : Nat) : Option Nat := (Ieee.double.sub (c64 x) (c64 by_)).bind fun p => (mxO 0 p).bind fun p => (Ieee.double.add (c64 x) (c64 by_)).bind fun q => (mnO 0 q).bind fun q => Ieee.double.add p q
def okShr (d : Int) (b : Nat) : Bool := match shrO (hF d) (qF b), wantO (hF d) (qF b) with
  | some y, some z => fin32 y && is64 y && tinyB (c64 y) z t001
  | _, _ => false
theorem t_shr : (List.range 9).all (fun b => fin32 (qF b) && is64 (qF b) && !(Ieee.single.order (qF b) 0 == some .lt) && (upto (-8) 17).all fun d => is64 (hF d) && okShr d b) = true := by decide +kernel

/-! ### the sum 1 -/
/-- What the greatest become: the first one (where it is another one), and the others. -/
def aV (d : Int) (K : Nat) (e : Nat) : Nat := lessV (hF (d + 1)) (cutH (K * d + e) K)
def bV (d : Int) (K : Nat) (e : Nat) : Nat := lessV (hF d) (cutH (K * d + e) K)
def e2L (A B K e n : Nat) : List Nat := List.replicate e A ++ List.replicate (K - e) B ++ List.replicate (n - K) 0
def smV (A B a : Nat) : Nat → Nat
  | 0 => if a = 0 then 0 else (Ieee.double.add 0 (c64 A)).getD 0
  | j + 1 => (Ieee.double.add (smV A B a j) (c64 B)).getD 0
def okSum (A B K e : Nat) : Bool :=
  is64 A && is64 B && (List.range (e + 1)).all (fun a => (List.range (K - e + 1)).all fun j => (Ieee.double.add (smV A B a j) (c64 0) == some (smV A B a j)) &&
    (decide (K - e ≤ j) || (Ieee.double.add (smV A B a j) (c64 B) == some (smV A B a (j + 1)))) && (decide (e ≤ a) || (Ieee.double.add (smV A B a j) (c64 A) == some (smV A B (a + 1) j)))) && underB (smV A B e (K - e)) one64 t001
def okAgain (A B K e n : Nat) : Bool :=
  let L := (cutF (e2L A B K e n) n).1
  (cutF (e2L A B K e n) n).2 && [A, B, 0].all fun v => fin32 (lessV v L) && is64 (lessV v L) && tinyB (c64 (lessV v L)) (c64 v) t001
def okSim (d : Int) (K e n : Nat) : Bool :=
  let A := if e = 0 then bV d K e else aV d K e
  let B := bV d K e
  fin32 A && fin32 B && decide (valI B ≤ valI A) && decide (0 < valI B) && !ltF0 A && !ltF0 B && okSum A B K e && okAgain A B K e n
theorem z64 : is64 0 = true ∧ ltF0 0 = false := by decide +kernel

/-! ### steps -/
/-- One step towards the bound. -/
def stepO (bd by2 x : Nat) : Option (Nat × Nat) := (Ieee.single.mul 1065353216 x).bind fun p => (Ieee.single.add 0 p).bind fun s => (Ieee.single.sub bd s).bind fun l =>
  (Ieee.single.mul 1065353216 l).bind fun q => (Ieee.single.add 0 q).bind fun t => (Ieee.single.mul 1056964608 t).bind fun u => (Ieee.single.add x u).bind fun y => (shrO y by2).bind fun z =>
    if fin32 l && fin32 y && fin32 z then some (l, z) else none
def stepN (bd by2 : Nat) : Nat → Option Nat
  | 0 => some 0
  | k + 1 => (stepN bd by2 k).bind fun x => (stepO bd by2 x).map (·.2)
def halfO (by_ : Nat) : Option Nat := Ieee.single.mul 1056964608 by_
def okStep (g b : Nat) : Bool := match halfO (qF b) with
  | some h => fin32 h && (match stepN (hF g) h 60, (Ieee.double.sub (c64 (hF g)) (c64 (qF b))).bind (mxO 0) with
    | some x, some y => fin32 x && is64 x && is64 (hF g) && underB (c64 x) y t01
    | _, _ => false)
  | none => false

end Go.Proofs.Ytfdaifmfecfchaa

namespace Go.Proofs.Ytfdaifmfecfchaa
open Go.RowKit Go.Sort

theorem t_sim0_0 : (List.range 8).all (fun k => (List.range (8 - k)).all fun r => okSim (-8) (k + 1) 0 (k + 1 + r)) = true := by decide +kernel
theorem t_sim0_1 : (List.range 8).all (fun k => (List.range (8 - k)).all fun r => okSim (-7) (k + 1) 0 (k + 1 + r)) = true := by decide +kernel
theorem t_sim0_2 : (List.range 8).all (fun k => (List.range (8 - k)).all fun r => okSim (-6) (k + 1) 0 (k + 1 + r)) = true := by decide +kernel
theorem t_sim0_3 : (List.range 8).all (fun k => (List.range (8 - k)).all fun r => okSim (-5) (k + 1) 0 (k + 1 + r)) = true := by decide +kernel
theorem t_sim0_4 : (List.range 8).all (fun k => (List.range (8 - k)).all fun r => okSim (-4) (k + 1) 0 (k + 1 + r)) = true := by decide +kernel
theorem t_sim0_5 : (List.range 8).all (fun k => (List.range (8 - k)).all fun r => okSim (-3) (k + 1) 0 (k + 1 + r)) = true := by decide +kernel
theorem t_sim0_6 : (List.range 8).all (fun k => (List.range (8 - k)).all fun r => okSim (-2) (k + 1) 0 (k + 1 + r)) = true := by decide +kernel
theorem t_sim0_7 : (List.range 8).all (fun k => (List.range (8 - k)).all fun r => okSim (-1) (k + 1) 0 (k + 1 + r)) = true := by decide +kernel
theorem t_sim0_8 : (List.range 8).all (fun k => (List.range (8 - k)).all fun r => okSim (0) (k + 1) 0 (k + 1 + r)) = true := by decide +kernel
theorem t_sim0_9 : (List.range 8).all (fun k => (List.range (8 - k)).all fun r => okSim (1) (k + 1) 0 (k + 1 + r)) = true := by decide +kernel
theorem t_sim0_10 : (List.range 8).all (fun k => (List.range (8 - k)).all fun r => okSim (2) (k + 1) 0 (k + 1 + r)) = true := by decide +kernel
theorem t_sim0_11 : (List.range 8).all (fun k => (List.range (8 - k)).all fun r => okSim (3) (k + 1) 0 (k + 1 + r)) = true := by decide +kernel
theorem t_sim0_12 : (List.range 8).all (fun k => (List.range (8 - k)).all fun r => okSim (4) (k + 1) 0 (k + 1 + r)) = true := by decide +kernel
theorem t_sim0_13 : (List.range 8).all (fun k => (List.range (8 - k)).all fun r => okSim (5) (k + 1) 0 (k + 1 + r)) = true := by decide +kernel
theorem t_sim0_14 : (List.range 8).all (fun k => (List.range (8 - k)).all fun r => okSim (6) (k + 1) 0 (k + 1 + r)) = true := by decide +kernel
theorem t_sim0_15 : (List.range 8).all (fun k => (List.range (8 - k)).all fun r => okSim (7) (k + 1) 0 (k + 1 + r)) = true := by decide +kernel
theorem t_sim0_16 : (List.range 8).all (fun k => (List.range (8 - k)).all fun r => okSim (8) (k + 1) 0 (k + 1 + r)) = true := by decide +kernel
theorem t_sim0 {d : Int} {K n : Nat} (h0 : -8 ≤ d) (h1 : d < 9) (hK : 1 ≤ K) (hn : K ≤ n) (h8 : n ≤ 8) : okSim d K 0 n = true := by
  have h : (List.range 8).all (fun k => (List.range (8 - k)).all fun r => okSim d (k + 1) 0 (k + 1 + r)) = true := by
    obtain ⟨i, hi⟩ : ∃ i : Nat, d = -8 + (i : Int) := ⟨(d - -8).toNat, by omega⟩
    have hlt : i < 17 := by omega
    subst hi
    match i, hlt with
    | 0, _ => exact t_sim0_0
    | 1, _ => exact t_sim0_1
    | 2, _ => exact t_sim0_2
    | 3, _ => exact t_sim0_3
    | 4, _ => exact t_sim0_4
    | 5, _ => exact t_sim0_5
    | 6, _ => exact t_sim0_6
    | 7, _ => exact t_sim0_7
    | 8, _ => exact t_sim0_8
    | 9, _ => exact t_sim0_9
    | 10, _ => exact t_sim0_10
    | 11, _ => exact t_sim0_11
    | 12, _ => exact t_sim0_12
    | 13, _ => exact t_sim0_13
    | 14, _ => exact t_sim0_14
    | 15, _ => exact t_sim0_15
    | 16, _ => exact t_sim0_16
    | i + 17, h => exact absurd h (by omega)
  have h2 := List.all_eq_true.1 (List.all_eq_true.1 h (K - 1) (List.mem_range.2 (by omega))) (n - K) (List.mem_range.2 (by omega))
  rw [show K - 1 + 1 = K by omega, show K + (n - K) = n by omega] at h2
  exact h2

end Go.Proofs.Ytfdaifmfecfchaa
