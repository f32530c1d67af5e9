/-
  FnSpans: texts joined: SortI, SquareM, FirstInv, Squares, ValidD2, Cities, CitiesM, AreCit.
-/
import Derived.Lib.OwnBridge
import Derived.BigQuiet
import Derived.Test.YtkfiepiipigcmaaMFnSpansAA
import Derived.Test.YtkfiepiipigcmaaMFnSpansAD
namespace Go.Proofs.Ytkfiepiipigcmaa
open Go.RowKit Go.Sort

/-- The key of an index: the due time of the job. -/
def dueK (js : List JobD) (x : Nat) : Int := (js.getD (x % js.length) J0).due
theorem Try.entersDue (args : Array Value) (w : World) : (callFunc 104 args).run Try.prog w = .ok (.enter 104 args) w :=
  enters_of Try.func104 (by kernel_rfl) rfl args w

/-- The closure that compares the due times of two jobs. -/
theorem dueCmp_any (i j : Nat) (bx b off n c : Nat) (x y : Int) (w : World) (hi : i < n) (hj : j < n) (hn : n ≤ 1000) (hbox : w.cell? ⟨bx, 0, none⟩ = some (.slice (some ⟨b, off, none⟩) n c))
    (d1 : w.cell? ⟨b, off + i * 4 + 1, none⟩ = some (.int .i64 x)) (d2 : w.cell? ⟨b, off + j * 4 + 1, none⟩ = some (.int .i64 y)) :
    Calls Try.prog 104 #[.int .i64 i, .int .i64 j, .pointer (some ⟨bx, 0, none⟩)] w fun e w' => e = .returned (.int .i64 (cmpI x y)) ∧ ∃ q, w' = w.drewN q := by
  have hi' : (i : Int) < n := by omega
  have hj' : (j : Int) < n := by omega
  go_enter Try.func104, Try.ntmps104
  go_wp2_with fail
  go_quiet ((go_at_call 63; exact quiet_same (cmp64_any _ _ _)))
  go_wp2_with fail
  go_ret
  exact ⟨rfl, _, rfl⟩

/-- What the sort asks of it. -/
theorem dueReads (js : List JobD) (v : Value) (bx g : Nat) (w : World) (h : RdJ w v js) (hn : 1 ≤ js.length) (hn2 : js.length ≤ 12) (hb : w.cell? ⟨bx, 0, none⟩ = some v) (hbx : bx < w.heap.size) (hbg : bx ≠ g) (hg : ∀ a, v.ownBlock = some a → a ≠ g) :
    CmpReads Try.prog 104 #[.pointer (some ⟨bx, 0, none⟩)] (encN js.length) (fun x y => cmpI (dueK js x) (dueK js y)) g 0 js.length w := by
  intro m os dk hs x y
  obtain ⟨a, c, rfl⟩ := h.shape
  have hx := Nat.mod_lt x (show 0 < js.length by omega)
  have hy := Nat.mod_lt y (show 0 < js.length by omega)
  obtain ⟨b, off, rfl, hbl, _, d1, _, _⟩ := h.at hx
  obtain ⟨b', off', e, _, _, d2, _, _⟩ := h.at hy
  simp only [Option.some.injEq, Addr.mk.injEq] at e
  obtain ⟨rfl, rfl, _⟩ := e
  have hgb : b ≠ g := hg b rfl
  have up : ∀ p : Addr, p.block < w.heap.size → p.block ≠ g → (sortWorld (encN js.length) w g 0 m dk os).cell? p = w.cell? p := by
    intro p h1 h2
    unfold sortWorld
    rw [cell?_grow _ _ _ (by simpa [putRow, mapBlock, Sort.ahead] using h1), cell?_putRow_other _ _ _ _ _ _ (.inl h2)]
    rfl
  exact dueCmp_any _ _ bx b off js.length c _ _ _ hx hy (by omega) ((up _ hbx hbg).trans hb) ((up _ hbl hgb).trans d1) ((up _ hbl hgb).trans d2)

theorem one_encN (n : Nat) : OneCell (encN n) := fun _ => rfl

theorem ltOf_due (js : List JobD) : ltOf (fun x y => cmpI (dueK js x) (dueK js y)) = ltK (dueK js) := by
  funext x y
  unfold ltOf ltK cmpI
  by_cases h1 : dueK js x < dueK js y
  · simp [h1]
  · by_cases h2 : dueK js y < dueK js x <;> simp [h1, h2]

/-- The shelf's contract of the insertion sort, whatever its name in this seat's shelf. -/
theorem insOne_any {α : Type} [Inhabited α] (enc : α → Value) (one : OneCell enc) (cf : α → α → Int) (f : Nat) (fb : Array Value) (blk off cap a b : Nat) (d : Array α) (w : World)
    (eg : ∀ args w, (callFunc f args).run Try.prog w = .ok (.enter f args) w) (hcmp : CmpReads Try.prog f fb enc cf blk off d.size w) (hH : Holds enc w blk off d) (hab : a ≤ b) (hb : b ≤ d.size) (hsz : d.size < 4611686018427387904) :
    Calls Try.prog 160 #[.slice (some ⟨blk, off, none⟩) d.size cap, .int .i64 a, .int .i64 b, .func (.func f) #[] fb] w fun e w' => e = .returned (.tuple #[]) ∧ ∃ n, w' = (putRow enc w blk off (Sort.insertionSort (ltOf cf) d a b)).drewN n := by
  first
    | exact Try.insertionSortCmpFunc_one_f160 enc one cf f fb blk off cap a b d w eg hcmp hH hab hb hsz
    | exact Try.insertionSortCmpFunc_one enc one cf f fb blk off cap a b d w eg hcmp hH hab hb hsz

theorem insDue_any (js : List JobD) (v : Value) (bx g cap : Nat) (w : World) (h : RdJ w v js) (hn : 1 ≤ js.length) (hn2 : js.length ≤ 12) (hb : w.cell? ⟨bx, 0, none⟩ = some v) (hbx : bx < w.heap.size) (hbg : bx ≠ g) (hg : ∀ a, v.ownBlock = some a → a ≠ g)
    (hH : Holds (encN js.length) w g 0 (Array.range js.length)) :
    Calls Try.prog 160 #[.slice (some ⟨g, 0, none⟩) js.length cap, .int .i64 0, .int .i64 js.length, .func (.func 104) #[] #[.pointer (some ⟨bx, 0, none⟩)]] w fun e w' =>
      e = .returned (.tuple #[]) ∧ ∃ q, w' = (putRow (encN js.length) w g 0 (ordA (dueK js) js.length)).drewN q := by
  have hs : (Array.range js.length).size = js.length := Array.size_range
  have hr := insOne_any (encN js.length) (one_encN _) (fun x y => cmpI (dueK js x) (dueK js y)) 104 #[.pointer (some ⟨bx, 0, none⟩)] g 0 cap 0 js.length (Array.range js.length) w Try.entersDue (by rw [hs]; exact dueReads js v bx g w h hn hn2 hb hbx hbg hg) hH (Nat.zero_le _) (by rw [hs]; exact Nat.le_refl _) (by rw [hs]; omega)
  rw [hs, ltOf_due] at hr
  exact hr

theorem stableDue_any (js : List JobD) (v : Value) (bx g cap : Nat) (w : World) (h : RdJ w v js) (hn : 1 ≤ js.length) (hn2 : js.length ≤ 12) (hb : w.cell? ⟨bx, 0, none⟩ = some v) (hbx : bx < w.heap.size) (hbg : bx ≠ g) (hg : ∀ a, v.ownBlock = some a → a ≠ g)
    (hH : Holds (encN js.length) w g 0 (Array.range js.length)) :
    Calls Try.prog 137 #[.slice (some ⟨g, 0, none⟩) js.length cap, .int .i64 js.length, .func (.func 104) #[] #[.pointer (some ⟨bx, 0, none⟩)]] w fun e w' =>
      e = .returned (.tuple #[]) ∧ ∃ q, w' = (putRow (encN js.length) w g 0 (ordA (dueK js) js.length)).drewN q := by
  have HC := Lib.hid (insDue_any js v bx g cap w h hn hn2 hb hbx hbg hg hH)
  have h1 : ¬ (20 : Int) ≤ js.length := by omega
  have h2 : ¬ (20 : Int) < js.length := by omega
  clear h hb hbx hbg hg hH
  go_enter Try.func137, Try.ntmps137
  go_wp2_with fail
  go_loopw [7, 8] (fun av bv wr => av = .int .i64 0 ∧ bv = .int .i64 20 ∧ w = wr) (fun _ _ _ => 0)
  case atStart => exact ⟨rfl, rfl, rfl⟩
  case round =>
    obtain ⟨rfl, rfl, rfl⟩ := hrel
    go_wp2_with (go_at_call 160; refine HC.out.mono ?_; rintro e w1 ⟨rfl, hq⟩)
    have HQ := Lib.hid hq
    clear hq
    go_loopw [6] (fun sv wr => sv = .int .i64 20 ∧ w1 = wr) (fun _ _ => 0)
    case atStart => exact ⟨rfl, rfl⟩
    case round =>
      obtain ⟨rfl, rfl⟩ := hrel
      go_wp2_with fail
      go_end0
      exact ⟨rfl, HQ.out⟩

theorem sortStable_any (js : List JobD) (v : Value) (bx g cap : Nat) (w : World) (h : RdJ w v js) (hn : 1 ≤ js.length) (hn2 : js.length ≤ 12) (hb : w.cell? ⟨bx, 0, none⟩ = some v) (hbx : bx < w.heap.size) (hbg : bx ≠ g) (hg : ∀ a, v.ownBlock = some a → a ≠ g)
    (hH : Holds (encN js.length) w g 0 (Array.range js.length)) :
    Calls Try.prog 100 #[.slice (some ⟨g, 0, none⟩) js.length cap, .func (.func 104) #[] #[.pointer (some ⟨bx, 0, none⟩)]] w fun e w' =>
      e = .returned (.tuple #[]) ∧ ∃ q, w' = (putRow (encN js.length) w g 0 (ordA (dueK js) js.length)).drewN q := by
  have HC := Lib.hid (stableDue_any js v bx g cap w h hn hn2 hb hbx hbg hg hH)
  clear h hb hbx hbg hg hH
  go_enter Try.func100, Try.ntmps100
  go_wp2_with (go_at_call 137; refine HC.out.mono ?_; rintro e w1 ⟨rfl, hq⟩)
  go_end0
  exact ⟨rfl, hq⟩

/-- The program's list of indices, sorted. -/
theorem orderBy_any (js : List JobD) (v : Value) (bx : Nat) (w : World) (h : RdJ w v js) (hn : 1 ≤ js.length) (hn2 : js.length ≤ 12) (hb : Box w bx 44 v) (hg : ∀ a, v.ownBlock = some a → a < w.heap.size) :
    Calls Try.prog 61 #[.int .i64 js.length, .func (.func 104) #[] #[.pointer (some ⟨bx, 0, none⟩)]] w fun e w' => ∃ u, e = .returned u ∧ OwnI w.heap.size w'.heap.size w' u (idxs (ordL (dueK js) js.length)) ∧ Below w.heap.size w w' := by
  have HR := Lib.hid h
  have HBx := Lib.hid hb
  have HG := Lib.hid hg
  clear h hb hg
  go_enter Try.func61, Try.ntmps61
  go_wp2_with fail
  go_loopw [5, 6] (fun out kk wr => ∃ (i : Nat) (b : Option Addr) (cap : Nat), kk = .int .i64 i ∧ i ≤ js.length ∧ out = .slice b i cap ∧ Hid (wr.ownsRow w.heap.size 2 1 (.slice b i cap) i ((idxs (List.range i)).map I64)) ∧ Hid (Below w.heap.size w wr)) (fun _ kk _ => js.length + 1 - (intOf kk).toNat)
  case atStart => exact ⟨0, none, 0, rfl, Nat.zero_le _, rfl, World.ownsRow_nil _ _ _ _, Below.refl _ _⟩
  case round =>
    obtain ⟨i, b, cap, rfl, hi, rfl, HO, HB⟩ := hrel
    by_cases hlt : i < js.length
    · have hlt' : (i : Int) < js.length := by omega
      have hsz := HB.out.size
      go_wp2_with (at_builtin; refine app_ints rfl _ _ rfl w.heap.size (.slice b i cap) i (idxs (List.range i)) rfl (HO.out.alloc _) _ [(i : Int)] rfl (slc_one _ _) (i + 1) (idxs (List.range (i + 1))) (by simp) (by unfold idxs; rw [List.range_succ, List.map_append]; rfl) (by omega) (by simp; omega) ?_; intro b2 cap2 w3 hown2 hbl2 _ _)
      go_roundw
      case rel => exact ⟨i + 1, b2, cap2, by go_num, by omega, rfl, Lib.hid hown2, Lib.hid (HB.out.trans (((Below.refl _ _).alloc hsz _).trans hbl2))⟩
      case measure => simp [intOf]; omega
    · obtain rfl : i = js.length := by omega
      obtain ⟨wo, rfl⟩ : ∃ wo, wo = wr := ⟨wr, rfl⟩
      have hnn : Value.slice b js.length cap ≠ .slice none 0 0 := by intro e; injection e with _ e _; omega
      have hmem : ∀ x, x ∈ List.range js.length → x < js.length := fun x hx => List.mem_range.1 hx
      have HO2 : Hid (wo.ownsRow w.heap.size 2 1 (.slice b js.length cap) js.length ((List.range js.length).map (encN js.length))) := Lib.hid (by rw [encN_map _ _ hmem]; exact HO.out)
      obtain ⟨g, cap', e, hbg, hgl, _, _, _, hH⟩ := Lib.holds_of_ownsRow HO2.out hnn
      injection e with e1 _ e2
      subst e1; subst e2
      have hbx := HBx.out.lt
      have HC := Lib.hid (sortStable_any js v bx g cap wo (HR.out.up HB.out (Nat.le_refl _)) hn hn2 (HBx.out.below HB.out hbx).cell (Nat.lt_of_lt_of_le hbx HB.out.size) (by omega) (fun a ha => by have := HG.out a ha; omega) (by rw [← List.toArray_range]; exact hH))
      clear hH hnn hmem
      go_wp2_with (go_at_call 100; refine HC.out.mono ?_; rintro e w1 ⟨rfl, hq⟩)
      go_ret
      obtain ⟨q, rfl⟩ := hq
      have hoL : (ordL (dueK js) js.length).length = js.length := ordL_len _ _
      have hx := Lib.ownsRow_putRow (q := 0) (k := js.length) HO2.out hoL (Nat.le_refl _)
      rw [List.take_of_length_le (by omega), encN_map _ _ (ordL_lt _ _)] at hx
      refine ⟨_, rfl, ?_, ?_⟩
      · exact OwnI.mk (n := js.length) hx
      · exact below_drewN (Lib.below_putRow (q := 0) HB.out hbg) q

/-- The program's jobs by due time. -/
theorem dueOrder_any (js : List JobD) (v : Value) (w : World) (h : RdJ w v js) (hn : 1 ≤ js.length) (hn2 : js.length ≤ 12) :
    Calls Try.prog 72 #[v] w fun e w' => ∃ u, e = .returned u ∧ OwnI w.heap.size w'.heap.size w' u (idxs (ordL (dueK js) js.length)) ∧ Below w.heap.size w w' := by
  obtain ⟨b0, off, hb0, hv⟩ : ∃ b0 off, b0 < w.heap.size ∧ ∃ c, v = .slice (some ⟨b0, off, none⟩) js.length c := by
    obtain ⟨a, c, rfl⟩ := h.shape
    obtain ⟨b, off, rfl, hb, _⟩ := h.at (show 0 < js.length by omega)
    exact ⟨b, off, hb, c, rfl⟩
  obtain ⟨c, rfl⟩ := hv
  have HR := Lib.hid h
  clear h
  have hbl : Below w.heap.size w (w.alloc (.cells #[.slice (some ⟨b0, off, none⟩) js.length c] 44)) := (Below.refl _ _).alloc (Nat.le_refl _) _
  have HB := Lib.hid hbl
  have HC := Lib.hid (orderBy_any js (.slice (some ⟨b0, off, none⟩) js.length c) w.heap.size (w.alloc (.cells #[.slice (some ⟨b0, off, none⟩) js.length c] 44)) (HR.out.up hbl (Nat.le_refl _)) hn hn2 (Box.new w _ _) (fun a ha => by
    have : b0 = a := Option.some.inj ha
    simp; omega))
  clear hbl
  go_enter Try.func72, Try.ntmps72
  go_wp2_with (go_at_call 61; refine HC.out.mono ?_; rintro e w1 ⟨u, rfl, ho, hb1⟩)
  go_ret
  exact ⟨_, rfl, ho.wide (by simp) (Nat.le_refl _), HB.out.trans (hb1.mono (by simp))⟩

end Go.Proofs.Ytkfiepiipigcmaa

namespace Go.Proofs.Ytkfiepiipigcmaa

/-- In round k the number x at place i meets itself in its row or its column. -/
def clashB (n : Nat) (sq : List Int) (i : Nat) (x : Int) (k : Nat) : Bool :=
  (i / n * n + k != i && sq.getD (i / n * n + k) 0 == x) || (k * n + i % n != i && sq.getD (k * n + i % n) 0 == x)
/-- The number fits. -/
def fitsB (n : Nat) (sq : List Int) (i : Nat) (x : Int) : Bool := (List.range n).all fun k => !clashB n sq i x k
/-- Two places in one row or column. -/
def Peer (n p q : Nat) : Prop := p ≠ q ∧ p < n * n ∧ q < n * n ∧ (p / n = q / n ∨ p % n = q % n)

theorem Peer.symm {n p q : Nat} (h : Peer n p q) : Peer n q p := ⟨h.1.symm, h.2.2.1, h.2.1, h.2.2.2.imp Eq.symm Eq.symm⟩

theorem fits_iff {n : Nat} {sq : List Int} {i : Nat} {x : Int} (hn : 0 < n) (hi : i < n * n) : fitsB n sq i x = true ↔ ∀ q, Peer n i q → sq.getD q 0 ≠ x := by
  unfold fitsB
  rw [List.all_eq_true]
  have hdiv : i / n < n := Nat.div_lt_of_lt_mul hi
  have hmod : i % n < n := Nat.mod_lt _ hn
  constructor
  · intro h q hq hx
    obtain ⟨h1, _, h3, h4⟩ := hq
    have hqd : q / n < n := Nat.div_lt_of_lt_mul h3
    have hqm : q % n < n := Nat.mod_lt _ hn
    have hqe : q / n * n + q % n = q := by have := Nat.div_add_mod q n; rw [Nat.mul_comm] at this; exact this
    rcases h4 with h4 | h4
    · have := h (q % n) (List.mem_range.2 hqm)
      simp only [clashB, h4, hqe, hx, Bool.not_eq_true', Bool.or_eq_false_iff, Bool.and_eq_false_iff] at this
      rcases this.1 with h5 | h5
      · simp at h5; exact h1 h5.symm
      · simp at h5
    · have := h (q / n) (List.mem_range.2 hqd)
      simp only [clashB, h4, hqe, hx, Bool.not_eq_true', Bool.or_eq_false_iff, Bool.and_eq_false_iff] at this
      rcases this.2 with h5 | h5
      · simp at h5; exact h1 h5.symm
      · simp at h5
  · intro h k hk
    have hk' := List.mem_range.1 hk
    have e1 : (i / n * n + k) / n = i / n := by
      rw [Nat.mul_comm, Nat.mul_add_div hn, Nat.div_eq_of_lt hk']; rfl
    have b1 : i / n * n + k < n * n := by
      have : (i / n + 1) * n ≤ n * n := Nat.mul_le_mul_right n hdiv
      rw [Nat.add_mul] at this; omega
    have e2 : (k * n + i % n) % n = i % n := by
      rw [Nat.mul_comm, Nat.mul_add_mod]; exact Nat.mod_eq_of_lt hmod
    have b2 : k * n + i % n < n * n := by
      have : (k + 1) * n ≤ n * n := Nat.mul_le_mul_right n hk'
      rw [Nat.add_mul] at this; omega
    simp only [clashB, Bool.not_eq_true', Bool.or_eq_false_iff, Bool.and_eq_false_iff]
    refine ⟨?_, ?_⟩
    · by_cases he : i / n * n + k = i
      · left; simp [he]
      · right; simpa using h _ ⟨fun e => he e.symm, hi, b1, .inl e1.symm⟩
    · by_cases he : k * n + i % n = i
      · left; simp [he]
      · right; simpa using h _ ⟨fun e => he e.symm, hi, b2, .inr e2.symm⟩

/-- The numbers from 1 to n. -/
def oneTo (n : Nat) : List Int := (List.range n).map fun (k : Nat) => (k : Int) + 1
theorem mem_oneTo {n : Nat} {v : Int} : v ∈ oneTo n ↔ 1 ≤ v ∧ v ≤ n := by
  simp only [oneTo, List.mem_map, List.mem_range]
  constructor
  · rintro ⟨k, hk, rfl⟩; omega
  · rintro ⟨h1, h2⟩; exact ⟨(v - 1).toNat, by omega, by omega⟩

/-- What the program tries at a place. -/
def cands (n : Nat) (sq : List Int) (i : Nat) : List Int := if 0 < sq.getD i 0 then [sq.getD i 0] else oneTo n

/-- The program's search. -/
def isols (n : Nat) : Nat → List Int → Nat → List (List Int)
  | 0, sq, _ => [sq]
  | f + 1, sq, i => (cands n sq i).flatMap fun v => if fitsB n sq i v then isols n f (sq.set i v) (i + 1) else []
/-- The reference's search. -/
def ssols (n : Nat) : Nat → List Int → Nat → List (List Int)
  | 0, sq, _ => [sq]
  | f + 1, sq, i => if sq.getD i 0 ≠ 0 then ssols n f sq (i + 1) else (oneTo n).flatMap fun v => if fitsB n sq i v then ssols n f (sq.set i v) (i + 1) else []
/-- .. up to a number. -/
def msols (n most : Nat) : Nat → List Int → Nat → List (List Int)
  | 0, sq, _ => [sq]
  | f + 1, sq, i => if sq.getD i 0 ≠ 0 then msols n most f sq (i + 1) else (oneTo n).foldl (fun acc v => if acc.length < most ∧ fitsB n sq i v = true then acc ++ msols n most f (sq.set i v) (i + 1) else acc) []

theorem set_getD_self {sq : List Int} {i : Nat} {v : Int} (hi : i < sq.length) : (sq.set i v).getD i 0 = v := by simp [hi]
theorem set_getD_ne {sq : List Int} {i j : Nat} {v : Int} (h : i ≠ j) : (sq.set i v).getD j 0 = sq.getD j 0 := by simp [List.getElem?_set_ne h]
theorem set_same {sq : List Int} {i : Nat} (hi : i < sq.length) : sq.set i (sq.getD i 0) = sq := by
  have : sq.getD i 0 = sq[i] := by simp [hi]
  rw [this]; exact List.set_getElem_self hi

/-- All known numbers fit. -/
def GoodSq (n : Nat) (sq : List Int) : Prop := sq.length = n * n ∧ (∀ v ∈ sq, 0 ≤ v ∧ v ≤ n) ∧ ∀ p q, Peer n p q → sq.getD p 0 ≠ 0 → sq.getD p 0 ≠ sq.getD q 0

theorem GoodSq.set {n : Nat} {sq : List Int} {i : Nat} {v : Int} (hn : 0 < n) (h : GoodSq n sq) (hi : i < n * n) (hv : 1 ≤ v ∧ v ≤ n) (hf : fitsB n sq i v = true) : GoodSq n (sq.set i v) := by
  obtain ⟨h1, h2, h3⟩ := h
  have hil : i < sq.length := by omega
  refine ⟨by simp [h1], fun u hu => ?_, fun p q hp hne => ?_⟩
  · rcases List.mem_or_eq_of_mem_set hu with h | rfl
    · exact h2 u h
    · omega
  · have hf' := (fits_iff hn hi).1 hf
    by_cases hpi : p = i
    · subst hpi
      rw [set_getD_self hil, set_getD_ne hp.1]
      exact fun e => hf' q hp e.symm
    · by_cases hqi : q = i
      · subst hqi
        rw [set_getD_self hil, set_getD_ne (Ne.symm hpi)]
        exact hf' p hp.symm
      · rw [set_getD_ne (Ne.symm hpi), set_getD_ne (Ne.symm hqi)]
        rw [set_getD_ne (Ne.symm hpi)] at hne
        exact h3 p q hp hne

theorem GoodSq.at {n : Nat} {sq : List Int} {i : Nat} (h : GoodSq n sq) (hi : i < n * n) : 0 ≤ sq.getD i 0 ∧ sq.getD i 0 ≤ n := by
  have hil : i < sq.length := by rw [h.1]; exact hi
  have : sq.getD i 0 = sq[i] := by simp [hil]
  rw [this]; exact h.2.1 _ (List.getElem_mem hil)

theorem isols_eq (n : Nat) (hn : 0 < n) : ∀ (f : Nat) (sq : List Int) (i : Nat), i + f = n * n → GoodSq n sq → isols n f sq i = ssols n f sq i
  | 0, sq, i, _, _ => rfl
  | f + 1, sq, i, hi, hg => by
    have hil : i < n * n := by omega
    have hb := hg.at hil
    simp only [isols, ssols, cands]
    by_cases h0 : 0 < sq.getD i 0
    · rw [if_pos h0, if_pos (by omega)]
      have hf : fitsB n sq i (sq.getD i 0) = true := (fits_iff hn hil).2 fun q hq e => hg.2.2 i q hq (by omega) e.symm
      simp only [List.flatMap_cons, List.flatMap_nil, List.append_nil, hf, if_true]
      rw [set_same (by rw [hg.1]; exact hil)]
      exact isols_eq n hn f sq (i + 1) (by omega) hg
    · rw [if_neg h0, if_neg (by omega)]
      have key : ∀ l : List Int, (∀ v ∈ l, v ∈ oneTo n) → (l.flatMap fun v => if fitsB n sq i v then isols n f (sq.set i v) (i + 1) else []) = l.flatMap fun v => if fitsB n sq i v then ssols n f (sq.set i v) (i + 1) else [] := by
        intro l
        induction l with
        | nil => intro _; rfl
        | cons v l ih =>
          intro hl
          have hv := mem_oneTo.1 (hl v (by simp))
          rw [List.flatMap_cons, List.flatMap_cons, ih (fun u hu => hl u (by simp [hu]))]
          congr 1
          split
          · next hf => exact isols_eq n hn f _ (i + 1) (by omega) (hg.set hn hil hv hf)
          · rfl
      exact key _ (fun v h => h)

/-- Known numbers that do not fit leave nothing. -/
theorem isols_bad (n : Nat) (hn : 0 < n) (p q : Nat) (hpq : Peer n p q) : ∀ (f : Nat) (sq : List Int) (i : Nat), i + f = n * n → i ≤ p → sq.length = n * n → 0 < sq.getD p 0 → sq.getD p 0 = sq.getD q 0 → isols n f sq i = []
  | 0, sq, i, hi, hip, _, _, _ => by have := hpq.2.1; omega
  | f + 1, sq, i, hi, hip, hl, h0, he => by
    have hil : i < n * n := by omega
    simp only [isols]
    rw [List.flatMap_eq_nil_iff]
    intro v hv
    by_cases hf : fitsB n sq i v = true
    · rw [if_pos hf]
      by_cases hip' : i = p
      · subst hip'
        simp only [cands, h0, if_true, List.mem_singleton] at hv
        subst hv
        exact absurd he.symm ((fits_iff hn hil).1 hf q hpq)
      · have hsp : (sq.set i v).getD p 0 = sq.getD p 0 := set_getD_ne hip'
        have hsq : (sq.set i v).getD q 0 = sq.getD q 0 := by
          by_cases hiq : i = q
          · subst hiq
            rw [set_getD_self (by omega)]
            have h1 : 0 < sq.getD i 0 := by omega
            simp only [cands, h1, if_true, List.mem_singleton] at hv
            exact hv
          · exact set_getD_ne hiq
        exact isols_bad n hn p q hpq f _ (i + 1) (by omega) (by omega) (by simp [hl]) (by rw [hsp]; exact h0) (by rw [hsp, hsq]; exact he)
    · rw [if_neg hf]

theorem foldl_pre {α : Type} (most : Nat) (g h : α → List (List Int)) (ok : α → Bool) (hgh : ∀ v, (g v <+: h v) ∧ (g v = h v ∨ most ≤ (g v).length)) : ∀ (l : List α) (acc part : List (List Int)), acc <+: part → (acc = part ∨ most ≤ acc.length) →
    (l.foldl (fun acc v => if acc.length < most ∧ ok v = true then acc ++ g v else acc) acc <+: part ++ l.flatMap fun v => if ok v then h v else []) ∧
    (l.foldl (fun acc v => if acc.length < most ∧ ok v = true then acc ++ g v else acc) acc = part ++ (l.flatMap fun v => if ok v then h v else []) ∨ most ≤ (l.foldl (fun acc v => if acc.length < most ∧ ok v = true then acc ++ g v else acc) acc).length)
  | [], acc, part, h1, h2 => by simpa using ⟨h1, h2⟩
  | v :: l, acc, part, h1, h2 => by
    simp only [List.foldl_cons, List.flatMap_cons]
    rw [← List.append_assoc]
    refine foldl_pre most g h ok hgh l _ _ ?_ ?_
    · by_cases hc : acc.length < most ∧ ok v = true
      · rw [if_pos hc, if_pos hc.2]
        have : acc = part := h2.resolve_right (by omega)
        subst this
        exact (List.prefix_append_right_inj acc).2 (hgh v).1
      · rw [if_neg hc]
        exact h1.trans (List.prefix_append _ _)
    · by_cases hc : acc.length < most ∧ ok v = true
      · rw [if_pos hc, if_pos hc.2]
        have : acc = part := h2.resolve_right (by omega)
        subst this
        rcases (hgh v).2 with h3 | h3
        · left; rw [h3]
        · right; rw [List.length_append]; omega
      · rw [if_neg hc]
        by_cases hok : ok v = true
        · right
          have : ¬ acc.length < most := fun h => hc ⟨h, hok⟩
          omega
        · rw [if_neg hok, List.append_nil]; exact h2

theorem msols_pre (n most : Nat) : ∀ (f : Nat) (sq : List Int) (i : Nat), (msols n most f sq i <+: ssols n f sq i) ∧ (msols n most f sq i = ssols n f sq i ∨ most ≤ (msols n most f sq i).length)
  | 0, sq, i => ⟨List.prefix_rfl, .inl rfl⟩
  | f + 1, sq, i => by
    simp only [msols, ssols]
    split
    · exact msols_pre n most f sq (i + 1)
    · have := foldl_pre most (fun v => msols n most f (sq.set i v) (i + 1)) (fun v => ssols n f (sq.set i v) (i + 1)) (fitsB n sq i) (fun v => msols_pre n most f _ (i + 1)) (oneTo n) [] [] List.prefix_rfl (.inl rfl)
      simpa using this

/-- No more ways than with an empty board. -/
theorem isols_le (n : Nat) (hn : 0 < n) : ∀ (f : Nat) (sq s0 : List Int) (i : Nat), i + f = n * n → sq.length = n * n → s0.length = n * n → (∀ v ∈ sq, 0 ≤ v ∧ v ≤ n) → (∀ j, j < i → s0.getD j 0 = sq.getD j 0) → (∀ j, i ≤ j → s0.getD j 0 = 0) →
    (isols n f sq i).length ≤ (isols n f s0 i).length
  | 0, sq, s0, i, _, _, _, _, _, _ => Nat.le_refl _
  | f + 1, sq, s0, i, hi, hl, hl0, hr, hlt, hge => by
    have hil : i < n * n := by omega
    have hbi : 0 ≤ sq.getD i 0 ∧ sq.getD i 0 ≤ n := by
      have : sq.getD i 0 = sq[i] := by simp [show i < sq.length by omega]
      rw [this]; exact hr _ (List.getElem_mem _)
    have step : ∀ v : Int, 1 ≤ v → v ≤ n → (if fitsB n sq i v then isols n f (sq.set i v) (i + 1) else []).length ≤ (if fitsB n s0 i v then isols n f (s0.set i v) (i + 1) else []).length := by
      intro v hv1 hv2
      by_cases hf : fitsB n sq i v = true
      · have hf0 : fitsB n s0 i v = true := (fits_iff hn hil).2 fun q hq e => by
          by_cases hqi : q < i
          · rw [hlt q hqi] at e; exact (fits_iff hn hil).1 hf q hq e
          · rw [hge q (by omega)] at e; omega
        rw [if_pos hf, if_pos hf0]
        refine isols_le n hn f _ _ (i + 1) (by omega) (by simp [hl]) (by simp [hl0]) (fun u hu => ?_) (fun j hj => ?_) (fun j hj => ?_)
        · rcases List.mem_or_eq_of_mem_set hu with h | rfl
          · exact hr u h
          · omega
        · by_cases hji : j = i
          · subst hji; rw [set_getD_self (by omega), set_getD_self (by omega)]
          · rw [set_getD_ne (Ne.symm hji), set_getD_ne (Ne.symm hji)]; exact hlt j (by omega)
        · rw [set_getD_ne (by omega)]; exact hge j (by omega)
      · rw [if_neg hf]; exact Nat.zero_le _
    simp only [isols, cands]
    rw [if_neg (show ¬ 0 < s0.getD i 0 by rw [hge i (Nat.le_refl _)]; omega)]
    have key : ∀ l : List Int, (∀ v ∈ l, 1 ≤ v ∧ v ≤ n) → (l.flatMap fun v => if fitsB n sq i v then isols n f (sq.set i v) (i + 1) else []).length ≤ (l.flatMap fun v => if fitsB n s0 i v then isols n f (s0.set i v) (i + 1) else []).length := by
      intro l
      induction l with
      | nil => intro _; exact Nat.le_refl _
      | cons v l ih =>
        intro h
        rw [List.flatMap_cons, List.flatMap_cons, List.length_append, List.length_append]
        have h1 := step v (h v (by simp)).1 (h v (by simp)).2
        have h2 := ih (fun u hu => h u (by simp [hu]))
        omega
    by_cases h0 : 0 < sq.getD i 0
    · rw [if_pos h0]
      have h1 := key [sq.getD i 0] (by intro v hv; simp only [List.mem_singleton] at hv; subst hv; omega)
      refine Nat.le_trans h1 ?_
      have mono : ∀ (l : List Int) (v : Int) (F : Int → List (List Int)), v ∈ l → (F v).length ≤ (l.flatMap F).length := by
        intro l v F hv
        induction l with
        | nil => simp at hv
        | cons u l ih =>
          rw [List.flatMap_cons, List.length_append]
          rcases List.mem_cons.1 hv with rfl | h
          · omega
          · have := ih h; omega
      have := mono (oneTo n) (sq.getD i 0) (fun v => if fitsB n s0 i v then isols n f (s0.set i v) (i + 1) else []) (mem_oneTo.2 (by omega))
      simpa using this
    · rw [if_neg h0]
      exact key _ (fun v hv => mem_oneTo.1 hv)

theorem flatMap_len {α β : Type} (l : List α) (F : α → List β) (M : Nat) (h : ∀ a ∈ l, (F a).length ≤ M) : (l.flatMap F).length ≤ l.length * M := by
  induction l with
  | nil => simp
  | cons a l ih =>
    rw [List.flatMap_cons, List.length_append, List.length_cons, Nat.succ_mul]
    have h1 := h a (by simp)
    have h2 := ih fun b hb => h b (by simp [hb])
    omega

theorem ssols_len (n : Nat) (hn : 0 < n) : ∀ (f : Nat) (sq : List Int) (i : Nat), (ssols n f sq i).length ≤ n ^ f
  | 0, sq, i => by simp [ssols]
  | f + 1, sq, i => by
    simp only [ssols]
    rw [Nat.pow_succ, Nat.mul_comm]
    split
    · exact Nat.le_trans (ssols_len n hn f sq (i + 1)) (Nat.le_mul_of_pos_left _ hn)
    · have := flatMap_len (oneTo n) (fun v => if fitsB n sq i v then ssols n f (sq.set i v) (i + 1) else []) (n ^ f) (fun v _ => by
        split
        · exact ssols_len n hn f _ _
        · simp)
      simpa [oneTo] using this

theorem msols_len (n most : Nat) (hn : 0 < n) (hn5 : n ≤ 5) (f : Nat) (hf : f ≤ 25) (sq : List Int) (i : Nat) : (msols n most f sq i).length ≤ 298023223876953125 := by
  have h1 := (msols_pre n most f sq i).1.length_le
  have h2 := ssols_len n hn f sq i
  have h3 : n ^ f ≤ 5 ^ 25 := Nat.le_trans (Nat.pow_le_pow_left hn5 f) (Nat.pow_le_pow_right (by decide) hf)
  have h4 : 5 ^ 25 = 298023223876953125 := by decide
  omega

/-- What the reference has found when it comes to the number k + 1 at a place. -/
def mpart (n most f : Nat) (sq : List Int) (i k : Nat) : List (List Int) :=
  ((List.range k).map fun (q : Nat) => (q : Int) + 1).foldl (fun acc v => if acc.length < most ∧ fitsB n sq i v = true then acc ++ msols n most f (sq.set i v) (i + 1) else acc) []
theorem mpart_succ (n most f : Nat) (sq : List Int) (i k : Nat) : mpart n most f sq i (k + 1) = if (mpart n most f sq i k).length < most ∧ fitsB n sq i ((k : Int) + 1) = true then mpart n most f sq i k ++ msols n most f (sq.set i ((k : Int) + 1)) (i + 1) else mpart n most f sq i k := by
  simp only [mpart, List.range_succ, List.map_append, List.foldl_append, List.map_cons, List.map_nil, List.foldl_cons, List.foldl_nil]
  rfl
theorem mpart_full {n most f : Nat} {sq : List Int} {i k : Nat} (h : most ≤ (mpart n most f sq i k).length) : ∀ m, mpart n most f sq i (k + m) = mpart n most f sq i k
  | 0 => rfl
  | m + 1 => by
    rw [← Nat.add_assoc, mpart_succ, mpart_full h m, if_neg (by omega)]
theorem msols_succ (n most f : Nat) (sq : List Int) (i : Nat) (h : sq.getD i 0 = 0) : msols n most (f + 1) sq i = mpart n most f sq i n := by
  simp only [msols, h]; rfl
theorem msols_known (n most f : Nat) (sq : List Int) (i : Nat) (h : sq.getD i 0 ≠ 0) : msols n most (f + 1) sq i = msols n most f sq (i + 1) := by
  simp only [msols]; rw [if_pos h]

end Go.Proofs.Ytkfiepiipigcmaa

namespace Go.Proofs.Ytkfiepiipigcmaa
open Go.RowKit

/-- The variable first: empty as long as nothing is found, then an own copy of what was found first. -/
def FirstInv (B0 : Nat) (w : World) (fv : Value) (acc : List (List Int)) : Prop :=
  (acc = [] ∧ ∃ a cap, fv = .slice a 0 cap) ∨
  ∃ s r g cap, acc = s :: r ∧ s ≠ [] ∧ fv = .slice (some ⟨g, 0, none⟩) s.length cap ∧ w.ownsRow B0 2 1 fv s.length (s.map I64)

theorem FirstInv.kept {B0 : Nat} {w w' : World} {fv : Value} {acc : List (List Int)} {b : Nat} (h : FirstInv B0 w fv acc) (hk : Kept (· = b) w w') (hb : Box w b 24 fv) : FirstInv B0 w' fv acc := by
  rcases h with h | ⟨s, r, g, cap, h1, h2, h3, h4⟩
  · exact .inl h
  · refine .inr ⟨s, r, g, cap, h1, h2, h3, owns_kept h4 hk ?_⟩
    intro k hk2 e
    subst e
    exact hb.not_owned h4 (by decide) hk2

theorem FirstInv.slice {B0 : Nat} {w : World} {fv : Value} {acc : List (List Int)} (h : FirstInv B0 w fv acc) : ∃ a n cap, fv = .slice a n cap := by
  rcases h with ⟨_, a, cap, h⟩ | ⟨s, r, g, cap, _, _, h, _⟩
  · exact ⟨_, _, _, h⟩
  · exact ⟨_, _, _, h⟩

/-- Integers that are read lie beside a variable that holds a slice. -/
theorem ints_beside {w w' : World} {a : Option Addr} {n cap : Nat} {xs : List Int} {b : Nat} {fv : Value} {t : TypeId} (h : Slc w (.slice a n cap) (xs.map I64)) (hb : Box w b t fv) (hf : ∃ a n cap, fv = .slice a n cap) (hk : Kept (· = b) w w') :
    Slc w' (.slice a n cap) (xs.map I64) := by
  refine h.kept hk fun ad u hu hc e => ?_
  have := hb.cell_eq e hc
  obtain ⟨a, n, cap, rfl⟩ := hf
  simp at hu
  obtain ⟨x, _, rfl⟩ := hu
  cases this

theorem FirstInv.keptS {B0 : Nat} {S : Nat → Prop} {w w' : World} {fv : Value} {acc : List (List Int)} {b : Nat} (h : FirstInv B0 w fv acc) (hk : Kept S w w') (hS : ∀ g, B0 ≤ g → S g → g = b) (hb : Box w b 24 fv) : FirstInv B0 w' fv acc := by
  rcases h with h | ⟨s, r, g, cap, h1, h2, h3, h4⟩
  · exact .inl h
  · refine .inr ⟨s, r, g, cap, h1, h2, h3, owns_kept h4 hk ?_⟩
    intro k hk2 e
    have hk3 := hS k (owns_lt h4 hk2).1 e
    subst hk3
    exact hb.not_owned h4 (by decide) hk2

/-- The variable of the closure. -/
def FQ (B0 fb : Nat) (done : List (List Int)) (w : World) : Prop :=
  (done = [] ∧ Box w fb 24 (.slice none 0 0)) ∨
  ∃ s r g cap, done = s :: r ∧ Box w fb 24 (.slice (some ⟨g, 0, none⟩) s.length cap) ∧ w.ownsRow B0 2 1 (.slice (some ⟨g, 0, none⟩) s.length cap) s.length (s.map I64)

theorem FQ.up {B0 fb : Nat} {done : List (List Int)} {w w' : World} (h : FQ B0 fb done w) (hb : Below w.heap.size w w') : FQ B0 fb done w' := by
  rcases h with ⟨h1, h2⟩ | ⟨s, r, g, cap, h1, h2, h3⟩
  · exact .inl ⟨h1, h2.below hb h2.lt⟩
  · exact .inr ⟨s, r, g, cap, h1, h2.below hb h2.lt, owns_below h3 hb (Nat.le_refl _)⟩


end Go.Proofs.Ytkfiepiipigcmaa

namespace Go.Proofs.Ytkfiepiipigcmaa
open Go.RowKit

theorem clash_eq (n : Nat) (sq : List Int) (i : Nat) (x p q : Int) (k : Nat) (hp : p = sq.getD (i / n * n + k) 0) (hq : q = sq.getD (k * n + i % n) 0) :
    clashB n sq i x k = ((i / n * n + k != i && p == x) || (k * n + i % n != i && q == x)) := by subst hp hq; rfl

theorem OwnI.set {lo hi : Nat} {w : World} {a : Option Addr} {n c : Nat} {sq : List Int} {g : Nat} (h : OwnI lo hi w (.slice a n c) sq) (ha : a = some ⟨g, 0, none⟩) (i : Nat) (v : Int) : OwnI lo hi (w.setCell ⟨g, i, none⟩ (.int .i64 v)) (.slice a n c) (sq.set i v) := by
  subst ha
  obtain ⟨h1, h2⟩ := h
  obtain ⟨a', c', e⟩ := RdI.shape (slc_of_owns h1 : RdI w _ sq)
  simp only [Value.slice.injEq] at e
  obtain ⟨_, rfl, _⟩ := e
  have := (h1.stored i (.int .i64 v)).1
  refine ⟨?_, h2⟩
  rw [show (sq.map I64).set i (.int .i64 v) = (sq.set i v).map I64 from by rw [List.map_set]; rfl] at this
  rw [List.length_set]
  exact this

end Go.Proofs.Ytkfiepiipigcmaa

namespace Go.Proofs.Ytkfiepiipigcmaa
open Go.RowKit

def areSizesB (xs : List Int) : Bool := inB 1 16 xs.length && allIn 1 1000 xs
end Go.Proofs.Ytkfiepiipigcmaa

namespace Go.Proofs.Ytkfiepiipigcmaa
open Go.RowKit

/-- The least n in k+1 .. k+f with n * n = L, or -1. -/
def citF (L : Nat) : Nat → Nat → Int
  | 0, _ => -1
  | f + 1, n => if ((L : Int) == (n : Int) * (n : Int)) = true then (n : Int) else citF L f (n + 1)
def citN (L : Nat) : Int := citF L 10 1

end Go.Proofs.Ytkfiepiipigcmaa

namespace Go.Proofs.Ytkfiepiipigcmaa
open Go.RowKit

def symB (n : Nat) (xs : List Int) (i k : Nat) : Bool := (xs.getD (i * n + k) 0 == xs.getD (k * n + i) 0) && (!(i == k) || xs.getD (i * n + k) 0 == 0)
def areCitiesB (xs : List Int) : Bool := decide (0 ≤ citN xs.length) && (allIn 0 1000 xs && allB (citN xs.length).toNat (fun i => allB (i + 1) (fun k => symB (citN xs.length).toNat xs i k)))

theorem citF_spec (L : Nat) : ∀ f n, (citF L f n = -1 ∧ ∀ j, n ≤ j → j < n + f → j * j ≠ L) ∨ ∃ j : Nat, citF L f n = (j : Int) ∧ n ≤ j ∧ j < n + f ∧ j * j = L
  | 0, n => .inl ⟨rfl, fun j h1 h2 => by omega⟩
  | f + 1, n => by
    have ih := citF_spec L f (n + 1)
    unfold citF
    by_cases h : n * n = L
    · right
      refine ⟨n, ?_, by omega, by omega, h⟩
      rw [if_pos]
      simp only [beq_iff_eq]
      rw [← h]; push_cast; rfl
    · rw [if_neg (by simp only [beq_iff_eq]; intro e; apply h; have e2 : (L : Int) = ((n * n : Nat) : Int) := by rw [e]; push_cast; rfl
                     omega)]
      rcases ih with ⟨h1, h2⟩ | ⟨j, h1, h2, h3, h4⟩
      · left
        refine ⟨h1, fun j h3 h4 => ?_⟩
        by_cases e : j = n
        · subst e; exact h
        · exact h2 j (by omega) (by omega)
      · exact .inr ⟨j, h1, by omega, by omega, h4⟩
theorem citN_cases (L : Nat) : (citN L = -1 ∧ ∀ j, 1 ≤ j → j ≤ 10 → j * j ≠ L) ∨ ∃ j : Nat, citN L = (j : Int) ∧ 1 ≤ j ∧ j ≤ 10 ∧ j * j = L := by
  rcases citF_spec L 10 1 with ⟨h1, h2⟩ | ⟨j, h1, h2, h3, h4⟩
  · exact .inl ⟨h1, fun j a b => h2 j a (by omega)⟩
  · exact .inr ⟨j, h1, h2, by omega, h4⟩
theorem citN_eq {L n : Nat} (h1 : 1 ≤ n) (h2 : n ≤ 10) (h : n * n = L) : citN L = (n : Int) := by
  rcases citN_cases L with ⟨_, h3⟩ | ⟨j, h3, _, _, h4⟩
  · exact absurd h (h3 n h1 h2)
  · rw [h3]
    have : j = n := Nat.mul_self_inj.1 (by omega)
    omega
theorem symB_symm {n : Nat} {xs : List Int} {i k : Nat} (h : symB n xs i k = true) : symB n xs k i = true := by
  unfold symB at h ⊢
  simp only [Bool.and_eq_true, beq_iff_eq, Bool.or_eq_true, Bool.not_eq_true', beq_eq_false_iff_ne] at h ⊢
  obtain ⟨h1, h2⟩ := h
  refine ⟨h1.symm, ?_⟩
  rcases h2 with h2 | h2
  · exact .inl (Ne.symm h2)
  · right; omega
theorem symAll {n : Nat} {xs : List Int} : allB n (fun i => allB (i + 1) (fun k => symB n xs i k)) = true ↔ ∀ i k, i < n → k < n → symB n xs i k = true := by
  rw [allB_iff]
  constructor
  · intro h i k hi hk
    by_cases hik : k ≤ i
    · exact allB_iff.1 (h i hi) k (by omega)
    · exact symB_symm (allB_iff.1 (h k hk) i (by omega))
  · intro h i hi
    exact allB_iff.2 fun k hk => h i k hi (by omega)
theorem inAll {n : Nat} {xs : List Int} (hn : xs.length = n * n) : allIn 0 1000 xs = true ↔ ∀ i k, i < n → k < n → inB 0 1000 (xs.getD (i * n + k) 0) = true := by
  rw [allIn_iff]
  constructor
  · intro h i k hi hk
    refine h _ ?_
    rw [hn]
    have : (i + 1) * n ≤ n * n := Nat.mul_le_mul_right _ hi
    rw [Nat.add_mul] at this
    omega
  · intro h i hi
    have hn0 : 0 < n := by
      rcases Nat.eq_zero_or_pos n with e | e
      · subst e; omega
      · exact e
    have := h (i / n) (i % n) (by rw [Nat.div_lt_iff_lt_mul hn0]; omega) (Nat.mod_lt _ hn0)
    rwa [Nat.mul_comm, Nat.div_add_mod] at this
/-- The reference's test. -/
theorem areCities_spec {n : Nat} {xs : List Int} (h1 : 1 ≤ n) (h2 : n ≤ 10) (hn : n * n = xs.length) : areCitiesB xs = allB n (fun i => allB n (fun k => inB 0 1000 (xs.getD (i * n + k) 0) && symB n xs i k)) := by
  unfold areCitiesB
  rw [citN_eq h1 h2 hn, Int.toNat_natCast, show decide ((0 : Int) ≤ (n : Int)) = true by simp, Bool.true_and, Bool.eq_iff_iff, Bool.and_eq_true, inAll hn.symm, symAll, allB_iff]
  constructor
  · rintro ⟨a, b⟩ i hi
    exact allB_iff.2 fun k hk => by rw [a i k hi hk, b i k hi hk]; rfl
  · intro h
    have h' := fun i k hi hk => Bool.and_eq_true_iff.1 (allB_iff.1 (h i hi) k hk)
    exact ⟨fun i k hi hk => (h' i k hi hk).1, fun i k hi hk => (h' i k hi hk).2⟩
theorem areCities_not {xs : List Int} (h : ∀ j, 1 ≤ j → j ≤ 10 → j * j ≠ xs.length) : areCitiesB xs = false := by
  rcases citN_cases xs.length with ⟨h1, _⟩ | ⟨j, _, a, b, c⟩
  · unfold areCitiesB; rw [h1]; rfl
  · exact absurd c (h j a b)

end Go.Proofs.Ytkfiepiipigcmaa

namespace Go.Proofs.Ytkfiepiipigcmaa
open Go.RowKit

/-- The facts of an index i * n + k: as an integer, in range. -/
theorem ix_facts {L n i k : Nat} (hL : L = n * n) (hn : n ≤ 10) (hi : i < n) (hk : k < n) : (0 : Int) ≤ (i : Int) * n ∧ (i : Int) * n + k < (L : Int) ∧ (0 : Int) ≤ (i : Int) * n + k ∧ ((i : Int) * n + k).toNat = i * n + k ∧ IntKind.i64.wrap ((i : Int) * n) = (i : Int) * n ∧ IntKind.i64.wrap ((i : Int) * n + k) = (i : Int) * n + k ∧ i * n + k < L := by
  have h0 : ((i * n : Nat) : Int) = (i : Int) * n := by push_cast; rfl
  have h1 : (i + 1) * n ≤ n * n := Nat.mul_le_mul_right _ hi
  have h2 : n * n ≤ 10 * 10 := Nat.mul_le_mul hn hn
  rw [Nat.add_mul] at h1
  refine ⟨by omega, by omega, by omega, by omega, IntWalk.i64_in _ (by omega), IntWalk.i64_in _ (by omega), by omega⟩

end Go.Proofs.Ytkfiepiipigcmaa
