/-
  FnExactJobsText: texts joined: CutM, JournI, TextI, Same, SameL, SameC, Float, PredF, Float64.
-/
import Derived.Lib.IndexMore
import Derived.Deep.RegionHeld3
import Derived.Laws.FloatArith
import Derived.Test.YtggpbekclegfoaaDoorMEJobsTextAB
import Derived.Test.YtggpbekclegfoaaDoorMEJobsTextAC
import Derived.Test.YtggpbekclegfoaaDoorMEJobsTextAD
namespace Go.Proofs.YtggpbekclegfoaaDoor
open Go.RowKit

def partsC (c : UInt8) : List UInt8 → List (List UInt8)
  | [] => [[]]
  | b :: r => if b = c then [] :: partsC c r else match partsC c r with
    | [] => [[b]]
    | h :: t => (b :: h) :: t
theorem partsC_none {c : UInt8} : ∀ {l : List UInt8}, c ∉ l → partsC c l = [l]
  | [], _ => rfl
  | b :: r, h => by
    simp only [List.mem_cons, not_or] at h
    simp only [partsC]
    rw [if_neg (fun e => h.1 e.symm), partsC_none h.2]
theorem partsC_hit {c : UInt8} : ∀ {l1 l2 : List UInt8}, c ∉ l1 → partsC c (l1 ++ c :: l2) = l1 :: partsC c l2
  | [], l2, _ => by simp [partsC]
  | b :: r, l2, h => by
    simp only [List.mem_cons, not_or] at h
    simp only [List.cons_append, partsC]
    rw [if_neg (fun e => h.1 e.symm), partsC_hit h.2]
theorem partsC_ne (c : UInt8) (l : List UInt8) : partsC c l ≠ [] := by
  by_cases h : c ∈ l
  · obtain ⟨l1, l2, rfl, h1⟩ := List.eq_append_cons_of_mem h
    rw [partsC_hit h1]; simp
  · rw [partsC_none h]; simp
def mkB (l : List UInt8) : ByteArray := ⟨l.toArray⟩
theorem mkB_size (l : List UInt8) : (mkB l).size = l.length := by simp [mkB, ByteArray.size]
theorem mkB_list (l : List UInt8) : (mkB l).data.toList = l := by simp [mkB]
theorem mkB_of (s : ByteArray) : mkB s.data.toList = s := by simp [mkB]
def cutS (c : UInt8) (s : ByteArray) : List ByteArray := (partsC c s.data.toList).map mkB

theorem index_none {c : UInt8} : ∀ {l : List UInt8}, c ∉ l → Lib.index l [c] = -1
  | [], _ => rfl
  | b :: r, h => by
    simp only [List.mem_cons, not_or] at h
    simp only [Lib.index]
    rw [if_neg (by simp [List.isPrefixOf, h.1]), index_none h.2]
    rfl
theorem index_hit {c : UInt8} : ∀ {l1 l2 : List UInt8}, c ∉ l1 → Lib.index (l1 ++ c :: l2) [c] = l1.length
  | [], l2, _ => by simp [Lib.index, List.isPrefixOf]
  | b :: r, l2, h => by
    simp only [List.mem_cons, not_or] at h
    simp only [List.cons_append, Lib.index]
    rw [if_neg (by simp [List.isPrefixOf, h.1]), index_hit h.2]
    rw [if_neg (by simp)]
    simp
theorem cut_none {c : UInt8} {l : List UInt8} (h : c ∉ l) : Lib.cut l [c] = (l, [], false) := by
  unfold Lib.cut
  rw [index_none h, if_neg (by omega)]
theorem cut_hit {c : UInt8} {l1 l2 : List UInt8} (h : c ∉ l1) : Lib.cut (l1 ++ c :: l2) [c] = (l1, l2, true) := by
  unfold Lib.cut
  rw [index_hit h, if_pos (by omega)]
  simp

/-! ### Lines of a journal -/
def recJ (c : Nat) : List (List UInt8) → List ByteArray × Nat
  | [] => ([], 0)
  | e :: more => if (Lib.cut e [32]).2.2 = true ∧ (Lib.cut e [32]).1 = Lib.decDigits (chkN c (mkB (Lib.cut e [32]).2.1)) then
      (mkB (Lib.cut e [32]).2.1 :: (recJ (chkN c (mkB (Lib.cut e [32]).2.1)) more).1, e.length + 1 + (recJ (chkN c (mkB (Lib.cut e [32]).2.1)) more).2)
    else ([], 0)
theorem recJ_no {c : Nat} {e : List UInt8} (more : List (List UInt8)) (h : (32 : UInt8) ∉ e) : recJ c (e :: more) = ([], 0) := by
  simp only [recJ]
  rw [cut_none h, if_neg (by simp)]
theorem recJ_bad {c : Nat} {w l : List UInt8} (more : List (List UInt8)) (h : (32 : UInt8) ∉ w) (hd : mkB w ≠ decS (chkN c (mkB l))) : recJ c ((w ++ 32 :: l) :: more) = ([], 0) := by
  simp only [recJ]
  rw [cut_hit h, if_neg]
  rintro ⟨_, h2⟩
  exact hd (congrArg mkB h2)
theorem recJ_good {c : Nat} {w l : List UInt8} (more : List (List UInt8)) (h : (32 : UInt8) ∉ w) (hd : mkB w = decS (chkN c (mkB l))) : recJ c ((w ++ 32 :: l) :: more) = (mkB l :: (recJ (chkN c (mkB l)) more).1, (w ++ 32 :: l).length + 1 + (recJ (chkN c (mkB l)) more).2) := by
  have hw : w = Lib.decDigits (chkN c (mkB l)) := by
    have := congrArg (fun s : ByteArray => s.data.toList) hd
    rw [mkB_list] at this
    rw [this]; simp [decS]
  simp only [recJ]
  rw [cut_hit h, if_pos ⟨rfl, hw⟩]
def linesL (l : List UInt8) : List (List UInt8) := (partsC 10 l).dropLast
theorem linesL_none {l : List UInt8} (h : (10 : UInt8) ∉ l) : linesL l = [] := by unfold linesL; rw [partsC_none h]; rfl
theorem linesL_hit {l1 l2 : List UInt8} (h : (10 : UInt8) ∉ l1) : linesL (l1 ++ 10 :: l2) = l1 :: linesL l2 := by
  unfold linesL
  rw [partsC_hit h]
  exact List.dropLast_cons_of_ne_nil (partsC_ne _ _)
def rjP (t : ByteArray) : List ByteArray × Nat := recJ 0 (linesL t.data.toList)
def rjOk (t : ByteArray) : Bool := decide (t.size ≤ 16000)
def rjR (t : ByteArray) : List ByteArray := if t.size ≤ 16000 then (rjP t).1 else []
def rjN (t : ByteArray) : Nat := if t.size ≤ 16000 then (rjP t).2 else 0
theorem recJ_cnt : ∀ (c : Nat) (L : List (List UInt8)), (recJ c L).1.length ≤ L.length
  | _, [] => by simp [recJ]
  | c, e :: more => by
    simp only [recJ]
    split
    · have := recJ_cnt (chkN c (mkB (Lib.cut e [32]).2.1)) more
      simp; omega
    · simp
theorem partsC_cnt (c : UInt8) : ∀ l : List UInt8, (partsC c l).length ≤ l.length + 1
  | [] => by simp [partsC]
  | b :: r => by
    have ih := partsC_cnt c r
    simp only [partsC]
    split
    · simp; omega
    · cases h : partsC c r with
      | nil => simp
      | cons x y => rw [h] at ih; simp at ih ⊢; omega
theorem rjR_cnt (t : ByteArray) : cntSs (rjR t) ≤ 16001 := by
  unfold rjR cntSs
  split
  · rename_i h
    have h1 := recJ_cnt 0 (linesL t.data.toList)
    have h2 := partsC_cnt 10 t.data.toList
    have h3 : t.data.toList.length = t.size := by rw [Array.length_toList]; rfl
    unfold rjP
    unfold linesL at h1 ⊢
    rw [List.length_dropLast] at h1
    omega
  · simp

/-- Append of one string to what the call owns; it may be nil. -/
theorem app_strs {w : World} {ops : Array Oper} {rest : List Oper} {o : Oper} {a : Act} {Q : Exit → Act → World → Prop} (hgd : o.guard = none) (s x : Operand)
    (ho : o.op = .call { callee := .builtin .append, args := #[s, x], argTypes := #[62, 62] })
    (base : Nat) (v : Value) (n : Nat) (xs : List ByteArray) (hs : a.eval s = v) (hown : w.ownsRow base 9 1 v n (xs.map SV))
    (sv : Value) (news : List ByteArray) (hx : a.eval x = sv) (hsv : Slc w sv (news.map SV)) (m : Nat) (ys : List ByteArray) (hm : m = n + news.length) (hys : ys = xs ++ news) (hlen : m ≤ 1099511627776) (hbase : base ≤ w.heap.size)
    (h : ∀ a' cap' w', w'.ownsRow base 9 1 (.slice a' m cap') m (ys.map SV) → Below base w w' → w.grownBy w' v.ownBlock → wpList Tryd.prog ops Q rest (a.put o.dst (.slice a' m cap')) w') :
    wpList Tryd.prog ops Q (o :: rest) a w := by
  obtain ⟨i0, hi, hz0, hz1, hz2⟩ := info_parts Tryd.infoStr
  subst hm hys
  refine wpList_append_slc hgd s x 62 ho base 9 i0 (.string ⟨#[]⟩) 16 Tryd.underlying62 hi hz0 hz1 hz2 rfl v n (xs.map SV) hs hown sv (news.map SV) hx hsv (by intro u hu; obtain ⟨x, _, rfl⟩ := List.mem_map.1 hu; rfl) (by simp [maxLen]; omega) (by simp; omega) hbase ?_
  intro v' w' h1 h2 h3
  have h1' : w'.ownsRow base 9 1 v' (n + news.length) ((xs ++ news).map SV) := by simpa using h1
  obtain ⟨a', cap', rfl⟩ := owns_shape h1'
  exact h a' cap' w' h1' (below_grown hown hbase h2) h2
theorem slcS_one (w : World) (s : ByteArray) (b : Nat) (hb : b = w.heap.size) : Slc (w.alloc (.cells #[.string s] 9)) (.slice (some ⟨b, 0, none⟩) 1 1) ([s].map SV) := by
  subst hb
  have h := World.ownsRow_lit (base := w.heap.size) (e := 9) (size := 1) w #[.string s] 1 (Nat.le_refl _) (by simp [maxLen]) rfl
  exact slc_of_owns h

end Go.Proofs.YtggpbekclegfoaaDoor

namespace Go.Proofs.YtggpbekclegfoaaDoor
open Go.RowKit

theorem pow_global : (Tryd.prog.globalNamed "internal/strconv.uint64pow10").isSome = true := by kernel_rfl
theorem HasPow.up {w w' : World} {B : Nat} (h : HasPow w) (hb : Below B w w') (hB : w.heap.size ≤ B) : HasPow w' := by
  obtain ⟨g, hg⟩ := Option.isSome_iff_exists.1 pow_global
  exact Go.Joins.tab_stays hg h hb hB

end Go.Proofs.YtggpbekclegfoaaDoor

namespace Go.Proofs.YtggpbekclegfoaaDoor
open Go.RowKit

def wordsN (xs : List Int) : List ByteArray := xs.map fun x => decS x.toNat
def listT (xs : List Int) : ByteArray := textS (wordsN xs)
theorem wordsN_len (xs : List Int) : (wordsN xs).length = xs.length := by simp [wordsN]
theorem wordsN_take (xs : List Int) (k : Nat) (h : k < xs.length) : wordsN (xs.take (k + 1)) = wordsN (xs.take k) ++ [decS (xs.getD k 0).toNat] := by
  unfold wordsN
  rw [List.take_add_one, List.map_append, List.getElem?_eq_getElem h, List.getD_eq_getElem?_getD, List.getElem?_eq_getElem h]
  rfl
theorem wordsN_at (xs : List Int) (k : Nat) (h : k < xs.length) : (wordsN xs).getD k E0 = decS (xs.getD k 0).toNat := by
  unfold wordsN
  rw [List.getD_eq_getElem?_getD, List.getD_eq_getElem?_getD, List.getElem?_map, List.getElem?_eq_getElem h]
  rfl
/-- Numbers that are written without a sign. -/
def Small (xs : List Int) : Prop := ∀ k, k < xs.length → 0 ≤ xs.getD k 0 ∧ xs.getD k 0 < 1000000000000000000
theorem wordsN_size {xs : List Int} (h : Small xs) : ∀ x ∈ wordsN xs, x.size ≤ 18 := by
  intro x hx
  obtain ⟨y, hy, rfl⟩ := List.mem_map.1 hx
  obtain ⟨k, hk, rfl⟩ := List.mem_iff_getElem.1 hy
  have := h k hk
  rw [List.getD_eq_getElem?_getD, List.getElem?_eq_getElem hk] at this
  exact decS_size (by simp only [Option.getD_some] at this; omega)

/-- Texts joined with commas. -/
theorem joined_any (v : Value) (ws : List ByteArray) (w : World) (h : RdSs w v ws) (hN : ∀ x ∈ ws, x.size ≤ 1000) (hl : ws.length ≤ 1000000) :
    Calls Tryd.prog 64 #[v] w fun e w' => e = .returned (.string (textS ws)) ∧ Below w.heap.size w w' := by
  obtain ⟨a, c, rfl⟩ := h.shape
  by_cases h0 : ws.length = 0
  · have hd : ((ws.length : Int) == 0) = true := by simp [h0]
    have he := Lib.hid (show textS ws = noneS by unfold textS; rw [show ws.isEmpty = true by rw [List.isEmpty_iff]; exact List.length_eq_zero_iff.1 h0]; rfl)
    clear h0 h
    go_enter Tryd.func64, Tryd.ntmps64
    go_wp2_with fail
    go_ret
    exact ⟨by rw [he.out]; rfl, Below.refl _ _⟩
  · have hd : ((ws.length : Int) == 0) = false := by rw [beq_eq_false_iff_ne]; omega
    obtain ⟨b, off, rfl, hbw, _⟩ := h.at (i := 0) (Nat.pos_of_ne_zero h0)
    have hcells : ∀ (j : Nat) x, ws[j]? = some x → w.cell? ⟨b, off + j, none⟩ = some (.string x) := by
      intro j x hj
      have hlt := (List.getElem?_eq_some_iff.1 hj).1
      obtain ⟨b', off', e, _, hc⟩ := h.at hlt
      simp only [Option.some.injEq, Addr.mk.injEq, and_true] at e
      obtain ⟨rfl, rfl⟩ := e
      rw [hc, List.getD_eq_getElem?_getD, hj]
      rfl
    have hcap : ws.length ≤ c := by
      rcases h.1 with ⟨e, _⟩ | ⟨ad, cap, e, h1, h2, _⟩
      · cases e
      · simp only [Value.slice.injEq, List.length_map] at e h1
        obtain ⟨_, _, rfl⟩ := e
        exact h1
    have hsz := joinBy_size 44 ws 1000 hN
    have hC := Tryd.strings_Join b off c ws ⟨#[44]⟩ w hcells hbw (by omega) hcap (by
      have e : (Lib.join (ws.map (·.data.toList)) (⟨#[44]⟩ : ByteArray).data.toList).length = (joinBy 44 ws).size := by simp [joinBy, ByteArray.size]
      rw [e]; omega)
    have he : (⟨(Lib.join (ws.map (·.data.toList)) (⟨#[44]⟩ : ByteArray).data.toList).toArray⟩ : ByteArray) = textS ws := by
      unfold textS
      rw [if_neg (by rw [List.isEmpty_iff]; intro e; rw [e] at h0; exact h0 rfl)]
      rfl
    rw [he] at hC
    have HC := Lib.hid hC
    clear hC he hcells h0 h
    go_enter Tryd.func64, Tryd.ntmps64
    go_wp2_with (go_at_call 38; refine HC.out.mono ?_; rintro e w' ⟨rfl, hb⟩)
    go_ret
    exact ⟨rfl, hb⟩

set_option maxHeartbeats 1000000 in
theorem listTextI_any (v : Value) (xs : List Int) (w : World) (h : RdI w v xs) (hs : Small xs) (hl : xs.length ≤ 1000000) (hp : HasPow w) :
    Calls Tryd.prog 54 #[v] w fun e w' => e = .returned (.string (listT xs)) ∧ Below w.heap.size w w' := by
  obtain ⟨a, c, rfl⟩ := h.shape
  have HR := Lib.hid h
  have HS := Lib.hid hs
  have HPW := Lib.hid hp
  clear h hs hp
  go_enter Tryd.func54, Tryd.ntmps54
  go_wp2_with fail
  go_loopw [3, 8] (fun ov iv wr => ∃ (k : Nat) (b : Option Addr) (cc : Nat), iv = .int .i64 k ∧ k ≤ xs.length ∧ ov = .slice b k cc ∧ Hid (wr.ownsRow w.heap.size 9 1 (.slice b k cc) k ((wordsN (xs.take k)).map SV)) ∧ Hid (Below w.heap.size w wr)) (fun _ iv _ => xs.length + 1 - (intOf iv).toNat)
  case atStart => exact ⟨0, none, 0, rfl, Nat.zero_le _, rfl, Lib.hid (World.ownsRow_nil _ _ _ _), Lib.hid (Below.refl _ _)⟩
  case round =>
    obtain ⟨k, b, cc, rfl, hk, rfl, HO, HB⟩ := hrel
    obtain ⟨wo, rfl⟩ : ∃ wo, wo = wr := ⟨wr, rfl⟩
    have hsz := HB.out.size
    by_cases hlt : k < xs.length
    · have hlt' : (k : Int) < xs.length := by omega
      obtain ⟨xb, xo, rfl, _, hx⟩ := (HR.out.up HB.out (Nat.le_refl _)).at hlt
      have hsm := HS.out k hlt
      have HE := Lib.hid (wordsN_take xs k hlt)
      obtain ⟨x, hxe⟩ : ∃ x, x = xs.getD k 0 := ⟨_, rfl⟩
      rw [← hxe] at hx hsm HE
      clear hxe
      obtain ⟨n, rfl⟩ : ∃ n : Nat, x = (n : Int) := ⟨x.toNat, by omega⟩
      have HE2 := Lib.hid (show wordsN (xs.take (k + 1)) = wordsN (xs.take k) ++ [decS n] from HE.out)
      have HD := Lib.hid (Decimal_any n (by omega) wo (HPW.out.up HB.out (Nat.le_refl _)))
      clear HE hsm
      go_wp2_with (first
        | (go_at_call 36; refine HD.out.mono ?_; rintro e w1 ⟨rfl, hb1⟩; have HO1 := Lib.hid (owns_below HO.out hb1 (Nat.le_refl _)); have hsz1 := hb1.size)
        | (at_builtin; refine app_strs rfl _ _ rfl w.heap.size (.slice b k cc) k (wordsN (xs.take k)) rfl (HO1.out.alloc _) _ [decS n] rfl (slcS_one w1 (decS n) _ rfl) (k + 1) (wordsN (xs.take (k + 1))) (by simp) HE2.out (by omega) (by simp; omega) ?_; intro b3 c3 w3 hown3 hbl3 _)
        | fail)
      go_roundw
      case rel => exact ⟨k + 1, b3, c3, by go_num, by omega, rfl, Lib.hid hown3, Lib.hid (HB.out.trans ((hb1.mono hsz).trans (((Below.refl _ _).alloc (by omega) _).trans hbl3)))⟩
      case measure => simp [intOf]; omega
    · obtain rfl : k = xs.length := by omega
      have hwl := wordsN_len xs
      have hws := wordsN_size HS.out
      have hrd : RdSs wo (.slice b xs.length cc) (wordsN xs) := ⟨by have := slc_of_owns HO.out; rw [List.take_length] at this; exact this, fun s hs => by have := hws s hs; simp [maxLen]; omega⟩
      have HJ := Lib.hid (joined_any _ (wordsN xs) wo hrd (fun x hx => by have := hws x hx; omega) (by omega))
      clear hwl hws hrd
      go_wp2_with (go_at_call 64; refine HJ.out.mono ?_; rintro e w1 ⟨rfl, hb1⟩)
      go_ret
      exact ⟨rfl, HB.out.trans (hb1.mono hsz)⟩

end Go.Proofs.YtggpbekclegfoaaDoor

namespace Go.Proofs.YtggpbekclegfoaaDoor
open Go.RowKit

end Go.Proofs.YtggpbekclegfoaaDoor

namespace Go.Proofs.YtggpbekclegfoaaDoor
open Go.RowKit

theorem gtake_ne {α : Type} {d : α} {xs ys : List α} {k : Nat} (h : xs.getD k d ≠ ys.getD k d) : xs ≠ ys := by
  rintro rfl; exact h rfl
theorem gtake_succ {α : Type} {d : α} {xs ys : List α} {k : Nat} (hx : k < xs.length) (hy : k < ys.length) (h : xs.take k = ys.take k) (h2 : xs.getD k d = ys.getD k d) : xs.take (k + 1) = ys.take (k + 1) := by
  rw [List.take_succ_eq_append_getElem hx, List.take_succ_eq_append_getElem hy, h]
  simp [hx, hy] at h2
  rw [h2]

theorem RdL.drewN {w : World} {v : Value} {zss : List (List Int)} (h : RdL w v zss) (n : Nat) : RdL (w.drewN n) v zss := by
  obtain ⟨vs, h1, h2⟩ := h
  exact ⟨vs, h1.drewN n, h2.1, fun i u zs a b => (h2.2 i u zs a b).drewN n⟩

end Go.Proofs.YtggpbekclegfoaaDoor

namespace Go.Proofs.YtggpbekclegfoaaDoor
open Go.RowKit

def eqBy {α : Type} (f : α → α → Bool) : List α → List α → Bool
  | [], [] => true
  | x :: xs, y :: ys => f x y && eqBy f xs ys
  | _, _ => false
theorem eqBy_len {α : Type} (f : α → α → Bool) : ∀ (a b : List α), a.length ≠ b.length → eqBy f a b = false
  | [], [], h => by simp at h
  | [], y :: ys, _ => rfl
  | x :: xs, [], _ => rfl
  | x :: xs, y :: ys, h => by simp only [eqBy, eqBy_len f xs ys (by simpa using h), Bool.and_false]
theorem eqBy_ne {α : Type} (f : α → α → Bool) (d : α) : ∀ (a b : List α) (k : Nat), k < a.length → k < b.length → f (a.getD k d) (b.getD k d) = false → eqBy f a b = false
  | [], b, k, h, _, _ => by simp at h
  | x :: xs, [], k, _, h, _ => by simp at h
  | x :: xs, y :: ys, 0, _, _, h => by simp only [List.getD_cons_zero] at h; simp only [eqBy, h, Bool.false_and]
  | x :: xs, y :: ys, k + 1, h1, h2, h => by
    simp only [List.getD_cons_succ] at h
    simp only [eqBy, eqBy_ne f d xs ys k (by simpa using h1) (by simpa using h2) h, Bool.and_false]
theorem eqBy_all {α : Type} (f : α → α → Bool) (d : α) : ∀ (a b : List α), a.length = b.length → (∀ k, k < a.length → f (a.getD k d) (b.getD k d) = true) → eqBy f a b = true
  | [], [], _, _ => rfl
  | [], y :: ys, h, _ => by simp at h
  | x :: xs, [], h, _ => by simp at h
  | x :: xs, y :: ys, h, h2 => by
    have h0 := h2 0 (by simp)
    simp only [List.getD_cons_zero] at h0
    simp only [eqBy, h0, Bool.true_and]
    exact eqBy_all f d xs ys (by simpa using h) fun k hk => by have := h2 (k + 1) (by simpa using hk); simpa using this

def sameC (x y : CaseD) : Bool := (decide (x.name = y.name) && (decide (x.form.letters = y.form.letters) && decide (x.form.clauses = y.form.clauses))) && decide (x.proof = y.proof)
def sameCL : List CaseD → List CaseD → Bool := eqBy sameC

end Go.Proofs.YtggpbekclegfoaaDoor

namespace Go.Proofs.YtggpbekclegfoaaDoor
open Go.RowKit

def F32 (b : Nat) : Value := .float .f32 b
def nan32 (x : Nat) : Bool := (Ieee.single.read x).isNaN
def fin32 (x : Nat) : Bool := match Ieee.single.read x with
  | .number .. => true
  | _ => false

theorem order_self (f : Ieee.Format) (x : Nat) (h : (f.read x).isNaN = false) : f.order x x = some .eq := by
  unfold Ieee.Format.order
  cases hr : f.read x with
  | nan a b => rw [hr] at h; simp [Ieee.Datum.isNaN] at h
  | infinity s => simp [Ieee.Datum.order]
  | number s m e => simp [Ieee.Datum.order]
theorem order_nanL (f : Ieee.Format) (x y : Nat) (h : (f.read x).isNaN = true) : f.order x y = none := by
  unfold Ieee.Format.order
  cases hr : f.read x with
  | nan a b => simp [Ieee.Datum.order]
  | infinity s => rw [hr] at h; simp [Ieee.Datum.isNaN] at h
  | number s m e => rw [hr] at h; simp [Ieee.Datum.isNaN] at h
theorem order_nanR (f : Ieee.Format) (x y : Nat) (h : (f.read y).isNaN = true) : f.order x y = none := by
  unfold Ieee.Format.order
  cases hr : f.read y with
  | nan a b => cases f.read x <;> simp [Ieee.Datum.order]
  | infinity s => rw [hr] at h; simp [Ieee.Datum.isNaN] at h
  | number s m e => rw [hr] at h; simp [Ieee.Datum.isNaN] at h

theorem sub_fin {x : Nat} (h : fin32 x = true) : Ieee.single.sub x x = some 0 := by
  unfold fin32 at h
  unfold Ieee.Format.sub
  cases hr : Ieee.single.read x with
  | nan a b => rw [hr] at h; simp at h
  | infinity s => rw [hr] at h; simp at h
  | number s m e =>
    have ht : Ieee.signed s m 0 + Ieee.signed (!s) m 0 = 0 := by cases s <;> simp [Ieee.signed] <;> omega
    simp only [Ieee.Datum.opposite, Ieee.Datum.sum, Option.map_some, Int.min_self, Int.sub_self, Int.toNat_zero, ht, if_true, Int.natAbs_zero]
    cases s <;> simp [Ieee.Format.write, Ieee.Format.nearest, Ieee.Format.word]
theorem sub_not {x : Nat} (h : fin32 x = false) : Ieee.single.sub x x = none := by
  unfold fin32 at h
  unfold Ieee.Format.sub
  cases hr : Ieee.single.read x with
  | nan a b => simp [Ieee.Datum.opposite, Ieee.Datum.sum]
  | infinity s => cases s <;> simp [Ieee.Datum.opposite, Ieee.Datum.sum]
  | number s m e => rw [hr] at h; simp at h

/-- The bits of a NaN that the tape names. -/
def tape32 (q : Question) (w : World) : Nat := q.cut (w.tape w.drawn q)
theorem nan_cut32 (t : Nat) : (Ieee.single.read ((t % 2) * 2 ^ 31 + 0x7f800000 + 1 + (t / 2) % (2 ^ 23 - 1))).isNaN = true := by
  have h1 : t % 2 < 2 := Nat.mod_lt _ (by decide)
  have h2 : (t / 2) % (2 ^ 23 - 1) < 2 ^ 23 - 1 := Nat.mod_lt _ (by decide)
  generalize t % 2 = s at h1 ⊢
  generalize (t / 2) % (2 ^ 23 - 1) = r at h2 ⊢
  have e : (s * 2 ^ 31 + 0x7f800000 + 1 + r) % 2147483648 = 0x7f800000 + 1 + r := by omega
  unfold Ieee.Format.read
  have c1 : Ieee.single.signWeight = 2147483648 := rfl
  have c2 : Ieee.single.binade = 8388608 := rfl
  have c3 : Ieee.single.infRung = 2139095040 := rfl
  simp only [c1, c2, c3, e]
  rw [if_neg (by omega), if_neg (by omega), if_neg (by omega)]
  rfl
theorem nan_cut64 (t : Nat) : (Ieee.double.read ((t % 2) * 2 ^ 63 + 0x7ff0000000000000 + 1 + (t / 2) % (2 ^ 52 - 1))).isNaN = true := by
  have h1 : t % 2 < 2 := Nat.mod_lt _ (by decide)
  have h2 : (t / 2) % (2 ^ 52 - 1) < 2 ^ 52 - 1 := Nat.mod_lt _ (by decide)
  generalize t % 2 = s at h1 ⊢
  generalize (t / 2) % (2 ^ 52 - 1) = r at h2 ⊢
  have e : (s * 2 ^ 63 + 0x7ff0000000000000 + 1 + r) % 9223372036854775808 = 0x7ff0000000000000 + 1 + r := by omega
  unfold Ieee.Format.read
  have c1 : Ieee.double.signWeight = 9223372036854775808 := rfl
  have c2 : Ieee.double.binade = 4503599627370496 := rfl
  have c3 : Ieee.double.infRung = 9218868437227405312 := rfl
  simp only [c1, c2, c3, e]
  rw [if_neg (by omega), if_neg (by omega), if_neg (by omega)]
  rfl

/-- A difference that is no number: a NaN that the tape names. -/
theorem run_sub_none {P : Program} (t : TypeId) (x y : Nat) (h : Ieee.single.sub x y = none) (w : World) :
    (binOp .sub t (.float .f32 x) (.float .f32 y)).run P w = .ok (.float .f32 (tape32 (.nanBits .f32 x y) w)) w.drew := by
  have h' : FloatKind.f32.format.sub x y = none := h
  simp [binOp, Op.floatArith, h', tape32, Question.forced, Result.andThen]
theorem tape32_nan (x y : Nat) (w : World) : (Ieee.single.read (tape32 (.nanBits .f32 x y) w)).isNaN = true := by
  unfold tape32
  exact nan_cut32 _
theorem run_sub_some {P : Program} (t : TypeId) (x y r : Nat) (h : Ieee.single.sub x y = some r) (w : World) :
    (binOp .sub t (.float .f32 x) (.float .f32 y)).run P w = .ok (.float .f32 r) w := run_float_arith w .sub t .f32 x y r h

end Go.Proofs.YtggpbekclegfoaaDoor

namespace Go.Proofs.YtggpbekclegfoaaDoor
open Go.RowKit

def RdF (w : World) (v : Value) (xs : List Nat) : Prop := Slc w v (xs.map F32)
def OwnF (lo hi : Nat) (w : World) (v : Value) (xs : List Nat) : Prop := w.ownsRow lo 83 1 v xs.length (xs.map F32) ∧ ∀ g, v.ownBlock = some g → g < hi
def bulkF (xs : List Nat) : Nat := xs.length

theorem RdF.shape {w : World} {v : Value} {xs : List Nat} (h : RdF w v xs) : ∃ a c, v = .slice a xs.length c := by
  obtain ⟨a, c, e⟩ := Slc.shape h; exact ⟨a, c, by simpa using e⟩
theorem RdF.up {w w' : World} {v : Value} {xs : List Nat} {B : Nat} (h : RdF w v xs) (hb : Below B w w') (hB : w.heap.size ≤ B) : RdF w' v xs := Slc.below h hb hB
theorem RdF.at {w : World} {a : Option Addr} {n c : Nat} {xs : List Nat} (h : RdF w (.slice a n c) xs) {i : Nat} (hi : i < xs.length) :
    ∃ b off, a = some ⟨b, off, none⟩ ∧ b < w.heap.size ∧ w.cell? ⟨b, off + i, none⟩ = some (.float .f32 (xs.getD i 0)) := Slc.at h (by simp [F32, hi])
theorem RdF.len {w : World} {v : Value} {xs : List Nat} (h : RdF w v xs) : xs.length ≤ maxLen := by simpa using Slc.len h
theorem RdF.drewN {w : World} {v : Value} {xs : List Nat} (h : RdF w v xs) (n : Nat) : RdF (w.drewN n) v xs := Slc.drewN h n
theorem OwnF.rd {lo hi : Nat} {w : World} {v : Value} {xs : List Nat} (h : OwnF lo hi w v xs) : RdF w v xs := slc_of_owns h.1
theorem OwnF.up {lo hi : Nat} {w w' : World} {v : Value} {xs : List Nat} {B : Nat} (h : OwnF lo hi w v xs) (hb : Below B w w') (hB : w.heap.size ≤ B) : OwnF lo hi w' v xs := ⟨owns_below h.1 hb hB, h.2⟩
theorem OwnF.wide {lo hi lo' hi' : Nat} {w : World} {v : Value} {xs : List Nat} (h : OwnF lo hi w v xs) (h1 : lo' ≤ lo) (h2 : hi ≤ hi') : OwnF lo' hi' w v xs := ⟨owns_base h.1 h1, fun g hg => Nat.lt_of_lt_of_le (h.2 g hg) h2⟩
theorem OwnF.kept {lo hi : Nat} {w w' : World} {v : Value} {xs : List Nat} {S : Nat → Prop} (h : OwnF lo hi w v xs) (hk : Kept S w w') (hs : ∀ b, lo ≤ b → b < hi → ¬ S b) : OwnF lo hi w' v xs :=
  ⟨owns_kept h.1 hk fun g hg => hs g (owns_lt h.1 hg).1 (h.2 g hg), h.2⟩
theorem OwnF.mk {lo : Nat} {w : World} {v : Value} {n : Nat} {xs : List Nat} (h : w.ownsRow lo 83 1 v n (xs.map F32)) : OwnF lo w.heap.size w v xs := by
  obtain rfl : xs.length = n := by simpa using owns_len h
  exact ⟨h, fun g hg => (owns_lt h hg).2⟩

set_option maxHeartbeats 400000 in
theorem szF_any (v : Value) (xs : List Nat) (left : Int) (w : World) (h : RdF w v xs) (h1 : left ≤ 1048576) (h0 : 0 ≤ left) :
    Calls Tryd.prog 31 #[v, .int .i64 left] w fun e w' => ∃ r : Int, e = .returned (.int .i64 r) ∧ -1 ≤ r ∧ r ≤ left ∧ (0 ≤ r → (bulkF xs : Int) ≤ left - r) ∧ Below w.heap.size w w' := by
  obtain ⟨a, c, rfl⟩ := h.shape
  have hn := h.len
  unfold maxLen at hn
  unfold bulkF
  have HB : Hid (Below w.heap.size w w) := Below.refl _ _
  clear h
  by_cases h : left - xs.length < 0
  · go_enter Tryd.func31, Tryd.ntmps31
    go_wp2
    go_ret
    exact ⟨-1, rfl, by omega, by omega, by omega, HB.out⟩
  · go_enter Tryd.func31, Tryd.ntmps31
    go_wp2
    go_ret
    exact ⟨_, rfl, by omega, by omega, by omega, HB.out⟩

theorem Tryd.infoF32 : (Tryd.prog.info? 83).map (fun i => (i.zero, i.size, i.bytes)) = some (some (.float .f32 0), 1, 4) := by kernel_rfl

theorem fill_f {xs : List Nat} {k : Nat} {x : Nat} (hk : k < xs.length) (hx : x = xs.getD k 0) :
    ((xs.take k ++ List.replicate (xs.length - k) 0).map F32).set k (.float .f32 x) = (xs.take (k + 1) ++ List.replicate (xs.length - (k + 1)) 0).map F32 := by
  subst hx
  have e : List.replicate (xs.length - k) (0 : Nat) = 0 :: List.replicate (xs.length - (k + 1)) 0 := by
    rw [show xs.length - k = (xs.length - (k + 1)) + 1 by omega, List.replicate_succ]
  rw [e, List.take_succ_eq_append_getElem hk, List.map_append, List.map_cons, set_mid _ _ _ _ _ (by simp; omega), List.map_append, List.map_append, List.append_assoc, show xs.getD k 0 = xs[k] from by simp [hk]]
  rfl

@[go_sem] theorem run_store_float (P : Program) (w : World) (a : Addr) (m : Mode) (k : FloatKind) (n : Nat) : (store a (.float k n) m).run P w = stored P w a (.float k n) m := run_store P w a _ m rfl

set_option maxHeartbeats 400000 in
theorem toF_any (v : Value) (xs : List Nat) (w : World) (h : RdF w v xs) (hb : bulkF xs ≤ 1048576) :
    Calls Tryd.prog 34 #[v] w fun e w' => ∃ v', e = .returned v' ∧ OwnF w.heap.size w'.heap.size w' v' xs ∧ Below w.heap.size w w' := by
  obtain ⟨i0, hi, hz0, hz1, hz2⟩ := info_parts Tryd.infoF32
  obtain ⟨a, cap, rfl⟩ := h.shape
  unfold bulkF at hb
  have HS := Lib.hid h
  clear h
  go_enter Tryd.func34, Tryd.ntmps34
  go_wp2_with (at_make; refine wpList_make_full _ rfl _ _ 30 rfl w.heap.size 83 i0 (.float .f32 0) 1 Tryd.underlying30 hi hz0 hz1 .i64 .i64 xs.length xs.length xs.length rfl rfl rfl rfl (by rw [hz2]; omega) (by unfold maxLen; omega) (by simp) ?_; intro w1 hown hgrow)
  have hb1 : Below w.heap.size w w1 := (Below.refl _ _).grown hgrow (Nat.le_refl _) (by intro k hk; cases hk)
  have hz : (madeCells (Value.float .f32 0).cells (xs.length * 1)).toList = (List.replicate xs.length (0 : Nat)).map F32 := by
    simpa [Value.cells, F32] using toList_madeCells_one (Value.float .f32 0) xs.length
  rw [hz] at hown
  have HO := Lib.hid hown
  have HB := Lib.hid hb1
  clear hown hb1 hz hgrow
  go_loopw [4] (fun i wr => ∃ k : Nat, i = .int .i64 k ∧ k ≤ xs.length ∧ wr.ownsRow w.heap.size 83 1 (.slice (some ⟨w.heap.size, 0, none⟩) xs.length xs.length) xs.length ((xs.take k ++ List.replicate (xs.length - k) 0).map F32) ∧ Below w.heap.size w wr) (fun i _ => xs.length - (intOf i).toNat)
  case atStart => exact ⟨0, rfl, Nat.zero_le _, by simpa using HO.out, HB.out⟩
  case round =>
    obtain ⟨k, rfl, hk, hown, hbel⟩ := hrel
    have HO1 := Lib.hid hown
    have HB1 := Lib.hid hbel
    clear hown hbel
    by_cases hlt : k < xs.length
    · obtain ⟨b, off, rfl, hb0, hc⟩ := (HS.out.up HB1.out (Nat.le_refl _)).at hlt
      have hd := HO1.out.cellAt k (by omega)
      have hfr := HO1.out.frozenAt k
      have hdl : ((xs.take k ++ List.replicate (xs.length - k) 0).map F32)[k]? = some (.float .f32 0) := by
        rw [List.getElem?_map, List.getElem?_append_right (by simp; omega)]
        simp [F32, List.getElem?_replicate]
        omega
      rw [hdl] at hd
      obtain ⟨x, hx⟩ : ∃ x, x = xs.getD k 0 := ⟨_, rfl⟩
      rw [← hx] at hc
      have HX := Lib.hid hx
      clear hx hdl
      go_wp2_with fail
      go_roundw
      case rel =>
        refine ⟨k + 1, by go_num, by omega, ?_, HB1.out.setCell (Nat.le_refl _) _⟩
        have h1 := (HO1.out.stored k (.float .f32 x)).1
        rw [fill_f hlt HX.out] at h1
        exact h1
      case measure => simp [intOf]; omega
    · obtain rfl : k = xs.length := by omega
      go_wp2_with fail
      go_ret
      exact ⟨_, rfl, OwnF.mk (by simpa using HO1.out), HB1.out⟩

/-! ### The same number -/

theorem zero_div {r : Nat} (h : Ieee.double.order r 0 = some .eq) : ∃ q, Ieee.double.div 4607182418800017408 r = some q := by
  have e1 : Ieee.double.read 4607182418800017408 = .number false 4503599627370496 (-52) := by decide +kernel
  have e0 : Ieee.double.read 0 = .number false 0 (-1074) := by decide +kernel
  unfold Ieee.Format.order at h
  unfold Ieee.Format.div
  rw [e1]
  rw [e0] at h
  cases hr : Ieee.double.read r with
  | nan a b => rw [hr] at h; simp [Ieee.Datum.order] at h
  | infinity s => rw [hr] at h; cases s <;> simp [Ieee.Datum.order] at h
  | number s m e =>
    by_cases hm : m = 0
    · subst hm; simp [Ieee.Datum.quotient]
    · simp [Ieee.Datum.quotient, hm]

set_option maxHeartbeats 1000000 in
theorem sameFloat_self (r : Nat) (hn : (Ieee.double.read r).isNaN = false) (w : World) :
    Calls Tryd.prog 68 #[.float .f64 r, .float .f64 r] w fun e w' => e = .returned (.bool true) ∧ w = w' := by
  have ho : (FloatKind.f64.format.order r r != some .eq) = false := by simp [show FloatKind.f64.format.order r r = some .eq from order_self _ _ hn]
  have ho2 : (FloatKind.f64.format.order r r == some .eq) = true := by simp [show FloatKind.f64.format.order r r = some .eq from order_self _ _ hn]
  by_cases hz : Ieee.double.order r 0 = some .eq
  · obtain ⟨q, hq⟩ := zero_div hz
    have hq2 := fun (W : World) => run_float_arith (P := Tryd.prog) W .quo 100 .f64 4607182418800017408 r q hq
    have hz1 : (FloatKind.f64.format.order r 0 == some .eq) = true := by simp [show FloatKind.f64.format.order r 0 = some .eq from hz]
    clear hz hq
    go_enter Tryd.func68, Tryd.ntmps68
    go_wp2_with fail
    go_ret
    exact ⟨by simp, rfl⟩
  · have hz1 : (FloatKind.f64.format.order r 0 == some .eq) = false := by simp [show ¬ FloatKind.f64.format.order r 0 = some .eq from hz]
    clear hz
    go_enter Tryd.func68, Tryd.ntmps68
    go_wp2_with fail
    go_ret
    exact ⟨rfl, rfl⟩

set_option maxHeartbeats 1000000 in
theorem sameFloat_nan (a b : Nat) (ha : (Ieee.double.read a).isNaN = true) (hb : (Ieee.double.read b).isNaN = true) (w : World) :
    Calls Tryd.prog 68 #[.float .f64 a, .float .f64 b] w fun e w' => e = .returned (.bool true) ∧ w = w' := by
  have h1 : (FloatKind.f64.format.order a a != some .eq) = true := by simp [show FloatKind.f64.format.order a a = none from order_nanL _ _ _ ha]
  have h2 : (FloatKind.f64.format.order b b != some .eq) = true := by simp [show FloatKind.f64.format.order b b = none from order_nanL _ _ _ hb]
  go_enter Tryd.func68, Tryd.ntmps68
  go_wp2_with fail
  go_ret
  exact ⟨rfl, rfl⟩

end Go.Proofs.YtggpbekclegfoaaDoor

namespace Go.Proofs.YtggpbekclegfoaaDoor
open Go.RowKit

theorem read32_bound {b m : Nat} {s : Bool} {e : Int} (h : Ieee.single.read b = .number s m e) : m < 16777216 ∧ -149 ≤ e ∧ e ≤ 104 := by
  unfold Ieee.Format.read at h
  have c1 : Ieee.single.signWeight = 2147483648 := rfl
  have c2 : Ieee.single.binade = 8388608 := rfl
  have c3 : Ieee.single.infRung = 2139095040 := rfl
  have c4 : Ieee.single.leastPlace = -149 := by decide +kernel
  simp only [c1, c2, c3, c4] at h
  split at h
  · simp only [Ieee.Datum.number.injEq] at h
    obtain ⟨_, rfl, rfl⟩ := h
    omega
  · split at h
    · simp only [Ieee.Datum.number.injEq] at h
      obtain ⟨_, rfl, rfl⟩ := h
      omega
    · split at h <;> simp at h

theorem read_word64 (s : Bool) (r : Nat) (h : r < 9218868437227405312) : (Ieee.double.read (Ieee.double.word s r)).isNaN = false ∧ (Ieee.double.read (Ieee.double.word s r)).isInfinity = false := by
  have c1 : Ieee.double.signWeight = 9223372036854775808 := rfl
  have c2 : Ieee.double.binade = 4503599627370496 := rfl
  have c3 : Ieee.double.infRung = 9218868437227405312 := rfl
  have e : (Ieee.double.word s r) % 9223372036854775808 = r := by
    unfold Ieee.Format.word
    rw [c1]
    cases s <;> simp <;> omega
  unfold Ieee.Format.read
  simp only [c1, c2, c3, e]
  split
  · exact ⟨rfl, rfl⟩
  · first
    | exact ⟨rfl, rfl⟩
    | (rw [if_pos h]; exact ⟨rfl, rfl⟩)

theorem near_aux (Q K : Nat) (hQ : Q ≤ 1149) (hK : K < 9007199254740992) : min (Q * 4503599627370496 + K) 9218868437227405312 < 9218868437227405312 := by
  have : Q * 4503599627370496 ≤ 1149 * 4503599627370496 := Nat.mul_le_mul_right _ hQ
  omega
theorem nearest64 (s : Bool) {m : Nat} {e : Int} (hm : m < 16777216) (h1 : -149 ≤ e) (h2 : e ≤ 104) : ∃ r, r < 9218868437227405312 ∧ Ieee.double.nearest s m e = Ieee.double.word s r := by
  unfold Ieee.Format.nearest
  by_cases h0 : m = 0
  · rw [if_pos h0]; exact ⟨0, by decide, rfl⟩
  · rw [if_neg h0]
    have hl : m.log2 ≤ 23 := by
      have : m.log2 < 24 := (Nat.log2_lt h0).2 (by omega)
      omega
    have hlt : m < 2 ^ (m.log2 + 1) := Nat.lt_log2_self
    have c4 : Ieee.double.leastPlace = -1074 := by decide +kernel
    have c2 : Ieee.double.binade = 4503599627370496 := rfl
    have c3 : Ieee.double.infRung = 9218868437227405312 := rfl
    have c5 : Ieee.double.fractionBits = 52 := rfl
    have hlast : max (e + (m.log2 : Int) - (52 : Nat)) (-1074) = e + m.log2 - 52 := by omega
    simp only [c4, c2, c3, c5, hlast]
    have ha : (e - (e + (m.log2 : Int) - 52)).toNat = 52 - m.log2 := by omega
    have hb : (e + (m.log2 : Int) - 52 - e).toNat = 0 := by omega
    rw [ha, hb]
    have hk : m <<< (52 - m.log2) < 9007199254740992 := by
      rw [Nat.shiftLeft_eq]
      have : m * 2 ^ (52 - m.log2) < 2 ^ (m.log2 + 1) * 2 ^ (52 - m.log2) := Nat.mul_lt_mul_of_pos_right hlt (Nat.two_pow_pos _)
      rw [← Nat.pow_add, show m.log2 + 1 + (52 - m.log2) = 53 by omega] at this
      exact this
    generalize m <<< (52 - m.log2) = K at hk
    have hcut : Ieee.Toward.even.cut s K 0 = K := by
      unfold Ieee.Toward.cut
      simp [Nat.mod_one]
    rw [hcut]
    have hQ : (e + (m.log2 : Int) - 52 - -1074).toNat ≤ 1149 := by omega
    exact ⟨_, near_aux _ _ hQ hk, rfl⟩

/-- What is no NaN has a place among the doubles, and is no NaN there. -/
theorem conv64 {b : Nat} (h : nan32 b = false) : ∃ r, floatToFloatBits .f32 b .f64 = some r ∧ (Ieee.double.read r).isNaN = false := by
  unfold nan32 at h
  unfold floatToFloatBits
  rw [if_neg (by decide)]
  have e : FloatKind.f32.decode b = Ieee.single.read b := rfl
  rw [e]
  cases hr : Ieee.single.read b with
  | nan x y => rw [hr] at h; simp [Ieee.Datum.isNaN] at h
  | infinity s =>
    refine ⟨_, rfl, ?_⟩
    cases s <;> decide +kernel
  | number s m e =>
    obtain ⟨a1, a2, a3⟩ := read32_bound hr
    obtain ⟨r, b1, b2⟩ := nearest64 s a1 a2 a3
    have b3 : FloatKind.f64.encode (.number s m e) = Ieee.double.word s r := b2
    have b4 := read_word64 s r b1
    simp only [b3]
    rw [if_neg (by rw [show FloatKind.f64.decode (Ieee.double.word s r) = Ieee.double.read (Ieee.double.word s r) from rfl, b4.2]; simp)]
    exact ⟨_, rfl, b4.1⟩

/-- The bits of a double that the tape names. -/
def tape64 (q : Question) (w : World) : Nat := q.cut (w.tape w.drawn q)
theorem tape64_nan (b : Nat) (w : World) : (Ieee.double.read (tape64 (.nanConv .f64 b) w)).isNaN = true := by
  unfold tape64
  exact nan_cut64 _
theorem run_conv_nan {P : Program} (src dst : TypeId) (b : Nat) (hs : (P.underlying src).isSome = true) (hd : P.underlying dst = some (.float .f64)) (h : nan32 b = true) (w : World) :
    (convert src dst (.float .f32 b)).run P w = .ok (.float .f64 (tape64 (.nanConv .f64 b) w)) w.drew := by
  unfold nan32 at h
  obtain ⟨u, hs'⟩ := Option.isSome_iff_exists.1 hs
  have e : FloatKind.f32.decode b = Ieee.single.read b := rfl
  cases hr : Ieee.single.read b with
  | nan x y => cases u <;> simp [convert, run_underlying hs', run_underlying hd, Conv.floatToFloat, e, hr, Question.forced, tape64, Result.andThen]
  | infinity s => rw [hr] at h; simp [Ieee.Datum.isNaN] at h
  | number s m e => rw [hr] at h; simp [Ieee.Datum.isNaN] at h

theorem Tryd.und32 : Tryd.prog.underlying 83 = some (.float .f32) := Tryd.underlying83
theorem Tryd.und64 : Tryd.prog.underlying 100 = some (.float .f64) := Tryd.underlying100

theorem drew_ex {w W : World} (h : ∃ m, W = w.drewN m) : ∃ m, W.drew = w.drewN m := by obtain ⟨m, rfl⟩ := h; exact ⟨m + 1, rfl⟩
theorem drewN_ex {w W : World} (h : ∃ m, W = w.drewN m) (n : Nat) : ∃ m, W.drewN n = w.drewN m := by obtain ⟨m, rfl⟩ := h; exact ⟨m + n, World.drewN_drewN _ _ _⟩
set_option maxHeartbeats 1000000 in
theorem eqF_q (v v' : Value) (xs : List Nat) (w : World) (h : RdF w v xs) (h' : RdF w v' xs) :
    Calls Tryd.prog 39 #[v, v'] w fun e w' => e = .returned (.bool true) ∧ ∃ m, w' = w.drewN m := by
  obtain ⟨a, c, rfl⟩ := h.shape
  obtain ⟨a', c', rfl⟩ := h'.shape
  have hl := h.len
  unfold maxLen at hl
  have HS := Lib.hid h
  have HS' := Lib.hid h'
  have hne : ((xs.length : Int) != (xs.length : Int)) = false := by simp
  clear h h'
  go_enter Tryd.func39, Tryd.ntmps39
  go_wp2_with fail
  go_loopw [5] (fun i wr => ∃ k : Nat, i = .int .i64 k ∧ k ≤ xs.length ∧ Hid (∃ n, wr = w.drewN n)) (fun i _ => xs.length - (intOf i).toNat)
  case atStart => exact ⟨0, rfl, Nat.zero_le _, 0, rfl⟩
  case round =>
    obtain ⟨k, rfl, hk, hdr⟩ := hrel
    by_cases hlt : k < xs.length
    · obtain ⟨b, off, rfl, hbk, hc⟩ := (show RdF wr _ xs by obtain ⟨n, rfl⟩ := hdr.out; exact HS.out.drewN n).at hlt
      obtain ⟨b', off', rfl, hbk', hc'⟩ := (show RdF wr _ xs by obtain ⟨n, rfl⟩ := hdr.out; exact HS'.out.drewN n).at hlt
      obtain ⟨x, hx⟩ : ∃ x, x = xs.getD k 0 := ⟨_, rfl⟩
      rw [← hx] at hc hc'
      clear hx
      by_cases hn : nan32 x = true
      · have hcv := fun (W : World) => run_conv_nan (P := Tryd.prog) 83 100 x (by rw [Tryd.und32]; rfl) Tryd.und64 hn W
        go_wp2_with fail
        go_region_with ((go_at_call 68; refine (sameFloat_nan _ _ (tape64_nan _ _) (tape64_nan _ _) _).mono ?_; rintro e w' ⟨rfl, rfl⟩))
        all_goals
          go_wp2_with fail
          go_roundw
          case rel => exact ⟨k + 1, by go_num, by omega, by obtain ⟨n, rfl⟩ := hdr.out; exact drew_ex (drew_ex (drew_ex ⟨n, rfl⟩))⟩
          case measure => simp [intOf]; omega
      · rw [Bool.not_eq_true] at hn
        obtain ⟨r, hr, hrn⟩ := conv64 hn
        have hcv := fun (W : World) => run_convert_float_float (P := Tryd.prog) W 83 100 .f32 .f64 x r (by rw [Tryd.und32]; rfl) Tryd.und64 hr
        clear hr
        go_wp2_with fail
        go_quiet ((go_at_call 68; exact quiet_same (sameFloat_self r hrn _)))
        go_wp2_with fail
        go_roundw
        case rel => exact ⟨k + 1, by go_num, by omega, by obtain ⟨n, rfl⟩ := hdr.out; exact drewN_ex ⟨n, rfl⟩ _⟩
        case measure => simp [intOf]; omega
    · obtain rfl : k = xs.length := by omega
      go_wp2_with fail
      go_ret
      exact ⟨rfl, hdr.out⟩

end Go.Proofs.YtggpbekclegfoaaDoor
