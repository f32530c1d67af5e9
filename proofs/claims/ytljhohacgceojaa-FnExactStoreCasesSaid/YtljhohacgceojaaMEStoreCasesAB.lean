/-
  FnExactStoreCases: texts joined: MarkI, PredL, OpenL, MarkL, HeldL.
-/
import Derived.Test.YtljhohacgceojaaMEStoreCasesAA
namespace Go.Proofs.Ytljhohacgceojaa
open Go.RowKit

theorem mark_set {xs : List Int} {k : Int} {j : Nat} (hj : j < xs.length) :
    ((mkI k j ++ xs.drop j).map I64).set j (.int .i64 (k + j)) = (mkI k (j + 1) ++ xs.drop (j + 1)).map I64 := by
  rw [List.drop_eq_getElem_cons hj, List.map_append, List.map_cons, set_mid _ _ _ _ _ (by simp [mkI])]
  simp [mkI, List.range_succ, I64]

theorem owns_slice_some {w : World} {lo : Nat} {e : TypeId} {a : Option Addr} {n cap : Nat} {vs : List Value} (h : w.ownsRow lo e 1 (.slice a n cap) n vs) (hn : 0 < n) : ∃ g, a = some ⟨g, 0, none⟩ ∧ lo ≤ g := by
  rcases h.2 with ⟨e1, e2⟩ | ⟨g, cap', cur, e1, hb, _⟩
  · omega
  · simp only [Value.slice.injEq] at e1
    exact ⟨g, e1.1, hb⟩

set_option maxHeartbeats 400000 in
theorem markI_any (v : Value) (lo hi : Nat) (xs : List Int) (k : Int) (w : World) (ho : OwnI lo hi w v xs) (h0 : 0 ≤ k) (h1 : k + xs.length ≤ 1099511627776) :
    Calls Try.prog 112 #[v, .int .i64 k] w fun e w' => e = .returned (.int .i64 (k + xs.length)) ∧ OwnI lo hi w' v (mkI k xs.length) ∧ Kept (fun b => lo ≤ b ∧ b < hi) w w' := by
  obtain ⟨a, cap, rfl⟩ := ho.rd.shape
  have HO := Lib.hid ho
  clear ho
  go_enter Try.func112, Try.ntmps112
  go_wp2_with fail
  go_loopw [1, 5] (fun kk i wr => ∃ j : Nat, i = .int .i64 j ∧ j ≤ xs.length ∧ kk = .int .i64 (k + j) ∧ wr.ownsRow lo 2 1 (.slice a xs.length cap) xs.length ((mkI k j ++ xs.drop j).map I64) ∧ Kept (fun b => lo ≤ b ∧ b < hi) w wr) (fun _ i _ => xs.length - (intOf i).toNat)
  case atStart => exact ⟨0, rfl, Nat.zero_le _, by simp, by simpa [mkI] using HO.out.1, Kept.refl _ _⟩
  case round =>
    obtain ⟨j, rfl, hj, rfl, hown, hkp⟩ := hrel
    have HO1 := Lib.hid hown
    have HK1 := Lib.hid hkp
    clear hkp
    by_cases hlt : j < xs.length
    · obtain ⟨g, rfl, hlo⟩ := owns_slice_some hown (by omega)
      have hhi := HO.out.2 g rfl
      clear hown
      have hd := HO1.out.cellAt j (by omega)
      have hfr := HO1.out.frozenAt j
      have hdl : ((mkI k j ++ xs.drop j).map I64)[j]? = some (.int .i64 (xs.getD j 0)) := by
        rw [List.getElem?_map, List.getElem?_append_right (by simp [mkI])]
        simp [I64, mkI, hlt]
      rw [hdl] at hd
      clear hdl
      go_wp2_with fail
      go_roundw
      case rel =>
        refine ⟨j + 1, by go_num, by omega, by go_num, ?_, HK1.out.setCell (.inr ⟨hlo, hhi⟩) _⟩
        have h1 := (HO1.out.stored j (.int .i64 (k + j))).1
        rw [mark_set hlt] at h1
        exact h1
      case measure => simp [intOf]; omega
    · clear hown
      obtain rfl : j = xs.length := by omega
      go_wp2_with fail
      go_ret
      refine ⟨rfl, ⟨?_, HO.out.2⟩, HK1.out⟩
      have h := HO1.out
      rw [List.drop_length, List.append_nil] at h
      have e : (mkI k xs.length).length = xs.length := by simp [mkI]
      rw [e]
      simpa using h

set_option maxHeartbeats 400000 in
theorem heldInts_any (a : Option Addr) (n cap : Nat) (k : Int) (w : World) (hs : Slc w (.slice a n cap) ((mkI k n).map I64)) (h0 : 0 ≤ k) (h1 : k + n ≤ 1099511627776) :
    Calls Try.prog 113 #[.slice a n cap, .int .i64 k] w fun e w' => e = .returned (.int .i64 (k + n)) ∧ Below w.heap.size w w' := by
  have HS := Lib.hid hs
  clear hs
  go_enter Try.func113, Try.ntmps113
  go_wp2_with fail
  go_loopw [1, 5] (fun kk i wr => ∃ j : Nat, i = .int .i64 j ∧ j ≤ n ∧ kk = .int .i64 (k + j) ∧ Below w.heap.size w wr) (fun _ i _ => n - (intOf i).toNat)
  case atStart => exact ⟨0, rfl, Nat.zero_le _, by simp, Below.refl _ _⟩
  case round =>
    obtain ⟨j, rfl, hj, rfl, hbl⟩ := hrel
    have HB := Lib.hid hbl
    clear hbl
    by_cases hlt : j < n
    · obtain ⟨b, off, rfl, hb, hc⟩ := (HS.out.below HB.out (Nat.le_refl _)).at (i := j) (u := .int .i64 (k + j)) (by simp [I64, mkI, hlt])
      have hne : ((k + j : Int) != (k + j : Int)) = false := by simp
      go_wp2_with fail
      go_roundw
      case rel => exact ⟨j + 1, by go_num, by omega, by go_num, HB.out⟩
      case measure => simp [intOf]; omega
    · obtain rfl : j = n := by omega
      go_wp2_with fail
      go_ret
      exact ⟨rfl, HB.out⟩

theorem heldI_any (v : Value) (n : Nat) (k : Int) (w : World) (h : RdI w v (mkI k n)) (h0 : 0 ≤ k) (h1 : k + n ≤ 1099511627776) :
    Calls Try.prog 113 #[v, .int .i64 k] w fun e w' => e = .returned (.int .i64 (k + n)) ∧ Below w.heap.size w w' := by
  obtain ⟨a, c, e⟩ := h.shape
  rw [show (mkI k n).length = n by simp [mkI]] at e
  subst e
  exact heldInts_any a n c k w h h0 h1

def cntI (xs : List Int) : Nat := xs.length
theorem cntI_le (xs : List Int) : cntI xs ≤ bulkI xs := Nat.le_refl _
def mkdI (k : Int) (xs : List Int) : List Int := mkI k xs.length

theorem markI_o (v : Value) (lo hi : Nat) (xs : List Int) (k : Int) (w : World) (ho : OwnI lo hi w v xs) (h0 : 0 ≤ k) (h1 : k + cntI xs ≤ 1099511627776) :
    Calls Try.prog 112 #[v, .int .i64 k] w fun e w' => e = .returned (.int .i64 (k + cntI xs)) ∧ OwnI lo hi w' v (mkdI k xs) ∧ Kept (fun b => lo ≤ b ∧ b < hi) w w' :=
  markI_any v lo hi xs k w ho h0 h1

theorem heldI_o (v : Value) (xs : List Int) (k : Int) (w : World) (h : RdI w v (mkdI k xs)) (h0 : 0 ≤ k) (h1 : k + cntI xs ≤ 1099511627776) :
    Calls Try.prog 113 #[v, .int .i64 k] w fun e w' => e = .returned (.int .i64 (k + cntI xs)) ∧ Below w.heap.size w w' :=
  heldI_any v xs.length k w h h0 h1

theorem eqI_same (v v' : Value) (xs : List Int) (w : World) (h : RdI w v xs) (h' : RdI w v' xs) :
    Calls Try.prog 86 #[v, v'] w fun e w' => e = .returned (.bool true) ∧ Below w.heap.size w w' := by
  refine (eqI_any v v' xs xs w h h').mono ?_
  rintro e w' ⟨rfl, hb⟩
  exact ⟨by simp, hb⟩

end Go.Proofs.Ytljhohacgceojaa

namespace Go.Proofs.Ytljhohacgceojaa
open Go.RowKit

/-- Each of the values reads as the list at its place. -/
def Each (w : World) (vs : List Value) (zss : List (List Int)) : Prop := vs.length = zss.length ∧ ∀ (i : Nat) u zs, vs[i]? = some u → zss[i]? = some zs → RdI w u zs
def RdL (w : World) (v : Value) (zss : List (List Int)) : Prop := ∃ vs, Slc w v vs ∧ Each w vs zss
/-- Owned: the outer row, and the inner ones, each in a block of its own. -/
def OwnEach (lo hi : Nat) (w : World) (vs : List Value) (zss : List (List Int)) : Prop :=
  vs.length = zss.length ∧ (∀ (i : Nat) u zs, vs[i]? = some u → zss[i]? = some zs → OwnI lo hi w u zs) ∧ ∀ (i j : Nat) u u' g, i ≠ j → vs[i]? = some u → vs[j]? = some u' → u.ownBlock = some g → u'.ownBlock ≠ some g
def OwnL (lo hi : Nat) (w : World) (v : Value) (zss : List (List Int)) : Prop :=
  ∃ vs, w.ownsRow lo 60 1 v zss.length vs ∧ (∀ g, v.ownBlock = some g → g < hi) ∧ OwnEach lo hi w vs zss
def lsum : List (List Int) → Nat
  | [] => 0
  | z :: r => z.length + lsum r
theorem lsum_append : ∀ (a b : List (List Int)), lsum (a ++ b) = lsum a + lsum b
  | [], b => by simp [lsum]
  | z :: r, b => by simp only [List.cons_append, lsum, lsum_append r b]; omega
def bulkL (zss : List (List Int)) : Nat := zss.length + lsum zss

theorem RdL.shape {w : World} {v : Value} {zss : List (List Int)} (h : RdL w v zss) : ∃ a c, v = .slice a zss.length c := by
  obtain ⟨vs, h1, h2⟩ := h
  obtain ⟨a, c, e⟩ := h1.shape
  exact ⟨a, c, by rw [e, h2.1]⟩
theorem RdL.len {w : World} {v : Value} {zss : List (List Int)} (h : RdL w v zss) : zss.length ≤ maxLen := by
  obtain ⟨vs, h1, h2⟩ := h
  rw [← h2.1]; exact h1.len
theorem Each.up {w w' : World} {vs : List Value} {zss : List (List Int)} {B : Nat} (h : Each w vs zss) (hb : Below B w w') (hB : w.heap.size ≤ B) : Each w' vs zss :=
  ⟨h.1, fun i u zs h1 h2 => (h.2 i u zs h1 h2).up hb hB⟩
theorem RdL.up {w w' : World} {v : Value} {zss : List (List Int)} {B : Nat} (h : RdL w v zss) (hb : Below B w w') (hB : w.heap.size ≤ B) : RdL w' v zss := by
  obtain ⟨vs, h1, h2⟩ := h
  exact ⟨vs, h1.below hb hB, h2.up hb hB⟩
/-- One of the lists. -/
theorem RdL.at {w : World} {a : Option Addr} {n c : Nat} {zss : List (List Int)} (h : RdL w (.slice a n c) zss) {i : Nat} (hi : i < zss.length) :
    ∃ b off u, a = some ⟨b, off, none⟩ ∧ b < w.heap.size ∧ w.cell? ⟨b, off + i, none⟩ = some u ∧ RdI w u (zss.getD i []) := by
  obtain ⟨vs, h1, h2⟩ := h
  have hv : i < vs.length := by rw [h2.1]; exact hi
  obtain ⟨b, off, ha, hb, hc⟩ := h1.at (List.getElem?_eq_getElem hv)
  exact ⟨b, off, vs[i], ha, hb, hc, h2.2 i _ _ (List.getElem?_eq_getElem hv) (by simp [hi])⟩

theorem OwnEach.each {lo hi : Nat} {w : World} {vs : List Value} {zss : List (List Int)} (h : OwnEach lo hi w vs zss) : Each w vs zss := ⟨h.1, fun i u zs h1 h2 => (h.2.1 i u zs h1 h2).rd⟩
theorem OwnL.rd {lo hi : Nat} {w : World} {v : Value} {zss : List (List Int)} (h : OwnL lo hi w v zss) : RdL w v zss := by
  obtain ⟨vs, h1, h2, h3⟩ := h
  exact ⟨vs, slc_of_owns h1, h3.each⟩
theorem OwnEach.up {lo hi : Nat} {w w' : World} {vs : List Value} {zss : List (List Int)} {B : Nat} (h : OwnEach lo hi w vs zss) (hb : Below B w w') (hB : w.heap.size ≤ B) : OwnEach lo hi w' vs zss :=
  ⟨h.1, fun i u zs h1 h2 => (h.2.1 i u zs h1 h2).up hb hB, h.2.2⟩
theorem OwnL.up {lo hi : Nat} {w w' : World} {v : Value} {zss : List (List Int)} {B : Nat} (h : OwnL lo hi w v zss) (hb : Below B w w') (hB : w.heap.size ≤ B) : OwnL lo hi w' v zss := by
  obtain ⟨vs, h1, h2, h3⟩ := h
  exact ⟨vs, owns_below h1 hb hB, h2, h3.up hb hB⟩
theorem OwnEach.wide {lo hi lo' hi' : Nat} {w : World} {vs : List Value} {zss : List (List Int)} (h : OwnEach lo hi w vs zss) (a : lo' ≤ lo) (b : hi ≤ hi') : OwnEach lo' hi' w vs zss :=
  ⟨h.1, fun i u zs h1 h2 => (h.2.1 i u zs h1 h2).wide a b, h.2.2⟩
theorem OwnL.wide {lo hi lo' hi' : Nat} {w : World} {v : Value} {zss : List (List Int)} (h : OwnL lo hi w v zss) (a : lo' ≤ lo) (b : hi ≤ hi') : OwnL lo' hi' w v zss := by
  obtain ⟨vs, h1, h2, h3⟩ := h
  exact ⟨vs, owns_base h1 a, fun g hg => Nat.lt_of_lt_of_le (h2 g hg) b, h3.wide a b⟩
theorem OwnL.kept {lo hi : Nat} {w w' : World} {v : Value} {zss : List (List Int)} {S : Nat → Prop} (h : OwnL lo hi w v zss) (hk : Kept S w w') (hs : ∀ b, lo ≤ b → b < hi → ¬ S b) : OwnL lo hi w' v zss := by
  obtain ⟨vs, h1, h2, h3⟩ := h
  exact ⟨vs, owns_kept h1 hk fun g hg => hs g (owns_lt h1 hg).1 (h2 g hg), h2, h3.1, fun i u zs a b => (h3.2.1 i u zs a b).kept hk hs, h3.2.2⟩

theorem sum_take_succ (zss : List (List Int)) (k : Nat) (hk : k < zss.length) : lsum (zss.take (k + 1)) = lsum (zss.take k) + (zss.getD k []).length := by
  rw [List.take_succ_eq_append_getElem hk, lsum_append]
  simp [hk, lsum]

theorem bulkL_le (zss : List (List Int)) (k : Nat) : lsum (zss.take k) + zss.length ≤ bulkL zss := by
  unfold bulkL
  have : lsum (zss.take k) + lsum (zss.drop k) = lsum zss := by rw [← lsum_append, List.take_append_drop]
  omega

set_option maxHeartbeats 400000 in
theorem szL_any (v : Value) (zss : List (List Int)) (left : Int) (w : World) (h : RdL w v zss) (h1 : left ≤ 1048576) (h0 : 0 ≤ left) :
    Calls Try.prog 51 #[v, .int .i64 left] w fun e w' => ∃ r : Int, e = .returned (.int .i64 r) ∧ -1 ≤ r ∧ r ≤ left ∧ (0 ≤ r → (bulkL zss : Int) ≤ left - r) ∧ Below w.heap.size w w' := by
  obtain ⟨a, c, rfl⟩ := h.shape
  have hl := h.len
  unfold maxLen at hl
  have HS := Lib.hid h
  clear h
  by_cases hn : left - zss.length < 0
  · go_enter Try.func51, Try.ntmps51
    go_wp2_with fail
    go_ret
    exact ⟨-1, rfl, by omega, by omega, by omega, Below.refl _ _⟩
  · go_enter Try.func51, Try.ntmps51
    go_wp2_with fail
    go_loopw [1, 5] (fun l i wr => ∃ (k : Nat) (r : Int), i = .int .i64 k ∧ k ≤ zss.length ∧ l = .int .i64 r ∧ 0 ≤ r ∧ r ≤ left ∧ Hid (lsum (zss.take k) + zss.length ≤ left - r) ∧ Below w.heap.size w wr) (fun _ i _ => zss.length - (intOf i).toNat)
    case atStart => exact ⟨0, left - zss.length, rfl, Nat.zero_le _, rfl, by omega, by omega, (by simp [lsum]; omega : lsum (zss.take 0) + (zss.length : Int) ≤ left - (left - zss.length)), Below.refl _ _⟩
    case round =>
      obtain ⟨k, r, rfl, hk, rfl, hr0, hr1, hsum, hb⟩ := hrel
      have HB := Lib.hid hb
      clear hb
      by_cases hlt : k < zss.length
      · obtain ⟨b, off, u, rfl, hbk, hc, hu⟩ := (HS.out.up HB.out (Nat.le_refl _)).at hlt
        have HU := Lib.hid hu
        clear hu
        go_wp2_with fail
        refine (szI_any _ _ _ _ HU.out (by omega) hr0).mono ?_
        rintro e w1 ⟨r', rfl, s1, s2, s3, hb1⟩
        have HB1 := Lib.hid (HB.out.trans (hb1.mono HB.out.size))
        clear hb1
        by_cases hneg : r' < 0
        · go_wp2_with fail
          go_ret
          exact ⟨-1, rfl, by omega, by omega, by omega, HB1.out⟩
        · go_wp2_with fail
          go_roundw
          case rel =>
            refine ⟨k + 1, r', by go_num, by omega, rfl, by omega, by omega, ?_, HB1.out⟩
            have h3 := s3 (by omega)
            have h4 := hsum.out
            unfold bulkI at h3
            show (lsum (zss.take (k + 1)) : Int) + zss.length ≤ left - r'
            rw [sum_take_succ zss k hlt]
            push_cast
            omega
          case measure => simp [intOf]; omega
      · obtain rfl : k = zss.length := by omega
        go_wp2_with fail
        go_ret
        refine ⟨r, rfl, by omega, by omega, fun _ => ?_, HB.out⟩
        have h4 := hsum.out
        rw [List.take_length] at h4
        unfold bulkL
        push_cast
        omega

theorem Try.infoInts : (Try.prog.info? 60).map (fun i => (i.zero, i.size, i.bytes)) = some (some (.slice none 0 0), 1, 24) := by kernel_rfl

set_option maxHeartbeats 800000 in
theorem toL_any (v : Value) (zss : List (List Int)) (w : World) (h : RdL w v zss) (hb : bulkL zss ≤ 1048576) :
    Calls Try.prog 54 #[v] w fun e w' => ∃ v', e = .returned v' ∧ OwnL w.heap.size w'.heap.size w' v' zss ∧ Below w.heap.size w w' := by
  obtain ⟨i0, hi, hz0, hz1, hz2⟩ := info_parts Try.infoInts
  obtain ⟨a, c, rfl⟩ := h.shape
  have hln : zss.length ≤ 1048576 := by unfold bulkL at hb; omega
  have HS := Lib.hid h
  have HBU := Lib.hid hb
  clear h hb
  go_enter Try.func54, Try.ntmps54
  go_wp2_with (at_make; refine wpList_make_full _ rfl _ _ 28 rfl w.heap.size 60 i0 (.slice none 0 0) 1 Try.underlying28 hi hz0 hz1 .i64 .i64 zss.length zss.length zss.length rfl rfl rfl rfl (by rw [hz2]; omega) (by unfold maxLen; omega) (by simp) ?_; intro w1 hown hgrow)
  have hb1 : Below w.heap.size w w1 := (Below.refl _ _).grown hgrow (Nat.le_refl _) (by intro k hk; cases hk)
  have hlt1 := (owns_lt hown (k := w.heap.size) rfl).2
  have hz : (madeCells (Value.slice none 0 0).cells (zss.length * 1)).toList = List.replicate zss.length (.slice none 0 0) := by
    simpa [Value.cells] using toList_madeCells_one (Value.slice none 0 0) zss.length
  rw [hz] at hown
  have HO := Lib.hid hown
  have HB := Lib.hid hb1
  have HL := Lib.hid hlt1
  clear hown hb1 hz hgrow hlt1
  go_loopw [4] (fun i wr => ∃ (k : Nat) (vs : List Value), i = .int .i64 k ∧ k ≤ zss.length ∧ vs.length = k ∧ wr.ownsRow w.heap.size 60 1 (.slice (some ⟨w.heap.size, 0, none⟩) zss.length zss.length) zss.length (vs ++ List.replicate (zss.length - k) (.slice none 0 0)) ∧ OwnEach w.heap.size wr.heap.size wr vs (zss.take k) ∧ w.heap.size < wr.heap.size ∧ Below w.heap.size w wr) (fun i _ => zss.length - (intOf i).toNat)
  case atStart => exact ⟨0, [], rfl, Nat.zero_le _, rfl, by simpa using HO.out, ⟨rfl, by intro i u zs h; simp at h, by intro i j u u' g _ h; simp at h⟩, HL.out, HB.out⟩
  case round =>
    obtain ⟨k, vs, rfl, hk, hvl, hown, heach, hlt2, hbel⟩ := hrel
    have HO1 := Lib.hid hown
    have HE1 := Lib.hid heach
    have HB1 := Lib.hid hbel
    have HV := Lib.hid hvl
    clear hown heach hbel hvl
    by_cases hlt : k < zss.length
    · obtain ⟨b, off, u, rfl, hb0, hc, hu⟩ := (HS.out.up HB1.out (Nat.le_refl _)).at hlt
      have hle : bulkI (zss.getD k []) ≤ 1048576 := by
        have h1 := bulkL_le zss (k + 1)
        rw [sum_take_succ zss k hlt] at h1
        have h2 := HBU.out
        unfold bulkI; omega
      obtain ⟨z, hzk⟩ : ∃ z, z = zss.getD k [] := ⟨_, rfl⟩
      rw [← hzk] at hu hle
      have HU := Lib.hid hu
      have HLE := Lib.hid hle
      have HZK := Lib.hid hzk
      clear hu hle hzk
      go_wp2_with fail
      refine (toI_any _ _ _ HU.out HLE.out).mono ?_
      rintro e w2 ⟨v', rfl, ho2, hb2⟩
      obtain ⟨a2, c2, e2⟩ := ho2.rd.shape
      subst e2
      have ho1' := owns_below HO1.out hb2 (Nat.le_refl _)
      have hd := ho1'.cellAt k (by omega)
      have hfr := ho1'.frozenAt k
      have hdl : (vs ++ List.replicate (zss.length - k) (Value.slice none 0 0))[k]? = some (.slice none 0 0) := by
        have := HV.out
        rw [List.getElem?_append_right (by omega)]
        simp [List.getElem?_replicate]
        omega
      rw [hdl] at hd
      have HO2 := Lib.hid ho2
      have HB2 := Lib.hid hb2
      have HO1' := Lib.hid ho1'
      have hsz2 := hb2.size
      clear ho2 hb2 ho1' hdl
      go_wp2_with fail
      go_roundw
      case rel =>
        refine ⟨k + 1, vs ++ [.slice a2 z.length c2], by go_num, by omega, by simp [HV.out], ?_, ?_, by simp; omega, (HB1.out.trans (HB2.out.mono HB1.out.size)).setCell (Nat.le_refl _) _⟩
        · have h1 := (HO1'.out.stored k (.slice a2 z.length c2)).1
          have e : List.replicate (zss.length - k) (Value.slice none 0 0) = .slice none 0 0 :: List.replicate (zss.length - (k + 1)) (.slice none 0 0) := by
            rw [show zss.length - k = (zss.length - (k + 1)) + 1 by omega, List.replicate_succ]
          rw [e, set_mid _ _ _ _ _ HV.out] at h1
          simpa using h1
        · have hw : (w2.setCell ⟨w.heap.size, k, none⟩ (.slice a2 z.length c2)).heap.size = w2.heap.size := by simp
          rw [hw]
          have hkp : Kept (· = w.heap.size) w2 (w2.setCell ⟨w.heap.size, k, none⟩ (.slice a2 z.length c2)) := Kept.setCell (S := (· = w.heap.size)) (Kept.refl _ _) (.inr rfl) _
          have hob : ∀ u zs lo hi, OwnI lo hi w2 u zs → OwnI lo hi (w2.setCell ⟨w.heap.size, k, none⟩ (.slice a2 z.length c2)) u zs := by
            intro u zs lo hi ho
            refine ⟨owns_kept ho.1 hkp ?_, ho.2⟩
            rintro g hg rfl
            rcases ho.1.2 with ⟨e, _⟩ | ⟨g', cap, cur, e, _, hh, _⟩
            · rw [e] at hg; cases hg
            · rw [e] at hg
              simp [Value.ownBlock] at hg
              subst hg
              rcases HO1'.out.2 with ⟨e3, _⟩ | ⟨g3, cap3, cur3, e3, _, hh3, _⟩
              · simp at e3
              · simp at e3
                rw [← e3.1] at hh3
                rw [hh] at hh3
                simp at hh3
          refine ⟨by simp [HV.out]; omega, ?_, ?_⟩
          · intro i u zs h1 h2
            by_cases hik : i < k
            · rw [List.getElem?_append_left (by rw [HV.out]; exact hik)] at h1
              rw [List.getElem?_take_of_lt (by omega)] at h2
              refine hob _ _ _ _ ((HE1.out.2.1 i u zs h1 (by rw [List.getElem?_take_of_lt hik]; exact h2)).up HB2.out (Nat.le_refl _) |>.wide (Nat.le_refl _) hsz2)
            · have hik' : i = k := by
                have := (List.getElem?_eq_some_iff.1 h1).1
                simp [HV.out] at this
                omega
              subst hik'
              rw [List.getElem?_append_right (by rw [HV.out]; exact Nat.le_refl _), HV.out] at h1
              rw [List.getElem?_take_of_lt (by omega)] at h2
              simp at h1
              subst h1
              have : zs = z := by rw [HZK.out]; simp [h2]
              subst this
              exact hob _ _ _ _ (HO2.out.wide HB1.out.size (Nat.le_refl _))
          · intro i j u u' g hij h1 h2 hg hg'
            have hnew : ∀ (i : Nat) u, (vs ++ [Value.slice a2 z.length c2])[i]? = some u → u.ownBlock = some g → (i < k ∧ g < wr.heap.size) ∨ (i = k ∧ wr.heap.size ≤ g) := by
              intro i u h1 hg
              by_cases hik : i < k
              · rw [List.getElem?_append_left (by rw [HV.out]; exact hik)] at h1
                have hz : (zss.take k)[i]? = some (zss.getD i []) := by
                  rw [List.getElem?_take_of_lt hik]; simp [show i < zss.length by omega]
                exact .inl ⟨hik, (HE1.out.2.1 i u _ h1 hz).2 g hg⟩
              · have hik' : i = k := by
                  have := (List.getElem?_eq_some_iff.1 h1).1
                  simp [HV.out] at this
                  omega
                subst hik'
                rw [List.getElem?_append_right (by rw [HV.out]; exact Nat.le_refl _), HV.out] at h1
                simp at h1
                subst h1
                exact .inr ⟨rfl, (owns_lt HO2.out.1 hg).1⟩
            have a1 := hnew i u h1 hg
            have a2' := hnew j u' h2 hg'
            have hlti : ∀ (i : Nat) u, i < k → (vs ++ [Value.slice a2 z.length c2])[i]? = some u → vs[i]? = some u := by
              intro i u hik h
              rwa [List.getElem?_append_left (by rw [HV.out]; exact hik)] at h
            rcases a1 with ⟨x1, x2⟩ | ⟨x1, x2⟩ <;> rcases a2' with ⟨y1, y2⟩ | ⟨y1, y2⟩
            · exact HE1.out.2.2 i j u u' g hij (hlti i u x1 h1) (hlti j u' y1 h2) hg hg'
            · omega
            · omega
            · omega
      case measure => simp [intOf]; omega
    · obtain rfl : k = zss.length := by omega
      go_wp2_with fail
      go_ret
      refine ⟨_, rfl, ⟨vs, by simpa using HO1.out, by intro g hg; simp [Value.ownBlock] at hg; omega, ?_⟩, HB1.out⟩
      have := HE1.out
      rwa [List.take_length] at this

set_option maxHeartbeats 400000 in
theorem eqL_same (v v' : Value) (zss : List (List Int)) (w : World) (h : RdL w v zss) (h' : RdL w v' zss) :
    Calls Try.prog 59 #[v, v'] w fun e w' => e = .returned (.bool true) ∧ Below w.heap.size w w' := by
  obtain ⟨a, c, rfl⟩ := h.shape
  obtain ⟨a', c', rfl⟩ := h'.shape
  have hl := h.len
  unfold maxLen at hl
  have HS := Lib.hid h
  have HS' := Lib.hid h'
  have hne : ((zss.length : Int) != (zss.length : Int)) = false := by simp
  clear h h'
  go_enter Try.func59, Try.ntmps59
  go_wp2_with fail
  go_loopw [5] (fun i wr => ∃ k : Nat, i = .int .i64 k ∧ k ≤ zss.length ∧ Below w.heap.size w wr) (fun i _ => zss.length - (intOf i).toNat)
  case atStart => exact ⟨0, rfl, Nat.zero_le _, Below.refl _ _⟩
  case round =>
    obtain ⟨k, rfl, hk, hb⟩ := hrel
    have HB := Lib.hid hb
    clear hb
    by_cases hlt : k < zss.length
    · obtain ⟨b, off, u, rfl, hbk, hc, hu⟩ := (HS.out.up HB.out (Nat.le_refl _)).at hlt
      obtain ⟨b', off', u', rfl, hbk', hc', hu'⟩ := (HS'.out.up HB.out (Nat.le_refl _)).at hlt
      have HU := Lib.hid hu
      have HU' := Lib.hid hu'
      clear hu hu'
      have hd : decide (zss.getD k [] = zss.getD k []) = true := by simp
      obtain ⟨zk, hzk⟩ : ∃ zk, zk = zss.getD k [] := ⟨_, rfl⟩
      rw [← hzk] at HU HU'
      clear hzk hd
      go_wp2_with fail
      go_quiet ((go_at_call 86; exact eqI_qs _ _ zk _ _ HU.out HU'.out))
      go_wp2_with fail
      go_roundw
      case rel => exact ⟨k + 1, by go_num, by omega, below_drewN HB.out _⟩
      case measure => simp [intOf]; omega
    · obtain rfl : k = zss.length := by omega
      go_wp2_with fail
      go_ret
      exact ⟨rfl, HB.out⟩

end Go.Proofs.Ytljhohacgceojaa

namespace Go.Proofs.Ytljhohacgceojaa
open Go.ChangeShapes Go.WideShapes Go.ChangeAt Go.RowKit
set_option linter.unusedVariables false

section
variable {H : Type} {enc : TypeId × Value → H} {w : World} {base : Nat} {spare : Nat → Bool} {held : Bool}

theorem cells_ints' : Try.prog.cellsOf 60 = 1 := by kernel_rfl
def WfL (zss : List (List Int)) : Prop := ∀ zs ∈ zss, WfI zs

set_option maxRecDepth 100000 in
theorem trod_L {fuel : Nat} {cs : List Value} {x : DataW H × List MemPlace} (h : DataW.trod enc Try.prog w base spare held fuel 28 cs = some x) : ∃ v zss, cs = [v] ∧ RdL w v zss ∧ WfL zss := by
  rcases DataW.trod_slice Try.underlying28 h with ⟨rfl, _⟩ | ⟨a, len, cap, elems, rest, n, _, rfl, _, hb, hl, hm, hlen, hel, _, _⟩
  · exact ⟨_, [], rfl, ⟨[], .inl ⟨rfl, rfl⟩, rfl, by intro i u zs h; simp at h⟩, by intro z hz; simp at hz⟩
  · rw [cells_ints'] at hel
    have hex : ∀ i, i < len → ∃ q : Value × List Int, w.cell? (a.add i) = some q.1 ∧ RdI w q.1 q.2 ∧ WfI q.2 := by
      intro i hi
      have h1 := hel i hi
      rw [List.getElem?_eq_getElem (by omega)] at h1
      cases hc : w.cells? base (a.add (i * 1)) 1 with
      | none => rw [hc] at h1; simp at h1
      | some cs' =>
        rw [hc] at h1
        simp only [Option.bind_some] at h1
        obtain ⟨u, rfl, hu⟩ := cells_one hc
        obtain ⟨v, zs, e, r, f⟩ := trod_I h1
        simp at e
        subst e
        exact ⟨(u, zs), by simpa using hu, r, f⟩
    obtain ⟨l, hll, hlp⟩ := exists_list _ len hex
    refine ⟨_, l.map (·.2), rfl, ⟨l.map (·.1), .inr ⟨a, cap, by simp [hll], by simp [hll]; omega, hm, ?_⟩, by simp, ?_⟩, ?_⟩
    · intro i u hi
      simp at hi
      obtain ⟨zs, h⟩ := hi
      exact (hlp i _ h).1
    · intro i u zs h1 h2
      simp only [List.getElem?_map, Option.map_eq_some_iff] at h1 h2
      obtain ⟨q, hq, rfl⟩ := h1
      obtain ⟨q', hq', rfl⟩ := h2
      rw [hq] at hq'
      cases hq'
      exact (hlp i q hq).2.1
    · intro z hz
      simp at hz
      obtain ⟨v, hv⟩ := hz
      obtain ⟨i, hi, he⟩ := List.mem_iff_getElem.1 hv
      have := (hlp i _ (List.getElem?_eq_getElem hi)).2.2
      rw [he] at this
      exact this

set_option maxRecDepth 100000 in
theorem arg_L {r : Reach} {b0 : Nat} {v : Value} {d : DataW H} {p : List MemPlace} (hv : Value.okWide Try.prog w r b0 28 v) (h : DataW.Trod enc Try.prog w base spare held 28 v d p) : ∃ zss, RdL w v zss ∧ WfL zss := by
  obtain ⟨a, len, cap, rfl⟩ := okWide_slice Try.underlying28 hv
  obtain ⟨fuel, hf⟩ := h
  obtain ⟨v, zs, e, h1, h2⟩ := trod_L hf
  simp [Value.cells] at e
  subst e
  exact ⟨zs, h1, h2⟩
end
end Go.Proofs.Ytljhohacgceojaa

namespace Go.Proofs.Ytljhohacgceojaa
open Go.RowKit

def cntL (zss : List (List Int)) : Nat := lsum zss
theorem cntL_le (zss : List (List Int)) : cntL zss ≤ bulkL zss := by unfold cntL bulkL; omega
/-- The first j lists marked from k on. -/
def mkP (k : Int) : List (List Int) → Nat → List (List Int)
  | [], _ => []
  | zss, 0 => zss
  | z :: r, j + 1 => mkI k z.length :: mkP (k + z.length) r j
def mkdL (k : Int) (zss : List (List Int)) : List (List Int) := mkP k zss zss.length
theorem mkP_zero (k : Int) (zss : List (List Int)) : mkP k zss 0 = zss := by cases zss <;> rfl
theorem mkP_length (k : Int) : ∀ (zss : List (List Int)) (j : Nat), (mkP k zss j).length = zss.length
  | [], j => by cases j <;> rfl
  | z :: r, 0 => rfl
  | z :: r, j + 1 => by simp only [mkP, List.length_cons, mkP_length (k + z.length) r j]
theorem mkP_late (k : Int) : ∀ (zss : List (List Int)) (j i : Nat), j ≤ i → (mkP k zss j)[i]? = zss[i]?
  | [], j, i, _ => by cases j <;> rfl
  | z :: r, 0, i, _ => rfl
  | z :: r, j + 1, i, h => by
    cases i with
    | zero => omega
    | succ i => simp only [mkP, List.getElem?_cons_succ]; exact mkP_late (k + z.length) r j i (by omega)
theorem mkP_set (k : Int) : ∀ (zss : List (List Int)) (j : Nat), j < zss.length → mkP k zss (j + 1) = (mkP k zss j).set j (mkI (k + lsum (zss.take j)) (zss.getD j []).length)
  | [], j, h => by simp at h
  | z :: r, 0, h => by simp [mkP, mkP_zero, lsum]
  | z :: r, j + 1, h => by
    have ih := mkP_set (k + z.length) r j (by simpa using h)
    rw [mkP, ih, mkP, List.set_cons_succ]
    congr 2
    simp only [List.take_succ_cons, lsum, List.getD_cons_succ]
    congr 1
    push_cast
    omega
theorem mkdL_at (k : Int) : ∀ (zss : List (List Int)) (j i : Nat), i < j → i < zss.length → (mkP k zss j)[i]? = some (mkI (k + lsum (zss.take i)) (zss.getD i []).length)
  | [], j, i, _, h => by simp at h
  | z :: r, 0, i, h, _ => by omega
  | z :: r, j + 1, 0, _, _ => by simp [mkP, lsum]
  | z :: r, j + 1, i + 1, h, h2 => by
    have ih := mkdL_at (k + z.length) r j i (by omega) (by simpa using h2)
    simp only [mkP, List.getElem?_cons_succ, ih, List.take_succ_cons, lsum, List.getD_cons_succ]
    congr 2
    push_cast
    omega

theorem owns_ne {w : World} {b1 b2 n1 n2 g : Nat} {e1 e2 : TypeId} {v1 v2 : Value} {x1 x2 : List Value} (h1 : w.ownsRow b1 e1 1 v1 n1 x1) (h2 : w.ownsRow b2 e2 1 v2 n2 x2) (hne : e1 ≠ e2) (hg : v1.ownBlock = some g) : v2.ownBlock ≠ some g := by
  intro hg2
  rcases h1.2 with ⟨rfl, _⟩ | ⟨a, cap, cur, rfl, _, hh, _⟩
  · simp [Value.ownBlock] at hg
  · rcases h2.2 with ⟨rfl, _⟩ | ⟨a2, cap2, cur2, rfl, _, hh2, _⟩
    · simp [Value.ownBlock] at hg2
    · simp only [Value.ownBlock, Option.some.injEq] at hg hg2
      subst hg hg2
      rw [hh] at hh2
      simp only [Option.some.injEq, Obj.cells.injEq] at hh2
      exact hne hh2.2.1
/-- Where memory that is owned lies: in a block of its own, or nowhere. -/
theorem OwnI.own {lo hi : Nat} {w : World} {u : Value} {zs : List Int} (h : OwnI lo hi w u zs) : ∃ l h', OwnI l h' w u zs ∧ ((u.ownBlock = none ∧ l = 0 ∧ h' = 0) ∨ (u.ownBlock = some l ∧ h' = l + 1 ∧ lo ≤ l ∧ l < hi)) := by
  obtain ⟨h1, h2⟩ := h
  rcases h1.2 with ⟨rfl, e⟩ | ⟨g, cap, cur, rfl, a1, a2⟩
  · exact ⟨0, 0, ⟨⟨h1.1, .inl ⟨rfl, e⟩⟩, by intro g hg; cases hg⟩, .inl ⟨rfl, rfl, rfl⟩⟩
  · exact ⟨g, g + 1, ⟨⟨h1.1, .inr ⟨g, cap, cur, rfl, Nat.le_refl _, a2⟩⟩, by intro g' hg; simp only [Value.ownBlock, Option.some.injEq] at hg; omega⟩, .inr ⟨rfl, rfl, a1, h2 g rfl⟩⟩

/-- One of the rows is written anew: the others are as they were. -/
theorem OwnEach.set {lo hi l h' : Nat} {w w' : World} {vs : List Value} {zss : List (List Int)} {i : Nat} {u : Value} {z : List Int} (h : OwnEach lo hi w vs zss) (hu : vs[i]? = some u)
    (hl : (u.ownBlock = none ∧ l = 0 ∧ h' = 0) ∨ (u.ownBlock = some l ∧ h' = l + 1 ∧ lo ≤ l ∧ l < hi)) (hn : OwnI l h' w' u z) (hk : Kept (fun b => l ≤ b ∧ b < h') w w') : OwnEach lo hi w' vs (zss.set i z) := by
  refine ⟨by rw [List.length_set]; exact h.1, fun j u' zs h1 h2 => ?_, h.2.2⟩
  by_cases hji : j = i
  · subst hji
    rw [hu] at h1
    simp only [Option.some.injEq] at h1
    subst h1
    have hlt : j < zss.length := by rw [← h.1]; exact (List.getElem?_eq_some_iff.1 hu).1
    rw [List.getElem?_set_self (by simpa using hlt)] at h2
    simp only [Option.some.injEq] at h2
    subst h2
    rcases hl with ⟨e, rfl, rfl⟩ | ⟨e, rfl, a1, a2⟩
    · refine ⟨⟨hn.1.1, ?_⟩, by intro g hg; rw [e] at hg; cases hg⟩
      rcases hn.1.2 with x | ⟨g, cap, cur, rfl, _⟩
      · exact .inl x
      · simp [Value.ownBlock] at e
    · exact hn.wide a1 (by omega)
  · rw [List.getElem?_set_ne (by omega)] at h2
    have ho := h.2.1 j u' zs h1 h2
    refine ⟨owns_kept ho.1 hk ?_, ho.2⟩
    rintro g hg ⟨hs1, hs2⟩
    rcases hl with ⟨e, rfl, rfl⟩ | ⟨e, rfl, a1, a2⟩
    · omega
    · have : g = l := by omega
      subst this
      exact h.2.2 i j u u' g (by omega) hu h1 e hg

set_option maxHeartbeats 1000000 in
theorem markL_o (v : Value) (lo hi : Nat) (zss : List (List Int)) (k : Int) (w : World) (ho : OwnL lo hi w v zss) (h0 : 0 ≤ k) (h1 : k + cntL zss ≤ 1099511627776) :
    Calls Try.prog 70 #[v, .int .i64 k] w fun e w' => e = .returned (.int .i64 (k + cntL zss)) ∧ OwnL lo hi w' v (mkdL k zss) ∧ Kept (fun b => lo ≤ b ∧ b < hi) w w' := by
  obtain ⟨a, c, rfl⟩ := ho.rd.shape
  have hl := ho.rd.len
  unfold maxLen at hl
  obtain ⟨vs, hown, hhi, heach⟩ := ho
  have hvl : vs.length = zss.length := heach.1
  have HO := Lib.hid hown
  have HH := Lib.hid hhi
  have HE := Lib.hid heach
  have HVL := Lib.hid hvl
  have HC := Lib.hid h1
  clear hown heach hhi hvl h1
  go_enter Try.func70, Try.ntmps70
  go_wp2_with fail
  go_loopw [1, 5] (fun kk i wr => ∃ j : Nat, i = .int .i64 j ∧ j ≤ zss.length ∧ kk = .int .i64 (k + lsum (zss.take j)) ∧ wr.ownsRow lo 60 1 (.slice a zss.length c) zss.length vs ∧ OwnEach lo hi wr vs (mkP k zss j) ∧ Kept (fun b => lo ≤ b ∧ b < hi) w wr) (fun _ i _ => zss.length - (intOf i).toNat)
  case atStart => exact ⟨0, rfl, Nat.zero_le _, by simp [lsum], HO.out, by rw [mkP_zero]; exact HE.out, Kept.refl _ _⟩
  case round =>
    obtain ⟨j, rfl, hj, rfl, hown, heach, hkp⟩ := hrel
    have HO1 := Lib.hid hown
    have HE1 := Lib.hid heach
    have HK1 := Lib.hid hkp
    clear heach hkp
    by_cases hlt : j < zss.length
    · obtain ⟨g, rfl, hlo⟩ := owns_slice_some hown (by omega)
      clear hown
      obtain ⟨u, hu⟩ : ∃ u, vs[j]? = some u := ⟨vs[j]'(by rw [HVL.out]; exact hlt), by simp [HVL.out, hlt]⟩
      have hd := HO1.out.cellAt j (by omega)
      rw [hu] at hd
      have hz : (mkP k zss j)[j]? = some (zss.getD j []) := by rw [mkP_late k zss j j (Nat.le_refl _)]; simp [hlt]
      obtain ⟨l, h', hoi, hcase⟩ := (HE1.out.2.1 j u _ hu hz).own
      have HS := Lib.hid (mkP_set k zss j hlt)
      have HT := Lib.hid (sum_take_succ zss j hlt)
      have HB := Lib.hid (bulkL_le zss (j + 1))
      obtain ⟨z, hzk⟩ : ∃ z, z = zss.getD j [] := ⟨_, rfl⟩
      rw [← hzk] at hoi HS HT
      obtain ⟨sm, hsm⟩ : ∃ s, s = lsum (zss.take j) := ⟨_, rfl⟩
      rw [← hsm] at HS HT ⊢
      have hbound : (sm : Int) + z.length ≤ cntL zss := by
        have h1 := HT.out
        have h2 := HB.out
        unfold cntL
        unfold bulkL at h2
        omega
      obtain ⟨ua, uc, rfl⟩ := hoi.rd.shape
      have HOI := Lib.hid hoi
      have HU := Lib.hid hu
      have HCA := Lib.hid hcase
      clear hoi hz hu hsm hzk
      go_wp2_with fail
      refine (markI_any _ l h' z (k + sm) wr HOI.out (by omega) (by have := HC.out; omega)).mono ?_
      rintro e w2 ⟨rfl, ho2, hk2⟩
      have HE2 := Lib.hid (HE1.out.set HU.out HCA.out ho2 hk2)
      have HO2 := Lib.hid (owns_kept HO1.out hk2 (by
        rintro g' hg' ⟨s1, s2⟩
        rcases HCA.out with ⟨_, rfl, rfl⟩ | ⟨e, rfl, _, _⟩
        · omega
        · have : g' = l := by omega
          subst this
          exact owns_ne HO1.out HOI.out.1 (by decide) hg' e))
      have HK2 := Lib.hid (HK1.out.trans (hk2.mono (S' := fun b => lo ≤ b ∧ b < hi) (by
        rintro b _ ⟨s1, s2⟩
        rcases HCA.out with ⟨_, rfl, rfl⟩ | ⟨e, rfl, a1, a2⟩
        · omega
        · omega)))
      clear ho2 hk2 hd
      have HCC := HC.out
      go_wp2_with fail
      go_roundw
      case rel => exact ⟨j + 1, by go_num, by omega, by rw [HT.out]; push_cast; go_num, HO2.out, by rw [HS.out]; exact HE2.out, HK2.out⟩
      case measure => simp [intOf]; omega
    · obtain rfl : j = zss.length := by omega
      clear hown
      go_wp2_with fail
      go_ret
      refine ⟨by rw [List.take_length]; rfl, ⟨vs, ?_, HH.out, HE1.out⟩, HK1.out⟩
      rw [mkdL, mkP_length]
      exact HO1.out

end Go.Proofs.Ytljhohacgceojaa

namespace Go.Proofs.Ytljhohacgceojaa
open Go.RowKit

set_option maxHeartbeats 1000000 in
theorem heldL_o (v : Value) (zss : List (List Int)) (k : Int) (w : World) (h : RdL w v (mkdL k zss)) (h0 : 0 ≤ k) (h1 : k + cntL zss ≤ 1099511627776) :
    Calls Try.prog 72 #[v, .int .i64 k] w fun e w' => e = .returned (.int .i64 (k + cntL zss)) ∧ Below w.heap.size w w' := by
  obtain ⟨a, c, rfl⟩ := h.shape
  have hl := h.len
  unfold maxLen at hl
  have hln : (mkdL k zss).length = zss.length := mkP_length k zss zss.length
  rw [hln] at hl ⊢
  have HS := Lib.hid h
  rw [hln] at HS
  have HLN := Lib.hid hln
  have HC := Lib.hid h1
  clear h h1 hln
  go_enter Try.func72, Try.ntmps72
  go_wp2_with fail
  go_loopw [1, 5] (fun kk i wr => ∃ j : Nat, i = .int .i64 j ∧ j ≤ zss.length ∧ kk = .int .i64 (k + lsum (zss.take j)) ∧ Below w.heap.size w wr) (fun _ i _ => zss.length - (intOf i).toNat)
  case atStart => exact ⟨0, rfl, Nat.zero_le _, by simp [lsum], Below.refl _ _⟩
  case round =>
    obtain ⟨j, rfl, hj, rfl, hbl⟩ := hrel
    have HB := Lib.hid hbl
    clear hbl
    by_cases hlt : j < zss.length
    · obtain ⟨b, off, u, rfl, _, hc, hu⟩ := (HS.out.up HB.out (Nat.le_refl _)).at (i := j) (by rw [HLN.out]; exact hlt)
      have hat : (mkdL k zss).getD j [] = mkI (k + lsum (zss.take j)) (zss.getD j []).length := by
        have h := mkdL_at k zss zss.length j hlt hlt
        unfold mkdL
        rw [List.getD_eq_getElem?_getD, h]; rfl
      rw [hat] at hu
      have HT := Lib.hid (sum_take_succ zss j hlt)
      have HBK := Lib.hid (bulkL_le zss (j + 1))
      obtain ⟨z, hzk⟩ : ∃ z, z = (zss.getD j []).length := ⟨_, rfl⟩
      rw [← hzk] at hu HT
      obtain ⟨sm, hsm⟩ : ∃ s, s = lsum (zss.take j) := ⟨_, rfl⟩
      rw [← hsm] at hu HT ⊢
      have hbound : (sm : Int) + z ≤ cntL zss := by
        have h1 := HT.out
        have h2 := HBK.out
        unfold cntL
        unfold bulkL at h2
        omega
      have hh := Lib.hid (heldI_any u z (k + sm) wr hu (by omega) (by have := HC.out; omega))
      have HCC := HC.out
      clear hat hu hzk hsm
      go_wp2_with fail
      refine hh.out.mono ?_
      rintro e w2 ⟨rfl, hb2⟩
      have HB2 := Lib.hid (HB.out.trans (hb2.mono HB.out.size))
      clear hb2 hc
      go_wp2_with fail
      go_roundw
      case rel => exact ⟨j + 1, by go_num, by omega, by rw [HT.out]; push_cast; go_num, HB2.out⟩
      case measure => simp [intOf]; omega
    · obtain rfl : j = zss.length := by omega
      go_wp2_with fail
      go_ret
      exact ⟨by rw [List.take_length]; rfl, HB.out⟩

end Go.Proofs.Ytljhohacgceojaa
