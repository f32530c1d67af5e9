/-
  Lists of lists of integers, by value.
-/
import Derived.Test.YtljhohacgceojaaMarkI
namespace Go.Proofs.Ytljhohacgceojaa
open Go.RowKit

/-- Each of the values reads as the list at its place. -/
def Each (w : World) (vs : List Value) (zss : List (List Int)) : Prop := vs.length = zss.length ∧ ∀ (i : Nat) u zs, vs[i]? = some u → zss[i]? = some zs → RdI w u zs
def RdL (w : World) (v : Value) (zss : List (List Int)) : Prop := ∃ vs, Slc w v vs ∧ Each w vs zss
/-- Owned: the outer row, and the inner ones, each in a block of its own. -/
def OwnEach (lo hi : Nat) (w : World) (vs : List Value) (zss : List (List Int)) : Prop :=
  vs.length = zss.length ∧ (∀ (i : Nat) u zs, vs[i]? = some u → zss[i]? = some zs → OwnI lo hi w u zs) ∧ ∀ (i j : Nat) u u' g, i ≠ j → vs[i]? = some u → vs[j]? = some u' → u.ownBlock = some g → u'.ownBlock ≠ some g
def OwnL (lo hi : Nat) (w : World) (v : Value) (zss : List (List Int)) : Prop :=
  ∃ vs, w.ownsRow lo 60 1 v zss.length vs ∧ (∀ g, v.ownBlock = some g → g < hi) ∧ OwnEach lo hi w vs zss
def lsum : List (List Int) → Nat
  | [] => 0
  | z :: r => z.length + lsum r
theorem lsum_append : ∀ (a b : List (List Int)), lsum (a ++ b) = lsum a + lsum b
  | [], b => by simp [lsum]
  | z :: r, b => by simp only [List.cons_append, lsum, lsum_append r b]; omega
def bulkL (zss : List (List Int)) : Nat := zss.length + lsum zss

theorem RdL.shape {w : World} {v : Value} {zss : List (List Int)} (h : RdL w v zss) : ∃ a c, v = .slice a zss.length c := by
  obtain ⟨vs, h1, h2⟩ := h
  obtain ⟨a, c, e⟩ := h1.shape
  exact ⟨a, c, by rw [e, h2.1]⟩
theorem RdL.len {w : World} {v : Value} {zss : List (List Int)} (h : RdL w v zss) : zss.length ≤ maxLen := by
  obtain ⟨vs, h1, h2⟩ := h
  rw [← h2.1]; exact h1.len
theorem Each.up {w w' : World} {vs : List Value} {zss : List (List Int)} {B : Nat} (h : Each w vs zss) (hb : Below B w w') (hB : w.heap.size ≤ B) : Each w' vs zss :=
  ⟨h.1, fun i u zs h1 h2 => (h.2 i u zs h1 h2).up hb hB⟩
theorem RdL.up {w w' : World} {v : Value} {zss : List (List Int)} {B : Nat} (h : RdL w v zss) (hb : Below B w w') (hB : w.heap.size ≤ B) : RdL w' v zss := by
  obtain ⟨vs, h1, h2⟩ := h
  exact ⟨vs, h1.below hb hB, h2.up hb hB⟩
/-- One of the lists. -/
theorem RdL.at {w : World} {a : Option Addr} {n c : Nat} {zss : List (List Int)} (h : RdL w (.slice a n c) zss) {i : Nat} (hi : i < zss.length) :
    ∃ b off u, a = some ⟨b, off, none⟩ ∧ b < w.heap.size ∧ w.cell? ⟨b, off + i, none⟩ = some u ∧ RdI w u (zss.getD i []) := by
  obtain ⟨vs, h1, h2⟩ := h
  have hv : i < vs.length := by rw [h2.1]; exact hi
  obtain ⟨b, off, ha, hb, hc⟩ := h1.at (List.getElem?_eq_getElem hv)
  exact ⟨b, off, vs[i], ha, hb, hc, h2.2 i _ _ (List.getElem?_eq_getElem hv) (by simp [hi])⟩

theorem OwnEach.each {lo hi : Nat} {w : World} {vs : List Value} {zss : List (List Int)} (h : OwnEach lo hi w vs zss) : Each w vs zss := ⟨h.1, fun i u zs h1 h2 => (h.2.1 i u zs h1 h2).rd⟩
theorem OwnL.rd {lo hi : Nat} {w : World} {v : Value} {zss : List (List Int)} (h : OwnL lo hi w v zss) : RdL w v zss := by
  obtain ⟨vs, h1, h2, h3⟩ := h
  exact ⟨vs, slc_of_owns h1, h3.each⟩
theorem OwnEach.up {lo hi : Nat} {w w' : World} {vs : List Value} {zss : List (List Int)} {B : Nat} (h : OwnEach lo hi w vs zss) (hb : Below B w w') (hB : w.heap.size ≤ B) : OwnEach lo hi w' vs zss :=
  ⟨h.1, fun i u zs h1 h2 => (h.2.1 i u zs h1 h2).up hb hB, h.2.2⟩
theorem OwnL.up {lo hi : Nat} {w w' : World} {v : Value} {zss : List (List Int)} {B : Nat} (h : OwnL lo hi w v zss) (hb : Below B w w') (hB : w.heap.size ≤ B) : OwnL lo hi w' v zss := by
  obtain ⟨vs, h1, h2, h3⟩ := h
  exact ⟨vs, owns_below h1 hb hB, h2, h3.up hb hB⟩
theorem OwnEach.wide {lo hi lo' hi' : Nat} {w : World} {vs : List Value} {zss : List (List Int)} (h : OwnEach lo hi w vs zss) (a : lo' ≤ lo) (b : hi ≤ hi') : OwnEach lo' hi' w vs zss :=
  ⟨h.1, fun i u zs h1 h2 => (h.2.1 i u zs h1 h2).wide a b, h.2.2⟩
theorem OwnL.wide {lo hi lo' hi' : Nat} {w : World} {v : Value} {zss : List (List Int)} (h : OwnL lo hi w v zss) (a : lo' ≤ lo) (b : hi ≤ hi') : OwnL lo' hi' w v zss := by
  obtain ⟨vs, h1, h2, h3⟩ := h
  exact ⟨vs, owns_base h1 a, fun g hg => Nat.lt_of_lt_of_le (h2 g hg) b, h3.wide a b⟩
theorem OwnL.kept {lo hi : Nat} {w w' : World} {v : Value} {zss : List (List Int)} {S : Nat → Prop} (h : OwnL lo hi w v zss) (hk : Kept S w w') (hs : ∀ b, lo ≤ b → b < hi → ¬ S b) : OwnL lo hi w' v zss := by
  obtain ⟨vs, h1, h2, h3⟩ := h
  exact ⟨vs, owns_kept h1 hk fun g hg => hs g (owns_lt h1 hg).1 (h2 g hg), h2, h3.1, fun i u zs a b => (h3.2.1 i u zs a b).kept hk hs, h3.2.2⟩

theorem sum_take_succ (zss : List (List Int)) (k : Nat) (hk : k < zss.length) : lsum (zss.take (k + 1)) = lsum (zss.take k) + (zss.getD k []).length := by
  rw [List.take_succ_eq_append_getElem hk, lsum_append]
  simp [hk, lsum]

theorem bulkL_le (zss : List (List Int)) (k : Nat) : lsum (zss.take k) + zss.length ≤ bulkL zss := by
  unfold bulkL
  have : lsum (zss.take k) + lsum (zss.drop k) = lsum zss := by rw [← lsum_append, List.take_append_drop]
  omega

set_option maxHeartbeats 400000 in
theorem szL_any (v : Value) (zss : List (List Int)) (left : Int) (w : World) (h : RdL w v zss) (h1 : left ≤ 1048576) (h0 : 0 ≤ left) :
    Calls Try.prog 51 #[v, .int .i64 left] w fun e w' => ∃ r : Int, e = .returned (.int .i64 r) ∧ -1 ≤ r ∧ r ≤ left ∧ (0 ≤ r → (bulkL zss : Int) ≤ left - r) ∧ Below w.heap.size w w' := by
  obtain ⟨a, c, rfl⟩ := h.shape
  have hl := h.len
  unfold maxLen at hl
  have HS := Lib.hid h
  clear h
  by_cases hn : left - zss.length < 0
  · go_enter Try.func51, Try.ntmps51
    go_wp2_with fail
    go_ret
    exact ⟨-1, rfl, by omega, by omega, by omega, Below.refl _ _⟩
  · go_enter Try.func51, Try.ntmps51
    go_wp2_with fail
    go_loopw [1, 5] (fun l i wr => ∃ (k : Nat) (r : Int), i = .int .i64 k ∧ k ≤ zss.length ∧ l = .int .i64 r ∧ 0 ≤ r ∧ r ≤ left ∧ Hid (lsum (zss.take k) + zss.length ≤ left - r) ∧ Below w.heap.size w wr) (fun _ i _ => zss.length - (intOf i).toNat)
    case atStart => exact ⟨0, left - zss.length, rfl, Nat.zero_le _, rfl, by omega, by omega, (by simp [lsum]; omega : lsum (zss.take 0) + (zss.length : Int) ≤ left - (left - zss.length)), Below.refl _ _⟩
    case round =>
      obtain ⟨k, r, rfl, hk, rfl, hr0, hr1, hsum, hb⟩ := hrel
      have HB := Lib.hid hb
      clear hb
      by_cases hlt : k < zss.length
      · obtain ⟨b, off, u, rfl, hbk, hc, hu⟩ := (HS.out.up HB.out (Nat.le_refl _)).at hlt
        have HU := Lib.hid hu
        clear hu
        go_wp2_with fail
        refine (szI_any _ _ _ _ HU.out (by omega) hr0).mono ?_
        rintro e w1 ⟨r', rfl, s1, s2, s3, hb1⟩
        have HB1 := Lib.hid (HB.out.trans (hb1.mono HB.out.size))
        clear hb1
        by_cases hneg : r' < 0
        · go_wp2_with fail
          go_ret
          exact ⟨-1, rfl, by omega, by omega, by omega, HB1.out⟩
        · go_wp2_with fail
          go_roundw
          case rel =>
            refine ⟨k + 1, r', by go_num, by omega, rfl, by omega, by omega, ?_, HB1.out⟩
            have h3 := s3 (by omega)
            have h4 := hsum.out
            unfold bulkI at h3
            show (lsum (zss.take (k + 1)) : Int) + zss.length ≤ left - r'
            rw [sum_take_succ zss k hlt]
            push_cast
            omega
          case measure => simp [intOf]; omega
      · obtain rfl : k = zss.length := by omega
        go_wp2_with fail
        go_ret
        refine ⟨r, rfl, by omega, by omega, fun _ => ?_, HB.out⟩
        have h4 := hsum.out
        rw [List.take_length] at h4
        unfold bulkL
        push_cast
        omega

theorem Try.infoInts : (Try.prog.info? 60).map (fun i => (i.zero, i.size, i.bytes)) = some (some (.slice none 0 0), 1, 24) := by kernel_rfl

set_option maxHeartbeats 800000 in
theorem toL_any (v : Value) (zss : List (List Int)) (w : World) (h : RdL w v zss) (hb : bulkL zss ≤ 1048576) :
    Calls Try.prog 54 #[v] w fun e w' => ∃ v', e = .returned v' ∧ OwnL w.heap.size w'.heap.size w' v' zss ∧ Below w.heap.size w w' := by
  obtain ⟨i0, hi, hz0, hz1, hz2⟩ := info_parts Try.infoInts
  obtain ⟨a, c, rfl⟩ := h.shape
  have hln : zss.length ≤ 1048576 := by unfold bulkL at hb; omega
  have HS := Lib.hid h
  have HBU := Lib.hid hb
  clear h hb
  go_enter Try.func54, Try.ntmps54
  go_wp2_with (at_make; refine wpList_make_full _ rfl _ _ 28 rfl w.heap.size 60 i0 (.slice none 0 0) 1 Try.underlying28 hi hz0 hz1 .i64 .i64 zss.length zss.length zss.length rfl rfl rfl rfl (by rw [hz2]; omega) (by unfold maxLen; omega) (by simp) ?_; intro w1 hown hgrow)
  have hb1 : Below w.heap.size w w1 := (Below.refl _ _).grown hgrow (Nat.le_refl _) (by intro k hk; cases hk)
  have hlt1 := (owns_lt hown (k := w.heap.size) rfl).2
  have hz : (madeCells (Value.slice none 0 0).cells (zss.length * 1)).toList = List.replicate zss.length (.slice none 0 0) := by
    simpa [Value.cells] using toList_madeCells_one (Value.slice none 0 0) zss.length
  rw [hz] at hown
  have HO := Lib.hid hown
  have HB := Lib.hid hb1
  have HL := Lib.hid hlt1
  clear hown hb1 hz hgrow hlt1
  go_loopw [4] (fun i wr => ∃ (k : Nat) (vs : List Value), i = .int .i64 k ∧ k ≤ zss.length ∧ vs.length = k ∧ wr.ownsRow w.heap.size 60 1 (.slice (some ⟨w.heap.size, 0, none⟩) zss.length zss.length) zss.length (vs ++ List.replicate (zss.length - k) (.slice none 0 0)) ∧ OwnEach w.heap.size wr.heap.size wr vs (zss.take k) ∧ w.heap.size < wr.heap.size ∧ Below w.heap.size w wr) (fun i _ => zss.length - (intOf i).toNat)
  case atStart => exact ⟨0, [], rfl, Nat.zero_le _, rfl, by simpa using HO.out, ⟨rfl, by intro i u zs h; simp at h, by intro i j u u' g _ h; simp at h⟩, HL.out, HB.out⟩
  case round =>
    obtain ⟨k, vs, rfl, hk, hvl, hown, heach, hlt2, hbel⟩ := hrel
    have HO1 := Lib.hid hown
    have HE1 := Lib.hid heach
    have HB1 := Lib.hid hbel
    have HV := Lib.hid hvl
    clear hown heach hbel hvl
    by_cases hlt : k < zss.length
    · obtain ⟨b, off, u, rfl, hb0, hc, hu⟩ := (HS.out.up HB1.out (Nat.le_refl _)).at hlt
      have hle : bulkI (zss.getD k []) ≤ 1048576 := by
        have h1 := bulkL_le zss (k + 1)
        rw [sum_take_succ zss k hlt] at h1
        have h2 := HBU.out
        unfold bulkI; omega
      obtain ⟨z, hzk⟩ : ∃ z, z = zss.getD k [] := ⟨_, rfl⟩
      rw [← hzk] at hu hle
      have HU := Lib.hid hu
      have HLE := Lib.hid hle
      have HZK := Lib.hid hzk
      clear hu hle hzk
      go_wp2_with fail
      refine (toI_any _ _ _ HU.out HLE.out).mono ?_
      rintro e w2 ⟨v', rfl, ho2, hb2⟩
      obtain ⟨a2, c2, e2⟩ := ho2.rd.shape
      subst e2
      have ho1' := owns_below HO1.out hb2 (Nat.le_refl _)
      have hd := ho1'.cellAt k (by omega)
      have hfr := ho1'.frozenAt k
      have hdl : (vs ++ List.replicate (zss.length - k) (Value.slice none 0 0))[k]? = some (.slice none 0 0) := by
        have := HV.out
        rw [List.getElem?_append_right (by omega)]
        simp [List.getElem?_replicate]
        omega
      rw [hdl] at hd
      have HO2 := Lib.hid ho2
      have HB2 := Lib.hid hb2
      have HO1' := Lib.hid ho1'
      have hsz2 := hb2.size
      clear ho2 hb2 ho1' hdl
      go_wp2_with fail
      go_roundw
      case rel =>
        refine ⟨k + 1, vs ++ [.slice a2 z.length c2], by go_num, by omega, by simp [HV.out], ?_, ?_, by simp; omega, (HB1.out.trans (HB2.out.mono HB1.out.size)).setCell (Nat.le_refl _) _⟩
        · have h1 := (HO1'.out.stored k (.slice a2 z.length c2)).1
          have e : List.replicate (zss.length - k) (Value.slice none 0 0) = .slice none 0 0 :: List.replicate (zss.length - (k + 1)) (.slice none 0 0) := by
            rw [show zss.length - k = (zss.length - (k + 1)) + 1 by omega, List.replicate_succ]
          rw [e, set_mid _ _ _ _ _ HV.out] at h1
          simpa using h1
        · have hw : (w2.setCell ⟨w.heap.size, k, none⟩ (.slice a2 z.length c2)).heap.size = w2.heap.size := by simp
          rw [hw]
          have hkp : Kept (· = w.heap.size) w2 (w2.setCell ⟨w.heap.size, k, none⟩ (.slice a2 z.length c2)) := Kept.setCell (S := (· = w.heap.size)) (Kept.refl _ _) (.inr rfl) _
          have hob : ∀ u zs lo hi, OwnI lo hi w2 u zs → OwnI lo hi (w2.setCell ⟨w.heap.size, k, none⟩ (.slice a2 z.length c2)) u zs := by
            intro u zs lo hi ho
            refine ⟨owns_kept ho.1 hkp ?_, ho.2⟩
            rintro g hg rfl
            rcases ho.1.2 with ⟨e, _⟩ | ⟨g', cap, cur, e, _, hh, _⟩
            · rw [e] at hg; cases hg
            · rw [e] at hg
              simp [Value.ownBlock] at hg
              subst hg
              rcases HO1'.out.2 with ⟨e3, _⟩ | ⟨g3, cap3, cur3, e3, _, hh3, _⟩
              · simp at e3
              · simp at e3
                rw [← e3.1] at hh3
                rw [hh] at hh3
                simp at hh3
          refine ⟨by simp [HV.out]; omega, ?_, ?_⟩
          · intro i u zs h1 h2
            by_cases hik : i < k
            · rw [List.getElem?_append_left (by rw [HV.out]; exact hik)] at h1
              rw [List.getElem?_take_of_lt (by omega)] at h2
              refine hob _ _ _ _ ((HE1.out.2.1 i u zs h1 (by rw [List.getElem?_take_of_lt hik]; exact h2)).up HB2.out (Nat.le_refl _) |>.wide (Nat.le_refl _) hsz2)
            · have hik' : i = k := by
                have := (List.getElem?_eq_some_iff.1 h1).1
                simp [HV.out] at this
                omega
              subst hik'
              rw [List.getElem?_append_right (by rw [HV.out]; exact Nat.le_refl _), HV.out] at h1
              rw [List.getElem?_take_of_lt (by omega)] at h2
              simp at h1
              subst h1
              have : zs = z := by rw [HZK.out]; simp [h2]
              subst this
              exact hob _ _ _ _ (HO2.out.wide HB1.out.size (Nat.le_refl _))
          · intro i j u u' g hij h1 h2 hg hg'
            have hnew : ∀ (i : Nat) u, (vs ++ [Value.slice a2 z.length c2])[i]? = some u → u.ownBlock = some g → (i < k ∧ g < wr.heap.size) ∨ (i = k ∧ wr.heap.size ≤ g) := by
              intro i u h1 hg
              by_cases hik : i < k
              · rw [List.getElem?_append_left (by rw [HV.out]; exact hik)] at h1
                have hz : (zss.take k)[i]? = some (zss.getD i []) := by
                  rw [List.getElem?_take_of_lt hik]; simp [show i < zss.length by omega]
                exact .inl ⟨hik, (HE1.out.2.1 i u _ h1 hz).2 g hg⟩
              · have hik' : i = k := by
                  have := (List.getElem?_eq_some_iff.1 h1).1
                  simp [HV.out] at this
                  omega
                subst hik'
                rw [List.getElem?_append_right (by rw [HV.out]; exact Nat.le_refl _), HV.out] at h1
                simp at h1
                subst h1
                exact .inr ⟨rfl, (owns_lt HO2.out.1 hg).1⟩
            have a1 := hnew i u h1 hg
            have a2' := hnew j u' h2 hg'
            have hlti : ∀ (i : Nat) u, i < k → (vs ++ [Value.slice a2 z.length c2])[i]? = some u → vs[i]? = some u := by
              intro i u hik h
              rwa [List.getElem?_append_left (by rw [HV.out]; exact hik)] at h
            rcases a1 with ⟨x1, x2⟩ | ⟨x1, x2⟩ <;> rcases a2' with ⟨y1, y2⟩ | ⟨y1, y2⟩
            · exact HE1.out.2.2 i j u u' g hij (hlti i u x1 h1) (hlti j u' y1 h2) hg hg'
            · omega
            · omega
            · omega
      case measure => simp [intOf]; omega
    · obtain rfl : k = zss.length := by omega
      go_wp2_with fail
      go_ret
      refine ⟨_, rfl, ⟨vs, by simpa using HO1.out, by intro g hg; simp [Value.ownBlock] at hg; omega, ?_⟩, HB1.out⟩
      have := HE1.out
      rwa [List.take_length] at this

set_option maxHeartbeats 400000 in
theorem eqL_same (v v' : Value) (zss : List (List Int)) (w : World) (h : RdL w v zss) (h' : RdL w v' zss) :
    Calls Try.prog 59 #[v, v'] w fun e w' => e = .returned (.bool true) ∧ Below w.heap.size w w' := by
  obtain ⟨a, c, rfl⟩ := h.shape
  obtain ⟨a', c', rfl⟩ := h'.shape
  have hl := h.len
  unfold maxLen at hl
  have HS := Lib.hid h
  have HS' := Lib.hid h'
  have hne : ((zss.length : Int) != (zss.length : Int)) = false := by simp
  clear h h'
  go_enter Try.func59, Try.ntmps59
  go_wp2_with fail
  go_loopw [5] (fun i wr => ∃ k : Nat, i = .int .i64 k ∧ k ≤ zss.length ∧ Below w.heap.size w wr) (fun i _ => zss.length - (intOf i).toNat)
  case atStart => exact ⟨0, rfl, Nat.zero_le _, Below.refl _ _⟩
  case round =>
    obtain ⟨k, rfl, hk, hb⟩ := hrel
    have HB := Lib.hid hb
    clear hb
    by_cases hlt : k < zss.length
    · obtain ⟨b, off, u, rfl, hbk, hc, hu⟩ := (HS.out.up HB.out (Nat.le_refl _)).at hlt
      obtain ⟨b', off', u', rfl, hbk', hc', hu'⟩ := (HS'.out.up HB.out (Nat.le_refl _)).at hlt
      have HU := Lib.hid hu
      have HU' := Lib.hid hu'
      clear hu hu'
      have hd : decide (zss.getD k [] = zss.getD k []) = true := by simp
      obtain ⟨zk, hzk⟩ : ∃ zk, zk = zss.getD k [] := ⟨_, rfl⟩
      rw [← hzk] at HU HU'
      clear hzk hd
      go_wp2_with fail
      go_quiet ((go_at_call 86; exact eqI_qs _ _ zk _ _ HU.out HU'.out))
      go_wp2_with fail
      go_roundw
      case rel => exact ⟨k + 1, by go_num, by omega, below_drewN HB.out _⟩
      case measure => simp [intOf]; omega
    · obtain rfl : k = zss.length := by omega
      go_wp2_with fail
      go_ret
      exact ⟨rfl, HB.out⟩

end Go.Proofs.Ytljhohacgceojaa
