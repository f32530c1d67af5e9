/-
  The first square.
-/
import Derived.Test.YtkcpncaedocdnaaCountSM
import Derived.Deep.RegionHeld3
namespace Go.Proofs.Ytkcpncaedocdnaa
open Go.RowKit

theorem isols_mem (n : Nat) : ∀ (f : Nat) (sq : List Int) (i : Nat) (s : List Int), s ∈ isols n f sq i → s.length = sq.length
  | 0, sq, i, s, h => by simp only [isols, List.mem_singleton] at h; rw [h]
  | f + 1, sq, i, s, h => by
    simp only [isols, List.mem_flatMap] at h
    obtain ⟨v, _, h⟩ := h
    split at h
    · have := isols_mem n f _ _ _ h; simpa using this
    · simp at h

/-- What is returned. -/
def fsIn (n : Int) (xs : List Int) : Bool := decide ((1 ≤ n ∧ n ≤ 5) ∧ (xs.length : Int) = n * n ∧ allIn 0 n xs = true)
def fsOk (n : Int) (xs : List Int) : Bool := fsIn n xs && !(isols n.toNat (n.toNat * n.toNat) xs 0).isEmpty
def fsL (n : Int) (xs : List Int) : List Int := if fsIn n xs = true then (isols n.toNat (n.toNat * n.toNat) xs 0).head?.getD [] else []
theorem fsIn_iff (n : Int) (xs : List Int) : fsIn n xs = true ↔ CellsOk n 5 xs := by unfold fsIn CellsOk; simp
theorem fsL_cnt (n : Int) (xs : List Int) : cntI (fsL n xs) ≤ 1048576 := by
  unfold cntI fsL
  split
  · next h =>
    obtain ⟨N, rfl, h1, h5, _, hl, _, _⟩ := ((fsIn_iff _ _).1 h).good (by omega)
    cases hq : isols (N : Int).toNat ((N : Int).toNat * (N : Int).toNat) xs 0 with
    | nil => simp
    | cons s r =>
      have := isols_mem _ _ _ _ s (by rw [hq]; simp)
      have : N * N ≤ 25 := Nat.mul_le_mul h5 h5
      simp; omega
  · simp

theorem Try.entersFS (args : Array Value) (w : World) : (callFunc 107 args).run Try.prog w = .ok (.enter 107 args) w :=
  enters_of Try.func107 (by kernel_rfl) rfl args w

/-- The variable of the closure. -/
def FS (B0 fb : Nat) (done : List (List Int)) (w : World) : Prop :=
  (done = [] ∧ Box w fb 22 (.slice none 0 0)) ∨
  ∃ s g cap, done = [s] ∧ s ≠ [] ∧ Box w fb 22 (.slice (some ⟨g, 0, none⟩) s.length cap) ∧ w.ownsRow B0 2 1 (.slice (some ⟨g, 0, none⟩) s.length cap) s.length (s.map I64)

theorem FS.up {B0 fb : Nat} {done : List (List Int)} {w w' : World} (h : FS B0 fb done w) (hb : Below w.heap.size w w') : FS B0 fb done w' := by
  rcases h with ⟨h1, h2⟩ | ⟨s, g, cap, h1, h0, h2, h3⟩
  · exact .inl ⟨h1, h2.below hb h2.lt⟩
  · exact .inr ⟨s, g, cap, h1, h0, h2.below hb h2.lt, owns_below h3 hb (Nat.le_refl _)⟩

set_option maxHeartbeats 400000 in
theorem fillS1_any (B0 fb n : Nat) (hn : 1 ≤ n) (done : List (List Int)) (s : List Int) (a : Option Addr) (cap m : Nat) (w : World) (hm : s.length = m) (hmn : m = n) (hs : w.ownsRow B0 2 1 (.slice a m cap) m (s.map I64)) (hfb : fb < B0) (hd : (done ++ [s]).length ≤ 1) (h : FS B0 fb done w) :
    Calls Try.prog 107 (#[.slice a m cap] ++ #[.pointer (some ⟨fb, 0, none⟩)]) w fun e w' => e = .returned (.bool false) ∧ FS B0 fb (done ++ [s]) w' ∧ Kept (· = fb) w w' := by
  subst hm
  subst hmn
  obtain ⟨g0, rfl, hg0⟩ := owns_slice_some hs (by omega)
  rcases h with ⟨rfl, h2⟩ | ⟨s', g, cap', rfl, h0, h2, h3⟩
  · have hc := h2.cell
    have hf := h2.free
    have HS := Lib.hid hs
    have HB := Lib.hid h2
    clear hs h2
    go_enter Try.func107, Try.ntmps107
    go_wp2_with fail
    go_ret
    refine ⟨rfl, .inr ⟨s, g0, cap, rfl, by intro e; subst e; simp at hn, HB.out.set _, ?_⟩, Kept.setCell (S := (· = fb)) (Kept.refl _ _) (.inr rfl) _⟩
    exact owns_other HS.out (by simp [Value.ownBlock]; omega) _
  · simp at hd

set_option maxHeartbeats 2000000 in
set_option maxRecDepth 4000 in
theorem implFillS_any (n : Int) (v : Value) (xs : List Int) (w : World) (h : RdI w v xs) :
    Calls Try.prog 50 #[.int .i64 n, v] w fun e w' => ∃ v, e = .returned (.tuple #[v, .bool (fsOk n xs)]) ∧ OwnI w.heap.size w'.heap.size w' v (fsL n xs) ∧ Below w.heap.size w w' := by
  have hne := fun (w : World) (a : Option Addr) (n c : Nat) => run_neq_slice_nil_any (P := Try.prog) w 22 2 a n c 0 0 Try.underlying22
  have hsq := Lib.hid (isSquare_any n 5 (by omega) v xs w h)
  obtain ⟨a, c, rfl⟩ := h.shape
  have HS := Lib.hid h
  have HN := Lib.hid hne
  clear h hne
  go_enter Try.func50, Try.ntmps50
  go_wp2_with fail
  refine hsq.out.mono ?_
  rintro e w' ⟨⟨hok, rfl⟩ | ⟨hok, rfl⟩, rfl⟩
  · obtain ⟨N, rfl, h1, h5, h4, hl, hr, hall⟩ := hok.good (by omega)
    have HOK := Lib.hid ((fsIn_iff _ _).2 hok)
    have HL := Lib.hid hl
    have HR := Lib.hid hr
    have hNN := Lib.hid (Nat.mul_le_mul h1 h1)
    clear hok hl hr hsq hall
    go_wp2_with fail
    refine (eachSquare_any N h1 h5 false 1 107 Try.entersFS #[.pointer (some ⟨w.heap.size, 0, none⟩)] (w.heap.size + 1) (· = w.heap.size) (by omega)
      (fun done w' => FS (w.heap.size + 1) w.heap.size done w' ∧ Below w.heap.size w w') ?_ ?_ (N * N) a c xs _ [] xs.length 0 (by omega) rfl HL.out HR.out ?_ ?_ ?_ ?_ ?_).mono ?_
    · rintro done w1 w2 ⟨hb, hbl⟩ h12
      exact ⟨hb.up h12, hbl.trans (h12.mono hbl.size)⟩
    · rintro done s a cap m w1 hm hmn hs hlen ⟨hb, hbl⟩
      refine (fillS1_any _ _ (N * N) (by have := hNN.out; omega) done s a cap m w1 hm hmn hs (by omega) hlen hb).mono ?_
      rintro e w2 ⟨rfl, h1, h2⟩
      exact ⟨rfl, ⟨h1, hbl.trans (h2.toBelow hbl.size (by intro k h1 h2; omega))⟩, h2⟩
    · simp
    · intro e
      have := hNN.out
      omega
    · intro w' hk
      refine HS.out.up ((((Below.refl w.heap.size w).alloc (Nat.le_refl _) _).trans (hk.toBelow (by simp) (by intro k h1 h2; omega)))) (Nat.le_refl _)
    · exact ⟨.inl ⟨rfl, Box.new w 22 (.slice none 0 0)⟩, (Below.refl _ _).alloc (Nat.le_refl _) _⟩
    · simp [visS]; omega
    · rintro e w1 ⟨rfl, ⟨hq, hbl⟩, hk⟩
      simp only [List.nil_append, visS, Bool.false_eq_true, if_false] at hq
      have HB := Lib.hid hbl
      have hne := HN.out
      clear hbl hk
      rcases hq with ⟨q1, q2⟩ | ⟨s, g, cap, q1, q0, q2, q3⟩
      · have hc := q2.cell
        have H1 := Lib.hid (show isols N (N * N) xs 0 = [] by simpa using q1)
        clear q1 q2
        go_wp2_with fail
        go_region_held3 (fun w' => w'.cell? ⟨w.heap.size, 0, none⟩ = some (.slice none 0 0) ∧ Below w1.heap.size w1 w')
          (first | exact ⟨held_of hbn hc (Nat.le_refl _), hbn⟩ | exact ⟨hc, (Below.refl _ _).drew⟩)
          (first | (go_at_call 108; have hh := (‹_ ∧ Below w1.heap.size w1 _›).2; refine (copyInts_any none 0 [] _ (Slc.nil _) (by simp)).mono ?_; rintro e w2 ⟨g2, cap2, rfl, hown, hb⟩; have hbn := hh.trans (hb.mono hh.size)))
        go_wp2_with fail
        go_ret2
        refine ⟨_, by simp [fsOk, HOK.out, H1.out]; rfl, ?_, HB.out.trans (hbn.mono HB.out.size)⟩
        have e : fsL (N : Int) xs = [] := by simp [fsL, HOK.out, H1.out]
        rw [e]
        exact OwnI.mk (owns_base hown (by have := HB.out.size; have := hh.size; omega))
      · have hc := q2.cell
        have H1 := Lib.hid (show ∃ r, isols N (N * N) xs 0 = s :: r by
          cases hq : isols N (N * N) xs 0 with
          | nil => rw [hq] at q1; simp at q1
          | cons s' r => rw [hq] at q1; simp at q1; exact ⟨r, by rw [q1]⟩)
        have H3 := Lib.hid q3
        have hslen : s.length ≤ 17592186044416 := by
          obtain ⟨r, hr⟩ := H1.out
          have e1 := isols_mem _ _ _ _ s (by rw [hr]; simp)
          have : N * N ≤ 25 := Nat.mul_le_mul h5 h5
          have := HL.out
          omega
        have HSL := Lib.hid hslen
        clear q1 q2 q3 q0 hslen
        go_wp2_with fail
        go_region_held3 (fun w' => w'.cell? ⟨w.heap.size, 0, none⟩ = some (.slice (some ⟨g, 0, none⟩) s.length cap) ∧ Below w1.heap.size w1 w')
          (first | exact ⟨held_of hbn hc (Nat.le_refl _), hbn⟩ | exact ⟨hc, (Below.refl _ _).drew⟩)
          (first | (go_at_call 108; have hh := (‹_ ∧ Below w1.heap.size w1 _›).2; refine (copyInts_any (some ⟨g, 0, none⟩) cap s _ ((slc_of_owns H3.out).below hh (Nat.le_refl _)) HSL.out).mono ?_; rintro e w2 ⟨g2, cap2, rfl, hown, hb⟩; have hbn := hh.trans (hb.mono hh.size)))
        go_wp2_with fail
        go_ret2
        obtain ⟨r, hr⟩ := H1.out
        refine ⟨_, by simp [fsOk, HOK.out, hr]; rfl, ?_, HB.out.trans (hbn.mono HB.out.size)⟩
        have e : fsL (N : Int) xs = s := by simp [fsL, HOK.out, hr]
        rw [e]
        exact OwnI.mk (owns_base hown (by have := HB.out.size; have := hh.size; omega))
  · have HOK := Lib.hid (show fsIn n xs = false by rw [← Bool.not_eq_true, fsIn_iff]; exact hok)
    clear hok hsq
    go_wp2_with fail
    go_ret2
    exact ⟨_, by simp [fsOk, HOK.out]; rfl, ⟨by simp [fsL, HOK.out]; exact World.ownsRow_nil _ _ _ _, by intro g hg; cases hg⟩, Below.refl _ _⟩

set_option maxHeartbeats 2000000 in
set_option maxRecDepth 4000 in
theorem specFillS_any (n : Int) (v : Value) (xs : List Int) (w : World) (h : RdI w v xs) :
    Calls Try.prog 52 #[.int .i64 n, v] w fun e w' => ∃ v, e = .returned (.tuple #[v, .bool (fsOk n xs)]) ∧ OwnI w.heap.size w'.heap.size w' v (fsL n xs) ∧ Below w.heap.size w w' := by
  have hsq := Lib.hid (l07Cells_any n 5 (by omega) v xs w h)
  obtain ⟨a, c, rfl⟩ := h.shape
  have HS := Lib.hid h
  clear h
  go_enter Try.func52, Try.ntmps52
  go_wp2_with fail
  refine hsq.out.mono ?_
  rintro e w' ⟨⟨hok, rfl⟩ | ⟨hok, rfl⟩, rfl⟩
  · obtain ⟨N, rfl, h1, h5, h4, hl, hr, hall⟩ := hok.good (by omega)
    have HOK := Lib.hid ((fsIn_iff _ _).2 hok)
    rw [Int.toNat_natCast]
    by_cases hf : cellsFit N xs = true
    · have HE := Lib.hid (isols_fit h1 hl hall hf)
      rw [hf]
      have HL := Lib.hid hl
      have hl25 : xs.length ≤ 25 := by rw [hl]; exact Nat.mul_le_mul h5 h5
      clear hok hl hr hsq hall hf
      obtain ⟨W3, hW3⟩ : ∃ W3, W3 = ((w.alloc (.cells #[] 2)).alloc (.cells #[.slice (some ⟨w.heap.size, 0, none⟩) 0 0] 22)).alloc (.cells #[] 2) := ⟨_, rfl⟩
      have HWB := Lib.hid (show Below w.heap.size w W3 by subst hW3; exact (((Below.refl w.heap.size w).alloc (Nat.le_refl _) _).alloc (by simp) _).alloc (by simp; omega) _)
      have HWS := Lib.hid (show W3.heap.size = w.heap.size + 3 by subst hW3; simp)
      have HBX := Lib.hid (show Box W3 (w.heap.size + 1) 22 (.slice (some ⟨w.heap.size, 0, none⟩) 0 0) by
        subst hW3
        have := (Box.new (w.alloc (.cells #[] 2)) 22 (.slice (some ⟨w.heap.size, 0, none⟩) 0 0)).below (w' := (((w.alloc (.cells #[] 2)).alloc (.cells #[.slice (some ⟨w.heap.size, 0, none⟩) 0 0] 22)).alloc (.cells #[] 2))) ((Below.refl _ _).alloc (Nat.le_refl _) _) (by simp)
        simpa using this)
      have HOE := Lib.hid (show W3.ownsRow (w.heap.size + 2) 2 1 (.slice (some ⟨w.heap.size + 1 + 1, 0, none⟩) 0 0) 0 (([] : List Int).map I64) by
        subst hW3
        have := owns_empty ((w.alloc (.cells #[] 2)).alloc (.cells #[.slice (some ⟨w.heap.size, 0, none⟩) 0 0] 22))
        simpa using this)
      have HSL := Lib.hid (HS.out.up HWB.out (Nat.le_refl _))
      clear HS
      go_wp2_with (at_builtin; (try rw [← hW3]); refine app_own rfl _ _ rfl (w.heap.size + 2) ⟨w.heap.size + 1 + 1, 0, none⟩ 0 0 [] rfl HOE.out _ xs rfl HSL.out xs.length xs (by simp) (by simp) (by omega) (by have := HWS.out; omega) ?_; intro g cap' w1 hown hbl hg; have HOW := Lib.hid (OwnI.mk hown); have HBL := Lib.hid hbl; clear hown hbl hg)
      have hz := HBL.out.size
      have hz3 := HWS.out
      refine (l07Squares_any w1.heap.size N 1 h1 h5 (by omega) (N * N) _ (w.heap.size + 2) w1.heap.size xs 0 w1 (w.heap.size + 1) (.slice (some ⟨w.heap.size, 0, none⟩) 0 0) [] (by omega) HL.out HOW.out (HBX.out.below HBL.out (by omega)) (.inl ⟨rfl, _, _, rfl⟩) (Nat.le_refl _) (Nat.le_refl _) (.inl (by omega))).mono ?_
      rintro e w2 ⟨rfl, _, ⟨fv, hb2, hfi⟩, hk⟩
      have HB := Lib.hid ((HWB.out.trans (HBL.out.mono (by omega))).trans (hk.toBelow (by omega) (by rintro k h1 (h2 | ⟨h2, _⟩) <;> omega)))
      have hc2 := hb2.cell
      have HH := Lib.hid (show (msols N 1 (N * N) xs 0).head? = (isols N (N * N) xs 0).head? by rw [HE.out]; exact msols_head (Nat.le_refl _))
      simp only [List.nil_append] at hfi
      clear hk hb2 hW3
      rcases hfi with ⟨m1, fa, fc, rfl⟩ | ⟨s, r, g2, fc, m1, m2, rfl, hown⟩
      · have H1 := Lib.hid (show isols N (N * N) xs 0 = [] by have := HH.out; rw [m1] at this; simpa using this.symm)
        clear m1
        go_wp2_with fail
        go_ret2
        refine ⟨_, by simp [fsOk, HOK.out, H1.out]; rfl, ?_, HB.out⟩
        have e : fsL (N : Int) xs = [] := by simp [fsL, HOK.out, H1.out]
        rw [e]
        exact ⟨World.ownsRow_nil _ _ _ _, by intro g hg; cases hg⟩
      · have H1 := Lib.hid (show ∃ r, isols N (N * N) xs 0 = s :: r by
          have := HH.out
          rw [m1] at this
          cases hq : isols N (N * N) xs 0 with
          | nil => rw [hq] at this; simp at this
          | cons s' r => rw [hq] at this; simp at this; exact ⟨r, by rw [this]⟩)
        have hsn : ((s.length : Int) == 0) = false := by
          have : s.length ≠ 0 := fun e => m2 (List.length_eq_zero_iff.1 e)
          simp; omega
        have H3 := Lib.hid hown
        clear m1 m2 hown
        go_wp2_with fail
        go_ret2
        obtain ⟨r, hr⟩ := H1.out
        refine ⟨_, by simp [fsOk, HOK.out, hr]; rfl, ?_, HB.out⟩
        have e : fsL (N : Int) xs = s := by simp [fsL, HOK.out, hr]
        rw [e]
        exact OwnI.mk (owns_base H3.out (by omega))
    · rw [Bool.not_eq_true] at hf
      have HE := Lib.hid (isols_unfit h1 hl hall hf)
      rw [hf]
      clear hok hl hr hsq hall hf
      go_wp2_with fail
      go_ret2
      exact ⟨_, by simp [fsOk, HOK.out, HE.out]; rfl, ⟨by simp [fsL, HOK.out, HE.out]; exact World.ownsRow_nil _ _ _ _, by intro g hg; cases hg⟩, Below.refl _ _⟩
  · have HOK := Lib.hid (show fsIn n xs = false by rw [← Bool.not_eq_true, fsIn_iff]; exact hok)
    clear hok hsq
    go_wp2_with fail
    go_ret2
    exact ⟨_, by simp [fsOk, HOK.out]; rfl, ⟨by simp [fsL, HOK.out]; exact World.ownsRow_nil _ _ _ _, by intro g hg; cases hg⟩, Below.refl _ _⟩

end Go.Proofs.Ytkcpncaedocdnaa
