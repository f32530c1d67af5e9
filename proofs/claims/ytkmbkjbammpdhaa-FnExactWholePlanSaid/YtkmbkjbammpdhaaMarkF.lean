/-
  Lists of numbers in single precision: compared, marked, held.
-/
import Derived.Test.YtkmbkjbammpdhaaFloat64
import Derived.Test.YtkmbkjbammpdhaaMarkI
namespace Go.Proofs.Ytkmbkjbammpdhaa
open Go.RowKit

theorem eqF_same (v v' : Value) (xs : List Nat) (w : World) (h : RdF w v xs) (h' : RdF w v' xs) :
    Calls Try.prog 36 #[v, v'] w fun e w' => e = .returned (.bool true) ∧ Below w.heap.size w w' := by
  refine (eqF_q v v' xs w h h').mono ?_
  rintro e w' ⟨rfl, n, rfl⟩
  exact ⟨rfl, below_drewN (Below.refl _ _) _⟩
theorem eqF_qs (v v' : Value) (xs : List Nat) (w : World) (n : Nat) (h : RdF w v xs) (h' : RdF w v' xs) :
    Calls Try.prog 36 #[v, v'] (w.drewN n) fun e w'' => e = .returned (.bool true) ∧ ∃ m, w'' = w.drewN m := by
  refine (eqF_q v v' xs _ (h.drewN n) (h'.drewN n)).mono ?_
  rintro e w' ⟨rfl, m, rfl⟩
  exact ⟨rfl, n + m, by rw [World.drewN_drewN]⟩

/-- What is left behind the marks. -/
def mkF (k : Int) (n : Nat) : List Nat := (List.range n).map fun (i : Nat) => floatOfInt .f32 (k + i)
theorem mkF_len (k : Int) (n : Nat) : (mkF k n).length = n := by simp [mkF]
def cntF (xs : List Nat) : Nat := xs.length
theorem cntF_le (xs : List Nat) : cntF xs ≤ bulkF xs := Nat.le_refl _
def mkdF (k : Int) (xs : List Nat) : List Nat := mkF k xs.length

theorem markF_set {k : Int} {xs : List Nat} {j : Nat} (hj : j < xs.length) : ((mkF k j ++ xs.drop j).map F32).set j (.float .f32 (floatOfInt .f32 (k + j))) = (mkF k (j + 1) ++ xs.drop (j + 1)).map F32 := by
  have e : xs.drop j = xs[j] :: xs.drop (j + 1) := List.drop_eq_getElem_cons hj
  rw [e, List.map_append, List.map_cons, set_mid _ _ _ _ _ (by simp [mkF]), List.map_append]
  simp [mkF, List.range_succ, F32]

set_option maxHeartbeats 1000000 in
/-- Marks: the block alone that the list owns has turned. -/
theorem markF_fine (v : Value) (lo hi : Nat) (xs : List Nat) (k : Int) (w : World) (ho : OwnF lo hi w v xs) (h0 : 0 ≤ k) (h1 : k + xs.length ≤ 1099511627776) :
    Calls Try.prog 37 #[v, .int .i64 k] w fun e w' => e = .returned (.int .i64 (k + xs.length)) ∧ OwnF lo hi w' v (mkF k xs.length) ∧ Kept (fun b => v.ownBlock = some b) w w' := by
  obtain ⟨a, cap, rfl⟩ := ho.rd.shape
  have HO := Lib.hid ho
  have hcv := fun (W : World) (n : Int) => run_convert_int_float (P := Try.prog) (w := W) 3 37 .i64 .f32 n (by rw [Try.underlying3]; rfl) Try.und32
  clear ho
  go_enter Try.func37, Try.ntmps37
  go_wp2_with fail
  go_loopw [1, 5] (fun kk i wr => ∃ j : Nat, i = .int .i64 j ∧ j ≤ xs.length ∧ kk = .int .i64 (k + j) ∧ wr.ownsRow lo 37 1 (.slice a xs.length cap) xs.length ((mkF k j ++ xs.drop j).map F32) ∧ Kept (fun b => (Value.slice a xs.length cap).ownBlock = some b) w wr) (fun _ i _ => xs.length - (intOf i).toNat)
  case atStart => exact ⟨0, rfl, Nat.zero_le _, by simp, by simpa [mkF] using HO.out.1, Kept.refl _ _⟩
  case round =>
    obtain ⟨j, rfl, hj, rfl, hown, hkp⟩ := hrel
    have HO1 := Lib.hid hown
    have HK1 := Lib.hid hkp
    clear hkp
    by_cases hlt : j < xs.length
    · obtain ⟨g, rfl, hlo⟩ := owns_slice_some hown (by omega)
      clear hown
      have hd := HO1.out.cellAt j (by omega)
      have hfr := HO1.out.frozenAt j
      have hdl : ((mkF k j ++ xs.drop j).map F32)[j]? = some (.float .f32 (xs.getD j 0)) := by
        rw [List.getElem?_map, List.getElem?_append_right (by simp [mkF])]
        simp [F32, mkF, hlt]
      rw [hdl] at hd
      clear hdl
      go_wp2_with fail
      go_roundw
      case rel =>
        refine ⟨j + 1, by go_num, by omega, by go_num, ?_, HK1.out.setCell (p := ⟨g, j, none⟩) (.inr rfl) _⟩
        have h1 := (HO1.out.stored j (.float .f32 (floatOfInt .f32 (k + j)))).1
        rw [markF_set hlt] at h1
        exact h1
      case measure => simp [intOf]; omega
    · clear hown
      obtain rfl : j = xs.length := by omega
      go_wp2_with fail
      go_ret
      refine ⟨rfl, ⟨?_, HO.out.2⟩, HK1.out⟩
      have h := HO1.out
      rw [List.drop_length, List.append_nil] at h
      rw [mkF_len]
      exact h

theorem OwnF.blk {lo hi : Nat} {w : World} {v : Value} {xs : List Nat} (h : OwnF lo hi w v xs) {b : Nat} (hb : v.ownBlock = some b) : lo ≤ b ∧ b < hi := ⟨(owns_lt h.1 hb).1, h.2 b hb⟩

theorem markF_o (v : Value) (lo hi : Nat) (xs : List Nat) (k : Int) (w : World) (ho : OwnF lo hi w v xs) (h0 : 0 ≤ k) (h1 : k + cntF xs ≤ 1099511627776) :
    Calls Try.prog 37 #[v, .int .i64 k] w fun e w' => e = .returned (.int .i64 (k + cntF xs)) ∧ OwnF lo hi w' v (mkdF k xs) ∧ Kept (fun b => lo ≤ b ∧ b < hi) w w' := by
  refine (markF_fine v lo hi xs k w ho h0 h1).mono ?_
  rintro e w' ⟨rfl, h2, h3⟩
  exact ⟨rfl, h2, h3.mono fun b _ hb => ho.blk hb⟩

/-! ### Held -/

theorem read_word32 (s : Bool) (r : Nat) (h : r ≤ 2139095040) : (Ieee.single.read (Ieee.single.word s r)).isNaN = false := by
  have c1 : Ieee.single.signWeight = 2147483648 := rfl
  have c2 : Ieee.single.binade = 8388608 := rfl
  have c3 : Ieee.single.infRung = 2139095040 := rfl
  have e : (Ieee.single.word s r) % 2147483648 = r := by
    unfold Ieee.Format.word
    rw [c1]
    cases s <;> simp <;> omega
  unfold Ieee.Format.read
  simp only [c1, c2, c3, e]
  split
  · rfl
  · split
    · rfl
    · rw [if_pos (by omega)]; rfl
theorem nearest_nan (s : Bool) (m : Nat) (e : Int) : (Ieee.single.read (Ieee.single.nearest s m e)).isNaN = false := by
  unfold Ieee.Format.nearest
  split
  · exact read_word32 _ _ (by omega)
  · exact read_word32 _ _ (Nat.min_le_right _ _)
theorem ofInt_nan (n : Int) : (Ieee.single.read (floatOfInt .f32 n)).isNaN = false := nearest_nan _ _ _

set_option maxHeartbeats 1000000 in
theorem heldF_any (v : Value) (n : Nat) (k : Int) (w : World) (h : RdF w v (mkF k n)) (h0 : 0 ≤ k) (h1 : k + n ≤ 1099511627776) :
    Calls Try.prog 38 #[v, .int .i64 k] w fun e w' => e = .returned (.int .i64 (k + n)) ∧ Below w.heap.size w w' := by
  obtain ⟨a, cap, e⟩ := h.shape
  rw [mkF_len] at e
  subst e
  have HS := Lib.hid h
  have hcv := fun (W : World) (n : Int) => run_convert_int_float (P := Try.prog) (w := W) 3 37 .i64 .f32 n (by rw [Try.underlying3]; rfl) Try.und32
  clear h
  go_enter Try.func38, Try.ntmps38
  go_wp2_with fail
  go_loopw [1, 5] (fun kk i wr => ∃ j : Nat, i = .int .i64 j ∧ j ≤ n ∧ kk = .int .i64 (k + j) ∧ Below w.heap.size w wr) (fun _ i _ => n - (intOf i).toNat)
  case atStart => exact ⟨0, rfl, Nat.zero_le _, by simp, Below.refl _ _⟩
  case round =>
    obtain ⟨j, rfl, hj, rfl, hbl⟩ := hrel
    have HB := Lib.hid hbl
    clear hbl
    by_cases hlt : j < n
    · obtain ⟨b, off, rfl, hb, hc⟩ := (HS.out.up HB.out (Nat.le_refl _)).at (i := j) (by rw [mkF_len]; exact hlt)
      rw [show (mkF k n).getD j 0 = floatOfInt .f32 (k + j) by simp [mkF, hlt]] at hc
      have hne : (FloatKind.f32.format.order (floatOfInt .f32 (k + j)) (floatOfInt .f32 (k + j)) != some .eq) = false := by simp [show FloatKind.f32.format.order (floatOfInt .f32 (k + j)) (floatOfInt .f32 (k + j)) = some .eq from order_self _ _ (ofInt_nan _)]
      go_wp2_with fail
      go_roundw
      case rel => exact ⟨j + 1, by go_num, by omega, by go_num, HB.out⟩
      case measure => simp [intOf]; omega
    · obtain rfl : j = n := by omega
      go_wp2_with fail
      go_ret
      exact ⟨rfl, HB.out⟩

theorem heldF_o (v : Value) (xs : List Nat) (k : Int) (w : World) (h : RdF w v (mkdF k xs)) (h0 : 0 ≤ k) (h1 : k + cntF xs ≤ 1099511627776) :
    Calls Try.prog 38 #[v, .int .i64 k] w fun e w' => e = .returned (.int .i64 (k + cntF xs)) ∧ Below w.heap.size w w' :=
  heldF_any v xs.length k w h h0 h1

end Go.Proofs.Ytkmbkjbammpdhaa
