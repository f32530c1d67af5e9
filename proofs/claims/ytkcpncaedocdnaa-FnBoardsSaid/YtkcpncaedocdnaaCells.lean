/-
  Squares: which cells are such, and whether they fit, by the reference.
-/
import Derived.Test.YtkcpncaedocdnaaSquares
import Derived.Test.YtkcpncaedocdnaaAllIn
namespace Go.Proofs.Ytkcpncaedocdnaa
open Go.RowKit

def CellsOk (n top : Int) (xs : List Int) : Prop := (1 ≤ n ∧ n ≤ top) ∧ (xs.length : Int) = n * n ∧ allIn 0 n xs = true
/-- Do the known numbers fit? -/
def cellsFit (n : Nat) (xs : List Int) : Bool := (List.range xs.length).all fun i => xs.getD i 0 == 0 || fitsB n xs i (xs.getD i 0)

theorem cellsFit_iff {n : Nat} {xs : List Int} (hn : 0 < n) (hl : xs.length = n * n) (hr : allIn 0 n xs = true) : cellsFit n xs = true ↔ GoodSq n xs := by
  unfold cellsFit
  rw [List.all_eq_true]
  rw [allIn_iff] at hr
  constructor
  · intro h
    refine ⟨hl, fun v hv => ?_, fun p q hp hne e => ?_⟩
    · obtain ⟨i, hi, rfl⟩ := List.mem_iff_getElem.1 hv
      have := hr i hi
      simp [inB, hi] at this
      exact this
    · have h1 := h p (List.mem_range.2 (by rw [hl]; exact hp.2.1))
      simp only [Bool.or_eq_true, beq_iff_eq] at h1
      rcases h1 with h1 | h1
      · exact hne h1
      · exact (fits_iff hn hp.2.1).1 h1 q hp e.symm
  · intro h i hi
    have hi' := List.mem_range.1 hi
    by_cases h0 : xs.getD i 0 = 0
    · rw [h0]; rfl
    · have : fitsB n xs i (xs.getD i 0) = true := (fits_iff hn (by rw [← hl]; exact hi')).2 fun q hq e => h.2.2 i q hq h0 e.symm
      rw [this]; simp

set_option maxHeartbeats 2000000 in
theorem l07Cells_any (n top : Int) (ht : top ≤ 5) (v : Value) (xs : List Int) (w : World) (h : RdI w v xs) :
    Calls Try.prog 110 #[.int .i64 n, v, .int .i64 top] w fun e w' => (CellsOk n top xs ∧ e = .returned (.tuple #[.bool true, .bool (cellsFit n.toNat xs)]) ∨ ¬ CellsOk n top xs ∧ e = .returned (.tuple #[.bool false, .bool false])) ∧ w = w' := by
  obtain ⟨a, c, rfl⟩ := h.shape
  have hl := h.len
  unfold maxLen at hl
  have HS := Lib.hid h
  clear h
  by_cases hA : 1 ≤ n ∧ n ≤ top
  case neg =>
    have hin := inB_false hA
    have HA := Lib.hid hA
    clear hA
    go_enter Try.func110, Try.ntmps110
    go_wp2_with (go_at_call 103; refine (in_any _ _ _ _).mono ?_; rintro e w' ⟨rfl, rfl⟩)
    go_ret2
    exact ⟨.inr ⟨fun x => HA.out x.1, rfl⟩, rfl⟩
  have hin := inB_true hA
  obtain ⟨N, rfl⟩ := Int.eq_ofNat_of_zero_le (by omega : 0 ≤ n)
  rw [Int.toNat_natCast]
  obtain ⟨hA1, hA2⟩ := hA
  obtain ⟨m, hm⟩ : ∃ m, m = N * N := ⟨_, rfl⟩
  have q1 : (N : Int) * (N : Int) = (m : Int) := by rw [hm]; exact (Int.natCast_mul N N).symm
  have hm25 : m ≤ 25 := by rw [hm]; exact Nat.mul_le_mul (by omega : N ≤ 5) (by omega : N ≤ 5)
  have HM := Lib.hid hm
  clear hm
  by_cases hB : xs.length = m
  case neg =>
    have hB' : ((xs.length : Int) != (m : Int)) = true := by simp; omega
    have HB := Lib.hid hB
    clear hB
    go_enter Try.func110, Try.ntmps110
    go_wp2_with (go_at_call 103; refine (in_any _ _ _ _).mono ?_; rintro e w' ⟨rfl, rfl⟩)
    go_ret2
    exact ⟨.inr ⟨fun x => HB.out (by have := x.2.1; rw [HM.out]; exact_mod_cast this), rfl⟩, rfl⟩
  have hB' : ((xs.length : Int) != (m : Int)) = false := by simp; omega
  have HB := Lib.hid hB
  clear hB
  go_enter Try.func110, Try.ntmps110
  go_wp2_with (go_at_call 103; refine (in_any _ _ _ _).mono ?_; rintro e w' ⟨rfl, rfl⟩)
  go_loop [8, 24] (fun ft i => ∃ k : Nat, i = .int .i64 k ∧ k ≤ xs.length ∧ Hid (∀ i, i < k → inB 0 N (xs.getD i 0) = true) ∧ ft = .bool ((List.range k).all fun i => xs.getD i 0 == 0 || fitsB N xs i (xs.getD i 0))) (fun _ i => xs.length - (intOf i).toNat)
  case atStart => exact ⟨0, rfl, Nat.zero_le _, fun i hi => by omega, rfl⟩
  case round =>
    obtain ⟨k, rfl, hk, hall, rfl⟩ := hrel
    by_cases hlt : k < xs.length
    · obtain ⟨b, off, rfl, hb, hc⟩ := HS.out.at hlt
      obtain ⟨x, hx⟩ : ∃ x, x = xs.getD k 0 := ⟨_, rfl⟩
      rw [← hx] at hc
      have HK := Lib.hid (show ((List.range (k + 1)).all fun i => xs.getD i 0 == 0 || fitsB N xs i (xs.getD i 0)) = (((List.range k).all fun i => xs.getD i 0 == 0 || fitsB N xs i (xs.getD i 0)) && (x == 0 || fitsB N xs k x)) by
        rw [List.range_succ, List.all_append, hx]; simp)
      have HX := Lib.hid hx
      clear hx
      obtain ⟨F, hF⟩ : ∃ F, F = ((List.range k).all fun i => xs.getD i 0 == 0 || fitsB N xs i (xs.getD i 0)) := ⟨_, rfl⟩
      rw [← hF] at HK ⊢
      clear hF
      by_cases hin2 : inB 0 N x = true
      case neg =>
        have hin2' : inB 0 N x = false := by simpa using hin2
        go_wp2_with (go_at_call 103; refine (in_any _ _ _ _).mono ?_; rintro e w' ⟨rfl, rfl⟩)
        go_ret2
        exact ⟨.inr ⟨fun y => hin2 (by rw [HX.out]; exact (allIn_iff _ _ _).1 y.2.2 k hlt), rfl⟩, rfl⟩
      have HT := Lib.hid (show ∀ i, i < k + 1 → inB 0 N (xs.getD i 0) = true from fun i hi => by
        rcases Nat.lt_succ_iff_lt_or_eq.1 hi with h | rfl
        · exact hall.out i h
        · rw [← HX.out]; exact hin2)
      by_cases h0 : x = 0
      · have h0' : (x != 0) = false := by simp [h0]
        have H0 := Lib.hid h0
        clear h0
        go_wp2_with (go_at_call 103; refine (in_any _ _ _ _).mono ?_; rintro e w' ⟨rfl, rfl⟩)
        go_round
        case rel => exact ⟨k + 1, by go_num, by omega, HT.out, by rw [HK.out, H0.out]; simp⟩
        case measure => simp [intOf]; omega
      · have h0' : (x != 0) = true := by simp [h0]
        have H0 := Lib.hid h0
        clear h0
        by_cases hft : fitsB N xs k x = true
        · go_wp2_with (first
            | (go_at_call 103; refine (in_any _ _ _ _).mono ?_; rintro e w' ⟨rfl, rfl⟩)
            | (go_at_call 142; refine (l07Fits_any N (by omega) (by omega) _ xs k _ _ (by have := HB.out; have := HM.out; omega) (by rw [HB.out]; exact HM.out) HS.out).mono ?_; rintro e w' ⟨rfl, rfl⟩))
          go_round
          case rel => exact ⟨k + 1, by go_num, by omega, HT.out, by rw [HK.out, hft]; simp⟩
          case measure => simp [intOf]; omega
        · have hft' : fitsB N xs k x = false := by simpa using hft
          go_wp2_with (first
            | (go_at_call 103; refine (in_any _ _ _ _).mono ?_; rintro e w' ⟨rfl, rfl⟩)
            | (go_at_call 142; refine (l07Fits_any N (by omega) (by omega) _ xs k _ _ (by have := HB.out; have := HM.out; omega) (by rw [HB.out]; exact HM.out) HS.out).mono ?_; rintro e w' ⟨rfl, rfl⟩))
          go_round
          case rel => exact ⟨k + 1, by go_num, by omega, HT.out, by rw [HK.out, hft']; have := H0.out; simp [this]⟩
          case measure => simp [intOf]; omega
    · obtain rfl : k = xs.length := by omega
      go_wp2_with fail
      go_ret2
      exact ⟨.inl ⟨⟨⟨hA1, hA2⟩, by rw [HB.out]; exact q1.symm, (allIn_iff _ _ _).2 hall.out⟩, rfl⟩, rfl⟩

end Go.Proofs.Ytkcpncaedocdnaa
