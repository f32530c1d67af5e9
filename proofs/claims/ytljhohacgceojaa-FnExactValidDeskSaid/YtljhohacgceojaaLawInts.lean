/-
  The laws' own small functions over []int64: sizes, copies, comparison, marks.
-/
import Derived.Test.YtljhohacgceojaaBase
namespace Go.Proofs.Ytljhohacgceojaa
open Go.RowKit

set_option maxHeartbeats 400000 in
theorem szInts_any (a : Option Addr) (n cap : Nat) (left : Int) (w : World) (hn : n ≤ maxLen) (h1 : left ≤ 1048576) (h0 : 0 ≤ left) :
    Calls Try.prog 75 #[.slice a n cap, .int .i64 left] w fun e w' => ∃ r : Int, e = .returned (.int .i64 r) ∧ -1 ≤ r ∧ r ≤ left ∧ (0 ≤ r → (n : Int) ≤ left - r) ∧ w = w' := by
  unfold maxLen at hn
  by_cases h : left - n < 0
  · go_enter Try.func75, Try.ntmps75
    go_wp2
    go_ret
    exact ⟨-1, rfl, by omega, by omega, by omega, rfl⟩
  · go_enter Try.func75, Try.ntmps75
    go_wp2
    go_ret
    exact ⟨_, rfl, by omega, by omega, by omega, rfl⟩

/-- Equal lists: a comparison that reads both. -/
theorem take_ne {xs ys : List Int} {k : Nat} (hx : k < xs.length) (hy : k < ys.length) (h : xs.getD k 0 ≠ ys.getD k 0) : xs ≠ ys := by
  rintro rfl; exact h rfl

theorem take_eq_succ {xs ys : List Int} {k : Nat} (hx : k < xs.length) (hy : k < ys.length) (h : xs.take k = ys.take k) (h2 : xs.getD k 0 = ys.getD k 0) : xs.take (k + 1) = ys.take (k + 1) := by
  rw [List.take_succ_eq_append_getElem hx, List.take_succ_eq_append_getElem hy, h]
  simp [hx, hy] at h2
  rw [h2]

set_option maxHeartbeats 400000 in
theorem eqInts_any (a1 a2 : Option Addr) (n1 n2 c1 c2 : Nat) (xs ys : List Int) (w : World) (h1 : xs.length = n1) (h2 : ys.length = n2) (s1 : Slc w (.slice a1 n1 c1) (xs.map I64)) (s2 : Slc w (.slice a2 n2 c2) (ys.map I64)) :
    Calls Try.prog 86 #[.slice a1 n1 c1, .slice a2 n2 c2] w fun e w' => e = .returned (.bool (decide (xs = ys))) ∧ ∃ n, w' = w.drewN n := by
  subst h1 h2
  have hm := s1.len
  simp only [List.length_map, maxLen] at hm
  have H1 := Lib.hid s1
  have H2 := Lib.hid s2
  clear s1 s2
  by_cases hl : xs.length = ys.length
  · have hne : ((xs.length : Int) != (ys.length : Int)) = false := by simp [hl]
    have HL := Lib.hid hl
    clear hl
    go_enter Try.func86, Try.ntmps86
    go_wp2_with fail
    go_loopw [5] (fun i wr => ∃ k : Nat, i = .int .i64 k ∧ k ≤ xs.length ∧ Hid (xs.take k = ys.take k) ∧ ∃ n, wr = w.drewN n) (fun i _ => xs.length - (intOf i).toNat)
    case atStart => exact ⟨0, rfl, Nat.zero_le _, rfl, 0, rfl⟩
    case round =>
      obtain ⟨k, rfl, hk, heq, n, rfl⟩ := hrel
      by_cases hlt : k < xs.length
      · have hlt2 : k < ys.length := by have := HL.out; omega
        obtain ⟨b, off, rfl, hb, hc⟩ := H1.out.at (i := k) (u := .int .i64 (xs.getD k 0)) (by simp [I64, hlt])
        obtain ⟨b', off', rfl, hb', hc'⟩ := H2.out.at (i := k) (u := .int .i64 (ys.getD k 0)) (by simp [I64, hlt2])
        obtain ⟨x, hx⟩ : ∃ x, x = xs.getD k 0 := ⟨_, rfl⟩
        obtain ⟨y, hy⟩ : ∃ y, y = ys.getD k 0 := ⟨_, rfl⟩
        rw [← hx] at hc
        rw [← hy] at hc'
        have HX := Lib.hid hx
        have HY := Lib.hid hy
        clear hx hy
        by_cases hxy : x = y
        · subst hxy
          have hb0 : (x != x) = false := by simp
          have hlt2' : (k : Int) < ys.length := by omega
          go_wp2_with fail
          go_quiet (fail)
          go_wp2_with fail
          go_roundw
          case rel => exact ⟨k + 1, by go_num, by omega, take_eq_succ hlt hlt2 heq (by rw [← HX.out, ← HY.out]), _, rfl⟩
          case measure => simp [intOf]; omega
        · have hb0 : (x != y) = true := by simp [hxy]
          have hlt2' : (k : Int) < ys.length := by omega
          go_wp2_with fail
          go_quiet (fail)
          go_wp2_with fail
          go_ret
          refine ⟨?_, by first | exact ⟨_, rfl⟩ | exact ⟨_, World.drewN_drewN _ _ _⟩⟩
          have : xs ≠ ys := take_ne hlt hlt2 (by rw [← HX.out, ← HY.out]; exact hxy)
          simp [this]
      · obtain rfl : k = xs.length := by omega
        go_wp2_with fail
        go_ret
        refine ⟨?_, _, rfl⟩
        have he := heq.out
        rw [List.take_length, HL.out, List.take_length] at he
        simp [he]
  · have hne : ((xs.length : Int) != (ys.length : Int)) = true := by simp; omega
    have hn : xs ≠ ys := fun e => hl (by rw [e])
    go_enter Try.func86, Try.ntmps86
    go_wp2_with fail
    go_ret
    exact ⟨by simp [hn], 0, rfl⟩

theorem set_mid {α : Type} (A R : List α) (z x : α) (k : Nat) (hk : A.length = k) : (A ++ z :: R).set k x = A ++ x :: R := by
  subst hk; simp [List.set_append]

theorem set_fill {xs : List Int} {k : Nat} {x : Int} (hk : k < xs.length) (hx : x = xs.getD k 0) :
    ((xs.take k ++ List.replicate (xs.length - k) 0).map I64).set k (.int .i64 x) = (xs.take (k + 1) ++ List.replicate (xs.length - (k + 1)) 0).map I64 := by
  subst hx
  have e : List.replicate (xs.length - k) (0 : Int) = 0 :: List.replicate (xs.length - (k + 1)) 0 := by
    rw [show xs.length - k = (xs.length - (k + 1)) + 1 by omega, List.replicate_succ]
  rw [e, List.take_succ_eq_append_getElem hk, List.map_append, List.map_cons, set_mid _ _ _ _ _ (by simp; omega), List.map_append, List.map_append, List.append_assoc, show xs.getD k 0 = xs[k] from by simp [hk]]
  rfl

set_option maxHeartbeats 400000 in
theorem toInts_any (a : Option Addr) (n cap : Nat) (xs : List Int) (w : World) (hl : xs.length = n) (hs : Slc w (.slice a n cap) (xs.map I64)) (hb : n ≤ 17592186044416) :
    Calls Try.prog 80 #[.slice a n cap] w fun e w' => ∃ g, e = .returned (.slice (some ⟨g, 0, none⟩) n n) ∧ w'.ownsRow w.heap.size 2 1 (.slice (some ⟨g, 0, none⟩) n n) n (xs.map I64) ∧ Below w.heap.size w w' := by
  obtain ⟨i0, hi, hz0, hz1, hz2⟩ := info_parts Try.infoI64
  subst hl
  have HS := Lib.hid hs
  clear hs
  go_enter Try.func80, Try.ntmps80
  go_wp2_with (at_make; refine wpList_make_full _ rfl _ _ 60 rfl w.heap.size 2 i0 (.int .i64 0) 1 Try.underlying60 hi hz0 hz1 .i64 .i64 xs.length xs.length xs.length rfl rfl rfl rfl (by rw [hz2]; omega) (by unfold maxLen; omega) (by simp) ?_; intro w1 hown hgrow)
  have hb1 : Below w.heap.size w w1 := (Below.refl _ _).grown hgrow (Nat.le_refl _) (by intro k hk; cases hk)
  have hz : (madeCells (Value.int .i64 0).cells (xs.length * 1)).toList = (List.replicate xs.length (0 : Int)).map I64 := by
    simpa [Value.cells, I64] using toList_madeCells_one (Value.int .i64 0) xs.length
  rw [hz] at hown
  have HO := Lib.hid hown
  have HB := Lib.hid hb1
  clear hown hb1 hz hgrow
  go_loopw [4] (fun i wr => ∃ k : Nat, i = .int .i64 k ∧ k ≤ xs.length ∧ wr.ownsRow w.heap.size 2 1 (.slice (some ⟨w.heap.size, 0, none⟩) xs.length xs.length) xs.length ((xs.take k ++ List.replicate (xs.length - k) 0).map I64) ∧ Below w.heap.size w wr) (fun i _ => xs.length - (intOf i).toNat)
  case atStart => exact ⟨0, rfl, Nat.zero_le _, by simpa using HO.out, HB.out⟩
  case round =>
    obtain ⟨k, rfl, hk, hown, hbel⟩ := hrel
    have HO1 := Lib.hid hown
    have HB1 := Lib.hid hbel
    clear hown hbel
    by_cases hlt : k < xs.length
    · obtain ⟨b, off, rfl, hb0, hc⟩ := (HS.out.below HB1.out (Nat.le_refl _)).at (i := k) (u := .int .i64 (xs.getD k 0)) (by simp [I64, hlt])
      have hd := HO1.out.cellAt k (by omega)
      have hfr := HO1.out.frozenAt k
      have hdl : ((xs.take k ++ List.replicate (xs.length - k) 0).map I64)[k]? = some (.int .i64 0) := by
        rw [List.getElem?_map, List.getElem?_append_right (by simp; omega)]
        simp [I64, List.getElem?_replicate]
        omega
      rw [hdl] at hd
      obtain ⟨x, hx⟩ : ∃ x, x = xs.getD k 0 := ⟨_, rfl⟩
      rw [← hx] at hc
      have HX := Lib.hid hx
      clear hx hdl
      go_wp2_with fail
      go_roundw
      case rel =>
        refine ⟨k + 1, by go_num, by omega, ?_, HB1.out.setCell (Nat.le_refl _) _⟩
        have h1 := (HO1.out.stored k (.int .i64 x)).1
        rw [set_fill hlt HX.out] at h1
        exact h1
      case measure => simp [intOf]; omega
    · obtain rfl : k = xs.length := by omega
      go_wp2_with fail
      go_ret
      exact ⟨_, rfl, by simpa using HO1.out, HB1.out⟩

end Go.Proofs.Ytljhohacgceojaa
