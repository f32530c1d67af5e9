/-
  Equal lists of lists and forms: the program's and the reference's comparisons.
-/
import Derived.Test.YtljhohacgceojaaFormO
import Derived.Test.YtljhohacgceojaaSame
import Derived.Deep.RegionHeld3
namespace Go.Proofs.Ytljhohacgceojaa
open Go.RowKit

theorem gtake_ne {α : Type} {d : α} {xs ys : List α} {k : Nat} (h : xs.getD k d ≠ ys.getD k d) : xs ≠ ys := by
  rintro rfl; exact h rfl
theorem gtake_succ {α : Type} {d : α} {xs ys : List α} {k : Nat} (hx : k < xs.length) (hy : k < ys.length) (h : xs.take k = ys.take k) (h2 : xs.getD k d = ys.getD k d) : xs.take (k + 1) = ys.take (k + 1) := by
  rw [List.take_succ_eq_append_getElem hx, List.take_succ_eq_append_getElem hy, h]
  simp [hx, hy] at h2
  rw [h2]

theorem l00Same_rd (v v' : Value) (xs ys : List Int) (w : World) (h : RdI w v xs) (h' : RdI w v' ys) :
    Calls Try.prog 45 #[v, v'] w fun e w' => e = .returned (.bool (decide (xs = ys))) ∧ ∃ n, w' = w.drewN n := by
  obtain ⟨a, c, rfl⟩ := h.shape
  obtain ⟨a', c', rfl⟩ := h'.shape
  exact l00Same_any _ _ _ _ _ _ xs ys w rfl rfl h h'
theorem slicesEqual_rd (v v' : Value) (xs ys : List Int) (w : World) (h : RdI w v xs) (h' : RdI w v' ys) :
    Calls Try.prog 83 #[v, v'] w fun e w' => e = .returned (.bool (decide (xs = ys))) ∧ ∃ n, w' = w.drewN n := by
  obtain ⟨a, c, rfl⟩ := h.shape
  obtain ⟨a', c', rfl⟩ := h'.shape
  exact slicesEqual_any _ _ _ _ _ _ xs ys w rfl rfl h h'
theorem l00Same_qs (b : Bool) (v v' : Value) (xs ys : List Int) (w : World) (n : Nat) (h : RdI w v xs) (h' : RdI w v' ys) (hb : decide (xs = ys) = b) :
    Calls Try.prog 45 #[v, v'] (w.drewN n) fun e w'' => e = .returned (.bool b) ∧ ∃ m, w'' = w.drewN m := by
  refine (l00Same_rd v v' xs ys _ (h.drewN n) (h'.drewN n)).mono ?_
  rintro e w' ⟨rfl, m, rfl⟩
  exact ⟨by rw [hb], n + m, by rw [World.drewN_drewN]⟩

theorem RdL.drewN {w : World} {v : Value} {zss : List (List Int)} (h : RdL w v zss) (n : Nat) : RdL (w.drewN n) v zss := by
  obtain ⟨vs, h1, h2⟩ := h
  exact ⟨vs, h1.drewN n, h2.1, fun i u zs a b => (h2.2 i u zs a b).drewN n⟩

set_option maxHeartbeats 1000000 in
theorem equalFuncL_any (v v' : Value) (xs ys : List (List Int)) (w : World) (h : RdL w v xs) (h' : RdL w v' ys) :
    Calls Try.prog 49 #[v, v'] w fun e w' => e = .returned (.bool (decide (xs = ys))) ∧ ∃ n, w' = w.drewN n := by
  obtain ⟨a, c, rfl⟩ := h.shape
  obtain ⟨a', c', rfl⟩ := h'.shape
  have hm := h.len
  simp only [maxLen] at hm
  have H1 := Lib.hid h
  have H2 := Lib.hid h'
  clear h h'
  by_cases hl : xs.length = ys.length
  · have hne : ((xs.length : Int) != (ys.length : Int)) = false := by simp [hl]
    have HL := Lib.hid hl
    clear hl
    go_enter Try.func49, Try.ntmps49
    go_wp2_with go_in
    go_loopw [17] (fun i wr => ∃ k : Nat, i = .int .i64 k ∧ k ≤ xs.length ∧ Hid (xs.take k = ys.take k) ∧ ∃ n, wr = w.drewN n) (fun i _ => xs.length - (intOf i).toNat)
    case atStart => exact ⟨0, rfl, Nat.zero_le _, rfl, 0, rfl⟩
    case round =>
      obtain ⟨k, rfl, hk, heq, n, rfl⟩ := hrel
      by_cases hlt : k < xs.length
      · have hlt2 : k < ys.length := by have := HL.out; omega
        obtain ⟨b, off, u, rfl, hb, hc, hu⟩ := H1.out.at hlt
        obtain ⟨b', off', u', rfl, hb', hc', hu'⟩ := H2.out.at hlt2
        have HX := Lib.hid (slicesEqual_rd u u' _ _ (w.drewN n) (hu.drewN n) (hu'.drewN n))
        have hlt2' : (k : Int) < ys.length := by omega
        by_cases hxy : xs.getD k [] = ys.getD k []
        · rw [show decide (xs.getD k [] = ys.getD k []) = true from decide_eq_true hxy] at HX
          have HXY := Lib.hid hxy
          clear hu hu' hxy
          go_wp2_with fail
          refine HX.out.mono ?_
          rintro e w1 ⟨rfl, m, rfl⟩
          go_wp2_with fail
          go_roundw
          case rel => exact ⟨k + 1, by go_num, by omega, gtake_succ hlt hlt2 heq HXY.out, _, rfl⟩
          case measure => simp [intOf]; omega
        · rw [show decide (xs.getD k [] = ys.getD k []) = false from decide_eq_false hxy] at HX
          have HXY := Lib.hid hxy
          clear hu hu' hxy
          go_wp2_with fail
          refine HX.out.mono ?_
          rintro e w1 ⟨rfl, m, rfl⟩
          go_wp2_with fail
          go_ret
          exact ⟨by simp [gtake_ne HXY.out], _, rfl⟩
      · obtain rfl : k = xs.length := by omega
        go_wp2_with fail
        go_ret
        refine ⟨?_, _, rfl⟩
        have he := heq.out
        rw [List.take_length, HL.out, List.take_length] at he
        simp [he]
  · have hne : ((xs.length : Int) != (ys.length : Int)) = true := by simp; omega
    have hn : xs ≠ ys := fun e => hl (by rw [e])
    go_enter Try.func49, Try.ntmps49
    go_wp2_with go_in
    go_ret
    exact ⟨by simp [hn], 0, rfl⟩

set_option maxHeartbeats 1000000 in
theorem specSameForm_any (v v' : Value) (x y : FormD) (w : World) (h : RdFm w v x) (h' : RdFm w v' y) :
    Calls Try.prog 44 #[v, v'] w fun e w' => e = .returned (.bool (decide (x.letters = y.letters) && decide (x.clauses = y.clauses))) ∧ Below w.heap.size w w' := by
  obtain ⟨a, c, rfl⟩ := h.shape
  obtain ⟨a', c', rfl⟩ := h'.shape
  have p := h.parts
  have p' := h'.parts
  obtain ⟨n1, xs⟩ := x
  obtain ⟨n2, ys⟩ := y
  simp only at p p' ⊢
  have hm := p.len
  simp only [maxLen] at hm
  have H1 := Lib.hid p
  have H2 := Lib.hid p'
  clear h h' p p'
  by_cases hn : n1 = n2
  · subst hn
    have hb0 : (n1 != n1) = false := by simp
    by_cases hl : xs.length = ys.length
    · have hne : ((xs.length : Int) != (ys.length : Int)) = false := by simp [hl]
      have HL := Lib.hid hl
      clear hl
      go_enter Try.func44, Try.ntmps44
      go_wp2_with fail
      refine wp_at fun W hW => ?_
      have HB := Lib.hid (show Below w.heap.size w W by subst hW; (repeat' first | exact Below.refl _ _ | assumption | refine Below.alloc ?_ ?_ _ | refine Below.setCell ?_ ?_ _ | refine Below.drew ?_ | (simp; done) | (simp; omega)))
      have HK := Lib.hid (show Blk W w.heap.size 35 #[.int .i64 n1, .slice a xs.length c] by subst hW; exact (Blk.new _ _ _).alloc _)
      have HM := Lib.hid (show Blk W (w.heap.size + 1) 35 #[.int .i64 n1, .slice a' ys.length c'] by subst hW; simpa using Blk.new (w.alloc (.cells #[.int .i64 n1, .slice a xs.length c] 35)) 35 #[.int .i64 n1, .slice a' ys.length c'])
      clear hW
      have d1 : W.cell? ⟨w.heap.size, 1, none⟩ = some (.slice a xs.length c) := HK.out.cell 1 rfl
      have d2 : W.cell? ⟨w.heap.size + 1, 1, none⟩ = some (.slice a' ys.length c') := HM.out.cell 1 rfl
      clear HK HM
      go_loopw [23] (fun i wr => ∃ k : Nat, i = .int .i64 k ∧ k ≤ xs.length ∧ Hid (xs.take k = ys.take k) ∧ Hid (∃ n, wr = W.drewN n)) (fun i _ => xs.length - (intOf i).toNat)
      case atStart => exact ⟨0, rfl, Nat.zero_le _, rfl, ⟨0, rfl⟩⟩
      case round =>
        obtain ⟨k, rfl, hk, heq, hw⟩ := hrel
        have d1' : wr.cell? ⟨w.heap.size, 1, none⟩ = some (.slice a xs.length c) := by obtain ⟨n, rfl⟩ := hw.out; exact d1
        have d2' : wr.cell? ⟨w.heap.size + 1, 1, none⟩ = some (.slice a' ys.length c') := by obtain ⟨n, rfl⟩ := hw.out; exact d2
        have HBr := Lib.hid (show Below w.heap.size w wr by obtain ⟨n, rfl⟩ := hw.out; exact below_drewN HB.out _)
        by_cases hlt : k < xs.length
        · have hlt2 : k < ys.length := by have := HL.out; omega
          obtain ⟨b, off, u, rfl, hb, hc, hu⟩ := (H1.out.up HBr.out (Nat.le_refl _)).at hlt
          obtain ⟨b', off', u', rfl, hb', hc', hu'⟩ := (H2.out.up HBr.out (Nat.le_refl _)).at hlt2
          have HU := Lib.hid hu
          have HU' := Lib.hid hu'
          have hlt2' : (k : Int) < ys.length := by omega
          clear hu hu'
          by_cases hxy : xs.getD k [] = ys.getD k []
          · have HD := Lib.hid (decide_eq_true hxy)
            have HXY := Lib.hid hxy
            clear hxy
            go_wp2_with fail
            go_quiet ((go_at_call 45; exact l00Same_qs _ _ _ _ _ _ _ HU.out HU'.out HD.out))
            go_wp2_with fail
            go_roundw
            case rel => exact ⟨k + 1, by go_num, by omega, gtake_succ hlt hlt2 heq HXY.out, by obtain ⟨n, rfl⟩ := hw.out; exact ⟨_, World.drewN_drewN _ _ _⟩⟩
            case measure => simp [intOf]; omega
          · have HD := Lib.hid (decide_eq_false hxy)
            have HXY := Lib.hid hxy
            clear hxy
            go_wp2_with fail
            go_quiet ((go_at_call 45; exact l00Same_qs _ _ _ _ _ _ _ HU.out HU'.out HD.out))
            go_wp2_with fail
            go_ret
            exact ⟨by simp [gtake_ne HXY.out], below_drewN HBr.out _⟩
        · obtain rfl : k = xs.length := by omega
          go_wp2_with fail
          go_ret
          refine ⟨?_, HBr.out⟩
          have he := heq.out
          rw [List.take_length, HL.out, List.take_length] at he
          simp [he]
    · have hne : ((xs.length : Int) != (ys.length : Int)) = true := by simp; omega
      have hx : xs ≠ ys := fun e => hl (by rw [e])
      have hxd := Lib.hid (show decide (xs = ys) = false from decide_eq_false hx)
      clear hl hx
      go_enter Try.func44, Try.ntmps44
      go_wp2_with fail
      go_ret
      refine ⟨by rw [hxd.out]; simp, ?_⟩
      (repeat' first | exact Below.refl _ _ | assumption | refine Below.alloc ?_ ?_ _ | refine Below.setCell ?_ ?_ _ | refine Below.drew ?_ | (simp; done) | (simp; omega))
  · have hb0 : (n1 != n2) = true := by simp [hn]
    have hxd := Lib.hid (show decide (n1 = n2) = false from decide_eq_false hn)
    clear hn
    go_enter Try.func44, Try.ntmps44
    go_wp2_with fail
    go_ret
    refine ⟨by rw [hxd.out]; simp, ?_⟩
    (repeat' first | exact Below.refl _ _ | assumption | refine Below.alloc ?_ ?_ _ | refine Below.setCell ?_ ?_ _ | refine Below.drew ?_ | (simp; done) | (simp; omega))

set_option maxHeartbeats 1000000 in
theorem implSameForm_any (v v' : Value) (x y : FormD) (w : World) (h : RdFm w v x) (h' : RdFm w v' y) :
    Calls Try.prog 48 #[v, v'] w fun e w' => e = .returned (.bool (decide (x.letters = y.letters) && decide (x.clauses = y.clauses))) ∧ Below w.heap.size w w' := by
  obtain ⟨a, c, rfl⟩ := h.shape
  obtain ⟨a', c', rfl⟩ := h'.shape
  have p := h.parts
  have p' := h'.parts
  obtain ⟨n1, xs⟩ := x
  obtain ⟨n2, ys⟩ := y
  simp only at p p' ⊢
  have H1 := Lib.hid p
  have H2 := Lib.hid p'
  clear h h' p p'
  by_cases hn : n1 = n2
  · subst hn
    have hb0 : (n1 == n1) = true := by simp
    go_enter Try.func48, Try.ntmps48
    go_wp2_with fail
    refine Calls.at fun W hW => ?_
    have HB := Lib.hid (show Below w.heap.size w W by subst hW; (repeat' first | exact Below.refl _ _ | assumption | refine Below.alloc ?_ ?_ _ | refine Below.setCell ?_ ?_ _ | refine Below.drew ?_ | (simp; done) | (simp; omega)))
    clear hW
    refine (equalFuncL_any _ _ xs ys W (H1.out.up HB.out (Nat.le_refl _)) (H2.out.up HB.out (Nat.le_refl _))).mono ?_
    rintro e w1 ⟨rfl, m, rfl⟩
    obtain ⟨bb, hbb⟩ : ∃ bb, bb = decide (xs = ys) := ⟨_, rfl⟩
    rw [← hbb]
    have HBB := Lib.hid hbb
    clear hbb
    go_wp2_with fail
    go_ret
    exact ⟨by rw [← HBB.out]; simp, below_drewN HB.out _⟩
  · have hb0 : (n1 == n2) = false := by simp [hn]
    have hxd := Lib.hid (show decide (n1 = n2) = false from decide_eq_false hn)
    clear hn
    go_enter Try.func48, Try.ntmps48
    go_wp2_with fail
    go_ret
    refine ⟨by rw [hxd.out]; simp, ?_⟩
    (repeat' first | exact Below.refl _ _ | assumption | refine Below.alloc ?_ ?_ _ | refine Below.setCell ?_ ?_ _ | refine Below.drew ?_ | (simp; done) | (simp; omega))

end Go.Proofs.Ytljhohacgceojaa
