/-
  FnExactCountQueens: the program counts queens as the reference does: for every number n.
-/
import Derived.Test.YtkcpncaedocdnaaQueens
import Derived.Test.YtkcpncaedocdnaaEachQ
namespace Go.Proofs.Ytkcpncaedocdnaa
open Go.RowKit

theorem Try.enters35 (args : Array Value) (w : World) : (callFunc 102 args).run Try.prog w = .ok (.enter 102 args) w :=
  enters_of Try.func102 (by kernel_rfl) rfl args w

/-- The closure that counts. -/
theorem countQ1_any (v : Value) (cb k : Nat) (w : World) (hk : k ≤ 16777216) (hbox : Box w cb 2 (.int .i64 k)) :
    Calls Try.prog 102 #[v, .pointer (some ⟨cb, 0, none⟩)] w fun e w' => e = .returned (.tuple #[]) ∧ w' = w.setCell ⟨cb, 0, none⟩ (.int .i64 (k + 1 : Nat)) := by
  have hc := hbox.cell
  have hf := hbox.free
  go_enter Try.func102, Try.ntmps102
  go_wp2
  go_end0
  exact ⟨rfl, rfl⟩

/-- What the program's CountQueens returns. -/
def cqV (n : Int) : Value := if 1 ≤ n ∧ n ≤ 8 then .tuple #[.int .i64 (qSols n.toNat n.toNat []).length, .bool true] else .tuple #[.int .i64 0, .bool false]

set_option maxHeartbeats 1000000 in
theorem implCountQ_any (n : Int) (w : World) :
    Calls Try.prog 48 #[.int .i64 n] w fun e w' => e = .returned (cqV n) ∧ Below w.heap.size w w' := by
  by_cases h : 1 ≤ n ∧ n ≤ 8
  · obtain ⟨N, rfl⟩ := Int.eq_ofNat_of_zero_le (by omega : 0 ≤ n)
    have hin := inB_true (lo := 1) (hi := 8) (n := (N : Int)) h
    have hcount : ([] : List (List Int)).length + (qSols N N []).length ≤ 16777216 := by
      have h1 := qSols_len N N []
      have h2 : N ^ N ≤ 8 ^ 8 := Nat.le_trans (Nat.pow_le_pow_left (by omega) N) (Nat.pow_le_pow_right (by decide) (by omega))
      have : 8 ^ 8 = 16777216 := by decide
      simp; omega
    go_enter Try.func48, Try.ntmps48
    go_wp2_with (go_at_call 99; refine (within_any _ _ _ _).mono ?_; rintro e w' ⟨rfl, rfl⟩)
    refine (eachQueens_any N (by omega) 102 Try.enters35 #[.pointer (some ⟨w.heap.size, 0, none⟩)] (w.heap.size + 1) (· = w.heap.size) (by omega)
      (fun done w' => Box w' w.heap.size 2 (.int .i64 (done.length : Int)) ∧ w.heap.size < w'.heap.size ∧ Below w.heap.size w w') ?_ ?_ N none 0 [] _ [] 0 rfl (by simp) (by simp) (World.ownsRow_nil _ _ _ _) ?_ hcount).mono ?_
    · rintro done w1 w2 ⟨hb, hlt, hbl⟩ h12
      exact ⟨hb.below h12 hlt, by have := h12.size; omega, hbl.trans (h12.mono (by omega))⟩
    · rintro done s a cap m w1 _ _ _ hlen ⟨hb, hlt, hbl⟩
      refine (countQ1_any _ _ _ w1 hlen hb).mono ?_
      rintro e w2 ⟨rfl, rfl⟩
      refine ⟨rfl, ⟨?_, by simpa using hlt, hbl.setCell (Nat.le_refl _) _⟩, Kept.setCell (S := (· = w.heap.size)) (Kept.refl _ _) (.inr rfl) _⟩
      have := hb.set (.int .i64 ((done.length + 1 : Nat) : Int))
      simpa using this
    · exact ⟨by simpa using Box.new w 2 (.int .i64 0), by simp, (Below.refl _ _).alloc (Nat.le_refl _) _⟩
    · rintro e w1 ⟨rfl, ⟨hb, hlt, hbl⟩, hk⟩
      simp only [List.nil_append] at hb
      have hc := hb.cell
      have HB := Lib.hid hbl
      clear hbl hb hk
      go_wp2_with fail
      go_ret2
      exact ⟨by simp [cqV, h], HB.out⟩
  · have hin := inB_false (lo := 1) (hi := 8) (n := n) h
    go_enter Try.func48, Try.ntmps48
    go_wp2_with (go_at_call 99; refine (within_any _ _ _ _).mono ?_; rintro e w' ⟨rfl, rfl⟩)
    go_ret2
    exact ⟨by simp [cqV, h], Below.refl _ _⟩

set_option maxHeartbeats 1000000 in
theorem specCountQ_any (n : Int) (w : World) :
    Calls Try.prog 49 #[.int .i64 n] w fun e w' => e = .returned (cqV n) ∧ Below w.heap.size w w' := by
  by_cases h : 1 ≤ n ∧ n ≤ 8
  · obtain ⟨N, rfl⟩ := Int.eq_ofNat_of_zero_le (by omega : 0 ≤ n)
    have hin := inB_true (lo := 1) (hi := 8) (n := (N : Int)) h
    go_enter Try.func49, Try.ntmps49
    go_wp2_with (go_at_call 103; refine (in_any _ _ _ _).mono ?_; rintro e w' ⟨rfl, rfl⟩)
    have hW : Below w.heap.size w (((w.alloc (.cells #[] 2)).alloc (.cells #[.slice (some ⟨w.heap.size, 0, none⟩) 0 0] 22)).alloc (.cells #[] 2)) :=
      (((Below.refl _ _).alloc (Nat.le_refl _) _).alloc (by simp) _).alloc (by simp; omega) _
    refine (l07Queens_any 0 N (by omega) (by omega) N _ 0 [] _ (w.heap.size + 1) (.slice (some ⟨w.heap.size, 0, none⟩) 0 0) [] 0 rfl (by simp) ?_ ?_ ?_ (Nat.zero_le _)).mono ?_
    · have := slc_of_owns (owns_empty ((w.alloc (.cells #[] 2)).alloc (.cells #[.slice (some ⟨w.heap.size, 0, none⟩) 0 0] 22)))
      simpa using this
    · have := (Box.new (w.alloc (.cells #[] 2)) 22 (.slice (some ⟨w.heap.size, 0, none⟩) 0 0)).below (w' := (((w.alloc (.cells #[] 2)).alloc (.cells #[.slice (some ⟨w.heap.size, 0, none⟩) 0 0] 22)).alloc (.cells #[] 2))) ((Below.refl _ _).alloc (Nat.le_refl _) _) (by simp)
      simpa using this
    · exact .inl ⟨rfl, _, _, rfl⟩
    · rintro e w1 ⟨rfl, fv, hb, hfi, hk⟩
      have HB := Lib.hid (hW.trans (hk.toBelow (by simp; omega) (by intro k h1 h2; omega)))
      clear hb hfi hk hW
      go_wp2_with fail
      go_ret2
      exact ⟨by simp [cqV, h], HB.out⟩
  · have hin := inB_false (lo := 1) (hi := 8) (n := n) h
    go_enter Try.func49, Try.ntmps49
    go_wp2_with (go_at_call 103; refine (in_any _ _ _ _).mono ?_; rintro e w' ⟨rfl, rfl⟩)
    go_ret2
    exact ⟨by simp [cqV, h], Below.refl _ _⟩

end Go.Proofs.Ytkcpncaedocdnaa
