/-
  The first queens.
-/
import Derived.Test.YtkcpncaedocdnaaQueens
import Derived.Test.YtkcpncaedocdnaaEachQ
import Derived.Test.YtkcpncaedocdnaaPredI
import Derived.Test.YtkcpncaedocdnaaMarkI
namespace Go.Proofs.Ytkcpncaedocdnaa
open Go.RowKit

theorem Try.enters42 (args : Array Value) (w : World) : (callFunc 101 args).run Try.prog w = .ok (.enter 101 args) w :=
  enters_of Try.func101 (by kernel_rfl) rfl args w

/-- What is returned. -/
def fqList (n : Int) : List Int := if 1 ≤ n ∧ n ≤ 8 then (qSols n.toNat n.toNat []).head?.getD [] else []
def fqOk (n : Int) : Bool := if 1 ≤ n ∧ n ≤ 8 then !(qSols n.toNat n.toNat []).isEmpty else false

theorem fqList_len (n : Int) : (fqList n).length ≤ 8 := by
  unfold fqList
  split
  · cases h : qSols n.toNat n.toNat [] with
    | nil => simp
    | cons s r =>
      have := qSols_mem n.toNat n.toNat [] s (by rw [h]; simp)
      simp at this ⊢
      omega
  · simp

set_option maxHeartbeats 400000 in
theorem firstQ1_any (B0 fb n : Nat) (hn : 1 ≤ n) (done : List (List Int)) (s : List Int) (a : Option Addr) (cap m : Nat) (w : World) (hm : s.length = m) (hmn : m = n) (hs : w.ownsRow B0 2 1 (.slice a m cap) m (s.map I64)) (hfb : fb < B0) (h : FQ B0 fb done w) :
    Calls Try.prog 101 (#[.slice a m cap] ++ #[.pointer (some ⟨fb, 0, none⟩)]) w fun e w' => e = .returned (.tuple #[]) ∧ FQ B0 fb (done ++ [s]) w' ∧ Kept (· = fb) w w' := by
  subst hm
  subst hmn
  have heq := fun (w : World) (a : Option Addr) (n c : Nat) => Lib.run_eql_slice_nil (P := Try.prog) w 22 2 a n c 0 0 Try.underlying22
  obtain ⟨g0, rfl, hg0⟩ := owns_slice_some hs (by omega)
  rcases h with ⟨rfl, h2⟩ | ⟨s', r, g, cap', rfl, h2, h3⟩
  · have hc := h2.cell
    have hf := h2.free
    have HS := Lib.hid hs
    have HB := Lib.hid h2
    clear hs h2
    go_enter Try.func101, Try.ntmps101
    go_wp2_with fail
    go_end0
    refine ⟨rfl, .inr ⟨s, [], g0, cap, rfl, HB.out.set _, ?_⟩, Kept.setCell (S := (· = fb)) (Kept.refl _ _) (.inr rfl) _⟩
    exact owns_other HS.out (by simp [Value.ownBlock]; omega) _
  · have hc := h2.cell
    have hf := h2.free
    have HS := Lib.hid hs
    have HB := Lib.hid h2
    have HO := Lib.hid h3
    clear hs h2 h3
    go_enter Try.func101, Try.ntmps101
    go_wp2_with fail
    go_end0
    exact ⟨rfl, .inr ⟨s', r ++ [s], g, cap', by simp, HB.out, HO.out⟩, Kept.refl _ _⟩

set_option maxHeartbeats 1000000 in
theorem implFirstQ_any (n : Int) (w : World) :
    Calls Try.prog 47 #[.int .i64 n] w fun e w' => ∃ v, e = .returned (.tuple #[v, .bool (fqOk n)]) ∧ OwnI w.heap.size w'.heap.size w' v (fqList n) ∧ Below w.heap.size w w' := by
  have hne := fun (w : World) (a : Option Addr) (n c : Nat) => run_neq_slice_nil_any (P := Try.prog) w 22 2 a n c 0 0 Try.underlying22
  by_cases h : 1 ≤ n ∧ n ≤ 8
  · obtain ⟨N, rfl⟩ := Int.eq_ofNat_of_zero_le (by omega : 0 ≤ n)
    have hin := inB_true (lo := 1) (hi := 8) (n := (N : Int)) h
    have hcount : ([] : List (List Int)).length + (qSols N N []).length ≤ 16777216 := by
      have h1 := qSols_len N N []
      have h2 : N ^ N ≤ 8 ^ 8 := Nat.le_trans (Nat.pow_le_pow_left (by omega) N) (Nat.pow_le_pow_right (by decide) (by omega))
      have : 8 ^ 8 = 16777216 := by decide
      simp; omega
    have HN := Lib.hid hne
    clear hne
    go_enter Try.func47, Try.ntmps47
    go_wp2_with (go_at_call 99; refine (within_any _ _ _ _).mono ?_; rintro e w' ⟨rfl, rfl⟩)
    refine (eachQueens_any N (by omega) 101 Try.enters42 #[.pointer (some ⟨w.heap.size, 0, none⟩)] (w.heap.size + 1) (· = w.heap.size) (by omega)
      (fun done w' => FQ (w.heap.size + 1) w.heap.size done w' ∧ Below w.heap.size w w') ?_ ?_ N none 0 [] _ [] 0 rfl (by simp) (by simp) (World.ownsRow_nil _ _ _ _) ?_ hcount).mono ?_
    · rintro done w1 w2 ⟨hb, hbl⟩ h12
      exact ⟨hb.up h12, hbl.trans (h12.mono hbl.size)⟩
    · rintro done s a cap m w1 hm hmn hs hlen ⟨hb, hbl⟩
      refine (firstQ1_any _ _ N (by omega) done s a cap m w1 hm hmn hs (by omega) hb).mono ?_
      rintro e w2 ⟨rfl, h1, h2⟩
      exact ⟨rfl, ⟨h1, hbl.trans (h2.toBelow hbl.size (by intro k h1 h2; omega))⟩, h2⟩
    · exact ⟨.inl ⟨rfl, Box.new w 22 (.slice none 0 0)⟩, (Below.refl _ _).alloc (Nat.le_refl _) _⟩
    · rintro e w1 ⟨rfl, ⟨hq, hbl⟩, hk⟩
      simp only [List.nil_append] at hq
      have HB := Lib.hid hbl
      have hne := HN.out
      clear hbl hk
      rcases hq with ⟨h1, h2⟩ | ⟨s, r, g, cap, h1, h2, h3⟩
      · have hc := h2.cell
        have H1 := Lib.hid h1
        clear h1 h2
        go_wp2_with fail
        go_quiet (fail)
        go_wp2_with fail
        go_ret2
        exact ⟨_, by simp [fqOk, h, H1.out]; rfl, ⟨by simp [fqList, h, H1.out]; exact World.ownsRow_nil _ _ _ _, by intro g hg; cases hg⟩, below_drewN HB.out _⟩
      · have hc := h2.cell
        have H1 := Lib.hid h1
        have H3 := Lib.hid h3
        clear h1 h2 h3
        go_wp2_with fail
        go_quiet (fail)
        go_wp2_with fail
        go_ret2
        refine ⟨_, by simp [fqOk, h, H1.out]; rfl, ?_, below_drewN HB.out _⟩
        have e : fqList (N : Int) = s := by simp [fqList, h, H1.out]
        rw [e]
        exact OwnI.mk (owns_base (owns_below H3.out (below_drewN (Below.refl _ _) _) (Nat.le_refl _)) (by omega))
  · have hin := inB_false (lo := 1) (hi := 8) (n := n) h
    go_enter Try.func47, Try.ntmps47
    go_wp2_with (go_at_call 99; refine (within_any _ _ _ _).mono ?_; rintro e w' ⟨rfl, rfl⟩)
    go_ret2
    exact ⟨_, by simp [fqOk, h]; rfl, ⟨by simp [fqList, h]; exact World.ownsRow_nil _ _ _ _, by intro g hg; cases hg⟩, Below.refl _ _⟩

theorem fqList_cnt (n : Int) : cntI (fqList n) ≤ 1048576 := Nat.le_trans (fqList_len n) (by decide)

end Go.Proofs.Ytkcpncaedocdnaa
