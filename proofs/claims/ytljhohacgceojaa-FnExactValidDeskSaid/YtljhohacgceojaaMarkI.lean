/-
  Marks in lists of integers.
-/
import Derived.Test.YtljhohacgceojaaPredI
namespace Go.Proofs.Ytljhohacgceojaa
open Go.RowKit

theorem mark_set {xs : List Int} {k : Int} {j : Nat} (hj : j < xs.length) :
    ((mkI k j ++ xs.drop j).map I64).set j (.int .i64 (k + j)) = (mkI k (j + 1) ++ xs.drop (j + 1)).map I64 := by
  rw [List.drop_eq_getElem_cons hj, List.map_append, List.map_cons, set_mid _ _ _ _ _ (by simp [mkI])]
  simp [mkI, List.range_succ, I64]

theorem owns_slice_some {w : World} {lo : Nat} {e : TypeId} {a : Option Addr} {n cap : Nat} {vs : List Value} (h : w.ownsRow lo e 1 (.slice a n cap) n vs) (hn : 0 < n) : ∃ g, a = some ⟨g, 0, none⟩ ∧ lo ≤ g := by
  rcases h.2 with ⟨e1, e2⟩ | ⟨g, cap', cur, e1, hb, _⟩
  · omega
  · simp only [Value.slice.injEq] at e1
    exact ⟨g, e1.1, hb⟩

set_option maxHeartbeats 400000 in
theorem markI_any (v : Value) (lo hi : Nat) (xs : List Int) (k : Int) (w : World) (ho : OwnI lo hi w v xs) (h0 : 0 ≤ k) (h1 : k + xs.length ≤ 1099511627776) :
    Calls Try.prog 112 #[v, .int .i64 k] w fun e w' => e = .returned (.int .i64 (k + xs.length)) ∧ OwnI lo hi w' v (mkI k xs.length) ∧ Kept (fun b => lo ≤ b ∧ b < hi) w w' := by
  obtain ⟨a, cap, rfl⟩ := ho.rd.shape
  have HO := Lib.hid ho
  clear ho
  go_enter Try.func112, Try.ntmps112
  go_wp2_with fail
  go_loopw [1, 5] (fun kk i wr => ∃ j : Nat, i = .int .i64 j ∧ j ≤ xs.length ∧ kk = .int .i64 (k + j) ∧ wr.ownsRow lo 2 1 (.slice a xs.length cap) xs.length ((mkI k j ++ xs.drop j).map I64) ∧ Kept (fun b => lo ≤ b ∧ b < hi) w wr) (fun _ i _ => xs.length - (intOf i).toNat)
  case atStart => exact ⟨0, rfl, Nat.zero_le _, by simp, by simpa [mkI] using HO.out.1, Kept.refl _ _⟩
  case round =>
    obtain ⟨j, rfl, hj, rfl, hown, hkp⟩ := hrel
    have HO1 := Lib.hid hown
    have HK1 := Lib.hid hkp
    clear hkp
    by_cases hlt : j < xs.length
    · obtain ⟨g, rfl, hlo⟩ := owns_slice_some hown (by omega)
      have hhi := HO.out.2 g rfl
      clear hown
      have hd := HO1.out.cellAt j (by omega)
      have hfr := HO1.out.frozenAt j
      have hdl : ((mkI k j ++ xs.drop j).map I64)[j]? = some (.int .i64 (xs.getD j 0)) := by
        rw [List.getElem?_map, List.getElem?_append_right (by simp [mkI])]
        simp [I64, mkI, hlt]
      rw [hdl] at hd
      clear hdl
      go_wp2_with fail
      go_roundw
      case rel =>
        refine ⟨j + 1, by go_num, by omega, by go_num, ?_, HK1.out.setCell (.inr ⟨hlo, hhi⟩) _⟩
        have h1 := (HO1.out.stored j (.int .i64 (k + j))).1
        rw [mark_set hlt] at h1
        exact h1
      case measure => simp [intOf]; omega
    · clear hown
      obtain rfl : j = xs.length := by omega
      go_wp2_with fail
      go_ret
      refine ⟨rfl, ⟨?_, HO.out.2⟩, HK1.out⟩
      have h := HO1.out
      rw [List.drop_length, List.append_nil] at h
      have e : (mkI k xs.length).length = xs.length := by simp [mkI]
      rw [e]
      simpa using h

set_option maxHeartbeats 400000 in
theorem heldInts_any (a : Option Addr) (n cap : Nat) (k : Int) (w : World) (hs : Slc w (.slice a n cap) ((mkI k n).map I64)) (h0 : 0 ≤ k) (h1 : k + n ≤ 1099511627776) :
    Calls Try.prog 113 #[.slice a n cap, .int .i64 k] w fun e w' => e = .returned (.int .i64 (k + n)) ∧ Below w.heap.size w w' := by
  have HS := Lib.hid hs
  clear hs
  go_enter Try.func113, Try.ntmps113
  go_wp2_with fail
  go_loopw [1, 5] (fun kk i wr => ∃ j : Nat, i = .int .i64 j ∧ j ≤ n ∧ kk = .int .i64 (k + j) ∧ Below w.heap.size w wr) (fun _ i _ => n - (intOf i).toNat)
  case atStart => exact ⟨0, rfl, Nat.zero_le _, by simp, Below.refl _ _⟩
  case round =>
    obtain ⟨j, rfl, hj, rfl, hbl⟩ := hrel
    have HB := Lib.hid hbl
    clear hbl
    by_cases hlt : j < n
    · obtain ⟨b, off, rfl, hb, hc⟩ := (HS.out.below HB.out (Nat.le_refl _)).at (i := j) (u := .int .i64 (k + j)) (by simp [I64, mkI, hlt])
      have hne : ((k + j : Int) != (k + j : Int)) = false := by simp
      go_wp2_with fail
      go_roundw
      case rel => exact ⟨j + 1, by go_num, by omega, by go_num, HB.out⟩
      case measure => simp [intOf]; omega
    · obtain rfl : j = n := by omega
      go_wp2_with fail
      go_ret
      exact ⟨rfl, HB.out⟩

theorem heldI_any (v : Value) (n : Nat) (k : Int) (w : World) (h : RdI w v (mkI k n)) (h0 : 0 ≤ k) (h1 : k + n ≤ 1099511627776) :
    Calls Try.prog 113 #[v, .int .i64 k] w fun e w' => e = .returned (.int .i64 (k + n)) ∧ Below w.heap.size w w' := by
  obtain ⟨a, c, e⟩ := h.shape
  rw [show (mkI k n).length = n by simp [mkI]] at e
  subst e
  exact heldInts_any a n c k w h h0 h1

def cntI (xs : List Int) : Nat := xs.length
theorem cntI_le (xs : List Int) : cntI xs ≤ bulkI xs := Nat.le_refl _
def mkdI (k : Int) (xs : List Int) : List Int := mkI k xs.length

theorem markI_o (v : Value) (lo hi : Nat) (xs : List Int) (k : Int) (w : World) (ho : OwnI lo hi w v xs) (h0 : 0 ≤ k) (h1 : k + cntI xs ≤ 1099511627776) :
    Calls Try.prog 112 #[v, .int .i64 k] w fun e w' => e = .returned (.int .i64 (k + cntI xs)) ∧ OwnI lo hi w' v (mkdI k xs) ∧ Kept (fun b => lo ≤ b ∧ b < hi) w w' :=
  markI_any v lo hi xs k w ho h0 h1

theorem heldI_o (v : Value) (xs : List Int) (k : Int) (w : World) (h : RdI w v (mkdI k xs)) (h0 : 0 ≤ k) (h1 : k + cntI xs ≤ 1099511627776) :
    Calls Try.prog 113 #[v, .int .i64 k] w fun e w' => e = .returned (.int .i64 (k + cntI xs)) ∧ Below w.heap.size w w' :=
  heldI_any v xs.length k w h h0 h1

theorem eqI_same (v v' : Value) (xs : List Int) (w : World) (h : RdI w v xs) (h' : RdI w v' xs) :
    Calls Try.prog 86 #[v, v'] w fun e w' => e = .returned (.bool true) ∧ Below w.heap.size w w' := by
  refine (eqI_any v v' xs xs w h h').mono ?_
  rintro e w' ⟨rfl, hb⟩
  exact ⟨by simp, hb⟩

end Go.Proofs.Ytljhohacgceojaa
