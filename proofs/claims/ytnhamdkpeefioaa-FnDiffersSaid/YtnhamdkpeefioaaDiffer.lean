/-
  Choices: all of them, counted, the first one; by the reference and by the program.
-/
import Derived.Test.YtnhamdkpeefioaaChoices
import Derived.Test.YtnhamdkpeefioaaPredI
namespace Go.Proofs.Ytnhamdkpeefioaa
open Go.RowKit

/-- All choices. -/
def allC (D : List (List Int)) : List (List Int) := choi D D.length []

theorem Try.infoBools : (Try.prog.info? 101).map (fun i => (i.zero, i.size, i.bytes)) = some (some (.slice none 0 0), 1, 24) := by kernel_rfl
theorem Try.infoBool : (Try.prog.info? 4).map (fun i => (i.zero, i.size, i.bytes)) = some (some (.bool false), 1, 1) := by kernel_rfl

/-- The rows of marks as they are built. -/
def rowsV (D : List (List Int)) (gs : Nat → Nat) (k : Nat) : List Value := (List.range k).map fun i => .slice (some ⟨gs i, 0, none⟩) (D.getD i []).length (D.getD i []).length
def Built (D : List (List Int)) (lo : Nat) (w : World) (v : Value) (k : Nat) : Prop :=
  ∃ gs : Nat → Nat, w.ownsRow lo 101 1 v k (rowsV D gs k) ∧ ∀ i, i < k → lo ≤ gs i ∧ (∀ j, j < k → j ≠ i → gs j ≠ gs i) ∧ w.rowIs (gs i) 4 (D.getD i []).length (fun _ => .bool false)
theorem Built.marks {D : List (List Int)} {lo : Nat} {w : World} {v : Value} (h : Built D lo w v D.length) (h1 : 1 ≤ D.length) : Marks lo w.heap.size w v D (fun _ _ => false) := by
  obtain ⟨gs, ho, hr⟩ := h
  have hn : v ≠ .slice none 0 0 := by
    rintro rfl
    rcases ho.2 with ⟨_, e⟩ | ⟨g, cap, cur, e, _⟩
    · omega
    · simp at e
  obtain ⟨g, cap, rfl, hg1, hg2⟩ := owns_some ho hn
  refine ⟨g, cap, gs, fun i => (D.getD i []).length, rfl, hg1, hg2, hg2, fun i hi => ?_⟩
  obtain ⟨a1, a2, a3⟩ := hr i hi
  refine ⟨?_, a1, a3.lt, ?_, a2, a3⟩
  · have := ho.cellAt i (by omega)
    rw [this]
    simp [rowsV, hi]
  · rintro rfl
    rcases ho.2 with ⟨e, _⟩ | ⟨g', cap', cur, e, _, hh, _⟩
    · simp at e
    · simp only [Value.slice.injEq, Option.some.injEq, Addr.mk.injEq, and_true] at e
      obtain ⟨rfl, _⟩ := e
      obtain ⟨c, hb, _, _⟩ := a3
      rw [hh] at hb
      simp at hb

theorem slc_lit (w : World) (b : Nat) (hb : b = w.heap.size) (t : TypeId) (u : Value) : Slc (w.alloc (.cells #[u] t)) (.slice (some ⟨b, 0, none⟩) 1 1) [u] := by
  subst hb
  exact slc_of_owns (World.ownsRow_lit (base := w.heap.size) (e := t) (size := 1) w #[u] 1 (Nat.le_refl _) (by simp [maxLen]) rfl)
theorem row_not_owned {w : World} {g n base m : Nat} {t e : TypeId} {f : Nat → Value} {v : Value} {vs : List Value} (h : w.rowIs g t n f) (ho : w.ownsRow base e 1 v m vs) (hte : t ≠ e) : v.ownBlock ≠ some g := by
  rcases ho.2 with ⟨rfl, _⟩ | ⟨g', cap, cur, rfl, _, hh, _⟩
  · simp [Value.ownBlock]
  · intro e2
    simp only [Value.ownBlock, Option.some.injEq] at e2
    subst e2
    obtain ⟨c, hb, _⟩ := h
    rw [hh] at hb
    simp only [Option.some.injEq, Obj.cells.injEq] at hb
    exact hte hb.2.1.symm
theorem rowsV_succ (D : List (List Int)) (gs : Nat → Nat) (k g n : Nat) (hn : n = (D.getD k []).length) : rowsV D (fun i => if i = k then g else gs i) (k + 1) = rowsV D gs k ++ [.slice (some ⟨g, 0, none⟩) n n] := by
  subst hn
  unfold rowsV
  rw [List.range_succ, List.map_append]
  congr 1
  · apply List.map_congr_left
    intro i hi
    have := List.mem_range.1 hi
    simp [show i ≠ k by omega]
  · simp
theorem Built.next {D : List (List Int)} {lo k n : Nat} {w w1 w3 : World} {v v3 : Value} {gs : Nat → Nat} (hn : n = (D.getD k []).length) (h : w.ownsRow lo 101 1 v k (rowsV D gs k))
    (hr : ∀ i, i < k → lo ≤ gs i ∧ (∀ j, j < k → j ≠ i → gs j ≠ gs i) ∧ w.rowIs (gs i) 4 (D.getD i []).length (fun _ => .bool false)) (hlo : lo ≤ w.heap.size)
    (h1 : ∀ i, i < w.heap.size → w1.heap[i]? = w.heap[i]?) (hsz : w.heap.size < w1.heap.size) (hk : w1.rowIs w.heap.size 4 n (fun _ => .bool false)) (hg : w1.grownBy w3 v.ownBlock)
    (h3 : w3.ownsRow lo 101 1 v3 (k + 1) (rowsV D gs k ++ [.slice (some ⟨w.heap.size, 0, none⟩) n n])) : Built D lo w3 v3 (k + 1) := by
  refine ⟨fun i => if i = k then w.heap.size else gs i, by rw [rowsV_succ D gs k _ n hn]; exact h3, fun i hi => ?_⟩
  have key : ∀ j, j < k → gs j < w.heap.size := fun j hj => (hr j hj).2.2.lt
  by_cases e : i = k
  · subst e
    simp only [if_true]
    refine ⟨hlo, fun j hj hne => ?_, ?_⟩
    · rw [if_neg hne]; have := key j (by omega); omega
    · rw [← hn]
      refine hk.of_block (hg.block _ hsz ?_)
      intro e2
      have := (owns_lt h e2.symm).2
      omega
  · simp only [if_neg e]
    obtain ⟨a1, a2, a3⟩ := hr i (by omega)
    refine ⟨a1, fun j hj hne => ?_, ?_⟩
    · by_cases ej : j = k
      · subst ej; rw [if_pos rfl]; have := key i (by omega); omega
      · rw [if_neg ej]; exact a2 j (by omega) hne
    · refine a3.of_block ((hg.block _ (by have := a3.lt; omega) ?_).trans (h1 _ a3.lt))
      exact fun e2 => row_not_owned a3 h (by decide) e2.symm

set_option maxHeartbeats 4000000 in
set_option maxRecDepth 4000 in
theorem l07All_any (v : Value) (D : List (List Int)) (hD : ValD D) (w : World) (h : RdL w v D) :
    Calls Try.prog 76 #[v] w fun e w' => ∃ fv sv B0 lo hi, e = .returned (.tuple #[.int .i64 (allC D).length, fv, sv]) ∧ w.heap.size ≤ B0 ∧ FirstInv B0 w' fv (allC D) ∧ w.heap.size ≤ lo ∧ Marks lo hi w' sv D (markL D (fun _ _ => false) (allC D)) ∧ Below w.heap.size w w' := by
  obtain ⟨i0, hi0, hz0, hz1, hz2⟩ := info_parts Try.infoBools
  obtain ⟨i1, hi1, hy0, hy1, hy2⟩ := info_parts Try.infoBool
  obtain ⟨a, c, rfl⟩ := h.shape
  have hD6 := hD.2.1
  have hD1 := hD.1
  have HD := Lib.hid hD
  have HRD := Lib.hid h
  clear hD h
  go_enter Try.func76, Try.ntmps76
  go_wp2_with fail
  go_loopw [5, 12] (fun sn kk wr => ∃ (k : Nat) (b : Option Addr) (cap : Nat), kk = .int .i64 k ∧ k ≤ D.length ∧ sn = .slice b k cap ∧ Built D w.heap.size wr (.slice b k cap) k ∧ Below w.heap.size w wr) (fun _ kk _ => D.length - (intOf kk).toNat)
  case atStart => exact ⟨0, _, _, rfl, Nat.zero_le _, rfl, ⟨fun _ => 0, World.ownsRow_lit (base := w.heap.size) (e := 101) (size := 1) w #[] 0 (Nat.le_refl _) (by simp [maxLen]) rfl, fun i hi => by omega⟩, (Below.refl _ _).alloc (Nat.le_refl _) _⟩
  case round =>
    obtain ⟨k, b, cap, rfl, hk, rfl, hbu, hbl⟩ := hrel
    have HBU := Lib.hid hbu
    have HB := Lib.hid hbl
    have hsz := hbl.size
    clear hbu hbl
    by_cases hlt : k < D.length
    · obtain ⟨db, dof, u, rfl, _, hc0, hu⟩ := (HRD.out.up HB.out (Nat.le_refl _)).at hlt
      obtain ⟨ua, uc, rfl⟩ := hu.shape
      have hd8 := (HD.out.2.2 k hlt).2.1
      obtain ⟨n, hn⟩ : ∃ n, n = (D.getD k []).length := ⟨_, rfl⟩
      rw [← hn] at hc0 hd8
      have HN := Lib.hid hn
      clear hu hn
      obtain ⟨gs, ho, hr⟩ := HBU.out
      have HO := Lib.hid ho
      have HR := Lib.hid hr
      clear ho hr
      go_wp2_with (first
        | (at_make; refine wpList_make_row _ rfl _ _ 101 rfl 4 i1 (.bool false) Try.underlying101 hi1 hy0 hy1 rfl .i64 .i64 n rfl rfl (by rw [hy2]; omega) (by omega) ?_)
        | (at_builtin; refine wpList_append_slc rfl _ _ 98 rfl w.heap.size 101 i0 (.slice none 0 0) 24 Try.underlying98 hi0 hz0 hz1 hz2 rfl (.slice b k cap) k (rowsV D gs k) rfl ((HO.out.alloc _).alloc _) _ [.slice (some ⟨wr.heap.size, 0, none⟩) n n] rfl (slc_lit _ _ (by simp) _ _) (by simp [Value.oneCell']) (by simp [maxLen]; omega) (by simp; omega) (by simp; omega) ?_; intro v3 w3 hown3 hg3 hnil3; obtain ⟨b3, cap3, rfl⟩ := owns_shape hown3))
      go_roundw
      case rel =>
        refine ⟨k + 1, b3, cap3, by go_num, by omega, rfl, Built.next HN.out HO.out HR.out hsz ?_ ?_ ?_ hg3 hown3, ?_⟩
        · intro i hi
          exact (Below.heap_alloc _ _ _ (by simp; omega)).trans (Below.heap_alloc _ _ _ hi)
        · simp; omega
        · exact (World.rowIs_made wr (.bool false) n 4).alloc _
        · exact ((HB.out.alloc (by omega) _).alloc (by simp; omega) _).trans (below_grown ((HO.out.alloc _).alloc _) (by simp; omega) hg3)
      case measure => simp [intOf]; omega
    · obtain rfl : k = D.length := by omega
      have HMK := Lib.hid (HBU.out.marks hD1)
      go_wp2_with fail
      refine Calls.at fun W hW => ?_
      have hbW : Below wr.heap.size wr W := by subst hW; (repeat' first | exact Below.refl _ _ | assumption | refine Below.alloc ?_ ?_ _ | refine Below.setCell ?_ ?_ _ | refine Below.drew ?_ | (simp; done) | (simp; omega))
      have hbox : Box W (wr.heap.size + 1) 32 (.slice (some ⟨wr.heap.size, 0, none⟩) 0 0) := by
        subst hW
        have := (Box.new (wr.alloc (.cells #[] 2)) 32 (.slice (some ⟨wr.heap.size, 0, none⟩) 0 0)).below (w' := (((wr.alloc (.cells #[] 2)).alloc (.cells #[.slice (some ⟨wr.heap.size, 0, none⟩) 0 0] 32)).alloc (.cells #[] 2))) ((Below.refl _ _).alloc (Nat.le_refl _) _) (by simp)
        simpa using this
      have hnow : W.ownsRow (wr.heap.size + 1 + 1) 2 1 (.slice (some ⟨wr.heap.size + 1 + 1, 0, none⟩) 0 0) 0 (([] : List Int).map I64) := by
        subst hW
        have := owns_empty ((wr.alloc (.cells #[] 2)).alloc (.cells #[.slice (some ⟨wr.heap.size, 0, none⟩) 0 0] 32))
        simpa using this
      have hszW : wr.heap.size + 1 + 1 + 1 = W.heap.size := by subst hW; simp
      clear hW
      have HBW := Lib.hid (HB.out.trans (hbW.mono HB.out.size))
      refine (l07Choices_any _ D HD.out w HRD.out (wr.heap.size + 1 + 1) (wr.heap.size + 1) w.heap.size wr.heap.size _ (by omega) (by omega) (Nat.le_refl _) (by omega) (by omega) D.length _ 0 [] W _ [] _ 0 rfl (by simp) (by omega) HBW.out hnow hbox (.inl ⟨rfl, _, _, rfl⟩) (HMK.out.up hbW (Nat.le_refl _))).mono ?_
      rintro e w1 ⟨rfl, ⟨fv, hb1, hfi⟩, hmk, hk⟩
      simp only [List.nil_append] at hfi
      have HB1 := Lib.hid (keptUp HBW.out hk (fun b hb => by rcases hb with rfl | hb <;> omega))
      have hc := hb1.cell
      have HFI := Lib.hid hfi
      have HM1 := Lib.hid hmk
      clear hb1 hk hbW hbox hnow hfi hmk
      go_wp2_with fail
      go_quiet (fail)
      go_wp2_with fail
      go_ret3
      exact ⟨_, _, wr.heap.size + 1 + 1, w.heap.size, wr.heap.size, rfl, by omega, HFI.out, Nat.le_refl _, HM1.out, below_drewN HB1.out _⟩

end Go.Proofs.Ytnhamdkpeefioaa
