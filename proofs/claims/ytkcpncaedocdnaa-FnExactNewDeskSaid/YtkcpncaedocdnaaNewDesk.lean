/-
  The first desk: by the program and by the reference.
-/
import Derived.Test.YtkcpncaedocdnaaDeskO
namespace Go.Proofs.Ytkcpncaedocdnaa
open Go.RowKit

def newD : DeskD := ⟨⟨2, [1065353216, 1065353216, 1065353216, 0], [1082130432, 1077936128], [1073741824, 1065353216]⟩, [4, 3, 3], [⟨2, 2, 1, 0⟩, ⟨1, 3, 1, 0⟩], [0, 1, 2, 1, 1, 0, 1, 2, 2, 1, 0, 1, 1, 2, 1, 0]⟩

theorem bp_at {P : Program} {f : Func} {R : Ending → World → Prop} {ex : Exit} {a : Act} {w : World} (h : ∀ W, W = w → bodyPost P f R ex a W) : bodyPost P f R ex a w := h w rfl
theorem blkD_newB (w : World) (t : TypeId) (cs : Array Value) (b : Nat) (hb : b = w.heap.size) : Blk (w.alloc (.cells cs t)) b t cs := by subst hb; exact Blk.new w t cs

/-- A block that holds a whole row. -/
theorem owns_blk {w : World} {g : Nat} {t : TypeId} {c : Array Value} (h : Blk w g t c) (n size : Nat) (hn : c.size = n * size) (hm : n ≤ maxLen) : w.ownsRow g t size (.slice (some ⟨g, 0, none⟩) n n) n c.toList :=
  ⟨by simpa using hn, .inr ⟨g, n, c, rfl, Nat.le_refl _, h, Nat.le_refl _, hm, hn, List.take_of_length_le (by rw [Array.length_toList, hn]; exact Nat.le_refl _)⟩⟩

/-- The six rows make the desk. -/
theorem newD_own {w : World} {B1 B2 B3 B4 B5 B6 lo : Nat} (h1 : Blk w B1 59 #[.float .f32 1065353216, .float .f32 1065353216, .float .f32 1065353216, .float .f32 0]) (h2 : Blk w B2 59 #[.float .f32 1082130432, .float .f32 1077936128]) (h3 : Blk w B3 59 #[.float .f32 1073741824, .float .f32 1065353216]) (h4 : Blk w B4 2 #[.int .i64 4, .int .i64 3, .int .i64 3]) (h5 : Blk w B5 138 #[.int .i64 2, .int .i64 2, .int .i64 1, .int .i64 0, .int .i64 1, .int .i64 3, .int .i64 1, .int .i64 0]) (h6 : Blk w B6 2 #[.int .i64 0, .int .i64 1, .int .i64 2, .int .i64 1, .int .i64 1, .int .i64 0, .int .i64 1, .int .i64 2, .int .i64 2, .int .i64 1, .int .i64 0, .int .i64 1, .int .i64 1, .int .i64 2, .int .i64 1, .int .i64 0])
    (hlo : lo ≤ B1) (a1 : B1 < B2) (a2 : B2 < B3) (a3 : B3 < B4) (a4 : B4 < B5) (a5 : B5 < B6) :
    OwnD lo w.heap.size w (.agg #[.int .i64 2, .slice (some ⟨B1, 0, none⟩) 4 4, .slice (some ⟨B2, 0, none⟩) 2 2, .slice (some ⟨B3, 0, none⟩) 2 2, .slice (some ⟨B4, 0, none⟩) 3 3, .slice (some ⟨B5, 0, none⟩) 2 2, .slice (some ⟨B6, 0, none⟩) 16 16]) newD := by
  have o1 : OwnF B1 (B1 + 1) w (.slice (some ⟨B1, 0, none⟩) 4 4) newD.rows.nums := ⟨owns_blk h1 4 1 rfl (by decide), by intro g hg; simp [Value.ownBlock] at hg; omega⟩
  have o2 : OwnF B2 (B2 + 1) w (.slice (some ⟨B2, 0, none⟩) 2 2) newD.rows.bnds := ⟨owns_blk h2 2 1 rfl (by decide), by intro g hg; simp [Value.ownBlock] at hg; omega⟩
  have o3 : OwnF B3 (B3 + 1) w (.slice (some ⟨B3, 0, none⟩) 2 2) newD.rows.gains := ⟨owns_blk h3 2 1 rfl (by decide), by intro g hg; simp [Value.ownBlock] at hg; omega⟩
  have o4 : OwnI B4 (B4 + 1) w (.slice (some ⟨B4, 0, none⟩) 3 3) newD.sizes := ⟨owns_blk h4 3 1 rfl (by decide), by intro g hg; simp [Value.ownBlock] at hg; omega⟩
  have o5 : OwnJ B5 (B5 + 1) w (.slice (some ⟨B5, 0, none⟩) 2 2) newD.jobs := ⟨owns_blk h5 2 4 rfl (by decide), by intro g hg; simp [Value.ownBlock] at hg; omega⟩
  have o6 : OwnI B6 (B6 + 1) w (.slice (some ⟨B6, 0, none⟩) 16 16) newD.ways := ⟨owns_blk h6 16 1 rfl (by decide), by intro g hg; simp [Value.ownBlock] at hg; omega⟩
  have hl := h6.lt
  refine ⟨_, _, _, _, _, _, B1, B3 + 1, B4, B4 + 1, B5, B5 + 1, B6, B6 + 1, rfl, ⟨_, _, _, rfl, o1.wide (by omega) (by omega), o2.wide (by omega) (by omega), o3.wide (by omega) (by omega), ?_, ?_, ?_⟩, o4, o5, o6, hlo, by omega, by omega, by omega, by omega, by omega, by omega, by omega, by omega, by omega⟩
  · intro g q1 q2; simp [Value.ownBlock] at q1 q2; omega
  · intro g q1 q2; simp [Value.ownBlock] at q1 q2; omega
  · intro g q1 q2; simp [Value.ownBlock] at q1 q2; omega

set_option maxHeartbeats 2000000 in
set_option maxRecDepth 4000 in
theorem implNewDesk_any (w : World) :
    Calls Try.prog 63 #[] w fun e w' => ∃ v', e = .returned v' ∧ OwnD w.heap.size w'.heap.size w' v' newD ∧ Below w.heap.size w w' := by
  go_enter Try.func63, Try.ntmps63
  go_wp2_with fail
  refine bp_at fun W hW => ?_
  have h1 := Lib.hid (show Blk W (w.heap.size + 1) 59 #[.float .f32 1065353216, .float .f32 1065353216, .float .f32 1065353216, .float .f32 0] from (by subst hW; (repeat' first | exact blkD_newB _ _ _ _ (by first | rfl | (simp; done)) | refine Blk.alloc ?_ _)))
  have h2 := Lib.hid (show Blk W (w.heap.size + 1 + 1) 59 #[.float .f32 1082130432, .float .f32 1077936128] from (by subst hW; (repeat' first | exact blkD_newB _ _ _ _ (by first | rfl | (simp; done)) | refine Blk.alloc ?_ _)))
  have h3 := Lib.hid (show Blk W (w.heap.size + 1 + 1 + 1) 59 #[.float .f32 1073741824, .float .f32 1065353216] from (by subst hW; (repeat' first | exact blkD_newB _ _ _ _ (by first | rfl | (simp; done)) | refine Blk.alloc ?_ _)))
  have h4 := Lib.hid (show Blk W (w.heap.size + 1 + 1 + 1 + 1) 2 #[.int .i64 4, .int .i64 3, .int .i64 3] from (by subst hW; (repeat' first | exact blkD_newB _ _ _ _ (by first | rfl | (simp; done)) | refine Blk.alloc ?_ _)))
  have h5 := Lib.hid (show Blk W (w.heap.size + 1 + 1 + 1 + 1 + 1) 138 #[.int .i64 2, .int .i64 2, .int .i64 1, .int .i64 0, .int .i64 1, .int .i64 3, .int .i64 1, .int .i64 0] from (by subst hW; (repeat' first | exact blkD_newB _ _ _ _ (by first | rfl | (simp; done)) | refine Blk.alloc ?_ _)))
  have h6 := Lib.hid (show Blk W (w.heap.size + 1 + 1 + 1 + 1 + 1 + 1) 2 #[.int .i64 0, .int .i64 1, .int .i64 2, .int .i64 1, .int .i64 1, .int .i64 0, .int .i64 1, .int .i64 2, .int .i64 2, .int .i64 1, .int .i64 0, .int .i64 1, .int .i64 1, .int .i64 2, .int .i64 1, .int .i64 0] from (by subst hW; (repeat' first | exact blkD_newB _ _ _ _ (by first | rfl | (simp; done)) | refine Blk.alloc ?_ _)))
  have hD := Lib.hid (show Blk W w.heap.size 79 #[.int .i64 2, .slice (some ⟨w.heap.size + 1, 0, none⟩) 4 4, .slice (some ⟨w.heap.size + 1 + 1, 0, none⟩) 2 2, .slice (some ⟨w.heap.size + 1 + 1 + 1, 0, none⟩) 2 2, .slice (some ⟨w.heap.size + 1 + 1 + 1 + 1, 0, none⟩) 3 3, .slice (some ⟨w.heap.size + 1 + 1 + 1 + 1 + 1, 0, none⟩) 2 2, .slice (some ⟨w.heap.size + 1 + 1 + 1 + 1 + 1 + 1, 0, none⟩) 16 16] by subst hW; exact ((((((Blk.new _ _ _).alloc _).alloc _).alloc _).alloc _).alloc _).alloc _)
  have HB := Lib.hid (show Below w.heap.size w W by subst hW; (repeat' first | exact Below.refl _ _ | assumption | refine Below.alloc ?_ ?_ _ | refine Below.setCell ?_ ?_ _ | refine Below.drew ?_ | (simp; done) | (simp; omega)))
  clear hW
  have c0 : W.cell? ⟨w.heap.size, 0, none⟩ = some (.int .i64 2) := hD.out.cell 0 rfl
  have c1 : W.cell? ⟨w.heap.size, 1, none⟩ = some (.slice (some ⟨w.heap.size + 1, 0, none⟩) 4 4) := hD.out.cell 1 rfl
  have c2 : W.cell? ⟨w.heap.size, 2, none⟩ = some (.slice (some ⟨w.heap.size + 1 + 1, 0, none⟩) 2 2) := hD.out.cell 2 rfl
  have c3 : W.cell? ⟨w.heap.size, 3, none⟩ = some (.slice (some ⟨w.heap.size + 1 + 1 + 1, 0, none⟩) 2 2) := hD.out.cell 3 rfl
  have c4 : W.cell? ⟨w.heap.size, 4, none⟩ = some (.slice (some ⟨w.heap.size + 1 + 1 + 1 + 1, 0, none⟩) 3 3) := hD.out.cell 4 rfl
  have c5 : W.cell? ⟨w.heap.size, 5, none⟩ = some (.slice (some ⟨w.heap.size + 1 + 1 + 1 + 1 + 1, 0, none⟩) 2 2) := hD.out.cell 5 rfl
  have c6 : W.cell? ⟨w.heap.size, 6, none⟩ = some (.slice (some ⟨w.heap.size + 1 + 1 + 1 + 1 + 1 + 1, 0, none⟩) 16 16) := hD.out.cell 6 rfl
  refine bodyPost_ret (v := .agg #[.int .i64 2, .slice (some ⟨w.heap.size + 1, 0, none⟩) 4 4, .slice (some ⟨w.heap.size + 1 + 1, 0, none⟩) 2 2, .slice (some ⟨w.heap.size + 1 + 1 + 1, 0, none⟩) 2 2, .slice (some ⟨w.heap.size + 1 + 1 + 1 + 1, 0, none⟩) 3 3, .slice (some ⟨w.heap.size + 1 + 1 + 1 + 1 + 1, 0, none⟩) 2 2, .slice (some ⟨w.heap.size + 1 + 1 + 1 + 1 + 1 + 1, 0, none⟩) 16 16]) (by simp [results, Try.results63, go_sem, c0, c1, c2, c3, c4, c5, c6]) rfl ?_
  exact ⟨_, rfl, newD_own h1.out h2.out h3.out h4.out h5.out h6.out (by omega) (by omega) (by omega) (by omega) (by omega) (by omega), HB.out⟩

set_option maxHeartbeats 2000000 in
set_option maxRecDepth 4000 in
theorem specNewDesk_any (w : World) :
    Calls Try.prog 62 #[] w fun e w' => ∃ v', e = .returned v' ∧ OwnD w.heap.size w'.heap.size w' v' newD ∧ Below w.heap.size w w' := by
  go_enter Try.func62, Try.ntmps62
  go_wp2_with fail
  refine bp_at fun W hW => ?_
  have h1 := Lib.hid (show Blk W (w.heap.size + 1) 59 #[.float .f32 1065353216, .float .f32 1065353216, .float .f32 1065353216, .float .f32 0] from (by subst hW; (repeat' first | exact blkD_newB _ _ _ _ (by first | rfl | (simp; done)) | refine Blk.alloc ?_ _)))
  have h2 := Lib.hid (show Blk W (w.heap.size + 1 + 1) 59 #[.float .f32 1082130432, .float .f32 1077936128] from (by subst hW; (repeat' first | exact blkD_newB _ _ _ _ (by first | rfl | (simp; done)) | refine Blk.alloc ?_ _)))
  have h3 := Lib.hid (show Blk W (w.heap.size + 1 + 1 + 1) 59 #[.float .f32 1073741824, .float .f32 1065353216] from (by subst hW; (repeat' first | exact blkD_newB _ _ _ _ (by first | rfl | (simp; done)) | refine Blk.alloc ?_ _)))
  have h4 := Lib.hid (show Blk W (w.heap.size + 1 + 1 + 1 + 1 + 1) 2 #[.int .i64 4, .int .i64 3, .int .i64 3] from (by subst hW; (repeat' first | exact blkD_newB _ _ _ _ (by first | rfl | (simp; done)) | refine Blk.alloc ?_ _)))
  have h5 := Lib.hid (show Blk W (w.heap.size + 1 + 1 + 1 + 1 + 1 + 1) 138 #[.int .i64 2, .int .i64 2, .int .i64 1, .int .i64 0, .int .i64 1, .int .i64 3, .int .i64 1, .int .i64 0] from (by subst hW; (repeat' first | exact blkD_newB _ _ _ _ (by first | rfl | (simp; done)) | refine Blk.alloc ?_ _)))
  have h6 := Lib.hid (show Blk W (w.heap.size + 1 + 1 + 1 + 1 + 1 + 1 + 1) 2 #[.int .i64 0, .int .i64 1, .int .i64 2, .int .i64 1, .int .i64 1, .int .i64 0, .int .i64 1, .int .i64 2, .int .i64 2, .int .i64 1, .int .i64 0, .int .i64 1, .int .i64 1, .int .i64 2, .int .i64 1, .int .i64 0] from (by subst hW; (repeat' first | exact blkD_newB _ _ _ _ (by first | rfl | (simp; done)) | refine Blk.alloc ?_ _)))
  have hD := Lib.hid (show Blk W w.heap.size 79 #[.int .i64 2, .slice (some ⟨w.heap.size + 1, 0, none⟩) 4 4, .slice (some ⟨w.heap.size + 1 + 1, 0, none⟩) 2 2, .slice (some ⟨w.heap.size + 1 + 1 + 1, 0, none⟩) 2 2, .slice (some ⟨w.heap.size + 1 + 1 + 1 + 1 + 1, 0, none⟩) 3 3, .slice (some ⟨w.heap.size + 1 + 1 + 1 + 1 + 1 + 1, 0, none⟩) 2 2, .slice (some ⟨w.heap.size + 1 + 1 + 1 + 1 + 1 + 1 + 1, 0, none⟩) 16 16] by subst hW; exact (((((((Blk.new _ _ _).alloc _).alloc _).alloc _).alloc _).alloc _).alloc _).alloc _)
  have HB := Lib.hid (show Below w.heap.size w W by subst hW; (repeat' first | exact Below.refl _ _ | assumption | refine Below.alloc ?_ ?_ _ | refine Below.setCell ?_ ?_ _ | refine Below.drew ?_ | (simp; done) | (simp; omega)))
  clear hW
  have c0 : W.cell? ⟨w.heap.size, 0, none⟩ = some (.int .i64 2) := hD.out.cell 0 rfl
  have c1 : W.cell? ⟨w.heap.size, 1, none⟩ = some (.slice (some ⟨w.heap.size + 1, 0, none⟩) 4 4) := hD.out.cell 1 rfl
  have c2 : W.cell? ⟨w.heap.size, 2, none⟩ = some (.slice (some ⟨w.heap.size + 1 + 1, 0, none⟩) 2 2) := hD.out.cell 2 rfl
  have c3 : W.cell? ⟨w.heap.size, 3, none⟩ = some (.slice (some ⟨w.heap.size + 1 + 1 + 1, 0, none⟩) 2 2) := hD.out.cell 3 rfl
  have c4 : W.cell? ⟨w.heap.size, 4, none⟩ = some (.slice (some ⟨w.heap.size + 1 + 1 + 1 + 1 + 1, 0, none⟩) 3 3) := hD.out.cell 4 rfl
  have c5 : W.cell? ⟨w.heap.size, 5, none⟩ = some (.slice (some ⟨w.heap.size + 1 + 1 + 1 + 1 + 1 + 1, 0, none⟩) 2 2) := hD.out.cell 5 rfl
  have c6 : W.cell? ⟨w.heap.size, 6, none⟩ = some (.slice (some ⟨w.heap.size + 1 + 1 + 1 + 1 + 1 + 1 + 1, 0, none⟩) 16 16) := hD.out.cell 6 rfl
  refine bodyPost_ret (v := .agg #[.int .i64 2, .slice (some ⟨w.heap.size + 1, 0, none⟩) 4 4, .slice (some ⟨w.heap.size + 1 + 1, 0, none⟩) 2 2, .slice (some ⟨w.heap.size + 1 + 1 + 1, 0, none⟩) 2 2, .slice (some ⟨w.heap.size + 1 + 1 + 1 + 1 + 1, 0, none⟩) 3 3, .slice (some ⟨w.heap.size + 1 + 1 + 1 + 1 + 1 + 1, 0, none⟩) 2 2, .slice (some ⟨w.heap.size + 1 + 1 + 1 + 1 + 1 + 1 + 1, 0, none⟩) 16 16]) (by simp [results, Try.results62, go_sem, c0, c1, c2, c3, c4, c5, c6]) rfl ?_
  exact ⟨_, rfl, newD_own h1.out h2.out h3.out h4.out h5.out h6.out (by omega) (by omega) (by omega) (by omega) (by omega) (by omega), HB.out⟩

end Go.Proofs.Ytkcpncaedocdnaa
