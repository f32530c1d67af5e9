/-
  FnJournal: texts joined: NewDesk, TopM, DrwL, DkRun, FdM.
-/
import Derived.Lib.OthersKept
import Derived.Lib.FrozenHead
import Derived.Test.YtgkbbpajkbkgnaaGreatDoorMFnJournalAB
import Derived.Test.YtgkbbpajkbkgnaaGreatDoorMFnJournalAD
import Derived.Test.YtgkbbpajkbkgnaaGreatDoorMFnJournalAG
import Derived.Test.YtgkbbpajkbkgnaaGreatDoorMFnJournalBB
import Derived.Test.YtgkbbpajkbkgnaaGreatDoorMFnJournalBD
import Derived.Test.YtgkbbpajkbkgnaaGreatDoorMFnJournalBG
set_option linter.unusedVariables false
set_option linter.unusedSimpArgs false
namespace Go.Proofs.YtgkbbpajkbkgnaaGreatDoor
open Go.RowKit
def newD : DeskD := ⟨⟨2, [1065353216, 1065353216, 1065353216, 0], [1082130432, 1077936128], [1073741824, 1065353216]⟩, [4, 3, 3], [⟨2, 2, 1, 0⟩, ⟨1, 3, 1, 0⟩], [0, 1, 2, 1, 1, 0, 1, 2, 2, 1, 0, 1, 1, 2, 1, 0]⟩
theorem bp_at {P : Program} {f : Func} {R : Ending → World → Prop} {ex : Exit} {a : Act} {w : World} (h : ∀ W, W = w → bodyPost P f R ex a W) : bodyPost P f R ex a w := h w rfl
theorem blkD_newB (w : World) (t : TypeId) (cs : Array Value) (b : Nat) (hb : b = w.heap.size) : Blk (w.alloc (.cells cs t)) b t cs := by subst hb; exact Blk.new w t cs
theorem owns_blk {w : World} {g : Nat} {t : TypeId} {c : Array Value} (h : Blk w g t c) (n size : Nat) (hn : c.size = n * size) (hm : n ≤ maxLen) : w.ownsRow g t size (.slice (some ⟨g, 0, none⟩) n n) n c.toList :=
  ⟨by simpa using hn, .inr ⟨g, n, c, rfl, Nat.le_refl _, h, Nat.le_refl _, hm, hn, List.take_of_length_le (by rw [Array.length_toList, hn]; exact Nat.le_refl _)⟩⟩
theorem newD_own {w : World} {B1 B2 B3 B4 B5 B6 lo : Nat} (h1 : Blk w B1 100 #[.float .f32 1065353216, .float .f32 1065353216, .float .f32 1065353216, .float .f32 0]) (h2 : Blk w B2 100 #[.float .f32 1082130432, .float .f32 1077936128]) (h3 : Blk w B3 100 #[.float .f32 1073741824, .float .f32 1065353216]) (h4 : Blk w B4 2 #[.int .i64 4, .int .i64 3, .int .i64 3]) (h5 : Blk w B5 86 #[.int .i64 2, .int .i64 2, .int .i64 1, .int .i64 0, .int .i64 1, .int .i64 3, .int .i64 1, .int .i64 0]) (h6 : Blk w B6 2 #[.int .i64 0, .int .i64 1, .int .i64 2, .int .i64 1, .int .i64 1, .int .i64 0, .int .i64 1, .int .i64 2, .int .i64 2, .int .i64 1, .int .i64 0, .int .i64 1, .int .i64 1, .int .i64 2, .int .i64 1, .int .i64 0])
    (hlo : lo ≤ B1) (a1 : B1 < B2) (a2 : B2 < B3) (a3 : B3 < B4) (a4 : B4 < B5) (a5 : B5 < B6) :
    OwnD lo w.heap.size w (.agg #[.int .i64 2, .slice (some ⟨B1, 0, none⟩) 4 4, .slice (some ⟨B2, 0, none⟩) 2 2, .slice (some ⟨B3, 0, none⟩) 2 2, .slice (some ⟨B4, 0, none⟩) 3 3, .slice (some ⟨B5, 0, none⟩) 2 2, .slice (some ⟨B6, 0, none⟩) 16 16]) newD := by
  have o1 : OwnF B1 (B1 + 1) w (.slice (some ⟨B1, 0, none⟩) 4 4) newD.rows.nums := ⟨owns_blk h1 4 1 rfl (by decide), by intro g hg; simp [Value.ownBlock] at hg; omega⟩
  have o2 : OwnF B2 (B2 + 1) w (.slice (some ⟨B2, 0, none⟩) 2 2) newD.rows.bnds := ⟨owns_blk h2 2 1 rfl (by decide), by intro g hg; simp [Value.ownBlock] at hg; omega⟩
  have o3 : OwnF B3 (B3 + 1) w (.slice (some ⟨B3, 0, none⟩) 2 2) newD.rows.gains := ⟨owns_blk h3 2 1 rfl (by decide), by intro g hg; simp [Value.ownBlock] at hg; omega⟩
  have o4 : OwnI B4 (B4 + 1) w (.slice (some ⟨B4, 0, none⟩) 3 3) newD.sizes := ⟨owns_blk h4 3 1 rfl (by decide), by intro g hg; simp [Value.ownBlock] at hg; omega⟩
  have o5 : OwnJ B5 (B5 + 1) w (.slice (some ⟨B5, 0, none⟩) 2 2) newD.jobs := ⟨owns_blk h5 2 4 rfl (by decide), by intro g hg; simp [Value.ownBlock] at hg; omega⟩
  have o6 : OwnI B6 (B6 + 1) w (.slice (some ⟨B6, 0, none⟩) 16 16) newD.ways := ⟨owns_blk h6 16 1 rfl (by decide), by intro g hg; simp [Value.ownBlock] at hg; omega⟩
  have hl := h6.lt
  refine ⟨_, _, _, _, _, _, B1, B3 + 1, B4, B4 + 1, B5, B5 + 1, B6, B6 + 1, rfl, ⟨_, _, _, rfl, o1.wide (by omega) (by omega), o2.wide (by omega) (by omega), o3.wide (by omega) (by omega), ?_, ?_, ?_⟩, o4, o5, o6, hlo, by omega, by omega, by omega, by omega, by omega, by omega, by omega, by omega, by omega⟩
  · intro g q1 q2; simp [Value.ownBlock] at q1 q2; omega
  · intro g q1 q2; simp [Value.ownBlock] at q1 q2; omega
  · intro g q1 q2; simp [Value.ownBlock] at q1 q2; omega
set_option maxHeartbeats 2000000 in
set_option maxRecDepth 4000 in
theorem implNewDesk_any (w : World) :
    Calls Tryz.prog 17 #[] w fun e w' => ∃ v', e = .returned v' ∧ OwnD w.heap.size w'.heap.size w' v' newD ∧ Below w.heap.size w w' := by
  go_enter Tryz.func17, Tryz.ntmps17
  go_wp2_with fail
  refine bp_at fun W hW => ?_
  have h1 := Lib.hid (show Blk W (w.heap.size + 1) 100 #[.float .f32 1065353216, .float .f32 1065353216, .float .f32 1065353216, .float .f32 0] from (by subst hW; (repeat' first | exact blkD_newB _ _ _ _ (by first | rfl | (simp; done)) | refine Blk.alloc ?_ _)))
  have h2 := Lib.hid (show Blk W (w.heap.size + 1 + 1) 100 #[.float .f32 1082130432, .float .f32 1077936128] from (by subst hW; (repeat' first | exact blkD_newB _ _ _ _ (by first | rfl | (simp; done)) | refine Blk.alloc ?_ _)))
  have h3 := Lib.hid (show Blk W (w.heap.size + 1 + 1 + 1) 100 #[.float .f32 1073741824, .float .f32 1065353216] from (by subst hW; (repeat' first | exact blkD_newB _ _ _ _ (by first | rfl | (simp; done)) | refine Blk.alloc ?_ _)))
  have h4 := Lib.hid (show Blk W (w.heap.size + 1 + 1 + 1 + 1) 2 #[.int .i64 4, .int .i64 3, .int .i64 3] from (by subst hW; (repeat' first | exact blkD_newB _ _ _ _ (by first | rfl | (simp; done)) | refine Blk.alloc ?_ _)))
  have h5 := Lib.hid (show Blk W (w.heap.size + 1 + 1 + 1 + 1 + 1) 86 #[.int .i64 2, .int .i64 2, .int .i64 1, .int .i64 0, .int .i64 1, .int .i64 3, .int .i64 1, .int .i64 0] from (by subst hW; (repeat' first | exact blkD_newB _ _ _ _ (by first | rfl | (simp; done)) | refine Blk.alloc ?_ _)))
  have h6 := Lib.hid (show Blk W (w.heap.size + 1 + 1 + 1 + 1 + 1 + 1) 2 #[.int .i64 0, .int .i64 1, .int .i64 2, .int .i64 1, .int .i64 1, .int .i64 0, .int .i64 1, .int .i64 2, .int .i64 2, .int .i64 1, .int .i64 0, .int .i64 1, .int .i64 1, .int .i64 2, .int .i64 1, .int .i64 0] from (by subst hW; (repeat' first | exact blkD_newB _ _ _ _ (by first | rfl | (simp; done)) | refine Blk.alloc ?_ _)))
  have hD := Lib.hid (show Blk W w.heap.size 30 #[.int .i64 2, .slice (some ⟨w.heap.size + 1, 0, none⟩) 4 4, .slice (some ⟨w.heap.size + 1 + 1, 0, none⟩) 2 2, .slice (some ⟨w.heap.size + 1 + 1 + 1, 0, none⟩) 2 2, .slice (some ⟨w.heap.size + 1 + 1 + 1 + 1, 0, none⟩) 3 3, .slice (some ⟨w.heap.size + 1 + 1 + 1 + 1 + 1, 0, none⟩) 2 2, .slice (some ⟨w.heap.size + 1 + 1 + 1 + 1 + 1 + 1, 0, none⟩) 16 16] by subst hW; exact ((((((Blk.new _ _ _).alloc _).alloc _).alloc _).alloc _).alloc _).alloc _)
  have HB := Lib.hid (show Below w.heap.size w W by subst hW; (repeat' first | exact Below.refl _ _ | assumption | refine Below.alloc ?_ ?_ _ | refine Below.setCell ?_ ?_ _ | refine Below.drew ?_ | (simp; done) | (simp; omega)))
  clear hW
  have c0 : W.cell? ⟨w.heap.size, 0, none⟩ = some (.int .i64 2) := hD.out.cell 0 rfl
  have c1 : W.cell? ⟨w.heap.size, 1, none⟩ = some (.slice (some ⟨w.heap.size + 1, 0, none⟩) 4 4) := hD.out.cell 1 rfl
  have c2 : W.cell? ⟨w.heap.size, 2, none⟩ = some (.slice (some ⟨w.heap.size + 1 + 1, 0, none⟩) 2 2) := hD.out.cell 2 rfl
  have c3 : W.cell? ⟨w.heap.size, 3, none⟩ = some (.slice (some ⟨w.heap.size + 1 + 1 + 1, 0, none⟩) 2 2) := hD.out.cell 3 rfl
  have c4 : W.cell? ⟨w.heap.size, 4, none⟩ = some (.slice (some ⟨w.heap.size + 1 + 1 + 1 + 1, 0, none⟩) 3 3) := hD.out.cell 4 rfl
  have c5 : W.cell? ⟨w.heap.size, 5, none⟩ = some (.slice (some ⟨w.heap.size + 1 + 1 + 1 + 1 + 1, 0, none⟩) 2 2) := hD.out.cell 5 rfl
  have c6 : W.cell? ⟨w.heap.size, 6, none⟩ = some (.slice (some ⟨w.heap.size + 1 + 1 + 1 + 1 + 1 + 1, 0, none⟩) 16 16) := hD.out.cell 6 rfl
  refine bodyPost_ret (v := .agg #[.int .i64 2, .slice (some ⟨w.heap.size + 1, 0, none⟩) 4 4, .slice (some ⟨w.heap.size + 1 + 1, 0, none⟩) 2 2, .slice (some ⟨w.heap.size + 1 + 1 + 1, 0, none⟩) 2 2, .slice (some ⟨w.heap.size + 1 + 1 + 1 + 1, 0, none⟩) 3 3, .slice (some ⟨w.heap.size + 1 + 1 + 1 + 1 + 1, 0, none⟩) 2 2, .slice (some ⟨w.heap.size + 1 + 1 + 1 + 1 + 1 + 1, 0, none⟩) 16 16]) (by simp [results, Tryz.results17, go_sem, c0, c1, c2, c3, c4, c5, c6]) rfl ?_
  exact ⟨_, rfl, newD_own h1.out h2.out h3.out h4.out h5.out h6.out (by omega) (by omega) (by omega) (by omega) (by omega) (by omega), HB.out⟩
end Go.Proofs.YtgkbbpajkbkgnaaGreatDoor

namespace Go.Proofs.YtgkbbpajkbkgnaaGreatDoor
open Go.RowKit Go.Sort
theorem ba_list (a b : ByteArray) : (a ++ b).data.toList = a.data.toList ++ b.data.toList := by rw [ByteArray.data_append, Array.toList_append]
theorem newD_valid : validR newD.rows = true ∧ areSizesB newD.sizes = true ∧ areJobsB newD.jobs = true ∧ waysB newD.ways = true := by
  refine ⟨validR_true ⟨by decide, by decide, by decide, by decide, by decide, by decide, by decide +kernel, by decide +kernel, ?_⟩, by decide +kernel, by decide +kernel, by decide +kernel⟩
  intro i hi
  have hi : i < 2 := hi
  have : i = 0 ∨ i = 1 := by omega
  rcases this with rfl | rfl
  · decide +kernel
  · decide +kernel
theorem tour_len (xs : List Int) : (idxs (tourLst xs)).length ≤ 11 := by
  rw [idxs_len]
  unfold tourLst
  split
  · rename_i h
    obtain ⟨n, hn1, hn10, hxl, hc, hW⟩ := cities_get h
    unfold tourT
    rw [hc, Int.toNat_natCast]
    have := bt_ln (W := cityW xs n) (n := n) (n - 1) [] ([], 0) (by simp) (by simp)
    omega
  · simp
theorem due_len (js : List JobD) : (dueL js).length ≤ 12 := by
  unfold dueL
  split
  · rename_i h
    have h2 := (jobs_all h).2.1
    rw [idxs_len, ordL_len]; omega
  · simp
end Go.Proofs.YtgkbbpajkbkgnaaGreatDoor

namespace Go.Proofs.YtgkbbpajkbkgnaaGreatDoor
open Go.RowKit Go.Sort
def LineOk (x : ByteArray) : Prop := (10 : UInt8) ∉ x.data.toList ∧ x.size ≤ 800
theorem line_plain {k x : ByteArray} (hk : (10 : UInt8) ∉ k.data.toList ∧ k.size ≤ 20) (hx : PlainB x) (hs : x.size ≤ 780) : LineOk (k ++ x) := by
  refine ⟨?_, by rw [ByteArray.size_append]; omega⟩
  rw [ba_list, List.mem_append]
  rintro (h | h)
  · exact hk.1 h
  · exact plain_not hx np10 h
theorem plain_dec (n : Nat) : PlainB (decS n) := plain_word (word_dec n)
def wl0 : List ByteArray := [⟨#[]⟩, ⟨#[119, 104, 97, 116]⟩, ⟨#[114, 111, 119, 115, 32, 49, 59, 51, 102, 56, 48, 48, 48, 48, 48, 59, 98, 102, 56, 48, 48, 48, 48, 48, 59, 51, 102, 56, 48, 48, 48, 48, 48]⟩, ⟨#[114, 111, 119, 115, 32, 49, 59, 110, 111, 110, 101, 59, 110, 111, 110, 101, 59, 51, 102, 56, 48, 48, 48, 48, 48]⟩, ⟨#[114, 111, 119, 115, 32, 120]⟩, ⟨#[115, 105, 122, 101, 115, 32, 110, 111, 110, 101]⟩, ⟨#[115, 105, 122, 101, 115, 32, 48]⟩, ⟨#[115, 105, 122, 101, 115, 32, 49, 48, 48, 49]⟩, ⟨#[106, 111, 98, 115, 32, 49, 44, 50, 44, 51]⟩, ⟨#[106, 111, 98, 115, 32, 48, 44, 48, 44, 48, 44, 48]⟩, ⟨#[106, 111, 98, 115, 32, 49, 44, 49, 48, 48, 48, 48, 49, 44, 48, 44, 48]⟩, ⟨#[119, 97, 121, 115, 32, 48, 44, 49, 44, 50, 44, 48]⟩, ⟨#[119, 97, 121, 115, 32, 49]⟩, ⟨#[119, 97, 121, 115, 32, 110, 111, 110, 101]⟩, ⟨#[100, 114, 111, 112, 32, 45, 49]⟩, ⟨#[102, 105, 108, 108, 32, 49, 48, 48, 49]⟩, ⟨#[98, 105, 110, 115, 32, 48]⟩, ⟨#[108, 101, 97, 115, 116, 32, 48]⟩, ⟨#[114, 97, 105, 115, 101, 32, 53, 49]⟩, ⟨#[108, 105, 115, 116, 32, 57]⟩, ⟨#[115, 112, 97, 110, 32, 48]⟩, ⟨#[116, 111, 117, 114, 32, 110, 111, 119]⟩]
def wl5 : List ByteArray := [⟨#[115, 111, 108, 118, 101]⟩, ⟨#[112, 114, 105, 99, 101, 115]⟩, ⟨#[103, 97, 105, 110]⟩, ⟨#[115, 99, 97, 108, 101]⟩]
def wl6 : List ByteArray := [⟨#[104, 97, 108, 118, 101, 115]⟩, ⟨#[116, 111, 117, 114]⟩, ⟨#[108, 111, 110, 103]⟩, ⟨#[98, 111, 117, 110, 100]⟩]
def wl7 : List ByteArray := [⟨#[100, 117, 101]⟩, ⟨#[115, 109, 105, 116, 104]⟩, ⟨#[111, 110, 116, 105, 109, 101]⟩, ⟨#[108, 97, 116, 101]⟩, ⟨#[104, 101, 97, 100, 115]⟩]
def wl8 : List ByteArray := [⟨#[102, 105, 108, 108, 32]⟩, ⟨#[98, 105, 110, 115, 32]⟩, ⟨#[108, 101, 97, 115, 116, 32]⟩]
def wl9 : List ByteArray := [⟨#[100, 114, 111, 112, 32]⟩, ⟨#[114, 97, 105, 115, 101, 32]⟩, ⟨#[108, 105, 115, 116, 32]⟩, ⟨#[115, 112, 97, 110, 32]⟩]
def wl10 : List ByteArray := [⟨#[114, 111, 119, 115]⟩, ⟨#[115, 105, 122, 101, 115]⟩, ⟨#[106, 111, 98, 115]⟩, ⟨#[119, 97, 121, 115]⟩]
theorem wl0_ok : ∀ x ∈ wl0, LineOk x := by unfold LineOk; decide +kernel
theorem wl5_ok : ∀ x ∈ wl5, LineOk x := by unfold LineOk; decide +kernel
theorem wl6_ok : ∀ x ∈ wl6, LineOk x := by unfold LineOk; decide +kernel
theorem wl7_ok : ∀ x ∈ wl7, LineOk x := by unfold LineOk; decide +kernel
theorem wl10_ok : ∀ x ∈ wl10, LineOk x := by unfold LineOk; decide +kernel
theorem wl8_ok : ∀ x ∈ wl8, (10 : UInt8) ∉ x.data.toList ∧ x.size ≤ 20 := by decide +kernel
theorem wl9_ok : ∀ x ∈ wl9, (10 : UInt8) ∉ x.data.toList ∧ x.size ≤ 20 := by decide +kernel
set_option maxHeartbeats 1000000 in
theorem textD_any (W0 : World) (v : Value) (bs : List Int) (hR : RdB W0 v bs) (hw : WfB bs) (sb c : Nat) (w : World) (hsb : W0.heap.size ≤ sb) (hb : Below W0.heap.size W0 w) (h : SrcAt w sb v c) (hc : c ≤ 900000)
    (g n : Nat) (ss : List ByteArray) (hn : ss.length = n) (h1 : 1 ≤ n) (h2 : n ≤ 100) (hg : g ≠ sb) (hss : Blk w g 9 (ss.map SV).toArray) :
    Calls Tryz.prog 136 #[.pointer (some ⟨sb, 0, none⟩), .slice (some ⟨g, 0, none⟩) n n] w fun e w' => ∃ s, s ∈ ss ∧ e = .returned (.string s) ∧ SrcAt w' sb v (c + 2) ∧ Kept (· = sb) w w' := by
  have H := Lib.hid (pick_any W0 v bs hR hw sb c w hsb hb h (by omega) n (by omega) (by omega))
  have HSS := Lib.hid hss
  have HN := Lib.hid hn
  clear hR hw hb h hss hn
  go_enter Tryz.func136, Tryz.ntmps136
  go_wp2_with fail
  refine H.out.mono ?_
  rintro e w1 ⟨x, hx0, hx1, rfl, hs, hk⟩
  have HS := Lib.hid hs
  have HK := Lib.hid hk
  have hb1 := HSS.out.kept hk hg
  clear hs hk H
  obtain ⟨i, rfl⟩ := Int.eq_ofNat_of_zero_le hx0
  have hi : i < ss.length := by rw [HN.out]; omega
  have hin : (i : Int) < (n : Int) := by omega
  have hcell1 : w1.cell? ⟨g, i, none⟩ = some (.string ss[i]) := hb1.cell i (by simp [SV, hi])
  obtain ⟨s, hs⟩ : ∃ s, s = ss[i] := ⟨_, rfl⟩
  rw [← hs] at hcell1
  have HM := Lib.hid (show s ∈ ss by rw [hs]; exact List.getElem_mem hi)
  clear hs hb1
  go_wp2_with fail
  go_ret
  exact ⟨s, HM.out, rfl, HS.out, HK.out⟩
set_option maxHeartbeats 8000000 in
set_option maxRecDepth 8000 in
theorem l08DrawLine_any (W0 : World) (v : Value) (bs : List Int) (hR : RdB W0 v bs) (hw : WfB bs) (sb c : Nat) (w : World) (hsb : W0.heap.size ≤ sb) (hb : Below W0.heap.size W0 w) (h : SrcAt w sb v c) (hc : c ≤ 700) :
    Calls Tryz.prog 82 #[.pointer (some ⟨sb, 0, none⟩)] w fun e w' => ∃ x : ByteArray, LineOk x ∧ e = .returned (.string x) ∧ Kept (· = sb) w w' ∧ SrcAt w' sb v (c + 110) := by
  have HR := Lib.hid hR
  have HW := Lib.hid hw
  have HB := Lib.hid hb
  have HS := Lib.hid h
  have hsw := h.lt
  clear hR hw hb h
  go_enter Tryz.func82, Tryz.ntmps82
  go_upto_region 2 with (first
    | (go_at_call 81; refine (pick_any W0 v bs HR.out HW.out sb c w hsb HB.out HS.out (by omega) 12 (by omega) (by omega)).mono ?_; rintro e w1 ⟨y, hy0, hy1, rfl, hs1, hk1⟩; obtain ⟨ny, rfl⟩ := Int.eq_ofNat_of_zero_le hy0)
    | (go_at_call 135; refine (l01Dec_any ny (by omega) w1).mono ?_; rintro e w2 ⟨rfl, hb2⟩))
  have HK2 := Lib.hid ((show Kept (· = sb) w w1 from hk1).below hb2 hk1.size)
  have HS2 := Lib.hid (hs1.below hb2 hs1.lt)
  have HB2 := Lib.hid (HB.out.trans (HK2.out.toBelow HB.out.size (fun k h1 h2 => by omega)))
  have hsD := decS_size (n := ny) (by omega)
  obtain ⟨tD, htD⟩ : ∃ t, t = decS ny := ⟨_, rfl⟩
  have HPD := Lib.hid (show PlainB tD by rw [htD]; exact plain_dec ny)
  rw [← htD] at hsD ⊢
  clear htD hs1 hk1 hb2 hy0 hy1
  go_upto_region 3 with (go_at_call 81; refine (pick_any W0 v bs HR.out HW.out sb (c + 2) w2 hsb HB2.out HS2.out (by omega) 11 (by omega) (by omega)).mono ?_; rintro e w3 ⟨z, hz0, hz1, rfl, hs3, hk3⟩)
  have HK3 := Lib.hid (HK2.out.trans hk3)
  have HS3 := Lib.hid hs3
  have HB3 := Lib.hid (HB.out.trans (HK3.out.toBelow HB.out.size (fun k h1 h2 => by omega)))
  have hz3 := HK3.out.size
  have hsw3 : sb < w3.heap.size := by omega
  clear hs3 hk3 HK2 HS2 HB2
  have TX := Lib.hid (fun (n : Nat) (ss : List ByteArray) (hn : ss.length = n) (h1 : 1 ≤ n) (h2 : n ≤ 100) => by
    have hbl : Below w3.heap.size w3 (w3.alloc (.cells (ss.map SV).toArray 9)) := (Below.refl _ _).alloc (Nat.le_refl _) _
    exact (textD_any W0 v bs HR.out HW.out sb (c + 4) (w3.alloc (.cells (ss.map SV).toArray 9)) hsb (HB3.out.trans (hbl.mono HB3.out.size)) (HS3.out.below hbl hsw3) (by omega) w3.heap.size n ss hn h1 h2 (by omega) (Blk.new _ _ _)).mono (R' := fun e w' => ∃ s, s ∈ ss ∧ e = .returned (.string s) ∧ SrcAt w' sb v (c + 110) ∧ Kept (· = sb) w w') (by
        rintro e w' ⟨s, p1, p2, p3, p4⟩
        exact ⟨s, p1, p2, p3.mono (by omega), ((HK3.out.alloc _).trans p4)⟩))
  have hz : z = 0 ∨ z = 1 ∨ z = 2 ∨ z = 3 ∨ z = 4 ∨ z = 5 ∨ z = 6 ∨ z = 7 ∨ z = 8 ∨ z = 9 ∨ z = 10 := by omega
  clear hz0 hz1
  rcases hz with rfl | rfl | rfl | rfl | rfl | rfl | rfl | rfl | rfl | rfl | rfl
  · have HT := Lib.hid (TX.out 22 wl0 rfl (by omega) (by omega))
    unfold wl0 at HT
    go_wp2_with (go_at_call 136; refine HT.out.mono ?_; rintro e w4 ⟨s, hs, rfl, hs4, hk4⟩)
    go_ret
    exact ⟨s, wl0_ok s hs, rfl, hk4, hs4⟩
  · go_upto_region 7 with (go_at_call 111; refine (l02DrawOk_any W0 v bs HR.out HW.out sb (c + 4) w3 hsb HB3.out HS3.out (by omega)).mono ?_; rintro e w4 ⟨r, v4, hh, rfl, ho, hk4, hs4⟩; obtain ⟨b1, e1, b2, e2, b3, e3, rfl⟩ := ho.rd.shape)
    refine wp_at fun W5 hW5 => ?_
    have hz4 := hk4.size
    have hba : Below w4.heap.size w4 W5 := by subst hW5; exact (Below.refl _ _).alloc (Nat.le_refl _) _
    have hbk : Blk W5 w4.heap.size 26 #[.int .i64 r.vars, .slice b1 r.nums.length e1, .slice b2 r.bnds.length e2, .slice b3 r.gains.length e3] := by subst hW5; exact Blk.new _ _ _
    obtain ⟨p1, p2, p3⟩ := ho.rd.parts
    obtain ⟨hv, hbt⟩ := half_valid hh
    have HRW := Lib.hid (l08Rows_any w4.heap.size r b1 b2 b3 e1 e2 e3 W5 hbk.pre (p1.up hba (Nat.le_refl _)) (p2.up hba (Nat.le_refl _)) (p3.up hba (Nat.le_refl _)) hv hbt.1 hbt.2.1 hbt.2.2)
    have het : rowT r = rowsS r := by unfold rowT; rw [if_pos hv]
    have hpl := plain_rows r
    have hsz := rows_size hv
    rw [het] at hpl hsz
    have hsz2 : (rowsS r).size ≤ 700 := by
      have h1 := hh.nl
      have h2 := hh.v4
      have h3 := hh.b4
      have h4 := hh.gl
      have h5 := hh.v1
      have : r.vars * (r.bnds.length : Int) ≤ 4 * 4 := Int.mul_le_mul h2 (by omega) (by omega) (by omega)
      omega
    obtain ⟨T, hT⟩ : ∃ t, t = rowsS r := ⟨_, rfl⟩
    rw [← hT] at HRW hpl hsz2
    have HPL := Lib.hid hpl
    have HBA := Lib.hid hba
    have HK4 := Lib.hid (HK3.out.trans hk4)
    have HS4 := Lib.hid hs4
    obtain ⟨rb, hrb⟩ : ∃ b, b = w4.heap.size := ⟨_, rfl⟩
    rw [← hrb] at HRW ⊢
    clear hW5 hba hbk p1 p2 p3 hv hbt het hpl hsz hT ho hk4 hs4 hh hrb
    go_wp2_with (go_at_call 137; refine HRW.out.mono ?_; rintro e w6 ⟨rfl, hb6⟩)
    go_ret
    have hb := HBA.out.trans (hb6.mono HBA.out.size)
    exact ⟨_, line_plain (k := ⟨#[114, 111, 119, 115, 32]⟩) (by decide) HPL.out (by omega), rfl, HK4.out.below hb (by omega), (HS4.out.below hb (by omega)).mono (by omega)⟩
  · go_wp2_with (first
      | (go_at_call 112; refine (l08DrawSizes_any W0 v bs HR.out HW.out sb (c + 4) w3 hsb HB3.out HS3.out (by omega)).mono ?_; rintro e w4 ⟨xs, v4, hl, hr, rfl, ho, hk4, hs4⟩; have hz4 := hk4.size; have hsm : Small xs := fun k hk => (by have := hr (xs.getD k 0) (by rw [List.getD_eq_getElem?_getD, List.getElem?_eq_getElem hk]; exact List.getElem_mem _); omega); have hsz : (listT xs).size ≤ 700 := (by have := list_size hsm; omega))
      | (go_at_call 138; refine (l01Text_any _ xs w4 ho.rd hsm (by omega)).mono ?_; rintro e w5 ⟨rfl, hb5⟩))
    go_ret
    exact ⟨_, line_plain (k := ⟨#[115, 105, 122, 101, 115, 32]⟩) (by decide) (plain_list xs) (by omega), rfl, (HK3.out.trans hk4).below hb5 (by omega), (hs4.below hb5 (by omega)).mono (by omega)⟩
  · go_upto_region 12 with (go_at_call 81; refine (pick_any W0 v bs HR.out HW.out sb (c + 4) w3 hsb HB3.out HS3.out (by omega) 5 (by omega) (by omega)).mono ?_; rintro e w4 ⟨y, hy0, hy1, rfl, hs4, hk4⟩; have hwy : IntKind.i64.wrap (1 + y) = 1 + y := IntWalk.i64_in _ (by omega))
    obtain ⟨nj, hnj⟩ : ∃ m : Nat, 1 + y = (m : Int) := ⟨(1 + y).toNat, by omega⟩
    have hnj1 : 1 ≤ nj := by omega
    have hnj5 : nj ≤ 5 := by omega
    have HK4 := Lib.hid (HK3.out.trans hk4)
    have HS4 := Lib.hid hs4
    have HB4 := Lib.hid (HB.out.trans (HK4.out.toBelow HB.out.size (fun k h1 h2 => by omega)))
    have hz4 := HK4.out.size
    rw [hnj]
    clear hs4 hk4 hwy hnj hy0 hy1
    go_wp2_with (first
      | (go_at_call 113; refine (l06DrawJobs_any W0 v bs HR.out HW.out sb (c + 4 + 2) w4 hsb HB4.out HS4.out (by omega) nj (by omega)).mono ?_; rintro e w5 ⟨js, v5, rfl, hjr, rfl, ho5, hk5, hs5⟩; have hz5 := hk5.size; have hjo : areJobsB js = true := (by unfold areJobsB; rw [Bool.and_eq_true, allB_iff, inB_iff]; exact ⟨by omega, hjr⟩); have hsz : (listT (numsK js js.length)).size ≤ 700 := (by have h1 := list_size (nums_sm hjo); have h2 := numsK_len js js.length (Nat.le_refl _); omega))
      | (go_at_call 139; refine (l08Jobs_any _ js w5 ho5.rd hjo).mono ?_; rintro e w6 ⟨rfl, hb6⟩))
    go_ret
    exact ⟨_, line_plain (k := ⟨#[106, 111, 98, 115, 32]⟩) (by decide) (plain_list _) (by omega), rfl, (HK4.out.trans hk5).below hb6 (by omega), (hs5.below hb6 (by omega)).mono (by omega)⟩
  · go_upto_region 15 with (go_at_call 81; refine (pick_any W0 v bs HR.out HW.out sb (c + 4) w3 hsb HB3.out HS3.out (by omega) 6 (by omega) (by omega)).mono ?_; rintro e w4 ⟨y, hy0, hy1, rfl, hs4, hk4⟩; have hwy : IntKind.i64.wrap (1 + y) = 1 + y := IntWalk.i64_in _ (by omega))
    obtain ⟨nw, hnw⟩ : ∃ m : Nat, 1 + y = (m : Int) := ⟨(1 + y).toNat, by omega⟩
    have hnw1 : 1 ≤ nw := by omega
    have hnw6 : nw ≤ 6 := by omega
    have HK4 := Lib.hid (HK3.out.trans hk4)
    have HS4 := Lib.hid hs4
    have HB4 := Lib.hid (HB.out.trans (HK4.out.toBelow HB.out.size (fun k h1 h2 => by omega)))
    have hz4 := HK4.out.size
    rw [hnw]
    clear hs4 hk4 hwy hnw hy0 hy1
    go_wp2_with (first
      | (go_at_call 114; refine (l04DrawOk_any W0 v bs HR.out HW.out sb (c + 4 + 2) w4 hsb HB4.out HS4.out (by omega) nw hnw1 (by omega)).mono ?_; rintro e w5 ⟨xs, v5, hws, rfl, ho5, hk5, hs5⟩; have hz5 := hk5.size; have hsm : Small xs := fun k hk => (by have := hws.rng (xs.getD k 0) (by rw [List.getD_eq_getElem?_getD, List.getElem?_eq_getElem hk]; exact List.getElem_mem _); omega); have hxl : xs.length ≤ 36 := (by have h1 := hws.len; have h2 : nw * nw ≤ 6 * 6 := Nat.mul_le_mul hnw6 hnw6; omega); have hsz : (listT xs).size ≤ 700 := (by have h1 := list_size hsm; omega))
      | (go_at_call 138; refine (l01Text_any _ xs w5 ho5.rd hsm (by omega)).mono ?_; rintro e w6 ⟨rfl, hb6⟩))
    go_ret
    exact ⟨_, line_plain (k := ⟨#[119, 97, 121, 115, 32]⟩) (by decide) (plain_list xs) (by omega), rfl, (HK4.out.trans hk5).below hb6 (by omega), (hs5.below hb6 (by omega)).mono (by omega)⟩
  · have HT := Lib.hid (TX.out 4 wl5 rfl (by omega) (by omega))
    unfold wl5 at HT
    go_wp2_with (go_at_call 136; refine HT.out.mono ?_; rintro e w4 ⟨s, hs, rfl, hs4, hk4⟩)
    go_ret
    exact ⟨s, wl5_ok s hs, rfl, hk4, hs4⟩
  · have HT := Lib.hid (TX.out 4 wl6 rfl (by omega) (by omega))
    unfold wl6 at HT
    go_wp2_with (go_at_call 136; refine HT.out.mono ?_; rintro e w4 ⟨s, hs, rfl, hs4, hk4⟩)
    go_ret
    exact ⟨s, wl6_ok s hs, rfl, hk4, hs4⟩
  · have HT := Lib.hid (TX.out 5 wl7 rfl (by omega) (by omega))
    unfold wl7 at HT
    go_wp2_with (go_at_call 136; refine HT.out.mono ?_; rintro e w4 ⟨s, hs, rfl, hs4, hk4⟩)
    go_ret
    exact ⟨s, wl7_ok s hs, rfl, hk4, hs4⟩
  · have HT := Lib.hid (TX.out 3 wl8 rfl (by omega) (by omega))
    unfold wl8 at HT
    have HWL := Lib.hid wl8_ok
    unfold wl8 at HWL
    go_wp2_with (go_at_call 136; refine HT.out.mono ?_; rintro e w4 ⟨s, hs, rfl, hs4, hk4⟩; have hl := HWL.out s hs; have hl2 := hl.2)
    go_ret
    exact ⟨s ++ tD, line_plain hl HPD.out (by omega), rfl, hk4, hs4⟩
  · have HT := Lib.hid (TX.out 4 wl9 rfl (by omega) (by omega))
    unfold wl9 at HT
    have HWL := Lib.hid wl9_ok
    unfold wl9 at HWL
    go_wp2_with (go_at_call 136; refine HT.out.mono ?_; rintro e w4 ⟨s, hs, rfl, hs4, hk4⟩; have hl := HWL.out s hs; have hl2 := hl.2)
    go_ret
    exact ⟨s ++ tD, line_plain hl HPD.out (by omega), rfl, hk4, hs4⟩
  · have HT := Lib.hid (TX.out 4 wl10 rfl (by omega) (by omega))
    unfold wl10 at HT
    go_wp2_with (go_at_call 136; refine HT.out.mono ?_; rintro e w4 ⟨s, hs, rfl, hs4, hk4⟩)
    go_ret
    exact ⟨s, wl10_ok s hs, rfl, hk4, hs4⟩
set_option maxHeartbeats 2000000 in
set_option maxRecDepth 4000 in
theorem R8Lines_any (v : Value) (bs : List Int) (w : World) (hR : RdB w v bs) (hw : WfB bs) :
    Calls Tryz.prog 28 #[v] w fun e w' => ∃ (ls : List ByteArray) (v' : Value), (1 ≤ ls.length ∧ ls.length ≤ 5) ∧ (∀ x ∈ ls, LineOk x) ∧ e = .returned v' ∧ OwnSs w.heap.size w'.heap.size w' v' ls ∧ Below w.heap.size w w' := by
  have HR := Lib.hid hR
  have HW := Lib.hid hw
  have HF := Lib.hid (l00From_any v bs w hR)
  clear hR hw
  go_enter Tryz.func28, Tryz.ntmps28
  go_upto_region 2 with (go_at_call 44; refine HF.out.mono ?_; rintro e w1 ⟨rfl, hs, hb1⟩)
  have HS1 := Lib.hid hs
  have HB1 := Lib.hid hb1
  have hz1 := HB1.out.size
  have hs1 := hs.lt
  have HBA := Lib.hid (HB1.out.alloc hz1 (.cells #[] 9))
  have HSA := Lib.hid (HS1.out.below ((Below.refl w1.heap.size w1).alloc (Nat.le_refl _) (.cells #[] 9)) hs1)
  clear hs hb1 HF
  go_upto_region 4 with (go_at_call 81; refine (pick_any w v bs HR.out HW.out w.heap.size 0 _ (Nat.le_refl _) HBA.out HSA.out (by omega) 5 (by omega) (by omega)).mono ?_; rintro e w2 ⟨y, hy0, hy1, rfl, hs2, hk2⟩; have hwy : IntKind.i64.wrap (1 + y) = 1 + y := IntWalk.i64_in _ (by omega))
  have hown0 : (w1.alloc (.cells #[] 9)).ownsRow w1.heap.size 9 1 (.slice (some ⟨w1.heap.size, 0, none⟩) 0 0) 0 (([] : List ByteArray).map SV) := World.ownsRow_lit (base := w1.heap.size) (e := 9) (size := 1) w1 #[] 0 (Nat.le_refl _) (by simp [maxLen]) rfl
  have HO2 := Lib.hid (ownsK_kept hown0 hk2 (fun g hg e => by have := (hown0.lt g hg).1; omega))
  have HS2 := Lib.hid hs2
  have HK2 := Lib.hid (HBA.out.trans (hk2.toBelow HBA.out.size (fun k h1 h2 => by omega)))
  have hz2 : w1.heap.size ≤ w2.heap.size := by have := hk2.size; simp at this; omega
  obtain ⟨n, hn⟩ : ∃ m : Nat, 1 + y = (m : Int) := ⟨(1 + y).toNat, by omega⟩
  have hn1 : 1 ≤ n := by omega
  have hn5 : n ≤ 5 := by omega
  rw [hn]
  clear hs2 hk2 HBA HSA hwy hn hy0 hy1 hown0
  go_wp2_with fail
  go_loopw [4, 5] (fun ov nv wr => ∃ (j i : Nat) (ls : List ByteArray) (oa : Option Addr) (oc : Nat), nv = .int .i64 j ∧ i + j = n ∧ ov = .slice oa i oc ∧ Hid (ls.length = i) ∧ Hid (∀ x ∈ ls, LineOk x) ∧ Hid (wr.ownsRow w1.heap.size 9 1 (.slice oa i oc) i (ls.map SV)) ∧ Hid (SrcAt wr w.heap.size v (0 + 2 + 110 * i)) ∧ Hid (Below w.heap.size w wr) ∧ w1.heap.size ≤ wr.heap.size) (fun _ nv _ => (intOf nv).toNat)
  case atStart => exact ⟨n, 0, [], _, 0, rfl, by omega, rfl, Lib.hid rfl, Lib.hid (fun x hx => by cases hx), HO2, HS2, HK2, hz2⟩
  case round =>
    clear HO2 HS2 HK2 hz2
    obtain ⟨j, i, ls, oa, oc, rfl, hij, rfl, HL, HA, HO, HS, HB, hzw⟩ := hrel
    obtain ⟨wo, rfl⟩ : ∃ wo, wo = wr := ⟨wr, rfl⟩
    by_cases hj : 0 < j
    · have hjI : (0 : Int) < (j : Int) := by omega
      go_wp2_with (first
        | (go_at_call 82; refine (l08DrawLine_any w v bs HR.out HW.out w.heap.size (0 + 2 + 110 * i) wo (Nat.le_refl _) HB.out HS.out (by omega)).mono ?_; rintro e w3 ⟨x, hx, rfl, hk3, hs3⟩; have hz3 := hk3.size; have HO3 := Lib.hid (ownsK_kept HO.out hk3 (fun g hg e => by have := (HO.out.lt g hg).1; omega)); have HS3 := Lib.hid hs3; have HX := Lib.hid hx; have HB3 := Lib.hid (HB.out.trans (hk3.toBelow HB.out.size (fun k h1 h2 => by omega))); clear hs3 hk3 hx)
        | (at_builtin; refine app_strs rfl _ _ rfl w1.heap.size (.slice oa i oc) i ls rfl (HO3.out.alloc _) _ [x] rfl (slcS_one _ x _ rfl) (i + 1) (ls ++ [x]) (by simp) rfl (by omega) (by simp; omega) ?_; intro b3 c3 w4 hown3 hbl3 _))
      have HB4 := Lib.hid (show Below w1.heap.size w3 w4 from ((Below.refl w1.heap.size w3).alloc (by omega) _).trans hbl3)
      have hz4 := HB4.out.size
      go_roundw
      case rel => exact ⟨j - 1, i + 1, ls ++ [x], b3, c3, by rw [show ((j - 1 : Nat) : Int) = (j : Int) - 1 by omega], by omega, rfl, Lib.hid (by simp [HL.out]), Lib.hid (fun z hz => by
        rcases List.mem_append.1 hz with hz | hz
        · exact HA.out z hz
        · rw [List.mem_singleton.1 hz]; exact HX.out), Lib.hid hown3, Lib.hid ((HS3.out.below HB4.out (by omega)).mono (by omega)), Lib.hid (HB3.out.trans (HB4.out.mono hz1)), by omega⟩
      case measure => simp [intOf]; omega
    · obtain rfl : j = 0 := by omega
      obtain rfl : i = n := by omega
      go_wp2_with fail
      go_ret
      refine ⟨ls, _, by rw [HL.out]; omega, HA.out, rfl, ⟨⟨?_, fun g hg => (HO.out.lt g hg).2⟩, fun s hs => by have := (HA.out s hs).2; unfold maxLen; omega⟩, HB.out⟩
      have h2 := HO.out
      rw [HL.out]
      exact ownsK_base h2 hz1
end Go.Proofs.YtgkbbpajkbkgnaaGreatDoor

namespace Go.Proofs.YtgkbbpajkbkgnaaGreatDoor
open Go.RowKit Go.Sort
section
attribute [local go_sem ↓] stDeskP
attribute [local go_sem] stDesk_in stDesk_run
end
def BufS (w : World) (b : Nat) : Nat → Prop := fun k => k = b ∨ ∃ cs fz, w.heap[k]? = some (.cells cs 5 fz)
theorem own_type {w : World} {base size : Nat} {e : TypeId} {v : Value} {n g : Nat} {vs : List Value} (h : w.ownsRow base e size v n vs) (hg : v.ownBlock = some g) : ∃ cs, w.heap[g]? = some (.cells cs e (0, 0)) := by
  rcases h.2 with ⟨rfl, _⟩ | ⟨g', cap, cur, rfl, _, hc, _⟩
  · cases hg
  · obtain rfl : g' = g := Option.some.inj hg
    exact ⟨cur, hc⟩
theorem kept_others {B b : Nat} {w w' : World} (h : Lib.OthersKept 5 (some b) w w') (hb : Below B w w') : Kept (BufS w b) w w' :=
  ⟨hb.os, hb.tape, hb.output, hb.size, fun k hk hs => by
    have h0 : w.heap[k]? = some w.heap[k] := Array.getElem?_eq_getElem hk
    rw [h0]
    exact h k _ h0 (fun e => hs (.inl (Option.some.inj e))) (fun c fz e => hs (.inr ⟨c, fz, h0.trans (congrArg some e)⟩))⟩
theorem own_bufs {w w' : World} {base size : Nat} {e : TypeId} {v : Value} {n : Nat} {vs : List Value} {b : Nat} {bcs : Array Value} (h : w.ownsRow base e size v n vs) (hk : Kept (BufS w b) w w') (hb : Blk w b TB bcs) (h1 : 5 ≠ e) (h2 : TB ≠ e) : w'.ownsRow base e size v n vs := by
  refine ownsK_kept h hk fun g hg hs => ?_
  rcases hs with rfl | ⟨cs, fz, hc⟩
  · exact hb.not_owned h h2 hg
  · obtain ⟨cs2, hc2⟩ := own_type h hg
    rw [hc2] at hc
    simp only [Option.some.injEq, Obj.cells.injEq] at hc
    exact h1 hc.2.1.symm
theorem OwnDx.bufs {lo : Nat} {w w' : World} {v : Value} {d : DeskD} {b : Nat} {bcs : Array Value} (h : OwnDx lo w v d) (hk : Kept (BufS w b) w w') (hb : Blk w b TB bcs) : OwnDx lo w' v d := by
  obtain ⟨va, vb, vc, vs, vj, vw, e, ⟨wa, wb, wc, e2, f1, f2, f3, dd⟩, o2, o3, o4, dj⟩ := h
  have hz := hk.size
  exact ⟨va, vb, vc, vs, vj, vw, e, ⟨wa, wb, wc, e2, ⟨own_bufs f1.1 hk hb (by decide) (by decide), fun g hg => Nat.lt_of_lt_of_le (f1.2 g hg) hz⟩, ⟨own_bufs f2.1 hk hb (by decide) (by decide), fun g hg => Nat.lt_of_lt_of_le (f2.2 g hg) hz⟩, ⟨own_bufs f3.1 hk hb (by decide) (by decide), fun g hg => Nat.lt_of_lt_of_le (f3.2 g hg) hz⟩, dd⟩, ⟨own_bufs o2.1 hk hb (by decide) (by decide), fun g hg => Nat.lt_of_lt_of_le (o2.2 g hg) hz⟩, ⟨own_bufs o3.1 hk hb (by decide) (by decide), fun g hg => Nat.lt_of_lt_of_le (o3.2 g hg) hz⟩, ⟨own_bufs o4.1 hk hb (by decide) (by decide), fun g hg => Nat.lt_of_lt_of_le (o4.2 g hg) hz⟩, dj⟩
theorem blk_bufs {w w' : World} {b g : Nat} {t : TypeId} {cs bcs : Array Value} (h : Blk w g t cs) (hk : Kept (BufS w b) w w') (hb : Blk w b TB bcs) (h1 : t ≠ 5) (h2 : t ≠ TB) : Blk w' g t cs := by
  refine h.kept hk fun hs => ?_
  have e1 : w.heap[g]? = _ := h
  rcases hs with rfl | ⟨c', fz, hc⟩
  · have e2 : w.heap[g]? = _ := hb
    rw [e1] at e2
    simp only [Option.some.injEq, Obj.cells.injEq] at e2
    exact h2 e2.2.1
  · rw [e1] at hc
    simp only [Option.some.injEq, Obj.cells.injEq] at hc
    exact h1 hc.2.1
theorem IsB.blk {B b : Nat} {bs : List Value} {w : World} (h : Lib.IsBuilder TB 5 B b bs w) : ∃ cs, Blk w b TB cs := by
  rcases h with ⟨_, v, h2, _⟩ | ⟨_, v, h2, _⟩
  · exact ⟨_, h2⟩
  · exact ⟨_, h2⟩
theorem isB_other {B b g : Nat} {bs : List Value} {w w' : World} {t : TypeId} {cs : Array Value} (h : Lib.IsBuilder TB 5 B b bs w) (hg : Blk w g t cs) (h1 : t ≠ TB) (h2 : t ≠ 5) (hk : Kept (· = g) w w') : Lib.IsBuilder TB 5 B b bs w' := by
  have f : ∀ {p : Value}, Lib.BuilderAt TB 5 B b p bs w → Lib.BuilderAt TB 5 B b p bs w' := by
    rintro p ⟨q1, v, q2, q3, q4⟩
    have hlt : b < w.heap.size := (show Blk w b TB _ from q2).lt
    refine ⟨q1, v, (hk.block b hlt fun e => ?_).trans q2, ownsK_kept q3 hk fun k hk2 e => ?_, q4⟩
    · subst e
      have e1 : w.heap[b]? = _ := hg
      rw [q2] at e1
      simp only [Option.some.injEq, Obj.cells.injEq] at e1
      exact h1 e1.2.1.symm
    · subst e
      exact hg.not_owned q3 h2 hk2
  rcases h with h | h
  · exact .inl (f h)
  · exact .inr (f h)
theorem copyCheckK_any (B b : Nat) (bs : List Value) (w : World) (h : Lib.IsBuilder TB 5 B b bs w) :
    Calls Tryz.prog 125 #[.pointer (some ⟨b, 0, none⟩)] w fun e w' => e = .returned (.tuple #[]) ∧ (Lib.BuilderAt TB 5 B b (.pointer (some ⟨b, 0, none⟩)) bs w' ∧ Kept (· = b) w w' ∧ w'.heap.size = w.heap.size) := by
  rcases h with h | h
  · refine (copyCheck_fresh b w h.cell0 h.shape h.frozen0).mono ?_
    rintro e w' ⟨rfl, rfl⟩
    exact ⟨rfl, h.used _, (Kept.refl (· = b) w).setCell (p := ⟨b, 0, none⟩) (.inr rfl) _, by simp [World.setCell]⟩
  · refine (copyCheck_used b w h.cell0).mono ?_
    rintro e w' ⟨rfl, rfl⟩
    exact ⟨rfl, h, Kept.refl _ _, rfl⟩
set_option maxHeartbeats 1000000 in
set_option maxRecDepth 100000 in
theorem WriteStringK_any (B b : Nat) (bs : List Value) (s : ByteArray) (w : World) (h : Lib.IsBuilder TB 5 B b bs w) (hlen : bs.length + s.size ≤ 140737488355328) (hBw : B ≤ w.heap.size) :
    Calls Tryz.prog 56 #[.pointer (some ⟨b, 0, none⟩), .string s] w fun e w' => e = .returned (.tuple #[.int .i64 s.size, .nilIface]) ∧ Lib.IsBuilder TB 5 B b (bs ++ Lib.strCells s) w' ∧ Kept (BufS w b) w w' ∧ Below B w w' := by
  obtain ⟨i0, hi, hz0, hz1, hz2⟩ := info_parts Tryz.infoByte
  go_enter Tryz.func56, Tryz.ntmps56
  go_wp2_with (go_at_call 125; refine (copyCheckK_any B b bs _ h).mono ?_)
  rintro e w1 ⟨rfl, h1, hk1, hs1⟩
  obtain ⟨hB, v, hbk, hown, hne⟩ := h1
  have hb1 : Below B w w1 := hk1.toBelow hBw (fun k a c => by omega)
  have c0 : w1.cell? ⟨b, 0, none⟩ = some (.pointer (some ⟨b, 0, none⟩)) := by rw [Lib.cell_of_heap hbk]; rfl
  have c1 : w1.cell? ⟨b, 1, none⟩ = some v := by rw [Lib.cell_of_heap hbk]; rfl
  go_wp2_with (at_builtin; refine Lib.wpList_append_own_string _ rfl _ _ 22 9 rfl B 5 i0 Tryz.underlying22 Tryz.underlying9 hi hz0 hz1 hz2 _ _ _ rfl hown s rfl ?c3 ?c4 ?c5 ?_)
  case c3 => unfold maxLen; omega
  case c4 => omega
  case c5 => omega
  intro v' w2 hown' hgrow _
  have hlt : b < w1.heap.size := by
    rcases Nat.lt_or_ge b w1.heap.size with h' | h'
    · exact h'
    · simp [Array.getElem?_eq_none h'] at hbk
  have hb2 : w2.heap[b]? = some (.cells #[.pointer (some ⟨b, 0, none⟩), v] TB (0, 0)) := by
    rw [hgrow.block b hlt (fun e => hne e.symm)]
    exact hbk
  have d0 : w2.cell? ⟨b, 0, none⟩ = some (.pointer (some ⟨b, 0, none⟩)) := by rw [Lib.cell_of_heap hb2]; rfl
  have d1 : w2.cell? ⟨b, 1, none⟩ = some v := by rw [Lib.cell_of_heap hb2]; rfl
  have f1 : w2.frozen? ⟨b, 1, none⟩ = false := Lib.frozen_of_heap hb2 1
  obtain ⟨ao, n', cap, rfl⟩ : ∃ ao n' cap, v' = .slice ao n' cap := by
    rcases hown'.2 with ⟨hv, _⟩ | ⟨g, cap, cur, hv, _⟩
    · exact ⟨_, _, _, hv⟩
    · exact ⟨_, _, _, hv⟩
  have HKP := Lib.hid (show Kept (BufS w b) w w2 from (hk1.mono (S' := BufS w b) (fun i _ e => .inl e)).grown hgrow (fun k hk => by
    rcases hown.2 with ⟨hv, _⟩ | ⟨g, cap', cur, hv, _, hg, _⟩
    · rw [hv] at hk; simp [Value.ownBlock] at hk
    · have e : g = k := by rw [hv] at hk; exact Option.some.inj hk
      subst e
      have hgl : g < w1.heap.size := (show Blk w1 g 5 _ from hg).lt
      refine .inr (.inr ⟨cur, (0, 0), ?_⟩)
      have := hk1.block g (by omega) (fun e => hne (by rw [hv, e]; rfl))
      exact this.symm.trans hg))
  go_wp2
  go_ret2
  refine ⟨rfl, .inr ?_, HKP.out.setCell (p := ⟨b, 1, none⟩) (.inr (.inl rfl)) _, ?_⟩
  · exact Lib.BuilderAt.put (T := TB) (e := 5) hB hb2 (bs' := bs ++ Lib.strCells s) (by simpa [Lib.strCells_length] using hown') Tryz.neB5
  · exact (hb1.grown hgrow (by have := hb1.size; omega) (fun k hk => (hown.lt k hk).1)).setCell (p := ⟨b, 1, none⟩) hB _
end Go.Proofs.YtgkbbpajkbkgnaaGreatDoor

namespace Go.Proofs.YtgkbbpajkbkgnaaGreatDoor
open Go.RowKit Go.Sort
def Told (x : ByteArray) : Prop := (10 : UInt8) ∉ x.data.toList ∧ x.size ≤ 2400
theorem told_plain {x : ByteArray} (h : PlainB x) (hs : x.size ≤ 2400) : Told x := ⟨plain_not h np10, hs⟩
theorem told_list {xs : List Int} (h : Small xs) (hl : xs.length ≤ 100) : Told (listT xs) := told_plain (plain_list _) (by have := list_size h; omega)
theorem told_num {xs : List Nat} (hl : xs.length ≤ 256) : Told (numT xs) := told_plain (plain_num _) (by have := num_size xs; omega)
theorem told_itoa {n : Int} (h : InZ n) : Told (itoaB n) := told_plain (plain_itoa _) (by have := itoa_size h; omega)
theorem told_E0 : Told E0 := ⟨by decide, by decide⟩
theorem told_ok : Told kwOk := ⟨by decide, by decide⟩
theorem told_no : Told kwNo := ⟨by decide, by decide⟩
theorem told_what : Told kwWhat := ⟨by decide, by decide⟩
theorem smith_len (js : List JobD) : (smithL js).length ≤ 12 := by
  unfold smithL
  split
  · rename_i h
    have h2 := (jobs_all h).2.1
    rw [idxs_len, (ordC_perm (swo_smith h) _).length_eq, List.length_range]; omega
  · simp
theorem ot_len (js : List JobD) : (otL js).length ≤ 12 := by
  unfold otL
  split
  · rename_i h
    have h2 := (jobs_all h).2.1
    have h4 := otRun_len js (ordJ js) [] [] 0
    rw [ordJ_len] at h4
    rw [idxs_len, List.length_append]
    unfold otEnd
    simp only [List.length_nil] at h4
    omega
  · simp
theorem told_tell {d : DeskD} (hv : validDk d = true) (hb : BitsD d) {s y : ByteArray} {ok : Bool} (h : tellK d s = some (y, ok)) : Told y := by
  obtain ⟨y1, y2, y3, y4⟩ := valid_parts hv
  have y5 : waysB d.ways = true := by
    unfold validDk at hv
    simp only [Bool.and_eq_true] at hv
    exact hv.2.2.2
  unfold tellK at h
  by_cases e : s = kwRows
  · rw [if_pos e] at h
    obtain rfl := (Prod.mk.inj (Option.some.inj h)).1
    have f1 := valR_few y1
    exact told_plain (plain_rows _) (by have := rows_size y1; omega)
  rw [if_neg e] at h
  clear e
  by_cases e : s = kwSizes
  · rw [if_pos e] at h
    obtain rfl := (Prod.mk.inj (Option.some.inj h)).1
    exact told_list (small_sizes y2) (by have := (sizes_all y2).1.2; omega)
  rw [if_neg e] at h
  clear e
  by_cases e : s = kwJobs
  · rw [if_pos e] at h
    obtain rfl := (Prod.mk.inj (Option.some.inj h)).1
    exact told_plain (plain_jobs _) (by have := jobs_size y3; have := (jobs_all y3).2.1; omega)
  rw [if_neg e] at h
  clear e
  by_cases e : s = kwWays
  · rw [if_pos e] at h
    obtain rfl := (Prod.mk.inj (Option.some.inj h)).1
    exact told_list (small_ways y4) (by have := (ways_eight y5).2; omega)
  rw [if_neg e] at h
  clear e
  by_cases e : s = kwSolve
  · rw [if_pos e] at h
    obtain rfl := (Prod.mk.inj (Option.some.inj h)).1
    exact told_num (plan_ok hb).2
  rw [if_neg e] at h
  clear e
  by_cases e : s = kwPrices
  · rw [if_pos e] at h
    obtain rfl := (Prod.mk.inj (Option.some.inj h)).1
    exact told_num (price_ok hb).2
  rw [if_neg e] at h
  clear e
  by_cases e : s = kwGain
  · rw [if_pos e] at h
    obtain rfl := (Prod.mk.inj (Option.some.inj h)).1
    exact told_num (gain_ok _ _).2
  rw [if_neg e] at h
  clear e
  by_cases e : s = kwHalves
  · rw [if_pos e] at h
    obtain rfl := (Prod.mk.inj (Option.some.inj h)).1
    exact told_itoa (halfN_rng _)
  rw [if_neg e] at h
  clear e
  by_cases e : s = kwTour
  · rw [if_pos e] at h
    obtain rfl := (Prod.mk.inj (Option.some.inj h)).1
    exact told_list (short_tour _).1 (by have := tour_len d.ways; omega)
  rw [if_neg e] at h
  clear e
  by_cases e : s = kwLong
  · rw [if_pos e] at h
    obtain rfl := (Prod.mk.inj (Option.some.inj h)).1
    exact told_itoa (tourLng_rng _)
  rw [if_neg e] at h
  clear e
  by_cases e : s = kwBound
  · rw [if_pos e] at h
    obtain rfl := (Prod.mk.inj (Option.some.inj h)).1
    exact told_itoa (tbN_rng _)
  rw [if_neg e] at h
  clear e
  by_cases e : s = kwDue
  · rw [if_pos e] at h
    obtain rfl := (Prod.mk.inj (Option.some.inj h)).1
    exact told_list (short_due _).1 (by have := due_len d.jobs; omega)
  rw [if_neg e] at h
  clear e
  by_cases e : s = kwSmith
  · rw [if_pos e] at h
    obtain rfl := (Prod.mk.inj (Option.some.inj h)).1
    exact told_list (short_smith _).1 (by have := smith_len d.jobs; omega)
  rw [if_neg e] at h
  clear e
  by_cases e : s = kwOntime
  · rw [if_pos e] at h
    obtain rfl := (Prod.mk.inj (Option.some.inj h)).1
    exact told_list (short_ot _).1 (by have := ot_len d.jobs; omega)
  rw [if_neg e] at h
  clear e
  by_cases e : s = kwLate
  · rw [if_pos e] at h
    obtain rfl := (Prod.mk.inj (Option.some.inj h)).1
    exact told_itoa (lateN_rng _)
  rw [if_neg e] at h
  clear e
  by_cases e : s = kwHeads
  · rw [if_pos e] at h
    obtain rfl := (Prod.mk.inj (Option.some.inj h)).1
    exact told_itoa (headsN_rng _)
  rw [if_neg e] at h
  cases h
theorem told_two {d : DeskD} (s x : ByteArray) : Told (twoK d s x).2.1 := by
  unfold twoK
  cases setK d s x with
  | some p => exact told_ok
  | none =>
    dsimp only
    split
    · exact told_ok
    · cases e : countK d s (valN x) with
      | some p =>
        obtain ⟨m, ok⟩ := p
        exact told_itoa (count_rng e)
      | none => exact told_itoa (n := 0) (by unfold InZ; omega)
theorem told_car {d : DeskD} (hv : validDk d = true) (hb : BitsD d) (s : ByteArray) : Told (carK d s).2.1 := by
  unfold carK
  split
  · exact told_two _ _
  · split
    · exact told_E0
    · split
      · exact told_ok
      · cases e : tellK d s with
        | some p =>
          obtain ⟨y, ok⟩ := p
          exact told_tell hv hb e
        | none => exact told_E0
theorem told_cmd {d : DeskD} (hv : validDk d = true) (hb : BitsD d) (s : ByteArray) : Told (cmdK d s).2 := by
  unfold cmdK
  split
  · exact told_what
  · split
    · exact told_no
    · exact told_car hv hb s
theorem told_outs {d : DeskD} (hv : validDk d = true) (hb : BitsD d) (ls : List ByteArray) (k : Nat) : ∀ x ∈ outsK d ls k, Told x := by
  intro x hx
  unfold outsK at hx
  obtain ⟨i, _, rfl⟩ := List.mem_map.1 hx
  exact told_cmd (stK_valid hv ls i) (stK_bits hb ls i) _
theorem eqBy_rfl {α : Type} {f : α → α → Bool} (h : ∀ x, f x x = true) : ∀ l : List α, eqBy f l l = true
  | [] => rfl
  | x :: r => by
    simp only [eqBy]
    rw [h x, eqBy_rfl h r]
    rfl
theorem sameF_rfl (xs : List Nat) : sameF xs xs = true := eqBy_rfl (fun x => by
  unfold sameX
  cases nan32 x <;> simp) xs
theorem sameR_rfl (r : RowsD) : sameR r r = true := by
  unfold sameR
  rw [sameF_rfl, sameF_rfl, sameF_rfl]
  simp
theorem sameJs_rfl (js : List JobD) : sameJs js js = true := eqBy_rfl (fun x => by unfold sameJ; simp) js
theorem sameD_rfl (d : DeskD) : sameD d d = true := by
  unfold sameD
  rw [sameR_rfl, sameJs_rfl]
  simp
end Go.Proofs.YtgkbbpajkbkgnaaGreatDoor
