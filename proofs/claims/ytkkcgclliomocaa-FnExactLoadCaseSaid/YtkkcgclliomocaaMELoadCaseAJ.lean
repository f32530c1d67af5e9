/-
  FnExactLoadCase: texts joined: LoadS, LFnExactLoadCase, OpenI.
-/
import Derived.Deep.RegionHeld3
import Derived.Deep.Cut
import Derived.ProofKit
import Derived.OpenShut
import Derived.Test.YtkkcgclliomocaaMELoadCaseAA
import Derived.Test.YtkkcgclliomocaaMELoadCaseAH
import Derived.Test.YtkkcgclliomocaaMELoadCaseAI
namespace Go.Proofs.Ytkkcgclliomocaa
open Go.RowKit

set_option maxHeartbeats 2000000 in
set_option maxRecDepth 4000 in
theorem specLoad_any (s : ByteArray) (w : World) (hs : s.size ≤ 1048576) :
    Calls Try.prog 18 #[.string s] w fun e w' => ∃ v', e = .returned (.tuple #[v', .bool (ldB s)]) ∧ OwnCs w.heap.size w'.heap.size w' v' (ldC s) ∧ Below w.heap.size w w' := by
  have HS := Lib.hid hs
  clear hs
  go_enter Try.func18, Try.ntmps18
  go_wp2_with fail
  refine Calls.at fun W0 hW0 => ?_
  have HB0 := Lib.hid (show Below w.heap.size w W0 by subst hW0; (repeat' first | exact Below.refl _ _ | assumption | refine Below.alloc ?_ ?_ _ | refine Below.setCell ?_ ?_ _ | refine Below.drew ?_ | (simp; done) | (simp; omega)))
  have KQ0 := Lib.hid (show Blk W0 w.heap.size 33 #[.string ⟨#[]⟩, .int .i64 0, .slice none 0 0, .slice none 0 0] by subst hW0; exact Blk.new w 33 #[.string ⟨#[]⟩, .int .i64 0, .slice none 0 0, .slice none 0 0])
  have hz0 : w.heap.size < W0.heap.size := KQ0.out.lt
  clear hW0
  refine (l07Begin_any s W0 HS.out).mono ?_
  rintro e w1 ⟨v', rfl, ho, hb⟩
  obtain ⟨a1, c1, a2, c2, rfl⟩ := ho.rd.shape
  have HO := Lib.hid ho
  have HB := Lib.hid (HB0.out.trans (hb.mono (Nat.le_of_lt hz0)))
  have KQ := Lib.hid (KQ0.out.below hb hz0)
  have hzw := HB.out.size
  have hw1 : w.heap.size < w1.heap.size := KQ.out.lt
  have hz01 : W0.heap.size ≤ w1.heap.size := hb.size
  obtain ⟨n, hn⟩ : ∃ n, n = rcN s := ⟨_, rfl⟩
  have hnle : n ≤ 1048576 := by rw [hn]; exact Nat.le_trans (rcN_le s) HS.out
  obtain ⟨N, hN⟩ : ∃ N, N = s.size := ⟨_, rfl⟩
  have HOK := Lib.hid (show ldB s = (decide (n ≠ 0) && decide (n = N)) by unfold ldB; rw [rcOk_iff, ← hn, hN])
  rw [← hn]
  obtain ⟨d, hd⟩ : ∃ d, d = rcC s := ⟨_, rfl⟩
  rw [← hd] at HO ⊢
  have HD := Lib.hid (show ldC s = if ldB s = true then d else ICL by unfold ldC; rw [hd])
  have HNN := Lib.hid hN
  clear hb ho hn hd hN
  go_upto_region 2 with fail
  refine wp_at fun W2 hW2 => ?_
  have HK2 := Lib.hid (show Blk W2 w1.heap.size 33 #[.string d.name, .int .i64 d.form.letters, .slice a1 d.form.clauses.length c1, .slice a2 d.proof.length c2] by
    subst hW2; first | exact Blk.new _ _ _ | simpa using ((((Blk.new w1 33 #[.string ⟨#[]⟩, .int .i64 0, .slice none 0 0, .slice none 0 0]).set 0 (.string d.name)).set 1 (.int .i64 d.form.letters)).set 2 (.slice a1 d.form.clauses.length c1)).set 3 (.slice a2 d.proof.length c2))
  have hb2 := Lib.hid (show Below w1.heap.size w1 W2 by subst hW2; first | (repeat' first | exact Below.refl _ _ | assumption | refine Below.alloc ?_ ?_ _ | refine Below.setCell ?_ ?_ _ | refine Below.drew ?_ | (simp; done) | (simp; omega)) | (repeat' first | exact Below.refl _ _ | refine Below.setCell ?_ (by exact Nat.le_refl _) _ | refine Below.alloc ?_ (Nat.le_refl _) _))
  clear hW2
  have HO2 := Lib.hid (HO.out.up hb2.out (Nat.le_refl _))
  have HB2 := Lib.hid (HB.out.trans (hb2.out.mono hzw))
  have KQ2 := Lib.hid (KQ.out.below hb2.out hw1)
  have hz2 := hb2.out.size
  have e0 : W2.cell? ⟨w.heap.size, 0, none⟩ = some (.string ⟨#[]⟩) := KQ2.out.cell 0 rfl
  have g0 := KQ2.out.free 0
  have e1 : W2.cell? ⟨w.heap.size, 1, none⟩ = some (.int .i64 0) := KQ2.out.cell 1 rfl
  have g1 := KQ2.out.free 1
  have e2 : W2.cell? ⟨w.heap.size, 2, none⟩ = some (.slice none 0 0) := KQ2.out.cell 2 rfl
  have g2 := KQ2.out.free 2
  have e3 : W2.cell? ⟨w.heap.size, 3, none⟩ = some (.slice none 0 0) := KQ2.out.cell 3 rfl
  have g3 := KQ2.out.free 3
  have y0 : W2.cell? ⟨w1.heap.size, 0, none⟩ = some (.string d.name) := HK2.out.cell 0 rfl
  have y1 : W2.cell? ⟨w1.heap.size, 1, none⟩ = some (.int .i64 d.form.letters) := HK2.out.cell 1 rfl
  have y2 : W2.cell? ⟨w1.heap.size, 2, none⟩ = some (.slice a1 d.form.clauses.length c1) := HK2.out.cell 2 rfl
  have y3 : W2.cell? ⟨w1.heap.size, 3, none⟩ = some (.slice a2 d.proof.length c2) := HK2.out.cell 3 rfl
  have FNO := Lib.hid (show ldB s = false → ∀ Wf, Kept (· = w.heap.size) W2 Wf → ∃ v', Ending.returned (.tuple #[.agg #[.string ⟨#[]⟩, .int .i64 0, .slice none 0 0, .slice none 0 0], .bool false]) = .returned (.tuple #[v', .bool (ldB s)]) ∧ OwnCs w.heap.size Wf.heap.size Wf v' (ldC s) ∧ Below w.heap.size w Wf from fun hf Wf hK => by
    have hzf := hK.size
    refine ⟨_, by rw [hf], ?_, HB2.out.trans (hK.toBelow HB2.out.size (by rintro k h1 rfl; omega))⟩
    rw [HD.out, hf, if_neg (by decide)]
    exact ownCs_zero (by omega) (by omega))
  have FYES := Lib.hid (show ldB s = true → ∀ Wf, Kept (· = w.heap.size) W2 Wf → ∃ v', Ending.returned (.tuple #[.agg #[.string d.name, .int .i64 d.form.letters, .slice a1 d.form.clauses.length c1, .slice a2 d.proof.length c2], .bool true]) = .returned (.tuple #[v', .bool (ldB s)]) ∧ OwnCs w.heap.size Wf.heap.size Wf v' (ldC s) ∧ Below w.heap.size w Wf from fun hf Wf hK => by
    have hzf := hK.size
    refine ⟨_, by rw [hf], ?_, HB2.out.trans (hK.toBelow HB2.out.size (by rintro k h1 rfl; omega))⟩
    rw [HD.out, hf, if_pos rfl]
    exact (HO2.out.kept hK (by rintro b h1 h2 rfl; omega)).wide (by omega) (by omega))
  clear HO HB KQ hzw hz0
  rw [HOK.out] at FNO FYES
  have hNI : s.size = N := HNN.out.symm
  by_cases hok : n = 0
  case pos =>
    subst hok
    have F := Lib.hid (FNO.out rfl)
    clear FNO FYES
    go_wp2_with fail
    refine bodyPost_ret (v := .tuple #[.agg #[.string ⟨#[]⟩, .int .i64 0, .slice none 0 0, .slice none 0 0], .bool false]) (by simp [results, Try.results18, go_sem, *]) rfl ?_
    rw [HOK.out]
    refine F.out _ ?_
    repeat' first | exact Kept.refl _ _ | refine Kept.setCell ?_ (.inr (by simp)) _
  have hokb : decide (n ≠ 0) = true := decide_eq_true hok
  rw [hokb] at HOK FNO FYES
  have hn0 : ((n : Int) == 0) = false := by simp; omega
  have hn0' : ¬ (n : Int) = 0 := by omega
  clear hok hokb
  by_cases hnn : n = N
  case neg =>
    have F := Lib.hid (FNO.out (by rw [decide_eq_false hnn]; rfl))
    have hne : ((n : Int) != (N : Int)) = true := by simp; omega
    have HNE := Lib.hid hnn
    clear FNO FYES hnn
    go_wp2_with fail
    refine bodyPost_ret (v := .tuple #[.agg #[.string ⟨#[]⟩, .int .i64 0, .slice none 0 0, .slice none 0 0], .bool false]) (by simp [results, Try.results18, go_sem, *]) rfl ?_
    rw [HOK.out]
    refine F.out _ ?_
    repeat' first | exact Kept.refl _ _ | refine Kept.setCell ?_ (.inr (by simp)) _
  have F := Lib.hid (FYES.out (by rw [decide_eq_true hnn]; rfl))
  have hne : ((n : Int) != (N : Int)) = false := by simp; omega
  have HNE := Lib.hid hnn
  clear FNO FYES hnn
  go_wp2_with fail
  refine bodyPost_ret (v := .tuple #[.agg #[.string d.name, .int .i64 d.form.letters, .slice a1 d.form.clauses.length c1, .slice a2 d.proof.length c2], .bool true]) (by simp [results, Try.results18, go_sem, *]) rfl ?_
  rw [HOK.out]
  refine F.out _ ?_
  repeat' first | exact Kept.refl _ _ | refine Kept.setCell ?_ (.inr (by simp)) _

end Go.Proofs.Ytkkcgclliomocaa

namespace Go.Proofs.Ytkkcgclliomocaa
open Go.RowKit

set_option maxHeartbeats 4000000 in
set_option maxRecDepth 100000 in
theorem lawLoadCase_any (w : World) (a0 : ByteArray) :
    Calls Try.prog 4 #[.string a0] w fun e w' => e = .returned (.bool true) ∧ Below w.heap.size w w' := by
  have B : Hid (Below w.heap.size w w) := Below.refl _ _
  go_enter Try.func4, Try.ntmps4
  by_cases hg0 : (1048576 : Int) < (a0.size : Nat)
  · go_wp2_with fail
    go_ret
    exact ⟨rfl, B.out⟩
  have hs0 : a0.size ≤ 1048576 := by omega
  have ne1 : ((ldB a0) != (ldB a0)) = false := by simp
  go_upto_region 3 with fail
  go_wp2_with fail
  refine (specLoad_any a0 _ hs0).mono ?_
  rintro e w1 ⟨Wv0, rfl, Wo0, hb⟩
  replace Wo0 := Lib.hid Wo0
  replace B := Lib.hid (B.out.trans (hb.mono B.out.size))
  have zw1 : w.heap.size ≤ w1.heap.size := hb.size
  clear hb
  obtain ⟨xW0, cW0, yW0, dW0, rfl⟩ := Wo0.out.rd.shape
  go_upto_region 4 with fail
  refine wp_at fun w2 hW => ?_
  have hb : Below w1.heap.size w1 w2 := by subst hW; (repeat' first | exact Below.refl _ _ | assumption | refine Below.alloc ?_ ?_ _ | refine Below.setCell ?_ ?_ _ | refine Below.drew ?_ | (simp; done) | (simp; omega))
  have YW0 := Lib.hid (show Blk w2 w1.heap.size 33 #[.string (ldC a0).name, .int .i64 (ldC a0).form.letters, .slice xW0 (ldC a0).form.clauses.length cW0, .slice yW0 (ldC a0).proof.length dW0] by subst hW; exact Blk.new _ _ _)
  clear hW
  replace B := Lib.hid (B.out.trans (hb.mono B.out.size))
  replace Wo0 := Lib.hid (Wo0.out.up hb (Nat.le_refl _))
  have zw2 : w1.heap.size ≤ w2.heap.size := hb.size
  clear hb
  have lYW0 := YW0.out.lt
  go_wp2_with fail
  refine (implLoad_any a0 _ hs0).mono ?_
  rintro e w3 ⟨Gv0, rfl, Go0, hb⟩
  replace Go0 := Lib.hid Go0
  replace B := Lib.hid (B.out.trans (hb.mono B.out.size))
  replace Wo0 := Lib.hid (Wo0.out.up hb (Nat.le_refl _))
  replace YW0 := Lib.hid (YW0.out.below hb YW0.out.lt)
  have zw3 : w2.heap.size ≤ w3.heap.size := hb.size
  clear hb
  obtain ⟨xG0, cG0, yG0, dG0, rfl⟩ := Go0.out.rd.shape
  go_upto_region 5 with fail
  refine wp_at fun w4 hW => ?_
  have hb : Below w3.heap.size w3 w4 := by subst hW; (repeat' first | exact Below.refl _ _ | assumption | refine Below.alloc ?_ ?_ _ | refine Below.setCell ?_ ?_ _ | refine Below.drew ?_ | (simp; done) | (simp; omega))
  have YG0 := Lib.hid (show Blk w4 w3.heap.size 33 #[.string (ldC a0).name, .int .i64 (ldC a0).form.letters, .slice xG0 (ldC a0).form.clauses.length cG0, .slice yG0 (ldC a0).proof.length dG0] by subst hW; exact Blk.new _ _ _)
  clear hW
  replace B := Lib.hid (B.out.trans (hb.mono B.out.size))
  replace Wo0 := Lib.hid (Wo0.out.up hb (Nat.le_refl _))
  replace YW0 := Lib.hid (YW0.out.below hb YW0.out.lt)
  replace Go0 := Lib.hid (Go0.out.up hb (Nat.le_refl _))
  have zw4 : w3.heap.size ≤ w4.heap.size := hb.size
  clear hb
  have lYG0 := YG0.out.lt
  have tYG0_0 : w4.cell? ⟨w3.heap.size, 0, none⟩ = some (.string (ldC a0).name) := YG0.out.cell 0 rfl
  have tYG0_1 : w4.cell? ⟨w3.heap.size, 1, none⟩ = some (.int .i64 (ldC a0).form.letters) := YG0.out.cell 1 rfl
  have tYG0_2 : w4.cell? ⟨w3.heap.size, 2, none⟩ = some (.slice xG0 (ldC a0).form.clauses.length cG0) := YG0.out.cell 2 rfl
  have tYG0_3 : w4.cell? ⟨w3.heap.size, 3, none⟩ = some (.slice yG0 (ldC a0).proof.length dG0) := YG0.out.cell 3 rfl
  have tYW0_0 : w4.cell? ⟨w1.heap.size, 0, none⟩ = some (.string (ldC a0).name) := YW0.out.cell 0 rfl
  have tYW0_1 : w4.cell? ⟨w1.heap.size, 1, none⟩ = some (.int .i64 (ldC a0).form.letters) := YW0.out.cell 1 rfl
  have tYW0_2 : w4.cell? ⟨w1.heap.size, 2, none⟩ = some (.slice xW0 (ldC a0).form.clauses.length cW0) := YW0.out.cell 2 rfl
  have tYW0_3 : w4.cell? ⟨w1.heap.size, 3, none⟩ = some (.slice yW0 (ldC a0).proof.length dW0) := YW0.out.cell 3 rfl
  go_wp2_with fail
  refine (eqCs_same _ _ (ldC a0) _ Go0.out.rd Wo0.out.rd).mono ?_
  rintro e w5 ⟨rfl, hb⟩
  clear tYG0_0 tYG0_1 tYG0_2 tYG0_3 tYW0_0 tYW0_1 tYW0_2 tYW0_3
  replace B := Lib.hid (B.out.trans (hb.mono B.out.size))
  replace Wo0 := Lib.hid (Wo0.out.up hb (Nat.le_refl _))
  replace YW0 := Lib.hid (YW0.out.below hb YW0.out.lt)
  replace Go0 := Lib.hid (Go0.out.up hb (Nat.le_refl _))
  replace YG0 := Lib.hid (YG0.out.below hb YG0.out.lt)
  have zw5 : w4.heap.size ≤ w5.heap.size := hb.size
  clear hb
  have hcGo0 : (0 : Int) ≤ (cntCs (ldC a0) : Nat) := by omega
  have Go0h := Go0
  clear Go0h
  go_upto_region 8 with fail
  have tYG0_0 : w5.cell? ⟨w3.heap.size, 0, none⟩ = some (.string (ldC a0).name) := YG0.out.cell 0 rfl
  have tYG0_1 : w5.cell? ⟨w3.heap.size, 1, none⟩ = some (.int .i64 (ldC a0).form.letters) := YG0.out.cell 1 rfl
  have tYG0_2 : w5.cell? ⟨w3.heap.size, 2, none⟩ = some (.slice xG0 (ldC a0).form.clauses.length cG0) := YG0.out.cell 2 rfl
  have tYG0_3 : w5.cell? ⟨w3.heap.size, 3, none⟩ = some (.slice yG0 (ldC a0).proof.length dG0) := YG0.out.cell 3 rfl
  go_wp2_with fail
  refine (markCs_o _ _ _ (ldC a0) _ _ Go0.out (by omega) (by have := ldC_cnt a0; omega)).mono ?_
  rintro e w6 ⟨rfl, MGo0, hb⟩
  clear tYG0_0 tYG0_1 tYG0_2 tYG0_3
  replace MGo0 := Lib.hid MGo0
  replace B := Lib.hid (B.out.trans (hb.toBelow B.out.size (by rintro k hk1 ⟨h1, h2⟩; omega)))
  replace Wo0 := Lib.hid (Wo0.out.kept hb (by rintro b h1 h2 ⟨h3, h4⟩; omega))
  replace YW0 := Lib.hid (YW0.out.kept hb (by rintro ⟨h1, h2⟩; omega))
  replace YG0 := Lib.hid (YG0.out.kept hb (by rintro ⟨h1, h2⟩; omega))
  have zw6 : w5.heap.size ≤ w6.heap.size := hb.size
  clear hb
  clear Go0
  have nm : ((1 + (cntCs (ldC a0) : Int) : Int) != (1 + (cntCs (ldC a0) : Int) : Int)) = false := by simp
  go_upto_region 10 with fail
  have tYG0_0 : w6.cell? ⟨w3.heap.size, 0, none⟩ = some (.string (ldC a0).name) := YG0.out.cell 0 rfl
  have tYG0_1 : w6.cell? ⟨w3.heap.size, 1, none⟩ = some (.int .i64 (ldC a0).form.letters) := YG0.out.cell 1 rfl
  have tYG0_2 : w6.cell? ⟨w3.heap.size, 2, none⟩ = some (.slice xG0 (ldC a0).form.clauses.length cG0) := YG0.out.cell 2 rfl
  have tYG0_3 : w6.cell? ⟨w3.heap.size, 3, none⟩ = some (.slice yG0 (ldC a0).proof.length dG0) := YG0.out.cell 3 rfl
  go_wp2_with fail
  refine (heldCs_o _ (ldC a0) _ _ MGo0.out.rd (by omega) (by have := ldC_cnt a0; omega)).mono ?_
  rintro e w7 ⟨rfl, hb⟩
  clear tYG0_0 tYG0_1 tYG0_2 tYG0_3
  replace B := Lib.hid (B.out.trans (hb.mono B.out.size))
  replace Wo0 := Lib.hid (Wo0.out.up hb (Nat.le_refl _))
  replace YW0 := Lib.hid (YW0.out.below hb YW0.out.lt)
  replace YG0 := Lib.hid (YG0.out.below hb YG0.out.lt)
  replace MGo0 := Lib.hid (MGo0.out.up hb (Nat.le_refl _))
  have zw7 : w6.heap.size ≤ w7.heap.size := hb.size
  clear hb
  go_upto_region 15 with fail
  go_wp2_with fail
  refine (implLoad_any a0 _ hs0).mono ?_
  rintro e w8 ⟨Hv0, rfl, Ho0, hb⟩
  replace Ho0 := Lib.hid Ho0
  replace B := Lib.hid (B.out.trans (hb.mono B.out.size))
  replace Wo0 := Lib.hid (Wo0.out.up hb (Nat.le_refl _))
  replace YW0 := Lib.hid (YW0.out.below hb YW0.out.lt)
  replace YG0 := Lib.hid (YG0.out.below hb YG0.out.lt)
  replace MGo0 := Lib.hid (MGo0.out.up hb (Nat.le_refl _))
  have zw8 : w7.heap.size ≤ w8.heap.size := hb.size
  clear hb
  obtain ⟨xH0, cH0, yH0, dH0, rfl⟩ := Ho0.out.rd.shape
  go_upto_region 16 with fail
  refine wp_at fun w9 hW => ?_
  have hb : Below w8.heap.size w8 w9 := by subst hW; (repeat' first | exact Below.refl _ _ | assumption | refine Below.alloc ?_ ?_ _ | refine Below.setCell ?_ ?_ _ | refine Below.drew ?_ | (simp; done) | (simp; omega))
  have YH0 := Lib.hid (show Blk w9 w8.heap.size 33 #[.string (ldC a0).name, .int .i64 (ldC a0).form.letters, .slice xH0 (ldC a0).form.clauses.length cH0, .slice yH0 (ldC a0).proof.length dH0] by subst hW; exact Blk.new _ _ _)
  clear hW
  replace B := Lib.hid (B.out.trans (hb.mono B.out.size))
  replace Wo0 := Lib.hid (Wo0.out.up hb (Nat.le_refl _))
  replace YW0 := Lib.hid (YW0.out.below hb YW0.out.lt)
  replace YG0 := Lib.hid (YG0.out.below hb YG0.out.lt)
  replace MGo0 := Lib.hid (MGo0.out.up hb (Nat.le_refl _))
  replace Ho0 := Lib.hid (Ho0.out.up hb (Nat.le_refl _))
  have zw9 : w8.heap.size ≤ w9.heap.size := hb.size
  clear hb
  have lYH0 := YH0.out.lt
  have tYH0_0 : w9.cell? ⟨w8.heap.size, 0, none⟩ = some (.string (ldC a0).name) := YH0.out.cell 0 rfl
  have tYH0_1 : w9.cell? ⟨w8.heap.size, 1, none⟩ = some (.int .i64 (ldC a0).form.letters) := YH0.out.cell 1 rfl
  have tYH0_2 : w9.cell? ⟨w8.heap.size, 2, none⟩ = some (.slice xH0 (ldC a0).form.clauses.length cH0) := YH0.out.cell 2 rfl
  have tYH0_3 : w9.cell? ⟨w8.heap.size, 3, none⟩ = some (.slice yH0 (ldC a0).proof.length dH0) := YH0.out.cell 3 rfl
  have tYW0_0 : w9.cell? ⟨w1.heap.size, 0, none⟩ = some (.string (ldC a0).name) := YW0.out.cell 0 rfl
  have tYW0_1 : w9.cell? ⟨w1.heap.size, 1, none⟩ = some (.int .i64 (ldC a0).form.letters) := YW0.out.cell 1 rfl
  have tYW0_2 : w9.cell? ⟨w1.heap.size, 2, none⟩ = some (.slice xW0 (ldC a0).form.clauses.length cW0) := YW0.out.cell 2 rfl
  have tYW0_3 : w9.cell? ⟨w1.heap.size, 3, none⟩ = some (.slice yW0 (ldC a0).proof.length dW0) := YW0.out.cell 3 rfl
  go_wp2_with fail
  refine (eqCs_same _ _ (ldC a0) _ Ho0.out.rd Wo0.out.rd).mono ?_
  rintro e w10 ⟨rfl, hb⟩
  clear tYH0_0 tYH0_1 tYH0_2 tYH0_3 tYW0_0 tYW0_1 tYW0_2 tYW0_3
  replace B := Lib.hid (B.out.trans (hb.mono B.out.size))
  replace Wo0 := Lib.hid (Wo0.out.up hb (Nat.le_refl _))
  replace YW0 := Lib.hid (YW0.out.below hb YW0.out.lt)
  replace YG0 := Lib.hid (YG0.out.below hb YG0.out.lt)
  replace MGo0 := Lib.hid (MGo0.out.up hb (Nat.le_refl _))
  replace Ho0 := Lib.hid (Ho0.out.up hb (Nat.le_refl _))
  replace YH0 := Lib.hid (YH0.out.below hb YH0.out.lt)
  have zw10 : w9.heap.size ≤ w10.heap.size := hb.size
  clear hb
  go_upto_region 19 with fail
  have tYG0_0 : w10.cell? ⟨w3.heap.size, 0, none⟩ = some (.string (ldC a0).name) := YG0.out.cell 0 rfl
  have tYG0_1 : w10.cell? ⟨w3.heap.size, 1, none⟩ = some (.int .i64 (ldC a0).form.letters) := YG0.out.cell 1 rfl
  have tYG0_2 : w10.cell? ⟨w3.heap.size, 2, none⟩ = some (.slice xG0 (ldC a0).form.clauses.length cG0) := YG0.out.cell 2 rfl
  have tYG0_3 : w10.cell? ⟨w3.heap.size, 3, none⟩ = some (.slice yG0 (ldC a0).proof.length dG0) := YG0.out.cell 3 rfl
  go_wp2_with fail
  refine (heldCs_o _ (ldC a0) _ _ MGo0.out.rd (by omega) (by have := ldC_cnt a0; omega)).mono ?_
  rintro e w11 ⟨rfl, hb⟩
  clear tYG0_0 tYG0_1 tYG0_2 tYG0_3
  replace B := Lib.hid (B.out.trans (hb.mono B.out.size))
  replace Wo0 := Lib.hid (Wo0.out.up hb (Nat.le_refl _))
  replace YW0 := Lib.hid (YW0.out.below hb YW0.out.lt)
  replace YG0 := Lib.hid (YG0.out.below hb YG0.out.lt)
  replace MGo0 := Lib.hid (MGo0.out.up hb (Nat.le_refl _))
  replace Ho0 := Lib.hid (Ho0.out.up hb (Nat.le_refl _))
  replace YH0 := Lib.hid (YH0.out.below hb YH0.out.lt)
  have zw11 : w10.heap.size ≤ w11.heap.size := hb.size
  clear hb
  go_wp2_with fail
  go_ret
  exact ⟨rfl, B.out⟩

end Go.Proofs.Ytkkcgclliomocaa

namespace Go.Proofs.Ytkkcgclliomocaa
open Go.ChangeShapes Go.WideShapes Go.ChangeAt Go.RowKit
set_option linter.unusedVariables false

def WfI (zs : List Int) : Prop := ∀ z ∈ zs, -9223372036854775808 ≤ z ∧ z ≤ 9223372036854775807

section
variable {H : Type} {enc : TypeId × Value → H} {w : World} {base : Nat} {spare : Nat → Bool} {held : Bool}

theorem cells_i64 : Try.prog.cellsOf 2 = 1 := by kernel_rfl
theorem wf_i64_bounds {z : Int} (h : (Lit.int .i64 z).wf = true) : -9223372036854775808 ≤ z ∧ z ≤ 9223372036854775807 := bounds_i64 h

set_option maxRecDepth 100000 in
theorem trod_I {fuel : Nat} {cs : List Value} {x : DataW H × List MemPlace} (h : DataW.trod enc Try.prog w base spare held fuel 65 cs = some x) : ∃ v zs, cs = [v] ∧ RdI w v zs ∧ WfI zs := by
  rcases open_ints Try.underlying65 Try.underlying2 cells_i64 h with ⟨rfl, _⟩ | ⟨a, len, cap, zs, rfl, _, hl, hm, hz, _, hcell, hwz⟩
  · exact ⟨_, [], rfl, .inl ⟨rfl, rfl⟩, by intro z hz; simp at hz⟩
  · have hle : len ≤ zs.length := by rw [hz]; split <;> omega
    refine ⟨_, zs.take len, rfl, .inr ⟨a, cap, by simp [Nat.min_eq_left hle], by simp; omega, hm, ?_⟩, fun z hz' => wf_i64_bounds (hwz z (List.mem_of_mem_take hz'))⟩
    intro i u hi
    have hlt : i < len := by
      have := (List.getElem?_eq_some_iff.1 hi).1
      simp at this; omega
    have h2 := hcell i (by omega)
    rw [h2, ← hi]
    simp [I64, List.getElem?_take, hlt, show i < zs.length by omega]

set_option maxRecDepth 100000 in
theorem arg_I {r : Reach} {b0 : Nat} {v : Value} {d : DataW H} {p : List MemPlace} (hv : Value.okWide Try.prog w r b0 65 v) (h : DataW.Trod enc Try.prog w base spare held 65 v d p) : ∃ zs, RdI w v zs ∧ WfI zs := by
  obtain ⟨a, len, cap, rfl⟩ := okWide_slice Try.underlying65 hv
  obtain ⟨fuel, hf⟩ := h
  obtain ⟨v, zs, e, h1, h2⟩ := trod_I hf
  simp [Value.cells] at e
  subst e
  exact ⟨zs, h1, h2⟩
theorem cells_one {a : Addr} {cs : List Value} (h : w.cells? base a 1 = some cs) : ∃ v, cs = [v] ∧ w.cell? a = some v := by
  simp [World.cells?] at h
  obtain ⟨_, h⟩ := h
  cases hc : w.cell? (a.add 0) with
  | none => rw [hc] at h; simp at h
  | some v =>
    rw [hc] at h
    simp at h
    exact ⟨v, h.symm, by simpa [Addr.add] using hc⟩

theorem exists_list {α : Type} (P : Nat → α → Prop) : ∀ (n : Nat), (∀ i, i < n → ∃ x, P i x) → ∃ l : List α, l.length = n ∧ ∀ (i : Nat) x, l[i]? = some x → P i x
  | 0, _ => ⟨[], rfl, by intro i x h; simp at h⟩
  | n + 1, h => by
    obtain ⟨l, hl, hp⟩ := exists_list P n (fun i hi => h i (by omega))
    obtain ⟨x, hx⟩ := h n (by omega)
    refine ⟨l ++ [x], by simp [hl], fun i y hy => ?_⟩
    by_cases hi : i < n
    · rw [List.getElem?_append_left (by omega)] at hy
      exact hp i y hy
    · have : i < (l ++ [x]).length := (List.getElem?_eq_some_iff.1 hy).1
      simp [hl] at this
      obtain rfl : i = n := by omega
      rw [List.getElem?_append_right (by omega), hl] at hy
      simp at hy
      exact hy ▸ hx
end
end Go.Proofs.Ytkkcgclliomocaa
