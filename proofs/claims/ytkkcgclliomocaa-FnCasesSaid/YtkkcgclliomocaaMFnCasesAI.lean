/-
  FnCases: texts joined: ReadCase, Load.
-/
import Derived.Laws.Strings2
import Derived.Test.YtkkcgclliomocaaMFnCasesAD
import Derived.Test.YtkkcgclliomocaaMFnCasesAH
namespace Go.Proofs.Ytkkcgclliomocaa
open Go.RowKit

theorem extract_mid (s : ByteArray) (p n : Nat) : s.extract p (p + n) = strOfNums (midL s p n) := by
  obtain ⟨⟨l⟩⟩ := s
  rw [ByteArray.extract_mk]
  unfold strOfNums midL bytesOf
  congr 2
  rw [show p + n - p = n by omega, ← List.map_drop, ← List.map_take, List.map_map]
  have : ∀ (m : List UInt8), m.map ((fun n : Int => UInt8.ofNat n.toNat) ∘ fun b : UInt8 => (b.toNat : Int)) = m := by
    intro m
    induction m with
    | nil => rfl
    | cons x r ih => rw [List.map_cons, ih]; congr 1; simp
  exact (this _).symm
theorem extract_pre (s : ByteArray) (n : Nat) : s.extract 0 n = preS s n := by
  have := extract_mid s 0 n
  rw [Nat.zero_add] at this
  rw [this]
  unfold preS midL
  rw [List.drop_zero]

noncomputable def rcC (s : ByteArray) : CaseD := match accP s with | some r => r.1 | none => ICL
noncomputable def rcN (s : ByteArray) : Nat := match accP s with | some r => r.2 | none => 0
noncomputable def rcOk (s : ByteArray) : Bool := (accP s).isSome

theorem ownCs_zero {lo hi : Nat} {w : World} (h1 : lo ≤ hi) (h2 : lo ≤ w.heap.size) : OwnCs lo hi w (.agg #[.string ⟨#[]⟩, .int .i64 0, .slice none 0 0, .slice none 0 0]) ICL := by
  have ho : OwnL lo lo w (.slice none 0 0) [] := by
    refine ⟨[], World.ownsRow_nil _ _ _ _, ?_, ?_⟩
    · intro g hg; cases hg
    · exact ⟨rfl, (by intro i u zs h; simp at h), (by intro i j u u' g _ h; simp at h)⟩
  exact ⟨_, _, lo, lo, lo, lo, rfl, ⟨_, lo, lo, rfl, ho, Nat.le_refl _, Nat.le_refl _, Nat.le_refl _, h2⟩, ho, (by decide), Nat.le_refl _, Nat.le_refl _, Nat.le_refl _, Nat.le_refl _, h1, h2⟩

theorem strOf_inj {a b : List Int} (ha : AllB a) (hb : AllB b) (h : strOfNums a = strOfNums b) : a = b := by
  rw [← bytes_back a ha, h, bytes_back b hb]
theorem rdSome_rng (s : ByteArray) : ∀ n t, AllB (rdSome s n t).1
  | 0, t => fun x hx => by cases hx
  | n + 1, t => by
    unfold rdSome
    split
    · exact fun x hx => by cases hx
    · intro x hx
      rcases List.mem_cons.1 hx with rfl | hx
      · exact rdX_rng s t
      · exact rdSome_rng s n _ x hx

set_option maxHeartbeats 8000000 in
set_option maxRecDepth 8000 in
theorem readCase_any (s : ByteArray) (w : World) (hs : s.size ≤ 1048576) :
    Calls Try.prog 54 #[.string s] w fun e w' => ∃ v', e = .returned (.tuple #[v', .int .i64 (rcN s), .bool (rcOk s)]) ∧ OwnCs w.heap.size w'.heap.size w' v' (rcC s) ∧ Below w.heap.size w w' := by
  have hs' : s.size ≤ maxLen := by unfold maxLen; omega
  have HFAIL := Lib.hid (show accI s = none → rcN s = 0 ∧ rcOk s = false ∧ rcC s = ICL from fun h => by
    rw [accI_eq] at h; unfold rcN rcOk rcC; rw [h]; exact ⟨rfl, rfl, rfl⟩)
  have HYES := Lib.hid (show ∀ r, accI s = some r → rcN s = r.2 ∧ rcOk s = true ∧ rcC s = r.1 from fun r h => by
    rw [accI_eq] at h; unfold rcN rcOk rcC; rw [h]; exact ⟨rfl, rfl, rfl⟩)
  go_enter Try.func54, Try.ntmps54
  go_wp2_with fail
  refine Calls.at fun W0 hW0 => ?_
  have HB0 := Lib.hid (show Below w.heap.size w W0 by subst hW0; (repeat' first | exact Below.refl _ _ | assumption | refine Below.alloc ?_ ?_ _ | refine Below.setCell ?_ ?_ _ | refine Below.drew ?_ | (simp; done) | (simp; omega)))
  have HR0 := Lib.hid (show Rdr W0 (w.heap.size + 1) s ⟨0, false⟩ by subst hW0; simpa [Rdr] using (Blk.new (w.alloc (.cells #[.string ⟨#[]⟩, .int .i64 0, .slice none 0 0, .slice none 0 0] 33)) 130 #[.string s, .int .i64 0, .bool false]).alloc (.cells #[.string ⟨#[]⟩, .int .i64 0, .slice none 0 0, .slice none 0 0] 33))
  have KQ0 := Lib.hid (show Blk W0 w.heap.size 33 #[.string ⟨#[]⟩, .int .i64 0, .slice none 0 0, .slice none 0 0] by subst hW0; exact ((Blk.new w 33 #[.string ⟨#[]⟩, .int .i64 0, .slice none 0 0, .slice none 0 0]).alloc _).alloc _)
  have KC0 := Lib.hid (show Blk W0 (w.heap.size + 2) 33 #[.string ⟨#[]⟩, .int .i64 0, .slice none 0 0, .slice none 0 0] by subst hW0; simpa using Blk.new ((w.alloc (.cells #[.string ⟨#[]⟩, .int .i64 0, .slice none 0 0, .slice none 0 0] 33)).alloc (.cells #[.string s, .int .i64 0, .bool false] 130)) 33 #[.string ⟨#[]⟩, .int .i64 0, .slice none 0 0, .slice none 0 0])
  have hz0 : w.heap.size + 3 ≤ W0.heap.size := by subst hW0; simp
  clear hW0
  obtain ⟨B, hB⟩ : ∃ B, B = w.heap.size + 1 := ⟨_, rfl⟩
  obtain ⟨C, hC⟩ : ∃ C, C = w.heap.size + 2 := ⟨_, rfl⟩
  first | rw [← hC] | rw [show w.heap.size + 1 + 1 = C from hC.symm]
  rw [← hB]
  rw [← hB] at HR0
  rw [← hC] at KC0
  have HBC := Lib.hid (And.intro hB hC)
  have hBw : w.heap.size < B ∧ B < C ∧ C < W0.heap.size := by omega
  clear hB hC
  refine (rdSome_any B s ⟨0, false⟩ 4 W0 hs' (Nat.zero_le _) (by omega) HR0.out).mono ?_
  rintro e w1 ⟨rfl, hr1, hk1⟩
  have HT1 := Lib.hid (show (rdSome s 4 ⟨0, false⟩).2 = t1 s from rfl)
  rw [HT1.out] at hr1
  have HR1 := Lib.hid hr1
  have HB1 := Lib.hid (HB0.out.trans (hk1.toBelow (by omega) (by rintro k h1 rfl; omega)))
  have KQ1 := Lib.hid (KQ0.out.kept hk1 (by show ¬ (w.heap.size = B); omega))
  have KC1 := Lib.hid (KC0.out.kept hk1 (by show ¬ (C = B); omega))
  have hz1 := hk1.size
  clear hr1 hk1 HR0 KQ0 KC0
  by_cases hcas : casB s = true
  case neg =>
    have HN := Lib.hid (HFAIL.out (by unfold accI; rw [if_neg (fun h => hcas h.1)]))
    have hne := str_ne (show strOfNums (rdSome s 4 ⟨0, false⟩).1 ≠ ⟨#[67, 65, 83, 49]⟩ from fun e => by
      apply hcas
      unfold casB
      rw [decide_eq_true_eq]
      exact strOf_inj (rdSome_rng s 4 _) (lit_rng _ _ _ _ (by omega)) e)
    rw [show (⟨#[67, 65, 83, 49]⟩ : ByteArray).toList = [67, 65, 83, 49] from by first | rfl | decide +kernel] at hne
    have e0 : w1.cell? ⟨w.heap.size, 0, none⟩ = some (.string ⟨#[]⟩) := KQ1.out.cell 0 rfl
    have g0 := KQ1.out.free 0
    have e1 : w1.cell? ⟨w.heap.size, 1, none⟩ = some (.int .i64 0) := KQ1.out.cell 1 rfl
    have g1 := KQ1.out.free 1
    have e2 : w1.cell? ⟨w.heap.size, 2, none⟩ = some (.slice none 0 0) := KQ1.out.cell 2 rfl
    have g2 := KQ1.out.free 2
    have e3 : w1.cell? ⟨w.heap.size, 3, none⟩ = some (.slice none 0 0) := KQ1.out.cell 3 rfl
    have g3 := KQ1.out.free 3
    go_wp2_with fail
    refine bodyPost_ret (v := .tuple #[.agg #[.string ⟨#[]⟩, .int .i64 0, .slice none 0 0, .slice none 0 0], .int .i64 0, .bool false]) (by simp [results, Try.results54, go_sem, *]) rfl ?_
    refine ⟨_, by rw [HN.out.1, HN.out.2.1]; rfl, by rw [HN.out.2.2]; exact ownCs_zero (by have := HB1.out.size; simp; omega) (by have := HB1.out.size; simp; omega), ?_⟩
    repeat' first | exact HB1.out | refine Below.setCell ?_ (by exact Nat.le_refl _) _
  have hb4 := show (rdSome s 4 ⟨0, false⟩).1 = [67, 65, 83, 49] from of_decide_eq_true hcas
  rw [hb4, show strOfNums [67, 65, 83, 49] = ⟨#[67, 65, 83, 49]⟩ from rfl]
  clear hb4
  -- the name
  have htp1 : (t1 s).p ≤ s.size := rdSome_le 4 _ (Nat.zero_le _)
  have hx1 := rdX_rng s (t1 s)
  obtain ⟨L1, hL1⟩ : ∃ L : Nat, (L : Int) = rdX s (t1 s) := ⟨(rdX s (t1 s)).toNat, by omega⟩
  have HNM := Lib.hid (show rdSome s L1 (rdN s (t1 s)) = nmR s by unfold nmR; rw [← hL1]; rfl)
  rw [← hL1] at hx1
  have HL1 := Lib.hid hL1
  clear hL1
  go_wp2_with fail
  refine (rdByte_any B s (t1 s) w1 hs' htp1 HR1.out).mono ?_
  rintro e w2 ⟨rfl, hr, hk, hzz⟩
  have HR2 := Lib.hid hr
  have HB2 := Lib.hid (HB1.out.trans (hk.toBelow HB1.out.size (by rintro k h1 rfl; omega)))
  have KQ2 := Lib.hid (KQ1.out.kept hk (by show ¬ (w.heap.size = B); omega))
  have KC2 := Lib.hid (KC1.out.kept hk (by show ¬ (C = B); omega))
  have hz2 : w1.heap.size ≤ w2.heap.size := hk.size
  clear hr hk hzz HR1 KQ1 KC1
  rw [← HL1.out]
  go_wp2_with fail
  refine (rdSome_any B s (rdN s (t1 s)) L1 w2 hs' (rdN_le htp1) (by omega) HR2.out).mono ?_
  rintro e w3 ⟨rfl, hr, hk⟩
  rw [HNM.out] at hr ⊢
  have HR3 := Lib.hid hr
  have HB3 := Lib.hid (HB2.out.trans (hk.toBelow HB2.out.size (by rintro k h1 rfl; omega)))
  have KQ3 := Lib.hid (KQ2.out.kept hk (by show ¬ (w.heap.size = B); omega))
  have KC3 := Lib.hid (KC2.out.kept hk (by show ¬ (C = B); omega))
  have hz3 : w2.heap.size ≤ w3.heap.size := hk.size
  clear hr hk HR2 KQ2 KC2
  have htp3 : (nmR s).2.p ≤ s.size := rdSome_le _ _ (rdN_le htp1)
  obtain ⟨NM, hNM⟩ : ∃ N, N = strOfNums (nmR s).1 := ⟨_, rfl⟩
  have HNS := Lib.hid hNM
  rw [← hNM]
  clear hNM
  have y0 : w3.cell? ⟨C, 0, none⟩ = some (.string ⟨#[]⟩) := KC3.out.cell 0 rfl
  have z0 := KC3.out.free 0
  have y1 : w3.cell? ⟨C, 1, none⟩ = some (.int .i64 0) := KC3.out.cell 1 rfl
  have z1 := KC3.out.free 1
  have y2 : w3.cell? ⟨C, 2, none⟩ = some (.slice none 0 0) := KC3.out.cell 2 rfl
  have z2 := KC3.out.free 2
  have y3 : w3.cell? ⟨C, 3, none⟩ = some (.slice none 0 0) := KC3.out.cell 3 rfl
  have z3 := KC3.out.free 3
  go_wp2_with fail
  clear y0 y1 y2 y3 z0 z1 z2 z3
  refine Calls.at fun w4 hW => ?_
  have HR4 := Lib.hid (show Rdr w4 B s _ by subst hW; exact HR3.out.other (by show B ≠ C; omega) _)
  have KC4 := Lib.hid (show Blk w4 C 33 _ by subst hW; exact KC3.out.set 0 _)
  have KQ4 := Lib.hid (show Blk w4 w.heap.size 33 _ by subst hW; exact KQ3.out.other (by show w.heap.size ≠ C; omega) _)
  have HB4 := Lib.hid (show Below w.heap.size w w4 by subst hW; exact HB3.out.setCell (by show _ ≤ C; omega) _)
  have hz4 : w3.heap.size ≤ w4.heap.size := by subst hW; simp [World.setCell]
  have hks4 := Lib.hid (show Kept (· = C) w3 w4 by subst hW; exact Kept.setCell (S := (· = C)) (p := ⟨C, 0, none⟩) (Kept.refl _ _) (.inr rfl) _)
  clear hW HR3 KQ3 KC3
  refine (rdByte_any B s (nmR s).2 w4 hs' htp3 HR4.out).mono ?_
  rintro e w5 ⟨rfl, hr, hk, hzz⟩
  have HR5 := Lib.hid hr
  have HB5 := Lib.hid (HB4.out.trans (hk.toBelow HB4.out.size (by rintro k h1 rfl; omega)))
  have KQ5 := Lib.hid (KQ4.out.kept hk (by show ¬ (w.heap.size = B); omega))
  have KC5 := Lib.hid (KC4.out.kept hk (by show ¬ (C = B); omega))
  have hz5 : w4.heap.size ≤ w5.heap.size := hk.size
  clear hr hk hzz HR4 KQ4 KC4
  obtain ⟨lt, hlt⟩ : ∃ l, l = rdX s (nmR s).2 := ⟨_, rfl⟩
  have hltr := rdX_rng s (nmR s).2
  rw [← hlt] at hltr ⊢
  have HLT := Lib.hid hlt
  clear hlt
  have y0 : w5.cell? ⟨C, 0, none⟩ = some (.string NM) := KC5.out.cell 0 rfl
  have z0 := KC5.out.free 0
  have y1 : w5.cell? ⟨C, 1, none⟩ = some (.int .i64 0) := KC5.out.cell 1 rfl
  have z1 := KC5.out.free 1
  have y2 : w5.cell? ⟨C, 2, none⟩ = some (.slice none 0 0) := KC5.out.cell 2 rfl
  have z2 := KC5.out.free 2
  have y3 : w5.cell? ⟨C, 3, none⟩ = some (.slice none 0 0) := KC5.out.cell 3 rfl
  have z3 := KC5.out.free 3
  go_wp2_with fail
  clear y0 y1 y2 y3 z0 z1 z2 z3
  refine Calls.at fun w6 hW => ?_
  have HR6 := Lib.hid (show Rdr w6 B s _ by subst hW; exact HR5.out.other (by show B ≠ C; omega) _)
  have KC6 := Lib.hid (show Blk w6 C 33 _ by subst hW; exact KC5.out.set 1 _)
  have KQ6 := Lib.hid (show Blk w6 w.heap.size 33 _ by subst hW; exact KQ5.out.other (by show w.heap.size ≠ C; omega) _)
  have HB6 := Lib.hid (show Below w.heap.size w w6 by subst hW; exact HB5.out.setCell (by show _ ≤ C; omega) _)
  have hz6 : w5.heap.size ≤ w6.heap.size := by subst hW; simp [World.setCell]
  have hks6 := Lib.hid (show Kept (· = C) w5 w6 by subst hW; exact Kept.setCell (S := (· = C)) (p := ⟨C, 1, none⟩) (Kept.refl _ _) (.inr rfl) _)
  clear hW HR5 KQ5 KC5
  have htp4 : (t4 s).p ≤ s.size := rdN_le htp3
  have htp5 : (t5 s).p ≤ s.size := rdN_le htp4
  have htp6 : (t6 s).p ≤ s.size := rdN_le htp5
  have hx4 := rdX_rng s (t4 s)
  have hx5 := rdX_rng s (t5 s)
  obtain ⟨L2, hL2⟩ : ∃ L : Nat, (L : Int) = rdX s (t4 s) := ⟨(rdX s (t4 s)).toNat, by omega⟩
  obtain ⟨L3, hL3⟩ : ∃ L : Nat, (L : Int) = rdX s (t5 s) := ⟨(rdX s (t5 s)).toNat, by omega⟩
  have HCL := Lib.hid (show rdClauses s L2 (t6 s) = clR s by unfold clR; rw [← hL2]; rfl)
  have HPR := Lib.hid (show rdClauses s L3 (clR s).2 = prR s by unfold prR; rw [← hL3]; rfl)
  rw [← hL2] at hx4
  rw [← hL3] at hx5
  have HL2 := Lib.hid hL2
  have HL3 := Lib.hid hL3
  clear hL2 hL3
  refine (rdByte_any B s (t4 s) w6 hs' htp4 HR6.out).mono ?_
  rintro e w7 ⟨rfl, hr, hk, hzz⟩
  have HR7 := Lib.hid hr
  have HB7 := Lib.hid (HB6.out.trans (hk.toBelow HB6.out.size (by rintro k h1 rfl; omega)))
  have KQ7 := Lib.hid (KQ6.out.kept hk (by show ¬ (w.heap.size = B); omega))
  have KC7 := Lib.hid (KC6.out.kept hk (by show ¬ (C = B); omega))
  have hz7 : w6.heap.size ≤ w7.heap.size := hk.size
  clear hr hk hzz HR6 KQ6 KC6
  rw [← HL2.out]
  go_wp2_with fail
  refine (rdByte_any B s (t5 s) w7 hs' htp5 HR7.out).mono ?_
  rintro e w8 ⟨rfl, hr, hk, hzz⟩
  have HR8 := Lib.hid hr
  have HB8 := Lib.hid (HB7.out.trans (hk.toBelow HB7.out.size (by rintro k h1 rfl; omega)))
  have KQ8 := Lib.hid (KQ7.out.kept hk (by show ¬ (w.heap.size = B); omega))
  have KC8 := Lib.hid (KC7.out.kept hk (by show ¬ (C = B); omega))
  have hz8 : w7.heap.size ≤ w8.heap.size := hk.size
  clear hr hk hzz HR7 KQ7 KC7
  rw [← HL3.out]
  go_wp2_with fail
  refine (rdClauses_any B s (t6 s) L2 w8 hs' htp6 (by omega) HR8.out).mono ?_
  rintro e w9 ⟨vc, rfl, hol, hr, hk⟩
  rw [HCL.out] at hr hol
  have HOL9 := Lib.hid hol
  clear hol
  have HR9 := Lib.hid hr
  have HB9 := Lib.hid (HB8.out.trans (hk.toBelow HB8.out.size (by rintro k h1 rfl; omega)))
  have KQ9 := Lib.hid (KQ8.out.kept hk (by show ¬ (w.heap.size = B); omega))
  have KC9 := Lib.hid (KC8.out.kept hk (by show ¬ (C = B); omega))
  have hz9 : w8.heap.size ≤ w9.heap.size := hk.size
  clear hr hk HR8 KQ8 KC8
  have htp9 : (clR s).2.p ≤ s.size := rdClauses_le _ _ htp6
  obtain ⟨ac, cc, rfl⟩ := HOL9.out.rd.shape
  obtain ⟨CL, hCL⟩ : ∃ L, L = (clR s).1 := ⟨_, rfl⟩
  rw [← hCL] at HOL9 ⊢
  have HCLE := Lib.hid hCL
  clear hCL
  have y0 : w9.cell? ⟨C, 0, none⟩ = some (.string NM) := KC9.out.cell 0 rfl
  have z0 := KC9.out.free 0
  have y1 : w9.cell? ⟨C, 1, none⟩ = some (.int .i64 lt) := KC9.out.cell 1 rfl
  have z1 := KC9.out.free 1
  have y2 : w9.cell? ⟨C, 2, none⟩ = some (.slice none 0 0) := KC9.out.cell 2 rfl
  have z2 := KC9.out.free 2
  have y3 : w9.cell? ⟨C, 3, none⟩ = some (.slice none 0 0) := KC9.out.cell 3 rfl
  have z3 := KC9.out.free 3
  go_wp2_with fail
  clear y0 y1 y2 y3 z0 z1 z2 z3
  refine Calls.at fun w10 hW => ?_
  have HR10 := Lib.hid (show Rdr w10 B s _ by subst hW; exact HR9.out.other (by show B ≠ C; omega) _)
  have KC10 := Lib.hid (show Blk w10 C 33 _ by subst hW; exact KC9.out.set 2 _)
  have KQ10 := Lib.hid (show Blk w10 w.heap.size 33 _ by subst hW; exact KQ9.out.other (by show w.heap.size ≠ C; omega) _)
  have HB10 := Lib.hid (show Below w.heap.size w w10 by subst hW; exact HB9.out.setCell (by show _ ≤ C; omega) _)
  have hz10 : w9.heap.size ≤ w10.heap.size := by subst hW; simp [World.setCell]
  have hks10 := Lib.hid (show Kept (· = C) w9 w10 by subst hW; exact Kept.setCell (S := (· = C)) (p := ⟨C, 2, none⟩) (Kept.refl _ _) (.inr rfl) _)
  clear hW HR9 KQ9 KC9
  have HOL10 := Lib.hid (HOL9.out.kept hks10.out (by rintro b h1 h2 rfl; omega))
  refine (rdClauses_any B s (clR s).2 L3 w10 hs' htp9 (by omega) HR10.out).mono ?_
  rintro e w11 ⟨vp, rfl, hol, hr, hk⟩
  rw [HPR.out] at hr hol
  have HOP11 := Lib.hid hol
  have HOL11 := Lib.hid (HOL10.out.kept hk (by rintro b h1 h2 rfl; omega))
  clear hol
  have HR11 := Lib.hid hr
  have HB11 := Lib.hid (HB10.out.trans (hk.toBelow HB10.out.size (by rintro k h1 rfl; omega)))
  have KQ11 := Lib.hid (KQ10.out.kept hk (by show ¬ (w.heap.size = B); omega))
  have KC11 := Lib.hid (KC10.out.kept hk (by show ¬ (C = B); omega))
  have hz11 : w10.heap.size ≤ w11.heap.size := hk.size
  clear hr hk HR10 KQ10 KC10
  have htp11 : (prR s).2.p ≤ s.size := rdClauses_le _ _ htp9
  obtain ⟨ap, cp, rfl⟩ := HOP11.out.rd.shape
  obtain ⟨PR, hPR⟩ : ∃ L, L = (prR s).1 := ⟨_, rfl⟩
  rw [← hPR] at HOP11 ⊢
  have HPRE := Lib.hid hPR
  clear hPR
  have y0 : w11.cell? ⟨C, 0, none⟩ = some (.string NM) := KC11.out.cell 0 rfl
  have z0 := KC11.out.free 0
  have y1 : w11.cell? ⟨C, 1, none⟩ = some (.int .i64 lt) := KC11.out.cell 1 rfl
  have z1 := KC11.out.free 1
  have y2 : w11.cell? ⟨C, 2, none⟩ = some (.slice ac CL.length cc) := KC11.out.cell 2 rfl
  have z2 := KC11.out.free 2
  have y3 : w11.cell? ⟨C, 3, none⟩ = some (.slice none 0 0) := KC11.out.cell 3 rfl
  have z3 := KC11.out.free 3
  go_wp2_with fail
  clear y0 y1 y2 y3 z0 z1 z2 z3
  refine Calls.at fun w12 hW => ?_
  have HR12 := Lib.hid (show Rdr w12 B s _ by subst hW; exact HR11.out.other (by show B ≠ C; omega) _)
  have KC12 := Lib.hid (show Blk w12 C 33 _ by subst hW; exact KC11.out.set 3 _)
  have KQ12 := Lib.hid (show Blk w12 w.heap.size 33 _ by subst hW; exact KQ11.out.other (by show w.heap.size ≠ C; omega) _)
  have HB12 := Lib.hid (show Below w.heap.size w w12 by subst hW; exact HB11.out.setCell (by show _ ≤ C; omega) _)
  have hz12 : w11.heap.size ≤ w12.heap.size := by subst hW; simp [World.setCell]
  have hks12 := Lib.hid (show Kept (· = C) w11 w12 by subst hW; exact Kept.setCell (S := (· = C)) (p := ⟨C, 3, none⟩) (Kept.refl _ _) (.inr rfl) _)
  clear hW HR11 KQ11 KC11
  have HOL12 := Lib.hid (HOL11.out.kept hks12.out (by rintro b h1 h2 rfl; omega))
  have HOP12 := Lib.hid (HOP11.out.kept hks12.out (by rintro b h1 h2 rfl; omega))
  refine (rdSome_any B s (prR s).2 2 w12 hs' htp11 (by omega) HR12.out).mono ?_
  rintro e w13 ⟨rfl, hr, hk⟩
  have HT9 := Lib.hid (show (rdSome s 2 (prR s).2).2 = t9 s from rfl)
  rw [HT9.out] at hr
  have HOL13 := Lib.hid (HOL12.out.kept hk (by rintro b h1 h2 rfl; omega))
  have HOP13 := Lib.hid (HOP12.out.kept hk (by rintro b h1 h2 rfl; omega))
  have HR13 := Lib.hid hr
  have HB13 := Lib.hid (HB12.out.trans (hk.toBelow HB12.out.size (by rintro k h1 rfl; omega)))
  have KQ13 := Lib.hid (KQ12.out.kept hk (by show ¬ (w.heap.size = B); omega))
  have KC13 := Lib.hid (KC12.out.kept hk (by show ¬ (C = B); omega))
  have hz13 : w12.heap.size ≤ w13.heap.size := hk.size
  clear hr hk HR12 KQ12 KC12
  have htp13 : (t9 s).p ≤ s.size := rdSome_le 2 _ htp11
  have HIC := Lib.hid (show implC s = ⟨NM, ⟨lt, CL⟩, PR⟩ by unfold implC; rw [← HNS.out, ← HLT.out, ← HCLE.out, ← HPRE.out])
  have HRC := Lib.hid (show RdCs w13 (.agg #[.string NM, .int .i64 lt, .slice ac CL.length cc, .slice ap PR.length cp]) ⟨NM, ⟨lt, CL⟩, PR⟩ from ⟨_, _, rfl, ⟨_, rfl, HOL13.out.rd⟩, HOP13.out.rd, by rw [HNS.out, strOfNums_size]; have := rdSome_len s L1 (rdN s (t1 s)); rw [HNM.out] at this; unfold maxLen; omega⟩)
  obtain ⟨d, hd⟩ : ∃ d : CaseD, d = ⟨NM, ⟨lt, CL⟩, PR⟩ := ⟨_, rfl⟩
  rw [← hd] at HIC HRC
  have HDD := Lib.hid hd
  clear hd
  obtain ⟨P, hP⟩ : ∃ P, P = (t9 s).p := ⟨_, rfl⟩
  have HPP := Lib.hid hP
  rw [← hP] at htp13
  have b1 : w13.cell? ⟨B, 1, none⟩ = some (.int .i64 P) := by rw [hP]; exact HR13.out.cell 1 rfl
  clear hP
  have b2 : w13.cell? ⟨B, 2, none⟩ = some (.bool (t9 s).bad) := HR13.out.cell 2 rfl
  have y0 : w13.cell? ⟨C, 0, none⟩ = some (.string NM) := KC13.out.cell 0 rfl
  have y1 : w13.cell? ⟨C, 1, none⟩ = some (.int .i64 lt) := KC13.out.cell 1 rfl
  have y2 : w13.cell? ⟨C, 2, none⟩ = some (.slice ac CL.length cc) := KC13.out.cell 2 rfl
  have y3 : w13.cell? ⟨C, 3, none⟩ = some (.slice ap PR.length cp) := KC13.out.cell 3 rfl
  obtain ⟨q1, hq1⟩ : ∃ q, (t9 s).bad = q := ⟨_, rfl⟩
  rw [hq1] at b2
  have HQ1 := Lib.hid hq1
  clear hq1
  cases q1
  case true =>
    have HN := Lib.hid (HFAIL.out (by unfold accI; rw [if_neg (fun h => by have := h.2.1; rw [HQ1.out] at this; cases this)]))
    go_wp2_with fail
    refine wp_region_cls (fun X => X.cell? ⟨B, 1, none⟩ = some (.int .i64 P) ∧ X.cell? ⟨B, 2, none⟩ = some (.bool true) ∧ X.cell? ⟨C, 0, none⟩ = some (.string NM) ∧ X.cell? ⟨C, 1, none⟩ = some (.int .i64 lt) ∧ X.cell? ⟨C, 2, none⟩ = some (.slice ac CL.length cc) ∧ X.cell? ⟨C, 3, none⟩ = some (.slice ap PR.length cp) ∧ Hid (Below w13.heap.size w13 X)) (by kernel_rfl) (by kernel_rfl) (⟨b1, b2, y0, y1, y2, y3, (Below.refl _ _).drew⟩) ?_
    repeat (first
      | go_big_quiet_skip
      | (go_big_quiet_want
         apply Exists.intro
         refine ⟨fun X hX => ?_, ?_⟩
         · (try dsimp only at hX)
           go_simp
           (first | with_reducible rfl | done | (fail))
         go_big_quiet_on
         (try simp only [Act.put, List.setIfInBounds_toArray, List.set_cons_zero, List.set_cons_succ])))
    refine wpQuiet_nil ?_
    intro w14 hC
    (try dsimp only at hC)
    have HB14 := Lib.hid (HB13.out.trans (hC.2.2.2.2.2.2.out.mono HB13.out.size))
    have KQ14 := Lib.hid (KQ13.out.below hC.2.2.2.2.2.2.out KQ13.out.lt)
    clear hC b1 b2 y0 y1 y2 y3
    have e0 : w14.cell? ⟨w.heap.size, 0, none⟩ = some (.string ⟨#[]⟩) := KQ14.out.cell 0 rfl
    have g0 := KQ14.out.free 0
    have e1 : w14.cell? ⟨w.heap.size, 1, none⟩ = some (.int .i64 0) := KQ14.out.cell 1 rfl
    have g1 := KQ14.out.free 1
    have e2 : w14.cell? ⟨w.heap.size, 2, none⟩ = some (.slice none 0 0) := KQ14.out.cell 2 rfl
    have g2 := KQ14.out.free 2
    have e3 : w14.cell? ⟨w.heap.size, 3, none⟩ = some (.slice none 0 0) := KQ14.out.cell 3 rfl
    have g3 := KQ14.out.free 3
    go_wp2_with fail
    refine bodyPost_ret (v := .tuple #[.agg #[.string ⟨#[]⟩, .int .i64 0, .slice none 0 0, .slice none 0 0], .int .i64 0, .bool false]) (by simp [results, Try.results54, go_sem, *]) rfl ?_
    refine ⟨_, by rw [HN.out.1, HN.out.2.1]; rfl, by rw [HN.out.2.2]; exact ownCs_zero (by have := HB14.out.size; simp; omega) (by have := HB14.out.size; simp; omega), ?_⟩
    repeat' first | exact HB14.out | refine Below.setCell ?_ (by exact Nat.le_refl _) _
  obtain ⟨q2, hq2⟩ : ∃ q, caseB d = q := ⟨_, rfl⟩
  have HV := Lib.hid hq2
  clear hq2
  cases q2
  case false =>
    have HN := Lib.hid (HFAIL.out (by unfold accI; rw [if_neg (fun h => by have := h.2.2.1; rw [HIC.out, HV.out] at this; cases this)]))
    go_wp2_with fail
    refine wp_region_cls (fun X => X.cell? ⟨B, 1, none⟩ = some (.int .i64 P) ∧ X.cell? ⟨B, 2, none⟩ = some (.bool false) ∧ X.cell? ⟨C, 0, none⟩ = some (.string NM) ∧ X.cell? ⟨C, 1, none⟩ = some (.int .i64 lt) ∧ X.cell? ⟨C, 2, none⟩ = some (.slice ac CL.length cc) ∧ X.cell? ⟨C, 3, none⟩ = some (.slice ap PR.length cp) ∧ Hid (Below w13.heap.size w13 X)) (by kernel_rfl) (by kernel_rfl) (⟨b1, b2, y0, y1, y2, y3, (Below.refl _ _).drew⟩) ?_
    repeat (first
      | go_big_quiet_skip
      | (go_big_quiet_want
         apply Exists.intro
         refine ⟨fun X hX => ?_, ?_⟩
         · (try dsimp only at hX)
           go_simp
           (first | with_reducible rfl | done | (have hcur := hX.2.2.2.2.2.2; first | (go_at_call 13; refine (implValidCase_any _ d _ (HRC.out.up hcur.out (Nat.le_refl _))).mono ?_; rintro e w1 ⟨rfl, hb1⟩; rw [HV.out]; have hbn := hcur.out.trans (hb1.mono hcur.out.size); exact ⟨rfl, held_of hbn b1 (Nat.le_refl _), held_of hbn b2 (Nat.le_refl _), held_of hbn y0 (Nat.le_refl _), held_of hbn y1 (Nat.le_refl _), held_of hbn y2 (Nat.le_refl _), held_of hbn y3 (Nat.le_refl _), hbn⟩)))
         go_big_quiet_on
         (try simp only [Act.put, List.setIfInBounds_toArray, List.set_cons_zero, List.set_cons_succ])))
    refine wpQuiet_nil ?_
    intro w14 hC
    (try dsimp only at hC)
    have HB14 := Lib.hid (HB13.out.trans (hC.2.2.2.2.2.2.out.mono HB13.out.size))
    have KQ14 := Lib.hid (KQ13.out.below hC.2.2.2.2.2.2.out KQ13.out.lt)
    clear hC b1 b2 y0 y1 y2 y3
    have e0 : w14.cell? ⟨w.heap.size, 0, none⟩ = some (.string ⟨#[]⟩) := KQ14.out.cell 0 rfl
    have g0 := KQ14.out.free 0
    have e1 : w14.cell? ⟨w.heap.size, 1, none⟩ = some (.int .i64 0) := KQ14.out.cell 1 rfl
    have g1 := KQ14.out.free 1
    have e2 : w14.cell? ⟨w.heap.size, 2, none⟩ = some (.slice none 0 0) := KQ14.out.cell 2 rfl
    have g2 := KQ14.out.free 2
    have e3 : w14.cell? ⟨w.heap.size, 3, none⟩ = some (.slice none 0 0) := KQ14.out.cell 3 rfl
    have g3 := KQ14.out.free 3
    go_wp2_with fail
    refine bodyPost_ret (v := .tuple #[.agg #[.string ⟨#[]⟩, .int .i64 0, .slice none 0 0, .slice none 0 0], .int .i64 0, .bool false]) (by simp [results, Try.results54, go_sem, *]) rfl ?_
    refine ⟨_, by rw [HN.out.1, HN.out.2.1]; rfl, by rw [HN.out.2.2]; exact ownCs_zero (by have := HB14.out.size; simp; omega) (by have := HB14.out.size; simp; omega), ?_⟩
    repeat' first | exact HB14.out | refine Below.setCell ?_ (by exact Nat.le_refl _) _
  by_cases heq : storeS d = preS s P
  case neg =>
    have HN := Lib.hid (HFAIL.out (by unfold accI; rw [if_neg (fun h => by have := h.2.2.2; rw [HIC.out, ← HPP.out] at this; exact heq this)]))
    have hne := str_ne (show storeS d ≠ s.extract 0 P by rw [extract_pre]; exact heq)
    clear heq
    go_wp2_with fail
    refine wp_region_cls (fun X => X.cell? ⟨B, 1, none⟩ = some (.int .i64 P) ∧ X.cell? ⟨B, 2, none⟩ = some (.bool false) ∧ X.cell? ⟨C, 0, none⟩ = some (.string NM) ∧ X.cell? ⟨C, 1, none⟩ = some (.int .i64 lt) ∧ X.cell? ⟨C, 2, none⟩ = some (.slice ac CL.length cc) ∧ X.cell? ⟨C, 3, none⟩ = some (.slice ap PR.length cp) ∧ Hid (Below w13.heap.size w13 X)) (by kernel_rfl) (by kernel_rfl) (⟨b1, b2, y0, y1, y2, y3, (Below.refl _ _).drew⟩) ?_
    repeat (first
      | go_big_quiet_skip
      | (go_big_quiet_want
         apply Exists.intro
         refine ⟨fun X hX => ?_, ?_⟩
         · (try dsimp only at hX)
           go_simp
           (first | with_reducible rfl | done | (have hcur := hX.2.2.2.2.2.2; first | (go_at_call 13; refine (implValidCase_any _ d _ (HRC.out.up hcur.out (Nat.le_refl _))).mono ?_; rintro e w1 ⟨rfl, hb1⟩; rw [HV.out]; have hbn := hcur.out.trans (hb1.mono hcur.out.size); exact ⟨rfl, held_of hbn b1 (Nat.le_refl _), held_of hbn b2 (Nat.le_refl _), held_of hbn y0 (Nat.le_refl _), held_of hbn y1 (Nat.le_refl _), held_of hbn y2 (Nat.le_refl _), held_of hbn y3 (Nat.le_refl _), hbn⟩) | (go_at_call 53; refine (storeCase_any _ d _ (HRC.out.up hcur.out (Nat.le_refl _)) HV.out).mono ?_; rintro e w1 ⟨rfl, hb1⟩; have hbn := hcur.out.trans (hb1.mono hcur.out.size); exact ⟨rfl, held_of hbn b1 (Nat.le_refl _), held_of hbn b2 (Nat.le_refl _), held_of hbn y0 (Nat.le_refl _), held_of hbn y1 (Nat.le_refl _), held_of hbn y2 (Nat.le_refl _), held_of hbn y3 (Nat.le_refl _), hbn⟩)))
         go_big_quiet_on
         (try simp only [Act.put, List.setIfInBounds_toArray, List.set_cons_zero, List.set_cons_succ])))
    refine wpQuiet_nil ?_
    intro w14 hC
    (try dsimp only at hC)
    have HB14 := Lib.hid (HB13.out.trans (hC.2.2.2.2.2.2.out.mono HB13.out.size))
    have KQ14 := Lib.hid (KQ13.out.below hC.2.2.2.2.2.2.out KQ13.out.lt)
    clear hC b1 b2 y0 y1 y2 y3 hne
    have e0 : w14.cell? ⟨w.heap.size, 0, none⟩ = some (.string ⟨#[]⟩) := KQ14.out.cell 0 rfl
    have g0 := KQ14.out.free 0
    have e1 : w14.cell? ⟨w.heap.size, 1, none⟩ = some (.int .i64 0) := KQ14.out.cell 1 rfl
    have g1 := KQ14.out.free 1
    have e2 : w14.cell? ⟨w.heap.size, 2, none⟩ = some (.slice none 0 0) := KQ14.out.cell 2 rfl
    have g2 := KQ14.out.free 2
    have e3 : w14.cell? ⟨w.heap.size, 3, none⟩ = some (.slice none 0 0) := KQ14.out.cell 3 rfl
    have g3 := KQ14.out.free 3
    go_wp2_with fail
    refine bodyPost_ret (v := .tuple #[.agg #[.string ⟨#[]⟩, .int .i64 0, .slice none 0 0, .slice none 0 0], .int .i64 0, .bool false]) (by simp [results, Try.results54, go_sem, *]) rfl ?_
    refine ⟨_, by rw [HN.out.1, HN.out.2.1]; rfl, by rw [HN.out.2.2]; exact ownCs_zero (by have := HB14.out.size; simp; omega) (by have := HB14.out.size; simp; omega), ?_⟩
    repeat' first | exact HB14.out | refine Below.setCell ?_ (by exact Nat.le_refl _) _
  have HEQ := Lib.hid (show storeS d = s.extract 0 P by rw [extract_pre]; exact heq)
  have HN := Lib.hid (HYES.out (d, P) (by
    unfold accI
    rw [HIC.out, ← HPP.out, if_pos ⟨hcas, HQ1.out, HV.out, heq⟩]))
  clear heq
  go_wp2_with fail
  refine wp_region_cls (fun X => X.cell? ⟨B, 1, none⟩ = some (.int .i64 P) ∧ X.cell? ⟨B, 2, none⟩ = some (.bool false) ∧ X.cell? ⟨C, 0, none⟩ = some (.string NM) ∧ X.cell? ⟨C, 1, none⟩ = some (.int .i64 lt) ∧ X.cell? ⟨C, 2, none⟩ = some (.slice ac CL.length cc) ∧ X.cell? ⟨C, 3, none⟩ = some (.slice ap PR.length cp) ∧ Hid (Below w13.heap.size w13 X)) (by kernel_rfl) (by kernel_rfl) (⟨b1, b2, y0, y1, y2, y3, (Below.refl _ _).drew⟩) ?_
  repeat (first
    | go_big_quiet_skip
    | (go_big_quiet_want
       apply Exists.intro
       refine ⟨fun X hX => ?_, ?_⟩
       · (try dsimp only at hX)
         go_simp
         (first | with_reducible rfl | done | (have hcur := hX.2.2.2.2.2.2; first | (go_at_call 13; refine (implValidCase_any _ d _ (HRC.out.up hcur.out (Nat.le_refl _))).mono ?_; rintro e w1 ⟨rfl, hb1⟩; rw [HV.out]; have hbn := hcur.out.trans (hb1.mono hcur.out.size); exact ⟨rfl, held_of hbn b1 (Nat.le_refl _), held_of hbn b2 (Nat.le_refl _), held_of hbn y0 (Nat.le_refl _), held_of hbn y1 (Nat.le_refl _), held_of hbn y2 (Nat.le_refl _), held_of hbn y3 (Nat.le_refl _), hbn⟩) | (go_at_call 53; refine (storeCase_any _ d _ (HRC.out.up hcur.out (Nat.le_refl _)) HV.out).mono ?_; rintro e w1 ⟨rfl, hb1⟩; rw [HEQ.out]; have hbn := hcur.out.trans (hb1.mono hcur.out.size); exact ⟨rfl, held_of hbn b1 (Nat.le_refl _), held_of hbn b2 (Nat.le_refl _), held_of hbn y0 (Nat.le_refl _), held_of hbn y1 (Nat.le_refl _), held_of hbn y2 (Nat.le_refl _), held_of hbn y3 (Nat.le_refl _), hbn⟩)))
       go_big_quiet_on
       (try simp only [Act.put, List.setIfInBounds_toArray, List.set_cons_zero, List.set_cons_succ])))
  refine wpQuiet_nil ?_
  intro w14 hC
  (try dsimp only at hC)
  have HB14 := Lib.hid (HB13.out.trans (hC.2.2.2.2.2.2.out.mono HB13.out.size))
  have KQ14 := Lib.hid (KQ13.out.below hC.2.2.2.2.2.2.out KQ13.out.lt)
  have KC14 := Lib.hid (KC13.out.below hC.2.2.2.2.2.2.out KC13.out.lt)
  have HR14 := Lib.hid (HR13.out.below hC.2.2.2.2.2.2.out HR13.out.lt)
  have HOL14 := Lib.hid (HOL13.out.up hC.2.2.2.2.2.2.out (Nat.le_refl _))
  have HOP14 := Lib.hid (HOP13.out.up hC.2.2.2.2.2.2.out (Nat.le_refl _))
  have hz14 := hC.2.2.2.2.2.2.out.size
  clear hC b1 b2 y0 y1 y2 y3
  have b1 : w14.cell? ⟨B, 1, none⟩ = some (.int .i64 P) := by rw [HPP.out]; exact HR14.out.cell 1 rfl
  have y0 : w14.cell? ⟨C, 0, none⟩ = some (.string NM) := KC14.out.cell 0 rfl
  have y1 : w14.cell? ⟨C, 1, none⟩ = some (.int .i64 lt) := KC14.out.cell 1 rfl
  have y2 : w14.cell? ⟨C, 2, none⟩ = some (.slice ac CL.length cc) := KC14.out.cell 2 rfl
  have y3 : w14.cell? ⟨C, 3, none⟩ = some (.slice ap PR.length cp) := KC14.out.cell 3 rfl
  have e0 : w14.cell? ⟨w.heap.size, 0, none⟩ = some (.string ⟨#[]⟩) := KQ14.out.cell 0 rfl
  have g0 := KQ14.out.free 0
  have e1 : w14.cell? ⟨w.heap.size, 1, none⟩ = some (.int .i64 0) := KQ14.out.cell 1 rfl
  have g1 := KQ14.out.free 1
  have e2 : w14.cell? ⟨w.heap.size, 2, none⟩ = some (.slice none 0 0) := KQ14.out.cell 2 rfl
  have g2 := KQ14.out.free 2
  have e3 : w14.cell? ⟨w.heap.size, 3, none⟩ = some (.slice none 0 0) := KQ14.out.cell 3 rfl
  have g3 := KQ14.out.free 3
  have FIN := Lib.hid (show ∀ Wf, Kept (· = w.heap.size) w14 Wf → ∃ v', Ending.returned (.tuple #[.agg #[.string NM, .int .i64 lt, .slice ac CL.length cc, .slice ap PR.length cp], .int .i64 P, .bool true]) = .returned (.tuple #[v', .int .i64 (rcN s), .bool (rcOk s)]) ∧ OwnCs w.heap.size Wf.heap.size Wf v' (rcC s) ∧ Below w.heap.size w Wf from fun Wf hK => by
    have hzf := hK.size
    have ho1 := HOL14.out.kept hK (by rintro b h1 h2 rfl; omega)
    have ho2 := HOP14.out.kept hK (by rintro b h1 h2 rfl; omega)
    have hp := HRC.out.parts.2.2
    rw [HDD.out] at hp
    refine ⟨_, by rw [HN.out.1, HN.out.2.1], ?_, HB14.out.trans (hK.toBelow HB14.out.size (by rintro k h1 rfl; omega))⟩
    rw [HN.out.2.2, HDD.out]
    exact ⟨_, _, w8.heap.size, w9.heap.size, w10.heap.size, w11.heap.size, rfl, ⟨_, w8.heap.size, w9.heap.size, rfl, ho1, Nat.le_refl _, by omega, Nat.le_refl _, by omega⟩, ho2, hp, by omega, by omega, by omega, by omega, by omega, by omega⟩)
  go_wp2_with fail
  go_region_with (fail)
  all_goals
    go_wp2_with fail
    refine bodyPost_ret (v := .tuple #[.agg #[.string NM, .int .i64 lt, .slice ac CL.length cc, .slice ap PR.length cp], .int .i64 P, .bool true]) (by simp [results, Try.results54, go_sem, *]) rfl ?_
    refine FIN.out _ ?_
    repeat' first | exact Kept.refl _ _ | exact (Kept.refl _ _).drew | refine Kept.setCell ?_ (.inr (by simp)) _ | refine Kept.drew ?_

end Go.Proofs.Ytkkcgclliomocaa

namespace Go.Proofs.Ytkkcgclliomocaa
open Go.RowKit

noncomputable def ldB (s : ByteArray) : Bool := rcOk s && decide (rcN s = s.size)
noncomputable def ldC (s : ByteArray) : CaseD := if ldB s = true then rcC s else ICL
theorem specP_pos {s : ByteArray} {r : CaseD × Nat} (h : specP s = some r) : 2 ≤ r.2 := by
  unfold specP at h
  split at h
  · cases h1 : clsAt s (byteAt s (5 + (byteAt s 4).toNat + 1)).toNat (5 + (byteAt s 4).toNat + 3) with
    | none => rw [h1] at h; cases h
    | some u =>
      rw [h1] at h
      simp only [Option.bind_some] at h
      cases h2 : clsAt s (byteAt s (5 + (byteAt s 4).toNat + 2)).toNat u.2 with
      | none => rw [h2] at h; cases h
      | some q =>
        rw [h2] at h
        simp only [Option.bind_some] at h
        split at h
        · simp only [Option.some.injEq] at h; subst h; exact Nat.le_add_left _ _
        · cases h
  · cases h
theorem accP_parts {s : ByteArray} {r : CaseD × Nat} (h : accP s = some r) : specP s = some r ∧ caseB r.1 = true ∧ storeS r.1 = preS s r.2 := by
  unfold accP at h
  cases h1 : specP s with
  | none => rw [h1] at h; cases h
  | some u =>
    rw [h1] at h
    simp only [Option.bind_some] at h
    split at h
    · next hh => simp only [Option.some.injEq] at h; subst h; exact ⟨rfl, hh⟩
    · cases h
theorem rcOk_iff (s : ByteArray) : rcOk s = decide (rcN s ≠ 0) := by
  unfold rcOk rcN
  cases h : accP s with
  | none => rfl
  | some r =>
    have := specP_pos (accP_parts h).1
    simp only [Option.isSome_some]
    exact (decide_eq_true (by omega)).symm
theorem specP_le {s : ByteArray} {r : CaseD × Nat} (h : specP s = some r) : r.2 ≤ s.size := by
  unfold specP at h
  split at h
  · cases h1 : clsAt s (byteAt s (5 + (byteAt s 4).toNat + 1)).toNat (5 + (byteAt s 4).toNat + 3) with
    | none => rw [h1] at h; cases h
    | some u =>
      rw [h1] at h
      simp only [Option.bind_some] at h
      cases h2 : clsAt s (byteAt s (5 + (byteAt s 4).toNat + 2)).toNat u.2 with
      | none => rw [h2] at h; cases h
      | some q =>
        rw [h2] at h
        simp only [Option.bind_some] at h
        split at h
        · next hh => simp only [Option.some.injEq] at h; subst h; exact hh
        · cases h
  · cases h
theorem rcN_le (s : ByteArray) : rcN s ≤ s.size := by
  unfold rcN
  cases h : accP s with
  | none => exact Nat.zero_le _
  | some r => exact specP_le (accP_parts h).1

theorem cntL_cl {n : Int} : ∀ (L : List (List Int)), (∀ c ∈ L, clauseB n c = true) → cntL L ≤ 10 * L.length
  | [], _ => Nat.zero_le _
  | c :: r, h => by
    have h1 := clause_len (h c (List.mem_cons_self ..))
    have h2 := cntL_cl r (fun x hx => h x (List.mem_cons_of_mem _ hx))
    unfold cntL at *
    simp only [lsum, List.length_cons]
    omega
theorem cntCs_case {d : CaseD} (h : caseB d = true) : cntL d.form.clauses + cntL d.proof ≤ 1760 := by
  obtain ⟨_, h1, h2, h3, _⟩ := case_parts h
  have a := cntL_cl d.form.clauses (fun c hc => h3 c (List.mem_append_left _ hc))
  have b := cntL_cl d.proof (fun c hc => h3 c (List.mem_append_right _ hc))
  omega
theorem rcC_cnt (s : ByteArray) : cntL (rcC s).form.clauses + cntL (rcC s).proof ≤ 1760 := by
  unfold rcC
  cases h : accP s with
  | none => decide
  | some r => exact cntCs_case (accP_parts h).2.1
theorem ldC_cnt (s : ByteArray) : cntCs (ldC s) ≤ 1760 := by
  unfold cntCs cntFm ldC
  split
  · exact rcC_cnt s
  · decide

set_option maxHeartbeats 2000000 in
set_option maxRecDepth 4000 in
theorem implLoad_any (s : ByteArray) (w : World) (hs : s.size ≤ 1048576) :
    Calls Try.prog 12 #[.string s] w fun e w' => ∃ v', e = .returned (.tuple #[v', .bool (ldB s)]) ∧ OwnCs w.heap.size w'.heap.size w' v' (ldC s) ∧ Below w.heap.size w w' := by
  have HS := Lib.hid hs
  clear hs
  go_enter Try.func12, Try.ntmps12
  go_wp2_with fail
  refine Calls.at fun W0 hW0 => ?_
  have HB0 := Lib.hid (show Below w.heap.size w W0 by subst hW0; (repeat' first | exact Below.refl _ _ | assumption | refine Below.alloc ?_ ?_ _ | refine Below.setCell ?_ ?_ _ | refine Below.drew ?_ | (simp; done) | (simp; omega)))
  have KQ0 := Lib.hid (show Blk W0 w.heap.size 33 #[.string ⟨#[]⟩, .int .i64 0, .slice none 0 0, .slice none 0 0] by subst hW0; exact Blk.new w 33 #[.string ⟨#[]⟩, .int .i64 0, .slice none 0 0, .slice none 0 0])
  have hz0 : w.heap.size < W0.heap.size := KQ0.out.lt
  clear hW0
  refine (readCase_any s W0 HS.out).mono ?_
  rintro e w1 ⟨v', rfl, ho, hb⟩
  obtain ⟨a1, c1, a2, c2, rfl⟩ := ho.rd.shape
  have HO := Lib.hid ho
  have HB := Lib.hid (HB0.out.trans (hb.mono (Nat.le_of_lt hz0)))
  have KQ := Lib.hid (KQ0.out.below hb hz0)
  have hzw := HB.out.size
  have hw1 : w.heap.size < w1.heap.size := KQ.out.lt
  have hz01 : W0.heap.size ≤ w1.heap.size := hb.size
  obtain ⟨ok, hok⟩ : ∃ ok, ok = rcOk s := ⟨_, rfl⟩
  obtain ⟨n, hn⟩ : ∃ n, n = rcN s := ⟨_, rfl⟩
  have hnle : n ≤ 1048576 := by rw [hn]; exact Nat.le_trans (rcN_le s) HS.out
  obtain ⟨N, hN⟩ : ∃ N, N = s.size := ⟨_, rfl⟩
  have HOK := Lib.hid (show ldB s = (ok && decide (n = N)) by unfold ldB; rw [hok, hn, hN])
  rw [← hok, ← hn]
  obtain ⟨d, hd⟩ : ∃ d, d = rcC s := ⟨_, rfl⟩
  rw [← hd] at HO ⊢
  have HD := Lib.hid (show ldC s = if ldB s = true then d else ICL by unfold ldC; rw [hd])
  have HNN := Lib.hid hN
  clear hb ho hok hn hd hN
  go_upto_region 2 with fail
  refine wp_at fun W2 hW2 => ?_
  have HK2 := Lib.hid (show Blk W2 w1.heap.size 33 #[.string d.name, .int .i64 d.form.letters, .slice a1 d.form.clauses.length c1, .slice a2 d.proof.length c2] by
    subst hW2; first | exact Blk.new _ _ _ | simpa using ((((Blk.new w1 33 #[.string ⟨#[]⟩, .int .i64 0, .slice none 0 0, .slice none 0 0]).set 0 (.string d.name)).set 1 (.int .i64 d.form.letters)).set 2 (.slice a1 d.form.clauses.length c1)).set 3 (.slice a2 d.proof.length c2))
  have hb2 := Lib.hid (show Below w1.heap.size w1 W2 by subst hW2; first | (repeat' first | exact Below.refl _ _ | assumption | refine Below.alloc ?_ ?_ _ | refine Below.setCell ?_ ?_ _ | refine Below.drew ?_ | (simp; done) | (simp; omega)) | (repeat' first | exact Below.refl _ _ | refine Below.setCell ?_ (by exact Nat.le_refl _) _ | refine Below.alloc ?_ (Nat.le_refl _) _))
  clear hW2
  have HO2 := Lib.hid (HO.out.up hb2.out (Nat.le_refl _))
  have HB2 := Lib.hid (HB.out.trans (hb2.out.mono hzw))
  have KQ2 := Lib.hid (KQ.out.below hb2.out hw1)
  have hz2 := hb2.out.size
  have e0 : W2.cell? ⟨w.heap.size, 0, none⟩ = some (.string ⟨#[]⟩) := KQ2.out.cell 0 rfl
  have g0 := KQ2.out.free 0
  have e1 : W2.cell? ⟨w.heap.size, 1, none⟩ = some (.int .i64 0) := KQ2.out.cell 1 rfl
  have g1 := KQ2.out.free 1
  have e2 : W2.cell? ⟨w.heap.size, 2, none⟩ = some (.slice none 0 0) := KQ2.out.cell 2 rfl
  have g2 := KQ2.out.free 2
  have e3 : W2.cell? ⟨w.heap.size, 3, none⟩ = some (.slice none 0 0) := KQ2.out.cell 3 rfl
  have g3 := KQ2.out.free 3
  have y0 : W2.cell? ⟨w1.heap.size, 0, none⟩ = some (.string d.name) := HK2.out.cell 0 rfl
  have y1 : W2.cell? ⟨w1.heap.size, 1, none⟩ = some (.int .i64 d.form.letters) := HK2.out.cell 1 rfl
  have y2 : W2.cell? ⟨w1.heap.size, 2, none⟩ = some (.slice a1 d.form.clauses.length c1) := HK2.out.cell 2 rfl
  have y3 : W2.cell? ⟨w1.heap.size, 3, none⟩ = some (.slice a2 d.proof.length c2) := HK2.out.cell 3 rfl
  have FNO := Lib.hid (show ldB s = false → ∀ Wf, Kept (· = w.heap.size) W2 Wf → ∃ v', Ending.returned (.tuple #[.agg #[.string ⟨#[]⟩, .int .i64 0, .slice none 0 0, .slice none 0 0], .bool false]) = .returned (.tuple #[v', .bool (ldB s)]) ∧ OwnCs w.heap.size Wf.heap.size Wf v' (ldC s) ∧ Below w.heap.size w Wf from fun hf Wf hK => by
    have hzf := hK.size
    refine ⟨_, by rw [hf], ?_, HB2.out.trans (hK.toBelow HB2.out.size (by rintro k h1 rfl; omega))⟩
    rw [HD.out, hf, if_neg (by decide)]
    exact ownCs_zero (by omega) (by omega))
  have FYES := Lib.hid (show ldB s = true → ∀ Wf, Kept (· = w.heap.size) W2 Wf → ∃ v', Ending.returned (.tuple #[.agg #[.string d.name, .int .i64 d.form.letters, .slice a1 d.form.clauses.length c1, .slice a2 d.proof.length c2], .bool true]) = .returned (.tuple #[v', .bool (ldB s)]) ∧ OwnCs w.heap.size Wf.heap.size Wf v' (ldC s) ∧ Below w.heap.size w Wf from fun hf Wf hK => by
    have hzf := hK.size
    refine ⟨_, by rw [hf], ?_, HB2.out.trans (hK.toBelow HB2.out.size (by rintro k h1 rfl; omega))⟩
    rw [HD.out, hf, if_pos rfl]
    exact (HO2.out.kept hK (by rintro b h1 h2 rfl; omega)).wide (by omega) (by omega))
  clear HO HB KQ hzw hz0
  rw [HOK.out] at FNO FYES
  have hNI : s.size = N := HNN.out.symm
  by_cases hok : ok = true
  case neg =>
    obtain rfl : ok = false := by simpa using hok
    have F := Lib.hid (FNO.out rfl)
    clear FNO FYES hok
    go_wp2_with fail
    refine bodyPost_ret (v := .tuple #[.agg #[.string ⟨#[]⟩, .int .i64 0, .slice none 0 0, .slice none 0 0], .bool false]) (by simp [results, Try.results12, go_sem, *]) rfl ?_
    rw [HOK.out]
    refine F.out _ ?_
    repeat' first | exact Kept.refl _ _ | refine Kept.setCell ?_ (.inr (by simp)) _
  subst hok
  by_cases hnn : n = N
  case neg =>
    have F := Lib.hid (FNO.out (by rw [decide_eq_false hnn]; rfl))
    have hne : ((n : Int) != (N : Int)) = true := by simp; omega
    have HNE := Lib.hid hnn
    clear FNO FYES hnn
    go_wp2_with fail
    refine bodyPost_ret (v := .tuple #[.agg #[.string ⟨#[]⟩, .int .i64 0, .slice none 0 0, .slice none 0 0], .bool false]) (by simp [results, Try.results12, go_sem, *]) rfl ?_
    rw [HOK.out]
    refine F.out _ ?_
    repeat' first | exact Kept.refl _ _ | refine Kept.setCell ?_ (.inr (by simp)) _
  have F := Lib.hid (FYES.out (by rw [decide_eq_true hnn]; rfl))
  have hne : ((n : Int) != (N : Int)) = false := by simp; omega
  have HNE := Lib.hid hnn
  clear FNO FYES hnn
  go_wp2_with fail
  refine bodyPost_ret (v := .tuple #[.agg #[.string d.name, .int .i64 d.form.letters, .slice a1 d.form.clauses.length c1, .slice a2 d.proof.length c2], .bool true]) (by simp [results, Try.results12, go_sem, *]) rfl ?_
  rw [HOK.out]
  refine F.out _ ?_
  repeat' first | exact Kept.refl _ _ | refine Kept.setCell ?_ (.inr (by simp)) _

end Go.Proofs.Ytkkcgclliomocaa
