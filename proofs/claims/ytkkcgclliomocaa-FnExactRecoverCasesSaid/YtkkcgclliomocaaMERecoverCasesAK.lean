/-
  FnExactRecoverCases: texts joined: RecS, LFnExactRecoverCases, OpenI.
-/
import Derived.Deep.RegionHeld3
import Derived.Deep.Cut
import Derived.ProofKit
import Derived.OpenShut
import Derived.Test.YtkkcgclliomocaaMERecoverCasesAA
import Derived.Test.YtkkcgclliomocaaMERecoverCasesAI
import Derived.Test.YtkkcgclliomocaaMERecoverCasesAJ
namespace Go.Proofs.Ytkkcgclliomocaa
open Go.RowKit

set_option maxHeartbeats 4000000 in
set_option maxRecDepth 8000 in
theorem specRec_any (s : ByteArray) (w : World) (hs : s.size ≤ 1048576) :
    Calls Try.prog 22 #[.string s] w fun e w' => ∃ v', e = .returned (.tuple #[v', .int .i64 (recP s), .bool true]) ∧ OwnCL w.heap.size w'.heap.size w' v' (recC s) ∧ Below w.heap.size w w' := by
  go_enter Try.func22, Try.ntmps22
  go_wp2_with fail
  go_loopw [5, 6] (fun ov av wr => ∃ (k p : Nat) (rows : List RowCL) (a : Option Addr) (cap : Nat), ov = .slice a k cap ∧ av = .int .i64 p ∧ k ≤ 8 ∧ rows.length = k ∧ p ≤ s.size ∧ Hid (recL s 8 0 = (rows.map (·.d) ++ (recL s (8 - k) p).1, (recL s (8 - k) p).2)) ∧ Hid (wr.ownsRow w.heap.size 33 4 (.slice a k cap) k (rows.flatMap cellsCL)) ∧ Hid (∀ g, (Value.slice a k cap).ownBlock = some g → g < wr.heap.size ∧ ∀ (i : Nat) (r : RowCL), rows[i]? = some r → ¬ (r.l ≤ g ∧ g < r.h)) ∧ Hid (OwnECL w.heap.size wr.heap.size wr rows) ∧ Hid (Below w.heap.size w wr)) (fun ov _ _ => 8 - (match ov with | .slice _ n _ => n | _ => 0))
  case atStart =>
    have h0 := World.ownsRow_lit (base := w.heap.size) (e := 33) (size := 4) w #[] 0 (Nat.le_refl _) (by simp [maxLen]) rfl
    refine ⟨0, 0, [], some ⟨w.heap.size, 0, none⟩, 0, rfl, rfl, by omega, rfl, Nat.zero_le _, rfl, Lib.hid h0, Lib.hid ?_, ⟨by intro i r h; simp at h, by intro i j r s _ h; simp at h⟩, (Below.refl _ _).alloc (Nat.le_refl _) _⟩
    intro g hg
    exact ⟨(h0.lt g hg).2, by intro i r h; simp at h⟩
  case round =>
    obtain ⟨k, p, rows, a, cap, rfl, rfl, hk, hlen, hp, HEQ, HO, HBK, HE, HB⟩ := hrel
    have hz := HB.out.size
    have HEND := Lib.hid (show recL s (8 - k) p = ([], p) → ∀ Wf, Below wr.heap.size wr Wf → ∃ v', Ending.returned (.tuple #[.slice a k cap, .int .i64 (p : Int), .bool true]) = Ending.returned (.tuple #[v', .int .i64 (recP s), .bool true]) ∧ OwnCL w.heap.size Wf.heap.size Wf v' (recC s) ∧ Below w.heap.size w Wf from fun hr Wf hbf => by
      have he := HEQ.out
      rw [hr, List.append_nil] at he
      unfold recP recC
      rw [he]
      refine ⟨_, rfl, ⟨rows, rfl, ?_, ?_, ?_⟩, HB.out.trans (hbf.mono hz)⟩
      · rw [show (rows.map (·.d)).length = k by rw [List.length_map, hlen]]
        exact ownsK_below HO.out hbf (Nat.le_refl _)
      · exact fun g hg => ⟨Nat.lt_of_lt_of_le (HBK.out g hg).1 hbf.size, (HBK.out g hg).2⟩
      · exact (HE.out.up hbf (Nat.le_refl _)).wide (Nat.le_refl _) hbf.size)
    by_cases hlt : k < 8
    · have hkI : (k : Int) < 8 := by omega
      have hpI : (p : Int) ≤ (s.size : Int) := by omega
      obtain ⟨t, ht⟩ : ∃ t, t = s.extract p s.size := ⟨_, rfl⟩
      have hts : t.size ≤ s.size := by rw [ht]; simp
      have HT := Lib.hid (show tailS s p = t by rw [ht]; rfl)
      have HLEN := Lib.hid hlen
      have HTE := Lib.hid ht
      clear ht hlen
      go_wp2_with fail
      rw [← HTE.out]
      refine (l07Begin_any t wr (by omega)).mono ?_
      rintro e w1 ⟨v', rfl, ho, hb⟩
      obtain ⟨a1, c1, a2, c2, rfl⟩ := ho.rd.shape
      have hn := rcN_le t
      have HOK := Lib.hid (rcOk_iff t)
      have HPN := Lib.hid (show p + rcN t ≤ s.size by
        have h1 := congrArg ByteArray.size HTE.out
        rw [ByteArray.size_extract] at h1
        omega)
      obtain ⟨ok, hok⟩ : ∃ ok, rcOk t = ok := ⟨_, rfl⟩
      obtain ⟨n, hnn⟩ : ∃ n, n = rcN t := ⟨_, rfl⟩
      obtain ⟨d, hd⟩ : ∃ d, d = rcC t := ⟨_, rfl⟩
      have HQ := Lib.hid hok
      have HD := Lib.hid hd
      have HNN := Lib.hid hnn
      rw [← hnn] at hn HPN HOK
      try rw [← hnn]
      try rw [hok]
      rw [hok] at HOK
      rw [← hd] at ho
      try rw [← hd]
      have HN1 := Lib.hid ho
      have hb1 := Lib.hid hb
      have hz1 := hb.size
      clear ho hb hok hd hnn
      cases ok
      · have HNO := Lib.hid (HEND.out (recL_no s _ p (by rw [HT.out]; exact HQ.out)))
        clear HEND
        obtain rfl : n = 0 := by
          have := HOK.out
          simpa using this
        go_wp2_with fail
        go_ret3
        refine HNO.out _ ?_
        repeat' first | exact hb1.out | refine Below.setCell ?_ (by exact hz1) _ | refine Below.alloc ?_ hz1 _
      obtain ⟨m, hm⟩ : ∃ m, 8 - k = m + 1 := ⟨7 - k, by omega⟩
      have HREC := Lib.hid (show recL s 8 0 = ((rows ++ [(⟨d, .slice a1 d.form.clauses.length c1, .slice a2 d.proof.length c2, wr.heap.size, w1.heap.size⟩ : RowCL)]).map (·.d) ++ (recL s (8 - (k + 1)) (p + n)).1, (recL s (8 - (k + 1)) (p + n)).2) by
        have he := HEQ.out
        have hg := recL_go s m p (by rw [HT.out]; exact HQ.out)
        rw [HT.out, ← HNN.out, ← HD.out] at hg
        rw [hm, hg] at he
        rw [he, show 8 - (k + 1) = m by omega, List.map_append, List.append_assoc]
        rfl)
      clear HEND HEQ hm
      have hn0 : ¬ n = 0 := by
        have := HOK.out
        simpa using this
      have hn0' : ((n : Int) == 0) = false := by simp; omega
      have hnI : ¬ (n : Int) = 0 := by omega
      go_upto_region 6 with fail
      refine wp_at fun W2 hW2 => ?_
      have HK2 := Lib.hid (show Blk W2 w1.heap.size 33 #[.string d.name, .int .i64 d.form.letters, .slice a1 d.form.clauses.length c1, .slice a2 d.proof.length c2] by
        subst hW2; first | exact Blk.new _ _ _ | simpa using ((((Blk.new w1 33 #[.string ⟨#[]⟩, .int .i64 0, .slice none 0 0, .slice none 0 0]).set 0 (.string d.name)).set 1 (.int .i64 d.form.letters)).set 2 (.slice a1 d.form.clauses.length c1)).set 3 (.slice a2 d.proof.length c2))
      have hb2 := Lib.hid (show Below w1.heap.size w1 W2 by subst hW2; first | (repeat' first | exact Below.refl _ _ | assumption | refine Below.alloc ?_ ?_ _ | refine Below.setCell ?_ ?_ _ | refine Below.drew ?_ | (simp; done) | (simp; omega)) | (repeat' first | exact Below.refl _ _ | refine Below.setCell ?_ (by exact Nat.le_refl _) _ | refine Below.alloc ?_ (Nat.le_refl _) _))
      clear hW2
      have y0 : W2.cell? ⟨w1.heap.size, 0, none⟩ = some (.string d.name) := HK2.out.cell 0 rfl
      have y1 : W2.cell? ⟨w1.heap.size, 1, none⟩ = some (.int .i64 d.form.letters) := HK2.out.cell 1 rfl
      have y2 : W2.cell? ⟨w1.heap.size, 2, none⟩ = some (.slice a1 d.form.clauses.length c1) := HK2.out.cell 2 rfl
      have y3 : W2.cell? ⟨w1.heap.size, 3, none⟩ = some (.slice a2 d.proof.length c2) := HK2.out.cell 3 rfl
      have hz2 := hb2.out.size
      have HB2 := Lib.hid (hb1.out.trans (hb2.out.mono hz1))
      have HO2 := Lib.hid (ownsK_below HO.out HB2.out (Nat.le_refl _))
      have HE2 := Lib.hid (HE.out.up HB2.out (Nat.le_refl _))
      have HN2 := Lib.hid (HN1.out.up hb2.out (Nat.le_refl _))
      clear HN1 HK2 HO HE
      go_wp2_with (at_builtin; refine app_CL rfl _ _ rfl w.heap.size (.slice a k cap) k rows rfl HO2.out ⟨d, .slice a1 d.form.clauses.length c1, .slice a2 d.proof.length c2, wr.heap.size, w1.heap.size⟩ _ rfl _ rfl rfl rfl rfl (k + 1) rfl (by omega) (by omega) ?_; intro a' cap' w4 hown4 hbl4 hkp4 hz4 hat4)
      go_roundw
      case rel =>
        refine ⟨k + 1, p + n, rows ++ [⟨d, .slice a1 d.form.clauses.length c1, .slice a2 d.proof.length c2, wr.heap.size, w1.heap.size⟩], a', cap', rfl, by go_num, by omega, by rw [List.length_append, HLEN.out]; rfl, HPN.out, HREC, Lib.hid hown4, Lib.hid ?_, Lib.hid ?_, Lib.hid (HB.out.trans ((HB2.out.mono hz).trans hbl4))⟩
        · intro g hg
          have hg4 := (hown4.lt g hg).2
          have hsep : ∀ (i : Nat) (r : RowCL), rows[i]? = some r → ¬ (r.l ≤ g ∧ g < r.h) := by
            intro i r hr ⟨q1, q2⟩
            rcases hat4 with h | h
            · exact (HBK.out g (by rw [← h]; exact hg)).2 i r hr ⟨q1, q2⟩
            · rw [h] at hg
              cases hg
              have := (HE2.out.1 i r hr).2.2
              omega
          refine ⟨hg4, fun i r hr ⟨q1, q2⟩ => ?_⟩
          by_cases hi : i < rows.length
          · rw [List.getElem?_append_left hi] at hr
            exact hsep i r hr ⟨q1, q2⟩
          · have hil := (List.getElem?_eq_some_iff.1 hr).1
            rw [List.length_append, List.length_singleton] at hil
            rw [List.getElem?_append_right (by omega), show i - rows.length = 0 by omega] at hr
            simp only [List.getElem?_cons_zero, Option.some.injEq] at hr
            subst hr
            simp only at q1 q2
            rcases hat4 with h | h
            · have := (HBK.out g (by rw [← h]; exact hg)).1
              omega
            · rw [h] at hg
              cases hg
              omega
        · refine OwnECL.snoc (hi := wr.heap.size) (HE2.out.kept hkp4 ?_) (HN2.out.kept hkp4 ?_) (Nat.le_refl _) hz (by show w1.heap.size ≤ _; omega) (by omega)
          · intro i r hr b q1 q2 hb'
            exact (HBK.out b hb').2 i r hr ⟨q1, q2⟩
          · intro b q1 q2 hb'
            have := (HBK.out b hb').1
            omega
      case measure => simp only []; omega
    · obtain rfl : k = 8 := by omega
      have HNO := Lib.hid (HEND.out rfl)
      clear HEND
      go_wp2_with fail
      go_ret3
      exact HNO.out _ (Below.refl _ _)

end Go.Proofs.Ytkkcgclliomocaa

namespace Go.Proofs.Ytkkcgclliomocaa
open Go.RowKit

set_option maxHeartbeats 4000000 in
set_option maxRecDepth 100000 in
theorem lawRecoverCases_any (w : World) (a0 : ByteArray) :
    Calls Try.prog 5 #[.string a0] w fun e w' => e = .returned (.bool true) ∧ Below w.heap.size w w' := by
  have B : Hid (Below w.heap.size w w) := Below.refl _ _
  go_enter Try.func5, Try.ntmps5
  by_cases hg0 : (1048576 : Int) < (a0.size : Nat)
  · go_wp2_with fail
    go_ret
    exact ⟨rfl, B.out⟩
  have hs0 : a0.size ≤ 1048576 := by omega
  have ne1 : ((((recP a0 : Nat) : Int)) != (((recP a0 : Nat) : Int))) = false := by simp
  have ne2 : ((true) != (true)) = false := by simp
  go_upto_region 3 with fail
  go_wp2_with fail
  refine (specRec_any a0 _ hs0).mono ?_
  rintro e w1 ⟨Wv0, rfl, Wo0, hb⟩
  replace Wo0 := Lib.hid Wo0
  replace B := Lib.hid (B.out.trans (hb.mono B.out.size))
  have zw1 : w.heap.size ≤ w1.heap.size := hb.size
  clear hb
  go_upto_region 4 with fail
  go_wp2_with fail
  refine (implRec_any a0 _ hs0).mono ?_
  rintro e w2 ⟨Gv0, rfl, Go0, hb⟩
  replace Go0 := Lib.hid Go0
  replace B := Lib.hid (B.out.trans (hb.mono B.out.size))
  replace Wo0 := Lib.hid (Wo0.out.up hb (Nat.le_refl _))
  have zw2 : w1.heap.size ≤ w2.heap.size := hb.size
  clear hb
  go_upto_region 5 with fail
  go_wp2_with fail
  refine (eqCL_same _ _ (recC a0) _ Go0.out.rd Wo0.out.rd).mono ?_
  rintro e w3 ⟨rfl, hb⟩
  replace B := Lib.hid (B.out.trans (hb.mono B.out.size))
  replace Wo0 := Lib.hid (Wo0.out.up hb (Nat.le_refl _))
  replace Go0 := Lib.hid (Go0.out.up hb (Nat.le_refl _))
  have zw3 : w2.heap.size ≤ w3.heap.size := hb.size
  clear hb
  have hcGo0 : (0 : Int) ≤ (cntCL (recC a0) : Nat) := by omega
  have Go0h := Go0
  clear Go0h
  go_upto_region 8 with fail
  go_wp2_with fail
  refine (markCL_o _ _ _ (recC a0) _ _ Go0.out (by omega) (by have := recC_cnt a0; omega)).mono ?_
  rintro e w4 ⟨rfl, MGo0, hb⟩
  replace MGo0 := Lib.hid MGo0
  replace B := Lib.hid (B.out.trans (hb.toBelow B.out.size (by rintro k hk1 ⟨h1, h2⟩; omega)))
  replace Wo0 := Lib.hid (Wo0.out.kept hb (by rintro b h1 h2 ⟨h3, h4⟩; omega))
  have zw4 : w3.heap.size ≤ w4.heap.size := hb.size
  clear hb
  clear Go0
  have nm : ((1 + (cntCL (recC a0) : Int) : Int) != (1 + (cntCL (recC a0) : Int) : Int)) = false := by simp
  go_upto_region 10 with fail
  go_wp2_with fail
  refine (heldCL_o _ (recC a0) _ _ MGo0.out.rd (by omega) (by have := recC_cnt a0; omega)).mono ?_
  rintro e w5 ⟨rfl, hb⟩
  replace B := Lib.hid (B.out.trans (hb.mono B.out.size))
  replace Wo0 := Lib.hid (Wo0.out.up hb (Nat.le_refl _))
  replace MGo0 := Lib.hid (MGo0.out.up hb (Nat.le_refl _))
  have zw5 : w4.heap.size ≤ w5.heap.size := hb.size
  clear hb
  go_upto_region 15 with fail
  go_wp2_with fail
  refine (implRec_any a0 _ hs0).mono ?_
  rintro e w6 ⟨Hv0, rfl, Ho0, hb⟩
  replace Ho0 := Lib.hid Ho0
  replace B := Lib.hid (B.out.trans (hb.mono B.out.size))
  replace Wo0 := Lib.hid (Wo0.out.up hb (Nat.le_refl _))
  replace MGo0 := Lib.hid (MGo0.out.up hb (Nat.le_refl _))
  have zw6 : w5.heap.size ≤ w6.heap.size := hb.size
  clear hb
  go_upto_region 16 with fail
  go_wp2_with fail
  refine (eqCL_same _ _ (recC a0) _ Ho0.out.rd Wo0.out.rd).mono ?_
  rintro e w7 ⟨rfl, hb⟩
  replace B := Lib.hid (B.out.trans (hb.mono B.out.size))
  replace Wo0 := Lib.hid (Wo0.out.up hb (Nat.le_refl _))
  replace MGo0 := Lib.hid (MGo0.out.up hb (Nat.le_refl _))
  replace Ho0 := Lib.hid (Ho0.out.up hb (Nat.le_refl _))
  have zw7 : w6.heap.size ≤ w7.heap.size := hb.size
  clear hb
  go_upto_region 19 with fail
  go_wp2_with fail
  refine (heldCL_o _ (recC a0) _ _ MGo0.out.rd (by omega) (by have := recC_cnt a0; omega)).mono ?_
  rintro e w8 ⟨rfl, hb⟩
  replace B := Lib.hid (B.out.trans (hb.mono B.out.size))
  replace Wo0 := Lib.hid (Wo0.out.up hb (Nat.le_refl _))
  replace MGo0 := Lib.hid (MGo0.out.up hb (Nat.le_refl _))
  replace Ho0 := Lib.hid (Ho0.out.up hb (Nat.le_refl _))
  have zw8 : w7.heap.size ≤ w8.heap.size := hb.size
  clear hb
  go_wp2_with fail
  go_ret
  exact ⟨rfl, B.out⟩

end Go.Proofs.Ytkkcgclliomocaa

namespace Go.Proofs.Ytkkcgclliomocaa
open Go.ChangeShapes Go.WideShapes Go.ChangeAt Go.RowKit
set_option linter.unusedVariables false

def WfI (zs : List Int) : Prop := ∀ z ∈ zs, -9223372036854775808 ≤ z ∧ z ≤ 9223372036854775807

section
variable {H : Type} {enc : TypeId × Value → H} {w : World} {base : Nat} {spare : Nat → Bool} {held : Bool}

theorem cells_i64 : Try.prog.cellsOf 2 = 1 := by kernel_rfl
theorem wf_i64_bounds {z : Int} (h : (Lit.int .i64 z).wf = true) : -9223372036854775808 ≤ z ∧ z ≤ 9223372036854775807 := bounds_i64 h

set_option maxRecDepth 100000 in
theorem trod_I {fuel : Nat} {cs : List Value} {x : DataW H × List MemPlace} (h : DataW.trod enc Try.prog w base spare held fuel 65 cs = some x) : ∃ v zs, cs = [v] ∧ RdI w v zs ∧ WfI zs := by
  rcases open_ints Try.underlying65 Try.underlying2 cells_i64 h with ⟨rfl, _⟩ | ⟨a, len, cap, zs, rfl, _, hl, hm, hz, _, hcell, hwz⟩
  · exact ⟨_, [], rfl, .inl ⟨rfl, rfl⟩, by intro z hz; simp at hz⟩
  · have hle : len ≤ zs.length := by rw [hz]; split <;> omega
    refine ⟨_, zs.take len, rfl, .inr ⟨a, cap, by simp [Nat.min_eq_left hle], by simp; omega, hm, ?_⟩, fun z hz' => wf_i64_bounds (hwz z (List.mem_of_mem_take hz'))⟩
    intro i u hi
    have hlt : i < len := by
      have := (List.getElem?_eq_some_iff.1 hi).1
      simp at this; omega
    have h2 := hcell i (by omega)
    rw [h2, ← hi]
    simp [I64, List.getElem?_take, hlt, show i < zs.length by omega]

set_option maxRecDepth 100000 in
theorem arg_I {r : Reach} {b0 : Nat} {v : Value} {d : DataW H} {p : List MemPlace} (hv : Value.okWide Try.prog w r b0 65 v) (h : DataW.Trod enc Try.prog w base spare held 65 v d p) : ∃ zs, RdI w v zs ∧ WfI zs := by
  obtain ⟨a, len, cap, rfl⟩ := okWide_slice Try.underlying65 hv
  obtain ⟨fuel, hf⟩ := h
  obtain ⟨v, zs, e, h1, h2⟩ := trod_I hf
  simp [Value.cells] at e
  subst e
  exact ⟨zs, h1, h2⟩
theorem cells_one {a : Addr} {cs : List Value} (h : w.cells? base a 1 = some cs) : ∃ v, cs = [v] ∧ w.cell? a = some v := by
  simp [World.cells?] at h
  obtain ⟨_, h⟩ := h
  cases hc : w.cell? (a.add 0) with
  | none => rw [hc] at h; simp at h
  | some v =>
    rw [hc] at h
    simp at h
    exact ⟨v, h.symm, by simpa [Addr.add] using hc⟩

theorem exists_list {α : Type} (P : Nat → α → Prop) : ∀ (n : Nat), (∀ i, i < n → ∃ x, P i x) → ∃ l : List α, l.length = n ∧ ∀ (i : Nat) x, l[i]? = some x → P i x
  | 0, _ => ⟨[], rfl, by intro i x h; simp at h⟩
  | n + 1, h => by
    obtain ⟨l, hl, hp⟩ := exists_list P n (fun i hi => h i (by omega))
    obtain ⟨x, hx⟩ := h n (by omega)
    refine ⟨l ++ [x], by simp [hl], fun i y hy => ?_⟩
    by_cases hi : i < n
    · rw [List.getElem?_append_left (by omega)] at hy
      exact hp i y hy
    · have : i < (l ++ [x]).length := (List.getElem?_eq_some_iff.1 hy).1
      simp [hl] at this
      obtain rfl : i = n := by omega
      rw [List.getElem?_append_right (by omega), hl] at hy
      simp at hy
      exact hy ▸ hx
end
end Go.Proofs.Ytkkcgclliomocaa
