/-
  Forms and cases that are valid, by the program.
-/
import Derived.Test.YtljhohacgceojaaClause
namespace Go.Proofs.Ytljhohacgceojaa
open Go.RowKit

set_option maxHeartbeats 2000000 in
theorem implValidForm_any (v : Value) (f : FormD) (w : World) (h : RdFm w v f) :
    Calls Try.prog 56 #[v] w fun e w' => e = .returned (.bool (formB f)) ∧ Below w.heap.size w w' := by
  obtain ⟨a, c, rfl⟩ := h.shape
  have p := h.parts
  obtain ⟨n, xs⟩ := f
  simp only at p ⊢
  have hl := p.len
  unfold maxLen at hl
  have HS := Lib.hid p
  clear h p
  by_cases hn : inB 1 10 n = true
  · have HN := Lib.hid hn
    clear hn
    by_cases h48 : xs.length ≤ 48
    · go_enter Try.func56, Try.ntmps56
      go_wp2_with (go_at_call 100; refine (isLetterCount_any _ _).mono ?_; rintro e w' ⟨rfl, rfl⟩; rw [HN.out])
      refine wp_at fun W hW => ?_
      have HB := Lib.hid (show Below w.heap.size w W by subst hW; (repeat' first | exact Below.refl _ _ | assumption | refine Below.alloc ?_ ?_ _ | refine Below.setCell ?_ ?_ _ | refine Below.drew ?_ | (simp; done) | (simp; omega)))
      have d0 : W.cell? ⟨w.heap.size, 0, none⟩ = some (.int .i64 n) := by subst hW; exact (Blk.new w 35 #[.int .i64 n, .slice a xs.length c]).cell 0 rfl
      clear hW
      go_loop [18] (fun i => ∃ k : Nat, i = .int .i64 k ∧ k ≤ xs.length ∧ Hid (∀ j, j < k → clauseB n (xs.getD j []) = true)) (fun i => xs.length - (intOf i).toNat)
      case atStart => exact ⟨0, rfl, Nat.zero_le _, fun j hj => by omega⟩
      case round =>
        obtain ⟨k, rfl, hk, hall⟩ := hrel
        by_cases hlt : k < xs.length
        · obtain ⟨b, off, u, rfl, hb0, hc, hu⟩ := (HS.out.up HB.out (Nat.le_refl _)).at hlt
          have HU := Lib.hid hu
          have hno := Lib.hid (show clauseB n (xs.getD k []) = false → formB ⟨n, xs⟩ = false from fun h => by unfold formB; rw [allB_false hlt h, Bool.and_false])
          have hok := Lib.hid (show clauseB n (xs.getD k []) = true → ∀ j, j < k + 1 → clauseB n (xs.getD j []) = true from fun h j hj => by
            by_cases hjk : j < k
            · exact hall.out j hjk
            · obtain rfl : j = k := by omega
              exact h)
          clear hu
          cases hq : clauseB n (xs.getD k [])
          · have hg := Lib.hid (hno.out hq)
            have HQ := Lib.hid hq
            clear hq
            go_wp2_with (go_at_call 57; refine (implClause_any _ _ _ _ HU.out).mono ?_; rintro e w' ⟨rfl, rfl⟩; rw [HQ.out])
            go_ret
            exact ⟨by rw [hg.out]; rfl, HB.out⟩
          · have hg := Lib.hid (hok.out hq)
            have HQ := Lib.hid hq
            clear hq
            go_wp2_with (go_at_call 57; refine (implClause_any _ _ _ _ HU.out).mono ?_; rintro e w' ⟨rfl, rfl⟩; rw [HQ.out])
            go_round
            case rel => exact ⟨k + 1, by go_num, by omega, hg.out⟩
            case measure => simp [intOf]; omega
        · obtain rfl : k = xs.length := by omega
          go_wp2_with fail
          go_ret
          exact ⟨by rw [show formB ⟨n, xs⟩ = true by unfold formB; simp only [HN.out, Bool.true_and]; rw [allB_true hall.out]; simp [h48]]; rfl, HB.out⟩
    · go_enter Try.func56, Try.ntmps56
      go_wp2_with (go_at_call 100; refine (isLetterCount_any _ _).mono ?_; rintro e w' ⟨rfl, rfl⟩; rw [HN.out])
      go_ret
      refine ⟨by rw [show formB ⟨n, xs⟩ = false by unfold formB; simp only [h48, decide_false, Bool.and_false, Bool.false_and]]; rfl, ?_⟩
      (repeat' first | exact Below.refl _ _ | assumption | refine Below.alloc ?_ ?_ _ | refine Below.setCell ?_ ?_ _ | refine Below.drew ?_ | (simp; done) | (simp; omega))
  · have HN := Lib.hid (bool_false hn)
    clear hn
    go_enter Try.func56, Try.ntmps56
    go_wp2_with (go_at_call 100; refine (isLetterCount_any _ _).mono ?_; rintro e w' ⟨rfl, rfl⟩; rw [HN.out])
    go_ret
    refine ⟨by rw [show formB ⟨n, xs⟩ = false by unfold formB; simp only [HN.out, Bool.false_and]]; rfl, ?_⟩
    (repeat' first | exact Below.refl _ _ | assumption | refine Below.alloc ?_ ?_ _ | refine Below.setCell ?_ ?_ _ | refine Below.drew ?_ | (simp; done) | (simp; omega))

set_option maxHeartbeats 2000000 in
theorem implValidCase_any (v : Value) (d : CaseD) (w : World) (h : RdCs w v d) :
    Calls Try.prog 20 #[v] w fun e w' => e = .returned (.bool (caseB d)) ∧ Below w.heap.size w w' := by
  obtain ⟨a1, c1, a2, c2, rfl⟩ := h.shape
  obtain ⟨p, q, hns⟩ := h.parts
  obtain ⟨nm, f, xs⟩ := d
  simp only at p q hns ⊢
  have hl := q.len
  unfold maxLen at hl
  have HF := Lib.hid p
  have HS := Lib.hid q
  have HNS := Lib.hid hns
  clear h p q hns
  by_cases hn : nameB nm = true
  · have HN := Lib.hid hn
    clear hn
    by_cases hf : formB f = true
    · have HFB := Lib.hid hf
      clear hf
      by_cases h128 : xs.length ≤ 128
      · go_enter Try.func20, Try.ntmps20
        go_wp2_with (go_at_call 55; refine (implIsName_any _ _ HNS.out).mono ?_; rintro e w' ⟨rfl, rfl⟩; rw [HN.out])
        refine Calls.at fun W hW => ?_
        have hb := show Below w.heap.size w W by subst hW; (repeat' first | exact Below.refl _ _ | assumption | refine Below.alloc ?_ ?_ _ | refine Below.setCell ?_ ?_ _ | refine Below.drew ?_ | (simp; done) | (simp; omega))
        have hk := show Blk W w.heap.size 37 #[.string nm, .int .i64 f.letters, .slice a1 f.clauses.length c1, .slice a2 xs.length c2] by subst hW; exact Blk.new _ _ _
        clear hW
        refine (implValidForm_any _ f W (HF.out.up hb (Nat.le_refl _))).mono ?_
        rintro e w1 ⟨rfl, hb1⟩
        rw [HFB.out]
        have HB := Lib.hid (hb.trans (hb1.mono hb.size))
        have hk1 := hk.below hb1 hk.lt
        have d1 : w1.cell? ⟨w.heap.size, 1, none⟩ = some (.int .i64 f.letters) := hk1.cell 1 rfl
        have d3 : w1.cell? ⟨w.heap.size, 3, none⟩ = some (.slice a2 xs.length c2) := hk1.cell 3 rfl
        clear hb hk hb1 hk1
        go_wp2_with fail
        go_loop [24] (fun i => ∃ k : Nat, i = .int .i64 k ∧ k ≤ xs.length ∧ Hid (∀ j, j < k → clauseB f.letters (xs.getD j []) = true)) (fun i => xs.length - (intOf i).toNat)
        case atStart => exact ⟨0, rfl, Nat.zero_le _, fun j hj => by omega⟩
        case round =>
          obtain ⟨k, rfl, hk, hall⟩ := hrel
          by_cases hlt : k < xs.length
          · obtain ⟨b, off, u, rfl, hb0, hc, hu⟩ := (HS.out.up HB.out (Nat.le_refl _)).at hlt
            have HU := Lib.hid hu
            have hno := Lib.hid (show clauseB f.letters (xs.getD k []) = false → caseB ⟨nm, f, xs⟩ = false from fun h => by unfold caseB; rw [allB_false hlt h, Bool.and_false])
            have hok := Lib.hid (show clauseB f.letters (xs.getD k []) = true → ∀ j, j < k + 1 → clauseB f.letters (xs.getD j []) = true from fun h j hj => by
              by_cases hjk : j < k
              · exact hall.out j hjk
              · obtain rfl : j = k := by omega
                exact h)
            clear hu
            cases hq : clauseB f.letters (xs.getD k [])
            · have hg := Lib.hid (hno.out hq)
              have HQ := Lib.hid hq
              clear hq
              go_wp2_with (go_at_call 57; refine (implClause_any _ _ _ _ HU.out).mono ?_; rintro e w' ⟨rfl, rfl⟩; rw [HQ.out])
              go_ret
              exact ⟨by rw [hg.out]; rfl, HB.out⟩
            · have hg := Lib.hid (hok.out hq)
              have HQ := Lib.hid hq
              clear hq
              go_wp2_with (go_at_call 57; refine (implClause_any _ _ _ _ HU.out).mono ?_; rintro e w' ⟨rfl, rfl⟩; rw [HQ.out])
              go_round
              case rel => exact ⟨k + 1, by go_num, by omega, hg.out⟩
              case measure => simp [intOf]; omega
          · obtain rfl : k = xs.length := by omega
            go_wp2_with fail
            go_ret
            exact ⟨by rw [show caseB ⟨nm, f, xs⟩ = true by unfold caseB; simp only [HN.out, HFB.out, Bool.true_and]; rw [allB_true hall.out]; simp [h128]]; rfl, HB.out⟩
      · go_enter Try.func20, Try.ntmps20
        go_wp2_with (go_at_call 55; refine (implIsName_any _ _ HNS.out).mono ?_; rintro e w' ⟨rfl, rfl⟩; rw [HN.out])
        refine Calls.at fun W hW => ?_
        have hb := show Below w.heap.size w W by subst hW; (repeat' first | exact Below.refl _ _ | assumption | refine Below.alloc ?_ ?_ _ | refine Below.setCell ?_ ?_ _ | refine Below.drew ?_ | (simp; done) | (simp; omega))
        have hk := show Blk W w.heap.size 37 #[.string nm, .int .i64 f.letters, .slice a1 f.clauses.length c1, .slice a2 xs.length c2] by subst hW; exact Blk.new _ _ _
        clear hW
        refine (implValidForm_any _ f W (HF.out.up hb (Nat.le_refl _))).mono ?_
        rintro e w1 ⟨rfl, hb1⟩
        rw [HFB.out]
        have HB := Lib.hid (hb.trans (hb1.mono hb.size))
        have hk1 := hk.below hb1 hk.lt
        have d3 : w1.cell? ⟨w.heap.size, 3, none⟩ = some (.slice a2 xs.length c2) := hk1.cell 3 rfl
        clear hb hk hb1 hk1
        go_wp2_with fail
        go_ret
        exact ⟨by rw [show caseB ⟨nm, f, xs⟩ = false by unfold caseB; simp only [h128, decide_false, Bool.and_false, Bool.false_and]]; rfl, HB.out⟩
    · have HFB := Lib.hid (bool_false hf)
      clear hf
      go_enter Try.func20, Try.ntmps20
      go_wp2_with (go_at_call 55; refine (implIsName_any _ _ HNS.out).mono ?_; rintro e w' ⟨rfl, rfl⟩; rw [HN.out])
      refine Calls.at fun W hW => ?_
      have hb := show Below w.heap.size w W by subst hW; (repeat' first | exact Below.refl _ _ | assumption | refine Below.alloc ?_ ?_ _ | refine Below.setCell ?_ ?_ _ | refine Below.drew ?_ | (simp; done) | (simp; omega))
      clear hW
      refine (implValidForm_any _ f W (HF.out.up hb (Nat.le_refl _))).mono ?_
      rintro e w1 ⟨rfl, hb1⟩
      rw [HFB.out]
      have HB := Lib.hid (hb.trans (hb1.mono hb.size))
      clear hb hb1
      go_wp2_with fail
      go_ret
      exact ⟨by rw [show caseB ⟨nm, f, xs⟩ = false by unfold caseB; simp only [HFB.out, Bool.and_false, Bool.false_and]]; rfl, HB.out⟩
  · have HN := Lib.hid (bool_false hn)
    clear hn
    go_enter Try.func20, Try.ntmps20
    go_wp2_with (go_at_call 55; refine (implIsName_any _ _ HNS.out).mono ?_; rintro e w' ⟨rfl, rfl⟩; rw [HN.out])
    go_ret
    refine ⟨by rw [show caseB ⟨nm, f, xs⟩ = false by unfold caseB; simp only [HN.out, Bool.false_and]]; rfl, ?_⟩
    (repeat' first | exact Below.refl _ _ | assumption | refine Below.alloc ?_ ?_ _ | refine Below.setCell ?_ ?_ _ | refine Below.drew ?_ | (simp; done) | (simp; omega))

end Go.Proofs.Ytljhohacgceojaa
