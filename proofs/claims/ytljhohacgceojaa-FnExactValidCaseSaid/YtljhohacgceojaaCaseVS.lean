/-
  Forms and cases that are valid, by the reference.
-/
import Derived.Test.YtljhohacgceojaaClauseS
namespace Go.Proofs.Ytljhohacgceojaa
open Go.RowKit

theorem specClause_b (q : Bool) (n : Int) (v : Value) (xs : List Int) (w : World) (h : RdI w v xs) (hq : clauseB n xs = q) :
    Calls Try.prog 97 #[.int .i64 n, v] w fun e w' => e = .returned (.bool q) ∧ Below w.heap.size w w' := by
  have := specClause_any n v xs w h
  rwa [hq] at this

set_option maxHeartbeats 2000000 in
theorem specIs_any (b off : Nat) (f : FormD) (a : Option Addr) (c : Nat) (w : World) (x0 : w.cell? ⟨b, off, none⟩ = some (.int .i64 f.letters)) (x1 : w.cell? ⟨b, off + 1, none⟩ = some (.slice a f.clauses.length c)) (h : RdL w (.slice a f.clauses.length c) f.clauses) :
    Calls Try.prog 96 #[.pointer (some ⟨b, off, none⟩)] w fun e w' => e = .returned (.bool (formB f)) ∧ Below w.heap.size w w' := by
  obtain ⟨n, xs⟩ := f
  simp only at x0 x1 h ⊢
  have hl := h.len
  unfold maxLen at hl
  have HS := Lib.hid h
  clear h
  by_cases hn : inB 1 10 n = true
  · have HN := Lib.hid hn
    clear hn
    by_cases h48 : xs.length ≤ 48
    · go_enter Try.func96, Try.ntmps96
      go_wp2_with (go_at_call 127; refine (specLetters_any _ _).mono ?_; rintro e w' ⟨rfl, rfl⟩; rw [HN.out])
      obtain ⟨wo, hwo⟩ : ∃ wo, wo = w := ⟨w, rfl⟩
      go_loopw [23] (fun i wr => ∃ k : Nat, i = .int .i64 k ∧ k ≤ xs.length ∧ Hid (∀ j, j < k → clauseB n (xs.getD j []) = true) ∧ Hid (Below w.heap.size w wr)) (fun i _ => xs.length - (intOf i).toNat)
      case atStart => exact ⟨0, rfl, Nat.zero_le _, fun j hj => by omega, Below.refl _ _⟩
      case round =>
        obtain ⟨k, rfl, hk, hall, HB⟩ := hrel
        by_cases hlt : k < xs.length
        · obtain ⟨g, of, u, rfl, hb0, hc, hu⟩ := HS.out.at hlt
          have HU := Lib.hid hu
          have hno := Lib.hid (show clauseB n (xs.getD k []) = false → formB ⟨n, xs⟩ = false from fun h => by unfold formB; rw [allB_false hlt h, Bool.and_false])
          have hok := Lib.hid (show clauseB n (xs.getD k []) = true → ∀ j, j < k + 1 → clauseB n (xs.getD j []) = true from fun h j hj => by
            by_cases hjk : j < k
            · exact hall.out j hjk
            · obtain rfl : j = k := by omega
              exact h)
          clear hu
          cases hq : clauseB n (xs.getD k [])
          · have hg := Lib.hid (hno.out hq)
            have HQ := Lib.hid hq
            clear hq
            go_wp2_with fail
            refine wp_region_cls (fun X => X.cell? ⟨b, off, none⟩ = some (.int .i64 n) ∧ X.cell? ⟨b, off + 1, none⟩ = some (.slice (some ⟨g, of, none⟩) xs.length c) ∧ X.cell? ⟨g, of + k, none⟩ = some u ∧ Hid (Below w.heap.size w X)) (by kernel_rfl) (by kernel_rfl) (⟨held_of HB.out x0 (Nat.le_refl _), held_of HB.out x1 (Nat.le_refl _), held_of HB.out hc (Nat.le_refl _), HB.out.drew⟩) ?_
            repeat (first
              | go_big_quiet_skip
              | (refine q_step (by kernel_rfl) ?_
                 apply Exists.intro
                 refine ⟨fun X hX => ?_, ?_⟩
                 · (try dsimp only at hX)
                   go_simp
                   (first | with_reducible rfl | done | (go_at_call 97; have hcur := hX.2.2.2; refine (specClause_b _ _ _ _ _ (HU.out.up hcur.out (Nat.le_refl _)) HQ.out).mono ?_; rintro e w1 ⟨rfl, hb1⟩; have hbn := hcur.out.trans (hb1.mono hcur.out.size); exact ⟨rfl, held_of hbn x0 (Nat.le_refl _), held_of hbn x1 (Nat.le_refl _), held_of hbn hc (Nat.le_refl _), hbn⟩))
                 (try simp only [Act.put, List.setIfInBounds_toArray, List.set_cons_zero, List.set_cons_succ])))
            refine wpQuiet_nil ?_
            intro w1 hC
            (try dsimp only at hC)
            go_wp2_with fail
            go_ret
            exact ⟨by rw [hg.out]; rfl, hC.2.2.2.out⟩
          · have hg := Lib.hid (hok.out hq)
            have HQ := Lib.hid hq
            clear hq
            go_wp2_with fail
            refine wp_region_cls (fun X => X.cell? ⟨b, off, none⟩ = some (.int .i64 n) ∧ X.cell? ⟨b, off + 1, none⟩ = some (.slice (some ⟨g, of, none⟩) xs.length c) ∧ X.cell? ⟨g, of + k, none⟩ = some u ∧ Hid (Below w.heap.size w X)) (by kernel_rfl) (by kernel_rfl) (⟨held_of HB.out x0 (Nat.le_refl _), held_of HB.out x1 (Nat.le_refl _), held_of HB.out hc (Nat.le_refl _), HB.out.drew⟩) ?_
            repeat (first
              | go_big_quiet_skip
              | (refine q_step (by kernel_rfl) ?_
                 apply Exists.intro
                 refine ⟨fun X hX => ?_, ?_⟩
                 · (try dsimp only at hX)
                   go_simp
                   (first | with_reducible rfl | done | (go_at_call 97; have hcur := hX.2.2.2; refine (specClause_b _ _ _ _ _ (HU.out.up hcur.out (Nat.le_refl _)) HQ.out).mono ?_; rintro e w1 ⟨rfl, hb1⟩; have hbn := hcur.out.trans (hb1.mono hcur.out.size); exact ⟨rfl, held_of hbn x0 (Nat.le_refl _), held_of hbn x1 (Nat.le_refl _), held_of hbn hc (Nat.le_refl _), hbn⟩))
                 (try simp only [Act.put, List.setIfInBounds_toArray, List.set_cons_zero, List.set_cons_succ])))
            refine wpQuiet_nil ?_
            intro w1 hC
            (try dsimp only at hC)
            go_wp2_with fail
            go_roundw
            case rel => exact ⟨k + 1, by go_num, by omega, hg.out, hC.2.2.2⟩
            case measure => simp [intOf]; omega
        · obtain rfl : k = xs.length := by omega
          go_wp2_with fail
          go_ret
          exact ⟨by rw [show formB ⟨n, xs⟩ = true by unfold formB; simp only [HN.out, Bool.true_and]; rw [allB_true hall.out]; simp [h48]]; rfl, HB.out⟩
    · go_enter Try.func96, Try.ntmps96
      go_wp2_with (go_at_call 127; refine (specLetters_any _ _).mono ?_; rintro e w' ⟨rfl, rfl⟩; rw [HN.out])
      go_ret
      exact ⟨by rw [show formB ⟨n, xs⟩ = false by unfold formB; simp only [h48, decide_false, Bool.and_false, Bool.false_and]]; rfl, Below.refl _ _⟩
  · have HN := Lib.hid (bool_false hn)
    clear hn
    go_enter Try.func96, Try.ntmps96
    go_wp2_with (go_at_call 127; refine (specLetters_any _ _).mono ?_; rintro e w' ⟨rfl, rfl⟩; rw [HN.out])
    go_ret
    exact ⟨by rw [show formB ⟨n, xs⟩ = false by unfold formB; simp only [HN.out, Bool.false_and]]; rfl, Below.refl _ _⟩

set_option maxHeartbeats 2000000 in
theorem specCase_any (b off : Nat) (d : CaseD) (a1 a2 : Option Addr) (c1 c2 : Nat) (w : World) (x0 : w.cell? ⟨b, off, none⟩ = some (.string d.name)) (x1 : w.cell? ⟨b, off + 1, none⟩ = some (.int .i64 d.form.letters)) (x2 : w.cell? ⟨b, off + 2, none⟩ = some (.slice a1 d.form.clauses.length c1)) (x3 : w.cell? ⟨b, off + 3, none⟩ = some (.slice a2 d.proof.length c2))
    (h : RdCs w (.agg #[.string d.name, .int .i64 d.form.letters, .slice a1 d.form.clauses.length c1, .slice a2 d.proof.length c2]) d) :
    Calls Try.prog 52 #[.pointer (some ⟨b, off, none⟩)] w fun e w' => e = .returned (.bool (caseB d)) ∧ Below w.heap.size w w' := by
  obtain ⟨p, q, hns⟩ := h.parts
  obtain ⟨nm, f, xs⟩ := d
  simp only at x0 x1 x2 x3 p q hns ⊢
  have hl := q.len
  unfold maxLen at hl
  have HF := Lib.hid p.parts
  have HS := Lib.hid q
  have HNS := Lib.hid hns
  clear h p q hns
  by_cases hn : nameB nm = true
  · have HN := Lib.hid hn
    clear hn
    by_cases hf : formB f = true
    · have HFB := Lib.hid hf
      clear hf
      by_cases h128 : xs.length ≤ 128
      · go_enter Try.func52, Try.ntmps52
        go_wp2_with (go_at_call 95; refine (specIsName_any _ _ HNS.out).mono ?_; rintro e w' ⟨rfl, rfl⟩; rw [HN.out])
        refine (specIs_any b (off + 1) f a1 c1 w x1 x2 HF.out).mono ?_
        rintro e w1 ⟨rfl, hb1⟩
        rw [HFB.out]
        have HB1 := Lib.hid hb1
        have y3 : w1.cell? ⟨b, off + 3, none⟩ = some (.slice a2 xs.length c2) := held_of hb1 x3 (Nat.le_refl _)
        clear hb1
        go_wp2_with fail
        go_loopw [30] (fun i wr => ∃ k : Nat, i = .int .i64 k ∧ k ≤ xs.length ∧ Hid (∀ j, j < k → clauseB f.letters (xs.getD j []) = true) ∧ Hid (Below w.heap.size w wr)) (fun i _ => xs.length - (intOf i).toNat)
        case atStart => exact ⟨0, rfl, Nat.zero_le _, fun j hj => by omega, HB1.out⟩
        case round =>
          obtain ⟨k, rfl, hk, hall, HB⟩ := hrel
          by_cases hlt : k < xs.length
          · obtain ⟨g, of, u, rfl, hb0, hc, hu⟩ := HS.out.at hlt
            have HU := Lib.hid hu
            have hno := Lib.hid (show clauseB f.letters (xs.getD k []) = false → caseB ⟨nm, f, xs⟩ = false from fun h => by unfold caseB; rw [allB_false hlt h, Bool.and_false])
            have hok := Lib.hid (show clauseB f.letters (xs.getD k []) = true → ∀ j, j < k + 1 → clauseB f.letters (xs.getD j []) = true from fun h j hj => by
              by_cases hjk : j < k
              · exact hall.out j hjk
              · obtain rfl : j = k := by omega
                exact h)
            clear hu
            cases hq : clauseB f.letters (xs.getD k [])
            · have hg := Lib.hid (hno.out hq)
              have HQ := Lib.hid hq
              clear hq
              go_wp2_with fail
              refine wp_region_cls (fun X => X.cell? ⟨b, off + 1, none⟩ = some (.int .i64 f.letters) ∧ X.cell? ⟨b, off + 3, none⟩ = some (.slice (some ⟨g, of, none⟩) xs.length c2) ∧ X.cell? ⟨g, of + k, none⟩ = some u ∧ Hid (Below w.heap.size w X)) (by kernel_rfl) (by kernel_rfl) (⟨held_of HB.out x1 (Nat.le_refl _), held_of HB.out x3 (Nat.le_refl _), held_of HB.out hc (Nat.le_refl _), HB.out.drew⟩) ?_
              repeat (first
                | go_big_quiet_skip
                | (refine q_step (by kernel_rfl) ?_
                   apply Exists.intro
                   refine ⟨fun X hX => ?_, ?_⟩
                   · (try dsimp only at hX)
                     go_simp
                     (first | with_reducible rfl | done | (go_at_call 97; have hcur := hX.2.2.2; refine (specClause_b _ _ _ _ _ (HU.out.up hcur.out (Nat.le_refl _)) HQ.out).mono ?_; rintro e w1 ⟨rfl, hb1⟩; have hbn := hcur.out.trans (hb1.mono hcur.out.size); exact ⟨rfl, held_of hbn x1 (Nat.le_refl _), held_of hbn x3 (Nat.le_refl _), held_of hbn hc (Nat.le_refl _), hbn⟩))
                   (try simp only [Act.put, List.setIfInBounds_toArray, List.set_cons_zero, List.set_cons_succ])))
              refine wpQuiet_nil ?_
              intro w1 hC
              (try dsimp only at hC)
              go_wp2_with fail
              go_ret
              exact ⟨by rw [hg.out]; rfl, hC.2.2.2.out⟩
            · have hg := Lib.hid (hok.out hq)
              have HQ := Lib.hid hq
              clear hq
              go_wp2_with fail
              refine wp_region_cls (fun X => X.cell? ⟨b, off + 1, none⟩ = some (.int .i64 f.letters) ∧ X.cell? ⟨b, off + 3, none⟩ = some (.slice (some ⟨g, of, none⟩) xs.length c2) ∧ X.cell? ⟨g, of + k, none⟩ = some u ∧ Hid (Below w.heap.size w X)) (by kernel_rfl) (by kernel_rfl) (⟨held_of HB.out x1 (Nat.le_refl _), held_of HB.out x3 (Nat.le_refl _), held_of HB.out hc (Nat.le_refl _), HB.out.drew⟩) ?_
              repeat (first
                | go_big_quiet_skip
                | (refine q_step (by kernel_rfl) ?_
                   apply Exists.intro
                   refine ⟨fun X hX => ?_, ?_⟩
                   · (try dsimp only at hX)
                     go_simp
                     (first | with_reducible rfl | done | (go_at_call 97; have hcur := hX.2.2.2; refine (specClause_b _ _ _ _ _ (HU.out.up hcur.out (Nat.le_refl _)) HQ.out).mono ?_; rintro e w1 ⟨rfl, hb1⟩; have hbn := hcur.out.trans (hb1.mono hcur.out.size); exact ⟨rfl, held_of hbn x1 (Nat.le_refl _), held_of hbn x3 (Nat.le_refl _), held_of hbn hc (Nat.le_refl _), hbn⟩))
                   (try simp only [Act.put, List.setIfInBounds_toArray, List.set_cons_zero, List.set_cons_succ])))
              refine wpQuiet_nil ?_
              intro w1 hC
              (try dsimp only at hC)
              go_wp2_with fail
              go_roundw
              case rel => exact ⟨k + 1, by go_num, by omega, hg.out, hC.2.2.2⟩
              case measure => simp [intOf]; omega
          · obtain rfl : k = xs.length := by omega
            go_wp2_with fail
            go_ret
            exact ⟨by rw [show caseB ⟨nm, f, xs⟩ = true by unfold caseB; simp only [HN.out, HFB.out, Bool.true_and]; rw [allB_true hall.out]; simp [h128]]; rfl, HB.out⟩
      · go_enter Try.func52, Try.ntmps52
        go_wp2_with (go_at_call 95; refine (specIsName_any _ _ HNS.out).mono ?_; rintro e w' ⟨rfl, rfl⟩; rw [HN.out])
        refine (specIs_any b (off + 1) f a1 c1 w x1 x2 HF.out).mono ?_
        rintro e w1 ⟨rfl, hb1⟩
        rw [HFB.out]
        have HB1 := Lib.hid hb1
        have y3 : w1.cell? ⟨b, off + 3, none⟩ = some (.slice a2 xs.length c2) := held_of hb1 x3 (Nat.le_refl _)
        clear hb1
        go_wp2_with fail
        go_ret
        exact ⟨by rw [show caseB ⟨nm, f, xs⟩ = false by unfold caseB; simp only [h128, decide_false, Bool.and_false, Bool.false_and]]; rfl, HB1.out⟩
    · have HFB := Lib.hid (bool_false hf)
      clear hf
      go_enter Try.func52, Try.ntmps52
      go_wp2_with (go_at_call 95; refine (specIsName_any _ _ HNS.out).mono ?_; rintro e w' ⟨rfl, rfl⟩; rw [HN.out])
      refine (specIs_any b (off + 1) f a1 c1 w x1 x2 HF.out).mono ?_
      rintro e w1 ⟨rfl, hb1⟩
      rw [HFB.out]
      have HB1 := Lib.hid hb1
      clear hb1
      go_wp2_with fail
      go_ret
      exact ⟨by rw [show caseB ⟨nm, f, xs⟩ = false by unfold caseB; simp only [HFB.out, Bool.and_false, Bool.false_and]]; rfl, HB1.out⟩
  · have HN := Lib.hid (bool_false hn)
    clear hn
    go_enter Try.func52, Try.ntmps52
    go_wp2_with (go_at_call 95; refine (specIsName_any _ _ HNS.out).mono ?_; rintro e w' ⟨rfl, rfl⟩; rw [HN.out])
    go_ret
    exact ⟨by rw [show caseB ⟨nm, f, xs⟩ = false by unfold caseB; simp only [HN.out, Bool.false_and]]; rfl, Below.refl _ _⟩

set_option maxHeartbeats 2000000 in
theorem specValidCase_any (v : Value) (d : CaseD) (w : World) (h : RdCs w v d) :
    Calls Try.prog 18 #[v] w fun e w' => e = .returned (.bool (caseB d)) ∧ Below w.heap.size w w' := by
  obtain ⟨a1, c1, a2, c2, rfl⟩ := h.shape
  have HS := Lib.hid h
  clear h
  go_enter Try.func18, Try.ntmps18
  go_wp2_with fail
  refine Calls.at fun W hW => ?_
  have hb := show Below w.heap.size w W by subst hW; (repeat' first | exact Below.refl _ _ | assumption | refine Below.alloc ?_ ?_ _ | refine Below.setCell ?_ ?_ _ | refine Below.drew ?_ | (simp; done) | (simp; omega))
  have hk := show Blk W w.heap.size 37 #[.string d.name, .int .i64 d.form.letters, .slice a1 d.form.clauses.length c1, .slice a2 d.proof.length c2] by subst hW; exact Blk.new _ _ _
  clear hW
  refine (specCase_any w.heap.size 0 d a1 a2 c1 c2 W (hk.cell 0 rfl) (hk.cell 1 rfl) (hk.cell 2 rfl) (hk.cell 3 rfl) (HS.out.up hb (Nat.le_refl _))).mono ?_
  rintro e w1 ⟨rfl, hb1⟩
  have HB := Lib.hid (hb.trans (hb1.mono hb.size))
  clear hb hk hb1
  obtain ⟨q, hq⟩ : ∃ q, q = caseB d := ⟨_, rfl⟩
  rw [← hq]
  have HQ := Lib.hid hq
  clear hq
  go_wp2_with fail
  go_ret
  exact ⟨by rw [← HQ.out]; rfl, HB.out⟩

end Go.Proofs.Ytljhohacgceojaa
