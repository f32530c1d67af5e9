/-
  Equal cases: the reference's comparison.
-/
import Derived.Test.YtljhohacgceojaaSameC
import Derived.Test.YtljhohacgceojaaReg
namespace Go.Proofs.Ytljhohacgceojaa
open Go.RowKit

theorem specSameForm_b (b : Bool) (v v' : Value) (x y : FormD) (w : World) (h : RdFm w v x) (h' : RdFm w v' y) (hb : (decide (x.letters = y.letters) && decide (x.clauses = y.clauses)) = b) :
    Calls Try.prog 44 #[v, v'] w fun e w' => e = .returned (.bool b) ∧ Below w.heap.size w w' := by
  have := specSameForm_any v v' x y w h h'
  rwa [hb] at this

theorem l00Same_b (b : Bool) (v v' : Value) (xs ys : List Int) (w : World) (h : RdI w v xs) (h' : RdI w v' ys) (hb : decide (xs = ys) = b) :
    Calls Try.prog 45 #[v, v'] w fun e w' => e = .returned (.bool b) ∧ ∃ n, w' = w.drewN n := by
  have := l00Same_rd v v' xs ys w h h'
  rwa [hb] at this

set_option maxHeartbeats 4000000 in
set_option maxRecDepth 4000 in
theorem specSameCases_any (v v' : Value) (xs ys : List CaseD) (w : World) (h : RdCL w v xs) (h' : RdCL w v' ys) :
    Calls Try.prog 13 #[v, v'] w fun e w' => e = .returned (.bool (sameCL xs ys)) ∧ Below w.heap.size w w' := by
  obtain ⟨a, c, rfl⟩ := h.shape
  obtain ⟨a', c', rfl⟩ := h'.shape
  have hm := h.len
  simp only [maxLen] at hm
  have H1 := Lib.hid h
  have H2 := Lib.hid h'
  clear h h'
  by_cases hl : xs.length = ys.length
  · have hne : ((xs.length : Int) != (ys.length : Int)) = false := by simp [hl]
    have HL := Lib.hid hl
    clear hl
    go_enter Try.func13, Try.ntmps13
    go_wp2_with fail
    go_loopw [14] (fun i wr => ∃ k : Nat, i = .int .i64 k ∧ k ≤ xs.length ∧ Hid (∀ j, j < k → sameC (xs.getD j ICL) (ys.getD j ICL) = true) ∧ Hid (Below w.heap.size w wr)) (fun i _ => xs.length - (intOf i).toNat)
    case atStart => exact ⟨0, rfl, Nat.zero_le _, fun j hj => by omega, Below.refl _ _⟩
    case round =>
      obtain ⟨k, rfl, hk, hall, HB⟩ := hrel
      obtain ⟨wo, rfl⟩ : ∃ wo, wo = wr := ⟨wr, rfl⟩
      by_cases hlt : k < xs.length
      · have hlt2 : k < ys.length := by have := HL.out; omega
        obtain ⟨b, off, z1, z2, rfl, hb, x0, x1, x2, x3, hu⟩ := (H1.out.up HB.out (Nat.le_refl _)).at hlt
        obtain ⟨b', off', z1', z2', rfl, hb', y0, y1, y2, y3, hu'⟩ := (H2.out.up HB.out (Nat.le_refl _)).at hlt2
        obtain ⟨x, hx⟩ : ∃ x, x = xs.getD k ICL := ⟨_, rfl⟩
        obtain ⟨y, hy⟩ : ∃ y, y = ys.getD k ICL := ⟨_, rfl⟩
        rw [← hx] at x0 x1 hu
        rw [← hy] at y0 y1 hu'
        obtain ⟨p1, q1, p2, q2, hsz⟩ := hu.shape
        obtain ⟨P1, Q1, P2, Q2, hsy⟩ := hu'.shape
        simp only [Value.agg.injEq, Array.mk.injEq, List.cons.injEq, and_true, true_and] at hsz hsy
        obtain ⟨rfl, rfl⟩ := hsz
        obtain ⟨rfl, rfl⟩ := hsy
        obtain ⟨U1, U2, -⟩ := hu.parts
        obtain ⟨V1, V2, -⟩ := hu'.parts
        have HX := Lib.hid hx
        have HY := Lib.hid hy
        have HU1 := Lib.hid U1
        have HU2 := Lib.hid U2
        have HV1 := Lib.hid V1
        have HV2 := Lib.hid V2
        have hlt2' : (k : Int) < ys.length := by omega
        have hfin := Lib.hid (show sameC x y = false → sameCL xs ys = false from fun h => eqBy_ne sameC ICL xs ys k hlt hlt2 (by rw [← hx, ← hy]; exact h))
        have hsx : (x.proof.length : Int) ≤ 9223372036854775807 := by have := U2.len; unfold maxLen at this; omega
        clear hx hy hu hu' U1 U2 V1 V2
        have hx0 := Lib.hid x0
        obtain ⟨n1, f1, r1⟩ := x
        obtain ⟨n2, f2, r2⟩ := y
        simp only at x0 x1 x2 x3 y0 y1 y2 y3 HU1 HU2 HV1 HV2 hsx
        by_cases hn : n1 = n2
        · subst hn
          have kk : (k : Int) < (xs.length : Int) := by omega
          by_cases hbt : (decide (f1.letters = f2.letters) && decide (f1.clauses = f2.clauses)) = true
          · have hbb := Lib.hid hbt
            clear hbt
            by_cases hpl : r1.length = r2.length
            · have hpn : ((r1.length : Int) != (r2.length : Int)) = false := by simp [hpl]
              have HPL := Lib.hid hpl
              clear hpl
              go_wp2_with fail
              refine wp_region_cls (fun X => X.cell? ⟨b, off + k * 4, none⟩ = some (.string n1) ∧ X.cell? ⟨b', off' + k * 4, none⟩ = some (.string n1) ∧ X.cell? ⟨b, off + k * 4 + 1, none⟩ = some (.int .i64 f1.letters) ∧ X.cell? ⟨b, off + k * 4 + 2, none⟩ = some (.slice p1 f1.clauses.length q1) ∧ X.cell? ⟨b, off + k * 4 + 3, none⟩ = some (.slice p2 r1.length q2) ∧ X.cell? ⟨b', off' + k * 4 + 1, none⟩ = some (.int .i64 f2.letters) ∧ X.cell? ⟨b', off' + k * 4 + 2, none⟩ = some (.slice P1 f2.clauses.length Q1) ∧ X.cell? ⟨b', off' + k * 4 + 3, none⟩ = some (.slice P2 r2.length Q2) ∧ Hid (Below wo.heap.size wo X)) (by kernel_rfl) (by kernel_rfl) (⟨x0, y0, x1, x2, x3, y1, y2, y3, (Below.refl _ _).drew⟩) ?_
              repeat (first
                | go_big_quiet_skip
                | (refine q_step (by kernel_rfl) ?_
                   apply Exists.intro
                   refine ⟨fun X hX => ?_, ?_⟩
                   · (try dsimp only at hX)
                     go_simp
                     (first | with_reducible rfl | done | (go_at_call 44; have hcur := hX.2.2.2.2.2.2.2.2; refine (specSameForm_b _ _ _ f1 f2 _ (HU1.out.up hcur.out (Nat.le_refl _)) (HV1.out.up hcur.out (Nat.le_refl _)) hbb.out).mono ?_; rintro e w1 ⟨rfl, hb1⟩; have hbn := hcur.out.trans (hb1.mono hcur.out.size); exact ⟨rfl, held_of hbn x0 (Nat.le_refl _), held_of hbn y0 (Nat.le_refl _), held_of hbn x1 (Nat.le_refl _), held_of hbn x2 (Nat.le_refl _), held_of hbn x3 (Nat.le_refl _), held_of hbn y1 (Nat.le_refl _), held_of hbn y2 (Nat.le_refl _), held_of hbn y3 (Nat.le_refl _), hbn⟩))
                   (try simp only [Act.put, List.setIfInBounds_toArray, List.set_cons_zero, List.set_cons_succ])))
              refine wpQuiet_nil ?_
              intro w1 hC
              (try dsimp only at hC)
              go_wp2_with fail
              have HB1 := Lib.hid hC.2.2.2.2.2.2.2.2.out
              clear hC
              go_loopw [63] (fun i wq => ∃ j : Nat, i = .int .i64 j ∧ j ≤ r1.length ∧ Hid (r1.take j = r2.take j) ∧ Hid (Below wo.heap.size wo wq)) (fun i _ => r1.length - (intOf i).toNat)
              case atStart => exact ⟨0, rfl, Nat.zero_le _, rfl, HB1.out⟩
              case round =>
                obtain ⟨j, rfl, hj, heq, hq⟩ := hrel
                by_cases hlj : j < r1.length
                · have hlj2 : j < r2.length := by have := HPL.out; omega
                  obtain ⟨g, of, u, rfl, hgb, hc, hu⟩ := HU2.out.at hlj
                  obtain ⟨g', of', u', rfl, hgb', hc', hu'⟩ := HV2.out.at hlj2
                  have HU := Lib.hid hu
                  have HU' := Lib.hid hu'
                  have hlj2' : (j : Int) < r2.length := by omega
                  clear hu hu'
                  by_cases hxy : r1.getD j [] = r2.getD j []
                  · have HD := Lib.hid (decide_eq_true hxy)
                    have HXY := Lib.hid hxy
                    clear hxy
                    go_wp2_with fail
                    refine wp_region_cls (fun X => X.cell? ⟨b, off + k * 4 + 3, none⟩ = some (.slice (some ⟨g, of, none⟩) r1.length q2) ∧ X.cell? ⟨b', off' + k * 4 + 3, none⟩ = some (.slice (some ⟨g', of', none⟩) r2.length Q2) ∧ X.cell? ⟨g, of + j, none⟩ = some u ∧ X.cell? ⟨g', of' + j, none⟩ = some u' ∧ Hid (Below wo.heap.size wo X)) (by kernel_rfl) (by kernel_rfl) (⟨held_of hq.out x3 (Nat.le_refl _), held_of hq.out y3 (Nat.le_refl _), held_of hq.out hc (Nat.le_refl _), held_of hq.out hc' (Nat.le_refl _), hq.out.drew⟩) ?_
                    repeat (first
                      | go_big_quiet_skip
                      | (refine q_step (by kernel_rfl) ?_
                         apply Exists.intro
                         refine ⟨fun X hX => ?_, ?_⟩
                         · (try dsimp only at hX)
                           go_simp
                           (first | with_reducible rfl | done | (go_at_call 45; have hcur := hX.2.2.2.2; refine (l00Same_b _ _ _ _ _ _ (HU.out.up hcur.out (Nat.le_refl _)) (HU'.out.up hcur.out (Nat.le_refl _)) HD.out).mono ?_; rintro e w1 ⟨rfl, n, rfl⟩; exact ⟨rfl, hX.1, hX.2.1, hX.2.2.1, hX.2.2.2.1, below_drewN hcur.out n⟩))
                         (try simp only [Act.put, List.setIfInBounds_toArray, List.set_cons_zero, List.set_cons_succ])))
                    refine wpQuiet_nil ?_
                    intro w2 hD
                    (try dsimp only at hD)
                    go_wp2_with fail
                    go_roundw
                    case rel => exact ⟨j + 1, by go_num, by omega, gtake_succ hlj hlj2 heq HXY.out, hD.2.2.2.2⟩
                    case measure => simp [intOf]; omega
                  · have HD := Lib.hid (decide_eq_false hxy)
                    have HXY := Lib.hid hxy
                    clear hxy
                    go_wp2_with fail
                    refine wp_region_cls (fun X => X.cell? ⟨b, off + k * 4 + 3, none⟩ = some (.slice (some ⟨g, of, none⟩) r1.length q2) ∧ X.cell? ⟨b', off' + k * 4 + 3, none⟩ = some (.slice (some ⟨g', of', none⟩) r2.length Q2) ∧ X.cell? ⟨g, of + j, none⟩ = some u ∧ X.cell? ⟨g', of' + j, none⟩ = some u' ∧ Hid (Below wo.heap.size wo X)) (by kernel_rfl) (by kernel_rfl) (⟨held_of hq.out x3 (Nat.le_refl _), held_of hq.out y3 (Nat.le_refl _), held_of hq.out hc (Nat.le_refl _), held_of hq.out hc' (Nat.le_refl _), hq.out.drew⟩) ?_
                    repeat (first
                      | go_big_quiet_skip
                      | (refine q_step (by kernel_rfl) ?_
                         apply Exists.intro
                         refine ⟨fun X hX => ?_, ?_⟩
                         · (try dsimp only at hX)
                           go_simp
                           (first | with_reducible rfl | done | (go_at_call 45; have hcur := hX.2.2.2.2; refine (l00Same_b _ _ _ _ _ _ (HU.out.up hcur.out (Nat.le_refl _)) (HU'.out.up hcur.out (Nat.le_refl _)) HD.out).mono ?_; rintro e w1 ⟨rfl, n, rfl⟩; exact ⟨rfl, hX.1, hX.2.1, hX.2.2.1, hX.2.2.2.1, below_drewN hcur.out n⟩))
                         (try simp only [Act.put, List.setIfInBounds_toArray, List.set_cons_zero, List.set_cons_succ])))
                    refine wpQuiet_nil ?_
                    intro w2 hD
                    (try dsimp only at hD)
                    go_wp2_with fail
                    go_ret
                    have hpd := decide_eq_false (gtake_ne HXY.out)
                    exact ⟨by rw [hfin.out (by unfold sameC; simp only [hpd]; simp)]; rfl, HB.out.trans (hD.2.2.2.2.out.mono HB.out.size)⟩
                · obtain rfl : j = r1.length := by omega
                  have hpp : r1 = r2 := by
                    have he := heq.out
                    rwa [List.take_length, HPL.out, List.take_length] at he
                  have hok := Lib.hid (show sameC (xs.getD k ICL) (ys.getD k ICL) = true by
                    rw [← HX.out, ← HY.out]; unfold sameC; simp only [hbb.out, hpp]; simp)
                  clear hpp
                  go_wp2_with fail
                  go_roundw
                  case rel =>
                    refine ⟨k + 1, by go_num, by omega, fun j hj => ?_, HB.out.trans (hq.out.mono HB.out.size)⟩
                    by_cases hjk : j < k
                    · exact hall.out j hjk
                    · obtain rfl : j = k := by omega
                      exact hok.out
                  case measure => simp [intOf]; omega
            · have hpn : ((r1.length : Int) != (r2.length : Int)) = true := by simp; omega
              have hpd := Lib.hid (show decide (r1 = r2) = false from decide_eq_false (fun h => hpl (by rw [h])))
              clear hpl
              go_wp2_with fail
              refine wp_region_cls (fun X => X.cell? ⟨b, off + k * 4, none⟩ = some (.string n1) ∧ X.cell? ⟨b', off' + k * 4, none⟩ = some (.string n1) ∧ X.cell? ⟨b, off + k * 4 + 1, none⟩ = some (.int .i64 f1.letters) ∧ X.cell? ⟨b, off + k * 4 + 2, none⟩ = some (.slice p1 f1.clauses.length q1) ∧ X.cell? ⟨b, off + k * 4 + 3, none⟩ = some (.slice p2 r1.length q2) ∧ X.cell? ⟨b', off' + k * 4 + 1, none⟩ = some (.int .i64 f2.letters) ∧ X.cell? ⟨b', off' + k * 4 + 2, none⟩ = some (.slice P1 f2.clauses.length Q1) ∧ X.cell? ⟨b', off' + k * 4 + 3, none⟩ = some (.slice P2 r2.length Q2) ∧ Hid (Below wo.heap.size wo X)) (by kernel_rfl) (by kernel_rfl) (⟨x0, y0, x1, x2, x3, y1, y2, y3, (Below.refl _ _).drew⟩) ?_
              repeat (first
                | go_big_quiet_skip
                | (refine q_step (by kernel_rfl) ?_
                   apply Exists.intro
                   refine ⟨fun X hX => ?_, ?_⟩
                   · (try dsimp only at hX)
                     go_simp
                     (first | with_reducible rfl | done | (go_at_call 44; have hcur := hX.2.2.2.2.2.2.2.2; refine (specSameForm_b _ _ _ f1 f2 _ (HU1.out.up hcur.out (Nat.le_refl _)) (HV1.out.up hcur.out (Nat.le_refl _)) hbb.out).mono ?_; rintro e w1 ⟨rfl, hb1⟩; have hbn := hcur.out.trans (hb1.mono hcur.out.size); exact ⟨rfl, held_of hbn x0 (Nat.le_refl _), held_of hbn y0 (Nat.le_refl _), held_of hbn x1 (Nat.le_refl _), held_of hbn x2 (Nat.le_refl _), held_of hbn x3 (Nat.le_refl _), held_of hbn y1 (Nat.le_refl _), held_of hbn y2 (Nat.le_refl _), held_of hbn y3 (Nat.le_refl _), hbn⟩))
                   (try simp only [Act.put, List.setIfInBounds_toArray, List.set_cons_zero, List.set_cons_succ])))
              refine wpQuiet_nil ?_
              intro w1 hC
              (try dsimp only at hC)
              go_wp2_with fail
              go_ret
              exact ⟨by rw [hfin.out (by unfold sameC; simp only [hpd.out]; simp)]; rfl, HB.out.trans (hC.2.2.2.2.2.2.2.2.out.mono HB.out.size)⟩
          · have hbb := Lib.hid (show (decide (f1.letters = f2.letters) && decide (f1.clauses = f2.clauses)) = false by simpa using hbt)
            clear hbt
            go_wp2_with fail
            refine wp_region_cls (fun X => X.cell? ⟨b, off + k * 4, none⟩ = some (.string n1) ∧ X.cell? ⟨b', off' + k * 4, none⟩ = some (.string n1) ∧ X.cell? ⟨b, off + k * 4 + 1, none⟩ = some (.int .i64 f1.letters) ∧ X.cell? ⟨b, off + k * 4 + 2, none⟩ = some (.slice p1 f1.clauses.length q1) ∧ X.cell? ⟨b, off + k * 4 + 3, none⟩ = some (.slice p2 r1.length q2) ∧ X.cell? ⟨b', off' + k * 4 + 1, none⟩ = some (.int .i64 f2.letters) ∧ X.cell? ⟨b', off' + k * 4 + 2, none⟩ = some (.slice P1 f2.clauses.length Q1) ∧ X.cell? ⟨b', off' + k * 4 + 3, none⟩ = some (.slice P2 r2.length Q2) ∧ Hid (Below wo.heap.size wo X)) (by kernel_rfl) (by kernel_rfl) (⟨x0, y0, x1, x2, x3, y1, y2, y3, (Below.refl _ _).drew⟩) ?_
            repeat (first
              | go_big_quiet_skip
              | (refine q_step (by kernel_rfl) ?_
                 apply Exists.intro
                 refine ⟨fun X hX => ?_, ?_⟩
                 · (try dsimp only at hX)
                   go_simp
                   (first | with_reducible rfl | done | (go_at_call 44; have hcur := hX.2.2.2.2.2.2.2.2; refine (specSameForm_b _ _ _ f1 f2 _ (HU1.out.up hcur.out (Nat.le_refl _)) (HV1.out.up hcur.out (Nat.le_refl _)) hbb.out).mono ?_; rintro e w1 ⟨rfl, hb1⟩; have hbn := hcur.out.trans (hb1.mono hcur.out.size); exact ⟨rfl, held_of hbn x0 (Nat.le_refl _), held_of hbn y0 (Nat.le_refl _), held_of hbn x1 (Nat.le_refl _), held_of hbn x2 (Nat.le_refl _), held_of hbn x3 (Nat.le_refl _), held_of hbn y1 (Nat.le_refl _), held_of hbn y2 (Nat.le_refl _), held_of hbn y3 (Nat.le_refl _), hbn⟩))
                 (try simp only [Act.put, List.setIfInBounds_toArray, List.set_cons_zero, List.set_cons_succ])))
            refine wpQuiet_nil ?_
            intro w1 hC
            (try dsimp only at hC)
            go_wp2_with fail
            go_ret
            exact ⟨by rw [hfin.out (by unfold sameC; simp only [hbb.out]; simp)]; rfl, HB.out.trans (hC.2.2.2.2.2.2.2.2.out.mono HB.out.size)⟩
        · have hxd := Lib.hid (show decide (n1 = n2) = false from decide_eq_false hn)
          have hb0 : (n1.toList == n2.toList) = false := str_ne hn
          clear hn
          have kk : (k : Int) < (xs.length : Int) := by omega
          go_wp2_with fail
          refine wp_region_cls (fun X => X.cell? ⟨b, off + k * 4, none⟩ = some (.string n1) ∧ X.cell? ⟨b', off' + k * 4, none⟩ = some (.string n2) ∧ Hid (Below wo.heap.size wo X)) (by kernel_rfl) (by kernel_rfl) (⟨x0, y0, (Below.refl _ _).drew⟩) ?_
          repeat (first
            | go_big_quiet_skip
            | (refine q_step (by kernel_rfl) ?_
               apply Exists.intro
               refine ⟨fun X hX => ?_, ?_⟩
               · (try dsimp only at hX)
                 go_simp
                 (first | with_reducible rfl | done | (fail))
               (try simp only [Act.put, List.setIfInBounds_toArray, List.set_cons_zero, List.set_cons_succ])))
          refine wpQuiet_nil ?_
          intro w1 hC
          (try dsimp only at hC)
          go_wp2_with fail
          go_ret
          exact ⟨by rw [hfin.out (by unfold sameC; simp only [hxd.out]; simp)]; rfl, HB.out.trans (hC.2.2.out.mono HB.out.size)⟩
      · obtain rfl : k = xs.length := by omega
        go_wp2_with fail
        go_ret
        exact ⟨by rw [show sameCL xs ys = true from eqBy_all sameC ICL xs ys HL.out hall.out]; rfl, HB.out⟩
  · have hne : ((xs.length : Int) != (ys.length : Int)) = true := by simp; omega
    have hx := Lib.hid (show sameCL xs ys = false from eqBy_len sameC xs ys hl)
    clear hl
    go_enter Try.func13, Try.ntmps13
    go_wp2_with fail
    go_ret
    exact ⟨by rw [hx.out]; rfl, Below.refl _ _⟩

theorem specSameCases_o (v : Value) (x : List CaseD) (v' : Value) (y : List CaseD) (w : World) (h : RdCL w v x) (h' : RdCL w v' y) :
    Calls Try.prog 13 #[v, v'] w fun e w' => e = .returned (.bool (sameCL x y)) ∧ Below w.heap.size w w' := specSameCases_any v v' x y w h h'
theorem implSameCases_o (v : Value) (x : List CaseD) (v' : Value) (y : List CaseD) (w : World) (h : RdCL w v x) (h' : RdCL w v' y) :
    Calls Try.prog 15 #[v, v'] w fun e w' => e = .returned (.bool (sameCL x y)) ∧ Below w.heap.size w w' := implSameCases_any v v' x y w h h'

end Go.Proofs.Ytljhohacgceojaa
