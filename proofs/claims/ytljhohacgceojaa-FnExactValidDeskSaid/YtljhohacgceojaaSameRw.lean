/-
  Equal rows: by the program and by the reference.
-/
import Derived.Test.YtljhohacgceojaaSameJ
import Derived.Test.YtljhohacgceojaaSame
import Derived.Test.YtljhohacgceojaaReg
namespace Go.Proofs.Ytljhohacgceojaa
open Go.RowKit

set_option maxHeartbeats 400000 in
theorem l02Basis_any (a1 a2 : Option Addr) (n1 n2 c1 c2 : Nat) (xs ys : List Int) (w : World) (h1 : xs.length = n1) (h2 : ys.length = n2) (s1 : Slc w (.slice a1 n1 c1) (xs.map I64)) (s2 : Slc w (.slice a2 n2 c2) (ys.map I64)) :
    Calls Try.prog 78 #[.slice a1 n1 c1, .slice a2 n2 c2] w fun e w' => e = .returned (.bool (decide (xs = ys))) ∧ ∃ n, w' = w.drewN n := by
  subst h1 h2
  have hm := s1.len
  simp only [List.length_map, maxLen] at hm
  have H1 := Lib.hid s1
  have H2 := Lib.hid s2
  clear s1 s2
  by_cases hl : xs.length = ys.length
  · have hne : ((xs.length : Int) != (ys.length : Int)) = false := by simp [hl]
    have HL := Lib.hid hl
    clear hl
    go_enter Try.func78, Try.ntmps78
    go_wp2_with fail
    go_loopw [5] (fun i wr => ∃ k : Nat, i = .int .i64 k ∧ k ≤ xs.length ∧ Hid (xs.take k = ys.take k) ∧ ∃ n, wr = w.drewN n) (fun i _ => xs.length - (intOf i).toNat)
    case atStart => exact ⟨0, rfl, Nat.zero_le _, rfl, 0, rfl⟩
    case round =>
      obtain ⟨k, rfl, hk, heq, n, rfl⟩ := hrel
      by_cases hlt : k < xs.length
      · have hlt2 : k < ys.length := by have := HL.out; omega
        obtain ⟨b, off, rfl, hb, hc⟩ := H1.out.at (i := k) (u := .int .i64 (xs.getD k 0)) (by simp [I64, hlt])
        obtain ⟨b', off', rfl, hb', hc'⟩ := H2.out.at (i := k) (u := .int .i64 (ys.getD k 0)) (by simp [I64, hlt2])
        obtain ⟨x, hx⟩ : ∃ x, x = xs.getD k 0 := ⟨_, rfl⟩
        obtain ⟨y, hy⟩ : ∃ y, y = ys.getD k 0 := ⟨_, rfl⟩
        rw [← hx] at hc
        rw [← hy] at hc'
        have HX := Lib.hid hx
        have HY := Lib.hid hy
        clear hx hy
        by_cases hxy : x = y
        · subst hxy
          have hb0 : (x != x) = false := by simp
          have hlt2' : (k : Int) < ys.length := by omega
          go_wp2_with fail
          go_quiet (fail)
          go_wp2_with fail
          go_roundw
          case rel => exact ⟨k + 1, by go_num, by omega, take_eq_succ hlt hlt2 heq (by rw [← HX.out, ← HY.out]), _, rfl⟩
          case measure => simp [intOf]; omega
        · have hb0 : (x != y) = true := by simp [hxy]
          have hlt2' : (k : Int) < ys.length := by omega
          go_wp2_with fail
          go_quiet (fail)
          go_wp2_with fail
          go_ret
          refine ⟨?_, by first | exact ⟨_, rfl⟩ | exact ⟨_, World.drewN_drewN _ _ _⟩⟩
          have : xs ≠ ys := take_ne hlt hlt2 (by rw [← HX.out, ← HY.out]; exact hxy)
          simp [this]
      · obtain rfl : k = xs.length := by omega
        go_wp2_with fail
        go_ret
        refine ⟨?_, _, rfl⟩
        have he := heq.out
        rw [List.take_length, HL.out, List.take_length] at he
        simp [he]
  · have hne : ((xs.length : Int) != (ys.length : Int)) = true := by simp; omega
    have hn : xs ≠ ys := fun e => hl (by rw [e])
    go_enter Try.func78, Try.ntmps78
    go_wp2_with fail
    go_ret
    exact ⟨by simp [hn], 0, rfl⟩


def sameR (r s : RowsD) : Bool := (r.vars == s.vars) && (sameF r.nums s.nums && (sameF r.bnds s.bnds && sameF r.gains s.gains))
theorem l01SameAll_b (q : Bool) (v v' : Value) (xs ys : List Nat) (w : World) (h : RdF w v xs) (h' : RdF w v' ys) (hx : BitsF xs) (hy : BitsF ys) (hq : sameF xs ys = q) :
    Calls Try.prog 115 #[v, v'] w fun e w' => e = .returned (.bool q) ∧ ∃ n, w' = w.drewN n := by
  subst hq
  exact l01SameAll_any v v' xs ys w h h' hx hy

set_option maxHeartbeats 4000000 in
set_option maxRecDepth 4000 in
theorem l02Same_any (b1 b2 : Nat) (r s : RowsD) (p1 : Option Addr) (P1' : Nat) (p2 : Option Addr) (P2' : Nat) (p3 : Option Addr) (P3' : Nat) (q1 : Option Addr) (Q1' : Nat) (q2 : Option Addr) (Q2' : Nat) (q3 : Option Addr) (Q3' : Nat) (w : World) (c0 : w.cell? ⟨b1, 0, none⟩ = some (.int .i64 r.vars)) (c1 : w.cell? ⟨b1, 1, none⟩ = some (.slice p1 r.nums.length P1')) (c2 : w.cell? ⟨b1, 2, none⟩ = some (.slice p2 r.bnds.length P2')) (c3 : w.cell? ⟨b1, 3, none⟩ = some (.slice p3 r.gains.length P3')) (e0 : w.cell? ⟨b2, 0, none⟩ = some (.int .i64 s.vars)) (e1 : w.cell? ⟨b2, 1, none⟩ = some (.slice q1 s.nums.length Q1')) (e2 : w.cell? ⟨b2, 2, none⟩ = some (.slice q2 s.bnds.length Q2')) (e3 : w.cell? ⟨b2, 3, none⟩ = some (.slice q3 s.gains.length Q3'))
    (h : RdR w (.agg #[.int .i64 r.vars, .slice p1 r.nums.length P1', .slice p2 r.bnds.length P2', .slice p3 r.gains.length P3']) r) (h' : RdR w (.agg #[.int .i64 s.vars, .slice q1 s.nums.length Q1', .slice q2 s.bnds.length Q2', .slice q3 s.gains.length Q3']) s)
    (x1 : BitsF r.nums) (x2 : BitsF r.bnds) (x3 : BitsF r.gains) (y1 : BitsF s.nums) (y2 : BitsF s.bnds) (y3 : BitsF s.gains) :
    Calls Try.prog 77 #[.pointer (some ⟨b1, 0, none⟩), .pointer (some ⟨b2, 0, none⟩)] w fun e w' => e = .returned (.bool (sameR r s)) ∧ ∃ n, w' = w.drewN n := by
  obtain ⟨f1, f2, f3⟩ := h.parts
  obtain ⟨g1, g2, g3⟩ := h'.parts
  have P1 := Lib.hid f1
  have P2 := Lib.hid f2
  have P3 := Lib.hid f3
  have Q1 := Lib.hid g1
  have Q2 := Lib.hid g2
  have Q3 := Lib.hid g3
  have B1 := Lib.hid x1
  have B2 := Lib.hid x2
  have B3 := Lib.hid x3
  have D1 := Lib.hid y1
  have D2 := Lib.hid y2
  have D3 := Lib.hid y3
  obtain ⟨k1, hk1⟩ : ∃ k, sameF r.nums s.nums = k := ⟨_, rfl⟩
  obtain ⟨k2, hk2⟩ : ∃ k, sameF r.bnds s.bnds = k := ⟨_, rfl⟩
  obtain ⟨k3, hk3⟩ : ∃ k, sameF r.gains s.gains = k := ⟨_, rfl⟩
  have K1 := Lib.hid hk1
  have K2 := Lib.hid hk2
  have K3 := Lib.hid hk3
  have HS := Lib.hid (show sameR r s = ((r.vars == s.vars) && (k1 && (k2 && k3))) by unfold sameR; rw [hk1, hk2, hk3])
  have hR1 : ∀ X, Hid (∃ n, X = w.drewN n) → RdF X (.slice p1 r.nums.length P1') r.nums := by rintro X ⟨n, rfl⟩; exact f1.drewN n
  have hR2 : ∀ X, Hid (∃ n, X = w.drewN n) → RdF X (.slice p2 r.bnds.length P2') r.bnds := by rintro X ⟨n, rfl⟩; exact f2.drewN n
  have hR3 : ∀ X, Hid (∃ n, X = w.drewN n) → RdF X (.slice p3 r.gains.length P3') r.gains := by rintro X ⟨n, rfl⟩; exact f3.drewN n
  have hS1 : ∀ X, Hid (∃ n, X = w.drewN n) → RdF X (.slice q1 s.nums.length Q1') s.nums := by rintro X ⟨n, rfl⟩; exact g1.drewN n
  have hS2 : ∀ X, Hid (∃ n, X = w.drewN n) → RdF X (.slice q2 s.bnds.length Q2') s.bnds := by rintro X ⟨n, rfl⟩; exact g2.drewN n
  have hS3 : ∀ X, Hid (∃ n, X = w.drewN n) → RdF X (.slice q3 s.gains.length Q3') s.gains := by rintro X ⟨n, rfl⟩; exact g3.drewN n
  have hW : ∀ X m, Hid (∃ n, X = w.drewN n) → Hid (∃ n, X.drewN m = w.drewN n) := by rintro X m ⟨n, rfl⟩; exact drewN_ex ⟨n, rfl⟩ m
  clear h h' f1 f2 f3 g1 g2 g3 x1 x2 x3 y1 y2 y3 hk1 hk2 hk3
  cases hv : (r.vars == s.vars)
  · have HN := Lib.hid (show sameR r s = false by rw [HS.out, hv]; rfl)
    go_enter Try.func77, Try.ntmps77
    go_wp2_with fail
    refine wp_region_cls (fun X => X.cell? ⟨b1, 0, none⟩ = some (.int .i64 r.vars) ∧ X.cell? ⟨b1, 1, none⟩ = some (.slice p1 r.nums.length P1') ∧ X.cell? ⟨b1, 2, none⟩ = some (.slice p2 r.bnds.length P2') ∧ X.cell? ⟨b1, 3, none⟩ = some (.slice p3 r.gains.length P3') ∧ X.cell? ⟨b2, 0, none⟩ = some (.int .i64 s.vars) ∧ X.cell? ⟨b2, 1, none⟩ = some (.slice q1 s.nums.length Q1') ∧ X.cell? ⟨b2, 2, none⟩ = some (.slice q2 s.bnds.length Q2') ∧ X.cell? ⟨b2, 3, none⟩ = some (.slice q3 s.gains.length Q3') ∧ Hid (∃ n, X = w.drewN n)) (by kernel_rfl) (by kernel_rfl) (⟨c0, c1, c2, c3, e0, e1, e2, e3, ⟨1, rfl⟩⟩) ?_
    repeat (first
      | go_big_quiet_skip
      | (refine q_step (by kernel_rfl) ?_
         apply Exists.intro
         refine ⟨fun X hX => ?_, ?_⟩
         · (try dsimp only at hX)
           go_simp
           (first | with_reducible rfl | done | (first | (go_at_call_of 115 p1; refine (l01SameAll_b _ _ _ r.nums s.nums X (hR1 X hX.2.2.2.2.2.2.2.2) (hS1 X hX.2.2.2.2.2.2.2.2) B1.out D1.out K1.out).mono ?_; rintro e w1 ⟨rfl, m, rfl⟩; exact ⟨rfl, hX.1, hX.2.1, hX.2.2.1, hX.2.2.2.1, hX.2.2.2.2.1, hX.2.2.2.2.2.1, hX.2.2.2.2.2.2.1, hX.2.2.2.2.2.2.2.1, hW X m hX.2.2.2.2.2.2.2.2⟩) | (go_at_call_of 115 p2; refine (l01SameAll_b _ _ _ r.bnds s.bnds X (hR2 X hX.2.2.2.2.2.2.2.2) (hS2 X hX.2.2.2.2.2.2.2.2) B2.out D2.out K2.out).mono ?_; rintro e w1 ⟨rfl, m, rfl⟩; exact ⟨rfl, hX.1, hX.2.1, hX.2.2.1, hX.2.2.2.1, hX.2.2.2.2.1, hX.2.2.2.2.2.1, hX.2.2.2.2.2.2.1, hX.2.2.2.2.2.2.2.1, hW X m hX.2.2.2.2.2.2.2.2⟩) | (go_at_call_of 115 p3; refine (l01SameAll_b _ _ _ r.gains s.gains X (hR3 X hX.2.2.2.2.2.2.2.2) (hS3 X hX.2.2.2.2.2.2.2.2) B3.out D3.out K3.out).mono ?_; rintro e w1 ⟨rfl, m, rfl⟩; exact ⟨rfl, hX.1, hX.2.1, hX.2.2.1, hX.2.2.2.1, hX.2.2.2.2.1, hX.2.2.2.2.2.1, hX.2.2.2.2.2.2.1, hX.2.2.2.2.2.2.2.1, hW X m hX.2.2.2.2.2.2.2.2⟩)))
         (try simp only [Act.put, List.setIfInBounds_toArray, List.set_cons_zero, List.set_cons_succ])))
    refine wpQuiet_nil ?_
    intro w1 hC
    (try dsimp only at hC)
    go_wp2_with fail
    go_ret
    exact ⟨by rw [HN.out]; rfl, hC.2.2.2.2.2.2.2.2.out⟩
  cases k1
  · have HN := Lib.hid (show sameR r s = false by rw [HS.out, hv]; rfl)
    go_enter Try.func77, Try.ntmps77
    go_wp2_with fail
    refine wp_region_cls (fun X => X.cell? ⟨b1, 0, none⟩ = some (.int .i64 r.vars) ∧ X.cell? ⟨b1, 1, none⟩ = some (.slice p1 r.nums.length P1') ∧ X.cell? ⟨b1, 2, none⟩ = some (.slice p2 r.bnds.length P2') ∧ X.cell? ⟨b1, 3, none⟩ = some (.slice p3 r.gains.length P3') ∧ X.cell? ⟨b2, 0, none⟩ = some (.int .i64 s.vars) ∧ X.cell? ⟨b2, 1, none⟩ = some (.slice q1 s.nums.length Q1') ∧ X.cell? ⟨b2, 2, none⟩ = some (.slice q2 s.bnds.length Q2') ∧ X.cell? ⟨b2, 3, none⟩ = some (.slice q3 s.gains.length Q3') ∧ Hid (∃ n, X = w.drewN n)) (by kernel_rfl) (by kernel_rfl) (⟨c0, c1, c2, c3, e0, e1, e2, e3, ⟨1, rfl⟩⟩) ?_
    repeat (first
      | go_big_quiet_skip
      | (refine q_step (by kernel_rfl) ?_
         apply Exists.intro
         refine ⟨fun X hX => ?_, ?_⟩
         · (try dsimp only at hX)
           go_simp
           (first | with_reducible rfl | done | (first | (go_at_call_of 115 p1; refine (l01SameAll_b _ _ _ r.nums s.nums X (hR1 X hX.2.2.2.2.2.2.2.2) (hS1 X hX.2.2.2.2.2.2.2.2) B1.out D1.out K1.out).mono ?_; rintro e w1 ⟨rfl, m, rfl⟩; exact ⟨rfl, hX.1, hX.2.1, hX.2.2.1, hX.2.2.2.1, hX.2.2.2.2.1, hX.2.2.2.2.2.1, hX.2.2.2.2.2.2.1, hX.2.2.2.2.2.2.2.1, hW X m hX.2.2.2.2.2.2.2.2⟩) | (go_at_call_of 115 p2; refine (l01SameAll_b _ _ _ r.bnds s.bnds X (hR2 X hX.2.2.2.2.2.2.2.2) (hS2 X hX.2.2.2.2.2.2.2.2) B2.out D2.out K2.out).mono ?_; rintro e w1 ⟨rfl, m, rfl⟩; exact ⟨rfl, hX.1, hX.2.1, hX.2.2.1, hX.2.2.2.1, hX.2.2.2.2.1, hX.2.2.2.2.2.1, hX.2.2.2.2.2.2.1, hX.2.2.2.2.2.2.2.1, hW X m hX.2.2.2.2.2.2.2.2⟩) | (go_at_call_of 115 p3; refine (l01SameAll_b _ _ _ r.gains s.gains X (hR3 X hX.2.2.2.2.2.2.2.2) (hS3 X hX.2.2.2.2.2.2.2.2) B3.out D3.out K3.out).mono ?_; rintro e w1 ⟨rfl, m, rfl⟩; exact ⟨rfl, hX.1, hX.2.1, hX.2.2.1, hX.2.2.2.1, hX.2.2.2.2.1, hX.2.2.2.2.2.1, hX.2.2.2.2.2.2.1, hX.2.2.2.2.2.2.2.1, hW X m hX.2.2.2.2.2.2.2.2⟩)))
         (try simp only [Act.put, List.setIfInBounds_toArray, List.set_cons_zero, List.set_cons_succ])))
    refine wpQuiet_nil ?_
    intro w1 hC
    (try dsimp only at hC)
    go_wp2_with fail
    go_ret
    exact ⟨by rw [HN.out]; rfl, hC.2.2.2.2.2.2.2.2.out⟩
  cases k2
  · have HN := Lib.hid (show sameR r s = false by rw [HS.out, hv]; rfl)
    go_enter Try.func77, Try.ntmps77
    go_wp2_with fail
    refine wp_region_cls (fun X => X.cell? ⟨b1, 0, none⟩ = some (.int .i64 r.vars) ∧ X.cell? ⟨b1, 1, none⟩ = some (.slice p1 r.nums.length P1') ∧ X.cell? ⟨b1, 2, none⟩ = some (.slice p2 r.bnds.length P2') ∧ X.cell? ⟨b1, 3, none⟩ = some (.slice p3 r.gains.length P3') ∧ X.cell? ⟨b2, 0, none⟩ = some (.int .i64 s.vars) ∧ X.cell? ⟨b2, 1, none⟩ = some (.slice q1 s.nums.length Q1') ∧ X.cell? ⟨b2, 2, none⟩ = some (.slice q2 s.bnds.length Q2') ∧ X.cell? ⟨b2, 3, none⟩ = some (.slice q3 s.gains.length Q3') ∧ Hid (∃ n, X = w.drewN n)) (by kernel_rfl) (by kernel_rfl) (⟨c0, c1, c2, c3, e0, e1, e2, e3, ⟨1, rfl⟩⟩) ?_
    repeat (first
      | go_big_quiet_skip
      | (refine q_step (by kernel_rfl) ?_
         apply Exists.intro
         refine ⟨fun X hX => ?_, ?_⟩
         · (try dsimp only at hX)
           go_simp
           (first | with_reducible rfl | done | (first | (go_at_call_of 115 p1; refine (l01SameAll_b _ _ _ r.nums s.nums X (hR1 X hX.2.2.2.2.2.2.2.2) (hS1 X hX.2.2.2.2.2.2.2.2) B1.out D1.out K1.out).mono ?_; rintro e w1 ⟨rfl, m, rfl⟩; exact ⟨rfl, hX.1, hX.2.1, hX.2.2.1, hX.2.2.2.1, hX.2.2.2.2.1, hX.2.2.2.2.2.1, hX.2.2.2.2.2.2.1, hX.2.2.2.2.2.2.2.1, hW X m hX.2.2.2.2.2.2.2.2⟩) | (go_at_call_of 115 p2; refine (l01SameAll_b _ _ _ r.bnds s.bnds X (hR2 X hX.2.2.2.2.2.2.2.2) (hS2 X hX.2.2.2.2.2.2.2.2) B2.out D2.out K2.out).mono ?_; rintro e w1 ⟨rfl, m, rfl⟩; exact ⟨rfl, hX.1, hX.2.1, hX.2.2.1, hX.2.2.2.1, hX.2.2.2.2.1, hX.2.2.2.2.2.1, hX.2.2.2.2.2.2.1, hX.2.2.2.2.2.2.2.1, hW X m hX.2.2.2.2.2.2.2.2⟩) | (go_at_call_of 115 p3; refine (l01SameAll_b _ _ _ r.gains s.gains X (hR3 X hX.2.2.2.2.2.2.2.2) (hS3 X hX.2.2.2.2.2.2.2.2) B3.out D3.out K3.out).mono ?_; rintro e w1 ⟨rfl, m, rfl⟩; exact ⟨rfl, hX.1, hX.2.1, hX.2.2.1, hX.2.2.2.1, hX.2.2.2.2.1, hX.2.2.2.2.2.1, hX.2.2.2.2.2.2.1, hX.2.2.2.2.2.2.2.1, hW X m hX.2.2.2.2.2.2.2.2⟩)))
         (try simp only [Act.put, List.setIfInBounds_toArray, List.set_cons_zero, List.set_cons_succ])))
    refine wpQuiet_nil ?_
    intro w1 hC
    (try dsimp only at hC)
    go_wp2_with fail
    go_ret
    exact ⟨by rw [HN.out]; rfl, hC.2.2.2.2.2.2.2.2.out⟩
  have HN := Lib.hid (show sameR r s = k3 by rw [HS.out, hv]; rfl)
  go_enter Try.func77, Try.ntmps77
  go_wp2_with fail
  refine wp_region_cls (fun X => X.cell? ⟨b1, 0, none⟩ = some (.int .i64 r.vars) ∧ X.cell? ⟨b1, 1, none⟩ = some (.slice p1 r.nums.length P1') ∧ X.cell? ⟨b1, 2, none⟩ = some (.slice p2 r.bnds.length P2') ∧ X.cell? ⟨b1, 3, none⟩ = some (.slice p3 r.gains.length P3') ∧ X.cell? ⟨b2, 0, none⟩ = some (.int .i64 s.vars) ∧ X.cell? ⟨b2, 1, none⟩ = some (.slice q1 s.nums.length Q1') ∧ X.cell? ⟨b2, 2, none⟩ = some (.slice q2 s.bnds.length Q2') ∧ X.cell? ⟨b2, 3, none⟩ = some (.slice q3 s.gains.length Q3') ∧ Hid (∃ n, X = w.drewN n)) (by kernel_rfl) (by kernel_rfl) (⟨c0, c1, c2, c3, e0, e1, e2, e3, ⟨1, rfl⟩⟩) ?_
  repeat (first
    | go_big_quiet_skip
    | (refine q_step (by kernel_rfl) ?_
       apply Exists.intro
       refine ⟨fun X hX => ?_, ?_⟩
       · (try dsimp only at hX)
         go_simp
         (first | with_reducible rfl | done | (first | (go_at_call_of 115 p1; refine (l01SameAll_b _ _ _ r.nums s.nums X (hR1 X hX.2.2.2.2.2.2.2.2) (hS1 X hX.2.2.2.2.2.2.2.2) B1.out D1.out K1.out).mono ?_; rintro e w1 ⟨rfl, m, rfl⟩; exact ⟨rfl, hX.1, hX.2.1, hX.2.2.1, hX.2.2.2.1, hX.2.2.2.2.1, hX.2.2.2.2.2.1, hX.2.2.2.2.2.2.1, hX.2.2.2.2.2.2.2.1, hW X m hX.2.2.2.2.2.2.2.2⟩) | (go_at_call_of 115 p2; refine (l01SameAll_b _ _ _ r.bnds s.bnds X (hR2 X hX.2.2.2.2.2.2.2.2) (hS2 X hX.2.2.2.2.2.2.2.2) B2.out D2.out K2.out).mono ?_; rintro e w1 ⟨rfl, m, rfl⟩; exact ⟨rfl, hX.1, hX.2.1, hX.2.2.1, hX.2.2.2.1, hX.2.2.2.2.1, hX.2.2.2.2.2.1, hX.2.2.2.2.2.2.1, hX.2.2.2.2.2.2.2.1, hW X m hX.2.2.2.2.2.2.2.2⟩) | (go_at_call_of 115 p3; refine (l01SameAll_b _ _ _ r.gains s.gains X (hR3 X hX.2.2.2.2.2.2.2.2) (hS3 X hX.2.2.2.2.2.2.2.2) B3.out D3.out K3.out).mono ?_; rintro e w1 ⟨rfl, m, rfl⟩; exact ⟨rfl, hX.1, hX.2.1, hX.2.2.1, hX.2.2.2.1, hX.2.2.2.2.1, hX.2.2.2.2.2.1, hX.2.2.2.2.2.2.1, hX.2.2.2.2.2.2.2.1, hW X m hX.2.2.2.2.2.2.2.2⟩)))
       (try simp only [Act.put, List.setIfInBounds_toArray, List.set_cons_zero, List.set_cons_succ])))
  refine wpQuiet_nil ?_
  intro w1 hC
  (try dsimp only at hC)
  go_wp2_with fail
  go_ret
  exact ⟨by rw [HN.out]; rfl, hC.2.2.2.2.2.2.2.2.out⟩

end Go.Proofs.Ytljhohacgceojaa
