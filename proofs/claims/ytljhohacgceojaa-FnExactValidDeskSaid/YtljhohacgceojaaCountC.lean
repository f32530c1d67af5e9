/-
  Ways between cities: how many cities, by the reference.
-/
import Derived.Test.YtljhohacgceojaaDeskS
namespace Go.Proofs.Ytljhohacgceojaa
open Go.RowKit

def countC (xs : List Int) : Int := if areCitiesB xs = true then citN xs.length else 0

theorem countC_no {xs : List Int} (h : areCitiesB xs = false) : countC xs = 0 := by unfold countC; rw [h]; rfl

set_option maxHeartbeats 4000000 in
set_option maxRecDepth 4000 in
theorem l04Count_any (v : Value) (xs : List Int) (w : World) (h : RdI w v xs) :
    Calls Try.prog 138 #[v] w fun e w' => e = .returned (.int .i64 (countC xs)) ∧ Below w.heap.size w w' := by
  have HP := Lib.hid h
  obtain ⟨a, c, rfl⟩ := h.shape
  have hm := h.len
  simp only [maxLen] at hm
  clear h
  go_enter Try.func138, Try.ntmps138
  go_wp2_with fail
  go_loop [3] (fun i => ∃ k : Nat, i = .int .i64 k ∧ 1 ≤ k ∧ k ≤ 10 ∧ Hid (∀ j, 1 ≤ j → j < k → j * j < xs.length)) (fun i => 11 - (intOf i).toNat)
  case atStart => exact ⟨1, rfl, by omega, by omega, fun j hj hk => by omega⟩
  case round =>
    obtain ⟨n, rfl, h1, h10, hlow⟩ := hrel
    have hkk : (n : Int) * (n : Int) ≤ 100 := by
      calc (n : Int) * (n : Int) ≤ 10 * 10 := Int.mul_le_mul (by omega) (by omega) (by omega) (by decide)
        _ = 100 := by decide
    have hk0 : (0 : Int) ≤ (n : Int) * (n : Int) := Int.mul_nonneg (by omega) (by omega)
    have hnn : ((n * n : Nat) : Int) = (n : Int) * n := by push_cast; rfl
    by_cases hgo : n < 10 ∧ n * n < xs.length
    · have hlt : (n : Int) < 10 := by omega
      have hlt2 : (n : Int) * (n : Int) < (xs.length : Int) := by omega
      have HG := Lib.hid hgo
      clear hgo hnn
      go_wp2_with fail
      go_round
      case rel => exact ⟨n + 1, by go_num, by omega, by omega, fun j hj hk => by
        by_cases e : j < n
        · exact hlow.out j hj e
        · obtain rfl : j = n := by omega
          exact HG.out.2⟩
      case measure => simp [intOf]; omega
    have hend : ¬ (n < 10) ∨ ((n : Int) < 10 ∧ ¬ (n : Int) * n < xs.length) := by
      by_cases e : n < 10
      · exact .inr ⟨by omega, fun h => hgo ⟨e, by omega⟩⟩
      · exact .inl e
    have HNO := Lib.hid (show n * n ≠ xs.length → areCitiesB xs = false from fun hne => areCities_not fun j a b e => by
      by_cases hj : j < n
      · have := hlow.out j a hj; omega
      · by_cases hjn : j = n
        · subst hjn; exact hne e
        · have : n * n < j * j := Nat.mul_self_lt_mul_self (by omega)
          omega)
    by_cases heq : n * n = xs.length
    case neg =>
      have HN := Lib.hid (countC_no (HNO.out heq))
      have hne : ((n : Int) * (n : Int) != (xs.length : Int)) = true := by rw [bne_iff_ne]; omega
      clear hgo heq hnn
      rcases hend with h | ⟨h, h'⟩
      · obtain rfl : n = 10 := by omega
        go_wp2_with fail
        go_ret
        exact ⟨by rw [HN.out]; rfl, Below.refl _ _⟩
      · go_wp2_with fail
        go_ret
        exact ⟨by rw [HN.out]; rfl, Below.refl _ _⟩
    have hne : ((n : Int) * (n : Int) != (xs.length : Int)) = false := by rw [bne_eq_false_iff_eq]; omega
    have HEQ := Lib.hid heq
    have HAC := Lib.hid (areCities_spec h1 h10 heq)
    have HCN := Lib.hid (citN_eq h1 h10 heq)
    clear hgo heq hnn
    rcases hend with h | ⟨h, h'⟩
    · have hge : ¬ (n : Int) < 10 := by omega
      clear h
      have HB0 := Lib.hid (Below.refl w.heap.size w)
      go_wp2_with fail
      go_loopw [4] (fun i wr => ∃ k : Nat, i = .int .i64 k ∧ k ≤ n ∧ Hid (∀ j, j < k → allB n (fun k => inB 0 1000 (xs.getD (j * n + k) 0) && symB n xs j k) = true) ∧ Hid (Below w.heap.size w wr)) (fun i _ => n - (intOf i).toNat)
      case atStart => exact ⟨0, rfl, Nat.zero_le _, fun j hj => by omega, Below.refl _ _⟩
      case round =>
        obtain ⟨i, rfl, hi, hall, HB⟩ := hrel
        by_cases hin : i < n
        · have HNO := Lib.hid (show allB n (fun k => inB 0 1000 (xs.getD (i * n + k) 0) && symB n xs i k) = false → countC xs = 0 from fun h => countC_no (by rw [HAC.out, allB_false hin h]))
          obtain ⟨wo, rfl⟩ : ∃ wo, wo = wr := ⟨wr, rfl⟩
          go_wp2_with fail
          go_loopw [5] (fun k wr => ∃ j : Nat, k = .int .i64 j ∧ j ≤ n ∧ Hid (∀ m, m < j → (inB 0 1000 (xs.getD (i * n + m) 0) && symB n xs i m) = true) ∧ Hid (Below w.heap.size w wr)) (fun k _ => n - (intOf k).toNat)
          case atStart => exact ⟨0, rfl, Nat.zero_le _, fun j hj => by omega, HB⟩
          case round =>
            obtain ⟨j, rfl, hj, hall2, HB2⟩ := hrel
            by_cases hjl : j < n
            · obtain ⟨f1, f2, f3, f4, f5, f6, f7⟩ := ix_facts HEQ.out.symm h10 hin hjl
              obtain ⟨g1, g2, g3, g4, g5, g6, g7⟩ := ix_facts HEQ.out.symm h10 hjl hin
              obtain ⟨b, off, rfl, hb, hc⟩ := (HP.out.up HB2.out (Nat.le_refl _)).at f7
              obtain ⟨_, _, e, _, hc3⟩ := (HP.out.up HB2.out (Nat.le_refl _)).at g7
              simp only [Option.some.injEq, Addr.mk.injEq, and_true] at e
              obtain ⟨rfl, rfl⟩ := e
              have HS := Lib.hid (show symB n xs i j = ((xs.getD (i * n + j) 0 == xs.getD (j * n + i) 0) && (!(i == j) || xs.getD (i * n + j) 0 == 0)) from rfl)
              obtain ⟨x, hx⟩ : ∃ x, x = xs.getD (i * n + j) 0 := ⟨_, rfl⟩
              have HX := Lib.hid hx
              have hjl' : (j : Int) < n := by omega
              rw [← hx] at hc HS
              by_cases hin2 : inB 0 1000 x = true
              case neg =>
                have hin3 : inB 0 1000 x = false := by simpa using hin2
                have HBAD := Lib.hid (HNO.out (allB_false hjl (by rw [← hx, hin3]; rfl)))
                clear hin2 hx
                go_wp2_with fail
                go_quiet ((go_at_call 134; exact quiet_same (in_any _ _ _ _)))
                go_wp2_with fail
                go_ret
                exact ⟨by rw [HBAD.out]; rfl, below_drewN HB2.out _⟩
              by_cases hij : i = j
              · subst hij
                rw [← hx] at hc3 HS
                clear hx
                have hne : (x != x) = false := by simp
                have hee : ((i : Int) == (i : Int)) = true := by simp
                by_cases hx0 : x = 0
                · have HOK := Lib.hid (show symB n xs i i = true by rw [HS.out, hx0]; simp)
                  have HOK2 := Lib.hid (show (inB 0 1000 (xs.getD (i * n + i) 0) && symB n xs i i) = true by rw [← HX.out, hin2, HOK.out]; rfl)
                  subst hx0
                  go_wp2_with fail
                  go_quiet ((go_at_call 134; exact quiet_same (in_any _ _ _ _)))
                  go_wp2_with fail
                  go_roundw
                  case rel => exact ⟨i + 1, by go_num, by omega, fun m hm => by
                    rcases Nat.lt_succ_iff_lt_or_eq.1 hm with h | rfl
                    · exact hall2.out m h
                    · exact HOK2.out, below_drewN HB2.out _⟩
                  case measure => simp [intOf]; omega
                · have hx1 : (x != 0) = true := by simpa using hx0
                  have HBAD := Lib.hid (HNO.out (allB_false hjl (by rw [HS.out]; simp [hx0])))
                  clear hx0
                  go_wp2_with fail
                  go_quiet ((go_at_call 134; exact quiet_same (in_any _ _ _ _)))
                  go_wp2_with fail
                  go_ret
                  exact ⟨by rw [HBAD.out]; rfl, below_drewN HB2.out _⟩
              · obtain ⟨y, hy⟩ : ∃ y, y = xs.getD (j * n + i) 0 := ⟨_, rfl⟩
                rw [← hy] at hc3 HS
                clear hx hy
                have hee : ((i : Int) == (j : Int)) = false := by rw [beq_eq_false_iff_ne]; omega
                have hee' : (i == j) = false := by rw [beq_eq_false_iff_ne]; exact hij
                by_cases hxy : x = y
                · have HOK := Lib.hid (show symB n xs i j = true by rw [HS.out, hxy, hee']; simp)
                  have HOK2 := Lib.hid (show (inB 0 1000 (xs.getD (i * n + j) 0) && symB n xs i j) = true by rw [← HX.out, hin2, HOK.out]; rfl)
                  subst hxy
                  have hne : (x != x) = false := by simp
                  go_wp2_with fail
                  go_quiet ((go_at_call 134; exact quiet_same (in_any _ _ _ _)))
                  go_wp2_with fail
                  go_roundw
                  case rel => exact ⟨j + 1, by go_num, by omega, fun m hm => by
                    rcases Nat.lt_succ_iff_lt_or_eq.1 hm with h | rfl
                    · exact hall2.out m h
                    · exact HOK2.out, below_drewN HB2.out _⟩
                  case measure => simp [intOf]; omega
                · have hne : (x != y) = true := by simpa using hxy
                  have HBAD := Lib.hid (HNO.out (allB_false hjl (by rw [HS.out]; simp [hxy])))
                  clear hxy
                  go_wp2_with fail
                  go_quiet ((go_at_call 134; exact quiet_same (in_any _ _ _ _)))
                  go_wp2_with fail
                  go_ret
                  exact ⟨by rw [HBAD.out]; rfl, below_drewN HB2.out _⟩
            · obtain rfl : j = n := by omega
              have HOK := Lib.hid (allB_true hall2.out)
              clear hall2
              go_wp2_with fail
              go_roundw
              case rel => exact ⟨i + 1, by go_num, by omega, fun m hm => by
                rcases Nat.lt_succ_iff_lt_or_eq.1 hm with h | rfl
                · exact hall.out m h
                · exact HOK.out, HB2⟩
              case measure => simp [intOf]; omega
        · obtain rfl : i = n := by omega
          have HN := Lib.hid (show countC xs = (i : Int) by unfold countC; rw [HAC.out, allB_true hall.out, if_pos rfl]; exact HCN.out)
          go_wp2_with fail
          go_ret
          exact ⟨by rw [HN.out]; rfl, HB.out⟩
    · have HB0 := Lib.hid (Below.refl w.heap.size w)
      go_wp2_with fail
      go_loopw [4] (fun i wr => ∃ k : Nat, i = .int .i64 k ∧ k ≤ n ∧ Hid (∀ j, j < k → allB n (fun k => inB 0 1000 (xs.getD (j * n + k) 0) && symB n xs j k) = true) ∧ Hid (Below w.heap.size w wr)) (fun i _ => n - (intOf i).toNat)
      case atStart => exact ⟨0, rfl, Nat.zero_le _, fun j hj => by omega, Below.refl _ _⟩
      case round =>
        obtain ⟨i, rfl, hi, hall, HB⟩ := hrel
        by_cases hin : i < n
        · have HNO := Lib.hid (show allB n (fun k => inB 0 1000 (xs.getD (i * n + k) 0) && symB n xs i k) = false → countC xs = 0 from fun h => countC_no (by rw [HAC.out, allB_false hin h]))
          obtain ⟨wo, rfl⟩ : ∃ wo, wo = wr := ⟨wr, rfl⟩
          go_wp2_with fail
          go_loopw [5] (fun k wr => ∃ j : Nat, k = .int .i64 j ∧ j ≤ n ∧ Hid (∀ m, m < j → (inB 0 1000 (xs.getD (i * n + m) 0) && symB n xs i m) = true) ∧ Hid (Below w.heap.size w wr)) (fun k _ => n - (intOf k).toNat)
          case atStart => exact ⟨0, rfl, Nat.zero_le _, fun j hj => by omega, HB⟩
          case round =>
            obtain ⟨j, rfl, hj, hall2, HB2⟩ := hrel
            by_cases hjl : j < n
            · obtain ⟨f1, f2, f3, f4, f5, f6, f7⟩ := ix_facts HEQ.out.symm h10 hin hjl
              obtain ⟨g1, g2, g3, g4, g5, g6, g7⟩ := ix_facts HEQ.out.symm h10 hjl hin
              obtain ⟨b, off, rfl, hb, hc⟩ := (HP.out.up HB2.out (Nat.le_refl _)).at f7
              obtain ⟨_, _, e, _, hc3⟩ := (HP.out.up HB2.out (Nat.le_refl _)).at g7
              simp only [Option.some.injEq, Addr.mk.injEq, and_true] at e
              obtain ⟨rfl, rfl⟩ := e
              have HS := Lib.hid (show symB n xs i j = ((xs.getD (i * n + j) 0 == xs.getD (j * n + i) 0) && (!(i == j) || xs.getD (i * n + j) 0 == 0)) from rfl)
              obtain ⟨x, hx⟩ : ∃ x, x = xs.getD (i * n + j) 0 := ⟨_, rfl⟩
              have HX := Lib.hid hx
              have hjl' : (j : Int) < n := by omega
              rw [← hx] at hc HS
              by_cases hin2 : inB 0 1000 x = true
              case neg =>
                have hin3 : inB 0 1000 x = false := by simpa using hin2
                have HBAD := Lib.hid (HNO.out (allB_false hjl (by rw [← hx, hin3]; rfl)))
                clear hin2 hx
                go_wp2_with fail
                go_quiet ((go_at_call 134; exact quiet_same (in_any _ _ _ _)))
                go_wp2_with fail
                go_ret
                exact ⟨by rw [HBAD.out]; rfl, below_drewN HB2.out _⟩
              by_cases hij : i = j
              · subst hij
                rw [← hx] at hc3 HS
                clear hx
                have hne : (x != x) = false := by simp
                have hee : ((i : Int) == (i : Int)) = true := by simp
                by_cases hx0 : x = 0
                · have HOK := Lib.hid (show symB n xs i i = true by rw [HS.out, hx0]; simp)
                  have HOK2 := Lib.hid (show (inB 0 1000 (xs.getD (i * n + i) 0) && symB n xs i i) = true by rw [← HX.out, hin2, HOK.out]; rfl)
                  subst hx0
                  go_wp2_with fail
                  go_quiet ((go_at_call 134; exact quiet_same (in_any _ _ _ _)))
                  go_wp2_with fail
                  go_roundw
                  case rel => exact ⟨i + 1, by go_num, by omega, fun m hm => by
                    rcases Nat.lt_succ_iff_lt_or_eq.1 hm with h | rfl
                    · exact hall2.out m h
                    · exact HOK2.out, below_drewN HB2.out _⟩
                  case measure => simp [intOf]; omega
                · have hx1 : (x != 0) = true := by simpa using hx0
                  have HBAD := Lib.hid (HNO.out (allB_false hjl (by rw [HS.out]; simp [hx0])))
                  clear hx0
                  go_wp2_with fail
                  go_quiet ((go_at_call 134; exact quiet_same (in_any _ _ _ _)))
                  go_wp2_with fail
                  go_ret
                  exact ⟨by rw [HBAD.out]; rfl, below_drewN HB2.out _⟩
              · obtain ⟨y, hy⟩ : ∃ y, y = xs.getD (j * n + i) 0 := ⟨_, rfl⟩
                rw [← hy] at hc3 HS
                clear hx hy
                have hee : ((i : Int) == (j : Int)) = false := by rw [beq_eq_false_iff_ne]; omega
                have hee' : (i == j) = false := by rw [beq_eq_false_iff_ne]; exact hij
                by_cases hxy : x = y
                · have HOK := Lib.hid (show symB n xs i j = true by rw [HS.out, hxy, hee']; simp)
                  have HOK2 := Lib.hid (show (inB 0 1000 (xs.getD (i * n + j) 0) && symB n xs i j) = true by rw [← HX.out, hin2, HOK.out]; rfl)
                  subst hxy
                  have hne : (x != x) = false := by simp
                  go_wp2_with fail
                  go_quiet ((go_at_call 134; exact quiet_same (in_any _ _ _ _)))
                  go_wp2_with fail
                  go_roundw
                  case rel => exact ⟨j + 1, by go_num, by omega, fun m hm => by
                    rcases Nat.lt_succ_iff_lt_or_eq.1 hm with h | rfl
                    · exact hall2.out m h
                    · exact HOK2.out, below_drewN HB2.out _⟩
                  case measure => simp [intOf]; omega
                · have hne : (x != y) = true := by simpa using hxy
                  have HBAD := Lib.hid (HNO.out (allB_false hjl (by rw [HS.out]; simp [hxy])))
                  clear hxy
                  go_wp2_with fail
                  go_quiet ((go_at_call 134; exact quiet_same (in_any _ _ _ _)))
                  go_wp2_with fail
                  go_ret
                  exact ⟨by rw [HBAD.out]; rfl, below_drewN HB2.out _⟩
            · obtain rfl : j = n := by omega
              have HOK := Lib.hid (allB_true hall2.out)
              clear hall2
              go_wp2_with fail
              go_roundw
              case rel => exact ⟨i + 1, by go_num, by omega, fun m hm => by
                rcases Nat.lt_succ_iff_lt_or_eq.1 hm with h | rfl
                · exact hall.out m h
                · exact HOK.out, HB2⟩
              case measure => simp [intOf]; omega
        · obtain rfl : i = n := by omega
          have HN := Lib.hid (show countC xs = (i : Int) by unfold countC; rw [HAC.out, allB_true hall.out, if_pos rfl]; exact HCN.out)
          go_wp2_with fail
          go_ret
          exact ⟨by rw [HN.out]; rfl, HB.out⟩

end Go.Proofs.Ytljhohacgceojaa
