/-
  Ways between cities: the program's test.
-/
import Derived.Test.YtljhohacgceojaaCitiesM
namespace Go.Proofs.Ytljhohacgceojaa
open Go.RowKit

/-- The facts of an index i * n + k: as an integer, in range. -/
theorem ix_facts {L n i k : Nat} (hL : L = n * n) (hn : n ≤ 10) (hi : i < n) (hk : k < n) : (0 : Int) ≤ (i : Int) * n ∧ (i : Int) * n + k < (L : Int) ∧ (0 : Int) ≤ (i : Int) * n + k ∧ ((i : Int) * n + k).toNat = i * n + k ∧ IntKind.i64.wrap ((i : Int) * n) = (i : Int) * n ∧ IntKind.i64.wrap ((i : Int) * n + k) = (i : Int) * n + k ∧ i * n + k < L := by
  have h0 : ((i * n : Nat) : Int) = (i : Int) * n := by push_cast; rfl
  have h1 : (i + 1) * n ≤ n * n := Nat.mul_le_mul_right _ hi
  have h2 : n * n ≤ 10 * 10 := Nat.mul_le_mul hn hn
  rw [Nat.add_mul] at h1
  refine ⟨by omega, by omega, by omega, by omega, IntWalk.i64_in _ (by omega), IntWalk.i64_in _ (by omega), by omega⟩

set_option maxHeartbeats 4000000 in
set_option maxRecDepth 4000 in
theorem AreCities_any (v : Value) (xs : List Int) (w : World) (h : RdI w v xs) :
    Calls Try.prog 92 #[v] w fun e w' => e = .returned (.bool (areCitiesB xs)) ∧ Below w.heap.size w w' := by
  obtain ⟨q2, hq2⟩ : ∃ q, allIn 0 1000 xs = q := ⟨_, rfl⟩
  have HW := Lib.hid (allWithin_any v xs 0 1000 w h)
  have HCI := Lib.hid (cities_any v xs w h)
  rw [hq2] at HW
  have HP := Lib.hid h
  obtain ⟨a, c, rfl⟩ := h.shape
  have hm := h.len
  simp only [maxLen] at hm
  have HQ2 := Lib.hid hq2
  clear h hq2
  rcases citN_cases xs.length with ⟨hc1, hc2⟩ | ⟨n, hc1, h1, h10, hnn⟩
  · have HN := Lib.hid (areCities_not hc2)
    rw [hc1] at HCI
    clear hc1 hc2
    go_enter Try.func92, Try.ntmps92
    go_wp2_with fail
    refine HCI.out.mono ?_
    rintro e w' ⟨rfl, rfl⟩
    go_wp2_with fail
    go_ret
    exact ⟨by rw [HN.out]; rfl, Below.refl _ _⟩
  rw [hc1] at HCI
  have HAC := Lib.hid (show areCitiesB xs = (q2 && allB n (fun i => allB (i + 1) (fun k => symB n xs i k))) by unfold areCitiesB; rw [hc1, HQ2.out, Int.toNat_natCast]; simp)
  clear hc1
  have hn0 : decide ((n : Int) < 0) = false := by simp
  go_enter Try.func92, Try.ntmps92
  cases q2
  · have HN := Lib.hid (show areCitiesB xs = false by rw [HAC.out]; rfl)
    go_wp2_with fail
    refine HCI.out.mono ?_
    rintro e w' ⟨rfl, rfl⟩
    go_wp2_with fail
    refine HW.out.mono ?_
    rintro e w' ⟨rfl, rfl⟩
    go_wp2_with fail
    go_ret
    exact ⟨by rw [HN.out]; rfl, Below.refl _ _⟩
  go_wp2_with fail
  refine HCI.out.mono ?_
  rintro e w' ⟨rfl, rfl⟩
  go_wp2_with fail
  refine HW.out.mono ?_
  rintro e w' ⟨rfl, rfl⟩
  go_wp2_with fail
  have HNN := Lib.hid hnn
  clear hnn
  go_loopw [4] (fun i wr => ∃ k : Nat, i = .int .i64 k ∧ k ≤ n ∧ Hid (∀ j, j < k → allB (j + 1) (fun k => symB n xs j k) = true) ∧ Hid (Below w.heap.size w wr)) (fun i _ => n - (intOf i).toNat)
  case atStart => exact ⟨0, rfl, Nat.zero_le _, fun j hj => by omega, Below.refl _ _⟩
  case round =>
    obtain ⟨i, rfl, hi, hall, HB⟩ := hrel
    by_cases hin : i < n
    · have HNO := Lib.hid (show allB (i + 1) (fun k => symB n xs i k) = false → areCitiesB xs = false from fun h => by rw [HAC.out, allB_false hin h, Bool.and_false])
      obtain ⟨wo, rfl⟩ : ∃ wo, wo = wr := ⟨wr, rfl⟩
      go_wp2_with fail
      go_loopw [5] (fun k wr => ∃ j : Nat, k = .int .i64 j ∧ j ≤ i + 1 ∧ Hid (∀ m, m < j → symB n xs i m = true) ∧ Hid (Below w.heap.size w wr)) (fun k _ => i + 1 - (intOf k).toNat)
      case atStart => exact ⟨0, rfl, Nat.zero_le _, fun j hj => by omega, HB⟩
      case round =>
        obtain ⟨j, rfl, hj, hall2, HB2⟩ := hrel
        by_cases hjl : j < i + 1
        · obtain ⟨f1, f2, f3, f4, f5, f6, f7⟩ := ix_facts HNN.out.symm h10 hin (show j < n by omega)
          obtain ⟨g1, g2, g3, g4, g5, g6, g7⟩ := ix_facts HNN.out.symm h10 (show j < n by omega) hin
          obtain ⟨b, off, rfl, hb, hc⟩ := (HP.out.up HB2.out (Nat.le_refl _)).at f7
          obtain ⟨_, _, e, _, hc3⟩ := (HP.out.up HB2.out (Nat.le_refl _)).at g7
          simp only [Option.some.injEq, Addr.mk.injEq, and_true] at e
          obtain ⟨rfl, rfl⟩ := e
          have HS := Lib.hid (show symB n xs i j = ((xs.getD (i * n + j) 0 == xs.getD (j * n + i) 0) && (!(i == j) || xs.getD (i * n + j) 0 == 0)) from rfl)
          have hjle : decide ((j : Int) ≤ (i : Int)) = true := by simp; omega
          by_cases hij : i = j
          · subst hij
            obtain ⟨x, hx⟩ : ∃ x, x = xs.getD (i * n + i) 0 := ⟨_, rfl⟩
            rw [← hx] at hc hc3 HS
            clear hx
            have hne : (x != x) = false := by simp
            have hee : ((i : Int) == (i : Int)) = true := by simp
            by_cases hx0 : x = 0
            · have HOK := Lib.hid (show symB n xs i i = true by rw [HS.out, hx0]; simp)
              subst hx0
              go_wp2_with fail
              go_quiet (fail)
              go_wp2_with fail
              go_roundw
              case rel => exact ⟨i + 1, by go_num, by omega, fun m hm => by
                rcases Nat.lt_succ_iff_lt_or_eq.1 hm with h | rfl
                · exact hall2.out m h
                · exact HOK.out, below_drewN HB2.out _⟩
              case measure => simp [intOf]
            · have hx1 : (x != 0) = true := by simpa using hx0
              have HBAD := Lib.hid (HNO.out (allB_false hjl (by rw [HS.out]; simp [hx0])))
              clear hx0
              go_wp2_with fail
              go_quiet (fail)
              go_wp2_with fail
              go_ret
              exact ⟨by rw [HBAD.out]; rfl, below_drewN HB2.out _⟩
          · obtain ⟨x, hx⟩ : ∃ x, x = xs.getD (i * n + j) 0 := ⟨_, rfl⟩
            obtain ⟨y, hy⟩ : ∃ y, y = xs.getD (j * n + i) 0 := ⟨_, rfl⟩
            rw [← hx] at hc HS
            rw [← hy] at hc3 HS
            clear hx hy
            have hee : ((i : Int) == (j : Int)) = false := by simp; omega
            have hee' : (i == j) = false := by simp; omega
            by_cases hxy : x = y
            · have HOK := Lib.hid (show symB n xs i j = true by rw [HS.out, hxy, hee']; simp)
              subst hxy
              have hne : (x != x) = false := by simp
              go_wp2_with fail
              go_quiet (fail)
              go_wp2_with fail
              go_roundw
              case rel => exact ⟨j + 1, by go_num, by omega, fun m hm => by
                rcases Nat.lt_succ_iff_lt_or_eq.1 hm with h | rfl
                · exact hall2.out m h
                · exact HOK.out, below_drewN HB2.out _⟩
              case measure => simp [intOf]; omega
            · have hne : (x != y) = true := by simpa using hxy
              have HBAD := Lib.hid (HNO.out (allB_false hjl (by rw [HS.out]; simp [hxy])))
              clear hxy
              go_wp2_with fail
              go_quiet (fail)
              go_wp2_with fail
              go_ret
              exact ⟨by rw [HBAD.out]; rfl, below_drewN HB2.out _⟩
        · have hjle : decide ((j : Int) ≤ (i : Int)) = false := by simp; omega
          obtain rfl : j = i + 1 := by omega
          have HOK := Lib.hid (allB_true hall2.out)
          clear hall2
          go_wp2_with fail
          go_roundw
          case rel => exact ⟨i + 1, by go_num, by omega, fun m hm => by
            rcases Nat.lt_succ_iff_lt_or_eq.1 hm with h | rfl
            · exact hall.out m h
            · exact HOK.out, HB2⟩
          case measure => simp [intOf]; omega
    · obtain rfl : i = n := by omega
      have HN := Lib.hid (show areCitiesB xs = true by rw [HAC.out, allB_true hall.out]; rfl)
      go_wp2_with fail
      go_ret
      exact ⟨by rw [HN.out]; rfl, HB.out⟩

end Go.Proofs.Ytljhohacgceojaa
