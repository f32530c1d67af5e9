/-
  FnBoards: the law's walk: queens do not meet, squares have each number once.
-/
import Derived.Test.YtkcpncaedocdnaaBoards
import Derived.Test.YtkcpncaedocdnaaBytes
import Derived.Deep.CutRange
namespace Go.Proofs.Ytkcpncaedocdnaa
open Go.RowKit

set_option maxHeartbeats 8000000 in
set_option maxRecDepth 100000 in
theorem lawBoards_any (w : World) (v0 : Value) (b0 : List Int) (r0 : RdB w v0 b0) (y0 : WfB b0) (v1 : Value) (b1 : List Int) (r1 : RdB w v1 b1) (y1 : WfB b1) :
    Calls Try.prog 9 #[v0, v1] w fun e w' => e = .returned (.bool true) ∧ Below w.heap.size w w' := by
  obtain ⟨i0, hi, hz0, hz1, hz2⟩ := info_parts Try.infoI64
  have INF := Lib.hid (show _ ∧ _ ∧ _ ∧ _ from ⟨hi, hz0, hz1, hz2⟩)
  clear hi hz0 hz1 hz2
  have R0 := Lib.hid r0
  have R1 := Lib.hid r1
  have Y0 := Lib.hid y0
  have Y1 := Lib.hid y1
  clear r0 r1 y0 y1
  by_cases hL : isLong b0 b1 = true
  · go_enter Try.func9, Try.ntmps9
    go_wp2_with (go_at_call 45; refine (b10Long_any _ _ b0 b1 _ R0.out R1.out).mono ?_; rintro e w' ⟨rfl, rfl⟩; rw [hL])
    go_ret
    exact ⟨rfl, Below.refl _ _⟩
  rw [Bool.not_eq_true] at hL
  have HL := Lib.hid hL
  clear hL
  go_enter Try.func9, Try.ntmps9
  go_upto_region 3 with (go_at_call 45; refine (b10Long_any _ _ b0 b1 _ R0.out R1.out).mono ?_; rintro e w' ⟨rfl, rfl⟩; rw [HL.out])
  go_cut [5] from 26 (fun s wx => ∃ N : Nat, 1 ≤ N ∧ N ≤ 6 ∧ s = .int .i64 N ∧ w = wx)
  case first =>
    go_wp2_with (go_at_call 46; refine (b10At_any _ b1 0 6 _ R1.out Y1.out (by omega) (by omega) (by omega) (by omega)).mono ?_; rintro e w' ⟨r, hr0, hr1, rfl, rfl⟩)
    go_meet
    case rel => exact ⟨(1 + r).toNat, by omega, by omega, by congr 1; omega, rfl⟩
  case rest =>
  obtain ⟨N, hN1, hN6, rfl, hwx⟩ := hcut
  subst hwx
  obtain ⟨C, q, ok, hq1, hq2, hq3, hq4, hq5, hq6, hq8⟩ := boards_q (N := N) hN1 (by omega)
  have Q1 := Lib.hid hq1
  have Q2 := Lib.hid hq2
  have Q3 := Lib.hid hq3
  have Q4 := Lib.hid hq4
  have Q5 := Lib.hid hq5
  have Q6 := Lib.hid hq6
  clear hq1 hq2 hq3 hq4 hq5 hq6
  go_wp2_with fail
  refine (implFirstQ_any N w).mono ?_
  rintro e w1 ⟨vq, rfl, ho, hb1⟩
  rw [Q3.out] at ho
  rw [Q2.out]
  obtain ⟨qa, qc, rfl⟩ := ho.rd.shape
  have HQ1 := Lib.hid ho.rd
  have HB1 := Lib.hid hb1
  clear ho hb1
  go_wp2_with fail
  refine (implCountQ_any N w1).mono ?_
  rintro e w2 ⟨rfl, hb2⟩
  rw [Q1.out]
  have HQ2 := Lib.hid (HQ1.out.up hb2 (Nat.le_refl _))
  have HB2 := Lib.hid (HB1.out.trans (hb2.mono HB1.out.size))
  clear hb2
  go_wp2_with fail
  refine (specCountQ_any N w2).mono ?_
  rintro e w3 ⟨rfl, hb3⟩
  rw [Q1.out]
  have HQ := Lib.hid (HQ2.out.up hb3 (Nat.le_refl _))
  have HB := Lib.hid (HB2.out.trans (hb3.mono HB2.out.size))
  clear hb3 HB1 HB2 HQ1 HQ2
  go_upto_region 7 with fail
  go_cut [68] from 26 (fun t wx => t = .bool false ∧ w3 = wx)
  case first =>
    as_aux_lemma =>
    cases ok
    case true =>
      have h1 := (Q4.out rfl).1
      have h2 : ((q.length : Int) != (N : Int)) = false := by have := (Q4.out rfl).2; simp; omega
      go_wp2_with fail
      go_meet
      case rel => exact ⟨rfl, rfl⟩
    case false =>
      have h1 := (Q5.out rfl).1
      go_wp2_with fail
      go_meet
      case rel => exact ⟨congrArg Value.bool (by simp; omega), rfl⟩
  case rest =>
  obtain ⟨rfl, hwx⟩ := hcut
  subst hwx
  as_aux_lemma =>
  go_wp2_with fail
  go_loopw [71] (fun i wr => ∃ k : Nat, i = .int .i64 k ∧ k ≤ q.length ∧ Below w3.heap.size w3 wr) (fun i _ => q.length - (intOf i).toNat)
  case atStart => exact ⟨0, rfl, Nat.zero_le _, Below.refl _ _⟩
  case round =>
  obtain ⟨i, rfl, hi, hbl⟩ := hrel
  have HBL := Lib.hid hbl
  clear hbl
  by_cases hlt : i < q.length
  · obtain ⟨wo, rfl⟩ : ∃ wo : World, wo = wr := ⟨_, rfl⟩
    go_wp2_with fail
    go_loopw [13, 14] (fun kk _ wi => ∃ k : Nat, kk = .int .i64 k ∧ k ≤ i ∧ Below w3.heap.size w3 wi) (fun kk _ _ => i - (intOf kk).toNat)
    case atStart => exact ⟨0, rfl, Nat.zero_le _, HBL.out⟩
    case round =>
      obtain ⟨k, rfl, hk, hbl⟩ := hrel
      have HBI := Lib.hid hbl
      clear hbl
      by_cases hkl : k < i
      · obtain ⟨qb, qo, rfl, hqb, hc1⟩ := (HQ.out.up HBI.out (Nat.le_refl _)).at (i := i) hlt
        obtain ⟨qb', qo', he, _, hc2⟩ := (HQ.out.up HBI.out (Nat.le_refl _)).at (i := k) (show k < q.length by omega)
        simp only [Option.some.injEq, Addr.mk.injEq, and_true] at he
        obtain ⟨rfl, rfl⟩ := he
        obtain ⟨g0, g1, g2⟩ := Q6.out i hlt
        obtain ⟨g3, g4, g5⟩ := g2 k hkl
        obtain ⟨x, hx⟩ : ∃ x, x = q.getD i 0 := ⟨_, rfl⟩
        obtain ⟨y, hy⟩ : ∃ y, y = q.getD k 0 := ⟨_, rfl⟩
        have gy := (Q6.out k (by omega)).1
        have gy2 := (Q6.out k (by omega)).2.1
        rw [← hx] at hc1 g0 g1 g3 g4 g5
        rw [← hy] at hc2 g3 g4 g5 gy gy2
        clear hx hy g2
        have t1 : (x == y) = false := by simpa using g3
        have t2 : (x == y - ((i : Int) - (k : Int))) = false := by simpa using g4
        have t3 : (x == y + ((i : Int) - (k : Int))) = false := by simpa using g5
        have t4 : decide (x < 0) = false := by simp; omega
        have t5 : decide ((N : Int) ≤ x) = false := by simp; omega
        have s1 : IntKind.i64.wrap (y - ((i : Int) - (k : Int))) = y - ((i : Int) - (k : Int)) := IntWalk.i64_in _ (by omega)
        have s2 : IntKind.i64.wrap (y + ((i : Int) - (k : Int))) = y + ((i : Int) - (k : Int)) := IntWalk.i64_in _ (by omega)
        have k1 : (k : Int) < (q.length : Int) := by omega
        have k2 : (i : Int) < (q.length : Int) := by omega
        clear g3 g4 g5
        go_wp2_with fail
        go_quiet (fail)
        clear s1 s2
        go_wp2_with fail
        go_roundw
        case rel => exact ⟨k + 1, by go_num, by omega, below_drewN HBI.out _⟩
        case measure => simp [intOf]; omega
      · obtain rfl : k = i := by omega
        go_wp2_with fail
        go_roundw
        case rel => exact ⟨k + 1, by go_num, by omega, HBI.out⟩
        case measure => simp [intOf]; omega
  obtain rfl : i = q.length := by omega
  have HBW := Lib.hid (HB.out.trans (HBL.out.mono HB.out.size))
  clear HBL HB HQ Q1 Q2 Q3 Q4 Q5 Q6
  obtain ⟨wq, rfl⟩ : ∃ wq : World, wq = wr := ⟨_, rfl⟩
  go_upto_region 19 with fail
  go_cut [15] from 26 (fun s wx => ∃ N : Nat, 1 ≤ N ∧ N ≤ 4 ∧ s = .int .i64 N ∧ wq = wx)
  case first =>
    go_wp2_with (go_at_call 46; refine (b10At_any _ b1 1 4 _ (R1.out.up HBW.out (Nat.le_refl _)) Y1.out (by omega) (by omega) (by omega) (by omega)).mono ?_; rintro e w' ⟨r, hr0, hr1, rfl, rfl⟩)
    go_meet
    case rel => exact ⟨(1 + r).toNat, by omega, by omega, by congr 1; omega, rfl⟩
  case rest =>
  as_aux_lemma =>
  obtain ⟨M, hM1, hM4, rfl, hwx⟩ := hcut
  subst hwx
  obtain ⟨m, hm⟩ : ∃ m, m = M * M := ⟨_, rfl⟩
  have m1 : (M : Int) * (M : Int) = (m : Int) := by rw [hm]; exact (Int.natCast_mul M M).symm
  have m2 : m ≤ 16 := by rw [hm]; exact Nat.mul_le_mul hM4 hM4
  have HM := Lib.hid hm
  clear hm
  go_wp2_with (at_make; refine wpList_make_full _ rfl _ _ 22 rfl wq.heap.size 2 i0 (.int .i64 0) 1 Try.underlying22 INF.out.1 INF.out.2.1 INF.out.2.2.1 .i64 .i64 m m m rfl rfl rfl rfl (by rw [INF.out.2.2.2]; omega) (by unfold maxLen; omega) (by simp) ?_; intro w4 hown hgrow)
  have hb4 : Below wq.heap.size wq w4 := (Below.refl _ _).grown hgrow (Nat.le_refl _) (by intro k hk; cases hk)
  have hz : (madeCells (Value.int .i64 0).cells (m * 1)).toList = (List.replicate m (0 : Int)).map I64 := by
    simpa [Value.cells, I64] using toList_madeCells_one (Value.int .i64 0) m
  rw [hz] at hown
  have HO := Lib.hid hown
  have HB4 := Lib.hid (HBW.out.trans (hb4.mono HBW.out.size))
  clear hown hz hgrow hb4
  go_loopw [142] (fun i wr => ∃ (k : Nat) (xs : List Int), i = .int .i64 k ∧ k ≤ m ∧ xs.length = m ∧ Hid (∀ v ∈ xs, 0 ≤ v ∧ v ≤ M) ∧ wr.ownsRow wq.heap.size 2 1 (.slice (some ⟨wq.heap.size, 0, none⟩) m m) m (xs.map I64) ∧ Below w.heap.size w wr) (fun i _ => m - (intOf i).toNat)
  case atStart => exact ⟨0, List.replicate m 0, rfl, Nat.zero_le _, by simp, by intro v hv; simp at hv; omega, HO.out, HB4.out⟩
  case round =>
  obtain ⟨k, xs, rfl, hk, hxl, hxr, hown, hbl⟩ := hrel
  have HO1 := Lib.hid hown
  have HB1 := Lib.hid hbl
  clear hown hbl
  have HXL := Lib.hid hxl
  clear hxl
  by_cases hlt : k < m
  · have hd := HO1.out.cellAt k (by omega)
    have hfr := HO1.out.frozenAt k
    have hdl : (xs.map I64)[k]? = some (.int .i64 (xs.getD k 0)) := by simp [I64, HXL.out, hlt]
    rw [hdl] at hd
    clear hdl
    go_upto_region 24 with fail
    go_cut [148] from 145 to 158 (fun t wx => ∃ b : Bool, t = .bool b ∧ wr = wx)
    case first =>
      go_wp2_with (go_at_call 46; refine (b10At_any _ b0 k 5 _ (R0.out.up HB1.out (Nat.le_refl _)) Y0.out (by omega) (by omega) (by omega) (by omega)).mono ?_; rintro e w' ⟨r, hr0, hr1, rfl, rfl⟩)
      go_meet
      case rel => exact ⟨_, rfl, rfl⟩
    case rest =>
    obtain ⟨b, rfl, hwx⟩ := hcut
    subst hwx
    cases b
    case false =>
      go_wp2_with fail
      go_roundw
      case rel => exact ⟨k + 1, xs, by go_num, by omega, HXL.out, hxr, HO1.out, HB1.out⟩
      case measure => simp [intOf]; omega
    case true =>
      go_wp2_with (go_at_call 46; refine (b10At_any _ b1 (k + 2) M _ (R1.out.up HB1.out (Nat.le_refl _)) Y1.out (by omega) (by omega) (by omega) (by omega)).mono ?_; rintro e w' ⟨r, hr0, hr1, rfl, rfl⟩)
      go_roundw
      case rel =>
        refine ⟨k + 1, xs.set k (1 + r), by go_num, by omega, by rw [List.length_set]; exact HXL.out, ?_, ?_, HB1.out.setCell (by have := HBW.out.size; simpa using this) _⟩
        · intro v hv
          rcases List.mem_or_eq_of_mem_set hv with h | rfl
          · exact hxr.out v h
          · omega
        · have h1 := (HO1.out.stored k (.int .i64 (1 + r))).1
          rw [List.map_set]
          exact h1
      case measure => simp [intOf]; omega
  obtain rfl : m = k := by omega
  as_aux_lemma =>
  obtain ⟨C2, s, ok2, hq1, hq2, hq3, hq4, hq5, hq6⟩ := boards_s hM1 hM4 (HXL.out.trans HM.out) hxr.out
  have Q1 := Lib.hid hq1
  have Q2 := Lib.hid hq2
  have Q3 := Lib.hid hq3
  have Q4 := Lib.hid hq4
  have Q5 := Lib.hid hq5
  have Q6 := Lib.hid hq6
  clear hq1 hq2 hq3 hq4 hq5 hq6
  have HX := Lib.hid (show RdI wr (.slice (some ⟨wq.heap.size, 0, none⟩) m m) xs from slc_of_owns HO1.out)
  obtain ⟨wp, rfl⟩ : ∃ wp : World, wp = wr := ⟨_, rfl⟩
  clear HO HO1 HB4
  go_wp2_with fail
  refine (implFillS_any M _ xs wp HX.out).mono ?_
  rintro e w5 ⟨vs, rfl, hos, hb5⟩
  rw [Q4.out] at hos
  rw [Q3.out]
  obtain ⟨sa, sc, rfl⟩ := hos.rd.shape
  have HS5 := Lib.hid hos.rd
  have HX5 := Lib.hid (HX.out.up hb5 (Nat.le_refl _))
  have HB5 := Lib.hid (HB1.out.trans (hb5.mono HB1.out.size))
  clear hos hb5
  go_wp2_with fail
  refine (implCountS_any M _ xs w5 HX5.out).mono ?_
  rintro e w6 ⟨rfl, hb6⟩
  rw [Q1.out, Q2.out]
  have HS6 := Lib.hid (HS5.out.up hb6 (Nat.le_refl _))
  have HX6 := Lib.hid (HX5.out.up hb6 (Nat.le_refl _))
  have HB6 := Lib.hid (HB5.out.trans (hb6.mono HB5.out.size))
  clear hb6 HS5 HX5 HB5
  go_wp2_with fail
  refine (specFillS_any M _ xs w6 HX6.out).mono ?_
  rintro e w7 ⟨vt, rfl, hot, hb7⟩
  rw [Q4.out] at hot
  rw [Q3.out]
  obtain ⟨ta, tc, rfl⟩ := hot.rd.shape
  have HT7 := Lib.hid hot.rd
  have HS7 := Lib.hid (HS6.out.up hb7 (Nat.le_refl _))
  have HX7 := Lib.hid (HX6.out.up hb7 (Nat.le_refl _))
  have HB7 := Lib.hid (HB6.out.trans (hb7.mono HB6.out.size))
  clear hb7 hot HS6 HX6 HB6
  go_upto_region 30 with fail
  go_cut [198] from 26 (fun t wx => t = .bool false ∧ ∃ n, wx = w7.drewN n)
  case first =>
    as_aux_lemma =>
    cases ok2
    case true =>
      have h1 := (Q5.out rfl).1
      go_wp2_with (go_at_call 53; refine (b10Ints_any _ _ _ _ _ _ s s _ rfl rfl HS7.out HT7.out).mono ?_; rintro e w' ⟨rfl, n, rfl⟩)
      go_meet
      case rel => exact ⟨by simp, _, rfl⟩
    case false =>
      have h1 := (Q6.out rfl).1
      go_wp2_with fail
      go_meet
      case rel => exact ⟨congrArg Value.bool (by simp; omega), 0, rfl⟩
  case rest =>
  obtain ⟨rfl, n, hwx⟩ := hcut
  obtain ⟨wx, rfl⟩ : ∃ wx : World, wx = wc := ⟨_, rfl⟩
  have HB8 := Lib.hid (show Below w.heap.size w wx by rw [hwx]; exact below_drewN HB7.out _)
  have HS8 := Lib.hid (show RdI wx (.slice sa s.length sc) s by rw [hwx]; exact HS7.out.drewN n)
  have HX8 := Lib.hid (show RdI wx (.slice (some ⟨wq.heap.size, 0, none⟩) m m) xs by rw [hwx]; exact HX7.out.drewN n)
  clear hwx HB7 HS7 HX7 HT7 HX HB1 HBW
  cases ok2
  case false =>
    go_wp2_with fail
    go_ret
    exact ⟨rfl, HB8.out⟩
  case true =>
  obtain ⟨_, hsl, hsq⟩ := Q5.out rfl
  rw [← HM.out] at hsl
  have HSQ := Lib.hid hsq
  have HSL := Lib.hid hsl
  clear hsq hsl Q1 Q2 Q3 Q4 Q5 Q6
  have hs16 : s.length ≤ 16 := by have := HSL.out; omega
  go_wp2_with fail
  go_loopw [203] (fun i wr => ∃ k : Nat, i = .int .i64 k ∧ k ≤ s.length ∧ Below wx.heap.size wx wr) (fun i _ => s.length - (intOf i).toNat)
  case atStart => exact ⟨0, rfl, Nat.zero_le _, Below.refl _ _⟩
  case round =>
  obtain ⟨i, rfl, hi, hbl⟩ := hrel
  have HBL := Lib.hid hbl
  clear hbl
  by_cases hlt : i < s.length
  case neg =>
    obtain rfl : i = s.length := by omega
    go_wp2_with fail
    go_ret
    exact ⟨rfl, HB8.out.trans (HBL.out.mono HB8.out.size)⟩
  have HSR := Lib.hid (HS8.out.up HBL.out (Nat.le_refl _))
  have HXR := Lib.hid (HX8.out.up HBL.out (Nat.le_refl _))
  obtain ⟨sb, so, rfl, _, hc1⟩ := HSR.out.at (i := i) hlt
  have hlm : i < m := by have := HSL.out; omega
  have hlx : i < xs.length := by have := HXL.out; omega
  obtain ⟨xb, xo, he, _, hc2⟩ := HXR.out.at (i := i) hlx
  simp only [Option.some.injEq, Addr.mk.injEq, and_true] at he
  obtain ⟨rfl, rfl⟩ := he
  obtain ⟨g0, g1, g2, g3⟩ := HSQ.out i (by have := HM.out; omega)
  obtain ⟨x, hx⟩ : ∃ x, x = s.getD i 0 := ⟨_, rfl⟩
  obtain ⟨y, hy⟩ : ∃ y, y = xs.getD i 0 := ⟨_, rfl⟩
  rw [← hx] at hc1 g0 g1 g2 g3
  rw [← hy] at hc2 g2
  have HX3 := Lib.hid g3
  have HXX := Lib.hid hx
  clear hx hy g3
  have t1 : decide (x < 1) = false := by simp; omega
  have t2 : decide ((M : Int) < x) = false := by simp; omega
  have k1 : (i : Int) < (s.length : Int) := by omega
  have k2 : (i : Int) < (m : Int) := by omega
  rw [Nat.zero_add] at hc2
  go_upto_region 37 with fail
  go_cut [236] from 206 to 274 (fun t wy => t = .bool false ∧ Below wx.heap.size wx wy)
  case first =>
    by_cases hy0 : y = 0
    · have t3 : (y != 0) = false := by simp [hy0]
      clear g2 hy0
      go_quiet (fail)
      go_wp2_with fail
      go_meet
      case rel => exact ⟨rfl, below_drewN HBL.out _⟩
    · have t3 : (y != 0) = true := by simp [hy0]
      have t4 : (y != x) = false := by simp [g2 hy0]
      clear g2 hy0
      go_quiet (fail)
      go_wp2_with fail
      go_meet
      case rel => exact ⟨rfl, below_drewN HBL.out _⟩
  case rest =>
  as_aux_lemma =>
  obtain ⟨rfl, hbl⟩ := hcut
  have HBM := Lib.hid hbl
  clear hbl g2 HSR HXR hc1 hc2
  go_wp2_with fail
  go_loopw [239] (fun kk wi => ∃ k : Nat, kk = .int .i64 k ∧ k ≤ s.length ∧ Below wx.heap.size wx wi) (fun kk _ => s.length - (intOf kk).toNat)
  case atStart => exact ⟨0, rfl, Nat.zero_le _, HBM.out⟩
  case round =>
  obtain ⟨k, rfl, hk, hbl⟩ := hrel
  have HBI := Lib.hid hbl
  clear hbl
  by_cases hkl : k < s.length
  case neg =>
    obtain rfl : k = s.length := by omega
    go_wp2_with fail
    go_roundw
    case rel => exact ⟨i + 1, by go_num, by omega, HBI.out⟩
    case measure => simp [intOf]; omega
  have HSR := Lib.hid (HS8.out.up HBI.out (Nat.le_refl _))
  obtain ⟨sb', so', he, _, hc1⟩ := HSR.out.at (i := i) hlt
  simp only [Option.some.injEq, Addr.mk.injEq, and_true] at he
  obtain ⟨rfl, rfl⟩ := he
  obtain ⟨sb', so', he, _, hc2⟩ := HSR.out.at (i := k) hkl
  simp only [Option.some.injEq, Addr.mk.injEq, and_true] at he
  obtain ⟨rfl, rfl⟩ := he
  rw [← HXX.out] at hc1
  obtain ⟨z, hz⟩ : ∃ z, z = s.getD k 0 := ⟨_, rfl⟩
  rw [← hz] at hc2
  have g3 := HX3.out k (by have := HM.out; have := HSL.out; omega)
  rw [← hz] at g3
  clear hz
  have k3 : (k : Int) < (s.length : Int) := by omega
  go_upto_region 42 with fail
  go_cut [273] from 242 to 273 (fun t wy => t = .bool false ∧ Below wx.heap.size wx wy)
  case first =>
    by_cases hki : k = i
    · have t3 : ((k : Int) != (i : Int)) = false := by simp [hki]
      clear g3 hki
      go_quiet (fail)
      go_wp2_with fail
      go_meet
      case rel => exact ⟨rfl, below_drewN HBI.out _⟩
    · have t3 : ((k : Int) != (i : Int)) = true := by simp; omega
      by_cases hzx : z = x
      · subst hzx
        have t4 : (z == z) = true := by simp
        obtain ⟨g4, g5⟩ := g3 hki rfl
        have e1 : (k : Int).tdiv (M : Int) = (k : Int) / (M : Int) := Int.tdiv_eq_ediv_of_nonneg (by omega)
        have e2 : (i : Int).tdiv (M : Int) = (i : Int) / (M : Int) := Int.tdiv_eq_ediv_of_nonneg (by omega)
        have e3 : (k : Int).tmod (M : Int) = (k : Int) % (M : Int) := Int.tmod_eq_emod_of_nonneg (by omega)
        have e4 : (i : Int).tmod (M : Int) = (i : Int) % (M : Int) := Int.tmod_eq_emod_of_nonneg (by omega)
        have b1 : (k : Int) / (M : Int) ≤ k := Int.ediv_le_self _ (by omega)
        have b2 : (i : Int) / (M : Int) ≤ i := Int.ediv_le_self _ (by omega)
        have b3 : 0 ≤ (k : Int) / (M : Int) := Int.ediv_nonneg (by omega) (by omega)
        have b4 : 0 ≤ (i : Int) / (M : Int) := Int.ediv_nonneg (by omega) (by omega)
        have w1' : IntKind.i64.wrap ((k : Int) / (M : Int)) = (k : Int) / (M : Int) := IntWalk.i64_in _ (by omega)
        have w2' : IntKind.i64.wrap ((i : Int) / (M : Int)) = (i : Int) / (M : Int) := IntWalk.i64_in _ (by omega)
        have hM0 : ((M : Int) == 0) = false := by simp; omega
        have hM1' : (M : Int) ≠ 0 := by omega
        have hM2' : M ≠ 0 := by omega
        have t5 : (((k : Int) / (M : Int)) == ((i : Int) / (M : Int))) = false := by rw [beq_eq_false_iff_ne]; intro e; exact g4 (Int.ofNat.inj e)
        have t6 : (((k : Int) % (M : Int)) == ((i : Int) % (M : Int))) = false := by rw [beq_eq_false_iff_ne]; intro e; exact g5 (Int.ofNat.inj e)
        clear g3 g4 g5 hki b1 b2 b3 b4
        go_quiet (fail)
        clear e1 e2 e3 e4 w1' w2' hM0 hM1' hM2' t5 t6
        go_wp2_with fail
        go_meet
        case rel => exact ⟨rfl, below_drewN HBI.out _⟩
      · have t4 : (z == x) = false := by simp [hzx]
        clear g3 hki hzx
        go_quiet (fail)
        go_wp2_with fail
        go_meet
        case rel => exact ⟨rfl, below_drewN HBI.out _⟩
  case rest =>
  obtain ⟨rfl, hbl⟩ := hcut
  have HBN := Lib.hid hbl
  clear hbl g3 hc1 hc2 HSR
  go_wp2_with fail
  go_roundw
  case rel => exact ⟨k + 1, by go_num, by omega, HBN.out⟩
  case measure => simp [intOf]; omega

end Go.Proofs.Ytkcpncaedocdnaa
