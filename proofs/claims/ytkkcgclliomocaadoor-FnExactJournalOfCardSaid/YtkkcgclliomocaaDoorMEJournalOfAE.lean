/-
  FnExactJournalOf: texts joined: JournS, LFnExactJournalOf.
-/
import Derived.Deep.RegionHeld3
import Derived.Deep.Cut
import Derived.Test.YtkkcgclliomocaaDoorMEJournalOfAD
namespace Go.Proofs.YtkkcgclliomocaaDoor
open Go.RowKit

set_option maxHeartbeats 2000000 in
set_option maxRecDepth 4000 in
theorem l08Journal_any (v : Value) (ls : List ByteArray) (w : World) (h : RdSs w v ls) (hb : bulkSs ls ≤ 1048576) :
    Calls Tryd.prog 19 #[v] w fun e w' => e = .returned (.string (jrS ls ls.length)) ∧ Below w.heap.size w w' := by
  obtain ⟨a, c, rfl⟩ := h.shape
  have hl := h.len
  unfold maxLen at hl
  unfold bulkSs at hb
  have HS := Lib.hid h
  clear h
  obtain ⟨n, hn⟩ : ∃ n, n = ls.length := ⟨_, rfl⟩
  rw [← hn] at hb hl ⊢
  have HN := Lib.hid hn
  have HSUM := Lib.hid (fun k => sumS_le ls k)
  clear hn
  go_enter Tryd.func19, Tryd.ntmps19
  go_wp2_with fail
  go_loopw [3, 4, 5] (fun sv cv iv wr => ∃ k : Nat, iv = .int .i64 k ∧ k ≤ n ∧ cv = .int .i64 (jrC ls k) ∧ sv = .string (jrS ls k) ∧ Hid (Below w.heap.size w wr)) (fun _ _ iv _ => n - (intOf iv).toNat)
  case atStart => exact ⟨0, rfl, Nat.zero_le _, rfl, rfl, Lib.hid (Below.refl _ _)⟩
  case round =>
    obtain ⟨k, rfl, hk, rfl, rfl, HB⟩ := hrel
    have hszw := HB.out.size
    by_cases hlt : k < n
    · have hltI : (k : Int) < (n : Int) := by omega
      have hkl : k < ls.length := by rw [← HN.out]; exact hlt
      obtain ⟨b, off, rfl, hb0, hc⟩ := (HS.out.up HB.out (Nat.le_refl _)).at hkl
      have HJC := Lib.hid (show jrC ls (k + 1) = chkN (jrC ls k) (ls.getD k E0) from rfl)
      have HJS := Lib.hid (show jrS ls (k + 1) = jrS ls k ++ ent (jrC ls (k + 1)) (ls.getD k E0) from rfl)
      have hle := jrS_le ls k (by omega)
      have HST := Lib.hid (sumS_take ls k hkl)
      have hsu := HSUM.out k
      have hc0 := jrC_lt ls k
      obtain ⟨l, hl0⟩ : ∃ l, l = ls.getD k E0 := ⟨_, rfl⟩
      obtain ⟨x, hx⟩ : ∃ x, x = jrC ls k := ⟨_, rfl⟩
      obtain ⟨S, hS⟩ : ∃ S, S = jrS ls k := ⟨_, rfl⟩
      rw [← hl0] at hc HJC HJS HST
      rw [← hx] at HJC hc0 ⊢
      rw [← hS] at HJS hle ⊢
      have hlsz : l.size ≤ 1048576 := by have h1 := HST.out; have h2 := HSUM.out (k + 1); omega
      have hSsz : S.size ≤ 1099511627776 := by omega
      have HCK := Lib.hid (chkN_eq hc0 l)
      have hc1 := chkN_lt hc0 l
      obtain ⟨y, hy⟩ : ∃ y, y = chkN x l := ⟨_, rfl⟩
      rw [← hy] at HCK HJC hc1
      rw [HJC.out] at HJS
      clear hy hl0 hx hS hle hsu
      go_wp2_with (go_at_call 32; refine (specCheck_any x l _ (by omega) (by omega) (by unfold maxLen; omega)).mono ?_; rintro e w' ⟨rfl, rfl⟩; rw [HCK.out])
      have hds := decS_size (n := y) (by omega)
      have HENT : Hid (ent y l = decS y ++ B1 32 ++ l ++ B1 10) := rfl
      have HDC := Lib.hid (fun W => l01Dec_any y (by omega) W)
      obtain ⟨D, hD⟩ : ∃ D, D = decS y := ⟨_, rfl⟩
      rw [← hD] at hds HENT HDC
      clear hD
      have n1 : ¬ 9223372036854775807 < D.size + 1 := by omega
      have n2 : ¬ 9223372036854775807 < D.size + 1 + l.size := by omega
      have n3 : ¬ 9223372036854775807 < D.size + 1 + l.size + 1 := by omega
      have n4 : ¬ 9223372036854775807 < S.size + (D.size + 1 + l.size + 1) := by omega
      go_region_held3 (fun X => X.cell? ⟨b, off + k, none⟩ = some (.string l) ∧ Below wr.heap.size wr X)
        (first | exact ⟨held_of hbn hc (Nat.le_refl _), hbn⟩ | exact ⟨hc, (Below.refl _ _).drew⟩ | go_keep)
        (first
          | (go_at_call 33; have hcur := (‹_ ∧ Below wr.heap.size wr _›).2; refine (HDC.out _).mono ?_; rintro e w2 ⟨rfl, hb2⟩; have hbn : Below wr.heap.size wr w2 := hcur.trans (hb2.mono hcur.size))
          | fail)
      all_goals
        have HB2 := Lib.hid (HB.out.trans (hbn.mono hszw))
        clear n1 n2 n3 n4 hbn hcur hb2
        go_wp2_with fail
        go_roundw
        case rel => exact ⟨k + 1, by go_num, by omega, by rw [HJC.out], by rw [HJS.out, HENT.out]; rfl, HB2⟩
        case measure => simp [intOf]; omega
    · obtain rfl : k = n := by omega
      go_wp2_with fail
      go_ret
      exact ⟨rfl, HB.out⟩

set_option maxHeartbeats 2000000 in
set_option maxRecDepth 4000 in
theorem journalS_any (v : Value) (ls : List ByteArray) (w : World) (h : RdSs w v ls) (hb : bulkSs ls ≤ 1048576) :
    Calls Tryd.prog 9 #[v] w fun e w' => e = .returned (.tuple #[.string (jrR ls), .bool (jrOk ls)]) ∧ Below w.heap.size w w' := by
  obtain ⟨a, c, rfl⟩ := h.shape
  have hl := h.len
  unfold maxLen at hl
  have HBK := Lib.hid hb
  unfold bulkSs at hb
  have HS := Lib.hid h
  clear h
  obtain ⟨n, hn⟩ : ∃ n, n = ls.length := ⟨_, rfl⟩
  rw [← hn] at hb hl ⊢
  have HN := Lib.hid hn
  have HSUM := Lib.hid (fun k => sumS_le ls k)
  clear hn
  go_enter Tryd.func9, Tryd.ntmps9
  go_wp2_with fail
  go_loop [4, 5] (fun tv iv => ∃ (k t : Nat), iv = .int .i64 k ∧ k ≤ n ∧ tv = .int .i64 t ∧ t ≤ 16000 ∧ Hid (t = sumS (ls.take k) + 3 * k) ∧ Hid (∀ j, j < k → hasNL (ls.getD j E0) = false)) (fun _ iv => n - (intOf iv).toNat)
  case atStart => exact ⟨0, 0, rfl, Nat.zero_le _, rfl, by omega, Lib.hid (by simp [sumS]), Lib.hid (by intro j hj; omega)⟩
  case round =>
    obtain ⟨k, t, rfl, hk, rfl, ht, HT, HNL⟩ := hrel
    by_cases hlt : k < n
    · have hltI : (k : Int) < (n : Int) := by omega
      have hkl : k < ls.length := by rw [← HN.out]; exact hlt
      obtain ⟨b, off, rfl, hb0, hc⟩ := HS.out.at hkl
      have HST := Lib.hid (sumS_take ls k hkl)
      have HBG := Lib.hid (fun h => jrOk_big2 (ls := ls) (k := k + 1) (by rw [← HN.out]; omega) h)
      have HNN := Lib.hid (fun h => jrOk_nl hkl h)
      obtain ⟨l, hl0⟩ : ∃ l, l = ls.getD k E0 := ⟨_, rfl⟩
      rw [← hl0] at hc HST HNN
      have HL0 := Lib.hid hl0
      have hlsz : l.size ≤ 1048576 := by have h1 := HST.out; have h2 := HSUM.out (k + 1); omega
      have HT1 := Lib.hid (show t + (l.size + 3) = sumS (ls.take (k + 1)) + 3 * (k + 1) by have h1 := HT.out; have h2 := HST.out; omega)
      clear hl0
      by_cases hbig : 16000 < t + (l.size + 3)
      · have HR := Lib.hid (HBG.out (by have := HT1.out; omega))
        have hbI : (16000 : Int) < (t : Int) + ((l.size : Int) + 3) := by omega
        go_wp2_with fail
        go_ret2
        exact ⟨by rw [HR.out.1, HR.out.2]; rfl, Below.refl _ _⟩
      · have hbI : ¬ (16000 : Int) < (t : Int) + ((l.size : Int) + 3) := by omega
        go_wp2_with fail
        clear hbI
        go_loop [6] (fun jv => ∃ j : Nat, jv = .int .i64 j ∧ j ≤ l.size ∧ Hid (∀ i (hi : i < l.size), i < j → l[i].toNat ≠ 10)) (fun jv => l.size - (intOf jv).toNat)
        case atStart => exact ⟨0, rfl, Nat.zero_le _, Lib.hid (by intro i hi h0; omega)⟩
        case round =>
          obtain ⟨j, rfl, hj, HJ⟩ := hrel
          by_cases hjl : j < l.size
          · have hjI : (j : Int) < (l.size : Int) := by omega
            have HYE := Lib.hid (fun h => HNN.out (hasNL_yes hjl h))
            obtain ⟨x, hx⟩ : ∃ x, x = l[j].toNat := ⟨_, rfl⟩
            have HX := Lib.hid hx
            by_cases h10 : x = 10
            · have HR := Lib.hid (HYE.out (by rw [← hx]; exact h10))
              have hq : ((l[j].toNat : Int) == 10) = true := by rw [← hx, h10]; rfl
              clear hx h10
              go_wp2_with fail
              go_ret2
              exact ⟨by rw [HR.out.1, HR.out.2]; rfl, Below.refl _ _⟩
            · have hq : ((l[j].toNat : Int) == 10) = false := by rw [← hx]; simp; omega
              have HXN := Lib.hid h10
              clear hx h10
              go_wp2_with fail
              go_round
              case rel =>
                refine ⟨j + 1, by go_num, by omega, Lib.hid (fun i hi hij => ?_)⟩
                by_cases hlt2 : i < j
                · exact HJ.out i hi hlt2
                · obtain rfl : i = j := by omega
                  rw [← HX.out]; exact HXN.out
              case measure => simp [intOf]; omega
          · obtain rfl : j = l.size := by omega
            have HNO := Lib.hid (hasNL_no (l := l) (fun i hi => HJ.out i hi hi))
            go_wp2_with fail
            go_round
            case rel =>
              refine ⟨k + 1, t + (l.size + 3), by go_num, by omega, by go_num, by omega, Lib.hid HT1.out, Lib.hid (fun i hi => ?_)⟩
              by_cases hlt2 : i < k
              · exact HNL.out i hlt2
              · obtain rfl : i = k := by omega
                rw [← HL0.out]; exact HNO.out
            case measure => simp [intOf]; omega
    · obtain rfl : k = n := by omega
      obtain ⟨S, hS⟩ : ∃ S, S = jrS ls ls.length := ⟨_, rfl⟩
      have HBIG := Lib.hid (show 16000 < S.size → jrOk ls = false ∧ jrR ls = E0 from fun h => jrOk_big (by rw [← hS]; exact h))
      have HYES := Lib.hid (show S.size ≤ 16000 → jrOk ls = true ∧ jrR ls = S from fun h => by
        have := jrOk_yes (ls := ls) (fun j hj => HNL.out j (by rw [HN.out]; exact hj)) (by rw [← hS]; exact h)
        rw [this.1, this.2, hS]; exact ⟨rfl, rfl⟩)
      have HSE := Lib.hid hS
      have hsl : S.size ≤ 9223372036854775807 := by
        have h1 := jrS_le ls k (by rw [HN.out]; exact Nat.le_refl _)
        have h2 := HSUM.out k
        rw [hS, ← HN.out]
        omega
      clear hS
      go_wp2_with fail
      refine (l08Journal_any _ ls _ (by have := HS.out; rw [← HN.out] at this; exact this) HBK.out).mono ?_
      rintro e w2 ⟨rfl, hb2⟩
      rw [← HSE.out]
      have HB2 := Lib.hid hb2
      clear hb2
      by_cases hbig : 16000 < S.size
      · have HR := Lib.hid (HBIG.out hbig)
        have hbI : (16000 : Int) < (S.size : Int) := by omega
        go_wp2_with fail
        go_ret2
        exact ⟨by rw [HR.out.1, HR.out.2]; rfl, HB2.out⟩
      · have HR := Lib.hid (HYES.out (by omega))
        have hbI : ¬ (16000 : Int) < (S.size : Int) := by omega
        go_wp2_with fail
        go_ret2
        exact ⟨by rw [HR.out.1, HR.out.2]; rfl, HB2.out⟩

end Go.Proofs.YtkkcgclliomocaaDoor

namespace Go.Proofs.YtkkcgclliomocaaDoor
open Go.RowKit

set_option maxHeartbeats 4000000 in
set_option maxRecDepth 100000 in
theorem lawJournalOf_any (w : World) (v0 : Value) (z0 : List ByteArray) (r0 : RdSs w v0 z0) (hpw : HasPow w) :
    Calls Tryd.prog 4 #[v0] w fun e w' => e = .returned (.bool true) ∧ Below w.heap.size w w' := by
  obtain ⟨x0, c0, rfl⟩ := r0.shape
  have l0_0 : z0.length ≤ 9223372036854775807 := by have := RdSs.len r0; unfold maxLen at this; omega
  have RP0 := Lib.hid r0
  clear r0
  have B : Hid (Below w.heap.size w w) := Below.refl _ _
  have HPW := Lib.hid hpw
  clear hpw
  go_enter Tryd.func4, Tryd.ntmps4
  go_upto_region 2 with fail
  go_wp2_with fail
  refine (szSs_any _ z0 _ _ (RP0.out.up B.out (Nat.le_refl _)) (by decide) (by decide)).mono ?_
  rintro e w1 ⟨s0, rfl, sa0, sb0, sc0, hb⟩
  replace B := Lib.hid (B.out.trans (hb.mono B.out.size))
  have zw1 : w.heap.size ≤ w1.heap.size := hb.size
  clear hb
  by_cases hn0 : s0 < 0
  · go_wp2_with fail
    go_ret
    exact ⟨rfl, B.out⟩
  have hs0 : bulkSs z0 ≤ 1048576 := by have := sc0 (by omega); omega
  clear sa0 sb0 sc0
  have ne1 : ((jrOk z0) != (jrOk z0)) = false := by simp
  go_upto_region 5 with fail
  go_wp2_with fail
  refine (toSs_any _ z0 _ (RP0.out.up B.out (Nat.le_refl _)) hs0).mono ?_
  rintro e w2 ⟨vc0, rfl, c0, hb⟩
  replace c0 := Lib.hid c0
  replace B := Lib.hid (B.out.trans (hb.mono B.out.size))
  have zw2 : w1.heap.size ≤ w2.heap.size := hb.size
  clear hb
  go_wp2_with fail
  refine (journalS_any _ z0 _ c0.out.rd hs0).mono ?_
  rintro e w3 ⟨rfl, hb⟩
  replace B := Lib.hid (B.out.trans (hb.mono B.out.size))
  replace c0 := Lib.hid (c0.out.up hb (Nat.le_refl _))
  have zw3 : w2.heap.size ≤ w3.heap.size := hb.size
  clear hb
  clear c0
  go_upto_region 6 with fail
  go_wp2_with fail
  refine (toSs_any _ z0 _ (RP0.out.up B.out (Nat.le_refl _)) hs0).mono ?_
  rintro e w4 ⟨vcp0, rfl, cp0, hb⟩
  replace cp0 := Lib.hid cp0
  replace B := Lib.hid (B.out.trans (hb.mono B.out.size))
  have zw4 : w3.heap.size ≤ w4.heap.size := hb.size
  clear hb
  go_upto_region 7 with fail
  go_wp2_with fail
  refine (journalI_any _ z0 _ cp0.out.rd (HPW.out.up B.out (Nat.le_refl _)) hs0).mono ?_
  rintro e w5 ⟨rfl, hb⟩
  replace B := Lib.hid (B.out.trans (hb.mono B.out.size))
  replace cp0 := Lib.hid (cp0.out.up hb (Nat.le_refl _))
  have zw5 : w4.heap.size ≤ w5.heap.size := hb.size
  clear hb
  go_upto_region 10 with fail
  go_wp2_with fail
  refine (toSs_any _ z0 _ (RP0.out.up B.out (Nat.le_refl _)) hs0).mono ?_
  rintro e w6 ⟨vc0, rfl, c0, hb⟩
  replace c0 := Lib.hid c0
  replace B := Lib.hid (B.out.trans (hb.mono B.out.size))
  replace cp0 := Lib.hid (cp0.out.up hb (Nat.le_refl _))
  have zw6 : w5.heap.size ≤ w6.heap.size := hb.size
  clear hb
  go_wp2_with fail
  refine (eqSs_same _ _ z0 _ cp0.out.rd c0.out.rd).mono ?_
  rintro e w7 ⟨rfl, hb⟩
  replace B := Lib.hid (B.out.trans (hb.mono B.out.size))
  replace cp0 := Lib.hid (cp0.out.up hb (Nat.le_refl _))
  replace c0 := Lib.hid (c0.out.up hb (Nat.le_refl _))
  have zw7 : w6.heap.size ≤ w7.heap.size := hb.size
  clear hb
  clear c0
  go_wp2_with fail
  go_ret
  exact ⟨rfl, B.out⟩

end Go.Proofs.YtkkcgclliomocaaDoor
