/-
  Queens: the program that tells each list to a function.
-/
import Derived.Test.YtkcpncaedocdnaaQueensM
namespace Go.Proofs.Ytkcpncaedocdnaa
open Go.RowKit

set_option maxHeartbeats 1000000 in
theorem eachQueens_any (n : Nat) (hn8 : n ≤ 8) (g : FuncId) (hent : ∀ (args : Array Value) (w : World), (callFunc g args).run Try.prog w = .ok (.enter g args) w) (caps : Array Value) (B0 : Nat) (S : Nat → Prop) (hS : ∀ b, S b → b < B0) (I : List (List Int) → World → Prop)
    (hI : ∀ done w w', I done w → Below w.heap.size w w' → I done w')
    (hT : ∀ done (s : List Int) (a : Option Addr) (cap m : Nat) (w : World), s.length = m → m = n → w.ownsRow B0 2 1 (.slice a m cap) m (s.map I64) → done.length ≤ 16777216 → I done w →
      Calls Try.prog g (#[.slice a m cap] ++ caps) w fun e w' => e = .returned (.tuple #[]) ∧ I (done ++ [s]) w' ∧ Kept S w w')
    (f : Nat) : ∀ (a : Option Addr) (cap : Nat) (now : List Int) (w : World) (done : List (List Int)) (m : Nat), now.length = m →
    now.length + f = n → B0 ≤ w.heap.size → w.ownsRow B0 2 1 (.slice a m cap) m (now.map I64) → I done w → done.length + (qSols n f now).length ≤ 16777216 →
    Calls Try.prog 100 #[.int .i64 n, .slice a m cap, .func (.func g) #[] caps] w fun e w' =>
      e = .returned (.tuple #[]) ∧ I (done ++ qSols n f now) w' ∧ Kept S w w' := by
  induction f with
  | zero =>
    intro a cap now w done m hm hlen hB hs hi hcount
    subst hm
    obtain rfl : now.length = n := hlen
    have HS := Lib.hid hs
    have HT := Lib.hid (hT done now a cap now.length w rfl rfl hs (by omega) hi)
    clear hs hT hI hi
    go_enter Try.func100, Try.ntmps100
    go_wp2_with (go_at_call 95; refine (size_any _ _ (by unfold maxLen; omega)).mono ?_; rintro e w' ⟨rfl, rfl⟩)
    refine HT.out.mono ?_
    rintro e w1 ⟨rfl, hi1, hk1⟩
    have HI1 := Lib.hid hi1
    have HK1 := Lib.hid hk1
    clear hi1 hk1 HT
    go_wp2_with fail
    refine bodyPost_ret (results_none rfl _ _ _) rfl ?_
    exact ⟨rfl, by simpa [qSols] using HI1.out, HK1.out⟩
  | succ f ih =>
    intro a cap now w done m hm hlen hB hs hi hcount
    subst hm
    have hnl : ((now.length : Int) == (n : Int)) = false := by simp; omega
    have hnl8 : now.length ≤ 8 := by omega
    have HS := Lib.hid hs
    have HII := Lib.hid hi
    have HC := Lib.hid hcount
    have HT := Lib.hid hT
    have HI := Lib.hid hI
    have HIH := Lib.hid ih
    have HL := Lib.hid hlen
    have HSS := Lib.hid hS
    clear hs hT hI ih hlen hi hcount hS
    go_enter Try.func100, Try.ntmps100
    go_wp2_with (go_at_call 95; refine (size_any _ _ (by unfold maxLen; omega)).mono ?_; rintro e w' ⟨rfl, rfl⟩)
    go_loopw [7] (fun c wr => ∃ k : Nat, c = .int .i64 k ∧ k ≤ n ∧ I (done ++ qPart n f now k) wr ∧ Kept S w wr)
      (fun c _ => n - (intOf c).toNat)
    case atStart => exact ⟨0, rfl, Nat.zero_le _, by simpa [qPart] using HII.out, Kept.refl _ _⟩
    case round =>
      obtain ⟨k, rfl, hk, hi1, hkp⟩ := hrel
      have HS1 := Lib.hid (owns_kept HS.out hkp (fun b hb => by have := (owns_lt HS.out hb).1; intro hs; have := HSS.out b hs; omega))
      have HI1 := Lib.hid hi1
      have HK1 := Lib.hid hkp
      clear hi1 hkp
      by_cases hlt : k < n
      · go_wp2_with fail
        obtain ⟨wo, rfl⟩ : ∃ wo : World, wo = wr := ⟨_, rfl⟩
        go_loopw [8, 28] (fun fr i wi => ∃ j : Nat, i = .int .i64 j ∧ j ≤ now.length ∧ fr = .bool (!qBad now k j) ∧ wi = wo) (fun _ i _ => now.length - (intOf i).toNat)
        case atStart => exact ⟨0, rfl, Nat.zero_le _, by simp [qBad], rfl⟩
        case round =>
          obtain ⟨j, rfl, hj, rfl, rfl⟩ := hrel
          by_cases hjl : j < now.length
          · obtain ⟨b, off, rfl, hb0, hc0⟩ := (slc_of_owns HS1.out).at (i := j) (u := .int .i64 (now.getD j 0)) (by simp [I64, hjl])
            obtain ⟨x, hx⟩ : ∃ x, x = now.getD j 0 := ⟨_, rfl⟩
            rw [← hx] at hc0
            have HX := Lib.hid hx
            clear hx
            by_cases hq : qBad now k j = true
            · have hq' : (!qBad now k j) = false := by simp [hq]
              rw [hq']
              go_wp2_with fail
              go_roundw
              case rel => exact ⟨j + 1, by go_num, by omega, by rw [qBad_step HX.out]; simp [hq], by first | trivial | rfl⟩
              case measure => simp [intOf]; omega
            · have hq' : (!qBad now k j) = true := by simp [hq]
              rw [hq']
              go_wp2_with fail
              all_goals
                go_roundw
                case rel => exact ⟨j + 1, by go_num, by omega, by rw [qBad_step HX.out]; simp_all [bne], by first | trivial | rfl⟩
                case measure => simp [intOf]; omega
          · obtain rfl : j = now.length := by omega
            by_cases hq : qBad now k now.length = true
            · have hq' : (!qBad now k now.length) = false := by simp [hq]
              rw [hq']
              go_wp2_with fail
              go_roundw
              case rel => exact ⟨k + 1, by go_num, by omega, by rw [qPart_succ, if_pos hq, List.append_nil]; exact HI1.out, HK1.out⟩
              case measure => simp [intOf]; omega
            · have hq' : (!qBad now k now.length) = true := by simp [hq]
              rw [hq']
              go_wp2_with fail
              refine (copyInts_any a cap now wr (slc_of_owns HS1.out) (by omega)).mono ?_
              rintro e w1 ⟨g1, cap1, rfl, hown, hbl⟩
              have hszw := hbl.size
              go_wp2_with (at_builtin; refine app_own rfl _ _ rfl wr.heap.size ⟨g1, 0, none⟩ now.length cap1 now rfl (hown.alloc _) _ [(k : Int)] rfl (slc_one _ _) (now.length + 1) (now ++ [(k : Int)]) (by simp) (by simp) (by omega) (by simp; omega) ?_; intro g2 cap2 w2 hown2 hbl2 hg2)
              have hbel : Below wr.heap.size wr w2 := hbl.trans (((Below.refl _ _).alloc (by omega) _).trans hbl2)
              have hbB : B0 ≤ wr.heap.size := Nat.le_trans hB HK1.out.size
              have hcnt : (done ++ qPart n f now k).length + (qSols n f (now ++ [(k : Int)])).length ≤ 16777216 := by
                have h1 := HC.out
                rw [qSols_succ] at h1
                have h2 : (qPart n f now (k + 1)).length ≤ (qPart n f now n).length := qPart_mono n f now (by omega)
                rw [qPart_succ, if_neg hq, List.length_append] at h2
                rw [List.length_append]; omega
              have HIH1 := Lib.hid (HIH.out (some ⟨g2, 0, none⟩) cap2 (now ++ [(k : Int)]) w2 (done ++ qPart n f now k) (now.length + 1) (by simp) (by have := HL.out; simp; omega) (by have := hbel.size; omega) (owns_base hown2 hbB)
                (HI.out _ _ _ HI1.out hbel) hcnt)
              clear hown hown2 hbl hbl2 hg2
              refine HIH1.out.mono ?_
              rintro e w3 ⟨rfl, hi2, hkp2⟩
              have HI2 := Lib.hid hi2
              have HK2 := Lib.hid hkp2
              clear hi2 hkp2 HIH1
              go_wp2_with fail
              go_roundw
              case rel => exact ⟨k + 1, by go_num, by omega, by rw [qPart_succ, if_neg hq, ← List.append_assoc]; exact HI2.out, (HK1.out.below hbel HK1.out.size).trans HK2.out⟩
              case measure => simp [intOf]; omega
      · obtain rfl : k = n := by omega
        go_wp2_with fail
        go_end0
        exact ⟨rfl, by rw [qSols_succ]; exact HI1.out, HK1.out⟩

end Go.Proofs.Ytkcpncaedocdnaa
