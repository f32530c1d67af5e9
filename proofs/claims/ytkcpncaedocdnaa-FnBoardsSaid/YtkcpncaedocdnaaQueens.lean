/-
  Queens: the walks.
-/
import Derived.Test.YtkcpncaedocdnaaQueensM
import Derived.Test.YtkcpncaedocdnaaFirstInv
namespace Go.Proofs.Ytkcpncaedocdnaa
open Go.RowKit

set_option maxHeartbeats 1000000 in
theorem l07Queens_any (B0 : Nat) (n : Nat) (hn1 : 1 ≤ n) (hn8 : n ≤ 8) (f : Nat) : ∀ (a : Option Addr) (cap : Nat) (now : List Int) (w : World) (pb : Nat) (fv : Value) (acc : List (List Int)) (m : Nat), now.length = m →
    now.length + f = n → Slc w (.slice a m cap) (now.map I64) → Box w pb 22 fv → FirstInv B0 w fv acc → B0 ≤ w.heap.size →
    Calls Try.prog 104 #[.int .i64 n, .slice a m cap, .pointer (some ⟨pb, 0, none⟩)] w fun e w' =>
      e = .returned (.int .i64 (qSols n f now).length) ∧ ∃ fv', Box w' pb 22 fv' ∧ FirstInv B0 w' fv' (acc ++ qSols n f now) ∧ Kept (· = pb) w w' := by
  induction f with
  | zero =>
    intro a cap now w pb fv acc m hm hlen hs hbox hfi hB0
    subst hm
    obtain rfl : now.length = n := hlen
    rcases hfi with ⟨rfl, fa, fc, rfl⟩ | ⟨s, r, g, fc, rfl, hne, rfl, hown⟩
    · have hc := hbox.cell
      have hfr := hbox.free
      have hlt := hbox.lt
      have hsl := hs.below (Below.alloc (Below.refl w.heap.size w) (Nat.le_refl _) (.cells #[] 2)) (Nat.le_refl _)
      have hk0 : Kept (· = pb) w (w.alloc (.cells #[] 2)) := (Kept.refl _ _).alloc _
      have HS := Lib.hid hs
      have HB := Lib.hid hbox
      clear hs hbox
      go_enter Try.func104, Try.ntmps104
      go_wp2_with (at_builtin; refine app_own rfl _ _ rfl w.heap.size ⟨w.heap.size, 0, none⟩ 0 0 [] rfl (owns_empty w) _ now rfl hsl now.length now (by simp) (by simp) (by omega) (by simp) ?_; intro g cap' w1 hown hbl hg; have hb1 := ((HB.out.below ((Below.refl _ _).alloc (Nat.le_refl _) _) hlt).below hbl hlt); have hc1 := hb1.cell; have hf1 := hb1.free)
      go_ret
      refine ⟨by simp [qSols], _, hb1.set _, ?_, ((hk0.below hbl (Nat.le_refl _)).setCell (.inr rfl) _)⟩
      simp only [qSols, List.nil_append]
      refine .inr ⟨now, [], g, cap', rfl, by intro e; subst e; simp at hn1, rfl, ?_⟩
      have hne : (Value.slice (some ⟨g, 0, none⟩) now.length cap').ownBlock ≠ some pb := by
        have := (owns_lt hown (k := g) rfl).1
        simp [Value.ownBlock]; omega
      exact ownsRow_setCell_other (owns_base hown hB0) hne _
    · have hc := hbox.cell
      have hsn : ((s.length : Int) == 0) = false := by
        have : s.length ≠ 0 := fun e => hne (List.length_eq_zero_iff.1 e)
        simp; omega
      have HB := Lib.hid hbox
      have HO := Lib.hid hown
      clear hs hbox hown
      go_enter Try.func104, Try.ntmps104
      go_wp2_with fail
      go_ret
      exact ⟨by simp [qSols], _, HB.out, .inr ⟨s, r ++ [now], g, fc, by simp [qSols], hne, rfl, HO.out⟩, Kept.refl _ _⟩
  | succ f ih =>
    intro a cap now w pb fv acc m hm hlen hs hbox hfi hB0
    subst hm
    have hnl : ((now.length : Int) == (n : Int)) = false := by simp; omega
    have HS := Lib.hid hs
    have HB := Lib.hid hbox
    have HF := Lib.hid hfi
    clear hs hbox hfi
    have hnl8 : now.length ≤ 8 := by omega
    have HL := Lib.hid hlen
    clear hlen
    go_enter Try.func104, Try.ntmps104
    go_wp2_with fail
    go_loopw [8, 9] (fun cnt c wr => ∃ k : Nat, c = .int .i64 k ∧ k ≤ n ∧ cnt = .int .i64 (qPart n f now k).length ∧ ∃ fv', Box wr pb 22 fv' ∧ FirstInv B0 wr fv' (acc ++ qPart n f now k) ∧ Kept (· = pb) w wr)
      (fun _ c _ => n - (intOf c).toNat)
    case atStart => exact ⟨0, rfl, Nat.zero_le _, by simp [qPart], fv, HB.out, by simpa [qPart] using HF.out, Kept.refl _ _⟩
    case round =>
      obtain ⟨k, rfl, hk, rfl, fv1, hbox, hfi, hkp⟩ := hrel
      have HS1 := Lib.hid (ints_beside HS.out HB.out HF.out.slice hkp)
      have HB1 := Lib.hid hbox
      have HF1 := Lib.hid hfi
      have HK1 := Lib.hid hkp
      clear hbox hfi hkp
      by_cases hlt : k < n
      · go_wp2_with fail
        obtain ⟨wo, rfl⟩ : ∃ wo : World, wo = wr := ⟨_, rfl⟩
        go_loopw [10, 36] (fun fr i wi => ∃ j : Nat, i = .int .i64 j ∧ j ≤ now.length ∧ fr = .bool (!qBad now k j) ∧ wi = wo) (fun _ i _ => now.length - (intOf i).toNat)
        case atStart => exact ⟨0, rfl, Nat.zero_le _, by simp [qBad], rfl⟩
        case round =>
          obtain ⟨j, rfl, hj, rfl, rfl⟩ := hrel
          by_cases hjl : j < now.length
          · obtain ⟨b, off, rfl, hb0, hc0⟩ := HS1.out.at (i := j) (u := .int .i64 (now.getD j 0)) (by simp [I64, hjl])
            obtain ⟨x, hx⟩ : ∃ x, x = now.getD j 0 := ⟨_, rfl⟩
            rw [← hx] at hc0
            have HX := Lib.hid hx
            clear hx
            go_wp2_with fail
            all_goals
              go_roundw
              case rel => exact ⟨j + 1, by go_num, by omega, by rw [qBad_step HX.out]; simp_all, by first | trivial | rfl⟩
              case measure => simp [intOf]; omega
          · obtain rfl : j = now.length := by omega
            by_cases hq : qBad now k now.length = true
            · have hq' : (!qBad now k now.length) = false := by simp [hq]
              rw [hq']
              go_wp2_with fail
              go_roundw
              case rel => exact ⟨k + 1, by go_num, by omega, by rw [qPart_succ, if_pos hq, List.append_nil], fv1, HB1.out, by rw [qPart_succ, if_pos hq, List.append_nil]; exact HF1.out, HK1.out⟩
              case measure => simp [intOf]; omega
            · have hq' : (!qBad now k now.length) = true := by simp [hq]
              rw [hq']
              have hb1 := qPart_small n f now hn8 (by have := HL.out; omega) k hk
              have hsl := HS1.out.below (Below.alloc (Below.refl wr.heap.size wr) (Nat.le_refl _) (.cells #[] 2)) (Nat.le_refl _)
              go_wp2_with (first
                | (at_builtin; refine app_own rfl (.tmp 70) (.tmp 71) rfl wr.heap.size ⟨wr.heap.size, 0, none⟩ 0 0 [] rfl (owns_empty wr) _ now rfl hsl now.length now (by simp) (by simp) (by omega) (by simp) ?_; intro g cap' w1 hown hbl hg)
                | (at_builtin; refine app_own rfl (.tmp 72) (.tmp 74) rfl wr.heap.size ⟨g, 0, none⟩ now.length cap' now rfl (hown.alloc _) _ [(k : Int)] rfl (slc_one _ _) (now.length + 1) (now ++ [(k : Int)]) (by simp) (by simp) (by omega) (by have := hbl.size; simp at *; omega) ?_; intro g2 cap2 w2 hown2 hbl2 hg2))
              have hbel : Below wr.heap.size wr w2 := (((Below.refl _ _).alloc (Nat.le_refl _) _).trans hbl).trans (((Below.refl _ _).alloc (by have := hbl.size; simp at this; omega) _).trans hbl2)
              have hbl1 := HB1.out.lt
              have hcl := qSols_len n f (now ++ [(k : Int)])
              have hpw : n ^ f ≤ 16777216 := Nat.le_trans (Nat.le_trans (Nat.pow_le_pow_left hn8 f) (Nat.pow_le_pow_right (by decide) (by have := HL.out; omega : f ≤ 8))) (by decide)
              have hcs : (qSols n f (now ++ [(k : Int)])).length ≤ 16777216 := Nat.le_trans hcl hpw
              have HIH := Lib.hid (ih (some ⟨g2, 0, none⟩) cap2 (now ++ [(k : Int)]) w2 pb fv1 (acc ++ qPart n f now k) (now.length + 1) (by simp) (by have := HL.out; simp; omega) (slc_of_owns hown2) (HB1.out.below hbel hbl1)
                (HF1.out.kept (Kept.of_below hbel (Nat.le_refl _)) HB1.out) (Nat.le_trans hB0 (Nat.le_trans HK1.out.size hbel.size)))
              clear ih hown hown2 hbl hbl2 hg hg2 hsl hcl hpw
              refine HIH.out.mono ?_
              rintro e w3 ⟨rfl, fv2, hbox2, hfi2, hkp2⟩
              have HB2 := Lib.hid hbox2
              have HF2 := Lib.hid hfi2
              have HK2 := Lib.hid hkp2
              clear hbox2 hfi2 hkp2 HIH
              go_wp2_with fail
              go_roundw
              case rel => exact ⟨k + 1, by go_num, by omega, by rw [qPart_succ, if_neg hq, List.length_append]; go_num, fv2, HB2.out, by rw [qPart_succ, if_neg hq, ← List.append_assoc]; exact HF2.out, (HK1.out.below hbel HK1.out.size).trans HK2.out⟩
              case measure => simp [intOf]; omega
      · obtain rfl : k = n := by omega
        go_wp2_with fail
        go_ret
        exact ⟨by rw [qSols_succ]; rfl, fv1, HB1.out, by rw [qSols_succ]; exact HF1.out, HK1.out⟩

end Go.Proofs.Ytkcpncaedocdnaa
