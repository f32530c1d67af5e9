/-
  Choices: the reference that counts them, keeps the first one and marks the numbers.
-/
import Derived.Test.YtnhamdkpeefioaaMarks
import Derived.Test.YtnhamdkpeefioaaEachC
namespace Go.Proofs.Ytnhamdkpeefioaa
open Go.RowKit

theorem choi_8 {D : List (List Int)} (hD : ValD D) (f : Nat) (now : List Int) (hf : f ≤ 6) : (choi D f now).length ≤ 262144 := by
  have h1 := choi_len D (fun d hd => by
    obtain ⟨i, hi, rfl⟩ := List.getElem_of_mem hd
    have := (hD.2.2 i hi).2.1
    simpa [hi] using this) f now
  have : 8 ^ f ≤ 8 ^ 6 := Nat.pow_le_pow_right (by decide) hf
  omega

set_option maxHeartbeats 4000000 in
set_option maxRecDepth 4000 in
theorem l07Choices_any (dv : Value) (D : List (List Int)) (hD : ValD D) (w0 : World) (hrd : RdL w0 dv D) (B0 pb lo hi : Nat) (sv : Value) (hB1 : w0.heap.size ≤ pb) (hB2 : pb < B0) (hB3 : w0.heap.size ≤ lo) (hB4 : hi ≤ B0) (hpb : pb < lo ∨ hi ≤ pb)
    (f : Nat) : ∀ (a : Option Addr) (cap : Nat) (now : List Int) (w : World) (fv : Value) (acc : List (List Int)) (F : Nat → Nat → Bool) (m : Nat), now.length = m →
    now.length + f = D.length → B0 ≤ w.heap.size → Below w0.heap.size w0 w → w.ownsRow B0 2 1 (.slice a m cap) m (now.map I64) → Box w pb 32 fv → FirstInv B0 w fv acc → Marks lo hi w sv D F →
    Calls Try.prog 150 #[dv, .slice a m cap, .pointer (some ⟨pb, 0, none⟩), sv] w fun e w' =>
      e = .returned (.int .i64 (choi D f now).length) ∧ (∃ fv', Box w' pb 32 fv' ∧ FirstInv B0 w' fv' (acc ++ choi D f now)) ∧ Marks lo hi w' sv D (markL D F (choi D f now)) ∧ Kept (fun b => b = pb ∨ (lo ≤ b ∧ b < hi)) w w' := by
  obtain ⟨da, dc, rfl⟩ := hrd.shape
  have hD6 := hD.2.1
  have hD1 := hD.1
  have HD := Lib.hid hD
  have HRD := Lib.hid hrd
  clear hD hrd
  induction f with
  | zero =>
    intro a cap now w fv acc F m hm hlen hB hb0 hs hbox hfi hmk
    subst hm
    obtain ⟨ob, oc, rfl⟩ := hmk.shape
    have hnl : ((now.length : Int) == (D.length : Int)) = true := by simp; omega
    obtain ⟨fa, fn, fc, rfl⟩ := hfi.slice
    have hc := hbox.cell
    have hfr := hbox.free
    have hlt := hbox.lt
    have HS := Lib.hid hs
    have HB := Lib.hid hbox
    have HF := Lib.hid hfi
    have HM := Lib.hid hmk
    have HB0 := Lib.hid hb0
    have hlen6 : now.length ≤ 6 := by omega
    have hlen1 : 1 ≤ now.length := by omega
    have HL := Lib.hid (show now.length = D.length by omega)
    clear hs hbox hfi hmk hb0 hlen
    go_enter Try.func150, Try.ntmps150
    go_upto_if 25 with fail
    go_cut [] from 15 (fun wx => (∃ fv', Box wx pb 32 fv' ∧ FirstInv B0 wx fv' (acc ++ [now])) ∧ Marks lo hi wx (.slice (some ⟨ob, 0, none⟩) D.length oc) D F ∧ Kept (fun b => b = pb ∨ (lo ≤ b ∧ b < hi)) w wx)
    case first =>
      rcases HF.out with ⟨hacc, fa', fc', e⟩ | ⟨s, r, g, fc', hacc, hne, e, hown⟩
      · simp only [Value.slice.injEq] at e
        obtain ⟨rfl, rfl, rfl⟩ := e
        have hsl := (slc_of_owns HS.out).below (Below.alloc (Below.refl w.heap.size w) (Nat.le_refl _) (.cells #[] 2)) (Nat.le_refl _)
        go_wp2_with (at_builtin; refine app_own rfl _ _ rfl w.heap.size ⟨w.heap.size, 0, none⟩ 0 0 [] rfl (owns_empty w) _ now rfl hsl now.length now (by simp) (by simp) (by omega) (by simp) ?_; intro g cap' w1 hown hbl hg; have hb1 := ((HB.out.below ((Below.refl _ _).alloc (Nat.le_refl _) _) hlt).below hbl hlt); have hc1 := hb1.cell; have hf1 := hb1.free)
        go_meet
        case rel =>
          have hbel : Below w.heap.size w w1 := ((Below.refl _ _).alloc (Nat.le_refl _) _).trans hbl
          have hgl := (owns_lt hown (k := g) rfl).1
          refine ⟨⟨_, hb1.set _, .inr ⟨now, [], g, cap', by rw [hacc]; rfl, by intro e; rw [e] at hlen1; simp at hlen1, rfl, ownsRow_setCell_other (owns_base hown hB) (by simp [Value.ownBlock]; omega) _⟩⟩, ?_, (Kept.of_below hbel (Nat.le_refl _)).setCell (.inr (.inl rfl)) _⟩
          exact (HM.out.up hbel (Nat.le_refl _)).kept (S := (· = pb)) (Kept.setCell (S := (· = pb)) (Kept.refl _ _) (.inr rfl) _) (by intro b h1 h2 h3; omega)
      · simp only [Value.slice.injEq] at e
        obtain ⟨rfl, rfl, rfl⟩ := e
        have hsn : ((s.length : Int) == 0) = false := by
          have : s.length ≠ 0 := fun e => hne (List.length_eq_zero_iff.1 e)
          simp; omega
        have HO := Lib.hid hown
        clear hown
        go_wp2_with fail
        go_meet
        case rel => exact ⟨⟨_, HB.out, .inr ⟨s, r ++ [now], g, fc, by rw [hacc]; rfl, hne, rfl, HO.out⟩⟩, HM.out, Kept.refl _ _⟩
    case rest =>
      obtain ⟨⟨fv', hbx, hfi⟩, hmk, hkp⟩ := hcut
      have HBX := Lib.hid hbx
      have HFI := Lib.hid hfi
      have HKP := Lib.hid hkp
      have HMK := Lib.hid hmk
      have HS1 := Lib.hid (owns_kept HS.out hkp (fun b hb => by have := (owns_lt HS.out hb).1; intro hs; omega))
      clear hbx hfi hmk hkp hc hfr
      have HB1 := Lib.hid (keptUp HB0.out HKP.out (fun b hb => by rcases hb with rfl | hb <;> omega))
      go_wp2_with fail
      go_loopw [33] (fun kk wr => ∃ i : Nat, kk = .int .i64 i ∧ i ≤ now.length ∧ Marks lo hi wr (.slice (some ⟨ob, 0, none⟩) D.length oc) D (markP D F now i 0) ∧ Kept (fun b => lo ≤ b ∧ b < hi) wc wr) (fun kk _ => now.length - (intOf kk).toNat)
      case atStart => exact ⟨0, rfl, Nat.zero_le _, by rw [markP_zero]; exact HMK.out, Kept.refl _ _⟩
      case round =>
        obtain ⟨i, rfl, hi1, hmk, hkp⟩ := hrel
        have HMr := Lib.hid hmk
        have HKr := Lib.hid hkp
        clear hmk hkp
        by_cases hlt : i < now.length
        · have hiD : i < D.length := by have := HL.out; omega
          have HBr := Lib.hid (keptUp HB1.out HKr.out (fun b hb => by omega))
          obtain ⟨db, dof, u, rfl, _, hc00, hu⟩ := HRD.out.at hiD
          have hc0 := held_of HBr.out hc00 (Nat.le_refl _)
          have HC00 := Lib.hid hc00
          have hd8 := (HD.out.2.2 i hiD).2.1
          obtain ⟨d, hd⟩ : ∃ d, d = D.getD i [] := ⟨_, rfl⟩
          rw [← hd] at hu hd8
          obtain ⟨ua, uc, rfl⟩ := hu.shape
          have HU := Lib.hid hu
          have HDD := Lib.hid hd
          clear hu hc00 hd
          go_wp2_with fail
          go_loopw [41] (fun kk wi => ∃ k : Nat, kk = .int .i64 k ∧ k ≤ d.length ∧ Marks lo hi wi (.slice (some ⟨ob, 0, none⟩) D.length oc) D (markP D F now i k) ∧ Kept (fun b => lo ≤ b ∧ b < hi) wc wi) (fun kk _ => d.length - (intOf kk).toNat)
          case atStart => exact ⟨0, rfl, Nat.zero_le _, HMr.out, HKr.out⟩
          case round =>
            obtain ⟨k, rfl, hk1, hmk, hkp⟩ := hrel
            have HMi := Lib.hid hmk
            have HKi := Lib.hid hkp
            clear hmk hkp
            by_cases hltk : k < d.length
            · have HBi := Lib.hid (keptUp HB1.out HKi.out (fun b hb => by omega))
              have hci := held_of HBi.out HC00.out (Nat.le_refl _)
              obtain ⟨ub, uo, rfl, _, hcd⟩ := (HU.out.up HBi.out (Nat.le_refl _)).at hltk
              have hsn := owns_kept HS1.out HKi.out (fun b hb => by have := (owns_lt HS1.out hb).1; intro hs; omega)
              obtain ⟨nb, no, rfl, _, hcn⟩ := (show RdI _ _ now from slc_of_owns hsn).at hlt
              obtain ⟨g, gc, m1, m2, m3, m4, m5, m6, m7⟩ := HMi.out.at (i := i) (k := k) hiD (by rw [← HDD.out]; exact hltk)
              rw [← HDD.out] at m1
              have HX := Lib.hid (show ((d.getD k 0) == now.getD i 0) = (((D.getD i []).getD k 0) == now.getD i 0) by rw [HDD.out])
              obtain ⟨x, hx⟩ : ∃ x, x = d.getD k 0 := ⟨_, rfl⟩
              obtain ⟨y, hy⟩ : ∃ y, y = now.getD i 0 := ⟨_, rfl⟩
              rw [← hx] at hcd HX
              rw [← hy] at hcn HX
              have HM7 := Lib.hid m7
              clear hsn m7 hx hc0
              by_cases hq : x = y
              · have hq' : (x == y) = true := by simp [hq]
                have HQ := Lib.hid (show (((D.getD i []).getD k 0) == now.getD i 0) = true by rw [← hy, ← HX.out]; exact hq')
                clear hq hy
                go_wp2_with fail
                go_quiet (fail)
                go_wp2_with fail
                go_roundw
                case rel => exact ⟨k + 1, by go_num, by omega, HM7.out.congr fun i' k' _ _ => markP_set D F now i k HQ.out i' k', HKi.out.drewN _ |>.setCell (.inr ⟨m4, m5⟩) _⟩
                case measure => simp [intOf]; omega
              · have hq' : (x == y) = false := by simp [hq]
                have HQ := Lib.hid (show (((D.getD i []).getD k 0) == now.getD i 0) = false by rw [← hy, ← HX.out]; exact hq')
                clear hq hy
                go_wp2_with fail
                go_quiet (fail)
                go_wp2_with fail
                go_roundw
                case rel => exact ⟨k + 1, by go_num, by omega, by rw [← markP_skip D F now i k HQ.out]; exact HMi.out, HKi.out.drewN _⟩
                case measure => simp [intOf]; omega
            · obtain rfl : k = d.length := by omega
              go_wp2_with fail
              go_roundw
              case rel => exact ⟨i + 1, by go_num, by omega, HMi.out.congr fun i' k' h1 h2 => by rw [HDD.out]; exact markP_row D F now i i' k' h2, HKi.out⟩
              case measure => simp [intOf]; omega
        · obtain rfl : i = now.length := by omega
          go_wp2_with fail
          go_ret
          have hk2 : Kept (fun b => b = pb ∨ (lo ≤ b ∧ b < hi)) wc wr := HKr.out.mono (fun i _ h => .inr h)
          refine ⟨by simp [choi], ⟨fv', HBX.out.kept HKr.out (by omega), HFI.out.keptS HKr.out (fun g h1 h2 => by omega) HBX.out⟩, ?_, HKP.out.trans hk2⟩
          refine HMr.out.congr fun i' k' h1 _ => ?_
          rw [HL.out]
          exact markP_all D F now i' k' h1
  | succ f ih =>
    intro a cap now w fv acc F m hm hlen hB hb0 hs hbox hfi hmk
    subst hm
    obtain ⟨ob, oc, rfl⟩ := hmk.shape
    have hnl : ((now.length : Int) == (D.length : Int)) = false := by rw [beq_eq_false_iff_ne]; omega
    have hnl8 : now.length < D.length := by omega
    obtain ⟨db, dof, u, rfl, _, hc00, hu⟩ := HRD.out.at hnl8
    have hc0 := held_of hb0 hc00 (Nat.le_refl _)
    have HC00 := Lib.hid hc00
    have hd8 := (HD.out.2.2 now.length hnl8).2.1
    have HCS := Lib.hid (choi_succ D f now)
    have HCP := Lib.hid (cPart_succ D f now)
    have HPRE := Lib.hid (cPart_pre D f now)
    have HC8 := Lib.hid (choi_8 HD.out (f + 1) now (by omega))
    obtain ⟨d, hd⟩ : ∃ d, d = D.getD now.length [] := ⟨_, rfl⟩
    rw [← hd] at hu hd8 HCS HCP HPRE
    obtain ⟨ua, uc, rfl⟩ := hu.shape
    have HU := Lib.hid hu
    have HB0 := Lib.hid hb0
    have HS := Lib.hid hs
    have HBX := Lib.hid hbox
    have HFI := Lib.hid hfi
    have HMK := Lib.hid hmk
    have HIH := Lib.hid ih
    have HL := Lib.hid hlen
    clear hs ih hlen hd hb0 hu hc00 hbox hfi hmk
    go_enter Try.func150, Try.ntmps150
    go_wp2_with fail
    go_loopw [12, 69] (fun cnt kk wr => ∃ k : Nat, kk = .int .i64 k ∧ k ≤ d.length ∧ cnt = .int .i64 (cPart D f now k).length ∧ (∃ fv', Box wr pb 32 fv' ∧ FirstInv B0 wr fv' (acc ++ cPart D f now k)) ∧ Marks lo hi wr (.slice (some ⟨ob, 0, none⟩) D.length oc) D (markL D F (cPart D f now k)) ∧ Kept (fun b => b = pb ∨ (lo ≤ b ∧ b < hi)) w wr)
      (fun _ kk _ => d.length - (intOf kk).toNat)
    case atStart => exact ⟨0, rfl, Nat.zero_le _, by simp [cPart], ⟨fv, HBX.out, by simpa [cPart] using HFI.out⟩, by rw [cPart_zero, markL_nil]; exact HMK.out, Kept.refl _ _⟩
    case round =>
      obtain ⟨k, rfl, hk, rfl, ⟨fv1, hbx, hfi⟩, hmk, hkp⟩ := hrel
      have HS1 := Lib.hid (owns_kept HS.out hkp (fun b hb => by have := (owns_lt HS.out hb).1; intro hs; omega))
      have HB1 := Lib.hid (keptUp HB0.out hkp (fun b hb => by rcases hb with rfl | hb <;> omega))
      have HBX1 := Lib.hid hbx
      have HFI1 := Lib.hid hfi
      have HMK1 := Lib.hid hmk
      have HK1 := Lib.hid hkp
      have hsz1 := hkp.size
      clear hbx hfi hmk hkp hc0
      by_cases hlt : k < d.length
      · have hc0 := held_of HB1.out HC00.out (Nat.le_refl _)
        obtain ⟨ub, uo, rfl, _, hc1⟩ := (HU.out.up HB1.out (Nat.le_refl _)).at hlt
        have HP := Lib.hid (HCP.out k hlt)
        have HPL := Lib.hid (HPRE.out (k + 1) (d.length - (k + 1)) (by omega))
        obtain ⟨x, hx⟩ : ∃ x, x = d.getD k 0 := ⟨_, rfl⟩
        rw [← hx] at hc1 HP
        clear hx
        by_cases hq : hasB now x = true
        · go_wp2_with (go_at_call 87; refine (l00Has_any _ now x _ (slc_of_owns HS1.out)).mono ?_; rintro e w' ⟨rfl, rfl⟩)
          go_roundw
          case rel =>
            have e : cPart D f now (k + 1) = cPart D f now k := by rw [HP.out, if_pos (show now.contains x = true from hq), List.append_nil]
            exact ⟨k + 1, by go_num, by omega, by rw [e], ⟨fv1, HBX1.out, by rw [e]; exact HFI1.out⟩, by rw [e]; exact HMK1.out, HK1.out⟩
          case measure => simp [intOf]; omega
        · have hq' : hasB now x = false := by simpa using hq
          have hnq : ¬ now.contains x = true := hq
          have HPP := Lib.hid (show cPart D f now (k + 1) = cPart D f now k ++ choi D f (now ++ [x]) by rw [HP.out, if_neg hnq])
          have hcnt1 : (cPart D f now k).length + (choi D f (now ++ [x])).length ≤ 262144 := by
            obtain ⟨m, hm⟩ := HPL.out
            rw [show k + 1 + (d.length - (k + 1)) = d.length by omega, HPP.out] at hm
            have h1 := HC8.out
            rw [HCS.out, hm] at h1
            simp only [List.length_append] at h1
            omega
          go_upto_region 21 with (go_at_call 87; refine (l00Has_any _ now x _ (slc_of_owns HS1.out)).mono ?_; rintro e w' ⟨rfl, rfl⟩)
          go_cut [14, 69] from 69 to 101 (fun nx ix wx => ∃ g2 cap2, nx = .slice (some ⟨g2, 0, none⟩) (now.length + 1) cap2 ∧ ix = .int .i64 k ∧ wx.ownsRow wr.heap.size 2 1 (.slice (some ⟨g2, 0, none⟩) (now.length + 1) cap2) (now.length + 1) ((now ++ [x]).map I64) ∧ Below wr.heap.size wr wx)
          case first =>
            have HSW := Lib.hid (slc_of_owns HS1.out)
            have HKEEP := Lib.hid (show ∀ X, Below wr.heap.size wr X → X.cell? ⟨db, dof + now.length, none⟩ = some (.slice (some ⟨ub, uo, none⟩) d.length uc) ∧ X.cell? ⟨ub, uo + k, none⟩ = some (.int .i64 x) ∧ Below wr.heap.size wr X from fun X hb => ⟨held_of hb hc0 (Nat.le_refl _), held_of hb hc1 (Nat.le_refl _), hb⟩)
            go_region_held3 (fun w' => w'.cell? ⟨db, dof + now.length, none⟩ = some (.slice (some ⟨ub, uo, none⟩) d.length uc) ∧ w'.cell? ⟨ub, uo + k, none⟩ = some (.int .i64 x) ∧ Below wr.heap.size wr w')
              (first | (refine HKEEP.out _ ?_; (repeat' first | exact Below.refl _ _ | assumption | refine Below.alloc ?_ ?_ _ | refine Below.setCell ?_ ?_ _ | refine Below.drew ?_ | (simp; done) | (simp; omega))))
              (first
                | (refine step_app_own rfl (.tmp 82) (.tmp 83) (by rfl) wr.heap.size _ 0 _ [] (by rfl) (by first | exact owns_base (owns_emptyB _ _ (by simp)) (by simp) | exact owns_base ((owns_emptyB _ _ (by simp)).alloc _) (by simp) | exact owns_drew (owns_base (owns_emptyB _ _ (by simp)) (by simp)) | exact owns_drew (owns_base ((owns_emptyB _ _ (by simp)).alloc _) (by simp))) _ now (by rfl) (HSW.out.below (B := wr.heap.size) (by (repeat' first | exact Below.refl _ _ | assumption | refine Below.alloc ?_ ?_ _ | refine Below.setCell ?_ ?_ _ | refine Below.drew ?_ | (simp; done) | (simp; omega))) (Nat.le_refl _)) now.length now (by simp) (by simp) (by omega) (by first | (simp; done) | (simp; omega)) ?_; intro g cap' w1 hown hbl0 hg; have hbl : Below wr.heap.size wr w1 := Below.trans (by (repeat' first | exact Below.refl _ _ | assumption | refine Below.alloc ?_ ?_ _ | refine Below.setCell ?_ ?_ _ | refine Below.drew ?_ | (simp; done) | (simp; omega))) hbl0; clear hbl0; have hbs := hbl.size)
                | (refine step_app_own rfl (.tmp 84) (.tmp 92) (by rfl) wr.heap.size _ now.length _ now (by rfl) (by first | exact hown | exact hown.alloc _) _ [x] (by rfl) (by first | exact slc_one _ _ | (refine slc_grown ?_ hg ?_; (first | exact slc_oneB _ _ _ (by simp) | exact slc_drew (slc_oneB _ _ _ (by simp)) | exact slc_alloc (slc_oneB _ _ _ (by simp)) _ | exact slc_drew (slc_alloc (slc_oneB _ _ _ (by simp)) _) | exact slc_alloc (slc_drew (slc_oneB _ _ _ (by simp))) _); simp [Value.ownBlock])) (now.length + 1) (now ++ [x]) (by simp) (by simp) (by omega) (by have := hbl.size; simp; omega) ?_; intro g2 cap2 w2 hown2 hbl2 hg2; have hbl3 : Below wr.heap.size wr w2 := Below.trans (by (repeat' first | exact Below.refl _ _ | assumption | refine Below.alloc ?_ ?_ _ | refine Below.setCell ?_ ?_ _ | refine Below.drew ?_ | (simp; done) | (simp; omega))) hbl2; clear hbl2; have hbs2 := hbl3.size))
            all_goals
              go_wp2_with fail
              go_meet
              case rel => exact ⟨g2, cap2, rfl, rfl, hown2, hbl3⟩
          case rest =>
            obtain ⟨g2, cap2, rfl, rfl, hown2, hbel⟩ := hcut
            have hbB : B0 ≤ wr.heap.size := Nat.le_trans hB HK1.out.size
            have hpl := HBX1.out.lt
            have HIH1 := Lib.hid (HIH.out (some ⟨g2, 0, none⟩) cap2 (now ++ [x]) wc fv1 (acc ++ cPart D f now k) (markL D F (cPart D f now k)) (now.length + 1) (by simp) (by have := HL.out; simp; omega) (by have := hbel.size; omega) (HB1.out.trans (hbel.mono HB1.out.size)) (owns_base hown2 hbB)
              (HBX1.out.below hbel hpl) (HFI1.out.keptS (Kept.of_below (S := fun _ => False) hbel (Nat.le_refl _)) (fun _ _ x => x.elim) HBX1.out) (HMK1.out.up hbel (Nat.le_refl _)))
            clear hown2
            go_wp2_with fail
            refine HIH1.out.mono ?_
            rintro e w3 ⟨rfl, ⟨fv3, hbx3, hfi3⟩, hmk3, hkp3⟩
            rw [markL_append, ← HPP.out] at hmk3
            rw [List.append_assoc, ← HPP.out] at hfi3
            have HBX3 := Lib.hid hbx3
            have HFI3 := Lib.hid hfi3
            have HMK3 := Lib.hid hmk3
            have HK3 := Lib.hid ((HK1.out.below hbel HK1.out.size).trans hkp3)
            have HE := Lib.hid (show (cPart D f now (k + 1)).length = (cPart D f now k).length + (choi D f (now ++ [x])).length by rw [HPP.out, List.length_append])
            clear hbx3 hfi3 hmk3 hkp3 HIH1
            obtain ⟨n1, hn1⟩ : ∃ n, n = (cPart D f now k).length := ⟨_, rfl⟩
            obtain ⟨n2, hn2⟩ : ∃ n, n = (choi D f (now ++ [x])).length := ⟨_, rfl⟩
            rw [← hn1, ← hn2] at hcnt1 HE
            rw [← hn1, ← hn2]
            clear hn1 hn2
            go_wp2_with fail
            go_roundw
            case rel => exact ⟨k + 1, by go_num, by omega, by rw [HE.out]; go_num, ⟨fv3, HBX3.out, HFI3.out⟩, HMK3.out, HK3.out⟩
            case measure => simp [intOf]; omega
      · obtain rfl : k = d.length := by omega
        go_wp2_with fail
        go_ret
        exact ⟨by rw [HCS.out]; rfl, ⟨fv1, HBX1.out, by rw [HCS.out]; exact HFI1.out⟩, by rw [HCS.out]; exact HMK1.out, HK1.out⟩

end Go.Proofs.Ytnhamdkpeefioaa
