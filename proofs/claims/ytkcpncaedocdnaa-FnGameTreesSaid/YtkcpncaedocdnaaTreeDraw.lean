/-
  A drawn tree is valid.
-/
import Derived.Test.YtkcpncaedocdnaaSrc
import Derived.Test.YtkcpncaedocdnaaAppL
import Derived.Test.YtkcpncaedocdnaaValTO
import Derived.Test.YtkcpncaedocdnaaTreeM
import Derived.Deep.RegionLaw
namespace Go.Proofs.Ytkcpncaedocdnaa
open Go.RowKit

/-- The parents and values so far. -/
def DrawOk (P V : List Int) (k : Nat) : Prop := P.length = k ∧ V.length = k ∧ (0 < k → P.getD 0 0 = -1) ∧ (∀ i, 0 < i → i < k → 0 ≤ P.getD i 0 ∧ P.getD i 0 < i) ∧ ∀ i, i < k → -1000000 ≤ V.getD i 0 ∧ V.getD i 0 ≤ 1000000

theorem DrawOk.snoc {P V : List Int} {k : Nat} {p x : Int} (h : DrawOk P V k) (hp0 : k = 0 → p = -1) (hp : 0 < k → 0 ≤ p ∧ p < k) (hx : -1000000 ≤ x ∧ x ≤ 1000000) : DrawOk (P ++ [p]) (V ++ [x]) (k + 1) := by
  obtain ⟨h1, h2, h3, h4, h5⟩ := h
  have gl : ∀ (l : List Int) (y : Int) i, i < l.length → (l ++ [y]).getD i 0 = l.getD i 0 := by intro l y i hi; simp [List.getElem?_append_left hi]
  have ge : ∀ (l : List Int) (y : Int), (l ++ [y]).getD l.length 0 = y := by intro l y; simp
  refine ⟨by simp [h1], by simp [h2], fun _ => ?_, fun i hi hik => ?_, fun i hi => ?_⟩
  · by_cases hk : k = 0
    · have e := ge P p; rw [h1, hk] at e; rw [e]; exact hp0 hk
    · rw [gl _ _ _ (by omega)]; exact h3 (by omega)
  · by_cases hk : i = k
    · subst hk; have e := ge P p; rw [h1] at e; rw [e]; exact hp hi
    · rw [gl _ _ _ (by omega)]; exact h4 i hi (by omega)
  · by_cases hk : i = k
    · subst hk; have e := ge V x; rw [h2] at e; rw [e]; exact hx
    · rw [gl _ _ _ (by omega)]; exact h5 i (by omega)

theorem DrawOk.val {P V : List Int} {k : Nat} (h : DrawOk P V k) (h1 : 1 ≤ k) (h2 : k ≤ 64) : ValT (P, V) := by
  obtain ⟨a, b, c, d, e⟩ := h
  refine ⟨by simp only; omega, by simp only; omega, by simp only; omega, c (by omega), fun i hi => ⟨fun h0 => inB_true ?_, inB_true (e i (by simp only at hi; omega))⟩⟩
  have := d i h0 (by simp only at hi; omega)
  simp only
  omega

theorem owns_grownI {w w' : World} {base : Nat} {e : TypeId} {v : Value} {n : Nat} {vs : List Value} {row : Option Nat} (h : w.ownsRow base e 1 v n vs) (hg : w.grownBy w' row) (hn : ∀ g, v.ownBlock = some g → row ≠ some g) : w'.ownsRow base e 1 v n vs :=
  owns_kept (S := fun k => row = some k) h ⟨hg.os, hg.tape, hg.output, hg.size, fun k hk hs => hg.block k hk fun e => hs e.symm⟩ hn

theorem below_before {B B' : Nat} {a X w' : World} (_ : Below B' X w') (h : Below B a X) : Below B a X := h

/-- What holds at the head of a round. -/
def TreeInv (w0 : World) (W0 : World) (tb sb k : Nat) (v : Value) (w : World) : Prop := ∃ (P V : List Int) (va vb : Value), DrawOk P V k ∧ Blk w tb 28 #[va, vb] ∧
  OwnI W0.heap.size w.heap.size w va P ∧ OwnI W0.heap.size w.heap.size w vb V ∧ (∀ g, va.ownBlock = some g → vb.ownBlock ≠ some g) ∧ SrcAt w sb v (4 * k + 2) ∧ Below w0.heap.size w0 w ∧ W0.heap.size ≤ w.heap.size ∧ Blk w w0.heap.size 28 #[.slice none 0 0, .slice none 0 0]

theorem blk_ne_own {w : World} {b : Nat} {t : TypeId} {cs : Array Value} {u : Value} {lo hi : Nat} {xs : List Int} (h : Blk w b t cs) (ho : OwnI lo hi w u xs) (hte : t ≠ 2) : u.ownBlock ≠ some b := h.not_owned ho.1 hte

set_option maxHeartbeats 4000000 in
set_option maxRecDepth 4000 in
theorem B10Tree_any (v : Value) (bs : List Int) (w : World) (hR : RdB w v bs) (hw : WfB bs) :
    Calls Try.prog 67 #[v] w fun e w' => ∃ (t : List Int × List Int) (v' : Value), ValT t ∧ e = .returned v' ∧ OwnT w.heap.size w'.heap.size w' v' t ∧ Below w.heap.size w w' := by
  have HR := Lib.hid hR
  have HW := Lib.hid hw
  clear hR hw
  go_enter Try.func67, Try.ntmps67
  go_wp2_with fail
  refine Calls.at fun W hW => ?_
  have hb := Lib.hid (show Below w.heap.size w W by subst hW; (repeat' first | exact Below.refl _ _ | assumption | refine Below.alloc ?_ ?_ _ | refine Below.setCell ?_ ?_ _ | refine Below.drew ?_ | (simp; done) | (simp; omega)))
  have hk := Lib.hid (show Blk W w.heap.size 28 #[.slice none 0 0, .slice none 0 0] by subst hW; exact Blk.new _ _ _)
  clear hW
  refine (l00From_any _ bs W (HR.out.up hb.out (Nat.le_refl _))).mono ?_
  rintro e w1 ⟨rfl, hs, hb1⟩
  have HS1 := Lib.hid hs
  have HB1 := Lib.hid (hb.out.trans (hb1.mono hb.out.size))
  have HK1 := Lib.hid (hk.out.below hb1 hk.out.lt)
  have hz1 := hk.out.lt
  have hz2 := hs.lt
  clear hs hb1 hb hk
  go_wp2_with fail
  refine Calls.at fun W2 hW => ?_
  have HT2 := Lib.hid (show Blk W2 w1.heap.size 28 #[.slice none 0 0, .slice none 0 0] by subst hW; exact Blk.new _ _ _)
  have hb2 : Below w1.heap.size w1 W2 := by subst hW; (repeat' first | exact Below.refl _ _ | assumption | refine Below.alloc ?_ ?_ _ | refine Below.setCell ?_ ?_ _ | refine Below.drew ?_ | (simp; done) | (simp; omega))
  have HB2 := Lib.hid (HB1.out.trans (hb2.mono HB1.out.size))
  have HK2 := Lib.hid (HK1.out.below hb2 HK1.out.lt)
  have HS2 := Lib.hid (HS1.out.below hb2 HS1.out.lt)
  have hz3 := HT2.out.lt
  clear hW hb2
  refine (pick_any w v bs HR.out HW.out W.heap.size 0 W2 (by omega) HB2.out HS2.out (by omega) 20 (by omega) (by omega)).mono ?_
  rintro e w3 ⟨r, hr0, hr1, rfl, hs, hk⟩
  have HS3 := Lib.hid hs
  have HT3 := Lib.hid (HT2.out.kept hk (by omega))
  have HB3 := Lib.hid (HB2.out.trans (hk.toBelow HB2.out.size (by intro k h1 h2; omega)))
  have hz4 := hk.size
  have HK3 := Lib.hid (HK2.out.kept hk (by omega))
  clear hs hk HS1 HS2 HT2 HB1 HB2 HK1 HK2
  obtain ⟨N, rfl⟩ : ∃ N : Nat, r = N := ⟨r.toNat, by omega⟩
  go_wp2_with fail
  go_loopw [6] (fun n wr => ∃ k : Nat, n = .int .i64 k ∧ k ≤ 1 + N ∧ Hid (TreeInv w w1 w1.heap.size W.heap.size k v wr)) (fun n _ => 1 + N - (intOf n).toNat)
  case atStart =>
    exact ⟨0, rfl, Nat.zero_le _, [], [], _, _, ⟨rfl, rfl, fun h => by omega, fun i h1 h2 => by omega, fun i h => by omega⟩, HT3.out, ⟨World.ownsRow_nil _ _ _ _, by intro g hg; cases hg⟩, ⟨World.ownsRow_nil _ _ _ _, by intro g hg; cases hg⟩, (by intro g hg; cases hg), HS3.out, HB3.out, by omega, HK3.out⟩
  case round =>
  obtain ⟨k, rfl, hk, hinv⟩ := hrel
  by_cases hlt : k < 1 + N
  · obtain ⟨P, V, va, vb, hdr, hblk, ho1, ho2, hne, hsrc, hbl, hsz, hrb⟩ := hinv.out
    have HD := Lib.hid hdr
    have HT := Lib.hid hblk
    have HO1 := Lib.hid ho1
    have HO2 := Lib.hid ho2
    have HN := Lib.hid hne
    have HS := Lib.hid hsrc
    have HB := Lib.hid hbl
    have HRB := Lib.hid hrb
    clear hdr hblk ho1 ho2 hne hsrc hbl hinv hrb
    obtain ⟨pa, pc, rfl⟩ := HO1.out.rd.shape
    obtain ⟨qa, qc, rfl⟩ := HO2.out.rd.shape
    go_upto_if 20 with (fail)
    go_cut [7] from 14 to 37 (fun p wx => ∃ x : Int, p = .int .i64 x ∧ (k = 0 → x = -1) ∧ (0 < k → 0 ≤ x ∧ x < k) ∧ SrcAt wx W.heap.size v (4 * k + 4) ∧ Kept (· = W.heap.size) wr wx)
    case first =>
      by_cases hk0 : k = 0
      · have t0 : (k : Int) ≤ 0 := by omega
        have H0 := Lib.hid hk0
        clear hk0
        go_wp2_with fail
        go_meet
        case rel => exact ⟨-1, rfl, fun _ => rfl, fun h => by have := H0.out; omega, HS.out.mono (by omega), Kept.refl _ _⟩
      · have t0 : 0 < (k : Int) := by omega
        go_wp2_with fail
        refine (pick_any w v bs HR.out HW.out W.heap.size (4 * k + 2) wr (by omega) HB.out HS.out (by omega) k (by omega) (by omega)).mono ?_
        rintro e w4 ⟨x, hx0, hx1, rfl, hs, hkp⟩
        have HS4 := Lib.hid hs
        have HK4 := Lib.hid hkp
        clear hs hkp
        go_wp2_with fail
        go_meet
        case rel => exact ⟨x, rfl, fun h => by omega, fun _ => ⟨hx0, hx1⟩, HS4.out.mono (by omega), HK4.out⟩
    case rest =>
    obtain ⟨x, rfl, hx1, hx2, hs, hkp⟩ := hcut
    obtain ⟨wx, rfl⟩ : ∃ wx : World, wx = wc := ⟨_, rfl⟩
    have HX1 := Lib.hid hx1
    have HX2 := Lib.hid hx2
    have HSx := Lib.hid hs
    have hkz := hkp.size
    have HTx := Lib.hid (HT.out.kept hkp (by omega))
    have HRx := Lib.hid (HRB.out.kept hkp (by omega))
    have HO1x := Lib.hid (HO1.out.kept hkp (by intro b h1 h2 h3; omega))
    have HO2x := Lib.hid (HO2.out.kept hkp (by intro b h1 h2 h3; omega))
    have HBx := Lib.hid (HB.out.trans (hkp.toBelow HB.out.size (by intro k h1 h2; omega)))
    clear hx1 hx2 hs hkp HT HO1 HO2 HB HS
    have hPl := HD.out.1
    have hVl := HD.out.2.1
    have HPL := Lib.hid hPl
    have HVL := Lib.hid hVl
    clear hPl hVl
    have d0 : wx.cell? ⟨w1.heap.size, 0, none⟩ = some (.slice pa P.length pc) := HTx.out.cell 0 rfl
    have f0 := HTx.out.free 0
    have hTl := HTx.out.lt
    have hwa : Below wx.heap.size wx (wx.alloc (.cells #[.int .i64 x] 2)) := (Below.refl _ _).alloc (Nat.le_refl _) _
    have HOA := Lib.hid (HO1x.out.up hwa (Nat.le_refl _))
    have HTA := Lib.hid (HTx.out.alloc (.cells #[.int .i64 x] 2))
    have hbase : w1.heap.size ≤ (wx.alloc (.cells #[.int .i64 x] 2)).heap.size := by simp; omega
    have hP1 : P.length + 1 ≤ 17592186044416 := by have := HPL.out; omega
    have HNE := Lib.hid (blk_ne_own HTA.out HOA.out (by decide))
    clear hwa
    go_upto_region 11 with (at_builtin; go_loud (refine app_intsL rfl _ _ rfl w1.heap.size (.slice pa P.length pc) P.length P rfl HOA.out.1 _ [x] rfl (slc_one wx x) (P.length + 1) (P ++ [x]) rfl rfl hP1 hbase ?_; intro y1 e1 w5 hown5 hbl5 hg5 hl5; have HT5 := Lib.hid (blkI_grown HTA.out hg5 HNE.out); have q1 := HT5.out.cell 0 rfl; have q2 := HT5.out.free 0))
    refine wp_at fun W6 hW6 => ?_
    have hz5 := hbl5.size
    have hga : Below wx.heap.size wx (wx.alloc (.cells #[.int .i64 x] 2)) := (Below.refl _ _).alloc (Nat.le_refl _) _
    have o2 : OwnI w1.heap.size wr.heap.size w5 (.slice qa V.length qc) V := ownI_grown (HO2x.out.up hga (Nat.le_refl _)) hg5 (fun g h1 h2 => HN.out g h2 h1)
    have HT6 := Lib.hid (show Blk W6 w1.heap.size 28 #[.slice y1 (P.length + 1) e1, .slice qa V.length qc] by subst hW6; simpa using HT5.out.set 0 (.slice y1 (P.length + 1) e1))
    have nb1 := HT5.out.not_owned hown5 (by decide)
    have nb2 := HT5.out.not_owned o2.1 (by decide)
    have HO16 := Lib.hid (show W6.ownsRow w1.heap.size 2 1 (.slice y1 (P.length + 1) e1) (P.length + 1) ((P ++ [x]).map I64) by subst hW6; exact ownsRow_setCell_other hown5 nb1 _)
    have HO26 := Lib.hid (show W6.ownsRow w1.heap.size 2 1 (.slice qa V.length qc) V.length (V.map I64) by subst hW6; exact ownsRow_setCell_other o2.1 nb2 _)
    have HN6 := Lib.hid (show ∀ g, (Value.slice y1 (P.length + 1) e1).ownBlock = some g → (Value.slice qa V.length qc).ownBlock ≠ some g by
      intro g h1 h2
      rcases hl5 with hl | hl
      · exact HN.out g (hl ▸ h1) h2
      · rw [hl] at h1; simp only [Option.some.injEq] at h1; have := (HO2x.out.blk h2).2; simp at h1; omega)
    have HS6 := Lib.hid (show SrcAt W6 W.heap.size v (4 * k + 4) by
      subst hW6
      have k1 : SrcAt w5 W.heap.size v (4 * k + 4) := (HSx.out.below hga (by omega)).below hbl5 hz2
      exact k1.kept (S := (· = w1.heap.size)) (Kept.setCell (S := (· = w1.heap.size)) (p := ⟨w1.heap.size, 0, none⟩) (Kept.refl _ _) (.inr rfl) _) (by omega))
    have HR6 := Lib.hid (show Blk W6 w.heap.size 28 #[.slice none 0 0, .slice none 0 0] by subst hW6; exact ((HRx.out.below hga HRx.out.lt).below hbl5 (by omega)).other (by simp; omega) _)
    have HB6 := Lib.hid (show Below w.heap.size w W6 by
      subst hW6
      exact (HBx.out.trans ((hga.mono (Nat.le_trans (Nat.le_of_lt hz1) (by omega))).trans (hbl5.mono (by omega)))).setCell (by simp; omega) _)
    have hz6 : wx.heap.size + 1 ≤ W6.heap.size := by subst hW6; have := hg5.size; simp at this ⊢; omega
    have hz7 : W6.heap.size = w5.heap.size := by subst hW6; simp
    clear hW6 o2 nb1 nb2 hown5 hbl5 hg5 hl5 HT5 q1 q2 hga d0 f0 HTx HO1x HO2x HBx HN
    have HKEEP := Lib.hid (show ∀ X, Kept (· = W.heap.size) W6 X → X.cell? ⟨w1.heap.size, 1, none⟩ = some (.slice qa V.length qc) from fun X hk => (HT6.out.kept hk (by omega)).cell 1 rfl)
    have HTK := Lib.hid (show ∀ X, Kept (· = W.heap.size) W6 X → Blk X w1.heap.size 28 #[.slice y1 (P.length + 1) e1, .slice qa V.length qc] from fun X hk => HT6.out.kept hk (by omega))
    have HOK1 := Lib.hid (show ∀ X, Kept (· = W.heap.size) W6 X → X.ownsRow w1.heap.size 2 1 (.slice y1 (P.length + 1) e1) (P.length + 1) ((P ++ [x]).map I64) from fun X hk => owns_kept HO16.out hk (by intro g hg e; have := (owns_lt HO16.out hg).1; omega))
    have HOK2 := Lib.hid (show ∀ X, Kept (· = W.heap.size) W6 X → X.ownsRow w1.heap.size 2 1 (.slice qa V.length qc) V.length (V.map I64) from fun X hk => owns_kept HO26.out hk (by intro g hg e; have := (owns_lt HO26.out hg).1; omega))
    have hV1 : V.length + 1 ≤ 17592186044416 := by have := HVL.out; omega
    have c6 := HKEEP.out W6 (Kept.refl _ _)
    go_region_law (first
        | (go_simp; go_at_call 126; refine (pick_any w v bs HR.out HW.out W.heap.size (4 * k + 4) _ (by omega) (by first | exact HB6.out | exact HB6.out.drew) (by exact HS6.out) (by omega) 21 (by omega) (by omega)).mono ?_; rintro e w8 ⟨z, hz0, hz1, rfl, hs8, hk8⟩; have hzw : IntKind.i64.wrap (z - 10) = z - 10 := IntWalk.i64_in _ (by omega); have hz8 := hk8.size; have hkq : Kept (· = W.heap.size) W6 w8 := Kept.trans (by repeat' first | assumption | exact Kept.refl _ _ | refine Kept.alloc ?_ _ | refine Kept.drew ?_) hk8; have c8 := HKEEP.out w8 hkq; have c9 := HKEEP.out (w8.alloc (.cells #[.int .i64 (z - 10)] 2)) (hkq.alloc _); clear hk8)
        | (refine step_app_intsL rfl (.tmp 31) (.tmp 35) (by rfl) w1.heap.size (.slice qa V.length qc) V.length V (by rfl) (HOK2.out _ (by repeat' first | assumption | exact Kept.refl _ _ | refine Kept.alloc ?_ _ | refine Kept.drew ?_)) _ [z - 10] (by rfl) (by first | exact slc_oneB _ _ _ (by simp) | exact slc_drew (slc_oneB _ _ _ (by simp))) (V.length + 1) (V ++ [z - 10]) (by rfl) (by rfl) hV1 (by have := hkq.size; simp; omega) ?_; intro y2 e2 w9 hown9 hbl9 hg9 hl9; have HT9 := Lib.hid (blkI_grown (HTK.out _ (by repeat' first | assumption | exact Kept.refl _ _ | refine Kept.alloc ?_ _ | refine Kept.drew ?_)) hg9 ((HTK.out _ (by repeat' first | assumption | exact Kept.refl _ _ | refine Kept.alloc ?_ _ | refine Kept.drew ?_)).not_owned (HOK2.out _ (by repeat' first | assumption | exact Kept.refl _ _ | refine Kept.alloc ?_ _ | refine Kept.drew ?_)) (by decide))); have q1 := HT9.out.cell 1 rfl; have q2 := HT9.out.free 1; have HP9 := Lib.hid (owns_grownI (HOK1.out _ (by repeat' first | assumption | exact Kept.refl _ _ | refine Kept.alloc ?_ _ | refine Kept.drew ?_)) hg9 (fun g h1 h2 => HN6.out g h1 h2)); have HX9 := Lib.hid (below_before (B := w8.heap.size) (a := w8) hbl9 (by (repeat' first | exact Below.refl _ _ | assumption | refine Below.alloc ?_ ?_ _ | refine Below.setCell ?_ ?_ _ | refine Below.drew ?_ | (simp; done) | (simp; omega)))); have HR9 := Lib.hid (((HR6.out.kept hkq (by omega)).below HX9.out (HR6.out.kept hkq (by omega)).lt).below hbl9 (by omega)); have HS9 := Lib.hid ((hs8.below HX9.out hs8.lt).below hbl9 hz2); have HW9 := Lib.hid (((HB6.out.trans (hkq.toBelow HB6.out.size (by intro k h1 h2; omega))).trans (HX9.out.mono (by have := hkq.size; have := HB6.out.size; omega))).trans (hbl9.mono (by omega))))
        | fail)
    all_goals
      have hz9 := hbl9.size
      have hz6k := hkq.size
      have HO9 := Lib.hid hown9
      have HL9 := Lib.hid hl9
      clear hs8 hkq hown9 hbl9 hg9 hl9 c6 c8 c9 q1 q2 hzw
      go_wp2_with fail
      go_roundw
      case rel =>
        refine ⟨k + 1, by go_num, by omega, P ++ [x], V ++ [z - 10], .slice y1 (P.length + 1) e1, .slice y2 (V.length + 1) e2, HD.out.snoc HX1.out HX2.out (by omega), by simpa using HT9.out.set 1 (.slice y2 (V.length + 1) e2), ?_, ?_, ?_, ?_, ?_, ?_, ?_⟩
        · have hn1 := HT9.out.not_owned HP9.out (by decide)
          exact OwnI.mk (ownsRow_setCell_other HP9.out hn1 _)
        · have hn2 := HT9.out.not_owned HO9.out (by decide)
          exact OwnI.mk (ownsRow_setCell_other HO9.out hn2 _)
        · intro g h1 h2
          have hlt := (owns_lt HO16.out h1).2
          rcases HL9.out with hl | hl
          · exact HN6.out g h1 (hl ▸ h2)
          · rw [hl] at h2; simp only [Option.some.injEq] at h2; simp at h2; omega
        · exact (HS9.out.kept (S := (· = w1.heap.size)) (Kept.setCell (S := (· = w1.heap.size)) (p := ⟨w1.heap.size, 1, none⟩) (Kept.refl _ _) (.inr rfl) _) (by omega)).mono (by omega)
        · exact HW9.out.setCell (by simp; omega) _
        · have := HT9.out.lt
          simp; omega
        · exact HR9.out.other (by simp; omega) _
      case measure => simp [intOf]; omega
  · obtain rfl : k = 1 + N := by omega
    obtain ⟨P, V, va, vb, hdr, hblk, ho1, ho2, hne, hsrc, hbl, hsz, hrb⟩ := hinv.out
    have HD := Lib.hid hdr
    have HO1 := Lib.hid ho1
    have HO2 := Lib.hid ho2
    have HN := Lib.hid hne
    have HB := Lib.hid hbl
    obtain ⟨pa, pc, rfl⟩ := ho1.rd.shape
    obtain ⟨qa, qc, rfl⟩ := ho2.rd.shape
    have HT := Lib.hid hblk
    have c0 : wr.cell? ⟨w1.heap.size, 0, none⟩ = some (.slice pa P.length pc) := hblk.cell 0 rfl
    have c1 : wr.cell? ⟨w1.heap.size, 1, none⟩ = some (.slice qa V.length qc) := hblk.cell 1 rfl
    clear hdr ho1 ho2 hne hsrc hinv hblk
    have d0 := HT.out.lt
    have r0 : wr.cell? ⟨w.heap.size, 0, none⟩ = some (.slice none 0 0) := hrb.cell 0 rfl
    have r1 : wr.cell? ⟨w.heap.size, 1, none⟩ = some (.slice none 0 0) := hrb.cell 1 rfl
    have s0 := hrb.free 0
    have s1 := hrb.free 1
    have HRB := Lib.hid hrb
    clear hrb
    go_wp2_with fail
    refine bodyPost_ret (v := .agg #[.slice pa P.length pc, .slice qa V.length qc]) (by simp [results, Try.results67, go_sem, *]) rfl ?_
    have wx : ∀ Wf, Kept (· = w.heap.size) wr Wf → ∃ (t : List Int × List Int) (v' : Value), ValT t ∧ Ending.returned (.agg #[.slice pa P.length pc, .slice qa V.length qc]) = Ending.returned v' ∧ OwnT w.heap.size Wf.heap.size Wf v' t ∧ Below w.heap.size w Wf := by
      intro Wf hk
      have hz := hk.size
      have o1 := HO1.out.kept hk (by intro b h1 h2 h3; omega)
      have o2 := HO2.out.kept hk (by intro b h1 h2 h3; omega)
      exact ⟨(P, V), _, HD.out.val (by omega) (by omega), rfl, ⟨_, _, rfl, o1.wide (by omega) hz, o2.wide (by omega) hz, HN.out⟩, HB.out.trans (hk.toBelow HB.out.size (by intro k h1 h2; omega))⟩
    refine wx _ ?_
    repeat' first | exact Kept.refl _ _ | refine Kept.setCell ?_ (.inr (by simp)) _

end Go.Proofs.Ytkcpncaedocdnaa
