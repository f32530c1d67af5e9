/-
  Squares: the reference's walks.
-/
import Derived.Test.YtkcpncaedocdnaaSquareM
import Derived.Test.YtkcpncaedocdnaaMarkI
import Derived.Test.YtkcpncaedocdnaaFirstInv
namespace Go.Proofs.Ytkcpncaedocdnaa
open Go.RowKit

theorem clash_eq (n : Nat) (sq : List Int) (i : Nat) (x p q : Int) (k : Nat) (hp : p = sq.getD (i / n * n + k) 0) (hq : q = sq.getD (k * n + i % n) 0) :
    clashB n sq i x k = ((i / n * n + k != i && p == x) || (k * n + i % n != i && q == x)) := by subst hp hq; rfl

set_option maxHeartbeats 4000000 in
theorem l07Fits_any (n : Nat) (hn1 : 1 ≤ n) (hn5 : n ≤ 5) (v : Value) (sq : List Int) (i : Nat) (x : Int) (w : World) (hi : i < n * n) (hl : sq.length = n * n) (h : RdI w v sq) :
    Calls Try.prog 142 #[.int .i64 n, v, .int .i64 i, .int .i64 x] w fun e w' => e = .returned (.bool (fitsB n sq i x)) ∧ w = w' := by
  obtain ⟨a, c, rfl⟩ := h.shape
  have HS := Lib.hid h
  have HL := Lib.hid hl
  clear h hl
  obtain ⟨r, hr⟩ : ∃ r, r = i / n := ⟨_, rfl⟩
  obtain ⟨cc, hcc⟩ : ∃ cc, cc = i % n := ⟨_, rfl⟩
  have hrn : r < n := by rw [hr]; exact Nat.div_lt_of_lt_mul hi
  have hcn : cc < n := by rw [hcc]; exact Nat.mod_lt _ hn1
  have q1 : (i : Int) / (n : Int) = (r : Int) := by rw [hr]; exact (Int.natCast_ediv i n).symm
  have q2 : (i : Int) % (n : Int) = (cc : Int) := by rw [hcc]; exact (Int.natCast_emod i n).symm
  obtain ⟨m, hm⟩ : ∃ m, m = r * n := ⟨_, rfl⟩
  have hmb : m + n ≤ n * n := by
    have : (r + 1) * n ≤ n * n := Nat.mul_le_mul_right n hrn
    rw [hm]; rw [Nat.add_mul] at this; omega
  have hnn : n * n ≤ 25 := Nat.mul_le_mul hn5 hn5
  have q3 : (r : Int) * (n : Int) = (m : Int) := by rw [hm]; exact (Int.natCast_mul r n).symm
  have HR := Lib.hid hr
  have HC := Lib.hid hcc
  have HM := Lib.hid hm
  have hm25 : m ≤ 25 := by omega
  have HMB := Lib.hid hmb
  have hi25 : i < 25 := by omega
  have HI := Lib.hid hi
  clear hr hcc hm hmb hi
  go_enter Try.func142, Try.ntmps142
  go_wp2_with fail
  go_loop [11] (fun j => ∃ k : Nat, j = .int .i64 k ∧ k ≤ n ∧ Hid (∀ q, q < k → clashB n sq i x q = false)) (fun j => n - (intOf j).toNat)
  case atStart => exact ⟨0, rfl, Nat.zero_le _, fun q hq => by omega⟩
  case round =>
    obtain ⟨k, rfl, hk, hall⟩ := hrel
    by_cases hlt : k < n
    · obtain ⟨t, ht⟩ : ∃ t, t = k * n := ⟨_, rfl⟩
      have htb : t + n ≤ n * n := by
        have : (k + 1) * n ≤ n * n := Nat.mul_le_mul_right n hlt
        rw [ht]; rw [Nat.add_mul] at this; omega
      have q4 : (k : Int) * (n : Int) = (t : Int) := by rw [ht]; exact (Int.natCast_mul k n).symm
      obtain ⟨b, off, rfl, _, hc1⟩ := HS.out.at (i := m + k) (by have := HL.out; have := HMB.out; omega)
      obtain ⟨_, _, e, _, hc2⟩ := HS.out.at (i := t + cc) (by have := HL.out; omega)
      simp only [Option.some.injEq, Addr.mk.injEq, and_true] at e
      obtain ⟨rfl, rfl⟩ := e
      obtain ⟨p, hp⟩ : ∃ p, p = sq.getD (m + k) 0 := ⟨_, rfl⟩
      obtain ⟨q, hq⟩ : ∃ q, q = sq.getD (t + cc) 0 := ⟨_, rfl⟩
      rw [← hp] at hc1
      rw [← hq] at hc2
      have ht25 : t ≤ 25 := by omega
      have i1 : (m : Int) + k < sq.length := by have := HL.out; have := HMB.out; omega
      have i2 : (t : Int) + cc < sq.length := by have := HL.out; omega
      have HK := Lib.hid (show clashB n sq i x k = (((m : Int) + k != i && p == x) || ((t : Int) + cc != i && q == x)) by
        rw [clash_eq n sq i x p q k (by rw [← HR.out, ← HM.out]; exact hp) (by rw [← HC.out, ← ht]; exact hq), ← HR.out, ← HM.out, ← HC.out, ← ht]
        congr 2
        · rw [Bool.eq_iff_iff]; simp; omega
        · rw [Bool.eq_iff_iff]; simp; omega)
      have HF := Lib.hid (show clashB n sq i x k = true → fitsB n sq i x = false from fun h => by
        unfold fitsB; rw [List.all_eq_false]; exact ⟨k, List.mem_range.2 hlt, by simp [h]⟩)
      have HT := Lib.hid (show clashB n sq i x k = false → ∀ q, q < k + 1 → clashB n sq i x q = false from fun h q hq => by
        rcases Nat.lt_succ_iff_lt_or_eq.1 hq with h1 | rfl
        · exact hall.out q h1
        · exact h)
      clear hp hq ht htb
      by_cases e1 : (m : Int) + k = i
      · have t1 : ((m : Int) + k != i) = false := by simp [e1]
        clear e1
        by_cases e2 : (t : Int) + cc = i
        · have t2 : ((t : Int) + cc != i) = false := by simp [e2]
          clear e2
          go_wp2_with fail
          go_round
          case rel => exact ⟨k + 1, by go_num, by omega, HT.out (by rw [HK.out]; simp [t1, t2])⟩
          case measure => simp [intOf]; omega
        · have t2 : ((t : Int) + cc != i) = true := by simp [e2]
          clear e2
          by_cases e3 : q = x
          · have t3 : (q == x) = true := by simp [e3]
            clear e3
            go_wp2_with fail
            go_ret
            exact ⟨by rw [HF.out (by rw [HK.out]; simp [t1, t2, t3])]; rfl, rfl⟩
          · have t3 : (q == x) = false := by simp [e3]
            clear e3
            go_wp2_with fail
            go_round
            case rel => exact ⟨k + 1, by go_num, by omega, HT.out (by rw [HK.out]; simp [t1, t2, t3])⟩
            case measure => simp [intOf]; omega
      · have t1 : ((m : Int) + k != i) = true := by simp [e1]
        clear e1
        by_cases e4 : p = x
        · have t4 : (p == x) = true := by simp [e4]
          clear e4
          go_wp2_with fail
          go_ret
          exact ⟨by rw [HF.out (by rw [HK.out]; simp [t1, t4])]; rfl, rfl⟩
        · have t4 : (p == x) = false := by simp [e4]
          clear e4
          by_cases e2 : (t : Int) + cc = i
          · have t2 : ((t : Int) + cc != i) = false := by simp [e2]
            clear e2
            go_wp2_with fail
            go_round
            case rel => exact ⟨k + 1, by go_num, by omega, HT.out (by rw [HK.out]; simp [t1, t4, t2])⟩
            case measure => simp [intOf]; omega
          · have t2 : ((t : Int) + cc != i) = true := by simp [e2]
            clear e2
            by_cases e3 : q = x
            · have t3 : (q == x) = true := by simp [e3]
              clear e3
              go_wp2_with fail
              go_ret
              exact ⟨by rw [HF.out (by rw [HK.out]; simp [t1, t4, t2, t3])]; rfl, rfl⟩
            · have t3 : (q == x) = false := by simp [e3]
              clear e3
              go_wp2_with fail
              go_round
              case rel => exact ⟨k + 1, by go_num, by omega, HT.out (by rw [HK.out]; simp [t1, t4, t2, t3])⟩
              case measure => simp [intOf]; omega
    · obtain rfl : k = n := by omega
      go_wp2_with fail
      go_ret
      exact ⟨by rw [show fitsB k sq i x = true from by unfold fitsB; rw [List.all_eq_true]; intro q hq; rw [hall.out q (List.mem_range.1 hq)]; rfl]; rfl, rfl⟩

theorem OwnI.set {lo hi : Nat} {w : World} {a : Option Addr} {n c : Nat} {sq : List Int} {g : Nat} (h : OwnI lo hi w (.slice a n c) sq) (ha : a = some ⟨g, 0, none⟩) (i : Nat) (v : Int) : OwnI lo hi (w.setCell ⟨g, i, none⟩ (.int .i64 v)) (.slice a n c) (sq.set i v) := by
  subst ha
  obtain ⟨h1, h2⟩ := h
  obtain ⟨a', c', e⟩ := RdI.shape (slc_of_owns h1 : RdI w _ sq)
  simp only [Value.slice.injEq] at e
  obtain ⟨_, rfl, _⟩ := e
  have := (h1.stored i (.int .i64 v)).1
  refine ⟨?_, h2⟩
  rw [show (sq.map I64).set i (.int .i64 v) = (sq.set i v).map I64 from by rw [List.map_set]; rfl] at this
  rw [List.length_set]
  exact this

set_option maxHeartbeats 4000000 in
theorem l07Squares_any (B0 n most : Nat) (hn1 : 1 ≤ n) (hn5 : n ≤ 5) (hm : most ≤ 1000000) (f : Nat) : ∀ (sv : Value) (lo hi : Nat) (sq : List Int) (i : Nat) (w : World) (pb : Nat) (fv : Value) (acc : List (List Int)),
    i + f = n * n → sq.length = n * n → OwnI lo hi w sv sq → Box w pb 22 fv → FirstInv B0 w fv acc → B0 ≤ w.heap.size → hi ≤ B0 → (pb < lo ∨ hi ≤ pb) →
    Calls Try.prog 111 #[.int .i64 n, sv, .int .i64 i, .pointer (some ⟨pb, 0, none⟩), .int .i64 most] w fun e w' =>
      e = .returned (.int .i64 (msols n most f sq i).length) ∧ OwnI lo hi w' sv sq ∧ (∃ fv', Box w' pb 22 fv' ∧ FirstInv B0 w' fv' (acc ++ msols n most f sq i)) ∧ Kept (fun b => b = pb ∨ (lo ≤ b ∧ b < hi)) w w' := by
  have hnn : n * n ≤ 25 := Nat.mul_le_mul hn5 hn5
  have hnn1 : 1 ≤ n * n := Nat.mul_le_mul hn1 hn1
  induction f with
  | zero =>
    intro sv lo hi sq i w pb fv acc hi' hl hs hbox hfi hB0 hhi hpb
    obtain ⟨a, cap, rfl⟩ := hs.rd.shape
    obtain rfl : i = sq.length := by omega
    have hnl : ((sq.length : Int) == (sq.length : Int)) = true := by simp
    rcases hfi with ⟨rfl, fa, fc, rfl⟩ | ⟨s, r, g, fc, rfl, hne, rfl, hown⟩
    · have hc := hbox.cell
      have hfr := hbox.free
      have hlt := hbox.lt
      have hsl := (slc_of_owns hs.1).below (Below.alloc (Below.refl w.heap.size w) (Nat.le_refl _) (.cells #[] 2)) (Nat.le_refl _)
      have HS := Lib.hid hs
      have HB := Lib.hid hbox
      have HL := Lib.hid hl
      clear hs hbox hl hi'
      go_enter Try.func111, Try.ntmps111
      go_wp2_with (at_builtin; refine app_own rfl _ _ rfl w.heap.size ⟨w.heap.size, 0, none⟩ 0 0 [] rfl (owns_empty w) _ sq rfl hsl sq.length sq (by simp) (by simp) (by have := HL.out; omega) (by simp) ?_; intro g cap' w1 hown hbl hg; have hb1 := ((HB.out.below ((Below.refl _ _).alloc (Nat.le_refl _) _) hlt).below hbl hlt); have hc1 := hb1.cell; have hf1 := hb1.free)
      go_ret
      have hbel : Below w.heap.size w w1 := ((Below.refl _ _).alloc (Nat.le_refl _) _).trans hbl
      have hgl := (owns_lt hown (k := g) rfl).1
      have hkk : Kept (fun b => b = pb ∨ (lo ≤ b ∧ b < hi)) w (w1.setCell ⟨pb, 0, none⟩ (.slice (some ⟨g, 0, none⟩) sq.length cap')) := (Kept.of_below hbel (Nat.le_refl _)).setCell (.inr (.inl rfl)) _
      refine ⟨by simp [msols], ?_, ⟨_, hb1.set _, ?_⟩, hkk⟩
      · refine (HS.out.up hbel (Nat.le_refl _)).kept (S := (· = pb)) (Kept.setCell (S := (· = pb)) (Kept.refl _ _) (.inr rfl) _) (by intro b h1 h2 h3; omega)
      · simp only [msols, List.nil_append]
        refine .inr ⟨sq, [], g, cap', rfl, by intro e; have := HL.out; rw [e] at this; simp at this; omega, rfl, ?_⟩
        exact ownsRow_setCell_other (owns_base hown hB0) (by simp [Value.ownBlock]; omega) _
    · have hc := hbox.cell
      have hsn : ((s.length : Int) == 0) = false := by
        have : s.length ≠ 0 := fun e => hne (List.length_eq_zero_iff.1 e)
        simp; omega
      have HB := Lib.hid hbox
      have HO := Lib.hid hown
      have HS := Lib.hid hs
      clear hs hbox hown hl hi'
      go_enter Try.func111, Try.ntmps111
      go_wp2_with fail
      go_ret
      exact ⟨by simp [msols], HS.out, ⟨_, HB.out, .inr ⟨s, r ++ [sq], g, fc, by simp [msols], hne, rfl, HO.out⟩⟩, Kept.refl _ _⟩
  | succ f ih =>
    intro sv lo hi sq i w pb fv acc hi' hl hs hbox hfi hB0 hhi hpb
    obtain ⟨a, cap, rfl⟩ := hs.rd.shape
    have hil : i < sq.length := by omega
    obtain ⟨b, off, rfl, hbw, hc0⟩ := hs.rd.at hil
    obtain ⟨g, eg, hlo⟩ := owns_slice_some hs.1 (by omega)
    simp only [Option.some.injEq, Addr.mk.injEq, and_true] at eg
    obtain ⟨rfl, rfl⟩ := eg
    simp only [Nat.zero_add] at hc0
    have hgh := hs.2 b rfl
    have hnl : ((i : Int) == (sq.length : Int)) = false := by simp; omega
    have hi25 : i < 25 := by omega
    obtain ⟨x0, hx0⟩ : ∃ x, x = sq.getD i 0 := ⟨_, rfl⟩
    rw [← hx0] at hc0
    have HIH := Lib.hid ih
    have HS := Lib.hid hs
    have HB := Lib.hid hbox
    have HF := Lib.hid hfi
    have HL := Lib.hid hl
    have HI := Lib.hid hi'
    have HX := Lib.hid hx0
    clear hs hbox hfi hl hi' ih hx0
    by_cases hk : x0 = 0
    case neg =>
      have hkn : (x0 != 0) = true := by simp [hk]
      have HK := Lib.hid hk
      clear hk
      go_enter Try.func111, Try.ntmps111
      go_wp2_with fail
      refine (HIH.out _ lo hi sq (i + 1) w pb fv acc (by have := HI.out; omega) HL.out HS.out HB.out HF.out hB0 hhi hpb).mono ?_
      rintro e w1 ⟨rfl, h1, h2, h3⟩
      have H1 := Lib.hid h1
      have H2 := Lib.hid h2
      have H3 := Lib.hid h3
      clear h1 h2 h3 HIH
      go_wp2_with fail
      go_ret
      have e := msols_known n most f sq i (by rw [← HX.out]; exact HK.out)
      exact ⟨by rw [e]; rfl, H1.out, by rw [e]; exact H2.out, H3.out⟩
    have hkn : (x0 != 0) = false := by simp [hk]
    have HK := Lib.hid hk
    clear hk
    go_enter Try.func111, Try.ntmps111
    go_wp2_with fail
    go_loopw [11, 12] (fun cnt x wr => ∃ k : Nat, x = .int .i64 ((k : Int) + 1) ∧ k ≤ n ∧ cnt = .int .i64 (mpart n most f sq i k).length ∧ (mpart n most f sq i k).length ≤ 298023223877953125 ∧ OwnI lo hi wr (.slice (some ⟨b, 0, none⟩) sq.length cap) sq ∧ (∃ fv', Box wr pb 22 fv' ∧ FirstInv B0 wr fv' (acc ++ mpart n most f sq i k)) ∧ Kept (fun b => b = pb ∨ (lo ≤ b ∧ b < hi)) w wr)
      (fun _ x _ => n + 1 - (intOf x).toNat)
    case atStart => exact ⟨0, rfl, Nat.zero_le _, rfl, by simp [mpart], HS.out, ⟨fv, HB.out, by simpa [mpart] using HF.out⟩, Kept.refl _ _⟩
    case round =>
      obtain ⟨k, rfl, hk, rfl, hcb, hs1, ⟨fv1, hb1, hf1⟩, hk1⟩ := hrel
      have hd := hs1.1.cellAt i (by omega)
      have hfr := hs1.1.frozenAt i
      have HS1 := Lib.hid hs1
      have HB1 := Lib.hid hb1
      have HF1 := Lib.hid hf1
      have HK1 := Lib.hid hk1
      have hdl : (sq.map I64)[i]? = some (.int .i64 0) := by
        have e : sq[i] = 0 := by
          have := HX.out
          rw [HK.out] at this
          simpa [hil] using this.symm
        simp [I64, hil, e]
      rw [hdl] at hd
      clear hs1 hb1 hf1 hk1 hdl
      have HE : Hid (msols n most (f + 1) sq i = mpart n most f sq i n) := msols_succ n most f sq i (by rw [← HX.out]; exact HK.out)
      by_cases hkn' : k < n
      case neg =>
        obtain rfl : k = n := by omega
        go_wp2_with fail
        go_ret
        exact ⟨by rw [HE.out]; rfl, HS1.out, ⟨fv1, HB1.out, by rw [HE.out]; exact HF1.out⟩, HK1.out⟩
      by_cases hcm : (mpart n most f sq i k).length < most
      case neg =>
        go_wp2_with fail
        go_ret
        have e : mpart n most f sq i n = mpart n most f sq i k := by
          have := mpart_full (n := n) (most := most) (f := f) (sq := sq) (i := i) (k := k) (by omega) (n - k)
          rwa [show k + (n - k) = n by omega] at this
        exact ⟨by rw [HE.out, e]; rfl, HS1.out, ⟨fv1, HB1.out, by rw [HE.out, e]; exact HF1.out⟩, HK1.out⟩
      have hpl : (mpart n most f sq i k).length ≤ 1000000 := by omega
      have HCM := Lib.hid hcm
      by_cases hft : fitsB n sq i ((k : Int) + 1) = true
      case neg =>
        have hft' : fitsB n sq i ((k : Int) + 1) = false := by simpa using hft
        have HP := Lib.hid (show mpart n most f sq i (k + 1) = mpart n most f sq i k by rw [mpart_succ, if_neg (fun h => hft h.2)])
        clear hft
        go_wp2_with (go_at_call 142; refine (l07Fits_any n hn1 hn5 _ sq i _ _ (by have := HL.out; omega) HL.out HS1.out.rd).mono ?_; rintro e w' ⟨rfl, rfl⟩)
        go_roundw
        case rel => exact ⟨k + 1, by go_num, by omega, by rw [HP.out], by rw [HP.out]; exact hcb, HS1.out, ⟨fv1, HB1.out, by rw [HP.out]; exact HF1.out⟩, HK1.out⟩
        case measure => simp [intOf]; omega
      have HP := Lib.hid (show mpart n most f sq i (k + 1) = mpart n most f sq i k ++ msols n most f (sq.set i ((k : Int) + 1)) (i + 1) by rw [mpart_succ, if_pos ⟨hcm, hft⟩])
      have hml := msols_len n most hn1 hn5 f (by have := HI.out; omega) (sq.set i ((k : Int) + 1)) (i + 1)
      have HML := Lib.hid hml
      clear hml hcb
      go_wp2_with (go_at_call 142; refine (l07Fits_any n hn1 hn5 _ sq i _ _ (by have := HL.out; omega) HL.out HS1.out.rd).mono ?_; rintro e w' ⟨rfl, rfl⟩)
      refine Calls.at fun W hW => ?_
      have ho := Lib.hid (show OwnI lo hi W (.slice (some ⟨b, 0, none⟩) sq.length cap) (sq.set i ((k : Int) + 1)) by subst hW; exact HS1.out.set rfl i _)
      have hkw := Lib.hid (show Kept (fun b => b = pb ∨ (lo ≤ b ∧ b < hi)) w W by subst hW; exact HK1.out.setCell (.inr (.inr ⟨hlo, hgh⟩)) _)
      have hkb : Kept (fun b' => lo ≤ b' ∧ b' < hi) wr W := by subst hW; exact Kept.setCell (Kept.refl _ _) (.inr ⟨hlo, hgh⟩) _
      have hbx := Lib.hid (HB1.out.kept hkb (by rintro ⟨h1, h2⟩; omega))
      have hfx := Lib.hid (HF1.out.keptS hkb (by rintro g h1 ⟨h2, h3⟩; omega) HB1.out)
      clear hW hkb hd hfr
      refine (HIH.out _ lo hi (sq.set i ((k : Int) + 1)) (i + 1) W pb fv1 (acc ++ mpart n most f sq i k) (by have := HI.out; omega) (by rw [List.length_set]; exact HL.out) ho.out hbx.out hfx.out (Nat.le_trans hB0 hkw.out.size) hhi hpb).mono ?_
      rintro e w2 ⟨rfl, h1, ⟨fv2, h2, h3⟩, h4⟩
      have h1' := h1.1
      rw [List.length_set] at h1'
      have hd2 := h1'.cellAt i (by omega)
      have hf2 := h1'.frozenAt i
      clear h1'
      rw [show ((sq.set i ((k : Int) + 1)).map I64)[i]? = some (.int .i64 ((k : Int) + 1)) from by simp [I64, hil]] at hd2
      have H1 := Lib.hid h1
      have H2 := Lib.hid h2
      have H3 := Lib.hid h3
      have H4 := Lib.hid h4
      obtain ⟨r, hr⟩ : ∃ r, r = (msols n most f (sq.set i ((k : Int) + 1)) (i + 1)).length := ⟨_, rfl⟩
      have hrb : r ≤ 298023223876953125 := by rw [hr]; exact HML.out
      rw [← hr]
      have HR := Lib.hid hr
      clear h1 h2 h3 h4 hr
      go_wp2_with fail
      go_roundw
      case rel =>
        have e1 : (sq.set i ((k : Int) + 1)).set i 0 = sq := by
          rw [List.set_set]
          have := set_same (sq := sq) (i := i) hil
          rwa [show sq.getD i 0 = 0 from by rw [← HX.out]; exact HK.out] at this
        have hk2 : Kept (fun b' => lo ≤ b' ∧ b' < hi) w2 (w2.setCell ⟨b, i, none⟩ (.int .i64 0)) := Kept.setCell (Kept.refl _ _) (.inr ⟨hlo, hgh⟩) _
        refine ⟨k + 1, by go_num, by omega, ?_, ?_, ?_, ⟨fv2, H2.out.kept hk2 (by rintro ⟨h1, h2⟩; omega), ?_⟩, ?_⟩
        · rw [HP.out, List.length_append, ← HR.out]; go_num
        · rw [HP.out, List.length_append, ← HR.out]; omega
        · have := H1.out.set rfl i 0
          rw [e1] at this
          exact this
        · rw [HP.out, ← List.append_assoc]
          exact H3.out.keptS hk2 (by rintro g h1 ⟨h2, h3⟩; omega) H2.out
        · exact (hkw.out.trans H4.out).setCell (.inr (.inr ⟨hlo, hgh⟩)) _
      case measure => simp [intOf]; omega

end Go.Proofs.Ytkcpncaedocdnaa
