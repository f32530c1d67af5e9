/-
  FnSpans: texts joined: SymX, SymY, StabM.
-/
import Derived.Deep.CutRange
import Derived.Test.YtkfiepiipigcmaaMFnSpansAJ
namespace Go.Proofs.Ytkfiepiipigcmaa
open Go.RowKit Go.Sort

set_option maxHeartbeats 8000000 in
set_option maxRecDepth 100000 in
/-- One element behind. -/
theorem merge_last (f bx : Nat) (eg : ∀ args w, (callFunc f args).run Try.prog w = .ok (.enter f args) w) (key : Nat → Int) (w0 : World) (g n cap : Nat) (d0 : Array Nat) (h0 : Holds (encS n) w0 g 0 d0) (hs0 : d0.size = n) (hn : n ≤ 1000) (hcmp : CmpG f bx n key g w0)
    (a m : Nat) (d : Array Nat) (w : World) (ham : a + 1 < m) (hbn : m + 1 ≤ n) (sA : SortedIn (lx key) a m d) (ht : Tie key a m (m + 1) d) (hw : RowW w0 g n d w) :
    Calls Try.prog 161 #[.slice (some ⟨g, 0, none⟩) n cap, .int .i64 a, .int .i64 m, .int .i64 ((m + 1 : Nat) : Int), .func (.func f) #[] #[.pointer (some ⟨bx, 0, none⟩)]] w fun e w' => e = .returned (.tuple #[]) ∧ ∃ d', PermIn a (m + 1) d d' ∧ SortedIn (lx key) a (m + 1) d' ∧ RowW w0 g n d' w' := by
  have H0 := Lib.hid h0
  have HC := Lib.hid hcmp
  have HW := Lib.hid hw
  have HSA := Lib.hid sA
  have HT := Lib.hid ht
  have hsz := hw.1
  clear h0 hcmp hw sA ht
  obtain ⟨b, hb⟩ : ∃ b, b = m + 1 := ⟨_, rfl⟩
  rw [← hb]
  have HBE := Lib.hid hb
  obtain ⟨t, ht⟩ : ∃ t, t = m - a := ⟨_, rfl⟩
  have hw0 : IntKind.i64.wrap ((m : Int) - (a : Int)) = (t : Int) := by rw [show ((m : Int) - (a : Int)) = (t : Int) by omega]; exact IntWalk.i64_in _ (by omega)
  have ht1 : ((t : Int) == 1) = false := by simp; omega
  have hw1 : IntKind.i64.wrap ((b : Int) - (m : Int)) = 1 := by rw [show ((b : Int) - (m : Int)) = 1 by omega]; rfl
  have hmI : (m : Int) < (n : Int) := by omega
  clear hb ht
  go_enter Try.func161, Try.ntmps161
  go_wp2_with fail
  go_loopw [14, 15] (fun iv jv wr => ∃ (i j : Nat), iv = .int .i64 i ∧ jv = .int .i64 j ∧ Hid (a ≤ i ∧ i ≤ j ∧ j ≤ m) ∧ Hid (i = a ∨ key d[i - 1]! ≤ key d[m]!) ∧ Hid (j = m ∨ key d[m]! < key d[j]!) ∧ Hid (RowW w0 g n d wr)) (fun iv jv _ => (intOf jv).toNat + 1 - (intOf iv).toNat)
  case atStart => exact ⟨a, m, rfl, rfl, Lib.hid (by omega), Lib.hid (.inl rfl), Lib.hid (.inl rfl), HW⟩
  case round =>
    clear HW
    obtain ⟨i, j, rfl, rfl, HB, HL, HRR, HR⟩ := hrel
    have hbd := HB.out
    by_cases hlt : i < j
    · have hltI : (i : Int) < (j : Int) := by omega
      obtain ⟨s, hs⟩ : ∃ s, s = i + j := ⟨_, rfl⟩
      obtain ⟨h, hh⟩ : ∃ h, h = s / 2 := ⟨_, rfl⟩
      have hw2 : IntKind.i64.wrap ((i : Int) + (j : Int)) = (s : Int) := by rw [show ((i : Int) + (j : Int)) = (s : Int) by omega]; exact IntWalk.i64_in _ (by omega)
      have hh2 : (s : Int) / 2 = (h : Int) := by omega
      have hhI : (h : Int) < (n : Int) := by omega
      have c1 := HR.out.cell H0.out hs0 (i := h) (by omega)
      have c2 := HR.out.cell H0.out hs0 (i := m) (by omega)
      have HCC := Lib.hid (fun q => cmp_row HC.out HR.out d[m]! d[h]! q)
      have hng := cmpI_neg (key d[m]!) (key d[h]!)
      obtain ⟨z, hz⟩ : ∃ z, z = cmpI (key d[m]!) (key d[h]!) := ⟨_, rfl⟩
      rw [← hz] at HCC hng
      obtain ⟨x, hx⟩ : ∃ x : Int, x = ((d[h]! % n : Nat) : Int) := ⟨_, rfl⟩
      obtain ⟨y, hy⟩ : ∃ y : Int, y = ((d[m]! % n : Nat) : Int) := ⟨_, rfl⟩
      rw [← hx] at c1 HCC
      rw [← hy] at c2 HCC
      have HHB := Lib.hid (show i ≤ h ∧ h < j by omega)
      clear hs hh hx hy hz hbd
      by_cases hk : key d[m]! < key d[h]!
      · rw [decide_eq_true hk] at hng
        have HK := Lib.hid hk
        clear hk
        go_wp2_with fail
        go_quiet ((go_at_fn f; exact HCC.out _))
        go_wp2_with fail
        go_roundw
        case rel => exact ⟨i, h, rfl, by go_num, Lib.hid (by have := HB.out; have := HHB.out; omega), HL, Lib.hid (.inr HK.out), Lib.hid (by first | exact HR.out.drewN _ | exact HR.out.drew)⟩
        case measure => have := HHB.out; simp [intOf]; omega
      · rw [decide_eq_false hk] at hng
        have HK := Lib.hid hk
        clear hk
        go_wp2_with fail
        go_quiet ((go_at_fn f; exact HCC.out _))
        go_wp2_with fail
        go_roundw
        case rel => exact ⟨h + 1, j, by go_num, rfl, Lib.hid (by have := HB.out; have := HHB.out; omega), Lib.hid (.inr (by have := HK.out; rw [Nat.add_sub_cancel]; omega)), HRR, Lib.hid (by first | exact HR.out.drewN _ | exact HR.out.drew)⟩
        case measure => have := HHB.out; simp [intOf]; omega
    · obtain rfl : i = j := by omega
      have him : i ≤ m := by omega
      have hai : a ≤ i := by omega
      clear hbd
      go_wp2_with fail
      go_loopw [17] (fun kv wr => ∃ (k : Nat) (d1 : Array Nat), kv = .int .i64 k ∧ Hid (i ≤ k ∧ k ≤ m) ∧ Hid (RotIn k m (m + 1) d d1) ∧ Hid (PermIn a b d d1) ∧ Hid (RowW w0 g n d1 wr)) (fun kv _ => (intOf kv).toNat)
      case atStart => exact ⟨m, d, rfl, Lib.hid (by omega), Lib.hid (rot_none (.inl rfl) (Nat.le_refl _) (by omega)), Lib.hid (permIn_refl _ _ _), HR⟩
      case round =>
        obtain ⟨k, d1, rfl, HKB, HROT, HP, HR1⟩ := hrel
        have hkb := HKB.out
        by_cases hlt2 : i < k
        · have hltI2 : (i : Int) < (k : Int) := by omega
          have hs1 := HR1.out.1
          obtain ⟨k1, hk1⟩ : ∃ k1, k1 + 1 = k := ⟨k - 1, by omega⟩
          have hkn : k < n := by omega
          have hk1n : k1 < n := by omega
          have hw3 : IntKind.i64.wrap ((k : Int) - 1) = (k1 : Int) := by rw [show ((k : Int) - 1) = (k1 : Int) by omega]; exact IntWalk.i64_in _ (by omega)
          have g1 : (k : Int) < (n : Int) := by omega
          have g2 : (k1 : Int) < (n : Int) := by omega
          have c1 := HR1.out.cell H0.out hs0 hkn
          have c2 := HR1.out.cell H0.out hs0 hk1n
          have f1 := HR1.out.free H0.out hs0 hkn
          have f2 := HR1.out.free H0.out hs0 hk1n
          have HS := Lib.hid (HR1.out.drew.swap hkn hk1n)
          have HRN := Lib.hid (show RotIn k1 m (m + 1) d (swp d1 k k1) by rw [← hk1]; exact rot_pull (by omega) (by omega) (by rw [hk1]; exact HROT.out))
          have HBB := HBE.out
          have HPN := Lib.hid (permIn_trans _ _ _ a b HP.out (swp_permIn d1 a b k k1 (by omega) (by omega) (by omega) (by omega) (by omega)))
          obtain ⟨x, hx⟩ : ∃ x : Int, x = ((d1[k]! % n : Nat) : Int) := ⟨_, rfl⟩
          obtain ⟨y, hy⟩ : ∃ y : Int, y = ((d1[k1]! % n : Nat) : Int) := ⟨_, rfl⟩
          rw [← hx] at c1 HS
          rw [← hy] at c2 HS
          have c3 : (wr.setCell ⟨g, k, none⟩ (.int .i64 y)).cell? ⟨g, k1, none⟩ = some (.int .i64 y) := by
            rw [World.cell?_setCell_other _ _ _ _ (by intro e; injection e with _ e _; omega)]
            exact c2
          have HK1 := Lib.hid hk1
          clear hx hy hk1 HBB hkb
          go_wp2_with fail
          go_region
          all_goals
            go_wp2_with fail
            go_roundw
            case rel => exact ⟨k1, swp d1 k k1, by go_num, Lib.hid (by have := HKB.out; have := HK1.out; omega), HRN, HPN, HS⟩
            case measure => have := HK1.out; simp [intOf]; omega
        · obtain rfl : k = i := by omega
          go_wp2_with fail
          first | go_end0 | (simp only [Exit.inBlock, Exit.then]; refine bodyPost_ret (results_none rfl _ _ _) rfl ?_) | refine bodyPost_ret (results_none rfl _ _ _) rfl ?_
          refine ⟨rfl, d1, HP.out, ?_, HR1.out⟩
          rw [HBE.out]
          exact one_behind hai him HSA.out HT.out (by rcases HL.out with h | h; exact .inl h; exact .inr (by omega)) HRR.out HROT.out

end Go.Proofs.Ytkfiepiipigcmaa

namespace Go.Proofs.Ytkfiepiipigcmaa
open Go.RowKit Go.Sort

set_option maxHeartbeats 16000000 in
set_option maxRecDepth 100000 in
theorem symMerge_step (f bx : Nat) (eg : ∀ args w, (callFunc f args).run Try.prog w = .ok (.enter f args) w) (key : Nat → Int) (w0 : World) (g n cap : Nat) (d0 : Array Nat) (h0 : Holds (encS n) w0 g 0 d0) (hs0 : d0.size = n) (hn : n ≤ 1000) (hcmp : CmpG f bx n key g w0) (F : Nat) (hIH : ∀ (a m b : Nat) (d : Array Nat) (w : World), b - a ≤ F → a < m → m < b → b ≤ n → SortedIn (lx key) a m d → SortedIn (lx key) m b d → Tie key a m b d → RowW w0 g n d w → Calls Try.prog 161 #[.slice (some ⟨g, 0, none⟩) n cap, .int .i64 a, .int .i64 m, .int .i64 b, .func (.func f) #[] #[.pointer (some ⟨bx, 0, none⟩)]] w fun e w' => e = .returned (.tuple #[]) ∧ ∃ d', PermIn a b d d' ∧ SortedIn (lx key) a b d' ∧ RowW w0 g n d' w')
    (a m b : Nat) (d : Array Nat) (w : World) (hF : b - a ≤ F + 1) (ham : a < m) (hmb : m < b) (hbn : b ≤ n) (sA : SortedIn (lx key) a m d) (sB : SortedIn (lx key) m b d) (ht : Tie key a m b d) (hw : RowW w0 g n d w) :
    Calls Try.prog 161 #[.slice (some ⟨g, 0, none⟩) n cap, .int .i64 a, .int .i64 m, .int .i64 b, .func (.func f) #[] #[.pointer (some ⟨bx, 0, none⟩)]] w fun e w' => e = .returned (.tuple #[]) ∧ ∃ d', PermIn a b d d' ∧ SortedIn (lx key) a b d' ∧ RowW w0 g n d' w' := by
  by_cases h1 : m = a + 1
  · subst h1
    exact merge_one f bx eg key w0 g n cap d0 h0 hs0 hn hcmp a b d w hmb hbn sB ht hw
  by_cases h2 : b = m + 1
  · subst h2
    exact merge_last f bx eg key w0 g n cap d0 h0 hs0 hn hcmp a m d w (by omega) hbn sA ht hw
  have HIH := Lib.hid hIH
  clear hIH
  have HROTA := Lib.hid (fun a' m' b' d' W => rotate_any (.func (.func f) #[] #[.pointer (some ⟨bx, 0, none⟩)]) w0 g n cap d0 h0 hs0 hn a' m' b' d' W)
  have H0 := Lib.hid h0
  have HC := Lib.hid hcmp
  have HW := Lib.hid hw
  have HSA := Lib.hid sA
  have HSB := Lib.hid sB
  have HT := Lib.hid ht
  have hsz := hw.1
  clear h0 hcmp hw sA sB ht
  obtain ⟨t1, ht1⟩ : ∃ t, t = m - a := ⟨_, rfl⟩
  obtain ⟨t2, ht2⟩ : ∃ t, t = b - m := ⟨_, rfl⟩
  obtain ⟨s0, hs⟩ : ∃ s, s = a + b := ⟨_, rfl⟩
  obtain ⟨mid, hmid⟩ : ∃ s, s = s0 / 2 := ⟨_, rfl⟩
  obtain ⟨nn, hnn⟩ : ∃ s, s = mid + m := ⟨_, rfl⟩
  obtain ⟨pp, hpp⟩ : ∃ s, s + 1 = nn := ⟨nn - 1, by omega⟩
  have hw1 : IntKind.i64.wrap ((m : Int) - (a : Int)) = (t1 : Int) := by rw [show ((m : Int) - (a : Int)) = (t1 : Int) by omega]; exact IntWalk.i64_in _ (by omega)
  have hw2 : IntKind.i64.wrap ((b : Int) - (m : Int)) = (t2 : Int) := by rw [show ((b : Int) - (m : Int)) = (t2 : Int) by omega]; exact IntWalk.i64_in _ (by omega)
  have b1 : ((t1 : Int) == 1) = false := by simp; omega
  have b2 : ((t2 : Int) == 1) = false := by simp; omega
  have hw3 : IntKind.i64.wrap ((a : Int) + (b : Int)) = (s0 : Int) := by rw [show ((a : Int) + (b : Int)) = (s0 : Int) by omega]; exact IntWalk.i64_in _ (by omega)
  have hh3 : (s0 : Int) / 2 = (mid : Int) := by omega
  have hw4 : IntKind.i64.wrap ((mid : Int) + (m : Int)) = (nn : Int) := by rw [show ((mid : Int) + (m : Int)) = (nn : Int) by omega]; exact IntWalk.i64_in _ (by omega)
  have hw5 : IntKind.i64.wrap ((nn : Int) - 1) = (pp : Int) := by rw [show ((nn : Int) - 1) = (pp : Int) by omega]; exact IntWalk.i64_in _ (by omega)
  have HMID := Lib.hid (show mid = (a + b) / 2 by omega)
  have HNN := Lib.hid hnn
  have HPP := Lib.hid (show pp = mid + m - 1 by omega)
  have hmb2 : mid < b := by omega
  have ham2 : a < mid := by omega
  have hs0b : s0 ≤ 2000 := by omega
  have hnnb : nn ≤ 2000 := by omega
  have hpn : pp < nn := by omega
  clear ht1 ht2 hs hmid hnn hpp
  go_enter Try.func161, Try.ntmps161
  obtain ⟨lo, hlo⟩ : ∃ lo, lo = if mid < m then nn - b else a := ⟨_, rfl⟩
  obtain ⟨hi, hhi⟩ : ∃ hi, hi = if mid < m then mid else m := ⟨_, rfl⟩
  have HLO := Lib.hid (show lo = if mid < m then mid + m - b else a by rw [hlo, HNN.out])
  have HHI := Lib.hid hhi
  have HLO2 := Lib.hid hlo
  have HSML := Lib.hid (And.intro hF (And.intro h1 h2))
  have HHM := Lib.hid (And.intro hmb2 ham2)
  clear hlo hhi hF h1 h2
  go_upto_if 140 with fail
  go_cut [20, 21] from 138 to 146 (fun s r wx => s = .int .i64 lo ∧ r = .int .i64 hi ∧ w = wx)
  case first =>
    by_cases hc : mid < m
    · have e1 : (mid : Int) < (m : Int) := by omega
      obtain ⟨l, hl⟩ : ∃ l, l = nn - b := ⟨_, rfl⟩
      have hwl : IntKind.i64.wrap ((nn : Int) - (b : Int)) = (l : Int) := by rw [show ((nn : Int) - (b : Int)) = (l : Int) by have := HNN.out; have := HMID.out; omega]; exact IntWalk.i64_in _ (by omega)
      have x1 := Lib.hid (show lo = l by rw [HLO2.out, if_pos hc, hl])
      have x2 := Lib.hid (show hi = mid by rw [HHI.out, if_pos hc])
      clear hl hc hw1 hw2 b1 b2 hw3 hh3 hw4 hw5
      go_wp2_with fail
      go_meet
      case rel => exact ⟨congrArg (fun k : Nat => Value.int .i64 (k : Int)) x1.out.symm, congrArg (fun k : Nat => Value.int .i64 (k : Int)) x2.out.symm, rfl⟩
    · have e1 : ¬ (mid : Int) < (m : Int) := by omega
      have x1 := Lib.hid (show lo = a by rw [HLO2.out, if_neg hc])
      have x2 := Lib.hid (show hi = m by rw [HHI.out, if_neg hc])
      clear hc hw1 hw2 b1 b2 hw3 hh3 hw4 hw5
      go_wp2_with fail
      go_meet
      case rel => exact ⟨congrArg (fun k : Nat => Value.int .i64 (k : Int)) x1.out.symm, congrArg (fun k : Nat => Value.int .i64 (k : Int)) x2.out.symm, rfl⟩
  case rest =>
  obtain ⟨rfl, rfl, rfl⟩ := hcut
  clear hw1 hw2 b1 b2 hw3 hh3 hw4
  have HLOB := Lib.hid (show a ≤ lo ∧ lo ≤ hi ∧ hi ≤ m ∧ hi ≤ mid ∧ mid + m - lo ≤ b by have h1 := HLO.out; have h2 := HHI.out; have := HMID.out; split at h1 <;> split at h2 <;> omega)
  go_wp2_with fail
  go_loopw [20, 21] (fun iv jv wr => ∃ (i j : Nat), iv = .int .i64 i ∧ jv = .int .i64 j ∧ Hid (lo ≤ i ∧ i ≤ j ∧ j ≤ hi) ∧ Hid (i = lo ∨ key d[i - 1]! ≤ key d[pp - (i - 1)]!) ∧ Hid (j = hi ∨ key d[pp - j]! < key d[j]!) ∧ Hid (RowW w0 g n d wr)) (fun iv jv _ => (intOf jv).toNat + 1 - (intOf iv).toNat)
  case atStart => exact ⟨lo, hi, rfl, rfl, Lib.hid (by have := HLOB.out; omega), Lib.hid (.inl rfl), Lib.hid (.inl rfl), HW⟩
  case round =>
    clear HW
    obtain ⟨i, j, rfl, rfl, HB, HL, HRR, HR⟩ := hrel
    have hbd := HB.out
    have hlb := HLOB.out
    have hpe := HPP.out
    by_cases hlt : i < j
    · have hltI : (i : Int) < (j : Int) := by omega
      obtain ⟨s, hs⟩ : ∃ s, s = i + j := ⟨_, rfl⟩
      obtain ⟨h, hh⟩ : ∃ h, h = s / 2 := ⟨_, rfl⟩
      obtain ⟨q, hq⟩ : ∃ q, q = pp - h := ⟨_, rfl⟩
      have hw6 : IntKind.i64.wrap ((i : Int) + (j : Int)) = (s : Int) := by rw [show ((i : Int) + (j : Int)) = (s : Int) by omega]; exact IntWalk.i64_in _ (by omega)
      have hh6 : (s : Int) / 2 = (h : Int) := by omega
      have hw7 : IntKind.i64.wrap ((pp : Int) - (h : Int)) = (q : Int) := by rw [show ((pp : Int) - (h : Int)) = (q : Int) by omega]; exact IntWalk.i64_in _ (by omega)
      have hhI : (h : Int) < (n : Int) := by omega
      have hqI : (q : Int) < (n : Int) := by omega
      have c1 := HR.out.cell H0.out hs0 (i := h) (by omega)
      have c2 := HR.out.cell H0.out hs0 (i := q) (by omega)
      have HCC := Lib.hid (fun k => cmp_row HC.out HR.out d[q]! d[h]! k)
      have hng := cmpI_neg (key d[q]!) (key d[h]!)
      obtain ⟨z, hz⟩ : ∃ z, z = cmpI (key d[q]!) (key d[h]!) := ⟨_, rfl⟩
      rw [← hz] at HCC hng
      obtain ⟨x, hx⟩ : ∃ x : Int, x = ((d[h]! % n : Nat) : Int) := ⟨_, rfl⟩
      obtain ⟨y, hy⟩ : ∃ y : Int, y = ((d[q]! % n : Nat) : Int) := ⟨_, rfl⟩
      rw [← hx] at c1 HCC
      rw [← hy] at c2 HCC
      have HHB := Lib.hid (show i ≤ h ∧ h < j by omega)
      have HQ := Lib.hid hq
      clear hs hh hx hy hz hbd hlb hpe hq
      by_cases hk : key d[q]! < key d[h]!
      · rw [decide_eq_true hk] at hng
        have HK := Lib.hid hk
        clear hk
        go_wp2_with fail
        go_quiet ((go_at_fn f; exact HCC.out _))
        go_wp2_with fail
        go_roundw
        case rel => exact ⟨i, h, rfl, by go_num, Lib.hid (by have := HB.out; have := HHB.out; omega), HL, Lib.hid (.inr (by rw [← HQ.out]; exact HK.out)), Lib.hid (by first | exact HR.out.drewN _ | exact HR.out.drew)⟩
        case measure => have := HHB.out; simp [intOf]; omega
      · rw [decide_eq_false hk] at hng
        have HK := Lib.hid hk
        clear hk
        go_wp2_with fail
        go_quiet ((go_at_fn f; exact HCC.out _))
        go_wp2_with fail
        go_roundw
        case rel => exact ⟨h + 1, j, by go_num, rfl, Lib.hid (by have := HB.out; have := HHB.out; omega), Lib.hid (.inr (by have := HK.out; rw [Nat.add_sub_cancel, ← HQ.out]; omega)), HRR, Lib.hid (by first | exact HR.out.drewN _ | exact HR.out.drew)⟩
        case measure => have := HHB.out; simp [intOf]; omega
    · obtain rfl : i = j := by omega
      have hse := search_end (key := key) (d := d) (a := a) (m := m) (b := b) (mid := mid) (start := i) (lo := lo) (hi := hi) ham hmb HMID.out HLO.out HHI.out hbd.1 hbd.2.2 HSA.out HSB.out HT.out (by rw [← hpe]; rcases HL.out with h | h; exact .inl h; exact .inr (by omega)) (by rw [← hpe]; exact HRR.out)
      obtain ⟨q1, q2, q3, q4, q5, q6⟩ := hse
      obtain ⟨en, hen⟩ : ∃ en, en = mid + m - i := ⟨_, rfl⟩
      rw [← hen] at q3 q4 q5 q6
      have hw8 : IntKind.i64.wrap ((nn : Int) - (i : Int)) = (en : Int) := by rw [show ((nn : Int) - (i : Int)) = (en : Int) by have := HNN.out; omega]; exact IntWalk.i64_in _ (by omega)
      have him : i ≤ mid := by omega
      have HMC := Lib.hid (show mid = i + (en - m) by omega)
      have HPARTS := Lib.hid (fun d1 hr => rot_parts (key := key) (d := d) (d1 := d1) q1 q2 q3 q4 HMC.out HSA.out HSB.out q5 q6 hr)
      have HTIES := Lib.hid (fun d1 hr => rot_ties (key := key) (d := d) (d1 := d1) q1 q2 q3 q4 HMC.out HT.out hr)
      clear hbd hlb hpe hen HL HRR HB
      have HQ56 := Lib.hid (And.intro q5 q6)
      have HQ := Lib.hid (And.intro ham (And.intro hmb (And.intro hbn (And.intro q1 (And.intro q2 (And.intro q3 (And.intro q4 him)))))))
      clear q5 q6 hw5 hlt ham hmb hbn q1 q2 q3 q4 him hs0 hn hsz hs0b hnnb hpn
      obtain ⟨T, hTe⟩ : ∃ T : Bool, T = (decide (i < m) && decide (m < en)) := ⟨_, rfl⟩
      go_upto_region 39 with fail
      go_cut [185] from 178 to 184 (fun tv wx => tv = .bool T ∧ wr = wx)
      case first =>
        clear hw8
        by_cases hA : i < m
        · have r1 : (i : Int) < (m : Int) := by omega
          by_cases hB : m < en
          · have r2 : (m : Int) < (en : Int) := by omega
            obtain rfl : T = true := by rw [hTe]; simp [hA, hB]
            clear hTe hA hB
            go_wp2_with fail
            go_meet
            case rel => exact ⟨rfl, rfl⟩
          · have r2 : ¬ (m : Int) < (en : Int) := by omega
            obtain rfl : T = false := by rw [hTe]; simp [hB]
            clear hTe hA hB
            go_wp2_with fail
            go_meet
            case rel => exact ⟨rfl, rfl⟩
        · have r1 : ¬ (i : Int) < (m : Int) := by omega
          obtain rfl : T = false := by rw [hTe]; simp [hA]
          clear hTe hA
          go_wp2_with fail
          go_meet
          case rel => exact ⟨rfl, rfl⟩
      case rest =>
      obtain ⟨rfl, rfl⟩ := hcut
      have HTE := Lib.hid hTe
      clear hTe
      go_upto_if 185 with fail
      go_cut [] from 178 to 191 (fun wx => ∃ d1 : Array Nat, Hid (PermIn a b d d1) ∧ Hid (Cross key a mid b d1) ∧ Hid (SortedIn (lx key) a i d1 ∧ SortedIn (lx key) i mid d1 ∧ SortedIn (lx key) mid en d1 ∧ SortedIn (lx key) en b d1) ∧ Hid (Tie key a i mid d1 ∧ Tie key mid en b d1) ∧ Hid (RowW w0 g n d1 wx))
      case first =>
        clear hw8
        cases T
        · have hno : ¬ (i < m ∧ m < en) := by
            intro h
            have := HTE.out
            simp [h.1, h.2] at this
          have hq := HQ.out
          have hr1 := rot_none (d := d) (a := i) (m := m) (b := en) (by omega) hq.2.2.2.2.1 hq.2.2.2.2.2.1
          have HPX := Lib.hid (HPARTS.out d hr1)
          have HTX := Lib.hid (HTIES.out d hr1)
          clear hr1 hno hq
          go_wp2_with fail
          go_meet
          case rel =>
            obtain ⟨hx, u1, u2, u3, u4⟩ := HPX.out
            exact ⟨d, permIn_refl d a b, hx, ⟨u1, u2, u3, u4⟩, HTX.out, HR.out⟩
        · have hrot : i < m ∧ m < en := by
            have := HTE.out
            simpa using this
          have HRC := Lib.hid (HROTA.out i m en d wr hrot.1 hrot.2 (by have := HQ.out; omega) HR.out)
          clear hrot
          go_wp2_with (go_at_call 175; refine HRC.out.mono ?_; rintro e w1 ⟨rfl, d1, hr1, hp1, hw1r⟩)
          go_meet
          case rel =>
            obtain ⟨hx, u1, u2, u3, u4⟩ := HPARTS.out d1 hr1
            exact ⟨d1, permIn_mono d d1 i en a b HQ.out.2.2.2.1 HQ.out.2.2.2.2.2.2.1 (by have := HQ.out; have := HR.out.1; omega) hp1, hx, ⟨u1, u2, u3, u4⟩, HTIES.out d1 hr1, hw1r⟩
      case rest =>
      obtain ⟨d1, HP1, HX, HU, HV, HR1⟩ := hcut
      clear HPARTS HTIES HQ56 HR hw8 HROTA HC H0 HLO HHI HLO2 HPP HNN HMID HT HSA HSB
      have HBS := Lib.hid (show b ≤ d1.size by rw [HR1.out.1]; exact HQ.out.2.2.1)
      obtain ⟨T2, hTe⟩ : ∃ T : Bool, T = (decide (a < i) && decide (i < mid)) := ⟨_, rfl⟩
      clear HTE
      go_upto_region 41 with fail
      go_cut [199] from 192 to 198 (fun tv wx => tv = .bool T2 ∧ wc = wx)
      case first =>
        by_cases hA : a < i
        · have r1 : (a : Int) < (i : Int) := by omega
          by_cases hB : i < mid
          · have r2 : (i : Int) < (mid : Int) := by omega
            obtain rfl : T2 = true := by rw [hTe]; simp [hA, hB]
            clear hTe hA hB
            go_wp2_with fail
            go_meet
            case rel => exact ⟨rfl, rfl⟩
          · have r2 : ¬ (i : Int) < (mid : Int) := by omega
            obtain rfl : T2 = false := by rw [hTe]; simp [hB]
            clear hTe hA hB
            go_wp2_with fail
            go_meet
            case rel => exact ⟨rfl, rfl⟩
        · have r1 : ¬ (a : Int) < (i : Int) := by omega
          obtain rfl : T2 = false := by rw [hTe]; simp [hA]
          clear hTe hA
          go_wp2_with fail
          go_meet
          case rel => exact ⟨rfl, rfl⟩
      case rest =>
      obtain ⟨rfl, rfl⟩ := hcut
      have HTE := Lib.hid hTe
      clear hTe
      go_upto_if 199 with fail
      go_cut [] from 192 to 205 (fun wx => ∃ d2 : Array Nat, Hid (PermIn a mid d1 d2) ∧ Hid (SortedIn (lx key) a mid d2) ∧ Hid (SortedIn (lx key) mid en d2 ∧ SortedIn (lx key) en b d2) ∧ Hid (Tie key mid en b d2) ∧ Hid (RowW w0 g n d2 wx))
      case first =>
        cases T2
        · have hno : ¬ (a < i ∧ i < mid) := by
            intro h
            have := HTE.out
            simp [h.1, h.2] at this
          have HS2 : Hid (SortedIn (lx key) a mid d1) := Lib.hid (by
            rcases (show a = i ∨ i = mid by have := HQ.out; omega) with h | h
            · rw [h]; exact HU.out.2.1
            · rw [← h]; exact HU.out.1)
          clear hno
          go_wp2_with fail
          go_meet
          case rel => exact ⟨d1, permIn_refl d1 a mid, HS2.out, HU.out.2.2, HV.out.2, HR1.out⟩
        · have c1 : a < i ∧ i < mid := by
            have := HTE.out
            simpa using this
          have HREC := Lib.hid (HIH.out a i mid d1 _ (by have := HSML.out.1; have := HHM.out; have := HQ.out; omega) c1.1 c1.2 (by have := HHM.out; have := HQ.out; omega) HU.out.1 HU.out.2.1 HV.out.1 HR1.out)
          clear c1
          go_wp2_with (go_at_call 161; refine HREC.out.mono ?_; rintro e w2 ⟨rfl, d2, hp2, hs2, hw2r⟩)
          go_meet
          case rel => exact ⟨d2, hp2, hs2, ⟨sorted_same HU.out.2.2.1 (fun k k1 k2 => hp2.2.1 k (.inr k1)), sorted_same HU.out.2.2.2 (fun k k1 k2 => hp2.2.1 k (.inr (by have := HQ.out; have := HMC.out; omega)))⟩, tie_perm HBS.out HV.out.2 (fun k k1 k2 => hp2.2.1 k (.inr k1)), hw2r⟩
      case rest =>
      obtain ⟨d2, HP2, HS2, HUU, HVV, HR2⟩ := hcut
      clear HU HV HR1
      by_cases c2 : mid < en ∧ en < b
      · have y1 : (mid : Int) < (en : Int) := by omega
        have y2 : (en : Int) < (b : Int) := by omega
        have HREC2 := Lib.hid (HIH.out mid en b d2 wc (by have := HSML.out.1; have := HHM.out; have := HQ.out; omega) c2.1 c2.2 HQ.out.2.2.1 HUU.out.1 HUU.out.2 HVV.out HR2.out)
        clear c2
        go_wp2_with (go_at_call 161; refine HREC2.out.mono ?_; rintro e w3 ⟨rfl, d3, hp3, hs3, hw3r⟩)
        first | go_end0 | (simp only [Exit.inBlock, Exit.then]; refine bodyPost_ret (results_none rfl _ _ _) rfl ?_) | refine bodyPost_ret (results_none rfl _ _ _) rfl ?_
        obtain ⟨z1, z2⟩ := cross_join (key := key) (by have := HHM.out; have := HQ.out; omega) (by have := HHM.out; have := HQ.out; omega) HBS.out HX.out HP2.out HS2.out hp3 hs3
        exact ⟨rfl, d3, permIn_trans _ _ _ a b HP1.out z1, z2, hw3r⟩
      · have HS3 : Hid (SortedIn (lx key) mid b d2) := Lib.hid (by
          rcases (show mid = en ∨ en = b by have := HQ.out; have := HMC.out; omega) with h | h
          · rw [h]; exact HUU.out.2
          · rw [← h]; exact HUU.out.1)
        rcases (show mid < en ∧ ¬ en < b ∨ ¬ mid < en by omega) with ⟨ca, cb⟩ | ca
        · have y1 : (mid : Int) < (en : Int) := by omega
          have y2 : ¬ (en : Int) < (b : Int) := by omega
          clear ca cb c2
          go_wp2_with fail
          first | go_end0 | (simp only [Exit.inBlock, Exit.then]; refine bodyPost_ret (results_none rfl _ _ _) rfl ?_) | refine bodyPost_ret (results_none rfl _ _ _) rfl ?_
          obtain ⟨z1, z2⟩ := cross_join (key := key) (by have := HHM.out; have := HQ.out; omega) (by have := HHM.out; have := HQ.out; omega) HBS.out HX.out HP2.out HS2.out (permIn_refl d2 mid b) HS3.out
          exact ⟨rfl, d2, permIn_trans _ _ _ a b HP1.out z1, z2, HR2.out⟩
        · have y1 : ¬ (mid : Int) < (en : Int) := by omega
          clear ca c2
          go_wp2_with fail
          first | go_end0 | (simp only [Exit.inBlock, Exit.then]; refine bodyPost_ret (results_none rfl _ _ _) rfl ?_) | refine bodyPost_ret (results_none rfl _ _ _) rfl ?_
          obtain ⟨z1, z2⟩ := cross_join (key := key) (by have := HHM.out; have := HQ.out; omega) (by have := HHM.out; have := HQ.out; omega) HBS.out HX.out HP2.out HS2.out (permIn_refl d2 mid b) HS3.out
          exact ⟨rfl, d2, permIn_trans _ _ _ a b HP1.out z1, z2, HR2.out⟩

theorem symMerge_any (f bx : Nat) (eg : ∀ args w, (callFunc f args).run Try.prog w = .ok (.enter f args) w) (key : Nat → Int) (w0 : World) (g n cap : Nat) (d0 : Array Nat) (h0 : Holds (encS n) w0 g 0 d0) (hs0 : d0.size = n) (hn : n ≤ 1000) (hcmp : CmpG f bx n key g w0) : ∀ (F : Nat), ∀ (a m b : Nat) (d : Array Nat) (w : World), b - a ≤ F → a < m → m < b → b ≤ n → SortedIn (lx key) a m d → SortedIn (lx key) m b d → Tie key a m b d → RowW w0 g n d w → Calls Try.prog 161 #[.slice (some ⟨g, 0, none⟩) n cap, .int .i64 a, .int .i64 m, .int .i64 b, .func (.func f) #[] #[.pointer (some ⟨bx, 0, none⟩)]] w fun e w' => e = .returned (.tuple #[]) ∧ ∃ d', PermIn a b d d' ∧ SortedIn (lx key) a b d' ∧ RowW w0 g n d' w'
  | 0 => fun a m b d w hF ham hmb hbn sA sB ht hw => by omega
  | F + 1 => symMerge_step f bx eg key w0 g n cap d0 h0 hs0 hn hcmp F (symMerge_any f bx eg key w0 g n cap d0 h0 hs0 hn hcmp F)

end Go.Proofs.Ytkfiepiipigcmaa

namespace Go.Proofs.Ytkfiepiipigcmaa
open Go.RowKit Go.Sort

/-- A block that is sorted and holds its own indices. -/
def BlkAt (key : Nat → Int) (lo hi : Nat) (D : Array Nat) : Prop := SortedIn (lx key) lo hi D ∧ ∀ k, lo ≤ k → k < hi → lo ≤ D[k]! ∧ D[k]! < hi
theorem BlkAt.tie {key : Nat → Int} {lo m hi : Nat} {D : Array Nat} (h1 : BlkAt key lo m D) (h2 : BlkAt key m hi D) : Tie key lo m hi D := by
  intro i j a1 a2 a3 a4 _
  have := (h1.2 i a1 a2).2
  have := (h2.2 j a3 a4).1
  omega
theorem BlkAt.merged {key : Nat → Int} {lo m hi : Nat} {D D' : Array Nat} (h1 : BlkAt key lo m D) (h2 : BlkAt key m hi D) (hlm : lo ≤ m) (hmh : m ≤ hi) (hh : hi ≤ D.size) (hp : PermIn lo hi D D') (hs : SortedIn (lx key) lo hi D') : BlkAt key lo hi D' := by
  refine ⟨hs, fun k k1 k2 => ?_⟩
  refine permIn_all D D' lo hi (fun x => lo ≤ x ∧ x < hi) hh hp (fun i i1 i2 => ?_) k k1 k2
  by_cases c : i < m
  · have := h1.2 i i1 c
    omega
  · have := h2.2 i (by omega) i2
    omega
theorem BlkAt.other {key : Nat → Int} {lo hi a b : Nat} {D D' : Array Nat} (h : BlkAt key a b D) (hp : PermIn lo hi D D') (hd : b ≤ lo ∨ hi ≤ a) : BlkAt key a b D' := by
  have he : ∀ k, a ≤ k → k < b → D'[k]! = D[k]! := fun k k1 k2 => hp.2.1 k (by omega)
  refine ⟨sorted_same h.1 he, fun k k1 k2 => ?_⟩
  rw [he k k1 k2]
  exact h.2 k k1 k2
/-- A block out of the row at the beginning. -/
theorem BlkAt.first {key : Nat → Int} {lo hi : Nat} {D : Array Nat} (hlh : lo ≤ hi) (hh : hi ≤ D.size) (h : ∀ k, lo ≤ k → k < hi → D[k]! = k) :
    PermIn lo hi D (insertionSort (ltK key) D lo hi) ∧ BlkAt key lo hi (insertionSort (ltK key) D lo hi) := by
  have hi := insertion_lx key D lo hi hlh hh fun k l h1 h2 h3 => by rw [h k h1 (by omega), h l (by omega) h3]; exact h2
  refine ⟨hi.1, hi.2, fun k k1 k2 => ?_⟩
  exact permIn_all D _ lo _ (fun x => lo ≤ x ∧ x < _) hh hi.1 (fun i i1 i2 => by rw [h i i1 i2]; exact ⟨i1, i2⟩) k k1 k2
/-- Blocks of size bs ahead of place a (full ones), and of half the size from a on. -/
def BlksA (key : Nat → Int) (bs a : Nat) (D : Array Nat) : Prop := ∀ t, bs * t + bs ≤ a → BlkAt key (bs * t) (bs * t + bs) D
def BlksB (key : Nat → Int) (bs a n : Nat) (D : Array Nat) : Prop := ∀ t, a ≤ bs * t → bs * t < n → BlkAt key (bs * t) (min (bs * t + bs) n) D
theorem blksB_done {key : Nat → Int} {bs a n : Nat} {D : Array Nat} (hA : BlksA key bs a D) (ha : ∃ t, a = bs * t) (hl : BlkAt key a n D) (hlast : n ≤ a + bs) (han : a ≤ n) : BlksB key bs 0 n D := by
  obtain ⟨t0, rfl⟩ := ha
  intro t _ h2
  by_cases c : t < t0
  · have hm : bs * t + bs ≤ bs * t0 := by
      have := Nat.mul_le_mul_left bs (show t + 1 ≤ t0 by omega)
      rw [Nat.mul_succ] at this
      exact this
    have := hA t hm
    rwa [show min (bs * t + bs) n = bs * t + bs by omega]
  · have ht : t = t0 := by
      rcases Nat.lt_or_ge t0 t with h | h
      · have := Nat.mul_le_mul_left bs (show t0 + 1 ≤ t by omega)
        rw [Nat.mul_succ] at this
        omega
      · omega
    subst ht
    rw [show min (bs * t + bs) n = n by omega]
    exact hl
theorem blksB_double {key : Nat → Int} {bs n : Nat} {D : Array Nat} : BlksA key (2 * bs) 0 D ∨ bs = 0 := by
  by_cases h : bs = 0
  · exact .inr h
  · left
    intro t ht
    omega
/-- A whole pair is merged. -/
theorem pair_step {key : Nat → Int} {bs a n : Nat} {D D' : Array Nat} (hbs : 0 < bs) (hA : BlksA key (2 * bs) a D) (hB : BlksB key bs a n D) (ha : ∃ t, a = 2 * bs * t) (hb : a + 2 * bs ≤ n) (hn : n ≤ D.size) (hp : PermIn a (a + 2 * bs) D D') (hs : SortedIn (lx key) a (a + 2 * bs) D') :
    BlksA key (2 * bs) (a + 2 * bs) D' ∧ BlksB key bs (a + 2 * bs) n D' ∧ ∃ t, a + 2 * bs = 2 * bs * t := by
  obtain ⟨t0, rfl⟩ := ha
  have e1 : bs * (2 * t0) = 2 * bs * t0 := by rw [← Nat.mul_assoc, Nat.mul_comm bs 2]
  have e2 : bs * (2 * t0 + 1) = 2 * bs * t0 + bs := by rw [Nat.mul_succ, e1]
  have b1 := hB (2 * t0) (by omega) (by omega)
  have b2 := hB (2 * t0 + 1) (by omega) (by omega)
  rw [e1, show min (2 * bs * t0 + bs) n = 2 * bs * t0 + bs by omega] at b1
  rw [e2, show min (2 * bs * t0 + bs + bs) n = 2 * bs * t0 + 2 * bs by omega] at b2
  have bm := b1.merged b2 (by omega) (by omega) (by omega) hp hs
  refine ⟨fun t ht => ?_, fun t h1 h2 => ?_, ⟨t0 + 1, by rw [Nat.mul_succ]⟩⟩
  · by_cases c : 2 * bs * t + 2 * bs ≤ 2 * bs * t0
    · exact (hA t c).other hp (.inl c)
    · have : t = t0 := by
        rcases Nat.lt_trichotomy t t0 with h | h | h
        · have := Nat.mul_le_mul_left (2 * bs) (show t + 1 ≤ t0 by omega)
          rw [Nat.mul_succ] at this
          omega
        · exact h
        · have := Nat.mul_le_mul_left (2 * bs) (show t0 + 1 ≤ t by omega)
          rw [Nat.mul_succ] at this
          omega
      subst this
      exact bm
  · exact (hB t (by omega) h2).other hp (.inr h1)
/-- What is left over is merged. -/
theorem rest_step {key : Nat → Int} {bs a n : Nat} {D D' : Array Nat} (hbs : 0 < bs) (hA : BlksA key (2 * bs) a D) (hB : BlksB key bs a n D) (ha : ∃ t, a = 2 * bs * t) (hb : n < a + 2 * bs) (hm : a + bs < n) (hn : n ≤ D.size) (hp : PermIn a n D D') (hs : SortedIn (lx key) a n D') : BlksB key (2 * bs) 0 n D' := by
  obtain ⟨t0, rfl⟩ := ha
  have e1 : bs * (2 * t0) = 2 * bs * t0 := by rw [← Nat.mul_assoc, Nat.mul_comm bs 2]
  have e2 : bs * (2 * t0 + 1) = 2 * bs * t0 + bs := by rw [Nat.mul_succ, e1]
  have b1 := hB (2 * t0) (by omega) (by omega)
  have b2 := hB (2 * t0 + 1) (by omega) (by omega)
  rw [e1, show min (2 * bs * t0 + bs) n = 2 * bs * t0 + bs by omega] at b1
  rw [e2, show min (2 * bs * t0 + bs + bs) n = n by omega] at b2
  have bm := b1.merged b2 (by omega) (by omega) hn hp hs
  exact blksB_done (fun t ht => (hA t ht).other hp (.inl (by omega))) ⟨t0, rfl⟩ bm (by omega) (by omega)
theorem rest_none {key : Nat → Int} {bs a n : Nat} {D : Array Nat} (hbs : 0 < bs) (hA : BlksA key (2 * bs) a D) (hB : BlksB key bs a n D) (ha : ∃ t, a = 2 * bs * t) (hm : n ≤ a + bs) (han : a ≤ n) : BlksB key (2 * bs) 0 n D := by
  obtain ⟨t0, rfl⟩ := ha
  have e1 : bs * (2 * t0) = 2 * bs * t0 := by rw [← Nat.mul_assoc, Nat.mul_comm bs 2]
  refine blksB_done hA ⟨t0, rfl⟩ ?_ (by omega) han
  by_cases h : 2 * bs * t0 < n
  · have b1 := hB (2 * t0) (by omega) (by omega)
    rwa [e1, show min (2 * bs * t0 + bs) n = n by omega] at b1
  · exact ⟨fun i j h1 h2 h3 => by omega, fun k h1 h2 => by omega⟩
theorem blks_end {key : Nat → Int} {bs n : Nat} {D : Array Nat} (h : BlksB key bs 0 n D) (hn : n ≤ bs) (h0 : 0 < n) : SortedIn (lx key) 0 n D := by
  have := (h 0 (Nat.zero_le _) (by omega)).1
  rwa [Nat.mul_zero, show min (0 + bs) n = n by omega] at this
theorem pair_ready {key : Nat → Int} {bs a n : Nat} {D : Array Nat} (hbs : 0 < bs) (hB : BlksB key bs a n D) (ha : ∃ t, a = 2 * bs * t) (hm : a + bs < n) : BlkAt key a (a + bs) D ∧ BlkAt key (a + bs) (min (a + 2 * bs) n) D := by
  obtain ⟨t0, rfl⟩ := ha
  have e1 : bs * (2 * t0) = 2 * bs * t0 := by rw [← Nat.mul_assoc, Nat.mul_comm bs 2]
  have e2 : bs * (2 * t0 + 1) = 2 * bs * t0 + bs := by rw [Nat.mul_succ, e1]
  have b1 := hB (2 * t0) (by omega) (by omega)
  have b2 := hB (2 * t0 + 1) (by omega) (by omega)
  rw [e1, show min (2 * bs * t0 + bs) n = 2 * bs * t0 + bs by omega] at b1
  rw [e2, show 2 * bs * t0 + bs + bs = 2 * bs * t0 + 2 * bs by omega] at b2
  exact ⟨b1, b2⟩

end Go.Proofs.Ytkfiepiipigcmaa
