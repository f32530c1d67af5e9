/-
  FnSpans: texts joined: StabI, OrdG, MostI.
-/
import Derived.Deep.Cut
import Derived.Test.YtkfiepiipigcmaaMFnSpansAE
import Derived.Test.YtkfiepiipigcmaaMFnSpansAH
import Derived.Test.YtkfiepiipigcmaaMFnSpansAJ
import Derived.Test.YtkfiepiipigcmaaMFnSpansAK
namespace Go.Proofs.Ytkfiepiipigcmaa
open Go.RowKit Go.Sort

theorem ltOf_cmpI (key : Nat → Int) : ltOf (fun x y => cmpI (key x) (key y)) = ltK key := by
  funext x y
  unfold ltOf ltK cmpI
  by_cases h1 : key x < key y
  · simp [h1]
  · by_cases h2 : key y < key x <;> simp [h1, h2]
theorem one_encS (n : Nat) : OneCell (encS n) := fun _ => rfl
theorem RowW.holds {w0 W : World} {g n : Nat} {d0 d : Array Nat} (h0 : Holds (encS n) w0 g 0 d0) (hs : d0.size = n) (h : RowW w0 g n d W) : Holds (encS n) W g 0 d := by
  obtain ⟨hsz, q, rfl⟩ := h
  exact holds_putRow (encS n) w0 g 0 d0 d h0 (by omega)
theorem ins_row (f bx : Nat) (eg : ∀ args w, (callFunc f args).run Try.prog w = .ok (.enter f args) w) (key : Nat → Int) (w0 : World) (g n cap : Nat) (d0 : Array Nat) (h0 : Holds (encS n) w0 g 0 d0) (hs0 : d0.size = n) (hn : n ≤ 1000) (hcmp : CmpG f bx n key g w0)
    (a b : Nat) (d : Array Nat) (w : World) (hab : a ≤ b) (hbn : b ≤ n) (hw : RowW w0 g n d w) :
    Calls Try.prog 160 #[.slice (some ⟨g, 0, none⟩) n cap, .int .i64 a, .int .i64 b, .func (.func f) #[] #[.pointer (some ⟨bx, 0, none⟩)]] w fun e w' => e = .returned (.tuple #[]) ∧ RowW w0 g n (insertionSort (ltK key) d a b) w' := by
  have hsz := hw.1
  have hH := hw.holds h0 hs0
  have hr := insOne_any (encS n) (one_encS n) (fun x y => cmpI (key x) (key y)) f #[.pointer (some ⟨bx, 0, none⟩)] g 0 cap a b d w eg (by
    intro m os dk hs x y
    refine hcmp _ (fun p h1 h2 => ?_) x y
    rw [← hw.rest p h1 h2]
    have hsw : w0.heap.size ≤ w.heap.size := by
      obtain ⟨_, q, rfl⟩ := hw
      show w0.heap.size ≤ (putRow (encS n) w0 g 0 d).heap.size
      simp [putRow, mapBlock]
    unfold sortWorld
    rw [cell?_grow _ _ _ (by simp [putRow, mapBlock, Sort.ahead]; omega), cell?_putRow_other _ _ _ _ _ _ (.inl h2)]
    rfl) hH hab (by omega) (by omega)
  rw [hsz, ltOf_cmpI] at hr
  refine hr.mono ?_
  rintro e w' ⟨rfl, k, rfl⟩
  refine ⟨rfl, ?_⟩
  have hp := (insertionSort_holds (swo_ltK key) d a b hab (by omega)).1.1
  obtain ⟨_, q, rfl⟩ := hw
  refine ⟨by rw [hp, hsz], q + k, ?_⟩
  have e := putRow_putRow (encS n) w0 g 0 d (insertionSort (ltK key) d a b) (by rw [hp])
  rw [← e]
  unfold World.drewN putRow mapBlock
  simp [Nat.add_assoc]

set_option maxHeartbeats 8000000 in
set_option maxRecDepth 100000 in
theorem stable_of (f bx : Nat) (eg : ∀ args w, (callFunc f args).run Try.prog w = .ok (.enter f args) w) (key : Nat → Int) (w0 : World) (g n cap : Nat) (d0 : Array Nat) (h0 : Holds (encS n) w0 g 0 d0) (hs0 : d0.size = n) (hn : n ≤ 1000) (hn1 : 1 ≤ n) (hcmp : CmpG f bx n key g w0)
    (hSM : ∀ (a m b : Nat) (d : Array Nat) (w : World), a < m → m < b → b ≤ n → SortedIn (lx key) a m d → SortedIn (lx key) m b d → Tie key a m b d → RowW w0 g n d w →
      Calls Try.prog 161 #[.slice (some ⟨g, 0, none⟩) n cap, .int .i64 a, .int .i64 m, .int .i64 b, .func (.func f) #[] #[.pointer (some ⟨bx, 0, none⟩)]] w fun e w' => e = .returned (.tuple #[]) ∧ ∃ d', PermIn a b d d' ∧ SortedIn (lx key) a b d' ∧ RowW w0 g n d' w')
    (w : World) (hw : RowW w0 g n (Array.range n) w) :
    Calls Try.prog 137 #[.slice (some ⟨g, 0, none⟩) n cap, .int .i64 n, .func (.func f) #[] #[.pointer (some ⟨bx, 0, none⟩)]] w fun e w' => e = .returned (.tuple #[]) ∧ RowW w0 g n (ordA key n) w' := by
  have HINS := Lib.hid (fun a b d W => ins_row f bx eg key w0 g n cap d0 h0 hs0 hn hcmp a b d W)
  have HSM := Lib.hid hSM
  have HW := Lib.hid hw
  have hrs : (Array.range n).size = n := Array.size_range
  have HRG := Lib.hid (show ∀ k, 0 ≤ k → k < n → (Array.range n)[k]! = k from fun k _ hk => by rw [getElem!_pos (Array.range n) k (by rw [hrs]; exact hk)]; simp)
  clear h0 hcmp hSM hw hs0
  go_enter Try.func137, Try.ntmps137
  go_wp2_with fail
  go_loopw [7, 8] (fun av bv wr => ∃ (a b : Nat) (D : Array Nat), av = .int .i64 a ∧ bv = .int .i64 b ∧ Hid (b = a + 20) ∧ Hid (∃ t, a = 20 * t) ∧ Hid (a ≤ n) ∧ Hid (BlksA key 20 a D) ∧ Hid (∀ k, a ≤ k → k < n → D[k]! = k) ∧ Hid (PermIn 0 n (Array.range n) D) ∧ Hid (RowW w0 g n D wr)) (fun av _ _ => n + 20 - (intOf av).toNat)
  case atStart => exact ⟨0, 20, _, rfl, rfl, Lib.hid rfl, Lib.hid ⟨0, rfl⟩, Lib.hid (Nat.zero_le _), Lib.hid (fun t ht => by omega), HRG, Lib.hid (permIn_refl _ _ _), HW⟩
  case round =>
    clear HW HRG
    obtain ⟨a, b, D, rfl, rfl, HB, HT, HA, HBA, HID, HP, HR⟩ := hrel
    by_cases hlt : b ≤ n
    · have hltI : (b : Int) ≤ (n : Int) := by omega
      have HC := Lib.hid (HINS.out a b D wr (by have := HB.out; omega) hlt HR.out)
      have hb1 := HB.out
      obtain ⟨b', hb'⟩ : ∃ b', b' = b + 20 := ⟨_, rfl⟩
      have hwb : IntKind.i64.wrap ((b : Int) + 20) = (b' : Int) := by rw [show ((b : Int) + 20) = (b' : Int) by omega]; exact IntWalk.i64_in _ (by omega)
      have hDs : D.size = n := HR.out.1
      have HF := Lib.hid (BlkAt.first (key := key) (lo := a) (hi := b) (D := D) (by omega) (by omega) (fun k k1 k2 => HID.out k k1 (by omega)))
      have HB' := Lib.hid hb'
      have HLE := Lib.hid hlt
      have HDS := Lib.hid hDs
      clear hb' hb1 hDs hlt
      go_wp2_with (go_at_call 160; refine HC.out.mono ?_; rintro e w1 ⟨rfl, hr1⟩)
      go_roundw
      case rel =>
        obtain ⟨t0, ht0⟩ := HT.out
        have hb := HB.out
        refine ⟨b, b', insertionSort (ltK key) D a b, by go_num, by go_num, Lib.hid HB'.out, Lib.hid ⟨t0 + 1, by omega⟩, HLE, Lib.hid (fun t ht => ?_), Lib.hid (fun k k1 k2 => ?_), Lib.hid (permIn_trans _ _ _ 0 n HP.out (permIn_mono _ _ a b 0 n (Nat.zero_le _) HLE.out (by rw [HDS.out]; exact Nat.le_refl _) HF.out.1)), Lib.hid hr1⟩
        · by_cases c : 20 * t + 20 ≤ a
          · exact (HBA.out t c).other HF.out.1 (.inl c)
          · obtain rfl : t = t0 := by omega
            rw [← ht0, ← hb]
            exact HF.out.2
        · rw [HF.out.1.2.1 k (.inr k1)]
          exact HID.out k (by omega) k2
      case measure => have := HB.out; have := HLE.out; simp [intOf]; omega
    · have hltI : ¬ (b : Int) ≤ (n : Int) := by omega
      have han := HA.out
      have HC := Lib.hid (HINS.out a n D wr han (Nat.le_refl _) HR.out)
      have hDs : D.size = n := HR.out.1
      have HF := Lib.hid (BlkAt.first (key := key) (lo := a) (hi := n) (D := D) han (by omega) (fun k k1 k2 => HID.out k k1 k2))
      have HLT := Lib.hid (show n ≤ a + 20 by have := HB.out; omega)
      have HDS := Lib.hid hDs
      clear hlt han hDs
      go_wp2_with (go_at_call 160; refine HC.out.mono ?_; rintro e w1 ⟨rfl, hr1⟩)
      have HB20 := Lib.hid (blksB_done (key := key) (bs := 20) (a := a) (n := n) (fun t ht => (HBA.out t ht).other HF.out.1 (.inl ht)) HT.out HF.out.2 HLT.out HA.out)
      have HP2 := Lib.hid (permIn_trans _ _ _ 0 n HP.out (permIn_mono _ _ a n 0 n (Nat.zero_le _) (Nat.le_refl _) (by rw [HDS.out]; exact Nat.le_refl _) HF.out.1))
      have HR2 := Lib.hid hr1
      clear hr1 HF HC HINS HBA HID
      go_loopw [6] (fun sv wr => ∃ (bs : Nat) (D : Array Nat), sv = .int .i64 bs ∧ Hid (20 ≤ bs ∧ bs ≤ 2000) ∧ Hid (BlksB key bs 0 n D) ∧ Hid (PermIn 0 n (Array.range n) D) ∧ Hid (RowW w0 g n D wr)) (fun sv _ => 2000 + 1 - (intOf sv).toNat)
      case atStart => exact ⟨20, _, rfl, Lib.hid (by omega), HB20, HP2, HR2⟩
      case round =>
        clear HB20 HP2 HR2
        obtain ⟨bs, E, rfl, HBS, HBB, HPE, HRE⟩ := hrel
        by_cases hlt2 : bs < n
        · have hltI2 : (bs : Int) < (n : Int) := by omega
          have hb20 := HBS.out
          obtain ⟨b2, hb2⟩ : ∃ b2, b2 = 2 * bs := ⟨_, rfl⟩
          have hw1 : IntKind.i64.wrap (2 * (bs : Int)) = (b2 : Int) := by rw [show (2 * (bs : Int)) = (b2 : Int) by omega]; exact IntWalk.i64_in _ (by omega)
          have hw2 : IntKind.i64.wrap ((bs : Int) * 2) = (b2 : Int) := by rw [show ((bs : Int) * 2) = (b2 : Int) by omega]; exact IntWalk.i64_in _ (by omega)
          have HB2 := Lib.hid hb2
          clear hb2
          go_wp2_with fail
          go_loopw [7, 8] (fun av bv wr => ∃ (a b : Nat) (D : Array Nat), av = .int .i64 a ∧ bv = .int .i64 b ∧ Hid (b = a + 2 * bs) ∧ Hid (∃ t, a = 2 * bs * t) ∧ Hid (a ≤ n) ∧ Hid (BlksA key (2 * bs) a D) ∧ Hid (BlksB key bs a n D) ∧ Hid (PermIn 0 n (Array.range n) D) ∧ Hid (RowW w0 g n D wr)) (fun av _ _ => n + 1 - (intOf av).toNat)
          case atStart => exact ⟨0, b2, E, rfl, rfl, Lib.hid (by have := HB2.out; omega), Lib.hid ⟨0, rfl⟩, Lib.hid (Nat.zero_le _), Lib.hid (fun t ht => by have := HBS.out; omega), HBB, HPE, HRE⟩
          case round =>
            clear HBB HPE HRE
            obtain ⟨a, b, D, rfl, rfl, HBD, HTT, HAN, HBA, HBB, HPD, HRD⟩ := hrel
            by_cases hlt3 : b ≤ n
            · have hltI3 : (b : Int) ≤ (n : Int) := by omega
              have hbd := HBD.out
              obtain ⟨m, hm⟩ : ∃ m, m = a + bs := ⟨_, rfl⟩
              have hw3 : IntKind.i64.wrap ((a : Int) + (bs : Int)) = (m : Int) := by rw [show ((a : Int) + (bs : Int)) = (m : Int) by omega]; exact IntWalk.i64_in _ (by omega)
              obtain ⟨b', hb'⟩ : ∃ b', b' = b + b2 := ⟨_, rfl⟩
              have hw4 : IntKind.i64.wrap ((b : Int) + (b2 : Int)) = (b' : Int) := by rw [show ((b : Int) + (b2 : Int)) = (b' : Int) by omega]; exact IntWalk.i64_in _ (by have := HB2.out; omega)
              obtain ⟨k1, k2⟩ := pair_ready (key := key) (bs := bs) (a := a) (n := n) (D := D) (by omega) HBB.out HTT.out (by omega)
              rw [show min (a + 2 * bs) n = b by omega, ← hm] at k2
              rw [← hm] at k1
              have HC := Lib.hid (HSM.out a m b D wr (by omega) (by omega) hlt3 k1.1 k2.1 (k1.tie k2) HRD.out)
              have HLE := Lib.hid hlt3
              have HBP := Lib.hid (show b' = b + 2 * bs by have := HB2.out; omega)
              have hDs : n ≤ D.size := by rw [HRD.out.1]; exact Nat.le_refl _
              have HDS := Lib.hid hDs
              clear hbd hm hb' k1 k2 hlt3 hDs
              go_wp2_with (go_at_call 161; refine HC.out.mono ?_; rintro e w2 ⟨rfl, D', hp', hs', hr'⟩)
              have HX := Lib.hid (pair_step (key := key) (bs := bs) (a := a) (n := n) (D := D) (D' := D') (by have := HBS.out; omega) HBA.out HBB.out HTT.out (by have := HBD.out; have := HLE.out; omega) HDS.out (by rw [← HBD.out]; exact hp') (by rw [← HBD.out]; exact hs'))
              have HPP := Lib.hid (permIn_trans _ _ _ 0 n HPD.out (permIn_mono D D' a b 0 n (Nat.zero_le _) HLE.out HDS.out hp'))
              have HRP := Lib.hid hr'
              clear hp' hs' hr'
              go_roundw
              case rel => exact ⟨b, b', D', by go_num, by go_num, HBP, Lib.hid (by rw [HBD.out]; exact HX.out.2.2), HLE, Lib.hid (by rw [HBD.out]; exact HX.out.1), Lib.hid (by rw [HBD.out]; exact HX.out.2.1), HPP, HRP⟩
              case measure => have := HBD.out; have := HBS.out; have := HLE.out; simp [intOf]; omega
            · have hltI3 : ¬ (b : Int) ≤ (n : Int) := by omega
              have hbd := HBD.out
              obtain ⟨m, hm⟩ : ∃ m, m = a + bs := ⟨_, rfl⟩
              have han := HAN.out
              have hw3 : IntKind.i64.wrap ((a : Int) + (bs : Int)) = (m : Int) := by rw [show ((a : Int) + (bs : Int)) = (m : Int) by omega]; exact IntWalk.i64_in _ (by omega)
              have hDs : n ≤ D.size := by rw [HRD.out.1]; exact Nat.le_refl _
              have HDS := Lib.hid hDs
              have HBX := Lib.hid (show b2 ≤ 2000 ∧ bs < b2 by have := HB2.out; omega)
              by_cases hmn : m < n
              · have hmnI : (m : Int) < (n : Int) := by omega
                obtain ⟨k1, k2⟩ := pair_ready (key := key) (bs := bs) (a := a) (n := n) (D := D) (by omega) HBB.out HTT.out (by omega)
                rw [show min (a + 2 * bs) n = n by omega, ← hm] at k2
                rw [← hm] at k1
                have HC := Lib.hid (HSM.out a m n D wr (by omega) hmn (Nat.le_refl _) k1.1 k2.1 (k1.tie k2) HRD.out)
                have HM := Lib.hid (show n < a + 2 * bs ∧ a + bs < n by omega)
                clear hbd hm han k1 k2 hlt3 hDs hmn
                go_wp2_with (go_at_call 161; refine HC.out.mono ?_; rintro e w2 ⟨rfl, D', hp', hs', hr'⟩)
                have HX := Lib.hid (rest_step (key := key) (bs := bs) (a := a) (n := n) (D := D) (D' := D') (by have := HBS.out; omega) HBA.out HBB.out HTT.out HM.out.1 HM.out.2 HDS.out hp' hs')
                have HPP := Lib.hid (permIn_trans _ _ _ 0 n HPD.out (permIn_mono D D' a n 0 n (Nat.zero_le _) (Nat.le_refl _) HDS.out hp'))
                have HRP := Lib.hid hr'
                clear hp' hs' hr'
                go_roundw
                case rel => exact ⟨b2, D', by go_num, Lib.hid (by have := HBX.out; have := HBS.out; omega), Lib.hid (by rw [HB2.out]; exact HX.out), HPP, HRP⟩
                case measure => have := HBX.out; simp [intOf]; omega
              · have hmnI : ¬ (m : Int) < (n : Int) := by omega
                have HX := Lib.hid (rest_none (key := key) (bs := bs) (a := a) (n := n) (D := D) (by omega) HBA.out HBB.out HTT.out (by omega) han)
                clear hbd hm han hlt3 hDs hmn
                go_wp2_with fail
                go_roundw
                case rel => exact ⟨b2, D, by go_num, Lib.hid (by have := HBX.out; have := HBS.out; omega), Lib.hid (by rw [HB2.out]; exact HX.out), HPD, HRD⟩
                case measure => have := HBX.out; simp [intOf]; omega
        · have hltI2 : ¬ (bs : Int) < (n : Int) := by omega
          have HE := Lib.hid (ord_unique key n E HPE.out (blks_end HBB.out (by omega) (by omega)))
          clear hlt2
          go_wp2_with fail
          first | go_end0 | (simp only [Exit.inBlock, Exit.then]; refine bodyPost_ret (results_none rfl _ _ _) rfl ?_) | refine bodyPost_ret (results_none rfl _ _ _) rfl ?_
          exact ⟨rfl, by rw [← HE.out]; exact HRE.out⟩

end Go.Proofs.Ytkfiepiipigcmaa

namespace Go.Proofs.Ytkfiepiipigcmaa
open Go.RowKit Go.Sort

theorem encS_eq (n : Nat) : encS n = encN n := rfl
theorem rowW_self {w : World} {g n : Nat} {d : Array Nat} (h : Holds (encS n) w g 0 d) (hs : d.size = n) : RowW w g n d w :=
  ⟨hs, 0, by rw [putRow_self (encS n) w g 0 d h]; rfl⟩

set_option maxHeartbeats 1000000 in
theorem sortStableG_any (f bx : Nat) (eg : ∀ args w, (callFunc f args).run Try.prog w = .ok (.enter f args) w) (key : Nat → Int) (g n cap : Nat) (hn : n ≤ 1000) (hn1 : 1 ≤ n) (w : World) (hH : Holds (encS n) w g 0 (Array.range n)) (hcmp : CmpG f bx n key g w) :
    Calls Try.prog 100 #[.slice (some ⟨g, 0, none⟩) n cap, .func (.func f) #[] #[.pointer (some ⟨bx, 0, none⟩)]] w fun e w' =>
      e = .returned (.tuple #[]) ∧ RowW w g n (ordA key n) w' := by
  have hrs : (Array.range n).size = n := Array.size_range
  have HC := Lib.hid (stable_of f bx eg key w g n cap (Array.range n) hH hrs hn hn1 hcmp (fun a m b d W h1 h2 h3 h4 h5 h6 h7 => symMerge_any f bx eg key w g n cap (Array.range n) hH hrs hn hcmp (b - a) a m b d W (Nat.le_refl _) h1 h2 h3 h4 h5 h6 h7) w (rowW_self hH hrs))
  clear hH hcmp
  go_enter Try.func100, Try.ntmps100
  go_wp2_with (go_at_call 137; refine HC.out.mono ?_; rintro e w1 ⟨rfl, hq⟩)
  go_end0
  exact ⟨rfl, hq⟩

set_option maxHeartbeats 1000000 in
/-- The program's list of indices, sorted. -/
theorem orderByG_any (f bx : Nat) (eg : ∀ args w, (callFunc f args).run Try.prog w = .ok (.enter f args) w) (key : Nat → Int) (n : Nat) (hn : n ≤ 1000) (hn1 : 1 ≤ n) (w : World) (hcmp : ∀ w0 g, Below w.heap.size w w0 → w.heap.size ≤ g → CmpG f bx n key g w0) :
    Calls Try.prog 61 #[.int .i64 n, .func (.func f) #[] #[.pointer (some ⟨bx, 0, none⟩)]] w fun e w' => ∃ u, e = .returned u ∧ OwnI w.heap.size w'.heap.size w' u (idxs (ordL key n)) ∧ Below w.heap.size w w' := by
  have HCMP := Lib.hid hcmp
  clear hcmp
  go_enter Try.func61, Try.ntmps61
  go_wp2_with fail
  go_loopw [5, 6] (fun out kk wr => ∃ (i : Nat) (b : Option Addr) (cap : Nat), kk = .int .i64 i ∧ i ≤ n ∧ out = .slice b i cap ∧ Hid (wr.ownsRow w.heap.size 2 1 (.slice b i cap) i ((idxs (List.range i)).map I64)) ∧ Hid (Below w.heap.size w wr)) (fun _ kk _ => n + 1 - (intOf kk).toNat)
  case atStart => exact ⟨0, none, 0, rfl, Nat.zero_le _, rfl, World.ownsRow_nil _ _ _ _, Below.refl _ _⟩
  case round =>
    obtain ⟨i, b, cap, rfl, hi, rfl, HO, HB⟩ := hrel
    by_cases hlt : i < n
    · have hlt' : (i : Int) < n := by omega
      have hsz := HB.out.size
      go_wp2_with (at_builtin; refine app_ints rfl _ _ rfl w.heap.size (.slice b i cap) i (idxs (List.range i)) rfl (HO.out.alloc _) _ [(i : Int)] rfl (slc_one _ _) (i + 1) (idxs (List.range (i + 1))) (by simp) (by unfold idxs; rw [List.range_succ, List.map_append]; rfl) (by omega) (by simp; omega) ?_; intro b2 cap2 w3 hown2 hbl2 _ _)
      go_roundw
      case rel => exact ⟨i + 1, b2, cap2, by go_num, by omega, rfl, Lib.hid hown2, Lib.hid (HB.out.trans (((Below.refl _ _).alloc hsz _).trans hbl2))⟩
      case measure => simp [intOf]; omega
    · obtain rfl : i = n := by omega
      obtain ⟨wo, rfl⟩ : ∃ wo, wo = wr := ⟨wr, rfl⟩
      have hnn : Value.slice b i cap ≠ .slice none 0 0 := by intro e; injection e with _ e _; omega
      have hmem : ∀ x, x ∈ List.range i → x < i := fun x hx => List.mem_range.1 hx
      have HO2 : Hid (wo.ownsRow w.heap.size 2 1 (.slice b i cap) i ((List.range i).map (encS i))) := Lib.hid (by rw [encS_eq, encN_map _ _ hmem]; exact HO.out)
      obtain ⟨g, cap', e, hbg, hgl, _, _, _, hH⟩ := Lib.holds_of_ownsRow HO2.out hnn
      injection e with e1 _ e2
      subst e1; subst e2
      have HC := Lib.hid (sortStableG_any f bx eg key g i cap hn hn1 wo (by rw [← List.toArray_range]; exact hH) (HCMP.out wo g HB.out hbg))
      clear hH hnn hmem
      go_wp2_with (go_at_call 100; refine HC.out.mono ?_; rintro e w1 ⟨rfl, hq⟩)
      go_ret
      obtain ⟨_, q, rfl⟩ := hq
      have hoL : (ordL key i).length = i := ordL_len _ _
      have hx := Lib.ownsRow_putRow (q := 0) (k := i) HO2.out hoL (Nat.le_refl _)
      rw [List.take_of_length_le (by omega), encS_eq, encN_map _ _ (ordL_lt _ _)] at hx
      refine ⟨_, rfl, ?_, ?_⟩
      · exact OwnI.mk (n := i) hx
      · exact below_drewN (Lib.below_putRow (q := 0) HB.out hbg) q

/-! ### Spans by their ends -/
theorem Try.entersTo (args : Array Value) (w : World) : (callFunc 97 args).run Try.prog w = .ok (.enter 97 args) w :=
  enters_of Try.func97 (by kernel_rfl) rfl args w
theorem toCmp_any (i j : Nat) (bx b off n c : Nat) (x y : Int) (w : World) (hi : i < n) (hj : j < n) (hn : n ≤ 1000) (hbox : w.cell? ⟨bx, 0, none⟩ = some (.slice (some ⟨b, off, none⟩) n c))
    (d1 : w.cell? ⟨b, off + i * 3 + 1, none⟩ = some (.int .i64 x)) (d2 : w.cell? ⟨b, off + j * 3 + 1, none⟩ = some (.int .i64 y)) :
    Calls Try.prog 97 #[.int .i64 i, .int .i64 j, .pointer (some ⟨bx, 0, none⟩)] w fun e w' => e = .returned (.int .i64 (cmpI x y)) ∧ ∃ q, w' = w.drewN q := by
  have hi' : (i : Int) < n := by omega
  have hj' : (j : Int) < n := by omega
  go_enter Try.func97, Try.ntmps97
  go_wp2_with fail
  go_quiet ((go_at_call 63; exact quiet_same (cmp64_any _ _ _)))
  go_wp2_with fail
  go_ret
  exact ⟨rfl, _, rfl⟩
theorem toReads (ps : List SpanD) (v : Value) (bx g : Nat) (w : World) (h : RdP w v ps) (hn : 1 ≤ ps.length) (hn2 : ps.length ≤ 1000) (hb : w.cell? ⟨bx, 0, none⟩ = some v) (hbx : bx < w.heap.size) (hbg : bx ≠ g) (hg : ∀ a, v.ownBlock = some a → a ≠ g) : CmpG 97 bx ps.length (toK ps) g w := by
  intro W hW x y
  obtain ⟨a, c, rfl⟩ := h.shape
  have hx := Nat.mod_lt x (show 0 < ps.length by omega)
  have hy := Nat.mod_lt y (show 0 < ps.length by omega)
  obtain ⟨b, off, rfl, hbl, _, d1, _⟩ := h.at hx
  obtain ⟨b', off', e, _, _, d2, _⟩ := h.at hy
  simp only [Option.some.injEq, Addr.mk.injEq] at e
  obtain ⟨rfl, rfl, _⟩ := e
  have hgb : b ≠ g := hg b rfl
  exact toCmp_any _ _ bx b off ps.length c _ _ _ hx hy hn2 ((hW _ hbx hbg).trans hb) ((hW _ hbl hgb).trans d1) ((hW _ hbl hgb).trans d2)

set_option maxHeartbeats 1000000 in
/-- The program's spans by their ends. -/
theorem byTo_any (ps : List SpanD) (v : Value) (w : World) (h : RdP w v ps) (hn : 1 ≤ ps.length) (hn2 : ps.length ≤ 1000) :
    Calls Try.prog 54 #[v] w fun e w' => ∃ u, e = .returned u ∧ OwnI w.heap.size w'.heap.size w' u (idxs (ordL (toK ps) ps.length)) ∧ Below w.heap.size w w' := by
  obtain ⟨b0, off, hb0, hv⟩ : ∃ b0 off, b0 < w.heap.size ∧ ∃ c, v = .slice (some ⟨b0, off, none⟩) ps.length c := by
    obtain ⟨a, c, rfl⟩ := h.shape
    obtain ⟨b, off, rfl, hb, _⟩ := h.at (show 0 < ps.length by omega)
    exact ⟨b, off, hb, c, rfl⟩
  obtain ⟨c, rfl⟩ := hv
  have HR := Lib.hid h
  clear h
  have hbl : Below w.heap.size w (w.alloc (.cells #[.slice (some ⟨b0, off, none⟩) ps.length c] 27)) := (Below.refl _ _).alloc (Nat.le_refl _) _
  have HB := Lib.hid hbl
  have HC := Lib.hid (orderByG_any 97 w.heap.size Try.entersTo (toK ps) ps.length hn2 hn (w.alloc (.cells #[.slice (some ⟨b0, off, none⟩) ps.length c] 27)) (fun w0 g hb hg => by
    have hbx := Box.new w 27 (.slice (some ⟨b0, off, none⟩) ps.length c)
    have hsz : (w.alloc (.cells #[.slice (some ⟨b0, off, none⟩) ps.length c] 27)).heap.size = w.heap.size + 1 := by simp
    have hsz2 := hb.size
    refine toReads ps (.slice (some ⟨b0, off, none⟩) ps.length c) w.heap.size g w0 ((HR.out.up hbl (Nat.le_refl _)).up hb (Nat.le_refl _)) hn hn2 (hbx.below hb (by omega)).cell (by omega) (by omega) (fun a ha => ?_)
    have : b0 = a := Option.some.inj ha
    omega))
  clear hbl
  go_enter Try.func54, Try.ntmps54
  go_wp2_with (go_at_call 61; refine HC.out.mono ?_; rintro e w1 ⟨u, rfl, ho, hb1⟩)
  go_ret
  exact ⟨_, rfl, ho.wide (by simp) (Nat.le_refl _), HB.out.trans (hb1.mono (by simp))⟩

end Go.Proofs.Ytkfiepiipigcmaa

namespace Go.Proofs.Ytkfiepiipigcmaa
open Go.RowKit Go.Sort

noncomputable def mostS (ps : List SpanD) : List Nat := (grK (stK ps) (toK ps) (ordL (toK ps) ps.length) (-1) ps.length).1
noncomputable def mostL (ps : List SpanD) : List Int := if areSpansB ps = true then idxs (setL ps.length (mostS ps)) else []

theorem below_growT {B : Nat} {w a : World} (h : Below B w a) (os : Array Obj) (hB : B ≤ a.heap.size) : Below B w (Sort.grow a os) :=
  ⟨h.os, h.tape, h.output, Nat.le_trans h.size (by simp [Sort.grow]), fun k hk => (by
    show (a.heap ++ os)[k]? = _
    rw [Array.getElem?_append_left (by omega)]
    exact h.block k hk)⟩
theorem sortInts_any (zs : List Int) (B : Nat) (b : Option Addr) (cc : Nat) (w : World) (ho : w.ownsRow B 2 1 (.slice b zs.length cc) zs.length (zs.map I64)) (hne : 1 ≤ zs.length) (hl : zs.length ≤ 1000) (hB : B ≤ w.heap.size) :
    Calls Try.prog 55 #[.slice b zs.length cc] w fun e w' => e = .returned (.tuple #[]) ∧ w'.ownsRow B 2 1 (.slice b zs.length cc) zs.length ((zs.mergeSort fun x y => decide (x ≤ y)).map I64) ∧ Below B w w' := by
  have hnn : Value.slice b zs.length cc ≠ .slice none 0 0 := by intro e; injection e with _ e _; omega
  obtain ⟨g, cap', e, hbg, hgl, _, _, _, hH⟩ := Lib.holds_of_ownsRow ho hnn
  injection e with e1 _ e2
  subst e1; subst e2
  refine (Try.slices_Sort_int g 0 cc zs w hH hgl (by omega)).mono ?_
  rintro e w' ⟨rfl, n, os, rfl⟩
  have hml : (zs.mergeSort fun x y => decide (x ≤ y)).length = zs.length := List.length_mergeSort _
  have hx := Lib.ownsRow_putRow (q := n) (k := zs.length) (ys := zs.mergeSort fun x y => decide (x ≤ y)) ho hml (Nat.le_refl _)
  rw [List.take_of_length_le (by omega)] at hx
  refine ⟨rfl, owns_below hx (below_growT (Below.refl _ _) os (Nat.le_refl _)) (Nat.le_refl _), ?_⟩
  exact below_growT (Lib.below_putRow (q := n) (Below.refl B w) hbg) os (by simpa [putRow, mapBlock, Sort.ahead] using hB)

set_option maxHeartbeats 4000000 in
set_option maxRecDepth 100000 in
theorem mostI_any (v : Value) (ps : List SpanD) (w : World) (h : RdP w v ps) :
    Calls Try.prog 12 #[v] w fun e w' => ∃ v', e = .returned (.tuple #[v', .bool (areSpansB ps)]) ∧ OwnI w.heap.size w'.heap.size w' v' (mostL ps) ∧ Below w.heap.size w w' := by
  have HA := Lib.hid (AreSpans_any v ps w h)
  obtain ⟨q, hq⟩ : ∃ q, areSpansB ps = q := ⟨_, rfl⟩
  rw [hq] at HA ⊢
  have HQ := Lib.hid hq
  clear hq
  obtain ⟨a, c, rfl⟩ := h.shape
  have HR := Lib.hid h
  clear h
  go_enter Try.func12, Try.ntmps12
  cases q
  · go_wp2_with (go_at_call 24; refine HA.out.mono ?_; rintro e w1 ⟨rfl, hb⟩)
    go_ret2
    refine ⟨.slice none 0 0, rfl, ?_, hb⟩
    rw [show mostL ps = [] by unfold mostL; rw [HQ.out]; rfl]
    exact ⟨World.ownsRow_nil _ _ _ _, by intro g hg; cases hg⟩
  have hl : 1 ≤ ps.length ∧ ps.length ≤ 64 := by
    have := HQ.out
    unfold areSpansB at this
    rw [Bool.and_eq_true, inB_iff] at this
    omega
  have HBT := Lib.hid (fun W (hb : Below w.heap.size w W) => byTo_any ps _ W (HR.out.up hb (Nat.le_refl _)) hl.1 (by omega))
  go_upto_region 3 with (go_at_call 24; refine HA.out.mono ?_; rintro e w1 ⟨rfl, hb⟩)
  have HB1 := Lib.hid hb
  clear hb HA
  go_wp2_with (go_at_call 54; refine (HBT.out _ HB1.out).mono ?_; rintro e w2 ⟨u, rfl, hu, hb⟩; obtain ⟨ua, uc, rfl⟩ := hu.rd.shape)
  have HLN := Lib.hid (show (idxs (ordL (toK ps) ps.length)).length = ps.length by rw [idxs_len, ordL_len])
  rw [HLN.out] at hu ⊢
  have HU := Lib.hid (show RdI w2 (.slice ua ps.length uc) (idxs (ordL (toK ps) ps.length)) from hu.rd)
  have HB2 := Lib.hid (HB1.out.trans (hb.mono HB1.out.size))
  have hz2 := HB2.out.size
  clear hu hb HBT HB1
  have HGL := Lib.hid (fun k hk => grK_len (stK ps) (toK ps) (ordL (toK ps) ps.length) (-1) k (by rw [ordL_len]; exact hk))
  go_wp2_with fail
  go_loopw [4, 5, 14] (fun sv ev iv wr => ∃ (k m : Nat) (b : Option Addr) (cc : Nat), iv = .int .i64 k ∧ k ≤ ps.length ∧ sv = .slice b m cc ∧ ev = .int .i64 (grK (stK ps) (toK ps) (ordL (toK ps) ps.length) (-1) k).2 ∧ Hid ((grK (stK ps) (toK ps) (ordL (toK ps) ps.length) (-1) k).1.length = m) ∧ Hid (wr.ownsRow w2.heap.size 2 1 (.slice b m cc) m ((idxs (grK (stK ps) (toK ps) (ordL (toK ps) ps.length) (-1) k).1).map I64)) ∧ Hid (Below w2.heap.size w2 wr)) (fun _ _ iv _ => ps.length + 1 - (intOf iv).toNat)
  case atStart => exact ⟨0, 0, none, 0, rfl, Nat.zero_le _, rfl, rfl, Lib.hid rfl, Lib.hid (World.ownsRow_nil _ _ _ _), Lib.hid (Below.refl _ _)⟩
  case round =>
    obtain ⟨k, m, b, cc, rfl, hk, rfl, rfl, HM, HO, HB⟩ := hrel
    obtain ⟨wo, rfl⟩ : ∃ wo, wo = wr := ⟨wr, rfl⟩
    have hsz := HB.out.size
    by_cases hlt : k < ps.length
    · have hltI : (k : Int) < (ps.length : Int) := by omega
      have hkl : k < (idxs (ordL (toK ps) ps.length)).length := by rw [HLN.out]; exact hlt
      obtain ⟨ub, uo, rfl, _, hx⟩ := (HU.out.up HB.out (Nat.le_refl _)).at hkl
      obtain ⟨x, hxe⟩ : ∃ x, x = (ordL (toK ps) ps.length).getD k 0 := ⟨_, rfl⟩
      have hxv : (idxs (ordL (toK ps) ps.length)).getD k 0 = (x : Int) := by
        rw [hxe]
        unfold idxs
        have hk2 : k < (ordL (toK ps) ps.length).length := by rw [ordL_len]; exact hlt
        rw [List.getD_eq_getElem?_getD, List.getElem?_map, List.getD_eq_getElem?_getD, List.getElem?_eq_getElem hk2]
        rfl
      have hxn : x < ps.length := by
        have hk2 : k < (ordL (toK ps) ps.length).length := by rw [ordL_len]; exact hlt
        rw [hxe, List.getD_eq_getElem?_getD, List.getElem?_eq_getElem hk2]
        exact ordL_lt _ _ _ (List.getElem_mem _)
      rw [hxv] at hx
      obtain ⟨pb, po, rfl, _, d0, d1, _⟩ := (HR.out.up (HB2.out.trans (HB.out.mono hz2)) (Nat.le_refl _)).at hxn
      have hxI : (x : Int) < (ps.length : Int) := by omega
      have hs0 : stK ps x = (ps.getD x P0).start := by unfold stK; rw [Nat.mod_eq_of_lt hxn]
      have ht0 : toK ps x = (ps.getD x P0).stop := by unfold toK; rw [Nat.mod_eq_of_lt hxn]
      rw [← hs0] at d0
      rw [← ht0] at d1
      have hml := HGL.out k hk
      rw [HM.out] at hml
      have HG := Lib.hid (show grK (stK ps) (toK ps) (ordL (toK ps) ps.length) (-1) (k + 1) = if (grK (stK ps) (toK ps) (ordL (toK ps) ps.length) (-1) k).2 ≤ stK ps x then ((grK (stK ps) (toK ps) (ordL (toK ps) ps.length) (-1) k).1 ++ [x], toK ps x) else grK (stK ps) (toK ps) (ordL (toK ps) ps.length) (-1) k by rw [hxe]; rfl)
      obtain ⟨G, hG⟩ : ∃ G, G = grK (stK ps) (toK ps) (ordL (toK ps) ps.length) (-1) k := ⟨_, rfl⟩
      rw [← hG] at HG HM HO ⊢
      obtain ⟨S, e⟩ := G
      simp only at HG HM HO ⊢
      obtain ⟨y, hy⟩ : ∃ y, y = stK ps x := ⟨_, rfl⟩
      obtain ⟨z, hz⟩ : ∃ z, z = toK ps x := ⟨_, rfl⟩
      rw [← hy] at d0 HG
      rw [← hz] at d1 HG
      have HZ := Lib.hid (show (ps.getD x P0).stop = z by rw [hz, ht0])
      clear hxe hxv hs0 ht0 hG hy hz
      by_cases c : e ≤ y
      · have HG2 := Lib.hid (show grK (stK ps) (toK ps) (ordL (toK ps) ps.length) (-1) (k + 1) = (S ++ [x], z) by rw [HG.out, if_pos c])
        have HI := Lib.hid (show idxs (S ++ [x]) = idxs S ++ [(x : Int)] by unfold idxs; rw [List.map_append]; rfl)
        go_wp2_with (at_builtin; refine app_ints rfl _ _ rfl w2.heap.size (.slice b m cc) m (idxs S) rfl (HO.out.alloc _) _ [(x : Int)] rfl (slc_one _ _) (m + 1) (idxs (S ++ [x])) (by simp) HI.out (by omega) (by simp; omega) ?_; intro b3 c3 w3 hown3 hbl3 _ _; have hb3 := HB.out.trans (((Below.refl w2.heap.size wo).alloc hsz (.cells #[.int .i64 (x : Int)] 2)).trans hbl3); obtain ⟨pb2, po2, ee, _, _, d1', _⟩ := (HR.out.up (HB2.out.trans (hb3.mono hz2)) (Nat.le_refl _)).at hxn; simp only [Option.some.injEq, Addr.mk.injEq, and_true] at ee; obtain ⟨rfl, rfl⟩ := ee; rw [HZ.out] at d1')
        go_roundw
        case rel => exact ⟨k + 1, m + 1, b3, c3, by go_num, by omega, rfl, by rw [HG2.out], Lib.hid (by rw [HG2.out, List.length_append, HM.out]; rfl), Lib.hid (by rw [HG2.out]; exact hown3), Lib.hid hb3⟩
        case measure => simp [intOf]; omega
      · have HG2 := Lib.hid (show grK (stK ps) (toK ps) (ordL (toK ps) ps.length) (-1) (k + 1) = (S, e) by rw [HG.out, if_neg c])
        go_wp2_with fail
        go_roundw
        case rel => exact ⟨k + 1, m, b, cc, by go_num, by omega, rfl, by rw [HG2.out], Lib.hid (by rw [HG2.out]; exact HM.out), Lib.hid (by rw [HG2.out]; exact HO.out), HB⟩
        case measure => simp [intOf]; omega
    · obtain rfl : k = ps.length := by omega
      have hst : ∀ x, 0 ≤ stK ps x := by
        intro x
        have h1 := HQ.out
        unfold areSpansB at h1
        rw [Bool.and_eq_true, allB_iff] at h1
        have h2 := h1.2 (x % ps.length) (Nat.mod_lt _ (by omega))
        unfold spanB at h2
        rw [Bool.and_eq_true, inB_iff] at h2
        exact h2.1.1
      have hp := grK_pos (stK ps) (toK ps) (ordL (toK ps) ps.length) hst (ps.length - 1)
      rw [show ps.length - 1 + 1 = ps.length by omega] at hp
      have hsub := grK_sub (stK ps) (toK ps) (ordL (toK ps) ps.length) (-1) ps.length (by rw [ordL_len]; exact Nat.le_refl _)
      have hle := HGL.out ps.length (Nat.le_refl _)
      have hM : mostS ps = (grK (stK ps) (toK ps) (ordL (toK ps) ps.length) (-1) ps.length).1 := rfl
      rw [← hM] at hp hsub hle HM HO
      have hnd : (mostS ps).Nodup := hsub.nodup ((List.take_sublist _ _).nodup ((ordL_perm (toK ps) ps.length).nodup_iff.2 List.nodup_range))
      have hmn : ∀ x ∈ mostS ps, x < ps.length := fun x hx => ordL_lt _ _ x (List.mem_of_mem_take (hsub.subset hx))
      have hss := sort_set hnd hmn
      have hil : (idxs (mostS ps)).length = m := by rw [idxs_len]; exact HM.out
      have hc := sortInts_any (idxs (mostS ps)) w2.heap.size b cc wo (by rw [hil]; exact HO.out) (by rw [idxs_len]; exact hp) (by rw [idxs_len]; omega) hsz
      rw [hss, hil] at hc
      have HC := Lib.hid hc
      have HML := Lib.hid (show mostL ps = idxs (setL ps.length (mostS ps)) by unfold mostL; rw [HQ.out]; rfl)
      obtain ⟨G, hG⟩ : ∃ G, G = (grK (stK ps) (toK ps) (ordL (toK ps) ps.length) (-1) ps.length).2 := ⟨_, rfl⟩
      rw [← hG]
      clear hst hp hsub hle hM hnd hmn hss hil hc hG
      go_wp2_with (go_at_call 55; refine HC.out.mono ?_; rintro e w3 ⟨rfl, ho3, hb3⟩)
      go_ret2
      refine ⟨.slice b m cc, rfl, ?_, HB2.out.trans ((HB.out.trans hb3).mono hz2)⟩
      rw [HML.out]
      exact (OwnI.mk (n := m) ho3).wide hz2 (Nat.le_refl _)

end Go.Proofs.Ytkfiepiipigcmaa
