/-
  Domains: the reference's and the program's function, by value.
-/
import Derived.Test.YtnhamdkpeefioaaDom
import Derived.Test.YtnhamdkpeefioaaRising
namespace Go.Proofs.Ytnhamdkpeefioaa
open Go.RowKit

theorem ValDom_iff (d : List Int) : ValDom d ↔ (1 ≤ d.length ∧ d.length ≤ 8) ∧ Rising d ∧ allIn 0 31 d = true := by
  rw [allIn_iff]
  constructor
  · rintro ⟨h1, h2, h3⟩
    exact ⟨⟨h1, h2⟩, fun i hi h0 => (h3 i hi).2 h0, fun i hi => (h3 i hi).1⟩
  · rintro ⟨⟨h1, h2⟩, h3, h4⟩
    exact ⟨h1, h2, fun i hi => ⟨h4 i hi, h3 i hi⟩⟩

set_option maxHeartbeats 2000000 in
theorem implAreDomains_o (v : Value) (zss : List (List Int)) (w : World) (h : RdL w v zss) :
    Calls Try.prog 27 #[v] w fun e w' => e = .returned (.bool (validD zss)) ∧ Below w.heap.size w w' := by
  obtain ⟨a, c, rfl⟩ := h.shape
  have hl := h.len
  unfold maxLen at hl
  have HS := Lib.hid h
  clear h
  by_cases hA : 1 ≤ zss.length ∧ zss.length ≤ 6
  case neg =>
    have hin := inB_false (lo := 1) (hi := 6) (n := (zss.length : Int)) (by omega)
    have HA := Lib.hid hA
    clear hA
    go_enter Try.func27, Try.ntmps27
    go_wp2_with (first
      | (go_at_call 89; refine (size_any _ _ (by unfold maxLen; omega)).mono ?_; rintro e w' ⟨rfl, rfl⟩)
      | (go_at_call 88; refine (within_any _ _ _ _).mono ?_; rintro e w' ⟨rfl, rfl⟩))
    go_ret
    exact ⟨by rw [validD_false (fun h => HA.out ⟨h.1, h.2.1⟩)]; rfl, Below.refl _ _⟩
  have hin := inB_true (lo := 1) (hi := 6) (n := (zss.length : Int)) (by omega)
  have HA := Lib.hid hA
  clear hA
  go_enter Try.func27, Try.ntmps27
  go_wp2_with (first
    | (go_at_call 89; refine (size_any _ _ (by unfold maxLen; omega)).mono ?_; rintro e w' ⟨rfl, rfl⟩)
    | (go_at_call 88; refine (within_any _ _ _ _).mono ?_; rintro e w' ⟨rfl, rfl⟩))
  go_loopw [12] (fun i wr => ∃ k : Nat, i = .int .i64 k ∧ k ≤ zss.length ∧ Hid (∀ i, i < k → ValDom (zss.getD i [])) ∧ Below w.heap.size w wr) (fun i _ => zss.length - (intOf i).toNat)
  case atStart => exact ⟨0, rfl, Nat.zero_le _, fun i hi => by omega, Below.refl _ _⟩
  case round =>
    obtain ⟨k, rfl, hk, hall, hb⟩ := hrel
    have HB := Lib.hid hb
    clear hb
    by_cases hlt : k < zss.length
    · obtain ⟨b, off, u, rfl, hbk, hc, hu⟩ := (HS.out.up HB.out (Nat.le_refl _)).at hlt
      obtain ⟨d, hd⟩ : ∃ d, d = zss.getD k [] := ⟨_, rfl⟩
      rw [← hd] at hu
      have HD := Lib.hid hd
      clear hd
      obtain ⟨a2, c2, rfl⟩ := hu.shape
      have hl2 := hu.len
      unfold maxLen at hl2
      have HU := Lib.hid hu
      clear hu
      have HNO := Lib.hid (show ¬ ValDom d → validD zss = false from fun h => validD_false (fun x => h (by rw [HD.out]; exact x.2.2 k hlt)))
      by_cases hC : 1 ≤ d.length ∧ d.length ≤ 8
      case neg =>
        have hin2 := inB_false (lo := 1) (hi := 8) (n := (d.length : Int)) (by omega)
        have HC := Lib.hid hC
        clear hC
        go_wp2_with (first
          | (go_at_call 89; refine (size_any _ _ (by unfold maxLen; omega)).mono ?_; rintro e w' ⟨rfl, rfl⟩)
          | (go_at_call 88; refine (within_any _ _ _ _).mono ?_; rintro e w' ⟨rfl, rfl⟩))
        go_ret
        exact ⟨by rw [HNO.out (fun h => HC.out ⟨h.1, h.2.1⟩)]; rfl, HB.out⟩
      have hin2 := inB_true (lo := 1) (hi := 8) (n := (d.length : Int)) (by omega)
      have HC := Lib.hid hC
      clear hC
      have HSPL := Lib.hid (ValDom_iff d)
      by_cases hR : Rising d
      case neg =>
        have hrb := risingB_false hR
        have HR := Lib.hid hR
        clear hR
        go_wp2_with (first
          | (go_at_call 89; refine (size_any _ _ (by unfold maxLen; omega)).mono ?_; rintro e w' ⟨rfl, rfl⟩)
          | (go_at_call 88; refine (within_any _ _ _ _).mono ?_; rintro e w' ⟨rfl, rfl⟩))
        refine (isRising_any _ d _ HU.out).mono ?_
        rintro e w1 ⟨rfl, hb1⟩
        have HB1 := Lib.hid (HB.out.trans (hb1.mono HB.out.size))
        clear hb1
        go_wp2_with fail
        go_ret
        exact ⟨by rw [HNO.out (fun h => HR.out (HSPL.out.1 h).2.1)]; rfl, HB1.out⟩
      have hrb := risingB_true hR
      have HR := Lib.hid hR
      clear hR
      go_wp2_with (first
        | (go_at_call 89; refine (size_any _ _ (by unfold maxLen; omega)).mono ?_; rintro e w' ⟨rfl, rfl⟩)
        | (go_at_call 88; refine (within_any _ _ _ _).mono ?_; rintro e w' ⟨rfl, rfl⟩))
      refine (isRising_any _ d _ HU.out).mono ?_
      rintro e w1 ⟨rfl, hb1⟩
      have HB1 := Lib.hid (HB.out.trans (hb1.mono HB.out.size))
      have HU1 := Lib.hid (HU.out.up hb1 (Nat.le_refl _))
      clear hb1
      by_cases hE : allIn 0 31 d = true
      · go_wp2_with (go_at_call 91; refine (allWithin_any _ d _ _ _ HU1.out).mono ?_; rintro e w' ⟨rfl, rfl⟩)
        go_roundw
        case rel => exact ⟨k + 1, by go_num, by omega, fun i hi => by
          rcases Nat.lt_succ_iff_lt_or_eq.1 hi with h | rfl
          · exact hall.out i h
          · rw [← HD.out]; exact HSPL.out.2 ⟨HC.out, HR.out, hE⟩, HB1.out⟩
        case measure => simp [intOf]; omega
      · have hE' : allIn 0 31 d = false := by simpa using hE
        go_wp2_with (go_at_call 91; refine (allWithin_any _ d _ _ _ HU1.out).mono ?_; rintro e w' ⟨rfl, rfl⟩)
        go_ret
        exact ⟨by rw [HNO.out (fun h => hE (HSPL.out.1 h).2.2)]; rfl, HB1.out⟩
    · obtain rfl : k = zss.length := by omega
      go_wp2_with fail
      go_ret
      exact ⟨by rw [validD_true ⟨HA.out.1, HA.out.2, hall.out⟩]; rfl, HB.out⟩

end Go.Proofs.Ytnhamdkpeefioaa
