/-
  Domains: which lists of lists are such.
-/
import Derived.Test.YtnhamdkpeefioaaPredL
namespace Go.Proofs.Ytnhamdkpeefioaa
open Go.RowKit

def ValDom (d : List Int) : Prop := 1 ≤ d.length ∧ d.length ≤ 8 ∧ ∀ k, k < d.length → inB 0 31 (d.getD k 0) = true ∧ (0 < k → d.getD (k - 1) 0 < d.getD k 0)
def ValD (zss : List (List Int)) : Prop := 1 ≤ zss.length ∧ zss.length ≤ 6 ∧ ∀ i, i < zss.length → ValDom (zss.getD i [])
open Classical in
noncomputable def validD (zss : List (List Int)) : Bool := decide (ValD zss)
theorem validD_true {zss : List (List Int)} (h : ValD zss) : validD zss = true := by simp [validD, h]
theorem validD_false {zss : List (List Int)} (h : ¬ ValD zss) : validD zss = false := by simp [validD, h]

set_option maxHeartbeats 2000000 in
theorem l07Domains_any (v : Value) (zss : List (List Int)) (w : World) (h : RdL w v zss) :
    Calls Try.prog 75 #[v] w fun e w' => e = .returned (.bool (validD zss)) ∧ Below w.heap.size w w' := by
  obtain ⟨a, c, rfl⟩ := h.shape
  have hl := h.len
  unfold maxLen at hl
  have HS := Lib.hid h
  clear h
  by_cases hA : zss.length < 1
  · go_enter Try.func75, Try.ntmps75
    go_wp2_with fail
    go_ret
    exact ⟨by rw [validD_false (by rintro ⟨x, _⟩; omega)]; rfl, Below.refl _ _⟩
  by_cases hB : 6 < zss.length
  · go_enter Try.func75, Try.ntmps75
    go_wp2_with fail
    go_ret
    exact ⟨by rw [validD_false (by rintro ⟨_, x, _⟩; omega)]; rfl, Below.refl _ _⟩
  go_enter Try.func75, Try.ntmps75
  go_wp2_with fail
  go_loopw [16] (fun i wr => ∃ k : Nat, i = .int .i64 k ∧ k ≤ zss.length ∧ Hid (∀ i, i < k → ValDom (zss.getD i [])) ∧ Below w.heap.size w wr) (fun i _ => zss.length - (intOf i).toNat)
  case atStart => exact ⟨0, rfl, Nat.zero_le _, fun i hi => by omega, Below.refl _ _⟩
  case round =>
    obtain ⟨k, rfl, hk, hall, hb⟩ := hrel
    have HB := Lib.hid hb
    clear hb
    by_cases hlt : k < zss.length
    · obtain ⟨b, off, u, rfl, hbk, hc, hu⟩ := (HS.out.up HB.out (Nat.le_refl _)).at hlt
      obtain ⟨d, hd⟩ : ∃ d, d = zss.getD k [] := ⟨_, rfl⟩
      rw [← hd] at hu
      have HD := Lib.hid hd
      clear hd
      obtain ⟨a2, c2, rfl⟩ := hu.shape
      have hl2 := hu.len
      unfold maxLen at hl2
      have HU := Lib.hid hu
      clear hu
      have HNO := Lib.hid (show ¬ ValDom d → validD zss = false from fun h => validD_false (fun x => h (by rw [HD.out]; exact x.2.2 k hlt)))
      by_cases hC : d.length < 1
      · go_wp2_with fail
        go_ret
        exact ⟨by rw [HNO.out (by rintro ⟨x, _⟩; omega)]; rfl, HB.out⟩
      by_cases hE : 8 < d.length
      · go_wp2_with fail
        go_ret
        exact ⟨by rw [HNO.out (by rintro ⟨_, x, _⟩; omega)]; rfl, HB.out⟩
      go_wp2_with fail
      obtain ⟨wo, rfl⟩ : ∃ wo : World, wo = wr := ⟨_, rfl⟩
      go_loopw [33] (fun i wi => ∃ j : Nat, i = .int .i64 j ∧ j ≤ d.length ∧ Hid (∀ i, i < j → inB 0 31 (d.getD i 0) = true ∧ (0 < i → d.getD (i - 1) 0 < d.getD i 0)) ∧ Below wo.heap.size wo wi) (fun i _ => d.length - (intOf i).toNat)
      case atStart => exact ⟨0, rfl, Nat.zero_le _, fun i hi => by omega, Below.refl _ _⟩
      case round =>
        obtain ⟨j, rfl, hj, hall2, hbi⟩ := hrel
        have HBI := Lib.hid (HB.out.trans (hbi.mono HB.out.size))
        have HUI := Lib.hid (HU.out.up hbi (Nat.le_refl _))
        have HW := Lib.hid hbi
        clear hbi
        by_cases hjl : j < d.length
        · obtain ⟨b2, off2, rfl, hb2, hc2⟩ := HUI.out.at hjl
          obtain ⟨x, hx⟩ : ∃ x, x = d.getD j 0 := ⟨_, rfl⟩
          rw [← hx] at hc2
          have HX := Lib.hid hx
          clear hx
          have hok : inB 0 31 x = true → (0 < j → d.getD (j - 1) 0 < x) → ∀ i, i < j + 1 → inB 0 31 (d.getD i 0) = true ∧ (0 < i → d.getD (i - 1) 0 < d.getD i 0) := fun h1 h2 i hi => by
            rcases Nat.lt_succ_iff_lt_or_eq.1 hi with h | rfl
            · exact hall2.out i h
            · rw [← HX.out]; exact ⟨h1, h2⟩
          have hno : ¬ (inB 0 31 x = true ∧ (0 < j → d.getD (j - 1) 0 < x)) → validD zss = false := fun h => HNO.out (fun hv => h (by rw [HX.out]; exact hv.2.2 j hjl))
          have HOK := Lib.hid hok
          have HNO2 := Lib.hid hno
          clear hok hno
          have hjl' : (j : Int) < d.length := by omega
          by_cases hin : inB 0 31 x = true
          · by_cases hj0 : 0 < j
            · obtain ⟨_, _, e, _, hc3⟩ := HUI.out.at (i := j - 1) (by omega)
              simp only [Option.some.injEq, Addr.mk.injEq, and_true] at e
              obtain ⟨rfl, rfl⟩ := e
              obtain ⟨y, hy⟩ : ∃ y, y = d.getD (j - 1) 0 := ⟨_, rfl⟩
              rw [← hy] at hc3
              have HY := Lib.hid hy
              clear hy
              have hjm : (j : Int) - 1 < d.length := by omega
              have hjm0 : (0 : Int) ≤ (j : Int) - 1 := by omega
              have hjt : ((j : Int) - 1).toNat = j - 1 := by omega
              have hjd : decide ((0 : Int) < (j : Int)) = true := by simp; omega
              have hjw : IntKind.i64.wrap ((j : Int) - 1) = (j : Int) - 1 := IntWalk.i64_in _ (by omega)
              by_cases hxy : x ≤ y
              · have hxd : decide (x ≤ y) = true := by simp [hxy]
                go_wp2_with fail
                go_quiet ((go_at_call 149; exact quiet_same (in_any _ _ _ _)))
                clear hjw hjt
                go_wp2_with fail
                go_ret
                exact ⟨by rw [HNO2.out (by rintro ⟨_, h⟩; have := h hj0; rw [← HY.out] at this; omega)]; rfl, below_drewN HBI.out _⟩
              · have hxd : decide (x ≤ y) = false := by simp; omega
                go_wp2_with fail
                go_quiet ((go_at_call 149; exact quiet_same (in_any _ _ _ _)))
                clear hjw hjt
                go_wp2_with fail
                go_roundw
                case rel => exact ⟨j + 1, by go_num, by omega, HOK.out hin (fun _ => by rw [← HY.out]; omega), below_drewN HW.out _⟩
                case measure => simp [intOf]; omega
            · have hjd : decide ((0 : Int) < (j : Int)) = false := by simp; omega
              go_wp2_with fail
              go_quiet ((go_at_call 149; exact quiet_same (in_any _ _ _ _)))
              go_wp2_with fail
              go_roundw
              case rel => exact ⟨j + 1, by go_num, by omega, HOK.out hin (fun h => absurd h hj0), below_drewN HW.out _⟩
              case measure => simp [intOf]; omega
          · have hin' : inB 0 31 x = false := by simpa using hin
            go_wp2_with fail
            go_quiet ((go_at_call 149; exact quiet_same (in_any _ _ _ _)))
            go_wp2_with fail
            go_ret
            exact ⟨by rw [HNO2.out (by rintro ⟨h, _⟩; exact hin h)]; rfl, below_drewN HBI.out _⟩
        · obtain rfl : j = d.length := by omega
          go_wp2_with fail
          go_roundw
          case rel => exact ⟨k + 1, by go_num, by omega, fun i hi => by
            rcases Nat.lt_succ_iff_lt_or_eq.1 hi with h | rfl
            · exact hall.out i h
            · rw [← HD.out]; exact ⟨by omega, by omega, hall2.out⟩, HBI.out⟩
          case measure => simp [intOf]; omega
    · obtain rfl : k = zss.length := by omega
      go_wp2_with fail
      go_ret
      exact ⟨by rw [validD_true ⟨by omega, by omega, hall.out⟩]; rfl, HB.out⟩

end Go.Proofs.Ytnhamdkpeefioaa
