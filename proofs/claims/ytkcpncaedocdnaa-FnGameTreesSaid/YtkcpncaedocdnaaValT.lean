/-
  Trees: which are valid.
-/
import Derived.Test.YtkcpncaedocdnaaTreeO
import Derived.Test.YtkcpncaedocdnaaAllIn
namespace Go.Proofs.Ytkcpncaedocdnaa
open Go.RowKit

def okT (p q : List Int) (i : Nat) : Prop := (0 < i → inB 0 ((i : Int) - 1) (p.getD i 0) = true) ∧ inB (-1000000) 1000000 (q.getD i 0) = true
def ValT (t : List Int × List Int) : Prop := 1 ≤ t.1.length ∧ t.1.length ≤ 64 ∧ t.2.length = t.1.length ∧ t.1.getD 0 0 = -1 ∧ ∀ i, i < t.1.length → okT t.1 t.2 i
open Classical in
/-- Is the tree valid? -/
noncomputable def validT (t : List Int × List Int) : Bool := decide (ValT t)
theorem validT_true {t : List Int × List Int} (h : ValT t) : validT t = true := by simp [validT, h]
theorem validT_false {t : List Int × List Int} (h : ¬ ValT t) : validT t = false := by simp [validT, h]

set_option maxHeartbeats 1000000 in
theorem l07Tree_any (b : Nat) (v v' : Value) (t : List Int × List Int) (w : World) (hb : Blk w b 28 #[v, v']) (h : RdT w (.agg #[v, v']) t) :
    Calls Try.prog 74 #[.pointer (some ⟨b, 0, none⟩)] w fun e w' => e = .returned (.bool (validT t)) ∧ w = w' := by
  obtain ⟨p, q⟩ := t
  obtain ⟨h1, h2⟩ := h.parts
  simp only at h1 h2
  obtain ⟨a, c, rfl⟩ := h1.shape
  obtain ⟨a', c', rfl⟩ := h2.shape
  have l1 := h1.len
  have l2 := h2.len
  unfold maxLen at l1 l2
  have e0 : w.cell? ⟨b, 0, none⟩ = some (.slice a p.length c) := hb.cell 0 rfl
  have e1 : w.cell? ⟨b, 1, none⟩ = some (.slice a' q.length c') := hb.cell 1 rfl
  have HP := Lib.hid h1
  have HQ := Lib.hid h2
  clear h1 h2 h hb
  by_cases hA : p.length < 1
  · go_enter Try.func74, Try.ntmps74
    go_wp2_with fail
    go_ret
    exact ⟨by rw [validT_false (by rintro ⟨x, _⟩; simp only at x; omega)]; rfl, rfl⟩
  by_cases hB : 64 < p.length
  · go_enter Try.func74, Try.ntmps74
    go_wp2_with fail
    go_ret
    exact ⟨by rw [validT_false (by rintro ⟨_, x, _⟩; simp only at x; omega)]; rfl, rfl⟩
  by_cases hC : q.length = p.length
  case neg =>
    have hC' : ((q.length : Int) != (p.length : Int)) = true := by simp; omega
    have HC := Lib.hid hC
    clear hC
    go_enter Try.func74, Try.ntmps74
    go_wp2_with fail
    go_ret
    exact ⟨by rw [validT_false (by rintro ⟨_, _, x, _⟩; exact HC.out x)]; rfl, rfl⟩
  have hC' : ((q.length : Int) != (p.length : Int)) = false := by simp; omega
  have HC := Lib.hid hC
  clear hC
  obtain ⟨pb, po, rfl, _, hp0⟩ := HP.out.at (i := 0) (by omega)
  obtain ⟨x0, hx0⟩ : ∃ x, x = p.getD 0 0 := ⟨_, rfl⟩
  rw [← hx0] at hp0
  simp only [Nat.add_zero] at hp0
  have HX0 := Lib.hid hx0
  clear hx0
  by_cases hD : x0 = -1
  case neg =>
    have hD' : (x0 != -1) = true := by simp [hD]
    go_enter Try.func74, Try.ntmps74
    go_wp2_with fail
    go_ret
    exact ⟨by rw [validT_false (by rintro ⟨_, _, _, x, _⟩; exact hD (HX0.out.trans x))]; rfl, rfl⟩
  have hD' : (x0 != -1) = false := by simp [hD]
  have HD := Lib.hid hD
  clear hD
  go_enter Try.func74, Try.ntmps74
  go_wp2_with fail
  go_loop [39] (fun i => ∃ k : Nat, i = .int .i64 k ∧ k ≤ p.length ∧ Hid (∀ i, i < k → okT p q i)) (fun i => p.length - (intOf i).toNat)
  case atStart => exact ⟨0, rfl, Nat.zero_le _, fun i hi => by omega⟩
  case round =>
    obtain ⟨k, rfl, hk, hall⟩ := hrel
    by_cases hlt : k < p.length
    · obtain ⟨_, _, e, _, hcp⟩ := HP.out.at hlt
      simp only [Option.some.injEq, Addr.mk.injEq, and_true] at e
      obtain ⟨rfl, rfl⟩ := e
      obtain ⟨qb, qo, rfl, _, hcq⟩ := HQ.out.at (i := k) (by have := HC.out; omega)
      have hltq : (k : Int) < (q.length : Int) := by have := HC.out; omega
      obtain ⟨x, hx⟩ : ∃ x, x = p.getD k 0 := ⟨_, rfl⟩
      rw [← hx] at hcp
      have HX := Lib.hid hx
      clear hx
      obtain ⟨y, hy⟩ : ∃ y, y = q.getD k 0 := ⟨_, rfl⟩
      rw [← hy] at hcq
      have HY := Lib.hid hy
      clear hy
      have hok : ∀ (_ : 0 < k → inB 0 ((k : Int) - 1) x = true) (_ : inB (-1000000) 1000000 y = true), ∀ i, i < k + 1 → okT p q i := fun h1 h2 i hi => by
        rcases Nat.lt_succ_iff_lt_or_eq.1 hi with h | rfl
        · exact hall.out i h
        · exact ⟨fun h => by rw [← HX.out]; exact h1 h, by rw [← HY.out]; exact h2⟩
      have hno : ∀ (_ : ¬ ((0 < k → inB 0 ((k : Int) - 1) x = true) ∧ inB (-1000000) 1000000 y = true)), validT (p, q) = false := fun h1 => validT_false (by
        rintro ⟨_, _, _, _, h⟩
        have := h k hlt
        unfold okT at this
        simp only at this
        rw [← HX.out, ← HY.out] at this
        exact h1 this)
      have HOK := Lib.hid hok
      have HNO := Lib.hid hno
      clear hok hno
      by_cases hk0 : 0 < k
      · by_cases hin : inB 0 ((k : Int) - 1) x = true
        · by_cases hiy : inB (-1000000) 1000000 y = true
          · go_wp2_with (go_at_call 103; refine (in_any _ _ _ _).mono ?_; rintro e w' ⟨rfl, rfl⟩)
            go_round
            case rel => exact ⟨k + 1, by go_num, by omega, HOK.out (fun _ => hin) hiy⟩
            case measure => simp [intOf]; omega
          · have hiy' : inB (-1000000) 1000000 y = false := by simpa using hiy
            go_wp2_with (go_at_call 103; refine (in_any _ _ _ _).mono ?_; rintro e w' ⟨rfl, rfl⟩)
            go_ret
            exact ⟨by rw [HNO.out (by rintro ⟨_, h⟩; exact hiy h)]; rfl, rfl⟩
        · have hin' : inB 0 ((k : Int) - 1) x = false := by simpa using hin
          go_wp2_with (go_at_call 103; refine (in_any _ _ _ _).mono ?_; rintro e w' ⟨rfl, rfl⟩)
          go_ret
          exact ⟨by rw [HNO.out (by rintro ⟨h, _⟩; exact hin (h hk0))]; rfl, rfl⟩
      · by_cases hiy : inB (-1000000) 1000000 y = true
        · go_wp2_with (go_at_call 103; refine (in_any _ _ _ _).mono ?_; rintro e w' ⟨rfl, rfl⟩)
          go_round
          case rel => exact ⟨k + 1, by go_num, by omega, HOK.out (fun h => absurd h hk0) hiy⟩
          case measure => simp [intOf]; omega
        · have hiy' : inB (-1000000) 1000000 y = false := by simpa using hiy
          go_wp2_with (go_at_call 103; refine (in_any _ _ _ _).mono ?_; rintro e w' ⟨rfl, rfl⟩)
          go_ret
          exact ⟨by rw [HNO.out (by rintro ⟨_, h⟩; exact hiy h)]; rfl, rfl⟩
    · obtain rfl : k = p.length := by omega
      go_wp2_with fail
      go_ret
      exact ⟨by rw [validT_true ⟨by simp only; omega, by simp only; omega, HC.out, HX0.out ▸ HD.out, hall.out⟩]; rfl, rfl⟩

end Go.Proofs.Ytkcpncaedocdnaa
