/-
  FnExactWholeGap: texts joined: WholeM, Whole, WholeS, WholeN.
-/
import Derived.Test.YtkfiepiipigcmaaMEWholeGapAE
import Derived.Test.YtkfiepiipigcmaaMEWholeGapAF
import Derived.Test.YtkfiepiipigcmaaMEWholeGapAK
namespace Go.Proofs.Ytkfiepiipigcmaa
open Go.RowKit

def fI (n : Int) : Nat := floatOfInt .f32 n
def geB (x : Nat) : Bool := !(FloatKind.f32.format.order x 0 == some .lt)
/-- The integers keep all rows. -/
noncomputable def wholeB (r : RowsD) (x : List Int) : Bool := leftOk r (x.map fI) && (leftR r (x.map fI)).all geB
theorem order_negz (x : Nat) : FloatKind.f32.format.order x 2147483648 = FloatKind.f32.format.order x 0 := by
  have h1 : FloatKind.f32.format.read 2147483648 = .number true 0 (-149) := by decide +kernel
  have h2 : FloatKind.f32.format.read 0 = .number false 0 (-149) := by decide +kernel
  unfold Ieee.Format.order
  rw [h1, h2]
  cases FloatKind.f32.format.read x with
  | nan a b => simp [Ieee.Datum.order]
  | infinity s => cases s <;> simp [Ieee.Datum.order]
  | number s m e => simp [Ieee.Datum.order, Ieee.signed]

/-- The lists of f integers that begin with some, as the program tells them. -/
noncomputable def wSols (r : RowsD) (top : Nat) : Nat → List Int → List (List Int)
  | 0, now => if wholeB r now = true then [now] else []
  | f + 1, now => (List.range (top + 1)).flatMap fun (k : Nat) => wSols r top f (now ++ [(k : Int)])
noncomputable def wPart (r : RowsD) (top f : Nat) (now : List Int) (k : Nat) : List (List Int) := (List.range k).flatMap fun (k : Nat) => wSols r top f (now ++ [(k : Int)])
theorem wPart_succ (r : RowsD) (top f : Nat) (now : List Int) (k : Nat) : wPart r top f now (k + 1) = wPart r top f now k ++ wSols r top f (now ++ [(k : Int)]) := by
  unfold wPart; rw [List.range_succ, List.flatMap_append]; simp
theorem wSols_succ (r : RowsD) (top f : Nat) (now : List Int) : wSols r top (f + 1) now = wPart r top f now (top + 1) := rfl
theorem wSols_len (r : RowsD) (top : Nat) : ∀ (f : Nat) (now : List Int), (wSols r top f now).length ≤ (top + 1) ^ f
  | 0, now => by unfold wSols; split <;> simp
  | f + 1, now => by
    rw [wSols_succ]
    have : ∀ k, (wPart r top f now k).length ≤ k * (top + 1) ^ f := by
      intro k
      induction k with
      | zero => simp [wPart]
      | succ k ih =>
        rw [wPart_succ, List.length_append, Nat.add_mul, Nat.one_mul]
        have := wSols_len r top f (now ++ [(k : Int)])
        omega
    have h := this (top + 1)
    rw [Nat.pow_succ, Nat.mul_comm]
    exact h
theorem wPart_len (r : RowsD) (top f : Nat) (now : List Int) (k : Nat) : (wPart r top f now k).length ≤ k * (top + 1) ^ f := by
  induction k with
  | zero => simp [wPart]
  | succ k ih =>
    rw [wPart_succ, List.length_append, Nat.add_mul, Nat.one_mul]
    have := wSols_len r top f (now ++ [(k : Int)])
    omega

/-- The digits of a number, the greatest first. -/
def digB (B : Nat) : Nat → Nat → List Int
  | 0, _ => []
  | n + 1, N => ((N / B ^ n : Nat) : Int) :: digB B n (N % B ^ n)
theorem digB_len (B : Nat) : ∀ (n N : Nat), (digB B n N).length = n
  | 0, _ => rfl
  | n + 1, N => by simp only [digB, List.length_cons, digB_len B n]
theorem range_mul (a b : Nat) : List.range (a * b) = (List.range a).flatMap fun k => (List.range b).map fun m => k * b + m := by
  induction a with
  | zero => simp
  | succ a ih =>
    rw [Nat.add_mul, Nat.one_mul, List.range_add, ih, List.range_succ, List.flatMap_append]
    simp
theorem flatMap_same {α β : Type} : ∀ (l : List α) (f g : α → List β), (∀ a ∈ l, f a = g a) → l.flatMap f = l.flatMap g
  | [], f, g, _ => rfl
  | a :: r, f, g, h => by
    simp only [List.flatMap_cons]
    rw [h a (by simp), flatMap_same r f g fun b hb => h b (by simp [hb])]
theorem wSols_dig (r : RowsD) (top : Nat) : ∀ (f : Nat) (now : List Int), wSols r top f now = (List.range ((top + 1) ^ f)).flatMap fun N => if wholeB r (now ++ digB (top + 1) f N) = true then [now ++ digB (top + 1) f N] else []
  | 0, now => by simp [wSols, digB]
  | f + 1, now => by
    have hp : 0 < (top + 1) ^ f := Nat.pow_pos (by omega)
    rw [wSols_succ, wPart, Nat.pow_succ, Nat.mul_comm, range_mul, List.flatMap_assoc]
    congr 1
    funext k
    rw [wSols_dig r top f, List.flatMap_map]
    apply flatMap_same
    intro m hm
    have hm' := List.mem_range.1 hm
    have e1 : (k * (top + 1) ^ f + m) / (top + 1) ^ f = k := by
      rw [Nat.mul_comm, Nat.mul_add_div hp, Nat.div_eq_of_lt hm', Nat.add_zero]
    have e2 : (k * (top + 1) ^ f + m) % (top + 1) ^ f = m := by
      rw [Nat.mul_comm, Nat.mul_add_mod, Nat.mod_eq_of_lt hm']
    simp only [digB, e1, e2, List.append_assoc, List.singleton_append]

/-- Counting up. -/
def nextL (top : Int) : List Int → Bool × List Int
  | [] => (false, [])
  | a :: r => if (nextL top r).1 = true then (true, a :: (nextL top r).2) else if a < top then (true, (a + 1) :: (nextL top r).2) else (false, 0 :: (nextL top r).2)
theorem digB_zero (B : Nat) : ∀ n, digB B n 0 = List.replicate n 0
  | 0 => rfl
  | n + 1 => by simp only [digB, Nat.zero_div, Nat.zero_mod, digB_zero B n, List.replicate_succ]; rfl
theorem next_dig (top : Nat) : ∀ (n N : Nat), N < (top + 1) ^ n → nextL top (digB (top + 1) n N) = (decide (N + 1 < (top + 1) ^ n), digB (top + 1) n ((N + 1) % (top + 1) ^ n))
  | 0, N, h => by
    have : N = 0 := by simpa using h
    subst this
    simp [nextL, digB]
  | n + 1, N, h => by
    have hp : 0 < (top + 1) ^ n := Nat.pow_pos (by omega)
    have hm : N % (top + 1) ^ n < (top + 1) ^ n := Nat.mod_lt _ hp
    have ih := next_dig top n (N % (top + 1) ^ n) hm
    have hdm := Nat.div_add_mod N ((top + 1) ^ n)
    rw [Nat.pow_succ] at h
    have hk : N / (top + 1) ^ n ≤ top := by
      have : N / (top + 1) ^ n < top + 1 := Nat.div_lt_of_lt_mul h
      omega
    simp only [digB, nextL, ih]
    rw [Nat.pow_succ]
    generalize hP : (top + 1) ^ n = P at *
    generalize hK : N / P = k at *
    generalize hM : N % P = m at *
    have hNe : N = P * k + m := hdm.symm
    have hPk : P * k ≤ P * top := Nat.mul_le_mul_left _ hk
    have hPt : P * (top + 1) = P * top + P := by rw [Nat.mul_add, Nat.mul_one]
    by_cases h1 : m + 1 < P
    · have hd : decide (m + 1 < P) = true := by simp [h1]
      rw [if_pos hd]
      have hlt : N + 1 < P * (top + 1) := by rw [hPt]; omega
      have e1 : (N + 1) / P = k := by rw [hNe, Nat.add_assoc, Nat.mul_add_div hp, Nat.div_eq_of_lt h1, Nat.add_zero]
      have e2 : (N + 1) % P = m + 1 := by rw [hNe, Nat.add_assoc, Nat.mul_add_mod, Nat.mod_eq_of_lt h1]
      rw [Nat.mod_eq_of_lt hlt, e1, e2, Nat.mod_eq_of_lt h1]
      simp [hlt]
    · have hd : ¬ decide (m + 1 < P) = true := by simpa using h1
      rw [if_neg hd]
      have hmP : m + 1 = P := by omega
      have e0 : (m + 1) % P = 0 := by rw [hmP, Nat.mod_self]
      rw [e0]
      by_cases h2 : k < top
      · rw [if_pos (by exact_mod_cast h2)]
        have hN1 : N + 1 = P * (k + 1) := by rw [Nat.mul_add, Nat.mul_one]; omega
        have hlt : N + 1 < P * (top + 1) := by rw [hN1]; exact Nat.mul_lt_mul_of_pos_left (by omega) hp
        have e1 : (N + 1) / P = k + 1 := by rw [hN1, Nat.mul_div_cancel_left _ hp]
        have e2 : (N + 1) % P = 0 := by rw [hN1, Nat.mul_mod_right]
        rw [Nat.mod_eq_of_lt hlt, e1, e2]
        simp [hlt]
      · rw [if_neg (by exact_mod_cast h2)]
        have hkt : k = top := by omega
        have hN1 : N + 1 = P * (top + 1) := by rw [hPt, hNe, hkt]; omega
        rw [hN1, Nat.mod_self]
        simp

/-- The walk of counting up: the last ones are zeros already. -/
theorem next_hit (top : Int) : ∀ (x : List Int) (i : Nat), i < x.length → nextL top (x.drop (i + 1)) = (false, List.replicate (x.length - (i + 1)) 0) → x.getD i 0 < top →
    nextL top x = (true, x.take i ++ (x.getD i 0 + 1) :: List.replicate (x.length - (i + 1)) 0)
  | [], i, h, _, _ => by simp at h
  | a :: r, 0, _, h1, h2 => by
    simp only [List.drop_succ_cons, List.drop_zero, List.length_cons] at h1
    simp only [List.getD_cons_zero] at h2
    simp only [nextL, h1, Bool.false_eq_true, if_false, if_pos h2, List.take_zero, List.nil_append, List.getD_cons_zero, List.length_cons]
  | a :: r, i + 1, h, h1, h2 => by
    have ih := next_hit top r i (by simpa using h) (by simpa using h1) (by simpa using h2)
    simp only [nextL, ih, if_true, List.take_succ_cons, List.cons_append, List.getD_cons_succ, List.length_cons]
    congr 3
    simp
theorem next_miss (top : Int) (x : List Int) (i : Nat) (hi : i < x.length) (h1 : nextL top (x.drop (i + 1)) = (false, List.replicate (x.length - (i + 1)) 0)) (h2 : ¬ x.getD i 0 < top) :
    nextL top (x.drop i) = (false, List.replicate (x.length - i) 0) := by
  rw [List.drop_eq_getElem_cons hi]
  have e : x.getD i 0 = x[i] := by simp [hi]
  rw [e] at h2
  simp only [nextL, h1, Bool.false_eq_true, if_false, if_neg h2]
  rw [show x.length - i = (x.length - (i + 1)) + 1 by omega, List.replicate_succ]

end Go.Proofs.Ytkfiepiipigcmaa

namespace Go.Proofs.Ytkfiepiipigcmaa
open Go.RowKit

theorem map_snoc (xs : List Int) (k : Nat) (h : k < xs.length) : (xs.take (k + 1)).map fI = (xs.take k).map fI ++ [fI (xs.getD k 0)] := by
  rw [List.take_succ_eq_append_getElem h, List.map_append]
  simp [h]

theorem run_conv_if {P : Program} (n : Int) (hd : P.underlying 63 = some (.float .f32)) (hs : P.underlying 2 = some (.int .i64)) (w : World) : (convert 2 63 (.int .i64 n)).run P w = .ok (.float .f32 (fI n)) w := by
  simp [convert, run_underlying hs, run_underlying hd, Conv.intToFloat, floatOfInt, fI]

set_option maxHeartbeats 2000000 in
theorem asNumbers_any (v : Value) (xs : List Int) (w : World) (h : RdI w v xs) (hb : xs.length ≤ 1048576) :
    Calls Try.prog 125 #[v] w fun e w' => ∃ u, e = .returned u ∧ RdF w' u (xs.map fI) ∧ Below w.heap.size w w' := by
  obtain ⟨a, c, rfl⟩ := h.shape
  have HS := Lib.hid h
  clear h
  go_enter Try.func125, Try.ntmps125
  go_wp2_with fail
  go_loopw [3, 8] (fun out i wr => ∃ (k : Nat) (b : Option Addr) (cap : Nat), i = .int .i64 k ∧ k ≤ xs.length ∧ out = .slice b k cap ∧ Hid (wr.ownsRow w.heap.size 63 1 (.slice b k cap) k (((xs.take k).map fI).map F32)) ∧ Hid (Below w.heap.size w wr)) (fun _ i _ => xs.length - (intOf i).toNat)
  case atStart => exact ⟨0, none, 0, rfl, Nat.zero_le _, rfl, World.ownsRow_nil _ _ _ _, Below.refl _ _⟩
  case round =>
    obtain ⟨k, b, cap, rfl, hk, rfl, HO, HB⟩ := hrel
    by_cases hlt : k < xs.length
    · obtain ⟨ub, uo, rfl, _, hc⟩ := (HS.out.up HB.out (Nat.le_refl _)).at hlt
      have HM := Lib.hid (map_snoc xs k hlt)
      obtain ⟨y, hy⟩ : ∃ y, y = xs.getD k 0 := ⟨_, rfl⟩
      rw [← hy] at hc HM
      have hconv := fun (W : World) => run_conv_if (P := Try.prog) y Try.underlying63 Try.underlying2 W
      have hz := HB.out.size
      clear hy
      go_wp2_with (at_builtin; refine app_flts rfl _ _ rfl w.heap.size (.slice b k cap) k _ rfl (owns_below HO.out ((Below.refl _ _).alloc (Nat.le_refl _) _) (Nat.le_refl _)) _ [_] rfl (slcF_one _ _) (k + 1) _ (by simp) rfl (by omega) (by simp; omega) ?_; intro a2 cap2 w5 hown hbl hg _)
      go_roundw
      case rel => exact ⟨k + 1, a2, cap2, by go_num, by omega, rfl, by rw [HM.out]; exact hown, (HB.out.alloc HB.out.size _).trans hbl⟩
      case measure => simp [intOf]; omega
    · obtain rfl : k = xs.length := by omega
      go_wp2_with fail
      go_ret
      refine ⟨_, rfl, ?_, HB.out⟩
      have := slc_of_owns HO.out
      rwa [List.take_length] at this

set_option maxHeartbeats 2000000 in
theorem l07Floats_any (v : Value) (xs : List Int) (w : World) (h : RdI w v xs) (hb : xs.length ≤ 1048576) :
    Calls Try.prog 114 #[v] w fun e w' => ∃ u, e = .returned u ∧ RdF w' u (xs.map fI) ∧ Below w.heap.size w w' := by
  obtain ⟨a, c, rfl⟩ := h.shape
  have HS := Lib.hid h
  clear h
  go_enter Try.func114, Try.ntmps114
  go_wp2_with fail
  refine wp_at fun W0 hW0 => ?_
  have HB0 := Lib.hid (show Below w.heap.size w W0 by subst hW0; exact (Below.refl _ _).alloc (Nat.le_refl _) _)
  have HO0 := Lib.hid (show W0.ownsRow w.heap.size 63 1 (.slice (some ⟨w.heap.size, 0, none⟩) 0 0) 0 (([] : List Nat).map F32) by subst hW0; exact ownsF_empty w)
  clear hW0
  go_loopw [3, 8] (fun out i wr => ∃ (k : Nat) (b : Option Addr) (cap : Nat), i = .int .i64 k ∧ k ≤ xs.length ∧ out = .slice b k cap ∧ Hid (wr.ownsRow w.heap.size 63 1 (.slice b k cap) k (((xs.take k).map fI).map F32)) ∧ Hid (Below w.heap.size w wr)) (fun _ i _ => xs.length - (intOf i).toNat)
  case atStart => exact ⟨0, _, 0, rfl, Nat.zero_le _, rfl, HO0.out, HB0.out⟩
  case round =>
    obtain ⟨k, b, cap, rfl, hk, rfl, HO, HB⟩ := hrel
    by_cases hlt : k < xs.length
    · obtain ⟨ub, uo, rfl, _, hc⟩ := (HS.out.up HB.out (Nat.le_refl _)).at hlt
      have HM := Lib.hid (map_snoc xs k hlt)
      obtain ⟨y, hy⟩ : ∃ y, y = xs.getD k 0 := ⟨_, rfl⟩
      rw [← hy] at hc HM
      have hconv := fun (W : World) => run_conv_if (P := Try.prog) y Try.underlying63 Try.underlying2 W
      have hz := HB.out.size
      clear hy
      go_wp2_with (at_builtin; refine app_flts rfl _ _ rfl w.heap.size (.slice b k cap) k _ rfl (owns_below HO.out ((Below.refl _ _).alloc (Nat.le_refl _) _) (Nat.le_refl _)) _ [_] rfl (slcF_one _ _) (k + 1) _ (by simp) rfl (by omega) (by simp; omega) ?_; intro a2 cap2 w5 hown hbl hg _)
      go_roundw
      case rel => exact ⟨k + 1, a2, cap2, by go_num, by omega, rfl, by rw [HM.out]; exact hown, (HB.out.alloc HB.out.size _).trans hbl⟩
      case measure => simp [intOf]; omega
    · obtain rfl : k = xs.length := by omega
      go_wp2_with fail
      go_ret
      refine ⟨_, rfl, ?_, HB.out⟩
      have := slc_of_owns HO.out
      rwa [List.take_length] at this

theorem all_get {xs : List Nat} {p : Nat → Bool} : xs.all p = true ↔ ∀ i, i < xs.length → p (xs.getD i 0) = true := by
  rw [List.all_eq_true]
  constructor
  · intro h i hi
    have : xs.getD i 0 = xs[i] := by simp [hi]
    rw [this]; exact h _ (List.getElem_mem hi)
  · intro h y hy
    obtain ⟨i, hi, rfl⟩ := List.mem_iff_getElem.1 hy
    have : xs.getD i 0 = xs[i] := by simp [hi]
    rw [← this]; exact h i hi
theorem all_no {xs : List Nat} {p : Nat → Bool} {i : Nat} (hi : i < xs.length) (h : p (xs.getD i 0) = false) : xs.all p = false := by
  cases hb : xs.all p
  · rfl
  · have := all_get.1 hb i hi
    rw [h] at this; cases this

theorem run_neg0 {P : Program} (w : World) : (Op.unary UnOp.neg (.float .f32 0)).run P w = .ok (.float .f32 2147483648) w := by
  first | rfl | (simp [Op.unary]; done) | (simp [Op.unary]; rfl)

set_option maxHeartbeats 2000000 in
theorem areAtLeast_any (v : Value) (xs : List Nat) (w : World) (h : RdF w v xs) :
    Calls Try.prog 173 #[v, .float .f32 0] w fun e w' => e = .returned (.bool (xs.all geB)) ∧ w = w' := by
  obtain ⟨a, c, rfl⟩ := h.shape
  have hm := h.len
  simp only [maxLen] at hm
  have HS := Lib.hid h
  clear h
  go_enter Try.func173, Try.ntmps173
  go_wp2_with fail
  go_loop [9] (fun i => ∃ k : Nat, i = .int .i64 k ∧ k ≤ xs.length ∧ Hid (∀ j, j < k → geB (xs.getD j 0) = true)) (fun i => xs.length - (intOf i).toNat)
  case atStart => exact ⟨0, rfl, Nat.zero_le _, fun j hj => by omega⟩
  case round =>
    obtain ⟨k, rfl, hk, hall⟩ := hrel
    by_cases hlt : k < xs.length
    · obtain ⟨b, off, rfl, hb, hc⟩ := HS.out.at hlt
      obtain ⟨y, hy⟩ : ∃ y, y = xs.getD k 0 := ⟨_, rfl⟩
      rw [← hy] at hc
      have HY := Lib.hid hy
      clear hy
      have hneg := fun (W : World) => run_neg0 (P := Try.prog) W
      cases hq : (FloatKind.f32.format.order y 0 == some .lt)
      · have hq' : (FloatKind.f32.format.order y 2147483648 == some .lt) = false := by rw [order_negz]; exact hq
        have HQ := Lib.hid hq
        clear hq
        go_wp2_with fail
        go_round
        case rel =>
          refine ⟨k + 1, by go_num, by omega, fun j hj => ?_⟩
          by_cases hjk : j < k
          · exact hall.out j hjk
          · obtain rfl : j = k := by omega
            rw [← HY.out]; unfold geB; rw [HQ.out]; rfl
        case measure => simp [intOf]; omega
      · have hq' : (FloatKind.f32.format.order y 2147483648 == some .lt) = true := by rw [order_negz]; exact hq
        have HQ := Lib.hid hq
        clear hq
        go_wp2_with fail
        go_ret
        exact ⟨by rw [all_no hlt (by rw [← HY.out]; unfold geB; rw [HQ.out]; rfl)]; rfl, rfl⟩
    · obtain rfl : k = xs.length := by omega
      go_wp2_with fail
      go_ret
      exact ⟨by rw [all_get.2 hall.out]; rfl, rfl⟩

theorem implLeft_b (q : Bool) (L : List Nat) (v : Value) (r : RowsD) (u : Value) (x : List Nat) (w : World) (h : RdR w v r) (hu : RdF w u x) (hq : leftOk r x = q) (hL : leftR r x = L) :
    Calls Try.prog 172 #[v, u] w (ListPost q L w.heap.size w) := by
  have := implLeft_any v r u x w h hu
  rwa [hq, hL] at this
theorem specLeft_b (q : Bool) (L : List Nat) (v : Value) (r : RowsD) (u : Value) (x : List Nat) (w : World) (h : RdR w v r) (hu : RdF w u x) (hq : leftOk r x = q) (hL : leftR r x = L) :
    Calls Try.prog 145 #[v, u] w (ListPost q L w.heap.size w) := by
  have := specLeft_any v r u x w h hu
  rwa [hq, hL] at this

set_option maxHeartbeats 4000000 in
set_option maxRecDepth 4000 in
theorem isWhole_any (v : Value) (r : RowsD) (u : Value) (xs : List Int) (w : World) (h : RdR w v r) (hu : RdI w u xs) (hb : xs.length ≤ 1048576) :
    Calls Try.prog 154 #[v, u] w fun e w' => e = .returned (.bool (wholeB r xs)) ∧ Below w.heap.size w w' := by
  obtain ⟨a1, c1, a2, c2, a3, c3, rfl⟩ := h.shape
  obtain ⟨a, c, rfl⟩ := hu.shape
  have HP := Lib.hid h
  have HU := Lib.hid hu
  obtain ⟨q, hq⟩ : ∃ q, leftOk r (xs.map fI) = q := ⟨_, rfl⟩
  obtain ⟨L, hL⟩ : ∃ L, leftR r (xs.map fI) = L := ⟨_, rfl⟩
  have HQ := Lib.hid hq
  have HL := Lib.hid hL
  have HW := Lib.hid (show wholeB r xs = (q && L.all geB) by unfold wholeB; rw [hq, hL])
  clear h hu hq hL
  go_enter Try.func154, Try.ntmps154
  go_wp2_with fail
  refine wp_at fun W hW => ?_
  have HB := Lib.hid (show Below w.heap.size w W by subst hW; (repeat' first | exact Below.refl _ _ | assumption | refine Below.alloc ?_ ?_ _ | refine Below.setCell ?_ ?_ _ | refine Below.drew ?_ | (simp; done) | (simp; omega)))
  have HK := Lib.hid (show Blk W w.heap.size 67 #[.int .i64 r.vars, .slice a1 r.nums.length c1, .slice a2 r.bnds.length c2, .slice a3 r.gains.length c3] by subst hW; exact Blk.new _ _ _)
  have d0 : W.cell? ⟨w.heap.size, 0, none⟩ = some (.int .i64 r.vars) := HK.out.cell 0 rfl
  have d1 : W.cell? ⟨w.heap.size, 1, none⟩ = some (.slice a1 r.nums.length c1) := HK.out.cell 1 rfl
  have d2 : W.cell? ⟨w.heap.size, 2, none⟩ = some (.slice a2 r.bnds.length c2) := HK.out.cell 2 rfl
  have d3 : W.cell? ⟨w.heap.size, 3, none⟩ = some (.slice a3 r.gains.length c3) := HK.out.cell 3 rfl
  clear hW
  go_region_held3 (fun X => X.cell? ⟨w.heap.size, 0, none⟩ = some (.int .i64 r.vars) ∧ X.cell? ⟨w.heap.size, 1, none⟩ = some (.slice a1 r.nums.length c1) ∧ X.cell? ⟨w.heap.size, 2, none⟩ = some (.slice a2 r.bnds.length c2) ∧ X.cell? ⟨w.heap.size, 3, none⟩ = some (.slice a3 r.gains.length c3) ∧ Below W.heap.size W X)
    (first | exact ⟨held_of hbn d0 (Nat.le_refl _), held_of hbn d1 (Nat.le_refl _), held_of hbn d2 (Nat.le_refl _), held_of hbn d3 (Nat.le_refl _), hbn⟩ | exact ⟨d0, d1, d2, d3, (Below.refl _ _).drew⟩)
    (first
      | (go_at_call 125; have hh := (‹_ ∧ _ ∧ _ ∧ _ ∧ Below W.heap.size W _›).2.2.2.2; refine (asNumbers_any _ xs _ (HU.out.up (HB.out.trans (hh.mono HB.out.size)) (Nat.le_refl _)) hb).mono ?_; rintro e w1 ⟨nu, rfl, hnu, hb1⟩; have hbn := hh.trans (hb1.mono hh.size))
      | (go_at_call 172; have hh := (‹_ ∧ _ ∧ _ ∧ _ ∧ Below W.heap.size W _›).2.2.2.2; refine (implLeft_b q L _ r _ (xs.map fI) _ (HP.out.up (HB.out.trans (hh.mono HB.out.size)) (Nat.le_refl _)) hnu HQ.out HL.out).mono ?_; rintro e w2 ⟨lv, rfl, hlv, hb2⟩; have hbn := hh.trans (hb2.mono hh.size))
      | fail)
  have HB2 := Lib.hid (HB.out.trans (hbn.mono HB.out.size))
  obtain ⟨la, lc, rfl⟩ := hlv.shape
  have HLV := Lib.hid hlv
  clear hlv hbn hb2 hb1 hnu hh d0 d1 d2 d3
  cases q
  · go_wp2_with fail
    go_ret
    exact ⟨by rw [HW.out]; rfl, HB2.out⟩
  · go_wp2_with fail
    refine (areAtLeast_any _ L _ HLV.out).mono ?_
    rintro e w3 ⟨rfl, rfl⟩
    obtain ⟨p, hp⟩ : ∃ p, p = L.all geB := ⟨_, rfl⟩
    rw [← hp]
    have HPP := Lib.hid hp
    clear hp
    go_wp2_with fail
    go_ret
    exact ⟨by rw [HW.out, ← HPP.out]; rfl, HB2.out⟩

end Go.Proofs.Ytkfiepiipigcmaa

namespace Go.Proofs.Ytkfiepiipigcmaa
open Go.RowKit

noncomputable def wokB (r : RowsD) (xs : List Int) (top : Int) : Bool := ((xs.length : Int) == r.vars) && (allB xs.length (fun i => inB 0 top (xs.getD i 0)) && wholeB r xs)

set_option maxHeartbeats 4000000 in
set_option maxRecDepth 4000 in
theorem l07Whole_any (bb : Nat) (v0 v1 v2 v3 : Value) (r : RowsD) (u : Value) (xs : List Int) (top : Int) (w : World) (hk : Blk w bb 67 #[v0, v1, v2, v3]) (h : RdR w (.agg #[v0, v1, v2, v3]) r) (hu : RdI w u xs) (hv8 : r.vars ≤ 8) :
    Calls Try.prog 113 #[.pointer (some ⟨bb, 0, none⟩), u, .int .i64 top] w fun e w' => e = .returned (.bool (wokB r xs top)) ∧ Below w.heap.size w w' := by
  obtain ⟨a1, c1, a2, c2, a3, c3, e⟩ := h.shape
  simp only [Value.agg.injEq, Array.mk.injEq, List.cons.injEq, and_true] at e
  obtain ⟨rfl, rfl, rfl, rfl⟩ := e
  obtain ⟨a, c, rfl⟩ := hu.shape
  have l1 := hu.len
  unfold maxLen at l1
  have HP := Lib.hid h
  have HU := Lib.hid hu
  have HK := Lib.hid hk
  have d0 : w.cell? ⟨bb, 0, none⟩ = some (.int .i64 r.vars) := hk.cell 0 rfl
  have d1 : w.cell? ⟨bb, 1, none⟩ = some (.slice a1 r.nums.length c1) := hk.cell 1 rfl
  have d2 : w.cell? ⟨bb, 2, none⟩ = some (.slice a2 r.bnds.length c2) := hk.cell 2 rfl
  have d3 : w.cell? ⟨bb, 3, none⟩ = some (.slice a3 r.gains.length c3) := hk.cell 3 rfl
  obtain ⟨q, hq⟩ : ∃ q, leftOk r (xs.map fI) = q := ⟨_, rfl⟩
  obtain ⟨L, hL⟩ : ∃ L, leftR r (xs.map fI) = L := ⟨_, rfl⟩
  have HQ := Lib.hid hq
  have HL := Lib.hid hL
  have HW := Lib.hid (show wholeB r xs = (q && L.all geB) by unfold wholeB; rw [hq, hL])
  clear h hu hk hq hL
  by_cases hlen : (xs.length : Int) = r.vars
  case neg =>
    have hne : ((xs.length : Int) != r.vars) = true := by simpa using hlen
    have HNO := Lib.hid (show wokB r xs top = false by unfold wokB; rw [show ((xs.length : Int) == r.vars) = false by simpa using hlen]; rfl)
    clear hlen
    go_enter Try.func113, Try.ntmps113
    go_wp2_with fail
    go_ret
    exact ⟨by rw [HNO.out]; rfl, Below.refl _ _⟩
  have hne : ((xs.length : Int) != r.vars) = false := by simpa using hlen
  have HLE := Lib.hid (show ((xs.length : Int) == r.vars) = true by simpa using hlen)
  have hx8 : xs.length ≤ 8 := by omega
  clear hlen
  go_enter Try.func113, Try.ntmps113
  go_wp2_with fail
  go_loop [20] (fun i => ∃ k : Nat, i = .int .i64 k ∧ k ≤ xs.length ∧ Hid (∀ j, j < k → inB 0 top (xs.getD j 0) = true)) (fun i => xs.length - (intOf i).toNat)
  case atStart => exact ⟨0, rfl, Nat.zero_le _, fun j hj => by omega⟩
  case round =>
    obtain ⟨k, rfl, hk, hall⟩ := hrel
    by_cases hlt : k < xs.length
    · obtain ⟨b, off, rfl, hb, hc⟩ := HU.out.at hlt
      obtain ⟨y, hy⟩ : ∃ y, y = xs.getD k 0 := ⟨_, rfl⟩
      rw [← hy] at hc
      have HY := Lib.hid hy
      clear hy
      cases hin : inB 0 top y
      · have HI := Lib.hid hin
        have HNO := Lib.hid (show wokB r xs top = false by unfold wokB; rw [allB_false hlt (by rw [← HY.out]; exact hin), Bool.false_and, Bool.and_false])
        clear hin
        go_wp2_with (go_at_call 95; refine (in_any _ _ _ _).mono ?_; rintro e w' ⟨rfl, rfl⟩; rw [HI.out])
        go_ret
        exact ⟨by rw [HNO.out]; rfl, Below.refl _ _⟩
      · have HI := Lib.hid hin
        clear hin
        go_wp2_with (go_at_call 95; refine (in_any _ _ _ _).mono ?_; rintro e w' ⟨rfl, rfl⟩; rw [HI.out])
        go_round
        case rel =>
          refine ⟨k + 1, by go_num, by omega, fun j hj => ?_⟩
          by_cases hjk : j < k
          · exact hall.out j hjk
          · obtain rfl : j = k := by omega
            rw [← HY.out]; exact HI.out
        case measure => simp [intOf]; omega
    · obtain rfl : k = xs.length := by omega
      have HA := Lib.hid (show wokB r xs top = (q && L.all geB) by unfold wokB; rw [HLE.out, allB_true hall.out, HW.out]; simp)
      go_wp2_with fail
      go_region_held3 (fun X => X.cell? ⟨bb, 0, none⟩ = some (.int .i64 r.vars) ∧ X.cell? ⟨bb, 1, none⟩ = some (.slice a1 r.nums.length c1) ∧ X.cell? ⟨bb, 2, none⟩ = some (.slice a2 r.bnds.length c2) ∧ X.cell? ⟨bb, 3, none⟩ = some (.slice a3 r.gains.length c3) ∧ Below w.heap.size w X)
        (first | exact ⟨held_of hbn d0 (Nat.le_refl _), held_of hbn d1 (Nat.le_refl _), held_of hbn d2 (Nat.le_refl _), held_of hbn d3 (Nat.le_refl _), hbn⟩ | exact ⟨d0, d1, d2, d3, (Below.refl _ _).drew⟩)
        (first
          | (go_at_call 114; have hh := (‹_ ∧ _ ∧ _ ∧ _ ∧ Below w.heap.size w _›).2.2.2.2; refine (l07Floats_any _ xs _ (HU.out.up hh (Nat.le_refl _)) (by omega)).mono ?_; rintro e w1 ⟨nu, rfl, hnu, hb1⟩; have hbn := hh.trans (hb1.mono hh.size))
          | (go_at_call 145; have hh := (‹_ ∧ _ ∧ _ ∧ _ ∧ Below w.heap.size w _›).2.2.2.2; refine (specLeft_b q L _ r _ (xs.map fI) _ (HP.out.up hh (Nat.le_refl _)) hnu HQ.out HL.out).mono ?_; rintro e w2 ⟨lv, rfl, hlv, hb2⟩; have hbn := hh.trans (hb2.mono hh.size))
          | fail)
      have HB2 := Lib.hid hbn
      obtain ⟨la, lc, rfl⟩ := hlv.shape
      have hll := hlv.len
      unfold maxLen at hll
      have HLV := Lib.hid hlv
      clear hlv hbn hb2 hb1 hnu hh d0 d1 d2 d3
      cases q
      · go_wp2_with fail
        go_ret
        exact ⟨by rw [HA.out]; rfl, HB2.out⟩
      · go_wp2_with fail
        go_loop [44] (fun i => ∃ k : Nat, i = .int .i64 k ∧ k ≤ L.length ∧ Hid (∀ j, j < k → geB (L.getD j 0) = true)) (fun i => L.length - (intOf i).toNat)
        case atStart => exact ⟨0, rfl, Nat.zero_le _, fun j hj => by omega⟩
        case round =>
          obtain ⟨k, rfl, hk, hall⟩ := hrel
          by_cases hlt : k < L.length
          · obtain ⟨b, off, rfl, hb, hc⟩ := HLV.out.at hlt
            obtain ⟨y, hy⟩ : ∃ y, y = L.getD k 0 := ⟨_, rfl⟩
            rw [← hy] at hc
            have HY := Lib.hid hy
            clear hy
            cases hq : (FloatKind.f32.format.order y 0 == some .lt)
            · have HQ := Lib.hid hq
              go_wp2_with fail
              go_round
              case rel =>
                refine ⟨k + 1, by go_num, by omega, fun j hj => ?_⟩
                by_cases hjk : j < k
                · exact hall.out j hjk
                · obtain rfl : j = k := by omega
                  rw [← HY.out]; unfold geB; rw [HQ.out]; rfl
              case measure => simp [intOf]; omega
            · have HQ := Lib.hid hq
              go_wp2_with fail
              go_ret
              exact ⟨by rw [HA.out, all_no hlt (by rw [← HY.out]; unfold geB; rw [HQ.out]; rfl)]; rfl, HB2.out⟩
          · obtain rfl : k = L.length := by omega
            go_wp2_with fail
            go_ret
            exact ⟨by rw [HA.out, all_get.2 hall.out]; rfl, HB2.out⟩

end Go.Proofs.Ytkfiepiipigcmaa

namespace Go.Proofs.Ytkfiepiipigcmaa
open Go.RowKit

/-- What is laid after the last ones were made zeros. -/
def zTail (x : List Int) (k : Nat) : List Int := x.take k ++ List.replicate (x.length - k) 0
theorem zTail_full (x : List Int) : zTail x x.length = x := by unfold zTail; simp
theorem zTail_len (x : List Int) (k : Nat) (h : k ≤ x.length) : (zTail x k).length = x.length := by unfold zTail; simp; omega
theorem zTail_at (x : List Int) (k : Nat) (h0 : 0 < k) (h : k ≤ x.length) : (zTail x k)[k - 1]? = some (x.getD (k - 1) 0) := by
  unfold zTail
  rw [List.getElem?_append_left (by simp; omega), List.getElem?_take_of_lt (by omega)]
  simp [show k - 1 < x.length by omega]
theorem zTail_set (x : List Int) (k : Nat) (y : Int) (h0 : 0 < k) (h : k ≤ x.length) : (zTail x k).set (k - 1) y = x.take (k - 1) ++ y :: List.replicate (x.length - k) 0 := by
  unfold zTail
  have e : x.take k = x.take (k - 1) ++ [x.getD (k - 1) 0] := by
    rw [show k = k - 1 + 1 by omega, List.take_succ_eq_append_getElem (by omega)]
    simp [show k - 1 < x.length by omega]
  rw [e, List.append_assoc, List.singleton_append]
  exact set_mid _ _ _ _ _ (by simp; omega)
theorem zTail_zero (x : List Int) (k : Nat) (h0 : 0 < k) (h : k ≤ x.length) : (zTail x k).set (k - 1) 0 = zTail x (k - 1) := by
  rw [zTail_set x k 0 h0 h]
  unfold zTail
  rw [show x.length - (k - 1) = (x.length - k) + 1 by omega, List.replicate_succ]

set_option maxHeartbeats 2000000 in
theorem l07Next_any (base g cap : Nat) (x : List Int) (n : Nat) (top : Int) (w : World) (hn : x.length = n) (h8 : n ≤ 8) (ht : top ≤ 5) (hx : ∀ i, i < n → 0 ≤ x.getD i 0) (h : w.ownsRow base 2 1 (.slice (some ⟨g, 0, none⟩) n cap) n (x.map I64)) :
    Calls Try.prog 112 #[.slice (some ⟨g, 0, none⟩) n cap, .int .i64 top] w fun e w' => e = .returned (.bool (nextL top x).1) ∧ w'.ownsRow base 2 1 (.slice (some ⟨g, 0, none⟩) n cap) n ((nextL top x).2.map I64) ∧ Kept (· = g) w w' := by
  have HO := Lib.hid h
  have HX := Lib.hid hx
  have HN := Lib.hid hn
  clear h hx hn
  go_enter Try.func112, Try.ntmps112
  go_wp2_with fail
  go_loopw [5] (fun i wr => ∃ k : Nat, k ≤ n ∧ i = .int .i64 ((k : Int) - 1) ∧ Hid (nextL top (x.drop k) = (false, List.replicate (n - k) 0)) ∧ Hid (wr.ownsRow base 2 1 (.slice (some ⟨g, 0, none⟩) n cap) n ((zTail x k).map I64)) ∧ Hid (Kept (· = g) w wr)) (fun i _ => (intOf i + 1).toNat)
  case atStart =>
    refine ⟨n, Nat.le_refl _, rfl, ?_, ?_, Kept.refl _ _⟩
    · have := HN.out
      subst this
      show nextL top (x.drop x.length) = _
      simp [nextL]
    · have := HN.out
      subst this
      rw [zTail_full]
      exact HO.out
  case round =>
    obtain ⟨k, hk, rfl, hnx, HO1, HK1⟩ := hrel
    by_cases h0 : 0 < k
    · have hd := HO1.out.cellAt (k - 1) (by omega)
      have hf := HO1.out.frozenAt (k - 1)
      have hx0 := HX.out (k - 1) (by omega)
      rw [List.getElem?_map, zTail_at x k h0 (by rw [HN.out]; exact hk)] at hd
      simp only [Option.map_some, I64] at hd
      have hjm : (k : Int) - 1 < n := by omega
      have hjm0 : (0 : Int) ≤ (k : Int) - 1 := by omega
      have hjt : ((k : Int) - 1).toNat = k - 1 := by omega
      have hhit := Lib.hid (show x.getD (k - 1) 0 < top → nextL top x = (true, x.take (k - 1) ++ (x.getD (k - 1) 0 + 1) :: List.replicate (n - k) 0) from fun hlt => by
        have := next_hit top x (k - 1) (by rw [HN.out]; omega) (by rw [show k - 1 + 1 = k by omega, HN.out]; exact hnx.out) hlt
        rwa [show k - 1 + 1 = k by omega, HN.out] at this)
      have hmiss := Lib.hid (show ¬ x.getD (k - 1) 0 < top → nextL top (x.drop (k - 1)) = (false, List.replicate (n - (k - 1)) 0) from fun hlt => by
        have := next_miss top x (k - 1) (by rw [HN.out]; omega) (by rw [show k - 1 + 1 = k by omega, HN.out]; exact hnx.out) hlt
        rwa [HN.out] at this)
      have hs1 := Lib.hid (zTail_set x k (x.getD (k - 1) 0 + 1) h0 (by rw [HN.out]; exact hk))
      have hs0 := Lib.hid (zTail_zero x k h0 (by rw [HN.out]; exact hk))
      obtain ⟨y, hy⟩ : ∃ y, y = x.getD (k - 1) 0 := ⟨_, rfl⟩
      rw [← hy] at hd hx0 hhit hmiss hs1
      have hst1 := Lib.hid (HO1.out.stored (k - 1) (.int .i64 (y + 1))).1
      have hst0 := Lib.hid (HO1.out.stored (k - 1) (.int .i64 0)).1
      clear hy
      by_cases hlt : y < top
      · have HH := Lib.hid (hhit.out hlt)
        go_wp2_with fail
        go_ret
        refine ⟨by rw [HH.out]; rfl, ?_, HK1.out.setCell (.inr rfl) _⟩
        have h1 := hst1.out
        rw [show (Value.int .i64 (y + 1)) = I64 (y + 1) from rfl, ← List.map_set, hs1.out, HN.out] at h1
        rw [HH.out]
        exact h1
      · have HH := Lib.hid (hmiss.out hlt)
        go_wp2_with fail
        clear hjt
        go_roundw
        case rel =>
          refine ⟨k - 1, by omega, congrArg (Value.int IntKind.i64) (by omega), HH.out, ?_, HK1.out.setCell (.inr rfl) _⟩
          have h1 := hst0.out
          rw [show (Value.int .i64 0) = I64 0 from rfl, ← List.map_set, hs0.out] at h1
          exact h1
        case measure => simp [intOf]; omega
    · obtain rfl : k = 0 := by omega
      have HH := Lib.hid (show nextL top x = (false, List.replicate n 0) from hnx.out)
      go_wp2_with fail
      go_ret
      refine ⟨by rw [HH.out]; rfl, ?_, HK1.out⟩
      have h1 := HO1.out
      rw [HH.out]
      unfold zTail at h1
      rw [HN.out] at h1
      exact h1

noncomputable def topB (r : RowsD) (top : Int) : Bool := (validR r && decide (r.vars ≤ 4)) && inB 1 5 top

set_option maxHeartbeats 2000000 in
theorem isTop_any (v : Value) (r : RowsD) (top : Int) (w : World) (h : RdR w v r) :
    Calls Try.prog 122 #[v, .int .i64 top] w fun e w' => e = .returned (.bool (topB r top)) ∧ Below w.heap.size w w' := by
  obtain ⟨a1, c1, a2, c2, a3, c3, rfl⟩ := h.shape
  have HP := Lib.hid h
  obtain ⟨n0, x1, x2, x3⟩ := r
  simp only at HP ⊢
  clear h
  go_enter Try.func122, Try.ntmps122
  go_wp2_with fail
  refine Calls.at fun W hW => ?_
  have hb := Lib.hid (show Below w.heap.size w W by subst hW; (repeat' first | exact Below.refl _ _ | assumption | refine Below.alloc ?_ ?_ _ | refine Below.setCell ?_ ?_ _ | refine Below.drew ?_ | (simp; done) | (simp; omega)))
  have hk := Lib.hid (show Blk W w.heap.size 67 #[.int .i64 n0, .slice a1 x1.length c1, .slice a2 x2.length c2, .slice a3 x3.length c3] by subst hW; exact Blk.new _ _ _)
  clear hW
  refine (ValidRows_any _ ⟨n0, x1, x2, x3⟩ W (HP.out.up hb.out (Nat.le_refl _))).mono ?_
  rintro e w1 ⟨rfl, hb1⟩
  have HB1 := Lib.hid (hb.out.trans (hb1.mono hb.out.size))
  have HK1 := Lib.hid (hk.out.below hb1 hk.out.lt)
  have d0 : w1.cell? ⟨w.heap.size, 0, none⟩ = some (.int .i64 n0) := HK1.out.cell 0 rfl
  clear hb1 hb hk
  obtain ⟨q, hq⟩ : ∃ q, q = validR ⟨n0, x1, x2, x3⟩ := ⟨_, rfl⟩
  rw [← hq]
  have HQ := Lib.hid hq
  clear hq
  cases q
  · have HN := Lib.hid (show topB ⟨n0, x1, x2, x3⟩ top = false by unfold topB; rw [← HQ.out]; rfl)
    go_wp2_with fail
    go_ret
    exact ⟨by rw [HN.out]; rfl, HB1.out⟩
  · by_cases h4 : n0 ≤ 4
    · have HN := Lib.hid (show topB ⟨n0, x1, x2, x3⟩ top = inB 1 5 top by unfold topB; rw [← HQ.out]; simp [h4])
      go_wp2_with (go_at_call 65; refine (within_any _ _ _ _).mono ?_; rintro e w' ⟨rfl, rfl⟩)
      go_ret
      exact ⟨by rw [HN.out]; rfl, HB1.out⟩
    · have HN := Lib.hid (show topB ⟨n0, x1, x2, x3⟩ top = false by unfold topB; simp [h4])
      go_wp2_with fail
      go_ret
      exact ⟨by rw [HN.out]; rfl, HB1.out⟩

set_option maxHeartbeats 2000000 in
theorem l07Rows_any (bb : Nat) (v0 v1 v2 v3 : Value) (r : RowsD) (top : Int) (w : World) (hk : Blk w bb 67 #[v0, v1, v2, v3]) (h : RdR w (.agg #[v0, v1, v2, v3]) r) :
    Calls Try.prog 84 #[.pointer (some ⟨bb, 0, none⟩), .int .i64 top] w fun e w' => e = .returned (.bool (topB r top)) ∧ ∃ m, w' = w.drewN m := by
  obtain ⟨a1, c1, a2, c2, a3, c3, e⟩ := h.shape
  simp only [Value.agg.injEq, Array.mk.injEq, List.cons.injEq, and_true] at e
  obtain ⟨rfl, rfl, rfl, rfl⟩ := e
  have HV := Lib.hid (l02Is_any bb _ _ _ _ r w hk h)
  have d0 : w.cell? ⟨bb, 0, none⟩ = some (.int .i64 r.vars) := hk.cell 0 rfl
  obtain ⟨n0, x1, x2, x3⟩ := r
  simp only at HV d0 ⊢
  clear h hk
  obtain ⟨q, hq⟩ : ∃ q, q = validR ⟨n0, x1, x2, x3⟩ := ⟨_, rfl⟩
  rw [← hq] at HV
  have HQ := Lib.hid hq
  clear hq
  cases q
  · have HN := Lib.hid (show topB ⟨n0, x1, x2, x3⟩ top = false by unfold topB; rw [← HQ.out]; rfl)
    go_enter Try.func84, Try.ntmps84
    go_wp2_with fail
    refine HV.out.mono ?_
    rintro e w1 ⟨rfl, m1, rfl⟩
    go_wp2_with fail
    go_ret
    exact ⟨by rw [HN.out]; rfl, _, rfl⟩
  · by_cases h4 : n0 ≤ 4
    · have HN := Lib.hid (show topB ⟨n0, x1, x2, x3⟩ top = inB 1 5 top by unfold topB; rw [← HQ.out]; simp [h4])
      go_enter Try.func84, Try.ntmps84
      go_wp2_with fail
      refine HV.out.mono ?_
      rintro e w1 ⟨rfl, m1, rfl⟩
      go_wp2_with (go_at_call 95; refine (in_any _ _ _ _).mono ?_; rintro e w' ⟨rfl, rfl⟩)
      go_ret
      exact ⟨by rw [HN.out]; rfl, _, rfl⟩
    · have HN := Lib.hid (show topB ⟨n0, x1, x2, x3⟩ top = false by unfold topB; simp [h4])
      go_enter Try.func84, Try.ntmps84
      go_wp2_with fail
      refine HV.out.mono ?_
      rintro e w1 ⟨rfl, m1, rfl⟩
      go_wp2_with fail
      go_ret
      exact ⟨by rw [HN.out]; rfl, _, rfl⟩

theorem topB_parts {r : RowsD} {top : Int} (h : topB r top = true) : ValR r ∧ r.vars ≤ 4 ∧ 1 ≤ top ∧ top ≤ 5 := by
  unfold topB at h
  simp only [Bool.and_eq_true, decide_eq_true_eq] at h
  exact ⟨validR_iff.1 h.1.1, h.1.2, (inB_iff.1 h.2).1, (inB_iff.1 h.2).2⟩

end Go.Proofs.Ytkfiepiipigcmaa
