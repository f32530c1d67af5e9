/-
  FnRules: texts joined: RuUb, SimN, RuW, RuX.
-/
import Derived.Test.YtfdaifmfecfchaaMFnRulesAG
namespace Go.Proofs.Ytfdaifmfecfchaa
open Go.RowKit Go.Sort

theorem t_sim1_0 : (List.range 7).all (fun k => (List.range (7 - k)).all fun r => okSim (-8) (k + 2) 1 (k + 2 + r)) = true := by decide +kernel
theorem t_sim1_1 : (List.range 7).all (fun k => (List.range (7 - k)).all fun r => okSim (-7) (k + 2) 1 (k + 2 + r)) = true := by decide +kernel
theorem t_sim1_2 : (List.range 7).all (fun k => (List.range (7 - k)).all fun r => okSim (-6) (k + 2) 1 (k + 2 + r)) = true := by decide +kernel
theorem t_sim1_3 : (List.range 7).all (fun k => (List.range (7 - k)).all fun r => okSim (-5) (k + 2) 1 (k + 2 + r)) = true := by decide +kernel
theorem t_sim1_4 : (List.range 7).all (fun k => (List.range (7 - k)).all fun r => okSim (-4) (k + 2) 1 (k + 2 + r)) = true := by decide +kernel
theorem t_sim1_5 : (List.range 7).all (fun k => (List.range (7 - k)).all fun r => okSim (-3) (k + 2) 1 (k + 2 + r)) = true := by decide +kernel
theorem t_sim1_6 : (List.range 7).all (fun k => (List.range (7 - k)).all fun r => okSim (-2) (k + 2) 1 (k + 2 + r)) = true := by decide +kernel
theorem t_sim1_7 : (List.range 7).all (fun k => (List.range (7 - k)).all fun r => okSim (-1) (k + 2) 1 (k + 2 + r)) = true := by decide +kernel
theorem t_sim1_8 : (List.range 7).all (fun k => (List.range (7 - k)).all fun r => okSim (0) (k + 2) 1 (k + 2 + r)) = true := by decide +kernel
theorem t_sim1_9 : (List.range 7).all (fun k => (List.range (7 - k)).all fun r => okSim (1) (k + 2) 1 (k + 2 + r)) = true := by decide +kernel
theorem t_sim1_10 : (List.range 7).all (fun k => (List.range (7 - k)).all fun r => okSim (2) (k + 2) 1 (k + 2 + r)) = true := by decide +kernel
theorem t_sim1_11 : (List.range 7).all (fun k => (List.range (7 - k)).all fun r => okSim (3) (k + 2) 1 (k + 2 + r)) = true := by decide +kernel
theorem t_sim1_12 : (List.range 7).all (fun k => (List.range (7 - k)).all fun r => okSim (4) (k + 2) 1 (k + 2 + r)) = true := by decide +kernel
theorem t_sim1_13 : (List.range 7).all (fun k => (List.range (7 - k)).all fun r => okSim (5) (k + 2) 1 (k + 2 + r)) = true := by decide +kernel
theorem t_sim1_14 : (List.range 7).all (fun k => (List.range (7 - k)).all fun r => okSim (6) (k + 2) 1 (k + 2 + r)) = true := by decide +kernel
theorem t_sim1_15 : (List.range 7).all (fun k => (List.range (7 - k)).all fun r => okSim (7) (k + 2) 1 (k + 2 + r)) = true := by decide +kernel
theorem t_sim1 {d : Int} {K n : Nat} (h0 : -8 ≤ d) (h1 : d < 8) (hK : 2 ≤ K) (hn : K ≤ n) (h8 : n ≤ 8) : okSim d K 1 n = true := by
  have h : (List.range 7).all (fun k => (List.range (7 - k)).all fun r => okSim d (k + 2) 1 (k + 2 + r)) = true := by
    obtain ⟨i, hi⟩ : ∃ i : Nat, d = -8 + (i : Int) := ⟨(d - -8).toNat, by omega⟩
    have hlt : i < 16 := by omega
    subst hi
    match i, hlt with
    | 0, _ => exact t_sim1_0
    | 1, _ => exact t_sim1_1
    | 2, _ => exact t_sim1_2
    | 3, _ => exact t_sim1_3
    | 4, _ => exact t_sim1_4
    | 5, _ => exact t_sim1_5
    | 6, _ => exact t_sim1_6
    | 7, _ => exact t_sim1_7
    | 8, _ => exact t_sim1_8
    | 9, _ => exact t_sim1_9
    | 10, _ => exact t_sim1_10
    | 11, _ => exact t_sim1_11
    | 12, _ => exact t_sim1_12
    | 13, _ => exact t_sim1_13
    | 14, _ => exact t_sim1_14
    | 15, _ => exact t_sim1_15
    | i + 16, h => exact absurd h (by omega)
  have h2 := List.all_eq_true.1 (List.all_eq_true.1 h (K - 2) (List.mem_range.2 (by omega))) (n - K) (List.mem_range.2 (by omega))
  rw [show K - 2 + 2 = K by omega, show K + (n - K) = n by omega] at h2
  exact h2

end Go.Proofs.Ytfdaifmfecfchaa

namespace Go.Proofs.Ytfdaifmfecfchaa
open Go.RowKit Go.Sort

def ltV (a b : Nat) : Bool := decide (valI b < valI a)
theorem swo_V : SWO ltV where
  irrefl x := by simp [ltV]
  trans x y z h1 h2 := by simp only [ltV, decide_eq_true_eq] at *; omega
  ntrans x y z h1 h2 := by simp only [ltV, decide_eq_false_iff_not] at *; omega
theorem gtF_ltV {x y : Nat} (hx : fin32 x = true) (hy : fin32 y = true) : gtF x y = ltV x y := gtF_val hx hy
def sortD (xs : List Nat) : List Nat := (insertionSort ltV xs.toArray 0 xs.length).toList
theorem sortD_desc (xs : List Nat) : Desc xs (sortD xs) := by
  obtain ⟨hp, hs⟩ := insertionSort_holds swo_V xs.toArray 0 xs.length (Nat.zero_le _) (by simp)
  have hsz : (insertionSort ltV xs.toArray 0 xs.length).size = xs.length := by rw [hp.1]; simp
  have e0 : ∀ (a : Array Nat) k, a.size = k → a.extract 0 k = a := by
    rintro a _ rfl
    exact Array.extract_size
  have hq := hp.2.2
  rw [e0 _ _ hsz, e0 xs.toArray _ (by simp)] at hq
  refine ⟨hq, fun i j hij hj => ?_⟩
  unfold sortD at hj ⊢
  generalize insertionSort ltV xs.toArray 0 xs.length = d at hs hsz hj ⊢
  rw [Array.length_toList] at hj
  have := hs i j (Nat.zero_le _) hij (by omega)
  unfold ltV at this
  rw [decide_eq_false_iff_not, getElem!_pos d i (by omega), getElem!_pos d j hj] at this
  rw [List.getD_eq_getElem?_getD, List.getD_eq_getElem?_getD, Array.getElem?_toList, Array.getElem?_toList, Array.getElem?_eq_getElem hj, Array.getElem?_eq_getElem (show i < d.size by omega)]
  simp only [Option.getD_some]
  omega

theorem gtF_congr {x y q : Nat} (hx : fin32 x = true) (hy : fin32 y = true) (h : valI x = valI y) : gtF x q = gtF y q := by
  cases hq : fin32 q with
  | true => rw [gtF_val hx hq, gtF_val hy hq, h]
  | false =>
    obtain ⟨s, m, e, h0, _⟩ := read32_parts hx
    obtain ⟨t, n, j, k0, _⟩ := read32_parts hy
    unfold gtF Ieee.Format.order
    rw [h0, k0]
    unfold fin32 at hq
    cases hr : Ieee.single.read q with
    | nan a b => rfl
    | infinity s => rfl
    | number a b c => rw [hr] at hq; simp at hq

theorem cut_same {xs D E : List Nat} (hD : Desc xs D) (hE : Desc xs E) (hf : allFin xs = true) : ∀ k, k ≤ xs.length → cutF D k = cutF E k := by
  have hall : ∀ x, x ∈ xs → fin32 x = true := by unfold allFin at hf; rwa [List.all_eq_true] at hf
  have fin : ∀ L : List Nat, L.Perm xs → allFin L = true := fun L hp => by
    unfold allFin; rw [List.all_eq_true]; exact fun x hx => hall x (hp.mem_iff.1 hx)
  have fD := fin D hD.perm
  have fE := fin E hE.perm
  have lD : D.length = xs.length := hD.perm.length_eq
  have lE : E.length = xs.length := hE.perm.length_eq
  have hv := sorted_same D E (hD.perm.trans hE.perm.symm) hD.down hE.down
  have ht : ∀ k, k ≤ xs.length → totV D k = totV E k := fun k hk => by
    have h1 := (sum_same D E (by omega) (fun i hi => allFin_get fD hi) (fun i hi => allFin_get fE (by omega)) hv hD.down k (by omega)).1
    rw [(totV_num fD k (by omega)).2, (totV_num fE k (by omega)).2] at h1
    exact Option.some.inj h1
  intro k
  induction k with
  | zero => intro _; rfl
  | succ k ih =>
    intro hk
    have h1 := ih (by omega)
    have h2 : cutK D k = cutK E k := by unfold cutK; rw [ht (k + 1) hk]
    have h3 : gtF (D.getD k 0) (cutK D k) = gtF (E.getD k 0) (cutK E k) := by
      rw [h2]; exact gtF_congr (allFin_get fD (by omega)) (allFin_get fE (by omega)) (hv k (by omega))
    simp only [cutF]
    rw [h1, h2, ← h2, h3, h2]
theorem sim_same {xs D E : List Nat} (hD : Desc xs D) (hE : Desc xs E) (hf : allFin xs = true) : simL xs D = simL xs E ∧ simOk2 xs D = simOk2 xs E := by
  have lD : D.length = xs.length := hD.perm.length_eq
  have lE : E.length = xs.length := hE.perm.length_eq
  have h := cut_same hD hE hf xs.length (Nat.le_refl _)
  have h1 : simL xs D = simL xs E := by unfold simL; rw [lD, lE, h]
  exact ⟨h1, by unfold simOk2; rw [h1, lD, lE, h]⟩

/-- Where what is taken off is no number, something that is left is none. -/
theorem cut_fin {xs E : List Nat} (hE : Desc xs E) (hf : allFin xs = true) (hn1 : 1 ≤ xs.length) (hn : xs.length ≤ 64) (h : simOk2 xs E = true) : fin32 (cutF E E.length).1 = true := by
  unfold simOk2 at h
  rw [Bool.and_eq_true] at h
  obtain ⟨h1, h2⟩ := h
  have hall : ∀ x, x ∈ xs → fin32 x = true := by unfold allFin at hf; rwa [List.all_eq_true] at hf
  have fE : allFin E = true := by unfold allFin; rw [List.all_eq_true]; exact fun x hx => hall x (hE.perm.mem_iff.1 hx)
  have lE : E.length = xs.length := hE.perm.length_eq
  have hnum := cutF_num fE (by omega) E.length (Nat.le_refl _)
  have hgt : ∀ k, k ≤ E.length → (cutF E k).2 = true → ∃ x, fin32 x = true ∧ gtF x (cutF E k).1 = true := by
    intro k
    induction k with
    | zero => intro _ h; simp [cutF] at h
    | succ k ih =>
      intro hk h
      simp only [cutF] at h ⊢
      split at h
      · rename_i hg
        rw [if_pos hg]
        exact ⟨E.getD k 0, allFin_get fE (by omega), hg⟩
      · rename_i hg
        rw [if_neg hg]
        exact ih (by omega) h
  obtain ⟨x, hx, hg⟩ := hgt _ (Nat.le_refl _) h1
  unfold simL at h2
  obtain ⟨less, hl⟩ : ∃ z, z = (cutF E E.length).1 := ⟨_, rfl⟩
  rw [← hl] at h2 hnum hg ⊢
  clear hl
  unfold fin32
  unfold Num at hnum
  cases hr : Ieee.single.read less with
  | number a b c => rfl
  | nan a b => rw [hr] at hnum; simp [Ieee.Datum.isNaN] at hnum
  | infinity q =>
    obtain ⟨s, m, e, k0, _⟩ := read32_parts hx
    cases q
    · unfold gtF Ieee.Format.order at hg
      rw [k0, hr] at hg
      simp [Ieee.Datum.order] at hg
    · have h3 := allFin_get h2 (i := 0) (by rw [outK_len _ _ _ (Nat.le_refl _)]; omega)
      have h4 : (outK xs less xs.length).getD 0 0 = lessV (xs.getD 0 0) less := by
        unfold outK
        rw [List.take_length]
        cases xs with
        | nil => simp at hn1
        | cons a r => rfl
      rw [h4] at h3
      obtain ⟨s', m', e', k1, _⟩ := read32_parts (allFin_get hf (i := 0) (by omega))
      have h5 : subV2 (xs.getD 0 0) less = 2139095040 := by
        unfold subV2 Ieee.Format.sub
        rw [k1, hr]
        rfl
      unfold lessV at h3
      rw [h5] at h3
      have h6 : ltF0 2139095040 = false := by decide +kernel
      rw [h6] at h3
      have h7 : fin32 2139095040 = false := by decide +kernel
      rw [if_neg (by simp), h7] at h3
      exact absurd h3 (by simp)

noncomputable def simOk (xs : List Nat) : Bool := shortB xs && simOk2 xs (sortD xs)
noncomputable def simR (xs : List Nat) : List Nat := if simOk xs = true then simL xs (sortD xs) else []
theorem simR_cnt (xs : List Nat) : cntF (simR xs) ≤ 1048576 := by
  unfold cntF simR
  split
  · rename_i h
    unfold simOk shortB at h
    simp only [Bool.and_eq_true, inB_iff] at h
    unfold simL
    rw [outK_len _ _ _ (Nat.le_refl _)]
    omega
  · simp

theorem toSimplexI_any (v : Value) (xs : List Nat) (w : World) (h : RdF w v xs) :
    Calls Try.prog 33 #[v] w fun e w' => ∃ u, e = .returned (.tuple #[u, .bool (simOk xs)]) ∧ OwnF w.heap.size w'.heap.size w' u (simR xs) ∧ Below w.heap.size w w' := by
  refine (simI_any v xs w h).mono ?_
  rintro e w' ⟨u, E, rfl, hE, ho, hb⟩
  have hE' := hE.out
  cases hs : shortB xs with
  | false =>
    have e1 : simOk xs = false := by unfold simOk; rw [hs]; rfl
    have e2 : simR xs = [] := by unfold simR; rw [e1]; rfl
    rw [hs] at ho
    exact ⟨u, by rw [e1]; rfl, by rw [e2]; exact ho, hb⟩
  | true =>
    have hf : allFin xs = true := by unfold shortB at hs; rw [Bool.and_eq_true] at hs; exact hs.2
    obtain ⟨h1, h2⟩ := sim_same (hE' hs) (sortD_desc xs) hf
    have e1 : simOk xs = simOk2 xs E := by unfold simOk; rw [hs, h2]; rfl
    have e2 : simR xs = if (true && simOk2 xs E) = true then simL xs E else [] := by unfold simR; rw [e1, h1]; simp
    rw [hs] at ho
    exact ⟨u, by rw [e1]; rfl, by rw [e2]; exact ho, hb⟩

end Go.Proofs.Ytfdaifmfecfchaa

namespace Go.Proofs.Ytfdaifmfecfchaa
open Go.RowKit Go.Sort

def InH (d : Int) : Prop := -8 ≤ d ∧ d ≤ 8
theorem tb_val {d : Int} (h0 : -64 ≤ d) (h1 : d ≤ 64) : fin32 (hF d) = true ∧ valI (hF d) = d * (2 ^ 148 : Nat) := by
  have h := List.all_eq_true.1 t_val d (mem_upto h0 (by omega))
  rw [Bool.and_eq_true, beq_iff_eq] at h
  exact h
theorem tb_add {s d : Int} (h0 : -64 ≤ s) (h1 : s ≤ 64) (hd : InH d) (h2 : -64 ≤ s + d) (h3 : s + d ≤ 64) : addW (hF s) (hF d) = hF (s + d) := by
  have h := List.all_eq_true.1 (List.all_eq_true.1 t_add s (mem_upto h0 (by omega))) d (mem_upto hd.1 (by have := hd.2; omega))
  rw [decide_eq_true h2, decide_eq_true h3] at h
  simpa using h
theorem tb_gt {s d : Int} {k : Nat} (h0 : -64 ≤ s) (h1 : s ≤ 64) (hk1 : 1 ≤ k) (hk : k ≤ 8) (hd : InH d) : gtF (hF d) (cutH s k) = decide (s - 2 < (k : Int) * d) := by
  have h := List.all_eq_true.1 (List.all_eq_true.1 (List.all_eq_true.1 t_gt s (mem_upto h0 (by omega))) (k - 1) (List.mem_range.2 (by omega))) d (mem_upto hd.1 (by have := hd.2; omega))
  rw [show k - 1 + 1 = k by omega] at h
  simpa using h
theorem tb_less {s d : Int} {k : Nat} (h0 : -64 ≤ s) (h1 : s ≤ 64) (hk1 : 1 ≤ k) (hk : k ≤ 8) (hd : InH d) (h : (k : Int) * d ≤ s - 2) : lessV (hF d) (cutH s k) = 0 := by
  have h := List.all_eq_true.1 (List.all_eq_true.1 (List.all_eq_true.1 t_less s (mem_upto h0 (by omega))) (k - 1) (List.mem_range.2 (by omega))) d (mem_upto hd.1 (by have := hd.2; omega))
  rw [show k - 1 + 1 = k by omega, decide_eq_false (by omega)] at h
  simpa using h

/-! ### the sorted list -/
def sumD : List Int → Nat → Int
  | _, 0 => 0
  | D, k + 1 => sumD D k + D.getD k 0
theorem getD_mem7 {D : List Int} {i : Nat} (h : i < D.length) : D.getD i 0 ∈ D := by
  rw [List.getD_eq_getElem?_getD, List.getElem?_eq_getElem h]
  exact List.getElem_mem h
theorem sumD_rng {D : List Int} (h : ∀ d ∈ D, InH d) : ∀ k, k ≤ D.length → -8 * (k : Int) ≤ sumD D k ∧ sumD D k ≤ 8 * k
  | 0, _ => by simp [sumD]
  | k + 1, hk => by
    have ih := sumD_rng h k (by omega)
    have h1 : InH (D.getD k 0) := h _ (getD_mem7 (by omega))
    have := h1.1
    have := h1.2
    simp only [sumD]
    push_cast
    omega
theorem map_getD7 (D : List Int) (i : Nat) (h : i < D.length) : (D.map hF).getD i 0 = hF (D.getD i 0) := by
  rw [List.getD_eq_getElem?_getD, List.getElem?_map, List.getD_eq_getElem?_getD, List.getElem?_eq_getElem h]
  rfl
theorem hF_zero : hF 0 = 0 := by decide +kernel
theorem tot_is {D : List Int} (h : ∀ d ∈ D, InH d) (hl : D.length ≤ 8) : ∀ k, k ≤ D.length → totV (D.map hF) k = hF (sumD D k)
  | 0, _ => hF_zero.symm
  | k + 1, hk => by
    have h1 := sumD_rng h k (by omega)
    have h2 := sumD_rng h (k + 1) hk
    simp only [sumD] at h2
    simp only [totV, sumD]
    rw [tot_is h hl k (by omega), map_getD7 D k (by omega), tb_add (by omega) (by omega) (h _ (getD_mem7 (by omega))) (by push_cast at h2; omega) (by push_cast at h2; omega)]
theorem cut_is {D : List Int} (h : ∀ d ∈ D, InH d) (hl : D.length ≤ 8) (k : Nat) (hk : k < D.length) : cutK (D.map hF) k = cutH (sumD D (k + 1)) (k + 1) := by
  unfold cutK cutH
  rw [tot_is h hl (k + 1) (by omega)]
/-- The first K leave something. -/
def condK (D : List Int) (K : Nat) : Prop := sumD D K - 2 < (K : Int) * D.getD (K - 1) 0
theorem cutF_is {D : List Int} (h : ∀ d ∈ D, InH d) (hl : D.length ≤ 8) : ∀ k, 1 ≤ k → k ≤ D.length → ∃ K, 1 ≤ K ∧ K ≤ k ∧ condK D K ∧ (∀ j, K < j → j ≤ k → ¬ condK D j) ∧ cutF (D.map hF) k = (cutH (sumD D K) K, true)
  | 0, h1, _ => by omega
  | k + 1, _, hk => by
    have hr := sumD_rng h (k + 1) hk
    have hg : gtF ((D.map hF).getD k 0) (cutK (D.map hF) k) = decide (sumD D (k + 1) - 2 < ((k + 1 : Nat) : Int) * D.getD k 0) := by
      rw [map_getD7 D k (by omega), cut_is h hl k (by omega), tb_gt (by omega) (by push_cast at hr; omega) (by omega) (by omega) (h _ (getD_mem7 (by omega)))]
    by_cases hc : condK D (k + 1)
    · refine ⟨k + 1, by omega, Nat.le_refl _, hc, fun j h1 h2 => by omega, ?_⟩
      unfold condK at hc
      rw [Nat.add_sub_cancel] at hc
      rw [decide_eq_true hc] at hg
      simp only [cutF]
      rw [if_pos hg, cut_is h hl k (by omega)]
    · have hc2 := hc
      unfold condK at hc2
      rw [Nat.add_sub_cancel] at hc2
      rw [decide_eq_false hc2] at hg
      by_cases hk0 : k = 0
      · subst hk0
        refine absurd ?_ hc
        unfold condK
        simp only [sumD]
        rw [show (0 + 1 - 1 : Nat) = 0 from rfl]
        push_cast
        omega
      · obtain ⟨K, h1, h2, h3, h4, h5⟩ := cutF_is h hl k (by omega) (by omega)
        refine ⟨K, h1, by omega, h3, fun j hj1 hj2 => ?_, ?_⟩
        · by_cases e : j = k + 1
          · rw [e]; exact hc
          · exact h4 j hj1 (by omega)
        · simp only [cutF]
          rw [if_neg (by rw [hg]; simp)]
          exact h5
/-- How a list in descending order looks whose first K leave something. -/
structure Shape (D : List Int) (K : Nat) (d : Int) (e : Nat) : Prop where
  k1 : 1 ≤ K
  kn : K ≤ D.length
  e1 : e ≤ 1
  ke : e + 1 ≤ K
  sum : sumD D K = K * d + e
  dh : InH d
  dh1 : e = 1 → d + 1 ≤ 8
  first : e = 1 → D.getD 0 0 = d + 1
  rest : ∀ i, e ≤ i → i < K → D.getD i 0 = d
  out : ∀ i, K ≤ i → i < D.length → (K : Int) * D.getD i 0 ≤ K * d + e - 2
theorem sum_low {D : List Int} {d : Int} : ∀ k, (∀ i, i < k → d ≤ D.getD i 0) → (k : Int) * d ≤ sumD D k
  | 0, _ => by simp [sumD]
  | k + 1, h => by
    have ih := sum_low k (fun i hi => h i (by omega))
    have := h k (by omega)
    simp only [sumD]
    push_cast
    rw [Int.add_mul]
    omega
theorem sum_one {D : List Int} {d : Int} : ∀ k, (∀ i, i < k → d ≤ D.getD i 0) → ∀ i, i < k → (k : Int) * d + (D.getD i 0 - d) ≤ sumD D k
  | 0, _, i, hi => by omega
  | k + 1, h, i, hi => by
    have hk := h k (by omega)
    simp only [sumD]
    push_cast
    rw [Int.add_mul]
    by_cases e : i = k
    · have := sum_low k (fun i hi => h i (by omega))
      rw [e]; omega
    · have := sum_one k (fun i hi => h i (by omega)) i (by omega)
      omega
theorem sum_two {D : List Int} {d : Int} : ∀ k, (∀ i, i < k → d ≤ D.getD i 0) → ∀ i j, i < j → j < k → (k : Int) * d + (D.getD i 0 - d) + (D.getD j 0 - d) ≤ sumD D k
  | 0, _, i, j, _, hj => by omega
  | k + 1, h, i, j, hij, hj => by
    have hk := h k (by omega)
    simp only [sumD]
    push_cast
    rw [Int.add_mul]
    by_cases e : j = k
    · have := sum_one k (fun i hi => h i (by omega)) i (by omega)
      rw [e]; omega
    · have := sum_two k (fun i hi => h i (by omega)) i j hij (by omega)
      omega
theorem sum_eq {D : List Int} {d : Int} : ∀ k, (∀ i, i < k → D.getD i 0 = d) → sumD D k = k * d
  | 0, _ => by simp [sumD]
  | k + 1, h => by
    simp only [sumD]
    rw [sum_eq k (fun i hi => h i (by omega)), h k (by omega)]
    push_cast
    rw [Int.add_mul]
    omega
theorem shape_is {D : List Int} (h : ∀ d ∈ D, InH d) (hs : ∀ i j, i ≤ j → j < D.length → D.getD j 0 ≤ D.getD i 0) {K : Nat} (h1 : 1 ≤ K) (hn : K ≤ D.length) (hc : condK D K) (ho : ∀ j, K < j → j ≤ D.length → ¬ condK D j) : ∃ d e, Shape D K d e := by
  obtain ⟨d, hd⟩ : ∃ d, d = D.getD (K - 1) 0 := ⟨_, rfl⟩
  have hlow : ∀ i, i < K → d ≤ D.getD i 0 := fun i hi => by rw [hd]; exact hs i (K - 1) (by omega) (by omega)
  unfold condK at hc
  rw [← hd] at hc
  have hin : InH d := by rw [hd]; exact h _ (getD_mem7 (by omega))
  have hout : ∀ s : Int, sumD D K = s → ∀ i, K ≤ i → i < D.length → (K : Int) * D.getD i 0 ≤ s - 2 := fun s hs2 i hi1 hi2 => by
    have h3 := ho (K + 1) (by omega) (by omega)
    unfold condK at h3
    rw [Nat.add_sub_cancel] at h3
    simp only [sumD] at h3
    rw [hs2] at h3
    push_cast at h3
    rw [Int.add_mul] at h3
    have h4 : (K : Int) * D.getD i 0 ≤ K * D.getD K 0 := Int.mul_le_mul_of_nonneg_left (hs K i hi1 hi2) (by omega)
    omega
  by_cases ha : ∀ i, i < K → D.getD i 0 = d
  · refine ⟨d, 0, h1, hn, by omega, by omega, by rw [sum_eq K ha]; simp, hin, fun e => by omega, fun e => by omega, fun i _ hi => ha i hi, fun i hi1 hi2 => ?_⟩
    have := hout _ (sum_eq K ha) i hi1 hi2
    simpa using this
  · have hex : ∃ i, i < K ∧ D.getD i 0 ≠ d := Classical.byContradiction fun hno => ha fun i hi => Classical.byContradiction fun hne => hno ⟨i, hi, hne⟩
    obtain ⟨i, hi, hne⟩ := hex
    have h0 : d < D.getD 0 0 := by
      have := hs 0 i (by omega) (by omega)
      have := hlow i hi
      omega
    have hK2 : 2 ≤ K := by
      refine Classical.byContradiction fun hk => ?_
      have : K = 1 := by omega
      subst this
      rw [hd] at h0
      exact absurd h0 (by simp)
    have hrest : ∀ j, 1 ≤ j → j < K → D.getD j 0 = d := fun j h2 h3 => by
      have := sum_two K hlow 0 j (by omega) h3
      have := hlow j h3
      omega
    have hfirst : D.getD 0 0 = d + 1 := by
      have := sum_one K hlow 0 (by omega)
      omega
    have hsum : sumD D K = K * d + 1 := by
      have h5 := sum_one K hlow 0 (by omega)
      omega
    refine ⟨d, 1, h1, hn, Nat.le_refl _, by omega, by rw [hsum]; simp, hin, fun _ => ?_, fun _ => hfirst, fun j h2 h3 => hrest j h2 h3, fun j h2 h3 => ?_⟩
    · have := h _ (getD_mem7 (D := D) (i := 0) (by omega))
      rw [hfirst] at this
      exact this.2
    · have := hout _ hsum j h2 h3
      simpa using this

end Go.Proofs.Ytfdaifmfecfchaa

namespace Go.Proofs.Ytfdaifmfecfchaa
open Go.RowKit Go.Sort

def invH (b : Nat) : Int := valI b / (2 ^ 148 : Nat)
theorem inv_hF {d : Int} (h : InH d) : invH (hF d) = d := by
  unfold invH
  rw [(tb_val (by have := h.1; omega) (by have := h.2; omega)).2]
  exact Int.mul_ediv_cancel _ (by decide)
theorem desc_map {ds : List Int} (h : ∀ d ∈ ds, InH d) {E : List Nat} (hE : Desc (ds.map hF) E) : ∃ D : List Int, D.Perm ds ∧ E = D.map hF ∧ ∀ i j, i ≤ j → j < D.length → D.getD j 0 ≤ D.getD i 0 := by
  have hp : (E.map invH).Perm ds := by
    have h1 := hE.perm.map invH
    rw [List.map_map] at h1
    have h2 : ds.map (invH ∘ hF) = ds := by
      have : ds.map (invH ∘ hF) = ds.map id := List.map_congr_left fun d hd => inv_hF (h d hd)
      rw [this, List.map_id]
    rw [h2] at h1
    exact h1
  have he : E = (E.map invH).map hF := by
    rw [List.map_map]
    have : E.map (hF ∘ invH) = E.map id := List.map_congr_left fun b hb => by
      obtain ⟨d, hd, rfl⟩ := List.mem_map.1 (hE.perm.mem_iff.1 hb)
      show hF (invH (hF d)) = hF d
      rw [inv_hF (h d hd)]
    rw [this, List.map_id]
  refine ⟨E.map invH, hp, he, fun i j hij hj => ?_⟩
  by_cases e : i = j
  · rw [e]; exact Int.le_refl _
  · rw [List.length_map] at hj
    have h3 := hE.down i j (by omega) hj
    have hd : ∀ k, k < E.length → InH ((E.map invH).getD k 0) ∧ valI (E.getD k 0) = (E.map invH).getD k 0 * (2 ^ 148 : Nat) := fun k hk => by
      have hm : (E.map invH).getD k 0 ∈ ds := hp.mem_iff.1 (getD_mem7 (by rw [List.length_map]; exact hk))
      have hin := h _ hm
      refine ⟨hin, ?_⟩
      have e2 : E.getD k 0 = hF ((E.map invH).getD k 0) := by
        rw [← map_getD7 _ _ (by rw [List.length_map]; exact hk), ← he]
      rw [e2, (tb_val (by have := hin.1; omega) (by have := hin.2; omega)).2]
    rw [(hd i (by omega)).2, (hd j hj).2] at h3
    exact Int.le_of_mul_le_mul_right h3 (by decide)
theorem Shape.parts {D : List Int} {K : Nat} {d : Int} {e : Nat} (h : Shape D K d e) : ∃ R, D = List.replicate e (d + 1) ++ List.replicate (K - e) d ++ R ∧ R.length = D.length - K ∧ ∀ r ∈ R, (K : Int) * r ≤ K * d + e - 2 := by
  have hk := h.kn
  have hke := h.ke
  have h1 := h.e1
  refine ⟨D.drop K, ?_, List.length_drop, fun r hr => ?_⟩
  · have e1 : D.take K = List.replicate e (d + 1) ++ List.replicate (K - e) d := by
      refine List.ext_getElem ?_ fun i hi1 hi2 => ?_
      · rw [List.length_take, List.length_append, List.length_replicate, List.length_replicate]
        omega
      · rw [List.length_take] at hi1
        have hg : D.getD i 0 = D[i]'(by omega) := by rw [List.getD_eq_getElem?_getD, List.getElem?_eq_getElem (by omega)]; rfl
        rw [List.getElem_take, ← hg]
        by_cases hie : i < e
        · have : i = 0 := by omega
          subst this
          rw [h.first (by omega), List.getElem_append_left (by rw [List.length_replicate]; exact hie), List.getElem_replicate]
        · rw [h.rest i (by omega) (by omega), List.getElem_append_right (by rw [List.length_replicate]; omega), List.getElem_replicate]
    rw [← e1, List.take_append_drop]
  · obtain ⟨i, hi, rfl⟩ := List.mem_iff_getElem.1 hr
    rw [List.length_drop] at hi
    have := h.out (K + i) (by omega) (by omega)
    rw [List.getD_eq_getElem?_getD, List.getElem?_eq_getElem (by omega)] at this
    rw [List.getElem_drop]
    exact this
theorem low_lt {K : Nat} {d r : Int} {e : Nat} (he : e ≤ 1) (h : (K : Int) * r ≤ K * d + e - 2) : r < d := by
  refine Classical.byContradiction fun hc => ?_
  have : (K : Int) * d ≤ K * r := Int.mul_le_mul_of_nonneg_left (by omega) (by omega)
  omega

/-- What becomes of the numbers. -/
def vV (d : Int) (K e : Nat) (x : Int) : Nat := lessV (hF x) (cutH (K * d + e) K)
def aE (d : Int) (K e : Nat) : Nat := if e = 0 then bV d K e else aV d K e
structure Sh2 (ds : List Int) (K : Nat) (d : Int) (e : Nat) : Prop where
  k1 : 1 ≤ K
  kn : K ≤ ds.length
  n8 : ds.length ≤ 8
  e1 : e ≤ 1
  ke : e + 1 ≤ K
  dh : InH d
  dh1 : e = 1 → d + 1 ≤ 8
  perm : ∃ R, (List.replicate e (d + 1) ++ List.replicate (K - e) d ++ R).Perm ds ∧ R.length = ds.length - K ∧ ∀ r ∈ R, (K : Int) * r ≤ K * d + e - 2
  ih : ∀ x ∈ ds, InH x
theorem Sh2.ok {ds : List Int} {K : Nat} {d : Int} {e : Nat} (h : Sh2 ds K d e) : okSim d K e ds.length = true := by
  have h1 := h.e1
  have := h.dh.1
  have := h.dh.2
  by_cases he : e = 0
  · subst he
    exact t_sim0 (by omega) (by omega) h.k1 h.kn h.n8
  · have : e = 1 := by omega
    subst this
    have := h.dh1 rfl
    exact t_sim1 (by omega) (by omega) h.ke h.kn h.n8
theorem kd_rng {K : Nat} {d : Int} {e : Nat} (hd : InH d) (hK : K ≤ 8) (he : e ≤ 1) (hd1 : e = 1 → d + 1 ≤ 8) (hke : e + 1 ≤ K) : -64 ≤ (K : Int) * d + e ∧ (K : Int) * d + e ≤ 64 := by
  have h1 : (K : Int) * d ≤ K * (8 - e) := Int.mul_le_mul_of_nonneg_left (by
    by_cases h : e = 1
    · have := hd1 h; omega
    · have := hd.2; omega) (by omega)
  have h2 : (K : Int) * (-8) ≤ K * d := Int.mul_le_mul_of_nonneg_left hd.1 (by omega)
  rw [Int.mul_sub] at h1
  have h3 : (e : Int) ≤ K * e := by
    have : (1 : Int) * e ≤ K * e := Int.mul_le_mul_of_nonneg_right (by omega) (by omega)
    omega
  omega
theorem Sh2.mapped {ds : List Int} {K : Nat} {d : Int} {e : Nat} (h : Sh2 ds K d e) : (e2L (aE d K e) (bV d K e) K e ds.length).Perm (ds.map (vV d K e)) := by
  obtain ⟨R, hp, hl, hr⟩ := h.perm
  refine List.Perm.trans (List.Perm.of_eq ?_) (hp.map (vV d K e))
  have hrng := kd_rng h.dh (Nat.le_trans h.kn h.n8) h.e1 h.dh1 h.ke
  rw [List.map_append, List.map_append, List.map_replicate, List.map_replicate]
  unfold e2L
  have h0 : R.map (vV d K e) = List.replicate (ds.length - K) 0 := by
    rw [List.eq_replicate_iff]
    refine ⟨by rw [List.length_map, hl], fun b hb => ?_⟩
    obtain ⟨r, hr2, rfl⟩ := List.mem_map.1 hb
    have hri : InH r := h.ih r (hp.mem_iff.1 (List.mem_append_right _ hr2))
    exact tb_less hrng.1 hrng.2 h.k1 (Nat.le_trans h.kn h.n8) hri (hr r hr2)
  have hb : bV d K e = vV d K e d := rfl
  rw [h0, hb]
  by_cases he : e = 0
  · subst he
    rw [List.replicate_zero, List.replicate_zero]
  · have : aE d K e = vV d K e (d + 1) := by unfold aE; rw [if_neg he]; rfl
    rw [this]
theorem Sh2.cases {ds : List Int} {K : Nat} {d : Int} {e : Nat} (h : Sh2 ds K d e) {x : Int} (hx : x ∈ ds) : (x = d + 1 ∧ e = 1 ∧ vV d K e x = aE d K e) ∨ (x = d ∧ vV d K e x = bV d K e) ∨ (x < d ∧ vV d K e x = 0) := by
  obtain ⟨R, hp, hl, hr⟩ := h.perm
  have hrng := kd_rng h.dh (Nat.le_trans h.kn h.n8) h.e1 h.dh1 h.ke
  have h1 := h.e1
  rcases List.mem_append.1 (hp.mem_iff.2 hx) with h2 | h2
  · rcases List.mem_append.1 h2 with h3 | h3
    · obtain ⟨h4, h5⟩ := List.mem_replicate.1 h3
      exact .inl ⟨h5, by omega, by unfold aE; rw [if_neg h4, h5]; rfl⟩
    · obtain ⟨h4, h5⟩ := List.mem_replicate.1 h3
      exact .inr (.inl ⟨h5, by rw [h5]; rfl⟩)
  · exact .inr (.inr ⟨low_lt h1 (hr x h2), tb_less hrng.1 hrng.2 h.k1 (Nat.le_trans h.kn h.n8) (h.ih x hx) (hr x h2)⟩)
/-- How many of the first ones are among the greatest. -/
def cntA (ds : List Int) (d : Int) (e i : Nat) : Nat := if e = 1 then (ds.take i).count (d + 1) else 0
def cntQ (ds : List Int) (d : Int) (i : Nat) : Nat := (ds.take i).count d
theorem take_snoc7 {ds : List Int} {i : Nat} (h : i < ds.length) : ds.take (i + 1) = ds.take i ++ [ds.getD i 0] := by
  rw [List.take_add_one, List.getElem?_eq_getElem h, List.getD_eq_getElem?_getD, List.getElem?_eq_getElem h]
  rfl
theorem Sh2.count {ds : List Int} {K : Nat} {d : Int} {e : Nat} (h : Sh2 ds K d e) : ds.count d = K - e ∧ (e = 1 → ds.count (d + 1) = e) := by
  obtain ⟨R, hp, hl, hr⟩ := h.perm
  have h1 := h.e1
  have hR : ∀ y, d ≤ y → R.count y = 0 := fun y hy => List.count_eq_zero.2 fun hm => by have := low_lt h1 (hr y hm); omega
  have e1 : ((d + 1) == d) = false := by rw [beq_eq_false_iff_ne]; omega
  have e2 : (d == (d + 1)) = false := by rw [beq_eq_false_iff_ne]; omega
  refine ⟨?_, fun he => ?_⟩
  · rw [← hp.count_eq, List.count_append, List.count_append, List.count_replicate, List.count_replicate, hR d (Int.le_refl _), e1]
    simp
  · rw [← hp.count_eq, List.count_append, List.count_append, List.count_replicate, List.count_replicate, hR (d + 1) (by omega), e2]
    simp
theorem Sh2.sums {ds : List Int} {K : Nat} {d : Int} {e : Nat} (h : Sh2 ds K d e) (hs : okSum (aE d K e) (bV d K e) K e = true) : ∃ S : Nat → Nat, S 0 = 0 ∧ (∀ i, i < ds.length → Ieee.double.add (S i) (c64 (vV d K e (ds.getD i 0))) = some (S (i + 1))) ∧ underB (S ds.length) one64 t001 = true := by
  obtain ⟨c1, c2⟩ := h.count
  have h1 := h.e1
  unfold okSum at hs
  simp only [Bool.and_eq_true] at hs
  obtain ⟨⟨⟨_, _⟩, hst⟩, hfin⟩ := hs
  have hstep : ∀ a j, a ≤ e → j ≤ K - e → Ieee.double.add (smV (aE d K e) (bV d K e) a j) (c64 0) = some (smV (aE d K e) (bV d K e) a j) ∧
      (j < K - e → Ieee.double.add (smV (aE d K e) (bV d K e) a j) (c64 (bV d K e)) = some (smV (aE d K e) (bV d K e) a (j + 1))) ∧
      (a < e → Ieee.double.add (smV (aE d K e) (bV d K e) a j) (c64 (aE d K e)) = some (smV (aE d K e) (bV d K e) (a + 1) j)) := fun a j ha hj => by
    have h2 := List.all_eq_true.1 (List.all_eq_true.1 hst a (List.mem_range.2 (by omega))) j (List.mem_range.2 (by omega))
    simp only [Bool.and_eq_true, Bool.or_eq_true, beq_iff_eq, decide_eq_true_eq] at h2
    exact ⟨h2.1.1, fun hl => h2.1.2.resolve_left (by omega), fun hl => h2.2.resolve_left (by omega)⟩
  have hB : ∀ i, i ≤ ds.length → cntQ ds d i ≤ K - e := fun i _ => by
    rw [← c1]
    exact (List.take_sublist i ds).count_le d
  have hA : ∀ i, i ≤ ds.length → cntA ds d e i ≤ e := fun i _ => by
    unfold cntA
    split
    · rename_i he
      have := (List.take_sublist i ds).count_le (d + 1)
      rw [c2 he] at this
      exact this
    · omega
  refine ⟨fun i => smV (aE d K e) (bV d K e) (cntA ds d e i) (cntQ ds d i), ?_, fun i hi => ?_, ?_⟩
  · simp [cntA, cntQ, smV]
  · have hx := h.cases (getD_mem7 hi)
    have t1 := take_snoc7 hi
    have b1 := hB i (by omega)
    have b2 := hB (i + 1) (by omega)
    have a1 := hA i (by omega)
    have a2 := hA (i + 1) (by omega)
    obtain ⟨s0, s1, s2⟩ := hstep _ _ a1 b1
    have dB : cntQ ds d (i + 1) = cntQ ds d i + if ds.getD i 0 = d then 1 else 0 := by
      unfold cntQ
      rw [t1, List.count_append, List.count_singleton]
      simp [beq_iff_eq]
    have dA : cntA ds d e (i + 1) = cntA ds d e i + if e = 1 ∧ ds.getD i 0 = d + 1 then 1 else 0 := by
      unfold cntA
      by_cases he : e = 1
      · rw [if_pos he, if_pos he, t1, List.count_append, List.count_singleton]
        simp [beq_iff_eq, he]
      · rw [if_neg he, if_neg he, if_neg (fun h => he h.1)]
    rcases hx with ⟨e1, e2, e3⟩ | ⟨e1, e3⟩ | ⟨e1, e3⟩
    · rw [e1, if_neg (by omega)] at dB
      rw [if_pos ⟨e2, e1⟩] at dA
      rw [e3]
      show _ = some (smV _ _ (cntA ds d e (i + 1)) (cntQ ds d (i + 1)))
      rw [dA, dB, Nat.add_zero]
      exact s2 (by omega)
    · rw [if_pos e1] at dB
      rw [if_neg (by omega)] at dA
      rw [e3]
      show _ = some (smV _ _ (cntA ds d e (i + 1)) (cntQ ds d (i + 1)))
      rw [dA, dB, Nat.add_zero]
      exact s1 (by omega)
    · rw [if_neg (by omega)] at dB
      rw [if_neg (by omega)] at dA
      rw [e3]
      show _ = some (smV _ _ (cntA ds d e (i + 1)) (cntQ ds d (i + 1)))
      rw [dA, dB, Nat.add_zero, Nat.add_zero]
      exact s0
  · have e1 : cntQ ds d ds.length = K - e := by unfold cntQ; rw [List.take_of_length_le (Nat.le_refl _), c1]
    have e2 : cntA ds d e ds.length = e := by
      unfold cntA
      split
      · rename_i he
        rw [List.take_of_length_le (Nat.le_refl _), c2 he]
      · omega
    show underB (smV _ _ (cntA ds d e ds.length) (cntQ ds d ds.length)) one64 t001 = true
    rw [e1, e2]
    exact hfin

/-- What the law asks of the list brought to the sum 1. -/
theorem sim_law {ds : List Int} (hin : ∀ d ∈ ds, InH d) (h1 : 1 ≤ ds.length) (h8 : ds.length ≤ 8) {E : List Nat} (hE : Desc (ds.map hF) E) :
    ∃ V : Int → Nat, simL (ds.map hF) E = ds.map V ∧ simOk2 (ds.map hF) E = true ∧ allFin (ds.map V) = true ∧
      (∀ E2, Desc (ds.map V) E2 → ∃ L, simL (ds.map V) E2 = ds.map (fun d => lessV (V d) L) ∧ simOk2 (ds.map V) E2 = true ∧
        ∀ d ∈ ds, is64 (V d) = true ∧ ltF0 (V d) = false ∧ is64 (lessV (V d) L) = true ∧ tinyB (c64 (lessV (V d) L)) (c64 (V d)) t001 = true) ∧
      ∃ S : Nat → Nat, S 0 = 0 ∧ (∀ i, i < ds.length → Ieee.double.add (S i) (c64 (V (ds.getD i 0))) = some (S (i + 1))) ∧ underB (S ds.length) one64 t001 = true := by
  obtain ⟨D, hp, rfl, hdn⟩ := desc_map hin hE
  have hDl : D.length = ds.length := hp.length_eq
  have hDi : ∀ d ∈ D, InH d := fun d hd => hin d (hp.mem_iff.1 hd)
  obtain ⟨K, k1, k2, k3, k4, k5⟩ := cutF_is hDi (by omega) D.length (by omega) (Nat.le_refl _)
  obtain ⟨d, e, hsh⟩ := shape_is hDi hdn k1 k2 k3 k4
  obtain ⟨R, r1, r2, r3⟩ := hsh.parts
  have h2 : Sh2 ds K d e := ⟨hsh.k1, by have := hsh.kn; omega, h8, hsh.e1, hsh.ke, hsh.dh, hsh.dh1, ⟨R, by rw [← r1]; exact hp, by rw [r2, hDl], r3⟩, hin⟩
  have hok := h2.ok
  unfold okSim at hok
  simp only [Bool.and_eq_true, decide_eq_true_eq, Bool.not_eq_true'] at hok
  have hAE : (if e = 0 then bV d K e else aV d K e) = aE d K e := rfl
  rw [hAE] at hok
  obtain ⟨⟨⟨⟨⟨⟨⟨o1, o2⟩, o3⟩, o4⟩, o5⟩, o6⟩, o7⟩, o8⟩ := hok
  have hcut : (cutF (D.map hF) (D.map hF).length).1 = cutH (K * d + e) K := by rw [List.length_map, k5, hsh.sum]
  have hsim : simL (ds.map hF) (D.map hF) = ds.map (vV d K e) := by
    unfold simL outK
    rw [hcut, List.take_of_length_le (Nat.le_refl _), List.map_map]
    rfl
  have hfv : allFin (ds.map (vV d K e)) = true := by
    unfold allFin
    rw [List.all_eq_true]
    intro b hb
    obtain ⟨x, hx, rfl⟩ := List.mem_map.1 hb
    rcases h2.cases hx with ⟨_, _, e3⟩ | ⟨_, e3⟩ | ⟨_, e3⟩
    · rw [e3]; exact o1
    · rw [e3]; exact o2
    · rw [e3]; exact fin0
  have hso : okSum (aE d K e) (bV d K e) K e = true := o7
  refine ⟨vV d K e, hsim, ?_, hfv, fun E2 hE2 => ?_, h2.sums hso⟩
  · unfold simOk2
    rw [hsim, hfv, List.length_map, k5]
    rfl
  · have hperm := h2.mapped
    have hlen : (e2L (aE d K e) (bV d K e) K e ds.length).length = ds.length := by rw [hperm.length_eq, List.length_map]
    have hdesc : Desc (ds.map (vV d K e)) (e2L (aE d K e) (bV d K e) K e ds.length) := by
      refine ⟨hperm, fun i j hij hj => ?_⟩
      rw [hlen] at hj
      have hke := h2.ke
      have hkn := h2.kn
      have hval : ∀ q, q < ds.length → (e2L (aE d K e) (bV d K e) K e ds.length).getD q 0 = if q < e then aE d K e else if q < K then bV d K e else 0 := fun q hq => by
        unfold e2L
        rw [List.getD_eq_getElem?_getD]
        by_cases q1 : q < e
        · rw [if_pos q1, List.getElem?_append_left (by rw [List.length_append, List.length_replicate, List.length_replicate]; omega), List.getElem?_append_left (by rw [List.length_replicate]; exact q1), List.getElem?_replicate, if_pos q1]
          rfl
        · rw [if_neg q1]
          by_cases q2 : q < K
          · rw [if_pos q2, List.getElem?_append_left (by rw [List.length_append, List.length_replicate, List.length_replicate]; omega), List.getElem?_append_right (by rw [List.length_replicate]; omega), List.getElem?_replicate, List.length_replicate, if_pos (by omega)]
            rfl
          · rw [if_neg q2, List.getElem?_append_right (by rw [List.length_append, List.length_replicate, List.length_replicate]; omega), List.getElem?_replicate]
            split <;> rfl
      have hz : valI 0 = 0 := by decide +kernel
      rw [hval i (by omega), hval j hj]
      split <;> split <;> (try split) <;> (try split) <;> (try rw [hz]) <;> omega
    obtain ⟨s1, s2⟩ := sim_same hE2 hdesc hfv
    unfold okAgain at o8
    simp only [Bool.and_eq_true] at o8
    obtain ⟨o9, o10⟩ := o8
    obtain ⟨L, hL⟩ : ∃ L, L = (cutF (e2L (aE d K e) (bV d K e) K e ds.length) ds.length).1 := ⟨_, rfl⟩
    rw [← hL] at o10
    have hall : ∀ v ∈ [aE d K e, bV d K e, 0], fin32 (lessV v L) = true ∧ is64 (lessV v L) = true ∧ tinyB (c64 (lessV v L)) (c64 v) t001 = true := fun v hv => by
      have := List.all_eq_true.1 o10 v hv
      simp only [Bool.and_eq_true] at this
      exact ⟨this.1.1, this.1.2, this.2⟩
    have hv3 : ∀ x ∈ ds, vV d K e x ∈ [aE d K e, bV d K e, 0] := fun x hx => by
      rcases h2.cases hx with ⟨_, _, e3⟩ | ⟨_, e3⟩ | ⟨_, e3⟩ <;> rw [e3] <;> simp
    have hsl : simL (ds.map (vV d K e)) (e2L (aE d K e) (bV d K e) K e ds.length) = ds.map (fun x => lessV (vV d K e x) L) := by
      unfold simL outK
      rw [hlen, ← hL, List.take_of_length_le (Nat.le_refl _), List.map_map]
      rfl
    have h64 : is64 (aE d K e) = true ∧ is64 (bV d K e) = true := by
      unfold okSum at hso
      simp only [Bool.and_eq_true] at hso
      exact ⟨hso.1.1.1, hso.1.1.2⟩
    refine ⟨L, by rw [s1, hsl], ?_, fun x hx => ?_⟩
    · rw [s2]
      unfold simOk2
      rw [hsl, hlen, o9, Bool.true_and]
      unfold allFin
      rw [List.all_eq_true]
      intro b hb
      obtain ⟨x, hx, rfl⟩ := List.mem_map.1 hb
      exact (hall _ (hv3 x hx)).1
    · obtain ⟨_, a2, a3⟩ := hall _ (hv3 x hx)
      refine ⟨?_, ?_, a2, a3⟩
      · rcases h2.cases hx with ⟨_, _, e3⟩ | ⟨_, e3⟩ | ⟨_, e3⟩ <;> rw [e3]
        · exact h64.1
        · exact h64.2
        · exact z64.1
      · rcases h2.cases hx with ⟨_, _, e3⟩ | ⟨_, e3⟩ | ⟨_, e3⟩ <;> rw [e3]
        · exact o5
        · exact o6
        · exact z64.2

end Go.Proofs.Ytfdaifmfecfchaa
