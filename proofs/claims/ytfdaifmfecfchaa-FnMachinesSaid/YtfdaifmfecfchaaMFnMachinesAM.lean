/-
  FnMachines: texts joined: McC, McJ, Bytes, Pop, Dom, Rising, DomO, TightM, Digits.
-/
import Derived.ProofKit
import Derived.OpenShut
import Derived.Laws.BitsAllLaws
import Derived.Deep.Cut
import Derived.Test.YtfdaifmfecfchaaMFnMachinesAB
import Derived.Test.YtfdaifmfecfchaaMFnMachinesAD
import Derived.Test.YtfdaifmfecfchaaMFnMachinesAE
import Derived.Test.YtfdaifmfecfchaaMFnMachinesAF
import Derived.Test.YtfdaifmfecfchaaMFnMachinesAG
import Derived.Test.YtfdaifmfecfchaaMFnMachinesAL
namespace Go.Proofs.Ytfdaifmfecfchaa
open Go.RowKit Go.Sort

theorem minK_least (l : List Int) : ∀ k i, i < k → l.getD (minK l k) 0 ≤ l.getD i 0
  | 0, i, h => by omega
  | k + 1, i, h => by
    have hd : minK l (k + 1) = if l.getD k 0 < l.getD (minK l k) 0 then k else minK l k := rfl
    rw [hd]
    by_cases e : i = k
    · subst e
      split <;> omega
    · have ih := minK_least l k i (by omega)
      split <;> omega
theorem sR_list (g : Nat → Int) (L : List Nat) : ∀ k, k ≤ L.length → sR (fun j => g (L.getD j 0)) k = sumF g (L.take k)
  | 0, _ => rfl
  | k + 1, hk => by
    rw [take_snoc (show k < L.length by omega), sumF_app, ← sR_list g L k (by omega)]
    simp [sR, sumF]
theorem sR_range (g : Nat → Int) : ∀ n, sR g n = sumF g (List.range n)
  | 0 => rfl
  | n + 1 => by rw [sumF_range_succ, ← sR_range g n]; rfl
theorem sR_perm {L : List Nat} {n : Nat} (hp : L.Perm (List.range n)) (g : Nat → Int) : sR (fun j => g (L.getD j 0)) n = sR g n := by
  have hl : L.length = n := by rw [hp.length_eq, List.length_range]
  rw [sR_list g L n (by omega), List.take_of_length_le (by omega), sumF_perm g hp, ← sR_range]
theorem Within.perm {e : Nat → Int} {n m : Nat} {B : Nat → Nat} {T : Int} {L : List Nat} (hp : L.Perm (List.range n)) (h : Within e n m B T) : Within (fun k => e (L.getD k 0)) n m (fun k => B (L.getD k 0)) T := by
  have hl : L.length = n := by rw [hp.length_eq, List.length_range]
  refine ⟨fun k hk => h.lt _ (List.mem_range.1 (hp.mem_iff.1 (getD_in (by omega)))), fun i hi => ?_⟩
  rw [sR_perm hp (fun x => if B x = i then e x else 0)]
  exact h.le i hi

/-! ### the program's list as such a plan -/
theorem listK_sch (js : List JobD) {L : List Nat} (hp : L.Perm (List.range js.length)) {m : Nat} (hm : 1 ≤ m) :
    Lsch (fun k => longK js (L.getD k 0)) js.length m (fun k i => (listK js (idxs L) m k).2.getD i 0) (fun k => minK (listK js (idxs L) m k).2 m) := by
  refine ⟨fun i hi => ?_, fun k i hk hi => ?_, fun k _ => minK_le _ m m (by omega) (Nat.le_refl _), fun k i _ hi => minK_least _ m i hi⟩
  · show (List.replicate m (0 : Int)).getD i 0 = 0
    rw [List.getD_eq_getElem?_getD, List.getElem?_replicate]
    split <;> rfl
  · have hl := (listK_len js (idxs L) m k).2
    simp only [listK]
    rw [set_getD (by rw [hl]; exact minK_le _ m m (by omega) (Nat.le_refl _)), idxs_getD]
    unfold longK
    by_cases e : minK (listK js (idxs L) m k).2 m = i
    · rw [if_pos e, if_pos e, e]
    · rw [if_neg e, if_neg e]; omega
theorem listK_out (js : List JobD) {L : List Nat} (hp : L.Perm (List.range js.length)) (m : Nat) : ∀ j k, k < j → j ≤ js.length → (listK js (idxs L) m j).1.getD (L.getD k 0) 0 = (minK (listK js (idxs L) m k).2 m : Nat)
  | 0, k, h, _ => by omega
  | j + 1, k, h, hj => by
    have hl : L.length = js.length := by rw [hp.length_eq, List.length_range]
    have hlt := List.mem_range.1 (hp.mem_iff.1 (getD_in (show j < L.length by omega)))
    simp only [listK]
    rw [set_getD (by rw [(listK_len js (idxs L) m j).1, idxs_getD]; exact hlt), idxs_getD]
    by_cases e : k = j
    · subst e; rw [if_pos rfl]
    · rw [if_neg ?_]
      · exact listK_out js hp m j k (by omega) (by omega)
      · intro e2
        have hn : L.Nodup := hp.nodup_iff.2 List.nodup_range
        have h1 := (List.pairwise_iff_getElem.1 hn) k j (by omega) (by omega) (by omega)
        rw [List.getD_eq_getElem?_getD, List.getD_eq_getElem?_getD, List.getElem?_eq_getElem (by omega), List.getElem?_eq_getElem (by omega)] at e2
        exact h1 e2.symm
/-- What the jobs of a plan that is told give to a machine. -/
def giveK (js : List JobD) (O : List Int) (i : Nat) (n : Nat) : Int := sR (fun k => if O.getD k 0 = (i : Int) then longK js k else 0) n
theorem listO_give (js : List JobD) {L : List Nat} (hp : L.Perm (List.range js.length)) {m : Nat} (hm : 1 ≤ m) (i : Nat) (hi : i < m) :
    giveK js (listO js (idxs L) m) i js.length = (listK js (idxs L) m js.length).2.getD i 0 := by
  have hl : L.length = js.length := by rw [hp.length_eq, List.length_range]
  rw [(listK_sch js hp hm).is js.length i (Nat.le_refl _) hi]
  unfold giveK
  rw [← sR_perm hp]
  refine sR_congr fun k hk => ?_
  have : (listO js (idxs L) m).getD (L.getD k 0) 0 = (minK (listK js (idxs L) m k).2 m : Nat) := by
    unfold listO
    rw [idxs_len, hl]
    exact listK_out js hp m _ k hk (Nat.le_refl _)
  simp only [this]
  by_cases e : minK (listK js (idxs L) m k).2 m = i
  · rw [if_pos (by rw [e]), if_pos e]
  · rw [if_neg (by omega), if_neg e]
theorem listO_lt (js : List JobD) {L : List Nat} (hp : L.Perm (List.range js.length)) {m : Nat} (hm : 1 ≤ m) {x : Nat} (hx : x < js.length) : 0 ≤ (listO js (idxs L) m).getD x 0 ∧ (listO js (idxs L) m).getD x 0 < m := by
  have hl : L.length = js.length := by rw [hp.length_eq, List.length_range]
  obtain ⟨k, hk, e⟩ := in_getD (hp.mem_iff.2 (List.mem_range.2 hx))
  have : (listO js (idxs L) m).getD x 0 = (minK (listK js (idxs L) m k).2 m : Nat) := by
    unfold listO
    rw [idxs_len, hl, ← e]
    exact listK_out js hp m _ k (by omega) (Nat.le_refl _)
  rw [this]
  have := minK_le (listK js (idxs L) m k).2 m m (by omega) (Nat.le_refl _)
  omega
theorem listO_len (js : List JobD) (os : List Int) (m : Nat) : (listO js os m).length = js.length := (listK_len js os m _).1
/-- The greatest one of what machines have, and 0. -/
def mostG (js : List JobD) (O : List Int) (n : Nat) : Nat → Int
  | 0 => 0
  | s + 1 => max (mostG js O n s) (giveK js O s n)
theorem mostG_ge (js : List JobD) (O : List Int) (n : Nat) : ∀ s i, i < s → giveK js O i n ≤ mostG js O n s
  | 0, i, h => by omega
  | s + 1, i, h => by
    simp only [mostG]
    by_cases e : i = s
    · rw [e]; omega
    · have := mostG_ge js O n s i (by omega); omega
theorem mostG_le {js : List JobD} {O : List Int} {n : Nat} {M : Int} (h0 : 0 ≤ M) : ∀ s, (∀ i, i < s → giveK js O i n ≤ M) → mostG js O n s ≤ M
  | 0, _ => h0
  | s + 1, h => by
    simp only [mostG]
    have := mostG_le h0 s (fun i hi => h i (by omega))
    have := h s (by omega)
    omega
theorem listE_most (js : List JobD) (hl0 : ∀ k, 0 ≤ longK js k) {L : List Nat} (hp : L.Perm (List.range js.length)) {m : Nat} (hm : 1 ≤ m) : mostG js (listO js (idxs L) m) js.length m = listE js (idxs L) m := by
  have hl : L.length = js.length := by rw [hp.length_eq, List.length_range]
  have hlen := (listK_len js (idxs L) m js.length).2
  have hg := listO_give js hp hm
  unfold listE
  rw [idxs_len, hl]
  have a : mostG js (listO js (idxs L) m) js.length m ≤ maxL (listK js (idxs L) m js.length).2 := by
    refine mostG_le ?_ m fun i hi => ?_
    · have h1 := maxL_ge (l := (listK js (idxs L) m js.length).2) (i := 0) (by omega)
      have h2 := (listK_sch js hp hm).nonneg (fun k => hl0 _) js.length 0 (Nat.le_refl _) (by omega)
      omega
    · rw [hg i hi]
      exact maxL_ge (by omega)
  have b : maxL (listK js (idxs L) m js.length).2 ≤ mostG js (listO js (idxs L) m) js.length m := maxL_le (by omega) fun i hi => by
    rw [← hg i (by omega)]
    exact mostG_ge js _ _ m i (by omega)
  omega

theorem longC_le {js : List JobD} {x y : Nat} (hx : x < js.length) (hy : y < js.length) (h : ¬ longC js y x < 0) : longK js y ≤ longK js x := by
  unfold longC cmpI longJ at h
  rw [Nat.mod_eq_of_lt hx, Nat.mod_eq_of_lt hy] at h
  unfold longK
  refine Classical.byContradiction fun hc => h ?_
  rw [if_pos (by omega)]
  decide
/-- What the law asks of plans on machines. -/
theorem mach_law {js : List JobD} (hj : areJobsB js = true) {m : Nat} (hm : 1 ≤ m) (hm8 : m ≤ 8) (hn : js.length ≤ 9) :
    lsN js m ≤ lfE js m ∧ lsN js m ≤ lpE js m ∧ lpE js m * m ≤ (2 * m - 1) * lsN js m ∧ lfE js m * 3 * m ≤ (4 * m - 1) * lsN js m ∧
    sR (longK js) js.length ≤ lsN js m * m ∧ (∀ k, k < js.length → longK js k ≤ lsN js m) ∧
    (∀ x, x < js.length → 0 ≤ (lpO js m).getD x 0 ∧ (lpO js m).getD x 0 < m) ∧ (∀ x, x < js.length → 0 ≤ (lfO js m).getD x 0 ∧ (lfO js m).getD x 0 < m) ∧
    mostG js (lpO js m) js.length m = lpE js m ∧ mostG js (lfO js m) js.length m = lfE js m ∧ (lpO js m).length = js.length ∧ (lfO js m).length = js.length := by
  obtain ⟨h1, h2, h3⟩ := jobs_all hj
  have hmb : machB js m = true := by unfold machB; rw [hj, inB_true (by omega)]; rfl
  have hlsb : lsB js m = true := by unfold lsB; rw [hmb, decide_eq_true hn]; rfl
  have eLP : lpE js m = listE js (idxs (List.range js.length)) m := by unfold lpE; rw [if_pos hmb]; rfl
  have eLF : lfE js m = listE js (idxs (ordC (longC js) js.length)) m := by unfold lfE; rw [if_pos hmb]; rfl
  have oLP : lpO js m = listO js (idxs (List.range js.length)) m := by unfold lpO; rw [if_pos hmb]; rfl
  have oLF : lfO js m = listO js (idxs (ordC (longC js) js.length)) m := by unfold lfO; rw [if_pos hmb]; rfl
  have eS : lsN js m = spanR js js.length (List.replicate m 0) := by unfold lsN; rw [if_pos hlsb]; rfl
  have pR : (List.range js.length).Perm (List.range js.length) := List.Perm.refl _
  have pF := ordC_perm (swo_long js) js.length
  have hl1 : ∀ k, k < js.length → 1 ≤ longK js k := fun k hk => (h3 k hk).1.1
  have hl0 : ∀ k, 0 ≤ longK js k := fun k => (jobs_any hj k).1.1
  have hz : ∀ i, (List.replicate m (0 : Int)).getD i 0 = 0 := fun i => by
    rw [List.getD_eq_getElem?_getD, List.getElem?_replicate]
    split <;> rfl
  have hlen : (List.replicate m (0 : Int)).length = m := List.length_replicate ..
  have hT0 : 0 ≤ lsN js m := by
    rw [eS]
    exact spanR_low hl0 _ _ (by omega) fun i _ => by rw [hz]; exact Int.le_refl _
  -- the least end is that of a plan
  obtain ⟨B, hB1, hB2⟩ := spanR_is hl1 hl0 js.length (List.replicate m 0) (Nat.le_refl _) (by omega) (fun i _ => by rw [hz]; exact Int.le_refl _)
  have hW : Within (longK js) js.length m B (lsN js m) := by
    refine ⟨fun k _ => by have := hB1 k; omega, fun i hi => ?_⟩
    have := hB2 i (by omega)
    rw [hz, ← eS] at this
    have h4 := tS_sum js B i js.length (Nat.le_refl _)
    rw [Nat.sub_self] at h4
    simp only [sR] at h4
    show sR (fun k => if B k = i then (js.getD k J0).long else 0) js.length ≤ _
    omega
  -- it is none later than that of any list's plan
  have hle : ∀ L : List Nat, L.Perm (List.range js.length) → lsN js m ≤ listE js (idxs L) m := fun L hp => by
    have hg := listO_give js hp hm
    rw [← listE_most js hl0 hp hm, eS]
    refine spanR_le hl1 hl0 js.length (List.replicate m 0) (Nat.le_refl _) (by omega) (fun i _ => by rw [hz]; exact Int.le_refl _) (fun i j _ _ _ => hz j) (fun k => ((listO js (idxs L) m).getD k 0).toNat) _ (fun k hk => ?_) fun i hi => ?_
    · have := listO_lt js hp hm hk
      omega
    · have h4 := tS_sum js (fun k => ((listO js (idxs L) m).getD k 0).toNat) i js.length (Nat.le_refl _)
      rw [Nat.sub_self] at h4
      simp only [sR] at h4
      have h5 := mostG_ge js (listO js (idxs L) m) js.length m i (by omega)
      have h6 : giveK js (listO js (idxs L) m) i js.length = sR (fun k => if ((listO js (idxs L) m).getD k 0).toNat = i then (js.getD k J0).long else 0) js.length := sR_congr fun k hk => by
        have := listO_lt js hp hm hk
        by_cases e : ((listO js (idxs L) m).getD k 0).toNat = i
        · rw [if_pos e, if_pos (by omega)]; rfl
        · rw [if_neg e, if_neg (by omega)]
      rw [hz]
      omega
  have hgr : ∀ L : List Nat, L.Perm (List.range js.length) → listE js (idxs L) m * m ≤ (2 * m - 1) * lsN js m := fun L hp => by
    have hl : L.length = js.length := by rw [hp.length_eq, List.length_range]
    have h4 := (listK_sch js hp hm).graham (fun k => hl0 _) hm hT0 (hW.perm hp)
    have h5 := (listK_len js (idxs L) m js.length).2
    unfold listE
    rw [idxs_len, hl]
    have : ∃ i, i < m ∧ maxL (listK js (idxs L) m js.length).2 = (listK js (idxs L) m js.length).2.getD i 0 := by
      refine Classical.byContradiction fun hc => ?_
      have h6 : maxL (listK js (idxs L) m js.length).2 ≤ maxL (listK js (idxs L) m js.length).2 - 1 := maxL_le (by omega) fun i hi => by
        have h7 := maxL_ge hi
        have : maxL (listK js (idxs L) m js.length).2 ≠ (listK js (idxs L) m js.length).2.getD i 0 := fun e => hc ⟨i, by omega, e⟩
        omega
      omega
    obtain ⟨i, hi, e⟩ := this
    rw [e]
    exact h4 i hi
  have hlo : listE js (idxs (ordC (longC js) js.length)) m * 3 * m ≤ (4 * m - 1) * lsN js m := by
    have hl : (ordC (longC js) js.length).length = js.length := by rw [pF.length_eq, List.length_range]
    have hmem : ∀ k, k < js.length → (ordC (longC js) js.length).getD k 0 < js.length := fun k hk => List.mem_range.1 (pF.mem_iff.1 (getD_in (by omega)))
    have hst := ordC_sorted (swo_long js) js.length
    have h4 := (listK_sch js pF hm).long (fun k hk => hl1 _ (hmem k hk)) (fun k => hl0 _) (fun j k hjk hk => by
      by_cases e : j = k
      · rw [e]; exact Int.le_refl _
      · have h5 := (List.pairwise_iff_getElem.1 hst) j k (by omega) (by omega) (by omega)
        have g1 : (ordC (longC js) js.length).getD j 0 = (ordC (longC js) js.length)[j]'(by omega) := by rw [List.getD_eq_getElem?_getD, List.getElem?_eq_getElem (by omega)]; rfl
        have g2 : (ordC (longC js) js.length).getD k 0 = (ordC (longC js) js.length)[k]'(by omega) := by rw [List.getD_eq_getElem?_getD, List.getElem?_eq_getElem (by omega)]; rfl
        rw [← g1, ← g2] at h5
        exact longC_le (hmem j (by omega)) (hmem k hk) h5) hm hT0 (hW.perm pF)
    have h5 := (listK_len js (idxs (ordC (longC js) js.length)) m js.length).2
    unfold listE
    rw [idxs_len, hl]
    have : ∃ i, i < m ∧ maxL (listK js (idxs (ordC (longC js) js.length)) m js.length).2 = (listK js (idxs (ordC (longC js) js.length)) m js.length).2.getD i 0 := by
      refine Classical.byContradiction fun hc => ?_
      have h6 : maxL (listK js (idxs (ordC (longC js) js.length)) m js.length).2 ≤ maxL (listK js (idxs (ordC (longC js) js.length)) m js.length).2 - 1 := maxL_le (by omega) fun i hi => by
        have h7 := maxL_ge hi
        have : maxL (listK js (idxs (ordC (longC js) js.length)) m js.length).2 ≠ (listK js (idxs (ordC (longC js) js.length)) m js.length).2.getD i 0 := fun e => hc ⟨i, by omega, e⟩
        omega
      omega
    obtain ⟨i, hi, e⟩ := this
    rw [e]
    exact h4 i hi
  refine ⟨by rw [eLF]; exact hle _ pF, by rw [eLP]; exact hle _ pR, by rw [eLP]; exact hgr _ pR, by rw [eLF]; exact hlo, ?_, fun k hk => hW.one hl0 hk,
    fun x hx => by rw [oLP]; exact listO_lt js pR hm hx, fun x hx => by rw [oLF]; exact listO_lt js pF hm hx, by rw [oLP, eLP]; exact listE_most js hl0 pR hm, by rw [oLF, eLF]; exact listE_most js hl0 pF hm, by rw [oLP]; exact listO_len .., by rw [oLF]; exact listO_len ..⟩
  rw [Int.mul_comm]
  exact hW.sum

end Go.Proofs.Ytfdaifmfecfchaa

namespace Go.Proofs.Ytfdaifmfecfchaa
open Go.RowKit Go.Sort

/-- When both stages are done with the jobs of an order. -/
def stEnd (a b : Nat → Int) : Int × Int → List Nat → Int × Int
  | s, [] => s
  | s, x :: r => stEnd a b (s.1 + a x, max (s.1 + a x) s.2 + b x) r
theorem stEnd_app (a b : Nat → Int) : ∀ (s : Int × Int) (A B : List Nat), stEnd a b s (A ++ B) = stEnd a b (stEnd a b s A) B
  | s, [], B => rfl
  | s, x :: A, B => by simp only [List.cons_append, stEnd]; exact stEnd_app a b _ A B
theorem stEnd_fst (a b : Nat → Int) : ∀ (s : Int × Int) (A : List Nat), (stEnd a b s A).1 = s.1 + sumF a A
  | s, [] => by simp [stEnd, sumF]
  | s, x :: A => by simp only [stEnd, sumF, stEnd_fst a b _ A]; omega
theorem stEnd_mono (a b : Nat → Int) : ∀ (s t : Int × Int) (A : List Nat), s.1 = t.1 → s.2 ≤ t.2 → (stEnd a b s A).2 ≤ (stEnd a b t A).2
  | s, t, [], _, h => h
  | s, t, x :: A, h1, h2 => by
    simp only [stEnd]
    refine stEnd_mono a b _ _ A (by rw [h1]) ?_
    show max (s.1 + a x) s.2 + b x ≤ max (t.1 + a x) t.2 + b x
    rw [h1]
    omega
/-- The first of two is none worse ahead. -/
def ahead (a b : Nat → Int) (x y : Nat) : Prop := min (a x) (b y) ≤ min (a y) (b x)
theorem st_swap {a b : Nat → Int} {x y : Nat} (h : ahead a b x y) (s : Int × Int) (A : List Nat) : (stEnd a b s (x :: y :: A)).2 ≤ (stEnd a b s (y :: x :: A)).2 := by
  unfold ahead at h
  simp only [stEnd]
  refine stEnd_mono a b _ _ A ?_ ?_
  · show s.1 + a x + a y = s.1 + a y + a x
    omega
  · show max (s.1 + a x + a y) (max (s.1 + a x) s.2 + b x) + b y ≤ max (s.1 + a y + a x) (max (s.1 + a y) s.2 + b y) + b x
    omega
theorem st_front {a b : Nat → Int} {x : Nat} : ∀ (A B : List Nat), (∀ y ∈ A, ahead a b x y) → ∀ s, (stEnd a b s (x :: (A ++ B))).2 ≤ (stEnd a b s (A ++ x :: B)).2
  | [], B, _, s => Int.le_refl _
  | y :: A, B, h, s => by
    refine Int.le_trans (st_swap (h y (List.mem_cons_self ..)) s (A ++ B)) ?_
    show (stEnd a b (s.1 + a y, max (s.1 + a y) s.2 + b y) (x :: (A ++ B))).2 ≤ (stEnd a b (s.1 + a y, max (s.1 + a y) s.2 + b y) (A ++ x :: B)).2
    exact st_front A B (fun z hz => h z (List.mem_cons_of_mem _ hz)) _
theorem st_best {a b : Nat → Int} : ∀ (J L : List Nat), J.Perm L → J.Pairwise (ahead a b) → ∀ s, (stEnd a b s J).2 ≤ (stEnd a b s L).2
  | [], L, hp, _, s => by rw [List.nil_perm.1 hp]; exact Int.le_refl _
  | x :: J, L, hp, hs, s => by
    obtain ⟨h1, h2⟩ := List.pairwise_cons.1 hs
    obtain ⟨A, B, rfl⟩ := List.append_of_mem (hp.mem_iff.1 (List.mem_cons_self ..))
    have hp2 : J.Perm (A ++ B) := List.Perm.cons_inv (hp.trans List.perm_middle)
    refine Int.le_trans ?_ (st_front A B (fun y hy => h1 y (hp2.mem_iff.2 (List.mem_append_left _ hy))) s)
    show (stEnd a b (s.1 + a x, max (s.1 + a x) s.2 + b x) J).2 ≤ (stEnd a b (s.1 + a x, max (s.1 + a x) s.2 + b x) (A ++ B)).2
    exact st_best J _ hp2 h2 _
/-- Johnson's order. -/
def twoC (a b : Nat → Int) (x y : Nat) : Int :=
  if a x ≤ b x then (if a y ≤ b y then cmpI (a x) (a y) else -1) else if a y ≤ b y then 1 else cmpI (b y) (b x)
theorem cmpI_neg8 (x y : Int) : cmpI x y < 0 ↔ x < y := by
  unfold cmpI
  split
  · simp_all
  · split <;> simp_all
theorem swo_two (a b : Nat → Int) : SWO (ltOf (twoC a b)) := by
  have e : ltOf (twoC a b) = fun x y => decide (if a x ≤ b x then (if a y ≤ b y then a x < a y else True) else if a y ≤ b y then False else b y < b x) := by
    funext x y
    unfold ltOf twoC
    rw [decide_eq_decide]
    by_cases h1 : a x ≤ b x
    · rw [if_pos h1, if_pos h1]
      by_cases h2 : a y ≤ b y
      · rw [if_pos h2, if_pos h2]; exact cmpI_neg8 _ _
      · rw [if_neg h2, if_neg h2]; simp
    · rw [if_neg h1, if_neg h1]
      by_cases h2 : a y ≤ b y
      · rw [if_pos h2, if_pos h2]; simp
      · rw [if_neg h2, if_neg h2]; exact cmpI_neg8 _ _
  rw [e]
  refine ⟨fun x => ?_, fun x y z h1 h2 => ?_, fun x y z h1 h2 => ?_⟩
  · simp only [decide_eq_false_iff_not]
    split
    · omega
    · omega
  · simp only [decide_eq_true_eq] at *
    by_cases c1 : a x ≤ b x <;> by_cases c2 : a y ≤ b y <;> by_cases c3 : a z ≤ b z <;> simp only [c1, c2, c3, if_true, if_false] at * <;> first | trivial | omega
  · simp only [decide_eq_false_iff_not] at *
    by_cases c1 : a x ≤ b x <;> by_cases c2 : a y ≤ b y <;> by_cases c3 : a z ≤ b z <;> simp only [c1, c2, c3, if_true, if_false, not_true, not_false_iff] at * <;> first | trivial | omega
theorem two_ahead {a b : Nat → Int} {x y : Nat} (h : ¬ twoC a b y x < 0) : ahead a b x y := by
  unfold twoC at h
  unfold ahead
  by_cases c1 : a x ≤ b x <;> by_cases c2 : a y ≤ b y <;> simp only [c1, c2, if_true, if_false, cmpI_neg8] at h <;> omega
theorem two_best (a b : Nat → Int) {n : Nat} {L : List Nat} (hp : L.Perm (List.range n)) (s : Int × Int) : (stEnd a b s (ordC (twoC a b) n)).2 ≤ (stEnd a b s L).2 :=
  st_best _ _ ((ordC_perm (swo_two a b) n).trans hp.symm) ((ordC_sorted (swo_two a b) n).imp fun h => two_ahead h) s
/-- The first job's first stage and the last one's second one are apart. -/
theorem st_ends {a b : Nat → Int} (ha : ∀ x, 0 ≤ a x) (x y : Nat) (A : List Nat) (hy : (x :: A).getLast? = some y) : a x + b y ≤ (stEnd a b (0, 0) (x :: A)).2 := by
  have h1 : ∀ (A : List Nat) (s : Int × Int), A.getLast? = some y → s.1 + sumF a A + b y ≤ (stEnd a b s A).2 := fun A => by
    induction A with
    | nil => intro s h; cases h
    | cons z A ih =>
      intro s h
      cases A with
      | nil =>
        simp at h
        subst h
        simp only [stEnd, sumF]
        omega
      | cons u A =>
        rw [List.getLast?_cons_cons] at h
        have := ih (s.1 + a z, max (s.1 + a z) s.2 + b z) h
        simp only [stEnd, sumF] at this ⊢
        omega
  have h2 := h1 (x :: A) (0, 0) hy
  have h3 := sumF_nonneg (f := a) (a := A) (fun z _ => ha z)
  simp only [sumF] at h2
  omega

end Go.Proofs.Ytfdaifmfecfchaa

namespace Go.Proofs.Ytfdaifmfecfchaa
open Go.RowKit

def B8 (x : Int) : Value := .int .u8 x
/-- The slice reads as these bytes. -/
def RdB (w : World) (v : Value) (xs : List Int) : Prop := Slc w v (xs.map B8)
def WfB (zs : List Int) : Prop := ∀ z ∈ zs, 0 ≤ z ∧ z ≤ 255

theorem RdB.shape {w : World} {v : Value} {xs : List Int} (h : RdB w v xs) : ∃ a c, v = .slice a xs.length c := by
  obtain ⟨a, c, e⟩ := Slc.shape h; exact ⟨a, c, by simpa using e⟩
theorem RdB.up {w w' : World} {v : Value} {xs : List Int} {B : Nat} (h : RdB w v xs) (hb : Below B w w') (hB : w.heap.size ≤ B) : RdB w' v xs := Slc.below h hb hB
theorem RdB.len {w : World} {v : Value} {xs : List Int} (h : RdB w v xs) : xs.length ≤ maxLen := by simpa using Slc.len h
theorem RdB.at {w : World} {a : Option Addr} {n c : Nat} {xs : List Int} (h : RdB w (.slice a n c) xs) {i : Nat} (hi : i < xs.length) :
    ∃ b off, a = some ⟨b, off, none⟩ ∧ b < w.heap.size ∧ w.cell? ⟨b, off + i, none⟩ = some (.int .u8 (xs.getD i 0)) := by
  exact Slc.at h (i := i) (u := .int .u8 (xs.getD i 0)) (by simp [B8, hi])
theorem WfB.at {xs : List Int} (h : WfB xs) {i : Nat} (hi : i < xs.length) : 0 ≤ xs.getD i 0 ∧ xs.getD i 0 ≤ 255 := by
  have e : xs.getD i 0 = xs[i] := by simp [hi]
  rw [e]; exact h _ (List.getElem_mem hi)

def isLong (a b : List Int) : Bool := decide (1048576 < (a.length : Int)) || decide (1048576 < (b.length : Int))

/-- A number that is chosen. -/
def PickE (n : Int) (w : World) (e : Ending) (w' : World) : Prop := ∃ r : Int, 0 ≤ r ∧ r < n ∧ e = .returned (.int .i64 r) ∧ w = w'

end Go.Proofs.Ytfdaifmfecfchaa

namespace Go.Proofs.Ytfdaifmfecfchaa

/-- The digits 1 among the first n. -/
def popN : Nat → Nat → Nat
  | 0, _ => 0
  | n + 1, x => (x.testBit n).toNat + popN n x

theorem popN_congr {x y : Nat} : ∀ n, (∀ i, i < n → x.testBit i = y.testBit i) → popN n x = popN n y
  | 0, _ => rfl
  | n + 1, h => by
    simp only [popN]
    rw [h n (by omega), popN_congr n fun i hi => h i (by omega)]
theorem popN_or {x b : Nat} : ∀ n, popN n (x ||| 2 ^ b) = popN n x + (decide (b < n) && !x.testBit b).toNat
  | 0 => by simp [popN]
  | n + 1 => by
    simp only [popN]
    rw [popN_or n, Nat.testBit_or, Nat.testBit_two_pow]
    by_cases h : b = n
    · subst h
      cases x.testBit b <;> simp <;> omega
    · have h1 : decide (b = n) = false := by simp [h]
      rw [h1, Bool.or_false]
      have h2 : decide (b < n + 1) = decide (b < n) := by rw [decide_eq_decide]; omega
      rw [h2]; omega
theorem testBit_byte (a y i : Nat) (ha : a < 256) : (a + 256 * y).testBit i = if i < 8 then a.testBit i else y.testBit (i - 8) := by
  have := Nat.testBit_two_pow_mul_add y (i := 8) (b := a) ha i
  rw [show 2 ^ 8 * y + a = a + 256 * y by omega] at this
  exact this
theorem popN_byte (a y : Nat) (ha : a < 256) : ∀ n, popN (8 + n) (a + 256 * y) = popN 8 a + popN n y
  | 0 => by
    simp only [popN, Nat.add_zero]
    simp only [testBit_byte a y _ ha]
    simp
  | n + 1 => by
    have ih := popN_byte a y ha n
    rw [show 8 + (n + 1) = (8 + n) + 1 by omega]
    simp only [popN] at ih ⊢
    rw [ih, testBit_byte a y _ ha, if_neg (by omega), show 8 + n - 8 = n by omega]
    omega
theorem popN_zero : ∀ n, popN n 0 = 0
  | 0 => rfl
  | n + 1 => by simp [popN, popN_zero n]

theorem and_byte (a y m M : Nat) (ha : a < 256) (hm : m < 256) : (a + 256 * y) &&& (m + 256 * M) = (a &&& m) + 256 * (y &&& M) := by
  have hlt : a &&& m < 256 := Nat.lt_of_le_of_lt Nat.and_le_left ha
  apply Nat.eq_of_testBit_eq
  intro i
  rw [Nat.testBit_and, testBit_byte a y i ha, testBit_byte m M i hm, testBit_byte (a &&& m) (y &&& M) i hlt]
  split
  · rw [Nat.testBit_and]
  · rw [Nat.testBit_and]

/-! ### By bytes -/
def s1 (b : Nat) : Nat := ((b >>> 1) &&& 85) + (b &&& 85)
def s2 (b : Nat) : Nat := ((b >>> 2) &&& 51) + (b &&& 51)
def t2 (b : Nat) : Nat := s2 (s1 b)
def p8 (b : Nat) : Nat := (t2 b / 16 + t2 b) % 16
theorem bytes_fact : ∀ b : Fin 256, s1 b.val < 256 ∧ t2 b.val / 16 ≤ 4 ∧ t2 b.val % 16 ≤ 4 ∧ t2 b.val < 256 ∧ p8 b.val = popN 8 b.val ∧ p8 b.val ≤ 8 := by decide +kernel
theorem mask1 : ∀ a : Fin 128, ∀ c : Fin 2, (a.val + 128 * c.val) &&& 85 = a.val &&& 85 := by decide +kernel
theorem mask2 : ∀ a : Fin 64, ∀ c : Fin 4, (a.val + 64 * c.val) &&& 51 = a.val &&& 51 := by decide +kernel

theorem S1_byte (a y M : Nat) (ha : a < 256) : (((a + 256 * y) >>> 1) &&& (85 + 256 * M)) + ((a + 256 * y) &&& (85 + 256 * M)) = s1 a + 256 * (((y >>> 1) &&& M) + (y &&& M)) := by
  have h1 : (a + 256 * y) >>> 1 = (a / 2 + 128 * (y % 2)) + 256 * (y / 2) := by rw [Nat.shiftRight_eq_div_pow]; omega
  rw [h1, and_byte _ _ _ _ (by omega) (by decide), and_byte _ _ _ _ ha (by decide)]
  have h2 := mask1 ⟨a / 2, by omega⟩ ⟨y % 2, by omega⟩
  simp only at h2
  rw [h2]
  unfold s1
  have h3 : a >>> 1 = a / 2 := by rw [Nat.shiftRight_eq_div_pow]
  have h4 : y >>> 1 = y / 2 := by rw [Nat.shiftRight_eq_div_pow]
  rw [h3, h4]
  omega
theorem S2_byte (a y M : Nat) (ha : a < 256) : (((a + 256 * y) >>> 2) &&& (51 + 256 * M)) + ((a + 256 * y) &&& (51 + 256 * M)) = s2 a + 256 * (((y >>> 2) &&& M) + (y &&& M)) := by
  have h1 : (a + 256 * y) >>> 2 = (a / 4 + 64 * (y % 4)) + 256 * (y / 4) := by rw [Nat.shiftRight_eq_div_pow]; omega
  rw [h1, and_byte _ _ _ _ (by omega) (by decide), and_byte _ _ _ _ ha (by decide)]
  have h2 := mask2 ⟨a / 4, by omega⟩ ⟨y % 4, by omega⟩
  simp only at h2
  rw [h2]
  unfold s2
  have h3 : a >>> 2 = a / 4 := by rw [Nat.shiftRight_eq_div_pow]
  have h4 : y >>> 2 = y / 4 := by rw [Nat.shiftRight_eq_div_pow]
  rw [h3, h4]
  omega
theorem S3_byte (a y M : Nat) (ha : a < 256) (h16 : a / 16 ≤ 4) (hl : a % 16 ≤ 4) (hy : y % 16 ≤ 4) : (((a + 256 * y) >>> 4) + (a + 256 * y)) &&& (15 + 256 * M) = (a / 16 + a) % 16 + 256 * (((y >>> 4) + y) &&& M) := by
  have h1 : ((a + 256 * y) >>> 4) + (a + 256 * y) = (a / 16 + 16 * (y % 16) + a) + 256 * (y / 16 + y) := by rw [Nat.shiftRight_eq_div_pow]; omega
  rw [h1, and_byte _ _ _ _ (by omega) (by decide), Go.nat_mask4]
  have h4 : y >>> 4 = y / 16 := by rw [Nat.shiftRight_eq_div_pow]
  rw [h4]
  omega

def stage1 (x : Nat) : Nat := ((x >>> 1) &&& 6148914691236517205) + (x &&& 6148914691236517205)
def stage2 (x : Nat) : Nat := ((x >>> 2) &&& 3689348814741910323) + (x &&& 3689348814741910323)
def stage3 (x : Nat) : Nat := ((x >>> 4) + x) &&& 1085102592571150095

theorem stages {b0 b1 b2 b3 : Nat} (h0 : b0 < 256) (h1 : b1 < 256) (h2 : b2 < 256) (h3 : b3 < 256) :
    stage1 (b0 + 256 * (b1 + 256 * (b2 + 256 * (b3 + 256 * 0)))) = s1 b0 + 256 * (s1 b1 + 256 * (s1 b2 + 256 * (s1 b3 + 256 * 0))) ∧
    stage2 (s1 b0 + 256 * (s1 b1 + 256 * (s1 b2 + 256 * (s1 b3 + 256 * 0)))) = t2 b0 + 256 * (t2 b1 + 256 * (t2 b2 + 256 * (t2 b3 + 256 * 0))) ∧
    stage3 (t2 b0 + 256 * (t2 b1 + 256 * (t2 b2 + 256 * (t2 b3 + 256 * 0)))) = p8 b0 + 256 * (p8 b1 + 256 * (p8 b2 + 256 * (p8 b3 + 256 * 0))) := by
  have f0 := bytes_fact ⟨b0, h0⟩
  have f1 := bytes_fact ⟨b1, h1⟩
  have f2 := bytes_fact ⟨b2, h2⟩
  have f3 := bytes_fact ⟨b3, h3⟩
  simp only at f0 f1 f2 f3
  refine ⟨?_, ?_, ?_⟩
  · unfold stage1
    rw [show (6148914691236517205 : Nat) = 85 + 256 * (85 + 256 * (85 + 256 * (85 + 256 * 1431655765))) from rfl]
    rw [S1_byte _ _ _ h0, S1_byte _ _ _ h1, S1_byte _ _ _ h2, S1_byte _ _ _ h3]
    simp
  · unfold stage2
    rw [show (3689348814741910323 : Nat) = 51 + 256 * (51 + 256 * (51 + 256 * (51 + 256 * 858993459))) from rfl]
    rw [S2_byte _ _ _ f0.1, S2_byte _ _ _ f1.1, S2_byte _ _ _ f2.1, S2_byte _ _ _ f3.1]
    simp [t2]
  · unfold stage3
    rw [show (1085102592571150095 : Nat) = 15 + 256 * (15 + 256 * (15 + 256 * (15 + 256 * 252645135))) from rfl]
    rw [S3_byte _ _ _ f0.2.2.2.1 f0.2.1 f0.2.2.1 (by omega), S3_byte _ _ _ f1.2.2.2.1 f1.2.1 f1.2.2.1 (by omega), S3_byte _ _ _ f2.2.2.2.1 f2.2.1 f2.2.2.1 (by omega), S3_byte _ _ _ f3.2.2.2.1 f3.2.1 f3.2.2.1 (by omega)]
    simp [p8]

/-- The last sums. -/
theorem sums {p0 p1 p2 p3 y z v : Nat} (h0 : p0 ≤ 8) (h1 : p1 ≤ 8) (h2 : p2 ≤ 8) (h3 : p3 ≤ 8) (hy : y = p0 + 256 * (p1 + 256 * (p2 + 256 * (p3 + 256 * 0)))) (hz : z = y + y / 256) (hv : v = z + z / 65536) :
    (v + v / 4294967296) % 128 = p0 + p1 + p2 + p3 ∧ y < 4294967296 ∧ z < 4294967296 ∧ v < 4294967296 := by
  have e1 : y / 256 = p1 + 256 * p2 + 65536 * p3 := by omega
  have e2 : z = (p0 + p1) + 256 * (p1 + p2) + 65536 * (p2 + p3) + 16777216 * p3 := by omega
  have e3 : z / 65536 = (p2 + p3) + 256 * p3 := by omega
  have e4 : v = (p0 + p1 + p2 + p3) + 256 * (p1 + p2 + p3) + 65536 * (p2 + p3) + 16777216 * p3 := by omega
  have e5 : v / 4294967296 = 0 := by omega
  rw [e5]
  omega

/-- What is counted, of a number below 2 ^ 32. -/
theorem pop_all {x : Nat} (hx : x < 4294967296) : ∃ p0 p1 p2 p3, p0 ≤ 8 ∧ p1 ≤ 8 ∧ p2 ≤ 8 ∧ p3 ≤ 8 ∧ stage3 (stage2 (stage1 x)) = p0 + 256 * (p1 + 256 * (p2 + 256 * (p3 + 256 * 0))) ∧ popN 32 x = p0 + p1 + p2 + p3 ∧ stage1 x < 4294967296 ∧ stage2 (stage1 x) < 4294967296 := by
  obtain ⟨b0, b1, b2, b3, h0, h1, h2, h3, rfl⟩ : ∃ b0 b1 b2 b3, b0 < 256 ∧ b1 < 256 ∧ b2 < 256 ∧ b3 < 256 ∧ x = b0 + 256 * (b1 + 256 * (b2 + 256 * (b3 + 256 * 0))) :=
    ⟨x % 256, x / 256 % 256, x / 65536 % 256, x / 16777216, by omega, by omega, by omega, by omega, by omega⟩
  obtain ⟨e1, e2, e3⟩ := stages h0 h1 h2 h3
  have f0 := bytes_fact ⟨b0, h0⟩
  have f1 := bytes_fact ⟨b1, h1⟩
  have f2 := bytes_fact ⟨b2, h2⟩
  have f3 := bytes_fact ⟨b3, h3⟩
  simp only at f0 f1 f2 f3
  refine ⟨p8 b0, p8 b1, p8 b2, p8 b3, f0.2.2.2.2.2, f1.2.2.2.2.2, f2.2.2.2.2.2, f3.2.2.2.2.2, by rw [e1, e2, e3], ?_, by rw [e1]; omega, by rw [e1, e2]; omega⟩
  rw [show (32 : Nat) = 8 + (8 + (8 + (8 + 0))) from rfl, popN_byte _ _ h0, popN_byte _ _ h1, popN_byte _ _ h2, popN_byte _ _ h3, f0.2.2.2.2.1, f1.2.2.2.2.1, f2.2.2.2.2.1, f3.2.2.2.2.1]
  simp only [popN]
  omega

end Go.Proofs.Ytfdaifmfecfchaa

namespace Go.Proofs.Ytfdaifmfecfchaa
open Go.RowKit

def ValDom (d : List Int) : Prop := 1 ≤ d.length ∧ d.length ≤ 8 ∧ ∀ k, k < d.length → inB 0 31 (d.getD k 0) = true ∧ (0 < k → d.getD (k - 1) 0 < d.getD k 0)
def ValD (zss : List (List Int)) : Prop := 1 ≤ zss.length ∧ zss.length ≤ 6 ∧ ∀ i, i < zss.length → ValDom (zss.getD i [])
open Classical in
noncomputable def validD (zss : List (List Int)) : Bool := decide (ValD zss)
theorem validD_true {zss : List (List Int)} (h : ValD zss) : validD zss = true := by simp [validD, h]
theorem validD_false {zss : List (List Int)} (h : ¬ ValD zss) : validD zss = false := by simp [validD, h]

end Go.Proofs.Ytfdaifmfecfchaa

namespace Go.Proofs.Ytfdaifmfecfchaa
open Go.RowKit

end Go.Proofs.Ytfdaifmfecfchaa

namespace Go.Proofs.Ytfdaifmfecfchaa
open Go.RowKit

theorem ValDom_iff (d : List Int) : ValDom d ↔ (1 ≤ d.length ∧ d.length ≤ 8) ∧ Rising d ∧ allIn 0 31 d = true := by
  rw [allIn_iff]
  constructor
  · rintro ⟨h1, h2, h3⟩
    exact ⟨⟨h1, h2⟩, fun i hi h0 => (h3 i hi).2 h0, fun i hi => (h3 i hi).1⟩
  · rintro ⟨⟨h1, h2⟩, h3, h4⟩
    exact ⟨h1, h2, fun i hi => ⟨h4 i hi, h3 i hi⟩⟩

end Go.Proofs.Ytfdaifmfecfchaa

namespace Go.Proofs.Ytfdaifmfecfchaa

theorem popN_filter (x : Nat) : ∀ n, popN n x = ((List.range n).filter x.testBit).length
  | 0 => rfl
  | n + 1 => by
    rw [List.range_succ, List.filter_append, List.length_append, popN, popN_filter x n]
    cases h : x.testBit n <;> simp [h] <;> omega
/-- The digits 1. -/
def dig (s : Nat) : List Nat := (List.range 63).filter s.testBit
theorem dig_of {s i : Nat} (hs : s < 2 ^ i) (hi : i ≤ 63) : (List.range i).filter s.testBit = dig s := by
  unfold dig
  rw [show (63 : Nat) = i + (63 - i) by omega, List.range_add, List.filter_append]
  have : ((List.range (63 - i)).map (i + ·)).filter s.testBit = [] := by
    rw [List.filter_eq_nil_iff]
    intro a ha
    obtain ⟨b, _, rfl⟩ := List.mem_map.1 ha
    have : s.testBit (i + b) = false := Nat.testBit_lt_two_pow (Nat.lt_of_lt_of_le hs (Nat.pow_le_pow_right (by decide) (by omega)))
    simp [this]
  rw [this, List.append_nil]
theorem dig_len {s : Nat} (hs : s < 4294967296) : (dig s).length = popN 32 s := by
  rw [popN_filter, dig_of (i := 32) hs (by decide)]

def addN (l : List Int) (n : Int) : List Int := if hasB l n then l else l ++ [n]
/-- The numbers of some domains. -/
def uni (D : List (List Int)) (ds : List Nat) : List Int := ds.foldl (fun l i => (D.getD i []).foldl addN l) []
def tight (D : List (List Int)) (s : Nat) : Bool := (dig s).length == (uni D (dig s)).length
def tightL (D : List (List Int)) (m : Nat) : List Int := ((List.range m).filter (tight D)).map fun (k : Nat) => (k : Int)
theorem tightL_yes {D : List (List Int)} {m : Nat} (h : tight D m = true) : tightL D (m + 1) = tightL D m ++ [(m : Int)] := by
  simp [tightL, List.range_succ, h]
theorem tightL_no {D : List (List Int)} {m : Nat} (h : tight D m = false) : tightL D (m + 1) = tightL D m := by
  simp [tightL, List.range_succ, h]
theorem tightL_len (D : List (List Int)) (m : Nat) : (tightL D m).length ≤ m := by
  have := List.length_filter_le (tight D) (List.range m)
  simpa [tightL] using this

/-- The domains that are walked, of the first i, and k numbers of the next one. -/
def uniP (D : List (List Int)) (ds : List Nat) (i k : Nat) : List Int := ((D.getD i []).take k).foldl addN (uni D ds)
theorem uniP_zero (D : List (List Int)) (ds : List Nat) (i : Nat) : uniP D ds i 0 = uni D ds := by simp [uniP]
theorem uniP_succ (D : List (List Int)) (ds : List Nat) (i k : Nat) (h : k < (D.getD i []).length) : uniP D ds i (k + 1) = addN (uniP D ds i k) ((D.getD i []).getD k 0) := by
  unfold uniP
  rw [List.take_add_one, List.foldl_append]
  generalize D.getD i [] = d at h ⊢
  simp [h]
theorem uniP_all (D : List (List Int)) (ds : List Nat) (i : Nat) : uniP D ds i (D.getD i []).length = uni D (ds ++ [i]) := by
  unfold uniP uni
  rw [List.take_length, List.foldl_append]
  rfl
theorem addN_len (l : List Int) (n : Int) : (addN l n).length ≤ l.length + 1 := by
  unfold addN; split <;> simp

/-- A number's binary digits 1 are a list. -/
structure Mask (m : Nat) (l : List Int) : Prop where
  lt : m < 4294967296
  bit : ∀ b, b < 32 → m.testBit b = hasB l (b : Int)
  len : popN 32 m = l.length
theorem Mask.nil : Mask 0 [] := ⟨by decide, by intro b _; simp [hasB], popN_zero 32⟩
theorem hasB_append (l : List Int) (n x : Int) : hasB (l ++ [n]) x = (hasB l x || x == n) := by
  unfold hasB; rw [Bool.eq_iff_iff]; simp
theorem Mask.add {m : Nat} {l : List Int} (h : Mask m l) {n : Nat} (hn : n < 32) : Mask (m ||| 2 ^ n) (addN l (n : Int)) := by
  have hb := h.bit n hn
  have h32 : (2 : Nat) ^ n < 2 ^ 32 := Nat.pow_lt_pow_right (by decide) hn
  refine ⟨?_, ?_, ?_⟩
  · have h1 : m < 2 ^ 32 := h.lt
    exact Nat.or_lt_two_pow h1 h32
  · intro b hb2
    rw [Nat.testBit_or, Nat.testBit_two_pow, h.bit b hb2]
    unfold addN
    split
    · next hh =>
      by_cases e : n = b
      · subst e; rw [hh]; simp
      · simp [e]
    · rw [hasB_append]
      congr 1
      rw [Bool.eq_iff_iff]; simp; omega
  · rw [popN_or, h.len, hb]
    unfold addN
    split
    · next hh => rw [hh]; simp
    · next hh => rw [Bool.not_eq_true] at hh; rw [hh]; simp [hn]

end Go.Proofs.Ytfdaifmfecfchaa

namespace Go.Proofs.Ytfdaifmfecfchaa
open Go.RowKit

def digI (n i : Nat) : List Int := ((List.range i).filter n.testBit).map fun (k : Nat) => (k : Int)
theorem digI_yes {n i : Nat} (h : n.testBit i = true) : digI n (i + 1) = digI n i ++ [(i : Int)] := by simp [digI, List.range_succ, h]
theorem digI_no {n i : Nat} (h : n.testBit i = false) : digI n (i + 1) = digI n i := by simp [digI, List.range_succ, h]
theorem digI_len (n i : Nat) : (digI n i).length ≤ i := by
  have := List.length_filter_le n.testBit (List.range i)
  simpa [digI] using this
theorem shr_cast (n i : Nat) : (n : Int) / 2 ^ i = ((n >>> i : Nat) : Int) := by
  rw [Nat.shiftRight_eq_div_pow]; push_cast; rfl
theorem ofInt_i64 (a : Nat) (ha : a < 9223372036854775808) : (BitVec.ofInt 64 (a : Int)).toNat = a := by
  rw [BitVec.ofInt_natCast, BitVec.toNat_ofNat]; exact Nat.mod_eq_of_lt (by omega)
theorem i64_and_nat (a b : Nat) (ha : a < 9223372036854775808) (hb : b < 9223372036854775808) : bits .and .i64 (a : Int) (b : Int) = ((a &&& b : Nat) : Int) := by
  have hx : a &&& b < 2 ^ 63 := Nat.and_lt_two_pow _ (by omega)
  show IntKind.i64.wrap ((BitVec.ofInt 64 (a : Int) &&& BitVec.ofInt 64 (b : Int)).toNat : Int) = _
  rw [BitVec.toNat_and, ofInt_i64 a ha, ofInt_i64 b hb, IntKind.wrap_i64]
  omega
theorem i64_or_nat (a b : Nat) (ha : a < 9223372036854775808) (hb : b < 9223372036854775808) : bits .or .i64 (a : Int) (b : Int) = ((a ||| b : Nat) : Int) := by
  have hx : a ||| b < 2 ^ 63 := Nat.or_lt_two_pow (by omega) (by omega)
  show IntKind.i64.wrap ((BitVec.ofInt 64 (a : Int) ||| BitVec.ofInt 64 (b : Int)).toNat : Int) = _
  rw [BitVec.toNat_or, ofInt_i64 a ha, ofInt_i64 b hb, IntKind.wrap_i64]
  omega
theorem bit_of (n i : Nat) : (n >>> i) &&& 1 = (n.testBit i).toNat := by
  rw [Nat.and_one_is_mod, Nat.testBit_eq_decide_div_mod_eq, Nat.shiftRight_eq_div_pow]
  by_cases h : n / 2 ^ i % 2 = 1
  · simp [h]
  · have : n / 2 ^ i % 2 = 0 := by omega
    simp [this]

set_option maxHeartbeats 1000000 in
theorem digits_any (n : Nat) (hn : n < 64) (w : World) :
    Calls Try.prog 48 #[.int .i64 n] w fun e w' => ∃ v', e = .returned v' ∧ OwnI w.heap.size w'.heap.size w' v' ((dig n).map fun (k : Nat) => (k : Int)) ∧ Below w.heap.size w w' := by
  go_enter Try.func48, Try.ntmps48
  go_wp2_with fail
  go_loopw [3, 4] (fun out kk wr => ∃ (i : Nat) (b : Option Addr) (cap : Nat), kk = .int .i64 i ∧ i ≤ 6 ∧ out = .slice b (digI n i).length cap ∧ wr.ownsRow w.heap.size 2 1 (.slice b (digI n i).length cap) (digI n i).length ((digI n i).map I64) ∧ Below w.heap.size w wr) (fun _ kk _ => 7 - (intOf kk).toNat)
  case atStart => exact ⟨0, none, 0, rfl, by omega, rfl, World.ownsRow_nil _ _ _ _, Below.refl _ _⟩
  case round =>
    obtain ⟨i, b, cap, rfl, hi, rfl, hown, hbl⟩ := hrel
    have HO := Lib.hid hown
    have HB := Lib.hid hbl
    have hd := shr_cast n i
    have hbit := bit_of n i
    obtain ⟨Q, hQ⟩ : ∃ Q, Q = n >>> i := ⟨_, rfl⟩
    rw [← hQ] at hd hbit
    have hQ64 : Q < 64 := by rw [hQ]; exact Nat.lt_of_le_of_lt (Nat.shiftRight_le n i) hn
    have hand := i64_and_nat Q 1 (by omega) (by decide)
    rw [hbit] at hand
    have HQ := Lib.hid hQ
    have hlen := digI_len n i
    clear hown hbl hQ hbit
    by_cases hz : 0 < Q
    · have hi6 : i < 6 := by
        by_cases h : i < 6
        · exact h
        · obtain rfl : i = 6 := by omega
          have := HQ.out
          rw [Nat.shiftRight_eq_div_pow] at this
          omega
      by_cases ht : n.testBit i = true
      · rw [ht] at hand
        have HE := Lib.hid (digI_yes ht)
        obtain ⟨ks, hks⟩ : ∃ ks, ks = digI n i := ⟨_, rfl⟩
        rw [← hks] at HO HE hlen ⊢
        have hsz := HB.out.size
        clear ht hks
        have hand2 : bits .and .i64 (Q : Int) 1 = 1 := by simpa using hand
        clear hand
        go_wp2_with (at_builtin; refine app_ints rfl _ _ rfl w.heap.size (.slice b ks.length cap) ks.length ks rfl (HO.out.alloc _) _ [(i : Int)] rfl (slc_one _ _) (ks.length + 1) (ks ++ [(i : Int)]) (by simp) rfl (by omega) (by simp; omega) ?_; intro b2 cap2 w3 hown2 hbl2 _ _)
        go_roundw
        case rel => exact ⟨i + 1, b2, cap2, by go_num, by omega, by rw [HE.out, List.length_append]; rfl, by rw [HE.out, List.length_append]; exact hown2, HB.out.trans (((Below.refl _ _).alloc hsz _).trans hbl2)⟩
        case measure => simp [intOf]; omega
      · rw [Bool.not_eq_true] at ht
        rw [ht] at hand
        have HE := Lib.hid (digI_no ht)
        clear ht
        have hand2 : bits .and .i64 (Q : Int) 1 = 0 := by simpa using hand
        clear hand
        go_wp2_with fail
        go_roundw
        case rel => exact ⟨i + 1, b, cap, by go_num, by omega, by rw [HE.out], by rw [HE.out]; exact HO.out, HB.out⟩
        case measure => simp [intOf]; omega
    · have hQ0 : Q = 0 := by omega
      have HD := Lib.hid (show digI n i = (dig n).map fun (k : Nat) => (k : Int) by
        unfold digI
        rw [dig_of ?_ (by omega)]
        have h1 := HQ.out
        rw [hQ0, Nat.shiftRight_eq_div_pow] at h1
        have h2 : 0 < 2 ^ i := Nat.two_pow_pos i
        rcases Nat.div_eq_zero_iff.1 h1.symm with h3 | h3
        · omega
        · exact h3)
      clear hz
      go_wp2_with fail
      go_ret
      exact ⟨_, rfl, by rw [← HD.out]; exact OwnI.mk HO.out, HB.out⟩

theorem u64_shr_cast (n i : Nat) : (n : Int) / 2 ^ i = ((n >>> i : Nat) : Int) := shr_cast n i

theorem wrap64_nat {n : Nat} (h : n < 18446744073709551616) : IntKind.u64.wrap (n : Int) = (n : Int) := IntWalk.u64_in _ (by omega)
theorem and64 (a b : Nat) (ha : a < 18446744073709551616) (hb : b < 18446744073709551616) : bits .and .u64 (a : Int) (b : Int) = ((a &&& b : Nat) : Int) := u64_and_nat a b ha hb

end Go.Proofs.Ytfdaifmfecfchaa
