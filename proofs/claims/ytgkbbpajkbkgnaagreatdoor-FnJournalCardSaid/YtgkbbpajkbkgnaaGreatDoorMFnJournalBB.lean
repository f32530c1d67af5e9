/-
  FnJournal: texts joined: RngM, SmlM, BackD, CoutI, ScrM.
-/
import Derived.Deep.RegionHeld3
import Derived.Test.YtgkbbpajkbkgnaaGreatDoorMFnJournalAH
import Derived.Test.YtgkbbpajkbkgnaaGreatDoorMFnJournalBA
set_option linter.unusedVariables false
set_option linter.unusedSimpArgs false
namespace Go.Proofs.YtgkbbpajkbkgnaaGreatDoor
open Go.RowKit Go.Sort
def InZ (n : Int) : Prop := -1000000000000000 ≤ n ∧ n ≤ 1000000000000000
theorem half_rng {xs : List Int} (h : ∀ i, 0 ≤ xs.getD i 0 ∧ xs.getD i 0 ≤ 1000) : ∀ k, 0 ≤ (halfK xs k).2 ∧ (halfK xs k).2 ≤ allI xs xs.length
  | 0 => by have := allI_rng h xs.length; simp only [halfK]; omega
  | k + 1 => by
    have ih := half_rng h k
    simp only [halfK]
    split
    · unfold farD at *
      simp only
      omega
    · exact ih
theorem sizes_get {xs : List Int} (h : areSizesB xs = true) (i : Nat) : 0 ≤ xs.getD i 0 ∧ xs.getD i 0 ≤ 1000 := by
  by_cases hi : i < xs.length
  · have := (sizes_all h).2 (xs.getD i 0) (by rw [List.getD_eq_getElem?_getD, List.getElem?_eq_getElem hi]; exact List.getElem_mem _)
    omega
  · rw [List.getD_eq_getElem?_getD, List.getElem?_eq_none (by omega)]; decide
theorem halfN_rng (xs : List Int) : InZ (halfN xs) := by
  unfold halfN InZ
  split
  · rename_i h
    have h1 := half_rng (sizes_get h) (2 ^ (xs.length - 1))
    have h2 := allI_rng (sizes_get h) xs.length
    have h3 := (sizes_all h).1
    omega
  · omega
theorem fillN_rng (xs : List Int) (n : Int) : InZ (fillN xs n) := by
  unfold fillN InZ
  split
  · rename_i h
    unfold fillB at h
    rw [Bool.and_eq_true] at h
    have h1 := fillK_rng (fun x hx => ((sizes_all h.1).2 x hx).1) n.toNat xs.length (Nat.le_refl _) n.toNat
    have h2 : 2 ^ xs.length ≤ 65536 := Nat.pow_le_pow_right (n := 2) (by omega) (show xs.length ≤ 16 from (sizes_all h.1).1.2)
    have h3 : (2 : Int) ^ xs.length = ((2 ^ xs.length : Nat) : Int) := by push_cast; rfl
    have h4 : ((2 ^ xs.length : Nat) : Int) ≤ 65536 := Int.ofNat_le.2 h2
    omega
  · omega
theorem fbN_rng (xs : List Int) (n : Int) : InZ (fbN xs n) := by
  unfold fbN InZ
  split
  · rename_i h
    unfold fbB at h
    rw [Bool.and_eq_true] at h
    have h1 := (fbK_len xs n (ordC (sizeC xs) xs.length) xs.length).2
    have h2 := (sizes_all h.1).1.2
    omega
  · omega
theorem few_rng (xs : List Int) (room : Int) : ∀ (f : Nat) (bins : List Int), 0 ≤ fewR xs room f bins ∧ fewR xs room f bins ≤ (bins.length : Int) + f
  | 0, bins => by simp only [fewR]; omega
  | f + 1, bins => by
    have ih := few_rng xs room f
    simp only [fewR]
    obtain ⟨h1, _⟩ := fewK_le (rec := fewR xs room f) (s := xs.getD (xs.length - (f + 1)) 0) (bins := bins) (b := fewR xs room f (bins ++ [room - xs.getD (xs.length - (f + 1)) 0])) bins.length
    have h0 := ih (bins ++ [room - xs.getD (xs.length - (f + 1)) 0])
    rw [List.length_append] at h0
    simp only [List.length_singleton] at h0
    rcases fewK_is (rec := fewR xs room f) (s := xs.getD (xs.length - (f + 1)) 0) (bins := bins) (b := fewR xs room f (bins ++ [room - xs.getD (xs.length - (f + 1)) 0])) bins.length with e | ⟨j, _, _, e⟩
    · rw [e]; push_cast at *; omega
    · have h2 := ih (bins.set j (bins.getD j 0 - xs.getD (xs.length - (f + 1)) 0))
      rw [← e] at h2
      push_cast at *
      omega
theorem binsN_rng (xs : List Int) (n : Int) : InZ (binsN xs n) := by
  unfold binsN InZ
  split
  · rename_i h
    unfold binsB at h
    rw [Bool.and_eq_true] at h
    have h1 := few_rng xs n xs.length []
    have h2 := (sizes_all h.1).1.2
    simp only [List.length_nil] at h1
    omega
  · omega
theorem close_rng {W : Nat → Nat → Int} {n : Nat} (hW : ∀ i k, i < n → k < n → 0 ≤ W i k ∧ W i k ≤ 1000) (hn : 1 ≤ n) : ∀ (r : List Nat) (x : Nat), x < n → (∀ c ∈ r, c < n) → 0 ≤ closeL W x r ∧ closeL W x r ≤ 1000 * ((r.length : Int) + 1)
  | [], x, hx, _ => by have := hW x 0 hx (by omega); simp only [closeL]; simp; omega
  | y :: r, x, hx, hr => by
    have h1 := hW x y hx (hr y (by simp))
    have h2 := close_rng hW hn r y (hr y (by simp)) fun c hc => hr c (by simp [hc])
    simp only [closeL, List.length_cons]
    push_cast
    omega
theorem bt_rng {W : Nat → Nat → Int} {n : Nat} (hW : ∀ i k, i < n → k < n → 0 ≤ W i k ∧ W i k ≤ 1000) (hn : 1 ≤ n) : ∀ (f : Nat) (r : List Nat) (s : List Nat × Int), r.length + f ≤ 10 → (∀ c ∈ r, c < n) → 0 ≤ s.2 ∧ s.2 ≤ 11000 → 0 ≤ (btR W n f r s).2 ∧ (btR W n f r s).2 ≤ 11000
  | 0, r, s, hl, hr, hs => by
    have h := close_rng hW hn r 0 (by omega) hr
    simp only [btR]
    unfold upd
    split
    · simp only; omega
    · exact hs
  | f + 1, r, s, hl, hr, hs => by
    simp only [btR]
    have key : ∀ k, k < n → 0 ≤ (btK (btR W n f) r s k).2 ∧ (btK (btR W n f) r s k).2 ≤ 11000 := fun k => by
      induction k with
      | zero => intro _; exact hs
      | succ k ih =>
        intro hk
        have ih := ih (by omega)
        simp only [btK]
        split
        · exact ih
        · refine bt_rng hW hn f (r ++ [k + 1]) _ (by rw [List.length_append]; simp; omega) (fun c hc => ?_) ih
          rw [List.mem_append, List.mem_singleton] at hc
          rcases hc with hc | rfl
          · exact hr c hc
          · exact hk
    exact key (n - 1) (by omega)
theorem tourLng_rng (xs : List Int) : InZ (tourLng xs) := by
  unfold tourLng InZ
  split
  · rename_i h
    obtain ⟨n, hn1, hn10, hxl, hc, hW⟩ := cities_get h
    unfold tourT
    rw [hc, Int.toNat_natCast]
    have := bt_rng hW hn1 (n - 1) [] ([], 0) (by simp; omega) (fun c hc => by cases hc) (by simp)
    omega
  · omega
theorem tbN_rng (xs : List Int) : InZ (tbN xs) := by
  unfold tbN InZ
  split
  · rename_i h
    unfold tbB at h
    rw [Bool.and_eq_true, decide_eq_true_eq] at h
    obtain ⟨n, hn1, hn10, hxl, hc, hW⟩ := cities_get h.1
    unfold cityN
    rw [hc] at h ⊢
    rw [Int.toNat_natCast]
    have := bndN_rng (W := cityW xs n) (n := n) (B := 1000) (by omega) hn10 (by omega) (fun i k hi hk => by have := hW i k hi hk; omega)
    omega
  · omega
theorem raise_rng {xs : List Int} {n : Nat} (hn3 : 3 ≤ n) (hn10 : n ≤ 10) (hW : ∀ i k, i < n → k < n → 0 ≤ cityW xs n i k ∧ cityW xs n i k ≤ 1000) : ∀ t, t ≤ 52 → -(3000000 : Int) ≤ (raiseK xs n t).2 ∧ (raiseK xs n t).2 ≤ 3000000
  | 0, _ => by simp [raiseK]
  | t + 1, ht => by
    have ih := raise_rng hn3 hn10 hW t (by omega)
    have hp := fun i => price_rng (xs := xs) hn3 hn10 (t := t) (by omega) i
    have hb := bndN_rng (W := wayP xs n (raiseK xs n t).1) (n := n) (B := 10000) hn3 hn10 (by omega) (fun i k hi hk => by
      have hw := hW i k hi hk
      have p1 := hp i
      have p2 := hp k
      unfold cityW at hw
      unfold wayP
      omega)
    have hs := allI_bnd (xs := (raiseK xs n t).1) (B := 2000) (fun i => by have := hp i; omega) n
    have h2 : 2000 * n ≤ 2000 * 10 := Nat.mul_le_mul (Nat.le_refl _) hn10
    have e : boundP xs n (raiseK xs n t).1 = bndN (wayP xs n (raiseK xs n t).1) n - 2 * allI (raiseK xs n t).1 n := by unfold boundP; rw [sumI_all]
    simp only [raiseK]
    rw [e]
    split <;> omega
theorem rbN_rng (xs : List Int) (r : Int) : InZ (rbN xs r) := by
  unfold rbN InZ
  split
  · rename_i h
    unfold rbB at h
    rw [Bool.and_eq_true, Bool.and_eq_true, decide_eq_true_eq, inB_iff] at h
    obtain ⟨n, hn1, hn10, hxl, hc, hW⟩ := cities_get h.1
    unfold cityN
    rw [hc] at h ⊢
    rw [Int.toNat_natCast]
    have := raise_rng (by omega) hn10 hW (r.toNat + 1) (by omega)
    omega
  · omega
theorem heads_rng {js : List JobD} (h : areJobsB js = true) : ∀ j, j ≤ js.length → 0 ≤ headsK js j ∧ headsK js j ≤ 112000
  | 0, _ => by simp [headsK]
  | j + 1, hj => by
    have ih := heads_rng h j (by omega)
    obtain ⟨h1, h2, h3⟩ := jobs_all h
    have hr := headK_rng (js := js) (fun i hi => by have := h3 i hi; omega) (js.getD j J0).ready js.length (Nat.le_refl _)
    have := h3 j (by omega)
    simp only [headsK]
    omega
theorem headsN_rng (js : List JobD) : InZ (headsN js) := by
  unfold headsN InZ
  split
  · rename_i h
    have := heads_rng h js.length (Nat.le_refl _)
    omega
  · omega
theorem lateN_rng (js : List JobD) : InZ (lateN js) := by
  unfold lateN InZ
  split
  · rename_i h
    have hg := fun i => jobs_any h i
    have := ltab_rng (js := js) (fun i => (hg i).1) (fun i => ⟨(hg i).2.1.1, (hg i).2.2⟩) (2 ^ js.length) (2 ^ js.length - 1)
    have h2 : 2 ^ js.length ≤ 4096 := Nat.pow_le_pow_right (n := 2) (by omega) (show js.length ≤ 12 from (jobs_all h).2.1)
    omega
  · omega
theorem maxL_rng {l : List Int} {a b : Int} (h : ∀ i, a ≤ l.getD i 0 ∧ l.getD i 0 ≤ b) : a ≤ maxL l ∧ maxL l ≤ b := by
  unfold maxL
  have : ∀ k, a ≤ maxK l k ∧ maxK l k ≤ b := fun k => by
    induction k with
    | zero => exact h 0
    | succ k ih => have := h (k + 1); simp only [maxK]; omega
  exact this _
theorem lpE_rng (js : List JobD) (m : Int) : InZ (lpE js m) := by
  unfold lpE InZ
  split
  · rename_i h
    unfold machB at h
    rw [Bool.and_eq_true] at h
    obtain ⟨h1, h2, h3⟩ := jobs_all h.1
    have hl : (idxs (List.range js.length)).length = js.length := by rw [idxs_len, List.length_range]
    have := maxL_rng (fun f => listK_rng (js := js) (fun i hi => by have := h3 i hi; omega) (os := idxs (List.range js.length)) (fun k hk => (range_ok _ k hk).2) m.toNat (idxs (List.range js.length)).length (Nat.le_refl _) f)
    rw [hl] at this
    unfold listE
    rw [hl]
    omega
  · omega
theorem span_rng {js : List JobD} (h : areJobsB js = true) : ∀ (f : Nat) (used : List Int), f ≤ js.length → (∀ k, 0 ≤ used.getD k 0 ∧ used.getD k 0 ≤ 1000 * ((js.length - f : Nat) : Int)) → -1 ≤ spanR js f used ∧ spanR js f used ≤ 12000
  | 0, used, hf, hu => by
    have := maxL_rng hu
    have h2 := (jobs_all h).2.1
    simp only [spanR]
    omega
  | f + 1, used, hf, hu => by
    obtain ⟨h1, h2, h3⟩ := jobs_all h
    have hj := h3 (js.length - (f + 1)) (by omega)
    have key : ∀ k, -1 ≤ (spanK (spanR js f) (js.getD (js.length - (f + 1)) J0).long used k).1 ∧ (spanK (spanR js f) (js.getD (js.length - (f + 1)) J0).long used k).1 ≤ 12000 := fun k => by
      induction k with
      | zero => simp [spanK]
      | succ k ih =>
        have hr := span_rng h f (used.set k (used.getD k 0 + (js.getD (js.length - (f + 1)) J0).long)) (by omega) (fun i => by
          rw [getD_set']
          have a := hu k
          have b := hu i
          have e : js.length - f = js.length - (f + 1) + 1 := by omega
          rw [e]
          split <;> push_cast <;> omega)
        simp only [spanK]
        split
        · exact ih
        · simp only
          split
          · exact hr
          · exact ih
    simp only [spanR]
    exact key _
theorem lsN_rng (js : List JobD) (m : Int) : InZ (lsN js m) := by
  unfold lsN InZ
  split
  · rename_i h
    unfold lsB machB at h
    rw [Bool.and_eq_true, Bool.and_eq_true] at h
    have := span_rng h.1.1 js.length (List.replicate m.toNat 0) (Nat.le_refl _) (fun k => by
      have : (List.replicate m.toNat (0 : Int)).getD k 0 = 0 := by
        rw [List.getD_eq_getElem?_getD, List.getElem?_replicate]
        split <;> rfl
      rw [this]
      omega)
    omega
  · omega
theorem count_rng {d : DeskD} {s : ByteArray} {n m : Int} {ok : Bool} (h : countK d s n = some (m, ok)) : InZ m := by
  unfold countK at h
  split at h
  · simp only [Option.some.injEq, Prod.mk.injEq] at h; rw [← h.1]; exact fillN_rng _ _
  split at h
  · simp only [Option.some.injEq, Prod.mk.injEq] at h; rw [← h.1]; exact fbN_rng _ _
  split at h
  · simp only [Option.some.injEq, Prod.mk.injEq] at h; rw [← h.1]; exact binsN_rng _ _
  split at h
  · simp only [Option.some.injEq, Prod.mk.injEq] at h; rw [← h.1]; exact rbN_rng _ _
  split at h
  · simp only [Option.some.injEq, Prod.mk.injEq] at h; rw [← h.1]; exact lpE_rng _ _
  split at h
  · simp only [Option.some.injEq, Prod.mk.injEq] at h; rw [← h.1]; exact lsN_rng _ _
  cases h
theorem small_idxs {L : List Nat} (h : ∀ x ∈ L, x < 1000) : Small (idxs L) := by
  intro k hk
  rw [idxs_len] at hk
  rw [idxs_get (L := L) hk]
  have := h (L.getD k 0) (by rw [List.getD_eq_getElem?_getD, List.getElem?_eq_getElem hk]; exact List.getElem_mem _)
  omega
theorem small_nil : Small [] := by intro k hk; cases hk
theorem small_sizes {xs : List Int} (h : areSizesB xs = true) : Small xs := fun k _ => by have := sizes_get h k; omega
theorem small_ways {xs : List Int} (h : areCitiesB xs = true) : Small xs := fun k hk => by
  unfold areCitiesB at h
  rw [Bool.and_eq_true, Bool.and_eq_true] at h
  have := inB_iff.1 ((allIn_iff _ _ _).1 h.2.1 k hk)
  omega
theorem bt_lst {W : Nat → Nat → Int} {n : Nat} (hn : 1 ≤ n) : ∀ (f : Nat) (r : List Nat) (s : List Nat × Int), (∀ c ∈ r, c < n) → (∀ c ∈ s.1, c < n) → ∀ c ∈ (btR W n f r s).1, c < n
  | 0, r, s, hr, hs => by
    simp only [btR]
    unfold upd
    split
    · intro c hc
      simp only [List.mem_cons] at hc
      rcases hc with rfl | hc
      · omega
      · exact hr c hc
    · exact hs
  | f + 1, r, s, hr, hs => by
    simp only [btR]
    have key : ∀ k, k < n → ∀ c ∈ (btK (btR W n f) r s k).1, c < n := fun k => by
      induction k with
      | zero => intro _; exact hs
      | succ k ih =>
        intro hk
        have ih := ih (by omega)
        simp only [btK]
        split
        · exact ih
        · refine bt_lst hn f (r ++ [k + 1]) _ (fun c hc => ?_) ih
          rw [List.mem_append, List.mem_singleton] at hc
          rcases hc with hc | rfl
          · exact hr c hc
          · exact hk
    exact key (n - 1) (by omega)
theorem small_tour (xs : List Int) : Small (idxs (tourLst xs)) := by
  refine small_idxs fun x hx => ?_
  unfold tourLst at hx
  split at hx
  · rename_i h
    obtain ⟨n, hn1, hn10, hxl, hc, hW⟩ := cities_get h
    unfold tourT at hx
    rw [hc, Int.toNat_natCast] at hx
    have := bt_lst hn1 (n - 1) [] ([], 0) (fun c hc => by cases hc) (fun c hc => by cases hc) x hx
    omega
  · cases hx
end Go.Proofs.YtgkbbpajkbkgnaaGreatDoor

namespace Go.Proofs.YtgkbbpajkbkgnaaGreatDoor
open Go.RowKit Go.Sort
theorem otRun_lt {js : List JobD} {n : Nat} : ∀ (L K A : List Nat) (t : Int), (∀ x ∈ L, x < n) → (∀ x ∈ K, x < n) → (∀ x ∈ A, x < n) → (∀ x ∈ (otRun js L K A t).1, x < n) ∧ ∀ x ∈ (otRun js L K A t).2, x < n
  | [], K, A, t, _, hK, hA => ⟨hK, hA⟩
  | i :: r, K, A, t, hL, hK, hA => by
    have hK1 : ∀ x, x ∈ K ++ [i] → x < n := fun x hx => by
      rcases List.mem_append.1 hx with h1 | h1
      · exact hK x h1
      · rw [List.mem_singleton.1 h1]; exact hL i (by simp)
    simp only [otRun]
    refine otRun_lt r _ _ _ (fun x hx => hL x (by simp [hx])) ?_ ?_
    · unfold otStep
      split
      · exact hK1
      · exact fun x hx => hK1 x (List.mem_of_mem_eraseIdx hx)
    · unfold otStep
      split
      · exact hA
      · intro x hx
        rcases List.mem_append.1 hx with h1 | h1
        · exact hA x h1
        · rw [List.mem_singleton.1 h1]
          have hlt : longest js (K ++ [i]) < (K ++ [i]).length := mostN_lt _ _ (by simp)
          refine hK1 _ ?_
          rw [List.getD_eq_getElem?_getD, List.getElem?_eq_getElem hlt]
          exact List.getElem_mem _
theorem short_due (js : List JobD) : Small (dueL js) ∧ (dueL js).length ≤ 1000000 := by
  unfold dueL
  split
  · rename_i h
    have h2 := (jobs_all h).2.1
    refine ⟨small_idxs fun x hx => ?_, ?_⟩
    · have := ordL_lt _ _ x hx; omega
    · rw [idxs_len, ordL_len]; omega
  · exact ⟨small_nil, by simp⟩
theorem short_smith (js : List JobD) : Small (smithL js) ∧ (smithL js).length ≤ 1000000 := by
  unfold smithL
  split
  · rename_i h
    have h2 := (jobs_all h).2.1
    refine ⟨small_idxs fun x hx => ?_, ?_⟩
    · have := ordC_lt (swo_smith h) _ x hx; omega
    · rw [idxs_len, (ordC_perm (swo_smith h) _).length_eq, List.length_range]; omega
  · exact ⟨small_nil, by simp⟩
theorem short_ot (js : List JobD) : Small (otL js) ∧ (otL js).length ≤ 1000000 := by
  unfold otL
  split
  · rename_i h
    have h2 := (jobs_all h).2.1
    have hl : ∀ x ∈ ordJ js, x < js.length := fun x hx => ordL_lt _ _ x hx
    have h3 := otRun_lt (js := js) (ordJ js) [] [] 0 hl (fun _ h => by cases h) (fun _ h => by cases h)
    have h4 := otRun_len js (ordJ js) [] [] 0
    rw [ordJ_len] at h4
    refine ⟨small_idxs fun x hx => ?_, ?_⟩
    · rcases List.mem_append.1 hx with h5 | h5
      · have := h3.1 x h5; omega
      · have := h3.2 x h5; omega
    · rw [idxs_len, List.length_append]
      unfold otEnd
      simp only [List.length_nil] at h4
      omega
  · exact ⟨small_nil, by simp⟩
theorem bt_ln {W : Nat → Nat → Int} {n : Nat} : ∀ (f : Nat) (r : List Nat) (s : List Nat × Int), r.length + f ≤ n → s.1.length ≤ n + 1 → (btR W n f r s).1.length ≤ n + 1
  | 0, r, s, hr, hs => by
    simp only [btR]
    unfold upd
    split
    · simp only [List.length_cons]; omega
    · exact hs
  | f + 1, r, s, hr, hs => by
    simp only [btR]
    have key : ∀ k, (btK (btR W n f) r s k).1.length ≤ n + 1 := fun k => by
      induction k with
      | zero => exact hs
      | succ k ih =>
        simp only [btK]
        split
        · exact ih
        · exact bt_ln f (r ++ [k + 1]) _ (by rw [List.length_append]; simp; omega) ih
    exact key (n - 1)
theorem short_tour (xs : List Int) : Small (idxs (tourLst xs)) ∧ (idxs (tourLst xs)).length ≤ 1000000 := by
  refine ⟨small_tour xs, ?_⟩
  rw [idxs_len]
  unfold tourLst
  split
  · rename_i h
    obtain ⟨n, hn1, hn10, hxl, hc, hW⟩ := cities_get h
    unfold tourT
    rw [hc, Int.toNat_natCast]
    have := bt_ln (W := cityW xs n) (n := n) (n - 1) [] ([], 0) (by simp) (by simp)
    omega
  · simp
theorem short_sizes {xs : List Int} (h : areSizesB xs = true) : Small xs ∧ xs.length ≤ 1000000 := ⟨small_sizes h, by have := (sizes_all h).1.2; omega⟩
theorem short_ways {xs : List Int} (h : areCitiesB xs = true) : Small xs ∧ xs.length ≤ 1000000 := by
  refine ⟨small_ways h, ?_⟩
  obtain ⟨n, hn1, hn10, hxl, hc, hW⟩ := cities_get h
  have : n * n ≤ 10 * 10 := Nat.mul_le_mul hn10 hn10
  omega
theorem valid_parts {d : DeskD} (h : validDk d = true) : validR d.rows = true ∧ areSizesB d.sizes = true ∧ areJobsB d.jobs = true ∧ areCitiesB d.ways = true := by
  unfold validDk waysB at h
  simp only [Bool.and_eq_true] at h
  exact ⟨h.1, h.2.1, h.2.2.1, h.2.2.2.1⟩
theorem plan_ok {r : RowsD} (h : BitsR r) : BitsF (planS r) ∧ (planS r).length ≤ 256 := by
  unfold planS solvS
  cases e : solvO r 64 nearB with
  | none => exact ⟨fun x hx => by simp at hx, by simp⟩
  | some t =>
    have g := (solvO_good e).dim
    refine ⟨plan_bits (solved_bits h.1 h.2.1 h.2.2 e) _, ?_⟩
    show (planT t).length ≤ 256
    unfold planT
    rw [planK_len]
    have := g.v8
    omega
theorem price_ok {r : RowsD} (h : BitsR r) : BitsF (priceS r) ∧ (priceS r).length ≤ 256 := by
  unfold priceS solvS
  cases e : solvO r 64 nearB with
  | none => exact ⟨fun x hx => by simp at hx, by simp⟩
  | some t =>
    have g := (solvO_good e).dim
    refine ⟨price_bits (solved_bits h.1 h.2.1 h.2.2 e), ?_⟩
    show (priceT t).length ≤ 256
    unfold priceT priceK
    rw [List.length_map, List.length_range]
    have := g.b8
    omega
theorem gain_ok (r : RowsD) (x : List Nat) : BitsF [gainV r x] ∧ [gainV r x].length ≤ 256 := ⟨fun y hy => by
  have := gain_bits r x
  simp at hy
  omega, by simp⟩
theorem solS_any (v : Value) (r : RowsD) (w : World) (h : RdR w v r) :
    Calls Tryz.prog 230 #[v, .int .i64 64, .float .f32 897581056] w fun e w' => ∃ va vb, e = .returned (.tuple #[va, vb, .bool (solvS r).isSome]) ∧ RdF w' va (planS r) ∧ RdF w' vb (priceS r) ∧ Below w.heap.size w w' := by
  refine (solveRowsI_any v r 64 nearB w h).mono ?_
  rintro e w' ⟨va, vb, he, h1, h2, hb⟩
  refine ⟨va, vb, he, ?_, ?_, hb⟩
  · unfold planS solvS
    cases e : solvO r 64 nearB with
    | none => rw [(h2 e).1]; exact Slc.nil _
    | some t => exact (h1 t e).1
  · unfold priceS solvS
    cases e : solvO r 64 nearB with
    | none => rw [(h2 e).2]; exact Slc.nil _
    | some t => exact (h1 t e).2
end Go.Proofs.YtgkbbpajkbkgnaaGreatDoor

namespace Go.Proofs.YtgkbbpajkbkgnaaGreatDoor
open Go.RowKit
def plainC (b : UInt8) : Prop := wordC b ∨ b = 44 ∨ b = 45 ∨ b = 59 ∨ b = 110 ∨ b = 111
def PlainB (s : ByteArray) : Prop := ∀ b ∈ s.data.toList, plainC b
theorem plain_not {s : ByteArray} (h : PlainB s) {c : UInt8} (hc : ¬ plainC c) : c ∉ s.data.toList := fun hm => hc (h c hm)
theorem np10 : ¬ plainC 10 := by unfold plainC wordC; decide
theorem plain_word {s : ByteArray} (h : WordB s) : PlainB s := fun b hb => .inl (h.2 b hb)
theorem plain_none : PlainB noneS := by
  intro b hb
  have hb : b ∈ [110, 111, 110, (101 : UInt8)] := hb
  simp only [List.mem_cons, List.not_mem_nil, or_false] at hb
  unfold plainC wordC
  rcases hb with rfl | rfl | rfl | rfl <;> decide
theorem plain_text {ws : List ByteArray} (h : ∀ x ∈ ws, WordB x) : PlainB (textS ws) := by
  intro b hb
  unfold textS at hb
  split at hb
  · exact plain_none b hb
  · rcases joinBy_mem hb with rfl | ⟨y, hy, hd⟩
    · exact .inr (.inl rfl)
    · exact .inl ((h y hy).2 b hd)
theorem plain_list (xs : List Int) : PlainB (listT xs) := plain_text (words_dec xs)
theorem plain_num (xs : List Nat) : PlainB (numT xs) := plain_text (words_hex xs)
theorem plain_E0 : PlainB E0 := by intro b hb; have hb : b ∈ ([] : List UInt8) := hb; cases hb
theorem plain_jobs (js : List JobD) : PlainB (jobT js) := by
  unfold jobT
  split
  · exact plain_list _
  · exact plain_E0
theorem plain_rows (r : RowsD) : PlainB (rowT r) := by
  unfold rowT
  split
  · intro b hb
    unfold rowsS at hb
    rcases joinBy_mem hb with rfl | ⟨y, hy, hd⟩
    · exact .inr (.inr (.inr (.inl rfl)))
    · unfold wordsR at hy
      simp only [List.mem_cons, List.not_mem_nil, or_false] at hy
      rcases hy with rfl | rfl | rfl | rfl
      · exact plain_word (word_dec _) b hd
      · exact plain_num _ b hd
      · exact plain_num _ b hd
      · exact plain_num _ b hd
  · exact plain_E0
theorem plain_itoa (n : Int) : PlainB (itoaB n) := by
  intro b hb
  have hb : b ∈ Lib.itoa n := by simpa [itoaB] using hb
  unfold Lib.itoa at hb
  split at hb
  · rw [List.mem_cons] at hb
    rcases hb with rfl | hb
    · exact .inr (.inr (.inl rfl))
    · exact .inl (.inl (decDigits_mem _ b hb))
  · exact .inl (.inl (decDigits_mem _ b hb))
theorem ways_eight {xs : List Int} (h : waysB xs = true) : areCitiesB xs = true ∧ xs.length ≤ 64 := by
  unfold waysB at h
  rw [Bool.and_eq_true, decide_eq_true_iff] at h
  refine ⟨h.1, ?_⟩
  obtain ⟨n, hn1, hn10, hxl, hc, hW⟩ := cities_get h.1
  have h8 : n ≤ 8 := by omega
  have : n * n ≤ 8 * 8 := Nat.mul_le_mul h8 h8
  omega
theorem list_size {xs : List Int} (h : Small xs) : (listT xs).size ≤ 4 + 19 * xs.length := by
  unfold listT textS
  split
  · exact Nat.le_trans (by decide) (Nat.le_add_right 4 _)
  · have := joinBy_size 44 (wordsN xs) 18 (wordsN_size h)
    rw [wordsN_len] at this
    omega
theorem num_size (xs : List Nat) : (numT xs).size ≤ 4 + 9 * xs.length := by
  unfold numT textS
  split
  · exact Nat.le_trans (by decide) (Nat.le_add_right 4 _)
  · have := joinBy_size 44 (wordsF xs) 8 (wordsF_size xs)
    rw [wordsF_len] at this
    omega
theorem rows_size {r : RowsD} (h : validR r = true) : (rowT r).size ≤ 33 + 9 * (r.nums.length + r.bnds.length + r.gains.length) := by
  have hf := valR_few h
  unfold rowT
  rw [if_pos h, rowsS_eq]
  have h0 := decS_size (n := r.vars.toNat) (by omega)
  have h1 := num_size r.nums
  have h2 := num_size r.bnds
  have h3 := num_size r.gains
  simp only [ByteArray.size_append, show (B1 59).size = 1 from rfl]
  omega
theorem jobs_size {js : List JobD} (h : areJobsB js = true) : (jobT js).size ≤ 4 + 76 * js.length := by
  have hl := numsK_len js js.length (Nat.le_refl _)
  unfold jobT
  rw [if_pos h]
  have := list_size (nums_sm h)
  rw [hl] at this
  omega
theorem itoa_size {n : Int} (h : InZ n) : (itoaB n).size ≤ 17 := (itoaB_size h.1 h.2).2
end Go.Proofs.YtgkbbpajkbkgnaaGreatDoor

namespace Go.Proofs.YtgkbbpajkbkgnaaGreatDoor
open Go.RowKit
theorem Split_any (t : ByteArray) (w : World) (h : HasMax w) (ht : t.size ≤ 1048576) :
    Calls Tryz.prog 83 #[.string t, .string ⟨#[10]⟩] w fun e w' => e = .returned (.slice (some ⟨w.heap.size, 0, none⟩) (cutS 10 t).length (cutS 10 t).length) ∧ w' = w.alloc (.cells ((cutS 10 t).map SV).toArray 9) := by
  obtain ⟨m, hm⟩ := h
  refine (Tryz.strings_Split t ⟨#[10]⟩ m w (by omega) hm (by show 1 ≤ 1; omega)).mono ?_
  rintro e w' ⟨rfl, rfl⟩
  have h1 := Lib.splitB_all ⟨#[10]⟩ (by show 1 ≤ 1; omega) 0 _ t rfl
  rw [splitB_cutS] at h1 ⊢
  rw [h1]
  exact ⟨rfl, rfl⟩
theorem slc_lines (t : ByteArray) (w : World) (hz : t.size ≤ 1048576) : Slc (w.alloc (.cells ((cutS 10 t).map SV).toArray 9)) (.slice (some ⟨w.heap.size, 0, none⟩) (linesS t).length (cutS 10 t).length) ((linesS t).map SV) := by
  have hp := cutS_pos 10 t
  have hl := linesS_cnt t
  have hc := cutS_cnt 10 t
  refine .inr ⟨⟨w.heap.size, 0, none⟩, (cutS 10 t).length, by rw [List.length_map], by rw [List.length_map, hl]; omega, by unfold maxLen; omega, fun i u hi => ?_⟩
  have hil : i < (linesS t).length := by have := (List.getElem?_eq_some_iff.1 hi).1; simpa using this
  have h1 : (w.alloc (.cells ((cutS 10 t).map SV).toArray 9)).heap[w.heap.size]? = some (.cells ((cutS 10 t).map SV).toArray 9) := heap_alloc_new w _
  have h2 : ((⟨w.heap.size, 0, none⟩ : Addr).add i) = ⟨w.heap.size, i, none⟩ := by unfold Addr.add; split <;> simp_all
  rw [h2]
  simp only [World.cell?, h1]
  have h3 : ((linesS t).map SV)[i]? = ((cutS 10 t).map SV)[i]? := by
    unfold linesS
    rw [cutS_lines, List.getElem?_map, List.getElem?_map, List.getElem?_dropLast, if_pos (by omega)]
  rw [h3] at hi
  simpa using hi
set_option maxHeartbeats 2000000 in
set_option maxRecDepth 4000 in
theorem linesOf_any (t : ByteArray) (w : World) (hm : HasMax w) (ht : t.size ≤ 1048576) :
    Calls Tryz.prog 53 #[.string t] w fun e w' => ∃ v, e = .returned (.tuple #[v, .bool (coOk t)]) ∧ (coOk t = true → ∃ a cap, v = .slice a (linesS t).length cap ∧ Slc w' (.slice a (linesS t).length cap) ((linesS t).map SV) ∧ ∃ g cs, a = some ⟨g, 0, none⟩ ∧ w.heap.size ≤ g ∧ Blk w' g 9 cs) ∧ Below w.heap.size w w' := by
  have HM := Lib.hid hm
  clear hm
  by_cases hbig : 16000 < t.size
  · have HOK := Lib.hid (show coOk t = false by unfold coOk; rw [show decide (t.size ≤ 16000) = false by simp; omega]; rfl)
    have hbI : decide ((16000 : Int) < (t.size : Int)) = true := by simp; omega
    go_enter Tryz.func53, Tryz.ntmps53
    go_wp2_with fail
    go_ret2
    exact ⟨_, by rw [HOK.out]; rfl, fun h => (by rw [HOK.out] at h; cases h), Below.refl _ _⟩
  have hbI : ¬ (16000 : Int) < (t.size : Int) := by omega
  have h16 : decide (t.size ≤ 16000) = true := by simp; omega
  have HSP := Lib.hid (fun W h => Split_any t W h ht)
  have HSL := Lib.hid (fun W => slc_lines t W ht)
  obtain ⟨p, hp⟩ : ∃ p, (cutS 10 t).length = p + 1 := ⟨(cutS 10 t).length - 1, by have := cutS_pos 10 t; omega⟩
  have hpb : p ≤ 1048576 := by have := cutS_cnt 10 t; omega
  have hpl : p = (linesS t).length := by rw [linesS_cnt, hp]; rfl
  rw [← hpl] at HSL ⊢
  rw [hp] at HSP HSL

  clear hp hpl
  by_cases he : t.size = 0
  · have ht0 : t = ⟨#[]⟩ := by
      refine ByteArray.ext (Array.ext' ?_)
      have : t.data.toList.length = 0 := by rw [Array.length_toList]; exact he
      rw [List.length_eq_zero_iff.1 this]
    have HOK := Lib.hid (show coOk t = true by unfold coOk; rw [h16, ht0, lastP_empty]; rfl)
    have hes : (t.toList == []) = true := by rw [ht0, ByteArray.toList_eq]; rfl
    clear ht0 h16
    all_goals
      go_enter Tryz.func53, Tryz.ntmps53
      go_wp2_with fail
      refine (HSP.out _ HM.out).mono ?_
      rintro e w1 ⟨rfl, hw1'⟩
      have HW1 := Lib.hid hw1'
      have HB1 := Lib.hid (show Below w.heap.size w w1 by rw [hw1']; exact (Below.refl _ _).alloc (Nat.le_refl _) _)
      clear hw1'
      have hx1 : IntKind.i64.wrap (((p + 1 : Nat) : Int) - 1) = (p : Int) := by rw [show (((p + 1 : Nat) : Int) - 1) = (p : Int) by omega]; exact IntWalk.i64_in _ (by omega)
      have hx2 : IntKind.i64.wrap ((p : Int) + 1 - 1) = (p : Int) := by rw [show ((p : Int) + 1 - 1) = (p : Int) by omega]; exact IntWalk.i64_in _ (by omega)
      have g0 : (0 : Int) ≤ (p : Int) := by omega
      have g1 : (p : Int) ≤ (p : Int) + 1 := by omega
      have g3 : ((p : Int)).toNat = p := by omega
      go_wp2_with fail
      go_ret2
      refine ⟨.slice (some ⟨w.heap.size, 0, none⟩) p (p + 1), by rw [HOK.out]; rfl, fun _ => ⟨some ⟨w.heap.size, 0, none⟩, p + 1, rfl, ?_⟩, HB1.out⟩
      rw [HW1.out]
      exact ⟨HSL.out w, _, _, rfl, Nat.le_refl _, Blk.new _ _ _⟩
  · have hlt1 : t.size - 1 < t.size := by omega
    have hes : (t.toList == []) = false := by
      cases hb : t.toList == []
      · rfl
      · exfalso
        have := eq_of_beq hb
        rw [ByteArray.toList_eq] at this
        have h0 : t.data.toList.length = 0 := by rw [this]; rfl
        rw [Array.length_toList] at h0
        exact he h0
    have hw1 : IntKind.i64.wrap ((t.size : Int) - 1) = ((t.size - 1 : Nat) : Int) := by rw [show ((t.size : Int) - 1) = ((t.size - 1 : Nat) : Int) by omega]; exact IntWalk.i64_in _ (by omega)
    by_cases hnl : t[t.size - 1] = 10
    · have HOK := Lib.hid (show coOk t = true by unfold coOk; rw [h16, show decide ((lastP t).size = 0) = true by rw [decide_eq_true_iff, lastP_size (by omega)]; exact hnl]; rfl)
      have hq : ((t[t.size - 1].toNat : Int) != 10) = false := by rw [hnl]; rfl
      clear hnl h16
      all_goals
      go_enter Tryz.func53, Tryz.ntmps53
      go_wp2_with fail
      refine (HSP.out _ HM.out).mono ?_
      rintro e w1 ⟨rfl, hw1'⟩
      have HW1 := Lib.hid hw1'
      have HB1 := Lib.hid (show Below w.heap.size w w1 by rw [hw1']; exact (Below.refl _ _).alloc (Nat.le_refl _) _)
      clear hw1'
      have hx1 : IntKind.i64.wrap (((p + 1 : Nat) : Int) - 1) = (p : Int) := by rw [show (((p + 1 : Nat) : Int) - 1) = (p : Int) by omega]; exact IntWalk.i64_in _ (by omega)
      have hx2 : IntKind.i64.wrap ((p : Int) + 1 - 1) = (p : Int) := by rw [show ((p : Int) + 1 - 1) = (p : Int) by omega]; exact IntWalk.i64_in _ (by omega)
      have g0 : (0 : Int) ≤ (p : Int) := by omega
      have g1 : (p : Int) ≤ (p : Int) + 1 := by omega
      have g3 : ((p : Int)).toNat = p := by omega
      go_wp2_with fail
      go_ret2
      refine ⟨.slice (some ⟨w.heap.size, 0, none⟩) p (p + 1), by rw [HOK.out]; rfl, fun _ => ⟨some ⟨w.heap.size, 0, none⟩, p + 1, rfl, ?_⟩, HB1.out⟩
      rw [HW1.out]
      exact ⟨HSL.out w, _, _, rfl, Nat.le_refl _, Blk.new _ _ _⟩
    · have HOK := Lib.hid (show coOk t = false by
        unfold coOk
        rw [show decide ((lastP t).size = 0) = false by rw [decide_eq_false_iff_not, lastP_size (by omega)]; exact hnl, Bool.and_false])
      have hq : ((t[t.size - 1].toNat : Int) != 10) = true := by
        simp only [bne_iff_ne, ne_eq]
        intro h
        exact hnl (UInt8.toNat_inj.1 (by show t[t.size - 1].toNat = 10; omega))
      clear hnl h16
      go_enter Tryz.func53, Tryz.ntmps53
      go_wp2_with fail
      go_ret2
      exact ⟨_, by rw [HOK.out]; rfl, fun h => (by rw [HOK.out] at h; cases h), Below.refl _ _⟩
end Go.Proofs.YtgkbbpajkbkgnaaGreatDoor

namespace Go.Proofs.YtgkbbpajkbkgnaaGreatDoor
open Go.RowKit
def scr : List ByteArray → ByteArray
  | [] => E0
  | l :: r => l ++ B1 10 ++ scr r
theorem scr_app : ∀ (a b : List ByteArray), scr (a ++ b) = scr a ++ scr b
  | [], b => by show scr b = E0 ++ scr b; rw [show E0 = ByteArray.empty from rfl, ByteArray.empty_append]
  | l :: r, b => by
    show l ++ B1 10 ++ scr (r ++ b) = l ++ B1 10 ++ scr r ++ scr b
    rw [scr_app r b, ByteArray.append_assoc (a := l ++ B1 10)]
theorem scr_one (l : ByteArray) : scr [l] = l ++ B1 10 := by
  show l ++ B1 10 ++ E0 = _
  rw [show E0 = ByteArray.empty from rfl, ByteArray.append_empty]
theorem scr_snoc (a : List ByteArray) (l : ByteArray) : scr (a ++ [l]) = scr a ++ (l ++ B1 10) := by rw [scr_app, scr_one]
theorem scr_take (ls : List ByteArray) (k : Nat) (h : k < ls.length) : scr (ls.take (k + 1)) = scr (ls.take k) ++ (ls.getD k E0 ++ B1 10) := by
  rw [List.take_add_one, List.getElem?_eq_getElem h, List.getD_eq_getElem?_getD, List.getElem?_eq_getElem h]
  exact scr_snoc _ _
theorem scr_data (l : ByteArray) (r : List ByteArray) : (scr (l :: r)).data.toList = l.data.toList ++ 10 :: (scr r).data.toList := by
  show (l ++ B1 10 ++ scr r).data.toList = _
  rw [ByteArray.data_append, ByteArray.data_append, Array.toList_append, Array.toList_append, List.append_assoc]
  rfl
def NoNL (ls : List ByteArray) : Prop := ∀ x ∈ ls, (10 : UInt8) ∉ x.data.toList
theorem scr_parts : ∀ {ls : List ByteArray}, NoNL ls → partsC 10 (scr ls).data.toList = ls.map (·.data.toList) ++ [[]]
  | [], _ => rfl
  | l :: r, h => by
    rw [scr_data, partsC_hit (h l (by simp)), scr_parts (fun x hx => h x (by simp [hx]))]
    rfl
theorem scr_lines {ls : List ByteArray} (h : NoNL ls) : linesS (scr ls) = ls := by
  unfold linesS linesL
  rw [scr_parts h, List.dropLast_concat, List.map_map]
  have : (mkB ∘ fun (s : ByteArray) => s.data.toList) = id := by funext s; exact mkB_of s
  rw [this, List.map_id]
theorem scr_ok {ls : List ByteArray} (h : NoNL ls) (hs : (scr ls).size ≤ 16000) : coOk (scr ls) = true := by
  obtain ⟨e, he, hl⟩ := lastP_last (scr ls)
  rw [scr_parts h, List.getLast?_concat] at he
  cases he
  unfold coOk
  rw [hl, decide_eq_true hs]
  rfl
theorem scr_size : ∀ {ls : List ByteArray} {N : Nat}, (∀ x ∈ ls, x.size ≤ N) → (scr ls).size ≤ (N + 1) * ls.length
  | [], N, _ => by simp [scr, E0, ByteArray.size]
  | l :: r, N, h => by
    have ih := scr_size (ls := r) (N := N) fun x hx => h x (by simp [hx])
    have h1 := h l (by simp)
    show (l ++ B1 10 ++ scr r).size ≤ _
    rw [ByteArray.size_append, ByteArray.size_append, show (B1 10).size = 1 from rfl, List.length_cons, Nat.mul_succ]
    omega
noncomputable def stK (d : DeskD) (ls : List ByteArray) : Nat → DeskD
  | 0 => d
  | k + 1 => (cmdK (stK d ls k) (ls.getD k E0)).1
noncomputable def ansK (d : DeskD) (ls : List ByteArray) (k : Nat) : ByteArray := (cmdK (stK d ls k) (ls.getD k E0)).2
noncomputable def outsK (d : DeskD) (ls : List ByteArray) (k : Nat) : List ByteArray := (List.range k).map (ansK d ls)
theorem outsK_succ (d : DeskD) (ls : List ByteArray) (k : Nat) : outsK d ls (k + 1) = outsK d ls k ++ [ansK d ls k] := by
  unfold outsK
  rw [List.range_succ, List.map_append]
  rfl
theorem outsK_len (d : DeskD) (ls : List ByteArray) (k : Nat) : (outsK d ls k).length = k := by simp [outsK]
theorem outsK_scr (d : DeskD) (ls : List ByteArray) (k : Nat) : scr (outsK d ls (k + 1)) = scr (outsK d ls k) ++ (ansK d ls k ++ B1 10) := by rw [outsK_succ, scr_snoc]
theorem stK_valid {d : DeskD} (h : validDk d = true) (ls : List ByteArray) : ∀ k, validDk (stK d ls k) = true
  | 0 => h
  | k + 1 => cmd_valid (stK_valid h ls k) _
theorem stK_bits {d : DeskD} (h : BitsD d) (ls : List ByteArray) : ∀ k, BitsD (stK d ls k)
  | 0 => h
  | k + 1 => cmd_bits (stK_bits h ls k) _
noncomputable def rdkD (d : DeskD) (s : ByteArray) : DeskD := stK d (linesS s) (linesS s).length
noncomputable def rdkT (d : DeskD) (s : ByteArray) : ByteArray := scr (outsK d (linesS s) (linesS s).length)
end Go.Proofs.YtgkbbpajkbkgnaaGreatDoor
