/-
  FnTop: texts joined: TopM, FdM.
-/
import Derived.Test.YtgkbbpajkbkgnaaGreatDoorMFnTopBI
set_option linter.unusedVariables false
set_option linter.unusedSimpArgs false
namespace Go.Proofs.YtgkbbpajkbkgnaaGreatDoor
open Go.RowKit Go.Sort
theorem ba_list (a b : ByteArray) : (a ++ b).data.toList = a.data.toList ++ b.data.toList := by rw [ByteArray.data_append, Array.toList_append]
theorem two_words {k x : ByteArray} (hk : (32 : UInt8) ∉ k.data.toList) (hx : (32 : UInt8) ∉ x.data.toList) : cutS 32 (k ++ B1 32 ++ x) = [k, x] := by
  unfold cutS
  rw [ba_list, ba_list, List.append_assoc, show (B1 32).data.toList ++ x.data.toList = 32 :: x.data.toList from rfl, partsC_hit hk, partsC_none hx]
  simp only [List.map_cons, List.map_nil, mkB_of]
theorem one_word {k : ByteArray} (hk : (32 : UInt8) ∉ k.data.toList) : cutS 32 k = [k] := by
  unfold cutS
  rw [partsC_none hk]
  simp only [List.map_cons, List.map_nil, mkB_of]
theorem car_two {d : DeskD} {k x : ByteArray} (hk : (32 : UInt8) ∉ k.data.toList) (hx : (32 : UInt8) ∉ x.data.toList) : carK d (k ++ B1 32 ++ x) = twoK d k x := by
  unfold carK
  rw [two_words hk hx, if_pos (show [k, x].length = 2 from rfl)]
  rfl
theorem cmd_yes {d d' : DeskD} {s y : ByteArray} (h : carK d s = (d', y, true, true)) (hv : validDk d' = true) : cmdK d s = (d', y) := by
  unfold cmdK
  rw [h]
  simp [hv]
theorem cmd_what {d d' : DeskD} {s y : ByteArray} {ok : Bool} (h : carK d s = (d', y, ok, false)) : cmdK d s = (d, kwWhat) := by
  unfold cmdK
  rw [h]
  simp
theorem cmd_set {d d' : DeskD} {k x : ByteArray} (hk : (32 : UInt8) ∉ k.data.toList) (hx : (32 : UInt8) ∉ x.data.toList) (h : setK d k x = some (d', true)) (hv : validDk d' = true) : cmdK d (k ++ B1 32 ++ x) = (d', kwOk) := by
  refine cmd_yes ?_ hv
  rw [car_two hk hx]
  unfold twoK
  rw [h]
theorem cmd_cnt {d : DeskD} {k x : ByteArray} {n m : Int} (hk : (32 : UInt8) ∉ k.data.toList) (hx : (32 : UInt8) ∉ x.data.toList) (hs : setK d k x = none) (hd : k ≠ kwDrop) (hn : valN x = n) (ho : valOk x = true) (h : countK d k n = some (m, true)) (hv : validDk d = true) : cmdK d (k ++ B1 32 ++ x) = (d, itoaB m) := by
  refine cmd_yes ?_ hv
  rw [car_two hk hx]
  unfold twoK
  rw [hs]
  dsimp only
  rw [if_neg hd, hn, h]
  simp [ho]
theorem cmd_none {d : DeskD} {k x : ByteArray} (hk : (32 : UInt8) ∉ k.data.toList) (hx : (32 : UInt8) ∉ x.data.toList) (hs : setK d k x = none) (hd : k ≠ kwDrop) (h : countK d k (valN x) = none) : cmdK d (k ++ B1 32 ++ x) = (d, kwWhat) := by
  refine cmd_what (d' := d) (y := itoaB 0) (ok := false) ?_
  rw [car_two hk hx]
  unfold twoK
  rw [hs]
  dsimp only
  rw [if_neg hd, h]
theorem cmd_tell {d : DeskD} {k y : ByteArray} (hk : (32 : UInt8) ∉ k.data.toList) (hs : k ≠ kwScale) (h : tellK d k = some (y, true)) (hv : validDk d = true) : cmdK d k = (d, y) := by
  refine cmd_yes ?_ hv
  unfold carK
  rw [one_word hk, if_neg (by simp), if_neg (by simp), if_neg hs, h]
theorem cmd_scale {d : DeskD} (h : scaleOk d.rows = true) (hv : validDk d = true) : cmdK d kwScale = ({ d with rows := scaleV d.rows }, kwOk) := by
  refine cmd_yes ?_ ?_
  · unfold carK
    rw [one_word (by decide), if_neg (by simp), if_neg (by simp), if_pos rfl, h]
  · have h2 := h
    unfold scaleOk at h2
    rw [Bool.and_eq_true] at h2
    unfold validDk at hv ⊢
    rw [Bool.and_eq_true] at hv ⊢
    refine ⟨?_, hv.2⟩
    show validR (scaleV d.rows) = true
    unfold scaleV
    rw [if_pos h]
    exact h2.2
theorem bad_head {x : ByteArray} (h : ∀ b, x.data.toList.head? = some b → b ≠ 110 ∧ b ≠ 119) : isBad x = false := by
  unfold isBad
  rw [ByteArray.toList_eq]
  cases hl : x.data.toList with
  | nil => rfl
  | cons b r =>
    rw [hl] at h
    have := h b rfl
    rw [Bool.or_eq_false_iff]
    constructor
    · rw [beq_eq_false_iff_ne]
      intro e
      injection e with e1 _
      exact this.1 e1
    · rw [beq_eq_false_iff_ne]
      intro e
      injection e with e1 _
      exact this.2 e1
theorem wordC_head {b : UInt8} (h : wordC b) : b ≠ 110 ∧ b ≠ 119 := ⟨wordC_ne h not110, wordC_ne h (by unfold wordC; decide)⟩
theorem head_word {x : ByteArray} (h : WordB x) : ∃ b r, x.data.toList = b :: r ∧ wordC b := by
  cases hl : x.data.toList with
  | nil =>
    have h1 := h.1
    have h2 : x.size = 0 := by rw [show x.size = x.data.toList.length by (rw [Array.length_toList]; rfl), hl]; rfl
    omega
  | cons b r => exact ⟨b, r, rfl, h.2 b (by rw [hl]; simp)⟩
theorem bad_join {c : UInt8} {x : ByteArray} {r : List ByteArray} (h : WordB x) : isBad (joinBy c (x :: r)) = false := by
  refine bad_head fun b hb => ?_
  obtain ⟨b', t, e, hw⟩ := head_word h
  rw [joinBy_list, e] at hb
  simp only [List.cons_append, List.head?_cons, Option.some.injEq] at hb
  subst hb
  exact wordC_head hw
theorem bad_text {ws : List ByteArray} (h : ∀ x ∈ ws, WordB x) : isBad (textS ws) = false := by
  cases ws with
  | nil => decide +kernel
  | cons x r => exact bad_join (h x (by simp))
theorem bad_list (xs : List Int) : isBad (listT xs) = false := bad_text (words_dec xs)
theorem bad_E0 : isBad E0 = false := by decide +kernel
theorem bad_jobs (js : List JobD) : isBad (jobT js) = false := by
  unfold jobT
  split
  · exact bad_list _
  · exact bad_E0
theorem bad_rows (r : RowsD) : isBad (rowT r) = false := by
  unfold rowT
  split
  · exact bad_join (word_dec _)
  · exact bad_E0
theorem bad_itoa (n : Int) : isBad (itoaB n) = false := by
  refine bad_head fun b hb => ?_
  have hb : (Lib.itoa n).head? = some b := by simpa [itoaB] using hb
  have hm := List.mem_of_head? hb
  unfold Lib.itoa at hm hb
  split at hm
  · rename_i hn
    rw [if_pos hn] at hb
    simp only [List.head?_cons, Option.some.injEq] at hb
    subst hb
    exact ⟨by decide, by decide⟩
  · exact wordC_head (.inl (decDigits_mem _ b hm))
abbrev kwBin : ByteArray := ⟨#[98, 105, 110]⟩
noncomputable def topL (d : DeskD) (n : Int) : List ByteArray := [kwRows ++ B1 32 ++ rowT d.rows, kwSizes ++ B1 32 ++ listT d.sizes, kwJobs ++ B1 32 ++ jobT d.jobs, kwWays ++ B1 32 ++ listT d.ways,
  kwRows, kwSizes, kwJobs, kwWays, kwFill ++ B1 32 ++ itoaB n, kwBins ++ B1 32 ++ itoaB n, kwBin ++ B1 32 ++ itoaB n, kwTour, kwLong, kwDue, kwLate, kwList ++ B1 32 ++ itoaB 2, kwScale]
noncomputable def topO (d : DeskD) (n : Int) : List ByteArray := [kwOk, kwOk, kwOk, kwOk, rowT d.rows, listT d.sizes, jobT d.jobs, listT d.ways, itoaB (fillN d.sizes n), itoaB (fbN d.sizes n), kwWhat,
  listT (idxs (tourLst d.ways)), itoaB (tourLng d.ways), listT (dueL d.jobs), itoaB (lateN d.jobs), itoaB (lpE d.jobs 2), kwOk]
noncomputable def topD (d : DeskD) : DeskD := { d with rows := scaleV d.rows }
theorem newD_valid : validR newD.rows = true ∧ areSizesB newD.sizes = true ∧ areJobsB newD.jobs = true ∧ waysB newD.ways = true := by
  refine ⟨validR_true ⟨by decide, by decide, by decide, by decide, by decide, by decide, by decide +kernel, by decide +kernel, ?_⟩, by decide +kernel, by decide +kernel, by decide +kernel⟩
  intro i hi
  have hi : i < 2 := hi
  have : i = 0 ∨ i = 1 := by omega
  rcases this with rfl | rfl
  · decide +kernel
  · decide +kernel
theorem top_steps {d : DeskD} (h : validDk d = true) (hb : BitsD d) {n : Int} (h0 : 0 ≤ n) (h1 : n ≤ 1000) (hm : maxL d.sizes ≤ n) (hs : scaleOk d.rows = true) :
    stK newD (topL d n) 17 = topD d ∧ outsK newD (topL d n) 17 = topO d n := by
  obtain ⟨y1, y2, y3, y4⟩ := valid_parts h
  have y5 : waysB d.ways = true := by
    unfold validDk at h
    simp only [Bool.and_eq_true] at h
    exact h.2.2.2
  obtain ⟨z1, z2, z3, z4⟩ := newD_valid
  have vd : ∀ {e : DeskD}, validR e.rows = true → areSizesB e.sizes = true → areJobsB e.jobs = true → waysB e.ways = true → validDk e = true := fun a b c e => by
    unfold validDk
    rw [a, b, c, e]; rfl
  have b1 := rows_back y1 hb
  have b2 := sizes_back y2
  have b3 := jobs_back y3
  have b4 := ways_back y5
  have p1 := plain_not (plain_rows d.rows) np32
  have p2 := plain_not (plain_list d.sizes) np32
  have p3 := plain_not (plain_jobs d.jobs) np32
  have p4 := plain_not (plain_list d.ways) np32
  have pn : ∀ n, (32 : UInt8) ∉ (itoaB n).data.toList := fun n => plain_not (plain_itoa n) np32
  have vn : ∀ {n : Int}, 0 ≤ n → n ≤ 1000 → valN (itoaB n) = n ∧ valOk (itoaB n) = true := fun h0 h1 => valN_some (valB_itoa _ (by omega) (by omega))
  have c1 : cmdK newD (kwRows ++ B1 32 ++ rowT d.rows) = ({ newD with rows := d.rows }, kwOk) := cmd_set (by decide) p1 (by unfold setK; rw [if_pos rfl, b1.1, b1.2]) (vd y1 z2 z3 z4)
  have c2 : cmdK { newD with rows := d.rows } (kwSizes ++ B1 32 ++ listT d.sizes) = ({ newD with rows := d.rows, sizes := d.sizes }, kwOk) := cmd_set (by decide) p2 (by unfold setK; rw [if_neg (by decide), if_pos rfl, b2.1, b2.2]) (vd y1 y2 z3 z4)
  have c3 : cmdK { newD with rows := d.rows, sizes := d.sizes } (kwJobs ++ B1 32 ++ jobT d.jobs) = ({ newD with rows := d.rows, sizes := d.sizes, jobs := d.jobs }, kwOk) := cmd_set (by decide) p3 (by unfold setK; rw [if_neg (by decide), if_neg (by decide), if_pos rfl, b3.1, b3.2]) (vd y1 y2 y3 z4)
  have c4 : cmdK { newD with rows := d.rows, sizes := d.sizes, jobs := d.jobs } (kwWays ++ B1 32 ++ listT d.ways) = (d, kwOk) := cmd_set (by decide) p4 (by unfold setK; rw [if_neg (by decide), if_neg (by decide), if_neg (by decide), if_pos rfl, b4.1, b4.2]) h
  have c5 : cmdK d kwRows = (d, rowT d.rows) := cmd_tell (by decide) (by decide) (by unfold tellK; rw [if_pos rfl, y1]) h
  have c6 : cmdK d kwSizes = (d, listT d.sizes) := cmd_tell (by decide) (by decide) (by unfold tellK; rw [if_neg (by decide), if_pos rfl]) h
  have c7 : cmdK d kwJobs = (d, jobT d.jobs) := cmd_tell (by decide) (by decide) (by unfold tellK; rw [if_neg (by decide), if_neg (by decide), if_pos rfl, y3]) h
  have c8 : cmdK d kwWays = (d, listT d.ways) := cmd_tell (by decide) (by decide) (by unfold tellK; rw [if_neg (by decide), if_neg (by decide), if_neg (by decide), if_pos rfl]) h
  have ns : ∀ (k x : ByteArray), k ≠ kwRows → k ≠ kwSizes → k ≠ kwJobs → k ≠ kwWays → setK d k x = none := fun k x a b c e => by
    unfold setK
    rw [if_neg a, if_neg b, if_neg c, if_neg e]
  have c9 : cmdK d (kwFill ++ B1 32 ++ itoaB n) = (d, itoaB (fillN d.sizes n)) := cmd_cnt (by decide) (pn n) (ns _ _ (by decide) (by decide) (by decide) (by decide)) (by decide) (vn h0 h1).1 (vn h0 h1).2 (by
    unfold countK
    rw [if_pos rfl]
    unfold fillB
    rw [y2, show inB 0 1000 n = true by rw [inB_iff]; omega]; rfl) h
  have c10 : cmdK d (kwBins ++ B1 32 ++ itoaB n) = (d, itoaB (fbN d.sizes n)) := cmd_cnt (by decide) (pn n) (ns _ _ (by decide) (by decide) (by decide) (by decide)) (by decide) (vn h0 h1).1 (vn h0 h1).2 (by
    unfold countK
    rw [if_neg (by decide), if_pos rfl]
    unfold fbB
    rw [y2, show inB 0 1000 n = true by rw [inB_iff]; omega, decide_eq_true hm]; rfl) h
  have c11 : cmdK d (kwBin ++ B1 32 ++ itoaB n) = (d, kwWhat) := cmd_none (by decide) (pn n) (ns _ _ (by decide) (by decide) (by decide) (by decide)) (by decide) (by
    unfold countK
    rw [if_neg (by decide), if_neg (by decide), if_neg (by decide), if_neg (by decide), if_neg (by decide), if_neg (by decide)])
  have y4' : areCitiesB d.ways = true := y4
  have c12 : cmdK d kwTour = (d, listT (idxs (tourLst d.ways))) := cmd_tell (by decide) (by decide) (by
    unfold tellK
    rw [if_neg (by decide), if_neg (by decide), if_neg (by decide), if_neg (by decide), if_neg (by decide), if_neg (by decide), if_neg (by decide), if_neg (by decide), if_pos rfl, y4']) h
  have c13 : cmdK d kwLong = (d, itoaB (tourLng d.ways)) := cmd_tell (by decide) (by decide) (by
    unfold tellK
    rw [if_neg (by decide), if_neg (by decide), if_neg (by decide), if_neg (by decide), if_neg (by decide), if_neg (by decide), if_neg (by decide), if_neg (by decide), if_neg (by decide), if_pos rfl, y4']) h
  have c14 : cmdK d kwDue = (d, listT (dueL d.jobs)) := cmd_tell (by decide) (by decide) (by
    unfold tellK
    rw [if_neg (by decide), if_neg (by decide), if_neg (by decide), if_neg (by decide), if_neg (by decide), if_neg (by decide), if_neg (by decide), if_neg (by decide), if_neg (by decide), if_neg (by decide), if_neg (by decide), if_pos rfl, y3]) h
  have c15 : cmdK d kwLate = (d, itoaB (lateN d.jobs)) := cmd_tell (by decide) (by decide) (by
    unfold tellK
    rw [if_neg (by decide), if_neg (by decide), if_neg (by decide), if_neg (by decide), if_neg (by decide), if_neg (by decide), if_neg (by decide), if_neg (by decide), if_neg (by decide), if_neg (by decide), if_neg (by decide), if_neg (by decide), if_neg (by decide), if_neg (by decide), if_pos rfl, y3]) h
  have c16 : cmdK d (kwList ++ B1 32 ++ itoaB 2) = (d, itoaB (lpE d.jobs 2)) := cmd_cnt (by decide) (pn 2) (ns _ _ (by decide) (by decide) (by decide) (by decide)) (by decide) (vn (by omega) (by omega)).1 (vn (by omega) (by omega)).2 (by
    unfold countK
    rw [if_neg (by decide), if_neg (by decide), if_neg (by decide), if_neg (by decide), if_pos rfl]
    unfold machB
    rw [y3]; rfl) h
  have c17 : cmdK d kwScale = (topD d, kwOk) := cmd_scale hs h
  obtain ⟨L, hL⟩ : ∃ L, L = topL d n := ⟨_, rfl⟩
  have s0 : stK newD L 0 = newD := rfl
  have g : ∀ i x, (topL d n).getD i E0 = x → L.getD i E0 = x := fun i x h => by rw [hL]; exact h
  have st : ∀ {k : Nat} {a b : DeskD} {x y : ByteArray}, stK newD L k = a → L.getD k E0 = x → cmdK a x = (b, y) → stK newD L (k + 1) = b ∧ ansK newD L k = y := fun h1 h2 h3 => by
    unfold ansK
    simp only [stK]
    rw [h1, h2, h3]
    exact ⟨rfl, rfl⟩
  have r1 := st s0 (g 0 _ rfl) c1
  have r2 := st r1.1 (g 1 _ rfl) c2
  have r3 := st r2.1 (g 2 _ rfl) c3
  have r4 := st r3.1 (g 3 _ rfl) c4
  have r5 := st r4.1 (g 4 _ rfl) c5
  have r6 := st r5.1 (g 5 _ rfl) c6
  have r7 := st r6.1 (g 6 _ rfl) c7
  have r8 := st r7.1 (g 7 _ rfl) c8
  have r9 := st r8.1 (g 8 _ rfl) c9
  have r10 := st r9.1 (g 9 _ rfl) c10
  have r11 := st r10.1 (g 10 _ rfl) c11
  have r12 := st r11.1 (g 11 _ rfl) c12
  have r13 := st r12.1 (g 12 _ rfl) c13
  have r14 := st r13.1 (g 13 _ rfl) c14
  have r15 := st r14.1 (g 14 _ rfl) c15
  have r16 := st r15.1 (g 15 _ rfl) c16
  have r17 := st r16.1 (g 16 _ rfl) c17
  rw [← hL]
  refine ⟨r17.1, ?_⟩
  have e : outsK newD L 17 = [ansK newD L 0, ansK newD L 1, ansK newD L 2, ansK newD L 3, ansK newD L 4, ansK newD L 5, ansK newD L 6, ansK newD L 7, ansK newD L 8, ansK newD L 9, ansK newD L 10, ansK newD L 11, ansK newD L 12, ansK newD L 13, ansK newD L 14, ansK newD L 15, ansK newD L 16] := rfl
  rw [e, r1.2, r2.2, r3.2, r4.2, r5.2, r6.2, r7.2, r8.2, r9.2, r10.2, r11.2, r12.2, r13.2, r14.2, r15.2, r16.2, r17.2]
  rfl
theorem nn_two {k x : ByteArray} (hk : (10 : UInt8) ∉ k.data.toList) (hx : (10 : UInt8) ∉ x.data.toList) : (10 : UInt8) ∉ (k ++ B1 32 ++ x).data.toList := by
  rw [ba_list, ba_list, List.mem_append, List.mem_append]
  rintro ((h | h) | h)
  · exact hk h
  · have h : (10 : UInt8) ∈ ([32] : List UInt8) := h
    simp at h
  · exact hx h
theorem top_nonl (d : DeskD) (n : Int) : NoNL (topL d n) := by
  have p1 := plain_not (plain_rows d.rows) np10
  have p2 := plain_not (plain_list d.sizes) np10
  have p3 := plain_not (plain_jobs d.jobs) np10
  have p4 := plain_not (plain_list d.ways) np10
  have pn : ∀ n, (10 : UInt8) ∉ (itoaB n).data.toList := fun n => plain_not (plain_itoa n) np10
  intro x hx
  unfold topL at hx
  simp only [List.mem_cons, List.not_mem_nil, or_false] at hx
  rcases hx with rfl | rfl | rfl | rfl | rfl | rfl | rfl | rfl | rfl | rfl | rfl | rfl | rfl | rfl | rfl | rfl | rfl
  · exact nn_two (by decide) p1
  · exact nn_two (by decide) p2
  · exact nn_two (by decide) p3
  · exact nn_two (by decide) p4
  · decide
  · decide
  · decide
  · decide
  · exact nn_two (by decide) (pn n)
  · exact nn_two (by decide) (pn n)
  · exact nn_two (by decide) (pn n)
  · decide
  · decide
  · decide
  · decide
  · exact nn_two (by decide) (pn 2)
  · decide
theorem topO_nonl (d : DeskD) (n : Int) : NoNL (topO d n) := by
  have p1 := plain_not (plain_rows d.rows) np10
  have pl : ∀ xs, (10 : UInt8) ∉ (listT xs).data.toList := fun xs => plain_not (plain_list xs) np10
  have p3 := plain_not (plain_jobs d.jobs) np10
  have pn : ∀ n, (10 : UInt8) ∉ (itoaB n).data.toList := fun n => plain_not (plain_itoa n) np10
  intro x hx
  unfold topO at hx
  simp only [List.mem_cons, List.not_mem_nil, or_false] at hx
  rcases hx with rfl | rfl | rfl | rfl | rfl | rfl | rfl | rfl | rfl | rfl | rfl | rfl | rfl | rfl | rfl | rfl | rfl
  · decide
  · decide
  · decide
  · decide
  · exact p1
  · exact pl _
  · exact p3
  · exact pl _
  · exact pn _
  · exact pn _
  · decide
  · exact pl _
  · exact pn _
  · exact pl _
  · exact pn _
  · exact pn _
  · decide
theorem bad_ok : isBad kwOk = false := by decide +kernel
theorem bad_what : isBad kwWhat = true := by decide +kernel
theorem top_bad (d : DeskD) (n : Int) : badK (topO d n) 17 = 1 := by
  have e : ∀ (L : List ByteArray) k, badK L (k + 1) = badK L k + (if isBad (L.getD k E0) = true then 1 else 0) := fun _ _ => rfl
  have g : ∀ i x, (topO d n).getD i E0 = x → isBad x = false → (if isBad ((topO d n).getD i E0) = true then 1 else 0) = 0 := fun i x h1 h2 => by rw [h1, h2]; rfl
  have w : (if isBad ((topO d n).getD 10 E0) = true then 1 else 0) = 1 := by
    rw [show (topO d n).getD 10 E0 = kwWhat from rfl, bad_what]; rfl
  rw [e, e, e, e, e, e, e, e, e, e, e, e, e, e, e, e, e, g 0 _ rfl bad_ok, g 1 _ rfl bad_ok, g 2 _ rfl bad_ok, g 3 _ rfl bad_ok, g 4 _ rfl (bad_rows _), g 5 _ rfl (bad_list _), g 6 _ rfl (bad_jobs _), g 7 _ rfl (bad_list _), g 8 _ rfl (bad_itoa _), g 9 _ rfl (bad_itoa _), w, g 11 _ rfl (bad_list _), g 12 _ rfl (bad_itoa _), g 13 _ rfl (bad_list _), g 14 _ rfl (bad_itoa _), g 15 _ rfl (bad_itoa _), g 16 _ rfl bad_ok]
  rfl
theorem tour_len (xs : List Int) : (idxs (tourLst xs)).length ≤ 11 := by
  rw [idxs_len]
  unfold tourLst
  split
  · rename_i h
    obtain ⟨n, hn1, hn10, hxl, hc, hW⟩ := cities_get h
    unfold tourT
    rw [hc, Int.toNat_natCast]
    have := bt_ln (W := cityW xs n) (n := n) (n - 1) [] ([], 0) (by simp) (by simp)
    omega
  · simp
theorem due_len (js : List JobD) : (dueL js).length ≤ 12 := by
  unfold dueL
  split
  · rename_i h
    have h2 := (jobs_all h).2.1
    rw [idxs_len, ordL_len]; omega
  · simp
theorem scr_cons_size (l : ByteArray) (r : List ByteArray) : (scr (l :: r)).size = l.size + 1 + (scr r).size := by
  show (l ++ B1 10 ++ scr r).size = _
  rw [ByteArray.size_append, ByteArray.size_append]
  rfl
theorem scr_nil_size : (scr []).size = 0 := rfl
theorem two_size (k x : ByteArray) : (k ++ B1 32 ++ x).size = k.size + 1 + x.size := by
  rw [ByteArray.size_append, ByteArray.size_append]
  rfl
theorem size17 (a1 a2 a3 a4 a5 a6 a7 a8 a9 a10 a11 a12 a13 a14 a15 a16 a17 : ByteArray) (N : Nat) (h : a1.size + a2.size + a3.size + a4.size + a5.size + a6.size + a7.size + a8.size + a9.size + a10.size + a11.size + a12.size + a13.size + a14.size + a15.size + a16.size + a17.size + 17 ≤ N) :
    (scr [a1, a2, a3, a4, a5, a6, a7, a8, a9, a10, a11, a12, a13, a14, a15, a16, a17]).size ≤ N := by
  simp only [scr_cons_size, scr_nil_size]
  omega
theorem top_sizes {d : DeskD} (h : validDk d = true) {n : Int} (h0 : 0 ≤ n) (h1 : n ≤ 1000) : (scr (topL d n)).size ≤ 16000 ∧ (scr (topO d n)).size ≤ 16000 := by
  obtain ⟨y1, y2, y3, y4⟩ := valid_parts h
  have y5 : waysB d.ways = true := by
    unfold validDk at h
    simp only [Bool.and_eq_true] at h
    exact h.2.2.2
  have f1 := valR_few y1
  have s1 : (rowT d.rows).size ≤ 2000 := by have := rows_size y1; omega
  have s2 : (listT d.sizes).size ≤ 400 := by have := list_size (small_sizes y2); have := (sizes_all y2).1.2; omega
  have s3 : (jobT d.jobs).size ≤ 1000 := by have := jobs_size y3; have := (jobs_all y3).2.1; omega
  have s4 : (listT d.ways).size ≤ 1300 := by have := list_size (small_ways y4); have := (ways_eight y5).2; omega
  have n1 := itoa_size (n := n) (by unfold InZ; omega)
  have n2 := itoa_size (n := 2) (by unfold InZ; omega)
  have n3 := itoa_size (fillN_rng d.sizes n)
  have n4 := itoa_size (fbN_rng d.sizes n)
  have n5 := itoa_size (lpE_rng d.jobs 2)
  have t1 : (listT (idxs (tourLst d.ways))).size ≤ 300 := by have := list_size (short_tour d.ways).1; have := tour_len d.ways; omega
  have t3 : (listT (dueL d.jobs)).size ≤ 300 := by have := list_size (short_due d.jobs).1; have := due_len d.jobs; omega
  have n6 := itoa_size (tourLng_rng d.ways)
  have n7 := itoa_size (lateN_rng d.jobs)
  constructor
  · unfold topL
    refine size17 _ _ _ _ _ _ _ _ _ _ _ _ _ _ _ _ _ _ ?_
    rw [two_size, two_size, two_size, two_size, two_size, two_size, two_size, two_size]
    generalize (rowT d.rows).size = A1 at *
    generalize (listT d.sizes).size = A2 at *
    generalize (jobT d.jobs).size = A3 at *
    generalize (listT d.ways).size = A4 at *
    generalize (itoaB n).size = A5 at *
    generalize (itoaB 2).size = A6 at *
    have k1 : kwRows.size = 4 := by decide
    have k2 : kwSizes.size = 5 := by decide
    have k3 : kwJobs.size = 4 := by decide
    have k4 : kwWays.size = 4 := by decide
    have k5 : kwFill.size = 4 := by decide
    have k6 : kwBins.size = 4 := by decide
    have k7 : kwBin.size = 3 := by decide
    have k8 : kwTour.size = 4 := by decide
    have k9 : kwLong.size = 4 := by decide
    have k10 : kwDue.size = 3 := by decide
    have k11 : kwLate.size = 4 := by decide
    have k12 : kwList.size = 4 := by decide
    have k13 : kwScale.size = 5 := by decide
    rw [k1, k2, k3, k4, k5, k6, k7, k8, k9, k10, k11, k12, k13]
    clear k1 k2 k3 k4 k5 k6 k7 k8 k9 k10 k11 k12 k13 n3 n4 n5 n6 n7 t1 t3 f1
    omega
  · unfold topO
    refine size17 _ _ _ _ _ _ _ _ _ _ _ _ _ _ _ _ _ _ ?_
    generalize (rowT d.rows).size = A1 at *
    generalize (listT d.sizes).size = A2 at *
    generalize (jobT d.jobs).size = A3 at *
    generalize (listT d.ways).size = A4 at *
    generalize (listT (idxs (tourLst d.ways))).size = A5 at *
    generalize (listT (dueL d.jobs)).size = A6 at *
    generalize (itoaB (fillN d.sizes n)).size = A7 at *
    generalize (itoaB (fbN d.sizes n)).size = A8 at *
    generalize (itoaB (lpE d.jobs 2)).size = A9 at *
    generalize (itoaB (tourLng d.ways)).size = A10 at *
    generalize (itoaB (lateN d.jobs)).size = A11 at *
    have k1 : kwOk.size = 2 := by decide
    have k2 : kwWhat.size = 4 := by decide
    rw [k1, k2]
    clear k1 k2 n1 n2 f1
    omega
end Go.Proofs.YtgkbbpajkbkgnaaGreatDoor

namespace Go.Proofs.YtgkbbpajkbkgnaaGreatDoor
open Go.RowKit Go.Sort
/-- A text without newlines that is not too long. -/
def Told (x : ByteArray) : Prop := (10 : UInt8) ∉ x.data.toList ∧ x.size ≤ 2400
theorem told_plain {x : ByteArray} (h : PlainB x) (hs : x.size ≤ 2400) : Told x := ⟨plain_not h np10, hs⟩
theorem told_list {xs : List Int} (h : Small xs) (hl : xs.length ≤ 100) : Told (listT xs) := told_plain (plain_list _) (by have := list_size h; omega)
theorem told_num {xs : List Nat} (hl : xs.length ≤ 256) : Told (numT xs) := told_plain (plain_num _) (by have := num_size xs; omega)
theorem told_itoa {n : Int} (h : InZ n) : Told (itoaB n) := told_plain (plain_itoa _) (by have := itoa_size h; omega)
theorem told_E0 : Told E0 := ⟨by decide, by decide⟩
theorem told_ok : Told kwOk := ⟨by decide, by decide⟩
theorem told_no : Told kwNo := ⟨by decide, by decide⟩
theorem told_what : Told kwWhat := ⟨by decide, by decide⟩
theorem smith_len (js : List JobD) : (smithL js).length ≤ 12 := by
  unfold smithL
  split
  · rename_i h
    have h2 := (jobs_all h).2.1
    rw [idxs_len, (ordC_perm (swo_smith h) _).length_eq, List.length_range]; omega
  · simp
theorem ot_len (js : List JobD) : (otL js).length ≤ 12 := by
  unfold otL
  split
  · rename_i h
    have h2 := (jobs_all h).2.1
    have h4 := otRun_len js (ordJ js) [] [] 0
    rw [ordJ_len] at h4
    rw [idxs_len, List.length_append]
    unfold otEnd
    simp only [List.length_nil] at h4
    omega
  · simp
theorem told_tell {d : DeskD} (hv : validDk d = true) (hb : BitsD d) {s y : ByteArray} {ok : Bool} (h : tellK d s = some (y, ok)) : Told y := by
  obtain ⟨y1, y2, y3, y4⟩ := valid_parts hv
  have y5 : waysB d.ways = true := by
    unfold validDk at hv
    simp only [Bool.and_eq_true] at hv
    exact hv.2.2.2
  unfold tellK at h
  by_cases e : s = kwRows
  · rw [if_pos e] at h
    obtain rfl := (Prod.mk.inj (Option.some.inj h)).1
    have f1 := valR_few y1
    exact told_plain (plain_rows _) (by have := rows_size y1; omega)
  rw [if_neg e] at h
  clear e
  by_cases e : s = kwSizes
  · rw [if_pos e] at h
    obtain rfl := (Prod.mk.inj (Option.some.inj h)).1
    exact told_list (small_sizes y2) (by have := (sizes_all y2).1.2; omega)
  rw [if_neg e] at h
  clear e
  by_cases e : s = kwJobs
  · rw [if_pos e] at h
    obtain rfl := (Prod.mk.inj (Option.some.inj h)).1
    exact told_plain (plain_jobs _) (by have := jobs_size y3; have := (jobs_all y3).2.1; omega)
  rw [if_neg e] at h
  clear e
  by_cases e : s = kwWays
  · rw [if_pos e] at h
    obtain rfl := (Prod.mk.inj (Option.some.inj h)).1
    exact told_list (small_ways y4) (by have := (ways_eight y5).2; omega)
  rw [if_neg e] at h
  clear e
  by_cases e : s = kwSolve
  · rw [if_pos e] at h
    obtain rfl := (Prod.mk.inj (Option.some.inj h)).1
    exact told_num (plan_ok hb).2
  rw [if_neg e] at h
  clear e
  by_cases e : s = kwPrices
  · rw [if_pos e] at h
    obtain rfl := (Prod.mk.inj (Option.some.inj h)).1
    exact told_num (price_ok hb).2
  rw [if_neg e] at h
  clear e
  by_cases e : s = kwGain
  · rw [if_pos e] at h
    obtain rfl := (Prod.mk.inj (Option.some.inj h)).1
    exact told_num (gain_ok _ _).2
  rw [if_neg e] at h
  clear e
  by_cases e : s = kwHalves
  · rw [if_pos e] at h
    obtain rfl := (Prod.mk.inj (Option.some.inj h)).1
    exact told_itoa (halfN_rng _)
  rw [if_neg e] at h
  clear e
  by_cases e : s = kwTour
  · rw [if_pos e] at h
    obtain rfl := (Prod.mk.inj (Option.some.inj h)).1
    exact told_list (short_tour _).1 (by have := tour_len d.ways; omega)
  rw [if_neg e] at h
  clear e
  by_cases e : s = kwLong
  · rw [if_pos e] at h
    obtain rfl := (Prod.mk.inj (Option.some.inj h)).1
    exact told_itoa (tourLng_rng _)
  rw [if_neg e] at h
  clear e
  by_cases e : s = kwBound
  · rw [if_pos e] at h
    obtain rfl := (Prod.mk.inj (Option.some.inj h)).1
    exact told_itoa (tbN_rng _)
  rw [if_neg e] at h
  clear e
  by_cases e : s = kwDue
  · rw [if_pos e] at h
    obtain rfl := (Prod.mk.inj (Option.some.inj h)).1
    exact told_list (short_due _).1 (by have := due_len d.jobs; omega)
  rw [if_neg e] at h
  clear e
  by_cases e : s = kwSmith
  · rw [if_pos e] at h
    obtain rfl := (Prod.mk.inj (Option.some.inj h)).1
    exact told_list (short_smith _).1 (by have := smith_len d.jobs; omega)
  rw [if_neg e] at h
  clear e
  by_cases e : s = kwOntime
  · rw [if_pos e] at h
    obtain rfl := (Prod.mk.inj (Option.some.inj h)).1
    exact told_list (short_ot _).1 (by have := ot_len d.jobs; omega)
  rw [if_neg e] at h
  clear e
  by_cases e : s = kwLate
  · rw [if_pos e] at h
    obtain rfl := (Prod.mk.inj (Option.some.inj h)).1
    exact told_itoa (lateN_rng _)
  rw [if_neg e] at h
  clear e
  by_cases e : s = kwHeads
  · rw [if_pos e] at h
    obtain rfl := (Prod.mk.inj (Option.some.inj h)).1
    exact told_itoa (headsN_rng _)
  rw [if_neg e] at h
  cases h
theorem told_two {d : DeskD} (s x : ByteArray) : Told (twoK d s x).2.1 := by
  unfold twoK
  cases setK d s x with
  | some p => exact told_ok
  | none =>
    dsimp only
    split
    · exact told_ok
    · cases e : countK d s (valN x) with
      | some p =>
        obtain ⟨m, ok⟩ := p
        exact told_itoa (count_rng e)
      | none => exact told_itoa (n := 0) (by unfold InZ; omega)
theorem told_car {d : DeskD} (hv : validDk d = true) (hb : BitsD d) (s : ByteArray) : Told (carK d s).2.1 := by
  unfold carK
  split
  · exact told_two _ _
  · split
    · exact told_E0
    · split
      · exact told_ok
      · cases e : tellK d s with
        | some p =>
          obtain ⟨y, ok⟩ := p
          exact told_tell hv hb e
        | none => exact told_E0
theorem told_cmd {d : DeskD} (hv : validDk d = true) (hb : BitsD d) (s : ByteArray) : Told (cmdK d s).2 := by
  unfold cmdK
  split
  · exact told_what
  · split
    · exact told_no
    · exact told_car hv hb s
theorem told_outs {d : DeskD} (hv : validDk d = true) (hb : BitsD d) (ls : List ByteArray) (k : Nat) : ∀ x ∈ outsK d ls k, Told x := by
  intro x hx
  unfold outsK at hx
  obtain ⟨i, _, rfl⟩ := List.mem_map.1 hx
  exact told_cmd (stK_valid hv ls i) (stK_bits hb ls i) _
theorem eqBy_rfl {α : Type} {f : α → α → Bool} (h : ∀ x, f x x = true) : ∀ l : List α, eqBy f l l = true
  | [] => rfl
  | x :: r => by
    simp only [eqBy]
    rw [h x, eqBy_rfl h r]
    rfl
theorem sameF_rfl (xs : List Nat) : sameF xs xs = true := eqBy_rfl (fun x => by
  unfold sameX
  cases nan32 x <;> simp) xs
theorem sameR_rfl (r : RowsD) : sameR r r = true := by
  unfold sameR
  rw [sameF_rfl, sameF_rfl, sameF_rfl]
  simp
theorem sameJs_rfl (js : List JobD) : sameJs js js = true := eqBy_rfl (fun x => by unfold sameJ; simp) js
theorem sameD_rfl (d : DeskD) : sameD d d = true := by
  unfold sameD
  rw [sameR_rfl, sameJs_rfl]
  simp
end Go.Proofs.YtgkbbpajkbkgnaaGreatDoor
