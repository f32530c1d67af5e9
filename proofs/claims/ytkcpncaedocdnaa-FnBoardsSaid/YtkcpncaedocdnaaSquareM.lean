/-
  Squares: the lists that both programs find, as plain lists; how the two searches hang together.
-/
import Derived.Test.YtkcpncaedocdnaaBase
namespace Go.Proofs.Ytkcpncaedocdnaa

/-- In round k the number x at place i meets itself in its row or its column. -/
def clashB (n : Nat) (sq : List Int) (i : Nat) (x : Int) (k : Nat) : Bool :=
  (i / n * n + k != i && sq.getD (i / n * n + k) 0 == x) || (k * n + i % n != i && sq.getD (k * n + i % n) 0 == x)
/-- The number fits. -/
def fitsB (n : Nat) (sq : List Int) (i : Nat) (x : Int) : Bool := (List.range n).all fun k => !clashB n sq i x k
/-- Two places in one row or column. -/
def Peer (n p q : Nat) : Prop := p ≠ q ∧ p < n * n ∧ q < n * n ∧ (p / n = q / n ∨ p % n = q % n)

theorem Peer.symm {n p q : Nat} (h : Peer n p q) : Peer n q p := ⟨h.1.symm, h.2.2.1, h.2.1, h.2.2.2.imp Eq.symm Eq.symm⟩

theorem fits_iff {n : Nat} {sq : List Int} {i : Nat} {x : Int} (hn : 0 < n) (hi : i < n * n) : fitsB n sq i x = true ↔ ∀ q, Peer n i q → sq.getD q 0 ≠ x := by
  unfold fitsB
  rw [List.all_eq_true]
  have hdiv : i / n < n := Nat.div_lt_of_lt_mul hi
  have hmod : i % n < n := Nat.mod_lt _ hn
  constructor
  · intro h q hq hx
    obtain ⟨h1, _, h3, h4⟩ := hq
    have hqd : q / n < n := Nat.div_lt_of_lt_mul h3
    have hqm : q % n < n := Nat.mod_lt _ hn
    have hqe : q / n * n + q % n = q := by have := Nat.div_add_mod q n; rw [Nat.mul_comm] at this; exact this
    rcases h4 with h4 | h4
    · have := h (q % n) (List.mem_range.2 hqm)
      simp only [clashB, h4, hqe, hx, Bool.not_eq_true', Bool.or_eq_false_iff, Bool.and_eq_false_iff] at this
      rcases this.1 with h5 | h5
      · simp at h5; exact h1 h5.symm
      · simp at h5
    · have := h (q / n) (List.mem_range.2 hqd)
      simp only [clashB, h4, hqe, hx, Bool.not_eq_true', Bool.or_eq_false_iff, Bool.and_eq_false_iff] at this
      rcases this.2 with h5 | h5
      · simp at h5; exact h1 h5.symm
      · simp at h5
  · intro h k hk
    have hk' := List.mem_range.1 hk
    have e1 : (i / n * n + k) / n = i / n := by
      rw [Nat.mul_comm, Nat.mul_add_div hn, Nat.div_eq_of_lt hk']; rfl
    have b1 : i / n * n + k < n * n := by
      have : (i / n + 1) * n ≤ n * n := Nat.mul_le_mul_right n hdiv
      rw [Nat.add_mul] at this; omega
    have e2 : (k * n + i % n) % n = i % n := by
      rw [Nat.mul_comm, Nat.mul_add_mod]; exact Nat.mod_eq_of_lt hmod
    have b2 : k * n + i % n < n * n := by
      have : (k + 1) * n ≤ n * n := Nat.mul_le_mul_right n hk'
      rw [Nat.add_mul] at this; omega
    simp only [clashB, Bool.not_eq_true', Bool.or_eq_false_iff, Bool.and_eq_false_iff]
    refine ⟨?_, ?_⟩
    · by_cases he : i / n * n + k = i
      · left; simp [he]
      · right; simpa using h _ ⟨fun e => he e.symm, hi, b1, .inl e1.symm⟩
    · by_cases he : k * n + i % n = i
      · left; simp [he]
      · right; simpa using h _ ⟨fun e => he e.symm, hi, b2, .inr e2.symm⟩

/-- The numbers from 1 to n. -/
def oneTo (n : Nat) : List Int := (List.range n).map fun (k : Nat) => (k : Int) + 1
theorem mem_oneTo {n : Nat} {v : Int} : v ∈ oneTo n ↔ 1 ≤ v ∧ v ≤ n := by
  simp only [oneTo, List.mem_map, List.mem_range]
  constructor
  · rintro ⟨k, hk, rfl⟩; omega
  · rintro ⟨h1, h2⟩; exact ⟨(v - 1).toNat, by omega, by omega⟩

/-- What the program tries at a place. -/
def cands (n : Nat) (sq : List Int) (i : Nat) : List Int := if 0 < sq.getD i 0 then [sq.getD i 0] else oneTo n

/-- The program's search. -/
def isols (n : Nat) : Nat → List Int → Nat → List (List Int)
  | 0, sq, _ => [sq]
  | f + 1, sq, i => (cands n sq i).flatMap fun v => if fitsB n sq i v then isols n f (sq.set i v) (i + 1) else []
/-- The reference's search. -/
def ssols (n : Nat) : Nat → List Int → Nat → List (List Int)
  | 0, sq, _ => [sq]
  | f + 1, sq, i => if sq.getD i 0 ≠ 0 then ssols n f sq (i + 1) else (oneTo n).flatMap fun v => if fitsB n sq i v then ssols n f (sq.set i v) (i + 1) else []
/-- .. up to a number. -/
def msols (n most : Nat) : Nat → List Int → Nat → List (List Int)
  | 0, sq, _ => [sq]
  | f + 1, sq, i => if sq.getD i 0 ≠ 0 then msols n most f sq (i + 1) else (oneTo n).foldl (fun acc v => if acc.length < most ∧ fitsB n sq i v = true then acc ++ msols n most f (sq.set i v) (i + 1) else acc) []

theorem set_getD_self {sq : List Int} {i : Nat} {v : Int} (hi : i < sq.length) : (sq.set i v).getD i 0 = v := by simp [hi]
theorem set_getD_ne {sq : List Int} {i j : Nat} {v : Int} (h : i ≠ j) : (sq.set i v).getD j 0 = sq.getD j 0 := by simp [List.getElem?_set_ne h]
theorem set_same {sq : List Int} {i : Nat} (hi : i < sq.length) : sq.set i (sq.getD i 0) = sq := by
  have : sq.getD i 0 = sq[i] := by simp [hi]
  rw [this]; exact List.set_getElem_self hi

/-- All known numbers fit. -/
def GoodSq (n : Nat) (sq : List Int) : Prop := sq.length = n * n ∧ (∀ v ∈ sq, 0 ≤ v ∧ v ≤ n) ∧ ∀ p q, Peer n p q → sq.getD p 0 ≠ 0 → sq.getD p 0 ≠ sq.getD q 0

theorem GoodSq.set {n : Nat} {sq : List Int} {i : Nat} {v : Int} (hn : 0 < n) (h : GoodSq n sq) (hi : i < n * n) (hv : 1 ≤ v ∧ v ≤ n) (hf : fitsB n sq i v = true) : GoodSq n (sq.set i v) := by
  obtain ⟨h1, h2, h3⟩ := h
  have hil : i < sq.length := by omega
  refine ⟨by simp [h1], fun u hu => ?_, fun p q hp hne => ?_⟩
  · rcases List.mem_or_eq_of_mem_set hu with h | rfl
    · exact h2 u h
    · omega
  · have hf' := (fits_iff hn hi).1 hf
    by_cases hpi : p = i
    · subst hpi
      rw [set_getD_self hil, set_getD_ne hp.1]
      exact fun e => hf' q hp e.symm
    · by_cases hqi : q = i
      · subst hqi
        rw [set_getD_self hil, set_getD_ne (Ne.symm hpi)]
        exact hf' p hp.symm
      · rw [set_getD_ne (Ne.symm hpi), set_getD_ne (Ne.symm hqi)]
        rw [set_getD_ne (Ne.symm hpi)] at hne
        exact h3 p q hp hne

theorem GoodSq.at {n : Nat} {sq : List Int} {i : Nat} (h : GoodSq n sq) (hi : i < n * n) : 0 ≤ sq.getD i 0 ∧ sq.getD i 0 ≤ n := by
  have hil : i < sq.length := by rw [h.1]; exact hi
  have : sq.getD i 0 = sq[i] := by simp [hil]
  rw [this]; exact h.2.1 _ (List.getElem_mem hil)

theorem isols_eq (n : Nat) (hn : 0 < n) : ∀ (f : Nat) (sq : List Int) (i : Nat), i + f = n * n → GoodSq n sq → isols n f sq i = ssols n f sq i
  | 0, sq, i, _, _ => rfl
  | f + 1, sq, i, hi, hg => by
    have hil : i < n * n := by omega
    have hb := hg.at hil
    simp only [isols, ssols, cands]
    by_cases h0 : 0 < sq.getD i 0
    · rw [if_pos h0, if_pos (by omega)]
      have hf : fitsB n sq i (sq.getD i 0) = true := (fits_iff hn hil).2 fun q hq e => hg.2.2 i q hq (by omega) e.symm
      simp only [List.flatMap_cons, List.flatMap_nil, List.append_nil, hf, if_true]
      rw [set_same (by rw [hg.1]; exact hil)]
      exact isols_eq n hn f sq (i + 1) (by omega) hg
    · rw [if_neg h0, if_neg (by omega)]
      have key : ∀ l : List Int, (∀ v ∈ l, v ∈ oneTo n) → (l.flatMap fun v => if fitsB n sq i v then isols n f (sq.set i v) (i + 1) else []) = l.flatMap fun v => if fitsB n sq i v then ssols n f (sq.set i v) (i + 1) else [] := by
        intro l
        induction l with
        | nil => intro _; rfl
        | cons v l ih =>
          intro hl
          have hv := mem_oneTo.1 (hl v (by simp))
          rw [List.flatMap_cons, List.flatMap_cons, ih (fun u hu => hl u (by simp [hu]))]
          congr 1
          split
          · next hf => exact isols_eq n hn f _ (i + 1) (by omega) (hg.set hn hil hv hf)
          · rfl
      exact key _ (fun v h => h)

/-- Known numbers that do not fit leave nothing. -/
theorem isols_bad (n : Nat) (hn : 0 < n) (p q : Nat) (hpq : Peer n p q) : ∀ (f : Nat) (sq : List Int) (i : Nat), i + f = n * n → i ≤ p → sq.length = n * n → 0 < sq.getD p 0 → sq.getD p 0 = sq.getD q 0 → isols n f sq i = []
  | 0, sq, i, hi, hip, _, _, _ => by have := hpq.2.1; omega
  | f + 1, sq, i, hi, hip, hl, h0, he => by
    have hil : i < n * n := by omega
    simp only [isols]
    rw [List.flatMap_eq_nil_iff]
    intro v hv
    by_cases hf : fitsB n sq i v = true
    · rw [if_pos hf]
      by_cases hip' : i = p
      · subst hip'
        simp only [cands, h0, if_true, List.mem_singleton] at hv
        subst hv
        exact absurd he.symm ((fits_iff hn hil).1 hf q hpq)
      · have hsp : (sq.set i v).getD p 0 = sq.getD p 0 := set_getD_ne hip'
        have hsq : (sq.set i v).getD q 0 = sq.getD q 0 := by
          by_cases hiq : i = q
          · subst hiq
            rw [set_getD_self (by omega)]
            have h1 : 0 < sq.getD i 0 := by omega
            simp only [cands, h1, if_true, List.mem_singleton] at hv
            exact hv
          · exact set_getD_ne hiq
        exact isols_bad n hn p q hpq f _ (i + 1) (by omega) (by omega) (by simp [hl]) (by rw [hsp]; exact h0) (by rw [hsp, hsq]; exact he)
    · rw [if_neg hf]

theorem foldl_pre {α : Type} (most : Nat) (g h : α → List (List Int)) (ok : α → Bool) (hgh : ∀ v, (g v <+: h v) ∧ (g v = h v ∨ most ≤ (g v).length)) : ∀ (l : List α) (acc part : List (List Int)), acc <+: part → (acc = part ∨ most ≤ acc.length) →
    (l.foldl (fun acc v => if acc.length < most ∧ ok v = true then acc ++ g v else acc) acc <+: part ++ l.flatMap fun v => if ok v then h v else []) ∧
    (l.foldl (fun acc v => if acc.length < most ∧ ok v = true then acc ++ g v else acc) acc = part ++ (l.flatMap fun v => if ok v then h v else []) ∨ most ≤ (l.foldl (fun acc v => if acc.length < most ∧ ok v = true then acc ++ g v else acc) acc).length)
  | [], acc, part, h1, h2 => by simpa using ⟨h1, h2⟩
  | v :: l, acc, part, h1, h2 => by
    simp only [List.foldl_cons, List.flatMap_cons]
    rw [← List.append_assoc]
    refine foldl_pre most g h ok hgh l _ _ ?_ ?_
    · by_cases hc : acc.length < most ∧ ok v = true
      · rw [if_pos hc, if_pos hc.2]
        have : acc = part := h2.resolve_right (by omega)
        subst this
        exact (List.prefix_append_right_inj acc).2 (hgh v).1
      · rw [if_neg hc]
        exact h1.trans (List.prefix_append _ _)
    · by_cases hc : acc.length < most ∧ ok v = true
      · rw [if_pos hc, if_pos hc.2]
        have : acc = part := h2.resolve_right (by omega)
        subst this
        rcases (hgh v).2 with h3 | h3
        · left; rw [h3]
        · right; rw [List.length_append]; omega
      · rw [if_neg hc]
        by_cases hok : ok v = true
        · right
          have : ¬ acc.length < most := fun h => hc ⟨h, hok⟩
          omega
        · rw [if_neg hok, List.append_nil]; exact h2

theorem msols_pre (n most : Nat) : ∀ (f : Nat) (sq : List Int) (i : Nat), (msols n most f sq i <+: ssols n f sq i) ∧ (msols n most f sq i = ssols n f sq i ∨ most ≤ (msols n most f sq i).length)
  | 0, sq, i => ⟨List.prefix_rfl, .inl rfl⟩
  | f + 1, sq, i => by
    simp only [msols, ssols]
    split
    · exact msols_pre n most f sq (i + 1)
    · have := foldl_pre most (fun v => msols n most f (sq.set i v) (i + 1)) (fun v => ssols n f (sq.set i v) (i + 1)) (fitsB n sq i) (fun v => msols_pre n most f _ (i + 1)) (oneTo n) [] [] List.prefix_rfl (.inl rfl)
      simpa using this

/-- No more ways than with an empty board. -/
theorem isols_le (n : Nat) (hn : 0 < n) : ∀ (f : Nat) (sq s0 : List Int) (i : Nat), i + f = n * n → sq.length = n * n → s0.length = n * n → (∀ v ∈ sq, 0 ≤ v ∧ v ≤ n) → (∀ j, j < i → s0.getD j 0 = sq.getD j 0) → (∀ j, i ≤ j → s0.getD j 0 = 0) →
    (isols n f sq i).length ≤ (isols n f s0 i).length
  | 0, sq, s0, i, _, _, _, _, _, _ => Nat.le_refl _
  | f + 1, sq, s0, i, hi, hl, hl0, hr, hlt, hge => by
    have hil : i < n * n := by omega
    have hbi : 0 ≤ sq.getD i 0 ∧ sq.getD i 0 ≤ n := by
      have : sq.getD i 0 = sq[i] := by simp [show i < sq.length by omega]
      rw [this]; exact hr _ (List.getElem_mem _)
    have step : ∀ v : Int, 1 ≤ v → v ≤ n → (if fitsB n sq i v then isols n f (sq.set i v) (i + 1) else []).length ≤ (if fitsB n s0 i v then isols n f (s0.set i v) (i + 1) else []).length := by
      intro v hv1 hv2
      by_cases hf : fitsB n sq i v = true
      · have hf0 : fitsB n s0 i v = true := (fits_iff hn hil).2 fun q hq e => by
          by_cases hqi : q < i
          · rw [hlt q hqi] at e; exact (fits_iff hn hil).1 hf q hq e
          · rw [hge q (by omega)] at e; omega
        rw [if_pos hf, if_pos hf0]
        refine isols_le n hn f _ _ (i + 1) (by omega) (by simp [hl]) (by simp [hl0]) (fun u hu => ?_) (fun j hj => ?_) (fun j hj => ?_)
        · rcases List.mem_or_eq_of_mem_set hu with h | rfl
          · exact hr u h
          · omega
        · by_cases hji : j = i
          · subst hji; rw [set_getD_self (by omega), set_getD_self (by omega)]
          · rw [set_getD_ne (Ne.symm hji), set_getD_ne (Ne.symm hji)]; exact hlt j (by omega)
        · rw [set_getD_ne (by omega)]; exact hge j (by omega)
      · rw [if_neg hf]; exact Nat.zero_le _
    simp only [isols, cands]
    rw [if_neg (show ¬ 0 < s0.getD i 0 by rw [hge i (Nat.le_refl _)]; omega)]
    have key : ∀ l : List Int, (∀ v ∈ l, 1 ≤ v ∧ v ≤ n) → (l.flatMap fun v => if fitsB n sq i v then isols n f (sq.set i v) (i + 1) else []).length ≤ (l.flatMap fun v => if fitsB n s0 i v then isols n f (s0.set i v) (i + 1) else []).length := by
      intro l
      induction l with
      | nil => intro _; exact Nat.le_refl _
      | cons v l ih =>
        intro h
        rw [List.flatMap_cons, List.flatMap_cons, List.length_append, List.length_append]
        have h1 := step v (h v (by simp)).1 (h v (by simp)).2
        have h2 := ih (fun u hu => h u (by simp [hu]))
        omega
    by_cases h0 : 0 < sq.getD i 0
    · rw [if_pos h0]
      have h1 := key [sq.getD i 0] (by intro v hv; simp only [List.mem_singleton] at hv; subst hv; omega)
      refine Nat.le_trans h1 ?_
      have mono : ∀ (l : List Int) (v : Int) (F : Int → List (List Int)), v ∈ l → (F v).length ≤ (l.flatMap F).length := by
        intro l v F hv
        induction l with
        | nil => simp at hv
        | cons u l ih =>
          rw [List.flatMap_cons, List.length_append]
          rcases List.mem_cons.1 hv with rfl | h
          · omega
          · have := ih h; omega
      have := mono (oneTo n) (sq.getD i 0) (fun v => if fitsB n s0 i v then isols n f (s0.set i v) (i + 1) else []) (mem_oneTo.2 (by omega))
      simpa using this
    · rw [if_neg h0]
      exact key _ (fun v hv => mem_oneTo.1 hv)

theorem flatMap_len {α β : Type} (l : List α) (F : α → List β) (M : Nat) (h : ∀ a ∈ l, (F a).length ≤ M) : (l.flatMap F).length ≤ l.length * M := by
  induction l with
  | nil => simp
  | cons a l ih =>
    rw [List.flatMap_cons, List.length_append, List.length_cons, Nat.succ_mul]
    have h1 := h a (by simp)
    have h2 := ih fun b hb => h b (by simp [hb])
    omega

theorem ssols_len (n : Nat) (hn : 0 < n) : ∀ (f : Nat) (sq : List Int) (i : Nat), (ssols n f sq i).length ≤ n ^ f
  | 0, sq, i => by simp [ssols]
  | f + 1, sq, i => by
    simp only [ssols]
    rw [Nat.pow_succ, Nat.mul_comm]
    split
    · exact Nat.le_trans (ssols_len n hn f sq (i + 1)) (Nat.le_mul_of_pos_left _ hn)
    · have := flatMap_len (oneTo n) (fun v => if fitsB n sq i v then ssols n f (sq.set i v) (i + 1) else []) (n ^ f) (fun v _ => by
        split
        · exact ssols_len n hn f _ _
        · simp)
      simpa [oneTo] using this

theorem msols_len (n most : Nat) (hn : 0 < n) (hn5 : n ≤ 5) (f : Nat) (hf : f ≤ 25) (sq : List Int) (i : Nat) : (msols n most f sq i).length ≤ 298023223876953125 := by
  have h1 := (msols_pre n most f sq i).1.length_le
  have h2 := ssols_len n hn f sq i
  have h3 : n ^ f ≤ 5 ^ 25 := Nat.le_trans (Nat.pow_le_pow_left hn5 f) (Nat.pow_le_pow_right (by decide) hf)
  have h4 : 5 ^ 25 = 298023223876953125 := by decide
  omega

/-- What the reference has found when it comes to the number k + 1 at a place. -/
def mpart (n most f : Nat) (sq : List Int) (i k : Nat) : List (List Int) :=
  ((List.range k).map fun (q : Nat) => (q : Int) + 1).foldl (fun acc v => if acc.length < most ∧ fitsB n sq i v = true then acc ++ msols n most f (sq.set i v) (i + 1) else acc) []
theorem mpart_succ (n most f : Nat) (sq : List Int) (i k : Nat) : mpart n most f sq i (k + 1) = if (mpart n most f sq i k).length < most ∧ fitsB n sq i ((k : Int) + 1) = true then mpart n most f sq i k ++ msols n most f (sq.set i ((k : Int) + 1)) (i + 1) else mpart n most f sq i k := by
  simp only [mpart, List.range_succ, List.map_append, List.foldl_append, List.map_cons, List.map_nil, List.foldl_cons, List.foldl_nil]
  rfl
theorem mpart_full {n most f : Nat} {sq : List Int} {i k : Nat} (h : most ≤ (mpart n most f sq i k).length) : ∀ m, mpart n most f sq i (k + m) = mpart n most f sq i k
  | 0 => rfl
  | m + 1 => by
    rw [← Nat.add_assoc, mpart_succ, mpart_full h m, if_neg (by omega)]
theorem msols_succ (n most f : Nat) (sq : List Int) (i : Nat) (h : sq.getD i 0 = 0) : msols n most (f + 1) sq i = mpart n most f sq i n := by
  simp only [msols, h]; rfl
theorem msols_known (n most f : Nat) (sq : List Int) (i : Nat) (h : sq.getD i 0 ≠ 0) : msols n most (f + 1) sq i = msols n most f sq (i + 1) := by
  simp only [msols]; rw [if_pos h]

end Go.Proofs.Ytkcpncaedocdnaa
