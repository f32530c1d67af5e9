/-
  FnRules: texts joined: RuA, RuB, Del, XIdx.
-/
import Derived.Shelf.SlicesE.Delete
import Derived.Test.YtfdaifmfecfchaaMFnRulesAA
import Derived.Test.YtfdaifmfecfchaaMFnRulesAG
namespace Go.Proofs.Ytfdaifmfecfchaa
open Go.RowKit

/-! ### what asks cost by any rule -/
/-- From what is in the room, the asks can be answered with so many faults. -/
inductive Cst : (Int → Prop) → List Int → Nat → Prop
  | nil (C : Int → Prop) : Cst C [] 0
  | hit (C : Int → Prop) (x : Int) (r : List Int) (k : Nat) (h : C x) (hr : Cst C r k) : Cst C (x :: r) k
  | miss (C : Int → Prop) (x : Int) (r : List Int) (k : Nat) (e : Int) (h : ¬ C x) (he : C e) (hr : Cst (fun y => y = x ∨ (C y ∧ y ≠ e)) r k) : Cst C (x :: r) (k + 1)
theorem Cst.same {C D : Int → Prop} {r : List Int} {k : Nat} (h : Cst C r k) (e : ∀ y, C y ↔ D y) : Cst D r k := by
  have : C = D := funext fun y => propext (e y)
  rw [← this]
  exact h
/-- C has a in place of D's b. -/
structure Ex (C D : Int → Prop) (a b : Int) : Prop where
  ca : C a
  cb : ¬ C b
  db : D b
  da : ¬ D a
  at' : ∀ y, y ≠ a → y ≠ b → (C y ↔ D y)
theorem Ex.ne {C D : Int → Prop} {a b : Int} (h : Ex C D a b) : a ≠ b := fun e => h.cb (e ▸ h.ca)
theorem Ex.step {C D : Int → Prop} {a b : Int} (h : Ex C D a b) {x e : Int} (hxa : x ≠ a) (hxb : x ≠ b) (hea : e ≠ a) (heb : e ≠ b) : Ex (fun y => y = x ∨ (C y ∧ y ≠ e)) (fun y => y = x ∨ (D y ∧ y ≠ e)) a b := by
  refine ⟨.inr ⟨h.ca, hea.symm⟩, ?_, .inr ⟨h.db, heb.symm⟩, ?_, fun y h1 h2 => ?_⟩
  · rintro (e1 | ⟨e1, _⟩)
    · exact hxb e1.symm
    · exact h.cb e1
  · rintro (e1 | ⟨e1, _⟩)
    · exact hxa e1.symm
    · exact h.da e1
  · show (y = x ∨ (C y ∧ y ≠ e)) ↔ (y = x ∨ (D y ∧ y ≠ e))
    rw [h.at' y h1 h2]
theorem Ex.meet {C D : Int → Prop} {a b : Int} (h : Ex C D a b) {x : Int} : ∀ y, (y = x ∨ (D y ∧ y ≠ b)) ↔ (y = x ∨ (C y ∧ y ≠ a)) := fun y => by
  by_cases e1 : y = a
  · subst e1
    exact ⟨fun hy => .inl (hy.resolve_right fun h1 => h.da h1.1), fun hy => .inl (hy.resolve_right fun h1 => h1.2 rfl)⟩
  · by_cases e2 : y = b
    · subst e2
      exact ⟨fun hy => .inl (hy.resolve_right fun h1 => h1.2 rfl), fun hy => .inl (hy.resolve_right fun h1 => h.cb h1.1)⟩
    · rw [h.at' y e1 e2]
      exact ⟨fun hy => hy.imp id fun h1 => ⟨h1.1, e1⟩, fun hy => hy.imp id fun h1 => ⟨h1.1, e2⟩⟩
theorem Ex.back {C D : Int → Prop} {a b : Int} (h : Ex C D a b) : ∀ y, D y ↔ (y = b ∨ (C y ∧ y ≠ a)) := fun y => by
  by_cases e1 : y = a
  · subst e1
    exact ⟨fun hy => absurd hy h.da, fun hy => hy.elim (fun e => absurd e h.ne) (fun h1 => absurd rfl h1.2)⟩
  · by_cases e2 : y = b
    · subst e2
      exact ⟨fun _ => .inl rfl, fun _ => h.db⟩
    · rw [← h.at' y e1 e2]
      exact ⟨fun hy => .inr ⟨hy, e1⟩, fun hy => hy.elim (fun e => absurd e e2) (fun h1 => h1.1)⟩
theorem Ex.front {C D : Int → Prop} {a b : Int} (h : Ex C D a b) : ∀ y, (y = a ∨ (D y ∧ y ≠ b)) ↔ C y := fun y => by
  by_cases e1 : y = a
  · subst e1; exact ⟨fun _ => h.ca, fun _ => .inl rfl⟩
  · by_cases e2 : y = b
    · subst e2
      exact ⟨fun hy => hy.elim (fun e => absurd e e1) (fun h1 => absurd rfl h1.2), fun hy => absurd hy h.cb⟩
    · rw [h.at' y e1 e2]
      exact ⟨fun hy => hy.elim (fun e => absurd e e1) (fun h1 => h1.1), fun hy => .inr ⟨hy, e2⟩⟩
/-- Where D misses a and lets e go, and C has a: they differ in e and b. -/
theorem Ex.turn {C D : Int → Prop} {a b : Int} (h : Ex C D a b) {e : Int} (he : D e) (heb : e ≠ b) : Ex C (fun y => y = a ∨ (D y ∧ y ≠ e)) e b := by
  have hea : e ≠ a := fun e1 => h.da (e1 ▸ he)
  refine ⟨(h.at' e hea heb).2 he, h.cb, .inr ⟨h.db, heb.symm⟩, ?_, fun y h1 h2 => ?_⟩
  · rintro (e1 | ⟨_, e1⟩)
    · exact hea e1
    · exact e1 rfl
  · show C y ↔ (y = a ∨ (D y ∧ y ≠ e))
    by_cases e1 : y = a
    · subst e1; exact ⟨fun _ => .inl rfl, fun _ => h.ca⟩
    · rw [h.at' y e1 h2]
      exact ⟨fun hy => .inr ⟨hy, h1⟩, fun hy => hy.elim (fun e2 => absurd e2 e1) (fun h3 => h3.1)⟩
/-- One that is in place of another one costs at most one fault more. -/
theorem Cst.near : ∀ (r : List Int) (C D : Int → Prop) (a b : Int) (k : Nat), Ex C D a b → Cst D r k → ∃ k', k' ≤ k + 1 ∧ Cst C r k'
  | [], C, D, a, b, k, h, hd => ⟨0, by omega, .nil C⟩
  | x :: r, C, D, a, b, k, h, hd => by
    cases hd with
    | hit _ _ _ _ hx hr =>
      by_cases hxb : x = b
      · subst hxb
        exact ⟨k + 1, Nat.le_refl _, .miss C x r k a h.cb h.ca (hr.same h.back)⟩
      · have hxa : x ≠ a := fun e => h.da (e ▸ hx)
        obtain ⟨k', h1, h2⟩ := near r C D a b k h hr
        exact ⟨k', h1, .hit C x r k' ((h.at' x hxa hxb).2 hx) h2⟩
    | miss _ _ _ k e hx he hr =>
      have hxb : x ≠ b := fun e1 => hx (e1 ▸ h.db)
      by_cases hxa : x = a
      · subst hxa
        by_cases heb : e = b
        · subst heb
          exact ⟨k, by omega, .hit C x r k h.ca (hr.same h.front)⟩
        · obtain ⟨k', h1, h2⟩ := near r C _ e b k (h.turn he heb) hr
          exact ⟨k', by omega, .hit C x r k' h.ca h2⟩
      · have hcx : ¬ C x := fun hc => hx ((h.at' x hxa hxb).1 hc)
        by_cases heb : e = b
        · subst heb
          exact ⟨k + 1, by omega, .miss C x r k a hcx h.ca (hr.same h.meet)⟩
        · have hea : e ≠ a := fun e1 => h.da (e1 ▸ he)
          obtain ⟨k', h1, h2⟩ := near r _ _ a b k (h.step hxa hxb hea heb) hr
          exact ⟨k' + 1, by omega, .miss C x r k' e hcx ((h.at' e hea heb).2 he) h2⟩
theorem idxOf_cons8 (x y : Int) (r : List Int) : (x :: r).idxOf y = if x = y then 0 else r.idxOf y + 1 := by
  rw [List.idxOf_cons]
  by_cases e : x = y
  · rw [if_pos e, e]; simp
  · rw [if_neg e]
    have : (x == y) = false := by rw [beq_eq_false_iff_ne]; exact e
    rw [this]; rfl
/-- The one that is asked for first costs no more than the other one. -/
theorem Cst.first : ∀ (r : List Int) (C D : Int → Prop) (a b : Int) (k : Nat), Ex C D a b → r.idxOf a ≤ r.idxOf b → Cst D r k → ∃ k', k' ≤ k ∧ Cst C r k'
  | [], C, D, a, b, k, h, _, hd => ⟨0, by omega, .nil C⟩
  | x :: r, C, D, a, b, k, h, hi, hd => by
    rw [idxOf_cons8, idxOf_cons8] at hi
    cases hd with
    | hit _ _ _ _ hx hr =>
      have hxa : x ≠ a := fun e => h.da (e ▸ hx)
      rw [if_neg hxa] at hi
      by_cases hxb : x = b
      · rw [if_pos hxb] at hi; omega
      · rw [if_neg hxb] at hi
        obtain ⟨k', h1, h2⟩ := first r C D a b k h (by omega) hr
        exact ⟨k', h1, .hit C x r k' ((h.at' x hxa hxb).2 hx) h2⟩
    | miss _ _ _ k e hx he hr =>
      have hxb : x ≠ b := fun e1 => hx (e1 ▸ h.db)
      rw [if_neg hxb] at hi
      by_cases hxa : x = a
      · subst hxa
        by_cases heb : e = b
        · subst heb
          exact ⟨k, by omega, .hit C x r k h.ca (hr.same h.front)⟩
        · obtain ⟨k', h1, h2⟩ := Cst.near r C _ e b k (h.turn he heb) hr
          exact ⟨k', by omega, .hit C x r k' h.ca h2⟩
      · rw [if_neg hxa] at hi
        have hcx : ¬ C x := fun hc => hx ((h.at' x hxa hxb).1 hc)
        by_cases heb : e = b
        · subst heb
          exact ⟨k + 1, by omega, .miss C x r k a hcx h.ca (hr.same h.meet)⟩
        · have hea : e ≠ a := fun e1 => h.da (e1 ▸ he)
          obtain ⟨k', h1, h2⟩ := first r _ _ a b k (h.step hxa hxb hea heb) (by omega) hr
          exact ⟨k' + 1, by omega, .miss C x r k' e hcx ((h.at' e hea heb).2 he) h2⟩

/-! ### the program's rules -/
/-- The index of the number that is asked for again latest, and when this is. -/
def latK (S rest : List Int) : Nat → Int × Int
  | 0 => (-1, -1)
  | k + 1 => if (latK S rest k).2 < (rest.idxOf (S.getD k 0) : Nat) ∨ ((rest.idxOf (S.getD k 0) : Nat) : Int) = (latK S rest k).2 ∧ S.getD k 0 < S.getD (latK S rest k).1.toNat 0
      then (((k : Nat) : Int), ((rest.idxOf (S.getD k 0) : Nat) : Int)) else latK S rest k
theorem latK_is (S rest : List Int) : ∀ k, 1 ≤ k → (∃ b : Nat, b < k ∧ (latK S rest k).1 = b ∧ (latK S rest k).2 = (rest.idxOf (S.getD b 0) : Nat)) ∧ ∀ j, j < k → ((rest.idxOf (S.getD j 0) : Nat) : Int) ≤ (latK S rest k).2
  | 0, h => by omega
  | k + 1, _ => by
    have e : latK S rest (k + 1) = if (latK S rest k).2 < (rest.idxOf (S.getD k 0) : Nat) ∨ ((rest.idxOf (S.getD k 0) : Nat) : Int) = (latK S rest k).2 ∧ S.getD k 0 < S.getD (latK S rest k).1.toNat 0
      then (((k : Nat) : Int), ((rest.idxOf (S.getD k 0) : Nat) : Int)) else latK S rest k := rfl
    by_cases hk : k = 0
    · subst hk
      rw [e, if_pos (.inl (by show (-1 : Int) < _; omega))]
      exact ⟨⟨0, by omega, rfl, rfl⟩, fun j hj => (by
        have : j = 0 := by omega
        rw [this]; exact Int.le_refl _)⟩
    · obtain ⟨⟨b, hb1, hb2, hb3⟩, hall⟩ := latK_is S rest k (by omega)
      by_cases hc : (latK S rest k).2 < (rest.idxOf (S.getD k 0) : Nat) ∨ ((rest.idxOf (S.getD k 0) : Nat) : Int) = (latK S rest k).2 ∧ S.getD k 0 < S.getD (latK S rest k).1.toNat 0
      · rw [e, if_pos hc]
        refine ⟨⟨k, by omega, rfl, rfl⟩, fun j hj => ?_⟩
        show _ ≤ ((rest.idxOf (S.getD k 0) : Nat) : Int)
        by_cases e2 : j = k
        · rw [e2]; exact Int.le_refl _
        · have := hall j (by omega)
          rcases hc with hc | hc <;> omega
      · rw [e, if_neg hc]
        refine ⟨⟨b, by omega, hb2, hb3⟩, fun j hj => ?_⟩
        by_cases e2 : j = k
        · subst e2
          refine Classical.byContradiction fun h2 => hc (.inl (by omega))
        · exact hall j (by omega)
/-- Which one goes out. -/
def outI (rule : Int) (S rest : List Int) : Nat := if rule = 2 then (latK S rest S.length).1.toNat else 0
/-- What is in the room behind an ask. -/
def inS (room : Nat) (rule : Int) (rest S : List Int) (x : Int) : List Int :=
  if x ∈ S then (if rule = 1 then S.eraseIdx (S.idxOf x) ++ [x] else S)
  else (if S.length = room then S.eraseIdx (outI rule S rest) else S) ++ [x]
/-- The faults of asks. -/
def flL (room : Nat) (rule : Int) : List Int → List Int → Nat
  | _, [] => 0
  | S, x :: r => (if x ∈ S then 0 else 1) + flL room rule (inS room rule r S x) r

theorem outI_lt {room : Nat} (h1 : 1 ≤ room) (rule : Int) (S rest : List Int) (h : S.length = room) : outI rule S rest < S.length := by
  unfold outI
  split
  · obtain ⟨⟨b, hb1, hb2, _⟩, _⟩ := latK_is S rest S.length (by omega)
    rw [hb2]
    omega
  · omega
theorem eraseIdx_sub8 {S : List Int} {i : Nat} {y : Int} (h : y ∈ S.eraseIdx i) : y ∈ S := List.mem_of_mem_eraseIdx h
theorem nodup_app1 {S : List Int} {x : Int} (h : S.Nodup) (hx : x ∉ S) : (S ++ [x]).Nodup := by
  rw [List.nodup_append]
  refine ⟨h, List.nodup_cons.2 ⟨by simp, List.nodup_nil⟩, fun a ha b hb => ?_⟩
  rw [List.mem_singleton] at hb
  rintro rfl
  exact hx (hb ▸ ha)
theorem mem_erase8 {S : List Int} (h : S.Nodup) {i : Nat} (hi : i < S.length) (y : Int) : y ∈ S.eraseIdx i ↔ y ∈ S ∧ y ≠ S.getD i 0 := by
  have hg : S.getD i 0 = S[i] := by rw [List.getD_eq_getElem?_getD, List.getElem?_eq_getElem hi]; rfl
  have hs : S = S.take i ++ S[i] :: S.drop (i + 1) := by rw [List.getElem_cons_drop, List.take_append_drop]
  have he : S.eraseIdx i = S.take i ++ S.drop (i + 1) := List.eraseIdx_eq_take_drop_succ S i
  rw [hg, he]
  have hn := h
  rw [hs] at hn
  obtain ⟨n1, n2, n3⟩ := List.nodup_append.1 hn
  obtain ⟨n4, n5⟩ := List.nodup_cons.1 n2
  constructor
  · intro hy
    refine ⟨by rw [hs]; exact (List.mem_append.1 hy).elim (fun h => List.mem_append_left _ h) (fun h => List.mem_append_right _ (List.mem_cons_of_mem _ h)), ?_⟩
    rintro rfl
    rcases List.mem_append.1 hy with h1 | h1
    · exact n3 _ h1 _ (List.mem_cons_self ..) rfl
    · exact n4 h1
  · rintro ⟨hy, hne⟩
    rw [hs] at hy
    rcases List.mem_append.1 hy with h1 | h1
    · exact List.mem_append_left _ h1
    · rcases List.mem_cons.1 h1 with h2 | h2
      · exact absurd h2 hne
      · exact List.mem_append_right _ h2
theorem nodup_erase8 {S : List Int} (h : S.Nodup) (i : Nat) : (S.eraseIdx i).Nodup := h.sublist (List.eraseIdx_sublist ..)
theorem getD_mem8 {S : List Int} {i : Nat} (h : i < S.length) : S.getD i 0 ∈ S := by
  rw [List.getD_eq_getElem?_getD, List.getElem?_eq_getElem h]
  exact List.getElem_mem h
theorem idx_lt8 {S : List Int} {x : Int} (h : x ∈ S) : S.idxOf x < S.length := List.idxOf_lt_length_of_mem h
theorem idx_at8 {S : List Int} {x : Int} (h : x ∈ S) : S.getD (S.idxOf x) 0 = x := by
  rw [List.getD_eq_getElem?_getD, List.getElem?_eq_getElem (idx_lt8 h)]
  exact List.getElem_idxOf (idx_lt8 h)
/-- The room's numbers are different, none below 0, no more than it holds. -/
structure InOk (room : Nat) (S : List Int) : Prop where
  nd : S.Nodup
  nn : ∀ y ∈ S, 0 ≤ y
  le : S.length ≤ room
theorem InOk.step {room : Nat} {S : List Int} (h : InOk room S) (h1 : 1 ≤ room) (rule : Int) (rest : List Int) {x : Int} (hx : 0 ≤ x) : InOk room (inS room rule rest S x) := by
  unfold inS
  by_cases hm : x ∈ S
  · rw [if_pos hm]
    split
    · refine ⟨nodup_app1 (nodup_erase8 h.nd _) fun hh => ((mem_erase8 h.nd (idx_lt8 hm) x).1 hh).2 (idx_at8 hm).symm, fun y hy => ?_, ?_⟩
      · rcases List.mem_append.1 hy with hy | hy
        · exact h.nn y (eraseIdx_sub8 hy)
        · rw [List.mem_singleton.1 hy]; exact hx
      · rw [List.length_append, List.length_eraseIdx_of_lt (idx_lt8 hm)]
        have := idx_lt8 hm
        have := h.le
        simp
        omega
    · exact h
  · rw [if_neg hm]
    split
    · rename_i hf
      have ho := outI_lt h1 rule S rest hf
      refine ⟨nodup_app1 (nodup_erase8 h.nd _) fun hh => hm (eraseIdx_sub8 hh), fun y hy => ?_, ?_⟩
      · rcases List.mem_append.1 hy with hy | hy
        · exact h.nn y (eraseIdx_sub8 hy)
        · rw [List.mem_singleton.1 hy]; exact hx
      · rw [List.length_append, List.length_eraseIdx_of_lt ho]
        simp
        omega
    · refine ⟨nodup_app1 h.nd hm, fun y hy => ?_, ?_⟩
      · rcases List.mem_append.1 hy with hy | hy
        · exact h.nn y hy
        · rw [List.mem_singleton.1 hy]; exact hx
      · have := h.le
        rw [List.length_append]
        simp
        omega
/-- What is in the room, filled up with numbers below 0. -/
def padP (room : Nat) (S : List Int) (y : Int) : Prop := y ∈ S ∨ ∃ d : Nat, S.length ≤ d ∧ d < room ∧ y = -((d : Int) + 1)
theorem pad_in {room : Nat} {S : List Int} {y : Int} (hy : 0 ≤ y) : padP room S y ↔ y ∈ S := by
  refine ⟨fun h => h.resolve_right ?_, .inl⟩
  rintro ⟨d, _, _, e⟩
  omega
/-- Which one makes room: the one that goes out, or one of the numbers below 0. -/
def goneP (room : Nat) (rule : Int) (rest S : List Int) : Int := if S.length = room then S.getD (outI rule S rest) 0 else -((S.length : Int) + 1)
theorem pad_miss {room : Nat} (h1 : 1 ≤ room) {S : List Int} (h : InOk room S) (rule : Int) (rest : List Int) {x : Int} (hx : 0 ≤ x) (hm : x ∉ S) :
    padP room S (goneP room rule rest S) ∧ ∀ y, padP room (inS room rule rest S x) y ↔ (y = x ∨ (padP room S y ∧ y ≠ goneP room rule rest S)) := by
  unfold inS goneP
  rw [if_neg hm]
  by_cases hf : S.length = room
  · have ho := outI_lt h1 rule S rest hf
    rw [if_pos hf, if_pos hf]
    refine ⟨.inl (getD_mem8 ho), fun y => ?_⟩
    unfold padP
    have hl : (S.eraseIdx (outI rule S rest) ++ [x]).length = room := by
      rw [List.length_append, List.length_eraseIdx_of_lt ho]
      simp
      omega
    rw [hl, hf, List.mem_append, List.mem_singleton, mem_erase8 h.nd ho]
    constructor
    · rintro ((hy | hy) | ⟨d, a, b, _⟩)
      · exact .inr ⟨.inl hy.1, hy.2⟩
      · exact .inl hy
      · omega
    · rintro (hy | ⟨hy | ⟨d, a, b, _⟩, hne⟩)
      · exact .inl (.inr hy)
      · exact .inl (.inl ⟨hy, hne⟩)
      · omega
  · have hle := h.le
    rw [if_neg hf, if_neg hf]
    refine ⟨.inr ⟨S.length, Nat.le_refl _, by omega, rfl⟩, fun y => ?_⟩
    unfold padP
    rw [List.mem_append, List.mem_singleton, List.length_append]
    simp only [List.length_cons, List.length_nil]
    constructor
    · rintro ((hy | hy) | ⟨d, a, b, e⟩)
      · exact .inr ⟨.inl hy, by have := h.nn y hy; omega⟩
      · exact .inl hy
      · exact .inr ⟨.inr ⟨d, by omega, b, e⟩, by omega⟩
    · rintro (hy | ⟨hy | ⟨d, a, b, e⟩, hne⟩)
      · exact .inl (.inr hy)
      · exact .inl (.inl hy)
      · exact .inr ⟨d, by omega, b, e⟩
/-- Where an ask is answered, the room has the same numbers. -/
theorem pad_hit {room : Nat} {S : List Int} (h : InOk room S) (rule : Int) (rest : List Int) {x : Int} (hm : x ∈ S) : ∀ y, padP room (inS room rule rest S x) y ↔ padP room S y := fun y => by
  unfold inS
  rw [if_pos hm]
  split
  · unfold padP
    rw [List.mem_append, List.mem_singleton, List.length_append, List.length_eraseIdx_of_lt (idx_lt8 hm), mem_erase8 h.nd (idx_lt8 hm), idx_at8 hm]
    have := idx_lt8 hm
    simp only [List.length_cons, List.length_nil]
    rw [show S.length - 1 + (0 + 1) = S.length by omega]
    constructor
    · rintro ((hy | rfl) | hy)
      · exact .inl hy.1
      · exact .inl hm
      · exact .inr hy
    · rintro (hy | hy)
      · by_cases e : y = x
        · exact .inl (.inr e)
        · exact .inl (.inl ⟨hy, e⟩)
      · exact .inr hy
  · exact Iff.rfl
/-- Each rule is one way to answer. -/
theorem fl_cst {room : Nat} (h1 : 1 ≤ room) (rule : Int) : ∀ (r S : List Int), InOk room S → (∀ y ∈ r, 0 ≤ y) → Cst (padP room S) r (flL room rule S r)
  | [], S, _, _ => .nil _
  | x :: r, S, h, hr => by
    have hx := hr x (List.mem_cons_self ..)
    have ih := fl_cst h1 rule r _ (h.step h1 rule r hx) (fun y hy => hr y (List.mem_cons_of_mem _ hy))
    simp only [flL]
    by_cases hm : x ∈ S
    · rw [if_pos hm, Nat.zero_add]
      exact .hit _ x r _ (.inl hm) (ih.same (pad_hit h rule r hm))
    · rw [if_neg hm, Nat.add_comm]
      obtain ⟨g1, g2⟩ := pad_miss h1 h rule r hx hm
      exact .miss _ x r _ _ (fun hp => hm ((pad_in hx).1 hp)) g1 (ih.same g2)
/-- The rule that knows what comes is none worse than any way. -/
theorem fl_best {room : Nat} (h1 : 1 ≤ room) : ∀ (r S : List Int) (k : Nat), InOk room S → (∀ y ∈ r, 0 ≤ y) → Cst (padP room S) r k → flL room 2 S r ≤ k
  | [], S, k, _, _, _ => Nat.zero_le _
  | x :: r, S, k, h, hr, hc => by
    have hx := hr x (List.mem_cons_self ..)
    have hr2 : ∀ y ∈ r, 0 ≤ y := fun y hy => hr y (List.mem_cons_of_mem _ hy)
    have ho := h.step h1 2 r hx
    simp only [flL]
    cases hc with
    | hit _ _ _ _ hp hc2 =>
      have hm := (pad_in hx).1 hp
      rw [if_pos hm, Nat.zero_add]
      exact fl_best h1 r _ k ho hr2 (hc2.same fun y => (pad_hit h 2 r hm y).symm)
    | miss _ _ _ k e hp he hc2 =>
      have hm : x ∉ S := fun hm => hp (.inl hm)
      rw [if_neg hm]
      obtain ⟨g1, g2⟩ := pad_miss h1 h 2 r hx hm
      obtain ⟨b, hb⟩ : ∃ b, b = goneP room 2 r S := ⟨_, rfl⟩
      rw [← hb] at g1 g2
      have hfar : ∀ y, padP room S y → r.idxOf y ≤ r.idxOf b := fun y hy => by
        rw [hb]
        unfold goneP
        by_cases hf : S.length = room
        · rw [if_pos hf]
          have hyS : y ∈ S := hy.resolve_right (by rintro ⟨d, a, b, _⟩; omega)
          obtain ⟨⟨b', hb1, hb2, hb3⟩, hall⟩ := latK_is S r S.length (by omega)
          have hoi : outI 2 S r = b' := by unfold outI; rw [if_pos rfl, hb2]; rfl
          rw [hoi]
          have := hall (S.idxOf y) (idx_lt8 hyS)
          rw [idx_at8 hyS, hb3] at this
          omega
        · rw [if_neg hf]
          have : r.idxOf (-((S.length : Int) + 1)) = r.length := List.idxOf_eq_length fun hh => by have := hr2 _ hh; omega
          rw [this]
          exact List.idxOf_le_length
      have hres : ∃ k', k' ≤ k ∧ Cst (fun y => y = x ∨ (padP room S y ∧ y ≠ b)) r k' := by
        by_cases e1 : e = b
        · subst e1; exact ⟨k, Nat.le_refl _, hc2⟩
        · have hxe : x ≠ e := fun e2 => hp (e2 ▸ he)
          have hxb : x ≠ b := fun e2 => hp (e2 ▸ g1)
          refine Cst.first r _ _ e b k ⟨.inr ⟨he, e1⟩, ?_, .inr ⟨g1, fun e2 => e1 e2.symm⟩, ?_, fun y h3 h4 => ?_⟩ (hfar e he) hc2
          · rintro (e2 | ⟨_, e2⟩)
            · exact hxb e2.symm
            · exact e2 rfl
          · rintro (e2 | ⟨_, e2⟩)
            · exact hxe e2.symm
            · exact e2 rfl
          · exact ⟨fun hy => hy.imp id fun h5 => ⟨h5.1, h3⟩, fun hy => hy.imp id fun h5 => ⟨h5.1, h4⟩⟩
      obtain ⟨k', hk, hc3⟩ := hres
      have := fl_best h1 r _ k' ho hr2 (hc3.same fun y => (g2 y).symm)
      omega
theorem knows_best {room : Nat} (h1 : 1 ≤ room) (rule : Int) (r : List Int) (hr : ∀ y ∈ r, 0 ≤ y) : flL room 2 [] r ≤ flL room rule [] r := by
  have h : InOk room [] := ⟨List.nodup_nil, fun y hy => (by cases hy), Nat.zero_le _⟩
  exact fl_best h1 r [] _ h hr (fl_cst h1 rule r [] h hr)

end Go.Proofs.Ytfdaifmfecfchaa

namespace Go.Proofs.Ytfdaifmfecfchaa
open Go.RowKit

/-! ### more room for the ones asked for least recently -/
theorem inS_hit1 {room : Nat} {rest S : List Int} {x : Int} (h : x ∈ S) : inS room 1 rest S x = S.eraseIdx (S.idxOf x) ++ [x] := by
  unfold inS; rw [if_pos h, if_pos rfl]
theorem inS_full1 {room : Nat} {rest S : List Int} {x : Int} (h : x ∉ S) (hf : S.length = room) : inS room 1 rest S x = S.eraseIdx 0 ++ [x] := by
  unfold inS; rw [if_neg h, if_pos hf]; rfl
theorem inS_free1 {room : Nat} {rest S : List Int} {x : Int} (h : x ∉ S) (hf : S.length ≠ room) : inS room 1 rest S x = S ++ [x] := by
  unfold inS; rw [if_neg h, if_neg hf]
/-- Of all that were asked for, the last ones are in the room. -/
def Tail (room : Nat) (T S : List Int) : Prop := ∃ U, T = U ++ S ∧ (S.length = room ∨ (U = [] ∧ S.length ≤ room))
/-- Of all, in the order of their last asks. -/
def stk (T : List Int) (x : Int) : List Int := T.eraseIdx (T.idxOf x) ++ [x]
theorem idx_app8 {U S : List Int} {x : Int} (h : x ∉ U) : (U ++ S).idxOf x = U.length + S.idxOf x := by
  rw [List.idxOf_append, if_neg h]
  omega
theorem idx_app9 {U S : List Int} {x : Int} (h : x ∈ U) : (U ++ S).idxOf x = U.idxOf x := by
  rw [List.idxOf_append, if_pos h]
theorem erase_none8 {S : List Int} {x : Int} (h : x ∉ S) : S.eraseIdx (S.idxOf x) = S := by
  rw [List.idxOf_eq_length h]
  exact List.eraseIdx_of_length_le (Nat.le_refl _)
theorem Tail.step {room : Nat} (h1 : 1 ≤ room) {T S : List Int} (h : Tail room T S) (hn : T.Nodup) (rest : List Int) (x : Int) : Tail room (stk T x) (inS room 1 rest S x) := by
  obtain ⟨U, rfl, hl⟩ := h
  obtain ⟨n1, n2, n3⟩ := List.nodup_append.1 hn
  unfold stk
  by_cases hm : x ∈ S
  · have hu : x ∉ U := fun hu => n3 x hu x hm rfl
    rw [inS_hit1 hm, idx_app8 hu, List.eraseIdx_append_of_length_le (by omega), Nat.add_sub_cancel_left, List.append_assoc]
    refine ⟨U, rfl, ?_⟩
    have hlt := idx_lt8 hm
    rw [List.length_append, List.length_eraseIdx_of_lt hlt]
    simp only [List.length_cons, List.length_nil]
    rcases hl with hl | ⟨hl, hl2⟩
    · exact .inl (by omega)
    · exact .inr ⟨hl, by omega⟩
  · by_cases hf : S.length = room
    · rw [inS_full1 hm hf]
      cases S with
      | nil => simp at hf; omega
      | cons y S =>
        rw [List.eraseIdx_cons_zero]
        by_cases hu : x ∈ U
        · refine ⟨U.eraseIdx (U.idxOf x) ++ [y], ?_, .inl ?_⟩
          · rw [idx_app9 hu, List.eraseIdx_append_of_lt_length (idx_lt8 hu)]
            simp
          · rw [List.length_append]; simpa using hf
        · refine ⟨U ++ [y], ?_, .inl ?_⟩
          · rw [erase_none8 (by rw [List.mem_append]; exact fun h => h.elim hu hm)]
            simp
          · rw [List.length_append]; simpa using hf
    · rcases hl with hl | ⟨hl, hl2⟩
      · exact absurd hl hf
      · subst hl
        rw [inS_free1 hm hf, List.nil_append, erase_none8 hm]
        refine ⟨[], rfl, .inr ⟨rfl, ?_⟩⟩
        rw [List.length_append]
        simp
        omega
theorem stk_nodup {T : List Int} (h : T.Nodup) (x : Int) : (stk T x).Nodup := by
  unfold stk
  by_cases hm : x ∈ T
  · exact nodup_app1 (nodup_erase8 h _) fun hh => ((mem_erase8 h (idx_lt8 hm) x).1 hh).2 (idx_at8 hm).symm
  · rw [erase_none8 hm]; exact nodup_app1 h hm
theorem Tail.wider {room : Nat} {T S S' : List Int} (h : Tail room T S) (h' : Tail (room + 1) T S') {x : Int} (hm : x ∈ S) : x ∈ S' := by
  obtain ⟨U, rfl, hl⟩ := h
  obtain ⟨U', e, hl'⟩ := h'
  have hlen : (U ++ S).length = (U' ++ S').length := by rw [e]
  rw [List.length_append, List.length_append] at hlen
  have hle : S.length ≤ S'.length := by
    rcases hl with hl | ⟨hl, hl2⟩ <;> rcases hl' with hl' | ⟨hl', hl2'⟩
    · omega
    · subst hl'; simp at hlen; omega
    · subst hl; simp at hlen; omega
    · subst hl; subst hl'; simp at hlen; omega
  have e3 : U'.length ≤ U.length := by omega
  have e5 : (U' ++ S').drop U.length = S'.drop (U.length - U'.length) := by
    rw [List.drop_append, List.drop_eq_nil_of_le e3, List.nil_append]
  have e4 : (U ++ S).drop U.length = S := by simp
  rw [e, e5] at e4
  rw [← e4] at hm
  exact List.mem_of_mem_drop hm
theorem wider_best {room : Nat} (h1 : 1 ≤ room) : ∀ (r T S S' : List Int), T.Nodup → Tail room T S → Tail (room + 1) T S' → flL (room + 1) 1 S' r ≤ flL room 1 S r
  | [], T, S, S', _, _, _ => Nat.le_refl _
  | x :: r, T, S, S', hn, h, h' => by
    have ih := wider_best h1 r (stk T x) _ _ (stk_nodup hn x) (h.step h1 hn r x) (h'.step (by omega) hn r x)
    simp only [flL]
    by_cases hm : x ∈ S
    · rw [if_pos hm, if_pos (h.wider h' hm)]; omega
    · rw [if_neg hm]
      split <;> omega

/-! ### how many numbers there are -/
/-- The numbers of asks, each once, behind those that were asked for. -/
def kinL : List Int → List Int → Nat
  | _, [] => 0
  | Q, x :: r => (if x ∈ Q then 0 else 1) + kinL (Q ++ [x]) r
theorem inS_sub {room : Nat} {rule : Int} {rest S : List Int} {x y : Int} (h : y ∈ inS room rule rest S x) : y ∈ S ∨ y = x := by
  unfold inS at h
  split at h
  · split at h
    · rcases List.mem_append.1 h with h | h
      · exact .inl (eraseIdx_sub8 h)
      · exact .inr (List.mem_singleton.1 h)
    · exact .inl h
  · rcases List.mem_append.1 h with h | h
    · split at h
      · exact .inl (eraseIdx_sub8 h)
      · exact .inl h
    · exact .inr (List.mem_singleton.1 h)
theorem kin_le {room : Nat} {rule : Int} : ∀ (r S Q : List Int), (∀ y ∈ S, y ∈ Q) → kinL Q r ≤ flL room rule S r
  | [], _, _, _ => Nat.le_refl _
  | x :: r, S, Q, h => by
    have ih := kin_le (room := room) (rule := rule) r (inS room rule r S x) (Q ++ [x]) (fun y hy => by
      rcases inS_sub hy with hy | hy
      · exact List.mem_append_left _ (h y hy)
      · exact List.mem_append_right _ (by rw [hy]; exact List.mem_singleton.2 rfl))
    simp only [kinL, flL]
    by_cases hq : x ∈ Q
    · rw [if_pos hq]; omega
    · rw [if_neg hq, if_neg (fun hs => hq (h x hs))]; omega
theorem fl_len {room : Nat} {rule : Int} : ∀ (r S : List Int), flL room rule S r ≤ r.length
  | [], _ => Nat.le_refl _
  | x :: r, S => by
    have ih := fl_len (room := room) (rule := rule) r (inS room rule r S x)
    simp only [flL, List.length_cons]
    split <;> omega
theorem nodup_small : ∀ {S : List Int} {n : Nat}, S.Nodup → (∀ y ∈ S, 0 ≤ y ∧ y < n) → S.length ≤ n := fun {S n} h hs => by
  have e : ∀ {a b : List Int}, a.Nodup → (∀ x ∈ a, x ∈ b) → a.length ≤ b.length := fun {a} => by
    induction a with
    | nil => intro b _ _; exact Nat.zero_le _
    | cons x a ih =>
      intro b hn hb
      have hx := hb x (List.mem_cons_self ..)
      have h1 := List.nodup_cons.1 hn
      have := ih (b := b.erase x) h1.2 (fun y hy => (List.mem_erase_of_ne (by rintro rfl; exact h1.1 hy)).2 (hb y (List.mem_cons_of_mem _ hy)))
      rw [List.length_erase_of_mem hx] at this
      have hp : 0 < b.length := List.length_pos_of_mem hx
      simp only [List.length_cons]
      omega
  have := e (b := (List.range n).map fun i : Nat => (i : Int)) h fun y hy => by
    obtain ⟨h0, h1⟩ := hs y hy
    exact List.mem_map.2 ⟨y.toNat, List.mem_range.2 (by omega), by omega⟩
  simpa using this
/-- Where there is room for all numbers, each is missed once. -/
theorem kin_full {n : Nat} : ∀ (r S Q : List Int), S.Nodup → (∀ y ∈ S, 0 ≤ y ∧ y < n) → (∀ y, y ∈ Q ↔ y ∈ S) → (∀ y ∈ r, 0 ≤ y ∧ y < n) → flL n 0 S r = kinL Q r
  | [], _, _, _, _, _, _ => rfl
  | x :: r, S, Q, hn, hs, hq, hr => by
    have hx := hr x (List.mem_cons_self ..)
    have hr2 : ∀ y ∈ r, 0 ≤ y ∧ y < n := fun y hy => hr y (List.mem_cons_of_mem _ hy)
    simp only [flL, kinL]
    by_cases hm : x ∈ S
    · have e : inS n 0 r S x = S := by unfold inS; rw [if_pos hm, if_neg (by decide)]
      rw [if_pos hm, if_pos ((hq x).2 hm), e]
      rw [kin_full r S (Q ++ [x]) hn hs (fun y => by
        rw [List.mem_append, List.mem_singleton, hq]
        exact ⟨fun h => h.elim id (fun e => by rw [e]; exact hm), .inl⟩) hr2]
    · have hl := nodup_small (nodup_app1 hn hm) (n := n) (fun y hy => by
        rcases List.mem_append.1 hy with hy | hy
        · exact hs y hy
        · rw [List.mem_singleton.1 hy]; exact hx)
      rw [List.length_append] at hl
      simp only [List.length_cons, List.length_nil] at hl
      have e : inS n 0 r S x = S ++ [x] := by unfold inS; rw [if_neg hm, if_neg (by omega)]
      rw [if_neg hm, if_neg (fun h => hm ((hq x).1 h)), e]
      rw [kin_full r (S ++ [x]) (Q ++ [x]) (nodup_app1 hn hm) (fun y hy => by
        rcases List.mem_append.1 hy with hy | hy
        · exact hs y hy
        · rw [List.mem_singleton.1 hy]; exact hx) (fun y => by rw [List.mem_append, List.mem_append, hq]) hr2]

/-! ### a list with the ones asked for ahead -/
def frL (F : List Nat) (x : Nat) : List Nat := x :: F.eraseIdx (F.idxOf x)
/-- What asks cost, and the list behind them. -/
def frC : List Nat → List Nat → Nat × List Nat
  | F, [] => (0, F)
  | F, x :: r => ((frC (frL F x) r).1 + (F.idxOf x + 1), (frC (frL F x) r).2)
theorem frL_perm {F : List Nat} {x : Nat} (h : x ∈ F) : (frL F x).Perm F := by
  unfold frL
  rw [← List.erase_eq_eraseIdx_of_idxOf (i := F.idxOf x) rfl]
  exact (List.perm_cons_erase h).symm
theorem frC_perm {n : Nat} : ∀ (r F : List Nat), F.Perm (List.range n) → (∀ x ∈ r, x < n) → (frC F r).2.Perm (List.range n) ∧ r.length ≤ (frC F r).1 ∧ (frC F r).1 ≤ n * r.length
  | [], F, h, _ => ⟨h, Nat.le_refl _, Nat.zero_le _⟩
  | x :: r, F, h, hr => by
    have hx : x ∈ F := h.mem_iff.2 (List.mem_range.2 (hr x (List.mem_cons_self ..)))
    obtain ⟨h1, h2, h3⟩ := frC_perm r (frL F x) ((frL_perm hx).trans h) (fun y hy => hr y (List.mem_cons_of_mem _ hy))
    have hl : F.length = n := by rw [h.length_eq, List.length_range]
    have hi : F.idxOf x < n := by rw [← hl]; exact List.idxOf_lt_length_of_mem hx
    simp only [frC, List.length_cons]
    refine ⟨h1, by omega, ?_⟩
    rw [Nat.mul_add]
    omega
theorem frC_head : ∀ (r F : List Nat) (h : r ≠ []), (frC F r).2.head? = r.getLast?
  | [], _, h => absurd rfl h
  | [x], F, _ => rfl
  | x :: y :: r, F, _ => by
    rw [List.getLast?_cons_cons]
    exact frC_head (y :: r) (frL F x) (by simp)

end Go.Proofs.Ytfdaifmfecfchaa

namespace Go.Proofs.Ytfdaifmfecfchaa
open Go.RowKit Go.Sort

def Try.delRen : Go.Shelf.Ren := ⟨fun | 45 => 46 | n => n, fun | 23 => 2 | 22 => 27 | 3 => 3 | 4 => 4 | 0 => 0 | n => n, fun | n => n⟩
theorem Try.laysDel : Go.Proofs.SlLaysE.n45 Try.prog Try.delRen := {
  mixed := by kernel_rfl
  f45 := ⟨Try.f46.name, by decide, Try.func46.trans (congrArg some (by kernel_rfl))⟩
  t0 := Try.underlying0
  a0 := Try.isAgg0
  z0 := Try.sizeOf0
  v0 := Try.zeroValue0
  t3 := Try.underlying3
  a3 := Try.isAgg3
  z3 := Try.sizeOf3
  v3 := Try.zeroValue3
  t4 := Try.underlying4
  a4 := Try.isAgg4
  z4 := Try.sizeOf4
  v4 := Try.zeroValue4
  t22 := Try.underlying27
  a22 := Try.isAgg27
  z22 := Try.sizeOf27
  v22 := Try.zeroValue27
  a23 := Try.isAgg2
  z23 := Try.sizeOf2 }

/-- One element is taken out of a row that the call owns. -/
theorem delete_any (lo g cap m : Nat) (xs : List Int) (w : World) (ho : w.ownsRow lo 2 1 (.slice (some ⟨g, 0, none⟩) xs.length cap) xs.length (xs.map I64)) (hm : m < xs.length) (hlo : lo ≤ w.heap.size) :
    Calls Try.prog 46 #[.slice (some ⟨g, 0, none⟩) xs.length cap, .int .i64 m, .int .i64 ((m + 1 : Nat) : Int)] w fun e w' => e = .returned (.slice (some ⟨g, 0, none⟩) (xs.length - 1) cap) ∧ w'.ownsRow lo 2 1 (.slice (some ⟨g, 0, none⟩) (xs.length - 1) cap) (xs.length - 1) ((xs.eraseIdx m).map I64) ∧ Kept (· = g) w w' := by
  obtain ⟨i0, hi, hz0, hz1, hz2⟩ := info_parts Try.infoI64
  obtain ⟨g', cap', e, hbg, hgl, hnc, hcm, _, hH⟩ := Lib.holds_of_ownsRow (enc := I64) ho (by intro e; cases e)
  injection e with e1 _ e2
  injection e1 with e1
  injection e1 with e1
  subst e1; subst e2
  have hs : (xs.toArray).size = xs.length := by simp
  have hr := AnyE.slices_Delete Try.laysDel I64 (fun _ => rfl) 0 Try.zeroValue2 i0 hi hz1 g 0 cap m (m + 1) xs.toArray w hH (by rw [hs]; exact hnc) (by simp only [maxLen] at hcm; omega) (by omega) (by rw [hs]; omega)
  rw [hs] at hr
  refine hr.mono ?_
  rintro e w' ⟨rfl, q, rfl⟩
  have e3 : xs.length - (m + 1 - m) = xs.length - 1 := by omega
  have e4 : m + 1 - m = 1 := by omega
  rw [e3, e4]
  have hlen : (xs.take m ++ xs.drop (m + 1) ++ List.replicate 1 (0 : Int)).length = xs.length := by simp; omega
  have hx := Lib.ownsRow_putRow (q := q) (k := xs.length - 1) ho hlen (by omega)
  have e5 : (xs.take m ++ xs.drop (m + 1) ++ List.replicate 1 (0 : Int)).take (xs.length - 1) = xs.eraseIdx m := by
    rw [← List.eraseIdx_eq_take_drop_succ, List.take_append_of_le_length (by rw [List.length_eraseIdx, if_pos hm]; exact Nat.le_refl _), List.take_of_length_le (by rw [List.length_eraseIdx, if_pos hm]; exact Nat.le_refl _)]
  rw [e5] at hx
  refine ⟨rfl, hx, ?_⟩
  refine ⟨rfl, rfl, rfl, by simp [putRow, mapBlock, Sort.ahead], fun k hk hn => ?_⟩
  simp [putRow, mapBlock, Sort.ahead, Array.getElem?_modify, Ne.symm hn]

end Go.Proofs.Ytfdaifmfecfchaa

namespace Go.Proofs.Ytfdaifmfecfchaa
open Go.RowKit

/-- The index of the first one, or -1. -/
def idxI (xs : List Int) (x : Int) : Int := if x ∈ xs then ((xs.idxOf x : Nat) : Int) else -1
theorem idxI_at : ∀ (xs : List Int) (x : Int) (k : Nat), (∀ j, j < k → xs.getD j 0 ≠ x) → k < xs.length → xs.getD k 0 = x → x ∈ xs ∧ xs.idxOf x = k
  | [], x, k, _, h, _ => by simp at h
  | y :: xs, x, k, h1, h2, h3 => by
    cases k with
    | zero =>
      simp at h3
      subst h3
      exact ⟨List.mem_cons_self .., by simp⟩
    | succ k =>
      have h0 : y ≠ x := h1 0 (by omega)
      obtain ⟨a, b⟩ := idxI_at xs x k (fun j hj => h1 (j + 1) (by omega)) (by simpa using h2) (by simpa using h3)
      refine ⟨List.mem_cons_of_mem _ a, ?_⟩
      have : (y == x) = false := by rw [beq_eq_false_iff_ne]; exact h0
      rw [List.idxOf_cons, this]
      simp [b]
theorem idxI_none {xs : List Int} {x : Int} (h : ∀ j, j < xs.length → xs.getD j 0 ≠ x) : x ∉ xs := fun hm => by
  obtain ⟨j, hj, e⟩ := List.mem_iff_getElem.1 hm
  refine h j hj ?_
  rw [List.getD_eq_getElem?_getD, List.getElem?_eq_getElem hj]
  exact e
set_option maxHeartbeats 400000 in
theorem index_any (v : Value) (xs : List Int) (x : Int) (w : World) (h : RdI w v xs) (hl : xs.length ≤ 1000000) :
    Calls Try.prog 59 #[v, .int .i64 x] w fun e w' => e = .returned (.int .i64 (idxI xs x)) ∧ w = w' := by
  obtain ⟨a, c, rfl⟩ := h.shape
  have HS := Lib.hid h
  obtain ⟨n, hn⟩ : ∃ n, n = xs.length := ⟨_, rfl⟩
  have HN := Lib.hid hn.symm
  rw [← hn] at HS hl ⊢
  clear h hn
  go_enter Try.func59, Try.ntmps59
  go_wp2_with fail
  go_loopw [5, 8] (fun _ kv wr => ∃ k : Nat, kv = .int .i64 k ∧ k ≤ n ∧ Hid (∀ j, j < k → xs.getD j 0 ≠ x) ∧ w = wr) (fun _ kv _ => n + 1 - (intOf kv).toNat)
  case atStart => exact ⟨0, rfl, Nat.zero_le _, Lib.hid (fun j hj => by omega), rfl⟩
  case round =>
    obtain ⟨k, rfl, hk, HA, rfl⟩ := hrel
    by_cases hlt : k < n
    · have hkI : (k : Int) < (n : Int) := by omega
      obtain ⟨sb, so, rfl, _, cs⟩ := HS.out.at (i := k) (by rw [HN.out]; exact hlt)
      obtain ⟨y, hy⟩ : ∃ y, y = xs.getD k 0 := ⟨_, rfl⟩
      rw [← hy] at cs
      have HY := Lib.hid hy
      clear hy
      by_cases hxy : x = y
      · have q : (x == y) = true := by rw [hxy]; simp
        have HR := Lib.hid (show idxI xs x = (k : Int) by
          obtain ⟨h1, h2⟩ := idxI_at xs x k HA.out (by rw [HN.out]; exact hlt) (by rw [← HY.out, hxy])
          unfold idxI
          rw [if_pos h1, h2])
        clear hxy
        go_wp2_with fail
        go_ret
        exact ⟨by rw [HR.out]; rfl, rfl⟩
      · have q : (x == y) = false := by rw [beq_eq_false_iff_ne]; exact hxy
        have HA2 := Lib.hid (show ∀ j, j < k + 1 → xs.getD j 0 ≠ x from fun j hj => by
          by_cases e : j = k
          · rw [e, ← HY.out]; exact fun e2 => hxy e2.symm
          · exact HA.out j (by omega))
        clear hxy
        go_wp2_with fail
        go_roundw
        case rel => exact ⟨k + 1, by go_num, by omega, HA2, by first | rfl | trivial⟩
        case measure => simp [intOf]; omega
    · obtain rfl : k = n := by omega
      have HR := Lib.hid (show idxI xs x = -1 by unfold idxI; rw [if_neg (idxI_none (by rw [HN.out]; exact HA.out))])
      have hkk : ¬ (k : Int) < (k : Int) := by omega
      go_wp2_with fail
      go_ret
      exact ⟨by rw [HR.out]; rfl, rfl⟩

end Go.Proofs.Ytfdaifmfecfchaa
