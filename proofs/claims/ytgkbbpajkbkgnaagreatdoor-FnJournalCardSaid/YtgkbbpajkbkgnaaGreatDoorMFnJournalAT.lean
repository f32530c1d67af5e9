/-
  FnJournal: texts joined: BndM, BtI.
-/
import Derived.Test.YtgkbbpajkbkgnaaGreatDoorMFnJournalAI
import Derived.Test.YtgkbbpajkbkgnaaGreatDoorMFnJournalAO
import Derived.Test.YtgkbbpajkbkgnaaGreatDoorMFnJournalAQ
import Derived.Test.YtgkbbpajkbkgnaaGreatDoorMFnJournalAR
set_option linter.unusedVariables false
set_option linter.unusedSimpArgs false
namespace Go.Proofs.YtgkbbpajkbkgnaaGreatDoor
open Go.RowKit Go.Sort
def pkK (W : Nat → Nat → Int) (ins : List Nat) (i : Nat) (s : Option (Nat × Nat)) : Nat → Option (Nat × Nat)
  | 0 => s
  | k + 1 => if (k + 1) ∈ ins then pkK W ins i s k else match pkK W ins i s k with
    | none => some (i, k + 1)
    | some p => if W i (k + 1) < W p.1 p.2 then some (i, k + 1) else some p
def poK (W : Nat → Nat → Int) (n : Nat) (ins : List Nat) : Nat → Option (Nat × Nat)
  | 0 => none
  | i + 1 => if (i + 1) ∈ ins then pkK W ins (i + 1) (poK W n ins i) (n - 1) else poK W n ins i
def treeK (W : Nat → Nat → Int) (n : Nat) : Nat → List Nat × List Nat × Int
  | 0 => ([1], [], 0)
  | t + 1 => match poK W n (treeK W n t).1 (n - 1) with
    | none => treeK W n t
    | some p => ((treeK W n t).1 ++ [p.2], (treeK W n t).2.1 ++ [p.1, p.2], (treeK W n t).2.2 + W p.1 p.2)
theorem pkK_ins {W : Nat → Nat → Int} {ins : List Nat} {i n : Nat} {s : Option (Nat × Nat)} (hi : i ∈ ins) (hin : i < n) (hs : ∀ p, s = some p → p.1 ∈ ins ∧ p.2 ∉ ins ∧ p.1 < n ∧ 1 ≤ p.2 ∧ p.2 < n) : ∀ k, k < n → ∀ p, pkK W ins i s k = some p → p.1 ∈ ins ∧ p.2 ∉ ins ∧ p.1 < n ∧ 1 ≤ p.2 ∧ p.2 < n
  | 0, _, p, h => hs p h
  | k + 1, hk, p, h => by
    have ih := pkK_ins (W := W) hi hin hs k (by omega)
    simp only [pkK] at h
    split at h
    · exact ih p h
    · rename_i hn
      split at h
      · injection h with h; subst h; exact ⟨hi, hn, hin, by show 1 ≤ k + 1; omega, hk⟩
      · rename_i q hq
        split at h
        · injection h with h; subst h; exact ⟨hi, hn, hin, by show 1 ≤ k + 1; omega, hk⟩
        · injection h with h; subst h; exact ih q hq
theorem poK_ins {W : Nat → Nat → Int} {n : Nat} {ins : List Nat} (hn : 1 ≤ n) : ∀ i, i < n → ∀ p, poK W n ins i = some p → p.1 ∈ ins ∧ p.2 ∉ ins ∧ p.1 < n ∧ 1 ≤ p.2 ∧ p.2 < n
  | 0, _, p, h => by cases h
  | i + 1, hi, p, h => by
    have ih := poK_ins (W := W) (ins := ins) hn i (by omega)
    simp only [poK] at h
    split at h
    · rename_i hm
      exact pkK_ins hm hi ih (n - 1) (by omega) p h
    · exact ih p h
theorem pkK_some {W : Nat → Nat → Int} {ins : List Nat} {i : Nat} {s : Option (Nat × Nat)} : ∀ k, (s.isSome = true ∨ ∃ j, 1 ≤ j ∧ j ≤ k ∧ j ∉ ins) → (pkK W ins i s k).isSome = true
  | 0, h => by
    rcases h with h | ⟨j, h1, h2, _⟩
    · exact h
    · omega
  | k + 1, h => by
    have ih := pkK_some (W := W) (ins := ins) (i := i) (s := s) k
    simp only [pkK]
    split
    · rename_i hk
      refine ih ?_
      rcases h with h | ⟨j, h1, h2, h3⟩
      · exact .inl h
      · refine .inr ⟨j, h1, ?_, h3⟩
        by_cases e : j = k + 1
        · subst e; exact absurd hk h3
        · omega
    · split
      · rfl
      · split <;> rfl
theorem poK_some {W : Nat → Nat → Int} {n : Nat} {ins : List Nat} {c : Nat} (hc : c ∈ ins) (hc1 : 1 ≤ c) (hfree : ∃ j, 1 ≤ j ∧ j ≤ n - 1 ∧ j ∉ ins) : ∀ i, c ≤ i → (poK W n ins i).isSome = true
  | 0, h => by omega
  | i + 1, h => by
    simp only [poK]
    split
    · exact pkK_some _ (.inr hfree)
    · rename_i hn
      have : c ≠ i + 1 := fun e => hn (e ▸ hc)
      exact poK_some hc hc1 hfree i (by omega)
structure Tree (W : Nat → Nat → Int) (n t : Nat) : Prop where
  len : (treeK W n t).1.length = t + 1
  one : 1 ∈ (treeK W n t).1
  nod : (treeK W n t).1.Nodup
  rng : ∀ c ∈ (treeK W n t).1, 1 ≤ c ∧ c < n
  eln : (treeK W n t).2.1.length = 2 * t
  ern : ∀ c ∈ (treeK W n t).2.1, 1 ≤ c ∧ c < n
theorem tree_free {n : Nat} {ins : List Nat} (hl : ins.length < n - 1) : ∃ j, 1 ≤ j ∧ j ≤ n - 1 ∧ j ∉ ins := by
  by_cases h : ∃ j, 1 ≤ j ∧ j ≤ n - 1 ∧ j ∉ ins
  · exact h
  · have h2 : ∀ x ∈ (List.range (n - 1)).map (· + 1), x ∈ ins := by
      intro x hx
      rw [List.mem_map] at hx
      obtain ⟨y, hy, rfl⟩ := hx
      rw [List.mem_range] at hy
      refine Classical.byContradiction fun hni => h ⟨y + 1, by omega, by omega, hni⟩
    have := nodup_le2 ins n h2
    omega
where
  nodup_le2 (ins : List Nat) (n : Nat) (h : ∀ x ∈ (List.range (n - 1)).map (· + 1), x ∈ ins) : n - 1 ≤ ins.length := by
    have h1 : ((List.range (n - 1)).map (· + 1)).Nodup := by
      rw [List.nodup_iff_pairwise_ne, List.pairwise_map]
      exact List.Pairwise.imp (fun h e => h (by omega)) (List.nodup_iff_pairwise_ne.1 List.nodup_range)
    have := nodup_in h1 h
    rw [List.length_map, List.length_range] at this
    exact this
  nodup_in : ∀ {a b : List Nat}, a.Nodup → (∀ x ∈ a, x ∈ b) → a.length ≤ b.length
    | [], _, _, _ => Nat.zero_le _
    | x :: a, b, h, hs => by
      rw [List.nodup_cons] at h
      have hx : x ∈ b := hs x (by simp)
      have ih := nodup_in (a := a) (b := b.erase x) h.2 fun y hy => (List.mem_erase_of_ne (fun e : y = x => h.1 (e ▸ hy))).2 (hs y (by simp [hy]))
      rw [List.length_erase_of_mem hx] at ih
      have := List.length_pos_of_mem hx
      simp only [List.length_cons]
      omega
theorem tree_step {W : Nat → Nat → Int} {n t : Nat} (h : Tree W n t) (ht : t + 1 < n - 1) : ∃ p, poK W n (treeK W n t).1 (n - 1) = some p ∧ p.1 ∈ (treeK W n t).1 ∧ p.2 ∉ (treeK W n t).1 ∧ p.1 < n ∧ 1 ≤ p.2 ∧ p.2 < n := by
  have hs := poK_some (W := W) h.one (Nat.le_refl _) (tree_free (n := n) (by rw [h.len]; exact ht)) (n - 1) (by omega)
  cases hp : poK W n (treeK W n t).1 (n - 1) with
  | none => rw [hp] at hs; cases hs
  | some p => exact ⟨p, rfl, poK_ins (by omega) (n - 1) (by omega) p hp⟩
theorem tree_of (W : Nat → Nat → Int) {n : Nat} (hn : 3 ≤ n) : ∀ t, t + 1 ≤ n - 1 → Tree W n t
  | 0, _ => ⟨rfl, by simp [treeK], by simp [treeK], fun c hc => by simp [treeK] at hc; omega, rfl, fun c hc => by simp [treeK] at hc⟩
  | t + 1, ht => by
    have ih := tree_of W hn t (by omega)
    obtain ⟨p, hp, h1, h2, h3, h4, h5⟩ := tree_step ih (by omega)
    have e : treeK W n (t + 1) = ((treeK W n t).1 ++ [p.2], (treeK W n t).2.1 ++ [p.1, p.2], (treeK W n t).2.2 + W p.1 p.2) := by
      simp only [treeK]; rw [hp]
    have hp1 := ih.rng _ h1
    constructor
    · rw [e, List.length_append, ih.len]; rfl
    · rw [e, List.mem_append]; exact .inl ih.one
    · rw [e, List.nodup_append]
      exact ⟨ih.nod, by simp, fun x hx y hy => by rw [List.mem_singleton] at hy; subst hy; intro e; subst e; exact h2 hx⟩
    · rw [e]; intro c hc
      rw [List.mem_append, List.mem_singleton] at hc
      rcases hc with hc | rfl
      · exact ih.rng c hc
      · exact ⟨h4, h5⟩
    · rw [e, List.length_append, ih.eln]; simp; omega
    · rw [e]; intro c hc
      simp only [List.mem_append, List.mem_cons, List.not_mem_nil, or_false] at hc
      rcases hc with hc | rfl | rfl
      · exact ih.ern c hc
      · exact hp1
      · exact ⟨h4, h5⟩
theorem tree_rng {W : Nat → Nat → Int} {n : Nat} {B : Int} (hW : ∀ i k, i < n → k < n → -B ≤ W i k ∧ W i k ≤ B) (hn : 3 ≤ n) : ∀ t, t + 1 ≤ n - 1 → -(B * t) ≤ (treeK W n t).2.2 ∧ (treeK W n t).2.2 ≤ B * t
  | 0, _ => by simp [treeK]
  | t + 1, ht => by
    have ih := tree_rng hW hn t (by omega)
    obtain ⟨p, hp, h1, h2, h3, h4, h5⟩ := tree_step (tree_of W hn t (by omega)) (by omega)
    have e : treeK W n (t + 1) = ((treeK W n t).1 ++ [p.2], (treeK W n t).2.1 ++ [p.1, p.2], (treeK W n t).2.2 + W p.1 p.2) := by
      simp only [treeK]; rw [hp]
    have hw := hW p.1 p.2 h3 h5
    have : B * ((t + 1 : Nat) : Int) = B * t + B := by push_cast; rw [Int.mul_add, Int.mul_one]
    rw [e, this]
    show -(B * ↑t + B) ≤ (treeK W n t).2.2 + W p.1 p.2 ∧ (treeK W n t).2.2 + W p.1 p.2 ≤ B * ↑t + B
    omega
def wayC (W : Nat → Nat → Int) (m x y : Nat) : Int := cmpI (W 0 (x % m + 1)) (W 0 (y % m + 1))
theorem swo_way (W : Nat → Nat → Int) (m : Nat) : SWO (ltOf (wayC W m)) := by
  have e : ltOf (wayC W m) = fun x y => decide (W 0 (x % m + 1) < W 0 (y % m + 1)) := ltOf_cmp (fun x _ => W 0 (x % m + 1)) (fun _ y => W 0 (y % m + 1))
  rw [e]
  refine ⟨fun x => by simp, fun x y z h1 h2 => ?_, fun x y z h1 h2 => ?_⟩
  · simp only [decide_eq_true_eq] at *; omega
  · simp only [decide_eq_false_iff_not] at *; omega
def wayO (W : Nat → Nat → Int) (n k : Nat) : Nat := (ordC (wayC W (n - 1)) (n - 1)).getD k 0 + 1
def bndE (W : Nat → Nat → Int) (n : Nat) : List Nat := (treeK W n (n - 2)).2.1 ++ [0, wayO W n 0, 0, wayO W n 1]
def bndN (W : Nat → Nat → Int) (n : Nat) : Int := (treeK W n (n - 2)).2.2 + W 0 (wayO W n 0) + W 0 (wayO W n 1)
theorem wayO_rng (W : Nat → Nat → Int) {n k : Nat} (hn : 3 ≤ n) (hk : k < 2) : 1 ≤ wayO W n k ∧ wayO W n k < n := by
  have hl := ordC_len (swo_way W (n - 1)) (n - 1)
  have : (ordC (wayC W (n - 1)) (n - 1)).getD k 0 ∈ ordC (wayC W (n - 1)) (n - 1) := by
    rw [List.getD_eq_getElem?_getD, List.getElem?_eq_getElem (by omega)]
    exact List.getElem_mem _
  have := ordC_lt (swo_way W (n - 1)) (n - 1) _ this
  unfold wayO
  omega
def addK (es : List Nat) (p : List Int) : Nat → List Int
  | 0 => p
  | k + 1 => (addK es p k).set (es.getD k 0) ((addK es p k).getD (es.getD k 0) 0 + 1)
def lessK (p : List Int) : Nat → List Int
  | 0 => p
  | k + 1 => (lessK p k).set k ((lessK p k).getD k 0 - 2)
def sumI (p : List Int) : Nat → Int
  | 0 => 0
  | k + 1 => sumI p k + p.getD k 0
def wayP (xs : List Int) (n : Nat) (p : List Int) (i k : Nat) : Int := xs.getD (i * n + k) 0 + p.getD i 0 + p.getD k 0
def nextP (xs : List Int) (n : Nat) (p : List Int) : List Int := lessK (addK (bndE (wayP xs n p) n) p (bndE (wayP xs n p) n).length) n
def boundP (xs : List Int) (n : Nat) (p : List Int) : Int := bndN (wayP xs n p) n - 2 * sumI p n
def raiseK (xs : List Int) (n : Nat) : Nat → List Int × Int
  | 0 => (List.replicate n 0, 0)
  | t + 1 => (nextP xs n (raiseK xs n t).1, if t = 0 ∨ (raiseK xs n t).2 < boundP xs n (raiseK xs n t).1 then boundP xs n (raiseK xs n t).1 else (raiseK xs n t).2)
theorem addK_len (es : List Nat) (p : List Int) : ∀ k, (addK es p k).length = p.length
  | 0 => rfl
  | k + 1 => by simp only [addK, List.length_set]; exact addK_len es p k
theorem lessK_len (p : List Int) : ∀ k, (lessK p k).length = p.length
  | 0 => rfl
  | k + 1 => by simp only [lessK, List.length_set]; exact lessK_len p k
theorem addK_rng (es : List Nat) (p : List Int) (i : Nat) : ∀ k, p.getD i 0 ≤ (addK es p k).getD i 0 ∧ (addK es p k).getD i 0 ≤ p.getD i 0 + k
  | 0 => ⟨Int.le_refl _, by show p.getD i 0 ≤ p.getD i 0 + ((0 : Nat) : Int); omega⟩
  | k + 1 => by
    have ih := addK_rng es p i k
    simp only [addK]
    rw [getD_set']
    split
    · rename_i h; rw [h.1]; push_cast; omega
    · push_cast; omega
theorem lessK_rng (p : List Int) (i : Nat) : ∀ k, (lessK p k).getD i 0 ≤ p.getD i 0 ∧ p.getD i 0 - 2 ≤ (lessK p k).getD i 0 ∧ (k ≤ i → (lessK p k).getD i 0 = p.getD i 0)
  | 0 => ⟨Int.le_refl _, by show p.getD i 0 - 2 ≤ p.getD i 0; omega, fun _ => rfl⟩
  | k + 1 => by
    have ih := lessK_rng p i k
    simp only [lessK]
    rw [getD_set']
    split
    · rename_i h
      obtain ⟨rfl, _⟩ := h
      have := ih.2.2 (Nat.le_refl _)
      exact ⟨by omega, by omega, fun h => by omega⟩
    · exact ⟨ih.1, ih.2.1, fun h => ih.2.2 (by omega)⟩
theorem bndE_len (W : Nat → Nat → Int) {n : Nat} (hn : 3 ≤ n) : (bndE W n).length = 2 * n := by
  have := (tree_of W hn (n - 2) (by omega)).eln
  unfold bndE
  rw [List.length_append, this]
  simp
  omega
theorem bndE_rng (W : Nat → Nat → Int) {n : Nat} (hn : 3 ≤ n) : ∀ c ∈ bndE W n, c < n := by
  intro c hc
  unfold bndE at hc
  have h0 := wayO_rng W (k := 0) hn (by omega)
  have h1 := wayO_rng W (k := 1) hn (by omega)
  simp only [List.mem_append, List.mem_cons, List.not_mem_nil, or_false] at hc
  rcases hc with hc | rfl | rfl | rfl | rfl
  · exact ((tree_of W hn (n - 2) (by omega)).ern c hc).2
  · omega
  · exact h0.2
  · omega
  · exact h1.2
theorem raiseK_len (xs : List Int) (n : Nat) : ∀ t, (raiseK xs n t).1.length = n
  | 0 => by simp [raiseK]
  | t + 1 => by
    show (lessK _ n).length = n
    rw [lessK_len, addK_len, raiseK_len xs n t]
theorem raiseK_rng (xs : List Int) {n : Nat} (hn : 3 ≤ n) (hn2 : n ≤ 10) (i : Nat) : ∀ t : Nat, -(2 * (t : Int)) ≤ (raiseK xs n t).1.getD i 0 ∧ (raiseK xs n t).1.getD i 0 ≤ 20 * (t : Int)
  | 0 => by
    show -(2 * ((0 : Nat) : Int)) ≤ (List.replicate n (0 : Int)).getD i 0 ∧ (List.replicate n (0 : Int)).getD i 0 ≤ 20 * ((0 : Nat) : Int)
    have : (List.replicate n (0 : Int)).getD i 0 = 0 := by
      rw [List.getD_eq_getElem?_getD, List.getElem?_replicate]
      split <;> rfl
    omega
  | t + 1 => by
    have ih := raiseK_rng xs hn hn2 i t
    have h1 := addK_rng (bndE (wayP xs n (raiseK xs n t).1) n) (raiseK xs n t).1 i (bndE (wayP xs n (raiseK xs n t).1) n).length
    have h2 := lessK_rng (addK (bndE (wayP xs n (raiseK xs n t).1) n) (raiseK xs n t).1 (bndE (wayP xs n (raiseK xs n t).1) n).length) i n
    rw [bndE_len _ hn] at h1 h2
    show -(2 * ((t + 1 : Nat) : Int)) ≤ (nextP xs n (raiseK xs n t).1).getD i 0 ∧ (nextP xs n (raiseK xs n t).1).getD i 0 ≤ _
    unfold nextP
    rw [bndE_len _ hn]
    push_cast
    omega
end Go.Proofs.YtgkbbpajkbkgnaaGreatDoor

namespace Go.Proofs.YtgkbbpajkbkgnaaGreatDoor
open Go.RowKit
def BtV (w : World) (u : Value) (l : List Nat) : Prop := (l = [] ∧ u = .slice none 0 0) ∨ (l ≠ [] ∧ ∃ b o c, u = .slice (some ⟨b, o, none⟩) l.length c ∧ RdI w u (idxs l))
theorem BtV.up {w w' : World} {u : Value} {l : List Nat} {B : Nat} (h : BtV w u l) (hb : Below B w w') (hB : w.heap.size ≤ B) : BtV w' u l := by
  rcases h with h | ⟨h1, b, o, c, h2, h3⟩
  · exact .inl h
  · exact .inr ⟨h1, b, o, c, h2, h3.up hb hB⟩
theorem BtV.rd {w : World} {u : Value} {l : List Nat} (h : BtV w u l) : RdI w u (idxs l) := by
  rcases h with ⟨rfl, rfl⟩ | ⟨h1, b, o, c, h2, h3⟩
  · exact Slc.nil _
  · exact h3
theorem hasB_begin (r : List Nat) (c : Nat) : hasB (idxs (0 :: r)) ((c + 1 : Nat) : Int) = decide (c + 1 ∈ r) := by
  unfold hasB
  rw [Bool.eq_iff_iff, List.contains_iff_mem, decide_eq_true_eq]
  unfold idxs
  simp only [List.mem_map, List.mem_cons]
  constructor
  · rintro ⟨x, hx, e⟩
    have : x = c + 1 := by omega
    subst this
    rcases hx with hx | hx
    · omega
    · exact hx
  · intro h
    exact ⟨c + 1, .inr h, rfl⟩
set_option maxHeartbeats 4000000 in
set_option maxRecDepth 8000 in
theorem bestLeaf_any (v u z : Value) (xs : List Int) (n : Nat) (r : List Nat) (s : List Nat × Int) (w : World) (h : RdI w v xs) (hu : RdI w u (idxs (0 :: r))) (hz : BtV w z s.1) (hn1 : 1 ≤ n) (hn : n ≤ 10) (hxl : xs.length = n * n) (hc : citN xs.length = (n : Int)) (hW : ∀ i k, i < n → k < n → 0 ≤ cityW xs n i k ∧ cityW xs n i k ≤ 1000) (hrl : r.length + 1 = n) (hL : ∀ c ∈ r, c < n) :
    Calls Tryz.prog 67 #[v, u, z, .int .i64 s.2] w fun e w' => ∃ u', e = .returned (.tuple #[u', .int .i64 (upd s (0 :: r, closeL (cityW xs n) 0 r)).2]) ∧ BtV w' u' (upd s (0 :: r, closeL (cityW xs n) 0 r)).1 ∧ Below w.heap.size w w' := by
  have HCT := Lib.hid (cities_any v xs w h)
  rw [hc] at HCT
  have HTL := Lib.hid (tourLong_any v u xs n (0 :: r) w h hu hn1 hn hxl hc hW (by simp) (by simp; omega) (by intro c hc; rw [List.mem_cons] at hc; rcases hc with rfl | hc; omega; exact hL c hc))
  rw [List.length_cons, tlK_all] at HTL
  obtain ⟨y, hy⟩ : ∃ y, y = closeL (cityW xs n) 0 r := ⟨_, rfl⟩
  rw [← hy] at HTL ⊢
  obtain ⟨a, c, rfl⟩ := h.shape
  obtain ⟨ua, uc, rfl⟩ := hu.shape
  have HU := Lib.hid hu
  have hil : (idxs (0 :: r)).length = n := by rw [idxs_len, List.length_cons]; omega
  rw [hil] at HU HTL ⊢
  have HIL := Lib.hid hil
  obtain ⟨x, hx⟩ : ∃ x, xs.length = x := ⟨_, rfl⟩
  rw [hx] at HCT HTL ⊢
  have hnm : n ≤ maxLen := by unfold maxLen; omega
  have hee : ((n : Int) == (n : Int)) = true := by simp
  obtain ⟨b1, le⟩ := s
  simp only at hz ⊢
  have HD := Lib.hid (show BtV w (.slice ua n uc) (0 :: r) from .inr ⟨by simp, by
    obtain ⟨b, o, e, _, _⟩ := HU.out.at (i := 0) (by rw [HIL.out]; omega)
    exact ⟨b, o, uc, by rw [e, List.length_cons, hrl], HU.out⟩⟩)
  clear h hu hy hil hx hxl hc hW hrl hL
  have qT := eqNil_ints
  rcases hz with ⟨rfl, rfl⟩ | ⟨hb, zb, zo, zc, rfl, hzr⟩
  · have HF := Lib.hid (show upd (([] : List Nat), le) (0 :: r, y) = (0 :: r, y) from upd_none _ _)
    go_enter Tryz.func67, Tryz.ntmps67
    go_wp2_with (first | (go_at_call 60; refine HCT.out.mono ?_; rintro e w0 ⟨rfl, rfl⟩) | (go_at_call 66; refine (size_any _ _ hnm).mono ?_; rintro e w1 ⟨rfl, rfl⟩) | (go_at_call 128; refine HTL.out.mono ?_; rintro e w2 ⟨rfl, rfl⟩))
    go_ret2
    exact ⟨_, by rw [HF.out]; rfl, by rw [HF.out]; exact HD.out, Below.refl _ _⟩
  · have HZ := Lib.hid (show BtV w (.slice (some ⟨zb, zo, none⟩) b1.length zc) b1 from .inr ⟨hb, zb, zo, zc, rfl, hzr⟩)
    obtain ⟨bl, hbl⟩ : ∃ bl, bl = b1.length := ⟨_, rfl⟩
    rw [← hbl] at HZ ⊢
    have HBB := Lib.hid hb
    clear hzr hbl hb
    by_cases hyl : y < le
    · have HF := Lib.hid (show upd (b1, le) (0 :: r, y) = (0 :: r, y) by unfold upd; rw [if_pos (.inr hyl)])
      go_enter Tryz.func67, Tryz.ntmps67
      go_wp2_with (first | (go_at_call 60; refine HCT.out.mono ?_; rintro e w0 ⟨rfl, rfl⟩) | (go_at_call 66; refine (size_any _ _ hnm).mono ?_; rintro e w1 ⟨rfl, rfl⟩) | (go_at_call 128; refine HTL.out.mono ?_; rintro e w2 ⟨rfl, rfl⟩))
      go_ret2
      exact ⟨_, by rw [HF.out]; rfl, by rw [HF.out]; exact HD.out, Below.refl _ _⟩
    · have HF := Lib.hid (show upd (b1, le) (0 :: r, y) = (b1, le) by unfold upd; rw [if_neg (by rintro (h | h); exact HBB.out h; exact hyl h)])
      go_enter Tryz.func67, Tryz.ntmps67
      go_wp2_with (first | (go_at_call 60; refine HCT.out.mono ?_; rintro e w0 ⟨rfl, rfl⟩) | (go_at_call 66; refine (size_any _ _ hnm).mono ?_; rintro e w1 ⟨rfl, rfl⟩) | (go_at_call 128; refine HTL.out.mono ?_; rintro e w2 ⟨rfl, rfl⟩))
      go_ret2
      exact ⟨_, by rw [HF.out]; rfl, by rw [HF.out]; exact HZ.out, Below.refl _ _⟩
def BtOk (v : Value) (xs : List Int) (n f : Nat) (w : World) : Prop := ∀ (r : List Nat) (s : List Nat × Int) (u z : Value) (X : World), Below w.heap.size w X → r.length + 1 + f = n → (∀ c ∈ r, c < n) → RdI X u (idxs (0 :: r)) → BtV X z s.1 →
  Calls Tryz.prog 67 #[v, u, z, .int .i64 s.2] X fun e w' => ∃ u', e = .returned (.tuple #[u', .int .i64 (btR (cityW xs n) n f r s).2]) ∧ BtV w' u' (btR (cityW xs n) n f r s).1 ∧ Below X.heap.size X w'
set_option maxHeartbeats 4000000 in
set_option maxRecDepth 8000 in
theorem bestStep_any (v : Value) (xs : List Int) (n f : Nat) (w : World) (h : RdI w v xs) (hn1 : 1 ≤ n) (hn : n ≤ 10) (hc : citN xs.length = (n : Int)) (ih : BtOk v xs n f w) : BtOk v xs n (f + 1) w := by
  intro r s u z X hbX hrl hL hu hz
  have HCT := Lib.hid (cities_any v xs X (h.up hbX (Nat.le_refl _)))
  rw [hc] at HCT
  obtain ⟨a, c, rfl⟩ := h.shape
  obtain ⟨ua, uc, rfl⟩ := hu.shape
  have hil : (idxs (0 :: r)).length = r.length + 1 := by rw [idxs_len, List.length_cons]
  obtain ⟨m, hm⟩ : ∃ m, m = r.length + 1 := ⟨_, rfl⟩
  rw [← hm] at hil
  rw [hil] at hu ⊢
  have HIL := Lib.hid hil
  have HU := Lib.hid hu
  have HZ := Lib.hid hz
  have HIH := Lib.hid ih
  have HL := Lib.hid hL
  have HBX := Lib.hid hbX
  have HHB := Lib.hid (fun k => hasB_begin r k)
  have hmn : m < n := by omega
  have HRL := Lib.hid (show ∀ c, (r ++ [c]).length + 1 + f = n from fun c => by simp; omega)
  have hne : ((m : Int) == (n : Int)) = false := by simp; omega
  have HS := Lib.hid (fun k => show btK (btR (cityW xs n) n f) r s (k + 1) = if (k + 1) ∈ r then btK (btR (cityW xs n) n f) r s k else btR (cityW xs n) n f (r ++ [k + 1]) (btK (btR (cityW xs n) n f) r s k) from rfl)
  have HS0 := Lib.hid (show btK (btR (cityW xs n) n f) r s 0 = s from rfl)
  have HE := Lib.hid (show btR (cityW xs n) n (f + 1) r s = btK (btR (cityW xs n) n f) r s (n - 1) from rfl)
  rw [HE.out]
  obtain ⟨T, hT⟩ : ∃ T, T = btK (btR (cityW xs n) n f) r s := ⟨_, rfl⟩
  rw [← hT] at HS HS0 ⊢
  obtain ⟨x, hx⟩ : ∃ x, xs.length = x := ⟨_, rfl⟩
  rw [hx] at HCT HIH ⊢
  have hnm : m ≤ maxLen := by unfold maxLen; omega
  have hzX := hbX.size
  have HHS := Lib.hid (fun k Y (hb : Below X.heap.size X Y) => has_any (.slice ua m uc) (idxs (0 :: r)) ((k + 1 : Nat) : Int) Y (HU.out.up hb (Nat.le_refl _)))
  have HCP := Lib.hid (fun Y (hb : Below X.heap.size X Y) => copyI_n ua uc m (idxs (0 :: r)) Y HIL.out (HU.out.up hb (Nat.le_refl _)) (by omega))
  clear h hu hz ih hL hbX hil hT hx hc hm
  go_enter Tryz.func67, Tryz.ntmps67
  go_wp2_with (first | (go_at_call 60; refine HCT.out.mono ?_; rintro e w0 ⟨rfl, rfl⟩) | (go_at_call 66; refine (size_any _ _ hnm).mono ?_; rintro e w1 ⟨rfl, rfl⟩))
  go_loopw [2, 3, 12] (fun bv lv kv wr => ∃ (k : Nat) (bz : Value), kv = .int .i64 ((k + 1 : Nat) : Int) ∧ k ≤ n - 1 ∧ bz = bv ∧ lv = .int .i64 (T k).2 ∧ Hid (BtV wr bz (T k).1) ∧ Hid (Below X.heap.size X wr)) (fun _ _ kv _ => n + 1 - (intOf kv).toNat)
  case atStart => exact ⟨0, z, rfl, Nat.zero_le _, rfl, by rw [HS0.out], Lib.hid (by rw [HS0.out]; exact HZ.out), Lib.hid (Below.refl _ _)⟩
  case round =>
    obtain ⟨k, bz, rfl, hk, rfl, rfl, HV, HB⟩ := hrel
    obtain ⟨wo, rfl⟩ : ∃ wo, wo = wr := ⟨wr, rfl⟩
    have hS := HS.out k
    have hzo := HB.out.size
    have HHK := Lib.hid (HHS.out k wo HB.out)
    rw [HHB.out k] at HHK
    obtain ⟨i, hi⟩ : ∃ i, i = k + 1 := ⟨_, rfl⟩
    rw [← hi] at hS HHK ⊢
    by_cases hlt : i < n
    · have hltI : (i : Int) < (n : Int) := by omega
      by_cases hmem : i ∈ r
      · rw [if_pos hmem] at hS
        rw [decide_eq_true hmem] at HHK
        have HSS := Lib.hid hS
        have HI := Lib.hid hi
        clear hS hi hmem
        go_wp2_with (go_at_call 129; refine HHK.out.mono ?_; rintro e w2 ⟨rfl, rfl⟩)
        go_roundw
        case rel => exact ⟨i, _, by go_num, by omega, rfl, by rw [HSS.out], Lib.hid (by rw [HSS.out]; exact HV.out), HB⟩
        case measure => simp [intOf]; omega
      · rw [if_neg hmem] at hS
        rw [decide_eq_false hmem] at HHK
        have HSS := Lib.hid hS
        obtain ⟨p, hp⟩ : ∃ p, p = T k := ⟨_, rfl⟩
        rw [← hp] at HSS HV ⊢
        have HCK := Lib.hid (HCP.out wo HB.out)
        have HRC := Lib.hid (fun Y g gc (hb : Below X.heap.size X Y) (hz : BtV Y bz p.1) (ho : RdI Y (.slice (some ⟨g, 0, none⟩) (m + 1) gc) (idxs (0 :: (r ++ [i])))) => HIH.out (r ++ [i]) p (.slice (some ⟨g, 0, none⟩) (m + 1) gc) bz Y (HBX.out.trans (hb.mono hzX)) (HRL.out i) (by intro c hc; rw [List.mem_append, List.mem_singleton] at hc; rcases hc with hc | rfl; exact HL.out c hc; exact hlt) ho hz)
        clear hS hp hmem hi
        go_wp2_with (first
          | (go_at_call 129; refine HHK.out.mono ?_; rintro e w2 ⟨rfl, rfl⟩)
          | (go_at_call 123; refine HCK.out.mono ?_; rintro e w2 ⟨g, gc, rfl, hog, hb2⟩; have hz2 := hb2.size)
          | (at_builtin; refine app_ints rfl _ _ rfl wo.heap.size (.slice (some ⟨g, 0, none⟩) m gc) m (idxs (0 :: r)) rfl (hog.alloc _) _ [(i : Int)] rfl (slc_one _ _) (m + 1) (idxs (0 :: (r ++ [i]))) (by simp) (by unfold idxs; simp) (by omega) (by simp; omega) ?_; intro b3 c3 w3 hown3 hbl3 _ _; obtain ⟨g3, c3', e3, _, _⟩ := owns_some hown3 (by intro e; injection e with _ e _; omega); injection e3 with e31 _ e32; subst e31; subst e32)
          | (go_at_call 67; have hb3 : Below X.heap.size X w3 := HB.out.trans (((hb2.trans ((((Below.refl _ _).alloc (Nat.le_refl _) _).mono hz2).trans hbl3))).mono hzo); refine (HRC.out w3 g3 c3 hb3 (HV.out.up (hb2.trans ((((Below.refl _ _).alloc (Nat.le_refl _) _).mono hz2).trans hbl3)) (Nat.le_refl _)) (slc_of_owns hown3)).mono ?_; rintro e w4 ⟨u4, rfl, hv4, hb4⟩))
        go_roundw
        case rel => exact ⟨i, _, by go_num, by omega, rfl, by rw [HSS.out], Lib.hid (by rw [HSS.out]; exact hv4), Lib.hid (hb3.trans (hb4.mono hb3.size))⟩
        case measure => simp [intOf]; omega
    · have hkk : k = n - 1 := by omega
      have hnlI : ¬ (i : Int) < (n : Int) := by omega
      clear hi
      go_wp2_with fail
      go_ret2
      exact ⟨_, by rw [← hkk]; rfl, by rw [← hkk]; exact HV.out, HB.out⟩
theorem best_any (v : Value) (xs : List Int) (n : Nat) (w : World) (h : RdI w v xs) (hn1 : 1 ≤ n) (hn : n ≤ 10) (hxl : xs.length = n * n) (hc : citN xs.length = (n : Int)) (hW : ∀ i k, i < n → k < n → 0 ≤ cityW xs n i k ∧ cityW xs n i k ≤ 1000) : ∀ f, BtOk v xs n f w
  | 0 => fun r s u z X hbX hrl hL hu hz => bestLeaf_any v u z xs n r s X (h.up hbX (Nat.le_refl _)) hu hz hn1 hn hxl hc hW (by omega) hL
  | f + 1 => bestStep_any v xs n f w h hn1 hn hc (best_any v xs n w h hn1 hn hxl hc hW f)
def tourT (xs : List Int) : List Nat × Int := btR (cityW xs (citN xs.length).toNat) (citN xs.length).toNat ((citN xs.length).toNat - 1) [] ([], 0)
def tourLst (xs : List Int) : List Nat := if areCitiesB xs = true then (tourT xs).1 else []
def tourLng (xs : List Int) : Int := if areCitiesB xs = true then (tourT xs).2 else 0
set_option maxHeartbeats 2000000 in
theorem bestTourI_any (v : Value) (xs : List Int) (w : World) (h : RdI w v xs) :
    Calls Tryz.prog 21 #[v] w fun e w' => ∃ u, e = .returned (.tuple #[u, .int .i64 (tourLng xs), .bool (areCitiesB xs)]) ∧ RdI w' u (idxs (tourLst xs)) ∧ Below w.heap.size w w' := by
  have HA := Lib.hid (AreCities_any v xs w h)
  obtain ⟨q, hq⟩ : ∃ q, areCitiesB xs = q := ⟨_, rfl⟩
  have HQ := Lib.hid hq
  rw [hq] at HA ⊢
  have HR := Lib.hid h
  obtain ⟨a, c, rfl⟩ := h.shape
  clear hq h
  cases q
  · go_enter Tryz.func21, Tryz.ntmps21
    go_wp2_with (go_at_call 59; refine HA.out.mono ?_; rintro e w0 ⟨rfl, hb0⟩)
    go_ret3
    exact ⟨_, by rw [show tourLng xs = 0 by unfold tourLng; rw [HQ.out]; rfl]; rfl, by rw [show tourLst xs = [] by unfold tourLst; rw [HQ.out]; rfl]; exact Slc.nil _, hb0⟩
  obtain ⟨n, hn1, hn, hxl, hc, hW⟩ := cities_get HQ.out
  have HOK := Lib.hid (best_any _ xs n w HR.out hn1 hn hxl hc hW (n - 1))
  have HE := Lib.hid (show tourT xs = btR (cityW xs n) n (n - 1) [] ([], 0) by unfold tourT; rw [hc, Int.toNat_natCast])
  have HE1 := Lib.hid (show tourLng xs = (tourT xs).2 by unfold tourLng; rw [HQ.out]; rfl)
  have HE2 := Lib.hid (show tourLst xs = (tourT xs).1 by unfold tourLst; rw [HQ.out]; rfl)
  rw [HE1.out, HE2.out, HE.out]
  have HN1 := Lib.hid hn1
  obtain ⟨x, hx⟩ : ∃ x, xs.length = x := ⟨_, rfl⟩
  rw [hx] at HA HOK ⊢
  clear hxl hc hW hx
  go_enter Tryz.func21, Tryz.ntmps21
  go_wp2_with (first
    | (go_at_call 59; refine HA.out.mono ?_; rintro e w0 ⟨rfl, hb0⟩; have hz0 := hb0.size)
    | (go_at_call 67; have hb1 : Below w.heap.size w (w0.alloc (.cells #[.int .i64 0] 2)) := hb0.alloc hz0 _; refine (HOK.out [] ([], 0) _ _ _ hb1 (by have := HN1.out; simp; omega) (by intro c hc; cases hc) (show RdI _ _ _ from slc_one _ _) (.inl ⟨rfl, rfl⟩)).mono ?_; rintro e w2 ⟨u2, rfl, hv2, hb2⟩))
  go_ret3
  exact ⟨_, rfl, hv2.rd, hb1.trans (hb2.mono hb1.size)⟩
end Go.Proofs.YtgkbbpajkbkgnaaGreatDoor
