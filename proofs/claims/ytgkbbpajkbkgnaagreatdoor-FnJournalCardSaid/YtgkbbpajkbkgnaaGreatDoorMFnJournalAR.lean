/-
  FnJournal: texts joined: TourM, TlI, FbI.
-/
import Derived.Deep.CutRange
import Derived.BigQuiet
import Derived.Test.YtgkbbpajkbkgnaaGreatDoorMFnJournalAE
import Derived.Test.YtgkbbpajkbkgnaaGreatDoorMFnJournalAO
import Derived.Test.YtgkbbpajkbkgnaaGreatDoorMFnJournalAQ
set_option linter.unusedVariables false
set_option linter.unusedSimpArgs false
namespace Go.Proofs.YtgkbbpajkbkgnaaGreatDoor
open Go.RowKit
def upd (s p : List Nat × Int) : List Nat × Int := if s.1 = [] ∨ p.2 < s.2 then p else s
theorem upd_none (x : Int) (p : List Nat × Int) : upd ([], x) p = p := by unfold upd; rw [if_pos (.inl rfl)]
def openL (W : Nat → Nat → Int) : Nat → List Nat → Int
  | _, [] => 0
  | x, y :: r => W x y + openL W y r
def closeL (W : Nat → Nat → Int) : Nat → List Nat → Int
  | x, [] => W x 0
  | x, y :: r => W x y + closeL W y r
def lastL : Nat → List Nat → Nat
  | x, [] => x
  | _, y :: r => lastL y r
theorem openL_snoc (W : Nat → Nat → Int) (c : Nat) : ∀ (x : Nat) (r : List Nat), openL W x (r ++ [c]) = openL W x r + W (lastL x r) c
  | x, [] => by show W x c + 0 = 0 + W x c; omega
  | x, y :: r => by
    have := openL_snoc W c y r
    show W x y + openL W y (r ++ [c]) = W x y + openL W y r + W (lastL y r) c
    rw [this]; omega
theorem closeL_eq (W : Nat → Nat → Int) : ∀ (x : Nat) (r : List Nat), closeL W x r = openL W x r + W (lastL x r) 0
  | x, [] => by show W x 0 = 0 + W x 0; omega
  | x, y :: r => by
    have := closeL_eq W y r
    show W x y + closeL W y r = W x y + openL W y r + W (lastL y r) 0
    rw [this]; omega
def btK (rec : List Nat → List Nat × Int → List Nat × Int) (r : List Nat) (s : List Nat × Int) : Nat → List Nat × Int
  | 0 => s
  | k + 1 => if (k + 1) ∈ r then btK rec r s k else rec (r ++ [k + 1]) (btK rec r s k)
def btR (W : Nat → Nat → Int) (n : Nat) : Nat → List Nat → List Nat × Int → List Nat × Int
  | 0, r, s => upd s (0 :: r, closeL W 0 r)
  | f + 1, r, s => btK (btR W n f) r s (n - 1)
end Go.Proofs.YtgkbbpajkbkgnaaGreatDoor

namespace Go.Proofs.YtgkbbpajkbkgnaaGreatDoor
open Go.RowKit
def cityW (xs : List Int) (n i k : Nat) : Int := xs.getD (i * n + k) 0
theorem cities_get {xs : List Int} (h : areCitiesB xs = true) : ∃ n : Nat, 1 ≤ n ∧ n ≤ 10 ∧ xs.length = n * n ∧ citN xs.length = (n : Int) ∧ ∀ i k, i < n → k < n → 0 ≤ cityW xs n i k ∧ cityW xs n i k ≤ 1000 := by
  rcases citN_cases xs.length with ⟨h1, _⟩ | ⟨j, h1, a, b, c⟩
  · unfold areCitiesB at h; rw [h1] at h; cases h
  · refine ⟨j, a, b, c.symm, h1, fun i k hi hk => ?_⟩
    unfold areCitiesB at h
    rw [Bool.and_eq_true, Bool.and_eq_true] at h
    exact inB_iff.1 ((inAll c.symm).1 h.2.1 i k hi hk)
theorem idx_lt {n i k : Nat} (hi : i < n) (hk : k < n) : i * n + k < n * n := by
  have : (i + 1) * n ≤ n * n := Nat.mul_le_mul_right _ hi
  rw [Nat.add_mul] at this
  omega
theorem idxs_get {L : List Nat} {j : Nat} (h : j < L.length) : (idxs L).getD j 0 = ((L.getD j 0 : Nat) : Int) := by
  unfold idxs
  rw [List.getD_eq_getElem?_getD, List.getElem?_map, List.getD_eq_getElem?_getD, List.getElem?_eq_getElem h]
  rfl
theorem owns_pos {w : World} {base : Nat} {e : TypeId} {v : Value} {n : Nat} {vs : List Value} (h : w.ownsRow base e 1 v n vs) (hn : 0 < n) : ∃ g cap, v = .slice (some ⟨g, 0, none⟩) n cap ∧ base ≤ g ∧ g < w.heap.size := by
  refine owns_some h ?_
  rintro rfl
  rcases h.2 with ⟨_, e⟩ | ⟨g, cap, cur, e, _⟩
  · omega
  · cases e
theorem owns_drewN {w : World} {base : Nat} {e : TypeId} {v : Value} {n : Nat} {vs : List Value} (h : w.ownsRow base e 1 v n vs) (q : Nat) : (w.drewN q).ownsRow base e 1 v n vs := h
theorem owns_belowB {w w' : World} {base B : Nat} {e : TypeId} {v : Value} {n : Nat} {vs : List Value} (h : w.ownsRow base e 1 v n vs) (hb : Below B w w') (hlt : ∀ g, v.ownBlock = some g → g < B) : w'.ownsRow base e 1 v n vs :=
  owns_kept (S := fun k => B ≤ k) h ⟨hb.os, hb.tape, hb.output, hb.size, fun k _ hS => hb.block k (Nat.lt_of_not_le hS)⟩ (fun g hg hS => absurd (hlt g hg) (Nat.not_lt.2 hS))
theorem copyI_n (a : Option Addr) (cap n : Nat) (xs : List Int) (w : World) (hn : xs.length = n) (hs : Slc w (.slice a n cap) (xs.map I64)) (hb : n ≤ 17592186044416) :
    Calls Tryz.prog 123 #[.slice a n cap] w fun e w' => ∃ g cap, e = .returned (.slice (some ⟨g, 0, none⟩) n cap) ∧ w'.ownsRow w.heap.size 2 1 (.slice (some ⟨g, 0, none⟩) n cap) n (xs.map I64) ∧ Below w.heap.size w w' := by
  subst hn; exact copyInts_any a cap xs w hs hb
theorem eqNil_ints (w : World) (a : Option Addr) (n c n' c' : Nat) : (binOp .eql 27 (.slice a n c) (.slice none n' c')).run Tryz.prog w = .ok (.bool a.isNone) w :=
  Lib.run_eql_slice_nil w _ _ a n c n' c' Tryz.underlying27
def tlK (W : Nat → Nat → Int) (L : List Nat) : Nat → Int
  | 0 => 0
  | k + 1 => tlK W L k + W (L.getD k 0) (L.getD ((k + 1) % L.length) 0)
theorem lastL_take (r : List Nat) : ∀ (k x : Nat), k ≤ r.length → lastL x (r.take k) = (x :: r).getD k 0 := by
  induction r with
  | nil => intro k x h; have : k = 0 := by simpa using h
           subst this; rfl
  | cons y r ih =>
    intro k x h
    cases k with
    | zero => rfl
    | succ k => exact ih k y (by simpa using h)
theorem tlK_open (W : Nat → Nat → Int) (x : Nat) (r : List Nat) : ∀ k, k ≤ r.length → tlK W (x :: r) k = openL W x (r.take k)
  | 0, _ => rfl
  | k + 1, h => by
    have ih := tlK_open W x r k (by omega)
    have e : r.take (k + 1) = r.take k ++ [r.getD k 0] := by
      rw [List.take_add_one, List.getElem?_eq_getElem (by omega), List.getD_eq_getElem?_getD, List.getElem?_eq_getElem (by omega)]; rfl
    simp only [tlK]
    rw [ih, e, openL_snoc, lastL_take r k x (by omega), List.length_cons, Nat.mod_eq_of_lt (by omega), List.getD_cons_succ]
theorem tlK_all (W : Nat → Nat → Int) (r : List Nat) : tlK W (0 :: r) (r.length + 1) = closeL W 0 r := by
  have h := tlK_open W 0 r r.length (Nat.le_refl _)
  have hl := lastL_take r r.length 0 (Nat.le_refl _)
  rw [List.take_length] at h hl
  simp only [tlK]
  rw [h, closeL_eq, hl, List.length_cons, Nat.mod_self, List.getD_cons_zero]
theorem tlK_rng {W : Nat → Nat → Int} {n : Nat} (hW : ∀ i k, i < n → k < n → 0 ≤ W i k ∧ W i k ≤ 1000) {L : List Nat} (h0 : 0 < L.length) (hL : ∀ c ∈ L, c < n) : ∀ k, k ≤ L.length → 0 ≤ tlK W L k ∧ tlK W L k ≤ 1000 * (k : Int)
  | 0, _ => by simp [tlK]
  | k + 1, h => by
    have ih := tlK_rng hW h0 hL k (by omega)
    have g : ∀ i, i < L.length → L.getD i 0 < n := fun i hi => hL _ (by rw [List.getD_eq_getElem?_getD, List.getElem?_eq_getElem hi]; exact List.getElem_mem _)
    have := hW _ _ (g k (by omega)) (g ((k + 1) % L.length) (Nat.mod_lt _ h0))
    simp only [tlK]
    push_cast
    omega
set_option maxHeartbeats 2000000 in
set_option maxRecDepth 4000 in
theorem tourLong_any (v u : Value) (xs : List Int) (n : Nat) (L : List Nat) (w : World) (h : RdI w v xs) (hu : RdI w u (idxs L)) (hn1 : 1 ≤ n) (hn : n ≤ 10) (hxl : xs.length = n * n) (hc : citN xs.length = (n : Int)) (hW : ∀ i k, i < n → k < n → 0 ≤ cityW xs n i k ∧ cityW xs n i k ≤ 1000) (hl0 : 1 ≤ L.length) (hl : L.length ≤ 10) (hL : ∀ c ∈ L, c < n) :
    Calls Tryz.prog 128 #[v, u] w fun e w' => e = .returned (.int .i64 (tlK (cityW xs n) L L.length)) ∧ w = w' := by
  have HCT := Lib.hid (cities_any v xs w h)
  rw [hc] at HCT
  obtain ⟨a, c, rfl⟩ := h.shape
  obtain ⟨ua, uc, rfl⟩ := hu.shape
  have HR := Lib.hid h
  have HU := Lib.hid hu
  have HRG := Lib.hid (fun k hk => tlK_rng (W := cityW xs n) hW (L := L) (by omega) hL k hk)
  have HS := Lib.hid (fun k => show tlK (cityW xs n) L (k + 1) = tlK (cityW xs n) L k + xs.getD (L.getD k 0 * n + L.getD ((k + 1) % L.length) 0) 0 from rfl)
  have HS0 := Lib.hid (show tlK (cityW xs n) L 0 = 0 from rfl)
  have HLN := Lib.hid (fun k (hk : k < L.length) => hL (L.getD k 0) (by rw [List.getD_eq_getElem?_getD, List.getElem?_eq_getElem hk]; exact List.getElem_mem _))
  have HAT := Lib.hid (fun k (hk : k < L.length) => idxs_get (L := L) hk)
  obtain ⟨T, hT⟩ : ∃ T, T = tlK (cityW xs n) L := ⟨_, rfl⟩
  rw [← hT] at HRG HS HS0 ⊢
  have HIL := Lib.hid (idxs_len L)
  obtain ⟨m, hm⟩ : ∃ m, m = L.length := ⟨_, rfl⟩
  rw [← hm] at HRG HS HLN HAT HIL hl0 hl ⊢
  rw [HIL.out] at HU ⊢
  have HXL := Lib.hid hxl
  clear h hu hT hm hxl hc hW hL
  go_enter Tryz.func128, Tryz.ntmps128
  go_wp2_with (go_at_call 60; refine HCT.out.mono ?_; rintro e w0 ⟨rfl, rfl⟩)
  go_loopw [6, 13] (fun sv kv wr => ∃ k : Nat, kv = .int .i64 k ∧ k ≤ m ∧ sv = .int .i64 (T k) ∧ w = wr) (fun _ kv _ => m + 1 - (intOf kv).toNat)
  case atStart => exact ⟨0, rfl, Nat.zero_le _, by rw [HS0.out], rfl⟩
  case round =>
    obtain ⟨k, rfl, hk, rfl, rfl⟩ := hrel
    by_cases hlt : k < m
    · have hltI : (k : Int) < (m : Int) := by omega
      obtain ⟨ub, uo, rfl, _, c1⟩ := HU.out.at (i := k) (by rw [HIL.out]; exact hlt)
      obtain ⟨j, hj⟩ : ∃ j, j = (k + 1) % m := ⟨_, rfl⟩
      have hjm : j < m := by rw [hj]; exact Nat.mod_lt _ (by omega)
      obtain ⟨ub', uo', e, _, c2⟩ := HU.out.at (i := j) (by rw [HIL.out]; exact hjm)
      simp only [Option.some.injEq, Addr.mk.injEq, and_true] at e
      obtain ⟨rfl, rfl⟩ := e
      have hS := HS.out k
      rw [← hj] at hS
      rw [HAT.out k hlt] at c1
      rw [HAT.out j hjm] at c2
      have hp1 := HLN.out k hlt
      have hp2 := HLN.out j hjm
      have g1 := HRG.out k (by omega)
      have g2 := HRG.out (k + 1) (by omega)
      rw [hS] at g2
      obtain ⟨p, hp⟩ : ∃ p, p = L.getD k 0 := ⟨_, rfl⟩
      obtain ⟨q, hq⟩ : ∃ q, q = L.getD j 0 := ⟨_, rfl⟩
      rw [← hp] at c1 hS hp1 g2
      rw [← hq] at c2 hS hp2 g2
      have hpq := idx_lt hp1 hp2
      have hnn : n * n ≤ 100 := Nat.mul_le_mul hn hn
      obtain ⟨x, hx⟩ : ∃ x, x = p * n + q := ⟨_, rfl⟩
      rw [← hx] at hS g2 hpq
      obtain ⟨y, hy⟩ : ∃ y, y = p * n := ⟨_, rfl⟩
      have q1 : (p : Int) * (n : Int) = (y : Int) := by rw [hy]; exact (Int.natCast_mul p n).symm
      have hyx : x = y + q := by rw [hx, hy]
      have hxI : (x : Int) < (xs.length : Int) := by have := HXL.out; omega
      obtain ⟨xb, xo, rfl, _, c3⟩ := HR.out.at (i := x) (by rw [HXL.out]; exact hpq)
      obtain ⟨d, hd⟩ : ∃ d, d = xs.getD x 0 := ⟨_, rfl⟩
      rw [← hd] at c3 hS g2
      obtain ⟨s, hs⟩ : ∃ s, s = T k := ⟨_, rfl⟩
      rw [← hs] at hS g1 g2 ⊢
      have HSS := Lib.hid hS
      have q2 : IntKind.i64.wrap (y : Int) = (y : Int) := IntWalk.i64_in _ (by omega)
      have q3 : IntKind.i64.wrap ((y : Int) + (q : Int)) = (x : Int) := by rw [IntWalk.i64_in _ (by omega)]; omega
      have q4 : ((k : Int) + 1) % (m : Int) = (j : Int) := by rw [hj]; push_cast; rfl
      have q5 : ((k : Int) + 1).tmod (m : Int) = (j : Int) := by rw [Int.tmod_eq_emod_of_nonneg (by omega)]; exact q4
      have hadd : IntKind.i64.wrap (s + d) = s + d := IntWalk.i64_in _ (by push_cast at g2; omega)
      have hm0 : ((m : Int) == 0) = false := by simp; omega
      have hjI : (j : Int) < (m : Int) := by omega
      clear hj hp hq hx hy hd hs hS hyx hpq hnn g1 g2
      go_wp2_with fail
      go_roundw
      case rel => exact ⟨k + 1, by go_num, by omega, by rw [HSS.out], by first | rfl | trivial⟩
      case measure => simp [intOf]; omega
    · obtain rfl : k = m := by omega
      go_wp2_with fail
      go_ret
      exact ⟨rfl, rfl⟩
end Go.Proofs.YtgkbbpajkbkgnaaGreatDoor

namespace Go.Proofs.YtgkbbpajkbkgnaaGreatDoor
open Go.RowKit Go.Sort
theorem firstR_stop {bins : List Int} {s : Int} {k : Nat} (h1 : firstR bins s k = k) (h2 : ¬ bins.getD k 0 < s) : ∀ m, k ≤ m → firstR bins s m = k
  | 0, h => by have : k = 0 := by omega
               subst this; rfl
  | m + 1, h => by
    by_cases e : k = m + 1
    · rw [← e]; exact h1
    · have ih := firstR_stop h1 h2 m (by omega)
      simp only [firstR]
      rw [ih, if_neg]
      rintro ⟨e1, e2⟩
      subst e1
      exact h2 e2
theorem firstR_next {bins : List Int} {s : Int} {k : Nat} (h1 : firstR bins s k = k) (h2 : bins.getD k 0 < s) : firstR bins s (k + 1) = k + 1 := by
  simp only [firstR]
  rw [if_pos ⟨h1, h2⟩]
theorem getD_app (l : List Int) (x : Int) (j : Nat) : (l ++ [x]).getD j 0 = if j = l.length then x else l.getD j 0 := by
  rw [List.getD_eq_getElem?_getD, List.getD_eq_getElem?_getD]
  by_cases h : j < l.length
  · rw [List.getElem?_append_left h, if_neg (by omega)]
  · rw [List.getElem?_append_right (by omega)]
    by_cases e : j = l.length
    · subst e; simp
    · rw [if_neg e, List.getElem?_eq_none (by simp; omega), List.getElem?_eq_none (by omega)]
theorem fbK_rng {xs : List Int} {room : Int} (hr : 0 ≤ room ∧ room ≤ 1000) (hx : ∀ i, 0 ≤ xs.getD i 0 ∧ xs.getD i 0 ≤ 1000) (os : List Nat) : ∀ k j : Nat, -(1000 * (k : Int)) ≤ (fbK xs room os k).2.getD j 0 ∧ (fbK xs room os k).2.getD j 0 ≤ 1000
  | 0, j => by simp [fbK]
  | k + 1, j => by
    have ih := fbK_rng hr hx os k
    have hs := hx (os.getD k 0)
    obtain ⟨s, hs'⟩ : ∃ s, s = xs.getD (os.getD k 0) 0 := ⟨_, rfl⟩
    have ho : ∀ j, -(1000 * (k : Int)) ≤ (openB (fbK xs room os k).2 room s).getD j 0 ∧ (openB (fbK xs room os k).2 room s).getD j 0 ≤ 1000 := fun j => by
      unfold openB
      have := ih j
      split
      · rw [getD_app]
        split <;> omega
      · exact this
    rw [← hs'] at hs
    simp only [fbK]
    rw [← hs', getD_set']
    have h1 := ho j
    have h2 := ho (firstR (fbK xs room os k).2 s (fbK xs room os k).2.length)
    split <;> push_cast <;> omega
theorem maxK_geF (l : List Int) : ∀ k j, j ≤ k → l.getD j 0 ≤ maxK l k
  | 0, j, h => by have : j = 0 := by omega
                  subst this; exact Int.le_refl _
  | k + 1, j, h => by
    have ih := maxK_geF l k
    show _ ≤ max (maxK l k) (l.getD (k + 1) 0)
    by_cases e : j = k + 1
    · subst e; omega
    · have := ih j (by omega); omega
theorem Tryz.entersFb (args : Array Value) (w : World) : (callFunc 64 args).run Tryz.prog w = .ok (.enter 64 args) w :=
  enters_of Tryz.func64 (by kernel_rfl) rfl args w
theorem fbCmp_any (i j : Nat) (bx b off n c : Nat) (x y : Int) (w : World) (hi : i < n) (hj : j < n) (hbox : w.cell? ⟨bx, 0, none⟩ = some (.slice (some ⟨b, off, none⟩) n c))
    (d1 : w.cell? ⟨b, off + i, none⟩ = some (.int .i64 x)) (d2 : w.cell? ⟨b, off + j, none⟩ = some (.int .i64 y)) :
    Calls Tryz.prog 64 #[.int .i64 i, .int .i64 j, .pointer (some ⟨bx, 0, none⟩)] w fun e w' => e = .returned (.int .i64 (cmpI y x)) ∧ ∃ q, w' = w.drewN q := by
  have hi' : (i : Int) < n := by omega
  have hj' : (j : Int) < n := by omega
  go_enter Tryz.func64, Tryz.ntmps64
  go_wp2_with fail
  go_quiet ((go_at_call 65; exact quiet_same (cmp64_any _ _ _)))
  go_wp2_with fail
  go_ret
  exact ⟨rfl, _, rfl⟩
theorem fbReads {xs : List Int} (v : Value) (bx g : Nat) (w : World) (h : RdI w v xs) (hn : 1 ≤ xs.length) (hb : w.cell? ⟨bx, 0, none⟩ = some v) (hbx : bx < w.heap.size) (hbg : bx ≠ g) (hg : ∀ a, v.ownBlock = some a → a ≠ g) :
    CmpReads Tryz.prog 64 #[.pointer (some ⟨bx, 0, none⟩)] (encN xs.length) (sizeC xs) g 0 xs.length w := by
  intro m os dk hs x y
  obtain ⟨a, c, rfl⟩ := h.shape
  have hx := Nat.mod_lt x (show 0 < xs.length by omega)
  have hy := Nat.mod_lt y (show 0 < xs.length by omega)
  obtain ⟨b, off, rfl, hbl, d1⟩ := h.at hx
  obtain ⟨b', off', e, _, d2⟩ := h.at hy
  simp only [Option.some.injEq, Addr.mk.injEq] at e
  obtain ⟨rfl, rfl, _⟩ := e
  have hgb : b ≠ g := hg b rfl
  have up : ∀ p : Addr, p.block < w.heap.size → p.block ≠ g → (sortWorld (encN xs.length) w g 0 m dk os).cell? p = w.cell? p := by
    intro p h1 h2
    unfold sortWorld
    rw [cell?_grow _ _ _ (by simpa [putRow, mapBlock, Sort.ahead] using h1), cell?_putRow_other _ _ _ _ _ _ (.inl h2)]
    rfl
  exact fbCmp_any _ _ bx b off xs.length c _ _ _ hx hy ((up _ hbx hbg).trans hb) ((up _ hbl hgb).trans d1) ((up _ hbl hgb).trans d2)
set_option maxHeartbeats 4000000 in
set_option maxRecDepth 8000 in
theorem fbYes_any (v : Value) (xs : List Int) (R : Nat) (w : World) (h : RdI w v xs) (hs : areSizesB xs = true) (hR : R ≤ 1000) (hmx : maxL xs ≤ (R : Int)) :
    Calls Tryz.prog 20 #[v, .int .i64 R] w fun e w' => ∃ u, e = .returned (.tuple #[u, .int .i64 ((fbK xs R (ordC (sizeC xs) xs.length) xs.length).2.length : Nat), .bool true]) ∧ OwnI w.heap.size w'.heap.size w' u (fbK xs R (ordC (sizeC xs) xs.length) xs.length).1 ∧ Below w.heap.size w w' := by
  obtain ⟨hsz, hsr⟩ := sizes_all hs
  obtain ⟨a, c, rfl⟩ := h.shape
  obtain ⟨xb, xo, rfl, hxb, _⟩ := h.at (i := 0) (by omega)
  have HRX := Lib.hid h
  have HA := Lib.hid (fun X (hb : Below w.heap.size w X) => AreSizes_any _ xs X (h.up hb (Nat.le_refl _)))
  rw [hs] at HA
  have HMX := Lib.hid (fun X (hb : Below w.heap.size w X) => maxI_any _ xs X (h.up hb (Nat.le_refl _)) hsz.1)
  have HIR := Lib.hid (show inB 0 1000 (R : Int) = true from inB_iff.2 (by omega))
  have hmx' : decide ((R : Int) < maxL xs) = false := decide_eq_false (by omega)
  have hx1 : ∀ i, 0 ≤ xs.getD i 0 ∧ xs.getD i 0 ≤ 1000 := fun i => by
    by_cases hi : i < xs.length
    · have := hsr (xs.getD i 0) (by rw [List.getD_eq_getElem?_getD, List.getElem?_eq_getElem hi]; exact List.getElem_mem _)
      omega
    · rw [List.getD_eq_getElem?_getD, List.getElem?_eq_none (by omega)]; decide
  have HX1 := Lib.hid hx1
  have HXC := Lib.hid (fun i (hi : i < xs.length) X (hb : Below w.heap.size w X) => show X.cell? ⟨xb, xo + i, none⟩ = some (.int .i64 (xs.getD i 0)) by
    obtain ⟨b', o', e, _, d⟩ := (h.up hb (Nat.le_refl _)).at hi
    simp only [Option.some.injEq, Addr.mk.injEq, and_true] at e
    obtain ⟨rfl, rfl⟩ := e
    exact d)
  have HOL := Lib.hid (ordC_len (swo_size xs) xs.length)
  have HOT := Lib.hid (ordC_lt (swo_size xs) xs.length)
  have HOD := Lib.hid (fun X (hb : Below w.heap.size w X) (hk : Box X w.heap.size 27 (.slice (some ⟨xb, xo, none⟩) xs.length c)) (hz : w.heap.size < X.heap.size) => orderByC19_any 64 #[.pointer (some ⟨w.heap.size, 0, none⟩)] Tryz.entersFb (sizeC xs) (swo_size xs) xs.length hsz.1 (by omega) X (fun w0 g hb0 hg => fbReads _ w.heap.size g w0 ((HRX.out.up hb (Nat.le_refl _)).up hb0 (Nat.le_refl _)) hsz.1 (hk.below hb0 hz).cell (Nat.lt_of_lt_of_le hz hb0.size) (by omega) (fun a ha => by
    have : xb = a := Option.some.inj ha
    omega)))
  obtain ⟨L, hL⟩ : ∃ L, L = ordC (sizeC xs) xs.length := ⟨_, rfl⟩
  rw [← hL] at HOL HOT HOD ⊢
  have HRG := Lib.hid (fbK_rng (room := (R : Int)) (by omega) hx1 L)
  have HLN := Lib.hid (fbK_len xs (R : Int) L)
  have HS := Lib.hid (fun k => show fbK xs R L (k + 1) = ((fbK xs R L k).1.set (L.getD k 0) (firstR (fbK xs R L k).2 (xs.getD (L.getD k 0) 0) (fbK xs R L k).2.length : Nat),
      (openB (fbK xs R L k).2 R (xs.getD (L.getD k 0) 0)).set (firstR (fbK xs R L k).2 (xs.getD (L.getD k 0) 0) (fbK xs R L k).2.length)
        ((openB (fbK xs R L k).2 R (xs.getD (L.getD k 0) 0)).getD (firstR (fbK xs R L k).2 (xs.getD (L.getD k 0) 0) (fbK xs R L k).2.length) 0 - xs.getD (L.getD k 0) 0)) from rfl)
  have HS0 := Lib.hid (show fbK xs R L 0 = (List.replicate xs.length 0, []) from rfl)
  obtain ⟨T, hT⟩ : ∃ T, T = fbK xs R L := ⟨_, rfl⟩
  rw [← hT] at HRG HLN HS HS0 ⊢
  obtain ⟨n, hn⟩ : ∃ n, n = xs.length := ⟨_, rfl⟩
  have HN := Lib.hid hn.symm
  rw [← hn] at HOL HOT HOD HLN HS0 HXC hsz ⊢
  have hmk := run_make_ints n (by omega)
  have hn1 := hsz.1
  have hn16 := hsz.2
  clear h hs hsr hx1 hL hT hn hmx hsz
  rw [HN.out] at HA HMX
  go_enter Tryz.func20, Tryz.ntmps20
  go_upto_region 1 with fail
  refine wp_at fun W0 hW0 => ?_
  have HB0 := Lib.hid (show Below w.heap.size w W0 by subst hW0; (repeat' first | exact Below.refl _ _ | assumption | refine Below.alloc ?_ ?_ _ | refine Below.setCell ?_ ?_ _ | refine Below.drew ?_ | (simp; done) | (simp; omega)))
  have HK0 := Lib.hid (show Box W0 w.heap.size 27 (.slice (some ⟨xb, xo, none⟩) n c) by subst hW0; rw [← HN.out]; exact Box.new _ _ _)
  have hz0 := HB0.out.size
  have hk0 := HK0.out.lt
  clear hW0
  have d0 := HK0.out.cell
  go_upto_region 3 with (first
    | (go_at_call 58; refine (HA.out W0 HB0.out).mono ?_; rintro e w0 ⟨rfl, rfl⟩)
    | (go_at_call 61; refine (isRoom_any _ _).mono ?_; rintro e w1 ⟨rfl, rfl⟩; rw [HIR.out])
    | (go_at_call 62; refine (HMX.out W0 HB0.out).mono ?_; rintro e w2 ⟨rfl, hw2⟩; obtain rfl := hw2.symm))
  go_upto_region 5 with fail
  refine wp_at fun W5 hW5 => ?_
  obtain ⟨g, hg⟩ : ∃ g, g = W0.heap.size := ⟨_, rfl⟩
  rw [← hg]
  have HO5 := Lib.hid (show W5.ownsRow w.heap.size 2 1 (.slice (some ⟨g, 0, none⟩) n n) n ((List.replicate n (0 : Int)).map I64) by subst hW5 hg; exact owns_base (owns_zerosI n (by omega) W0 _ rfl) hz0)
  have HB5 := Lib.hid (show Below w.heap.size w W5 by subst hW5; exact HB0.out.alloc hz0 _)
  have HK5 := Lib.hid (show Box W5 w.heap.size 27 (.slice (some ⟨xb, xo, none⟩) n c) by subst hW5; exact HK0.out.below ((Below.refl _ _).alloc (Nat.le_refl _) _) hk0)
  have hgz : g < W5.heap.size := (HO5.out.lt g rfl).2
  have hg1 : w.heap.size < g := by omega
  have hz5 := HB5.out.size
  have hgw0 : W0.heap.size ≤ g := by omega
  clear hW5 d0 hmk HMX HA hg
  have d0 := HK5.out.cell
  go_wp2_with (go_at_call 63; refine (HOD.out W5 HB5.out HK5.out HK5.out.lt).mono ?_; rintro e w6 ⟨u, rfl, ho, hb6⟩; obtain ⟨ob, oc, hu, hob1, hob2⟩ := owns_pos ho.1 (by rw [idxs_len, HOL.out]; exact hn1); rw [idxs_len, HOL.out] at hu; subst hu)
  have HB6 := Lib.hid (HB5.out.trans (hb6.mono hz5))
  have HG6 := Lib.hid (show w6.ownsRow w.heap.size 2 1 (.slice (some ⟨g, 0, none⟩) n n) n ((List.replicate n (0 : Int)).map I64) from owns_belowB HO5.out hb6 (fun g' e => by have : g = g' := Option.some.inj e; omega))
  have hz6 := hb6.size
  have HOC := Lib.hid (fun k (hk : k < n) X (hK : Kept (· = g) w6 X) => show X.cell? ⟨ob, k, none⟩ = some (.int .i64 ((L.getD k 0 : Nat) : Int)) by
    have ho1 : w6.ownsRow W5.heap.size 2 1 (.slice (some ⟨ob, 0, none⟩) n oc) n ((idxs L).map I64) := by
      have := ho.1
      rw [idxs_len, HOL.out] at this
      exact this
    have h1 := ho1.cellAt k (by omega)
    rw [hK.cell hob2 (by show ob ≠ g; omega), h1, List.getElem?_map]
    unfold idxs
    rw [List.getElem?_map, List.getElem?_eq_getElem (by rw [HOL.out]; exact hk), List.getD_eq_getElem?_getD, List.getElem?_eq_getElem (by rw [HOL.out]; exact hk)]
    rfl)
  have HBX := Lib.hid (fun X (hK : Kept (· = g) w6 X) => show X.cell? ⟨w.heap.size, 0, none⟩ = some (.slice (some ⟨xb, xo, none⟩) n c) by
    have hb := (HK5.out.below hb6 HK5.out.lt)
    rw [hK.cell hb.lt (by show w.heap.size ≠ g; omega)]
    exact hb.cell)
  have HBK := Lib.hid (fun X (hK : Kept (· = g) w6 X) => show Below w.heap.size w X from HB6.out.trans (hK.toBelow HB6.out.size (by intro k h1 h2; omega)))
  clear d0 HOD ho hb6
  have HLI := Lib.hid (fun k (hk : k < n) => HOT.out (L.getD k 0) (by rw [List.getD_eq_getElem?_getD, List.getElem?_eq_getElem (by rw [HOL.out]; exact hk)]; exact List.getElem_mem _))
  go_loopw [8, 34] (fun bv kv wr => ∃ (k : Nat) (b : Option Addr) (m cp : Nat), kv = .int .i64 k ∧ k ≤ n ∧ bv = .slice b m cp ∧ Hid ((T k).2.length = m) ∧ Hid (wr.ownsRow w.heap.size 2 1 (.slice (some ⟨g, 0, none⟩) n n) n ((T k).1.map I64)) ∧ Hid (wr.ownsRow w6.heap.size 2 1 (.slice b m cp) m ((T k).2.map I64)) ∧ Hid (Kept (· = g) w6 wr)) (fun _ kv _ => n + 1 - (intOf kv).toNat)
  case atStart => exact ⟨0, none, 0, 0, rfl, Nat.zero_le _, rfl, Lib.hid (by rw [HS0.out]; rfl), Lib.hid (by rw [HS0.out]; exact HG6.out), Lib.hid (by rw [HS0.out]; exact World.ownsRow_nil _ _ _ _), Lib.hid (Kept.refl _ _)⟩
  case round =>
    obtain ⟨k, b, m, cp, rfl, hk, rfl, HM, HG, HBN, HK⟩ := hrel
    by_cases hlt : k < n
    · have hltI : (k : Int) < (n : Int) := by omega
      have co := HOC.out k hlt wr HK.out
      have hi := HLI.out k hlt
      have hrg := HRG.out k
      have hst := HS.out k
      have hln := HLN.out k
      obtain ⟨i, hi'⟩ : ∃ i, i = L.getD k 0 := ⟨_, rfl⟩
      rw [← hi'] at co hi hst
      have hsx := HX1.out i
      obtain ⟨s, hs'⟩ : ∃ s, s = xs.getD i 0 := ⟨_, rfl⟩
      have HSX := Lib.hid hs'
      rw [← hs'] at hsx hst
      obtain ⟨⟨out, bins⟩, hT⟩ : ∃ p, p = T k := ⟨_, rfl⟩
      rw [← hT] at hrg hst hln HM HG HBN
      simp only at hrg hst hln HM HG HBN
      have HRG2 := Lib.hid hrg
      have HST := Lib.hid hst
      have hm := HM.out
      rw [hm] at hst
      have hmk : m ≤ k := by have := hln.2; omega
      have HOUT := Lib.hid hln.1
      have hiI : (i : Int) < (n : Int) := by omega
      clear hi' hs' hT hrg hst hln hm
      obtain ⟨wo, rfl⟩ : ∃ wo, wo = wr := ⟨wr, rfl⟩
      go_wp2_with fail
      go_loopw [11] (fun jv wr => ∃ j : Nat, jv = .int .i64 j ∧ j ≤ m ∧ Hid (firstR bins s j = j) ∧ Hid (wr.ownsRow w.heap.size 2 1 (.slice (some ⟨g, 0, none⟩) n n) n (out.map I64)) ∧ Hid (wr.ownsRow w6.heap.size 2 1 (.slice b m cp) m (bins.map I64)) ∧ Hid (Kept (· = g) w6 wr)) (fun jv _ => m + 1 - (intOf jv).toNat)
      case atStart => exact ⟨0, rfl, Nat.zero_le _, Lib.hid rfl, HG, HBN, HK⟩
      case round =>
        obtain ⟨j, rfl, hj, HF, HG, HBN, HK⟩ := hrel
        have dx := HXC.out i hi wr (HBK.out wr HK.out)
        rw [← HSX.out] at dx
        have d0 := HBX.out wr HK.out
        by_cases hjm : j < m
        · obtain ⟨h2, cq, e, hh1, hh2⟩ := owns_pos HBN.out (by omega)
          injection e with e1 _ e2
          subst e1; subst e2
          have cb : wr.cell? ⟨h2, j, none⟩ = some (.int .i64 (bins.getD j 0)) := by
            rw [HBN.out.cellAt j (by omega), List.getElem?_map, List.getElem?_eq_getElem (by rw [HM.out]; exact hjm), List.getD_eq_getElem?_getD, List.getElem?_eq_getElem (by rw [HM.out]; exact hjm)]
            rfl
          have hjI : (j : Int) < (m : Int) := by omega
          have hjd : decide (j < m) = true := decide_eq_true hjm
          have hrr := HRG2.out j
          obtain ⟨B, hB⟩ : ∃ B, B = bins.getD j 0 := ⟨_, rfl⟩
          have HBE := Lib.hid hB
          rw [← hB] at cb hrr
          clear hB
          by_cases hlt2 : B < s
          · have hl2 : decide (B < s) = true := decide_eq_true hlt2
            have HFN := Lib.hid (show firstR bins s (j + 1) = j + 1 from firstR_next HF.out (by rw [← HBE.out]; exact hlt2))
            go_wp2_with fail
            go_quiet (fail)
            go_wp2_with fail
            go_roundw
            case rel => exact ⟨j + 1, by go_num, by omega, HFN, Lib.hid HG.out, Lib.hid HBN.out, Lib.hid (HK.out.drewN _)⟩
            case measure => simp [intOf]; omega
          · have hl2 : decide (B < s) = false := decide_eq_false hlt2
            have hne : ((j : Int) == (m : Int)) = false := by simp; omega
            have HFJ := Lib.hid (firstR_stop HF.out (by rw [← HBE.out]; exact hlt2) m (by omega))
            have HBI := Lib.hid (show openB bins R s = bins by unfold openB; rw [HM.out, HFJ.out, if_neg (by omega)])
            go_wp2_with fail
            go_quiet (fail)
            go_upto_region 13 with fail
            refine wp_at fun W hW => ?_
            obtain ⟨BI, hBI⟩ : ∃ BI, BI = bins := ⟨_, rfl⟩
            obtain ⟨c2, hc2⟩ : ∃ c2, c2 = cp := ⟨_, rfl⟩
            obtain ⟨m2, hm2⟩ : ∃ m2, m2 = m := ⟨_, rfl⟩
            have HBL := Lib.hid (show BI.length = m2 by rw [hBI, hm2]; exact HM.out)
            have HGW := Lib.hid (show W.ownsRow w.heap.size 2 1 (.slice (some ⟨g, 0, none⟩) n n) n (out.map I64) by subst hW; exact HG.out)
            have HBW := Lib.hid (show W.ownsRow w6.heap.size 2 1 (.slice (some ⟨h2, 0, none⟩) m2 c2) m2 (BI.map I64) by subst hW hBI hm2 hc2; exact HBN.out)
            have HKW := Lib.hid (show Kept (· = g) w6 W by subst hW; exact HK.out.drewN _)
            have HST2 := Lib.hid (show T (k + 1) = (out.set i (j : Nat), BI.set j (BI.getD j 0 - s)) by rw [HST.out, HM.out, HFJ.out, HBI.out, hBI])
            have hjm2 : j < m2 := by omega
            have hrr2 : -(1000 * (k : Int)) ≤ BI.getD j 0 ∧ BI.getD j 0 ≤ 1000 := by rw [hBI, ← HBE.out]; exact hrr
            rw [← hm2, ← hc2]
            clear hW hBI hm2 hc2 cb d0 dx hjm hjI hjd hrr HBE hl2 hlt2 hne HFJ HBI
            have hhg : h2 ≠ g := by omega
            have dxW := HXC.out i hi W (HBK.out W HKW.out)
            rw [← HSX.out] at dxW
            have d0W := HBX.out W HKW.out
            have HBL' := HBL.out
            have c1 : W.cell? ⟨h2, j, none⟩ = some (.int .i64 (BI.getD j 0)) := by
              rw [HBW.out.cellAt j (by omega), List.getElem?_map, List.getElem?_eq_getElem (by omega), List.getD_eq_getElem?_getD, List.getElem?_eq_getElem (by omega)]
              rfl
            have f1 := HBW.out.frozenAt j
            clear HBL'
            obtain ⟨y, hy⟩ : ∃ y, y = BI.getD j 0 := ⟨_, rfl⟩
            rw [← hy] at c1 hrr2
            have HY := Lib.hid hy
            have hw1 : IntKind.i64.wrap (y - s) = y - s := IntWalk.i64_in _ (by omega)
            have hj2I : (j : Int) < (m2 : Int) := by omega
            clear hy
            go_region_law (fail)
            all_goals
              go_upto_region 14 with fail
              refine wp_at fun W3 hW3 => ?_
              have HG3 := Lib.hid (show W3.ownsRow w.heap.size 2 1 (.slice (some ⟨g, 0, none⟩) n n) n (out.map I64) by subst hW3; exact owns_kept (owns_drew HGW.out) (Kept.setCell (S := (· = h2)) (Kept.refl _ _) (.inr rfl) _) (fun b e1 e2 => hhg (by have : g = b := Option.some.inj e1; omega)))
              have HB3 := Lib.hid (show W3.ownsRow w6.heap.size 2 1 (.slice (some ⟨h2, 0, none⟩) m2 c2) m2 ((BI.set j (y - s)).map I64) by subst hW3; rw [List.map_set]; exact ((owns_drew HBW.out).stored j (.int .i64 (y - s))).1)
              have HK3 := Lib.hid (show Kept (· = g) w6 W3 by subst hW3; exact (HKW.out.drew).setCell (.inl hh1) _)
              have g1 : W3.cell? ⟨g, i, none⟩ = some (.int .i64 (out.getD i 0)) := by
                have := HOUT.out
                rw [HG3.out.cellAt i (by omega), List.getElem?_map, List.getElem?_eq_getElem (by omega), List.getD_eq_getElem?_getD, List.getElem?_eq_getElem (by omega)]
                rfl
              have g2 := HG3.out.frozenAt i
              clear hW3 c1 f1 dxW d0W
              go_wp2_with fail
              go_roundw
              case rel =>
                refine ⟨k + 1, some ⟨h2, 0, none⟩, m2, c2, by go_num, by omega, rfl, Lib.hid (by rw [HST2.out, List.length_set]; exact HBL.out), Lib.hid ?_, Lib.hid ?_, Lib.hid (HK3.out.setCell (.inr rfl) _)⟩
                · rw [HST2.out]
                  show World.ownsRow _ _ _ _ _ _ ((out.set i (j : Nat)).map I64)
                  rw [List.map_set]
                  exact (HG3.out.stored i (.int .i64 (j : Nat))).1
                · rw [HST2.out]
                  show World.ownsRow _ _ _ _ _ _ ((BI.set j (BI.getD j 0 - s)).map I64)
                  rw [← HY.out]
                  exact owns_kept HB3.out (Kept.setCell (S := (· = g)) (Kept.refl _ _) (.inr rfl) _) (fun b e1 e2 => hhg (by have : h2 = b := Option.some.inj e1; omega))
              case measure => simp [intOf]; omega
        · obtain rfl : j = m := by omega
          have hee : ((j : Int) == (j : Int)) = true := by simp
          have hjd : decide (j < j) = false := decide_eq_false (by omega)
          have HBI := Lib.hid (show openB bins R s = bins ++ [(R : Int)] by unfold openB; rw [HM.out, HF.out, if_pos rfl])
          have hzk := HK.out.size
          go_wp2_with fail
          go_quiet (fail)
          go_upto_region 13 with (at_builtin; refine app_ints rfl _ _ rfl w6.heap.size (.slice b j cp) j bins rfl (show World.ownsRow _ _ _ _ _ _ _ from (HBN.out.alloc _)) _ [(R : Int)] rfl (slc_one _ _) (j + 1) (bins ++ [(R : Int)]) (by simp) rfl (by omega) (by simp; omega) ?_; intro b2 c2 w3 hown2 hbl2 _ _)
          refine wp_at fun W hW => ?_
          obtain ⟨h2, c2', e, hh1, hh2⟩ := owns_pos hown2 (by omega)
          injection e with e1 _ e2
          subst e1; subst e2
          obtain ⟨BI, hBI⟩ : ∃ BI, BI = bins ++ [(R : Int)] := ⟨_, rfl⟩
          obtain ⟨m2, hm2⟩ : ∃ m2, m2 = j + 1 := ⟨_, rfl⟩
          have HBL := Lib.hid (show BI.length = m2 by rw [hBI, hm2, List.length_append, HM.out]; rfl)
          have hkk : Kept (· = g) w6 w3 := Kept.below (((HK.out.drewN _).alloc _)) hbl2 (Nat.le_refl _)
          have HGW := Lib.hid (show W.ownsRow w.heap.size 2 1 (.slice (some ⟨g, 0, none⟩) n n) n (out.map I64) by subst hW; exact owns_belowB (B := w6.heap.size) ((owns_drewN HG.out _).alloc _) hbl2 (fun g' e => by have : g = g' := Option.some.inj e; omega))
          have HBW := Lib.hid (show W.ownsRow w6.heap.size 2 1 (.slice (some ⟨h2, 0, none⟩) m2 c2) m2 (BI.map I64) by subst hW hBI hm2; exact hown2)
          have HKW := Lib.hid (show Kept (· = g) w6 W by subst hW; exact hkk)
          have HST2 := Lib.hid (show T (k + 1) = (out.set i (j : Nat), BI.set j (BI.getD j 0 - s)) by rw [HST.out, HM.out, HF.out, HBI.out, hBI])
          have hjm2 : j < m2 := by omega
          have hrr2 : -(1000 * (k : Int)) ≤ BI.getD j 0 ∧ BI.getD j 0 ≤ 1000 := by rw [hBI, getD_app, HM.out, if_pos rfl]; omega
          have hc0 : (((j : Nat) : Int) + 1) = ((m2 : Nat) : Int) := by omega
          try rw [← hm2]
          try rw [hc0]
          clear hW hBI hm2 hown2 hbl2 hkk d0 dx hjm hjd hee HBI hc0
          have hhg : h2 ≠ g := by omega
          have dxW := HXC.out i hi W (HBK.out W HKW.out)
          rw [← HSX.out] at dxW
          have d0W := HBX.out W HKW.out
          have HBL' := HBL.out
          have c1 : W.cell? ⟨h2, j, none⟩ = some (.int .i64 (BI.getD j 0)) := by
            rw [HBW.out.cellAt j (by omega), List.getElem?_map, List.getElem?_eq_getElem (by omega), List.getD_eq_getElem?_getD, List.getElem?_eq_getElem (by omega)]
            rfl
          have f1 := HBW.out.frozenAt j
          clear HBL'
          obtain ⟨y, hy⟩ : ∃ y, y = BI.getD j 0 := ⟨_, rfl⟩
          rw [← hy] at c1 hrr2
          have HY := Lib.hid hy
          have hw1 : IntKind.i64.wrap (y - s) = y - s := IntWalk.i64_in _ (by omega)
          have hj2I : (j : Int) < (m2 : Int) := by omega
          clear hy
          go_region_law (fail)
          all_goals
            go_upto_region 14 with fail
            refine wp_at fun W3 hW3 => ?_
            have HG3 := Lib.hid (show W3.ownsRow w.heap.size 2 1 (.slice (some ⟨g, 0, none⟩) n n) n (out.map I64) by subst hW3; exact owns_kept (owns_drew HGW.out) (Kept.setCell (S := (· = h2)) (Kept.refl _ _) (.inr rfl) _) (fun b e1 e2 => hhg (by have : g = b := Option.some.inj e1; omega)))
            have HB3 := Lib.hid (show W3.ownsRow w6.heap.size 2 1 (.slice (some ⟨h2, 0, none⟩) m2 c2) m2 ((BI.set j (y - s)).map I64) by subst hW3; rw [List.map_set]; exact ((owns_drew HBW.out).stored j (.int .i64 (y - s))).1)
            have HK3 := Lib.hid (show Kept (· = g) w6 W3 by subst hW3; exact (HKW.out.drew).setCell (.inl hh1) _)
            have g1 : W3.cell? ⟨g, i, none⟩ = some (.int .i64 (out.getD i 0)) := by
              have := HOUT.out
              rw [HG3.out.cellAt i (by omega), List.getElem?_map, List.getElem?_eq_getElem (by omega), List.getD_eq_getElem?_getD, List.getElem?_eq_getElem (by omega)]
              rfl
            have g2 := HG3.out.frozenAt i
            clear hW3 c1 f1 dxW d0W
            go_wp2_with fail
            go_roundw
            case rel =>
              refine ⟨k + 1, some ⟨h2, 0, none⟩, m2, c2, by go_num, by omega, rfl, Lib.hid (by rw [HST2.out, List.length_set]; exact HBL.out), Lib.hid ?_, Lib.hid ?_, Lib.hid (HK3.out.setCell (.inr rfl) _)⟩
              · rw [HST2.out]
                show World.ownsRow _ _ _ _ _ _ ((out.set i (j : Nat)).map I64)
                rw [List.map_set]
                exact (HG3.out.stored i (.int .i64 (j : Nat))).1
              · rw [HST2.out]
                show World.ownsRow _ _ _ _ _ _ ((BI.set j (BI.getD j 0 - s)).map I64)
                rw [← HY.out]
                exact owns_kept HB3.out (Kept.setCell (S := (· = g)) (Kept.refl _ _) (.inr rfl) _) (fun b e1 e2 => hhg (by have : h2 = b := Option.some.inj e1; omega))
            case measure => simp [intOf]; omega
    · obtain rfl : k = n := by omega
      have hmm : m ≤ maxLen := by have := (HLN.out k).2; have := HM.out; unfold maxLen; omega
      go_wp2_with (go_at_call 66; refine (size_any _ _ hmm).mono ?_; rintro e w' ⟨rfl, rfl⟩)
      go_ret3
      exact ⟨_, by rw [HM.out]; rfl, OwnI.mk (n := k) HG.out, HBK.out _ HK.out⟩
set_option maxHeartbeats 2000000 in
theorem fbI_any (v : Value) (xs : List Int) (room : Int) (w : World) (h : RdI w v xs) :
    Calls Tryz.prog 20 #[v, .int .i64 room] w fun e w' => ∃ u, e = .returned (.tuple #[u, .int .i64 (fbN xs room), .bool (fbB xs room)]) ∧ OwnI w.heap.size w'.heap.size w' u (fbO xs room) ∧ Below w.heap.size w w' := by
  have HN := Lib.hid (show fbN xs room = if fbB xs room = true then (((fbK xs room (ordC (sizeC xs) xs.length) xs.length).2.length : Nat) : Int) else 0 from rfl)
  have HO := Lib.hid (show fbO xs room = if fbB xs room = true then (fbK xs room (ordC (sizeC xs) xs.length) xs.length).1 else [] from rfl)
  have HF := Lib.hid (show fbB xs room = (areSizesB xs && (inB 0 1000 room && decide (maxL xs ≤ room))) from rfl)
  by_cases hb : fbB xs room = true
  · have hb2 := hb
    rw [HF.out, Bool.and_eq_true, Bool.and_eq_true, inB_iff, decide_eq_true_eq] at hb2
    obtain ⟨h1, h2, h3⟩ := hb2
    obtain ⟨R, rfl⟩ := Int.eq_ofNat_of_zero_le h2.1
    refine (fbYes_any v xs R w h h1 (by omega) h3).mono ?_
    rintro e w' ⟨u, rfl, ho, hbl⟩
    exact ⟨u, by rw [HN.out, hb, if_pos rfl], by rw [HO.out, if_pos hb]; exact ho, hbl⟩
  · have hbf : fbB xs room = false := by simpa using hb
    rw [hbf] at HN HO ⊢
    have HN2 := Lib.hid (show fbN xs room = 0 by rw [HN.out]; rfl)
    have HO2 := Lib.hid (show fbO xs room = [] by rw [HO.out]; rfl)
    rw [HF.out] at hbf
    rw [HN2.out, HO2.out]
    obtain ⟨q1, h1⟩ : ∃ q, areSizesB xs = q := ⟨_, rfl⟩
    obtain ⟨q2, h2⟩ : ∃ q, inB 0 1000 room = q := ⟨_, rfl⟩
    rw [h1, h2] at hbf
    have HA := Lib.hid (fun X (hb : Below w.heap.size w X) => AreSizes_any _ xs X (h.up hb (Nat.le_refl _)))
    rw [h1] at HA
    have HMX := Lib.hid (fun (hq : q1 = true) X (hb : Below w.heap.size w X) => maxI_any _ xs X (h.up hb (Nat.le_refl _)) (sizes_all (h1.trans hq)).1.1)
    obtain ⟨a, c, rfl⟩ := h.shape
    have HBF := Lib.hid hbf
    have H2 := Lib.hid h2
    clear h h1 h2 hbf hb HN HO HF
    obtain ⟨n, hn⟩ : ∃ n, n = xs.length := ⟨_, rfl⟩
    rw [← hn] at HA HMX ⊢
    clear hn
    have FIN : ∀ W, Below w.heap.size w W → ∃ u, Ending.returned (.tuple #[Value.slice none 0 0, .int .i64 0, .bool false]) = Ending.returned (.tuple #[u, .int .i64 0, .bool false]) ∧ OwnI w.heap.size W.heap.size W u [] ∧ Below w.heap.size w W := fun W hb => ⟨_, rfl, ⟨World.ownsRow_nil _ _ _ _, by intro g hg; cases hg⟩, hb⟩
    have HFIN := Lib.hid FIN
    clear FIN
    go_enter Tryz.func20, Tryz.ntmps20
    go_upto_region 1 with fail
    refine wp_at fun W0 hW0 => ?_
    have HB0 := Lib.hid (show Below w.heap.size w W0 by subst hW0; (repeat' first | exact Below.refl _ _ | assumption | refine Below.alloc ?_ ?_ _ | refine Below.setCell ?_ ?_ _ | refine Below.drew ?_ | (simp; done) | (simp; omega)))
    have HK0 := Lib.hid (show Box W0 w.heap.size 27 (.slice a n c) by subst hW0; exact Box.new _ _ _)
    clear hW0
    have d0 := HK0.out.cell
    cases q1
    · go_wp2_with (go_at_call 58; refine (HA.out W0 HB0.out).mono ?_; rintro e w0 ⟨rfl, rfl⟩)
      go_ret3
      exact HFIN.out _ HB0.out
    cases q2
    · go_wp2_with (first
        | (go_at_call 58; refine (HA.out W0 HB0.out).mono ?_; rintro e w0 ⟨rfl, rfl⟩)
        | (go_at_call 61; refine (isRoom_any _ _).mono ?_; rintro e w1 ⟨rfl, rfl⟩; rw [H2.out]))
      go_ret3
      exact HFIN.out _ HB0.out
    have hmx : decide (room < maxL xs) = true := by
      have := HBF.out
      rw [Bool.true_and, Bool.true_and, decide_eq_false_iff_not] at this
      exact decide_eq_true (by omega)
    go_wp2_with (first
      | (go_at_call 58; refine (HA.out W0 HB0.out).mono ?_; rintro e w0 ⟨rfl, rfl⟩)
      | (go_at_call 61; refine (isRoom_any _ _).mono ?_; rintro e w1 ⟨rfl, rfl⟩; rw [H2.out])
      | (go_at_call 62; refine (HMX.out (by first | trivial | rfl) W0 HB0.out).mono ?_; rintro e w2 ⟨rfl, hw2⟩; obtain rfl := hw2.symm))
    go_ret3
    exact HFIN.out _ HB0.out
end Go.Proofs.YtgkbbpajkbkgnaaGreatDoor
