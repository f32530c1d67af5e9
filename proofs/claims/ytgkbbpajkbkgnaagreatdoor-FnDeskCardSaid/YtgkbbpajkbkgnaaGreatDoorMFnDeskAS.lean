/-
  FnDesk: texts joined: TourM, AreCit, TlI.
-/
import Derived.Deep.CutRange
import Derived.Test.YtgkbbpajkbkgnaaGreatDoorMFnDeskAO
import Derived.Test.YtgkbbpajkbkgnaaGreatDoorMFnDeskAR
set_option linter.unusedVariables false
set_option linter.unusedSimpArgs false
namespace Go.Proofs.YtgkbbpajkbkgnaaGreatDoor
open Go.RowKit
def upd (s p : List Nat × Int) : List Nat × Int := if s.1 = [] ∨ p.2 < s.2 then p else s
theorem upd_none (x : Int) (p : List Nat × Int) : upd ([], x) p = p := by unfold upd; rw [if_pos (.inl rfl)]
def openL (W : Nat → Nat → Int) : Nat → List Nat → Int
  | _, [] => 0
  | x, y :: r => W x y + openL W y r
def closeL (W : Nat → Nat → Int) : Nat → List Nat → Int
  | x, [] => W x 0
  | x, y :: r => W x y + closeL W y r
def lastL : Nat → List Nat → Nat
  | x, [] => x
  | _, y :: r => lastL y r
theorem openL_snoc (W : Nat → Nat → Int) (c : Nat) : ∀ (x : Nat) (r : List Nat), openL W x (r ++ [c]) = openL W x r + W (lastL x r) c
  | x, [] => by show W x c + 0 = 0 + W x c; omega
  | x, y :: r => by
    have := openL_snoc W c y r
    show W x y + openL W y (r ++ [c]) = W x y + openL W y r + W (lastL y r) c
    rw [this]; omega
theorem closeL_eq (W : Nat → Nat → Int) : ∀ (x : Nat) (r : List Nat), closeL W x r = openL W x r + W (lastL x r) 0
  | x, [] => by show W x 0 = 0 + W x 0; omega
  | x, y :: r => by
    have := closeL_eq W y r
    show W x y + closeL W y r = W x y + openL W y r + W (lastL y r) 0
    rw [this]; omega
def btK (rec : List Nat → List Nat × Int → List Nat × Int) (r : List Nat) (s : List Nat × Int) : Nat → List Nat × Int
  | 0 => s
  | k + 1 => if (k + 1) ∈ r then btK rec r s k else rec (r ++ [k + 1]) (btK rec r s k)
def btR (W : Nat → Nat → Int) (n : Nat) : Nat → List Nat → List Nat × Int → List Nat × Int
  | 0, r, s => upd s (0 :: r, closeL W 0 r)
  | f + 1, r, s => btK (btR W n f) r s (n - 1)
end Go.Proofs.YtgkbbpajkbkgnaaGreatDoor

namespace Go.Proofs.YtgkbbpajkbkgnaaGreatDoor
open Go.RowKit
theorem ix_facts {L n i k : Nat} (hL : L = n * n) (hn : n ≤ 10) (hi : i < n) (hk : k < n) : (0 : Int) ≤ (i : Int) * n ∧ (i : Int) * n + k < (L : Int) ∧ (0 : Int) ≤ (i : Int) * n + k ∧ ((i : Int) * n + k).toNat = i * n + k ∧ IntKind.i64.wrap ((i : Int) * n) = (i : Int) * n ∧ IntKind.i64.wrap ((i : Int) * n + k) = (i : Int) * n + k ∧ i * n + k < L := by
  have h0 : ((i * n : Nat) : Int) = (i : Int) * n := by push_cast; rfl
  have h1 : (i + 1) * n ≤ n * n := Nat.mul_le_mul_right _ hi
  have h2 : n * n ≤ 10 * 10 := Nat.mul_le_mul hn hn
  rw [Nat.add_mul] at h1
  refine ⟨by omega, by omega, by omega, by omega, IntWalk.i64_in _ (by omega), IntWalk.i64_in _ (by omega), by omega⟩
set_option maxHeartbeats 4000000 in
set_option maxRecDepth 4000 in
theorem AreCities_any (v : Value) (xs : List Int) (w : World) (h : RdI w v xs) :
    Calls Tryz.prog 59 #[v] w fun e w' => e = .returned (.bool (areCitiesB xs)) ∧ Below w.heap.size w w' := by
  obtain ⟨q2, hq2⟩ : ∃ q, allIn 0 1000 xs = q := ⟨_, rfl⟩
  have HW := Lib.hid (allWithin_any v xs 0 1000 w h)
  have HCI := Lib.hid (cities_any v xs w h)
  rw [hq2] at HW
  have HP := Lib.hid h
  obtain ⟨a, c, rfl⟩ := h.shape
  have hm := h.len
  simp only [maxLen] at hm
  have HQ2 := Lib.hid hq2
  clear h hq2
  rcases citN_cases xs.length with ⟨hc1, hc2⟩ | ⟨n, hc1, h1, h10, hnn⟩
  · have HN := Lib.hid (areCities_not hc2)
    rw [hc1] at HCI
    clear hc1 hc2
    go_enter Tryz.func59, Tryz.ntmps59
    go_wp2_with fail
    refine HCI.out.mono ?_
    rintro e w' ⟨rfl, rfl⟩
    go_wp2_with fail
    go_ret
    exact ⟨by rw [HN.out]; rfl, Below.refl _ _⟩
  rw [hc1] at HCI
  have HAC := Lib.hid (show areCitiesB xs = (q2 && allB n (fun i => allB (i + 1) (fun k => symB n xs i k))) by unfold areCitiesB; rw [hc1, HQ2.out, Int.toNat_natCast]; simp)
  clear hc1
  have hn0 : decide ((n : Int) < 0) = false := by simp
  go_enter Tryz.func59, Tryz.ntmps59
  cases q2
  · have HN := Lib.hid (show areCitiesB xs = false by rw [HAC.out]; rfl)
    go_wp2_with fail
    refine HCI.out.mono ?_
    rintro e w' ⟨rfl, rfl⟩
    go_wp2_with fail
    refine HW.out.mono ?_
    rintro e w' ⟨rfl, rfl⟩
    go_wp2_with fail
    go_ret
    exact ⟨by rw [HN.out]; rfl, Below.refl _ _⟩
  go_wp2_with fail
  refine HCI.out.mono ?_
  rintro e w' ⟨rfl, rfl⟩
  go_wp2_with fail
  refine HW.out.mono ?_
  rintro e w' ⟨rfl, rfl⟩
  go_wp2_with fail
  have HNN := Lib.hid hnn
  clear hnn
  go_loopw [4] (fun i wr => ∃ k : Nat, i = .int .i64 k ∧ k ≤ n ∧ Hid (∀ j, j < k → allB (j + 1) (fun k => symB n xs j k) = true) ∧ Hid (Below w.heap.size w wr)) (fun i _ => n - (intOf i).toNat)
  case atStart => exact ⟨0, rfl, Nat.zero_le _, fun j hj => by omega, Below.refl _ _⟩
  case round =>
    obtain ⟨i, rfl, hi, hall, HB⟩ := hrel
    by_cases hin : i < n
    · have HNO := Lib.hid (show allB (i + 1) (fun k => symB n xs i k) = false → areCitiesB xs = false from fun h => by rw [HAC.out, allB_false hin h, Bool.and_false])
      obtain ⟨wo, rfl⟩ : ∃ wo, wo = wr := ⟨wr, rfl⟩
      go_wp2_with fail
      go_loopw [5] (fun k wr => ∃ j : Nat, k = .int .i64 j ∧ j ≤ i + 1 ∧ Hid (∀ m, m < j → symB n xs i m = true) ∧ Hid (Below w.heap.size w wr)) (fun k _ => i + 1 - (intOf k).toNat)
      case atStart => exact ⟨0, rfl, Nat.zero_le _, fun j hj => by omega, HB⟩
      case round =>
        obtain ⟨j, rfl, hj, hall2, HB2⟩ := hrel
        by_cases hjl : j < i + 1
        · obtain ⟨f1, f2, f3, f4, f5, f6, f7⟩ := ix_facts HNN.out.symm h10 hin (show j < n by omega)
          obtain ⟨g1, g2, g3, g4, g5, g6, g7⟩ := ix_facts HNN.out.symm h10 (show j < n by omega) hin
          obtain ⟨b, off, rfl, hb, hc⟩ := (HP.out.up HB2.out (Nat.le_refl _)).at f7
          obtain ⟨_, _, e, _, hc3⟩ := (HP.out.up HB2.out (Nat.le_refl _)).at g7
          simp only [Option.some.injEq, Addr.mk.injEq, and_true] at e
          obtain ⟨rfl, rfl⟩ := e
          have HS := Lib.hid (show symB n xs i j = ((xs.getD (i * n + j) 0 == xs.getD (j * n + i) 0) && (!(i == j) || xs.getD (i * n + j) 0 == 0)) from rfl)
          have hjle : decide ((j : Int) ≤ (i : Int)) = true := by simp; omega
          by_cases hij : i = j
          · subst hij
            obtain ⟨x, hx⟩ : ∃ x, x = xs.getD (i * n + i) 0 := ⟨_, rfl⟩
            rw [← hx] at hc hc3 HS
            clear hx
            have hne : (x != x) = false := by simp
            have hee : ((i : Int) == (i : Int)) = true := by simp
            by_cases hx0 : x = 0
            · have HOK := Lib.hid (show symB n xs i i = true by rw [HS.out, hx0]; simp)
              subst hx0
              go_wp2_with fail
              go_quiet (fail)
              go_wp2_with fail
              go_roundw
              case rel => exact ⟨i + 1, by go_num, by omega, fun m hm => by
                rcases Nat.lt_succ_iff_lt_or_eq.1 hm with h | rfl
                · exact hall2.out m h
                · exact HOK.out, below_drewN HB2.out _⟩
              case measure => simp [intOf]
            · have hx1 : (x != 0) = true := by simpa using hx0
              have HBAD := Lib.hid (HNO.out (allB_false hjl (by rw [HS.out]; simp [hx0])))
              clear hx0
              go_wp2_with fail
              go_quiet (fail)
              go_wp2_with fail
              go_ret
              exact ⟨by rw [HBAD.out]; rfl, below_drewN HB2.out _⟩
          · obtain ⟨x, hx⟩ : ∃ x, x = xs.getD (i * n + j) 0 := ⟨_, rfl⟩
            obtain ⟨y, hy⟩ : ∃ y, y = xs.getD (j * n + i) 0 := ⟨_, rfl⟩
            rw [← hx] at hc HS
            rw [← hy] at hc3 HS
            clear hx hy
            have hee : ((i : Int) == (j : Int)) = false := by simp; omega
            have hee' : (i == j) = false := by simp; omega
            by_cases hxy : x = y
            · have HOK := Lib.hid (show symB n xs i j = true by rw [HS.out, hxy, hee']; simp)
              subst hxy
              have hne : (x != x) = false := by simp
              go_wp2_with fail
              go_quiet (fail)
              go_wp2_with fail
              go_roundw
              case rel => exact ⟨j + 1, by go_num, by omega, fun m hm => by
                rcases Nat.lt_succ_iff_lt_or_eq.1 hm with h | rfl
                · exact hall2.out m h
                · exact HOK.out, below_drewN HB2.out _⟩
              case measure => simp [intOf]; omega
            · have hne : (x != y) = true := by simpa using hxy
              have HBAD := Lib.hid (HNO.out (allB_false hjl (by rw [HS.out]; simp [hxy])))
              clear hxy
              go_wp2_with fail
              go_quiet (fail)
              go_wp2_with fail
              go_ret
              exact ⟨by rw [HBAD.out]; rfl, below_drewN HB2.out _⟩
        · have hjle : decide ((j : Int) ≤ (i : Int)) = false := by simp; omega
          obtain rfl : j = i + 1 := by omega
          have HOK := Lib.hid (allB_true hall2.out)
          clear hall2
          go_wp2_with fail
          go_roundw
          case rel => exact ⟨i + 1, by go_num, by omega, fun m hm => by
            rcases Nat.lt_succ_iff_lt_or_eq.1 hm with h | rfl
            · exact hall.out m h
            · exact HOK.out, HB2⟩
          case measure => simp [intOf]; omega
    · obtain rfl : i = n := by omega
      have HN := Lib.hid (show areCitiesB xs = true by rw [HAC.out, allB_true hall.out]; rfl)
      go_wp2_with fail
      go_ret
      exact ⟨by rw [HN.out]; rfl, HB.out⟩
end Go.Proofs.YtgkbbpajkbkgnaaGreatDoor

namespace Go.Proofs.YtgkbbpajkbkgnaaGreatDoor
open Go.RowKit
def cityW (xs : List Int) (n i k : Nat) : Int := xs.getD (i * n + k) 0
theorem cities_get {xs : List Int} (h : areCitiesB xs = true) : ∃ n : Nat, 1 ≤ n ∧ n ≤ 10 ∧ xs.length = n * n ∧ citN xs.length = (n : Int) ∧ ∀ i k, i < n → k < n → 0 ≤ cityW xs n i k ∧ cityW xs n i k ≤ 1000 := by
  rcases citN_cases xs.length with ⟨h1, _⟩ | ⟨j, h1, a, b, c⟩
  · unfold areCitiesB at h; rw [h1] at h; cases h
  · refine ⟨j, a, b, c.symm, h1, fun i k hi hk => ?_⟩
    unfold areCitiesB at h
    rw [Bool.and_eq_true, Bool.and_eq_true] at h
    exact inB_iff.1 ((inAll c.symm).1 h.2.1 i k hi hk)
theorem idx_lt {n i k : Nat} (hi : i < n) (hk : k < n) : i * n + k < n * n := by
  have : (i + 1) * n ≤ n * n := Nat.mul_le_mul_right _ hi
  rw [Nat.add_mul] at this
  omega
theorem idxs_get {L : List Nat} {j : Nat} (h : j < L.length) : (idxs L).getD j 0 = ((L.getD j 0 : Nat) : Int) := by
  unfold idxs
  rw [List.getD_eq_getElem?_getD, List.getElem?_map, List.getD_eq_getElem?_getD, List.getElem?_eq_getElem h]
  rfl
theorem owns_pos {w : World} {base : Nat} {e : TypeId} {v : Value} {n : Nat} {vs : List Value} (h : w.ownsRow base e 1 v n vs) (hn : 0 < n) : ∃ g cap, v = .slice (some ⟨g, 0, none⟩) n cap ∧ base ≤ g ∧ g < w.heap.size := by
  refine owns_some h ?_
  rintro rfl
  rcases h.2 with ⟨_, e⟩ | ⟨g, cap, cur, e, _⟩
  · omega
  · cases e
theorem owns_drewN {w : World} {base : Nat} {e : TypeId} {v : Value} {n : Nat} {vs : List Value} (h : w.ownsRow base e 1 v n vs) (q : Nat) : (w.drewN q).ownsRow base e 1 v n vs := h
theorem owns_belowB {w w' : World} {base B : Nat} {e : TypeId} {v : Value} {n : Nat} {vs : List Value} (h : w.ownsRow base e 1 v n vs) (hb : Below B w w') (hlt : ∀ g, v.ownBlock = some g → g < B) : w'.ownsRow base e 1 v n vs :=
  owns_kept (S := fun k => B ≤ k) h ⟨hb.os, hb.tape, hb.output, hb.size, fun k _ hS => hb.block k (Nat.lt_of_not_le hS)⟩ (fun g hg hS => absurd (hlt g hg) (Nat.not_lt.2 hS))
theorem copyI_n (a : Option Addr) (cap n : Nat) (xs : List Int) (w : World) (hn : xs.length = n) (hs : Slc w (.slice a n cap) (xs.map I64)) (hb : n ≤ 17592186044416) :
    Calls Tryz.prog 123 #[.slice a n cap] w fun e w' => ∃ g cap, e = .returned (.slice (some ⟨g, 0, none⟩) n cap) ∧ w'.ownsRow w.heap.size 2 1 (.slice (some ⟨g, 0, none⟩) n cap) n (xs.map I64) ∧ Below w.heap.size w w' := by
  subst hn; exact copyInts_any a cap xs w hs hb
theorem eqNil_ints (w : World) (a : Option Addr) (n c n' c' : Nat) : (binOp .eql 27 (.slice a n c) (.slice none n' c')).run Tryz.prog w = .ok (.bool a.isNone) w :=
  Lib.run_eql_slice_nil w _ _ a n c n' c' Tryz.underlying27
def tlK (W : Nat → Nat → Int) (L : List Nat) : Nat → Int
  | 0 => 0
  | k + 1 => tlK W L k + W (L.getD k 0) (L.getD ((k + 1) % L.length) 0)
theorem lastL_take (r : List Nat) : ∀ (k x : Nat), k ≤ r.length → lastL x (r.take k) = (x :: r).getD k 0 := by
  induction r with
  | nil => intro k x h; have : k = 0 := by simpa using h
           subst this; rfl
  | cons y r ih =>
    intro k x h
    cases k with
    | zero => rfl
    | succ k => exact ih k y (by simpa using h)
theorem tlK_open (W : Nat → Nat → Int) (x : Nat) (r : List Nat) : ∀ k, k ≤ r.length → tlK W (x :: r) k = openL W x (r.take k)
  | 0, _ => rfl
  | k + 1, h => by
    have ih := tlK_open W x r k (by omega)
    have e : r.take (k + 1) = r.take k ++ [r.getD k 0] := by
      rw [List.take_add_one, List.getElem?_eq_getElem (by omega), List.getD_eq_getElem?_getD, List.getElem?_eq_getElem (by omega)]; rfl
    simp only [tlK]
    rw [ih, e, openL_snoc, lastL_take r k x (by omega), List.length_cons, Nat.mod_eq_of_lt (by omega), List.getD_cons_succ]
theorem tlK_all (W : Nat → Nat → Int) (r : List Nat) : tlK W (0 :: r) (r.length + 1) = closeL W 0 r := by
  have h := tlK_open W 0 r r.length (Nat.le_refl _)
  have hl := lastL_take r r.length 0 (Nat.le_refl _)
  rw [List.take_length] at h hl
  simp only [tlK]
  rw [h, closeL_eq, hl, List.length_cons, Nat.mod_self, List.getD_cons_zero]
theorem tlK_rng {W : Nat → Nat → Int} {n : Nat} (hW : ∀ i k, i < n → k < n → 0 ≤ W i k ∧ W i k ≤ 1000) {L : List Nat} (h0 : 0 < L.length) (hL : ∀ c ∈ L, c < n) : ∀ k, k ≤ L.length → 0 ≤ tlK W L k ∧ tlK W L k ≤ 1000 * (k : Int)
  | 0, _ => by simp [tlK]
  | k + 1, h => by
    have ih := tlK_rng hW h0 hL k (by omega)
    have g : ∀ i, i < L.length → L.getD i 0 < n := fun i hi => hL _ (by rw [List.getD_eq_getElem?_getD, List.getElem?_eq_getElem hi]; exact List.getElem_mem _)
    have := hW _ _ (g k (by omega)) (g ((k + 1) % L.length) (Nat.mod_lt _ h0))
    simp only [tlK]
    push_cast
    omega
set_option maxHeartbeats 2000000 in
set_option maxRecDepth 4000 in
theorem tourLong_any (v u : Value) (xs : List Int) (n : Nat) (L : List Nat) (w : World) (h : RdI w v xs) (hu : RdI w u (idxs L)) (hn1 : 1 ≤ n) (hn : n ≤ 10) (hxl : xs.length = n * n) (hc : citN xs.length = (n : Int)) (hW : ∀ i k, i < n → k < n → 0 ≤ cityW xs n i k ∧ cityW xs n i k ≤ 1000) (hl0 : 1 ≤ L.length) (hl : L.length ≤ 10) (hL : ∀ c ∈ L, c < n) :
    Calls Tryz.prog 128 #[v, u] w fun e w' => e = .returned (.int .i64 (tlK (cityW xs n) L L.length)) ∧ w = w' := by
  have HCT := Lib.hid (cities_any v xs w h)
  rw [hc] at HCT
  obtain ⟨a, c, rfl⟩ := h.shape
  obtain ⟨ua, uc, rfl⟩ := hu.shape
  have HR := Lib.hid h
  have HU := Lib.hid hu
  have HRG := Lib.hid (fun k hk => tlK_rng (W := cityW xs n) hW (L := L) (by omega) hL k hk)
  have HS := Lib.hid (fun k => show tlK (cityW xs n) L (k + 1) = tlK (cityW xs n) L k + xs.getD (L.getD k 0 * n + L.getD ((k + 1) % L.length) 0) 0 from rfl)
  have HS0 := Lib.hid (show tlK (cityW xs n) L 0 = 0 from rfl)
  have HLN := Lib.hid (fun k (hk : k < L.length) => hL (L.getD k 0) (by rw [List.getD_eq_getElem?_getD, List.getElem?_eq_getElem hk]; exact List.getElem_mem _))
  have HAT := Lib.hid (fun k (hk : k < L.length) => idxs_get (L := L) hk)
  obtain ⟨T, hT⟩ : ∃ T, T = tlK (cityW xs n) L := ⟨_, rfl⟩
  rw [← hT] at HRG HS HS0 ⊢
  have HIL := Lib.hid (idxs_len L)
  obtain ⟨m, hm⟩ : ∃ m, m = L.length := ⟨_, rfl⟩
  rw [← hm] at HRG HS HLN HAT HIL hl0 hl ⊢
  rw [HIL.out] at HU ⊢
  have HXL := Lib.hid hxl
  clear h hu hT hm hxl hc hW hL
  go_enter Tryz.func128, Tryz.ntmps128
  go_wp2_with (go_at_call 60; refine HCT.out.mono ?_; rintro e w0 ⟨rfl, rfl⟩)
  go_loopw [6, 13] (fun sv kv wr => ∃ k : Nat, kv = .int .i64 k ∧ k ≤ m ∧ sv = .int .i64 (T k) ∧ w = wr) (fun _ kv _ => m + 1 - (intOf kv).toNat)
  case atStart => exact ⟨0, rfl, Nat.zero_le _, by rw [HS0.out], rfl⟩
  case round =>
    obtain ⟨k, rfl, hk, rfl, rfl⟩ := hrel
    by_cases hlt : k < m
    · have hltI : (k : Int) < (m : Int) := by omega
      obtain ⟨ub, uo, rfl, _, c1⟩ := HU.out.at (i := k) (by rw [HIL.out]; exact hlt)
      obtain ⟨j, hj⟩ : ∃ j, j = (k + 1) % m := ⟨_, rfl⟩
      have hjm : j < m := by rw [hj]; exact Nat.mod_lt _ (by omega)
      obtain ⟨ub', uo', e, _, c2⟩ := HU.out.at (i := j) (by rw [HIL.out]; exact hjm)
      simp only [Option.some.injEq, Addr.mk.injEq, and_true] at e
      obtain ⟨rfl, rfl⟩ := e
      have hS := HS.out k
      rw [← hj] at hS
      rw [HAT.out k hlt] at c1
      rw [HAT.out j hjm] at c2
      have hp1 := HLN.out k hlt
      have hp2 := HLN.out j hjm
      have g1 := HRG.out k (by omega)
      have g2 := HRG.out (k + 1) (by omega)
      rw [hS] at g2
      obtain ⟨p, hp⟩ : ∃ p, p = L.getD k 0 := ⟨_, rfl⟩
      obtain ⟨q, hq⟩ : ∃ q, q = L.getD j 0 := ⟨_, rfl⟩
      rw [← hp] at c1 hS hp1 g2
      rw [← hq] at c2 hS hp2 g2
      have hpq := idx_lt hp1 hp2
      have hnn : n * n ≤ 100 := Nat.mul_le_mul hn hn
      obtain ⟨x, hx⟩ : ∃ x, x = p * n + q := ⟨_, rfl⟩
      rw [← hx] at hS g2 hpq
      obtain ⟨y, hy⟩ : ∃ y, y = p * n := ⟨_, rfl⟩
      have q1 : (p : Int) * (n : Int) = (y : Int) := by rw [hy]; exact (Int.natCast_mul p n).symm
      have hyx : x = y + q := by rw [hx, hy]
      have hxI : (x : Int) < (xs.length : Int) := by have := HXL.out; omega
      obtain ⟨xb, xo, rfl, _, c3⟩ := HR.out.at (i := x) (by rw [HXL.out]; exact hpq)
      obtain ⟨d, hd⟩ : ∃ d, d = xs.getD x 0 := ⟨_, rfl⟩
      rw [← hd] at c3 hS g2
      obtain ⟨s, hs⟩ : ∃ s, s = T k := ⟨_, rfl⟩
      rw [← hs] at hS g1 g2 ⊢
      have HSS := Lib.hid hS
      have q2 : IntKind.i64.wrap (y : Int) = (y : Int) := IntWalk.i64_in _ (by omega)
      have q3 : IntKind.i64.wrap ((y : Int) + (q : Int)) = (x : Int) := by rw [IntWalk.i64_in _ (by omega)]; omega
      have q4 : ((k : Int) + 1) % (m : Int) = (j : Int) := by rw [hj]; push_cast; rfl
      have q5 : ((k : Int) + 1).tmod (m : Int) = (j : Int) := by rw [Int.tmod_eq_emod_of_nonneg (by omega)]; exact q4
      have hadd : IntKind.i64.wrap (s + d) = s + d := IntWalk.i64_in _ (by push_cast at g2; omega)
      have hm0 : ((m : Int) == 0) = false := by simp; omega
      have hjI : (j : Int) < (m : Int) := by omega
      clear hj hp hq hx hy hd hs hS hyx hpq hnn g1 g2
      go_wp2_with fail
      go_roundw
      case rel => exact ⟨k + 1, by go_num, by omega, by rw [HSS.out], by first | rfl | trivial⟩
      case measure => simp [intOf]; omega
    · obtain rfl : k = m := by omega
      go_wp2_with fail
      go_ret
      exact ⟨rfl, rfl⟩
end Go.Proofs.YtgkbbpajkbkgnaaGreatDoor
