/-
  FnMachines: texts joined: Step, Make, ListI, LplI, LfI, LsM.
-/
import Derived.Deep.RegionHeld3
import Derived.Deep.CutRange
import Derived.Deep.RegionLaw
import Derived.Lib.MinMax
import Derived.Test.YtfdaifmfecfchaaMFnMachinesAA
import Derived.Test.YtfdaifmfecfchaaMFnMachinesAD
namespace Go.Proofs.Ytfdaifmfecfchaa
open Go.RowKit

theorem wp_app_ints {w : World} {o : Oper} {a : Act} {K : Act → World → Prop} {Q : Exit → Act → World → Prop} (s x : Operand)
    (ho : o.op = .call { callee := .builtin .append, args := #[s, x], argTypes := #[27, 27] })
    (base : Nat) (v : Value) (n : Nat) (xs : List Int) (hs : a.eval s = v) (hown : w.ownsRow base 2 1 v n (xs.map I64))
    (sv : Value) (news : List Int) (hx : a.eval x = sv) (hsv : Slc w sv (news.map I64)) (m : Nat) (ys : List Int) (hm : m = n + news.length) (hys : ys = xs ++ news) (hlen : m ≤ 17592186044416) (hbase : base ≤ w.heap.size)
    (h : ∀ a' cap' w', w'.ownsRow base 2 1 (.slice a' m cap') m (ys.map I64) → Below base w w' → w.grownBy w' v.ownBlock → (Value.slice a' m cap' = .slice none 0 0 ↔ v = .slice none 0 0 ∧ news = []) → K (a.put o.dst (.slice a' m cap')) w') :
    o.wp Try.prog a w K Q := by
  obtain ⟨i0, hi, hz0, hz1, hz2⟩ := info_parts Try.infoI64
  subst hm hys
  have hk : ∀ v' w', w'.ownsRow base 2 1 v' (n + news.length) (xs.map I64 ++ news.map I64) → w.grownBy w' v.ownBlock → (v' = .slice none 0 0 ↔ v = .slice none 0 0 ∧ news = []) → K (a.put o.dst v') w' := by
    intro v' w' h1 h2 h3
    have h1' : w'.ownsRow base 2 1 v' (n + news.length) ((xs ++ news).map I64) := by simpa using h1
    obtain ⟨a', cap', rfl⟩ := owns_shape h1'
    exact h a' cap' w' h1' (below_grown hown hbase h2) h2 h3
  rcases hsv with ⟨rfl, hnil⟩ | ⟨ad, cap, rfl, hcl, hcm, hc⟩
  · have hn : news = [] := by simpa using hnil
    subst hn
    have hrun := run_append_owned_none (P := Try.prog) (w := w) base 27 o.type 2 i0 1 Try.underlying27 hi v n (xs.map I64) hown
    unfold Oper.wp
    simp [execOp, ho, resolve, invoke, builtin, hs, hx, hrun, Result.andThen]
    exact hk v w (by simpa using hown) (World.grownBy.refl _ _) (by simp)
  · refine wp_append_own w s x 27 ho base 2 i0 (.int .i64 0) 1 8 Try.underlying27 hi hz0 hz1 hz2 rfl (by decide) v n (xs.map I64) hs hown ad (news.map I64).length cap (news.map I64) hx (by simp) hc (i64_one news) (by simp [maxLen]; omega) (by simp; omega) hbase ?_
    intro v' w' h2 h3 h4
    exact hk v' w' (by simpa using h2) h3 (by rw [h4]; simp)

theorem step_app_own {w : World} {ops : Array Oper} {o : Oper} {a : Act} {K : Act → World → Prop} {Q : Exit → Act → World → Prop} {E : Prop} (hgd : o.guard = none) (s x : Operand)
    (ho : o.op = .call { callee := .builtin .append, args := #[s, x], argTypes := #[27, 27] })
    (base : Nat) (ad : Addr) (n cap : Nat) (xs : List Int) (hs : a.eval s = .slice (some ad) n cap) (hown : w.ownsRow base 2 1 (.slice (some ad) n cap) n (xs.map I64))
    (sv : Value) (news : List Int) (hx : a.eval x = sv) (hsv : Slc w sv (news.map I64)) (m : Nat) (ys : List Int) (hm : m = n + news.length) (hys : ys = xs ++ news) (hlen : m ≤ 17592186044416) (hbase : base ≤ w.heap.size)
    (h : ∀ g cap' w', w'.ownsRow base 2 1 (.slice (some ⟨g, 0, none⟩) m cap') m (ys.map I64) → Below base w w' → w.grownBy w' (Value.slice (some ad) n cap).ownBlock → K (a.put o.dst (.slice (some ⟨g, 0, none⟩) m cap')) w') :
    if Region.wanted o (yielded ops a.tmps) = true then Oper.wp Try.prog o a w K Q else E := by
  have hw : Region.wanted o (yielded ops a.tmps) = true := by simp [Region.wanted, hgd]
  rw [if_pos hw]
  refine wp_app_ints s x ho base _ n xs hs hown sv news hx hsv m ys hm hys hlen hbase ?_
  intro a' cap' w' h1 h2 h3 h4
  obtain ⟨g, c, e, _⟩ := owns_some h1 (by intro e; have := h4.1 e; simp at this)
  simp only [Value.slice.injEq, true_and] at e
  obtain ⟨rfl, rfl⟩ := e
  exact h g _ w' h1 h2 h3

/-- A slice in one block reads on where this block is kept. -/
theorem slc_keptB {S : Nat → Prop} {w w' : World} {ad : Addr} {n cap : Nat} {vs : List Value} (h : Slc w (.slice (some ad) n cap) vs) (hk : Kept S w w') (hs : ¬ S ad.block) : Slc w' (.slice (some ad) n cap) vs := by
  rcases h with ⟨e1, _⟩ | ⟨ad2, cap2, e1, h1, h2, hc⟩
  · simp at e1
  · simp only [Value.slice.injEq, Option.some.injEq] at e1
    obtain ⟨rfl, rfl, rfl⟩ := e1
    refine .inr ⟨ad, cap, rfl, h1, h2, fun i u hi => ?_⟩
    have h0 := hc i u hi
    rw [hk.cell (cell_lt h0) (by rw [addr_add_block]; exact hs)]
    exact h0

/-- A new row of one stays as it is behind an append to another. -/
theorem slc_grown {w w' : World} {ad : Addr} {n cap : Nat} {vs : List Value} {row : Option Nat} (h : Slc w (.slice (some ad) n cap) vs) (hg : w.grownBy w' row) (hne : row ≠ some ad.block) : Slc w' (.slice (some ad) n cap) vs :=
  slc_keptB (S := fun k => row = some k) h ⟨hg.os, hg.tape, hg.output, hg.size, fun k hk hn => hg.block k hk fun e => hn e.symm⟩ hne

theorem slc_drew {w : World} {v : Value} {vs : List Value} (h : Slc w v vs) : Slc w.drew v vs := h
theorem slc_alloc {w : World} {v : Value} {vs : List Value} (h : Slc w v vs) (o : Obj) : Slc (w.alloc o) v vs := h.below ((Below.refl _ _).alloc (Nat.le_refl _) _) (Nat.le_refl _)

theorem slc_oneB (w : World) (z : Int) (b : Nat) (hb : b = w.heap.size) : Slc (w.alloc (.cells #[.int .i64 z] 2)) (.slice (some ⟨b, 0, none⟩) 1 1) ([z].map I64) := by subst hb; exact slc_one w z

theorem owns_emptyB (w : World) (b : Nat) (hb : b = w.heap.size) : (w.alloc (.cells #[] 2)).ownsRow w.heap.size 2 1 (.slice (some ⟨b, 0, none⟩) 0 0) 0 (([] : List Int).map I64) := by subst hb; exact owns_empty w
theorem owns_drew {w : World} {base : Nat} {e : TypeId} {v : Value} {n : Nat} {vs : List Value} (h : w.ownsRow base e 1 v n vs) : w.drew.ownsRow base e 1 v n vs := h

end Go.Proofs.Ytfdaifmfecfchaa

namespace Go.Proofs.Ytfdaifmfecfchaa
open Go.RowKit

def zerosA (n : Nat) : Array Value := madeCells (Value.int .i64 0).cells n
theorem zerosA_list (n : Nat) : (zerosA n).toList = (List.replicate n (0 : Int)).map I64 := by
  unfold zerosA
  rw [show (Value.int .i64 0).cells = #[Value.int .i64 0] from rfl, toList_madeCells_one, List.map_replicate]
  rfl
theorem run_make_ints (n : Nat) (hn : n ≤ 100000) (W : World) : (Instr.makeSlice 27 (.int .i64 n) (.int .i64 n)).run Try.prog W = .ok (.slice (some ⟨W.heap.size, 0, none⟩) n n) (W.alloc (.cells (zerosA n) 2)) := by
  obtain ⟨i0, hi, hz0, hz1, hz2⟩ := info_parts Try.infoI64
  have h := run_makeSlice (P := Try.prog) W 27 2 i0 (.int .i64 0) Try.underlying27 hi hz0 .i64 .i64 n n (by omega) (Int.le_refl _) (by rw [hz1]; omega) (by rw [hz2]; omega) (by omega)
  rw [h, hz1]
  simp [zerosA]
theorem owns_zerosI (n : Nat) (hn : n ≤ 100000) (W : World) (b : Nat) (hb : b = W.heap.size) : (W.alloc (.cells (zerosA n) 2)).ownsRow W.heap.size 2 1 (.slice (some ⟨b, 0, none⟩) n n) n ((List.replicate n (0 : Int)).map I64) := by
  subst hb
  rw [← zerosA_list]
  have hs : (zerosA n).size = n := by rw [← Array.length_toList, zerosA_list]; simp
  exact World.ownsRow_lit (base := W.heap.size) (e := 2) (size := 1) W (zerosA n) n (Nat.le_refl _) (by simp [maxLen]; omega) (by rw [hs]; omega)

end Go.Proofs.Ytfdaifmfecfchaa

namespace Go.Proofs.Ytfdaifmfecfchaa
open Go.RowKit Go.Sort

set_option maxHeartbeats 1000000 in
theorem maxI_any (v : Value) (l : List Int) (w : World) (h : RdI w v l) (hl : 1 ≤ l.length) :
    Calls Try.prog 63 #[v] w fun e w' => e = .returned (.int .i64 (maxL l)) ∧ w' = w := by
  obtain ⟨a, c, rfl⟩ := h.shape
  have hlm := h.len
  unfold maxLen at hlm
  have HR := Lib.hid h
  have HK := Lib.hid (fun k => show maxK l (k + 1) = max (maxK l k) (l.getD (k + 1) 0) from rfl)
  obtain ⟨b, o, rfl, _, c0⟩ := h.at (i := 0) (by omega)
  have HK0 := Lib.hid (show maxK l 0 = l.getD 0 0 from rfl)
  obtain ⟨T, hT⟩ : ∃ T, T = maxK l := ⟨_, rfl⟩
  have HE := Lib.hid (show maxL l = T (l.length - 1) by rw [hT]; rfl)
  rw [← hT] at HK HK0
  rw [← HK0.out, Nat.add_zero] at c0
  obtain ⟨n, hn⟩ : ∃ n, n = l.length := ⟨_, rfl⟩
  have HN := Lib.hid hn.symm
  rw [← hn] at HE HR hl hlm ⊢
  have hlI : decide ((n : Int) < 1) = false := decide_eq_false (by omega)
  have h0I : (0 : Int) < (n : Int) := by omega
  clear h hn hT
  go_enter Try.func63, Try.ntmps63
  go_wp2_with fail
  go_loopw [3, 4] (fun mv iv wr => ∃ k : Nat, iv = .int .i64 ((k + 1 : Nat) : Int) ∧ k + 1 ≤ n ∧ mv = .int .i64 (T k) ∧ w = wr) (fun _ iv _ => n + 1 - (intOf iv).toNat)
  case atStart => exact ⟨0, rfl, hl, rfl, rfl⟩
  case round =>
    obtain ⟨k, rfl, hk, rfl, rfl⟩ := hrel
    obtain ⟨i, hi⟩ : ∃ i, i = k + 1 := ⟨_, rfl⟩
    have HI := Lib.hid hi
    rw [← hi] at hk ⊢
    by_cases hlt : i < n
    · have hltI : (i : Int) < (n : Int) := by omega
      obtain ⟨b2, o2, ee, _, c1⟩ := HR.out.at (i := i) (by rw [HN.out]; exact hlt)
      simp only [Option.some.injEq, Addr.mk.injEq, and_true] at ee
      obtain ⟨rfl, rfl⟩ := ee
      have hS := HK.out k
      rw [← hi] at hS
      obtain ⟨y, hy⟩ : ∃ y, y = l.getD i 0 := ⟨_, rfl⟩
      rw [← hy] at c1 hS
      have HS := Lib.hid hS
      clear hy hS hi
      go_wp2_with fail
      go_roundw
      case rel => exact ⟨i, by go_num, by omega, by rw [HS.out], by first | rfl | trivial⟩
      case measure => simp [intOf]; omega
    · obtain rfl : i = n := by omega
      have HE2 := Lib.hid (show maxL l = T k by rw [HE.out, hi]; rfl)
      clear hi
      go_wp2_with fail
      go_ret
      exact ⟨by rw [HE2.out]; rfl, rfl⟩

set_option maxHeartbeats 4000000 in
set_option maxRecDepth 8000 in
theorem listPlanI_any (v u : Value) (js : List JobD) (os : List Int) (m : Nat) (w : World) (h : RdJ w v js) (ho : RdI w u os) (hm : 1 ≤ m) (hm8 : m ≤ 8) (hok : areJobsB js = true) (hos : os.length ≤ 12) (hor : ∀ k, k < os.length → 0 ≤ os.getD k 0 ∧ (os.getD k 0).toNat < js.length) :
    Calls Try.prog 51 #[v, .int .i64 m, u] w fun e w' => ∃ v', e = .returned (.tuple #[v', .int .i64 (listE js os m)]) ∧ OwnI w.heap.size w'.heap.size w' v' (listO js os m) ∧ Below w.heap.size w w' := by
  obtain ⟨hn1, hn2, hjf⟩ := jobs_all hok
  obtain ⟨va, vc, rfl⟩ := h.shape
  obtain ⟨ua, uc, rfl⟩ := ho.shape
  have HR := Lib.hid h
  have HO := Lib.hid ho
  have HOR := Lib.hid hor
  have HJL := Lib.hid (fun i (hi : i < js.length) => (hjf i hi).1)
  have HRG := Lib.hid (fun k (hk : k ≤ os.length) f => listK_rng (js := js) (fun i hi => by have := hjf i hi; omega) (fun k hk => (hor k hk).2) m k hk f)
  have HLN := Lib.hid (listK_len js os m)
  have HS := Lib.hid (fun k => show listK js os m (k + 1) = ((listK js os m k).1.set (os.getD k 0).toNat (minK (listK js os m k).2 m : Nat), (listK js os m k).2.set (minK (listK js os m k).2 m) ((listK js os m k).2.getD (minK (listK js os m k).2 m) 0 + (js.getD (os.getD k 0).toNat J0).long)) from rfl)
  have HS0 := Lib.hid (show listK js os m 0 = (List.replicate js.length 0, List.replicate m 0) from rfl)
  obtain ⟨T, hT⟩ : ∃ T, T = listK js os m := ⟨_, rfl⟩
  have HE1 := Lib.hid (show listO js os m = (T os.length).1 by rw [hT]; rfl)
  have HE2 := Lib.hid (show listE js os m = maxL (T os.length).2 by rw [hT]; rfl)
  rw [← hT] at HRG HLN HS HS0
  obtain ⟨n, hn⟩ : ∃ n, n = js.length := ⟨_, rfl⟩
  obtain ⟨N, hN⟩ : ∃ N, N = os.length := ⟨_, rfl⟩
  have HN := Lib.hid hn.symm
  have HNO := Lib.hid hN.symm
  rw [← hn] at HR HOR HJL HLN HS0 hn1 hn2 ⊢
  rw [← hN] at HO HOR HRG HE1 HE2 hos ⊢
  have hmk1 := run_make_ints n (by omega)
  have hmk2 := run_make_ints m (by omega)
  have hnI : (0 : Int) ≤ (n : Int) := by omega
  clear h ho hor hjf hok hT hn hN
  go_enter Try.func51, Try.ntmps51
  go_wp2_with fail
  go_cut [8, 9] from 15 to 20 (fun gv hv wx => ∃ g h : Nat, gv = .slice (some ⟨g, 0, none⟩) n n ∧ hv = .slice (some ⟨h, 0, none⟩) m m ∧ g ≠ h ∧ Hid (wx.ownsRow w.heap.size 2 1 (.slice (some ⟨g, 0, none⟩) n n) n ((T 0).1.map I64)) ∧ Hid (wx.ownsRow w.heap.size 2 1 (.slice (some ⟨h, 0, none⟩) m m) m ((T 0).2.map I64)) ∧ Hid (Below w.heap.size w wx))
  case first =>
    go_region_law (fail)
    all_goals
      go_wp2_with fail
      go_meet
    case rel =>
      refine ⟨w.heap.size, w.heap.size + 1, rfl, rfl, by omega, ?_, ?_, Lib.hid (by (repeat' first | exact Below.refl _ _ | assumption | refine Below.alloc ?_ ?_ _ | refine Below.setCell ?_ ?_ _ | refine Below.drew ?_ | (simp; done) | (simp; omega)))⟩
      · rw [HS0.out]
        exact Lib.hid (owns_drew ((owns_base (owns_zerosI n (by omega) w _ rfl) (Nat.le_refl _)).alloc _))
      · rw [HS0.out]
        exact Lib.hid (owns_drew (owns_base (owns_zerosI m (by omega) _ _ (by simp)) (by simp)))
    case rel =>
      refine ⟨w.heap.size + 1, w.heap.size, rfl, rfl, by omega, ?_, ?_, Lib.hid (by (repeat' first | exact Below.refl _ _ | assumption | refine Below.alloc ?_ ?_ _ | refine Below.setCell ?_ ?_ _ | refine Below.drew ?_ | (simp; done) | (simp; omega)))⟩
      · rw [HS0.out]
        exact Lib.hid (owns_drew (owns_base (owns_zerosI n (by omega) _ _ (by simp)) (by simp)))
      · rw [HS0.out]
        exact Lib.hid (owns_drew ((owns_base (owns_zerosI m (by omega) w _ rfl) (Nat.le_refl _)).alloc _))
  case rest =>
    obtain ⟨g, h, rfl, rfl, hgh, HG, HH, HB⟩ := hcut
    have hg1 : w.heap.size ≤ g := (HG.out.lt g rfl).1
    have hh1 : w.heap.size ≤ h := (HH.out.lt h rfl).1
    have hzc := HB.out.size
    clear hmk1 hmk2
    go_wp2_with fail
    go_loopw [22] (fun kv wr => ∃ k : Nat, kv = .int .i64 k ∧ k ≤ N ∧ Hid (wr.ownsRow w.heap.size 2 1 (.slice (some ⟨g, 0, none⟩) n n) n ((T k).1.map I64)) ∧ Hid (wr.ownsRow w.heap.size 2 1 (.slice (some ⟨h, 0, none⟩) m m) m ((T k).2.map I64)) ∧ Hid (Below w.heap.size w wr)) (fun kv _ => N + 1 - (intOf kv).toNat)
    case atStart => exact ⟨0, rfl, Nat.zero_le _, HG, HH, HB⟩
    case round =>
      obtain ⟨k, rfl, hk, HG, HH, HB⟩ := hrel
      obtain ⟨wo, rfl⟩ : ∃ wo, wo = wr := ⟨wr, rfl⟩
      by_cases hlt : k < N
      · have hltI : (k : Int) < (N : Int) := by omega
        obtain ⟨ob, oo, rfl, _, co⟩ := (HO.out.up HB.out (Nat.le_refl _)).at (i := k) (by rw [HNO.out]; exact hlt)
        have hor := HOR.out k hlt
        have hS := HS.out k
        obtain ⟨x, hx⟩ : ∃ x, x = os.getD k 0 := ⟨_, rfl⟩
        rw [← hx] at co hor hS
        obtain ⟨y, rfl⟩ : ∃ y : Nat, x = (y : Int) := ⟨x.toNat, by omega⟩
        rw [show ((y : Int)).toNat = y by omega] at hor hS
        have hyn : (y : Int) < (n : Int) := by omega
        obtain ⟨jb, jo, rfl, _, cj, _⟩ := (HR.out.up HB.out (Nat.le_refl _)).at (i := y) (by rw [HN.out]; exact hor.2)
        have hl := HJL.out y hor.2
        obtain ⟨l, hl'⟩ : ∃ l, l = (js.getD y J0).long := ⟨_, rfl⟩
        rw [← hl'] at cj hl hS
        have hln := HLN.out k
        have hrg := HRG.out k (by omega)
        obtain ⟨⟨out, fr⟩, hT⟩ : ∃ p, p = T k := ⟨_, rfl⟩
        rw [← hT] at HG HH hS hln hrg
        simp only at HG HH hS hln hrg
        obtain ⟨hln1, hln2⟩ := hln
        have hfm : ∀ j, j ≤ m → minK fr j < m := fun j hj => minK_le fr m j (by omega) hj
        have hfc : ∀ j, j < m → wo.cell? ⟨h, j, none⟩ = some (.int .i64 (fr.getD j 0)) := fun j hj => by
          rw [HH.out.cellAt j (by omega), List.getElem?_map, List.getElem?_eq_getElem (by omega), List.getD_eq_getElem?_getD, List.getElem?_eq_getElem (by omega)]
          rfl
        have HFM := Lib.hid hfm
        have HFC := Lib.hid hfc
        have HSS := Lib.hid hS
        have HRR := Lib.hid hrg
        have hbl : 0 ≤ l ∧ l ≤ 1000 := by omega
        have HCJ := Lib.hid (fun X (hb : Below w.heap.size w X) => show X.cell? ⟨jb, jo + y * 4, none⟩ = some (.int .i64 l) by
          obtain ⟨jb', jo', ee, _, cc, _⟩ := (HR.out.up hb (Nat.le_refl _)).at (i := y) (by rw [HN.out]; exact hor.2)
          simp only [Option.some.injEq, Addr.mk.injEq, and_true] at ee
          obtain ⟨rfl, rfl⟩ := ee
          rw [hl']
          exact cc)
        clear hx hl' hT hfm hfc hS hrg hl
        go_wp2_with fail
        go_loopw [12, 28] (fun fv jv wr => ∃ j : Nat, jv = .int .i64 j ∧ j ≤ m ∧ fv = .int .i64 (minK fr j : Nat) ∧ wo = wr) (fun _ jv _ => m + 1 - (intOf jv).toNat)
        case atStart => exact ⟨0, rfl, Nat.zero_le _, rfl, rfl⟩
        case round =>
          obtain ⟨j, rfl, hj, rfl, rfl⟩ := hrel
          have hmj := HFM.out j hj
          by_cases hjm : j < m
          · have hjI : (j : Int) < (m : Int) := by omega
            have c1 := HFC.out j hjm
            have c2 := HFC.out _ hmj
            have hM : minK fr (j + 1) = if fr.getD j 0 < fr.getD (minK fr j) 0 then j else minK fr j := rfl
            obtain ⟨f, hf⟩ : ∃ f, f = minK fr j := ⟨_, rfl⟩
            rw [← hf] at hmj c2 hM ⊢
            obtain ⟨a, ha⟩ : ∃ a, a = fr.getD j 0 := ⟨_, rfl⟩
            obtain ⟨b, hb⟩ : ∃ a, a = fr.getD f 0 := ⟨_, rfl⟩
            rw [← ha] at c1 hM
            rw [← hb] at c2 hM
            have hfI : (f : Int) < (m : Int) := by omega
            clear ha hb hf
            by_cases hab : a < b
            · have HM := Lib.hid (show minK fr (j + 1) = j by rw [hM, if_pos hab])
              clear hM
              go_wp2_with fail
              go_roundw
              case rel => exact ⟨j + 1, by go_num, by omega, by rw [HM.out], by first | rfl | trivial⟩
              case measure => simp [intOf]; omega
            · have HM := Lib.hid (show minK fr (j + 1) = f by rw [hM, if_neg hab])
              clear hM
              go_wp2_with fail
              go_roundw
              case rel => exact ⟨j + 1, by go_num, by omega, by rw [HM.out], by first | rfl | trivial⟩
              case measure => simp [intOf]; omega
          · obtain rfl : j = m := by omega
            have hfb := HRR.out (minK fr j)
            have c2 := HFC.out _ hmj
            obtain ⟨f, hf⟩ : ∃ f, f = minK fr j := ⟨_, rfl⟩
            rw [← hf] at hmj c2 HSS hfb ⊢
            obtain ⟨b, hb⟩ : ∃ a, a = fr.getD f 0 := ⟨_, rfl⟩
            rw [← hb] at c2 HSS hfb
            have hfI : (f : Int) < (j : Int) := by omega
            have HFR := Lib.hid (show fr[f]? = some b by rw [hb, List.getD_eq_getElem?_getD, List.getElem?_eq_getElem (by omega)]; rfl)
            have hadd : IntKind.i64.wrap (b + l) = b + l := IntWalk.i64_in _ (by omega)
            have g1 : wo.cell? ⟨g, y, none⟩ = some (.int .i64 (out.getD y 0)) := by
              rw [HG.out.cellAt y (by omega), List.getElem?_map, List.getElem?_eq_getElem (by omega), List.getD_eq_getElem?_getD, List.getElem?_eq_getElem (by omega)]
              rfl
            have g2 := HG.out.frozenAt y
            clear hb hf
            go_upto_region 13 with fail
            refine wp_at fun w3 hw3 => ?_
            have HG3 := Lib.hid (show w3.ownsRow w.heap.size 2 1 (.slice (some ⟨g, 0, none⟩) n n) n ((out.set y (f : Int)).map I64) by
              subst hw3
              rw [List.map_set]
              exact (HG.out.stored y (.int .i64 f)).1)
            have HH3 := Lib.hid (show w3.ownsRow w.heap.size 2 1 (.slice (some ⟨h, 0, none⟩) j j) j (fr.map I64) by
              subst hw3
              exact owns_kept HH.out (Kept.setCell (S := (· = g)) (Kept.refl _ _) (.inr rfl) _) (fun b e1 e2 => hgh (by have : h = b := Option.some.inj e1; omega)))
            have HB3 := Lib.hid (show Below w.heap.size w w3 by subst hw3; exact HB.out.setCell hg1 _)
            have cj3 := HCJ.out w3 HB3.out
            have c3 : w3.cell? ⟨h, f, none⟩ = some (.int .i64 b) := by
              rw [HH3.out.cellAt f (by omega), List.getElem?_map, HFR.out]
              rfl
            have c4 := HH3.out.frozenAt f
            clear hw3 g1 g2 c2 cj co
            go_wp2_with fail
            go_region_law (fail)
            all_goals
              go_wp2_with fail
              go_roundw
              case rel =>
                refine ⟨k + 1, by go_num, by omega, Lib.hid ?_, Lib.hid ?_, Lib.hid (HB3.out.drew.setCell hh1 _)⟩
                · rw [HSS.out]
                  exact owns_kept (owns_drew HG3.out) (Kept.setCell (S := (· = h)) (Kept.refl _ _) (.inr rfl) _) (fun b e1 e2 => hgh (by have : g = b := Option.some.inj e1; omega))
                · rw [HSS.out]
                  show World.ownsRow _ _ _ _ _ _ ((fr.set f (b + l)).map I64)
                  rw [List.map_set]
                  exact ((owns_drew HH3.out).stored f (.int .i64 (b + l))).1
              case measure => simp [intOf]; omega
      · obtain rfl : k = N := by omega
        have HMX := Lib.hid (maxI_any (.slice (some ⟨h, 0, none⟩) m m) (T k).2 wo (slc_of_owns HH.out) (by rw [(HLN.out k).2]; exact hm))
        go_wp2_with (go_at_call 63; refine HMX.out.mono ?_; rintro e w3 ⟨rfl, rfl⟩)
        go_ret2
        exact ⟨_, by rw [HE2.out]; rfl, by rw [HE1.out]; exact OwnI.mk (n := n) HG.out, HB.out⟩

end Go.Proofs.Ytfdaifmfecfchaa

namespace Go.Proofs.Ytfdaifmfecfchaa
open Go.RowKit Go.Sort

/-! ### no order at all -/
def cf0 (_ _ : Nat) : Int := 0
theorem ltOf_cf0 : ltOf cf0 = fun _ _ => false := by funext x y; rfl
theorem swo_cf0 : SWO (ltOf cf0) := by rw [ltOf_cf0]; exact ⟨fun _ => rfl, fun _ _ _ h _ => (by cases h), fun _ _ _ _ _ => rfl⟩
theorem ins_const (b : Nat) (d : Array Nat) : ∀ k i, k = b - i → insOuter (fun _ _ => false) 0 b i d = d
  | 0, i, h => insOuter_stop _ _ _ _ _ (by omega)
  | k + 1, i, h => by
    rw [insOuter_go _ _ _ _ _ (by omega), insInner_stop _ _ _ _ (.inr rfl)]
    exact ins_const b d k (i + 1) (by omega)
theorem ordC_const (n : Nat) : ordC cf0 n = List.range n := by
  unfold ordC ordCA Sort.insertionSort
  rw [ltOf_cf0, ins_const n _ _ _ rfl, Array.toList_range]
theorem Try.entersLp (args : Array Value) (w : World) : (callFunc 52 args).run Try.prog w = .ok (.enter 52 args) w :=
  enters_of Try.func52 (by kernel_rfl) rfl args w
theorem lpCmp_any (a b : Int) (w : World) : Calls Try.prog 52 #[.int .i64 a, .int .i64 b] w fun e w' => e = .returned (.int .i64 0) ∧ ∃ q, w' = w.drewN q := by
  go_enter Try.func52, Try.ntmps52
  go_wp2_with fail
  go_ret
  exact ⟨rfl, 0, rfl⟩

/-! ### machines -/
def machB (js : List JobD) (m : Int) : Bool := areJobsB js && inB 1 8 m
theorem areMach_any (v : Value) (js : List JobD) (m : Int) (w : World) (h : RdJ w v js) :
    Calls Try.prog 50 #[v, .int .i64 m] w fun e w' => e = .returned (.bool (machB js m)) ∧ Below w.heap.size w w' := by
  have HA := Lib.hid (AreJobs_any v js w h)
  have HB := Lib.hid (show machB js m = (areJobsB js && inB 1 8 m) from rfl)
  obtain ⟨q, hq⟩ : ∃ q, q = areJobsB js := ⟨_, rfl⟩
  rw [← hq] at HA HB
  clear hq h
  cases q
  · go_enter Try.func50, Try.ntmps50
    go_wp2_with (go_at_call 41; refine HA.out.mono ?_; rintro e w1 ⟨rfl, hb1⟩)
    go_ret
    exact ⟨by rw [HB.out]; rfl, hb1⟩
  · go_enter Try.func50, Try.ntmps50
    go_wp2_with (first | (go_at_call 41; refine HA.out.mono ?_; rintro e w1 ⟨rfl, hb1⟩) | (go_at_call 55; refine (within_any _ _ _ _).mono ?_; rintro e w2 ⟨rfl, rfl⟩))
    go_ret
    exact ⟨by rw [HB.out]; rfl, hb1⟩

theorem range_ok (n k : Nat) (hk : k < (idxs (List.range n)).length) : 0 ≤ (idxs (List.range n)).getD k 0 ∧ ((idxs (List.range n)).getD k 0).toNat < n := by
  rw [idxs_len, List.length_range] at hk
  have : (idxs (List.range n)).getD k 0 = (k : Int) := by
    unfold idxs
    rw [List.getD_eq_getElem?_getD, List.getElem?_map, List.getElem?_range hk]
    rfl
  rw [this]
  omega

def lpO (js : List JobD) (m : Int) : List Int := if machB js m = true then listO js (idxs (List.range js.length)) m.toNat else []
def lpE (js : List JobD) (m : Int) : Int := if machB js m = true then listE js (idxs (List.range js.length)) m.toNat else 0

set_option maxHeartbeats 2000000 in
theorem listI_any (v : Value) (js : List JobD) (m : Int) (w : World) (h : RdJ w v js) :
    Calls Try.prog 20 #[v, .int .i64 m] w fun e w' => ∃ u, e = .returned (.tuple #[u, .int .i64 (lpE js m), .bool (machB js m)]) ∧ OwnI w.heap.size w'.heap.size w' u (lpO js m) ∧ Below w.heap.size w w' := by
  obtain ⟨va, vc, rfl⟩ := h.shape
  have HR := Lib.hid h
  have HM := Lib.hid (areMach_any _ js m w h)
  obtain ⟨q, hq⟩ : ∃ q, machB js m = q := ⟨_, rfl⟩
  have HQ := Lib.hid hq
  rw [hq] at HM ⊢
  clear hq h
  cases q
  · go_enter Try.func20, Try.ntmps20
    go_wp2_with (go_at_call 50; refine HM.out.mono ?_; rintro e w1 ⟨rfl, hb1⟩)
    go_ret3
    exact ⟨_, by rw [show lpE js m = 0 by unfold lpE; rw [HQ.out]; rfl]; rfl, by rw [show lpO js m = [] by unfold lpO; rw [HQ.out]; rfl]; exact ⟨World.ownsRow_nil _ _ _ _, by intro g hg; cases hg⟩, hb1⟩
  · have hp := HQ.out
    unfold machB at hp
    rw [Bool.and_eq_true, inB_iff] at hp
    obtain ⟨hjo, hm1, hm8⟩ := hp
    obtain ⟨M, rfl⟩ := Int.eq_ofNat_of_zero_le (show 0 ≤ m by omega)
    have HJO := Lib.hid hjo
    obtain ⟨hn, hn2, _⟩ := jobs_all HJO.out
    have HO := Lib.hid (fun X => orderByC_any 52 #[] Try.entersLp cf0 swo_cf0 js.length hn hn2 X (fun w0 g _ _ => fun m os dk hs x y => lpCmp_any _ _ _))
    rw [ordC_const] at HO
    have HL := Lib.hid (fun u X (hb : Below w.heap.size w X) (ho : RdI X u (idxs (List.range js.length))) => listPlanI_any (.slice va js.length vc) u js (idxs (List.range js.length)) M X (HR.out.up hb (Nat.le_refl _)) ho (by omega) (by omega) HJO.out (by rw [idxs_len, List.length_range]; omega) (fun k hk => range_ok _ k hk))
    have HE := Lib.hid (show lpE js (M : Int) = listE js (idxs (List.range js.length)) M by unfold lpE; rw [HQ.out]; rfl)
    have HS := Lib.hid (show lpO js (M : Int) = listO js (idxs (List.range js.length)) M by unfold lpO; rw [HQ.out]; rfl)
    clear hjo
    go_enter Try.func20, Try.ntmps20
    go_wp2_with (first
      | (go_at_call 50; refine HM.out.mono ?_; rintro e w1 ⟨rfl, hb1⟩)
      | (go_at_call 42; refine (HO.out w1).mono ?_; rintro e w2 ⟨u, rfl, ho, hb2⟩; have HB2 := Lib.hid (hb1.trans (hb2.mono hb1.size)))
      | (go_at_call 51; refine (HL.out u w2 HB2.out ho.rd).mono ?_; rintro e w3 ⟨v3, rfl, ho3, hb3⟩))
    go_ret3
    exact ⟨_, by rw [HE.out]; rfl, by rw [HS.out]; exact ho3.wide HB2.out.size (Nat.le_refl _), HB2.out.trans (hb3.mono HB2.out.size)⟩

end Go.Proofs.Ytfdaifmfecfchaa

namespace Go.Proofs.Ytfdaifmfecfchaa
open Go.RowKit Go.Sort

def longC (js : List JobD) (x y : Nat) : Int := cmpI (longJ js y) (longJ js x)
theorem swo_long (js : List JobD) : SWO (ltOf (longC js)) := by
  have e : ltOf (longC js) = fun x y => decide (longJ js y < longJ js x) := ltOf_cmp (fun _ y => longJ js y) (fun x _ => longJ js x)
  rw [e]
  refine ⟨fun x => by simp, fun x y z h1 h2 => ?_, fun x y z h1 h2 => ?_⟩
  · simp only [decide_eq_true_eq] at *; omega
  · simp only [decide_eq_false_iff_not] at *; omega
theorem Try.entersLf (args : Array Value) (w : World) : (callFunc 53 args).run Try.prog w = .ok (.enter 53 args) w :=
  enters_of Try.func53 (by kernel_rfl) rfl args w
theorem lfCmp_any (i j : Nat) (bx b off n c : Nat) (lx ly : Int) (w : World) (hi : i < n) (hj : j < n) (hn : n ≤ 1000) (hbox : w.cell? ⟨bx, 0, none⟩ = some (.slice (some ⟨b, off, none⟩) n c))
    (d1 : w.cell? ⟨b, off + i * 4, none⟩ = some (.int .i64 lx)) (d2 : w.cell? ⟨b, off + j * 4, none⟩ = some (.int .i64 ly)) :
    Calls Try.prog 53 #[.int .i64 i, .int .i64 j, .pointer (some ⟨bx, 0, none⟩)] w fun e w' => e = .returned (.int .i64 (cmpI ly lx)) ∧ ∃ q, w' = w.drewN q := by
  have hi' : (i : Int) < n := by omega
  have hj' : (j : Int) < n := by omega
  go_enter Try.func53, Try.ntmps53
  go_wp2_with fail
  go_quiet ((go_at_call 44; exact quiet_same (cmp64_any _ _ _)))
  go_wp2_with fail
  go_ret
  exact ⟨rfl, _, rfl⟩
theorem lfReads {js : List JobD} (hok : areJobsB js = true) (v : Value) (bx g : Nat) (w : World) (h : RdJ w v js) (hb : w.cell? ⟨bx, 0, none⟩ = some v) (hbx : bx < w.heap.size) (hbg : bx ≠ g) (hg : ∀ a, v.ownBlock = some a → a ≠ g) :
    CmpReads Try.prog 53 #[.pointer (some ⟨bx, 0, none⟩)] (encN js.length) (longC js) g 0 js.length w := by
  intro m os dk hs x y
  obtain ⟨hn, hn2, _⟩ := jobs_all hok
  obtain ⟨a, c, rfl⟩ := h.shape
  have hx := Nat.mod_lt x (show 0 < js.length by omega)
  have hy := Nat.mod_lt y (show 0 < js.length by omega)
  obtain ⟨b, off, rfl, hbl, d1, _⟩ := h.at hx
  obtain ⟨b', off', e, _, d2, _⟩ := h.at hy
  simp only [Option.some.injEq, Addr.mk.injEq] at e
  obtain ⟨rfl, rfl, _⟩ := e
  have hgb : b ≠ g := hg b rfl
  have up : ∀ p : Addr, p.block < w.heap.size → p.block ≠ g → (sortWorld (encN js.length) w g 0 m dk os).cell? p = w.cell? p := by
    intro p h1 h2
    unfold sortWorld
    rw [cell?_grow _ _ _ (by simpa [putRow, mapBlock, Sort.ahead] using h1), cell?_putRow_other _ _ _ _ _ _ (.inl h2)]
    rfl
  exact lfCmp_any _ _ bx b off js.length c (longJ js x) (longJ js y) _ hx hy (by omega) ((up _ hbx hbg).trans hb) ((up _ hbl hgb).trans d1) ((up _ hbl hgb).trans d2)

theorem idxs_ok {cf : Nat → Nat → Int} (hs : SWO (ltOf cf)) (n k : Nat) (hk : k < (idxs (ordC cf n)).length) : 0 ≤ (idxs (ordC cf n)).getD k 0 ∧ ((idxs (ordC cf n)).getD k 0).toNat < n := by
  rw [idxs_len] at hk
  have e : (idxs (ordC cf n)).getD k 0 = ((ordC cf n)[k] : Int) := by
    unfold idxs
    rw [List.getD_eq_getElem?_getD, List.getElem?_map, List.getElem?_eq_getElem hk]
    rfl
  have := ordC_lt hs n _ (List.getElem_mem hk)
  rw [e]
  omega
def lfO (js : List JobD) (m : Int) : List Int := if machB js m = true then listO js (idxs (ordC (longC js) js.length)) m.toNat else []
def lfE (js : List JobD) (m : Int) : Int := if machB js m = true then listE js (idxs (ordC (longC js) js.length)) m.toNat else 0

set_option maxHeartbeats 4000000 in
set_option maxRecDepth 4000 in
theorem longI_any (v : Value) (js : List JobD) (m : Int) (w : World) (h : RdJ w v js) :
    Calls Try.prog 21 #[v, .int .i64 m] w fun e w' => ∃ u, e = .returned (.tuple #[u, .int .i64 (lfE js m), .bool (machB js m)]) ∧ OwnI w.heap.size w'.heap.size w' u (lfO js m) ∧ Below w.heap.size w w' := by
  obtain ⟨va, vc, rfl⟩ := h.shape
  have HR := Lib.hid h
  have HM := Lib.hid (fun X (hb : Below w.heap.size w X) => areMach_any _ js m X (h.up hb (Nat.le_refl _)))
  obtain ⟨q, hq⟩ : ∃ q, machB js m = q := ⟨_, rfl⟩
  have HQ := Lib.hid hq
  rw [hq] at HM ⊢
  clear hq h
  go_enter Try.func21, Try.ntmps21
  go_upto_region 1 with fail
  refine wp_at fun W0 hW0 => ?_
  have HB0 := Lib.hid (show Below w.heap.size w W0 by subst hW0; (repeat' first | exact Below.refl _ _ | assumption | refine Below.alloc ?_ ?_ _ | refine Below.setCell ?_ ?_ _ | refine Below.drew ?_ | (simp; done) | (simp; omega)))
  have HK0 := Lib.hid (show Box W0 w.heap.size 25 (.slice va js.length vc) by subst hW0; exact Box.new _ _ _)
  have hz0 := HB0.out.size
  have hk0 := HK0.out.lt
  clear hW0
  have d0 := HK0.out.cell
  cases q
  · go_wp2_with (go_at_call 50; refine (HM.out W0 HB0.out).mono ?_; rintro e w1 ⟨rfl, hb1⟩)
    go_ret3
    exact ⟨_, by rw [show lfE js m = 0 by unfold lfE; rw [HQ.out]; rfl]; rfl, by rw [show lfO js m = [] by unfold lfO; rw [HQ.out]; rfl]; exact ⟨World.ownsRow_nil _ _ _ _, by intro g hg; cases hg⟩, HB0.out.trans (hb1.mono hz0)⟩
  · have hp := HQ.out
    unfold machB at hp
    rw [Bool.and_eq_true, inB_iff] at hp
    obtain ⟨hjo, hm1, hm8⟩ := hp
    obtain ⟨M, rfl⟩ := Int.eq_ofNat_of_zero_le (show 0 ≤ m by omega)
    have HJO := Lib.hid hjo
    obtain ⟨hn, hn2, _⟩ := jobs_all HJO.out
    have hown : ∀ a, (Value.slice va js.length vc).ownBlock = some a → a < w.heap.size := fun a ha => by
      obtain ⟨b, off, rfl, hb, _⟩ := HR.out.at (i := 0) (by omega)
      have : b = a := Option.some.inj ha
      omega
    have HOB := Lib.hid hown
    have HOD := Lib.hid (fun X (hb : Below w.heap.size w X) (hk : Box X w.heap.size 25 (.slice va js.length vc)) (hz : w.heap.size < X.heap.size) => orderByC_any 53 #[.pointer (some ⟨w.heap.size, 0, none⟩)] Try.entersLf (longC js) (swo_long js) js.length hn hn2 X (fun w0 g hb0 hg => lfReads HJO.out _ w.heap.size g w0 ((HR.out.up hb (Nat.le_refl _)).up hb0 (Nat.le_refl _)) (hk.below hb0 hz).cell (Nat.lt_of_lt_of_le hz hb0.size) (by omega) (fun a ha => by have := HOB.out a ha; omega)))
    have HL := Lib.hid (fun u X (hb : Below w.heap.size w X) (ho : RdI X u (idxs (ordC (longC js) js.length))) => listPlanI_any (.slice va js.length vc) u js (idxs (ordC (longC js) js.length)) M X (HR.out.up hb (Nat.le_refl _)) ho (by omega) (by omega) HJO.out (by rw [idxs_len, ordC_len (swo_long js)]; omega) (fun k hk => idxs_ok (swo_long js) _ k hk))
    have HE := Lib.hid (show lfE js (M : Int) = listE js (idxs (ordC (longC js) js.length)) M by unfold lfE; rw [HQ.out]; rfl)
    have HS := Lib.hid (show lfO js (M : Int) = listO js (idxs (ordC (longC js) js.length)) M by unfold lfO; rw [HQ.out]; rfl)
    clear hjo hown
    go_upto_region 3 with (go_at_call 50; refine (HM.out W0 HB0.out).mono ?_; rintro e w1 ⟨rfl, hb1⟩; have HB1 := Lib.hid (HB0.out.trans (hb1.mono hz0)); have HK1 := Lib.hid (HK0.out.below hb1 hk0))
    have hz1 := HB1.out.size
    have hk1 := HK1.out.lt
    have HKEEP := Lib.hid (show ∀ X, Below w1.heap.size w1 X → X.cell? ⟨w.heap.size, 0, none⟩ = some (.slice va js.length vc) ∧ Below w1.heap.size w1 X from fun X hb => ⟨(HK1.out.below hb hk1).cell, hb⟩)
    have HUP := Lib.hid (fun X (hb : Below w1.heap.size w1 X) => HB1.out.trans (hb.mono hz1))
    have HKU := Lib.hid (fun X (hb : Below w1.heap.size w1 X) => HK1.out.below hb hk1)
    clear d0
    go_region_held3 (fun X => X.cell? ⟨w.heap.size, 0, none⟩ = some (.slice va js.length vc) ∧ Below w1.heap.size w1 X)
      (first | exact HKEEP.out _ hbn3 | exact HKEEP.out _ hbn2 | exact HKEEP.out _ (Below.refl _ _).drew)
      (first
        | (go_at_call 42; have hk := (‹_ ∧ Below w1.heap.size w1 _›).2; refine (HOD.out _ (HUP.out _ hk) (HKU.out _ hk) (Nat.lt_of_lt_of_le hk1 hk.size)).mono ?_; rintro e w2 ⟨u, rfl, ho, hb2⟩; have hbn2 := hk.trans (hb2.mono hk.size))
        | (go_at_call 51; refine (HL.out u w2 (HUP.out _ hbn2) ho.rd).mono ?_; rintro e w3 ⟨v3, rfl, ho3, hb3⟩; have hbn3 := hbn2.trans (hb3.mono hbn2.size))
        | fail)
    all_goals
      go_wp2_with fail
      go_ret3
      exact ⟨_, by rw [HE.out]; rfl, by rw [HS.out]; exact ho3.wide (HUP.out _ hbn2).size (Nat.le_refl _), HUP.out _ hbn3⟩

end Go.Proofs.Ytfdaifmfecfchaa

namespace Go.Proofs.Ytfdaifmfecfchaa
open Go.RowKit Go.Sort

/-- The least end if the job goes to one of the first machines (only to the first one of those without a job), -1 if none was tried; and whether one without a job was met. -/
def spanK (rec : List Int → Int) (l : Int) (used : List Int) : Nat → Int × Bool
  | 0 => (-1, false)
  | k + 1 => if (spanK rec l used k).2 = true then spanK rec l used k else
      (if (spanK rec l used k).1 < 0 ∨ rec (used.set k (used.getD k 0 + l)) < (spanK rec l used k).1 then rec (used.set k (used.getD k 0 + l)) else (spanK rec l used k).1, used.getD k 0 == 0)
/-- The least end of the last f jobs, beside what machines have. -/
def spanR (js : List JobD) : Nat → List Int → Int
  | 0, used => maxL used
  | f + 1, used => (spanK (spanR js f) (js.getD (js.length - (f + 1)) J0).long used used.length).1
theorem spanK_stop {rec : List Int → Int} {l : Int} {used : List Int} {k : Nat} (h : (spanK rec l used k).2 = true) : ∀ m, k ≤ m → spanK rec l used m = spanK rec l used k
  | 0, hm => by have : k = 0 := by omega
                rw [this]
  | m + 1, hm => by
    by_cases e : k = m + 1
    · rw [e]
    · have ih := spanK_stop h m (by omega)
      show (if (spanK rec l used m).2 = true then _ else _) = _
      rw [if_pos (by rw [ih]; exact h), ih]
def lsB (js : List JobD) (m : Int) : Bool := machB js m && decide (js.length ≤ 9)
def lsN (js : List JobD) (m : Int) : Int := if lsB js m = true then spanR js js.length (List.replicate m.toNat 0) else 0

end Go.Proofs.Ytfdaifmfecfchaa
