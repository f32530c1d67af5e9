/-
  FnExactOnTimeOrder: texts joined: SortS, CutL, OntS.
-/
import Derived.Deep.RegionLaw
import Derived.Lib.SlicesDelete
import Derived.Test.YtkkcgclliomocaaMEOnTimeOrderAH
import Derived.Test.YtkkcgclliomocaaMEOnTimeOrderAI
import Derived.Test.YtkkcgclliomocaaMEOnTimeOrderAK
namespace Go.Proofs.Ytkkcgclliomocaa
open Go.RowKit Go.Sort

/-- The first m of a row of indices, as integers. -/
def rowD (d : Array Nat) (m : Nat) : List Int := idxs (d.toList.take m)
theorem rowD_len (d : Array Nat) (m : Nat) (h : m ≤ d.size) : (rowD d m).length = m := by
  unfold rowD idxs
  rw [List.length_map, List.length_take, Array.length_toList]
  omega
theorem rowD_at (d : Array Nat) (m k : Nat) (h : m ≤ d.size) (hk : k < m) : (rowD d m)[k]? = some ((d[k]! : Nat) : Int) := by
  have hk2 : k < d.size := by omega
  unfold rowD idxs
  rw [List.getElem?_map, List.getElem?_take, if_pos hk, Array.getElem?_toList, Array.getElem?_eq_getElem hk2, getElem!_pos d k hk2]
  rfl
theorem rowD_succ (d : Array Nat) (m : Nat) (h : m < d.size) : rowD d (m + 1) = rowD d m ++ [((d[m]! : Nat) : Int)] := by
  apply List.ext_getElem?
  intro k
  have hl := rowD_len d m (by omega)
  have hl2 := rowD_len d (m + 1) (by omega)
  by_cases hk : k < m
  · rw [rowD_at d (m + 1) k (by omega) (by omega), List.getElem?_append_left (by omega), rowD_at d m k (by omega) hk]
  · by_cases hk2 : k = m
    · subst hk2
      rw [rowD_at d (k + 1) k (by omega) (by omega), List.getElem?_append_right (by omega), hl]
      simp
    · rw [List.getElem?_eq_none (by omega), List.getElem?_eq_none (by simp; omega)]
theorem rowD_swp (d : Array Nat) (m j : Nat) (h : m ≤ d.size) (hj : j + 1 < m) (x p : Nat) (hx : d[j + 1]! = x) (hp : d[j]! = p) :
    ((rowD d m).set (j + 1) ((p : Nat) : Int)).set j ((x : Nat) : Int) = rowD (swp d (j + 1) j) m := by
  unfold rowD idxs swp
  rw [hx, hp, Array.toList_setIfInBounds, Array.toList_setIfInBounds, List.take_set, List.take_set, List.map_set, List.map_set]

/-- What holds of the row while the first i are in order. -/
structure Ordd (key : Nat → Int) (n i : Nat) (d : Array Nat) : Prop where
  size : d.size = n
  small : ∀ k, k < n → d[k]! < n
  rest : ∀ k, i ≤ k → k < n → d[k]! = k
theorem Ordd.start (key : Nat → Int) (n : Nat) : Ordd key n 0 (Array.range n) := by
  have h : ∀ k, k < n → (Array.range n)[k]! = k := fun k hk => by rw [getElem!_pos _ k (by simpa using hk)]; simp
  exact ⟨by simp, fun k hk => by rw [h k hk]; exact hk, fun k _ hk => h k hk⟩
theorem Ordd.next {key : Nat → Int} {n i : Nat} {d : Array Nat} (h : Ordd key n i d) : Ordd key n (i + 1) d := ⟨h.size, h.small, fun k hk => h.rest k (by omega)⟩
theorem Ordd.swp {key : Nat → Int} {n i j : Nat} {d : Array Nat} (h : Ordd key n i d) (hj : j + 1 < i) (hi : i ≤ n) : Ordd key n i (swp d (j + 1) j) := by
  have hs := h.size
  refine ⟨by rw [size_swp, hs], fun k hk => ?_, fun k h1 h2 => ?_⟩
  · by_cases e1 : k = j + 1
    · subst e1; rw [swp_left d (j + 1) j (by omega) (by omega)]; exact h.small _ (by omega)
    · by_cases e2 : k = j
      · subst e2; rw [swp_right d (k + 1) k (by omega)]; exact h.small _ (by omega)
      · rw [swp_other d _ _ _ e1 e2]; exact h.small k hk
  · rw [swp_other d _ _ _ (by omega) (by omega)]; exact h.rest k h1 h2

theorem ownD_cell {lo hi g cap k m : Nat} {w : World} {d : Array Nat} (h : OwnI lo hi w (.slice (some ⟨g, 0, none⟩) m cap) (rowD d m)) (hm : m ≤ d.size) (hk : k < m) : w.cell? ⟨g, k, none⟩ = some (.int .i64 ((d[k]! : Nat) : Int)) := by
  obtain ⟨b, off, e, _, hc⟩ := h.rd.at (i := k) (by rw [rowD_len d m hm]; exact hk)
  simp only [Option.some.injEq, Addr.mk.injEq, and_true] at e
  obtain ⟨rfl, rfl⟩ := e
  rw [Nat.zero_add] at hc
  rw [hc, List.getD_eq_getElem?_getD, rowD_at d m k hm hk]
  rfl

set_option maxHeartbeats 1000000 in
theorem l06Order_any (v : Value) (ks : List Int) (key : Nat → Int) (w : World) (h : RdI w v ks) (hn : ks.length ≤ 12) (hkey : ∀ x, x < ks.length → ks[x]? = some (key x)) :
    Calls Try.prog 123 #[v] w fun e w' => ∃ u, e = .returned u ∧ OwnI w.heap.size w'.heap.size w' u (idxs (ordL key ks.length)) ∧ Below w.heap.size w w' := by
  obtain ⟨a, c, rfl⟩ := h.shape
  have HR := Lib.hid h
  have HK := Lib.hid hkey
  obtain ⟨n, hnn⟩ : ∃ n, n = ks.length := ⟨_, rfl⟩
  rw [← hnn] at hn ⊢
  have HN := Lib.hid hnn
  clear h hkey hnn
  go_enter Try.func123, Try.ntmps123
  go_wp2_with fail
  have hsz0 : w.heap.size ≤ (w.alloc (.cells #[] 2)).heap.size := by simp
  go_loopw [3, 4] (fun out kk wr => ∃ (i : Nat) (d : Array Nat) (b : Option Addr) (cap : Nat), kk = .int .i64 i ∧ i ≤ n ∧ out = .slice b i cap ∧ Hid (Ordd key n i d) ∧ Hid (insOuter (ltK key) 0 n i d = ordA key n) ∧ Hid (OwnI w.heap.size wr.heap.size wr (.slice b i cap) (rowD d i)) ∧ Hid (Below w.heap.size w wr)) (fun _ kk _ => n + 1 - (intOf kk).toNat)
  case atStart =>
    refine ⟨0, Array.range n, _, _, rfl, Nat.zero_le _, rfl, Ordd.start _ _, ins_zero _ _, Lib.hid ?_, Lib.hid ((Below.refl _ _).alloc (Nat.le_refl _) _)⟩
    exact OwnI.mk (n := 0) (owns_emptyB _ _ rfl)
  case round =>
    obtain ⟨i, d, b, cap, rfl, hi, rfl, HD, HI, HO, HB⟩ := hrel
    obtain ⟨wo, rfl⟩ : ∃ wo, wo = wr := ⟨wr, rfl⟩
    have hnn : n ≤ ks.length ∧ ks.length ≤ n := by have := HN.out; omega
    by_cases hlt : i < n
    · have hlt' : (i : Int) < (ks.length : Int) := by omega
      have hsz := HB.out.size
      have HE := Lib.hid (show rowD d (i + 1) = rowD d i ++ [(i : Int)] by rw [rowD_succ d i (by have := HD.out.size; omega), HD.out.rest i (Nat.le_refl _) hlt])
      have hlen := rowD_len d i (by have := HD.out.size; omega)
      have hlen2 := rowD_len d (i + 1) (by have := HD.out.size; omega)
      have HO1 := Lib.hid (show wo.ownsRow w.heap.size 2 1 (.slice b i cap) i ((rowD d i).map I64) by have := HO.out.1; rw [hlen] at this; exact this)
      go_wp2_with (at_builtin; refine app_ints rfl _ _ rfl w.heap.size (.slice b i cap) i (rowD d i) rfl (HO1.out.alloc _) _ [(i : Int)] rfl (slc_one _ _) (i + 1) (rowD d (i + 1)) (by simp) HE.out (by omega) (by simp; omega) ?_; intro b2 cap2 w3 hown2 hbl2 _ _)
      have HO2 := Lib.hid (OwnI.mk hown2)
      have HB2 := Lib.hid (HB.out.trans (((Below.refl _ _).alloc hsz _).trans hbl2))
      obtain ⟨g, rfl, hg⟩ := owns_slice_some hown2 (by omega)
      clear hown2 hbl2
      have HDN := Lib.hid HD.out.next
      have HIO := Lib.hid (show insOuter (ltK key) 0 n (i + 1) (insInner (ltK key) 0 i d) = ordA key n by rw [← insOuter_go _ _ _ _ _ hlt]; exact HI.out)
      clear HE hlen hlen2 HO1 HO HB hsz HD HI
      have hcap : w3.heap.size ≤ w3.heap.size := Nat.le_refl _
      go_loopw [5] (fun jv wr => ∃ (j : Nat) (e : Array Nat), jv = .int .i64 j ∧ j ≤ i ∧ Hid (Ordd key n (i + 1) e) ∧ Hid (insInner (ltK key) 0 j e = insInner (ltK key) 0 i d) ∧ Hid (OwnI w.heap.size wr.heap.size wr (.slice (some ⟨g, 0, none⟩) (i + 1) cap2) (rowD e (i + 1))) ∧ Hid (Below w.heap.size w wr)) (fun jv _ => (intOf jv).toNat)
      case atStart => exact ⟨i, d, rfl, Nat.le_refl _, HDN, Lib.hid rfl, HO2, HB2⟩
      case round =>
        obtain ⟨j, e, rfl, hj, HDe, HIe, HOe, HBe⟩ := hrel
        obtain ⟨wi, rfl⟩ : ∃ wi, wi = wr := ⟨wr, rfl⟩
        have hes := HDe.out.size
        have out : (j ≤ 0 ∨ ltK key e[j]! e[j - 1]! = false) → Hid (insOuter (ltK key) 0 n (i + 1) e = ordA key n) := fun hs => Lib.hid (by rw [← HIO.out, ← HIe.out, insInner_stop _ _ _ _ hs])
        have OUT := Lib.hid out
        clear out
        by_cases hj0 : 0 < j
        · obtain ⟨jp, rfl⟩ : ∃ jp, j = jp + 1 := ⟨j - 1, by omega⟩
          have hx1 := HDe.out.small (jp + 1) (by omega)
          have hp1 := HDe.out.small jp (by omega)
          have hrl := rowD_len e (i + 1) (by omega)
          have rx := rowD_at e (i + 1) (jp + 1) (by omega) (by omega)
          have rp := rowD_at e (i + 1) jp (by omega) (by omega)
          obtain ⟨x, hx⟩ : ∃ x, e[jp + 1]! = x := ⟨_, rfl⟩
          obtain ⟨p, hp⟩ : ∃ p, e[jp]! = p := ⟨_, rfl⟩
          rw [hx] at rx hx1
          rw [hp] at rp hp1
          have hc1 := ownD_cell HOe.out (by omega) (show jp + 1 < i + 1 by omega)
          have hc2 := ownD_cell HOe.out (by omega) (show jp < i + 1 by omega)
          rw [hx] at hc1
          rw [hp] at hc2
          have hO1 := HOe.out.1
          rw [hrl] at hO1
          have hf1 := hO1.frozenAt (jp + 1)
          have hf2 := hO1.frozenAt jp
          clear hO1
          obtain ⟨kb, ko, rfl, hkb, hk1⟩ := (HR.out.up HBe.out (Nat.le_refl _)).at (i := x) (by omega)
          obtain ⟨kb', ko', ek, _, hk2⟩ := (HR.out.up HBe.out (Nat.le_refl _)).at (i := p) (by omega)
          simp only [Option.some.injEq, Addr.mk.injEq, and_true] at ek
          obtain ⟨rfl, rfl⟩ := ek
          rw [List.getD_eq_getElem?_getD, HK.out x (by omega), Option.getD_some] at hk1
          rw [List.getD_eq_getElem?_getD, HK.out p (by omega), Option.getD_some] at hk2
          have hx2 : (x : Int) < (ks.length : Int) := by omega
          have hp2 : (p : Int) < (ks.length : Int) := by omega
          have hj2 : (jp : Int) + 1 < (i : Int) + 1 := by omega
          have hj3 : (jp : Int) < (i : Int) + 1 := by omega
          have HX := Lib.hid hx
          have HP := Lib.hid hp
          have hsx := HBe.out.size
          clear rx rp hx hp hrl
          obtain ⟨kx, hkx⟩ : ∃ z, z = key x := ⟨_, rfl⟩
          obtain ⟨kp, hkp⟩ : ∃ z, z = key p := ⟨_, rfl⟩
          rw [← hkx] at hk1
          rw [← hkp] at hk2
          have HKX := Lib.hid hkx
          have HKP := Lib.hid hkp
          clear hkx hkp
          by_cases hlk : kx < kp
          · have hd : decide (kx < kp) = true := decide_eq_true hlk
            have HS := Lib.hid (show insInner (ltK key) 0 jp (swp e (jp + 1) jp) = insInner (ltK key) 0 i d by
              have := insInner_go (ltK key) 0 (jp + 1) e hj0 (by rw [Nat.add_sub_cancel, HX.out, HP.out]; unfold ltK; rw [← HKX.out, ← HKP.out]; exact hd)
              rw [Nat.add_sub_cancel] at this
              rw [← this]; exact HIe.out)
            clear hlk
            go_wp2_with fail
            go_quiet (fail)
            go_wp2_with fail
            go_roundw
            case rel =>
              have HO3 : ∀ q, OwnI w.heap.size wi.heap.size (((wi.drewN q).setCell ⟨g, jp + 1, none⟩ (.int .i64 (p : Int))).setCell ⟨g, jp, none⟩ (.int .i64 (x : Int))) (.slice (some ⟨g, 0, none⟩) (i + 1) cap2) (rowD (swp e (jp + 1) jp) (i + 1)) := fun q => by
                have h := ((HOe.out.up (below_drewN (Below.refl wi.heap.size wi) q) (Nat.le_refl _)).set rfl (jp + 1) (p : Int)).set rfl jp (x : Int)
                rw [rowD_swp e (i + 1) jp (by omega) (by omega) x p HX.out HP.out] at h
                exact h
              exact ⟨jp, swp e (jp + 1) jp, by go_num, by omega, Lib.hid (HDe.out.swp (by omega) (by omega)), HS, Lib.hid (by first | exact HO3 _ | exact (HO3 _).wide (Nat.le_refl _) (by simp)), Lib.hid (((below_drewN HBe.out _).setCell (by omega) _).setCell (by omega) _)⟩
            case measure => simp [intOf]
          · have hd : decide (kx < kp) = false := decide_eq_false hlk
            have HU := OUT.out (.inr (by rw [Nat.add_sub_cancel, HX.out, HP.out]; unfold ltK; rw [← HKX.out, ← HKP.out]; exact hd))
            clear hlk OUT
            go_wp2_with fail
            go_quiet (fail)
            go_wp2_with fail
            go_roundw
            case rel => exact ⟨i + 1, e, _, _, by go_num, by omega, rfl, HDe, HU, HOe, Lib.hid (below_drewN HBe.out _)⟩
            case measure => simp [intOf]; omega
        · obtain rfl : j = 0 := by omega
          have HU := OUT.out (.inl (Nat.le_refl _))
          clear OUT
          go_wp2_with fail
          go_quiet (fail)
          go_wp2_with fail
          go_roundw
          case rel => exact ⟨i + 1, e, _, _, by go_num, by omega, rfl, HDe, HU, HOe, Lib.hid (below_drewN HBe.out _)⟩
          case measure => simp [intOf]; omega
    · obtain rfl : i = n := by omega
      have HF := Lib.hid (show d = ordA key i by have := HI.out; rwa [insOuter_stop _ _ _ _ _ (by omega)] at this)
      go_wp2_with fail
      go_ret
      refine ⟨_, rfl, ?_, HB.out⟩
      have e1 : rowD d i = idxs (ordL key i) := by
        unfold rowD ordL
        rw [← HF.out, List.take_of_length_le (by rw [Array.length_toList, HD.out.size]; exact Nat.le_refl _)]
      rw [← e1]; exact HO.out

def duesL (js : List JobD) (k : Nat) : List Int := (js.take k).map (·.due)
theorem duesL_len (js : List JobD) (k : Nat) (h : k ≤ js.length) : (duesL js k).length = k := by unfold duesL; rw [List.length_map, List.length_take]; omega
theorem duesL_succ (js : List JobD) (k : Nat) (h : k < js.length) : duesL js (k + 1) = duesL js k ++ [(js.getD k J0).due] := by
  unfold duesL
  rw [List.take_add_one, List.map_append, List.getElem?_eq_getElem h, List.getD_eq_getElem?_getD, List.getElem?_eq_getElem h]
  rfl
theorem duesL_at (js : List JobD) (x : Nat) (h : x < js.length) : (duesL js js.length)[x]? = some (dueK js x) := by
  unfold duesL dueK
  rw [List.take_length, List.getElem?_map, Nat.mod_eq_of_lt h, List.getD_eq_getElem?_getD, List.getElem?_eq_getElem h]
  rfl

set_option maxHeartbeats 1000000 in
/-- The reference's jobs by due time. -/
theorem l06Due_any (js : List JobD) (v : Value) (w : World) (h : RdJ w v js) (hn : js.length ≤ 12) :
    Calls Try.prog 92 #[v] w fun e w' => ∃ u, e = .returned u ∧ OwnI w.heap.size w'.heap.size w' u (idxs (ordL (dueK js) js.length)) ∧ Below w.heap.size w w' := by
  obtain ⟨a, c, rfl⟩ := h.shape
  have HR := Lib.hid h
  clear h
  go_enter Try.func92, Try.ntmps92
  go_wp2_with fail
  go_loopw [3, 4] (fun out kk wr => ∃ (i : Nat) (b : Option Addr) (cap : Nat), kk = .int .i64 i ∧ i ≤ js.length ∧ out = .slice b i cap ∧ Hid (wr.ownsRow w.heap.size 2 1 (.slice b i cap) i ((duesL js i).map I64)) ∧ Hid (Below w.heap.size w wr)) (fun _ kk _ => js.length + 1 - (intOf kk).toNat)
  case atStart =>
    exact ⟨0, _, _, rfl, Nat.zero_le _, rfl, Lib.hid (owns_emptyB _ _ rfl), Lib.hid ((Below.refl _ _).alloc (Nat.le_refl _) _)⟩
  case round =>
    obtain ⟨i, b, cap, rfl, hi, rfl, HO, HB⟩ := hrel
    obtain ⟨wo, rfl⟩ : ∃ wo, wo = wr := ⟨wr, rfl⟩
    by_cases hlt : i < js.length
    · have hlt' : (i : Int) < js.length := by omega
      obtain ⟨jb, jo, rfl, hjb, d0, d1, _, _⟩ := (HR.out.up HB.out (Nat.le_refl _)).at hlt
      have HE := Lib.hid (duesL_succ js i hlt)
      obtain ⟨x, hx⟩ : ∃ x, x = (js.getD i J0).due := ⟨_, rfl⟩
      rw [← hx] at d1 HE
      have hsz := HB.out.size
      clear hx d0
      go_wp2_with (at_builtin; refine app_ints rfl _ _ rfl w.heap.size (.slice b i cap) i (duesL js i) rfl (HO.out.alloc _) _ [x] rfl (slc_one _ _) (i + 1) (duesL js (i + 1)) (by simp) HE.out (by omega) (by simp; omega) ?_; intro b2 cap2 w3 hown2 hbl2 _ _)
      go_roundw
      case rel => exact ⟨i + 1, b2, cap2, by go_num, by omega, rfl, Lib.hid hown2, Lib.hid (HB.out.trans (((Below.refl _ _).alloc hsz _).trans hbl2))⟩
      case measure => simp [intOf]; omega
    · obtain rfl : i = js.length := by omega
      have hl := duesL_len js js.length (Nat.le_refl _)
      have hC := l06Order_any (.slice b js.length cap) (duesL js js.length) (dueK js) wo (slc_of_owns HO.out) (by omega) (fun x hx => duesL_at js x (by omega))
      rw [hl] at hC
      have HC := Lib.hid hC
      clear hC hl
      go_wp2_with (go_at_call 123; refine HC.out.mono ?_; rintro e w1 ⟨u, rfl, ho, hb1⟩)
      go_ret
      exact ⟨_, rfl, ho.wide HB.out.size (Nat.le_refl _), HB.out.trans (hb1.mono HB.out.size)⟩

end Go.Proofs.Ytkkcgclliomocaa

namespace Go.Proofs.Ytkkcgclliomocaa
open Go.RowKit Go.Sort Go.Lib

theorem step_cut {ops : Array Oper} {o : Oper} {a : Act} {W : World} {K : Act → World → Prop} {Q : Exit → Act → World → Prop} {E : Prop}
    (hg : o.guard = none) (s x : Operand) (hop : o.op = Op.call { callee := Callee.builtin Builtin.append, args := #[s, x], argTypes := #[65, 65] })
    (B g c m n c' : Nat) (xs : List Int) (ho : W.ownsRow B 2 1 (.slice (some ⟨g, 0, none⟩) n c) n (xs.map I64)) (hn : xs.length = n) (hm : m < n)
    (hs : a.eval s = .slice (some ⟨g, 0, none⟩) m c) (A : Addr) (hx : a.eval x = .slice (some A) (n - (m + 1)) c') (hA : m + 1 < n → A = ⟨g, m + 1, none⟩)
    (hK : ∀ w', w'.ownsRow B 2 1 (.slice (some ⟨g, 0, none⟩) (n - 1) c) (n - 1) ((xs.eraseIdx m).map I64) → Kept (· = g) W w' → K (a.put o.dst (.slice (some ⟨g, 0, none⟩) (n - 1) c)) w') :
    if Region.wanted o (yielded ops a.tmps) = true then Oper.wp Try.prog o a W K Q else E := by
  obtain ⟨i0, hi, hz0, hz1, hz2⟩ := info_parts Try.infoI64
  subst hn
  obtain ⟨g', cap', e, hbg, hgl, hnc, hcm, _, hH⟩ := Lib.holds_of_ownsRow (enc := I64) ho (by intro e; cases e)
  injection e with e1 _ e2
  injection e1 with e1
  injection e1 with e1
  subst e1; subst e2
  have hsz : (xs.toArray).size = xs.length := by simp
  have hnews : ((xs.drop (m + 1)).map I64).length = xs.length - (m + 1) := by simp
  have hget : ∀ t, t < xs.length → W.cell? ⟨g, 0 + t, none⟩ = some (I64 xs.toArray[t]!) ∧ W.frozen? ⟨g, 0 + t, none⟩ = false := fun t ht => hH t (by rw [hsz]; exact ht)
  refine step_append_room hg s x 65 hop 2 i0 1 Try.underlying65 hi hz1 g 0 m c hs A (xs.length - (m + 1)) c' ((xs.drop (m + 1)).map I64) hx (by rw [hnews, Nat.mul_one]) ?_ ?_ (by omega) ?_ ?_
  · intro j u hu
    have hj : j < xs.length - (m + 1) := by
      have := (List.getElem?_eq_some_iff.1 hu).1
      rwa [hnews] at this
    rw [hA (by omega)]
    have h1 := (hget (m + 1 + j) (by omega)).1
    have hlt : m + 1 + j < xs.length := by omega
    rw [List.getElem?_map, List.getElem?_drop, List.getElem?_eq_getElem hlt, Option.map_some] at hu
    have h2 : xs.toArray[m + 1 + j]! = xs[m + 1 + j] := by rw [getElem!_pos xs.toArray (m + 1 + j) (by rw [hsz]; exact hlt)]; rfl
    rw [h2, Nat.zero_add, hu] at h1
    rw [Addr.add_lit]
    exact h1
  · intro u hu
    obtain ⟨y, _, rfl⟩ := List.mem_map.1 hu
    rfl
  · intro j hj
    rw [hnews] at hj
    rw [Nat.mul_one, Nat.add_assoc]
    have h1 := hget (m + j) (by omega)
    exact ⟨by rw [h1.1]; rfl, h1.2⟩
  · have e3 : m + (xs.length - (m + 1)) = xs.length - 1 := by omega
    rw [e3, Nat.mul_one]
    have hW : W.setCells g (0 + m) ((xs.drop (m + 1)).map I64) = putRow I64 W g 0 (lay xs.toArray m (xs.drop (m + 1))) := by
      rw [← putRow_setCells I64 W g 0 _ xs.toArray m (by simp; omega), putRow_self I64 W g 0 xs.toArray hH]
    rw [hW]
    have hx2 := Lib.ownsRow_putRow (q := 0) (k := xs.length - 1) (ys := (lay xs.toArray m (xs.drop (m + 1))).toList) ho (by rw [Array.length_toList, lay_size, hsz]) (by omega)
    have e5 : (lay xs.toArray m (xs.drop (m + 1))).toList.take (xs.length - 1) = xs.eraseIdx m := by
      apply List.ext_getElem?
      intro t
      rw [List.getElem?_take, List.getElem?_eraseIdx]
      by_cases ht : t < xs.length - 1
      · rw [if_pos ht, Array.getElem?_toList, lay_get? _ _ _ _ (by rw [hsz]; simp; omega)]
        simp only [List.length_drop]
        by_cases h1 : t < m
        · simp [h1, show ¬ m ≤ t by omega]
        · rw [if_pos (by omega), if_neg h1, List.getElem?_drop, show m + 1 + (t - m) = t + 1 by omega]
      · rw [if_neg ht]
        split
        · omega
        · rw [List.getElem?_eq_none (by omega)]
    rw [e5] at hx2
    exact hK _ hx2 ⟨rfl, rfl, rfl, by simp [putRow, mapBlock], fun k hk hn => by simp [putRow, mapBlock, Array.getElem?_modify, Ne.symm hn]⟩

end Go.Proofs.Ytkkcgclliomocaa

namespace Go.Proofs.Ytkkcgclliomocaa
open Go.RowKit Go.Sort

set_option maxHeartbeats 2000000 in
set_option maxRecDepth 4000 in
theorem otS_any (v : Value) (js : List JobD) (w : World) (h : RdJ w v js) :
    Calls Try.prog 40 #[v] w fun e w' => ∃ u, e = .returned (.tuple #[u, .int .i64 (otN js), .bool (areJobsB js)]) ∧ OwnI w.heap.size w'.heap.size w' u (otL js) ∧ Below w.heap.size w w' := by
  obtain ⟨va, vc, rfl⟩ := h.shape
  have HA := Lib.hid (l06Are_any _ js w h)
  have HR := Lib.hid h
  obtain ⟨q, hq⟩ : ∃ q, areJobsB js = q := ⟨_, rfl⟩
  rw [hq] at HA ⊢
  have HQ := Lib.hid hq
  clear hq h
  go_enter Try.func40, Try.ntmps40
  cases q
  · go_wp2_with (go_at_call 91; refine HA.out.mono ?_; rintro e w' ⟨rfl, rfl⟩)
    go_ret3
    exact ⟨_, by rw [show otN js = 0 by unfold otN; rw [HQ.out]; rfl]; rfl, by rw [show otL js = [] by unfold otL; rw [HQ.out]; rfl]; exact ⟨World.ownsRow_nil _ _ _ _, by intro g hg; cases hg⟩, Below.refl _ _⟩
  obtain ⟨hn1, hn2, hjf⟩ := areJobs_facts HQ.out
  have HJ := Lib.hid hjf
  have HD := Lib.hid (l06Due_any js _ w HR.out hn2)
  clear hjf
  go_upto_region 3 with (go_at_call 91; refine HA.out.mono ?_; rintro e w' ⟨rfl, rfl⟩)
  go_wp2_with (go_at_call 92; refine HD.out.mono ?_; rintro e w1 ⟨u, rfl, ho1, hb1⟩; obtain ⟨ua, uc, rfl⟩ := ho1.rd.shape; rw [show (idxs (ordL (dueK js) js.length)).length = js.length by rw [idxs_len, ordL_len]] at *)
  have HU := Lib.hid ho1
  have HB1 := Lib.hid hb1
  clear ho1 hb1 HD HA
  go_loopw [6, 7, 8, 9] (fun kv av tv iv wr => ∃ (k : Nat) (K A : List Nat) (t : Int) (b : Option Addr) (c : Nat) (b2 : Option Addr) (c2 : Nat), iv = .int .i64 k ∧ k ≤ js.length ∧ kv = .slice b K.length c ∧ av = .slice b2 A.length c2 ∧ tv = .int .i64 t ∧ Hid (Ont js k K A t) ∧ Hid (Own2 w1.heap.size wr (.slice b K.length c) (.slice b2 A.length c2) (idxs K) (idxs A)) ∧ Hid (Below w1.heap.size w1 wr)) (fun _ _ _ iv _ => js.length + 1 - (intOf iv).toNat)
  case atStart =>
    refine ⟨0, [], [], 0, _, _, _, _, rfl, Nat.zero_le _, rfl, rfl, rfl, Ont.start js, Lib.hid ⟨?_, ?_, ?_⟩, Lib.hid (((Below.refl _ _).alloc (Nat.le_refl _) _).alloc (by simp) _)⟩
    · exact owns_below (owns_empty w1) ((Below.refl _ _).alloc (Nat.le_refl _) _) (Nat.le_refl _)
    · exact owns_base (owns_emptyB (w1.alloc (.cells #[] 2)) _ (by simp)) (by simp)
    · intro g h1 h2
      have e1 : w1.heap.size = g := Option.some.inj h1
      have e2 : w1.heap.size + 1 = g := by simpa [Value.ownBlock] using h2
      omega
  case round =>
    obtain ⟨k, K, A, t, b, c, b2, c2, rfl, hk, rfl, rfl, rfl, HO, HW, HB⟩ := hrel
    obtain ⟨wo, rfl⟩ : ∃ wo, wo = wr := ⟨wr, rfl⟩
    have hKl : K.length ≤ 12 := by have := HO.out.lens; omega
    have hAl : A.length ≤ 12 := by have := HO.out.lens; omega
    by_cases hlt : k < js.length
    · have hlt' : (k : Int) < js.length := by omega
      obtain ⟨db, dof, rfl, hdb, hd0⟩ := (HU.out.rd.up HB.out (Nat.le_refl _)).at (i := k) (by rw [idxs_len, ordL_len]; exact hlt)
      rw [idxs_at _ _ (by rw [ordL_len]; exact hlt)] at hd0
      obtain ⟨i, hi⟩ : ∃ i, i = (ordL (dueK js) js.length).getD k 0 := ⟨_, rfl⟩
      rw [← hi] at hd0
      have hin : i < js.length := by rw [hi]; exact ordJ_lt js k hlt
      have HI := Lib.hid hi
      have HN := Lib.hid (HO.out.next hlt i hi HQ.out)
      have ht1 := HO.out.lo
      have ht2 := HO.out.hi
      have hsz := HB.out.size
      clear hi
      have HW1 := Lib.hid (show wo.ownsRow w1.heap.size 2 1 (.slice b K.length c) K.length ((idxs K).map I64) by have := HW.out.1; rw [idxs_len] at this; exact this)
      go_upto_region 11 with (at_builtin; refine app_intsL rfl _ _ rfl w1.heap.size (.slice b K.length c) K.length (idxs K) rfl (HW1.out.alloc _) _ [(i : Int)] rfl (slc_one _ _) (K.length + 1) (idxs (K ++ [i])) (by simp) (by rw [idxs_app]; rfl) (by omega) (by simp; omega) ?_; intro b3 c3 w3 hown3 hbl3 hg3 hor3)
      have hal : Below wo.heap.size wo (wo.alloc (.cells #[.int .i64 (i : Int)] 2)) := (Below.refl _ _).alloc (Nat.le_refl _) _
      have HW3 := Lib.hid (HW.out.grow hal hown3 (show K.length + 1 = (idxs (K ++ [i])).length by rw [idxs_len]; simp) hg3 hor3)
      have HB3 := Lib.hid (HB.out.trans (((Below.refl _ _).alloc hsz _).trans hbl3))
      have HBw3 := Lib.hid (HB1.out.trans (HB3.out.mono HB1.out.size))
      obtain ⟨g, rfl, hg⟩ := owns_slice_some hown3 (by omega)
      clear hal hbl3 hg3 hor3 HW HB HW1 hdb hd0 hsz
      obtain ⟨K1, hK1⟩ : ∃ K1, K1 = K ++ [i] := ⟨_, rfl⟩
      have hK1l : K1.length = K.length + 1 := by rw [hK1]; simp
      rw [← hK1] at hown3 HW3
      have HO3 := Lib.hid hown3
      have HK1 := Lib.hid hK1
      clear hown3 hK1
      obtain ⟨db', dof', ed, _, hd3⟩ := (HU.out.rd.up HB3.out (Nat.le_refl _)).at (i := k) (by rw [idxs_len, ordL_len]; exact hlt)
      simp only [Option.some.injEq, Addr.mk.injEq, and_true] at ed
      obtain ⟨rfl, rfl⟩ := ed
      rw [idxs_at _ _ (by rw [ordL_len]; exact hlt), ← HI.out] at hd3
      obtain ⟨jb, jo, rfl, hjb, d0, d1, _, _⟩ := (HR.out.up HBw3.out (Nat.le_refl _)).at hin
      have hli := HJ.out i hin
      unfold longK at hli
      obtain ⟨l, hl⟩ : ∃ l, l = (js.getD i J0).long := ⟨_, rfl⟩
      obtain ⟨d, hd⟩ : ∃ d, d = (js.getD i J0).due := ⟨_, rfl⟩
      rw [← hl] at d0 hli
      rw [← hd] at d1 hli
      have HL := Lib.hid hl
      have HDU := Lib.hid hd
      have hin' : (i : Int) < js.length := by omega
      have hwr : IntKind.i64.wrap (t + l) = t + l := by rw [IntKind.wrap_i64]; omega
      clear hl hd
      have hmem : ∀ x, x < K1.length → K1.getD x 0 < js.length := fun x hx => by
        have : K1.getD x 0 ∈ K1 := by rw [List.getD_eq_getElem?_getD, List.getElem?_eq_getElem hx]; exact List.getElem_mem _
        generalize K1.getD x 0 = y at this ⊢
        rw [HK1.out] at this
        rcases List.mem_append.1 this with h1 | h1
        · exact HO.out.small y h1
        · rw [List.mem_singleton.1 h1]; exact hin
      have HM := Lib.hid hmem
      clear hmem
      by_cases hle : t + l ≤ d
      · have HE := Lib.hid (show otStep js K A t i = (K1, A, t + l) by unfold otStep longK; rw [← HL.out, ← HDU.out, if_pos hle, HK1.out])
        rw [HE.out] at HN
        go_wp2_with fail
        go_roundw
        case rel => exact ⟨k + 1, K1, A, t + l, _, _, b2, c2, by go_num, by omega, by rw [hK1l], rfl, rfl, HN, Lib.hid (by rw [hK1l]; exact HW3.out), HB3⟩
        case measure => simp [intOf]; omega
      · have hf : decide (t + l ≤ d) = false := decide_eq_false hle
        obtain ⟨m, hm⟩ : ∃ m, m = longest js K1 := ⟨_, rfl⟩
        have hml : m < K1.length := by rw [hm]; exact mostN_lt _ _ (by omega)
        have HE := Lib.hid (show otStep js K A t i = (K1.eraseIdx m, A ++ [K1.getD m 0], t + l - longK js (K1.getD m 0)) by
          have e : longK js i = l := HL.out.symm
          unfold otStep
          rw [e, ← HDU.out, if_neg hle, ← HK1.out, ← hm])
        rw [HE.out] at HN
        have HMM := Lib.hid hm
        clear hm hle
        obtain ⟨wi, hwi⟩ : ∃ wi, wi = w3 := ⟨_, rfl⟩
        go_wp2_with fail
        go_loopw [10, 11] (fun lv jv wr => ∃ (j : Nat), jv = .int .i64 j ∧ 1 ≤ j ∧ j ≤ K1.length ∧ lv = .int .i64 (mostN (keptLong js K1) j) ∧ Hid (∃ n, wr = w3.drewN n)) (fun _ jv _ => K1.length + 1 - (intOf jv).toNat)
        case atStart => exact ⟨1, rfl, Nat.le_refl _, by omega, by rw [mostN_one]; rfl, Lib.hid ⟨0, rfl⟩⟩
        case round =>
          obtain ⟨j, rfl, hj1, hj, rfl, hdr⟩ := hrel
          by_cases hjl : j < K1.length
          · have hjl' : (j : Int) < (K.length : Int) + 1 := by omega
            have hjl2 : (j : Int) < ((K.length + 1 : Nat) : Int) := by omega
            have hoR : Hid (wr.ownsRow w1.heap.size 2 1 (.slice (some ⟨g, 0, none⟩) (K.length + 1) c3) (K.length + 1) ((idxs K1).map I64)) := Lib.hid (by obtain ⟨n, rfl⟩ := hdr.out; exact HO3.out)
            have hjR : Hid (RdJ wr (.slice (some ⟨jb, jo, none⟩) js.length _) js) := Lib.hid (by obtain ⟨n, rfl⟩ := hdr.out; exact (HR.out.up HBw3.out (Nat.le_refl _)).drewN2 n)
            obtain ⟨p, hp⟩ : ∃ p, p = mostN (keptLong js K1) j := ⟨_, rfl⟩
            have hpj : p ≤ j := by rw [hp]; exact mostN_le _ _
            rw [← hp]
            have hc1 := own2_cell hoR.out hjl
            have hc2 := own2_cell hoR.out (show p < K1.length by omega)
            have hy := HM.out j hjl
            have hz := HM.out p (by omega)
            have HS := Lib.hid (show mostN (keptLong js K1) (j + 1) = if longK js (K1.getD p 0) < longK js (K1.getD j 0) then j else p by rw [hp]; rfl)
            have HP := Lib.hid hp
            clear hp
            obtain ⟨y, hye⟩ : ∃ y, y = K1.getD j 0 := ⟨_, rfl⟩
            obtain ⟨z, hze⟩ : ∃ z, z = K1.getD p 0 := ⟨_, rfl⟩
            rw [← hye] at hc1 hy HS
            rw [← hze] at hc2 hz HS
            clear hye hze
            obtain ⟨b4, o4, e4, _, y0, _, _, _⟩ := hjR.out.at hy
            simp only [Option.some.injEq, Addr.mk.injEq, and_true] at e4
            obtain ⟨rfl, rfl⟩ := e4
            obtain ⟨b5, o5, e5, _, z0, _, _, _⟩ := hjR.out.at hz
            simp only [Option.some.injEq, Addr.mk.injEq, and_true] at e5
            obtain ⟨rfl, rfl⟩ := e5
            unfold longK at HS
            obtain ⟨ly, hly⟩ : ∃ q, q = (js.getD y J0).long := ⟨_, rfl⟩
            obtain ⟨lz, hlz⟩ : ∃ q, q = (js.getD z J0).long := ⟨_, rfl⟩
            rw [← hly] at y0 HS
            rw [← hlz] at z0 HS
            clear hly hlz
            have hy' : (y : Int) < js.length := by omega
            have hz' : (z : Int) < js.length := by omega
            have hp1 : (p : Int) < (K.length : Int) + 1 := by omega
            have hp2 : (p : Int) < ((K.length + 1 : Nat) : Int) := by omega
            by_cases hlq : lz < ly
            · have hd1 : decide (lz < ly) = true := decide_eq_true hlq
              have HX := Lib.hid (show mostN (keptLong js K1) (j + 1) = j by rw [HS.out, if_pos hlq])
              clear hlq HS
              go_wp2_with fail
              go_quiet (fail)
              go_wp2_with fail
              go_roundw
              case rel => exact ⟨j + 1, by go_num, by omega, by omega, by rw [HX.out], Lib.hid (by obtain ⟨n, rfl⟩ := hdr.out; exact drewN_ex ⟨n, rfl⟩ _)⟩
              case measure => simp [intOf]; omega
            · have hd1 : decide (lz < ly) = false := decide_eq_false hlq
              have HX := Lib.hid (show mostN (keptLong js K1) (j + 1) = p by rw [HS.out, if_neg hlq])
              clear hlq HS
              go_wp2_with fail
              go_quiet (fail)
              go_wp2_with fail
              go_roundw
              case rel => exact ⟨j + 1, by go_num, by omega, by omega, by rw [HX.out], Lib.hid (by obtain ⟨n, rfl⟩ := hdr.out; exact drewN_ex ⟨n, rfl⟩ _)⟩
              case measure => simp [intOf]; omega
          · obtain rfl : j = K1.length := by omega
            obtain ⟨wd, rfl⟩ : ∃ wd, wd = wr := ⟨wr, rfl⟩
            have hmm := HMM.out
            unfold longest at hmm
            rw [← hmm]
            have hbd : Below w3.heap.size w3 wd := by obtain ⟨n, rfl⟩ := hdr.out; exact below_drewN (Below.refl _ _) n
            have HW4 := Lib.hid (HW3.out.up hbd (Nat.le_refl _))
            have hzd := hbd.size
            have hz3 := HB3.out.size
            have HB4 := Lib.hid (HB3.out.trans (hbd.mono hz3))
            have HO4 := Lib.hid (show wd.ownsRow w1.heap.size 2 1 (.slice (some ⟨g, 0, none⟩) (K.length + 1) c3) (K.length + 1) ((idxs K1).map I64) by obtain ⟨n, rfl⟩ := hdr.out; exact HO3.out)
            have hjR : Hid (RdJ wd (.slice (some ⟨jb, jo, none⟩) js.length _) js) := Lib.hid (by obtain ⟨n, rfl⟩ := hdr.out; exact (HR.out.up HBw3.out (Nat.le_refl _)).drewN2 n)
            have hc2 := own2_cell HO4.out hml
            have hz := HM.out m hml
            obtain ⟨z, hze⟩ : ∃ z, z = K1.getD m 0 := ⟨_, rfl⟩
            rw [← hze] at hc2 hz HE HN
            obtain ⟨b5, o5, e5, _, z0, _, _, _⟩ := hjR.out.at hz
            simp only [Option.some.injEq, Addr.mk.injEq, and_true] at e5
            obtain ⟨rfl, rfl⟩ := e5
            have hlz0 := HJ.out z hz
            unfold longK at hlz0 HN HE
            obtain ⟨lz, hlz⟩ : ∃ q, q = (js.getD z J0).long := ⟨_, rfl⟩
            rw [← hlz] at z0 hlz0 HN HE
            have hz' : (z : Int) < js.length := by omega
            have hm' : (m : Int) < (K.length : Int) + 1 := by omega
            have hm2 : (m : Int) < ((K.length + 1 : Nat) : Int) := by omega
            have hwz : IntKind.i64.wrap (t + l - lz) = t + l - lz := by rw [IntKind.wrap_i64]; omega
            have HA1 := Lib.hid (show wd.ownsRow w1.heap.size 2 1 (.slice b2 A.length c2) A.length ((idxs A).map I64) by have := HW4.out.2.1; rw [idxs_len] at this; exact this)
            have HLZ := Lib.hid hlz
            have HZE := Lib.hid hze
            clear hmm hbd hlz hze d0 d1
            go_upto_region 21 with (at_builtin; refine app_intsL rfl _ _ rfl w1.heap.size (.slice b2 A.length c2) A.length (idxs A) rfl (HA1.out.alloc _) _ [(z : Int)] rfl (slc_one _ _) (A.length + 1) (idxs (A ++ [z])) (by simp) (by rw [idxs_app]; rfl) (by omega) (by simp; omega) ?_; intro b4 c4 w5 hown5 hbl5 hg5 hor5)
            have hal5 : Below wd.heap.size wd (wd.alloc (.cells #[.int .i64 (z : Int)] 2)) := (Below.refl _ _).alloc (Nat.le_refl _) _
            have HW5 := Lib.hid (HW4.out.symm.grow hal5 hown5 (show A.length + 1 = (idxs (A ++ [z])).length by rw [idxs_len]; simp) hg5 hor5).symm
            have hlow : Below w1.heap.size wd w5 := ((Below.refl _ _).alloc (by omega) _).trans hbl5
            have HB5 := Lib.hid (HB4.out.trans hlow)
            have HO5 := Lib.hid (show w5.ownsRow w1.heap.size 2 1 (.slice (some ⟨g, 0, none⟩) (K.length + 1) c3) (K.length + 1) ((idxs K1).map I64) by have := HW5.out.1; rw [idxs_len, hK1l] at this; exact this)
            have hcc : K.length + 1 ≤ c3 ∧ c3 ≤ maxLen := by
              obtain ⟨g5, c5, eo, _, _, hcl, hcm, _, _⟩ := Lib.holds_of_ownsRow (enc := I64) HO5.out (by intro e; cases e)
              injection eo with _ _ eo
              subst eo
              exact ⟨hcl, hcm⟩
            obtain ⟨hcl, hcm⟩ := hcc
            simp only [maxLen] at hcm
            obtain ⟨Z, hZ, hZ2⟩ : ∃ Z : Addr, (if c3 = m + 1 then some (⟨g, 0, none⟩ : Addr) else some ⟨g, m + 1, none⟩) = some Z ∧ (m + 1 < K.length + 1 → Z = ⟨g, m + 1, none⟩) := by
              by_cases h : c3 = m + 1
              · exact ⟨_, if_pos h, fun h2 => by omega⟩
              · exact ⟨_, if_neg h, fun _ => rfl⟩
            have HZ2 := Lib.hid hZ2
            have hwm : IntKind.i64.wrap ((m : Int) + 1) = (m : Int) + 1 := by rw [IntKind.wrap_i64]; omega
            have hm0 : (0 : Int) ≤ (m : Int) + 1 := by omega
            have hm4 : (m : Int) + 1 ≤ (K.length : Int) + 1 := by omega
            have htn : ((m : Int) + 1).toNat = m + 1 := by omega
            have hmc : m ≤ c3 := by omega
            have hmc1 : m + 1 ≤ c3 := by omega
            have hml2 : m < K.length + 1 := by omega
            have hml3 : m + 1 ≤ K.length + 1 := by omega
            have hxl : (idxs K1).length = K.length + 1 := by rw [idxs_len, hK1l]
            have HXL := Lib.hid hxl
            clear hal5 hown5 hbl5 hg5 hor5 hlow HO4 HO3 HW3 hjR hZ2 hxl hc2
            go_region_law (refine step_cut rfl (.tmp 95) (.tmp 99) rfl w1.heap.size g c3 m (K.length + 1) (c3 - (m + 1)) (idxs K1) HO5.out.drew HXL.out hml2 (by simp [Act.eval, Act.put]) Z (by simp [Act.eval, Act.put, hZ]) HZ2.out ?_; intro w6 ho6 hk6)
            have hk7 : Kept (· = g) w5 w6 := (Kept.refl (· = g) w5).drew.trans hk6
            rw [← idxs_erase] at ho6
            have hl6 : K.length + 1 - 1 = (idxs (K1.eraseIdx m)).length := by rw [idxs_len, List.length_eraseIdx, if_pos hml, hK1l]
            have HW6 := Lib.hid (HW5.out.cut ho6 hl6 hk7)
            have HB6 := Lib.hid (HB5.out.trans (hk7.toBelow HB5.out.size (fun k h1 h2 => by omega)))
            clear hk6 hk7 ho6 hl6
            go_wp2_with fail
            go_roundw
            case rel => exact ⟨k + 1, K1.eraseIdx m, A ++ [z], t + l - lz, some ⟨g, 0, none⟩, c3, b4, c4, by go_num, by omega, by rw [List.length_eraseIdx, if_pos hml, hK1l]; rfl, by rw [List.length_append]; rfl, rfl, HN, Lib.hid (by rw [List.length_eraseIdx, if_pos hml, hK1l, List.length_append]; exact HW6.out), HB6⟩
            case measure => simp [intOf]; omega
    · obtain rfl : k = js.length := by omega
      have HE := Lib.hid HO.out.done
      have hsl : Hid (Slc wo (.slice b K.length c) ((idxs K).map I64)) := Lib.hid (slc_of_owns HW.out.1)
      have hsl2 : Hid (Slc wo (.slice b2 A.length c2) ((idxs A).map I64)) := Lib.hid (slc_of_owns HW.out.2.1)
      have hsz := HB.out.size
      have hal : Below wo.heap.size wo (wo.alloc (.cells #[] 2)) := (Below.refl _ _).alloc (Nat.le_refl _) _
      have HAL := Lib.hid hal
      clear hal
      go_wp2_with (at_builtin; first
        | (refine app_intsL rfl (.tmp 101) _ rfl wo.heap.size (.slice (some ⟨wo.heap.size, 0, none⟩) 0 0) 0 [] rfl (owns_empty wo) _ (idxs K) rfl (hsl.out.below HAL.out (Nat.le_refl _)) K.length (idxs K) (by rw [idxs_len]; simp) rfl (by omega) (by simp) ?_; intro b3 c3 w3 hown3 hbl3 hg3 hor3)
        | (refine app_intsL rfl (.tmp 103) _ rfl wo.heap.size (.slice b3 K.length c3) K.length (idxs K) rfl hown3 _ (idxs A) rfl (hsl2.out.below (HAL.out.trans hbl3) (Nat.le_refl _)) (K.length + A.length) (idxs (K ++ A)) (by rw [idxs_len]) (idxs_app _ _) (by omega) (HAL.out.trans hbl3).size ?_; intro b4 c4 w4 hown4 hbl4 hg4 hor4))
      go_ret3
      have e1 : otN js = (K.length : Nat) := by unfold otN; rw [if_pos HQ.out, HE.out]
      have e2 : otL js = idxs (K ++ A) := by unfold otL; rw [if_pos HQ.out, HE.out]
      refine ⟨_, by rw [e1]; rfl, ?_, HB1.out.trans ((HB.out.trans ((HAL.out.trans (hbl3.trans hbl4)).mono hsz)).mono HB1.out.size)⟩
      rw [e2]
      exact (OwnI.mk hown4).wide (by have := HB1.out.size; omega) (Nat.le_refl _)

end Go.Proofs.Ytkkcgclliomocaa
