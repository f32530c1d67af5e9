/-
  FnSpans: texts joined: BspI.
-/
import Derived.BigQuiet
import Derived.Lib.MinMax
import Derived.Deep.RegionLaw
import Derived.Test.YtkfiepiipigcmaaMFnSpansAG
import Derived.Test.YtkfiepiipigcmaaMFnSpansAI
import Derived.Test.YtkfiepiipigcmaaMFnSpansAL
import Derived.Test.YtkfiepiipigcmaaMFnSpansAM
namespace Go.Proofs.Ytkfiepiipigcmaa
open Go.RowKit Go.Sort

theorem Try.infoInt : (Try.prog.info? 3).map (fun i => (i.zero, i.size, i.bytes)) = some (some (.int .i64 0), 1, 8) := by kernel_rfl
/-- Append of ints to what the call owns. -/
theorem app_intn {w : World} {ops : Array Oper} {rest : List Oper} {o : Oper} {a : Act} {Q : Exit → Act → World → Prop} (hgd : o.guard = none) (s x : Operand)
    (ho : o.op = .call { callee := .builtin .append, args := #[s, x], argTypes := #[82, 82] })
    (base : Nat) (v : Value) (n : Nat) (xs : List Int) (hs : a.eval s = v) (hown : w.ownsRow base 3 1 v n (xs.map I64))
    (sv : Value) (news : List Int) (hx : a.eval x = sv) (hsv : Slc w sv (news.map I64)) (m : Nat) (ys : List Int) (hm : m = n + news.length) (hys : ys = xs ++ news) (hlen : m ≤ 17592186044416) (hbase : base ≤ w.heap.size)
    (h : ∀ a' cap' w', w'.ownsRow base 3 1 (.slice a' m cap') m (ys.map I64) → Below base w w' → w.grownBy w' v.ownBlock → (Value.slice a' m cap' = .slice none 0 0 ↔ v = .slice none 0 0 ∧ news = []) → wpList Try.prog ops Q rest (a.put o.dst (.slice a' m cap')) w') :
    wpList Try.prog ops Q (o :: rest) a w := by
  obtain ⟨i0, hi, hz0, hz1, hz2⟩ := info_parts Try.infoInt
  subst hm hys
  refine wpList_append_slc hgd s x 82 ho base 3 i0 (.int .i64 0) 8 Try.underlying82 hi hz0 hz1 hz2 rfl v n (xs.map I64) hs hown sv (news.map I64) hx hsv (i64_one news) (by simp [maxLen]; omega) (by simp; omega) hbase ?_
  intro v' w' h1 h2 h3
  have h1' : w'.ownsRow base 3 1 v' (n + news.length) ((xs ++ news).map I64) := by simpa using h1
  obtain ⟨a', cap', rfl⟩ := owns_shape h1'
  exact h a' cap' w' h1' (below_grown hown hbase h2) h2 (by simpa using h3)
theorem slcN_oneB (w : World) (z : Int) (b : Nat) (hb : b = w.heap.size) : Slc (w.alloc (.cells #[.int .i64 z] 3)) (.slice (some ⟨b, 0, none⟩) 1 1) ([z].map I64) := by
  subst hb
  have h := World.ownsRow_lit (base := w.heap.size) (e := 3) (size := 1) w #[.int .i64 z] 1 (Nat.le_refl _) (by simp [maxLen]) rfl
  exact slc_of_owns h
theorem ownsN_one (w : World) (z : Int) (b : Nat) (hb : b = w.heap.size) : (w.alloc (.cells #[.int .i64 z] 3)).ownsRow w.heap.size 3 1 (.slice (some ⟨b, 0, none⟩) 1 1) 1 ([z].map I64) := by
  subst hb
  exact World.ownsRow_lit (base := w.heap.size) (e := 3) (size := 1) w #[.int .i64 z] 1 (Nat.le_refl _) (by simp [maxLen]) rfl
theorem ownsI_one (w : World) (z : Int) (b : Nat) (hb : b = w.heap.size) : (w.alloc (.cells #[.int .i64 z] 2)).ownsRow w.heap.size 2 1 (.slice (some ⟨b, 0, none⟩) 1 1) 1 ([z].map I64) := by
  subst hb
  exact World.ownsRow_lit (base := w.heap.size) (e := 2) (size := 1) w #[.int .i64 z] 1 (Nat.le_refl _) (by simp [maxLen]) rfl

/-- The greater one of two integers, at an operation of a region that draws its order. -/
theorem step_max {w : World} {ops : Array Oper} {o : Oper} {a : Act} {K : Act → World → Prop} {Q : Exit → Act → World → Prop} {E : Prop} (hgd : o.guard = none) (s x : Operand) (ts : Array TypeId)
    (ho : o.op = .call { callee := .builtin .max, args := #[s, x], argTypes := ts }) (m n : Int) (hs : a.eval s = .int .i64 m) (hx : a.eval x = .int .i64 n)
    (h : K (a.put o.dst (.int .i64 (max m n))) w) : if Region.wanted o (yielded ops a.tmps) = true then Oper.wp Try.prog o a w K Q else E := by
  have hw : Region.wanted o (yielded ops a.tmps) = true := by simp [Region.wanted, hgd]
  rw [if_pos hw]
  unfold Oper.wp
  simp [execOp, ho, resolve, invoke, builtin, hs, hx, Lib.run_max_ints, Result.andThen]
  exact h

/-! ### slices.Sort of nothing -/
theorem insNone_any (p : Option Addr) (cap : Nat) (w : World) :
    Calls Try.prog 126 #[.slice p 0 cap, .int .i64 0, .int .i64 0] w fun e w' => e = .returned (.tuple #[]) ∧ w' = w := by
  go_enter Try.func126, Try.ntmps126
  go_wp2
  refine wp_loop_rounds 1 ?_
  rw [rounds_succ]
  go_wp2
  go_end0
  exact ⟨rfl, rfl⟩
set_option maxRecDepth 100000 in
theorem pdqNone_any (p : Option Addr) (cap : Nat) (w : World) :
    Calls Try.prog 98 #[.slice p 0 cap, .int .i64 0, .int .i64 0, .int .i64 0] w fun e w' => e = .returned (.tuple #[]) ∧ w' = w := by
  go_enter Try.func98, Try.ntmps98
  go_wp2
  refine wp_loop_rounds 1 ?_
  rw [rounds_succ]
  go_wp2_with (first | (go_at_call 126; refine (insNone_any p cap _).mono ?_; rintro e w' ⟨rfl, rfl⟩))
  refine bodyPost_ret (results_none rfl _ _ _) rfl ?_
  exact ⟨rfl, rfl⟩
set_option maxRecDepth 100000 in
theorem sortNone_any (p : Option Addr) (cap : Nat) (w : World) :
    Calls Try.prog 55 #[.slice p 0 cap] w fun e w' => e = .returned (.tuple #[]) ∧ w' = w := by
  have hLen : ∀ w, Calls Try.prog 99 #[.int .u64 0] w fun e w' => e = .returned (.int .i64 0) ∧ w' = w := fun w => Try.bits_Len 0 w (by omega) (by omega)
  go_enter Try.func55, Try.ntmps55
  go_wp2_with (first
    | (go_at_call 99; refine (hLen _).mono ?_; rintro e w' ⟨rfl, rfl⟩)
    | (go_at_call 98; refine (pdqNone_any p cap _).mono ?_; rintro e w' ⟨rfl, rfl⟩))
  go_end0
  exact ⟨rfl, rfl⟩

set_option maxHeartbeats 4000000 in
set_option maxRecDepth 100000 in
theorem bestI_any (v : Value) (ps : List SpanD) (w : World) (h : RdP w v ps) :
    Calls Try.prog 19 #[v] w fun e w' => ∃ v', e = .returned (.tuple #[v', .int .i64 (bspG ps), .bool (areSpansB ps)]) ∧ OwnI w.heap.size w'.heap.size w' v' (bspL ps) ∧ Below w.heap.size w w' := by
  have HA := Lib.hid (AreSpans_any v ps w h)
  obtain ⟨q, hq⟩ : ∃ q, areSpansB ps = q := ⟨_, rfl⟩
  rw [hq] at HA ⊢
  have HQ := Lib.hid hq
  clear hq
  obtain ⟨a, c, rfl⟩ := h.shape
  have HR := Lib.hid h
  clear h
  go_enter Try.func19, Try.ntmps19
  cases q
  · go_wp2_with (go_at_call 24; refine HA.out.mono ?_; rintro e w1 ⟨rfl, hb⟩)
    go_ret3
    refine ⟨.slice none 0 0, ?_, ?_, hb⟩
    · rw [show bspG ps = 0 by unfold bspG; rw [HQ.out]; rfl]; rfl
    rw [show bspL ps = [] by unfold bspL; rw [HQ.out]; rfl]
    exact ⟨World.ownsRow_nil _ _ _ _, by intro g hg; cases hg⟩
  have hl : 1 ≤ ps.length ∧ ps.length ≤ 64 := by
    have := HQ.out
    unfold areSpansB at this
    rw [Bool.and_eq_true, inB_iff] at this
    omega
  have HBT := Lib.hid (fun W (hb : Below w.heap.size w W) => byTo_any ps _ W (HR.out.up hb (Nat.le_refl _)) hl.1 (by omega))
  go_upto_region 3 with (go_at_call 24; refine HA.out.mono ?_; rintro e w1 ⟨rfl, hb⟩)
  have HB1 := Lib.hid hb
  clear hb HA
  go_upto_region 4 with (go_at_call 54; refine (HBT.out _ HB1.out).mono ?_; rintro e w2 ⟨u, rfl, hu, hb⟩; obtain ⟨ua, uc, rfl⟩ := hu.rd.shape)
  -- letters
  obtain ⟨n, hn⟩ : ∃ n, n = ps.length := ⟨_, rfl⟩
  obtain ⟨L, hL⟩ : ∃ L, L = ordL (toK ps) ps.length := ⟨_, rfl⟩
  obtain ⟨st, hst⟩ : ∃ st, st = stK ps := ⟨_, rfl⟩
  obtain ⟨en, hen⟩ : ∃ en, en = toK ps := ⟨_, rfl⟩
  obtain ⟨ga, hga⟩ : ∃ ga, ga = gaK ps := ⟨_, rfl⟩
  have HLEN := Lib.hid (show L.length = n by rw [hL, ordL_len, hn])
  have HLT := Lib.hid (show ∀ k, k < n → L.getD k 0 < n from fun k hk => by
    rw [hL, hn]
    rw [hn] at hk
    rw [List.getD_eq_getElem?_getD, List.getElem?_eq_getElem (by rw [ordL_len]; exact hk)]
    exact ordL_lt _ _ _ (List.getElem_mem _))
  have HASC := Lib.hid (show ∀ i j, i < j → j < n → en (L.getD i 0) ≤ en (L.getD j 0) from fun i j h1 h2 => by rw [hL, hen]; exact ordL_asc _ _ i j h1 (by omega))
  have HGA := Lib.hid (show ∀ x, 0 ≤ ga x ∧ ga x ≤ 1000 from fun x => by rw [hga]; exact gaK_rng HQ.out x)
  have HLI := Lib.hid (show ∀ k, k < n → (idxs L).getD k 0 = (L.getD k 0 : Int) from fun k hk => by
    have hk2 : k < L.length := by rw [HLEN.out]; exact hk
    unfold idxs
    rw [List.getD_eq_getElem?_getD, List.getElem?_map, List.getD_eq_getElem?_getD, List.getElem?_eq_getElem hk2]
    rfl)
  have HCELL := Lib.hid (show ∀ W, Below w.heap.size w W → ∀ x, x < n → ∃ b off, a = some ⟨b, off, none⟩ ∧ W.cell? ⟨b, off + x * 3, none⟩ = some (.int .i64 (st x)) ∧ W.cell? ⟨b, off + x * 3 + 1, none⟩ = some (.int .i64 (en x)) ∧ W.cell? ⟨b, off + x * 3 + 2, none⟩ = some (.int .i64 (ga x)) from fun W hW x hx => by
    rw [hn] at hx
    obtain ⟨b, off, e, _, d0, d1, d2⟩ := (HR.out.up hW (Nat.le_refl _)).at hx
    refine ⟨b, off, e, ?_, ?_, ?_⟩
    · rw [hst]; unfold stK; rw [Nat.mod_eq_of_lt hx]; exact d0
    · rw [hen]; unfold toK; rw [Nat.mod_eq_of_lt hx]; exact d1
    · rw [hga]; unfold gaK; rw [Nat.mod_eq_of_lt hx]; exact d2)
  have HTS := Lib.hid (show bspT ps = tkL st en ga L n by rw [hst, hen, hga, hL, hn]; rfl)
  have HGS := Lib.hid (show bspG ps = sumV st en ga L n by unfold bspG; rw [HQ.out, hst, hen, hga, hL, hn]; rfl)
  have HML := Lib.hid (show bspL ps = idxs (setL n (bspT ps)) by unfold bspL; rw [HQ.out, hn]; rfl)
  have HND := Lib.hid (bspT_nodup ps)
  have HTL := Lib.hid (show ∀ x ∈ bspT ps, x < n by rw [hn]; exact bspT_lt ps)
  rw [show idxs (ordL (toK ps) ps.length) = idxs L by rw [hL]] at hu
  rw [← hL]
  rw [← hn] at HR ⊢
  have HIL := Lib.hid (show (idxs L).length = n by rw [idxs_len]; exact HLEN.out)
  rw [HIL.out] at hu
  rw [HIL.out]
  have hn64 : n ≤ 64 := by omega
  have hn1 : 1 ≤ n := by omega
  clear hL hst hen hga hn hl
  have HU := Lib.hid (show RdI w2 (.slice ua n uc) (idxs L) from hu.rd)
  have HB2 := Lib.hid (HB1.out.trans (hb.mono HB1.out.size))
  have hz2 := HB2.out.size
  clear hu hb HBT HB1
  go_upto_region 5 with fail
  go_wp2_with fail
  go_loopw [6, 7, 22] (fun gv bv iv wr => ∃ (k : Nat) (gb bb : Option Addr) (gc bc : Nat), iv = .int .i64 k ∧ k ≤ n ∧ gv = .slice gb (k + 1) gc ∧ bv = .slice bb (k + 1) bc ∧ Hid (wr.ownsRow w2.heap.size 2 1 (.slice gb (k + 1) gc) (k + 1) ((sumK st en ga L k).map I64)) ∧ Hid (wr.ownsRow w2.heap.size 3 1 (.slice bb (k + 1) bc) (k + 1) ((befL st en L k).map I64)) ∧ Hid (Below w2.heap.size w2 wr)) (fun _ _ iv _ => n + 1 - (intOf iv).toNat)
  case atStart => exact ⟨0, _, _, 1, 1, rfl, Nat.zero_le _, rfl, rfl, Lib.hid ((ownsI_one w2 0 _ (by simp)).alloc _), Lib.hid (owns_base (ownsN_one _ 0 _ (by simp)) (by simp)), Lib.hid (((Below.refl _ _).alloc (Nat.le_refl _) _).alloc (by simp) _)⟩
  case round =>
    obtain ⟨k, gb, bb, gc, bc, rfl, hk, rfl, rfl, HG, HN, HB⟩ := hrel
    obtain ⟨wo, rfl⟩ : ∃ wo, wo = wr := ⟨wr, rfl⟩
    have hsz := HB.out.size
    by_cases hlt : k < n
    · have hltI : (k : Int) < (n : Int) := by omega
      have hkl : k < (idxs L).length := by rw [HIL.out]; exact hlt
      obtain ⟨ub, uo, rfl, _, hx⟩ := (HU.out.up HB.out (Nat.le_refl _)).at hkl
      rw [HLI.out k hlt] at hx
      obtain ⟨x, hxe⟩ : ∃ x, x = L.getD k 0 := ⟨_, rfl⟩
      have hxn : x < n := by rw [hxe]; exact HLT.out k hlt
      have hxI : (x : Int) < (n : Int) := by omega
      rw [← hxe] at hx
      have HX := Lib.hid hxe.symm
      clear hxe
      obtain ⟨y, hy⟩ : ∃ y, y = st x := ⟨_, rfl⟩
      obtain ⟨z, hz⟩ : ∃ z, z = ga x := ⟨_, rfl⟩
      have HY := Lib.hid hy.symm
      have HZ := Lib.hid hz.symm
      clear hy hz
      obtain ⟨g, gc', hge, _⟩ := owns_some HG.out (by intro e; injection e with _ e _; omega)
      injection hge with hge _ hge2
      subst hge; subst hge2
      go_wp2_with fail
      go_loopw [10] (fun jv wr => ∃ j : Nat, jv = .int .i64 j ∧ j ≤ k ∧ Hid (∀ r, r < j → en (L.getD r 0) ≤ y) ∧ Hid (Below wo.heap.size wo wr)) (fun jv _ => k + 1 - (intOf jv).toNat)
      case atStart => exact ⟨0, rfl, Nat.zero_le _, Lib.hid (by intro r hr; omega), Lib.hid (Below.refl _ _)⟩
      case round =>
        obtain ⟨j, rfl, hj, HJ, HBO⟩ := hrel
        have HBW := Lib.hid (HB2.out.trans ((HB.out.trans (HBO.out.mono hsz)).mono hz2))
        obtain ⟨vk, hvk⟩ : ∃ v, v = sumV st en ga L k := ⟨_, rfl⟩
        obtain ⟨vj, hvj⟩ : ∃ v, v = sumV st en ga L j := ⟨_, rfl⟩
        have HVK := Lib.hid hvk.symm
        have HVJ := Lib.hid hvj.symm
        clear hvk hvj
        by_cases hjk : j < k
        · have hjkI : (j : Int) < (k : Int) := by omega
          have hjl : j < (idxs L).length := by rw [HIL.out]; omega
          obtain ⟨ub2, uo2, ee, _, hx2⟩ := (HU.out.up (HB.out.trans (HBO.out.mono hsz)) (Nat.le_refl _)).at hjl
          simp only [Option.some.injEq, Addr.mk.injEq, and_true] at ee
          obtain ⟨rfl, rfl⟩ := ee
          rw [HLI.out j (by omega)] at hx2
          obtain ⟨t, hte⟩ : ∃ t, t = L.getD j 0 := ⟨_, rfl⟩
          have htn : t < n := by rw [hte]; exact HLT.out j (by omega)
          have htI : (t : Int) < (n : Int) := by omega
          rw [← hte] at hx2
          have HT := Lib.hid hte.symm
          clear hte
          obtain ⟨pb, po, rfl, _, c1, _⟩ := HCELL.out wr HBW.out t htn
          obtain ⟨pb2, po2, ee, c0, _, _⟩ := HCELL.out wr HBW.out x hxn
          simp only [Option.some.injEq, Addr.mk.injEq, and_true] at ee
          obtain ⟨rfl, rfl⟩ := ee
          rw [HY.out] at c0
          obtain ⟨ty, hty⟩ : ∃ ty, ty = en t := ⟨_, rfl⟩
          rw [← hty] at c1
          have HTY := Lib.hid hty.symm
          clear hty
          by_cases c : ty ≤ y
          · have hd : decide (ty ≤ y) = true := decide_eq_true c
            have HJ2 := Lib.hid (show ∀ r, r < j + 1 → en (L.getD r 0) ≤ y from fun r hr => by
              by_cases e : r = j
              · rw [e, HT.out, HTY.out]; exact c
              · exact HJ.out r (by omega))
            clear c
            go_wp2_with fail
            go_quiet (fail)
            go_wp2_with fail
            go_roundw
            case rel => exact ⟨j + 1, by go_num, by omega, HJ2, Lib.hid (below_drewN HBO.out _)⟩
            case measure => simp [intOf]; omega
          · have hd : decide (ty ≤ y) = false := decide_eq_false c
            have HBE := Lib.hid (show befI st en L k = j from by
              unfold befI
              rw [HX.out, HY.out]
              refine befK_stop HJ.out k hj (fun r h1 h2 => ?_)
              have q : ty ≤ en (L.getD r 0) := by
                by_cases e : j = r
                · rw [← e, HT.out, HTY.out]; exact Int.le_refl _
                · have := HASC.out j r (by omega) (by omega)
                  rw [HT.out, HTY.out] at this
                  exact this
              omega)
            clear c
            go_wp2_with fail
            go_quiet (fail)
            generalize hwt : wr.drewN _ = wt
            have HBT := Lib.hid (show Below wo.heap.size wo wt by subst hwt; exact below_drewN HBO.out _)
            clear hwt c0 c1 hx2
            have HBE2 := Lib.hid (show befL st en L (k + 1) = befL st en L k ++ [(j : Int)] by simp only [befL]; rw [HBE.out])
            have HSE2 := Lib.hid (show sumK st en ga L (k + 1) = sumK st en ga L k ++ [max vk (vj + z)] by rw [sumK_succ, sumV_succ, HBE.out, HVK.out, HVJ.out, HX.out, HZ.out])
            have HGt := Lib.hid (owns_below HG.out HBT.out (Nat.le_refl _))
            have HNt := Lib.hid (owns_below HN.out HBT.out (Nat.le_refl _))
            have hszt := Nat.le_trans hsz HBT.out.size
            go_wp2_with (at_builtin; refine app_intn rfl _ _ rfl w2.heap.size (.slice bb (k + 1) bc) (k + 1) (befL st en L k) rfl (HNt.out.alloc _) _ [(j : Int)] rfl (slcN_oneB _ _ _ (by simp)) (k + 1 + 1) (befL st en L (k + 1)) (by simp) HBE2.out (by omega) (by simp; omega) ?_; intro b3 c3 w3 hown3 hbl3 hg3 _; have HG3 := Lib.hid (owns_beside (HGt.out.alloc _) (HNt.out.alloc _) (by decide) hg3); have HN3 := Lib.hid hown3; have HB3 := Lib.hid (HB.out.trans ((HBT.out.mono hsz).trans (((Below.refl _ _).alloc hszt _).trans hbl3))); clear hg3 hown3 hbl3; have hsz3 := HB3.out.size)
            have HRV := Lib.hid (show 0 ≤ vk ∧ vk ≤ 64000 ∧ 0 ≤ vj ∧ vj ≤ 64000 ∧ 0 ≤ z ∧ z ≤ 1000 by
              have r1 := sumV_rng st en ga L HGA.out k k (Nat.le_refl _)
              have r2 := sumV_rng st en ga L HGA.out j j (Nat.le_refl _)
              have r3 := HGA.out x
              rw [HVK.out] at r1
              rw [HVJ.out] at r2
              rw [HZ.out] at r3
              omega)
            obtain ⟨r1, r2, r3, r4, r5, r6⟩ := HRV.out
            have e1 : w3.cell? ⟨g, k, none⟩ = some (.int .i64 vk) := by rw [HG3.out.cellAt k (by omega), sumK_cell st en ga L (Nat.le_refl k), HVK.out]
            have e2 : w3.cell? ⟨g, j, none⟩ = some (.int .i64 vj) := by rw [HG3.out.cellAt j (by omega), sumK_cell st en ga L hj, HVJ.out]
            obtain ⟨pb2, po2, ee, _, _, e3⟩ := HCELL.out w3 (HB2.out.trans (HB3.out.mono hz2)) x hxn
            simp only [Option.some.injEq, Addr.mk.injEq, and_true] at ee
            obtain ⟨rfl, rfl⟩ := ee
            rw [HZ.out] at e3
            have hjk1 : (j : Int) < (k : Int) + 1 := by omega
            have hkk1 : (k : Int) < (k : Int) + 1 := by omega
            obtain ⟨s, hs⟩ : ∃ s, s = vj + z := ⟨_, rfl⟩
            rw [← hs] at HSE2
            have hw : IntKind.i64.wrap (vj + z) = s := by rw [hs]; exact IntWalk.i64_in _ (by omega)
            clear hs
            go_region_law (first
                | (refine step_max rfl (.tmp 56) (.tmp 66) _ (by rfl) vk s (by rfl) (by rfl) ?_)
                | (go_loud (refine step_app_own rfl (.tmp 52) (.tmp 68) (by rfl) w2.heap.size ⟨g, 0, none⟩ (k + 1) gc (sumK st en ga L k) (by rfl) (by first | exact (owns_drew HG3.out).alloc _ | exact HG3.out.alloc _) _ [max vk s] (by rfl) (by first | exact slc_oneB _ _ _ (by simp) | exact slc_drew (slc_oneB _ _ _ (by simp))) (k + 1 + 1) (sumK st en ga L (k + 1)) (by simp) HSE2.out (by omega) (by simp; omega) ?_; intro g4 c4 w4 hown4 hbl4 hg4)))
            all_goals
              go_wp2_with fail
              go_roundw
              case rel => exact ⟨k + 1, _, b3, c4, c3, by go_num, by omega, rfl, rfl, Lib.hid hown4, Lib.hid (owns_beside ((owns_drew HN3.out).alloc _) ((owns_drew HG3.out).alloc _) (by decide) hg4), Lib.hid ((HB3.out.drew.alloc hsz3 _).trans hbl4)⟩
              case measure => simp [intOf]; omega
        · obtain rfl : j = k := by omega
          have hkn : ¬ (j : Int) < (j : Int) := by omega
          obtain rfl : vk = vj := HVK.out.symm.trans HVJ.out
          have HBE := Lib.hid (show befI st en L j = j from by
            unfold befI
            rw [HX.out, HY.out]
            exact befK_stop HJ.out j (Nat.le_refl _) (fun r h1 h2 => by omega))
          go_wp2_with fail
          go_quiet (fail)
          generalize hwt : wr.drewN _ = wt
          have HBT := Lib.hid (show Below wo.heap.size wo wt by subst hwt; exact below_drewN HBO.out _)
          clear hwt
          have HBE2 := Lib.hid (show befL st en L (j + 1) = befL st en L j ++ [(j : Int)] by simp only [befL]; rw [HBE.out])
          have HSE2 := Lib.hid (show sumK st en ga L (j + 1) = sumK st en ga L j ++ [max vk (vk + z)] by rw [sumK_succ, sumV_succ, HBE.out, HVK.out, HX.out, HZ.out])
          have HGt := Lib.hid (owns_below HG.out HBT.out (Nat.le_refl _))
          have HNt := Lib.hid (owns_below HN.out HBT.out (Nat.le_refl _))
          have hszt := Nat.le_trans hsz HBT.out.size
          go_wp2_with (at_builtin; refine app_intn rfl _ _ rfl w2.heap.size (.slice bb (j + 1) bc) (j + 1) (befL st en L j) rfl (HNt.out.alloc _) _ [(j : Int)] rfl (slcN_oneB _ _ _ (by simp)) (j + 1 + 1) (befL st en L (j + 1)) (by simp) HBE2.out (by omega) (by simp; omega) ?_; intro b3 c3 w3 hown3 hbl3 hg3 _; have HG3 := Lib.hid (owns_beside (HGt.out.alloc _) (HNt.out.alloc _) (by decide) hg3); have HN3 := Lib.hid hown3; have HB3 := Lib.hid (HB.out.trans ((HBT.out.mono hsz).trans (((Below.refl _ _).alloc hszt _).trans hbl3))); clear hg3 hown3 hbl3; have hsz3 := HB3.out.size)
          have HRV := Lib.hid (show 0 ≤ vk ∧ vk ≤ 64000 ∧ 0 ≤ vk ∧ vk ≤ 64000 ∧ 0 ≤ z ∧ z ≤ 1000 by
            have r1 := sumV_rng st en ga L HGA.out j j (Nat.le_refl _)
            have r2 := sumV_rng st en ga L HGA.out j j (Nat.le_refl _)
            have r3 := HGA.out x
            rw [HVK.out] at r1
            rw [HVJ.out] at r2
            rw [HZ.out] at r3
            omega)
          obtain ⟨r1, r2, r3, r4, r5, r6⟩ := HRV.out
          have e1 : w3.cell? ⟨g, j, none⟩ = some (.int .i64 vk) := by rw [HG3.out.cellAt j (by omega), sumK_cell st en ga L (Nat.le_refl j), HVK.out]
          have e2 : w3.cell? ⟨g, j, none⟩ = some (.int .i64 vk) := by rw [HG3.out.cellAt j (by omega), sumK_cell st en ga L hj, HVJ.out]
          obtain ⟨pb, po, rfl, _, _, e3⟩ := HCELL.out w3 (HB2.out.trans (HB3.out.mono hz2)) x hxn
          rw [HZ.out] at e3
          have hjk1 : (j : Int) < (j : Int) + 1 := by omega
          have hkk1 : (j : Int) < (j : Int) + 1 := by omega
          obtain ⟨s, hs⟩ : ∃ s, s = vk + z := ⟨_, rfl⟩
          rw [← hs] at HSE2
          have hw : IntKind.i64.wrap (vk + z) = s := by rw [hs]; exact IntWalk.i64_in _ (by omega)
          clear hs
          go_region_law (first
              | (refine step_max rfl (.tmp 56) (.tmp 66) _ (by rfl) vk s (by rfl) (by rfl) ?_)
              | (go_loud (refine step_app_own rfl (.tmp 52) (.tmp 68) (by rfl) w2.heap.size ⟨g, 0, none⟩ (j + 1) gc (sumK st en ga L j) (by rfl) (by first | exact (owns_drew HG3.out).alloc _ | exact HG3.out.alloc _) _ [max vk s] (by rfl) (by first | exact slc_oneB _ _ _ (by simp) | exact slc_drew (slc_oneB _ _ _ (by simp))) (j + 1 + 1) (sumK st en ga L (j + 1)) (by simp) HSE2.out (by omega) (by simp; omega) ?_; intro g4 c4 w4 hown4 hbl4 hg4)))
          all_goals
            go_wp2_with fail
            go_roundw
            case rel => exact ⟨j + 1, _, b3, c4, c3, by go_num, by omega, rfl, rfl, Lib.hid hown4, Lib.hid (owns_beside ((owns_drew HN3.out).alloc _) ((owns_drew HG3.out).alloc _) (by decide) hg4), Lib.hid ((HB3.out.drew.alloc hsz3 _).trans hbl4)⟩
            case measure => simp [intOf]; omega
    · obtain rfl : k = n := by omega
      obtain ⟨g, gc', hge, hg1, hg2⟩ := owns_some HG.out (by intro e; injection e with _ e _; omega)
      injection hge with hge _ hge2
      subst hge; subst hge2
      obtain ⟨gB, bc', hge, hg3, hg4⟩ := owns_some HN.out (by intro e; injection e with _ e _; omega)
      injection hge with hge _ hge2
      subst hge; subst hge2
      have HTN := Lib.hid (show (bspT ps).length ≤ k by rw [HTS.out]; exact tkL_len st en ga L k (by rw [HLEN.out]; exact Nat.le_refl _))
      have HBW := Lib.hid (HB2.out.trans (HB.out.mono hz2))
      have hzo := HBW.out.size
      go_wp2_with fail
      go_loopw [11, 12] (fun sv iv wr => ∃ (i m : Nat) (b : Option Addr) (cc : Nat), iv = .int .i64 i ∧ i ≤ k ∧ sv = .slice b m cc ∧ Hid (∃ S, S ++ tkL st en ga L i = bspT ps ∧ S.length = m ∧ wr.ownsRow wo.heap.size 2 1 (.slice b m cc) m ((idxs S).map I64)) ∧ Hid (Below wo.heap.size wo wr)) (fun _ iv _ => (intOf iv).toNat)
      case atStart => exact ⟨k, 0, none, 0, rfl, Nat.le_refl _, rfl, Lib.hid ⟨[], by rw [HTS.out]; rfl, rfl, World.ownsRow_nil _ _ _ _⟩, Lib.hid (Below.refl _ _)⟩
      case round =>
        obtain ⟨i, m, b, cc, rfl, hi, rfl, HS, HBO⟩ := hrel
        obtain ⟨wi, rfl⟩ : ∃ wi, wi = wr := ⟨wr, rfl⟩
        obtain ⟨S, hS, hSm, hSo⟩ := HS.out
        have hszi := HBO.out.size
        have hmk : m ≤ k := by
          have h1 := HTN.out
          rw [← hS, List.length_append] at h1
          omega
        have HO := Lib.hid hSo
        have HSM := Lib.hid hSm
        have HSS := Lib.hid hS
        clear hS hSm hSo HS
        by_cases hi0 : 0 < i
        · have hi0I : (0 : Int) < (i : Int) := by omega
          obtain ⟨p, hp⟩ : ∃ p, i = p + 1 := ⟨i - 1, by omega⟩
          have hw1 : IntKind.i64.wrap ((i : Int) - 1) = (p : Int) := by rw [IntWalk.i64_in _ (by omega)]; omega
          have hpI : (p : Int) < (k : Int) := by omega
          have hpk : p < k := by omega
          have hik1 : (i : Int) < (k : Int) + 1 := by omega
          have hpk1 : (p : Int) < (k : Int) + 1 := by omega
          have HP := Lib.hid hp
          clear hp
          obtain ⟨x1, hx1⟩ : ∃ x, x = sumV st en ga L i := ⟨_, rfl⟩
          obtain ⟨x0, hx0⟩ : ∃ x, x = sumV st en ga L p := ⟨_, rfl⟩
          have HX1 := Lib.hid hx1
          have HX0 := Lib.hid hx0
          clear hx1 hx0
          have e1 : wi.cell? ⟨g, i, none⟩ = some (.int .i64 x1) := by
            rw [HBO.out.cell (p := ⟨g, i, none⟩) hg2, HG.out.cellAt i (by omega), sumK_cell st en ga L hi, HX1.out]
          have e0 : wi.cell? ⟨g, p, none⟩ = some (.int .i64 x0) := by
            rw [HBO.out.cell (p := ⟨g, p, none⟩) hg2, HG.out.cellAt p (by omega), sumK_cell st en ga L (show p ≤ k by omega), HX0.out]
          have HTK := Lib.hid (show tkL st en ga L i = if x0 < x1 then L.getD p 0 :: tkL st en ga L (befI st en L p) else tkL st en ga L p by rw [HP.out, tkL_succ, HX0.out, HX1.out, HP.out])
          by_cases c : x0 < x1
          · have hpl : p < (idxs L).length := by rw [HIL.out]; exact hpk
            obtain ⟨ub, uo, rfl, _, hx⟩ := (HU.out.up (HB.out.trans (HBO.out.mono hsz)) (Nat.le_refl _)).at hpl
            rw [HLI.out p hpk] at hx
            obtain ⟨t, hte⟩ : ∃ t, t = L.getD p 0 := ⟨_, rfl⟩
            rw [← hte] at hx HTK
            have HT2 := Lib.hid (show tkL st en ga L i = t :: tkL st en ga L (befI st en L p) by rw [HTK.out, if_pos c])
            clear hte
            obtain ⟨q, hq⟩ : ∃ q, q = befI st en L p := ⟨_, rfl⟩
            have hqp : q ≤ p := by rw [hq]; exact befI_le st en L p
            have HQB := Lib.hid (show ((befL st en L k).map I64)[i]? = some (.int .i64 (q : Nat)) by rw [HP.out, befL_cell st en L hpk, hq])
            rw [← hq] at HT2
            clear hq
            go_wp2_with fail
            go_quiet (fail)
            generalize hwt : wi.drewN _ = wt
            have HOt := Lib.hid (show wt.ownsRow wo.heap.size 2 1 (.slice b m cc) m ((idxs S).map I64) by subst hwt; exact HO.out)
            have HBt := Lib.hid (show Below wo.heap.size wo wt by subst hwt; exact below_drewN HBO.out _)
            have hxt : wt.cell? ⟨ub, uo + p, none⟩ = some (.int .i64 t) := by subst hwt; exact hx
            have hszt := HBt.out.size
            clear hwt hx e1 e0
            go_wp2_with (at_builtin; refine app_ints rfl _ _ rfl wo.heap.size (.slice b m cc) m (idxs S) rfl (HOt.out.alloc _) _ [(t : Int)] rfl (slc_oneB _ _ _ (by simp)) (m + 1) (idxs (S ++ [t])) (by simp) (by unfold idxs; rw [List.map_append]; rfl) (by omega) (by simp; omega) ?_; intro b3 c3 w3 hown3 hbl3 _ _; have HB3 := Lib.hid (HBt.out.trans (((Below.refl _ _).alloc hszt _).trans hbl3)); have eB : w3.cell? ⟨gB, i, none⟩ = some (.int .i64 q) := (by rw [HB3.out.cell (p := ⟨gB, i, none⟩) hg4, HN.out.cellAt i (by omega), HQB.out]); clear hbl3)
            go_roundw
            case rel => exact ⟨q, m + 1, b3, c3, rfl, by omega, rfl, Lib.hid ⟨S ++ [t], by rw [← HSS.out, HT2.out]; simp, by rw [List.length_append, HSM.out]; rfl, hown3⟩, HB3⟩
            case measure => simp [intOf]; have := HP.out; omega
          · have HT2 := Lib.hid (show tkL st en ga L i = tkL st en ga L p by rw [HTK.out, if_neg c])
            go_wp2_with fail
            go_quiet (fail)
            go_wp2_with fail
            go_roundw
            case rel => exact ⟨p, m, b, cc, by go_num, by omega, rfl, Lib.hid ⟨S, by rw [← HT2.out]; exact HSS.out, HSM.out, HO.out⟩, Lib.hid (below_drewN HBO.out _)⟩
            case measure => simp [intOf]; have := HP.out; omega
        · obtain rfl : i = 0 := by omega
          have HST := Lib.hid (show S = bspT ps by have := HSS.out; rw [tkL_zero, List.append_nil] at this; exact this)
          obtain ⟨G, hG⟩ : ∃ G, G = bspG ps := ⟨_, rfl⟩
          have HGC := Lib.hid (show ∀ W, Below wo.heap.size wo W → W.cell? ⟨g, k, none⟩ = some (.int .i64 G) from fun W hW => by
            rw [hW.cell (p := ⟨g, k, none⟩) hg2, HG.out.cellAt k (by omega), sumK_cell st en ga L (Nat.le_refl k), hG, HGS.out])
          have HGG := Lib.hid hG
          have hkk1 : (k : Int) < (k : Int) + 1 := by omega
          by_cases hm0 : m = 0
          · subst hm0
            have HSE0 := Lib.hid (List.length_eq_zero_iff.1 HSM.out)
            have HNL := Lib.hid (show bspL ps = [] by
              have : bspT ps = [] := by rw [← HST.out]; exact List.length_eq_zero_iff.1 HSM.out
              rw [HML.out, this]
              unfold setL
              simp [idxs])
            clear hG
            have e1 := HGC.out wi HBO.out
            go_wp2_with (go_at_call 55; refine (sortNone_any b cc _).mono ?_; rintro e w3 ⟨rfl, rfl⟩)
            go_quiet (fail)
            go_wp2_with fail
            go_ret3
            refine ⟨.slice b 0 cc, by rw [← HGG.out]; rfl, ?_, HBW.out.trans (below_drewN (HBO.out.mono hzo) _)⟩
            rw [HNL.out]
            have ho := HO.out
            rw [HSE0.out] at ho
            exact (OwnI.mk (n := 0) (w := w3) ho).wide hzo (Nat.le_refl _)
          · have hil : (idxs S).length = m := by rw [idxs_len]; exact HSM.out
            have hss : (idxs S).mergeSort (fun x y => decide (x ≤ y)) = bspL ps := by
              rw [HML.out, HST.out]
              exact sort_set HND.out HTL.out
            have hc := sortInts_any (idxs S) wo.heap.size b cc wi (by rw [hil]; exact HO.out) (by rw [hil]; omega) (by rw [hil]; omega) hszi
            rw [hss, hil] at hc
            have HC := Lib.hid hc
            clear hG hil hss hc
            go_wp2_with (go_at_call 55; refine HC.out.mono ?_; rintro e w3 ⟨rfl, ho3, hb3⟩)
            have HB3 := Lib.hid (HBO.out.trans hb3)
            have HO3 := Lib.hid ho3
            have e1 := HGC.out w3 HB3.out
            clear ho3 hb3
            go_quiet (fail)
            go_wp2_with fail
            go_ret3
            refine ⟨_, by rw [← HGG.out]; rfl, ?_, HBW.out.trans (below_drewN (HB3.out.mono hzo) _)⟩
            exact (OwnI.mk (n := m) (w := w3) HO3.out).wide hzo (Nat.le_refl _)

end Go.Proofs.Ytkfiepiipigcmaa
