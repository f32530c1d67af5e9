/-
  FnJournal: texts joined: TbfM, AppZ, TbfI.
-/
import Derived.Lib.AppendZeros
import Derived.Maps.AppendAt
import Derived.Test.YtgkbbpajkbkgnaaGreatDoorMFnJournalAG
import Derived.Test.YtgkbbpajkbkgnaaGreatDoorMFnJournalAJ
set_option linter.unusedVariables false
set_option linter.unusedSimpArgs false
namespace Go.Proofs.YtgkbbpajkbkgnaaGreatDoor
open Go.RowKit
theorem fin32_neg (x : Nat) : fin32 (negF x) = fin32 x := by
  have e : negF x % Ieee.single.signWeight = x % Ieee.single.signWeight := by
    show (x ^^^ 2 ^ 31) % 2 ^ 31 = x % 2 ^ 31
    rw [Nat.xor_mod_two_pow, Nat.mod_self, Nat.xor_zero]
  unfold fin32 Ieee.Format.read
  dsimp only
  rw [e]
  by_cases h1 : x % Ieee.single.signWeight < Ieee.single.binade
  · rw [if_pos h1, if_pos h1]
  · rw [if_neg h1, if_neg h1]
    by_cases h2 : x % Ieee.single.signWeight < Ieee.single.infRung
    · rw [if_pos h2, if_pos h2]
    · rw [if_neg h2, if_neg h2]
      by_cases h3 : x % Ieee.single.signWeight = Ieee.single.infRung
      · rw [if_pos h3, if_pos h3]
      · rw [if_neg h3, if_neg h3]
theorem unitsL_len (n i : Nat) : (unitsL n i).length = n := by unfold unitsL; simp
theorem unitsL_set (n i : Nat) (hi : i < n) : (List.replicate n 0).set i oneF = unitsL n i := by
  apply List.ext_getElem (by simp [unitsL])
  intro k h1 h2
  simp only [unitsL, List.getElem_set, List.getElem_replicate, List.getElem_map, List.getElem_range]
  by_cases e : i = k
  · rw [if_pos e, if_pos e.symm]
  · rw [if_neg e, if_neg (fun h => e h.symm)]
theorem tabN_len {r : RowsD} (hv : ValR r) : ∀ i, i ≤ r.bnds.length → (tabN r i).length = (r.gains.length + r.bnds.length + 1) * i
  | 0, _ => rfl
  | i + 1, h => by
    simp only [tabN, List.length_append, tabN_len hv i (by omega), rowO_len hv (i := i) (by omega), unitsL_len, List.length_cons, List.length_nil, Nat.mul_succ]
theorem tabG_len (r : RowsD) (k : Nat) (h : k ≤ r.gains.length) : (tabG r k).length = k := by unfold tabG; rw [List.length_map, List.length_take]; omega
theorem tabG_next (r : RowsD) (k : Nat) (h : k < r.gains.length) : tabG r (k + 1) = tabG r k ++ [negF (r.gains.getD k 0)] := by
  unfold tabG
  rw [List.take_add_one, List.getElem?_eq_getElem h, List.map_append, List.getD_eq_getElem?_getD, List.getElem?_eq_getElem h]
  rfl
theorem tabB_next (r : RowsD) (i : Nat) : tabB r (i + 1) = tabB r i ++ [r.vars + (i : Int)] := by
  unfold tabB
  rw [List.range_succ, List.map_append]
  rfl
theorem tabB_len (r : RowsD) (i : Nat) : (tabB r i).length = i := by unfold tabB; simp
theorem allFin_app {a b : List Nat} (ha : allFin a = true) (hb : allFin b = true) : allFin (a ++ b) = true := by
  unfold allFin at *
  rw [List.all_append, ha, hb]; rfl
theorem tabN_fin {r : RowsD} (hv : ValR r) : ∀ i, i ≤ r.bnds.length → allFin (tabN r i) = true
  | 0, _ => rfl
  | i + 1, h => by
    refine allFin_app (tabN_fin hv i (by omega)) (allFin_app (allFin_app (rowO_fin hv i) ?_) ?_)
    · unfold allFin unitsL
      rw [List.all_map, List.all_eq_true]
      intro k _
      show fin32 (if k = i then oneF else 0) = true
      split
      · decide +kernel
      · exact fin0
    · have hl := hv.lb i (by omega)
      unfold least at hl
      rw [Bool.and_eq_true] at hl
      show (fin32 (r.bnds.getD i 0) && true) = true
      rw [hl.1]; rfl
theorem tableT_good {r : RowsD} (hv : ValR r) : GoodT (tableT r) := by
  have h1 := hv.v1
  have h8 := hv.v8
  have hb1 := hv.b1
  have hb8 := hv.b8
  have hg := hv.gl
  refine ⟨⟨?_, ?_, ?_, ?_, ?_⟩, ?_, ?_⟩
  · show 1 ≤ r.gains.length; omega
  · show r.gains.length ≤ 8; omega
  · show 1 ≤ (tabB r r.bnds.length).length; rw [tabB_len]; exact hb1
  · show (tabB r r.bnds.length).length ≤ 8; rw [tabB_len]; exact hb8
  · show (tabN r r.bnds.length ++ tabG r r.gains.length ++ List.replicate (r.bnds.length + 1) 0).length = (r.gains.length + (tabB r r.bnds.length).length + 1) * ((tabB r r.bnds.length).length + 1)
    rw [tabB_len, List.length_append, List.length_append, tabN_len hv _ (Nat.le_refl _), tabG_len _ _ (Nat.le_refl _), List.length_replicate, Nat.mul_succ]
    omega
  · refine allFin_app (allFin_app (tabN_fin hv _ (Nat.le_refl _)) ?_) ?_
    · unfold allFin tabG
      rw [List.take_of_length_le (Nat.le_refl _), List.all_map, List.all_eq_true]
      intro x hx
      show fin32 (negF x) = true
      rw [fin32_neg]
      have := hv.fg
      unfold allFin at this
      exact List.all_eq_true.1 this x hx
    · unfold allFin
      rw [List.all_eq_true]
      intro x hx
      rw [List.eq_of_mem_replicate hx]
      exact fin0
  · intro i hi
    have hi' : i < r.bnds.length := by
      have : i < (tabB r r.bnds.length).length := hi
      rw [tabB_len] at this; exact this
    have e : (tableT r).basis.getD i 0 = r.vars + (i : Int) := by
      show (tabB r r.bnds.length).getD i 0 = _
      unfold tabB
      rw [List.getD_eq_getElem?_getD, List.getElem?_map, List.getElem?_range hi']
      rfl
    rw [e]
    have e2 : colsT (tableT r) = r.gains.length + r.bnds.length := by
      show r.gains.length + (tabB r r.bnds.length).length = _
      rw [tabB_len]
    rw [e2]
    omega
end Go.Proofs.YtgkbbpajkbkgnaaGreatDoor

namespace Go.Proofs.YtgkbbpajkbkgnaaGreatDoor
open Go.RowKit
theorem zeroCells_one (z : Value) (hz : z.cells = #[z]) (m : Nat) : (Builtin.zeroCells z.cells m).toList = List.replicate m z := by
  unfold Builtin.zeroCells
  rw [hz]
  apply List.ext_getElem
  · simp
  · intro i h1 h2
    simp [Nat.mod_one]
section
variable {P : Program} (w : World)
theorem run_append_zeros (base : Nat) (t tn ty e : TypeId) (i : TypeInfo) (z : Value) (bytes : Nat) (k kn : IntKind) (ht : P.underlying t = some (.slice e)) (htn : P.underlying tn = some (.int kn)) (hi : P.info? e = some i) (hz : i.zero = some z)
    (hsize : i.size = 1) (hby : i.bytes = bytes) (hzc : z.cells = #[z]) (h1z : z.oneCell' = true)
    (v : Value) (n : Nat) (xs : List Value) (hown : w.ownsRow base e 1 v n xs) (m : Nat) (h0 : 0 < m)
    (h63 : n + m ≤ maxLen) (hbytes : (n + m) * bytes ≤ 140737488355328) (hbase : base ≤ w.heap.size) :
    ∃ v' w', (Builtin.append_ #[t, tn] ty #[v, .int k m]).run P w = .ok v' w' ∧ w'.ownsRow base e 1 v' (n + m) (xs ++ List.replicate m z) ∧ w.grownBy w' v.ownBlock := by
  subst hby
  have hsmall : n + m ≤ 9223372036854775807 := by simp only [maxLen] at h63; omega
  have hlx : xs.length = n := by have := hown.1; omega
  have hlen : (xs ++ List.replicate m z).length = (n + m) * 1 := by rw [List.length_append, List.length_replicate, hlx]; omega
  have hm0 : m ≠ 0 := by omega
  have hw : IntKind.i64.wrap (m : Int) = m := by rw [IntKind.wrap_i64]; omega
  have hneg : ¬ ((m : Int) < 0) := by omega
  have hmb : m * i.bytes ≤ 140737488355328 := Nat.le_trans (Nat.mul_le_mul_right _ (by omega)) hbytes
  have h48i : ¬ (281474976710656 < (m : Int) * (i.bytes : Int)) := by
    rw [← Int.natCast_mul]
    omega
  have hzl := zeroCells_one z hzc m
  rcases hown.2 with ⟨rfl, rfl⟩ | ⟨g, cap, cur, rfl, hbg, hg, hnc, hcm, hcs, htake⟩
  · have hr := Lib.run_append_nil_zeros (P := P) w t tn ty e i z k kn ht htn hi hz m h0 (by omega) (by omega) (by omega)
    obtain rfl : xs = [] := List.eq_nil_of_length_eq_zero hlx
    rw [Nat.zero_add, List.nil_append]
    refine ⟨_, _, hr, ⟨by simp, .inr ⟨w.heap.size, _, _, rfl, hbase, heap_alloc_new w.drew _, by have := grownCap_ge w m 0 e; omega, grownCap_le_maxLen w m 0 e (by omega), ?_, ?_⟩⟩, ⟨rfl, rfl, rfl, by simp, fun k hk _ => by first | exact heap_alloc_old w.drew _ k hk | exact heap_alloc_old w.drew _ hk⟩⟩
    · have := grownCap_ge w m 0 e
      simp only [Array.size_append, size_zeroCells, hzc]
      simp
      omega
    · rw [Array.toList_append, hzl]
      simp
  · by_cases hroom : n + m ≤ cap
    · have hst := run_storeCells_at P g n e (List.replicate m z) 0 cur w hg (by simp; omega) (by intro u hu; rw [List.eq_of_mem_replicate hu]; exact h1z)
      simp only [Nat.add_zero] at hst
      have hr : (Builtin.append_ #[t, tn] ty #[.slice (some ⟨g, 0, none⟩) n cap, .int k m]).run P w = .ok (.slice (some ⟨g, 0, none⟩) (n + m) cap) (w.setRow g (cur.toList.take n ++ List.replicate m z ++ cur.toList.drop (n + (List.replicate m z).length)).toArray) := by
        simp [Builtin.append_, run_underlying ht, run_underlying htn, sizeOf, typeInfo, zeroValue, hi, hz, hsize, asInt, asIntOf, hw, hneg, hm0, h48i, hroom, hzl, Addr.add_lit, hst]
      refine ⟨_, _, hr, ⟨hlen, .inr ⟨g, cap, _, rfl, hbg, setRow_heap w g cur _ e _ hg, hroom, hcm, ?_, ?_⟩⟩, ⟨rfl, rfl, rfl, by simp, fun k _ hk => setRow_other w g k _ (fun e => hk (by simp [Value.ownBlock, e]))⟩⟩
      · simp only [List.size_toArray, List.length_append, List.length_take, List.length_drop, Array.length_toList, List.length_replicate]
        omega
      · rw [show cur.toList.take n = xs by simpa using htake, ← hlen]
        exact List.take_left
    · have holds : ∀ j u, xs[j]? = some u → w.cell? ((⟨g, 0, none⟩ : Addr).add j) = some u := hown.cells (g := g) rfl
      have hn : ¬ (n + m ≤ cap) := hroom
      have h63' : ¬ (9223372036854775807 < ((n : Int) + (m : Int))) := by omega
      have h48' : ¬ (281474976710656 < Builtin.nextslicecap (n + m) cap * i.bytes) := by have := growslice_fits (show cap < n + m by omega) hbytes; omega
      have hfo := run_firstCells_some (P := P) w.drew 1 n ⟨g, 0, none⟩ n cap xs (by omega) (by simpa using holds)
      have hr : (Builtin.append_ #[t, tn] ty #[.slice (some ⟨g, 0, none⟩) n cap, .int k m]).run P w = .ok (.slice (some ⟨w.heap.size, 0, none⟩) (n + m) (grownCap w (n + m) cap e)) (w.drew.alloc (.cells (xs.toArray ++ (Builtin.zeroCells z.cells m ++ Builtin.zeroCells z.cells (grownCap w (n + m) cap e - (n + m)))) e)) := by
        simp [Builtin.append_, run_underlying ht, run_underlying htn, sizeOf, typeInfo, zeroValue, hi, hz, hsize, asInt, asIntOf, hw, hneg, hm0, h48i, hn, h63', h48', Question.forced, hfo, newRow, grownCap]
      have hge := grownCap_ge w (n + m) cap e
      refine ⟨_, _, hr, ⟨hlen, .inr ⟨w.heap.size, _, _, rfl, hbase, heap_alloc_new w.drew _, hge, grownCap_le_maxLen w (n + m) cap e h63, ?_, ?_⟩⟩, ⟨rfl, rfl, rfl, by simp, fun k hk _ => by first | exact heap_alloc_old w.drew _ k hk | exact heap_alloc_old w.drew _ hk⟩⟩
      · simp only [Array.size_append, size_zeroCells, hzc, List.size_toArray]
        simp
        omega
      · rw [Array.toList_append, Array.toList_append, hzl, ← List.append_assoc, ← hlen]
        exact List.take_left
end
theorem app_zerosF {w : World} {ops : Array Oper} {rest : List Oper} {o : Oper} {a : Act} {Q : Exit → Act → World → Prop} (hgd : o.guard = none) (s x : Operand)
    (ho : o.op = .call { callee := .builtin .append, args := #[s, x], argTypes := #[24, 3] })
    (base : Nat) (v : Value) (n : Nat) (xs : List Nat) (hs : a.eval s = v) (hown : w.ownsRow base 100 1 v n (xs.map F32))
    (m : Nat) (hx : a.eval x = .int .i64 m) (h0 : 0 < m) (k : Nat) (ys : List Nat) (hm : k = n + m) (hys : ys = xs ++ List.replicate m 0) (hlen : k ≤ 17592186044416) (hbase : base ≤ w.heap.size)
    (h : ∀ a' cap' w', w'.ownsRow base 100 1 (.slice a' k cap') k (ys.map F32) → Below base w w' → w.grownBy w' v.ownBlock → wpList Tryz.prog ops Q rest (a.put o.dst (.slice a' k cap')) w') :
    wpList Tryz.prog ops Q (o :: rest) a w := by
  obtain ⟨i0, hi, hz0, hz1, hz2⟩ := info_parts Tryz.infoF32
  subst hm hys
  obtain ⟨v', w', hr, h1, h2⟩ := run_append_zeros (P := Tryz.prog) w base 24 3 o.type 100 i0 (.float .f32 0) 4 .i64 .i64 Tryz.underlying24 Tryz.underlying3 hi hz0 hz1 hz2 rfl rfl v n (xs.map F32) hown m h0 (by simp [maxLen]; omega) (by omega) hbase
  refine Lib.wpList_append_run w hgd s x _ _ ho _ _ hs hx v' w' hr ?_
  have h1' : w'.ownsRow base 100 1 v' (n + m) ((xs ++ List.replicate m 0).map F32) := by simpa [F32] using h1
  obtain ⟨a', cap', rfl⟩ := owns_shape h1'
  exact h a' cap' w' h1' (below_grown hown hbase h2) h2
theorem wp_app_fltsL {w : World} {o : Oper} {a : Act} {K : Act → World → Prop} {Q : Exit → Act → World → Prop} (s x : Operand)
    (ho : o.op = .call { callee := .builtin .append, args := #[s, x], argTypes := #[24, 24] })
    (base : Nat) (v : Value) (n : Nat) (xs : List Nat) (hs : a.eval s = v) (hown : w.ownsRow base 100 1 v n (xs.map F32))
    (sv : Value) (news : List Nat) (hx : a.eval x = sv) (hsv : Slc w sv (news.map F32)) (m : Nat) (ys : List Nat) (hm : m = n + news.length) (hys : ys = xs ++ news) (hlen : m ≤ 17592186044416) (hbase : base ≤ w.heap.size)
    (h : ∀ a' cap' w', w'.ownsRow base 100 1 (.slice a' m cap') m (ys.map F32) → Below base w w' → w.grownBy w' v.ownBlock → ((Value.slice a' m cap').ownBlock = v.ownBlock ∨ (Value.slice a' m cap').ownBlock = some w.heap.size) → K (a.put o.dst (.slice a' m cap')) w') :
    o.wp Tryz.prog a w K Q := by
  obtain ⟨i0, hi, hz0, hz1, hz2⟩ := info_parts Tryz.infoF32
  subst hm hys
  have hk : ∀ v' w', w'.ownsRow base 100 1 v' (n + news.length) (xs.map F32 ++ news.map F32) → w.grownBy w' v.ownBlock → (v'.ownBlock = v.ownBlock ∨ v'.ownBlock = some w.heap.size) → K (a.put o.dst v') w' := by
    intro v' w' h1 h2 h3
    have h1' : w'.ownsRow base 100 1 v' (n + news.length) ((xs ++ news).map F32) := by simpa using h1
    obtain ⟨a', cap', rfl⟩ := owns_shape h1'
    exact h a' cap' w' h1' (below_grown hown hbase h2) h2 h3
  rcases hsv with ⟨rfl, hnil⟩ | ⟨ad, cap, rfl, hcl, hcm, hc⟩
  · have hn : news = [] := by simpa using hnil
    subst hn
    have hrun := run_append_owned_none (P := Tryz.prog) (w := w) base 24 o.type 100 i0 1 Tryz.underlying24 hi v n (xs.map F32) hown
    unfold Oper.wp
    simp [execOp, ho, resolve, invoke, builtin, hs, hx, hrun, Result.andThen]
    exact hk v w (by simpa using hown) (World.grownBy.refl _ _) (.inl rfl)
  · obtain ⟨v', w', hr, h2, h3, _, h5⟩ := run_append_own_at (P := Tryz.prog) w base 24 o.type 100 i0 (.float .f32 0) 1 4 Tryz.underlying24 hi hz0 hz1 hz2 rfl (by decide) v n (xs.map F32) hown ad (news.map F32).length cap (news.map F32) (by simp) hc (f32_one news) (by simp [maxLen]; omega) (by simp; omega) hbase
    unfold Oper.wp execOp
    simp only [ho, resolve, invoke, builtin, Sem.run_bind, Sem.run_pure, Result.andThen_ok, List.map_toArray, List.map_cons, List.map_nil, hs, hx, hr]
    exact hk _ _ (by simpa using h2) h3 h5
theorem step_app_fltsL {w : World} {ops : Array Oper} {o : Oper} {a : Act} {K : Act → World → Prop} {Q : Exit → Act → World → Prop} {E : Prop} (hgd : o.guard = none) (s x : Operand)
    (ho : o.op = .call { callee := .builtin .append, args := #[s, x], argTypes := #[24, 24] })
    (base : Nat) (v : Value) (n : Nat) (xs : List Nat) (hs : a.eval s = v) (hown : w.ownsRow base 100 1 v n (xs.map F32))
    (sv : Value) (news : List Nat) (hx : a.eval x = sv) (hsv : Slc w sv (news.map F32)) (m : Nat) (ys : List Nat) (hm : m = n + news.length) (hys : ys = xs ++ news) (hlen : m ≤ 17592186044416) (hbase : base ≤ w.heap.size)
    (h : ∀ a' cap' w', w'.ownsRow base 100 1 (.slice a' m cap') m (ys.map F32) → Below base w w' → w.grownBy w' v.ownBlock → ((Value.slice a' m cap').ownBlock = v.ownBlock ∨ (Value.slice a' m cap').ownBlock = some w.heap.size) → K (a.put o.dst (.slice a' m cap')) w') :
    if Region.wanted o (yielded ops a.tmps) = true then Oper.wp Tryz.prog o a w K Q else E := by
  have hw : Region.wanted o (yielded ops a.tmps) = true := by simp [Region.wanted, hgd]
  rw [if_pos hw]
  exact wp_app_fltsL s x ho base v n xs hs hown sv news hx hsv m ys hm hys hlen hbase h
end Go.Proofs.YtgkbbpajkbkgnaaGreatDoor

namespace Go.Proofs.YtgkbbpajkbkgnaaGreatDoor
open Go.RowKit
set_option maxHeartbeats 4000000 in
set_option maxRecDepth 8000 in
theorem tableOfI_no (v : Value) (r : RowsD) (w : World) (h : RdR w v r) (hv : validR r = false) :
    Calls Tryz.prog 316 #[v] w fun e w' => e = .returned (.tuple #[.agg #[.int .i64 0, .slice none 0 0, .slice none 0 0], .bool false]) ∧ Below w.heap.size w w' := by
  have HRV := Lib.hid (fun X (hb : Below w.heap.size w X) => ValidRows_any v r X (h.up hb (Nat.le_refl _)))
  rw [hv] at HRV
  obtain ⟨a1, c1, a2, c2, a3, c3, rfl⟩ := h.shape
  clear h hv
  go_enter Tryz.func316, Tryz.ntmps316
  go_upto_region 1 with fail
  refine wp_at fun W0 hW0 => ?_
  have HB0 := Lib.hid (show Below w.heap.size w W0 by subst hW0; (repeat' first | exact Below.refl _ _ | assumption | refine Below.alloc ?_ ?_ _ | refine Below.setCell ?_ ?_ _ | refine Below.drew ?_ | (simp; done) | (simp; omega)))
  have HK0 := Lib.hid (show Blk W0 w.heap.size 26 #[.int .i64 r.vars, .slice a1 r.nums.length c1, .slice a2 r.bnds.length c2, .slice a3 r.gains.length c3] by subst hW0; exact (Blk.new _ _ _).alloc _)
  have HR0 := Lib.hid (show Blk W0 (w.heap.size + 1) 258 #[.int .i64 0, .slice none 0 0, .slice none 0 0] by subst hW0; simpa using Blk.new (w.alloc (.cells #[.int .i64 r.vars, .slice a1 r.nums.length c1, .slice a2 r.bnds.length c2, .slice a3 r.gains.length c3] 26)) 258 #[.int .i64 0, .slice none 0 0, .slice none 0 0])
  have hz0 := HB0.out.size
  clear hW0
  have d0 := HK0.out.cell 0 rfl
  have d1 := HK0.out.cell 1 rfl
  have d2 := HK0.out.cell 2 rfl
  have d3 := HK0.out.cell 3 rfl
  go_wp2_with (go_at_call 46; refine (HRV.out W0 HB0.out).mono ?_; rintro e w2 ⟨rfl, hb2⟩; have HR2 := Lib.hid (HR0.out.below hb2 HR0.out.lt); have HB2 := Lib.hid (HB0.out.trans (hb2.mono hz0)); have r0 := HR2.out.cell 0 rfl; have r1 := HR2.out.cell 1 rfl; have r2 := HR2.out.cell 2 rfl; have s0 := HR2.out.free 0; have s1 := HR2.out.free 1; have s2 := HR2.out.free 2)
  refine bodyPost_ret (v := .tuple #[.agg #[.int .i64 0, .slice none 0 0, .slice none 0 0], .bool false]) (by simp [results, Tryz.results316, go_sem, *]) rfl ⟨rfl, ?_⟩
  have FIN : ∀ Wf, Kept (· = w.heap.size + 1) w2 Wf → Below w.heap.size w Wf := fun Wf hk => HB2.out.trans (hk.toBelow HB2.out.size (by intro k h1 h2; omega))
  refine FIN _ ?_
  repeat' first | exact Kept.refl _ _ | refine Kept.setCell ?_ (.inr (by simp)) _
set_option maxHeartbeats 8000000 in
set_option maxRecDepth 8000 in
theorem tableOfI_yes (v : Value) (r : RowsD) (w : World) (h : RdR w v r) (hv : validR r = true) :
    Calls Tryz.prog 316 #[v] w fun e w' => ∃ tv, e = .returned (.tuple #[tv, .bool true]) ∧ (∀ Wg, Kept (· < w.heap.size) w' Wg → RdTb Wg tv (tableT r)) ∧ Below w.heap.size w w' := by
  have hval := validR_iff.1 hv
  have HRD := Lib.hid h
  have HVL := Lib.hid hval
  have HRV := Lib.hid (fun X (hb : Below w.heap.size w X) => ValidRows_any v r X (h.up hb (Nat.le_refl _)))
  rw [hv] at HRV
  have HROW := Lib.hid (fun X (hb : Below w.heap.size w X) i (hi : i < r.bnds.length) => row_any v r i X (h.up hb (Nat.le_refl _)) hval hi)
  obtain ⟨a1, c1, a2, c2, a3, c3, rfl⟩ := h.shape
  have HP2 := Lib.hid h.parts.2.1
  have HP3 := Lib.hid h.parts.2.2
  have HTAB := Lib.hid (show tableT r = ⟨r.gains.length, tabN r r.bnds.length ++ tabG r r.gains.length ++ List.replicate (r.bnds.length + 1) 0, tabB r r.bnds.length⟩ from rfl)
  have HNB := Lib.hid (fun i => tabB_next r i)
  have HNN := Lib.hid (fun i => show tabN r (i + 1) = tabN r i ++ (rowO r i ++ unitsL r.bnds.length i ++ [r.bnds.getD i 0]) from rfl)
  have HNG := Lib.hid (tabG_next r)
  have HRL := Lib.hid (fun i (hi : i < r.bnds.length) => rowO_len hval hi)
  have hg8 : r.gains.length ≤ 8 := by have := hval.v8; have := hval.gl; omega
  have hg1 : 1 ≤ r.gains.length := by have := hval.v1; have := hval.gl; omega
  have hb8 := hval.b8
  have hb1 := hval.b1
  obtain ⟨i0, hif, hzf0, hzf1, hzf2⟩ := info_parts Tryz.infoF32
  rw [hval.gl.symm] at HRV HROW HNB ⊢
  obtain ⟨G, hG⟩ : ∃ G, G = r.gains.length := ⟨_, rfl⟩
  obtain ⟨N, hN⟩ : ∃ N, N = r.bnds.length := ⟨_, rfl⟩
  obtain ⟨L, hL⟩ : ∃ L, L = r.nums.length := ⟨_, rfl⟩
  have HGE := Lib.hid hG
  have HNE := Lib.hid hN
  rw [← hG] at HRV HROW HNB HTAB HNG HRL hg8 hg1 ⊢
  rw [← hN] at HRV HROW HNN HTAB HRL hb8 hb1 ⊢
  rw [← hL] at HRV HROW ⊢
  clear h hv hval hG hN hL HRD
  go_enter Tryz.func316, Tryz.ntmps316
  go_upto_region 1 with fail
  refine wp_at fun W0 hW0 => ?_
  have HB0 := Lib.hid (show Below w.heap.size w W0 by subst hW0; (repeat' first | exact Below.refl _ _ | assumption | refine Below.alloc ?_ ?_ _ | refine Below.setCell ?_ ?_ _ | refine Below.drew ?_ | (simp; done) | (simp; omega)))
  have HK0 := Lib.hid (show Blk W0 w.heap.size 26 #[.int .i64 G, .slice a1 L c1, .slice a2 N c2, .slice a3 G c3] by subst hW0; exact (Blk.new _ _ _).alloc _)
  have HR0 := Lib.hid (show Blk W0 (w.heap.size + 1) 258 #[.int .i64 0, .slice none 0 0, .slice none 0 0] by subst hW0; simpa using Blk.new (w.alloc (.cells #[.int .i64 G, .slice a1 L c1, .slice a2 N c2, .slice a3 G c3] 26)) 258 #[.int .i64 0, .slice none 0 0, .slice none 0 0])
  have hz0 := HB0.out.size
  clear hW0
  have d0 := HK0.out.cell 0 rfl
  have d1 := HK0.out.cell 1 rfl
  have d2 := HK0.out.cell 2 rfl
  have d3 := HK0.out.cell 3 rfl
  go_upto_region 4 with (go_at_call 46; refine (HRV.out W0 HB0.out).mono ?_; rintro e w1 ⟨rfl, hb1⟩; have HR1 := Lib.hid (HR0.out.below hb1 HR0.out.lt); have HK1 := Lib.hid (HK0.out.below hb1 HK0.out.lt); have HB1 := Lib.hid (HB0.out.trans (hb1.mono hz0)); have e0 := HK1.out.cell 0 rfl)
  refine wp_at fun W3 hW3 => ?_
  obtain ⟨q, hq⟩ : ∃ q, q = w1.heap.size := ⟨_, rfl⟩
  have HQ3 := Lib.hid (show Blk W3 q 258 #[.int .i64 G, .slice none 0 0, .slice none 0 0] by subst hW3 hq; exact Blk.new _ _ _)
  have HK3 := Lib.hid (show Blk W3 w.heap.size 26 #[.int .i64 G, .slice a1 L c1, .slice a2 N c2, .slice a3 G c3] by subst hW3; exact HK1.out.alloc _)
  have HR3 := Lib.hid (show Blk W3 (w.heap.size + 1) 258 #[.int .i64 0, .slice none 0 0, .slice none 0 0] by subst hW3; exact HR1.out.alloc _)
  have HB3 := Lib.hid (show Below w.heap.size w W3 by subst hW3; exact HB1.out.alloc HB1.out.size _)
  have hqw : w.heap.size + 1 < q := by rw [hq]; exact HR1.out.lt
  have hq3 : q < W3.heap.size := HQ3.out.lt
  have hz3 := HB3.out.size
  rw [← hq]
  clear hW3 hq d0 d1 d2 d3 e0 hb1
  have d0 := HK3.out.cell 0 rfl
  have d2 := HK3.out.cell 2 rfl
  go_wp2_with fail
  go_loopw [21] (fun iv wr => ∃ (i : Nat) (b : Option Addr) (cc : Nat), iv = .int .i64 i ∧ i ≤ N ∧ Hid (Blk wr q 258 #[.int .i64 G, .slice none 0 0, .slice b i cc]) ∧ Hid (wr.ownsRow W3.heap.size 2 1 (.slice b i cc) i ((tabB r i).map I64)) ∧ Hid (Kept (· = q) W3 wr)) (fun iv _ => N + 1 - (intOf iv).toNat)
  case atStart => exact ⟨0, none, 0, rfl, Nat.zero_le _, HQ3, Lib.hid (World.ownsRow_nil _ _ _ _), Lib.hid (Kept.refl _ _)⟩
  case round =>
    obtain ⟨i, b, cc, rfl, hi, HQ, HO, HKP⟩ := hrel
    obtain ⟨wo, rfl⟩ : ∃ wo, wo = wr := ⟨wr, rfl⟩
    have HKo := Lib.hid (HK3.out.kept HKP.out (by omega))
    have hzo := HKP.out.size
    by_cases hlt : i < N
    · have hltI : (i : Int) < (N : Int) := by omega
      have HPE := HNB.out i
      have HPE := Lib.hid HPE
      have d0 := HKo.out.cell 0 rfl
      have q2 := HQ.out.cell 2 rfl
      go_wp2_with (at_builtin; refine app_ints rfl _ _ rfl W3.heap.size (.slice b i cc) i (tabB r i) rfl (HO.out.alloc _) _ [(G : Int) + (i : Int)] rfl (slc_oneB _ _ _ (by simp)) (i + 1) (tabB r (i + 1)) (by simp) HPE.out (by omega) (by simp; omega) ?_; intro b3 c3' w3 hown3 hbl3 _ _; have HO3 := Lib.hid hown3; have HQ4 := Lib.hid ((HQ.out.alloc (.cells #[.int .i64 ((G : Int) + (i : Int))] 2)).below hbl3 hq3); have HKP4 := Lib.hid (HKP.out.below (((Below.refl _ _).alloc hzo _).trans hbl3) (Nat.le_refl _)); have s2 := HQ4.out.free 2; have t2 := HQ4.out.cell 2 rfl; clear hown3 hbl3)
      go_roundw
      case rel =>
        refine ⟨i + 1, b3, c3', by go_num, by omega, Lib.hid (by simpa using HQ4.out.set 2 (.slice b3 (i + 1) c3')), Lib.hid (owns_kept HO3.out (Kept.setCell (S := (· = q)) (Kept.refl _ _) (.inr rfl) _) (fun g hg => by have := (owns_lt HO3.out hg).1; omega)), Lib.hid (HKP4.out.setCell (.inr rfl) _)⟩
      case measure => simp [intOf]; omega
    · obtain rfl : i = N := by omega
      have HBW := Lib.hid (HB3.out.trans (HKP.out.toBelow hz3 (by intro k h1 h2; omega)))
      have HBI := HO
      have hqo : q < wo.heap.size := by omega
      have d2 := HKo.out.cell 2 rfl
      clear HO d0
      have HRP := Lib.hid (HR3.out.kept HKP.out (by omega))
      go_wp2_with fail
      go_loopw [37] (fun iv wr => ∃ (j z : Nat) (g : Option Addr) (cg : Nat), iv = .int .i64 j ∧ j ≤ i ∧ z ≤ 17 * j ∧ Hid (Blk wr q 258 #[.int .i64 G, .slice g z cg, .slice b i cc]) ∧ Hid (wr.ownsRow wo.heap.size 100 1 (.slice g z cg) z ((tabN r j).map F32)) ∧ Hid (Kept (· = q) wo wr)) (fun iv _ => i + 1 - (intOf iv).toNat)
      case atStart => exact ⟨0, 0, none, 0, rfl, Nat.zero_le _, Nat.zero_le _, HQ, Lib.hid (World.ownsRow_nil _ _ _ _), Lib.hid (Kept.refl _ _)⟩
      case round =>
        obtain ⟨j, z, g, cg, rfl, hj, hz, HQj, HO, HKj⟩ := hrel
        obtain ⟨wj, rfl⟩ : ∃ wj, wj = wr := ⟨wr, rfl⟩
        have HKoj := Lib.hid (HKo.out.kept HKj.out (by omega))
        have hzj := HKj.out.size
        have HBWj := Lib.hid (HBW.out.trans (HKj.out.toBelow HBW.out.size (by intro k h1 h2; omega)))
        by_cases hlt : j < i
        · have hltI : (j : Int) < (i : Int) := by omega
          obtain ⟨pb, po, rfl, _, hc⟩ := (HP2.out.up HBWj.out (Nat.le_refl _)).at (i := j) (by rw [← HNE.out]; exact hlt)
          have hE := HNN.out j
          have hrl := HRL.out j hlt
          have HRWj := Lib.hid (fun X hb => HROW.out X hb j hlt)
          obtain ⟨bd, hbd⟩ : ∃ bd, bd = r.bnds.getD j 0 := ⟨_, rfl⟩
          rw [← hbd] at hc hE
          obtain ⟨rw', hrw⟩ : ∃ rw', rw' = rowO r j := ⟨_, rfl⟩
          rw [← hrw] at hE hrl HRWj
          have HE := Lib.hid hE
          clear hbd hrw hE
          have d2 := HKoj.out.cell 2 rfl
          go_upto_region 13 with (at_make; refine wpList_make_full _ rfl _ _ 24 rfl wj.heap.size 100 i0 (.float .f32 0) 1 Tryz.underlying24 hif hzf0 hzf1 .i64 .i64 i i i rfl rfl rfl rfl (by rw [hzf2]; omega) (by simp [maxLen]; omega) (by simp) ?_; intro w5 hown5 hgrow5)
          have hbU := (Below.refl wj.heap.size wj).grown hgrow5 (Nat.le_refl _) (by intro k hk; cases hk)
          have hmc : (madeCells (Value.float .f32 0).cells (i * 1)).toList = (List.replicate i 0).map F32 := by
            rw [List.map_replicate]
            show _ = List.replicate i (Value.float .f32 0)
            simpa [Value.cells] using toList_madeCells_one (Value.float .f32 0) i
          rw [hmc] at hown5
          obtain ⟨u, hu⟩ : ∃ u, u = wj.heap.size := ⟨_, rfl⟩
          rw [← hu] at hown5 hbU ⊢
          have k1 : w5.cell? ⟨u, j, none⟩ = some (.float .f32 0) := by
            rw [hown5.cellAt j (by omega), List.map_replicate, List.getElem?_replicate, if_pos hlt]; rfl
          have k2 := hown5.frozenAt j
          have hst := (hown5.stored j (.float .f32 1065353216)).1
          rw [show ((List.replicate i 0).map F32).set j (.float .f32 1065353216) = (unitsL i j).map F32 by rw [← unitsL_set i j hlt, List.map_set]; rfl] at hst
          have HU5 := Lib.hid hst
          have HB5 := Lib.hid (show Below u wj (w5.setCell ⟨u, j, none⟩ (.float .f32 1065353216)) from hbU.setCell (Nat.le_refl _) _)
          have HUE := Lib.hid hu
          clear hmc hst hbU hgrow5 hown5 hu
          go_upto_region 14 with fail
          refine wp_at fun W6 hW6 => ?_
          have HU6 := Lib.hid (show W6.ownsRow u 100 1 (.slice (some ⟨u, 0, none⟩) i i) i ((unitsL i j).map F32) by subst hW6; exact HU5.out)
          have HB6 := Lib.hid (show Below u wj W6 by subst hW6; exact HB5.out)
          clear hW6 HU5 HB5 k1 k2
          have hu := HUE.out
          have HQ6 := Lib.hid (HQj.out.below HB6.out (by omega))
          have HK6 := Lib.hid (HKoj.out.below HB6.out (by omega))
          have HO6 := Lib.hid (owns_below HO.out HB6.out (by omega))
          have HKP6 := Lib.hid (HKj.out.below HB6.out (by omega))
          have HBW6 := Lib.hid (HBWj.out.trans (HB6.out.mono (by omega)))
          have hgu : ∀ bk, (Value.slice g z cg).ownBlock = some bk → bk < u := fun bk e => by rw [hu]; exact (owns_lt HO.out e).2
          have hu6 : u < W6.heap.size := (owns_lt HU6.out (k := u) rfl).2
          have hwo6 : wo.heap.size ≤ W6.heap.size := by omega
          have hww : w.heap.size ≤ wo.heap.size := by omega
          clear HO hu
          have hw6d : wo.heap.size ≤ W6.drew.heap.size := hwo6
          have hw6a : ∀ o, wo.heap.size ≤ (W6.drew.alloc o).heap.size := fun o => by simp; omega
          have hD : Below wo.heap.size W6 W6.drew := (Below.refl _ _).drew
          have hDA : ∀ o, Below wo.heap.size W6 (W6.drew.alloc o) := fun o => (Below.refl _ _).drew.alloc hwo6 o
          have hDQ : ∀ X, Below wo.heap.size W6 X → Below w.heap.size w X := fun X hb => HBW6.out.trans (hb.mono hww)
          have d0 := HK6.out.cell 0 rfl
          have d1 := HK6.out.cell 1 rfl
          have d2 := HK6.out.cell 2 rfl
          have d3 := HK6.out.cell 3 rfl
          have d0a : ∀ o, (W6.alloc o).cell? ⟨w.heap.size, 0, none⟩ = some (.int .i64 G) := fun o => (HK6.out.below ((Below.refl _ _).alloc hwo6 o) (by omega)).cell 0 rfl
          have d1a : ∀ o, (W6.alloc o).cell? ⟨w.heap.size, 1, none⟩ = some (.slice a1 L c1) := fun o => (HK6.out.below ((Below.refl _ _).alloc hwo6 o) (by omega)).cell 1 rfl
          have d2a : ∀ o, (W6.alloc o).cell? ⟨w.heap.size, 2, none⟩ = some (.slice (some ⟨pb, po, none⟩) i c2) := fun o => (HK6.out.below ((Below.refl _ _).alloc hwo6 o) (by omega)).cell 2 rfl
          have d3a : ∀ o, (W6.alloc o).cell? ⟨w.heap.size, 3, none⟩ = some (.slice a3 G c3) := fun o => (HK6.out.below ((Below.refl _ _).alloc hwo6 o) (by omega)).cell 3 rfl
          have q1a : ∀ o, (W6.alloc o).cell? ⟨q, 1, none⟩ = some (.slice g z cg) := fun o => (HQ6.out.below ((Below.refl _ _).alloc hwo6 o) hqo).cell 1 rfl
          have q1 : W6.cell? ⟨q, 1, none⟩ = some (.slice g z cg) := HQ6.out.cell 1 rfl
          have HUL := Lib.hid (unitsL_len i j)
          obtain ⟨un, hun⟩ : ∃ un, un = unitsL i j := ⟨_, rfl⟩
          rw [← hun] at HUL HU6 HE
          obtain ⟨tn, htn⟩ : ∃ tn, tn = tabN r j := ⟨_, rfl⟩
          rw [← htn] at HE HO6
          obtain ⟨tn1, htn1⟩ : ∃ tn1, tn1 = tabN r (j + 1) := ⟨_, rfl⟩
          have HT1 := Lib.hid htn1.symm
          rw [← htn1] at HE
          clear hun htn htn1
          have hzl : z + G + i + 1 ≤ 17 * (j + 1) := by omega
          have hz200 : z + G + i + 1 ≤ 200 := by omega
          go_region_law (first
              | (go_simp; go_at_call 75; refine (HRWj.out _ (by first | exact hDQ _ hD | exact hDQ _ (hDA _))).mono ?_; rintro e wn ⟨ru, rfl, hru, hb1⟩; have hs0 := hb1.size; have hs6 : W6.heap.size ≤ wn.heap.size := (by simp at hs0; omega); have hbn : Below wo.heap.size W6 wn := (by first | exact Below.trans hD (hb1.mono hw6d) | exact Below.trans (hDA _) (hb1.mono (hw6a _))); have q1n : wn.cell? ⟨q, 1, none⟩ = some (.slice g z cg) := (HQ6.out.below hbn hqo).cell 1 rfl; have hs1 : wo.heap.size ≤ wn.heap.size := Nat.le_trans hwo6 hs6; have q1na : ∀ o, (wn.alloc o).cell? ⟨q, 1, none⟩ = some (.slice g z cg) := fun o => (HQ6.out.below (hbn.alloc hs1 o) hqo).cell 1 rfl; have ho1 : wn.ownsRow wo.heap.size 100 1 (.slice g z cg) z (tn.map F32) := (by first | exact owns_below (owns_drew HO6.out) hb1 (Nat.le_refl _) | exact owns_below ((owns_drew HO6.out).alloc _) hb1 (Nat.le_refl _)); have hu1 : Slc wn (.slice (some ⟨u, 0, none⟩) i i) (un.map F32) := (by first | exact Slc.below (slc_drew (slc_of_owns HU6.out)) hb1 (Nat.le_refl _) | exact Slc.below (slc_alloc (slc_drew (slc_of_owns HU6.out)) _) hb1 (Nat.le_refl _)); (first | (have hbs : Slc wn (.slice (some ⟨W6.heap.size, 0, none⟩) 1 1) ([bd].map F32) := Slc.below (slcF_oneB W6.drew bd _ (by simp)) hb1 (Nat.le_refl _); have hs61 : W6.heap.size < wn.heap.size := (by have := hb1.size; simp at this; omega)) | skip))
              | (refine step_app_fltsL rfl (.tmp 50) (.tmp 53) (by rfl) wo.heap.size (.slice g z cg) z tn (by rfl) (by first | exact ho1 | exact ho1.alloc _) _ rw' (by rfl) (by first | exact hru | exact slc_alloc hru _) (z + G) (tn ++ rw') (by rw [hrl]) rfl (by omega) (by first | exact hs1 | (simp; omega)) ?_; intro g8 c8 w8 hown8 hbl8 hg8 hl8; have hbn8 : Below wo.heap.size W6 w8 := (by first | exact hbn.trans hbl8 | exact (hbn.alloc hs1 _).trans hbl8); have hs8 : wo.heap.size ≤ w8.heap.size := Nat.le_trans hwo6 hbn8.size; have hu8 : Slc w8 (.slice (some ⟨u, 0, none⟩) i i) (un.map F32) := slc_grown (by first | exact hu1 | exact slc_alloc hu1 _) hg8 (fun e => absurd (hgu _ e) (Nat.lt_irrefl u)); have hn8 : (Value.slice g8 (z + G) c8).ownBlock ≠ some u := (fun e => by rcases hl8 with h8 | h8; (rw [h8] at e; have := hgu _ e; omega); (rw [h8] at e; simp at e; omega)); (first | (have hbs8 : Slc w8 (.slice (some ⟨W6.heap.size, 0, none⟩) 1 1) ([bd].map F32) := slc_grown hbs hg8 (fun e => by have h9 : W6.heap.size < u := hgu _ e; omega); have hnb8 : (Value.slice g8 (z + G) c8).ownBlock ≠ some W6.heap.size := (fun e => by rcases hl8 with h8 | h8; (rw [h8] at e; have := hgu _ e; omega); (rw [h8] at e; simp at e; omega))) | (have hbs8 : Slc w8 (.slice (some ⟨wn.heap.size, 0, none⟩) 1 1) ([bd].map F32) := slc_grown (slcF_oneB wn bd _ rfl) hg8 (fun e => by have h9 : wn.heap.size < u := hgu _ e; omega); have hnb8 : (Value.slice g8 (z + G) c8).ownBlock ≠ some wn.heap.size := (fun e => by rcases hl8 with h8 | h8; (rw [h8] at e; have := hgu _ e; omega); (rw [h8] at e; simp at e))) | skip))
              | (refine step_app_fltsL rfl (.tmp 54) (.tmp 55) (by rfl) wo.heap.size (.slice g8 (z + G) c8) (z + G) (tn ++ rw') (by rfl) (by first | exact hown8 | exact hown8.alloc _) _ un (by rfl) (by first | exact hu8 | exact slc_alloc hu8 _) (z + G + i) (tn ++ rw' ++ un) (by rw [HUL.out]) rfl (by omega) (by first | exact hs8 | (simp; omega)) ?_; intro g9 c9 w9 hown9 hbl9 hg9 hl9; have hbn9 : Below wo.heap.size W6 w9 := (by first | exact hbn8.trans hbl9 | exact (hbn8.alloc hs8 _).trans hbl9); have hs9 : wo.heap.size ≤ w9.heap.size := Nat.le_trans hwo6 hbn9.size; (first | (have hbs9 : Slc w9 (.slice (some ⟨_, 0, none⟩) 1 1) ([bd].map F32) := slc_grown hbs8 hg9 hnb8) | (have hbs9 : Slc w9 (.slice (some ⟨w8.heap.size, 0, none⟩) 1 1) ([bd].map F32) := slc_grown (slcF_oneB w8 bd _ rfl) hg9 (fun e => absurd (owns_lt hown8 e).2 (Nat.lt_irrefl w8.heap.size))) | skip))
              | (refine step_app_fltsL rfl (.tmp 56) (.tmp 58) (by rfl) wo.heap.size (.slice g9 (z + G + i) c9) (z + G + i) (tn ++ rw' ++ un) (by rfl) (by first | exact hown9 | exact hown9.alloc _) _ [bd] (by rfl) (by first | exact hbs9 | exact slcF_oneB w9 bd _ rfl) (z + G + i + 1) tn1 (by simp) (by rw [HE.out]; simp) (by omega) (by first | exact hs9 | (simp; omega)) ?_; intro ga ca wa howna hbla hga _; have hbna : Below wo.heap.size W6 wa := (by first | exact hbn9.trans hbla | exact (hbn9.alloc hs9 _).trans hbla); have qa := (HQ6.out.below hbna hqo).cell 1 rfl; have sa := (HQ6.out.below hbna hqo).free 1)
              | fail)
          all_goals
            go_wp2_with fail
            go_roundw
            case rel =>
              refine ⟨j + 1, z + G + i + 1, ga, ca, by go_num, by omega, hzl, Lib.hid (by simpa using (HQ6.out.below hbna hqo).set 1 (.slice ga (z + G + i + 1) ca)), Lib.hid (by rw [HT1.out]; exact owns_kept howna (Kept.setCell (S := (· = q)) (Kept.refl _ _) (.inr rfl) _) (fun g hg => by have := (owns_lt howna hg).1; omega)), Lib.hid ((HKP6.out.below hbna (Nat.le_refl _)).setCell (.inr rfl) _)⟩
            case measure => simp [intOf]; omega
        · obtain rfl : j = i := by omega
          have d3 := HKoj.out.cell 3 rfl
          clear d2
          go_wp2_with fail
          go_loopw [65] (fun iv wr => ∃ (k : Nat) (g : Option Addr) (cg : Nat), iv = .int .i64 k ∧ k ≤ G ∧ Hid (Blk wr q 258 #[.int .i64 G, .slice g (z + k) cg, .slice b j cc]) ∧ Hid (wr.ownsRow wo.heap.size 100 1 (.slice g (z + k) cg) (z + k) ((tabN r j ++ tabG r k).map F32)) ∧ Hid (Kept (· = q) wo wr)) (fun iv _ => G + 1 - (intOf iv).toNat)
          case atStart => exact ⟨0, g, cg, rfl, Nat.zero_le _, HQj, Lib.hid (by have := HO.out; simpa [tabG] using this), HKj⟩
          case round =>
            obtain ⟨k, g, cg, rfl, hk, HQk, HOk, HKk⟩ := hrel
            obtain ⟨wk, rfl⟩ : ∃ wk, wk = wr := ⟨wr, rfl⟩
            have HKok := Lib.hid (HKo.out.kept HKk.out (by omega))
            have hzk := HKk.out.size
            have HBWk := Lib.hid (HBW.out.trans (HKk.out.toBelow HBW.out.size (by intro k h1 h2; omega)))
            by_cases hlt : k < G
            · have hltI : (k : Int) < (G : Int) := by omega
              obtain ⟨pb, po, rfl, _, hc⟩ := (HP3.out.up HBWk.out (Nat.le_refl _)).at (i := k) (by rw [← HGE.out]; exact hlt)
              have hE := HNG.out k hlt
              obtain ⟨y, hy⟩ : ∃ y, y = r.gains.getD k 0 := ⟨_, rfl⟩
              rw [← hy] at hc hE
              obtain ⟨tn, htn⟩ : ∃ tn, tn = tabN r j ++ tabG r k := ⟨_, rfl⟩
              have HPE := Lib.hid (show tabN r j ++ tabG r (k + 1) = tn ++ [negF y] by rw [hE, htn, List.append_assoc])
              rw [← htn] at HOk
              clear hy hE htn
              have q1 := HQk.out.cell 1 rfl
              have hqk : q < wk.heap.size := HQk.out.lt
              have hzw : wo.heap.size ≤ wk.heap.size := by omega
              go_wp2_with (at_builtin; refine app_flts rfl _ _ rfl wo.heap.size (.slice g (z + k) cg) (z + k) tn rfl (HOk.out.alloc _) _ [negF y] rfl (slcF_oneB _ _ _ (by simp)) (z + k + 1) (tabN r j ++ tabG r (k + 1)) (by simp) HPE.out (by omega) (by simp; omega) ?_; intro b3 c3' w3 hown3 hbl3 _ _; have HO3 := Lib.hid hown3; have HQ4 := Lib.hid ((HQk.out.alloc (.cells #[.float .f32 (negF y)] 100)).below hbl3 hqo); have HKP4 := Lib.hid (HKk.out.below (((Below.refl _ _).alloc hzw _).trans hbl3) (Nat.le_refl _)); have s1 := HQ4.out.free 1; have t1 := HQ4.out.cell 1 rfl; clear hown3 hbl3)
              go_roundw
              case rel =>
                refine ⟨k + 1, b3, c3', by go_num, by omega, Lib.hid (by simpa [Nat.add_assoc] using HQ4.out.set 1 (.slice b3 (z + k + 1) c3')), Lib.hid (owns_kept HO3.out (Kept.setCell (S := (· = q)) (Kept.refl _ _) (.inr rfl) _) (fun g hg => by have := (owns_lt HO3.out hg).1; omega)), Lib.hid (HKP4.out.setCell (.inr rfl) _)⟩
              case measure => simp [intOf]; omega
            · obtain rfl : k = G := by omega
              have q1 := HQk.out.cell 1 rfl
              have d2 := HKok.out.cell 2 rfl
              have hzw : wo.heap.size ≤ wk.heap.size := hzk
              have hTB := HTAB.out
              have HTB := Lib.hid hTB
              obtain ⟨tn, htn⟩ : ∃ tn, tn = tabN r j ++ tabG r k := ⟨_, rfl⟩
              rw [← htn] at HOk HTB
              clear hTB htn HTAB
              go_upto_region 22 with (at_builtin; refine app_zerosF rfl _ _ rfl wo.heap.size (.slice g (z + k) cg) (z + k) tn rfl HOk.out (j + 1) rfl (by omega) (z + k + (j + 1)) (tn ++ List.replicate (j + 1) 0) rfl rfl (by omega) hzw ?_; intro gz cz wz hownz hblz _; have HOZ := Lib.hid hownz; have HQZ := Lib.hid (HQk.out.below hblz hqo); have HKZ := Lib.hid (HKk.out.below hblz (Nat.le_refl _)); have HRZ := Lib.hid ((HRP.out.kept HKk.out (by omega)).below hblz (by omega)); have s1 := HQZ.out.free 1; have t1 := HQZ.out.cell 1 rfl; clear hownz hblz)
              refine wp_at fun WA hWA => ?_
              have HQA := Lib.hid (show Blk WA q 258 #[.int .i64 k, .slice gz (z + k + (j + 1)) cz, .slice b j cc] by subst hWA; simpa using HQZ.out.set 1 (.slice gz (z + k + (j + 1)) cz))
              have HKA := Lib.hid (show Kept (· = q) wo WA by subst hWA; exact HKZ.out.setCell (.inr rfl) _)
              have HRA := Lib.hid (show Blk WA (w.heap.size + 1) 258 #[.int .i64 0, .slice none 0 0, .slice none 0 0] by subst hWA; exact HRZ.out.other (by simp; omega) _)
              have HOA := Lib.hid (show WA.ownsRow wo.heap.size 100 1 (.slice gz (z + k + (j + 1)) cz) (z + k + (j + 1)) ((tn ++ List.replicate (j + 1) 0).map F32) by subst hWA; exact owns_kept HOZ.out (Kept.setCell (S := (· = q)) (Kept.refl _ _) (.inr rfl) _) (fun g hg => by have := (owns_lt HOZ.out hg).1; omega))
              clear hWA s1 t1 q1
              have qa0 := HQA.out.cell 0 rfl
              have qa1 := HQA.out.cell 1 rfl
              have qa2 := HQA.out.cell 2 rfl
              have r0 := HRA.out.cell 0 rfl
              have r1 := HRA.out.cell 1 rfl
              have r2 := HRA.out.cell 2 rfl
              have s0 := HRA.out.free 0
              have s1 := HRA.out.free 1
              have s2 := HRA.out.free 2
              go_wp2_with fail
              refine bodyPost_ret (v := .tuple #[.agg #[.int .i64 k, .slice gz (z + k + (j + 1)) cz, .slice b j cc], .bool true]) (by simp [results, Tryz.results316, go_sem, *]) rfl ?_
              have FIN : ∀ Wf, Kept (· = w.heap.size + 1) WA Wf → ∃ tv, (Ending.returned (.tuple #[.agg #[.int .i64 k, .slice gz (z + k + (j + 1)) cz, .slice b j cc], .bool true]) : Ending) = .returned (.tuple #[tv, .bool true]) ∧ (∀ Wg, Kept (· < w.heap.size) Wf Wg → RdTb Wg tv (tableT r)) ∧ Below w.heap.size w Wf := fun Wf hk => by
                have hkf : Kept (fun x => x = q ∨ x = w.heap.size + 1) wo Wf := (HKA.out.mono (fun _ _ h => Or.inl h)).step hk (fun _ _ h => Or.inr h)
                refine ⟨_, rfl, fun Wg hg => ?_, HBW.out.trans (hkf.toBelow HBW.out.size (by intro x h1 h2; omega))⟩
                have h1 : RdF Wg (.slice gz (z + k + (j + 1)) cz) (tn ++ List.replicate (j + 1) 0) := slc_of_owns (owns_kept (owns_kept HOA.out hk (fun g hg => by have := (owns_lt HOA.out hg).1; omega)) hg (fun g hg => by have := (owns_lt HOA.out hg).1; omega))
                have h2 : RdI Wg (.slice b j cc) (tabB r j) := slc_of_owns (owns_kept (owns_kept HBI.out hkf (fun g hg => by have := owns_lt HBI.out hg; omega)) hg (fun g hg => by have := (owns_lt HBI.out hg).1; omega))
                rw [HTB.out]
                exact ⟨_, _, rfl, h1, h2⟩
              refine FIN _ ?_
              repeat' first | exact Kept.refl _ _ | refine Kept.setCell ?_ (.inr (by simp)) _
end Go.Proofs.YtgkbbpajkbkgnaaGreatDoor
