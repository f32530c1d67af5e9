/-
  FnJournal: texts joined: DkCar, DkOwnI, DkCmd, DrwD.
-/
import Derived.Deep.RegionHeld3
import Derived.Deep.MidRow
import Derived.Test.YtgkbbpajkbkgnaaGreatDoorMFnJournalAG
import Derived.Test.YtgkbbpajkbkgnaaGreatDoorMFnJournalAH
import Derived.Test.YtgkbbpajkbkgnaaGreatDoorMFnJournalBD
import Derived.Test.YtgkbbpajkbkgnaaGreatDoorMFnJournalBF
set_option linter.unusedVariables false
set_option linter.unusedSimpArgs false
namespace Go.Proofs.YtgkbbpajkbkgnaaGreatDoor
open Go.RowKit Go.Sort
theorem tell_yes {d : DeskD} {s y : ByteArray} {ok : Bool} {v : Value} {w : World} (h : RdD w v d) (hv : validDk d = true) (hb : BitsD d) (hp : HasPow w) (e : tellK d s = some (y, ok)) :
    Calls Tryz.prog 173 #[v, .string s] w fun e w' => e = .returned (.tuple #[.string y, .bool ok, .bool true]) ∧ Below w.heap.size w w' := by
  have := tell_any v d s w h hv hb hp
  rw [e] at this
  exact this
theorem tell_no {d : DeskD} {s : ByteArray} {v : Value} {w : World} (h : RdD w v d) (hv : validDk d = true) (hb : BitsD d) (hp : HasPow w) (e : tellK d s = none) :
    Calls Tryz.prog 173 #[v, .string s] w fun e w' => e = .returned (.tuple #[.string E0, .bool false, .bool false]) ∧ Below w.heap.size w w' := by
  have := tell_any v d s w h hv hb hp
  rw [e] at this
  exact this
set_option maxHeartbeats 1000000 in
set_option maxRecDepth 4000 in
theorem carTwo_any (lo bb : Nat) (d : DeskD) (s : ByteArray) (w : World) (h : DskAt lo w bb d) (hlo : lo ≤ w.heap.size) (hp : HasPow w) (hm : HasMax w) (he : HasErrs w) (hs : s.size ≤ 1048576) (h2 : (cutS 32 s).length = 2) :
    Calls Tryz.prog 124 #[.pointer (some ⟨bb, 0, none⟩), .string s] w (TwoPost lo bb w (twoK d ((cutS 32 s).getD 0 E0) ((cutS 32 s).getD 1 E0))) := by
  have HSP := Lib.hid (SplitC_any 32 s w hm hs)
  have HLE := Lib.hid (cutS_le 32 s)
  have HD := Lib.hid h
  have HPW := Lib.hid hp
  have HMX := Lib.hid hm
  have HER := Lib.hid he
  have HSZ := Lib.hid hs
  obtain ⟨ps, hps⟩ : ∃ ps, ps = cutS 32 s := ⟨_, rfl⟩
  rw [← hps] at HSP HLE h2 ⊢
  rw [h2] at HSP
  have H2 := Lib.hid h2
  obtain ⟨x, hx⟩ : ∃ x, x = ps.getD 0 E0 := ⟨_, rfl⟩
  obtain ⟨y, hy⟩ : ∃ y, y = ps.getD 1 E0 := ⟨_, rfl⟩
  rw [← hx, ← hy]
  have HX := Lib.hid hx
  have HY := Lib.hid hy
  obtain ⟨r, hr⟩ : ∃ r, r = twoK d x y := ⟨_, rfl⟩
  rw [← hr]
  have HTW0 := Lib.hid hr.symm
  clear h hp hm he hs h2 hps hx hy hr
  go_enter Tryz.func124, Tryz.ntmps124
  go_upto_region 2 with (go_at_call 83; refine HSP.out.mono ?_; rintro e w1 ⟨wa, wc, rfl, hrs, hb1⟩)
  have HB1 := Lib.hid hb1
  obtain ⟨b, off, rfl, hlt, t0⟩ := hrs.at (i := 0) (by rw [H2.out]; omega)
  obtain ⟨b', off', e', _, t1⟩ := hrs.at (i := 1) (by rw [H2.out]; omega)
  cases e'
  rw [← HX.out, Nat.add_zero] at t0
  rw [← HY.out] at t1
  have HYS := Lib.hid (show y.size ≤ 1048576 by
    have := HLE.out y (by rw [HY.out]; exact getD_mem (by rw [H2.out]; omega))
    have := HSZ.out
    omega)
  have HTW := Lib.hid (fun (X : World) (hb : Below w.heap.size w X) => two_any lo bb d x y X (HD.out.up hb (Nat.le_refl _)) (Nat.le_trans hlo hb.size) (HPW.out.up hb (Nat.le_refl _)) (HMX.out.up hb (Nat.le_refl _)) (HER.out.up hb (Nat.le_refl _)) HYS.out)
  rw [HTW0.out] at HTW
  clear hrs hb1 HX HY HSP HLE H2
  go_upto_region 3 with fail
  go_region_with (go_at_call 172; refine (HTW.out w1.drew HB1.out.drew).mono ?_; rintro e w2 ⟨rfl, hd2, hk2⟩)
  all_goals go_wp2_with fail
  all_goals go_simp
  all_goals go_ret3
  all_goals exact ⟨rfl, hd2, (Kept.of_below HB1.out.drew (Nat.le_refl _)).trans hk2⟩
set_option maxHeartbeats 1000000 in
set_option maxRecDepth 4000 in
theorem carMany_any (bb : Nat) (s : ByteArray) (w : World) (hm : HasMax w) (hs : s.size ≤ 1048576) (h2 : 2 < (cutS 32 s).length) :
    Calls Tryz.prog 124 #[.pointer (some ⟨bb, 0, none⟩), .string s] w fun e w' => e = .returned (.tuple #[.string E0, .bool false, .bool false]) ∧ Below w.heap.size w w' := by
  have HSP := Lib.hid (SplitC_any 32 s w hm hs)
  obtain ⟨n, hn⟩ : ∃ n, n = (cutS 32 s).length := ⟨_, rfl⟩
  rw [← hn] at HSP h2
  clear hm hs hn
  have t1 : ((n : Int) == 2) = false := by simp; omega
  have t2 : decide (2 < (n : Int)) = true := by simp; omega
  go_enter Tryz.func124, Tryz.ntmps124
  go_wp2_with (go_at_call 83; refine HSP.out.mono ?_; rintro e w1 ⟨wa, wc, rfl, hrs, hb1⟩)
  go_ret3
  exact ⟨rfl, hb1⟩
set_option maxHeartbeats 1000000 in
set_option maxRecDepth 4000 in
theorem carScale_any (lo bb : Nat) (d : DeskD) (w : World) (h : DskAt lo w bb d) (hlo : lo ≤ w.heap.size) (hm : HasMax w) :
    Calls Tryz.prog 124 #[.pointer (some ⟨bb, 0, none⟩), .string ⟨#[115, 99, 97, 108, 101]⟩] w (TwoPost lo bb w ({ d with rows := scaleV d.rows }, kwOk, scaleOk d.rows, true)) := by
  have HSP := Lib.hid (SplitC_any 32 kwScale w hm (by decide))
  rw [show (cutS 32 kwScale).length = 1 by decide] at HSP
  have HD := Lib.hid h
  obtain ⟨q2, hq2⟩ : ∃ q, q = scaleOk d.rows := ⟨_, rfl⟩
  have HDR := Lib.hid (fun (v : Value) (X : World) (hr : RdR X v d.rows) => scaleI_any v d.rows X hr)
  obtain ⟨y, hy⟩ : ∃ y, y = scaleV d.rows := ⟨_, rfl⟩
  rw [← hq2, ← hy] at HDR ⊢
  clear h hm hq2 hy
  go_enter Tryz.func124, Tryz.ntmps124
  go_upto_region 2 with (go_at_call 83; refine HSP.out.mono ?_; rintro e w1 ⟨wa, wc, rfl, hrs, hb1⟩)
  have HB1 := Lib.hid hb1
  have HD1 := Lib.hid (HD.out.up hb1 (Nat.le_refl _))
  obtain ⟨a1, c1, a2, c2, a3, c3, a4, c4, a5, c5, a6, c6, hblk, hown⟩ := HD1.out.shape
  have d0 := hblk.cell 0 rfl
  have d1 := hblk.cell 1 rfl
  have d2 := hblk.cell 2 rfl
  have d3 := hblk.cell 3 rfl
  have HRD := Lib.hid hown.rd.parts.1
  clear hb1 hown hrs
  go_upto_region 8 with (go_at_call 25; refine (HDR.out _ _ HRD.out).mono ?_; rintro e w2 ⟨v', rfl, ho, hb2⟩; obtain ⟨b1, e1, b2, e2, b3, e3, rfl⟩ := ho.rd.shape)
  refine wp_at fun W3 hW3 => ?_
  have HB3 := Lib.hid (show Below w1.heap.size w1 W3 by subst hW3; exact hb2.alloc hb2.size _)
  have HK3 := Lib.hid (show Blk W3 w2.heap.size 26 #[.int .i64 y.vars, .slice b1 y.nums.length e1, .slice b2 y.bnds.length e2, .slice b3 y.gains.length e3] by subst hW3; exact Blk.new _ _ _)
  have HO3 := Lib.hid (show OwnR lo W3.heap.size W3 (.agg #[.int .i64 y.vars, .slice b1 y.nums.length e1, .slice b2 y.bnds.length e2, .slice b3 y.gains.length e3]) y by
    subst hW3
    exact (ho.up ((Below.refl w2.heap.size w2).alloc (Nat.le_refl _) _) (Nat.le_refl _)).wide (Nat.le_trans hlo HB1.out.size) ((Below.refl w2.heap.size w2).alloc (Nat.le_refl _) _).size)
  clear hW3 d0 d1 d2 d3 ho hb2 hblk
  have HD3 := Lib.hid (HD1.out.up HB3.out (Nat.le_refl _))
  obtain ⟨va, vb, vc, vs, vj, vw, hB3, _⟩ := HD3.out.parts
  have f0 := hB3.free 0
  have f1 := hB3.free 1
  have f2 := hB3.free 2
  have f3 := hB3.free 3
  have g0 := hB3.cell 0 rfl
  have g1 := hB3.cell 1 rfl
  have g2 := hB3.cell 2 rfl
  have g3 := hB3.cell 3 rfl
  have k0 := HK3.out.cell 0 rfl
  have k1 := HK3.out.cell 1 rfl
  have k2 := HK3.out.cell 2 rfl
  have k3 := HK3.out.cell 3 rfl
  go_wp2_with fail
  go_ret3
  have hq1 := HD3.out.rows HO3.out
  have hq2 := kept_fill (bb := bb) (Kept.of_below (HB1.out.trans (HB3.out.mono HB1.out.size)) (Nat.le_refl _)) (.int .i64 y.vars) (.slice b1 y.nums.length e1) (.slice b2 y.bnds.length e2) (.slice b3 y.gains.length e3)
  unfold fill4 at hq1 hq2
  exact ⟨rfl, hq1, hq2⟩
set_option maxHeartbeats 1000000 in
set_option maxRecDepth 4000 in
theorem carTell_any (lo bb : Nat) (d : DeskD) (s y : ByteArray) (ok f : Bool) (w : World) (h : DskAt lo w bb d) (hm : HasMax w) (hs : s.size ≤ 1048576) (h1 : (cutS 32 s).length ≤ 1) (hd : s ≠ kwScale)
    (hc : ∀ v X, RdD X v d → Below w.heap.size w X → Calls Tryz.prog 173 #[v, .string s] X fun e w' => e = .returned (.tuple #[.string y, .bool ok, .bool f]) ∧ Below X.heap.size X w') :
    Calls Tryz.prog 124 #[.pointer (some ⟨bb, 0, none⟩), .string s] w (TwoPost lo bb w (d, y, ok, f)) := by
  have HSP := Lib.hid (SplitC_any 32 s w hm hs)
  obtain ⟨n, hn⟩ : ∃ n, n = (cutS 32 s).length := ⟨_, rfl⟩
  rw [← hn] at HSP h1
  have HD := Lib.hid h
  have HC := Lib.hid hc
  have nScale := str_neL (a := #[115, 99, 97, 108, 101]) (l := [115, 99, 97, 108, 101]) hd rfl
  have t1 : ((n : Int) == 2) = false := by simp; omega
  have t2 : decide (2 < (n : Int)) = false := by simp; omega
  clear h hm hs hn hc hd h1
  go_enter Tryz.func124, Tryz.ntmps124
  go_upto_region 2 with (go_at_call 83; refine HSP.out.mono ?_; rintro e w1 ⟨wa, wc, rfl, hrs, hb1⟩)
  have HB1 := Lib.hid hb1
  have HD1 := Lib.hid (HD.out.up hb1 (Nat.le_refl _))
  obtain ⟨a1, c1, a2, c2, a3, c3, a4, c4, a5, c5, a6, c6, hblk, hown⟩ := HD1.out.shape
  have d0 := hblk.cell 0 rfl
  have d1 := hblk.cell 1 rfl
  have d2 := hblk.cell 2 rfl
  have d3 := hblk.cell 3 rfl
  have d4 := hblk.cell 4 rfl
  have d5 := hblk.cell 5 rfl
  have d6 := hblk.cell 6 rfl
  have HRD := Lib.hid hown.rd
  clear hb1 hown hrs
  go_wp2_with (go_at_call 173; refine (HC.out _ _ HRD.out HB1.out).mono ?_; rintro e w2 ⟨rfl, hb2⟩)
  go_ret3
  have hb := HB1.out.trans (hb2.mono HB1.out.size)
  exact ⟨rfl, HD.out.up hb (Nat.le_refl _), Kept.of_below hb (Nat.le_refl _)⟩
theorem car_any (lo bb : Nat) (d : DeskD) (s : ByteArray) (w : World) (h : DskAt lo w bb d) (hv : validDk d = true) (hbt : BitsD d) (hlo : lo ≤ w.heap.size) (hp : HasPow w) (hm : HasMax w) (he : HasErrs w) (hs : s.size ≤ 1048576) :
    Calls Tryz.prog 124 #[.pointer (some ⟨bb, 0, none⟩), .string s] w (TwoPost lo bb w (carK d s)) := by
  unfold carK
  by_cases h2 : (cutS 32 s).length = 2
  · rw [if_pos h2]
    exact carTwo_any lo bb d s w h hlo hp hm he hs h2
  rw [if_neg h2]
  by_cases h3 : 2 < (cutS 32 s).length
  · rw [if_pos h3]
    refine (carMany_any bb s w hm hs h3).mono ?_
    rintro e w1 ⟨rfl, hb⟩
    exact ⟨rfl, h.up hb (Nat.le_refl _), Kept.of_below hb (Nat.le_refl _)⟩
  rw [if_neg h3]
  by_cases hd : s = kwScale
  · rw [if_pos hd]
    subst hd
    exact carScale_any lo bb d w h hlo hm
  rw [if_neg hd]
  cases E : tellK d s with
  | some p => obtain ⟨y, ok⟩ := p; exact carTell_any lo bb d s y ok true w h hm hs (by omega) hd fun v X hr hb => tell_yes hr hv hbt (hp.up hb (Nat.le_refl _)) E
  | none => exact carTell_any lo bb d s E0 false false w h hm hs (by omega) hd fun v X hr hb => tell_no hr hv hbt (hp.up hb (Nat.le_refl _)) E
end Go.Proofs.YtgkbbpajkbkgnaaGreatDoor

namespace Go.Proofs.YtgkbbpajkbkgnaaGreatDoor
open Go.RowKit Go.Sort
theorem step_app_jobs {w : World} {ops : Array Oper} {o : Oper} {a : Act} {K : Act → World → Prop} {Q : Exit → Act → World → Prop} {E : Prop} (hgd : o.guard = none) (s x : Operand)
    (ho : o.op = .call { callee := .builtin .append, args := #[s, x], argTypes := #[28, 28] })
    (base : Nat) (v : Value) (hs : a.eval s = v) (hown : w.ownsRow base 86 4 v 0 (jobsC []))
    (js : List JobD) (u : Value) (hx : a.eval x = u) (hr : RdJ w u js) (h1 : 1 ≤ js.length) (hlen : js.length ≤ 1048576) (hbase : base ≤ w.heap.size)
    (h : ∀ a' cap' w', OwnJ base w'.heap.size w' (.slice a' js.length cap') js → Below base w w' → w.grownBy w' v.ownBlock → K (a.put o.dst (.slice a' js.length cap')) w') :
    if Region.wanted o (yielded ops a.tmps) = true then Oper.wp Tryz.prog o a w K Q else E := by
  have hwt : Region.wanted o (yielded ops a.tmps) = true := by simp [Region.wanted, hgd]
  rw [if_pos hwt]
  obtain ⟨i0, hi, hz0, hz1, hz2⟩ := info_parts Tryz.infoJob
  rcases hr with ⟨_, _, _, _, e⟩ | ⟨b, off, cap, rfl, hc1, hc2, hcell⟩
  · subst e; simp at h1
  have hc : ∀ t u, (jobsC js)[t]? = some u → w.cell? ((⟨b, off, none⟩ : Addr).add t) = some u := by
    intro t u ht
    have htl : t < js.length * 4 := by
      rw [← jobsC_len]
      exact (List.getElem?_eq_some_iff.1 ht).1
    have h2 : ((⟨b, off, none⟩ : Addr).add t) = ⟨b, off + t, none⟩ := by unfold Addr.add; split <;> simp_all
    rw [h2]
    have e : t = t / 4 * 4 + t % 4 := by omega
    have h3 := hcell (t / 4) (by omega) (t % 4) u (by rw [← jobsC_at js (t / 4) (t % 4) (by omega) (by omega), ← e]; exact ht)
    rw [show off + t / 4 * 4 + t % 4 = off + t by omega] at h3
    exact h3
  have h1c : ∀ y ∈ jobsC js, y.oneCell' = true := by
    intro y hy
    simp only [jobsC, List.mem_flatMap] at hy
    obtain ⟨j, _, hy⟩ := hy
    simp only [jobCells, List.mem_cons, List.not_mem_nil, or_false] at hy
    rcases hy with rfl | rfl | rfl | rfl <;> rfl
  obtain ⟨v', w', hrn, h2, h3, _, h5⟩ := run_append_own_at (P := Tryz.prog) w base 28 o.type 86 i0 (.agg #[.int .i64 0, .int .i64 0, .int .i64 0, .int .i64 0]) 4 32 Tryz.underlying28 hi hz0 hz1 hz2 rfl (by decide) v 0 (jobsC []) hown ⟨b, off, none⟩ js.length cap (jobsC js) (jobsC_len js) hc h1c (by unfold maxLen; omega) (by omega) hbase
  obtain ⟨a', cap', rfl⟩ := owns4_shape h2
  unfold Oper.wp execOp
  simp only [ho, resolve, invoke, builtin, Sem.run_bind, Sem.run_pure, Result.andThen_ok, List.map_toArray, List.map_cons, List.map_nil, hs, hx, hrn, Nat.zero_add]
  refine h a' cap' w' (OwnJ.mk ?_) (belowK_grown hown hbase h3) h3
  simpa [jobsC] using h2
theorem bulk_valid {r : RowsD} (h : validR r = true) : bulkR r ≤ 1048576 := by
  have h := validR_iff.1 h
  have h1 := h.v1
  have h8 := h.v8
  have hb := h.b8
  have hg := h.gl
  have hn := h.nl
  unfold bulkR
  have : r.vars * (r.bnds.length : Int) ≤ 8 * 8 := Int.mul_le_mul h8 (by omega) (by omega) (by omega)
  omega
theorem setCells_blk {b : Nat} {t : TypeId} : ∀ (vs : List Value) (o : Nat) (w : World) (cur : Array Value), Blk w b t cur → (∃ cs, Blk (w.setCells b o vs) b t cs ∧ cs.size = cur.size) ∧ Kept (· = b) w (w.setCells b o vs) ∧ (w.setCells b o vs).heap.size = w.heap.size
  | [], o, w, cur, h => ⟨⟨cur, h, rfl⟩, Kept.refl _ _, rfl⟩
  | v :: vs, o, w, cur, h => by
    obtain ⟨⟨cs, h1, h2⟩, h3, h4⟩ := setCells_blk vs (o + 1) (w.setCell ⟨b, o, none⟩ v) _ (h.set o v)
    refine ⟨⟨cs, h1, by rw [h2]; simp⟩, (kept_put (Kept.refl _ w) o v).trans h3, ?_⟩
    show ((w.setCell ⟨b, o, none⟩ v).setCells b (o + 1) vs).heap.size = w.heap.size
    rw [h4]
    simp [World.setCell]
theorem store_blk {w : World} {b : Nat} {t : TypeId} {old cells : Array Value} (hblk : Blk w b t old) (hsz : old.size = cells.size) : w.there b 0 cells.size ∧ Blk (w.setCells b 0 cells.toList) b t cells ∧ Kept (· = b) w (w.setCells b 0 cells.toList) ∧ (w.setCells b 0 cells.toList).heap.size = w.heap.size := by
  have ht : w.there b 0 cells.size := fun j hj => by
    have h1 : old[j]? = some old[j] := Array.getElem?_eq_getElem (by omega)
    refine ⟨?_, ?_⟩
    · rw [Nat.zero_add, hblk.cell j h1]; rfl
    · rw [Nat.zero_add]; exact hblk.free j
  obtain ⟨⟨cs, h1, h2⟩, h3, h4⟩ := setCells_blk cells.toList 0 w old hblk
  refine ⟨ht, ?_, h3, h4⟩
  have hr := World.rangeAt_setCells_same w b 0 cells.toList (by simpa using ht)
  have e : cs = cells := by
    refine Array.ext (by omega) fun j hj1 hj2 => ?_
    have h5 := hr j cells[j] (by simp [hj2])
    rw [Nat.zero_add, h1.cell j (Array.getElem?_eq_getElem hj1)] at h5
    exact Option.some.inj h5
  rw [e] at h1
  exact h1
def deskPut (w : World) (b : Nat) (cs : Array Value) : World := w.setCells b 0 cs.toList
theorem deskPut_blk {w : World} {b : Nat} {t : TypeId} {old cells : Array Value} (hblk : Blk w b t old) (hsz : old.size = cells.size) : Blk (deskPut w b cells) b t cells ∧ Kept (· = b) w (deskPut w b cells) ∧ (deskPut w b cells).heap.size = w.heap.size := (store_blk hblk hsz).2
def stDesk (b : Nat) (cs : Array Value) : Sem Unit := Instr.storeAt 30 (.pointer (some ⟨b, 0, none⟩)) (.agg cs)
def stDeskG (p v : Value) : Sem Unit := Instr.storeAt 30 p v
theorem stDeskP (p v : Value) : Instr.storeAt 30 p v = stDeskG p v := rfl
theorem stDesk_in (b : Nat) (n : Int) (a1 a2 a3 a4 a5 a6 : Option Addr) (n1 c1 n2 c2 n3 c3 n4 c4 n5 c5 n6 c6 : Nat) : stDeskG (.pointer (some ⟨b, 0, none⟩)) (.agg #[.int .i64 n, .slice a1 n1 c1, .slice a2 n2 c2, .slice a3 n3 c3, .slice a4 n4 c4, .slice a5 n5 c5, .slice a6 n6 c6]) = stDesk b #[.int .i64 n, .slice a1 n1 c1, .slice a2 n2 c2, .slice a3 n3 c3, .slice a4 n4 c4, .slice a5 n5 c5, .slice a6 n6 c6] := rfl
theorem stDesk_run (b : Nat) (n : Int) (a1 a2 a3 a4 a5 a6 : Option Addr) (n1 c1 n2 c2 n3 c3 n4 c4 n5 c5 n6 c6 : Nat) (w : World) (h : w.there b 0 7) : (stDesk b #[.int .i64 n, .slice a1 n1 c1, .slice a2 n2 c2, .slice a3 n3 c3, .slice a4 n4 c4, .slice a5 n5 c5, .slice a6 n6 c6]).run Tryz.prog w = .ok () (deskPut w b #[.int .i64 n, .slice a1 n1 c1, .slice a2 n2 c2, .slice a3 n3 c3, .slice a4 n4 c4, .slice a5 n5 c5, .slice a6 n6 c6]) :=
  run_storeAt_mid w b 0 30 _ h (by kernel_rfl) (by simp [Value.oneCell'])
theorem desk_cells {w : World} {g : Nat} {x0 x1 x2 x3 x4 x5 x6 : Value} (h : Blk w g 30 #[x0, x1, x2, x3, x4, x5, x6]) : w.cell? ⟨g, 0, none⟩ = some x0 ∧ w.cell? ⟨g, 1, none⟩ = some x1 ∧ w.cell? ⟨g, 2, none⟩ = some x2 ∧ w.cell? ⟨g, 3, none⟩ = some x3 ∧ w.cell? ⟨g, 4, none⟩ = some x4 ∧ w.cell? ⟨g, 5, none⟩ = some x5 ∧ w.cell? ⟨g, 6, none⟩ = some x6 :=
  ⟨h.cell 0 rfl, h.cell 1 rfl, h.cell 2 rfl, h.cell 3 rfl, h.cell 4 rfl, h.cell 5 rfl, h.cell 6 rfl⟩
theorem ownDx_fin {w W Wl : World} {d : DeskD} {yA yB yC vs vj vw : Value} {lA hA lB hB lC hC lD hD : Nat} (hb : Below w.heap.size w W) (hbn : Below W.heap.size W Wl) (hsz : w.heap.size + 1 < W.heap.size)
    (oA : OwnR lA hA Wl (.agg #[.int .i64 d.rows.vars, yA, yB, yC]) d.rows) (oB : OwnI lB hB Wl vs d.sizes) (oD : OwnJ lD hD Wl vj d.jobs) (oC : OwnI lC hC Wl vw d.ways) (gA : W.heap.size ≤ lA ∧ hA ≤ Wl.heap.size) (gB : W.heap.size ≤ lB ∧ hB ≤ Wl.heap.size) (gC : W.heap.size ≤ lC ∧ hC ≤ Wl.heap.size) (gD : W.heap.size ≤ lD ∧ hD ≤ Wl.heap.size)
    (dBC : hB ≤ lC ∨ hC ≤ lB) :
    ∀ Wf, Kept (· = w.heap.size + 1) Wl Wf → Wf.heap.size = Wl.heap.size → OwnDx w.heap.size Wf (.agg #[.int .i64 d.rows.vars, yA, yB, yC, vs, vj, vw]) d ∧ Below w.heap.size w Wf := by
  intro Wf hk hz
  have z1 := hb.size
  have z2 := hbn.size
  have k1 := (oA.kept hk (by intro b h1 h2 h3; omega)).wide (lo' := w.heap.size) (hi' := Wf.heap.size) (by omega) (by omega)
  have k2 := (oB.kept hk (by intro b h1 h2 h3; omega)).wide (lo' := w.heap.size) (hi' := Wf.heap.size) (by omega) (by omega)
  have k3 := (oD.kept hk (by intro b h1 h2 h3; omega)).wide (lo' := w.heap.size) (hi' := Wf.heap.size) (by omega) (by omega)
  have k4 := (oC.kept hk (by intro b h1 h2 h3; omega)).wide (lo' := w.heap.size) (hi' := Wf.heap.size) (by omega) (by omega)
  have hbl : Below w.heap.size w Wl := hb.trans (hbn.mono hb.size)
  refine ⟨⟨_, _, _, _, _, _, rfl, k1, k2, k3, k4, ?_⟩, hbl.trans (hk.toBelow hbl.size (by intro k h1 h2; omega))⟩
  intro g q1 q2
  have := oB.blk q1
  have := oC.blk q2
  omega
section
attribute [local go_sem ↓] stDeskP
attribute [local go_sem] stDesk_in stDesk_run
set_option maxHeartbeats 4000000 in
set_option maxRecDepth 8000 in
theorem own_any (v : Value) (d : DeskD) (w : World) (h : RdD w v d) (hv : validDk d = true) :
    Calls Tryz.prog 54 #[v] w fun e w' => ∃ v', e = .returned v' ∧ OwnDx w.heap.size w' v' d ∧ Below w.heap.size w w' := by
  obtain ⟨y1, y2, y3, y4⟩ := valid_parts hv
  obtain ⟨a1, c1, a2, c2, a3, c3, a4, c4, a5, c5, a6, c6, rfl⟩ := h.shape
  obtain ⟨p1, p2, p3, p4⟩ := h.parts
  have P1 := Lib.hid p1
  have P2 := Lib.hid p2
  have P3 := Lib.hid p3
  have P4 := Lib.hid p4
  have L1 := Lib.hid (bulk_valid y1)
  have L2 : Hid (d.sizes.length ≤ 17592186044416) := Lib.hid (by have := (short_sizes y2).2; omega)
  have L3 : Hid (1 ≤ d.jobs.length ∧ d.jobs.length ≤ 1048576) := Lib.hid (by have := jobs_all y3; omega)
  have L4 : Hid (d.ways.length ≤ 17592186044416) := Lib.hid (by have := (short_ways y4).2; omega)
  clear h p1 p2 p3 p4 y1 y2 y3 y4 hv
  go_enter Tryz.func54, Tryz.ntmps54
  go_wp2_with fail
  refine wp_at fun W hW => ?_
  have HB := Lib.hid (show Below w.heap.size w W by subst hW; (repeat' first | exact Below.refl _ _ | assumption | refine Below.alloc ?_ ?_ _ | refine Below.setCell ?_ ?_ _ | refine Below.drew ?_ | (simp; done) | (simp; omega)))
  have HK := Lib.hid (show Blk W w.heap.size 30 #[.int .i64 d.rows.vars, .slice a1 d.rows.nums.length c1, .slice a2 d.rows.bnds.length c2, .slice a3 d.rows.gains.length c3, .slice a4 d.sizes.length c4, .slice a5 d.jobs.length c5, .slice a6 d.ways.length c6] by subst hW; exact (Blk.new _ _ _).alloc _)
  have HL := Lib.hid (show Blk W (w.heap.size + 1) 30 #[.int .i64 0, .slice none 0 0, .slice none 0 0, .slice none 0 0, .slice none 0 0, .slice none 0 0, .slice none 0 0] by subst hW; simpa using Blk.new (w.alloc (.cells #[.int .i64 d.rows.vars, .slice a1 d.rows.nums.length c1, .slice a2 d.rows.bnds.length c2, .slice a3 d.rows.gains.length c3, .slice a4 d.sizes.length c4, .slice a5 d.jobs.length c5, .slice a6 d.ways.length c6] 30)) 30 #[.int .i64 0, .slice none 0 0, .slice none 0 0, .slice none 0 0, .slice none 0 0, .slice none 0 0, .slice none 0 0])
  clear hW
  have hl1 := HL.out.lt
  have Q1 := Lib.hid (P1.out.up HB.out (Nat.le_refl _))
  have Q2 := Lib.hid (P2.out.up HB.out (Nat.le_refl _))
  have Q3 := Lib.hid (P3.out.up HB.out (Nat.le_refl _))
  have Q4 := Lib.hid (P4.out.up HB.out (Nat.le_refl _))
  have HKEEP := Lib.hid (show ∀ X, Below W.heap.size W X → X.cell? ⟨w.heap.size, 0, none⟩ = some (.int .i64 d.rows.vars) ∧ X.cell? ⟨w.heap.size, 1, none⟩ = some (.slice a1 d.rows.nums.length c1) ∧ X.cell? ⟨w.heap.size, 2, none⟩ = some (.slice a2 d.rows.bnds.length c2) ∧ X.cell? ⟨w.heap.size, 3, none⟩ = some (.slice a3 d.rows.gains.length c3) ∧ X.cell? ⟨w.heap.size, 4, none⟩ = some (.slice a4 d.sizes.length c4) ∧ X.cell? ⟨w.heap.size, 5, none⟩ = some (.slice a5 d.jobs.length c5) ∧ X.cell? ⟨w.heap.size, 6, none⟩ = some (.slice a6 d.ways.length c6) from fun X hb => by
    have k := HK.out.below hb HK.out.lt
    exact ⟨k.cell 0 rfl, k.cell 1 rfl, k.cell 2 rfl, k.cell 3 rfl, k.cell 4 rfl, k.cell 5 rfl, k.cell 6 rfl⟩)
  have HKEEP2 := Lib.hid (show ∀ X cs, Below W.heap.size W X → (7 : Nat) = Array.size cs → (deskPut X (w.heap.size + 1) cs).cell? ⟨w.heap.size, 0, none⟩ = some (.int .i64 d.rows.vars) ∧ (deskPut X (w.heap.size + 1) cs).cell? ⟨w.heap.size, 1, none⟩ = some (.slice a1 d.rows.nums.length c1) ∧ (deskPut X (w.heap.size + 1) cs).cell? ⟨w.heap.size, 2, none⟩ = some (.slice a2 d.rows.bnds.length c2) ∧ (deskPut X (w.heap.size + 1) cs).cell? ⟨w.heap.size, 3, none⟩ = some (.slice a3 d.rows.gains.length c3) ∧ (deskPut X (w.heap.size + 1) cs).cell? ⟨w.heap.size, 4, none⟩ = some (.slice a4 d.sizes.length c4) ∧ (deskPut X (w.heap.size + 1) cs).cell? ⟨w.heap.size, 5, none⟩ = some (.slice a5 d.jobs.length c5) ∧ (deskPut X (w.heap.size + 1) cs).cell? ⟨w.heap.size, 6, none⟩ = some (.slice a6 d.ways.length c6) from fun X cs hb hc => by
    have k := HK.out.below hb HK.out.lt
    have hk := (deskPut_blk (cells := cs) (HL.out.below hb HL.out.lt) hc).2.1
    have k : Blk (deskPut X (w.heap.size + 1) cs) w.heap.size 30 _ := (hk.block _ (Nat.lt_of_lt_of_le HK.out.lt hb.size) (by omega)).trans k
    exact ⟨k.cell 0 rfl, k.cell 1 rfl, k.cell 2 rfl, k.cell 3 rfl, k.cell 4 rfl, k.cell 5 rfl, k.cell 6 rfl⟩)
  go_region_held3 (fun X => X.cell? ⟨w.heap.size, 0, none⟩ = some (.int .i64 d.rows.vars) ∧ X.cell? ⟨w.heap.size, 1, none⟩ = some (.slice a1 d.rows.nums.length c1) ∧ X.cell? ⟨w.heap.size, 2, none⟩ = some (.slice a2 d.rows.bnds.length c2) ∧ X.cell? ⟨w.heap.size, 3, none⟩ = some (.slice a3 d.rows.gains.length c3) ∧ X.cell? ⟨w.heap.size, 4, none⟩ = some (.slice a4 d.sizes.length c4) ∧ X.cell? ⟨w.heap.size, 5, none⟩ = some (.slice a5 d.jobs.length c5) ∧ X.cell? ⟨w.heap.size, 6, none⟩ = some (.slice a6 d.ways.length c6))
    (first | (with_reducible exact HKEEP.out _ hbn) | (with_reducible exact HKEEP.out _ (hbn.alloc hbn.size _)) | (refine HKEEP2.out wC _ hbn ?_; rfl; done) | (refine HKEEP.out _ ?_; (repeat' first | exact Below.refl _ _ | assumption | refine Below.alloc ?_ ?_ _ | refine Below.setCell ?_ ?_ _ | refine Below.drew ?_ | (simp; done) | (simp; omega)); done) | go_keep)
    (first
      | (go_at_call 74; refine (ownRows_any _ d.rows _ (Q1.out.up (B := W.heap.size) (by first | exact hbn | (repeat' first | exact Below.refl _ _ | assumption | refine Below.alloc ?_ ?_ _ | refine Below.setCell ?_ ?_ _ | refine Below.drew ?_ | (simp; done) | (simp; omega))) (Nat.le_refl _)) L1.out).mono ?_; rintro e wA ⟨yA, rfl, oA, hA⟩; obtain ⟨bA, eA, bA2, eA2, bA3, eA3, rfl⟩ := oA.rd.shape; have zzA := (show Below W.heap.size W _ from (by first | exact hbn | (repeat' first | exact Below.refl _ _ | assumption | refine Below.alloc ?_ ?_ _ | refine Below.setCell ?_ ?_ _ | refine Below.drew ?_ | (simp; done) | (simp; omega)))).trans (hA.mono (show W.heap.size ≤ _ from (by first | exact hbn.size | (simp; done) | (have hz := hbn.size; simp; omega)))); have hbn := zzA; clear zzA; have zA := hA.size; have sA : W.heap.size ≤ wA.heap.size := hbn.size)
      | (go_at_call_of 123 a4; refine (copyI_n a4 c4 _ d.sizes _ rfl (Q2.out.up (B := W.heap.size) (by first | exact hbn | (repeat' first | exact Below.refl _ _ | assumption | refine Below.alloc ?_ ?_ _ | refine Below.setCell ?_ ?_ _ | refine Below.drew ?_ | (simp; done) | (simp; omega))) (Nat.le_refl _)) L2.out).mono ?_; rintro e wB ⟨gB, eB, rfl, oB0, hB⟩; have oB := OwnI.mk oB0; clear oB0; have zzB := (show Below W.heap.size W _ from (by first | exact hbn | (repeat' first | exact Below.refl _ _ | assumption | refine Below.alloc ?_ ?_ _ | refine Below.setCell ?_ ?_ _ | refine Below.drew ?_ | (simp; done) | (simp; omega)))).trans (hB.mono (show W.heap.size ≤ _ from (by first | exact hbn.size | (simp; done) | (have hz := hbn.size; simp; omega)))); have hbn := zzB; clear zzB; have zB := hB.size)
      | (go_at_call_of 123 a6; go_loud (refine (copyI_n a6 c6 _ d.ways _ rfl (Q4.out.up (B := W.heap.size) (by first | exact hbn | (repeat' first | exact Below.refl _ _ | assumption | refine Below.alloc ?_ ?_ _ | refine Below.setCell ?_ ?_ _ | refine Below.drew ?_ | (simp; done) | (simp; omega))) (Nat.le_refl _)) L4.out).mono ?_; rintro e wC ⟨gC, eC, rfl, oC0, hC⟩; have oC := OwnI.mk oC0; clear oC0; have zzC := (show Below W.heap.size W _ from (by first | exact hbn | (repeat' first | exact Below.refl _ _ | assumption | refine Below.alloc ?_ ?_ _ | refine Below.setCell ?_ ?_ _ | refine Below.drew ?_ | (simp; done) | (simp; omega)))).trans (hC.mono (show W.heap.size ≤ _ from (by first | exact hbn.size | (simp; done) | (have hz := hbn.size; simp; omega)))); have hbn := zzC; clear zzC; have zC := hC.size; have HBC := Lib.hid (HL.out.below hbn HL.out.lt); have HT : wC.there (w.heap.size + 1) 0 7 := (store_blk (cells := #[undef, undef, undef, undef, undef, undef, undef]) HBC.out rfl).1))
      | (refine step_app_jobs rfl (.tmp 9) (.tmp 11) (by rfl) W.heap.size (.slice (some ⟨wB.heap.size, 0, none⟩) 0 0) (by rfl) (ownsK_base (ownJ_empty wB _ rfl) hbn.size) d.jobs _ (by rfl) (by first | exact Q3.out.up hbn (Nat.le_refl _) | exact Q3.out.up (hbn.alloc hbn.size _) (Nat.le_refl _)) L3.out.1 L3.out.2 (by first | exact hbn.size | exact (hbn.alloc hbn.size _).size) ?_; intro aD eD wD oD hD gD; have KD := (Kept.refl (fun k => k = wB.heap.size) _).grown gD (fun k hk => Or.inr (Option.some.inj hk).symm); have zzD : Below W.heap.size W wD := (by first | exact hbn.trans hD | exact (hbn.alloc hbn.size (.cells #[] 86)).trans hD); have hbn := zzD; clear zzD; have zD := hD.size)
      | (refine step_app_jobs rfl (.tmp 9) (.tmp 11) (by rfl) W.heap.size (.slice (some ⟨wA.heap.size, 0, none⟩) 0 0) (by rfl) (ownsK_base (ownsK_below (ownJ_empty wA _ rfl) hB (Nat.le_refl _)) sA) d.jobs _ (by rfl) (by first | exact Q3.out.up hbn (Nat.le_refl _) | exact Q3.out.up (hbn.alloc hbn.size _) (Nat.le_refl _)) L3.out.1 L3.out.2 (by first | exact hbn.size | exact (hbn.alloc hbn.size _).size) ?_; intro aD eD wD oD hD gD; have KD := (Kept.refl (fun k => k = wA.heap.size) _).grown gD (fun k hk => Or.inr (Option.some.inj hk).symm); have zzD : Below W.heap.size W wD := (by first | exact hbn.trans hD | exact (hbn.alloc hbn.size (.cells #[] 86)).trans hD); have hbn := zzD; clear zzD; have zD := hD.size)
      | (refine step_app_jobs rfl (.tmp 9) (.tmp 11) (by rfl) W.heap.size (.slice (some ⟨W.heap.size, 0, none⟩) 0 0) (by rfl) (ownsK_base (ownsK_below (ownsK_below (ownJ_empty W.drew _ rfl) hA (Nat.le_refl _)) hB (Nat.le_refl _)) (Nat.le_refl _)) d.jobs _ (by rfl) (by first | exact Q3.out.up hbn (Nat.le_refl _) | exact Q3.out.up (hbn.alloc hbn.size _) (Nat.le_refl _)) L3.out.1 L3.out.2 (by first | exact hbn.size | exact (hbn.alloc hbn.size _).size) ?_; intro aD eD wD oD hD gD; have KD := (Kept.refl (fun k => k = W.heap.size) _).grown gD (fun k hk => Or.inr (Option.some.inj hk).symm); have zzD : Below W.heap.size W wD := (by first | exact hbn.trans hD | exact (hbn.alloc hbn.size (.cells #[] 86)).trans hD); have hbn := zzD; clear zzD; have zD := hD.size)
      | fail)
  all_goals
    have e1 : ∀ (X : World) (o : Obj), (X.alloc o).heap.size = X.heap.size + 1 := fun _ _ => by simp
    have e2 : ∀ X : World, X.drew.heap.size = X.heap.size := fun _ => rfl
    have hx := deskPut_blk (cells := #[.int .i64 d.rows.vars, .slice bA d.rows.nums.length eA, .slice bA2 d.rows.bnds.length eA2, .slice bA3 d.rows.gains.length eA3, .slice (some ⟨gB, 0, none⟩) d.sizes.length eB, .slice aD d.jobs.length eD, .slice (some ⟨gC, 0, none⟩) d.ways.length eC]) HBC.out rfl
    have HX := Lib.hid hx
    obtain ⟨j0, j1, j2, j3, j4, j5, j6⟩ := desk_cells hx.1
    have hkd := KD.size
    clear hx
    have HFIN := Lib.hid (ownDx_fin (yA := .slice bA d.rows.nums.length eA) (yB := .slice bA2 d.rows.bnds.length eA2) (yC := .slice bA3 d.rows.gains.length eA3) (vs := .slice (some ⟨gB, 0, none⟩) d.sizes.length eB) (vj := .slice aD d.jobs.length eD) (vw := .slice (some ⟨gC, 0, none⟩) d.ways.length eC) HB.out hbn hl1
      (by first
        | exact (((oA.up hB (Nat.le_refl _)).up ((Below.refl wB.heap.size wB).alloc (Nat.le_refl _) (.cells #[] 86)) (Nat.le_refl _)).kept KD (by intro b h1 h2 h3; simp at h1 h3 hkd zA zB; omega)).up hC (Nat.le_refl _)
        | exact (((oA.up ((Below.refl wA.heap.size wA).alloc (Nat.le_refl _) (.cells #[] 86)) (Nat.le_refl _)).up hB (Nat.le_refl _)).kept KD (by intro b h1 h2 h3; simp at h1 h3 hkd zA zB; omega)).up hC (Nat.le_refl _)
        | exact ((oA.up hB (Nat.le_refl _)).kept KD (by intro b h1 h2 h3; simp at h1 h3 hkd zA zB; omega)).up hC (Nat.le_refl _))
      (by first
        | exact ((oB.up ((Below.refl wB.heap.size wB).alloc (Nat.le_refl _) (.cells #[] 86)) (Nat.le_refl _)).kept KD (by intro b h1 h2 h3; simp at h1 h3 hkd zA zB; omega)).up hC (Nat.le_refl _)
        | exact (oB.kept KD (by intro b h1 h2 h3; simp at h1 h3 hkd zA zB; omega)).up hC (Nat.le_refl _))
      (oD.up hC (Nat.le_refl _)) oC
      (by simp only [e1, e2] at zA zB hkd zC ⊢; omega) (by simp only [e1, e2] at zA zB hkd zC ⊢; omega) (by simp only [e1, e2] at zA zB hkd zC ⊢; omega) (by simp only [e1, e2] at zA zB hkd zC ⊢; omega) (by simp only [e1, e2] at zA zB hkd zC ⊢; omega) _ HX.out.2.1 HX.out.2.2)
    go_wp2_with fail
    refine bodyPost_ret (v := .agg #[.int .i64 d.rows.vars, .slice bA d.rows.nums.length eA, .slice bA2 d.rows.bnds.length eA2, .slice bA3 d.rows.gains.length eA3, .slice (some ⟨gB, 0, none⟩) d.sizes.length eB, .slice aD d.jobs.length eD, .slice (some ⟨gC, 0, none⟩) d.ways.length eC]) (by simp [results, Tryz.results54, go_sem, *]) rfl ?_
    exact ⟨_, rfl, HFIN.out.1, HFIN.out.2⟩
end
end Go.Proofs.YtgkbbpajkbkgnaaGreatDoor

namespace Go.Proofs.YtgkbbpajkbkgnaaGreatDoor
open Go.RowKit Go.Sort
abbrev zD : Array Value := #[.int .i64 0, .slice none 0 0, .slice none 0 0, .slice none 0 0, .slice none 0 0, .slice none 0 0, .slice none 0 0]
theorem OwnDx.puts {lo g : Nat} {v : Value} {d : DeskD} {t : TypeId} (h1 : t ≠ 100) (h2 : t ≠ 2) (h3 : t ≠ 86) : ∀ (vs : List Value) (o : Nat) {w : World} {cs : Array Value}, OwnDx lo w v d → Blk w g t cs → OwnDx lo (w.setCells g o vs) v d
  | [], _, _, _, h, _ => h
  | u :: vs, o, w, cs, h, hb => by
    show OwnDx lo ((w.setCell ⟨g, o, none⟩ u).setCells g (o + 1) vs) v d
    exact OwnDx.puts h1 h2 h3 vs (o + 1) (h.put hb h1 h2 h3 o u) (hb.set o u)
theorem put_desk {lo g : Nat} {w : World} {v : Value} {d : DeskD} {old cs : Array Value} (h : OwnDx lo w v d) (hb : Blk w g 30 old) (hz : old.size = cs.size) : OwnDx lo (deskPut w g cs) v d ∧ Blk (deskPut w g cs) g 30 cs ∧ Kept (· = g) w (deskPut w g cs) ∧ (deskPut w g cs).heap.size = w.heap.size :=
  ⟨OwnDx.puts (by decide) (by decide) (by decide) cs.toList 0 h hb, deskPut_blk hb hz⟩
theorem OwnDx.shape {lo : Nat} {w : World} {v : Value} {d : DeskD} (h : OwnDx lo w v d) : ∃ a1 c1 a2 c2 a3 c3 a4 c4 a5 c5 a6 c6, v = .agg #[.int .i64 d.rows.vars, .slice a1 d.rows.nums.length c1, .slice a2 d.rows.bnds.length c2, .slice a3 d.rows.gains.length c3, .slice a4 d.sizes.length c4, .slice a5 d.jobs.length c5, .slice a6 d.ways.length c6] := h.rd.shape
def CmdPost (w : World) (d : DeskD) (out : ByteArray) (e : Ending) (w' : World) : Prop := ∃ v', e = .returned (.tuple #[v', .string out]) ∧ OwnDx w.heap.size w' v' d ∧ Below w.heap.size w w'
section
attribute [local go_sem ↓] stDeskP
attribute [local go_sem] stDesk_in stDesk_run
set_option maxHeartbeats 4000000 in
set_option maxRecDepth 8000 in
theorem cmdI_any (v : Value) (d : DeskD) (s : ByteArray) (w : World) (h : RdD w v d) (hv : validDk d = true) (hbt : BitsD d) (hp : HasPow w) (hm : HasMax w) (he : HasErrs w) (hs : s.size ≤ 1048576) :
    Calls Tryz.prog 55 #[v, .string s] w (CmdPost w (cmdK d s).1 (cmdK d s).2) := by
  obtain ⟨a1, c1, a2, c2, a3, c3, a4, c4, a5, c5, a6, c6, rfl⟩ := h.shape
  have HP := Lib.hid h
  have HV := Lib.hid hv
  have HOW := Lib.hid (fun X (hb : Below w.heap.size w X) => own_any _ d X (h.up hb (Nat.le_refl _)) hv)
  have HCA := Lib.hid (fun bb X (hd : DskAt w.heap.size X bb d) (hb : Below w.heap.size w X) => car_any w.heap.size bb d s X hd hv hbt hb.size (hp.up hb (Nat.le_refl _)) (hm.up hb (Nat.le_refl _)) (he.up hb (Nat.le_refl _)) hs)
  obtain ⟨⟨d', out, ok, fd⟩, hr⟩ : ∃ r, r = carK d s := ⟨_, rfl⟩
  have HC1 := Lib.hid (show fd = false → cmdK d s = (d, kwWhat) from fun e => by unfold cmdK; rw [← hr, if_pos e])
  have HC2 := Lib.hid (show fd = true → ok = false → cmdK d s = (d, kwNo) from fun e1 e2 => by unfold cmdK; rw [← hr, if_neg (by simp [e1]), if_pos (.inl e2)])
  have HC3 := Lib.hid (show fd = true → validDk d' = false → cmdK d s = (d, kwNo) from fun e1 e2 => by unfold cmdK; rw [← hr, if_neg (by simp [e1]), if_pos (.inr e2)])
  have HC4 := Lib.hid (show fd = true → ok = true → validDk d' = true → cmdK d s = (d', out) from fun e1 e2 e3 => by unfold cmdK; rw [← hr, if_neg (by simp [e1]), if_neg (by simp [e2, e3])])
  rw [← hr] at HCA
  obtain ⟨q, hq⟩ : ∃ q, q = validDk d' := ⟨_, rfl⟩
  rw [← hq] at HC3 HC4
  have HQ := Lib.hid hq.symm
  obtain ⟨R, hR⟩ : ∃ R, R = cmdK d s := ⟨_, rfl⟩
  rw [← hR] at HC1 HC2 HC3 HC4 ⊢
  clear h hv hbt hp hm he hs hr hq hR
  go_enter Tryz.func55, Tryz.ntmps55
  go_upto_region 1 with fail
  refine wp_at fun W0 hW0 => ?_
  have HB0 := Lib.hid (show Below w.heap.size w W0 by subst hW0; (repeat' first | exact Below.refl _ _ | assumption | refine Below.alloc ?_ ?_ _ | refine Below.setCell ?_ ?_ _ | refine Below.drew ?_ | (simp; done) | (simp; omega)))
  have HK0 := Lib.hid (show Blk W0 w.heap.size 30 #[.int .i64 d.rows.vars, .slice a1 d.rows.nums.length c1, .slice a2 d.rows.bnds.length c2, .slice a3 d.rows.gains.length c3, .slice a4 d.sizes.length c4, .slice a5 d.jobs.length c5, .slice a6 d.ways.length c6] by subst hW0; exact (Blk.new _ _ _).alloc _)
  have HL0 := Lib.hid (show Blk W0 (w.heap.size + 1) 30 zD by subst hW0; simpa using Blk.new (w.alloc (.cells #[.int .i64 d.rows.vars, .slice a1 d.rows.nums.length c1, .slice a2 d.rows.bnds.length c2, .slice a3 d.rows.gains.length c3, .slice a4 d.sizes.length c4, .slice a5 d.jobs.length c5, .slice a6 d.ways.length c6] 30)) 30 zD)
  clear hW0
  have hl0 := HL0.out.lt
  obtain ⟨i0, i1, i2, i3, i4, i5, i6⟩ := desk_cells HK0.out
  go_upto_region 2 with (go_at_call 54; refine (HOW.out W0 HB0.out).mono ?_; rintro e w1 ⟨v1, rfl, ho1, hb1⟩; obtain ⟨b1, e1, b2, e2, b3, e3, b4, e4, b5, e5, b6, e6, rfl⟩ := ho1.shape; have HT : (w1.alloc (.cells zD 30)).there w1.heap.size 0 7 := (store_blk (cells := zD) (Blk.new w1 30 zD) rfl).1)
  refine wp_at fun W1 hW1 => ?_
  obtain ⟨bb, hbb⟩ : ∃ b, b = w1.heap.size := ⟨_, rfl⟩
  have hz0 := HB0.out.size
  have hz1 := hb1.size
  have hx := put_desk (cs := #[.int .i64 d.rows.vars, .slice b1 d.rows.nums.length e1, .slice b2 d.rows.bnds.length e2, .slice b3 d.rows.gains.length e3, .slice b4 d.sizes.length e4, .slice b5 d.jobs.length e5, .slice b6 d.ways.length e6]) ((ho1.wide hz0).up ((Below.refl w1.heap.size w1).alloc (Nat.le_refl _) (.cells zD 30)) (Nat.le_refl _)) (Blk.new w1 30 zD) rfl
  rw [← hW1, ← hbb] at hx
  have HD1 := Lib.hid (show DskAt w.heap.size W1 bb d from ⟨_, hx.2.1, hx.1⟩)
  have HBA : Below w.heap.size w (w1.alloc (.cells zD 30)) := (HB0.out.trans (hb1.mono hz0)).alloc (by omega) _
  have HB1 := Lib.hid (show Below w.heap.size w W1 from HBA.trans (hx.2.2.1.toBelow (by simp; omega) (fun k h1 h2 => by omega)))
  have HK1 := Lib.hid (((HK0.out.below hb1 HK0.out.lt).alloc (.cells zD 30)).kept hx.2.2.1 (show ¬ w.heap.size = bb by omega))
  have HL1 := Lib.hid (((HL0.out.below hb1 hl0).alloc (.cells zD 30)).kept hx.2.2.1 (show ¬ w.heap.size + 1 = bb by omega))
  have hbw : w.heap.size + 1 < bb := by omega
  rw [← hbb]
  clear hW1 hx HBA HT ho1 hb1 HK0 HL0 HB0 i0 i1 i2 i3 i4 i5 i6 hbb hz0 hz1 hl0
  go_upto_region 3 with (go_at_call 124; refine (HCA.out bb W1 HD1.out HB1.out).mono ?_; rintro e w2 ⟨rfl, hd2, hk2⟩)
  have hzz := HB1.out.size
  have HB2 := Lib.hid (HB1.out.trans (hk2.toBelow hzz (fun k h1 h2 => by omega)))
  have HK2 := Lib.hid (HK1.out.kept hk2 (show ¬ w.heap.size = bb by omega))
  have HL2 := Lib.hid (HL1.out.kept hk2 (show ¬ w.heap.size + 1 = bb by omega))
  have HD2 := Lib.hid hd2
  clear hd2 hk2 HD1 HB1 HK1 HL1 HCA hzz
  obtain ⟨i0, i1, i2, i3, i4, i5, i6⟩ := desk_cells HK2.out
  have FIN := Lib.hid (fun (w3 : World) (y0 y1 y2 y3 y4 y5 y6 : Value) (dd : DeskD) (ho : OwnDx w.heap.size w3 (.agg #[y0, y1, y2, y3, y4, y5, y6]) dd) (hb3 : Below w2.heap.size w2 w3) => by
    have hl3 := HL2.out.below hb3 HL2.out.lt
    have hx := put_desk (cs := #[y0, y1, y2, y3, y4, y5, y6]) ho hl3 rfl
    exact show w3.there (w.heap.size + 1) 0 7 ∧ OwnDx w.heap.size (deskPut w3 (w.heap.size + 1) #[y0, y1, y2, y3, y4, y5, y6]) (.agg #[y0, y1, y2, y3, y4, y5, y6]) dd ∧ Below w.heap.size w (deskPut w3 (w.heap.size + 1) #[y0, y1, y2, y3, y4, y5, y6]) ∧ Blk (deskPut w3 (w.heap.size + 1) #[y0, y1, y2, y3, y4, y5, y6]) (w.heap.size + 1) 30 #[y0, y1, y2, y3, y4, y5, y6] from
      ⟨(store_blk (cells := #[y0, y1, y2, y3, y4, y5, y6]) hl3 rfl).1, hx.1, (HB2.out.trans (hb3.mono HB2.out.size)).trans (hx.2.2.1.toBelow (Nat.le_trans HB2.out.size hb3.size) (fun k h1 h2 => by omega)), hx.2.1⟩)
  have HO2 := Lib.hid (HOW.out w2 HB2.out)
  have HZ2 := HB2.out.size
  clear HL2
  cases fd with
  | false =>
    have HE := Lib.hid (HC1.out rfl)
    go_wp2_with (go_at_call 54; refine HO2.out.mono ?_; rintro e w3 ⟨v3, rfl, ho3, hb3⟩; obtain ⟨b1, e1, b2, e2, b3, e3, b4, e4, b5, e5, b6, e6, rfl⟩ := ho3.shape; obtain ⟨HT, hfo, hfb, hfk⟩ := FIN.out w3 _ _ _ _ _ _ _ d (ho3.wide HZ2) hb3; obtain ⟨j0, j1, j2, j3, j4, j5, j6⟩ := desk_cells hfk)
    refine bodyPost_ret (v := .tuple #[.agg #[.int .i64 d.rows.vars, .slice b1 d.rows.nums.length e1, .slice b2 d.rows.bnds.length e2, .slice b3 d.rows.gains.length e3, .slice b4 d.sizes.length e4, .slice b5 d.jobs.length e5, .slice b6 d.ways.length e6], .string kwWhat]) (by simp [results, Tryz.results55, go_sem, *]) rfl ?_
    rw [HE.out]
    exact ⟨_, rfl, hfo, hfb⟩
  | true =>
    cases ok with
    | false =>
      have HE := Lib.hid (HC2.out rfl rfl)
      go_wp2_with (go_at_call 54; refine HO2.out.mono ?_; rintro e w3 ⟨v3, rfl, ho3, hb3⟩; obtain ⟨b1, e1, b2, e2, b3, e3, b4, e4, b5, e5, b6, e6, rfl⟩ := ho3.shape; obtain ⟨HT, hfo, hfb, hfk⟩ := FIN.out w3 _ _ _ _ _ _ _ d (ho3.wide HZ2) hb3; obtain ⟨j0, j1, j2, j3, j4, j5, j6⟩ := desk_cells hfk)
      refine bodyPost_ret (v := .tuple #[.agg #[.int .i64 d.rows.vars, .slice b1 d.rows.nums.length e1, .slice b2 d.rows.bnds.length e2, .slice b3 d.rows.gains.length e3, .slice b4 d.sizes.length e4, .slice b5 d.jobs.length e5, .slice b6 d.ways.length e6], .string kwNo]) (by simp [results, Tryz.results55, go_sem, *]) rfl ?_
      rw [HE.out]
      exact ⟨_, rfl, hfo, hfb⟩
    | true =>
      obtain ⟨b1, e1, b2, e2, b3, e3, b4, e4, b5, e5, b6, e6, hblk, hown⟩ := HD2.out.shape
      obtain ⟨k0, k1, k2, k3, k4, k5, k6⟩ := desk_cells hblk
      have HVA := Lib.hid (implVD_any _ d' w2 hown.rd)
      rw [HQ.out] at HVA
      have HBK := Lib.hid hblk
      have HOD := Lib.hid hown
      clear hblk hown HD2
      cases q with
      | false =>
        have HE := Lib.hid (HC3.out rfl rfl)
        go_upto_region 6 with (go_at_call 18; refine HVA.out.mono ?_; rintro e w3 ⟨rfl, hb3⟩; have HK3 := HK2.out.below hb3 HK2.out.lt; obtain ⟨g0, g1, g2, g3, g4, g5, g6⟩ := desk_cells HK3)
        have HO3 := Lib.hid (HOW.out w3 (HB2.out.trans (hb3.mono HB2.out.size)))
        have HZ3 := hb3.size
        clear i0 i1 i2 i3 i4 i5 i6 k0 k1 k2 k3 k4 k5 k6
        go_wp2_with (go_at_call 54; refine HO3.out.mono ?_; rintro e w4 ⟨v3, rfl, ho3, hb4⟩; obtain ⟨b1, e1, b2, e2, b3, e3, b4, e4, b5, e5, b6, e6, rfl⟩ := ho3.shape; obtain ⟨HT, hfo, hfb, hfk⟩ := FIN.out w4 _ _ _ _ _ _ _ d (ho3.wide (by omega)) (hb3.trans (hb4.mono hb3.size)); obtain ⟨j0, j1, j2, j3, j4, j5, j6⟩ := desk_cells hfk)
        refine bodyPost_ret (v := .tuple #[.agg #[.int .i64 d.rows.vars, .slice b1 d.rows.nums.length e1, .slice b2 d.rows.bnds.length e2, .slice b3 d.rows.gains.length e3, .slice b4 d.sizes.length e4, .slice b5 d.jobs.length e5, .slice b6 d.ways.length e6], .string kwNo]) (by simp [results, Tryz.results55, go_sem, *]) rfl ?_
        rw [HE.out]
        exact ⟨_, rfl, hfo, hfb⟩
      | true =>
        have HE := Lib.hid (HC4.out rfl rfl rfl)
        go_wp2_with (go_at_call 18; refine HVA.out.mono ?_; rintro e w3 ⟨rfl, hb3⟩; have HBK3 := HBK.out.below hb3 HBK.out.lt; obtain ⟨g0, g1, g2, g3, g4, g5, g6⟩ := desk_cells HBK3; obtain ⟨HT, hfo, hfb, hfk⟩ := FIN.out w3 _ _ _ _ _ _ _ d' (HOD.out.up hb3 (Nat.le_refl _)) hb3; obtain ⟨j0, j1, j2, j3, j4, j5, j6⟩ := desk_cells hfk)
        refine bodyPost_ret (v := .tuple #[.agg #[.int .i64 d'.rows.vars, .slice b1 d'.rows.nums.length e1, .slice b2 d'.rows.bnds.length e2, .slice b3 d'.rows.gains.length e3, .slice b4 d'.sizes.length e4, .slice b5 d'.jobs.length e5, .slice b6 d'.ways.length e6], .string out]) (by simp [results, Tryz.results55, go_sem, *]) rfl ?_
        rw [HE.out]
        exact ⟨_, rfl, hfo, hfb⟩
end
end Go.Proofs.YtgkbbpajkbkgnaaGreatDoor

namespace Go.Proofs.YtgkbbpajkbkgnaaGreatDoor
open Go.RowKit Go.Sort
section
attribute [local go_sem ↓] stDeskP
attribute [local go_sem] stDesk_in stDesk_run
end
end Go.Proofs.YtgkbbpajkbkgnaaGreatDoor
