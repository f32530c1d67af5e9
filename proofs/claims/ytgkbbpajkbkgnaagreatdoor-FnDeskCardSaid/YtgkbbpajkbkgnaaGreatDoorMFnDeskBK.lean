/-
  FnDesk: texts joined: DkRun, FdM, DkRunI.
-/
import Derived.Lib.OthersKept
import Derived.Lib.FrozenHead
import Derived.Deep.RegionWith
import Derived.Test.YtgkbbpajkbkgnaaGreatDoorMFnDeskAK
import Derived.Test.YtgkbbpajkbkgnaaGreatDoorMFnDeskBH
import Derived.Test.YtgkbbpajkbkgnaaGreatDoorMFnDeskBJ
set_option linter.unusedVariables false
set_option linter.unusedSimpArgs false
namespace Go.Proofs.YtgkbbpajkbkgnaaGreatDoor
open Go.RowKit Go.Sort
section
attribute [local go_sem ↓] stDeskP
attribute [local go_sem] stDesk_in stDesk_run
set_option maxHeartbeats 4000000 in
set_option maxRecDepth 8000 in
theorem deskI_yes (v : Value) (d : DeskD) (s : ByteArray) (w : World) (h : RdD w v d) (hv : validDk d = true) (hbt : BitsD d) (hp : HasPow w) (hm : HasMax w) (he : HasErrs w) (hs : s.size ≤ 1048576) :
    Calls Tryz.prog 29 #[v, .string s] w fun e w' => ∃ v', e = .returned (.tuple #[v', .string (cmdK d s).2, .bool true]) ∧ OwnDx w.heap.size w' v' (cmdK d s).1 ∧ Below w.heap.size w w' := by
  obtain ⟨a1, c1, a2, c2, a3, c3, a4, c4, a5, c5, a6, c6, rfl⟩ := h.shape
  have HVA := Lib.hid (fun X (hb : Below w.heap.size w X) => show Calls Tryz.prog 18 _ X _ from hv ▸ implVD_any _ d X (h.up hb (Nat.le_refl _)))
  have HCM := Lib.hid (fun X (hb : Below w.heap.size w X) => cmdI_any _ d s X (h.up hb (Nat.le_refl _)) hv hbt (hp.up hb (Nat.le_refl _)) (hm.up hb (Nat.le_refl _)) (he.up hb (Nat.le_refl _)) hs)
  obtain ⟨d', hd'⟩ : ∃ d', d' = (cmdK d s).1 := ⟨_, rfl⟩
  obtain ⟨out, hout⟩ : ∃ o, o = (cmdK d s).2 := ⟨_, rfl⟩
  rw [← hd', ← hout] at HCM ⊢
  clear h hv hbt hp hm he hs hd' hout
  go_enter Tryz.func29, Tryz.ntmps29
  go_upto_region 1 with fail
  refine wp_at fun W0 hW0 => ?_
  have HB0 := Lib.hid (show Below w.heap.size w W0 by subst hW0; (repeat' first | exact Below.refl _ _ | assumption | refine Below.alloc ?_ ?_ _ | refine Below.setCell ?_ ?_ _ | refine Below.drew ?_ | (simp; done) | (simp; omega)))
  have HK0 := Lib.hid (show Blk W0 w.heap.size 30 #[.int .i64 d.rows.vars, .slice a1 d.rows.nums.length c1, .slice a2 d.rows.bnds.length c2, .slice a3 d.rows.gains.length c3, .slice a4 d.sizes.length c4, .slice a5 d.jobs.length c5, .slice a6 d.ways.length c6] by subst hW0; exact (Blk.new _ _ _).alloc _)
  have HL0 := Lib.hid (show Blk W0 (w.heap.size + 1) 30 zD by subst hW0; simpa using Blk.new (w.alloc (.cells #[.int .i64 d.rows.vars, .slice a1 d.rows.nums.length c1, .slice a2 d.rows.bnds.length c2, .slice a3 d.rows.gains.length c3, .slice a4 d.sizes.length c4, .slice a5 d.jobs.length c5, .slice a6 d.ways.length c6] 30)) 30 zD)
  clear hW0
  have hl0 := HL0.out.lt
  obtain ⟨i0, i1, i2, i3, i4, i5, i6⟩ := desk_cells HK0.out
  go_upto_region 3 with (go_at_call 18; refine (HVA.out W0 HB0.out).mono ?_; rintro e w1 ⟨rfl, hb1⟩; obtain ⟨j0, j1, j2, j3, j4, j5, j6⟩ := desk_cells (HK0.out.below hb1 HK0.out.lt))
  have HB1 := Lib.hid (HB0.out.trans (hb1.mono HB0.out.size))
  have HL1 := Lib.hid (HL0.out.below hb1 hl0)
  have hz1 := HB1.out.size
  clear HB0 HK0 HL0 hb1 i0 i1 i2 i3 i4 i5 i6 HVA hl0
  go_upto_region 4 with (go_at_call 55; refine (HCM.out w1 HB1.out).mono ?_; rintro e w2 ⟨v2, rfl, ho2, hb2⟩; obtain ⟨b1, e1, b2, e2, b3, e3, b4, e4, b5, e5, b6, e6, rfl⟩ := ho2.shape; have HT : (w2.alloc (.cells zD 30)).there w2.heap.size 0 7 := (store_blk (cells := zD) (Blk.new w2 30 zD) rfl).1)
  refine wp_at fun W3 hW3 => ?_
  obtain ⟨bb, hbb⟩ : ∃ b, b = w2.heap.size := ⟨_, rfl⟩
  have hz2 := hb2.size
  have hl1 := HL1.out.lt
  have hx := put_desk (cs := #[.int .i64 d'.rows.vars, .slice b1 d'.rows.nums.length e1, .slice b2 d'.rows.bnds.length e2, .slice b3 d'.rows.gains.length e3, .slice b4 d'.sizes.length e4, .slice b5 d'.jobs.length e5, .slice b6 d'.ways.length e6]) ((ho2.wide hz1).up ((Below.refl w2.heap.size w2).alloc (Nat.le_refl _) (.cells zD 30)) (Nat.le_refl _)) (Blk.new w2 30 zD) rfl
  rw [← hW3, ← hbb] at hx
  have HB3 := Lib.hid (show Below w.heap.size w W3 from ((HB1.out.trans (hb2.mono hz1)).alloc (by omega) (.cells zD 30)).trans (hx.2.2.1.toBelow (by simp; omega) (fun k h1 h2 => by omega)))
  have HL3 := Lib.hid (((HL1.out.below hb2 hl1).alloc (.cells zD 30)).kept hx.2.2.1 (show ¬ w.heap.size + 1 = bb by omega))
  have hf := put_desk (cs := #[.int .i64 d'.rows.vars, .slice b1 d'.rows.nums.length e1, .slice b2 d'.rows.bnds.length e2, .slice b3 d'.rows.gains.length e3, .slice b4 d'.sizes.length e4, .slice b5 d'.jobs.length e5, .slice b6 d'.ways.length e6]) hx.1 HL3.out rfl
  have HT3 : W3.there (w.heap.size + 1) 0 7 := (store_blk (cells := zD) HL3.out rfl).1
  have HFB := Lib.hid (HB3.out.trans (hf.2.2.1.toBelow HB3.out.size (fun k h1 h2 => by omega)))
  have HFO := Lib.hid hf.1
  obtain ⟨k0, k1, k2, k3, k4, k5, k6⟩ := desk_cells hf.2.1
  obtain ⟨g0, g1, g2, g3, g4, g5, g6⟩ := desk_cells hx.2.1
  rw [← hbb]
  clear hW3 hx hf ho2 hb2 HT HL1 HB1 j0 j1 j2 j3 j4 j5 j6 hbb
  go_wp2_with fail
  refine bodyPost_ret (v := .tuple #[.agg #[.int .i64 d'.rows.vars, .slice b1 d'.rows.nums.length e1, .slice b2 d'.rows.bnds.length e2, .slice b3 d'.rows.gains.length e3, .slice b4 d'.sizes.length e4, .slice b5 d'.jobs.length e5, .slice b6 d'.ways.length e6], .string out, .bool true]) (by simp [results, Tryz.results29, go_sem, *]) rfl ?_
  exact ⟨_, rfl, HFO.out, HFB.out⟩
end
def BufS (w : World) (b : Nat) : Nat → Prop := fun k => k = b ∨ ∃ cs fz, w.heap[k]? = some (.cells cs 5 fz)
theorem own_type {w : World} {base size : Nat} {e : TypeId} {v : Value} {n g : Nat} {vs : List Value} (h : w.ownsRow base e size v n vs) (hg : v.ownBlock = some g) : ∃ cs, w.heap[g]? = some (.cells cs e (0, 0)) := by
  rcases h.2 with ⟨rfl, _⟩ | ⟨g', cap, cur, rfl, _, hc, _⟩
  · cases hg
  · obtain rfl : g' = g := Option.some.inj hg
    exact ⟨cur, hc⟩
theorem kept_others {B b : Nat} {w w' : World} (h : Lib.OthersKept 5 (some b) w w') (hb : Below B w w') : Kept (BufS w b) w w' :=
  ⟨hb.os, hb.tape, hb.output, hb.size, fun k hk hs => by
    have h0 : w.heap[k]? = some w.heap[k] := Array.getElem?_eq_getElem hk
    rw [h0]
    exact h k _ h0 (fun e => hs (.inl (Option.some.inj e))) (fun c fz e => hs (.inr ⟨c, fz, h0.trans (congrArg some e)⟩))⟩
theorem own_bufs {w w' : World} {base size : Nat} {e : TypeId} {v : Value} {n : Nat} {vs : List Value} {b : Nat} {bcs : Array Value} (h : w.ownsRow base e size v n vs) (hk : Kept (BufS w b) w w') (hb : Blk w b TB bcs) (h1 : 5 ≠ e) (h2 : TB ≠ e) : w'.ownsRow base e size v n vs := by
  refine ownsK_kept h hk fun g hg hs => ?_
  rcases hs with rfl | ⟨cs, fz, hc⟩
  · exact hb.not_owned h h2 hg
  · obtain ⟨cs2, hc2⟩ := own_type h hg
    rw [hc2] at hc
    simp only [Option.some.injEq, Obj.cells.injEq] at hc
    exact h1 hc.2.1.symm
theorem OwnDx.bufs {lo : Nat} {w w' : World} {v : Value} {d : DeskD} {b : Nat} {bcs : Array Value} (h : OwnDx lo w v d) (hk : Kept (BufS w b) w w') (hb : Blk w b TB bcs) : OwnDx lo w' v d := by
  obtain ⟨va, vb, vc, vs, vj, vw, e, ⟨wa, wb, wc, e2, f1, f2, f3, dd⟩, o2, o3, o4, dj⟩ := h
  have hz := hk.size
  exact ⟨va, vb, vc, vs, vj, vw, e, ⟨wa, wb, wc, e2, ⟨own_bufs f1.1 hk hb (by decide) (by decide), fun g hg => Nat.lt_of_lt_of_le (f1.2 g hg) hz⟩, ⟨own_bufs f2.1 hk hb (by decide) (by decide), fun g hg => Nat.lt_of_lt_of_le (f2.2 g hg) hz⟩, ⟨own_bufs f3.1 hk hb (by decide) (by decide), fun g hg => Nat.lt_of_lt_of_le (f3.2 g hg) hz⟩, dd⟩, ⟨own_bufs o2.1 hk hb (by decide) (by decide), fun g hg => Nat.lt_of_lt_of_le (o2.2 g hg) hz⟩, ⟨own_bufs o3.1 hk hb (by decide) (by decide), fun g hg => Nat.lt_of_lt_of_le (o3.2 g hg) hz⟩, ⟨own_bufs o4.1 hk hb (by decide) (by decide), fun g hg => Nat.lt_of_lt_of_le (o4.2 g hg) hz⟩, dj⟩
theorem blk_bufs {w w' : World} {b g : Nat} {t : TypeId} {cs bcs : Array Value} (h : Blk w g t cs) (hk : Kept (BufS w b) w w') (hb : Blk w b TB bcs) (h1 : t ≠ 5) (h2 : t ≠ TB) : Blk w' g t cs := by
  refine h.kept hk fun hs => ?_
  have e1 : w.heap[g]? = _ := h
  rcases hs with rfl | ⟨c', fz, hc⟩
  · have e2 : w.heap[g]? = _ := hb
    rw [e1] at e2
    simp only [Option.some.injEq, Obj.cells.injEq] at e2
    exact h2 e2.2.1
  · rw [e1] at hc
    simp only [Option.some.injEq, Obj.cells.injEq] at hc
    exact h1 hc.2.1
theorem IsB.blk {B b : Nat} {bs : List Value} {w : World} (h : Lib.IsBuilder TB 5 B b bs w) : ∃ cs, Blk w b TB cs := by
  rcases h with ⟨_, v, h2, _⟩ | ⟨_, v, h2, _⟩
  · exact ⟨_, h2⟩
  · exact ⟨_, h2⟩
theorem isB_other {B b g : Nat} {bs : List Value} {w w' : World} {t : TypeId} {cs : Array Value} (h : Lib.IsBuilder TB 5 B b bs w) (hg : Blk w g t cs) (h1 : t ≠ TB) (h2 : t ≠ 5) (hk : Kept (· = g) w w') : Lib.IsBuilder TB 5 B b bs w' := by
  have f : ∀ {p : Value}, Lib.BuilderAt TB 5 B b p bs w → Lib.BuilderAt TB 5 B b p bs w' := by
    rintro p ⟨q1, v, q2, q3, q4⟩
    have hlt : b < w.heap.size := (show Blk w b TB _ from q2).lt
    refine ⟨q1, v, (hk.block b hlt fun e => ?_).trans q2, ownsK_kept q3 hk fun k hk2 e => ?_, q4⟩
    · subst e
      have e1 : w.heap[b]? = _ := hg
      rw [q2] at e1
      simp only [Option.some.injEq, Obj.cells.injEq] at e1
      exact h1 e1.2.1.symm
    · subst e
      exact hg.not_owned q3 h2 hk2
  rcases h with h | h
  · exact .inl (f h)
  · exact .inr (f h)
theorem copyCheckK_any (B b : Nat) (bs : List Value) (w : World) (h : Lib.IsBuilder TB 5 B b bs w) :
    Calls Tryz.prog 125 #[.pointer (some ⟨b, 0, none⟩)] w fun e w' => e = .returned (.tuple #[]) ∧ (Lib.BuilderAt TB 5 B b (.pointer (some ⟨b, 0, none⟩)) bs w' ∧ Kept (· = b) w w' ∧ w'.heap.size = w.heap.size) := by
  rcases h with h | h
  · refine (copyCheck_fresh b w h.cell0 h.shape h.frozen0).mono ?_
    rintro e w' ⟨rfl, rfl⟩
    exact ⟨rfl, h.used _, (Kept.refl (· = b) w).setCell (p := ⟨b, 0, none⟩) (.inr rfl) _, by simp [World.setCell]⟩
  · refine (copyCheck_used b w h.cell0).mono ?_
    rintro e w' ⟨rfl, rfl⟩
    exact ⟨rfl, h, Kept.refl _ _, rfl⟩
set_option maxHeartbeats 1000000 in
set_option maxRecDepth 100000 in
theorem WriteStringK_any (B b : Nat) (bs : List Value) (s : ByteArray) (w : World) (h : Lib.IsBuilder TB 5 B b bs w) (hlen : bs.length + s.size ≤ 140737488355328) (hBw : B ≤ w.heap.size) :
    Calls Tryz.prog 56 #[.pointer (some ⟨b, 0, none⟩), .string s] w fun e w' => e = .returned (.tuple #[.int .i64 s.size, .nilIface]) ∧ Lib.IsBuilder TB 5 B b (bs ++ Lib.strCells s) w' ∧ Kept (BufS w b) w w' ∧ Below B w w' := by
  obtain ⟨i0, hi, hz0, hz1, hz2⟩ := info_parts Tryz.infoByte
  go_enter Tryz.func56, Tryz.ntmps56
  go_wp2_with (go_at_call 125; refine (copyCheckK_any B b bs _ h).mono ?_)
  rintro e w1 ⟨rfl, h1, hk1, hs1⟩
  obtain ⟨hB, v, hbk, hown, hne⟩ := h1
  have hb1 : Below B w w1 := hk1.toBelow hBw (fun k a c => by omega)
  have c0 : w1.cell? ⟨b, 0, none⟩ = some (.pointer (some ⟨b, 0, none⟩)) := by rw [Lib.cell_of_heap hbk]; rfl
  have c1 : w1.cell? ⟨b, 1, none⟩ = some v := by rw [Lib.cell_of_heap hbk]; rfl
  go_wp2_with (at_builtin; refine Lib.wpList_append_own_string _ rfl _ _ 22 9 rfl B 5 i0 Tryz.underlying22 Tryz.underlying9 hi hz0 hz1 hz2 _ _ _ rfl hown s rfl ?c3 ?c4 ?c5 ?_)
  case c3 => unfold maxLen; omega
  case c4 => omega
  case c5 => omega
  intro v' w2 hown' hgrow _
  have hlt : b < w1.heap.size := by
    rcases Nat.lt_or_ge b w1.heap.size with h' | h'
    · exact h'
    · simp [Array.getElem?_eq_none h'] at hbk
  have hb2 : w2.heap[b]? = some (.cells #[.pointer (some ⟨b, 0, none⟩), v] TB (0, 0)) := by
    rw [hgrow.block b hlt (fun e => hne e.symm)]
    exact hbk
  have d0 : w2.cell? ⟨b, 0, none⟩ = some (.pointer (some ⟨b, 0, none⟩)) := by rw [Lib.cell_of_heap hb2]; rfl
  have d1 : w2.cell? ⟨b, 1, none⟩ = some v := by rw [Lib.cell_of_heap hb2]; rfl
  have f1 : w2.frozen? ⟨b, 1, none⟩ = false := Lib.frozen_of_heap hb2 1
  obtain ⟨ao, n', cap, rfl⟩ : ∃ ao n' cap, v' = .slice ao n' cap := by
    rcases hown'.2 with ⟨hv, _⟩ | ⟨g, cap, cur, hv, _⟩
    · exact ⟨_, _, _, hv⟩
    · exact ⟨_, _, _, hv⟩
  have HKP := Lib.hid (show Kept (BufS w b) w w2 from (hk1.mono (S' := BufS w b) (fun i _ e => .inl e)).grown hgrow (fun k hk => by
    rcases hown.2 with ⟨hv, _⟩ | ⟨g, cap', cur, hv, _, hg, _⟩
    · rw [hv] at hk; simp [Value.ownBlock] at hk
    · have e : g = k := by rw [hv] at hk; exact Option.some.inj hk
      subst e
      have hgl : g < w1.heap.size := (show Blk w1 g 5 _ from hg).lt
      refine .inr (.inr ⟨cur, (0, 0), ?_⟩)
      have := hk1.block g (by omega) (fun e => hne (by rw [hv, e]; rfl))
      exact this.symm.trans hg))
  go_wp2
  go_ret2
  refine ⟨rfl, .inr ?_, HKP.out.setCell (p := ⟨b, 1, none⟩) (.inr (.inl rfl)) _, ?_⟩
  · exact Lib.BuilderAt.put (T := TB) (e := 5) hB hb2 (bs' := bs ++ Lib.strCells s) (by simpa [Lib.strCells_length] using hown') Tryz.neB5
  · exact (hb1.grown hgrow (by have := hb1.size; omega) (fun k hk => (hown.lt k hk).1)).setCell (p := ⟨b, 1, none⟩) hB _
end Go.Proofs.YtgkbbpajkbkgnaaGreatDoor

namespace Go.Proofs.YtgkbbpajkbkgnaaGreatDoor
open Go.RowKit Go.Sort
theorem two_same (d : DeskD) (s x : ByteArray) : (twoK d s x).1 = d ∨ (twoK d s x).2.1 = kwOk := by
  unfold twoK
  cases setK d s x with
  | some p => exact .inr rfl
  | none =>
    dsimp only
    split
    · exact .inr rfl
    · cases countK d s (valN x) with
      | some p => exact .inl rfl
      | none => exact .inl rfl
theorem car_same (d : DeskD) (s : ByteArray) : (carK d s).1 = d ∨ (carK d s).2.1 = kwOk := by
  unfold carK
  split
  · exact two_same _ _ _
  · split
    · exact .inl rfl
    · split
      · exact .inr rfl
      · cases tellK d s with
        | some p => exact .inl rfl
        | none => exact .inl rfl
theorem cmd_same (d : DeskD) (s : ByteArray) : (cmdK d s).1 = d ∨ (cmdK d s).2 = kwOk := by
  unfold cmdK
  split
  · exact .inl rfl
  · split
    · exact .inl rfl
    · exact car_same d s
theorem cmd_bad {d : DeskD} {s : ByteArray} (h : isBad (cmdK d s).2 = true) : (cmdK d s).1 = d := by
  rcases cmd_same d s with h1 | h1
  · exact h1
  · rw [h1, bad_ok] at h; cases h
def Told (x : ByteArray) : Prop := (10 : UInt8) ∉ x.data.toList ∧ x.size ≤ 2400
theorem told_plain {x : ByteArray} (h : PlainB x) (hs : x.size ≤ 2400) : Told x := ⟨plain_not h np10, hs⟩
theorem told_list {xs : List Int} (h : Small xs) (hl : xs.length ≤ 100) : Told (listT xs) := told_plain (plain_list _) (by have := list_size h; omega)
theorem told_num {xs : List Nat} (hl : xs.length ≤ 256) : Told (numT xs) := told_plain (plain_num _) (by have := num_size xs; omega)
theorem told_itoa {n : Int} (h : InZ n) : Told (itoaB n) := told_plain (plain_itoa _) (by have := itoa_size h; omega)
theorem told_E0 : Told E0 := ⟨by decide, by decide⟩
theorem told_ok : Told kwOk := ⟨by decide, by decide⟩
theorem told_no : Told kwNo := ⟨by decide, by decide⟩
theorem told_what : Told kwWhat := ⟨by decide, by decide⟩
theorem smith_len (js : List JobD) : (smithL js).length ≤ 12 := by
  unfold smithL
  split
  · rename_i h
    have h2 := (jobs_all h).2.1
    rw [idxs_len, (ordC_perm (swo_smith h) _).length_eq, List.length_range]; omega
  · simp
theorem ot_len (js : List JobD) : (otL js).length ≤ 12 := by
  unfold otL
  split
  · rename_i h
    have h2 := (jobs_all h).2.1
    have h4 := otRun_len js (ordJ js) [] [] 0
    rw [ordJ_len] at h4
    rw [idxs_len, List.length_append]
    unfold otEnd
    simp only [List.length_nil] at h4
    omega
  · simp
theorem told_tell {d : DeskD} (hv : validDk d = true) (hb : BitsD d) {s y : ByteArray} {ok : Bool} (h : tellK d s = some (y, ok)) : Told y := by
  obtain ⟨y1, y2, y3, y4⟩ := valid_parts hv
  have y5 : waysB d.ways = true := by
    unfold validDk at hv
    simp only [Bool.and_eq_true] at hv
    exact hv.2.2.2
  unfold tellK at h
  by_cases e : s = kwRows
  · rw [if_pos e] at h
    obtain rfl := (Prod.mk.inj (Option.some.inj h)).1
    have f1 := valR_few y1
    exact told_plain (plain_rows _) (by have := rows_size y1; omega)
  rw [if_neg e] at h
  clear e
  by_cases e : s = kwSizes
  · rw [if_pos e] at h
    obtain rfl := (Prod.mk.inj (Option.some.inj h)).1
    exact told_list (small_sizes y2) (by have := (sizes_all y2).1.2; omega)
  rw [if_neg e] at h
  clear e
  by_cases e : s = kwJobs
  · rw [if_pos e] at h
    obtain rfl := (Prod.mk.inj (Option.some.inj h)).1
    exact told_plain (plain_jobs _) (by have := jobs_size y3; have := (jobs_all y3).2.1; omega)
  rw [if_neg e] at h
  clear e
  by_cases e : s = kwWays
  · rw [if_pos e] at h
    obtain rfl := (Prod.mk.inj (Option.some.inj h)).1
    exact told_list (small_ways y4) (by have := (ways_eight y5).2; omega)
  rw [if_neg e] at h
  clear e
  by_cases e : s = kwSolve
  · rw [if_pos e] at h
    obtain rfl := (Prod.mk.inj (Option.some.inj h)).1
    exact told_num (plan_ok hb).2
  rw [if_neg e] at h
  clear e
  by_cases e : s = kwPrices
  · rw [if_pos e] at h
    obtain rfl := (Prod.mk.inj (Option.some.inj h)).1
    exact told_num (price_ok hb).2
  rw [if_neg e] at h
  clear e
  by_cases e : s = kwGain
  · rw [if_pos e] at h
    obtain rfl := (Prod.mk.inj (Option.some.inj h)).1
    exact told_num (gain_ok _ _).2
  rw [if_neg e] at h
  clear e
  by_cases e : s = kwHalves
  · rw [if_pos e] at h
    obtain rfl := (Prod.mk.inj (Option.some.inj h)).1
    exact told_itoa (halfN_rng _)
  rw [if_neg e] at h
  clear e
  by_cases e : s = kwTour
  · rw [if_pos e] at h
    obtain rfl := (Prod.mk.inj (Option.some.inj h)).1
    exact told_list (short_tour _).1 (by have := tour_len d.ways; omega)
  rw [if_neg e] at h
  clear e
  by_cases e : s = kwLong
  · rw [if_pos e] at h
    obtain rfl := (Prod.mk.inj (Option.some.inj h)).1
    exact told_itoa (tourLng_rng _)
  rw [if_neg e] at h
  clear e
  by_cases e : s = kwBound
  · rw [if_pos e] at h
    obtain rfl := (Prod.mk.inj (Option.some.inj h)).1
    exact told_itoa (tbN_rng _)
  rw [if_neg e] at h
  clear e
  by_cases e : s = kwDue
  · rw [if_pos e] at h
    obtain rfl := (Prod.mk.inj (Option.some.inj h)).1
    exact told_list (short_due _).1 (by have := due_len d.jobs; omega)
  rw [if_neg e] at h
  clear e
  by_cases e : s = kwSmith
  · rw [if_pos e] at h
    obtain rfl := (Prod.mk.inj (Option.some.inj h)).1
    exact told_list (short_smith _).1 (by have := smith_len d.jobs; omega)
  rw [if_neg e] at h
  clear e
  by_cases e : s = kwOntime
  · rw [if_pos e] at h
    obtain rfl := (Prod.mk.inj (Option.some.inj h)).1
    exact told_list (short_ot _).1 (by have := ot_len d.jobs; omega)
  rw [if_neg e] at h
  clear e
  by_cases e : s = kwLate
  · rw [if_pos e] at h
    obtain rfl := (Prod.mk.inj (Option.some.inj h)).1
    exact told_itoa (lateN_rng _)
  rw [if_neg e] at h
  clear e
  by_cases e : s = kwHeads
  · rw [if_pos e] at h
    obtain rfl := (Prod.mk.inj (Option.some.inj h)).1
    exact told_itoa (headsN_rng _)
  rw [if_neg e] at h
  cases h
theorem told_two {d : DeskD} (s x : ByteArray) : Told (twoK d s x).2.1 := by
  unfold twoK
  cases setK d s x with
  | some p => exact told_ok
  | none =>
    dsimp only
    split
    · exact told_ok
    · cases e : countK d s (valN x) with
      | some p =>
        obtain ⟨m, ok⟩ := p
        exact told_itoa (count_rng e)
      | none => exact told_itoa (n := 0) (by unfold InZ; omega)
theorem told_car {d : DeskD} (hv : validDk d = true) (hb : BitsD d) (s : ByteArray) : Told (carK d s).2.1 := by
  unfold carK
  split
  · exact told_two _ _
  · split
    · exact told_E0
    · split
      · exact told_ok
      · cases e : tellK d s with
        | some p =>
          obtain ⟨y, ok⟩ := p
          exact told_tell hv hb e
        | none => exact told_E0
theorem told_cmd {d : DeskD} (hv : validDk d = true) (hb : BitsD d) (s : ByteArray) : Told (cmdK d s).2 := by
  unfold cmdK
  split
  · exact told_what
  · split
    · exact told_no
    · exact told_car hv hb s
theorem told_outs {d : DeskD} (hv : validDk d = true) (hb : BitsD d) (ls : List ByteArray) (k : Nat) : ∀ x ∈ outsK d ls k, Told x := by
  intro x hx
  unfold outsK at hx
  obtain ⟨i, _, rfl⟩ := List.mem_map.1 hx
  exact told_cmd (stK_valid hv ls i) (stK_bits hb ls i) _
theorem outs_nonl {d : DeskD} (hv : validDk d = true) (hb : BitsD d) (ls : List ByteArray) (k : Nat) : NoNL (outsK d ls k) := fun x hx => (told_outs hv hb ls k x hx).1
theorem outs_size {d : DeskD} (hv : validDk d = true) (hb : BitsD d) (ls : List ByteArray) (k : Nat) (hk : k ≤ 6) : (scr (outsK d ls k)).size ≤ 16000 := by
  have := scr_size (ls := outsK d ls k) (N := 2400) fun x hx => (told_outs hv hb ls k x hx).2
  rw [outsK_len] at this
  have h2 : (2400 + 1) * k ≤ (2400 + 1) * 6 := Nat.mul_le_mul_left _ hk
  omega
theorem outs_get {d : DeskD} {ls : List ByteArray} {n i : Nat} (h : i < n) : (outsK d ls n).getD i E0 = ansK d ls i := by
  unfold outsK
  rw [List.getD_eq_getElem?_getD, List.getElem?_map, List.getElem?_range h]
  rfl
theorem badK_cong {a b : List ByteArray} : ∀ {k : Nat}, (∀ i, i < k → a.getD i E0 = b.getD i E0) → badK a k = badK b k
  | 0, _ => rfl
  | k + 1, h => by
    show badK a k + _ = badK b k + _
    rw [badK_cong fun i hi => h i (by omega), h k (by omega)]
theorem outs_bad {d : DeskD} {ls : List ByteArray} {n k : Nat} (h : k ≤ n) : badK (outsK d ls n) k = badK (outsK d ls k) k := badK_cong fun i hi => by rw [outs_get (by omega), outs_get hi]
theorem outs_bad_succ {d : DeskD} {ls : List ByteArray} {k : Nat} : badK (outsK d ls (k + 1)) (k + 1) = badK (outsK d ls k) k + (if isBad (ansK d ls k) = true then 1 else 0) := by
  show badK (outsK d ls (k + 1)) k + (if isBad ((outsK d ls (k + 1)).getD k E0) = true then 1 else 0) = _
  rw [outs_bad (by omega), outs_get (by omega)]
theorem eqBy_rfl {α : Type} {f : α → α → Bool} (h : ∀ x, f x x = true) : ∀ l : List α, eqBy f l l = true
  | [] => rfl
  | x :: r => by
    simp only [eqBy]
    rw [h x, eqBy_rfl h r]
    rfl
theorem sameF_rfl (xs : List Nat) : sameF xs xs = true := eqBy_rfl (fun x => by
  unfold sameX
  cases nan32 x <;> simp) xs
theorem sameR_rfl (r : RowsD) : sameR r r = true := by
  unfold sameR
  rw [sameF_rfl, sameF_rfl, sameF_rfl]
  simp
theorem sameJs_rfl (js : List JobD) : sameJs js js = true := eqBy_rfl (fun x => by unfold sameJ; simp) js
theorem sameD_rfl (d : DeskD) : sameD d d = true := by
  unfold sameD
  rw [sameR_rfl, sameJs_rfl]
  simp
end Go.Proofs.YtgkbbpajkbkgnaaGreatDoor

namespace Go.Proofs.YtgkbbpajkbkgnaaGreatDoor
open Go.RowKit Go.Sort
theorem lines_le (s : ByteArray) : ∀ x ∈ linesS s, x.size ≤ s.size := by
  intro x hx
  unfold linesS at hx
  rw [cutS_lines] at hx
  exact cutS_le 10 s x (List.dropLast_subset _ hx)
theorem outs_le {d : DeskD} (hv : validDk d = true) (hb : BitsD d) (ls : List ByteArray) (k : Nat) : (scr (outsK d ls k)).size ≤ 2401 * k := by
  have := scr_size (ls := outsK d ls k) (N := 2400) fun x hx => (told_outs hv hb ls k x hx).2
  rw [outsK_len] at this
  exact this
theorem slc_block {w w' : World} {g n cap : Nat} {vs : List Value} {t : TypeId} {cs : Array Value} (h : Slc w (.slice (some ⟨g, 0, none⟩) n cap) vs) (h1 : Blk w g t cs) (h2 : Blk w' g t cs) : Slc w' (.slice (some ⟨g, 0, none⟩) n cap) vs := by
  rcases h with ⟨e, _⟩ | ⟨ad, cap', e, a, b, hc⟩
  · cases e
  · simp only [Value.slice.injEq, Option.some.injEq] at e
    obtain ⟨rfl, rfl, rfl⟩ := e
    refine .inr ⟨⟨g, 0, none⟩, cap, rfl, a, b, fun i u hi => ?_⟩
    have h3 : ((⟨g, 0, none⟩ : Addr).add i) = ⟨g, i, none⟩ := by unfold Addr.add; split <;> simp_all
    have h4 := hc i u hi
    rw [h3] at h4 ⊢
    have e : w'.heap[g]? = w.heap[g]? := (show w'.heap[g]? = _ from h2).trans (show w.heap[g]? = _ from h1).symm
    exact (World.cell?_of_block (w := w) (a := ⟨g, i, none⟩) e).trans h4
section
attribute [local go_sem ↓] stDeskP
attribute [local go_sem] stDesk_in stDesk_run
set_option maxHeartbeats 8000000 in
set_option maxRecDepth 8000 in
theorem runI_any (v : Value) (d : DeskD) (s : ByteArray) (w : World) (h : RdD w v d) (hv : validDk d = true) (hbt : BitsD d) (hp : HasPow w) (hm : HasMax w) (he : HasErrs w) (hok : coOk s = true) (hs : s.size ≤ 16000) :
    Calls Tryz.prog 16 #[v, .string s] w fun e w' => ∃ v', e = .returned (.tuple #[v', .string (rdkT d s), .bool true]) ∧ OwnDx w.heap.size w' v' (rdkD d s) ∧ Below w.heap.size w w' := by
  obtain ⟨a1, c1, a2, c2, a3, c3, a4, c4, a5, c5, a6, c6, rfl⟩ := h.shape
  have HVA := Lib.hid (fun X (hb : Below w.heap.size w X) => show Calls Tryz.prog 18 _ X _ from hv ▸ implVD_any _ d X (h.up hb (Nat.le_refl _)))
  have HOW := Lib.hid (fun X (hb : Below w.heap.size w X) => own_any _ d X (h.up hb (Nat.le_refl _)) hv)
  have HLO := Lib.hid (fun X (hb : Below w.heap.size w X) => linesOf_any s X (hm.up hb (Nat.le_refl _)) (by omega))
  have HCM := Lib.hid (fun k X v2 (hb : Below w.heap.size w X) (hr : RdD X v2 (stK d (linesS s) k)) => cmdI_any v2 (stK d (linesS s) k) ((linesS s).getD k E0) X hr (stK_valid hv _ k) (stK_bits hbt _ k) (hp.up hb (Nat.le_refl _)) (hm.up hb (Nat.le_refl _)) (he.up hb (Nat.le_refl _)) (by
    rw [List.getD_eq_getElem?_getD]
    cases hq : (linesS s)[k]? with
    | none => exact Nat.zero_le _
    | some x => exact Nat.le_trans (lines_le s x (List.mem_of_getElem? hq)) (by omega)))
  have HOL := Lib.hid (fun k => outs_le hv hbt (linesS s) k)
  have HTL := Lib.hid (fun k => (told_cmd (stK_valid hv (linesS s) k) (stK_bits hbt (linesS s) k) ((linesS s).getD k E0)).2)
  have hll := linesS_le s
  rw [hok] at HLO
  have HR1 := Lib.hid (show rdkD d s = stK d (linesS s) (linesS s).length from rfl)
  have HR2 := Lib.hid (show rdkT d s = scr (outsK d (linesS s) (linesS s).length) from rfl)
  obtain ⟨rd, hrd⟩ : ∃ x, x = rdkD d s := ⟨_, rfl⟩
  obtain ⟨rt, hrt⟩ : ∃ x, x = rdkT d s := ⟨_, rfl⟩
  rw [← hrd] at HR1 ⊢
  rw [← hrt] at HR2 ⊢
  obtain ⟨L, hL⟩ : ∃ L, L = linesS s := ⟨_, rfl⟩
  rw [← hL] at HLO HCM HOL HTL HR1 HR2 hll
  obtain ⟨n, hn⟩ : ∃ n, n = L.length := ⟨_, rfl⟩
  rw [← hn] at HLO HR1 HR2 hll
  have HNL := Lib.hid hn
  clear h hv hbt hp hm he hok hrd hrt hL hn
  go_enter Tryz.func16, Tryz.ntmps16
  go_upto_region 1 with fail
  refine wp_at fun W0 hW0 => ?_
  have HB0 := Lib.hid (show Below w.heap.size w W0 by subst hW0; (repeat' first | exact Below.refl _ _ | assumption | refine Below.alloc ?_ ?_ _ | refine Below.setCell ?_ ?_ _ | refine Below.drew ?_ | (simp; done) | (simp; omega)))
  have HK0 := Lib.hid (show Blk W0 w.heap.size 30 #[.int .i64 d.rows.vars, .slice a1 d.rows.nums.length c1, .slice a2 d.rows.bnds.length c2, .slice a3 d.rows.gains.length c3, .slice a4 d.sizes.length c4, .slice a5 d.jobs.length c5, .slice a6 d.ways.length c6] by subst hW0; exact (Blk.new _ _ _).alloc _)
  have HL0 := Lib.hid (show Blk W0 (w.heap.size + 1) 30 zD by subst hW0; simpa using Blk.new (w.alloc (.cells #[.int .i64 d.rows.vars, .slice a1 d.rows.nums.length c1, .slice a2 d.rows.bnds.length c2, .slice a3 d.rows.gains.length c3, .slice a4 d.sizes.length c4, .slice a5 d.jobs.length c5, .slice a6 d.ways.length c6] 30)) 30 zD)
  clear hW0
  have hl0 := HL0.out.lt
  go_upto_region 4 with (first
    | (go_at_call 53; refine (HLO.out W0 HB0.out).mono ?_; rintro e w1 ⟨lv, rfl, hlv, hb1⟩; obtain ⟨la, lcap, rfl, hsl, lg, lcs, rfl, hlg, hlb⟩ := hlv rfl; have HB1 := HB0.out.trans (hb1.mono HB0.out.size); obtain ⟨i0, i1, i2, i3, i4, i5, i6⟩ := desk_cells (HK0.out.below hb1 HK0.out.lt))
    | (go_at_call 18; refine (HVA.out w1 HB1).mono ?_; rintro e w2 ⟨rfl, hb2⟩))
  have HB2 := Lib.hid (HB1.trans (hb2.mono HB1.size))
  have HK2 := Lib.hid ((HK0.out.below hb1 HK0.out.lt).below hb2 (Nat.lt_of_lt_of_le HK0.out.lt hb1.size))
  have HL2 := Lib.hid ((HL0.out.below hb1 hl0).below hb2 (Nat.lt_of_lt_of_le hl0 hb1.size))
  have HS2 := Lib.hid (slc_block hsl hlb (hlb.below hb2 hlb.lt))
  have HG2 := Lib.hid (hlb.below hb2 hlb.lt)
  have hz0 := HB0.out.size
  have hgw : w.heap.size + 1 < lg := by omega
  clear i0 i1 i2 i3 i4 i5 i6 hb1 hb2 hlv hsl hlb HB1 HK0 HL0 HB0 HVA HLO hlg hz0 hl0
  obtain ⟨i0, i1, i2, i3, i4, i5, i6⟩ := desk_cells HK2.out
  go_upto_region 5 with (go_at_call 54; refine (HOW.out w2 HB2.out).mono ?_; rintro e w3 ⟨v3, rfl, ho3, hb3⟩; obtain ⟨b1, e1, b2, e2, b3, e3, b4, e4, b5, e5, b6, e6, rfl⟩ := ho3.shape; have HT : w3.there w.heap.size 0 7 := (store_blk (cells := zD) (HK2.out.below hb3 HK2.out.lt) rfl).1)
  refine wp_at fun W4 hW4 => ?_
  have hz2 := HB2.out.size
  have hx := put_desk (cs := #[.int .i64 d.rows.vars, .slice b1 d.rows.nums.length e1, .slice b2 d.rows.bnds.length e2, .slice b3 d.rows.gains.length e3, .slice b4 d.sizes.length e4, .slice b5 d.jobs.length e5, .slice b6 d.ways.length e6]) (ho3.wide hz2) (HK2.out.below hb3 HK2.out.lt) rfl
  rw [← hW4] at hx
  have HD4 := Lib.hid (show DskAt w.heap.size W4 w.heap.size d from ⟨_, hx.2.1, hx.1⟩)
  have HB4 := Lib.hid (show Below w.heap.size w W4 from (HB2.out.trans (hb3.mono hz2)).trans (hx.2.2.1.toBelow (Nat.le_trans hz2 hb3.size) (fun k h1 h2 => by omega)))
  have HL4 := Lib.hid ((HL2.out.below hb3 HL2.out.lt).kept hx.2.2.1 (show ¬ w.heap.size + 1 = w.heap.size by omega))
  have HG4 := Lib.hid ((HG2.out.below hb3 HG2.out.lt).kept hx.2.2.1 (show ¬ lg = w.heap.size by omega))
  have HS4 := Lib.hid (slc_block HS2.out HG2.out HG4.out)
  clear hW4 hx HT ho3 hb3 HK2 HL2 HG2 HS2 HB2 hz2 HOW i0 i1 i2 i3 i4 i5 i6
  go_upto_region 6 with fail
  refine wp_at fun W5 hW5 => ?_
  obtain ⟨bb, hbb⟩ : ∃ b, b = W4.heap.size := ⟨_, rfl⟩
  have hz4 := HB4.out.size
  have hg4 := HG4.out.lt
  have HA := Lib.hid (show Below w.heap.size W4 W5 by subst hW5; exact (Below.refl _ _).alloc hz4 _)
  have HB5 := Lib.hid (HB4.out.trans HA.out)
  have HBA := Lib.hid (show Below W4.heap.size W4 W5 by subst hW5; exact (Below.refl _ _).alloc (Nat.le_refl _) _)
  have HI5 := Lib.hid (show Lib.IsBuilder TB 5 w.heap.size bb (Lib.strCells (scr (outsK d L 0))) W5 by
    subst hW5 hbb
    exact Or.inl ⟨hz4, .slice none 0 0, heap_alloc_new W4 _, World.ownsRow_nil _ _ _ _, by simp [Value.ownBlock]⟩)
  have HD5 := Lib.hid (HD4.out.up HBA.out (Nat.le_refl _))
  have HL5 := Lib.hid (HL4.out.below HBA.out HL4.out.lt)
  have HG5 := Lib.hid (HG4.out.below HBA.out hg4)
  have hbw : w.heap.size + 1 < bb := by omega
  have hbg : lg ≠ bb := by omega
  have hb5 : bb < W5.heap.size := by subst hW5 hbb; simp
  rw [← hbb]
  clear hW5 hbb HD4 HL4 HB4 HA HBA hz4 hg4
  go_wp2_with fail
  go_loopw [31] (fun iv wr => ∃ k : Nat, iv = .int .i64 k ∧ k ≤ n ∧ Hid (DskAt w.heap.size wr w.heap.size (stK d L k)) ∧ Hid (Lib.IsBuilder TB 5 w.heap.size bb (Lib.strCells (scr (outsK d L k))) wr) ∧ Hid (Blk wr lg 9 lcs) ∧ Hid (Blk wr (w.heap.size + 1) 30 zD) ∧ Hid (Below w.heap.size w wr)) (fun iv _ => n - (intOf iv).toNat)
  case atStart => exact ⟨0, rfl, Nat.zero_le _, HD5, HI5, HG5, HL5, HB5⟩
  case round =>
    clear HD5 HI5 HG5 HL5 HB5 hb5
    obtain ⟨k, rfl, hk, HD, HI, HG, HL, HB⟩ := hrel
    obtain ⟨wo, rfl⟩ : ∃ wo, wo = wr := ⟨wr, rfl⟩
    have hzo := HB.out.size
    by_cases hlt : k < n
    · have hltI : (k : Int) < (n : Int) := by omega
      obtain ⟨lg', off, ee, _, hc⟩ := (slc_block HS4.out HG4.out HG.out).at (i := k) (u := .string (L.getD k E0)) (by rw [List.getElem?_map, List.getD_eq_getElem?_getD, List.getElem?_eq_getElem (by rw [← HNL.out]; exact hlt)]; rfl)
      simp only [Option.some.injEq, Addr.mk.injEq, and_true] at ee
      obtain ⟨rfl, rfl⟩ := ee
      rw [Nat.zero_add] at hc
      obtain ⟨b1, e1, b2, e2, b3, e3, b4, e4, b5, e5, b6, e6, hblk, hown⟩ := HD.out.shape
      obtain ⟨i0, i1, i2, i3, i4, i5, i6⟩ := desk_cells hblk
      have HC := Lib.hid (HCM.out k wo _ HB.out hown.rd)
      have HST : Hid (stK d L (k + 1) = (cmdK (stK d L k) (L.getD k E0)).1) := rfl
      have HAN : Hid (ansK d L k = (cmdK (stK d L k) (L.getD k E0)).2) := rfl
      have HSC := Lib.hid (outsK_scr d L k)
      have hol := HOL.out k
      have htl := HTL.out k
      obtain ⟨x, hx⟩ : ∃ x, x = L.getD k E0 := ⟨_, rfl⟩
      rw [← hx] at hc HC HST HAN htl
      obtain ⟨d1, hd1⟩ : ∃ y, y = stK d L k := ⟨_, rfl⟩
      rw [← hd1] at HC HST HAN hblk hown i0 i1 i2 i3 i4 i5 i6 htl
      obtain ⟨d2, hd2⟩ : ∃ y, y = (cmdK d1 x).1 := ⟨_, rfl⟩
      obtain ⟨out, hout⟩ : ∃ o, o = (cmdK d1 x).2 := ⟨_, rfl⟩
      rw [← hd2] at HC HST
      rw [← hout] at HC HAN htl
      have HBK := Lib.hid hblk
      rw [HAN.out] at HSC
      obtain ⟨T, hT⟩ : ∃ T, T = scr (outsK d L k) := ⟨_, rfl⟩
      rw [← hT] at HSC HI hol
      clear hx hd1 hd2 hout hblk hown HD hT
      go_upto_region 10 with (go_at_call 55; refine HC.out.mono ?_; rintro e w5 ⟨v5, rfl, ho5, hb5⟩; obtain ⟨f1, g1, f2, g2, f3, g3, f4, g4, f5, g5, f6, g6, rfl⟩ := ho5.shape; have HT : (w5.alloc (.cells zD 30)).there w5.heap.size 0 7 := (store_blk (cells := zD) (Blk.new w5 30 zD) rfl).1)
      refine wp_at fun W6 hW6 => ?_
      obtain ⟨nb, hnb⟩ : ∃ b, b = w5.heap.size := ⟨_, rfl⟩
      have hz5 := hb5.size
      have hx := put_desk (cs := #[.int .i64 d2.rows.vars, .slice f1 d2.rows.nums.length g1, .slice f2 d2.rows.bnds.length g2, .slice f3 d2.rows.gains.length g3, .slice f4 d2.sizes.length g4, .slice f5 d2.jobs.length g5, .slice f6 d2.ways.length g6]) ((ho5.wide hzo).up ((Below.refl w5.heap.size w5).alloc (Nat.le_refl _) (.cells zD 30)) (Nat.le_refl _)) (Blk.new w5 30 zD) rfl
      have hI6 := isB_other (isB_up (isB_up HI.out hb5) ((Below.refl w5.heap.size w5).alloc (Nat.le_refl _) (.cells zD 30))) (Blk.new w5 30 zD) (by decide) (by decide) hx.2.2.1
      rw [← hW6] at hx hI6
      rw [← hnb] at hx
      have hlw := HBK.out.lt
      have hlg := HG.out.lt
      have hl4 := HL.out.lt
      have HBK6 := Lib.hid (((HBK.out.below hb5 hlw).alloc (.cells zD 30)).kept hx.2.2.1 (show ¬ w.heap.size = nb by omega))
      have HG6 := Lib.hid (((HG.out.below hb5 hlg).alloc (.cells zD 30)).kept hx.2.2.1 (show ¬ lg = nb by omega))
      have HL6 := Lib.hid (((HL.out.below hb5 hl4).alloc (.cells zD 30)).kept hx.2.2.1 (show ¬ w.heap.size + 1 = nb by omega))
      have HB6 := Lib.hid (show Below w.heap.size w W6 from ((HB.out.trans (hb5.mono hzo)).alloc (by omega) (.cells zD 30)).trans (hx.2.2.1.toBelow (by simp; omega) (fun k h1 h2 => by omega)))
      have HX6 := Lib.hid hx
      have HI6 := Lib.hid hI6
      have HT6 : W6.there w.heap.size 0 7 := (store_blk (cells := zD) HBK6.out rfl).1
      have hnw : w.heap.size ≠ nb := by omega
      rw [← hnb]
      clear hW6 hx hI6 ho5 hb5 HT hnb hlw hlg hl4 HBK HG HL HB HI i0 i1 i2 i3 i4 i5 i6 hc HC
      obtain ⟨i0, i1, i2, i3, i4, i5, i6⟩ := desk_cells HX6.out.2.1
      go_upto_region 11 with fail
      refine wp_at fun W7 hW7 => ?_
      have hy := put_desk (cs := #[.int .i64 d2.rows.vars, .slice f1 d2.rows.nums.length g1, .slice f2 d2.rows.bnds.length g2, .slice f3 d2.rows.gains.length g3, .slice f4 d2.sizes.length g4, .slice f5 d2.jobs.length g5, .slice f6 d2.ways.length g6]) HX6.out.1 HBK6.out rfl
      rw [← hW7] at hy
      have HI7 := Lib.hid (isB_other HI6.out HBK6.out (by decide) (by decide) hy.2.2.1)
      have HG7 := Lib.hid (HG6.out.kept hy.2.2.1 (show ¬ lg = w.heap.size by omega))
      have HL7 := Lib.hid (HL6.out.kept hy.2.2.1 (show ¬ w.heap.size + 1 = w.heap.size by omega))
      have HB7 := Lib.hid (HB6.out.trans (hy.2.2.1.toBelow HB6.out.size (fun k h1 h2 => by omega)))
      have HY7 := Lib.hid hy
      clear hW7 hy HT6 HX6 HI6 HG6 HL6 HB6 HBK6 i0 i1 i2 i3 i4 i5 i6
      have hz7 := HB7.out.size
      have n1 : ¬ 9223372036854775807 < out.size + 1 := by omega
      go_wp2_with (go_at_call 56; refine (WriteStringK_any w.heap.size bb _ (out ++ B1 10) W7 HI7.out (by rw [Lib.strCells_length, ByteArray.size_append, show (B1 10).size = 1 from rfl]; omega) hz7).mono ?_; rintro e w8 ⟨rfl, hi8, hk8, hb8⟩)
      obtain ⟨bcs, hbB⟩ := IsB.blk HI7.out
      have HD8 := Lib.hid (show DskAt w.heap.size w8 w.heap.size d2 from ⟨_, blk_bufs HY7.out.2.1 hk8 hbB (by decide) (by decide), HY7.out.1.bufs hk8 hbB⟩)
      have HG8 := Lib.hid (blk_bufs HG7.out hk8 hbB (by decide) (by decide))
      have HL8 := Lib.hid (blk_bufs HL7.out hk8 hbB (by decide) (by decide))
      have HI8 := Lib.hid hi8
      have HB8 := Lib.hid (HB7.out.trans hb8)
      clear hi8 hk8 hb8 hbB
      go_roundw
      case rel => exact ⟨k + 1, by go_num, by omega, Lib.hid (by rw [HST.out]; exact HD8.out), Lib.hid (by rw [HSC.out, strCells_add]; exact HI8.out), HG8, HL8, HB8⟩
      case measure => simp [intOf]; omega
    · obtain rfl : k = n := by omega
      obtain ⟨b1, e1, b2, e2, b3, e3, b4, e4, b5, e5, b6, e6, hblk, hown⟩ := HD.out.shape
      obtain ⟨T, hT⟩ : ∃ T, T = scr (outsK d L k) := ⟨_, rfl⟩
      have HTE := Lib.hid (show rt = T by rw [hT]; exact HR2.out)
      rw [← hT] at HI
      obtain ⟨d1, hd1⟩ : ∃ y, y = stK d L k := ⟨_, rfl⟩
      have HDE := Lib.hid (show rd = d1 by rw [hd1]; exact HR1.out)
      rw [← hd1] at hblk hown
      have HBK := Lib.hid hblk
      have HOD := Lib.hid hown
      obtain ⟨i0, i1, i2, i3, i4, i5, i6⟩ := desk_cells (show Blk wo.drew w.heap.size 30 _ from hblk)
      have HIF := Lib.hid (show Lib.IsBuilderF TB 5 w.heap.size bb (Lib.byteCells T.data.toList) wo.drew from Lib.IsBuilderF.of HI.out)
      have HSS : Hid ((⟨T.data.toList.toArray⟩ : ByteArray) = T) := by
        show _ = _
        simp
      obtain ⟨bcs, hbB⟩ := IsB.blk HI.out
      have HFB := Lib.hid hbB
      have FIN := Lib.hid (fun (w9 : World) (hkB : Kept (BufS wo bb) wo w9) (hb9 : Below w.heap.size wo w9) => by
        have h1 := blk_bufs HBK.out hkB HFB.out (by decide) (by decide)
        have h2 := HOD.out.bufs hkB HFB.out
        have h3 := blk_bufs HL.out hkB HFB.out (by decide) (by decide)
        have hx := put_desk (cs := #[.int .i64 d1.rows.vars, .slice b1 d1.rows.nums.length e1, .slice b2 d1.rows.bnds.length e2, .slice b3 d1.rows.gains.length e3, .slice b4 d1.sizes.length e4, .slice b5 d1.jobs.length e5, .slice b6 d1.ways.length e6]) h2 h3 rfl
        have hB := HB.out.trans hb9
        exact show Blk w9 w.heap.size 30 #[.int .i64 d1.rows.vars, .slice b1 d1.rows.nums.length e1, .slice b2 d1.rows.bnds.length e2, .slice b3 d1.rows.gains.length e3, .slice b4 d1.sizes.length e4, .slice b5 d1.jobs.length e5, .slice b6 d1.ways.length e6] ∧ w9.there (w.heap.size + 1) 0 7 ∧ OwnDx w.heap.size (deskPut w9 (w.heap.size + 1) #[.int .i64 d1.rows.vars, .slice b1 d1.rows.nums.length e1, .slice b2 d1.rows.bnds.length e2, .slice b3 d1.rows.gains.length e3, .slice b4 d1.sizes.length e4, .slice b5 d1.jobs.length e5, .slice b6 d1.ways.length e6]) (.agg #[.int .i64 d1.rows.vars, .slice b1 d1.rows.nums.length e1, .slice b2 d1.rows.bnds.length e2, .slice b3 d1.rows.gains.length e3, .slice b4 d1.sizes.length e4, .slice b5 d1.jobs.length e5, .slice b6 d1.ways.length e6]) d1 ∧ Below w.heap.size w (deskPut w9 (w.heap.size + 1) #[.int .i64 d1.rows.vars, .slice b1 d1.rows.nums.length e1, .slice b2 d1.rows.bnds.length e2, .slice b3 d1.rows.gains.length e3, .slice b4 d1.sizes.length e4, .slice b5 d1.jobs.length e5, .slice b6 d1.ways.length e6]) ∧ Blk (deskPut w9 (w.heap.size + 1) #[.int .i64 d1.rows.vars, .slice b1 d1.rows.nums.length e1, .slice b2 d1.rows.bnds.length e2, .slice b3 d1.rows.gains.length e3, .slice b4 d1.sizes.length e4, .slice b5 d1.jobs.length e5, .slice b6 d1.ways.length e6]) (w.heap.size + 1) 30 #[.int .i64 d1.rows.vars, .slice b1 d1.rows.nums.length e1, .slice b2 d1.rows.bnds.length e2, .slice b3 d1.rows.gains.length e3, .slice b4 d1.sizes.length e4, .slice b5 d1.jobs.length e5, .slice b6 d1.ways.length e6] from
          ⟨h1, (store_blk (cells := zD) h3 rfl).1, hx.1, hB.trans (hx.2.2.1.toBelow hB.size (fun k h1 h2 => by omega)), hx.2.1⟩)
      have hst := Tryz.Builder_String_any_k w.heap.size bb T.data.toList wo.drew HIF.out hzo
      rw [HSS.out] at hst
      have HSTR := Lib.hid hst
      clear hblk hown HD hd1 hT HR1 HR2 hbB hst
      go_wp2_with fail
      go_region_with (go_at_call 57; refine HSTR.out.mono ?_; rintro e w9 ⟨rfl, _, hb9, hk9⟩; have hkB : Kept (BufS wo bb) wo w9 := kept_others (w := wo) hk9 (Below.trans (Below.refl _ wo).drew hb9); obtain ⟨f1, f2, f3, f4, f5⟩ := FIN.out w9 hkB (Below.trans (Below.refl _ wo).drew hb9); obtain ⟨j0, j1, j2, j3, j4, j5, j6⟩ := desk_cells f1; obtain ⟨q0, q1, q2, q3, q4, q5, q6⟩ := desk_cells f5)
      all_goals
        go_wp2_with fail
        go_simp
        refine bodyPost_ret (v := .tuple #[.agg #[.int .i64 d1.rows.vars, .slice b1 d1.rows.nums.length e1, .slice b2 d1.rows.bnds.length e2, .slice b3 d1.rows.gains.length e3, .slice b4 d1.sizes.length e4, .slice b5 d1.jobs.length e5, .slice b6 d1.ways.length e6], .string T, .bool true]) (by simp [results, Tryz.results16, go_sem, *]) rfl ?_
        rw [HTE.out, HDE.out]
        exact ⟨_, rfl, f3, f4⟩
end
end Go.Proofs.YtgkbbpajkbkgnaaGreatDoor
