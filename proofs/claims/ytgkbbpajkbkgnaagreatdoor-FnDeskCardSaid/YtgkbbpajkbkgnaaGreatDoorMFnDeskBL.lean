/-
  FnDesk: texts joined: DrwO.
-/
import Derived.Test.YtgkbbpajkbkgnaaGreatDoorMFnDeskBI
import Derived.Test.YtgkbbpajkbkgnaaGreatDoorMFnDeskBJ
import Derived.Test.YtgkbbpajkbkgnaaGreatDoorMFnDeskBK
set_option linter.unusedVariables false
set_option linter.unusedSimpArgs false
namespace Go.Proofs.YtgkbbpajkbkgnaaGreatDoor
open Go.RowKit Go.Sort
section
attribute [local go_sem ↓] stDeskP
attribute [local go_sem] stDesk_in stDesk_run
set_option maxHeartbeats 2000000 in
set_option maxRecDepth 8000 in
theorem R8DeskO_any (v : Value) (bs : List Int) (w : World) (hR : RdB w v bs) (hw : WfB bs) :
    Calls Tryz.prog 10 #[v] w fun e w' => ∃ (d : DeskD) (v' : Value), DrawD d ∧ e = .returned v' ∧ OwnDx w.heap.size w' v' d ∧ Below w.heap.size w w' := by
  have hba : Below w.heap.size w (w.alloc (.cells zD 30)) := (Below.refl w.heap.size w).alloc (Nat.le_refl _) _
  have hra : RdB (w.alloc (.cells zD 30)) v bs := hR.up hba (Nat.le_refl _)
  have HR := Lib.hid hra
  have HF := Lib.hid (l00From_any v bs (w.alloc (.cells zD 30)) hra)
  have HW := Lib.hid hw
  clear hR hw hra hba
  go_enter Tryz.func10, Tryz.ntmps10
  go_upto_region 2 with (go_at_call 44; refine HF.out.mono ?_; rintro e w1 ⟨rfl, hs1, hb1⟩)
  have hl1 := (Blk.new w 30 zD).below hb1 (by simp)
  have hz1 := hb1.size
  have HL1 := Lib.hid hl1
  have HS1 := Lib.hid hs1
  have HBB := Lib.hid hb1
  have hzA : (w.alloc (.cells zD 30)).heap.size = w.heap.size + 1 := by simp
  have HZA := Lib.hid hzA
  have HZ1 := Lib.hid hz1
  have HDR := Lib.hid (l08DrawOk_any (w.alloc (.cells zD 30)) v bs HR.out HW.out (w.heap.size + 1) w1 (by omega) HBB.out (by rw [← hzA]; exact HS1.out))
  clear hl1 hs1 hb1 HF hzA hz1
  go_wp2_with (go_at_call 45; refine HDR.out.mono ?_; rintro e w2 ⟨d, v2, hd, rfl, ho2, hk2⟩; obtain ⟨b1, e1, b2, e2, b3, e3, b4, e4, b5, e5, b6, e6, rfl⟩ := ho2.shape; have hl2 := HL1.out.kept hk2 (show ¬ w.heap.size = w.heap.size + 1 by omega); have HT : w2.there w.heap.size 0 7 := (store_blk (cells := zD) hl2 rfl).1; have hf := put_desk (cs := #[.int .i64 d.rows.vars, .slice b1 d.rows.nums.length e1, .slice b2 d.rows.bnds.length e2, .slice b3 d.rows.gains.length e3, .slice b4 d.sizes.length e4, .slice b5 d.jobs.length e5, .slice b6 d.ways.length e6]) ho2 hl2 rfl; obtain ⟨j0, j1, j2, j3, j4, j5, j6⟩ := desk_cells hf.2.1)
  refine bodyPost_ret (v := .agg #[.int .i64 d.rows.vars, .slice b1 d.rows.nums.length e1, .slice b2 d.rows.bnds.length e2, .slice b3 d.rows.gains.length e3, .slice b4 d.sizes.length e4, .slice b5 d.jobs.length e5, .slice b6 d.ways.length e6]) (by simp [results, Tryz.results10, go_sem, *]) rfl ?_
  have hzA := HZA.out
  have hz1 := HZ1.out
  have hB1 : Below w.heap.size w w1 := ((Below.refl w.heap.size w).alloc (Nat.le_refl _) (.cells zD 30)).trans (HBB.out.mono (by omega))
  have hB2 : Below w.heap.size w w2 := hB1.trans (hk2.toBelow hB1.size (fun k h1 h2 => by omega))
  exact ⟨d, _, hd, rfl, hf.1.wide hB1.size, hB2.trans (hf.2.2.1.toBelow hB2.size (fun k h1 h2 => by omega))⟩
end
theorem own_puts {base size : Nat} {e t : TypeId} {v : Value} {n : Nat} {xs : List Value} {g : Nat} (hte : t ≠ e) : ∀ (vs : List Value) (o : Nat) {w : World} {cs : Array Value}, w.ownsRow base e size v n xs → Blk w g t cs → (w.setCells g o vs).ownsRow base e size v n xs
  | [], _, _, _, h, _ => h
  | u :: vs, o, w, cs, h, hb => by
    show ((w.setCell ⟨g, o, none⟩ u).setCells g (o + 1) vs).ownsRow base e size v n xs
    exact own_puts hte vs (o + 1) (own_put h hb hte o u) (hb.set o u)
theorem own_dput {base : Nat} {v : Value} {n : Nat} {xs : List Value} {g : Nat} {w : World} {cs old : Array Value} (h : w.ownsRow base 9 1 v n xs) (hb : Blk w g 30 old) : (deskPut w g cs).ownsRow base 9 1 v n xs := own_puts (by decide) cs.toList 0 h hb
theorem lines_nonl {ls : List ByteArray} (h : ∀ x ∈ ls, LineOk x) : NoNL ls := fun x hx => (h x hx).1
theorem lines_scr {ls : List ByteArray} (h : ∀ x ∈ ls, LineOk x) (hl : ls.length ≤ 5) : (scr ls).size ≤ 4005 := by
  have h1 := scr_size (ls := ls) (N := 800) fun x hx => (h x hx).2
  have h2 : (800 + 1) * ls.length ≤ (800 + 1) * 5 := Nat.mul_le_mul_left _ hl
  omega
theorem lines_run {ls : List ByteArray} (h : ∀ x ∈ ls, LineOk x) (hl : ls.length ≤ 5) (d : DeskD) : coOk (scr ls) = true ∧ rdkD d (scr ls) = stK d ls ls.length ∧ rdkT d (scr ls) = scr (outsK d ls ls.length) := by
  have hs := lines_scr h hl
  have hn := lines_nonl h
  refine ⟨scr_ok hn (by omega), ?_, ?_⟩
  · unfold rdkD
    rw [scr_lines hn]
  · unfold rdkT
    rw [scr_lines hn]
theorem outs_cnt {d : DeskD} (hv : validDk d = true) (hb : BitsD d) {ls : List ByteArray} {n : Nat} (hn : n ≤ 5) : coOk (scr (outsK d ls n)) = true ∧ coBad (scr (outsK d ls n)) = badK (outsK d ls n) n ∧ coGood (scr (outsK d ls n)) = n - badK (outsK d ls n) n := by
  have hs := outs_size hv hb ls n (by omega)
  have hnl := outs_nonl hv hb ls n
  have hok := scr_ok hnl hs
  obtain ⟨c1, c2⟩ := coYes hok
  rw [scr_lines hnl, outsK_len] at c1 c2
  exact ⟨hok, c1, c2⟩
end Go.Proofs.YtgkbbpajkbkgnaaGreatDoor
