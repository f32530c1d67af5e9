/-
  FnExactRowsText: texts joined: AddRow, RtxS, RtxI, OpenRc, LFnExactRowsText.
-/
import Derived.Maps.AppendAt
import Derived.Deep.RegionHeld3
import Derived.Deep.Cut
import Derived.Test.YtggpbekclegfoaaDoorMERowsTextAG
import Derived.Test.YtggpbekclegfoaaDoorMERowsTextAH
import Derived.Test.YtggpbekclegfoaaDoorMERowsTextAI
import Derived.Test.YtggpbekclegfoaaDoorMERowsTextAJ
namespace Go.Proofs.YtggpbekclegfoaaDoor
open Go.RowKit

theorem app_fltsL {w : World} {ops : Array Oper} {rest : List Oper} {o : Oper} {a : Act} {Q : Exit → Act → World → Prop} (hgd : o.guard = none) (s x : Operand)
    (ho : o.op = .call { callee := .builtin .append, args := #[s, x], argTypes := #[30, 30] })
    (base : Nat) (v : Value) (n : Nat) (xs : List Nat) (hs : a.eval s = v) (hown : w.ownsRow base 83 1 v n (xs.map F32))
    (sv : Value) (news : List Nat) (hx : a.eval x = sv) (hsv : Slc w sv (news.map F32)) (m : Nat) (ys : List Nat) (hm : m = n + news.length) (hys : ys = xs ++ news) (hlen : m ≤ 17592186044416) (hbase : base ≤ w.heap.size)
    (h : ∀ a' cap' w', w'.ownsRow base 83 1 (.slice a' m cap') m (ys.map F32) → Below base w w' → w.grownBy w' v.ownBlock → ((Value.slice a' m cap').ownBlock = v.ownBlock ∨ (Value.slice a' m cap').ownBlock = some w.heap.size) → wpList Tryd.prog ops Q rest (a.put o.dst (.slice a' m cap')) w') :
    wpList Tryd.prog ops Q (o :: rest) a w := by
  obtain ⟨i0, hi, hz0, hz1, hz2⟩ := info_parts Tryd.infoF32
  subst hm hys
  have hk : ∀ v' w', w'.ownsRow base 83 1 v' (n + news.length) (xs.map F32 ++ news.map F32) → w.grownBy w' v.ownBlock → (v'.ownBlock = v.ownBlock ∨ v'.ownBlock = some w.heap.size) → wpList Tryd.prog ops Q rest (a.put o.dst v') w' := by
    intro v' w' h1 h2 h3
    have h1' : w'.ownsRow base 83 1 v' (n + news.length) ((xs ++ news).map F32) := by simpa using h1
    obtain ⟨a', cap', rfl⟩ := owns_shape h1'
    exact h a' cap' w' h1' (below_grown hown hbase h2) h2 h3
  rcases hsv with ⟨rfl, hnil⟩ | ⟨ad, cap, rfl, hcl, hcm, hc⟩
  · have hn : news = [] := by simpa using hnil
    subst hn
    refine wpList_append_own_none hgd s x 30 ho base 83 i0 1 Tryd.underlying30 hi v n (xs.map F32) hs hown hx ?_
    exact hk v w (by simpa using hown) (World.grownBy.refl _ _) (.inl rfl)
  · refine wpList_append_own_at w hgd s x 30 ho base 83 i0 (.float .f32 0) 1 4 Tryd.underlying30 hi hz0 hz1 hz2 rfl (by decide) v n (xs.map F32) hs hown ad (news.map F32).length cap (news.map F32) hx (by simp) hc (f32_one news) (by simp [maxLen]; omega) (by simp; omega) hbase ?_
    intro v' w' h2 h3 _ h5
    exact hk v' w' (by simpa using h2) h3 h5

/-- Another list stays its own where one has grown. -/
theorem ownF_grown {lo hi : Nat} {w w' : World} {v u : Value} {xs : List Nat} (h : OwnF lo hi w v xs) (hg : w.grownBy w' u.ownBlock) (hn : ∀ g, v.ownBlock = some g → u.ownBlock ≠ some g) : OwnF lo hi w' v xs := by
  refine ⟨owns_kept (S := fun k => u.ownBlock = some k) h.1 ⟨hg.os, hg.tape, hg.output, hg.size, fun k hk hs => hg.block k hk fun e => hs e.symm⟩ hn, h.2⟩

theorem ownR_app1 {lo hi : Nat} {w w' : World} {n0 : Int} {x1 x2 x3 xs : List Nat} {y1 y2 y3 y : Value} {m : Nat} (h : OwnR lo hi w (.agg #[.int .i64 n0, y1, y2, y3]) ⟨n0, x1, x2, x3⟩) (hh : hi ≤ w.heap.size) (hg : w.grownBy w' y1.ownBlock)
    (ho : w'.ownsRow lo 83 1 y m (xs.map F32)) (hl : y.ownBlock = y1.ownBlock ∨ y.ownBlock = some w.heap.size) : OwnR lo w'.heap.size w' (.agg #[.int .i64 n0, y, y2, y3]) ⟨n0, xs, x2, x3⟩ := by
  obtain ⟨va, vb, vc, e, o1, o2, o3, d1, d2, d3⟩ := h
  simp only [Value.agg.injEq, Array.mk.injEq, List.cons.injEq, and_true, true_and] at e
  obtain ⟨rfl, rfl, rfl⟩ := e
  have hz := hg.size
  have p2 : OwnF lo hi w' y2 x2 := ownF_grown o2 hg (fun g hg h2 => d1 g h2 hg)
  have p3 : OwnF lo hi w' y3 x3 := ownF_grown o3 hg (fun g hg h2 => d2 g h2 hg)
  refine ⟨_, _, _, rfl, OwnF.mk ho, p2.wide (Nat.le_refl _) (by omega), p3.wide (Nat.le_refl _) (by omega), ?_, ?_, d3⟩
  · intro g h1 h2
    rcases hl with hl | hl
    · exact d1 g (hl ▸ h1) h2
    · rw [hl] at h1; simp only [Option.some.injEq] at h1; have := (p2.blk h2).2; omega
  · intro g h1 h2
    rcases hl with hl | hl
    · exact d2 g (hl ▸ h1) h2
    · rw [hl] at h1; simp only [Option.some.injEq] at h1; have := (p3.blk h2).2; omega

theorem ownR_app2 {lo hi : Nat} {w w' : World} {n0 : Int} {x1 x2 x3 xs : List Nat} {y1 y2 y3 y : Value} {m : Nat} (h : OwnR lo hi w (.agg #[.int .i64 n0, y1, y2, y3]) ⟨n0, x1, x2, x3⟩) (hh : hi ≤ w.heap.size) (hg : w.grownBy w' y2.ownBlock)
    (ho : w'.ownsRow lo 83 1 y m (xs.map F32)) (hl : y.ownBlock = y2.ownBlock ∨ y.ownBlock = some w.heap.size) : OwnR lo w'.heap.size w' (.agg #[.int .i64 n0, y1, y, y3]) ⟨n0, x1, xs, x3⟩ := by
  obtain ⟨va, vb, vc, e, o1, o2, o3, d1, d2, d3⟩ := h
  simp only [Value.agg.injEq, Array.mk.injEq, List.cons.injEq, and_true, true_and] at e
  obtain ⟨rfl, rfl, rfl⟩ := e
  have hz := hg.size
  have p1 : OwnF lo hi w' y1 x1 := ownF_grown o1 hg d1
  have p3 : OwnF lo hi w' y3 x3 := ownF_grown o3 hg (fun g hg h2 => d3 g h2 hg)
  refine ⟨_, _, _, rfl, p1.wide (Nat.le_refl _) (by omega), OwnF.mk ho, p3.wide (Nat.le_refl _) (by omega), ?_, d2, ?_⟩
  · intro g h1 h2
    rcases hl with hl | hl
    · exact d1 g h1 (hl ▸ h2)
    · rw [hl] at h2; simp only [Option.some.injEq] at h2; have := (p1.blk h1).2; omega
  · intro g h1 h2
    rcases hl with hl | hl
    · exact d3 g (hl ▸ h1) h2
    · rw [hl] at h1; simp only [Option.some.injEq] at h1; have := (p3.blk h2).2; omega

theorem ownR_set {lo hi : Nat} {w : World} {v : Value} {r : RowsD} {g : Nat} {cs : Array Value} (h : OwnR lo hi w v r) (hb : Blk w g 35 cs) (j : Nat) (u : Value) : OwnR lo hi (w.setCell ⟨g, j, none⟩ u) v r := by
  obtain ⟨va, vb, vc, e, o1, o2, o3, d⟩ := h
  have f : ∀ {y : Value} {xs : List Nat}, OwnF lo hi w y xs → OwnF lo hi (w.setCell ⟨g, j, none⟩ u) y xs := fun o => ⟨ownsRow_setCell_other o.1 (hb.not_owned o.1 (by decide)) _, o.2⟩
  exact ⟨va, vb, vc, e, f o1, f o2, f o3, d⟩
theorem OwnR.parts {lo hi : Nat} {w : World} {x0 x y z : Value} {r : RowsD} (h : OwnR lo hi w (.agg #[x0, x, y, z]) r) : OwnF lo hi w x r.nums ∧ OwnF lo hi w y r.bnds ∧ OwnF lo hi w z r.gains := by
  obtain ⟨va, vb, vc, e, h1, h2, h3, _⟩ := h
  simp only [Value.agg.injEq, Array.mk.injEq, List.cons.injEq, and_true] at e
  obtain ⟨_, rfl, rfl, rfl⟩ := e
  exact ⟨h1, h2, h3⟩

def addRw (r : RowsD) (x : List Nat) (b : Nat) : RowsD := ⟨r.vars, r.nums ++ x, r.bnds ++ [b], r.gains⟩
noncomputable def addOk (r : RowsD) (x : List Nat) (b : Nat) : Bool := validR r && ((x.length : Int) == r.vars && validR (addRw r x b))
noncomputable def addV (r : RowsD) (x : List Nat) (b : Nat) : RowsD := if addOk r x b = true then addRw r x b else zeroR

theorem addOk_T {r : RowsD} {x : List Nat} {b : Nat} (h : (!(validR r) || ((x.length : Int) != r.vars)) = true) : addOk r x b = false := by
  unfold addOk
  cases hv : validR r
  · rfl
  · rw [hv] at h
    simp only [Bool.not_true, Bool.false_or, bne_iff_ne, ne_eq] at h
    have : ((x.length : Int) == r.vars) = false := by simpa using h
    rw [this]; rfl
theorem addOk_F {r : RowsD} {x : List Nat} {b : Nat} (h : (!(validR r) || ((x.length : Int) != r.vars)) = false) : ValR r ∧ (x.length : Int) = r.vars ∧ addOk r x b = validR (addRw r x b) := by
  simp only [Bool.or_eq_false_iff, Bool.not_eq_false', bne_eq_false_iff_eq] at h
  refine ⟨validR_iff.1 h.1, h.2, ?_⟩
  unfold addOk
  rw [h.1, h.2]; simp

theorem addV_cnt (r : RowsD) (x : List Nat) (b : Nat) : cntR (addV r x b) ≤ 80 := by
  unfold addV
  split
  · rename_i h
    have hv : ValR (addRw r x b) := by
      unfold addOk at h
      simp only [Bool.and_eq_true] at h
      exact validR_iff.1 h.2.2
    have h1 := hv.nl
    have h2 := mulR hv.v1 hv.v8 hv.b8
    have h3 := hv.gl
    have h4 := hv.v8
    have h5 := hv.b8
    unfold cntR
    omega
  · simp [zeroR, cntR]

theorem ownR_zero (lo hi : Nat) (w : World) : OwnR lo hi w (.agg #[.int .i64 0, .slice none 0 0, .slice none 0 0, .slice none 0 0]) zeroR := by
  have o : OwnF lo hi w (.slice none 0 0) [] := ⟨World.ownsRow_nil _ _ _ _, by intro g hg; cases hg⟩
  exact ⟨_, _, _, rfl, o, o, o, (by intro g hg; cases hg), (by intro g hg; cases hg), (by intro g hg; cases hg)⟩

end Go.Proofs.YtggpbekclegfoaaDoor

namespace Go.Proofs.YtggpbekclegfoaaDoor
open Go.RowKit

theorem hexS_lt (n : Nat) : (hexS n).size ≤ 8 := Nat.le_of_eq (hexS_size n)
/-- The four words of rows. -/
def wordsR (r : RowsD) : List ByteArray := [decS r.vars.toNat, numT r.nums, numT r.bnds, numT r.gains]
def rowsS (r : RowsD) : ByteArray := joinBy 59 (wordsR r)
noncomputable def rowT (r : RowsD) : ByteArray := if validR r = true then rowsS r else E0
theorem rowsS_eq (r : RowsD) : rowsS r = decS r.vars.toNat ++ B1 59 ++ numT r.nums ++ B1 59 ++ numT r.bnds ++ B1 59 ++ numT r.gains := by
  unfold rowsS wordsR
  rw [show [decS r.vars.toNat, numT r.nums, numT r.bnds, numT r.gains] = ([decS r.vars.toNat, numT r.nums, numT r.bnds]) ++ [numT r.gains] from rfl, joinBy_snoc _ _ _ (by simp)]
  rw [show [decS r.vars.toNat, numT r.nums, numT r.bnds] = ([decS r.vars.toNat, numT r.nums]) ++ [numT r.bnds] from rfl, joinBy_snoc _ _ _ (by simp)]
  rw [show [decS r.vars.toNat, numT r.nums] = ([decS r.vars.toNat]) ++ [numT r.nums] from rfl, joinBy_snoc _ _ _ (by simp), joinBy_one]
theorem valR_few {r : RowsD} (h : validR r = true) : r.nums.length ≤ 64 ∧ r.bnds.length ≤ 64 ∧ r.gains.length ≤ 64 ∧ 0 ≤ r.vars ∧ r.vars ≤ 8 := by
  have hv := validR_iff.1 h
  have h1 := hv.nl
  have h2 := hv.v8
  have h3 := hv.b8
  have h4 := hv.v1
  have h5 := hv.gl
  have : r.vars * r.bnds.length ≤ 8 * 8 := Int.mul_le_mul h2 (by omega) (by omega) (by omega)
  omega

set_option maxHeartbeats 4000000 in
set_option maxRecDepth 4000 in
theorem l08Rows_any (bb : Nat) (r : RowsD) (a1 a2 a3 : Option Addr) (c1 c2 c3 : Nat) (w : World) (hk : Blk w bb 35 #[.int .i64 r.vars, .slice a1 r.nums.length c1, .slice a2 r.bnds.length c2, .slice a3 r.gains.length c3])
    (p1 : RdF w (.slice a1 r.nums.length c1) r.nums) (p2 : RdF w (.slice a2 r.bnds.length c2) r.bnds) (p3 : RdF w (.slice a3 r.gains.length c3) r.gains) (hv : validR r = true) (b1 : BitsF r.nums) (b2 : BitsF r.bnds) (b3 : BitsF r.gains) :
    Calls Tryd.prog 33 #[.pointer (some ⟨bb, 0, none⟩)] w fun e w' => e = .returned (.string (rowsS r)) ∧ Below w.heap.size w w' := by
  have hf := valR_few hv
  have d0 := hk.cell 0 rfl
  have d1 := hk.cell 1 rfl
  have d2 := hk.cell 2 rfl
  have d3 := hk.cell 3 rfl
  have HE := Lib.hid (rowsS_eq r)
  have P1 := Lib.hid p1
  have P2 := Lib.hid p2
  have P3 := Lib.hid p3
  have B1 := Lib.hid b1
  have B2 := Lib.hid b2
  have B3 := Lib.hid b3
  obtain ⟨n, hn⟩ : ∃ n : Nat, r.vars = (n : Int) := ⟨r.vars.toNat, by omega⟩
  have hn8 : n ≤ 8 := by omega
  have HD := Lib.hid (fun W => l01Dec_any n (by omega) W)
  have s0 := decS_size (n := n) (by omega)
  have s1 := numT_size r.nums (by omega)
  have s2 := numT_size r.bnds (by omega)
  have s3 := numT_size r.gains (by omega)
  have HL1 := Lib.hid (show r.nums.length ≤ 1000000 by omega)
  have HL2 := Lib.hid (show r.bnds.length ≤ 1000000 by omega)
  have HL3 := Lib.hid (show r.gains.length ≤ 1000000 by omega)
  rw [hn] at d0 HE
  have HE2 := Lib.hid (show rowsS r = decS n ++ Go.Proofs.YtggpbekclegfoaaDoor.B1 59 ++ numT r.nums ++ Go.Proofs.YtggpbekclegfoaaDoor.B1 59 ++ numT r.bnds ++ Go.Proofs.YtggpbekclegfoaaDoor.B1 59 ++ numT r.gains from HE.out)
  have H1 := Lib.hid (fun W (h : Below w.heap.size w W) => l01NText_any _ r.nums W (P1.out.up h (Nat.le_refl _)) B1.out HL1.out)
  have H2 := Lib.hid (fun W (h : Below w.heap.size w W) => l01NText_any _ r.bnds W (P2.out.up h (Nat.le_refl _)) B2.out HL2.out)
  have H3 := Lib.hid (fun W (h : Below w.heap.size w W) => l01NText_any _ r.gains W (P3.out.up h (Nat.le_refl _)) B3.out HL3.out)
  obtain ⟨D, hD⟩ : ∃ D, D = decS n := ⟨_, rfl⟩
  obtain ⟨N1, hN1⟩ : ∃ N1, N1 = numT r.nums := ⟨_, rfl⟩
  obtain ⟨N2, hN2⟩ : ∃ N2, N2 = numT r.bnds := ⟨_, rfl⟩
  obtain ⟨N3, hN3⟩ : ∃ N3, N3 = numT r.gains := ⟨_, rfl⟩
  rw [← hD] at HD s0 HE2
  rw [← hN1] at H1 s1 HE2
  rw [← hN2] at H2 s2 HE2
  rw [← hN3] at H3 s3 HE2
  obtain ⟨R, hR⟩ : ∃ R, R = rowsS r := ⟨_, rfl⟩
  rw [← hR] at HE2 ⊢
  have n1 : ¬ 9223372036854775807 < D.size + 1 := by omega
  have n2 : ¬ 9223372036854775807 < D.size + 1 + N1.size := by omega
  have n3 : ¬ 9223372036854775807 < D.size + 1 + N1.size + 1 := by omega
  have n4 : ¬ 9223372036854775807 < D.size + 1 + N1.size + 1 + N2.size := by omega
  have n5 : ¬ 9223372036854775807 < D.size + 1 + N1.size + 1 + N2.size + 1 := by omega
  have n6 : ¬ 9223372036854775807 < D.size + 1 + N1.size + 1 + N2.size + 1 + N3.size := by omega
  clear hk p1 p2 p3 b1 b2 b3 hv hf HE hn hD hN1 hN2 hN3 hR P1 P2 P3 B1 B2 B3 HL1 HL2 HL3 s0 s1 s2 s3
  go_enter Tryd.func33, Tryd.ntmps33
  go_wp2_with fail
  go_region_held3 (fun X => X.cell? ⟨bb, 0, none⟩ = some (.int .i64 n) ∧ X.cell? ⟨bb, 1, none⟩ = some (.slice a1 r.nums.length c1) ∧ X.cell? ⟨bb, 2, none⟩ = some (.slice a2 r.bnds.length c2) ∧ X.cell? ⟨bb, 3, none⟩ = some (.slice a3 r.gains.length c3) ∧ Below w.heap.size w X)
    (first | exact ⟨held_of hbn d0 (Nat.le_refl _), held_of hbn d1 (Nat.le_refl _), held_of hbn d2 (Nat.le_refl _), held_of hbn d3 (Nat.le_refl _), hbn⟩ | exact ⟨d0, d1, d2, d3, (Below.refl _ _).drew⟩)
    (first
      | (go_at_call 58; have hh := (‹_ ∧ _ ∧ _ ∧ _ ∧ Below w.heap.size w _›).2.2.2.2; refine (HD.out _).mono ?_; rintro e w1 ⟨rfl, hb1⟩; have hbn := hh.trans (hb1.mono hh.size))
      | (go_at_call 59; have hh := (‹_ ∧ _ ∧ _ ∧ _ ∧ Below w.heap.size w _›).2.2.2.2; (first | with_reducible refine (H1.out _ hh).mono ?_ | with_reducible refine (H2.out _ hh).mono ?_ | with_reducible refine (H3.out _ hh).mono ?_); rintro e w1 ⟨rfl, hb1⟩; have hbn := hh.trans (hb1.mono hh.size))
      | fail)
  all_goals
    have HBN := Lib.hid hbn
    go_wp2_with fail
    go_ret
    exact ⟨by rw [HE2.out]; rfl, HBN.out⟩

theorem rowsTextS_any (v : Value) (r : RowsD) (w : World) (h : RdR w v r) (b1 : BitsF r.nums) (b2 : BitsF r.bnds) (b3 : BitsF r.gains) :
    Calls Tryd.prog 13 #[v] w fun e w' => e = .returned (.tuple #[.string (rowT r), .bool (validR r)]) ∧ Below w.heap.size w w' := by
  obtain ⟨a1, c1, a2, c2, a3, c3, rfl⟩ := h.shape
  obtain ⟨p1, p2, p3⟩ := h.parts
  have HP := Lib.hid h
  have P1 := Lib.hid p1
  have P2 := Lib.hid p2
  have P3 := Lib.hid p3
  have HV := Lib.hid (fun W (hb : Below w.heap.size w W) (hk : Blk W w.heap.size 35 #[.int .i64 r.vars, .slice a1 r.nums.length c1, .slice a2 r.bnds.length c2, .slice a3 r.gains.length c3]) => l02Is_any w.heap.size _ _ _ _ r W hk (HP.out.up hb (Nat.le_refl _)))
  obtain ⟨q, hq⟩ : ∃ q, validR r = q := ⟨_, rfl⟩
  have HQ := Lib.hid hq
  rw [hq] at HV ⊢
  clear h p1 p2 p3 hq
  go_enter Tryd.func13, Tryd.ntmps13
  go_upto_region 1 with fail
  refine wp_at fun W hW => ?_
  have HB := Lib.hid (show Below w.heap.size w W by subst hW; exact (Below.refl _ _).alloc (Nat.le_refl _) _)
  have HK := Lib.hid (show Blk W w.heap.size 35 #[.int .i64 r.vars, .slice a1 r.nums.length c1, .slice a2 r.bnds.length c2, .slice a3 r.gains.length c3] by subst hW; exact Blk.new _ _ _)
  clear hW
  cases q
  · go_wp2_with (go_at_call 32; refine (HV.out _ HB.out HK.out).mono ?_; rintro e w0 ⟨rfl, m, rfl⟩)
    go_ret2
    exact ⟨by rw [show rowT r = E0 by unfold rowT; rw [HQ.out]; rfl]; rfl, below_drewN HB.out _⟩
  · have HT := Lib.hid (show rowT r = rowsS r by unfold rowT; rw [HQ.out]; rfl)
    go_wp2_with (first
      | (go_at_call 32; refine (HV.out _ HB.out HK.out).mono ?_; rintro e w0 ⟨rfl, m, rfl⟩; have hb0 := below_drewN HB.out m; have HR := Lib.hid (l08Rows_any w.heap.size r a1 a2 a3 c1 c2 c3 (W.drewN m) (HK.out.below (below_drewN (Below.refl W.heap.size W) m) HK.out.lt) (P1.out.up hb0 (Nat.le_refl _)) (P2.out.up hb0 (Nat.le_refl _)) (P3.out.up hb0 (Nat.le_refl _)) HQ.out b1 b2 b3))
      | (go_at_call 33; refine HR.out.mono ?_; rintro e w1 ⟨rfl, hb1⟩)
      | fail)
    go_ret2
    exact ⟨by rw [HT.out]; rfl, hb0.trans (hb1.mono hb0.size)⟩

end Go.Proofs.YtggpbekclegfoaaDoor

namespace Go.Proofs.YtggpbekclegfoaaDoor
open Go.RowKit

theorem fill_string (W : World) (s : ByteArray) (B b : Nat) (hb : b = W.heap.size) (hB : B ≤ W.heap.size) : (W.alloc (.cells #[.string s] 9)).ownsRow B 9 1 (.slice (some ⟨b, 0, none⟩) 1 1) 1 ([s].map SV) := by
  subst hb
  exact World.ownsRow_lit (base := B) (e := 9) (size := 1) W #[.string s] 1 hB (by simp [maxLen]) rfl

/-- Texts joined with a mark of one byte. -/
theorem join_any (v : Value) (c : UInt8) (ws : List ByteArray) (w : World) (h : RdSs w v ws) (hN : ∀ x ∈ ws, x.size ≤ 2304) (h0 : ws.length = 4) :
    Calls Tryd.prog 38 #[v, .string ⟨#[c]⟩] w fun e w' => e = .returned (.string (joinBy c ws)) ∧ Below w.heap.size w w' := by
  obtain ⟨a, cp, rfl⟩ := h.shape
  obtain ⟨b, off, rfl, hbw, _⟩ := h.at (i := 0) (by omega)
  have hcells : ∀ (j : Nat) x, ws[j]? = some x → w.cell? ⟨b, off + j, none⟩ = some (.string x) := by
    intro j x hj
    have hlt := (List.getElem?_eq_some_iff.1 hj).1
    obtain ⟨b', off', e, _, hc⟩ := h.at hlt
    simp only [Option.some.injEq, Addr.mk.injEq, and_true] at e
    obtain ⟨rfl, rfl⟩ := e
    rw [hc, List.getD_eq_getElem?_getD, hj]
    rfl
  have hcap : ws.length ≤ cp := by
    rcases h.1 with ⟨e, _⟩ | ⟨ad, cap, e, h1, h2, _⟩
    · cases e
    · simp only [Value.slice.injEq, List.length_map] at e h1
      obtain ⟨_, _, rfl⟩ := e
      exact h1
  have hsz := joinBy_size c ws 2304 hN
  have hC := Tryd.strings_Join b off cp ws ⟨#[c]⟩ w hcells hbw (by omega) hcap (by
    have e : (Lib.join (ws.map (·.data.toList)) (⟨#[c]⟩ : ByteArray).data.toList).length = (joinBy c ws).size := by simp [joinBy, ByteArray.size]
    rw [e]; omega)
  exact hC

set_option maxHeartbeats 4000000 in
set_option maxRecDepth 4000 in
theorem rowsTextI_any (v : Value) (r : RowsD) (w : World) (h : RdR w v r) (b1 : BitsF r.nums) (b2 : BitsF r.bnds) (b3 : BitsF r.gains) (hp : HasPow w) :
    Calls Tryd.prog 15 #[v] w fun e w' => e = .returned (.tuple #[.string (rowT r), .bool (validR r)]) ∧ Below w.heap.size w w' := by
  obtain ⟨a1, c1, a2, c2, a3, c3, rfl⟩ := h.shape
  obtain ⟨p1, p2, p3⟩ := h.parts
  have HP := Lib.hid h
  have P1 := Lib.hid p1
  have P2 := Lib.hid p2
  have P3 := Lib.hid p3
  have HPW := Lib.hid hp
  obtain ⟨q, hq⟩ : ∃ q, validR r = q := ⟨_, rfl⟩
  have HQ := Lib.hid hq
  have HV := Lib.hid (fun W (h : Below w.heap.size w W) => ValidRows_any _ r W (HP.out.up h (Nat.le_refl _)))
  rw [hq] at HV ⊢
  clear h p1 p2 p3 hp hq
  go_enter Tryd.func15, Tryd.ntmps15
  go_upto_region 1 with fail
  refine wp_at fun W hW => ?_
  have HB := Lib.hid (show Below w.heap.size w W by subst hW; exact (Below.refl _ _).alloc (Nat.le_refl _) _)
  have HK := Lib.hid (show Blk W w.heap.size 35 #[.int .i64 r.vars, .slice a1 r.nums.length c1, .slice a2 r.bnds.length c2, .slice a3 r.gains.length c3] by subst hW; exact Blk.new _ _ _)
  clear hW
  have d0 := HK.out.cell 0 rfl
  have d1 := HK.out.cell 1 rfl
  have d2 := HK.out.cell 2 rfl
  have d3 := HK.out.cell 3 rfl
  cases q
  · go_wp2_with (go_at_call 35; refine (HV.out _ HB.out).mono ?_; rintro e w0 ⟨rfl, hb⟩)
    go_ret2
    exact ⟨by rw [show rowT r = E0 by unfold rowT; rw [HQ.out]; rfl]; rfl, HB.out.trans (hb.mono HB.out.size)⟩
  have hfew := valR_few HQ.out
  obtain ⟨n, hn⟩ : ∃ n : Nat, r.vars = (n : Int) := ⟨r.vars.toNat, by omega⟩
  have hn8 : n ≤ 8 := by omega
  have HW0 := Lib.hid (show wordsR r = [decS n, numT r.nums, numT r.bnds, numT r.gains] by unfold wordsR; rw [hn]; rfl)
  have HT := Lib.hid (show rowT r = joinBy 59 (wordsR r) by unfold rowT; rw [HQ.out]; rfl)
  have HF := Lib.hid hfew
  have HN := Lib.hid hn
  clear hfew hn
  go_upto_region 3 with (go_at_call 35; refine (HV.out _ HB.out).mono ?_; rintro e w0 ⟨rfl, hb⟩)
  have HB0 := Lib.hid (HB.out.trans (hb.mono HB.out.size))
  have HK0 := Lib.hid (HK.out.below hb HK.out.lt)
  have e0 := held_of hb d0 (Nat.le_refl _)
  rw [HN.out] at e0
  clear d0 d1 d2 d3 hb HV HK HB
  have HD := Lib.hid (Decimal_any n (by omega) w0 (HPW.out.up HB0.out (Nat.le_refl _)))
  go_upto_region 4 with (go_at_call 36; refine HD.out.mono ?_; rintro e w1 ⟨rfl, hb⟩)
  refine wp_at fun W4 hW4 => ?_
  have hz0 := HB0.out.size
  have HB4 := Lib.hid (show Below w.heap.size w W4 by subst hW4; exact (HB0.out.trans (hb.mono hz0)).alloc (Nat.le_trans hz0 hb.size) _)
  have HK4 := Lib.hid (show Blk W4 w.heap.size 35 #[.int .i64 r.vars, .slice a1 r.nums.length c1, .slice a2 r.bnds.length c2, .slice a3 r.gains.length c3] by subst hW4; exact (HK0.out.below hb HK0.out.lt).alloc _)
  have HO4 := Lib.hid (show W4.ownsRow w.heap.size 9 1 (.slice (some ⟨w1.heap.size, 0, none⟩) 1 1) 1 (((wordsR r).take 1).map SV) by
    rw [HW0.out]; subst hW4; exact fill_string w1 _ _ _ rfl (Nat.le_trans hz0 hb.size))
  clear hW4 hb HD e0 HB0 HK0 hz0
  have d1 := HK4.out.cell 1 rfl
  have d2 := HK4.out.cell 2 rfl
  have d3 := HK4.out.cell 3 rfl
  have hz4 := HB4.out.size
  have HL4 := Lib.hid (Blk.new W4 30 #[.slice a1 r.nums.length c1, .slice a2 r.bnds.length c2, .slice a3 r.gains.length c3])
  obtain ⟨L, hL⟩ : ∃ L, L = W4.heap.size := ⟨_, rfl⟩
  go_wp2_with fail
  go_loopw [4, 24] (fun ov iv wr => ∃ (k : Nat) (b : Option Addr) (cc : Nat), iv = .int .i64 k ∧ k ≤ 3 ∧ ov = .slice b (k + 1) cc ∧ Hid (wr.ownsRow w.heap.size 9 1 (.slice b (k + 1) cc) (k + 1) (((wordsR r).take (k + 1)).map SV)) ∧ Hid (Blk wr W4.heap.size 30 #[.slice a1 r.nums.length c1, .slice a2 r.bnds.length c2, .slice a3 r.gains.length c3]) ∧ Hid (Below w.heap.size w wr)) (fun _ iv _ => 4 - (intOf iv).toNat)
  case atStart => exact ⟨0, _, _, rfl, by omega, rfl, Lib.hid (HO4.out.alloc _), HL4, Lib.hid (HB4.out.alloc hz4 _)⟩
  case round =>
    clear HL4 HO4 HB4 HK4 d1 d2 d3 hL
    obtain ⟨k, b, cc, rfl, hk, rfl, HO, HL, HBR⟩ := hrel
    obtain ⟨wo, rfl⟩ : ∃ wo, wo = wr := ⟨wr, rfl⟩
    have hszo := HBR.out.size
    by_cases hlt : k < 3
    · obtain ⟨av, cv, X, hcell, hrd, hbits, hlen, hws⟩ : ∃ (av : Option Addr) (cv : Nat) (X : List Nat), wo.cell? ⟨W4.heap.size, k, none⟩ = some (.slice av X.length cv) ∧ RdF w (.slice av X.length cv) X ∧ BitsF X ∧ X.length ≤ 256 ∧ (wordsR r).take (k + 1 + 1) = (wordsR r).take (k + 1) ++ [numT X] := by
        have hf := HF.out
        rcases (by omega : k = 0 ∨ k = 1 ∨ k = 2) with rfl | rfl | rfl
        · exact ⟨a1, c1, r.nums, HL.out.cell 0 rfl, P1.out, b1, by omega, rfl⟩
        · exact ⟨a2, c2, r.bnds, HL.out.cell 1 rfl, P2.out, b2, by omega, rfl⟩
        · exact ⟨a3, c3, r.gains, HL.out.cell 2 rfl, P3.out, b3, by omega, rfl⟩
      have hltI : (k : Int) < 3 := by omega
      have HN := Lib.hid (NumbersText_any _ X wo (hrd.up HBR.out (Nat.le_refl _)) hbits hlen)
      have HWS := Lib.hid hws
      obtain ⟨D, hD⟩ : ∃ D, D = numT X := ⟨_, rfl⟩
      rw [← hD] at HN HWS
      have hlL := HL.out.lt
      clear hrd hbits hlen hws hD b1 b2 b3
      go_wp2_with (first
        | (go_at_call 37; refine HN.out.mono ?_; rintro e w1 ⟨rfl, hb1⟩; have hz1 := Nat.le_trans hszo hb1.size; have HL1 := Lib.hid ((HL.out.below hb1 hlL).alloc (.cells #[.string D] 9)); have HO1 := Lib.hid ((owns_below HO.out hb1 (Nat.le_refl _)).alloc (.cells #[.string D] 9)))
        | (at_builtin; refine app_strs rfl _ _ rfl w.heap.size (.slice b (k + 1) cc) (k + 1) ((wordsR r).take (k + 1)) rfl HO1.out _ [D] rfl (slcS_one w1 D _ rfl) (k + 1 + 1) ((wordsR r).take (k + 1 + 1)) (by simp) HWS.out (by omega) (by simp; omega) ?_; intro b4 c4 w4 hown4 hbl4 hg4; have HL4 := Lib.hid (blkI_grown HL1.out hg4 (HL1.out.not_owned HO1.out (by decide))))
        | fail)
      go_roundw
      case rel => exact ⟨k + 1, b4, c4, by go_num, by omega, rfl, Lib.hid hown4, HL4, Lib.hid (HBR.out.trans ((hb1.mono hszo).trans (((Below.refl _ _).alloc hz1 _).trans hbl4)))⟩
      case measure => simp [intOf]; omega
    · obtain rfl : k = 3 := by omega
      have hf := HF.out
      have s0 := decS_size (n := n) (by omega)
      have hsz : ∀ x ∈ wordsR r, x.size ≤ 2304 := by
        rw [HW0.out]
        intro x hx
        simp only [List.mem_cons, List.not_mem_nil, or_false] at hx
        rcases hx with rfl | rfl | rfl | rfl
        · omega
        · exact numT_size _ (by omega)
        · exact numT_size _ (by omega)
        · exact numT_size _ (by omega)
      have hC : Calls Tryd.prog 38 #[.slice b 4 cc, .string ⟨#[59]⟩] wo fun e w' => e = .returned (.string (joinBy 59 (wordsR r))) ∧ Below wo.heap.size wo w' := by
        have hO := HO.out
        have hrd : RdSs wo (.slice b (wordsR r).length cc) (wordsR r) := ⟨slc_of_owns hO, fun s hs => by have := hsz s hs; simp [maxLen]; omega⟩
        exact join_any _ 59 (wordsR r) wo hrd hsz rfl
      have HC := Lib.hid hC
      clear hC hsz s0 hf
      go_wp2_with (go_at_call 38; refine HC.out.mono ?_; rintro e w1 ⟨rfl, hb1⟩)
      go_ret2
      exact ⟨by rw [HT.out]; rfl, HBR.out.trans (hb1.mono hszo)⟩

end Go.Proofs.YtggpbekclegfoaaDoor

namespace Go.Proofs.YtggpbekclegfoaaDoor
open Go.ChangeShapes Go.WideShapes Go.ChangeAt Go.RowKit
set_option linter.unusedVariables false

def BitsR (r : RowsD) : Prop := BitsF r.nums ∧ BitsF r.bnds ∧ BitsF r.gains

section
variable {H : Type} {enc : TypeId × Value → H} {w : World} {base : Nat} {spare : Nat → Bool} {held : Bool}

set_option maxRecDepth 100000 in
theorem arg_Rc {r : Reach} {b0 : Nat} {v : Value} {d : DataW H} {p : List MemPlace} (hv : Value.okWide Tryd.prog w r b0 32 v) (h : DataW.Trod enc Tryd.prog w base spare held 32 v d p) : ∃ t, RdR w v t ∧ BitsR t := by
  obtain ⟨cs, rfl, hsz⟩ := okWide_struct Tryd.underlying32 hv
  obtain ⟨fuel, hf⟩ := h
  obtain ⟨va, vb, vc, t, e, h1, h2, h3, h4⟩ := trod_R hf
  simp only [Value.cells] at e
  obtain ⟨l⟩ := cs
  simp only at e
  subst e
  exact ⟨t, h1, h2, h3, h4⟩
end
end Go.Proofs.YtggpbekclegfoaaDoor

namespace Go.Proofs.YtggpbekclegfoaaDoor
open Go.RowKit

set_option maxHeartbeats 4000000 in
set_option maxRecDepth 100000 in
theorem lawRowsText_any (w : World) (v0 : Value) (z0 : RowsD) (r0 : RdR w v0 z0) (yb0 : BitsR z0) (hpw : HasPow w) :
    Calls Tryd.prog 4 #[v0] w fun e w' => e = .returned (.bool true) ∧ Below w.heap.size w w' := by
  obtain ⟨x0, c0, y0, d0, u0, f0, rfl⟩ := r0.shape
  have RP0 := Lib.hid r0
  clear r0
  have B : Hid (Below w.heap.size w w) := Below.refl _ _
  have HPW := Lib.hid hpw
  clear hpw
  go_enter Tryd.func4, Tryd.ntmps4
  go_upto_region 2 with fail
  refine wp_at fun w1 hW => ?_
  have hb : Below w.heap.size w w1 := by subst hW; (repeat' first | exact Below.refl _ _ | assumption | refine Below.alloc ?_ ?_ _ | refine Below.setCell ?_ ?_ _ | refine Below.drew ?_ | (simp; done) | (simp; omega))
  have K0 := Lib.hid (show Blk w1 (w.heap.size) 32 #[.int .i64 z0.vars, .slice x0 z0.nums.length c0, .slice y0 z0.bnds.length d0, .slice u0 z0.gains.length f0] by subst hW; simpa using (Blk.new w 32 #[.int .i64 z0.vars, .slice x0 z0.nums.length c0, .slice y0 z0.bnds.length d0, .slice u0 z0.gains.length f0]))
  have zw1 := hb.size
  have lK0 := K0.out.lt
  replace B := Lib.hid hb
  clear hb hW
  have tK0_0 : w1.cell? ⟨w.heap.size, 0, none⟩ = some (.int .i64 z0.vars) := K0.out.cell 0 rfl
  have tK0_1 : w1.cell? ⟨w.heap.size, 1, none⟩ = some (.slice x0 z0.nums.length c0) := K0.out.cell 1 rfl
  have tK0_2 : w1.cell? ⟨w.heap.size, 2, none⟩ = some (.slice y0 z0.bnds.length d0) := K0.out.cell 2 rfl
  have tK0_3 : w1.cell? ⟨w.heap.size, 3, none⟩ = some (.slice u0 z0.gains.length f0) := K0.out.cell 3 rfl
  go_wp2_with fail
  refine (szR_any _ z0 _ _ (RP0.out.up B.out (Nat.le_refl _)) (by decide) (by decide)).mono ?_
  rintro e w2 ⟨s0, rfl, sa0, sb0, sc0, hb⟩
  clear tK0_0 tK0_1 tK0_2 tK0_3
  replace B := Lib.hid (B.out.trans (hb.mono B.out.size))
  replace K0 := Lib.hid (K0.out.below hb K0.out.lt)
  have zw2 : w1.heap.size ≤ w2.heap.size := hb.size
  clear hb
  by_cases hn0 : s0 < 0
  · go_wp2_with fail
    go_ret
    exact ⟨rfl, B.out⟩
  have hs0 : bulkR z0 ≤ 1048576 := by have := sc0 (by omega); omega
  clear sa0 sb0 sc0
  have ne1 : ((validR z0) != (validR z0)) = false := by simp
  go_upto_region 5 with fail
  have tK0_0 : w2.cell? ⟨w.heap.size, 0, none⟩ = some (.int .i64 z0.vars) := K0.out.cell 0 rfl
  have tK0_1 : w2.cell? ⟨w.heap.size, 1, none⟩ = some (.slice x0 z0.nums.length c0) := K0.out.cell 1 rfl
  have tK0_2 : w2.cell? ⟨w.heap.size, 2, none⟩ = some (.slice y0 z0.bnds.length d0) := K0.out.cell 2 rfl
  have tK0_3 : w2.cell? ⟨w.heap.size, 3, none⟩ = some (.slice u0 z0.gains.length f0) := K0.out.cell 3 rfl
  go_wp2_with fail
  refine (toR_any _ z0 _ (RP0.out.up B.out (Nat.le_refl _)) hs0).mono ?_
  rintro e w3 ⟨vc0, rfl, c0, hb⟩
  replace tK0_0 := held_of hb tK0_0 (Nat.le_refl _)
  replace tK0_1 := held_of hb tK0_1 (Nat.le_refl _)
  replace tK0_2 := held_of hb tK0_2 (Nat.le_refl _)
  replace tK0_3 := held_of hb tK0_3 (Nat.le_refl _)
  replace c0 := Lib.hid c0
  replace B := Lib.hid (B.out.trans (hb.mono B.out.size))
  replace K0 := Lib.hid (K0.out.below hb K0.out.lt)
  have zw3 : w2.heap.size ≤ w3.heap.size := hb.size
  clear hb
  go_wp2_with fail
  refine (rowsTextS_any _ z0 _ c0.out.rd yb0.1 yb0.2.1 yb0.2.2).mono ?_
  rintro e w4 ⟨rfl, hb⟩
  clear tK0_0 tK0_1 tK0_2 tK0_3
  replace B := Lib.hid (B.out.trans (hb.mono B.out.size))
  replace K0 := Lib.hid (K0.out.below hb K0.out.lt)
  replace c0 := Lib.hid (c0.out.up hb (Nat.le_refl _))
  have zw4 : w3.heap.size ≤ w4.heap.size := hb.size
  clear hb
  clear c0
  go_upto_region 6 with fail
  have tK0_0 : w4.cell? ⟨w.heap.size, 0, none⟩ = some (.int .i64 z0.vars) := K0.out.cell 0 rfl
  have tK0_1 : w4.cell? ⟨w.heap.size, 1, none⟩ = some (.slice x0 z0.nums.length c0) := K0.out.cell 1 rfl
  have tK0_2 : w4.cell? ⟨w.heap.size, 2, none⟩ = some (.slice y0 z0.bnds.length d0) := K0.out.cell 2 rfl
  have tK0_3 : w4.cell? ⟨w.heap.size, 3, none⟩ = some (.slice u0 z0.gains.length f0) := K0.out.cell 3 rfl
  go_wp2_with fail
  refine (toR_any _ z0 _ (RP0.out.up B.out (Nat.le_refl _)) hs0).mono ?_
  rintro e w5 ⟨vcp0, rfl, cp0, hb⟩
  clear tK0_0 tK0_1 tK0_2 tK0_3
  replace cp0 := Lib.hid cp0
  replace B := Lib.hid (B.out.trans (hb.mono B.out.size))
  replace K0 := Lib.hid (K0.out.below hb K0.out.lt)
  have zw5 : w4.heap.size ≤ w5.heap.size := hb.size
  clear hb
  obtain ⟨px0, pc0, py0, pd0, pu0, pf0, rfl⟩ := cp0.out.rd.shape
  go_upto_region 7 with fail
  refine wp_at fun w6 hW => ?_
  have hb : Below w5.heap.size w5 w6 := by subst hW; (repeat' first | exact Below.refl _ _ | assumption | refine Below.alloc ?_ ?_ _ | refine Below.setCell ?_ ?_ _ | refine Below.drew ?_ | (simp; done) | (simp; omega))
  have X0 := Lib.hid (show Blk w6 w5.heap.size 35 #[.int .i64 z0.vars, .slice px0 z0.nums.length pc0, .slice py0 z0.bnds.length pd0, .slice pu0 z0.gains.length pf0] by subst hW; exact Blk.new _ _ _)
  clear hW
  replace B := Lib.hid (B.out.trans (hb.mono B.out.size))
  replace K0 := Lib.hid (K0.out.below hb K0.out.lt)
  replace cp0 := Lib.hid (cp0.out.up hb (Nat.le_refl _))
  have zw6 : w5.heap.size ≤ w6.heap.size := hb.size
  clear hb
  have lX0 := X0.out.lt
  have tX0_0 : w6.cell? ⟨w5.heap.size, 0, none⟩ = some (.int .i64 z0.vars) := X0.out.cell 0 rfl
  have tX0_1 : w6.cell? ⟨w5.heap.size, 1, none⟩ = some (.slice px0 z0.nums.length pc0) := X0.out.cell 1 rfl
  have tX0_2 : w6.cell? ⟨w5.heap.size, 2, none⟩ = some (.slice py0 z0.bnds.length pd0) := X0.out.cell 2 rfl
  have tX0_3 : w6.cell? ⟨w5.heap.size, 3, none⟩ = some (.slice pu0 z0.gains.length pf0) := X0.out.cell 3 rfl
  go_wp2_with fail
  refine (rowsTextI_any _ z0 _ cp0.out.rd yb0.1 yb0.2.1 yb0.2.2 (HPW.out.up B.out (Nat.le_refl _))).mono ?_
  rintro e w7 ⟨rfl, hb⟩
  clear tX0_0 tX0_1 tX0_2 tX0_3
  replace B := Lib.hid (B.out.trans (hb.mono B.out.size))
  replace K0 := Lib.hid (K0.out.below hb K0.out.lt)
  replace cp0 := Lib.hid (cp0.out.up hb (Nat.le_refl _))
  replace X0 := Lib.hid (X0.out.below hb X0.out.lt)
  have zw7 : w6.heap.size ≤ w7.heap.size := hb.size
  clear hb
  go_upto_region 10 with fail
  have tX0_0 : w7.cell? ⟨w5.heap.size, 0, none⟩ = some (.int .i64 z0.vars) := X0.out.cell 0 rfl
  have tX0_1 : w7.cell? ⟨w5.heap.size, 1, none⟩ = some (.slice px0 z0.nums.length pc0) := X0.out.cell 1 rfl
  have tX0_2 : w7.cell? ⟨w5.heap.size, 2, none⟩ = some (.slice py0 z0.bnds.length pd0) := X0.out.cell 2 rfl
  have tX0_3 : w7.cell? ⟨w5.heap.size, 3, none⟩ = some (.slice pu0 z0.gains.length pf0) := X0.out.cell 3 rfl
  have tK0_0 : w7.cell? ⟨w.heap.size, 0, none⟩ = some (.int .i64 z0.vars) := K0.out.cell 0 rfl
  have tK0_1 : w7.cell? ⟨w.heap.size, 1, none⟩ = some (.slice x0 z0.nums.length c0) := K0.out.cell 1 rfl
  have tK0_2 : w7.cell? ⟨w.heap.size, 2, none⟩ = some (.slice y0 z0.bnds.length d0) := K0.out.cell 2 rfl
  have tK0_3 : w7.cell? ⟨w.heap.size, 3, none⟩ = some (.slice u0 z0.gains.length f0) := K0.out.cell 3 rfl
  go_wp2_with fail
  go_region_held3 (fun w' => w'.cell? ⟨w5.heap.size, 0, none⟩ = some (.int .i64 z0.vars) ∧ w'.cell? ⟨w5.heap.size, 1, none⟩ = some (.slice px0 z0.nums.length pc0) ∧ w'.cell? ⟨w5.heap.size, 2, none⟩ = some (.slice py0 z0.bnds.length pd0) ∧ w'.cell? ⟨w5.heap.size, 3, none⟩ = some (.slice pu0 z0.gains.length pf0) ∧ w'.cell? ⟨w.heap.size, 0, none⟩ = some (.int .i64 z0.vars) ∧ w'.cell? ⟨w.heap.size, 1, none⟩ = some (.slice x0 z0.nums.length c0) ∧ w'.cell? ⟨w.heap.size, 2, none⟩ = some (.slice y0 z0.bnds.length d0) ∧ w'.cell? ⟨w.heap.size, 3, none⟩ = some (.slice u0 z0.gains.length f0) ∧ Below w7.heap.size w7 w')
    (first | exact ⟨held_of hbn tX0_0 (Nat.le_refl _), held_of hbn tX0_1 (Nat.le_refl _), held_of hbn tX0_2 (Nat.le_refl _), held_of hbn tX0_3 (Nat.le_refl _), held_of hbn tK0_0 (Nat.le_refl _), held_of hbn tK0_1 (Nat.le_refl _), held_of hbn tK0_2 (Nat.le_refl _), held_of hbn tK0_3 (Nat.le_refl _), hbn⟩ | exact ⟨tX0_0, tX0_1, tX0_2, tX0_3, tK0_0, tK0_1, tK0_2, tK0_3, (Below.refl _ _).drew⟩)
    (first
      | (go_at_call_of 14 x0; have hh := (‹_ ∧ _ ∧ _ ∧ _ ∧ _ ∧ _ ∧ _ ∧ _ ∧ Below w7.heap.size w7 _›).2.2.2.2.2.2.2.2; refine (toR_any _ z0 _ ((RP0.out.up B.out (Nat.le_refl _)).up hh (Nat.le_refl _)) hs0).mono ?_; rintro e w8 ⟨vc0, rfl, c0, hb0⟩; have hbn := hh.trans (hb0.mono hh.size))
      | (go_at_call 16; have hh := (‹_ ∧ _ ∧ _ ∧ _ ∧ _ ∧ _ ∧ _ ∧ _ ∧ Below w7.heap.size w7 _›).2.2.2.2.2.2.2.2; refine (eqR_same _ _ z0 _ (cp0.out.up hh (Nat.le_refl _)).rd c0.rd).mono ?_; rintro e w9 ⟨rfl, hb1⟩; have hbn := hh.trans (hb1.mono hh.size)))
  clear tX0_0 tX0_1 tX0_2 tX0_3 tK0_0 tK0_1 tK0_2 tK0_3
  clear hh hb0 hb1 c0
  replace B := Lib.hid (B.out.trans (hbn.mono B.out.size))
  replace K0 := Lib.hid (K0.out.below hbn K0.out.lt)
  replace cp0 := Lib.hid (cp0.out.up hbn (Nat.le_refl _))
  replace X0 := Lib.hid (X0.out.below hbn X0.out.lt)
  have zw9 : w7.heap.size ≤ w9.heap.size := hbn.size
  clear hbn
  go_wp2_with fail
  go_ret
  exact ⟨rfl, B.out⟩

end Go.Proofs.YtggpbekclegfoaaDoor
