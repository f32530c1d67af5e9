/-
  FnExactReadRows: texts joined: AddRow, RdrM, FxI, MarkJ, StoreI, ClauseS, CaseVS, StoreS, RdI.
-/
import Derived.Maps.AppendAt
import Derived.Deep.RegionHeld3
import Derived.Deep.Cut
import Derived.Lib.ConvBytes
import Derived.Test.YtggpbekclegfoaaDoorMEReadRowsAA
import Derived.Test.YtggpbekclegfoaaDoorMEReadRowsAC
import Derived.Test.YtggpbekclegfoaaDoorMEReadRowsAD
import Derived.Test.YtggpbekclegfoaaDoorMEReadRowsAE
import Derived.Test.YtggpbekclegfoaaDoorMEReadRowsAF
import Derived.Test.YtggpbekclegfoaaDoorMEReadRowsAH
namespace Go.Proofs.YtggpbekclegfoaaDoor
open Go.RowKit

theorem app_fltsL {w : World} {ops : Array Oper} {rest : List Oper} {o : Oper} {a : Act} {Q : Exit → Act → World → Prop} (hgd : o.guard = none) (s x : Operand)
    (ho : o.op = .call { callee := .builtin .append, args := #[s, x], argTypes := #[30, 30] })
    (base : Nat) (v : Value) (n : Nat) (xs : List Nat) (hs : a.eval s = v) (hown : w.ownsRow base 83 1 v n (xs.map F32))
    (sv : Value) (news : List Nat) (hx : a.eval x = sv) (hsv : Slc w sv (news.map F32)) (m : Nat) (ys : List Nat) (hm : m = n + news.length) (hys : ys = xs ++ news) (hlen : m ≤ 17592186044416) (hbase : base ≤ w.heap.size)
    (h : ∀ a' cap' w', w'.ownsRow base 83 1 (.slice a' m cap') m (ys.map F32) → Below base w w' → w.grownBy w' v.ownBlock → ((Value.slice a' m cap').ownBlock = v.ownBlock ∨ (Value.slice a' m cap').ownBlock = some w.heap.size) → wpList Tryd.prog ops Q rest (a.put o.dst (.slice a' m cap')) w') :
    wpList Tryd.prog ops Q (o :: rest) a w := by
  obtain ⟨i0, hi, hz0, hz1, hz2⟩ := info_parts Tryd.infoF32
  subst hm hys
  have hk : ∀ v' w', w'.ownsRow base 83 1 v' (n + news.length) (xs.map F32 ++ news.map F32) → w.grownBy w' v.ownBlock → (v'.ownBlock = v.ownBlock ∨ v'.ownBlock = some w.heap.size) → wpList Tryd.prog ops Q rest (a.put o.dst v') w' := by
    intro v' w' h1 h2 h3
    have h1' : w'.ownsRow base 83 1 v' (n + news.length) ((xs ++ news).map F32) := by simpa using h1
    obtain ⟨a', cap', rfl⟩ := owns_shape h1'
    exact h a' cap' w' h1' (below_grown hown hbase h2) h2 h3
  rcases hsv with ⟨rfl, hnil⟩ | ⟨ad, cap, rfl, hcl, hcm, hc⟩
  · have hn : news = [] := by simpa using hnil
    subst hn
    refine wpList_append_own_none hgd s x 30 ho base 83 i0 1 Tryd.underlying30 hi v n (xs.map F32) hs hown hx ?_
    exact hk v w (by simpa using hown) (World.grownBy.refl _ _) (.inl rfl)
  · refine wpList_append_own_at w hgd s x 30 ho base 83 i0 (.float .f32 0) 1 4 Tryd.underlying30 hi hz0 hz1 hz2 rfl (by decide) v n (xs.map F32) hs hown ad (news.map F32).length cap (news.map F32) hx (by simp) hc (f32_one news) (by simp [maxLen]; omega) (by simp; omega) hbase ?_
    intro v' w' h2 h3 _ h5
    exact hk v' w' (by simpa using h2) h3 h5

/-- Another list stays its own where one has grown. -/
theorem ownF_grown {lo hi : Nat} {w w' : World} {v u : Value} {xs : List Nat} (h : OwnF lo hi w v xs) (hg : w.grownBy w' u.ownBlock) (hn : ∀ g, v.ownBlock = some g → u.ownBlock ≠ some g) : OwnF lo hi w' v xs := by
  refine ⟨owns_kept (S := fun k => u.ownBlock = some k) h.1 ⟨hg.os, hg.tape, hg.output, hg.size, fun k hk hs => hg.block k hk fun e => hs e.symm⟩ hn, h.2⟩

theorem ownR_app1 {lo hi : Nat} {w w' : World} {n0 : Int} {x1 x2 x3 xs : List Nat} {y1 y2 y3 y : Value} {m : Nat} (h : OwnR lo hi w (.agg #[.int .i64 n0, y1, y2, y3]) ⟨n0, x1, x2, x3⟩) (hh : hi ≤ w.heap.size) (hg : w.grownBy w' y1.ownBlock)
    (ho : w'.ownsRow lo 83 1 y m (xs.map F32)) (hl : y.ownBlock = y1.ownBlock ∨ y.ownBlock = some w.heap.size) : OwnR lo w'.heap.size w' (.agg #[.int .i64 n0, y, y2, y3]) ⟨n0, xs, x2, x3⟩ := by
  obtain ⟨va, vb, vc, e, o1, o2, o3, d1, d2, d3⟩ := h
  simp only [Value.agg.injEq, Array.mk.injEq, List.cons.injEq, and_true, true_and] at e
  obtain ⟨rfl, rfl, rfl⟩ := e
  have hz := hg.size
  have p2 : OwnF lo hi w' y2 x2 := ownF_grown o2 hg (fun g hg h2 => d1 g h2 hg)
  have p3 : OwnF lo hi w' y3 x3 := ownF_grown o3 hg (fun g hg h2 => d2 g h2 hg)
  refine ⟨_, _, _, rfl, OwnF.mk ho, p2.wide (Nat.le_refl _) (by omega), p3.wide (Nat.le_refl _) (by omega), ?_, ?_, d3⟩
  · intro g h1 h2
    rcases hl with hl | hl
    · exact d1 g (hl ▸ h1) h2
    · rw [hl] at h1; simp only [Option.some.injEq] at h1; have := (p2.blk h2).2; omega
  · intro g h1 h2
    rcases hl with hl | hl
    · exact d2 g (hl ▸ h1) h2
    · rw [hl] at h1; simp only [Option.some.injEq] at h1; have := (p3.blk h2).2; omega

theorem ownR_app2 {lo hi : Nat} {w w' : World} {n0 : Int} {x1 x2 x3 xs : List Nat} {y1 y2 y3 y : Value} {m : Nat} (h : OwnR lo hi w (.agg #[.int .i64 n0, y1, y2, y3]) ⟨n0, x1, x2, x3⟩) (hh : hi ≤ w.heap.size) (hg : w.grownBy w' y2.ownBlock)
    (ho : w'.ownsRow lo 83 1 y m (xs.map F32)) (hl : y.ownBlock = y2.ownBlock ∨ y.ownBlock = some w.heap.size) : OwnR lo w'.heap.size w' (.agg #[.int .i64 n0, y1, y, y3]) ⟨n0, x1, xs, x3⟩ := by
  obtain ⟨va, vb, vc, e, o1, o2, o3, d1, d2, d3⟩ := h
  simp only [Value.agg.injEq, Array.mk.injEq, List.cons.injEq, and_true, true_and] at e
  obtain ⟨rfl, rfl, rfl⟩ := e
  have hz := hg.size
  have p1 : OwnF lo hi w' y1 x1 := ownF_grown o1 hg d1
  have p3 : OwnF lo hi w' y3 x3 := ownF_grown o3 hg (fun g hg h2 => d3 g h2 hg)
  refine ⟨_, _, _, rfl, p1.wide (Nat.le_refl _) (by omega), OwnF.mk ho, p3.wide (Nat.le_refl _) (by omega), ?_, d2, ?_⟩
  · intro g h1 h2
    rcases hl with hl | hl
    · exact d1 g h1 (hl ▸ h2)
    · rw [hl] at h2; simp only [Option.some.injEq] at h2; have := (p1.blk h1).2; omega
  · intro g h1 h2
    rcases hl with hl | hl
    · exact d3 g (hl ▸ h1) h2
    · rw [hl] at h1; simp only [Option.some.injEq] at h1; have := (p3.blk h2).2; omega

theorem ownR_set {lo hi : Nat} {w : World} {v : Value} {r : RowsD} {g : Nat} {cs : Array Value} (h : OwnR lo hi w v r) (hb : Blk w g 35 cs) (j : Nat) (u : Value) : OwnR lo hi (w.setCell ⟨g, j, none⟩ u) v r := by
  obtain ⟨va, vb, vc, e, o1, o2, o3, d⟩ := h
  have f : ∀ {y : Value} {xs : List Nat}, OwnF lo hi w y xs → OwnF lo hi (w.setCell ⟨g, j, none⟩ u) y xs := fun o => ⟨ownsRow_setCell_other o.1 (hb.not_owned o.1 (by decide)) _, o.2⟩
  exact ⟨va, vb, vc, e, f o1, f o2, f o3, d⟩
theorem OwnR.parts {lo hi : Nat} {w : World} {x0 x y z : Value} {r : RowsD} (h : OwnR lo hi w (.agg #[x0, x, y, z]) r) : OwnF lo hi w x r.nums ∧ OwnF lo hi w y r.bnds ∧ OwnF lo hi w z r.gains := by
  obtain ⟨va, vb, vc, e, h1, h2, h3, _⟩ := h
  simp only [Value.agg.injEq, Array.mk.injEq, List.cons.injEq, and_true] at e
  obtain ⟨_, rfl, rfl, rfl⟩ := e
  exact ⟨h1, h2, h3⟩

def addRw (r : RowsD) (x : List Nat) (b : Nat) : RowsD := ⟨r.vars, r.nums ++ x, r.bnds ++ [b], r.gains⟩
noncomputable def addOk (r : RowsD) (x : List Nat) (b : Nat) : Bool := validR r && ((x.length : Int) == r.vars && validR (addRw r x b))
noncomputable def addV (r : RowsD) (x : List Nat) (b : Nat) : RowsD := if addOk r x b = true then addRw r x b else zeroR

theorem addOk_T {r : RowsD} {x : List Nat} {b : Nat} (h : (!(validR r) || ((x.length : Int) != r.vars)) = true) : addOk r x b = false := by
  unfold addOk
  cases hv : validR r
  · rfl
  · rw [hv] at h
    simp only [Bool.not_true, Bool.false_or, bne_iff_ne, ne_eq] at h
    have : ((x.length : Int) == r.vars) = false := by simpa using h
    rw [this]; rfl
theorem addOk_F {r : RowsD} {x : List Nat} {b : Nat} (h : (!(validR r) || ((x.length : Int) != r.vars)) = false) : ValR r ∧ (x.length : Int) = r.vars ∧ addOk r x b = validR (addRw r x b) := by
  simp only [Bool.or_eq_false_iff, Bool.not_eq_false', bne_eq_false_iff_eq] at h
  refine ⟨validR_iff.1 h.1, h.2, ?_⟩
  unfold addOk
  rw [h.1, h.2]; simp

theorem addV_cnt (r : RowsD) (x : List Nat) (b : Nat) : cntR (addV r x b) ≤ 80 := by
  unfold addV
  split
  · rename_i h
    have hv : ValR (addRw r x b) := by
      unfold addOk at h
      simp only [Bool.and_eq_true] at h
      exact validR_iff.1 h.2.2
    have h1 := hv.nl
    have h2 := mulR hv.v1 hv.v8 hv.b8
    have h3 := hv.gl
    have h4 := hv.v8
    have h5 := hv.b8
    unfold cntR
    omega
  · simp [zeroR, cntR]

theorem ownR_zero (lo hi : Nat) (w : World) : OwnR lo hi w (.agg #[.int .i64 0, .slice none 0 0, .slice none 0 0, .slice none 0 0]) zeroR := by
  have o : OwnF lo hi w (.slice none 0 0) [] := ⟨World.ownsRow_nil _ _ _ _, by intro g hg; cases hg⟩
  exact ⟨_, _, _, rfl, o, o, o, (by intro g hg; cases hg), (by intro g hg; cases hg), (by intro g hg; cases hg)⟩

end Go.Proofs.YtggpbekclegfoaaDoor

namespace Go.Proofs.YtggpbekclegfoaaDoor
open Go.RowKit

/-- The rows that four words tell. -/
def rowsW (p0 p1 p2 p3 : ByteArray) : RowsD := ⟨valN p0, fltV p1, fltV p2, fltV p3⟩
noncomputable def rowsB (p0 p1 p2 p3 : ByteArray) : Bool := valOk p0 && (fltOk p1 && (fltOk p2 && (fltOk p3 && validR (rowsW p0 p1 p2 p3))))
noncomputable def rdrOk (s : ByteArray) : Bool := decide ((cutS 59 s).length = 4) && rowsB ((cutS 59 s).getD 0 E0) ((cutS 59 s).getD 1 E0) ((cutS 59 s).getD 2 E0) ((cutS 59 s).getD 3 E0)
noncomputable def rdrV (s : ByteArray) : RowsD := if rdrOk s = true then rowsW ((cutS 59 s).getD 0 E0) ((cutS 59 s).getD 1 E0) ((cutS 59 s).getD 2 E0) ((cutS 59 s).getD 3 E0) else zeroR
theorem rdr_short {s : ByteArray} (h : (cutS 59 s).length ≠ 4) : rdrOk s = false := by unfold rdrOk; rw [decide_eq_false h, Bool.false_and]
theorem rdr_four {s : ByteArray} (h : (cutS 59 s).length = 4) : rdrOk s = rowsB ((cutS 59 s).getD 0 E0) ((cutS 59 s).getD 1 E0) ((cutS 59 s).getD 2 E0) ((cutS 59 s).getD 3 E0) := by unfold rdrOk; rw [decide_eq_true h, Bool.true_and]
theorem rdrV_no {s : ByteArray} (h : rdrOk s = false) : rdrV s = zeroR := by unfold rdrV; rw [h]; rfl
theorem rdrV_yes {s : ByteArray} (h : rdrOk s = true) : rdrV s = rowsW ((cutS 59 s).getD 0 E0) ((cutS 59 s).getD 1 E0) ((cutS 59 s).getD 2 E0) ((cutS 59 s).getD 3 E0) := by unfold rdrV; rw [if_pos h]
theorem rdrV_cnt (s : ByteArray) : cntR (rdrV s) ≤ 768 := by
  unfold rdrV
  split
  · have h1 := fltV_len ((cutS 59 s).getD 1 E0)
    have h2 := fltV_len ((cutS 59 s).getD 2 E0)
    have h3 := fltV_len ((cutS 59 s).getD 3 E0)
    simp only [cntR, rowsW]
    omega
  · simp [zeroR, cntR]
theorem ownR_mk {w3 w4 w5 : World} {lo lo1 lo2 lo3 : Nat} {z : Int} {s1 s2 s3 : Value} {x1 x2 x3 : List Nat}
    (h1 : w3.ownsRow lo1 83 1 s1 x1.length (x1.map F32)) (l1 : lo ≤ lo1) (h2 : w4.ownsRow lo2 83 1 s2 x2.length (x2.map F32)) (l2 : w3.heap.size ≤ lo2) (h3 : w5.ownsRow lo3 83 1 s3 x3.length (x3.map F32)) (l3 : w4.heap.size ≤ lo3)
    (h34 : Below w3.heap.size w3 w4) (h45 : Below w4.heap.size w4 w5) (l4 : lo1 ≤ w3.heap.size) : OwnR lo w5.heap.size w5 (.agg #[.int .i64 z, s1, s2, s3]) ⟨z, x1, x2, x3⟩ := by
  have z34 := h34.size
  have z45 := h45.size
  refine ⟨s1, s2, s3, rfl, ⟨owns_base (owns_below (owns_below h1 h34 (Nat.le_refl _)) h45 (Nat.le_refl _)) l1, fun g hg => ?_⟩, ⟨owns_base (owns_below h2 h45 (Nat.le_refl _)) (by omega), fun g hg => ?_⟩, ⟨owns_base h3 (by omega), fun g hg => (h3.lt g hg).2⟩, fun g hg hg' => ?_, fun g hg hg' => ?_, fun g hg hg' => ?_⟩
  · have := (h1.lt g hg).2; omega
  · have := (h2.lt g hg).2; omega
  · have := (h1.lt g hg).2; have := (h2.lt g hg').1; omega
  · have := (h1.lt g hg).2; have := (h3.lt g hg').1; omega
  · have := (h2.lt g hg).2; have := (h3.lt g hg').1; omega

end Go.Proofs.YtggpbekclegfoaaDoor

namespace Go.Proofs.YtggpbekclegfoaaDoor
open Go.RowKit

theorem run_frombits (x : Int) (W : World) : (callFunc 102 #[.int .u32 x]).run Tryd.prog W = .ok (.value (.float .f32 x.toNat)) W := by
  rw [run_callFunc_extern Tryd.func102 (by kernel_rfl) (by kernel_rfl) (by kernel_rfl) (e := Extern.MathFloatBits.float32frombits) (by kernel_rfl)]
  rfl

theorem FromBits_any (n : Nat) (w : World) (h : n < 4294967296) :
    Calls Tryd.prog 94 #[.int .i64 n] w fun e w' => e = .returned (.tuple #[.float .f32 n, .bool true]) ∧ w = w' := by
  have hw := within_any (n : Int) 0 4294967295
  rw [show inB 0 4294967295 (n : Int) = true by rw [inB_iff]; omega] at hw
  have HW := Lib.hid hw
  have hb := run_frombits
  have hwr : IntKind.u32.wrap (n : Int) = (n : Int) := by simp [IntKind.wrap, IntKind.bits, IntKind.signed]; omega
  clear hw
  go_enter Tryd.func94, Tryd.ntmps94
  go_wp2_with (go_at_call 51; refine (HW.out _).mono ?_; rintro e w' ⟨rfl, rfl⟩)
  go_ret2
  exact ⟨rfl, rfl⟩

theorem hex_index : ∀ c, c < 256 → Lib.indexByte [48, 49, 50, 51, 52, 53, 54, 55, 56, 57, 97, 98, 99, 100, 101, 102] c.toUInt8 = match hexV c with | some d => (d : Int) | none => -1 := by decide +kernel
theorem IndexByte_hex (c : Nat) (w : World) (h : c < 256) (z : Int) (hz : z = match hexV c with | some d => (d : Int) | none => -1) :
    Calls Tryd.prog 93 #[.string ⟨#[48, 49, 50, 51, 52, 53, 54, 55, 56, 57, 97, 98, 99, 100, 101, 102]⟩, .int .u8 c] w fun e w' => e = .returned (.int .i64 z) ∧ w = w' := by
  refine (Tryd.strings_IndexByte ⟨#[48, 49, 50, 51, 52, 53, 54, 55, 56, 57, 97, 98, 99, 100, 101, 102]⟩ (c : Int) w).mono ?_
  rintro e w' ⟨rfl, rfl⟩
  refine ⟨?_, rfl⟩
  rw [hz, ← hex_index c h, Int.toNat_natCast]
theorem i64_or_natX (a d : Nat) (ha : a < 268435456) (hd : d < 16) : bits .or .i64 ((16 * a : Nat) : Int) (d : Int) = ((16 * a + d : Nat) : Int) := by
  have h1 : (16 * a) ||| d = 16 * a + d := by
    have := Nat.shiftLeft_add_eq_or_of_lt (i := 4) (b := d) (by omega) a
    rw [Nat.shiftLeft_eq, show a * 2 ^ 4 = 16 * a by omega] at this
    exact this.symm
  show IntKind.i64.wrap ((BitVec.ofInt 64 ((16 * a : Nat) : Int) ||| BitVec.ofInt 64 (d : Int)).toNat : Int) = _
  rw [BitVec.toNat_or, ofInt_i64X _ (by omega), ofInt_i64X d (by omega), h1, IntKind.wrap_i64]
  omega

set_option maxHeartbeats 1000000 in
theorem fromHex_any (s : ByteArray) (w : World) (hs : s.size ≤ 1048576) :
    Calls Tryd.prog 77 #[.string s] w fun e w' => ∃ x, e = .returned (.tuple #[.float .f32 x, .bool (hexOk s)]) ∧ (hexOk s = true → x = accH s 8) ∧ w = w' := by
  by_cases h8 : s.size = 8
  case neg =>
    have hd : ((s.size : Int) != 8) = true := by simp; omega
    have HNO := Lib.hid (show hexOk s = false by unfold hexOk; rw [decide_eq_false h8, Bool.false_and])
    clear h8
    go_enter Tryd.func77, Tryd.ntmps77
    go_wp2_with fail
    go_ret2
    exact ⟨0, by rw [HNO.out]; rfl, fun h => (by rw [HNO.out] at h; cases h), rfl⟩
  have hd : ((s.size : Int) != 8) = false := by simp; omega
  have H8 := Lib.hid h8
  clear h8 hs
  go_enter Tryd.func77, Tryd.ntmps77
  go_wp2_with fail
  go_loopw [4, 5] (fun bv iv wr => ∃ (k : Nat), iv = .int .i64 k ∧ k ≤ 8 ∧ bv = .int .i64 (accH s k) ∧ Hid (∀ j, j < k → okB s j = true) ∧ w = wr) (fun _ iv _ => 8 - (intOf iv).toNat)
  case atStart => exact ⟨0, rfl, Nat.zero_le _, rfl, Lib.hid (by intro j hj; omega), rfl⟩
  case round =>
    obtain ⟨k, rfl, hk, rfl, HALL, rfl⟩ := hrel
    by_cases hlt : k < 8
    · have hlt' : (k : Int) < 8 := by omega
      have hks : k < s.size := by have := H8.out; omega
      have hksI : (k : Int) < (s.size : Int) := by omega
      have ha := accH_lt s k
      have hp := Nat.pow_le_pow_right (n := 16) (by omega) (show k ≤ 7 by omega)
      have hacc : accH s k < 268435456 := Nat.lt_of_lt_of_le ha hp
      have HA := Lib.hid (show accH s (k + 1) = 16 * accH s k + dvB s k from rfl)
      have hdl := dvB_lt s k
      have hget : s.data[k]! = s[k] := getElem!_pos s.data k hks
      have HOKB := Lib.hid (show okB s k = (hexV s[k].toNat).isSome by unfold okB; rw [hget])
      have HDV := Lib.hid (show dvB s k = (hexV s[k].toNat).getD 0 by unfold dvB; rw [hget])
      have HBAD := Lib.hid (show okB s k = false → hexOk s = false from fun h => by unfold hexOk; rw [allB_false hlt h, Bool.false_and, Bool.and_false])
      have HSTEP := Lib.hid (show okB s k = true → ∀ j, j < k + 1 → okB s j = true from fun h j hj => by
        by_cases hjk : j = k
        · rw [hjk]; exact h
        · exact HALL.out j (by omega))
      obtain ⟨a, hae⟩ : ∃ a, a = accH s k := ⟨_, rfl⟩
      rw [← hae] at HA hacc ⊢
      obtain ⟨d, hde⟩ : ∃ d, d = dvB s k := ⟨_, rfl⟩
      rw [← hde] at HA HDV hdl
      have hc := s[k].toNat_lt
      obtain ⟨c, hcc⟩ : ∃ c, c = s[k].toNat := ⟨_, rfl⟩
      rw [← hcc] at hc HOKB HDV
      have hcv : ∀ h : k < s.size, (s[k]'h).toNat = c := fun _ => hcc.symm
      have HIX := Lib.hid (fun W z hz => IndexByte_hex c W hc z hz)
      clear ha hp hget hae hde hcc
      cases hv : hexV c with
      | none =>
        have HNO := Lib.hid (HBAD.out (by rw [HOKB.out, hv]; rfl))
        have HI2 := Lib.hid (fun W => HIX.out W (-1) (by rw [hv]))
        clear hv hdl
        go_wp2_with (go_at_call 93; refine (HI2.out _).mono ?_; rintro e w' ⟨rfl, rfl⟩)
        go_ret2
        exact ⟨0, by rw [HNO.out]; rfl, fun h => (by rw [HNO.out] at h; cases h), rfl⟩
      | some d0 =>
        have hdd : d = d0 := by rw [HDV.out, hv]; rfl
        subst hdd
        have HI2 := Lib.hid (fun W => HIX.out W (d : Int) (by rw [hv]))
        have HALL2 := Lib.hid (HSTEP.out (by rw [HOKB.out, hv]; rfl))
        have hor : bits .or .i64 ((a : Int) * 16) (d : Int) = ((16 * a + d : Nat) : Int) := by
          have := i64_or_natX a d hacc hdl
          rwa [show ((16 * a : Nat) : Int) = (a : Int) * 16 by omega] at this
        clear hv
        go_wp2_with (go_at_call 93; refine (HI2.out _).mono ?_; rintro e w' ⟨rfl, rfl⟩)
        go_roundw
        case rel => exact ⟨k + 1, by go_num, by omega, by rw [HA.out]; go_num, HALL2, by trivial⟩
        case measure => simp [intOf]; omega
    · obtain rfl : k = 8 := by omega
      have hall := allB_true HALL.out
      have hsame := hex_same H8.out hall
      have hn : accH s 8 < 4294967296 := accH_lt s 8
      have hok : hexOk s = decide (codeN (accH s 8) = accH s 8) := by unfold hexOk; rw [H8.out, hall, decide_eq_true rfl, Bool.true_and, Bool.true_and]
      have HF := Lib.hid (FromBits_any (accH s 8) w hn)
      have hh := hexOf_any (accH s 8) w hn
      by_cases he : hexS (codeN (accH s 8)) = s
      · have HYES := Lib.hid (show hexOk s = true by rw [hok]; exact decide_eq_true (hsame.1 he))
        rw [he] at hh
        have HH := Lib.hid hh
        clear hall hsame hn hok he hh
        go_wp2_with (first
          | (go_at_call 94; refine HF.out.mono ?_; rintro e w' ⟨rfl, rfl⟩)
          | (go_at_call 63; refine HH.out.mono ?_; rintro e w' ⟨rfl, rfl⟩)
          | fail)
        go_ret2
        exact ⟨accH s 8, by rw [HYES.out]; rfl, fun _ => rfl, rfl⟩
      · have HNO := Lib.hid (show hexOk s = false by rw [hok]; exact decide_eq_false (fun h => he (hsame.2 h)))
        have hne := str_ne he
        obtain ⟨D, hD⟩ : ∃ D, D = hexS (codeN (accH s 8)) := ⟨_, rfl⟩
        rw [← hD] at hh hne
        have HH := Lib.hid hh
        clear hall hsame hn hok he hh hD
        go_wp2_with (first
          | (go_at_call 94; refine HF.out.mono ?_; rintro e w' ⟨rfl, rfl⟩)
          | (go_at_call 63; refine HH.out.mono ?_; rintro e w' ⟨rfl, rfl⟩)
          | fail)
        go_ret2
        exact ⟨accH s 8, by rw [HNO.out]; rfl, fun _ => rfl, rfl⟩

end Go.Proofs.YtggpbekclegfoaaDoor

namespace Go.Proofs.YtggpbekclegfoaaDoor
open Go.RowKit

def jobV (j : JobD) : Value := .agg #[.int .i64 j.long, .int .i64 j.due, .int .i64 j.weight, .int .i64 j.ready]

set_option maxHeartbeats 1000000 in
theorem eqJob_same (j : JobD) (w : World) :
    Calls Tryd.prog 30 #[jobV j, jobV j] w fun e w' => e = .returned (.bool true) ∧ Below w.heap.size w w' := by
  obtain ⟨a, b, c, d⟩ := j
  have h1 : (a != a) = false := by simp
  have h2 : (b != b) = false := by simp
  have h3 : (c != c) = false := by simp
  have h4 : (d != d) = false := by simp
  unfold jobV
  simp only
  go_enter Tryd.func30, Tryd.ntmps30
  go_wp2_with fail
  go_ret
  exact ⟨rfl, by (repeat' first | exact Below.refl _ _ | assumption | refine Below.alloc ?_ ?_ _ | refine Below.setCell ?_ ?_ _ | refine Below.drew ?_ | (simp; done) | (simp; omega))⟩

set_option maxHeartbeats 1000000 in
set_option maxRecDepth 4000 in
theorem eqJ_same (v v' : Value) (js : List JobD) (w : World) (h : RdJ w v js) (h' : RdJ w v' js) :
    Calls Tryd.prog 11 #[v, v'] w fun e w' => e = .returned (.bool true) ∧ Below w.heap.size w w' := by
  obtain ⟨a, c, rfl⟩ := h.shape
  obtain ⟨a', c', rfl⟩ := h'.shape
  have hl := h.len
  unfold maxLen at hl
  have hne : ((js.length : Int) != (js.length : Int)) = false := by simp
  have HS := Lib.hid h
  have HS' := Lib.hid h'
  clear h h'
  go_enter Tryd.func11, Tryd.ntmps11
  go_wp2_with fail
  go_loopw [5] (fun i wr => ∃ k : Nat, i = .int .i64 k ∧ k ≤ js.length ∧ Below w.heap.size w wr) (fun i _ => js.length - (intOf i).toNat)
  case atStart => exact ⟨0, rfl, Nat.zero_le _, Below.refl _ _⟩
  case round =>
    obtain ⟨k, rfl, hk, hbl⟩ := hrel
    have HB := Lib.hid hbl
    clear hbl
    by_cases hlt : k < js.length
    · obtain ⟨b, off, rfl, hb0, x0, x1, x2, x3⟩ := (HS.out.up HB.out (Nat.le_refl _)).at hlt
      obtain ⟨b', off', rfl, hb0', y0, y1, y2, y3⟩ := (HS'.out.up HB.out (Nat.le_refl _)).at hlt
      obtain ⟨j, hj⟩ : ∃ j, j = js.getD k J0 := ⟨_, rfl⟩
      rw [← hj] at x0 x1 x2 x3 y0 y1 y2 y3
      have HE := Lib.hid (eqJob_same j)
      obtain ⟨p, q, r, s⟩ := j
      simp only at x0 x1 x2 x3 y0 y1 y2 y3
      clear hj
      have kk : (k : Int) < (js.length : Int) := by omega
      have HKEEP := Lib.hid (show ∀ X, Below wr.heap.size wr X → (fun X => X.cell? ⟨b, off + k * 4, none⟩ = some (.int .i64 p) ∧ X.cell? ⟨b, off + k * 4 + 1, none⟩ = some (.int .i64 q) ∧ X.cell? ⟨b, off + k * 4 + 2, none⟩ = some (.int .i64 r) ∧ X.cell? ⟨b, off + k * 4 + 3, none⟩ = some (.int .i64 s) ∧ X.cell? ⟨b', off' + k * 4, none⟩ = some (.int .i64 p) ∧ X.cell? ⟨b', off' + k * 4 + 1, none⟩ = some (.int .i64 q) ∧ X.cell? ⟨b', off' + k * 4 + 2, none⟩ = some (.int .i64 r) ∧ X.cell? ⟨b', off' + k * 4 + 3, none⟩ = some (.int .i64 s)) X from fun X hb => ⟨held_of hb x0 (Nat.le_refl _), held_of hb x1 (Nat.le_refl _), held_of hb x2 (Nat.le_refl _), held_of hb x3 (Nat.le_refl _), held_of hb y0 (Nat.le_refl _), held_of hb y1 (Nat.le_refl _), held_of hb y2 (Nat.le_refl _), held_of hb y3 (Nat.le_refl _)⟩)
      go_wp2_with fail
      go_region_held3 (fun X => X.cell? ⟨b, off + k * 4, none⟩ = some (.int .i64 p) ∧ X.cell? ⟨b, off + k * 4 + 1, none⟩ = some (.int .i64 q) ∧ X.cell? ⟨b, off + k * 4 + 2, none⟩ = some (.int .i64 r) ∧ X.cell? ⟨b, off + k * 4 + 3, none⟩ = some (.int .i64 s) ∧ X.cell? ⟨b', off' + k * 4, none⟩ = some (.int .i64 p) ∧ X.cell? ⟨b', off' + k * 4 + 1, none⟩ = some (.int .i64 q) ∧ X.cell? ⟨b', off' + k * 4 + 2, none⟩ = some (.int .i64 r) ∧ X.cell? ⟨b', off' + k * 4 + 3, none⟩ = some (.int .i64 s))
        (first | exact HKEEP.out _ hbn | (refine HKEEP.out _ ?_; (repeat' first | exact Below.refl _ _ | assumption | refine Below.alloc ?_ ?_ _ | refine Below.setCell ?_ ?_ _ | refine Below.drew ?_ | (simp; done) | (simp; omega)); done) | go_keep)
        (first
          | (go_at_call 30; refine (HE.out _).mono ?_; rintro e w1 ⟨rfl, hb1⟩; have hbn : Below wr.heap.size wr w1 := Below.trans (by (repeat' first | exact Below.refl _ _ | assumption | refine Below.alloc ?_ ?_ _ | refine Below.setCell ?_ ?_ _ | refine Below.drew ?_ | (simp; done) | (simp; omega))) (hb1.mono (by simp)))
          | fail)
      go_wp2_with fail
      go_roundw
      case rel => exact ⟨k + 1, by go_num, by omega, HB.out.trans (hbn.mono HB.out.size)⟩
      case measure => simp [intOf]; omega
    · obtain rfl : k = js.length := by omega
      go_wp2_with fail
      go_ret
      exact ⟨rfl, HB.out⟩

/-- The marks of jobs. -/
def mkdJ (k : Int) (js : List JobD) : List JobD := (List.range js.length).map fun (i : Nat) => ⟨k + 4 * i, k + 4 * i + 1, k + 4 * i + 2, k + 4 * i + 3⟩
theorem mkdJ_len (k : Int) (js : List JobD) : (mkdJ k js).length = js.length := by simp [mkdJ]
theorem mkdJ_at (k : Int) (js : List JobD) (i : Nat) (h : i < js.length) : (mkdJ k js).getD i J0 = ⟨k + 4 * i, k + 4 * i + 1, k + 4 * i + 2, k + 4 * i + 3⟩ := by simp [mkdJ, h]

set_option maxHeartbeats 1000000 in
theorem heldJ_o (v : Value) (js : List JobD) (k : Int) (w : World) (h : RdJ w v (mkdJ k js)) (h0 : 0 ≤ k) (h1 : k + cntJ js ≤ 1099511627776) :
    Calls Tryd.prog 20 #[v, .int .i64 k] w fun e w' => e = .returned (.int .i64 (k + cntJ js)) ∧ Below w.heap.size w w' := by
  obtain ⟨a, c, rfl⟩ := h.shape
  have hl := h.len
  unfold maxLen at hl
  rw [mkdJ_len] at hl ⊢
  have HS := Lib.hid h
  rw [mkdJ_len] at HS
  obtain ⟨n, hn⟩ : ∃ n, n = js.length := ⟨_, rfl⟩
  unfold cntJ at h1 ⊢
  rw [← hn] at hl HS h1 ⊢
  have HN := Lib.hid hn
  clear h hn
  go_enter Tryd.func20, Tryd.ntmps20
  go_wp2_with fail
  go_loopw [1, 5] (fun kk i wr => ∃ j : Nat, i = .int .i64 j ∧ j ≤ n ∧ kk = .int .i64 (k + 4 * j) ∧ Below w.heap.size w wr) (fun _ i _ => n - (intOf i).toNat)
  case atStart => exact ⟨0, rfl, Nat.zero_le _, by simp, Below.refl _ _⟩
  case round =>
    obtain ⟨j, rfl, hj, rfl, hbl⟩ := hrel
    have HB := Lib.hid hbl
    clear hbl
    by_cases hlt : j < n
    · obtain ⟨b, off, rfl, hb0, x0, x1, x2, x3⟩ := (HS.out.up HB.out (Nat.le_refl _)).at (i := j) (by rw [mkdJ_len]; have := HN.out; omega)
      rw [mkdJ_at k js j (by have := HN.out; omega)] at x0 x1 x2 x3
      simp only at x0 x1 x2 x3
      obtain ⟨q, hq⟩ : ∃ q, q = k + 4 * (j : Int) := ⟨_, rfl⟩
      have hq0 : 0 ≤ q := by omega
      have hq1 : q + 4 ≤ 1099511627776 := by omega
      rw [← hq] at x0 x1 x2 x3 ⊢
      have HQ := Lib.hid hq
      clear hq
      have g0 : (q != q) = false := by simp
      have g1 : (q + 1 != q + 1) = false := by simp
      have g2 : (q + 2 != q + 2) = false := by simp
      have g3 : (q + 3 != q + 3) = false := by simp
      have s1 : q + 1 + 1 = q + 2 := by omega
      have s2 : q + 2 + 1 = q + 3 := by omega
      go_wp2_with fail
      go_roundw
      case rel => exact ⟨j + 1, by go_num, by omega, congrArg (Value.int IntKind.i64) (by have := HQ.out; push_cast; omega), HB.out⟩
      case measure => simp [intOf]; omega
    · obtain rfl : j = n := by omega
      go_wp2_with fail
      go_ret
      exact ⟨congrArg (fun x => Ending.returned (Value.int IntKind.i64 x)) (by push_cast; omega), HB.out⟩

/-- The first m jobs marked. -/
def mkpJ (k : Int) (js : List JobD) (m : Nat) : List JobD := (List.range js.length).map fun (i : Nat) => if i < m then ⟨k + 4 * i, k + 4 * i + 1, k + 4 * i + 2, k + 4 * i + 3⟩ else js.getD i J0
theorem mkpJ_len (k : Int) (js : List JobD) (m : Nat) : (mkpJ k js m).length = js.length := by simp [mkpJ]
theorem mkpJ_zero (k : Int) (js : List JobD) : mkpJ k js 0 = js := by
  apply List.ext_getElem?
  intro i
  by_cases h : i < js.length
  · simp [mkpJ, h]
  · simp [mkpJ, h]
theorem mkpJ_full (k : Int) (js : List JobD) : mkpJ k js js.length = mkdJ k js := by
  apply List.ext_getElem?
  intro i
  by_cases h : i < js.length
  · simp [mkpJ, mkdJ, h]
  · simp [mkpJ, mkdJ, h]
theorem mkpJ_set (k : Int) (js : List JobD) (m : Nat) (hm : m < js.length) : mkpJ k js (m + 1) = (mkpJ k js m).set m ⟨k + 4 * m, k + 4 * m + 1, k + 4 * m + 2, k + 4 * m + 3⟩ := by
  apply List.ext_getElem?
  intro i
  rw [List.getElem?_set]
  by_cases h : i < js.length
  · by_cases he : m = i
    · subst he; simp [mkpJ, h]
    · have e : (i < m + 1) = (i < m) := by rw [eq_iff_iff]; omega
      simp [mkpJ, h, he, e]
  · by_cases he : m = i
    · omega
    · simp [mkpJ, h, he]
theorem jobsC_set : ∀ (js : List JobD) (i : Nat) (a b c d : Int), i < js.length → ((((jobsC js).set (i * 4) (I64 a)).set (i * 4 + 1) (I64 b)).set (i * 4 + 2) (I64 c)).set (i * 4 + 3) (I64 d) = jobsC (js.set i ⟨a, b, c, d⟩)
  | [], i, _, _, _, _, h => by simp at h
  | j :: r, 0, a, b, c, d, _ => by simp [jobsC, jobCells]
  | j :: r, i + 1, a, b, c, d, h => by
    have ih := jobsC_set r i a b c d (by simpa using h)
    have e : ∀ (L : List Value) (n m : Nat) (v : Value), m = n + 4 → (jobCells j ++ L).set m v = jobCells j ++ L.set n v := fun L n m v hm => by subst hm; rfl
    show ((((jobCells j ++ jobsC r).set ((i + 1) * 4) (I64 a)).set ((i + 1) * 4 + 1) (I64 b)).set ((i + 1) * 4 + 2) (I64 c)).set ((i + 1) * 4 + 3) (I64 d) = jobCells j ++ jobsC (r.set i ⟨a, b, c, d⟩)
    rw [e _ (i * 4) _ _ (by omega), e _ (i * 4 + 1) _ _ (by omega), e _ (i * 4 + 2) _ _ (by omega), e _ (i * 4 + 3) _ _ (by omega), ih]

theorem ownsK_some {w : World} {lo size : Nat} {e : TypeId} {a : Option Addr} {n cap : Nat} {vs : List Value} (h : w.ownsRow lo e size (.slice a n cap) n vs) (hn : 0 < n) : ∃ g, a = some ⟨g, 0, none⟩ ∧ lo ≤ g := by
  rcases h.2 with ⟨e, e2⟩ | ⟨g, cap', cur, e, hb, _⟩
  · simp at e; omega
  · simp only [Value.slice.injEq, true_and] at e
    exact ⟨g, e.1, hb⟩

set_option maxHeartbeats 1000000 in
theorem markJ_o (v : Value) (lo hi : Nat) (js : List JobD) (k : Int) (w : World) (ho : OwnJ lo hi w v js) (h0 : 0 ≤ k) (h1 : k + cntJ js ≤ 1099511627776) :
    Calls Tryd.prog 19 #[v, .int .i64 k] w fun e w' => e = .returned (.int .i64 (k + cntJ js)) ∧ OwnJ lo hi w' v (mkdJ k js) ∧ Kept (fun b => lo ≤ b ∧ b < hi) w w' := by
  obtain ⟨a, c, rfl⟩ := ho.rd.shape
  have hl := ho.rd.len
  unfold maxLen at hl
  unfold cntJ at h1 ⊢
  have HO := Lib.hid ho
  clear ho
  go_enter Tryd.func19, Tryd.ntmps19
  go_wp2_with fail
  go_loopw [1, 5] (fun kk i wr => ∃ j : Nat, i = .int .i64 j ∧ j ≤ js.length ∧ kk = .int .i64 (k + 4 * j) ∧ wr.ownsRow lo 49 4 (.slice a js.length c) js.length (jobsC (mkpJ k js j)) ∧ Kept (fun b => lo ≤ b ∧ b < hi) w wr) (fun _ i _ => js.length - (intOf i).toNat)
  case atStart => exact ⟨0, rfl, Nat.zero_le _, by simp, by rw [mkpJ_zero]; exact HO.out.1, Kept.refl _ _⟩
  case round =>
    obtain ⟨j, rfl, hj, rfl, hown, hkp⟩ := hrel
    have HO1 := Lib.hid hown
    have HK1 := Lib.hid hkp
    clear hkp
    by_cases hlt : j < js.length
    · obtain ⟨g, rfl, hlo⟩ := ownsK_some hown (by omega)
      have hhi := HO.out.2 g rfl
      clear hown
      have hlen := mkpJ_len k js j
      have d0 := HO1.out.cellAt (j * 4) (by omega)
      have d1 := HO1.out.cellAt (j * 4 + 1) (by omega)
      have d2 := HO1.out.cellAt (j * 4 + 2) (by omega)
      have d3 := HO1.out.cellAt (j * 4 + 3) (by omega)
      have e0 := jobsC_at (mkpJ k js j) j 0 (by omega) (by omega)
      rw [Nat.add_zero] at e0
      rw [e0] at d0
      rw [jobsC_at (mkpJ k js j) j 1 (by omega) (by omega)] at d1
      rw [jobsC_at (mkpJ k js j) j 2 (by omega) (by omega)] at d2
      rw [jobsC_at (mkpJ k js j) j 3 (by omega) (by omega)] at d3
      generalize (mkpJ k js j).getD j J0 = old at d0 d1 d2 d3
      simp only [jobCells, List.getElem?_cons_zero, List.getElem?_cons_succ, I64] at d0 d1 d2 d3
      have f0 := HO1.out.frozenAt (j * 4)
      have f1 := HO1.out.frozenAt (j * 4 + 1)
      have f2 := HO1.out.frozenAt (j * 4 + 2)
      have f3 := HO1.out.frozenAt (j * 4 + 3)
      have HST := Lib.hid ((((HO1.out.stored (j * 4) (.int .i64 (k + 4 * j))).1.stored (j * 4 + 1) (.int .i64 (k + 4 * j + 1))).1.stored (j * 4 + 2) (.int .i64 (k + 4 * j + 2))).1.stored (j * 4 + 3) (.int .i64 (k + 4 * j + 3))).1
      have HSET := Lib.hid (mkpJ_set k js j hlt)
      have HJC := Lib.hid (jobsC_set (mkpJ k js j) j (k + 4 * j) (k + 4 * j + 1) (k + 4 * j + 2) (k + 4 * j + 3) (by omega))
      clear e0 hlen
      have s1 : k + 4 * (j : Int) + 1 + 1 = k + 4 * (j : Int) + 2 := by omega
      have s2 : k + 4 * (j : Int) + 2 + 1 = k + 4 * (j : Int) + 3 := by omega
      go_wp2_with fail
      go_roundw
      case rel =>
        refine ⟨j + 1, by go_num, by omega, congrArg (Value.int IntKind.i64) (by push_cast; omega), ?_, (((HK1.out.setCell (.inr ⟨hlo, hhi⟩) _).setCell (.inr ⟨hlo, hhi⟩) _).setCell (.inr ⟨hlo, hhi⟩) _).setCell (.inr ⟨hlo, hhi⟩) _⟩
        rw [HSET.out, ← HJC.out]
        exact HST.out
      case measure => simp [intOf]; omega
    · clear hown
      obtain rfl : j = js.length := by omega
      go_wp2_with fail
      go_ret
      refine ⟨congrArg (fun x => Ending.returned (Value.int IntKind.i64 x)) (by push_cast; omega), ⟨?_, HO.out.2⟩, HK1.out⟩
      have h := HO1.out
      rw [mkpJ_full] at h
      rw [mkdJ_len]
      exact h

end Go.Proofs.YtggpbekclegfoaaDoor

namespace Go.Proofs.YtggpbekclegfoaaDoor
open Go.RowKit

end Go.Proofs.YtggpbekclegfoaaDoor

namespace Go.Proofs.YtggpbekclegfoaaDoor
open Go.RowKit

theorem Tryd.infoBool : (Tryd.prog.info? 4).map (fun i => (i.zero, i.size, i.bytes)) = some (some (.bool false), 1, 1) := by kernel_rfl

/-- What has been seen of the first k literals. -/
def seenL (xs : List Int) (k : Nat) : List Value := (List.range 11).map fun d => .bool (!allB k fun j => decide ((xs.getD j 0).natAbs ≠ d))
theorem seenL_len (xs : List Int) (k : Nat) : (seenL xs k).length = 11 := by simp [seenL]
theorem seenL_zero (xs : List Int) : seenL xs 0 = List.replicate 11 (.bool false) := rfl
theorem seenL_at (xs : List Int) (k d : Nat) (h : d < 11) : (seenL xs k)[d]? = some (.bool (!allB k fun j => decide ((xs.getD j 0).natAbs ≠ d))) := by
  unfold seenL; simp [h]
theorem allB_succ (k : Nat) (p : Nat → Bool) : allB (k + 1) p = (allB k p && p k) := by unfold allB; rw [List.range_succ]; simp
theorem seenL_set (xs : List Int) (k : Nat) (h : (xs.getD k 0).natAbs < 11) : (seenL xs k).set (xs.getD k 0).natAbs (.bool true) = seenL xs (k + 1) := by
  apply List.ext_getElem?
  intro d
  rw [List.getElem?_set]
  by_cases hd : d < 11
  · rw [seenL_at xs (k + 1) d hd, allB_succ]
    by_cases he : (xs.getD k 0).natAbs = d
    · rw [if_pos he, if_pos (by rw [seenL_len]; exact h)]
      simp only [ne_eq, he, not_true_eq_false, decide_false, Bool.and_false, Bool.not_false]
    · rw [if_neg he, seenL_at xs k d hd]
      simp only [ne_eq, he, not_false_eq_true, decide_true, Bool.and_true]
  · have h1 : (seenL xs k)[d]? = none := by rw [List.getElem?_eq_none]; rw [seenL_len]; omega
    have h2 : (seenL xs (k + 1))[d]? = none := by rw [List.getElem?_eq_none]; rw [seenL_len]; omega
    have he : ¬ (xs.getD k 0).natAbs = d := by omega
    rw [if_neg he, h1, h2]

end Go.Proofs.YtggpbekclegfoaaDoor

namespace Go.Proofs.YtggpbekclegfoaaDoor
open Go.RowKit

end Go.Proofs.YtggpbekclegfoaaDoor

namespace Go.Proofs.YtggpbekclegfoaaDoor
open Go.RowKit

theorem by8_add (x : Int) : by8 (x + 256) = by8 x := by rw [by8_eq, by8_eq]; omega
theorem lit_bd {n : Int} {xs : List Int} (h : clauseB n xs = true) {i : Nat} (hi : i < xs.length) : -10 ≤ xs.getD i 0 ∧ xs.getD i 0 ≤ 10 := by
  unfold clauseB at h
  simp only [Bool.and_eq_true] at h
  have h1 := allB_iff.1 h.2 i hi
  unfold okAt litB at h1
  simp only [Bool.and_eq_true] at h1
  have h2 := inB_iff.1 h1.1.2
  have h3 := inB_iff.1 h.1
  omega

theorem bytesWorld_below (w : World) (s : ByteArray) : Below w.heap.size w (Lib.bytesWorld w 5 s) :=
  ⟨rfl, rfl, rfl, by rw [Lib.bytesWorld_size]; omega, fun k hk => Lib.bytesWorld_at_old w _ s k hk⟩
theorem slc_bytesWorld (w : World) (s : ByteArray) (hs : s.size ≤ 1000) : Slc (Lib.bytesWorld w 5 s) (.slice (some ⟨w.heap.size, 0, none⟩) s.size (grownCap w s.size 0 5)) ((bytesOf s).map B8) := by
  have hl : ((bytesOf s).map B8).length = s.size := by rw [List.length_map, bytesOf_len]
  right
  refine ⟨⟨w.heap.size, 0, none⟩, grownCap w s.size 0 5, by rw [hl], by rw [hl]; exact grownCap_ge _ _ _ _, grownCap_le_maxLen _ _ _ _ (by unfold maxLen; omega), fun i u hi => ?_⟩
  have hil : i < s.size := by rw [← hl]; exact (List.getElem?_eq_some_iff.1 hi).1
  rw [show (⟨w.heap.size, 0, none⟩ : Addr).add i = ⟨w.heap.size, i, none⟩ by unfold Addr.add; split <;> simp_all, Lib.bytesWorld_cell w _ s i hil]
  rw [List.getElem?_map, bytesOf_get s i hil] at hi
  simp only [Option.map_some, Option.some.injEq] at hi
  subst hi
  rw [getD_str s i hil]
  rfl

theorem step_app_bytes {w : World} {ops : Array Oper} {o : Oper} {a : Act} {K : Act → World → Prop} {Q : Exit → Act → World → Prop} {E : Prop} (hgd : o.guard = none) (s x : Operand)
    (ho : o.op = .call { callee := .builtin .append, args := #[s, x], argTypes := #[90, 90] })
    (base : Nat) (v : Value) (n : Nat) (xs : List Int) (hs : a.eval s = v) (hown : w.ownsRow base 5 1 v n (xs.map B8))
    (g k : Nat) (news : List Int) (hx : a.eval x = .slice (some ⟨g, 0, none⟩) k k) (hsv : Slc w (.slice (some ⟨g, 0, none⟩) k k) (news.map B8)) (m : Nat) (ys : List Int) (hm : m = n + news.length) (hys : ys = xs ++ news) (hlen : m ≤ 1099511627776) (hbase : base ≤ w.heap.size)
    (h : ∀ a' cap' w', w'.ownsRow base 5 1 (.slice a' m cap') m (ys.map B8) → Below base w w' → K (a.put o.dst (.slice a' m cap')) w') :
    if Region.wanted o (yielded ops a.tmps) = true then Oper.wp Tryd.prog o a w K Q else E := by
  have hw : Region.wanted o (yielded ops a.tmps) = true := by simp [Region.wanted, hgd]
  rw [if_pos hw]
  obtain ⟨i0, hi, hz0, hz1, hz2⟩ := info_parts Tryd.infoU8
  subst hm hys
  rcases hsv with ⟨e, _⟩ | ⟨ad, c, e, hcl, hcm, hc⟩
  · cases e
  · simp only [Value.slice.injEq, Option.some.injEq] at e
    obtain ⟨rfl, e2, rfl⟩ := e
    refine wp_append_own w s x 90 ho base 5 i0 (.int .u8 0) 1 1 Tryd.underlying90 hi hz0 hz1 hz2 rfl (by decide) v n (xs.map B8) hs hown ⟨g, 0, none⟩ k k (news.map B8) hx (by rw [← e2]; simp) hc (b8_one news) (by simp at e2; simp [maxLen]; omega) (by simp at e2; omega) hbase ?_
    intro v' w' h2 h3 h4
    simp only [List.length_map] at e2
    subst e2
    have h1' : w'.ownsRow base 5 1 v' (n + news.length) ((xs ++ news).map B8) := by simpa using h2
    obtain ⟨a', cap', rfl⟩ := owns_shape h1'
    exact h a' cap' w' h1' (below_grown hown hbase h3)

end Go.Proofs.YtggpbekclegfoaaDoor

namespace Go.Proofs.YtggpbekclegfoaaDoor
open Go.RowKit Go.Shelf

theorem var_up {P : Program} {w w' : World} {B : Nat} {nm : String} {cs : Array Value} (h : w.var? P nm = some cs) (hb : Below B w w') (hB : w.heap.size ≤ B) : w'.var? P nm = some cs := by
  unfold World.var? at h ⊢
  cases hg : P.globalNamed nm with
  | none => rw [hg] at h; cases h
  | some g =>
    rw [hg] at h
    simp only [Option.bind_some] at h ⊢
    cases hh : w.heap[g]? with
    | none => rw [hh] at h; cases h
    | some o =>
      have hlt : g < w.heap.size := (Array.getElem?_eq_some_iff.1 hh).1
      rw [hb.block g (by omega)]
      exact h
/-- The library's two errors are not nil. -/
def HasErrs (w : World) : Prop := (∃ tp p, w.var? Tryd.prog "strconv.ErrSyntax" = some #[.iface tp p]) ∧ (∃ tp p, w.var? Tryd.prog "strconv.ErrRange" = some #[.iface tp p])
theorem HasErrs.up {w w' : World} {B : Nat} (h : HasErrs w) (hb : Below B w w') (hB : w.heap.size ≤ B) : HasErrs w' := by
  obtain ⟨⟨a, b, h1⟩, ⟨c, d, h2⟩⟩ := h
  exact ⟨⟨a, b, var_up h1 hb hB⟩, ⟨c, d, var_up h2 hb hB⟩⟩

theorem ParseInt_ok (s : ByteArray) (v : Int) (w : World) (hs : s.size ≤ 1048576) (h : Lib.parseIntB 64 s.data.toList = .ok v) :
    Calls Tryd.prog 76 #[.string s, .int .i64 10, .int .i64 64] w fun e w' => e = .returned (.tuple #[.int .i64 v, .nilIface]) ∧ Below w.heap.size w w' := by
  refine (Any.strconv_ParseInt_10_at64_ok Tryd.laysC174 s (by omega) v h w).mono ?_
  rintro e w' ⟨rfl, rfl | ⟨t, rfl⟩⟩
  · exact ⟨rfl, Below.refl _ _⟩
  · exact ⟨rfl, bytesWorld_below _ _⟩
theorem ParseInt_bad (s : ByteArray) (w : World) (hs : s.size ≤ 1048576) (h : ∀ v, Lib.parseIntB 64 s.data.toList ≠ .ok v) (he : HasErrs w) :
    Calls Tryd.prog 76 #[.string s, .int .i64 10, .int .i64 64] w fun e w' => ∃ z T a, e = .returned (.tuple #[.int .i64 z, .iface T (.pointer (some a))]) ∧ Below w.heap.size w w' := by
  obtain ⟨⟨a, b, h1⟩, ⟨c, d, h2⟩⟩ := he
  cases hp : Lib.parseIntB 64 s.data.toList with
  | ok v => exact absurd hp (h v)
  | range =>
    refine (Any.strconv_ParseInt_10_at64_range_var Tryd.laysC174 s (by omega) hp c d w h2).mono ?_
    rintro e w' ⟨N, rfl, _, _, hb⟩
    exact ⟨_, _, _, rfl, hb⟩
  | _ =>
    refine (Any.strconv_ParseInt_10_at64_syntax_var Tryd.laysC174 s (by omega) hp a b w h1).mono ?_
    rintro e w' ⟨N, rfl, _, _, hb⟩
    exact ⟨_, _, _, rfl, hb⟩

theorem DecimalZ_any (n : Int) (h0 : -1000000000000000 ≤ n) (h1 : n ≤ 1000000000000000) (w : World) (htab : HasPow w) :
    Calls Tryd.prog 36 #[.int .i64 n] w fun e w' => e = .returned (.string (itoaB n)) ∧ Below w.heap.size w w' := by
  have hcon := Tryd.strconv_FormatInt_10 n (by omega) (by omega) w htab
  rw [show (⟨(Lib.itoa n).toArray⟩ : ByteArray) = itoaB n from rfl] at hcon
  clear htab
  go_enter Tryd.func36, Tryd.ntmps36
  go_wp2_with (go_at_call 61; refine hcon.mono ?_; rintro e w' ⟨rfl, k, os, rfl⟩)
  go_ret
  exact ⟨rfl, below_grow (below_drewN (Below.refl _ _) _) _ (Nat.le_refl _)⟩

set_option maxHeartbeats 1000000 in
theorem ReadDecimal_any (s : ByteArray) (w : World) (hs : s.size ≤ 1048576) (hp : HasPow w) (he : HasErrs w) :
    Calls Tryd.prog 44 #[.string s] w fun e w' => e = .returned (.tuple #[.int .i64 (valN s), .bool (valOk s)]) ∧ Below w.heap.size w w' := by
  have HPW := Lib.hid hp
  by_cases hok : ∃ v, Lib.parseIntB 64 s.data.toList = .ok v
  · obtain ⟨v, hv⟩ := hok
    have HP := Lib.hid (ParseInt_ok s v w hs hv)
    have hval : valB s = if (-1000000000000000 ≤ v ∧ v ≤ 1000000000000000) ∧ itoaB v = s then some v else none := by unfold valB; rw [hv]
    clear hp he
    have hw := within_any v (-1000000000000000) 1000000000000000
    by_cases h0 : -1000000000000000 ≤ v ∧ v ≤ 1000000000000000
    · have hd := fun W hW => DecimalZ_any v h0.1 h0.2 W hW
      rw [show inB (-1000000000000000) 1000000000000000 v = true by rw [inB_iff]; exact h0] at hw
      have HW := Lib.hid hw
      by_cases he : itoaB v = s
      · have hval2 : valB s = some v := by rw [hval, if_pos ⟨h0, he⟩]
        have H1 := Lib.hid (show valN s = v by unfold valN; rw [hval2]; rfl)
        have H2 := Lib.hid (show valOk s = true by unfold valOk; rw [hval2]; rfl)
        rw [he] at hd
        have HD := Lib.hid hd
        clear hval hval2 h0 he hw hd hv
        go_enter Tryd.func44, Tryd.ntmps44
        go_wp2_with (first
          | (go_at_call 76; refine HP.out.mono ?_; rintro e w1 ⟨rfl, hb1⟩)
          | (go_at_call 51; refine (HW.out _).mono ?_; rintro e w' ⟨rfl, rfl⟩)
          | (go_at_call 36; refine (HD.out _ (HPW.out.up hb1 (Nat.le_refl _))).mono ?_; rintro e w2 ⟨rfl, hb2⟩)
          | fail)
        go_ret2
        exact ⟨by rw [H1.out, H2.out]; rfl, hb1.trans (hb2.mono hb1.size)⟩
      · have hval2 : valB s = none := by rw [hval, if_neg (fun h => he h.2)]
        have H1 := Lib.hid (show valN s = 0 by unfold valN; rw [hval2]; rfl)
        have H2 := Lib.hid (show valOk s = false by unfold valOk; rw [hval2]; rfl)
        have hne := str_ne he
        obtain ⟨D, hD⟩ : ∃ D, D = itoaB v := ⟨_, rfl⟩
        rw [← hD] at hd hne
        have HD := Lib.hid hd
        clear hval hval2 h0 he hw hd hv hD
        go_enter Tryd.func44, Tryd.ntmps44
        go_wp2_with (first
          | (go_at_call 76; refine HP.out.mono ?_; rintro e w1 ⟨rfl, hb1⟩)
          | (go_at_call 51; refine (HW.out _).mono ?_; rintro e w' ⟨rfl, rfl⟩)
          | (go_at_call 36; refine (HD.out _ (HPW.out.up hb1 (Nat.le_refl _))).mono ?_; rintro e w2 ⟨rfl, hb2⟩)
          | fail)
        go_ret2
        exact ⟨by rw [H1.out, H2.out]; rfl, hb1.trans (hb2.mono hb1.size)⟩
    · have hval2 : valB s = none := by rw [hval, if_neg (fun h => h0 h.1)]
      have H1 := Lib.hid (show valN s = 0 by unfold valN; rw [hval2]; rfl)
      have H2 := Lib.hid (show valOk s = false by unfold valOk; rw [hval2]; rfl)
      rw [show inB (-1000000000000000) 1000000000000000 v = false by apply bool_false; rw [inB_iff]; exact h0] at hw
      have HW := Lib.hid hw
      clear hval hval2 h0 hw hv
      go_enter Tryd.func44, Tryd.ntmps44
      go_wp2_with (first
        | (go_at_call 76; refine HP.out.mono ?_; rintro e w1 ⟨rfl, hb1⟩)
        | (go_at_call 51; refine (HW.out _).mono ?_; rintro e w' ⟨rfl, rfl⟩)
        | fail)
      go_ret2
      exact ⟨by rw [H1.out, H2.out]; rfl, hb1⟩
  · have HP := Lib.hid (ParseInt_bad s w hs (fun v hv => hok ⟨v, hv⟩) he)
    have hval2 : valB s = none := by
      unfold valB
      split
      · rename_i v hv
        exact absurd ⟨v, hv⟩ hok
      · rfl
    have H1 := Lib.hid (show valN s = 0 by unfold valN; rw [hval2]; rfl)
    have H2 := Lib.hid (show valOk s = false by unfold valOk; rw [hval2]; rfl)
    clear hp he hval2 hok
    go_enter Tryd.func44, Tryd.ntmps44
    go_wp2_with (first
      | (go_at_call 76; refine HP.out.mono ?_; rintro e w1 ⟨z, T, a, rfl, hb1⟩)
      | fail)
    go_ret2
    exact ⟨by rw [H1.out, H2.out]; rfl, hb1⟩

end Go.Proofs.YtggpbekclegfoaaDoor
