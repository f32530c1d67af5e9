/-
  FnCases: texts joined: LFnCases, OpenB.
-/
import Derived.Deep.RegionLaw
import Derived.Deep.RegionHeld3
import Derived.Test.YtkkcgclliomocaaMFnCasesAA
import Derived.Test.YtkkcgclliomocaaMFnCasesAD
import Derived.Test.YtkkcgclliomocaaMFnCasesAH
import Derived.Test.YtkkcgclliomocaaMFnCasesAL
import Derived.Test.YtkkcgclliomocaaMFnCasesAM
namespace Go.Proofs.Ytkkcgclliomocaa
open Go.RowKit

theorem Try.infoInt0 : (Try.prog.info? 3).map (fun i => (i.zero, i.size, i.bytes)) = some (some (.int .i64 0), 1, 8) := by kernel_rfl

/-- A list of cases, one of them alone. -/
theorem RdCL.one {w : World} {b off n c : Nat} {ds : List CaseD} (h : RdCL w (.slice (some ⟨b, off, none⟩) n c) ds) {i : Nat} (hi : i < ds.length) : RdCL w (.slice (some ⟨b, off + i * 4, none⟩) 1 (c - i)) [ds.getD i ICL] := by
  rcases h with ⟨_, _, _, _, rfl⟩ | ⟨b', off', cap, rows, e, h1, h2, h3, h4⟩
  · simp at hi
  · simp only [Value.slice.injEq, Option.some.injEq, Addr.mk.injEq, and_true] at e
    obtain ⟨⟨rfl, rfl⟩, _, rfl⟩ := e
    have hir : i < rows.length := by rw [h3] at hi; simpa using hi
    have hg : ds.getD i ICL = rows[i].d := by rw [h3]; simp [hir]
    refine .inr ⟨b, off + i * 4, c - i, [rows[i]], rfl, by simp only [List.length_singleton]; omega, by omega, by rw [hg]; rfl, fun j r hr => ?_⟩
    have hj : j = 0 := by
      rcases j with _ | j
      · rfl
      · simp at hr
    subst hj
    simp only [List.getElem?_cons_zero, Option.some.injEq] at hr
    subst hr
    have := h4 i _ (List.getElem?_eq_getElem hir)
    simpa using this
/-- A new row of one case. -/
theorem rdCL_lit {w : World} {d : CaseD} {a1 a2 : Value} (h : RdCs w (.agg #[.string d.name, .int .i64 d.form.letters, a1, a2]) d) (b : Nat) (hb : b = w.heap.size) :
    RdCL (w.alloc (.cells #[.string d.name, .int .i64 d.form.letters, a1, a2] 33)) (.slice (some ⟨b, 0, none⟩) 1 1) [d] := by
  subst hb
  refine .inr ⟨w.heap.size, 0, 1, [⟨d, a1, a2, 0, 0⟩], rfl, Nat.le_refl _, by simp [maxLen], rfl, fun j r hr => ?_⟩
  have hj : j = 0 := by
    rcases j with _ | j
    · rfl
    · simp at hr
  subst hj
  simp only [List.getElem?_cons_zero, Option.some.injEq] at hr
  subst hr
  refine ⟨fun c u hu => ?_, h.up ((Below.refl _ _).alloc (Nat.le_refl _) _) (Nat.le_refl _)⟩
  have := cells4 w (cellsCL ⟨d, a1, a2, 0, 0⟩) c u hu
  rw [show (⟨w.heap.size, 0, none⟩ : Addr).add c = ⟨w.heap.size, 0 + 0 * 4 + c, none⟩ by unfold Addr.add; split <;> simp_all] at this
  exact this
/-- Where the cases end, as a row of the law's. -/
def endsV (ds : List CaseD) (i : Nat) : List Int := (List.range (i + 1)).map fun j => (endAt ds j : Int)
theorem endsV_succ (ds : List CaseD) (i : Nat) : endsV ds (i + 1) = endsV ds i ++ [(endAt ds (i + 1) : Int)] := by
  unfold endsV; rw [List.range_succ, List.map_append]; rfl
theorem endsV_len (ds : List CaseD) (i : Nat) : (endsV ds i).length = i + 1 := by unfold endsV; simp
theorem endsV_at (ds : List CaseD) (i j : Nat) (h : j ≤ i) : ((endsV ds i).map I64)[j]? = some (.int .i64 (endAt ds j)) := by
  unfold endsV
  rw [List.getElem?_map, List.getElem?_map, List.getElem?_range (by omega)]
  rfl

/-- Append of an int to what the call owns and is not nil. -/
theorem app_int0 {w : World} {ops : Array Oper} {rest : List Oper} {o : Oper} {a : Act} {Q : Exit → Act → World → Prop} (hgd : o.guard = none) (s x : Operand)
    (ho : o.op = .call { callee := .builtin .append, args := #[s, x], argTypes := #[26, 26] })
    (base : Nat) (ad : Addr) (n cap : Nat) (xs : List Int) (hs : a.eval s = .slice (some ad) n cap) (hown : w.ownsRow base 3 1 (.slice (some ad) n cap) n (xs.map I64))
    (sv : Value) (news : List Int) (hx : a.eval x = sv) (hsv : Slc w sv (news.map I64)) (m : Nat) (ys : List Int) (hm : m = n + news.length) (hys : ys = xs ++ news) (hlen : m ≤ 17592186044416) (hbase : base ≤ w.heap.size)
    (h : ∀ g cap' w', w'.ownsRow base 3 1 (.slice (some ⟨g, 0, none⟩) m cap') m (ys.map I64) → Below base w w' → wpList Try.prog ops Q rest (a.put o.dst (.slice (some ⟨g, 0, none⟩) m cap')) w') :
    wpList Try.prog ops Q (o :: rest) a w := by
  obtain ⟨i0, hi, hz0, hz1, hz2⟩ := info_parts Try.infoInt0
  subst hm hys
  refine wpList_append_slc hgd s x 26 ho base 3 i0 (.int .i64 0) 8 Try.underlying26 hi hz0 hz1 hz2 rfl _ n (xs.map I64) hs hown sv (news.map I64) hx hsv (i64_one news) (by simp [maxLen]; omega) (by simp; omega) hbase ?_
  intro v' w' h1 h2 h3
  have h1' : w'.ownsRow base 3 1 v' (n + news.length) ((xs ++ news).map I64) := by simpa using h1
  obtain ⟨g, c, rfl, _⟩ := owns_some h1' (by intro e; have := h3.1 e; simp at this)
  exact h g c w' h1' (below_grown hown hbase h2)
theorem slc_int0 (w : World) (z : Int) : Slc (w.alloc (.cells #[.int .i64 z] 3)) (.slice (some ⟨w.heap.size, 0, none⟩) 1 1) ([z].map I64) := by
  have h := World.ownsRow_lit (base := w.heap.size) (e := 3) (size := 1) w #[.int .i64 z] 1 (Nat.le_refl _) (by simp [maxLen]) rfl
  exact slc_of_owns h
theorem ends_cell {w : World} {base g n cap : Nat} {ds : List CaseD} {i j : Nat} (h : w.ownsRow base 3 1 (.slice (some ⟨g, 0, none⟩) n cap) n ((endsV ds i).map I64)) (hj : j ≤ i) : w.cell? ⟨g, j, none⟩ = some (.int .i64 (endAt ds j)) := by
  obtain ⟨b, off, e, _, hc⟩ := Slc.at (slc_of_owns h) (endsV_at ds i j hj)
  simp only [Option.some.injEq, Addr.mk.injEq, and_true] at e
  obtain ⟨rfl, rfl⟩ := e
  rwa [Nat.zero_add] at hc
/-- The row of bytes that a string is turned into. -/
def RowB (W : World) (b n : Nat) (L : List Int) : Prop := L.length = n ∧ ∀ i, i < n → W.cell? ⟨b, i, none⟩ = some (.int .u8 (L.getD i 0))
theorem rowB_new (w : World) (s : ByteArray) : RowB (Lib.bytesWorld w 5 s) w.heap.size s.size (bytesOf s) := by
  refine ⟨bytesOf_len s, fun i h => ?_⟩
  rw [Lib.bytesWorld_cell w _ s i h, getD_str s i h, List.getD_eq_getElem?_getD, bytesOf_get s i h]
  rfl
theorem rowB_free (w : World) (s : ByteArray) (c : Nat) (h : c < s.size) : (Lib.bytesWorld w 5 s).frozen? ⟨w.heap.size, c, none⟩ = false := by
  unfold World.frozen?
  rw [Lib.bytesWorld_at_new]
  have : s.size ≤ (Lib.bytesCells w 5 s).size := by
    unfold Lib.bytesCells
    simp only [Array.size_append, Array.size_map, Array.size_replicate]
    exact Nat.le_add_right _ _
  simp only [Bool.and_eq_false_iff, decide_eq_false_iff_not]
  omega
theorem RowB.kept {S : Nat → Prop} {w w' : World} {b n : Nat} {L : List Int} (h : RowB w b n L) (hk : Kept S w w') (hs : ¬ S b) : RowB w' b n L :=
  ⟨h.1, fun i hi => (hk.cell (cell_lt (h.2 i hi)) hs).trans (h.2 i hi)⟩
theorem RowB.set {w : World} {b n : Nat} {L : List Int} (h : RowB w b n L) (c : Nat) (z : Int) (hc : c < n) : RowB (w.setCell ⟨b, c, none⟩ (.int .u8 z)) b n (L.set c z) := by
  refine ⟨by rw [List.length_set]; exact h.1, fun i hi => ?_⟩
  by_cases he : c = i
  · subst he
    rw [World.cell?_setCell_same _ _ _ (h.2 c hc)]
    rw [List.getD_eq_getElem?_getD, List.getElem?_set_self (by rw [h.1]; exact hc)]
    rfl
  · rw [World.cell?_setCell_other _ _ _ _ (by intro e; cases e; exact he rfl), h.2 i hi, List.getD_eq_getElem?_getD, List.getD_eq_getElem?_getD, List.getElem?_set_ne he]
theorem RowB.drew {w : World} {b n : Nat} {L : List Int} (h : RowB w b n L) : RowB w.drew b n L := ⟨h.1, fun i hi => h.2 i hi⟩
theorem wrap8_rng (z : Int) : 0 ≤ IntKind.u8.wrap z ∧ IntKind.u8.wrap z < 256 := by
  simp [IntKind.wrap, IntKind.bits, IntKind.signed]; omega
theorem RowB.conv {w : World} {b n : Nat} {L : List Int} (h : RowB w b n L) (m cap : Nat) (hm : m ≤ n) : (convert 22 9 (.slice (some ⟨b, 0, none⟩) m cap)).run Try.prog w = .ok (.string (strOfNums (L.take m))) w := by
  refine run_convert_bytes_arg (P := Try.prog) w 22 5 Try.underlying22 Try.underlying5 b 0 m cap (L.take m) (by rw [List.length_take, h.1]; omega) (fun i hi => ?_) 9 Try.underlying9
  rw [Nat.zero_add, h.2 i (by omega), List.getD_eq_getElem?_getD, List.getD_eq_getElem?_getD, List.getElem?_take_of_lt hi]

set_option maxHeartbeats 2000000 in
set_option maxRecDepth 8000 in
theorem lawCases_any (w : World) (v0 : Value) (b0 : List Int) (r0 : RdB w v0 b0) (y0 : WfB b0) (v1 : Value) (b1 : List Int) (r1 : RdB w v1 b1) (y1 : WfB b1) :
    Calls Try.prog 3 #[v0, v1] w fun e w' => e = .returned (.bool true) ∧ Below w.heap.size w w' := by
  have R0 := Lib.hid r0
  have R1 := Lib.hid r1
  have Y0 := Lib.hid y0
  have Y1 := Lib.hid y1
  clear r0 r1 y0 y1
  by_cases hL : isLong b0 b1 = true
  · go_enter Try.func3, Try.ntmps3
    go_wp2_with (go_at_call 9; refine (b10Long_any _ _ b0 b1 _ R0.out R1.out).mono ?_; rintro e w' ⟨rfl, rfl⟩; rw [hL])
    go_ret
    exact ⟨rfl, Below.refl _ _⟩
  rw [Bool.not_eq_true] at hL
  have HL := Lib.hid hL
  clear hL
  go_enter Try.func3, Try.ntmps3
  go_upto_region 3 with (go_at_call 9; refine (b10Long_any _ _ b0 b1 _ R0.out R1.out).mono ?_; rintro e w' ⟨rfl, rfl⟩; rw [HL.out])
  go_wp2_with fail
  refine (B10Cases_any _ b0 w R0.out Y0.out).mono ?_
  rintro e w1 ⟨ds, vl, ⟨hV, hd4⟩, rfl, ho, hb1⟩
  obtain ⟨la, lc, rfl⟩ := ho.rd.shape
  have HV := Lib.hid hV
  have HR1 := Lib.hid ho.rd
  have HB1 := Lib.hid hb1
  have HALL := Lib.hid (all_back hV (by omega))
  clear hV ho hb1
  obtain ⟨n, hn⟩ : ∃ n, n = ds.length := ⟨_, rfl⟩
  rw [← hn] at HR1 hd4 HALL ⊢
  have HN := Lib.hid hn
  clear hn
  have hz1 := HB1.out.size
  go_upto_region 5 with fail
  refine wp_at fun W2 hW2 => ?_
  have HO2 := Lib.hid (show W2.ownsRow w1.heap.size 3 1 (.slice (some ⟨w1.heap.size, 0, none⟩) 1 1) 1 ((endsV ds 0).map I64) by
    subst hW2
    exact World.ownsRow_lit (base := w1.heap.size) (e := 3) (size := 1) w1 #[.int .i64 0] 1 (Nat.le_refl _) (by simp [maxLen]) rfl)
  have hb2 : Below w1.heap.size w1 W2 := by subst hW2; exact (Below.refl _ _).alloc (Nat.le_refl _) _
  have HB2 := Lib.hid hb2
  clear hW2 hb2
  go_wp2_with fail
  go_loopw [6, 36] (fun ev iv wr => ∃ (i : Nat) (g : Nat) (cap : Nat), iv = .int .i64 i ∧ i ≤ n ∧ ev = .slice (some ⟨g, 0, none⟩) (i + 1) cap ∧ Hid (wr.ownsRow w1.heap.size 3 1 (.slice (some ⟨g, 0, none⟩) (i + 1) cap) (i + 1) ((endsV ds i).map I64)) ∧ Hid (Below w1.heap.size w1 wr)) (fun _ iv _ => n - (intOf iv).toNat)
  case atStart => exact ⟨0, w1.heap.size, 1, rfl, Nat.zero_le _, rfl, HO2, HB2⟩
  case round =>
    obtain ⟨i, g, cap, rfl, hi, rfl, HO, HB⟩ := hrel
    by_cases hlt : i < n
    · have hltI : (i : Int) < (n : Int) := by omega
      have hdl : i < ds.length := by rw [← HN.out]; exact hlt
      obtain ⟨b, off, z1, z2, rfl, hb0, x0, x1, x2, x3, hu⟩ := (HR1.out.up HB.out (Nat.le_refl _)).at hdl
      have HES := Lib.hid (endAt_succ ds hdl)
      have HDV := Lib.hid (show caseB (ds.getD i ICL) = true by rw [List.getD_eq_getElem?_getD, List.getElem?_eq_getElem hdl]; exact HV.out _ (List.getElem_mem hdl))
      have HONE := Lib.hid ((HR1.out.up HB.out (Nat.le_refl _)).one hdl)
      obtain ⟨d, hd⟩ : ∃ d, d = ds.getD i ICL := ⟨_, rfl⟩
      rw [← hd] at x0 x1 hu HES HDV HONE
      obtain ⟨p1, q1, p2, q2, hsz⟩ := hu.shape
      simp only [Value.agg.injEq, Array.mk.injEq, List.cons.injEq, and_true, true_and] at hsz
      obtain ⟨rfl, rfl⟩ := hsz
      have HU := Lib.hid hu
      have X0 := Lib.hid x0
      have X1 := Lib.hid x1
      have X2 := Lib.hid x2
      have X3 := Lib.hid x3
      have HBK := Lib.hid (one_back HDV.out)
      clear hu hd
      go_wp2_with fail
      refine (implStore_any _ d wr HU.out).mono ?_
      rintro e w3 ⟨rfl, hb3⟩
      rw [HDV.out, HBK.out.1]
      have HB3 := Lib.hid hb3
      have hz3 := hb3.size
      have hss : (storeS d).size ≤ 2002 := storeS_size HDV.out
      obtain ⟨S, hS⟩ : ∃ S, S = storeS d := ⟨_, rfl⟩
      rw [← hS] at HBK hss ⊢
      have HSS := Lib.hid hS
      clear hb3 hS x0 x1 x2 x3
      go_wp2_with fail
      refine (implLoad_any S w3 (by omega)).mono ?_
      rintro e w4 ⟨v', rfl, ho, hb4⟩
      rw [HBK.out.2.1]
      rw [HBK.out.2.2.1] at ho
      obtain ⟨a1, c1, a2, c2, rfl⟩ := ho.rd.shape
      have HX4 := Lib.hid ho.rd
      have HB4 := Lib.hid (HB3.out.trans (hb4.mono hz3))
      have hz4 := hb4.size
      clear ho hb4
      go_upto_region 10 with fail
      refine wp_at fun W5 hW5 => ?_
      have HT5 := Lib.hid (show Blk W5 w4.heap.size 33 #[.string d.name, .int .i64 d.form.letters, .slice a1 d.form.clauses.length c1, .slice a2 d.proof.length c2] by
        subst hW5; first | exact Blk.new _ _ _ | simpa using ((((Blk.new w4 33 #[.string ⟨#[]⟩, .int .i64 0, .slice none 0 0, .slice none 0 0]).set 0 (.string d.name)).set 1 (.int .i64 d.form.letters)).set 2 (.slice a1 d.form.clauses.length c1)).set 3 (.slice a2 d.proof.length c2))
      have hb5 : Below w4.heap.size w4 W5 := by subst hW5; first | (repeat' first | exact Below.refl _ _ | assumption | refine Below.alloc ?_ ?_ _ | refine Below.setCell ?_ ?_ _ | refine Below.drew ?_ | (simp; done) | (simp; omega)) | (repeat' first | exact Below.refl _ _ | refine Below.setCell ?_ (by exact Nat.le_refl _) _ | refine Below.alloc ?_ (Nat.le_refl _) _)
      have HX5 := Lib.hid (HX4.out.up hb5 (Nat.le_refl _))
      have HB5 := Lib.hid (HB4.out.trans (hb5.mono (by omega)))
      have hz5 := hb5.size
      have hC5 := HT5.out.lt
      obtain ⟨C, hCe⟩ : ∃ C, C = w4.heap.size := ⟨_, rfl⟩
      rw [← hCe] at HT5 hC5 ⊢
      clear hW5 hb5 hCe HX4 HB4 HB3
      have x0 := held_of HB5.out X0.out (Nat.le_refl _)
      have x1 := held_of HB5.out X1.out (Nat.le_refl _)
      have x2 := held_of HB5.out X2.out (Nat.le_refl _)
      have x3 := held_of HB5.out X3.out (Nat.le_refl _)
      have y0 : W5.cell? ⟨C, 0, none⟩ = some (.string d.name) := HT5.out.cell 0 rfl
      have y1 : W5.cell? ⟨C, 1, none⟩ = some (.int .i64 d.form.letters) := HT5.out.cell 1 rfl
      have y2 : W5.cell? ⟨C, 2, none⟩ = some (.slice a1 d.form.clauses.length c1) := HT5.out.cell 2 rfl
      have y3 : W5.cell? ⟨C, 3, none⟩ = some (.slice a2 d.proof.length c2) := HT5.out.cell 3 rfl
      have hi1 : (i : Int) + 1 ≤ (lc : Int) := by
        rcases HONE.out with ⟨_, _, e, _⟩ | ⟨_, _, _, _, e, h1, _⟩
        · simp at e
        · simp at e h1; omega
      have HSAME := Lib.hid (sameCL_refl [d])
      have hlci : ¬ lc = i := by omega
      have hi0 : (0 : Int) ≤ (i : Int) := by omega
      have hii : (i : Int) ≤ (i : Int) + 1 := by omega
      have hwi : IntKind.i64.wrap ((i : Int) + 1) = (i : Int) + 1 := IntWalk.i64_in _ (by omega)
      have htn : ((i : Int) + 1 - (i : Int)).toNat = 1 := by omega
      have HKEEP := Lib.hid (show ∀ X, Below W5.heap.size W5 X → (fun X => X.cell? ⟨b, off + i * 4, none⟩ = some (.string d.name) ∧ X.cell? ⟨b, off + i * 4 + 1, none⟩ = some (.int .i64 d.form.letters) ∧ X.cell? ⟨b, off + i * 4 + 2, none⟩ = some (.slice p1 d.form.clauses.length q1) ∧ X.cell? ⟨b, off + i * 4 + 3, none⟩ = some (.slice p2 d.proof.length q2) ∧ X.cell? ⟨C, 0, none⟩ = some (.string d.name) ∧ X.cell? ⟨C, 1, none⟩ = some (.int .i64 d.form.letters) ∧ X.cell? ⟨C, 2, none⟩ = some (.slice a1 d.form.clauses.length c1) ∧ X.cell? ⟨C, 3, none⟩ = some (.slice a2 d.proof.length c2) ∧ Below W5.heap.size W5 X) X from fun X h => ⟨held_of h x0 (Nat.le_refl _), held_of h x1 (Nat.le_refl _), held_of h x2 (Nat.le_refl _), held_of h x3 (Nat.le_refl _), held_of h y0 (Nat.le_refl _), held_of h y1 (Nat.le_refl _), held_of h y2 (Nat.le_refl _), held_of h y3 (Nat.le_refl _), h⟩)
      go_wp2_with fail
      go_region_held3 (fun X => X.cell? ⟨b, off + i * 4, none⟩ = some (.string d.name) ∧ X.cell? ⟨b, off + i * 4 + 1, none⟩ = some (.int .i64 d.form.letters) ∧ X.cell? ⟨b, off + i * 4 + 2, none⟩ = some (.slice p1 d.form.clauses.length q1) ∧ X.cell? ⟨b, off + i * 4 + 3, none⟩ = some (.slice p2 d.proof.length q2) ∧ X.cell? ⟨C, 0, none⟩ = some (.string d.name) ∧ X.cell? ⟨C, 1, none⟩ = some (.int .i64 d.form.letters) ∧ X.cell? ⟨C, 2, none⟩ = some (.slice a1 d.form.clauses.length c1) ∧ X.cell? ⟨C, 3, none⟩ = some (.slice a2 d.proof.length c2) ∧ Below W5.heap.size W5 X)
        (first | exact HKEEP.out _ hbn | exact HKEEP.out _ (hbn.alloc hbn.size _) | (refine HKEEP.out _ ?_; (repeat' first | exact Below.refl _ _ | assumption | refine Below.alloc ?_ ?_ _ | refine Below.setCell ?_ ?_ _ | refine Below.drew ?_ | (simp; done) | (simp; omega)); done) | go_keep)
        (first
          | (go_at_call 13; have hcur := (‹_ ∧ _ ∧ _ ∧ _ ∧ _ ∧ _ ∧ _ ∧ _ ∧ Below W5.heap.size W5 _›).2.2.2.2.2.2.2.2; refine (implValidCase_any _ d _ ((HU.out.up HB5.out (Nat.le_refl _)).up hcur (Nat.le_refl _))).mono ?_; rintro e w6 ⟨rfl, hb6⟩; rw [HDV.out]; have hbn : Below W5.heap.size W5 w6 := Below.trans hcur (hb6.mono hcur.size))
          | (go_at_call 14; have hal := hbn.alloc hbn.size (.cells #[.string d.name, .int .i64 d.form.letters, .slice a1 d.form.clauses.length c1, .slice a2 d.proof.length c2] 33); refine (implSameCases_any _ _ [d] [d] _ (rdCL_lit (w := w6) (HX5.out.up hbn (Nat.le_refl _)) _ rfl) ((HONE.out.up HB5.out (Nat.le_refl _)).up hal (Nat.le_refl _))).mono ?_; rintro e w7 ⟨rfl, hb7⟩; rw [HSAME.out]; have hbn : Below W5.heap.size W5 w7 := Below.trans hal (hb7.mono hal.size))
          | fail)
      all_goals
        have HB7 := Lib.hid (HB5.out.trans (hbn.mono (show wr.heap.size ≤ W5.heap.size by omega)))
        have HO7 := Lib.hid (owns_below HO.out HB7.out (Nat.le_refl _))
        have HBB := Lib.hid (HB.out.trans (HB7.out.mono HB.out.size))
        have hz7 := HB7.out.size
        have hzr := HB.out.size
        have c0 := ends_cell HO7.out (Nat.le_refl i)
        have HLE := Lib.hid (endAt_le ds (i + 1))
        have HFL := Lib.hid (flatLen ds HV.out)
        obtain ⟨e0, he0⟩ : ∃ e0, e0 = endAt ds i := ⟨_, rfl⟩
        obtain ⟨ss, hss2⟩ : ∃ ss, ss = S.size := ⟨_, rfl⟩
        have hbnd : e0 + ss ≤ 10000 := by
          have h1 := HES.out
          have h2 := HLE.out
          have h3 := HFL.out
          have h4 := HBK.out.2.2.2
          have h5 := HN.out
          omega
        have HYS := Lib.hid (show endsV ds (i + 1) = endsV ds i ++ [(e0 : Int) + (ss : Int)] by
          rw [endsV_succ, HES.out, ← he0, hss2, HBK.out.2.2.2]; push_cast; rfl)
        rw [← he0] at c0
        have hssI : (S.size : Int) = (ss : Int) := by rw [hss2]
        clear hss2 he0 hbn x0 x1 x2 x3 y0 y1 y2 y3 hss
        go_wp2_with (at_builtin; refine app_int0 rfl _ _ rfl w1.heap.size ⟨g, 0, none⟩ (i + 1) cap (endsV ds i) rfl (owns_below HO7.out ((Below.refl _ _).alloc (Nat.le_refl _) _) (Nat.le_refl _)) _ [(e0 : Int) + (ss : Int)] rfl (slc_int0 _ _) (i + 1 + 1) (endsV ds (i + 1)) rfl HYS.out (by omega) (by simp; omega) ?_; intro g8 cap8 w8 ho8 hb8)
        go_roundw
        case rel => exact ⟨i + 1, g8, cap8, by go_num, by omega, rfl, Lib.hid ho8, Lib.hid (HBB.out.trans (((Below.refl w1.heap.size w7).alloc (by omega) _).trans hb8))⟩
        case measure => simp [intOf]; omega
    · obtain rfl : i = n := by omega
      have HST := Lib.hid (storesB_of HV.out (by rw [← HN.out]; omega))
      have hzr := HB.out.size
      go_wp2_with fail
      refine (implStores_any _ ds wr (by have := HR1.out.up HB.out (Nat.le_refl _); exact this)).mono ?_
      rintro e w3 ⟨rfl, hb3⟩
      rw [HST.out.1, HST.out.2]
      obtain ⟨A, hA⟩ : ∃ A, A = storesF ds := ⟨_, rfl⟩
      rw [← hA] at HALL ⊢
      have HA := Lib.hid hA
      have HB3 := Lib.hid (HB.out.trans (hb3.mono hzr))
      have HO3 := Lib.hid (owns_below HO.out hb3 (Nat.le_refl _))
      have hz3 := hb3.size
      have hAs : A.size ≤ 10000 := by
        have h1 := HALL.out.1
        have h2 := endAt_le ds i
        have h3 := flatLen ds HV.out
        have h4 := HN.out
        omega
      clear hb3 hA HO
      go_wp2_with fail
      refine (implRec_any A w3 (by omega)).mono ?_
      rintro e w4 ⟨v', rfl, ho, hb4⟩
      rw [HALL.out.2.2]
      rw [HALL.out.2.1] at ho
      obtain ⟨ra, rc, rfl⟩ := ho.rd.shape
      rw [← HN.out] at ho ⊢
      have HW4 := Lib.hid ho.rd
      have HB4 := Lib.hid (HB3.out.trans (hb4.mono (by omega)))
      have HO4 := Lib.hid (owns_below HO3.out hb4 (Nat.le_refl _))
      have hz4 := hb4.size
      clear ho hb4 HO3 HB3
      have c4 := ends_cell HO4.out (Nat.le_refl i)
      rw [← HALL.out.1] at c4
      have hne1 : ((A.size : Int) != (A.size : Int)) = false := by simp
      have HSAM := Lib.hid (sameCL_refl ds)
      go_upto_region 18 with (go_at_call 14; refine (implSameCases_any _ _ ds ds _ HW4.out (by have := HR1.out.up HB4.out (Nat.le_refl _); exact this)).mono ?_; rintro e w5 ⟨rfl, hb5⟩; rw [HSAM.out])
      have HB5 := Lib.hid (HB4.out.trans (hb5.mono (by omega)))
      have HO5 := Lib.hid (owns_below HO4.out hb5 (Nat.le_refl _))
      have HBW := Lib.hid (HB1.out.trans (HB5.out.mono hz1))
      have hz5 := HB5.out.size
      clear hb5 c4 hne1 HO4 HB4 HW4 HSAM
      by_cases hA0 : A.size = 0
      · have t0 : (A.size : Int) = 0 := by omega
        go_wp2_with fail
        go_ret
        exact ⟨rfl, HBW.out⟩
      have hA0I : ¬ (A.size : Int) = 0 := by omega
      obtain ⟨N, hN⟩ : ∃ N, N = A.size := ⟨_, rfl⟩
      rw [← hN] at hA0 hA0I hAs HALL
      have HNA := Lib.hid hN
      have hNI : (A.size : Int) = (N : Int) := by rw [hN]
      have hNI0 : ((N : Int) == 0) = false := by simp; omega
      clear hN
      go_wp2_with fail
      refine (b10At_any v1 b1 0 256 w5 (R1.out.up HBW.out (Nat.le_refl _)) Y1.out (by omega) (by omega) (by omega) (by omega)).mono ?_
      rintro e w' ⟨x, hx0, hx1, rfl, rfl⟩
      go_wp2_with fail
      refine (b10At_any v1 b1 1 256 w5 (R1.out.up HBW.out (Nat.le_refl _)) Y1.out (by omega) (by omega) (by omega) (by omega)).mono ?_
      rintro e w' ⟨y, hy0, hy1, rfl, rfl⟩
      have hm0 := Int.emod_nonneg (256 * x + y) (show (N : Int) ≠ 0 from hA0I)
      have hm1 := Int.emod_lt_of_pos (256 * x + y) (show (0 : Int) < (N : Int) by omega)
      obtain ⟨c, hc⟩ : ∃ c : Nat, (256 * x + y) % (N : Int) = c := ⟨_, (Int.toNat_of_nonneg hm0).symm⟩
      rw [hc] at hm0 hm1
      have hcN : c < N := by omega
      have htm : (256 * x + y).tmod (N : Int) = c := by rw [Int.tmod_eq_emod_of_nonneg (by omega), hc]
      have HAB := Lib.hid (show bytesOf A = flatB ds by rw [HA.out]; exact storesF_bytes ds)
      have HEN := Lib.hid (show endAt ds i = N by rw [HALL.out.1])
      have hcI : (c : Int) ≤ (N : Int) := by omega
      have HIN := Lib.hid (show i = ds.length from HN.out)
      go_upto_region 21 with fail
      clear htm hc hx0 hx1 hy0 hy1
      go_wp2_with fail
      go_loop [18] (fun kv => ∃ k : Nat, kv = .int .i64 k ∧ k ≤ i ∧ Hid (endAt ds k ≤ c)) (fun kv => i - (intOf kv).toNat)
      case atStart => exact ⟨0, rfl, Nat.zero_le _, Lib.hid (Nat.zero_le _)⟩
      case round =>
        obtain ⟨k, rfl, hk, HEK⟩ := hrel
        by_cases hki : k < i
        case neg =>
          exfalso
          obtain rfl : k = i := by omega
          have h1 := HEK.out
          rw [HEN.out] at h1
          omega
        have hkiI : (k : Int) < (i : Int) := by omega
        have ck := ends_cell HO5.out (show k + 1 ≤ i by omega)
        by_cases hle : endAt ds (k + 1) ≤ c
        · have hleI : (endAt ds (k + 1) : Int) ≤ (c : Int) := by omega
          have HLE := Lib.hid hle
          clear hle
          go_wp2_with fail
          go_round
          case rel => exact ⟨k + 1, by go_num, by omega, HLE⟩
          case measure => simp [intOf]; omega
        have hleI : ¬ (endAt ds (k + 1) : Int) ≤ (c : Int) := by omega
        have HGT := Lib.hid (show c < endAt ds (k + 1) by omega)
        clear hle
        have c5 := ends_cell HO5.out hk
        obtain ⟨t, ht⟩ : ∃ t, t = A.extract 0 c := ⟨_, rfl⟩
        have HTB := Lib.hid (show bytesOf t = (flatB ds).take c by rw [ht, bytes_extract A 0 c (Nat.zero_le _), List.drop_zero, Nat.sub_zero, HAB.out])
        have hts : t.size ≤ 1048576 := by
          rw [← bytesOf_len, HTB.out, List.length_take]; omega
        have HTE := Lib.hid ht
        have HCUT := Lib.hid (cut_back HV.out (show ds.length ≤ 8 by rw [← HIN.out]; omega) (show k < ds.length by rw [← HIN.out]; exact hki) HEK.out HGT.out t HTB.out)
        clear ht
        go_wp2_with fail
        rw [← HTE.out]
        refine (implRec_any t w5 hts).mono ?_
        rintro e w6 ⟨v', rfl, ho, hb6⟩
        rw [HCUT.out.2]
        rw [HCUT.out.1] at ho
        obtain ⟨sa, sc, rfl⟩ := ho.rd.shape
        have hlk : (ds.take k).length = k := by rw [List.length_take]; have := HIN.out; omega
        rw [hlk]
        have HB6 := Lib.hid (HB5.out.trans (hb6.mono (by omega)))
        have HO6 := Lib.hid (owns_below HO5.out hb6 (Nat.le_refl _))
        have c6 := held_of hb6 c5 (Nat.le_refl _)
        have hz6 := hb6.size
        obtain ⟨ek, hek⟩ : ∃ ek, ek = endAt ds k := ⟨_, rfl⟩
        rw [← hek] at c6 ⊢
        have hne3 : ((ek : Int) != (ek : Int)) = false := by simp
        have hne4 : ((k : Int) != (k : Int)) = false := by simp
        have HEK2 := Lib.hid hek
        clear ho hb6 ck c5 hlk hek
        have hconv := fun (W : World) => Lib.run_convert_string_bytes (P := Try.prog) W 9 22 5 A Try.underlying9 Try.underlying22 Try.underlying5
        have hcap : N ≤ grownCap w6 A.size 0 5 := by have := HNA.out; rw [this]; exact grownCap_ge _ _ _ _
        obtain ⟨cp, hcp⟩ : ∃ cp, cp = grownCap w6 A.size 0 5 := ⟨_, rfl⟩
        have hcpr := hcp.symm
        rw [hcpr] at hcap
        clear hcp
        go_upto_region 28 with fail
        refine wp_at fun W7 hW7 => ?_
        have HRB := Lib.hid (show RowB W7 w6.heap.size N (flatB ds) by subst hW7; have h := rowB_new w6 A; rw [HAB.out, ← HNA.out] at h; exact h)
        have HFR := Lib.hid (show W7.frozen? ⟨w6.heap.size, c, none⟩ = false by subst hW7; exact rowB_free w6 A c (by have := HNA.out; omega))
        have hb7 : Below w6.heap.size w6 W7 := by subst hW7; exact bytesWorld_below w6 A
        have HB7 := Lib.hid (HB6.out.trans (hb7.mono (by omega)))
        have HBW7 := Lib.hid (HB1.out.trans (HB7.out.mono hz1))
        have hz7 := hb7.size
        have h67 : w6.heap.size < W7.heap.size := cell_lt (a := ⟨w6.heap.size, c, none⟩) (HRB.out.2 c hcN)
        obtain ⟨B, hB⟩ : ∃ B, B = w6.heap.size := ⟨_, rfl⟩
        rw [← hB] at HRB HFR h67 ⊢
        have hBz : w6.heap.size ≤ B := Nat.le_of_eq hB.symm
        clear hW7 hb7 hconv hcpr hB c6 hne3 hne4
        rw [show A.size = N from HNA.out.symm]
        clear hNI
        have hL0 := flat_rng ds
        have hLN := HRB.out.1
        obtain ⟨z0, hz0⟩ : ∃ z, z = (flatB ds).getD c 0 := ⟨_, rfl⟩
        have hz01 : 0 ≤ z0 ∧ z0 < 256 := by
          rw [hz0, List.getD_eq_getElem?_getD, List.getElem?_eq_getElem (by rw [hLN]; exact hcN)]
          exact hL0 _ (List.getElem_mem _)
        have d0 := HRB.out.2 c hcN
        rw [← hz0] at d0
        have f0 := HFR.out
        clear hL0 hz0 hLN
        go_wp2_with fail
        go_region_law (first
          | (go_simp; go_at_call 17; refine (b10At_any v1 b1 2 255 _ (R1.out.up (show Below w.heap.size w _ from by first | exact HBW7.out | exact HBW7.out.drew) (Nat.le_refl _)) Y1.out (by omega) (by omega) (by omega) (by omega)).mono ?_; rintro e w' ⟨x2, hx20, hx21, rfl, rfl⟩)
          | fail)
        all_goals
          go_upto_region 29 with fail
          refine wp_at fun W8 hW8 => ?_
          obtain ⟨z1, hz10, hz11, hW⟩ : ∃ z1 : Int, 0 ≤ z1 ∧ z1 < 256 ∧ W8 = (W7.setCell ⟨B, c, none⟩ (.int .u8 z1)).drew := ⟨_, (wrap8_rng _).1, (wrap8_rng _).2, hW8⟩
          obtain ⟨L, hLe⟩ : ∃ L, L = (flatB ds).set c z1 := ⟨_, rfl⟩
          have HRL := Lib.hid (show RowB W8 B N L by rw [hW, hLe]; exact (HRB.out.set c z1 hcN).drew)
          have HB8 := Lib.hid (show Below w1.heap.size w1 W8 by rw [hW]; exact (HB7.out.setCell (show w1.heap.size ≤ B by omega) _).drew)
          have HBW8 := Lib.hid (HB1.out.trans (HB8.out.mono hz1))
          have hz8 : W7.heap.size ≤ W8.heap.size := by rw [hW]; simp
          have hLr : ∀ x ∈ L, 0 ≤ x ∧ x < 256 := by
            intro x hx
            rw [hLe] at hx
            rcases List.mem_or_eq_of_mem_set hx with h | h
            · exact flat_rng ds x h
            · subst h; exact ⟨hz10, hz11⟩
          have hcv := HRL.out.conv N cp (Nat.le_refl _)
          have hLt : L.take N = L := List.take_of_length_le (by rw [HRL.out.1]; exact Nat.le_refl _)
          rw [hLt] at hcv
          obtain ⟨bs, hbs⟩ : ∃ bs, bs = strOfNums L := ⟨_, rfl⟩
          have hbb : bytesOf bs = L := by rw [hbs]; exact bytes_back _ hLr
          rw [← hbs] at hcv
          have hsz : bs.size ≤ 1048576 := by rw [← bytesOf_len, hbb, HRL.out.1]; omega
          have HBENT := Lib.hid (bent_back HV.out (by rw [← HIN.out]; omega) (show k ≤ ds.length by rw [← HIN.out]; exact hk) HEK.out z1 bs (by rw [hbb, hLe]))
          have HBB := Lib.hid hbb
          clear hW8 hW hLe hLr hLt hbs hbb d0 f0 hz01 hz10 hz11 hx20 hx21 HRB HFR
          go_wp2_with fail
          refine (implRec_any bs W8 hsz).mono ?_
          rintro e w9 ⟨v', rfl, ho, hb9⟩
          obtain ⟨ra2, rc2, rfl⟩ := ho.rd.shape
          have HRD := Lib.hid ho.rd
          obtain ⟨m, hm⟩ : ∃ m, m = (recC bs).length := ⟨_, rfl⟩
          obtain ⟨p, hp⟩ : ∃ p, p = recP bs := ⟨_, rfl⟩
          have hN9 : bs.size = N := by rw [← bytesOf_len, HBB.out, HRL.out.1]
          have hkm : (k : Int) ≤ (m : Int) := by have := HBENT.out.1; omega
          have hpN : (p : Int) ≤ (N : Int) := by have := HBENT.out.2.2.1; omega
          have hpn : p ≤ N := by omega
          have HRL9 := Lib.hid (HRL.out.kept (S := fun _ => False) (Kept.of_below hb9 (Nat.le_refl _)) (fun h => h))
          have hBW9 := Lib.hid (HBW8.out.trans (hb9.mono HBW8.out.size))
          rw [← hm, ← hp]
          have HM := Lib.hid hm
          have HPP := Lib.hid hp
          clear ho hm hp hcv hN9
          go_wp2_with fail
          refine (implStores_any _ (recC bs) w9 (by have := HRD.out; rw [← HM.out] at this; exact this)).mono ?_
          rintro e w10 ⟨rfl, hb10⟩
          rw [HBENT.out.2.1, HBENT.out.2.2.2, ← HPP.out, HBB.out]
          have HRL10 := Lib.hid (HRL9.out.kept (S := fun _ => False) (Kept.of_below hb10 (Nat.le_refl _)) (fun h => h))
          have HBF := Lib.hid (hBW9.out.trans (hb10.mono hBW9.out.size))
          have hcv2 := HRL10.out.conv p cp hpn
          obtain ⟨sx, hsx⟩ : ∃ sx, sx = strOfNums (L.take p) := ⟨_, rfl⟩
          rw [← hsx] at hcv2 ⊢
          have hseq : (sx.toList == sx.toList) = true := by simp
          have hp0 : (0 : Int) ≤ (p : Int) := by omega
          clear hsx hb10 hb9
          go_wp2_with fail
          go_ret
          exact ⟨rfl, HBF.out⟩

end Go.Proofs.Ytkkcgclliomocaa

namespace Go.Proofs.Ytkkcgclliomocaa
open Go.ChangeShapes Go.WideShapes Go.ChangeAt Go.RowKit
set_option linter.unusedVariables false

section
variable {H : Type} {enc : TypeId × Value → H} {w : World} {base : Nat} {spare : Nat → Bool} {held : Bool}

theorem cells_u8 : Try.prog.cellsOf 5 = 1 := by kernel_rfl

set_option maxRecDepth 100000 in
theorem trod_B {fuel : Nat} {cs : List Value} {x : DataW H × List MemPlace} (h : DataW.trod enc Try.prog w base spare held fuel 22 cs = some x) : ∃ v zs, cs = [v] ∧ RdB w v zs ∧ WfB zs := by
  rcases open_ints Try.underlying22 Try.underlying5 cells_u8 h with ⟨rfl, _⟩ | ⟨a, len, cap, zs, rfl, _, hl, hm, hz, _, hcell, hwz⟩
  · exact ⟨_, [], rfl, .inl ⟨rfl, rfl⟩, by intro z hz; simp at hz⟩
  · have hle : len ≤ zs.length := by rw [hz]; split <;> omega
    refine ⟨_, zs.take len, rfl, .inr ⟨a, cap, by simp [Nat.min_eq_left hle], by simp; omega, hm, ?_⟩, fun z hz' => bounds_u8 (hwz z (List.mem_of_mem_take hz'))⟩
    intro i u hi
    have hlt : i < len := by
      have := (List.getElem?_eq_some_iff.1 hi).1
      simp at this; omega
    have h2 := hcell i (by omega)
    rw [h2, ← hi]
    simp [B8, List.getElem?_take, hlt, show i < zs.length by omega]

set_option maxRecDepth 100000 in
theorem arg_B {r : Reach} {b0 : Nat} {v : Value} {d : DataW H} {p : List MemPlace} (hv : Value.okWide Try.prog w r b0 22 v) (h : DataW.Trod enc Try.prog w base spare held 22 v d p) : ∃ zs, RdB w v zs ∧ WfB zs := by
  obtain ⟨a, len, cap, rfl⟩ := okWide_slice Try.underlying22 hv
  obtain ⟨fuel, hf⟩ := h
  obtain ⟨v, zs, e, h1, h2⟩ := trod_B hf
  simp [Value.cells] at e
  subst e
  exact ⟨zs, h1, h2⟩
end
end Go.Proofs.Ytkkcgclliomocaa
