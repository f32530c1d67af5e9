/-
  FnExactStoreCases: texts joined: StoreT, Stores, LFnExactStoreCases.
-/
import Derived.Deep.RegionHeld3
import Derived.Deep.Cut
import Derived.Test.YtljhohacgceojaaMEStoreCasesAD
import Derived.Test.YtljhohacgceojaaMEStoreCasesAG
namespace Go.Proofs.Ytljhohacgceojaa
open Go.RowKit

set_option maxHeartbeats 4000000 in
set_option maxRecDepth 8000 in
theorem l07Store_any (bb o : Nat) (d : CaseD) (a1 a2 : Option Addr) (c1 c2 : Nat) (w : World) (x0 : w.cell? ⟨bb, o, none⟩ = some (.string d.name)) (x1 : w.cell? ⟨bb, o + 1, none⟩ = some (.int .i64 d.form.letters)) (x2 : w.cell? ⟨bb, o + 2, none⟩ = some (.slice a1 d.form.clauses.length c1)) (x3 : w.cell? ⟨bb, o + 3, none⟩ = some (.slice a2 d.proof.length c2))
    (h : RdCs w (.agg #[.string d.name, .int .i64 d.form.letters, .slice a1 d.form.clauses.length c1, .slice a2 d.proof.length c2]) d) (hq : caseB d = true) :
    Calls Try.prog 67 #[.pointer (some ⟨bb, o, none⟩)] w fun e w' => e = .returned (.string (storeS d)) ∧ Below w.heap.size w w' := by
  obtain ⟨p1, p2, p3⟩ := h.parts
  have hpf := p1.parts
  obtain ⟨s1, s2, s3, s4, s5⟩ := case_parts hq
  have HLB := Lib.hid (body_len hq)
  have HC1 := Lib.hid (fun x hx => s4 x (List.mem_append_left _ hx))
  have HC2 := Lib.hid (fun x hx => s4 x (List.mem_append_right _ hx))
  obtain ⟨nm, ⟨lt, cl⟩, pr⟩ := d
  simp only at p1 p2 p3 hpf s1 s2 s3 s5 HC1 HC2 x0 x1 x2 x3 ⊢
  have hlt := inB_iff.1 s5
  have HF := Lib.hid hpf
  have HR := Lib.hid p2
  have HHB := Lib.hid (show headBytes ⟨nm, ⟨lt, cl⟩, pr⟩ = [67, 65, 83, 49] ++ [(nm.size : Int)] ++ bytesOf nm ++ [by8 lt, by8 cl.length, by8 pr.length] by
    unfold headBytes
    rw [by8_eq (nm.size : Int), show ((nm.size : Int) % 256) = nm.size by omega])
  have HBB := Lib.hid (show bodyBytes ⟨nm, ⟨lt, cl⟩, pr⟩ = headBytes ⟨nm, ⟨lt, cl⟩, pr⟩ ++ clausesBytes cl ++ clausesBytes pr by
    unfold bodyBytes clausesBytes; rw [List.flatMap_append, List.append_assoc])
  have HSB := Lib.hid (show storeS ⟨nm, ⟨lt, cl⟩, pr⟩ = strOfNums (bodyBytes ⟨nm, ⟨lt, cl⟩, pr⟩ ++ [by8 (chkL 0 (bodyBytes ⟨nm, ⟨lt, cl⟩, pr⟩)), by8 (chkL 0 (bodyBytes ⟨nm, ⟨lt, cl⟩, pr⟩) / 256)]) from rfl)
  obtain ⟨BB, hBB⟩ : ∃ B, B = bodyBytes ⟨nm, ⟨lt, cl⟩, pr⟩ := ⟨_, rfl⟩
  obtain ⟨HH, hHH⟩ : ∃ B, B = headBytes ⟨nm, ⟨lt, cl⟩, pr⟩ := ⟨_, rfl⟩
  rw [← hBB] at HBB HSB HLB
  have HBR := Lib.hid (show AllB BB by rw [hBB]; exact body_rng _)
  rw [← hHH] at HHB HBB
  clear hBB hHH h hq p1 p2 p3 hpf s4 s5
  have HNL := Lib.hid (bytesOf_len nm)
  have X0 := Lib.hid x0
  have X1 := Lib.hid x1
  have X2 := Lib.hid x2
  have X3 := Lib.hid x3
  have dk : ∀ ob : Obj, (w.alloc ob).cell? ⟨bb, o, none⟩ = some (.string nm) := fun ob => Lib.cell?_alloc_marked ob x0
  have kc := fun (w : World) (C : Array Value) (n c : Nat) => Lib.run_convert_bytes_const (P := Try.prog) w 41 5 C n c Try.underlying41 Try.underlying5
  have ks := fun (w : World) => Lib.run_convert_string_bytes (P := Try.prog) w 9 41 5 nm Try.underlying9 Try.underlying41 Try.underlying5
  clear x1 x2 x3
  go_enter Try.func67, Try.ntmps67
  go_upto_region 2 with (at_builtin; refine app_bytes_grow rfl _ _ rfl w.heap.size w.heap.size 4 [67, 65, 83, 49] rfl (Slc.below (slcB_mark w [67, 65, 83, 49] 4 _ _ _ _ rfl rfl (by omega) rfl) ((Below.refl _ _).alloc (Nat.le_refl _) _) (Nat.le_refl _)) _ 1 [(nm.size : Int)] rfl (slcB_lit _ [(nm.size : Int)] 1 _ _ rfl rfl (by omega) (by simp)) (by decide) 5 ([67, 65, 83, 49] ++ [(nm.size : Int)]) rfl rfl (by omega) (by simp; omega) ?_; intro g1 cap1 w1 ho1 hb1)
  have hb1' : Below w.heap.size w w1 := (((Below.refl _ _).alloc (Nat.le_refl _) _).alloc (by simp) _).trans hb1
  have hz1 := hb1'.size
  have HB1 := Lib.hid hb1'
  have HO1 := Lib.hid ho1
  have d0 := held_of hb1' x0 (Nat.le_refl _)
  clear dk x0 ho1 hb1 hb1' kc
  go_upto_region 3 with (at_builtin; refine app_bytes rfl _ _ rfl w.heap.size _ 5 ([67, 65, 83, 49] ++ [(nm.size : Int)]) rfl (owns_below HO1.out (bytesWorld_below _ _) (Nat.le_refl _)) _ (bytesOf nm) rfl (slc_bytesWorld _ _ (by omega)) (5 + nm.size) ([67, 65, 83, 49] ++ [(nm.size : Int)] ++ bytesOf nm) (by rw [HNL.out]) rfl (by omega) (by rw [Lib.bytesWorld_size]; omega) ?_; intro g2 cap2 w2 ho2 hb2 _)
  have hb2' : Below w.heap.size w1 w2 := ((bytesWorld_below _ _).mono hz1).trans hb2
  have hz2 := hb2'.size
  have HB2 := Lib.hid (HB1.out.trans hb2')
  have HO2 := Lib.hid ho2
  clear ks d0 ho2 hb2 hb2'
  have y1 := held_of HB2.out X1.out (Nat.le_refl _)
  have y2 := held_of HB2.out X2.out (Nat.le_refl _)
  have y3 := held_of HB2.out X3.out (Nat.le_refl _)
  have HKEEP := Lib.hid (show ∀ X, Below w.heap.size w X → (fun X => X.cell? ⟨bb, o + 1, none⟩ = some (.int .i64 lt) ∧ X.cell? ⟨bb, o + 2, none⟩ = some (.slice a1 cl.length c1) ∧ X.cell? ⟨bb, o + 3, none⟩ = some (.slice a2 pr.length c2)) X from fun X hb => ⟨held_of hb X1.out (Nat.le_refl _), held_of hb X2.out (Nat.le_refl _), held_of hb X3.out (Nat.le_refl _)⟩)
  have hb2x := HB2.out
  have hz12 : w.heap.size ≤ w2.heap.size := hb2x.size
  go_wp2_with fail
  go_region_held3 (fun X => X.cell? ⟨bb, o + 1, none⟩ = some (.int .i64 lt) ∧ X.cell? ⟨bb, o + 2, none⟩ = some (.slice a1 cl.length c1) ∧ X.cell? ⟨bb, o + 3, none⟩ = some (.slice a2 pr.length c2))
    (first | exact HKEEP.out _ hbn | exact HKEEP.out _ hb2x | exact HKEEP.out _ hb2x.drew | exact HKEEP.out _ (hb2x.alloc hz12 _).drew | exact HKEEP.out _ (hb2x.alloc hz12 _) | exact HKEEP.out _ (hb2x.drew.alloc hz12 _))
    (first
      | (refine step_app_bytes rfl (.tmp 22) (.tmp 42) (by rfl) w.heap.size _ (5 + nm.size) ([67, 65, 83, 49] ++ [(nm.size : Int)] ++ bytesOf nm) (by rfl) (by first | exact HO2.out.alloc _ | exact owns_drew (HO2.out.alloc _) | exact (owns_drew HO2.out).alloc _) _ 3 [by8 lt, by8 cl.length, by8 pr.length] (by rfl) (by first | exact slcB_lit _ [by8 lt, by8 cl.length, by8 pr.length] 3 _ _ rfl rfl (by omega) (by simp) | exact slc_drew (slcB_lit _ [by8 lt, by8 cl.length, by8 pr.length] 3 _ _ rfl rfl (by omega) (by simp))) (5 + nm.size + 3) HH rfl HHB.out (by omega) (by first | (simp; omega) | (simp at hz12 ⊢; omega)) ?_; intro g3 cap3 w3 ho3 hb3; have hbn : Below w.heap.size w w3 := Below.trans (by first | exact (hb2x.alloc hz12 _).drew | exact hb2x.alloc hz12 _ | exact hb2x.drew.alloc hz12 _) hb3)
      | fail)
  have HB3 := Lib.hid hbn
  have HO3 := Lib.hid ho3
  clear y1 y2 y3 hbn ho3 hb3 hb2x HKEEP
  have y2 := held_of HB3.out X2.out (Nat.le_refl _)
  have hz3 := HB3.out.size
  obtain ⟨m, hm⟩ : ∃ m, m = 5 + nm.size + 3 := ⟨_, rfl⟩
  have hm16 : m ≤ 16 := by omega
  have hm0 : 0 < m := by omega
  rw [← hm] at HO3 ⊢
  clear hm
  go_wp2_with fail
  refine (l07Clauses_any w.heap.size m g3 cap3 HH _ cl lt w3 HO3.out hm0 (by omega) hz3 (fun w' hb => HF.out.up (HB3.out.trans hb) (Nat.le_refl _)) (by omega) HC1.out).mono ?_
  rintro e w4 ⟨a4, m4, cap4, rfl, l4a, l4b, ho4, hb4⟩
  have HB4 := Lib.hid (HB3.out.trans hb4)
  have HO4 := Lib.hid ho4
  have hz4 := HB4.out.size
  clear y2 ho4 hb4
  have y3 := held_of HB4.out X3.out (Nat.le_refl _)
  go_wp2_with fail
  refine (l07Clauses_any w.heap.size m4 a4 cap4 (HH ++ clausesBytes cl) _ pr lt w4 HO4.out (by omega) (by omega) hz4 (fun w' hb => HR.out.up (HB4.out.trans hb) (Nat.le_refl _)) (by omega) HC2.out).mono ?_
  rintro e w5 ⟨a5, m5, cap5, rfl, l5a, l5b, ho5, hb5⟩
  rw [← HBB.out] at ho5
  have HB5 := Lib.hid (HB4.out.trans hb5)
  have HO5 := Lib.hid ho5
  have hz5 := HB5.out.size
  clear y3 ho5 hb5
  have hm50 : 0 < m5 := by omega
  have hcv := conv_bytes HO5.out hm50
  have HNB := Lib.hid (show BB.length = m5 by have := HO5.out.1; simpa using this)
  have hbd := chkL_bd BB 0 (by omega) (by omega)
  obtain ⟨ck, hck⟩ : ∃ ck, ck = chkL 0 BB := ⟨_, rfl⟩
  rw [← hck] at hbd HSB
  have HCK := Lib.hid hck
  clear hck
  go_wp2_with fail
  refine (specCheck_any 0 (strOfNums BB) w5 (by omega) (by omega) (by rw [strOfNums_size, HNB.out]; unfold maxLen; omega)).mono ?_
  rintro e w9 ⟨rfl, rfl⟩
  rw [bytes_back BB HBR.out, ← HCK.out]
  clear hcv
  rw [by8_eq, by8_eq, show ck / 256 % 256 = ck / 256 by omega] at HSB
  go_wp2_with (at_builtin; refine app_bytes rfl _ _ rfl w.heap.size _ m5 BB rfl (HO5.out.alloc _) _ [ck % 256, ck / 256] rfl (slcB_lit _ [ck % 256, ck / 256] 2 _ _ rfl rfl (by omega) rfl) (m5 + 2) (BB ++ [ck % 256, ck / 256]) rfl rfl (by omega) (by simp; omega) ?_; intro g9 cap9 w9 ho9 hb9 _; have hcv2 := conv_bytes ho9 (by omega))
  go_ret
  exact ⟨by rw [HSB.out]; rfl, HB5.out.trans (((Below.refl _ _).alloc (by omega) _).trans hb9)⟩

noncomputable def storeR (d : CaseD) : ByteArray := if caseB d = true then storeS d else ⟨#[]⟩

set_option maxHeartbeats 2000000 in
theorem implStore_any (v : Value) (d : CaseD) (w : World) (h : RdCs w v d) :
    Calls Try.prog 24 #[v] w fun e w' => e = .returned (.tuple #[.string (storeR d), .bool (caseB d)]) ∧ Below w.heap.size w w' := by
  obtain ⟨a1, c1, a2, c2, rfl⟩ := h.shape
  have HP := Lib.hid h
  clear h
  obtain ⟨q, hq⟩ : ∃ q, caseB d = q := ⟨_, rfl⟩
  have HQ := Lib.hid hq
  have HR := Lib.hid (show storeR d = if q = true then storeS d else ⟨#[]⟩ by unfold storeR; rw [hq])
  rw [hq]
  clear hq
  go_enter Try.func24, Try.ntmps24
  go_wp2_with fail
  refine Calls.at fun W hW => ?_
  have HB := Lib.hid (show Below w.heap.size w W by subst hW; (repeat' first | exact Below.refl _ _ | assumption | refine Below.alloc ?_ ?_ _ | refine Below.setCell ?_ ?_ _ | refine Below.drew ?_ | (simp; done) | (simp; omega)))
  have HK := Lib.hid (show Blk W w.heap.size 37 #[.string d.name, .int .i64 d.form.letters, .slice a1 d.form.clauses.length c1, .slice a2 d.proof.length c2] by subst hW; exact Blk.new _ _ _)
  clear hW
  refine (implValidCase_any _ d W (HP.out.up HB.out (Nat.le_refl _))).mono ?_
  rintro e w1 ⟨rfl, hb1⟩
  rw [HQ.out]
  have HB1 := Lib.hid (HB.out.trans (hb1.mono HB.out.size))
  have HK1 := Lib.hid (HK.out.below hb1 HK.out.lt)
  clear hb1
  cases q
  · go_wp2_with fail
    go_ret2
    exact ⟨by rw [HR.out]; rfl, HB1.out⟩
  · have d0 : w1.cell? ⟨w.heap.size, 0, none⟩ = some (.string d.name) := HK1.out.cell 0 rfl
    have d1 : w1.cell? ⟨w.heap.size, 1, none⟩ = some (.int .i64 d.form.letters) := HK1.out.cell 1 rfl
    have d2 : w1.cell? ⟨w.heap.size, 2, none⟩ = some (.slice a1 d.form.clauses.length c1) := HK1.out.cell 2 rfl
    have d3 : w1.cell? ⟨w.heap.size, 3, none⟩ = some (.slice a2 d.proof.length c2) := HK1.out.cell 3 rfl
    go_wp2_with fail
    refine (storeCase_any _ d w1 (HP.out.up HB1.out (Nat.le_refl _)) HQ.out).mono ?_
    rintro e w2 ⟨rfl, hb2⟩
    go_wp2_with fail
    go_ret2
    exact ⟨by rw [HR.out]; rfl, HB1.out.trans (hb2.mono HB1.out.size)⟩

set_option maxHeartbeats 2000000 in
theorem specStore_any (v : Value) (d : CaseD) (w : World) (h : RdCs w v d) :
    Calls Try.prog 29 #[v] w fun e w' => e = .returned (.tuple #[.string (storeR d), .bool (caseB d)]) ∧ Below w.heap.size w w' := by
  obtain ⟨a1, c1, a2, c2, rfl⟩ := h.shape
  have HP := Lib.hid h
  clear h
  obtain ⟨q, hq⟩ : ∃ q, caseB d = q := ⟨_, rfl⟩
  have HQ := Lib.hid hq
  have HR := Lib.hid (show storeR d = if q = true then storeS d else ⟨#[]⟩ by unfold storeR; rw [hq])
  rw [hq]
  clear hq
  go_enter Try.func29, Try.ntmps29
  go_wp2_with fail
  refine Calls.at fun W hW => ?_
  have HB := Lib.hid (show Below w.heap.size w W by subst hW; (repeat' first | exact Below.refl _ _ | assumption | refine Below.alloc ?_ ?_ _ | refine Below.setCell ?_ ?_ _ | refine Below.drew ?_ | (simp; done) | (simp; omega)))
  have HK := Lib.hid (show Blk W w.heap.size 37 #[.string d.name, .int .i64 d.form.letters, .slice a1 d.form.clauses.length c1, .slice a2 d.proof.length c2] by subst hW; exact Blk.new _ _ _)
  clear hW
  refine (specCase_any w.heap.size 0 d a1 a2 c1 c2 W (HK.out.cell 0 rfl) (HK.out.cell 1 rfl) (HK.out.cell 2 rfl) (HK.out.cell 3 rfl) (HP.out.up HB.out (Nat.le_refl _))).mono ?_
  rintro e w1 ⟨rfl, hb1⟩
  rw [HQ.out]
  have HB1 := Lib.hid (HB.out.trans (hb1.mono HB.out.size))
  have HK1 := Lib.hid (HK.out.below hb1 HK.out.lt)
  clear hb1
  cases q
  · go_wp2_with fail
    go_ret2
    exact ⟨by rw [HR.out]; rfl, HB1.out⟩
  · go_wp2_with fail
    refine (l07Store_any w.heap.size 0 d a1 a2 c1 c2 w1 (HK1.out.cell 0 rfl) (HK1.out.cell 1 rfl) (HK1.out.cell 2 rfl) (HK1.out.cell 3 rfl) (HP.out.up HB1.out (Nat.le_refl _)) HQ.out).mono ?_
    rintro e w2 ⟨rfl, hb2⟩
    go_wp2_with fail
    go_ret2
    exact ⟨by rw [HR.out]; rfl, HB1.out.trans (hb2.mono HB1.out.size)⟩

end Go.Proofs.Ytljhohacgceojaa

namespace Go.Proofs.Ytljhohacgceojaa
open Go.RowKit

noncomputable def storesF (ds : List CaseD) : ByteArray := (ds.map storeS).foldl (· ++ ·) ⟨#[]⟩
theorem storesF_snoc (ds : List CaseD) (k : Nat) (h : k < ds.length) : storesF (ds.take (k + 1)) = storesF (ds.take k) ++ storeS (ds.getD k ICL) := by
  unfold storesF
  rw [List.take_succ_eq_append_getElem h, List.map_append, List.foldl_append]
  simp [h]
noncomputable def storesB (ds : List CaseD) : Bool := decide (ds.length ≤ 8) && allB ds.length (fun i => caseB (ds.getD i ICL))
noncomputable def storesR (ds : List CaseD) : ByteArray := if storesB ds = true then storesF ds else ⟨#[]⟩
theorem storeS_size {d : CaseD} (h : caseB d = true) : (storeS d).size ≤ 2002 := by
  unfold storeS
  rw [strOfNums_size]
  have := body_len h
  unfold storeBytes
  simp only [List.length_append, List.length_cons, List.length_nil]
  omega

set_option maxHeartbeats 2000000 in
set_option maxRecDepth 4000 in
theorem specStores_any (v : Value) (ds : List CaseD) (w : World) (h : RdCL w v ds) :
    Calls Try.prog 30 #[v] w fun e w' => e = .returned (.tuple #[.string (storesR ds), .bool (storesB ds)]) ∧ Below w.heap.size w w' := by
  obtain ⟨a, c, rfl⟩ := h.shape
  have HS := Lib.hid h
  have hm := h.len
  simp only [maxLen] at hm
  clear h
  by_cases h8 : ds.length ≤ 8
  case neg =>
    have HN := Lib.hid (show storesB ds = false by unfold storesB; rw [decide_eq_false h8]; rfl)
    go_enter Try.func30, Try.ntmps30
    go_wp2_with fail
    go_ret2
    exact ⟨by unfold storesR; rw [HN.out]; rfl, Below.refl _ _⟩
  have H8 := Lib.hid (show storesB ds = allB ds.length (fun i => caseB (ds.getD i ICL)) by unfold storesB; rw [decide_eq_true h8]; rfl)
  go_enter Try.func30, Try.ntmps30
  go_wp2_with fail
  go_loopw [4, 11] (fun o i wr => ∃ (k : Nat) (A : ByteArray), i = .int .i64 k ∧ k ≤ ds.length ∧ o = .string A ∧ A.size ≤ 2002 * k ∧ Hid (A = storesF (ds.take k)) ∧ Hid (∀ j, j < k → caseB (ds.getD j ICL) = true) ∧ Hid (Below w.heap.size w wr)) (fun _ i _ => ds.length - (intOf i).toNat)
  case atStart => exact ⟨0, ⟨#[]⟩, rfl, Nat.zero_le _, rfl, Nat.zero_le _, rfl, fun j hj => by omega, Below.refl _ _⟩
  case round =>
    obtain ⟨k, A, rfl, hk, rfl, hA, HA, HALL, HB⟩ := hrel
    by_cases hlt : k < ds.length
    · obtain ⟨b, off, b1, b2, rfl, hb0, x0, x1, x2, x3, hu⟩ := (HS.out.up HB.out (Nat.le_refl _)).at hlt
      have HSN := Lib.hid (storesF_snoc ds k hlt)
      have HNO := Lib.hid (show caseB (ds.getD k ICL) = false → storesB ds = false from fun h => by rw [H8.out, allB_false hlt h])
      obtain ⟨d, hd⟩ : ∃ d, d = ds.getD k ICL := ⟨_, rfl⟩
      rw [← hd] at x0 x1 hu HSN HNO
      have HD := Lib.hid hd
      clear hd
      obtain ⟨p1, q1, p2, q2, e⟩ := hu.shape
      simp only [Value.agg.injEq, Array.mk.injEq, List.cons.injEq, and_true, true_and] at e
      obtain ⟨rfl, rfl⟩ := e
      have HU := Lib.hid hu
      have X0 := Lib.hid x0
      have X1 := Lib.hid x1
      have X2 := Lib.hid x2
      have X3 := Lib.hid x3
      have hltI : (k : Int) < (ds.length : Int) := by omega
      obtain ⟨q, hq⟩ : ∃ q, caseB d = q := ⟨_, rfl⟩
      have HQ := Lib.hid hq
      clear hu hq x0 x1 x2 x3
      go_wp2_with fail
      refine (specCase_any b (off + k * 4) d p1 p2 q1 q2 wr X0.out X1.out X2.out X3.out HU.out).mono ?_
      rintro e w1 ⟨rfl, hb1⟩
      rw [HQ.out]
      have HB1 := Lib.hid (HB.out.trans (hb1.mono HB.out.size))
      have hb1' := Lib.hid hb1
      clear hb1
      cases q
      · have HN := Lib.hid (HNO.out HQ.out)
        go_wp2_with fail
        go_ret2
        exact ⟨by unfold storesR; rw [HN.out]; rfl, HB1.out⟩
      have hsz := storeS_size HQ.out
      have hadd := fun (W : World) => run_string_add_sum (P := Try.prog) (w := W) A (storeS d) (by omega)
      go_wp2_with fail
      refine (l07Store_any b (off + k * 4) d p1 p2 q1 q2 w1 (held_of hb1'.out X0.out (Nat.le_refl _)) (held_of hb1'.out X1.out (Nat.le_refl _)) (held_of hb1'.out X2.out (Nat.le_refl _)) (held_of hb1'.out X3.out (Nat.le_refl _)) (HU.out.up hb1'.out (Nat.le_refl _)) HQ.out).mono ?_
      rintro e w2 ⟨rfl, hb2⟩
      have HB2 := Lib.hid (HB1.out.trans (hb2.mono HB1.out.size))
      clear hb2
      have hap : (A ++ storeS d).size = A.size + (storeS d).size := ByteArray.size_append
      go_wp2_with fail
      go_roundw
      case rel =>
        refine ⟨k + 1, A ++ storeS d, by go_num, by omega, rfl, by omega, Lib.hid (by rw [HSN.out, ← HA.out]), fun j hj => ?_, HB2⟩
        by_cases hjk : j < k
        · exact HALL.out j hjk
        · obtain rfl : j = k := by omega
          rw [← HD.out]; exact HQ.out
      case measure => simp [intOf]; omega
    · obtain rfl : k = ds.length := by omega
      have HN := Lib.hid (show storesB ds = true by rw [H8.out, allB_true HALL.out])
      have HR := Lib.hid (show storesR ds = A by unfold storesR; rw [HN.out, if_pos rfl, HA.out, List.take_length])
      go_wp2_with fail
      go_ret2
      exact ⟨by rw [HN.out, HR.out]; rfl, HB.out⟩

set_option maxHeartbeats 2000000 in
set_option maxRecDepth 4000 in
theorem implStores_any (v : Value) (ds : List CaseD) (w : World) (h : RdCL w v ds) :
    Calls Try.prog 26 #[v] w fun e w' => e = .returned (.tuple #[.string (storesR ds), .bool (storesB ds)]) ∧ Below w.heap.size w w' := by
  obtain ⟨a, c, rfl⟩ := h.shape
  have HS := Lib.hid h
  have hm := h.len
  simp only [maxLen] at hm
  clear h
  by_cases h8 : ds.length ≤ 8
  case neg =>
    have HN := Lib.hid (show storesB ds = false by unfold storesB; rw [decide_eq_false h8]; rfl)
    go_enter Try.func26, Try.ntmps26
    go_wp2_with fail
    go_ret2
    exact ⟨by unfold storesR; rw [HN.out]; rfl, Below.refl _ _⟩
  have H8 := Lib.hid (show storesB ds = allB ds.length (fun i => caseB (ds.getD i ICL)) by unfold storesB; rw [decide_eq_true h8]; rfl)
  go_enter Try.func26, Try.ntmps26
  go_wp2_with fail
  go_loopw [4, 12] (fun o i wr => ∃ (k : Nat) (A : ByteArray), i = .int .i64 k ∧ k ≤ ds.length ∧ o = .string A ∧ A.size ≤ 2002 * k ∧ Hid (A = storesF (ds.take k)) ∧ Hid (∀ j, j < k → caseB (ds.getD j ICL) = true) ∧ Hid (Below w.heap.size w wr)) (fun _ i _ => ds.length - (intOf i).toNat)
  case atStart => exact ⟨0, ⟨#[]⟩, rfl, Nat.zero_le _, rfl, Nat.zero_le _, rfl, fun j hj => by omega, Below.refl _ _⟩
  case round =>
    obtain ⟨k, A, rfl, hk, rfl, hA, HA, HALL, HB⟩ := hrel
    by_cases hlt : k < ds.length
    · obtain ⟨b, off, b1, b2, rfl, hb0, x0, x1, x2, x3, hu⟩ := (HS.out.up HB.out (Nat.le_refl _)).at hlt
      have HSN := Lib.hid (storesF_snoc ds k hlt)
      have HNO := Lib.hid (show caseB (ds.getD k ICL) = false → storesB ds = false from fun h => by rw [H8.out, allB_false hlt h])
      obtain ⟨d, hd⟩ : ∃ d, d = ds.getD k ICL := ⟨_, rfl⟩
      rw [← hd] at x0 x1 hu HSN HNO
      have HD := Lib.hid hd
      clear hd
      obtain ⟨p1, q1, p2, q2, e⟩ := hu.shape
      simp only [Value.agg.injEq, Array.mk.injEq, List.cons.injEq, and_true, true_and] at e
      obtain ⟨rfl, rfl⟩ := e
      have HU := Lib.hid hu
      have hltI : (k : Int) < (ds.length : Int) := by omega
      have hz := HB.out.size
      obtain ⟨q, hq⟩ : ∃ q, caseB d = q := ⟨_, rfl⟩
      have HQ := Lib.hid hq
      clear hu hq
      go_wp2_with fail
      refine Calls.at fun W hW => ?_
      have hbw := Lib.hid (show Below wr.heap.size wr W by subst hW; (repeat' first | exact Below.refl _ _ | assumption | refine Below.alloc ?_ ?_ _ | refine Below.setCell ?_ ?_ _ | refine Below.drew ?_ | (simp; done) | (simp; omega)))
      have HK := Lib.hid (show Blk W wr.heap.size 37 #[.string d.name, .int .i64 d.form.letters, .slice p1 d.form.clauses.length q1, .slice p2 d.proof.length q2] by subst hW; first | exact Blk.new _ _ _ | simpa using ((((Blk.new wr 37 #[.string ⟨#[]⟩, .int .i64 0, .slice none 0 0, .slice none 0 0]).set 0 (.string d.name)).set 1 (.int .i64 d.form.letters)).set 2 (.slice p1 d.form.clauses.length q1)).set 3 (.slice p2 d.proof.length q2))
      clear hW x0 x1 x2 x3
      have HBW := Lib.hid (HB.out.trans (hbw.out.mono hz))
      refine (implValidCase_any _ d W (HU.out.up hbw.out (Nat.le_refl _))).mono ?_
      rintro e w1 ⟨rfl, hb1⟩
      rw [HQ.out]
      have HB1 := Lib.hid (HBW.out.trans (hb1.mono HBW.out.size))
      have HK1 := Lib.hid (HK.out.below hb1 HK.out.lt)
      have HU1 := Lib.hid ((HU.out.up hbw.out (Nat.le_refl _)).up hb1 (Nat.le_refl _))
      clear hb1
      cases q
      · have HN := Lib.hid (HNO.out HQ.out)
        go_wp2_with fail
        go_ret2
        exact ⟨by unfold storesR; rw [HN.out]; rfl, HB1.out⟩
      have hsz := storeS_size HQ.out
      have hadd := fun (W : World) => run_string_add_sum (P := Try.prog) (w := W) A (storeS d) (by omega)
      have d0 : w1.cell? ⟨wr.heap.size, 0, none⟩ = some (.string d.name) := HK1.out.cell 0 rfl
      have d1 : w1.cell? ⟨wr.heap.size, 1, none⟩ = some (.int .i64 d.form.letters) := HK1.out.cell 1 rfl
      have d2 : w1.cell? ⟨wr.heap.size, 2, none⟩ = some (.slice p1 d.form.clauses.length q1) := HK1.out.cell 2 rfl
      have d3 : w1.cell? ⟨wr.heap.size, 3, none⟩ = some (.slice p2 d.proof.length q2) := HK1.out.cell 3 rfl
      go_wp2_with fail
      refine (storeCase_any _ d w1 HU1.out HQ.out).mono ?_
      rintro e w2 ⟨rfl, hb2⟩
      have HB2 := Lib.hid (HB1.out.trans (hb2.mono HB1.out.size))
      clear hb2 d0 d1 d2 d3
      have hap : (A ++ storeS d).size = A.size + (storeS d).size := ByteArray.size_append
      go_wp2_with fail
      go_roundw
      case rel =>
        refine ⟨k + 1, A ++ storeS d, by go_num, by omega, rfl, by omega, Lib.hid (by rw [HSN.out, ← HA.out]), fun j hj => ?_, HB2⟩
        by_cases hjk : j < k
        · exact HALL.out j hjk
        · obtain rfl : j = k := by omega
          rw [← HD.out]; exact HQ.out
      case measure => simp [intOf]; omega
    · obtain rfl : k = ds.length := by omega
      have HN := Lib.hid (show storesB ds = true by rw [H8.out, allB_true HALL.out])
      have HR := Lib.hid (show storesR ds = A by unfold storesR; rw [HN.out, if_pos rfl, HA.out, List.take_length])
      go_wp2_with fail
      go_ret2
      exact ⟨by rw [HN.out, HR.out]; rfl, HB.out⟩

end Go.Proofs.Ytljhohacgceojaa

namespace Go.Proofs.Ytljhohacgceojaa
open Go.RowKit

set_option maxHeartbeats 4000000 in
set_option maxRecDepth 100000 in
theorem lawStoreCases_any (w : World) (v0 : Value) (z0 : List CaseD) (r0 : RdCL w v0 z0) :
    Calls Try.prog 7 #[v0] w fun e w' => e = .returned (.bool true) ∧ Below w.heap.size w w' := by
  obtain ⟨x0, c0, rfl⟩ := r0.shape
  have l0_0 : z0.length ≤ 9223372036854775807 := by have := RdCL.len r0; unfold maxLen at this; omega
  have RP0 := Lib.hid r0
  clear r0
  have B : Hid (Below w.heap.size w w) := Below.refl _ _
  go_enter Try.func7, Try.ntmps7
  go_upto_region 2 with fail
  go_wp2_with fail
  refine (szCL_any _ z0 _ _ (RP0.out.up B.out (Nat.le_refl _)) (by decide) (by decide)).mono ?_
  rintro e w1 ⟨s0, rfl, sa0, sb0, sc0, hb⟩
  replace B := Lib.hid (B.out.trans (hb.mono B.out.size))
  have zw1 : w.heap.size ≤ w1.heap.size := hb.size
  clear hb
  by_cases hn0 : s0 < 0
  · go_wp2_with fail
    go_ret
    exact ⟨rfl, B.out⟩
  have hs0 : bulkCL z0 ≤ 1048576 := by have := sc0 (by omega); omega
  clear sa0 sb0 sc0
  have ne1 : ((storesB z0) != (storesB z0)) = false := by simp
  go_upto_region 5 with fail
  go_wp2_with fail
  refine (toCL_any _ z0 _ (RP0.out.up B.out (Nat.le_refl _)) hs0).mono ?_
  rintro e w2 ⟨vc0, rfl, c0, hb⟩
  replace c0 := Lib.hid c0
  replace B := Lib.hid (B.out.trans (hb.mono B.out.size))
  have zw2 : w1.heap.size ≤ w2.heap.size := hb.size
  clear hb
  go_wp2_with fail
  refine (specStores_any _ z0 _ c0.out.rd).mono ?_
  rintro e w3 ⟨rfl, hb⟩
  replace B := Lib.hid (B.out.trans (hb.mono B.out.size))
  replace c0 := Lib.hid (c0.out.up hb (Nat.le_refl _))
  have zw3 : w2.heap.size ≤ w3.heap.size := hb.size
  clear hb
  clear c0
  go_upto_region 6 with fail
  go_wp2_with fail
  refine (toCL_any _ z0 _ (RP0.out.up B.out (Nat.le_refl _)) hs0).mono ?_
  rintro e w4 ⟨vcp0, rfl, cp0, hb⟩
  replace cp0 := Lib.hid cp0
  replace B := Lib.hid (B.out.trans (hb.mono B.out.size))
  have zw4 : w3.heap.size ≤ w4.heap.size := hb.size
  clear hb
  go_upto_region 7 with fail
  go_wp2_with fail
  refine (implStores_any _ z0 _ cp0.out.rd).mono ?_
  rintro e w5 ⟨rfl, hb⟩
  replace B := Lib.hid (B.out.trans (hb.mono B.out.size))
  replace cp0 := Lib.hid (cp0.out.up hb (Nat.le_refl _))
  have zw5 : w4.heap.size ≤ w5.heap.size := hb.size
  clear hb
  go_upto_region 10 with fail
  go_wp2_with fail
  refine (toCL_any _ z0 _ (RP0.out.up B.out (Nat.le_refl _)) hs0).mono ?_
  rintro e w6 ⟨vc0, rfl, c0, hb⟩
  replace c0 := Lib.hid c0
  replace B := Lib.hid (B.out.trans (hb.mono B.out.size))
  replace cp0 := Lib.hid (cp0.out.up hb (Nat.le_refl _))
  have zw6 : w5.heap.size ≤ w6.heap.size := hb.size
  clear hb
  go_wp2_with fail
  refine (eqCL_same _ _ z0 _ cp0.out.rd c0.out.rd).mono ?_
  rintro e w7 ⟨rfl, hb⟩
  replace B := Lib.hid (B.out.trans (hb.mono B.out.size))
  replace cp0 := Lib.hid (cp0.out.up hb (Nat.le_refl _))
  replace c0 := Lib.hid (c0.out.up hb (Nat.le_refl _))
  have zw7 : w6.heap.size ≤ w7.heap.size := hb.size
  clear hb
  clear c0
  go_wp2_with fail
  go_ret
  exact ⟨rfl, B.out⟩

end Go.Proofs.Ytljhohacgceojaa
