/-
  FnCases: texts joined: StoreI, Step, ClauseS.
-/
import Derived.Deep.RegionHeld3
import Derived.Deep.Cut
import Derived.Deep.CutRange
import Derived.Test.YtkkcgclliomocaaMFnCasesAA
import Derived.Test.YtkkcgclliomocaaMFnCasesAD
import Derived.Test.YtkkcgclliomocaaMFnCasesAE
namespace Go.Proofs.Ytkkcgclliomocaa
open Go.RowKit

set_option maxHeartbeats 4000000 in
set_option maxRecDepth 8000 in
theorem storeCase_any (v : Value) (d : CaseD) (w : World) (h : RdCs w v d) (hq : caseB d = true) :
    Calls Try.prog 53 #[v] w fun e w' => e = .returned (.string (storeS d)) ∧ Below w.heap.size w w' := by
  obtain ⟨a1, c1, a2, c2, rfl⟩ := h.shape
  obtain ⟨p1, p2, p3⟩ := h.parts
  have hpf := p1.parts
  obtain ⟨s1, s2, s3, s4, s5⟩ := case_parts hq
  have HLB := Lib.hid (body_len hq)
  have HCL := Lib.hid (fun x hx => clause_len (s4 x hx))
  obtain ⟨nm, ⟨lt, cl⟩, pr⟩ := d
  simp only at p1 p2 p3 hpf s1 s2 s3 s5 HCL ⊢
  have hlt := inB_iff.1 s5
  have HF := Lib.hid hpf
  have HR := Lib.hid p2
  have HHB := Lib.hid (show headBytes ⟨nm, ⟨lt, cl⟩, pr⟩ = [67, 65, 83, 49] ++ [(nm.size : Int)] ++ bytesOf nm ++ [lt, (cl.length : Int), (pr.length : Int)] by
    unfold headBytes
    rw [by8_eq, by8_eq, by8_eq, by8_eq, show ((nm.size : Int) % 256) = nm.size by omega, show lt % 256 = lt by omega, show ((cl.length : Int) % 256) = cl.length by omega, show ((pr.length : Int) % 256) = pr.length by omega])
  have HBB := Lib.hid (show bodyBytes ⟨nm, ⟨lt, cl⟩, pr⟩ = headBytes ⟨nm, ⟨lt, cl⟩, pr⟩ ++ clausesBytes (cl ++ pr) from rfl)
  have HSB := Lib.hid (show storeS ⟨nm, ⟨lt, cl⟩, pr⟩ = strOfNums (bodyBytes ⟨nm, ⟨lt, cl⟩, pr⟩ ++ [by8 (chkL 0 (bodyBytes ⟨nm, ⟨lt, cl⟩, pr⟩)), by8 (chkL 0 (bodyBytes ⟨nm, ⟨lt, cl⟩, pr⟩) / 256)]) from rfl)
  obtain ⟨BB, hBB⟩ : ∃ B, B = bodyBytes ⟨nm, ⟨lt, cl⟩, pr⟩ := ⟨_, rfl⟩
  obtain ⟨HH, hHH⟩ : ∃ B, B = headBytes ⟨nm, ⟨lt, cl⟩, pr⟩ := ⟨_, rfl⟩
  rw [← hBB] at HBB HSB HLB
  have HBR := Lib.hid (show AllB BB by rw [hBB]; exact body_rng _)
  rw [← hHH] at HHB HBB
  clear hBB hHH h hq p1 p2 p3 hpf s4 s5
  have HNL := Lib.hid (bytesOf_len nm)
  have kc := fun (w : World) (C : Array Value) (n c : Nat) => Lib.run_convert_bytes_const (P := Try.prog) w 22 5 C n c Try.underlying22 Try.underlying5
  go_enter Try.func53, Try.ntmps53
  go_upto_region 1 with fail
  refine wp_at fun W hW => ?_
  have HB := Lib.hid (show Below w.heap.size w W by subst hW; (repeat' first | exact Below.refl _ _ | assumption | refine Below.alloc ?_ ?_ _ | refine Below.setCell ?_ ?_ _ | refine Below.drew ?_ | (simp; done) | (simp; omega)))
  have HK := Lib.hid (show Blk W w.heap.size 33 #[.string nm, .int .i64 lt, .slice a1 cl.length c1, .slice a2 pr.length c2] by subst hW; exact Blk.new _ _ _)
  have d0 : W.cell? ⟨w.heap.size, 0, none⟩ = some (.string nm) := HK.out.cell 0 rfl
  have dk : ∀ o : Obj, (W.alloc o).cell? ⟨w.heap.size, 0, none⟩ = some (.string nm) := fun o => Lib.cell?_alloc_marked o d0
  have hz := HB.out.size
  have hkl := HK.out.lt
  clear hW
  go_upto_region 2 with (at_builtin; refine app_bytes_grow rfl _ _ rfl W.heap.size W.heap.size 4 [67, 65, 83, 49] rfl (Slc.below (slcB_mark W [67, 65, 83, 49] 4 _ _ _ _ rfl rfl (by omega) rfl) ((Below.refl _ _).alloc (Nat.le_refl _) _) (Nat.le_refl _)) _ 1 [(nm.size : Int)] rfl (slcB_lit _ [(nm.size : Int)] 1 _ _ rfl rfl (by omega) (by simp)) (by decide) 5 ([67, 65, 83, 49] ++ [(nm.size : Int)]) rfl rfl (by omega) (by simp; omega) ?_; intro g1 cap1 w1 ho1 hb1)
  have hb1' : Below W.heap.size W w1 := (((Below.refl _ _).alloc (Nat.le_refl _) _).alloc (by simp) _).trans hb1
  have hz1 := hb1'.size
  have hb1w : Below W.heap.size W w1 := hb1'
  have HB1 := Lib.hid (HB.out.trans (hb1'.mono hz))
  have HK1 := Lib.hid (HK.out.below hb1' HK.out.lt)
  have HO1 := Lib.hid ho1
  clear d0 dk ho1 hb1 hb1' HK
  have d0 : w1.cell? ⟨w.heap.size, 0, none⟩ = some (.string nm) := HK1.out.cell 0 rfl
  go_upto_region 3 with (at_builtin; refine app_strB rfl _ _ rfl W.heap.size _ 5 ([67, 65, 83, 49] ++ [(nm.size : Int)]) rfl HO1.out nm rfl (5 + nm.size) ([67, 65, 83, 49] ++ [(nm.size : Int)] ++ bytesOf nm) rfl rfl (by omega) hz1 ?_; intro g2 cap2 w2 ho2 hb2 _)
  have hz2 := hb2.size
  have HB2 := Lib.hid (HB1.out.trans (hb2.mono (by omega)))
  have HK2 := Lib.hid (HK1.out.below hb2 (by omega))
  have HO2 := Lib.hid ho2
  have hb2w := hb1w.trans hb2
  clear d0 ho2 hb2 HK1 HO1 hb1w
  have d1 : w2.cell? ⟨w.heap.size, 1, none⟩ = some (.int .i64 lt) := HK2.out.cell 1 rfl
  have d2 : w2.cell? ⟨w.heap.size, 2, none⟩ = some (.slice a1 cl.length c1) := HK2.out.cell 2 rfl
  have d3 : w2.cell? ⟨w.heap.size, 3, none⟩ = some (.slice a2 pr.length c2) := HK2.out.cell 3 rfl
  go_upto_region 4 with (at_builtin; refine app_bytes rfl _ _ rfl W.heap.size _ (5 + nm.size) ([67, 65, 83, 49] ++ [(nm.size : Int)] ++ bytesOf nm) rfl (HO2.out.alloc _) _ [lt, (cl.length : Int), (pr.length : Int)] rfl (slcB_lit _ [lt, (cl.length : Int), (pr.length : Int)] 3 _ _ rfl rfl (by omega) (by simp)) (5 + nm.size + 3) HH rfl HHB.out (by omega) (by simp; omega) ?_; intro g3 cap3 w3 ho3 hb3 _)
  have hb3' : Below W.heap.size w2 w3 := ((Below.refl _ _).alloc (by omega) _).trans hb3
  have hz3 := hb3'.size
  have HB3 := Lib.hid (HB2.out.trans (hb3'.mono hz))
  have HBW3 := Lib.hid (hb2w.trans hb3')
  have HK3 := Lib.hid (HK2.out.below hb3' (by omega))
  have HO3 := Lib.hid ho3
  clear d1 d2 d3 ho3 hb3 hb3' HK2 HO2 hb2w
  have d2 : w3.cell? ⟨w.heap.size, 2, none⟩ = some (.slice a1 cl.length c1) := HK3.out.cell 2 rfl
  have d3 : w3.cell? ⟨w.heap.size, 3, none⟩ = some (.slice a2 pr.length c2) := HK3.out.cell 3 rfl
  go_wp2_with fail
  refine Calls.at fun W4 hW4 => ?_
  have hb4 : Below w3.heap.size w3 W4 := by subst hW4; exact (Below.refl _ _).alloc (Nat.le_refl _) _
  have k1 : W4.cell? ⟨w3.heap.size, 0, none⟩ = some (.slice a1 cl.length c1) := by subst hW4; exact (Blk.new w3 29 #[.slice a1 cl.length c1, .slice a2 pr.length c2]).cell 0 rfl
  have k2 : W4.cell? ⟨w3.heap.size, 1, none⟩ = some (.slice a2 pr.length c2) := by subst hW4; exact (Blk.new w3 29 #[.slice a1 cl.length c1, .slice a2 pr.length c2]).cell 1 rfl
  clear hW4
  have hz4 := hb4.size
  have HB4 := Lib.hid (HB3.out.trans (hb4.mono (by omega)))
  have HO4 := Lib.hid (owns_below HO3.out hb4 (Nat.le_refl _))
  have HBW4 := Lib.hid (HBW3.out.trans (hb4.mono (by omega)))
  clear d2 d3 hb4
  obtain ⟨vs1, sl1, ea1⟩ := HF.out
  obtain ⟨vs2, sl2, ea2⟩ := HR.out
  have EA := Lib.hid (show Each w (vs1 ++ vs2) (cl ++ pr) from ⟨by rw [List.length_append, List.length_append, ea1.1, ea2.1], fun i u zs hu hzs => by
    by_cases hi2 : i < cl.length
    · rw [List.getElem?_append_left (by rw [ea1.1]; exact hi2)] at hu
      rw [List.getElem?_append_left hi2] at hzs
      exact ea1.2 i u zs hu hzs
    · rw [List.getElem?_append_right (by rw [ea1.1]; omega), ea1.1] at hu
      rw [List.getElem?_append_right (by omega)] at hzs
      exact ea2.2 _ u zs hu hzs⟩)
  have one : ∀ (vs : List Value) (zs : List (List Int)), Each w vs zs → ∀ u ∈ vs, u.oneCell' = true := fun vs zs he u hu => by
    obtain ⟨j, hj⟩ := List.mem_iff_getElem?.1 hu
    obtain ⟨x, hx⟩ : ∃ x, zs[j]? = some x := ⟨_, List.getElem?_eq_getElem (by have := (List.getElem?_eq_some_iff.1 hj).1; have := he.1; omega)⟩
    obtain ⟨_, _, e⟩ := (he.2 j u x hj hx).shape
    subst e; rfl
  have o1 := one _ _ ea1
  have o2 := one _ _ ea2
  have l1 := ea1.1
  have l2 := ea2.1
  clear one ea1 ea2
  refine (concatLL_any w3.heap.size a1 c1 cl.length a2 c2 pr.length vs1 vs2 W4 (sl1.below HB4.out (Nat.le_refl _)) (sl2.below HB4.out (Nat.le_refl _)) o1 o2 l1 l2 k1 k2 (by omega)).mono ?_
  rintro e w5 ⟨a5, c5, rfl, hr5, hb5⟩
  clear k1 k2 sl1 sl2 o1 o2 l1 l2
  have HB5 := Lib.hid (HB4.out.trans (hb5.mono (by omega)))
  have HO5 := Lib.hid (owns_below HO4.out hb5 (Nat.le_refl _))
  have hz5 := hb5.size
  have HBW := Lib.hid (HBW4.out.trans (hb5.mono (by omega)))
  have hzw := HB5.out.size
  have HLL := Lib.hid (show (cl ++ pr).length = cl.length + pr.length from List.length_append)
  obtain ⟨N, hN⟩ : ∃ N, N = cl.length + pr.length := ⟨_, rfl⟩
  rw [← hN] at hr5 HLL ⊢
  have hln : N ≤ 176 := by omega
  have HR5 := Lib.hid hr5
  obtain ⟨L, hL⟩ : ∃ L, L = cl ++ pr := ⟨_, rfl⟩
  rw [← hL] at HBB HCL EA HLL
  obtain ⟨vs, hvs⟩ : ∃ vs, vs = vs1 ++ vs2 := ⟨_, rfl⟩
  rw [← hvs] at HR5 EA
  clear hr5 hb5 hL hvs HHB hN
  obtain ⟨m, hm⟩ : ∃ m, m = 5 + nm.size + 3 := ⟨_, rfl⟩
  have hm16 : m ≤ 16 := by omega
  have hm0 : 0 < m := by omega
  rw [← hm] at HO5 ⊢
  clear hm
  go_wp2_with fail
  go_loopw [3, 46] (fun o i wr => ∃ (k n : Nat) (a : Option Addr) (cap : Nat), i = .int .i64 k ∧ k ≤ N ∧ o = .slice a n cap ∧ n ≤ 16 + 11 * k ∧ 0 < n ∧ Hid (wr.ownsRow W.heap.size 5 1 (.slice a n cap) n ((HH ++ clausesBytes (L.take k)).map B8)) ∧ Hid (wr.ownsRow W4.heap.size 65 1 (.slice a5 N c5) N vs) ∧ Hid (Below W.heap.size W wr)) (fun _ i _ => N - (intOf i).toNat)
  case atStart => exact ⟨0, m, g3, cap3, rfl, Nat.zero_le _, rfl, by omega, by omega, by rw [show clausesBytes (L.take 0) = [] from rfl, List.append_nil]; exact HO5, HR5, HBW⟩
  case round =>
    obtain ⟨k, n, a, cap, rfl, hk, rfl, hn, hn0, HO, HL, HBr⟩ := hrel
    have hzr := HBr.out.size
    by_cases hlt2 : k < N
    · obtain ⟨g5, rfl, hg5⟩ : ∃ g, a5 = some ⟨g, 0, none⟩ ∧ True := by obtain ⟨g, e, _⟩ := ownsK_some HL.out (by omega); exact ⟨g, e, trivial⟩
      have hkl2 : k < L.length := by rw [HLL.out]; exact hlt2
      have HSN := Lib.hid (clausesBytes_snoc L k hkl2)
      have hcl := HCL.out (L.getD k []) (by rw [show L.getD k [] = L[k] by simp [hkl2]]; exact List.getElem_mem hkl2)
      obtain ⟨u, hu⟩ : ∃ u, vs[k]? = some u := ⟨_, List.getElem?_eq_getElem (by rw [EA.out.1]; exact hkl2)⟩
      have hc := HL.out.cellAt k (by omega)
      rw [hu] at hc
      have hru := EA.out.2 k u (L.getD k []) hu (by simp [hkl2])
      obtain ⟨c, hcc⟩ : ∃ c, c = L.getD k [] := ⟨_, rfl⟩
      rw [← hcc] at hru HSN hcl
      clear hcc hu
      obtain ⟨ua, uc, rfl⟩ := hru.shape
      have HU := Lib.hid hru
      have HC0 := Lib.hid (show (clauseBytes c).take 1 = [(c.length : Int)] by unfold clauseBytes; rw [by8_eq, show ((c.length : Int) % 256) = c.length by omega]; rfl)
      have hltI : (k : Int) < (N : Int) := by omega
      clear hru
      go_upto_region 8 with (at_builtin; refine app_bytes rfl _ _ rfl W.heap.size _ n (HH ++ clausesBytes (L.take k)) rfl (HO.out.alloc _) _ [(c.length : Int)] rfl (slcB_lit _ [(c.length : Int)] 1 _ _ rfl rfl (by omega) rfl) (n + 1) (HH ++ clausesBytes (L.take k) ++ (clauseBytes c).take 1) rfl (by rw [HC0.out]) (by omega) (by simp; omega) ?_; intro g6 cap6 w6 ho6 hb6 hg6)
      have HB6 := Lib.hid (HBr.out.trans (((Below.refl _ _).alloc (by omega) _).trans hb6))
      have HL6 := Lib.hid (owns_beside (HL.out.alloc _) (HO.out.alloc _) (by decide) hg6)
      have HO6 := Lib.hid ho6
      clear hc ho6 hb6 hg6
      go_wp2_with fail
      go_loopw [3, 58] (fun o i wr => ∃ (j n2 : Nat) (a : Option Addr) (cap : Nat), i = .int .i64 j ∧ j ≤ c.length ∧ o = .slice a n2 cap ∧ n2 ≤ 17 + 11 * k + j ∧ 0 < n2 ∧ Hid (wr.ownsRow W.heap.size 5 1 (.slice a n2 cap) n2 ((HH ++ clausesBytes (L.take k) ++ (clauseBytes c).take (j + 1)).map B8)) ∧ Hid (wr.ownsRow W4.heap.size 65 1 (.slice (some ⟨g5, 0, none⟩) N c5) N vs) ∧ Hid (Below W.heap.size W wr)) (fun _ i _ => c.length - (intOf i).toNat)
      case atStart => exact ⟨0, n + 1, g6, cap6, rfl, Nat.zero_le _, rfl, by omega, by omega, HO6, HL6, HB6⟩
      case round =>
        obtain ⟨j, n2, a7, cap7, rfl, hj, rfl, hn2, hn20, HO7, HL7, HB7⟩ := hrel
        have hzr2 := HB7.out.size
        by_cases hjl : j < c.length
        · obtain ⟨b, off, rfl, hb0, hcx⟩ := (HU.out.up (HB.out.trans (HB7.out.mono hz)) (Nat.le_refl _)).at hjl
          have HT := Lib.hid (clauseBytes_take c j hjl)
          obtain ⟨x, hx⟩ : ∃ x, x = c.getD j 0 := ⟨_, rfl⟩
          rw [← hx] at hcx HT
          clear hx
          have hjlI : (j : Int) < (c.length : Int) := by omega
          go_wp2_with (at_builtin; refine app_bytes rfl _ _ rfl W.heap.size _ n2 (HH ++ clausesBytes (L.take k) ++ (clauseBytes c).take (j + 1)) rfl (HO7.out.alloc _) _ [by8 x] rfl (slcB_lit _ [by8 x] 1 _ _ rfl rfl (by omega) rfl) (n2 + 1) (HH ++ clausesBytes (L.take k) ++ (clauseBytes c).take (j + 2)) rfl (by rw [HT.out]; simp only [List.append_assoc]) (by omega) (by simp; omega) ?_; intro g8 cap8 w8 ho8 hb8 hg8)
          have HB8 := Lib.hid (HB7.out.trans (((Below.refl _ _).alloc (by omega) _).trans hb8))
          have HL8 := Lib.hid (owns_beside (HL7.out.alloc _) (HO7.out.alloc _) (by decide) hg8)
          go_roundw
          case rel => exact ⟨j + 1, n2 + 1, g8, cap8, by go_num, by omega, rfl, by omega, by omega, ho8, HL8, HB8⟩
          case measure => simp [intOf]; omega
        · obtain rfl : j = c.length := by omega
          have HT := Lib.hid (show HH ++ clausesBytes (L.take k) ++ (clauseBytes c).take (c.length + 1) = HH ++ clausesBytes (L.take (k + 1)) by
            rw [HSN.out, List.append_assoc, show (clauseBytes c).take (c.length + 1) = clauseBytes c from List.take_of_length_le (by simp [clauseBytes])])
          rw [HT.out] at HO7
          go_wp2_with fail
          go_roundw
          case rel => exact ⟨k + 1, n2, a7, cap7, by go_num, by omega, rfl, by omega, hn20, HO7, HL7, HB7⟩
          case measure => simp [intOf]; omega
    · obtain rfl : k = N := by omega
      have HFB := Lib.hid (show HH ++ clausesBytes (L.take k) = BB by rw [List.take_of_length_le (by rw [HLL.out]; exact Nat.le_refl _), HBB.out])
      rw [HFB.out] at HO
      have hcv := conv_bytes HO.out hn0
      have HNB := Lib.hid (show BB.length = n by have := HO.out.1; simpa using this)
      have hbd := chkL_bd BB 0 (by omega) (by omega)
      obtain ⟨ck, hck⟩ : ∃ ck, ck = chkL 0 BB := ⟨_, rfl⟩
      rw [← hck] at hbd HSB
      have HCK := Lib.hid hck
      clear hck
      go_wp2_with fail
      refine (implCheck_any 0 (strOfNums BB) wr (by omega) (by omega) (by rw [strOfNums_size, HNB.out]; unfold maxLen; omega)).mono ?_
      rintro e w9 ⟨rfl, rfl⟩
      rw [bytes_back BB HBR.out, ← HCK.out]
      clear hcv
      rw [by8_eq, by8_eq, show ck / 256 % 256 = ck / 256 by omega] at HSB
      go_wp2_with (at_builtin; refine app_bytes rfl _ _ rfl W.heap.size _ n BB rfl (HO.out.alloc _) _ [ck % 256, ck / 256] rfl (slcB_lit _ [ck % 256, ck / 256] 2 _ _ rfl rfl (by omega) rfl) (n + 2) (BB ++ [ck % 256, ck / 256]) rfl rfl (by omega) (by simp; omega) ?_; intro g9 cap9 w9 ho9 hb9 _; have hcv2 := conv_bytes ho9 (by omega))
      go_ret
      exact ⟨by rw [HSB.out]; rfl, (HB.out.trans (HBr.out.mono hz)).trans ((((Below.refl _ _).alloc (by omega) _).trans hb9).mono hz)⟩

end Go.Proofs.Ytkkcgclliomocaa

namespace Go.Proofs.Ytkkcgclliomocaa
open Go.RowKit

theorem wp_app_ints {w : World} {o : Oper} {a : Act} {K : Act → World → Prop} {Q : Exit → Act → World → Prop} (s x : Operand)
    (ho : o.op = .call { callee := .builtin .append, args := #[s, x], argTypes := #[65, 65] })
    (base : Nat) (v : Value) (n : Nat) (xs : List Int) (hs : a.eval s = v) (hown : w.ownsRow base 2 1 v n (xs.map I64))
    (sv : Value) (news : List Int) (hx : a.eval x = sv) (hsv : Slc w sv (news.map I64)) (m : Nat) (ys : List Int) (hm : m = n + news.length) (hys : ys = xs ++ news) (hlen : m ≤ 17592186044416) (hbase : base ≤ w.heap.size)
    (h : ∀ a' cap' w', w'.ownsRow base 2 1 (.slice a' m cap') m (ys.map I64) → Below base w w' → w.grownBy w' v.ownBlock → (Value.slice a' m cap' = .slice none 0 0 ↔ v = .slice none 0 0 ∧ news = []) → K (a.put o.dst (.slice a' m cap')) w') :
    o.wp Try.prog a w K Q := by
  obtain ⟨i0, hi, hz0, hz1, hz2⟩ := info_parts Try.infoI64
  subst hm hys
  have hk : ∀ v' w', w'.ownsRow base 2 1 v' (n + news.length) (xs.map I64 ++ news.map I64) → w.grownBy w' v.ownBlock → (v' = .slice none 0 0 ↔ v = .slice none 0 0 ∧ news = []) → K (a.put o.dst v') w' := by
    intro v' w' h1 h2 h3
    have h1' : w'.ownsRow base 2 1 v' (n + news.length) ((xs ++ news).map I64) := by simpa using h1
    obtain ⟨a', cap', rfl⟩ := owns_shape h1'
    exact h a' cap' w' h1' (below_grown hown hbase h2) h2 h3
  rcases hsv with ⟨rfl, hnil⟩ | ⟨ad, cap, rfl, hcl, hcm, hc⟩
  · have hn : news = [] := by simpa using hnil
    subst hn
    have hrun := run_append_owned_none (P := Try.prog) (w := w) base 65 o.type 2 i0 1 Try.underlying65 hi v n (xs.map I64) hown
    unfold Oper.wp
    simp [execOp, ho, resolve, invoke, builtin, hs, hx, hrun, Result.andThen]
    exact hk v w (by simpa using hown) (World.grownBy.refl _ _) (by simp)
  · refine wp_append_own w s x 65 ho base 2 i0 (.int .i64 0) 1 8 Try.underlying65 hi hz0 hz1 hz2 rfl (by decide) v n (xs.map I64) hs hown ad (news.map I64).length cap (news.map I64) hx (by simp) hc (i64_one news) (by simp [maxLen]; omega) (by simp; omega) hbase ?_
    intro v' w' h2 h3 h4
    exact hk v' w' (by simpa using h2) h3 (by rw [h4]; simp)

theorem step_app_own {w : World} {ops : Array Oper} {o : Oper} {a : Act} {K : Act → World → Prop} {Q : Exit → Act → World → Prop} {E : Prop} (hgd : o.guard = none) (s x : Operand)
    (ho : o.op = .call { callee := .builtin .append, args := #[s, x], argTypes := #[65, 65] })
    (base : Nat) (ad : Addr) (n cap : Nat) (xs : List Int) (hs : a.eval s = .slice (some ad) n cap) (hown : w.ownsRow base 2 1 (.slice (some ad) n cap) n (xs.map I64))
    (sv : Value) (news : List Int) (hx : a.eval x = sv) (hsv : Slc w sv (news.map I64)) (m : Nat) (ys : List Int) (hm : m = n + news.length) (hys : ys = xs ++ news) (hlen : m ≤ 17592186044416) (hbase : base ≤ w.heap.size)
    (h : ∀ g cap' w', w'.ownsRow base 2 1 (.slice (some ⟨g, 0, none⟩) m cap') m (ys.map I64) → Below base w w' → w.grownBy w' (Value.slice (some ad) n cap).ownBlock → K (a.put o.dst (.slice (some ⟨g, 0, none⟩) m cap')) w') :
    if Region.wanted o (yielded ops a.tmps) = true then Oper.wp Try.prog o a w K Q else E := by
  have hw : Region.wanted o (yielded ops a.tmps) = true := by simp [Region.wanted, hgd]
  rw [if_pos hw]
  refine wp_app_ints s x ho base _ n xs hs hown sv news hx hsv m ys hm hys hlen hbase ?_
  intro a' cap' w' h1 h2 h3 h4
  obtain ⟨g, c, e, _⟩ := owns_some h1 (by intro e; have := h4.1 e; simp at this)
  simp only [Value.slice.injEq, true_and] at e
  obtain ⟨rfl, rfl⟩ := e
  exact h g _ w' h1 h2 h3

/-- A slice in one block reads on where this block is kept. -/
theorem slc_keptB {S : Nat → Prop} {w w' : World} {ad : Addr} {n cap : Nat} {vs : List Value} (h : Slc w (.slice (some ad) n cap) vs) (hk : Kept S w w') (hs : ¬ S ad.block) : Slc w' (.slice (some ad) n cap) vs := by
  rcases h with ⟨e1, _⟩ | ⟨ad2, cap2, e1, h1, h2, hc⟩
  · simp at e1
  · simp only [Value.slice.injEq, Option.some.injEq] at e1
    obtain ⟨rfl, rfl, rfl⟩ := e1
    refine .inr ⟨ad, cap, rfl, h1, h2, fun i u hi => ?_⟩
    have h0 := hc i u hi
    rw [hk.cell (cell_lt h0) (by rw [addr_add_block]; exact hs)]
    exact h0

/-- A new row of one stays as it is behind an append to another. -/
theorem slc_grown {w w' : World} {ad : Addr} {n cap : Nat} {vs : List Value} {row : Option Nat} (h : Slc w (.slice (some ad) n cap) vs) (hg : w.grownBy w' row) (hne : row ≠ some ad.block) : Slc w' (.slice (some ad) n cap) vs :=
  slc_keptB (S := fun k => row = some k) h ⟨hg.os, hg.tape, hg.output, hg.size, fun k hk hn => hg.block k hk fun e => hn e.symm⟩ hne

theorem slc_drew {w : World} {v : Value} {vs : List Value} (h : Slc w v vs) : Slc w.drew v vs := h
theorem slc_alloc {w : World} {v : Value} {vs : List Value} (h : Slc w v vs) (o : Obj) : Slc (w.alloc o) v vs := h.below ((Below.refl _ _).alloc (Nat.le_refl _) _) (Nat.le_refl _)

theorem slc_oneB (w : World) (z : Int) (b : Nat) (hb : b = w.heap.size) : Slc (w.alloc (.cells #[.int .i64 z] 2)) (.slice (some ⟨b, 0, none⟩) 1 1) ([z].map I64) := by subst hb; exact slc_one w z

theorem owns_emptyB (w : World) (b : Nat) (hb : b = w.heap.size) : (w.alloc (.cells #[] 2)).ownsRow w.heap.size 2 1 (.slice (some ⟨b, 0, none⟩) 0 0) 0 (([] : List Int).map I64) := by subst hb; exact owns_empty w
theorem owns_drew {w : World} {base : Nat} {e : TypeId} {v : Value} {n : Nat} {vs : List Value} (h : w.ownsRow base e 1 v n vs) : w.drew.ownsRow base e 1 v n vs := h

end Go.Proofs.Ytkkcgclliomocaa

namespace Go.Proofs.Ytkkcgclliomocaa
open Go.RowKit

set_option maxHeartbeats 400000 in
theorem specLetters_any (n : Int) (w : World) :
    Calls Try.prog 147 #[.int .i64 n] w fun e w' => e = .returned (.bool (inB 1 10 n)) ∧ w = w' := by
  go_enter Try.func147, Try.ntmps147
  go_wp2_with (go_at_call 114; refine (in_any _ _ _ _).mono ?_; rintro e w' ⟨rfl, rfl⟩)
  go_ret
  exact ⟨rfl, rfl⟩

set_option maxHeartbeats 400000 in
theorem specLetter_any (x : Int) (w : World) (h1 : -10 ≤ x) (h2 : x ≤ 10) :
    Calls Try.prog 149 #[.int .i64 x] w fun e w' => e = .returned (.int .i64 (x.natAbs : Nat)) ∧ w = w' := by
  by_cases h : x < 0
  · go_enter Try.func149, Try.ntmps149
    go_wp2_with fail
    go_ret
    exact ⟨congrArg (fun z => Ending.returned (Value.int IntKind.i64 z)) (by omega), rfl⟩
  · go_enter Try.func149, Try.ntmps149
    go_wp2_with fail
    go_ret
    exact ⟨congrArg (fun z => Ending.returned (Value.int IntKind.i64 z)) (by omega), rfl⟩

theorem Try.infoBool : (Try.prog.info? 4).map (fun i => (i.zero, i.size, i.bytes)) = some (some (.bool false), 1, 1) := by kernel_rfl

/-- What has been seen of the first k literals. -/
def seenL (xs : List Int) (k : Nat) : List Value := (List.range 11).map fun d => .bool (!allB k fun j => decide ((xs.getD j 0).natAbs ≠ d))
theorem seenL_len (xs : List Int) (k : Nat) : (seenL xs k).length = 11 := by simp [seenL]
theorem seenL_zero (xs : List Int) : seenL xs 0 = List.replicate 11 (.bool false) := rfl
theorem seenL_at (xs : List Int) (k d : Nat) (h : d < 11) : (seenL xs k)[d]? = some (.bool (!allB k fun j => decide ((xs.getD j 0).natAbs ≠ d))) := by
  unfold seenL; simp [h]
theorem allB_succ (k : Nat) (p : Nat → Bool) : allB (k + 1) p = (allB k p && p k) := by unfold allB; rw [List.range_succ]; simp
theorem seenL_set (xs : List Int) (k : Nat) (h : (xs.getD k 0).natAbs < 11) : (seenL xs k).set (xs.getD k 0).natAbs (.bool true) = seenL xs (k + 1) := by
  apply List.ext_getElem?
  intro d
  rw [List.getElem?_set]
  by_cases hd : d < 11
  · rw [seenL_at xs (k + 1) d hd, allB_succ]
    by_cases he : (xs.getD k 0).natAbs = d
    · rw [if_pos he, if_pos (by rw [seenL_len]; exact h)]
      simp only [ne_eq, he, not_true_eq_false, decide_false, Bool.and_false, Bool.not_false]
    · rw [if_neg he, seenL_at xs k d hd]
      simp only [ne_eq, he, not_false_eq_true, decide_true, Bool.and_true]
  · have h1 : (seenL xs k)[d]? = none := by rw [List.getElem?_eq_none]; rw [seenL_len]; omega
    have h2 : (seenL xs (k + 1))[d]? = none := by rw [List.getElem?_eq_none]; rw [seenL_len]; omega
    have he : ¬ (xs.getD k 0).natAbs = d := by omega
    rw [if_neg he, h1, h2]

set_option maxHeartbeats 2000000 in
set_option maxRecDepth 4000 in
theorem specLits_any (n : Int) (v : Value) (xs : List Int) (w : World) (h : RdI w v xs) (hn : inB 1 10 n = true) :
    Calls Try.prog 148 #[.int .i64 n, v] w fun e w' => e = .returned (.bool (litsB n xs)) ∧ Below w.heap.size w w' := by
  obtain ⟨i0, hi, hz0, hz1, hz2⟩ := info_parts Try.infoBool
  obtain ⟨a, c, rfl⟩ := h.shape
  have hl := h.len
  unfold maxLen at hl
  have HS := Lib.hid h
  have HN := Lib.hid hn
  obtain ⟨n1, n2⟩ := inB_iff.1 hn
  clear h hn
  go_enter Try.func148, Try.ntmps148
  go_wp2_with (at_make; refine wpList_make_full _ rfl _ _ 175 rfl w.heap.size 4 i0 (.bool false) 1 Try.underlying175 hi hz0 hz1 .i64 .i64 11 11 11 rfl rfl rfl rfl (by rw [hz2]; decide) (by simp [maxLen]) (by simp) ?_; intro w1 hown hgrow)
  have hb1 : Below w.heap.size w w1 := (Below.refl _ _).grown hgrow (Nat.le_refl _) (by intro k hk; cases hk)
  have hz : (madeCells (Value.bool false).cells (11 * 1)).toList = seenL xs 0 := by
    rw [seenL_zero]; simpa [Value.cells] using toList_madeCells_one (Value.bool false) 11
  rw [hz] at hown
  have HO := Lib.hid hown
  have HB := Lib.hid hb1
  clear hown hb1 hz hgrow
  go_loopw [10] (fun i wr => ∃ k : Nat, i = .int .i64 k ∧ k ≤ xs.length ∧ Hid (∀ j, j < k → litAt n xs j = true) ∧ Hid (wr.ownsRow w.heap.size 4 1 (.slice (some ⟨w.heap.size, 0, none⟩) 11 11) 11 (seenL xs k)) ∧ Hid (Below w.heap.size w wr)) (fun i _ => xs.length - (intOf i).toNat)
  case atStart => exact ⟨0, rfl, Nat.zero_le _, fun j hj => by omega, HO.out, HB.out⟩
  case round =>
    obtain ⟨k, rfl, hk, hall, HO1, HB1⟩ := hrel
    by_cases hlt : k < xs.length
    · obtain ⟨b, off, rfl, hb0, hc⟩ := (HS.out.up HB1.out (Nat.le_refl _)).at hlt
      have hno := Lib.hid (show litAt n xs k = false → litsB n xs = false from fun h => allB_false hlt h)
      have hok := Lib.hid (show litAt n xs k = true → ∀ j, j < k + 1 → litAt n xs j = true from fun h j hj => by
        by_cases hjk : j < k
        · exact hall.out j hjk
        · obtain rfl : j = k := by omega
          exact h)
      by_cases hin : inB (-n) n (xs.getD k 0) = true
      · obtain ⟨x1, x2⟩ := inB_iff.1 hin
        have HIN := Lib.hid hin
        clear hin
        by_cases hx0 : xs.getD k 0 = 0
        · have hg := Lib.hid (hno.out (by unfold litAt litB; rw [hx0]; simp))
          rw [hx0] at hc x1 x2 HIN
          clear hx0
          go_wp2_with (go_at_call 114; refine (in_any _ _ _ _).mono ?_; rintro e w' ⟨rfl, rfl⟩)
          go_ret
          exact ⟨by rw [hg.out]; rfl, HB1.out⟩
        · have hlit := Lib.hid (show litB n (xs.getD k 0) = true by unfold litB; rw [HIN.out]; simp; exact hx0)
          have hne : ((xs.getD k 0) == 0) = false := by simpa using hx0
          have hd := HO1.out.cellAt (xs.getD k 0).natAbs (by omega)
          have hf := HO1.out.frozenAt (xs.getD k 0).natAbs
          rw [seenL_at xs k _ (by omega)] at hd
          have hval := Lib.hid (show litAt n xs k = allB k fun j => decide ((xs.getD j 0).natAbs ≠ (xs.getD k 0).natAbs) by unfold litAt; rw [hlit.out, Bool.true_and])
          have hset := Lib.hid (seenL_set xs k (by omega))
          have hst := Lib.hid (HO1.out.stored (xs.getD k 0).natAbs (.bool true)).1
          generalize hq : (allB k fun j => decide ((xs.getD j 0).natAbs ≠ (xs.getD k 0).natAbs)) = q at *
          clear hq hx0
          generalize xs.getD k 0 = x at *
          have hna : (x.natAbs : Int) < 11 := by omega
          have hna0 : (0 : Int) ≤ (x.natAbs : Int) := by omega
          cases q
          · have hg := Lib.hid (hno.out hval.out)
            go_wp2_with (first
              | (go_at_call 114; refine (in_any _ _ _ _).mono ?_; rintro e w' ⟨rfl, rfl⟩)
              | (go_at_call 149; refine (specLetter_any _ _ (by omega) (by omega)).mono ?_; rintro e w' ⟨rfl, rfl⟩))
            go_ret
            exact ⟨by rw [hg.out]; rfl, HB1.out⟩
          · have hg := Lib.hid (hok.out hval.out)
            go_wp2_with (first
              | (go_at_call 114; refine (in_any _ _ _ _).mono ?_; rintro e w' ⟨rfl, rfl⟩)
              | (go_at_call 149; refine (specLetter_any _ _ (by omega) (by omega)).mono ?_; rintro e w' ⟨rfl, rfl⟩))
            go_roundw
            case rel => exact ⟨k + 1, by go_num, by omega, hg.out, by rw [← hset.out]; exact hst.out, HB1.out.setCell (Nat.le_refl _) _⟩
            case measure => simp [intOf]; omega
      · have hif := bool_false hin
        have hg := Lib.hid (hno.out (by unfold litAt litB; rw [hif, Bool.and_false, Bool.false_and]))
        clear hin
        generalize xs.getD k 0 = x at *
        go_wp2_with (go_at_call 114; refine (in_any _ _ _ _).mono ?_; rintro e w' ⟨rfl, rfl⟩)
        go_ret
        exact ⟨by rw [hg.out]; rfl, HB1.out⟩
    · obtain rfl : k = xs.length := by omega
      go_wp2_with fail
      go_ret
      exact ⟨by rw [show litsB n xs = true from allB_true hall.out]; rfl, HB1.out⟩

set_option maxHeartbeats 2000000 in
theorem specClause_any (n : Int) (v : Value) (xs : List Int) (w : World) (h : RdI w v xs) :
    Calls Try.prog 130 #[.int .i64 n, v] w fun e w' => e = .returned (.bool (clauseB n xs)) ∧ Below w.heap.size w w' := by
  obtain ⟨a, c, rfl⟩ := h.shape
  have hl := h.len
  unfold maxLen at hl
  have HS := Lib.hid h
  clear h
  by_cases hn : inB 1 10 n = true
  · have HN := Lib.hid hn
    obtain ⟨n1, n2⟩ := inB_iff.1 hn
    clear hn
    by_cases hls : litsB n xs = true
    · have HL := Lib.hid hls
      have hcl := Lib.hid (show clauseB n xs = allB xs.length (downAt xs) by unfold clauseB; rw [HN.out, ← clause_eq, hls]; simp)
      have hbd := Lib.hid (show ∀ i, i < xs.length → -10 ≤ xs.getD i 0 ∧ xs.getD i 0 ≤ 10 from fun i hi => by
        have := allB_iff.1 hls i hi
        unfold litAt at this
        rw [Bool.and_eq_true] at this
        have := litB_bd HN.out this.1
        omega)
      clear hls
      go_enter Try.func130, Try.ntmps130
      go_wp2_with (first
        | (go_at_call 147; refine (specLetters_any _ _).mono ?_; rintro e w' ⟨rfl, rfl⟩; rw [HN.out])
        | (go_at_call 148; refine (specLits_any _ _ xs _ HS.out HN.out).mono ?_; rintro e w1 ⟨rfl, hb1⟩; rw [HL.out]))
      have HB := Lib.hid hb1
      clear hb1
      go_loopw [5] (fun i wr => ∃ k : Nat, i = .int .i64 k ∧ 1 ≤ k ∧ Hid (∀ j, j < k → j < xs.length → downAt xs j = true) ∧ Hid (Below w.heap.size w wr)) (fun i _ => xs.length - (intOf i).toNat)
      case atStart => exact ⟨1, rfl, Nat.le_refl _, (fun j hj _ => by
        obtain rfl : j = 0 := by omega
        rfl), HB.out⟩
      case round =>
        obtain ⟨k, rfl, hk1, hall, HB1⟩ := hrel
        by_cases hlt : k < xs.length
        · obtain ⟨m, rfl⟩ : ∃ m, k = m + 1 := ⟨k - 1, by omega⟩
          have hu := HS.out.up HB1.out (Nat.le_refl _)
          obtain ⟨b, off, rfl, hb0, hc⟩ := hu.at hlt
          obtain ⟨_, _, e, _, hc2⟩ := hu.at (i := m) (by omega)
          simp only [Option.some.injEq, Addr.mk.injEq, and_true] at e
          obtain ⟨rfl, rfl⟩ := e
          obtain ⟨x1, x2⟩ := hbd.out _ hlt
          obtain ⟨y1, y2⟩ := hbd.out m (by omega)
          have hval := Lib.hid (show downAt xs (m + 1) = decide ((xs.getD m 0).natAbs ≤ (xs.getD (m + 1) 0).natAbs) by unfold downAt; simp)
          have hno := Lib.hid (show downAt xs (m + 1) = false → clauseB n xs = false from fun h => by rw [hcl.out]; exact allB_false hlt h)
          have hok := Lib.hid (show downAt xs (m + 1) = true → ∀ j, j < m + 2 → j < xs.length → downAt xs j = true from fun h j hj hj2 => by
            by_cases hjk : j < m + 1
            · exact hall.out j hjk hj2
            · obtain rfl : j = m + 1 := by omega
              exact h)
          clear hu
          have hjm : (m : Int) < xs.length := by omega
          have hjl : ((m + 1 : Nat) : Int) < xs.length := by omega
          have hjt : (((m + 1 : Nat) : Int) - 1).toNat = m := by omega
          have hjw : IntKind.i64.wrap (((m + 1 : Nat) : Int) - 1) = (m : Int) := by rw [IntWalk.i64_in _ (by omega)]; omega
          generalize xs.getD (m + 1) 0 = x at *
          generalize xs.getD m 0 = y at *
          by_cases hxy : y.natAbs ≤ x.natAbs
          · have hxd : decide (x.natAbs < y.natAbs) = false := by simp; omega
            have hg := Lib.hid (hok.out (by rw [hval.out]; simp [hxy]))
            clear hxy
            go_wp2_with fail
            go_quiet ((go_at_call 149; exact quiet_same (specLetter_any _ _ (by omega) (by omega))))
            clear hjt hjw
            go_wp2_with fail
            go_roundw
            case rel => exact ⟨m + 2, by go_num, by omega, hg.out, below_drewN HB1.out _⟩
            case measure => simp [intOf]; omega
          · have hxd : decide (x.natAbs < y.natAbs) = true := by simp; omega
            have hg := Lib.hid (hno.out (by rw [hval.out]; simp [hxy]))
            clear hxy
            go_wp2_with fail
            go_quiet ((go_at_call 149; exact quiet_same (specLetter_any _ _ (by omega) (by omega))))
            clear hjt hjw
            go_wp2_with fail
            go_ret
            exact ⟨by rw [hg.out]; rfl, below_drewN HB1.out _⟩
        · go_wp2_with fail
          go_ret
          exact ⟨by rw [hcl.out, allB_true (fun i hi => hall.out i (by omega) hi)]; rfl, HB1.out⟩
    · have HL := Lib.hid (bool_false hls)
      have hcl := Lib.hid (show clauseB n xs = false by unfold clauseB; rw [HN.out, ← clause_eq, HL.out]; simp)
      clear hls
      go_enter Try.func130, Try.ntmps130
      go_wp2_with (first
        | (go_at_call 147; refine (specLetters_any _ _).mono ?_; rintro e w' ⟨rfl, rfl⟩; rw [HN.out])
        | (go_at_call 148; refine (specLits_any _ _ xs _ HS.out HN.out).mono ?_; rintro e w1 ⟨rfl, hb1⟩; rw [HL.out]))
      go_ret
      exact ⟨by rw [hcl.out]; rfl, hb1⟩
  · have hn' := Lib.hid (bool_false hn)
    clear hn
    go_enter Try.func130, Try.ntmps130
    go_wp2_with (go_at_call 147; refine (specLetters_any _ _).mono ?_; rintro e w' ⟨rfl, rfl⟩; rw [hn'.out])
    go_ret
    exact ⟨by rw [show clauseB n xs = false by unfold clauseB; rw [hn'.out, Bool.false_and]]; rfl, Below.refl _ _⟩

end Go.Proofs.Ytkkcgclliomocaa
