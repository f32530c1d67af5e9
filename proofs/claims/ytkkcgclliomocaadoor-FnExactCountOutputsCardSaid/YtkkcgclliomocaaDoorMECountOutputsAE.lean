/-
  FnExactCountOutputs: texts joined: CutS, JournI, RcJI, CountM.
-/
import Derived.Deep.RegionHeld3
import Derived.Lib.SplitLaws
import Derived.Test.YtkkcgclliomocaaDoorMECountOutputsAD
namespace Go.Proofs.YtkkcgclliomocaaDoor
open Go.RowKit

/-- No byte c from place f up to place i. -/
def NoC (c : UInt8) (s : ByteArray) (f i : Nat) : Prop := ∀ j (hj : j < s.size), f ≤ j → j < i → s[j] ≠ c
theorem noC_mem {c : UInt8} {s : ByteArray} {f i : Nat} (h : NoC c s f i) (hi : i ≤ s.size) : c ∉ ((s.data.toList.drop f).take (i - f)) := by
  intro hm
  obtain ⟨k, hk, he⟩ := List.mem_iff_getElem.1 hm
  rw [List.length_take, List.length_drop, Array.length_toList] at hk
  have hks : f + k < s.size := by have : s.data.size = s.size := rfl; omega
  refine h (f + k) hks (by omega) (by omega) ?_
  rw [← he, List.getElem_take, List.getElem_drop, Array.getElem_toList]
  rfl
theorem drop_split {s : ByteArray} {f i : Nat} (hf : f ≤ i) (hi : i < s.size) : s.data.toList.drop f = (s.data.toList.drop f).take (i - f) ++ s[i] :: s.data.toList.drop (i + 1) := by
  conv => lhs; rw [← List.take_append_drop (i - f) (s.data.toList.drop f)]
  congr 1
  rw [List.drop_drop, show f + (i - f) = i by omega]
  have hk : i < s.data.toList.length := by rw [Array.length_toList]; exact hi
  rw [List.drop_eq_getElem_cons hk, Array.getElem_toList]
  rfl
theorem parts_step {c : UInt8} {s : ByteArray} {f i : Nat} (h : NoC c s f i) (hf : f ≤ i) (hi : i < s.size) (hc : s[i] = c) : (partsC c (s.data.toList.drop f)).map mkB = s.extract f i :: (partsC c (s.data.toList.drop (i + 1))).map mkB := by
  rw [drop_split hf hi, hc, partsC_hit (noC_mem h (by omega)), List.map_cons]
  congr 1
  unfold mkB
  refine ByteArray.ext ?_
  rw [ByteArray.data_extract]
  refine Array.ext' ?_
  simp [Array.toList_extract, List.extract_eq_take_drop]
theorem parts_last {c : UInt8} {s : ByteArray} {f : Nat} (h : NoC c s f s.size) (hf : f ≤ s.size) : (partsC c (s.data.toList.drop f)).map mkB = [s.extract f s.size] := by
  have h1 := noC_mem h (Nat.le_refl _)
  have hl : (s.data.toList.drop f).length = s.size - f := by rw [List.length_drop, Array.length_toList]; rfl
  rw [List.take_of_length_le (by omega)] at h1
  rw [partsC_none h1]
  show [mkB _] = _
  congr 1
  unfold mkB
  refine ByteArray.ext ?_
  rw [ByteArray.data_extract]
  refine Array.ext' ?_
  simp only [Array.toList_extract, List.extract_eq_take_drop]
  rw [List.take_of_length_le (by omega)]

set_option maxHeartbeats 2000000 in
set_option maxRecDepth 4000 in
theorem l01Cut_any (s : ByteArray) (c : UInt8) (w : World) (hs : s.size ≤ 1048576) :
    Calls Tryd.prog 30 #[.string s, .int .u8 c.toNat] w fun e w' => ∃ a cap, e = .returned (.slice a (cutS c s).length cap) ∧ w'.ownsRow w.heap.size 9 1 (.slice a (cutS c s).length cap) (cutS c s).length ((cutS c s).map SV) ∧ Below w.heap.size w w' := by
  obtain ⟨R, hR⟩ : ∃ R, R = cutS c s := ⟨_, rfl⟩
  rw [← hR]
  have HR := Lib.hid hR
  clear hR
  go_enter Tryd.func30, Tryd.ntmps30
  go_upto_region 4 with fail
  refine wp_at fun W1 hW1 => ?_
  have HO0 := Lib.hid (show W1.ownsRow w.heap.size 9 1 (.slice (some ⟨w.heap.size, 0, none⟩) 0 0) 0 (([] : List ByteArray).map SV) by
    subst hW1
    have h := World.ownsRow_lit (base := w.heap.size) (e := 9) (size := 1) w #[] 0 (Nat.le_refl _) (by simp [maxLen]) rfl
    simpa using h)
  have HB0 := Lib.hid (show Below w.heap.size w W1 by subst hW1; exact (Below.refl _ _).alloc (Nat.le_refl _) _)
  clear hW1
  go_loopw [5, 6, 7] (fun ov fv iv wr => ∃ (f i k : Nat) (O : List ByteArray) (a : Option Addr) (cap : Nat), ov = .slice a k cap ∧ fv = .int .i64 f ∧ iv = .int .i64 i ∧ f ≤ i ∧ i ≤ s.size + 1 ∧ k ≤ i ∧ Hid (O.length = k) ∧ Hid ((i = s.size + 1 ∧ R = O) ∨ (i ≤ s.size ∧ R = O ++ (partsC c (s.data.toList.drop f)).map mkB ∧ NoC c s f i)) ∧ Hid (wr.ownsRow w.heap.size 9 1 (.slice a k cap) k (O.map SV)) ∧ Hid (Below w.heap.size w wr)) (fun _ _ iv _ => s.size + 1 - (intOf iv).toNat)
  case atStart => exact ⟨0, 0, 0, [], _, _, rfl, rfl, rfl, Nat.le_refl _, Nat.zero_le _, Nat.le_refl _, Lib.hid rfl, Lib.hid (.inr ⟨Nat.zero_le _, by rw [HR.out]; rfl, by intro j hj h0 h1; omega⟩), HO0, HB0⟩
  case round =>
    clear HO0 HB0
    obtain ⟨f, i, k, O, a, cap, rfl, rfl, rfl, hfi, his, hki, HK, HD, HO, HB⟩ := hrel
    have hszw := HB.out.size
    by_cases hlt : i ≤ s.size
    · have hltI : (i : Int) ≤ (s.size : Int) := by omega
      have HD1 := Lib.hid (show R = O ++ (partsC c (s.data.toList.drop f)).map mkB ∧ NoC c s f i by
        rcases HD.out with ⟨h, _⟩ | ⟨_, h⟩
        · omega
        · exact h)
      have hfI : (f : Int) ≤ (i : Int) := by omega
      by_cases hin : i < s.size
      · have hne : ((i : Int) == (s.size : Int)) = false := by simp; omega
        by_cases hc : s[i] = c
        · have HST := Lib.hid (parts_step HD1.out.2 hfi hin hc)
          have hq : ((s[i].toNat : Int) == (c.toNat : Int)) = true := by rw [hc]; simp
          obtain ⟨x, hx⟩ : ∃ x, x = s.extract f i := ⟨_, rfl⟩
          rw [← hx] at HST
          have HX := Lib.hid hx
          clear hc hx
          go_wp2_with (at_builtin; rw [← HX.out]; refine app_strs rfl _ _ rfl w.heap.size _ k O rfl (owns_below HO.out ((Below.refl _ _).alloc (Nat.le_refl _) _) (Nat.le_refl _)) _ [x] rfl (slcS_one wr x _ rfl) (k + 1) (O ++ [x]) rfl rfl (by omega) (by simp; omega) ?_; intro a' cap' w' r1 r2 _)
          go_roundw
          case rel => exact ⟨i + 1, i + 1, k + 1, O ++ [x], a', cap', by go_num, by go_num, by go_num, Nat.le_refl _, by omega, by omega, Lib.hid (by rw [List.length_append, HK.out]; rfl), Lib.hid (.inr ⟨by omega, by rw [HD1.out.1, HST.out, List.append_assoc]; rfl, fun j hj h0 h1 => by omega⟩), Lib.hid r1, Lib.hid ((HB.out.alloc hszw _).trans r2)⟩
          case measure => simp [intOf]; omega
        · have hq : ((s[i].toNat : Int) == (c.toNat : Int)) = false := by
            simp only [beq_eq_false_iff_ne, ne_eq]
            intro h
            exact hc (UInt8.toNat_inj.1 (by omega))
          have HNC := Lib.hid hc
          clear hc
          go_wp2_with fail
          go_roundw
          case rel =>
            refine ⟨f, i + 1, k, O, a, cap, by go_num, by go_num, by go_num, by omega, by omega, by omega, HK, Lib.hid (.inr ⟨by omega, HD1.out.1, fun j hj h0 h1 => ?_⟩), HO, HB⟩
            by_cases hji : j < i
            · exact HD1.out.2 j hj h0 hji
            · obtain rfl : j = i := by omega
              exact HNC.out
          case measure => simp [intOf]; omega
      · have hie : i = s.size := by omega
        have hne : ((i : Int) == (s.size : Int)) = true := by simp; omega
        have HST := Lib.hid (show (partsC c (s.data.toList.drop f)).map mkB = [s.extract f i] by have := parts_last (c := c) (s := s) (f := f) (by have := HD1.out.2; rw [hie] at this; exact this) (by omega); rw [this, hie])
        obtain ⟨x, hx⟩ : ∃ x, x = s.extract f i := ⟨_, rfl⟩
        rw [← hx] at HST
        have HX := Lib.hid hx
        have HIE := Lib.hid hie
        clear hx hie
        go_wp2_with (at_builtin; rw [← HX.out]; refine app_strs rfl _ _ rfl w.heap.size _ k O rfl (owns_below HO.out ((Below.refl _ _).alloc (Nat.le_refl _) _) (Nat.le_refl _)) _ [x] rfl (slcS_one wr x _ rfl) (k + 1) (O ++ [x]) rfl rfl (by omega) (by simp; omega) ?_; intro a' cap' w' r1 r2 _)
        go_roundw
        case rel => exact ⟨i + 1, i + 1, k + 1, O ++ [x], a', cap', by go_num, by go_num, by go_num, Nat.le_refl _, by omega, by omega, Lib.hid (by rw [List.length_append, HK.out]; rfl), Lib.hid (.inl ⟨by rw [HIE.out], by rw [HD1.out.1, HST.out]⟩), Lib.hid r1, Lib.hid ((HB.out.alloc hszw _).trans r2)⟩
        case measure => simp [intOf]; omega
    · have hltI : ¬ (i : Int) ≤ (s.size : Int) := by omega
      have HE := Lib.hid (show R = O by
        rcases HD.out with ⟨_, h⟩ | ⟨h, _⟩
        · exact h
        · omega)
      go_wp2_with fail
      go_ret
      have hk2 : R.length = k := by rw [HE.out, HK.out]
      exact ⟨a, cap, by rw [hk2]; rfl, by rw [hk2, HE.out]; exact HO.out, HB.out⟩

theorem cutS_lines (s : ByteArray) : (linesL s.data.toList).map mkB = (cutS 10 s).dropLast := by unfold linesL cutS; rw [List.map_dropLast]
theorem cutS_pos (c : UInt8) (s : ByteArray) : 1 ≤ (cutS c s).length := by
  unfold cutS
  rw [List.length_map]
  have := List.length_pos_iff.2 (partsC_ne c s.data.toList)
  omega
theorem cutS_cnt (c : UInt8) (s : ByteArray) : (cutS c s).length ≤ s.size + 1 := by
  unfold cutS
  rw [List.length_map]
  have := partsC_cnt c s.data.toList
  rw [Array.length_toList] at this
  exact this

set_option maxHeartbeats 2000000 in
set_option maxRecDepth 4000 in
theorem l08Lines_any (s : ByteArray) (w : World) (hs : s.size ≤ 1048576) :
    Calls Tryd.prog 17 #[.string s] w fun e w' => ∃ a n cap, n = (cutS 10 s).length - 1 ∧ e = .returned (.tuple #[.slice a n cap, .string ((cutS 10 s).getD n E0)]) ∧ Slc w' (.slice a n cap) (((linesL s.data.toList).map mkB).map SV) ∧ Below w.heap.size w w' := by
  have HS := Lib.hid hs
  have hcnt := cutS_cnt 10 s
  have hpos := cutS_pos 10 s
  have HLN := Lib.hid (cutS_lines s)
  have HCUT := Lib.hid (fun W => l01Cut_any s 10 W hs)
  obtain ⟨R, hR⟩ : ∃ R, R = cutS 10 s := ⟨_, rfl⟩
  rw [← hR] at hcnt hpos HLN HCUT ⊢
  clear hR
  go_enter Tryd.func17, Tryd.ntmps17
  go_wp2_with fail
  refine (HCUT.out _).mono ?_
  rintro e w1 ⟨a, cap, rfl, ho, hb1⟩
  obtain ⟨p, hp⟩ : ∃ p, R.length = p + 1 := ⟨R.length - 1, by omega⟩
  obtain ⟨g, rfl, hg⟩ := owns_slice_some ho (by omega)
  have HO := Lib.hid ho
  have HB1 := Lib.hid hb1
  have hcp : p + 1 ≤ cap ∧ cap ≤ maxLen := by
    rcases ho.2 with ⟨h, _⟩ | ⟨_, cap', _, h, _, _, h1, h2, _⟩
    · cases h
    · simp only [Value.slice.injEq] at h
      obtain ⟨_, _, rfl⟩ := h
      rw [hp] at h1
      exact ⟨h1, h2⟩
  obtain ⟨hcp1, hcp2⟩ := hcp
  unfold maxLen at hcp2
  have hc := HO.out.cellAt p (by omega)
  have hcx : (R.map SV)[p]? = some (.string (R.getD p E0)) := by simp [SV, hp]
  rw [hcx] at hc
  have HP := Lib.hid hp
  have hpb : p ≤ 1048576 := by have := HS.out; omega
  rw [hp] at HO ⊢
  obtain ⟨x, hx⟩ : ∃ x, x = R.getD p E0 := ⟨_, rfl⟩
  rw [← hx] at hc
  have HX := Lib.hid hx
  clear ho hb1 hcx hx hp hcnt hpos
  have hw1 : IntKind.i64.wrap (((p + 1 : Nat) : Int) - 1) = (p : Int) := by rw [show (((p + 1 : Nat) : Int) - 1) = (p : Int) by omega]; exact IntWalk.i64_in _ (by omega)
  have hw2 : IntKind.i64.wrap ((p : Int) + 1 - 1) = (p : Int) := by rw [show ((p : Int) + 1 - 1) = (p : Int) by omega]; exact IntWalk.i64_in _ (by omega)
  have g0 : (0 : Int) ≤ (p : Int) := by omega
  have g1 : (p : Int) ≤ (cap : Int) := by omega
  have g2 : (p : Int) < (p : Int) + 1 := by omega
  have g3 : ((p : Int)).toNat = p := by omega
  go_wp2_with fail
  go_quiet (fail)
  go_wp2_with fail
  go_ret2
  refine ⟨some ⟨g, 0, none⟩, p, cap, by rw [HP.out]; rfl, by rw [← HX.out]; rfl, ?_, HB1.out.trans (below_drewN (Below.refl _ _) _)⟩
  rw [HLN.out]
  have hl : (R.dropLast.map SV).length = p := by rw [List.length_map, List.length_dropLast, HP.out]; rfl
  refine .inr ⟨⟨g, 0, none⟩, cap, by rw [hl], by rw [hl]; omega, by unfold maxLen; omega, fun i u hi => ?_⟩
  have hip : i < p := by have := (List.getElem?_eq_some_iff.1 hi).1; omega
  have h1 : w1.cell? ⟨g, i, none⟩ = (R.map SV)[i]? := HO.out.cellAt i (by omega)
  have h2 : ((⟨g, 0, none⟩ : Addr).add i) = ⟨g, i, none⟩ := by unfold Addr.add; split <;> simp_all
  rw [h2]
  show w1.cell? ⟨g, i, none⟩ = _
  rw [h1, ← hi, List.getElem?_map, List.getElem?_map, List.getElem?_dropLast, if_pos (by rw [HP.out]; omega)]

end Go.Proofs.YtkkcgclliomocaaDoor

namespace Go.Proofs.YtkkcgclliomocaaDoor
open Go.RowKit

theorem pow_global : (Tryd.prog.globalNamed "internal/strconv.uint64pow10").isSome = true := by kernel_rfl
theorem HasPow.up {w w' : World} {B : Nat} (h : HasPow w) (hb : Below B w w') (hB : w.heap.size ≤ B) : HasPow w' := by
  obtain ⟨g, hg⟩ := Option.isSome_iff_exists.1 pow_global
  exact Go.Joins.tab_stays hg h hb hB

set_option maxHeartbeats 2000000 in
set_option maxRecDepth 4000 in
theorem journalI_any (v : Value) (ls : List ByteArray) (w : World) (h : RdSs w v ls) (hp : HasPow w) (hb : bulkSs ls ≤ 1048576) :
    Calls Tryd.prog 11 #[v] w fun e w' => e = .returned (.tuple #[.string (jrR ls), .bool (jrOk ls)]) ∧ Below w.heap.size w w' := by
  obtain ⟨a, c, rfl⟩ := h.shape
  have hl := h.len
  unfold maxLen at hl
  unfold bulkSs at hb
  have HS := Lib.hid h
  have HP := Lib.hid hp
  clear h hp
  obtain ⟨n, hn⟩ : ∃ n, n = ls.length := ⟨_, rfl⟩
  rw [← hn] at hb hl ⊢
  have HN := Lib.hid hn
  have HSUM := Lib.hid (fun k => sumS_le ls k)
  clear hn
  go_enter Tryd.func11, Tryd.ntmps11
  go_upto_region 3 with fail
  refine wp_at fun W hW => ?_
  have HI0 := Lib.hid (show Lib.IsBuilder TB 5 w.heap.size w.heap.size (Lib.strCells (jrS ls 0)) W by subst hW; exact Lib.fresh_isBuilder _ _ _)
  have HB0 := Lib.hid (show Below w.heap.size w W by subst hW; exact (Below.refl _ _).alloc (Nat.le_refl _) _)
  clear hW
  go_wp2_with fail
  go_loopw [5, 10] (fun cv iv wr => ∃ k : Nat, iv = .int .i64 k ∧ k ≤ n ∧ cv = .int .i64 (jrC ls k) ∧ Hid (∀ j, j < k → hasNL (ls.getD j E0) = false) ∧ Hid (Lib.IsBuilder TB 5 w.heap.size w.heap.size (Lib.strCells (jrS ls k)) wr) ∧ Hid (Below w.heap.size w wr)) (fun _ iv _ => n - (intOf iv).toNat)
  case atStart => exact ⟨0, rfl, Nat.zero_le _, rfl, Lib.hid (by intro j hj; omega), HI0, HB0⟩
  case round =>
    clear HI0 HB0
    obtain ⟨k, rfl, hk, rfl, HNL, HI, HB⟩ := hrel
    have hszw := HB.out.size
    by_cases hlt : k < n
    · have hltI : (k : Int) < (n : Int) := by omega
      have hkl : k < ls.length := by rw [← HN.out]; exact hlt
      obtain ⟨b, off, rfl, hb0, hc⟩ := (HS.out.up HB.out (Nat.le_refl _)).at hkl
      have HJC := Lib.hid (show jrC ls (k + 1) = chkN (jrC ls k) (ls.getD k E0) from rfl)
      have HJS := Lib.hid (show jrS ls (k + 1) = jrS ls k ++ ent (jrC ls (k + 1)) (ls.getD k E0) from rfl)
      have HLE := Lib.hid (jrS_le ls k (by omega))
      have HST := Lib.hid (sumS_take ls k hkl)
      have HNN := Lib.hid (fun h => jrOk_nl hkl h)
      have hc0 := jrC_lt ls k
      obtain ⟨l, hl0⟩ : ∃ l, l = ls.getD k E0 := ⟨_, rfl⟩
      obtain ⟨x, hx⟩ : ∃ x, x = jrC ls k := ⟨_, rfl⟩
      rw [← hl0] at hc HJC HJS HST HNN
      rw [← hx] at HJC hc0 ⊢
      have HL0 := Lib.hid hl0
      have hlsz : l.size ≤ 1048576 := by have h1 := HST.out; have h2 := HSUM.out (k + 1); omega
      clear hl0 hx
      have HLN : Hid (decide (0 ≤ Lib.indexByte l.data.toList 10) = hasNL l) := rfl
      cases hnl : hasNL l with
      | true =>
        have HNL1 := Lib.hid (HNN.out hnl)
        have HNLT := Lib.hid (HLN.out.trans hnl)
        clear hnl
        go_wp2_with (go_at_call 20; refine (Tryd.strings_Contains_one l 10 _).mono ?_; rintro e w' ⟨rfl, rfl⟩; rw [HNLT.out])
        go_ret2
        exact ⟨by rw [HNL1.out.1, HNL1.out.2]; rfl, HB.out⟩
      | false =>
        have HNLF := Lib.hid (HLN.out.trans hnl)
        have HNLK := Lib.hid hnl
        clear hnl
        have HCK := Lib.hid (chkN_eq hc0 l)
        have hc1 := chkN_lt hc0 l
        obtain ⟨y, hy⟩ : ∃ y, y = chkN x l := ⟨_, rfl⟩
        rw [← hy] at HCK HJC hc1
        rw [HJC.out] at HJS
        clear hy
        go_upto_region 9 with (first
          | (go_at_call 20; refine (Tryd.strings_Contains_one l 10 _).mono ?_; rintro e w' ⟨rfl, rfl⟩; rw [HNLF.out])
          | (go_at_call 21; refine (implCheck_any x l _ (by omega) (by omega) (by unfold maxLen; omega)).mono ?_; rintro e w' ⟨rfl, rfl⟩; rw [HCK.out]))
        go_wp2_with fail
        refine (Decimal_any y (by omega) _ (HP.out.up HB.out (Nat.le_refl _))).mono ?_
        rintro e w2 ⟨rfl, hb2⟩
        have HB2 := Lib.hid (HB.out.trans (hb2.mono hszw))
        have HI2 := Lib.hid (isB_up HI.out hb2)
        have hsz2 := hb2.size
        clear hb2
        have hds := decS_size (n := y) (by omega)
        have HENT : Hid (ent y l = decS y ++ B1 32 ++ l ++ B1 10) := rfl
        obtain ⟨D, hD⟩ : ∃ D, D = decS y := ⟨_, rfl⟩
        rw [← hD] at hds HENT ⊢
        clear hD
        go_wp2_with fail
        rw [show (D ++ (⟨#[32]⟩ : ByteArray) ++ l ++ (⟨#[10]⟩ : ByteArray)) = ent y l from HENT.out.symm]
        refine (WriteString_any w.heap.size w.heap.size _ (ent y l) w2 HI2.out (by
          rw [Lib.strCells_length, ent_size]
          have h1 := HLE.out
          have h2 := HSUM.out k
          have h3 := decS_size (n := y) (by omega)
          omega) (by omega)).mono ?_
        rintro e w3 ⟨rfl, hbu, hb3⟩
        have HI3 := Lib.hid (show Lib.IsBuilder TB 5 w.heap.size w.heap.size (Lib.strCells (jrS ls (k + 1))) w3 from .inr (by rw [HJS.out, strCells_add]; exact hbu))
        have HB3 := Lib.hid (HB2.out.trans hb3)
        clear hbu hb3
        go_wp2_with fail
        go_roundw
        case rel =>
          refine ⟨k + 1, by go_num, by omega, by rw [HJC.out], Lib.hid (fun j hj => ?_), HI3, HB3⟩
          by_cases hjk : j < k
          · exact HNL.out j hjk
          · obtain rfl : j = k := by omega
            rw [← HL0.out]; exact HNLK.out
        case measure => simp [intOf]; omega
    · obtain rfl : k = n := by omega
      obtain ⟨S, hS⟩ : ∃ S, S = jrS ls k := ⟨_, rfl⟩
      rw [← hS] at HI
      have HSE := Lib.hid (show S = jrS ls ls.length by rw [hS, HN.out])
      have HBIG := Lib.hid (show 16000 < S.size → jrOk ls = false ∧ jrR ls = E0 from fun h => jrOk_big (by rw [← HSE.out]; exact h))
      have HYES := Lib.hid (show S.size ≤ 16000 → jrOk ls = true ∧ jrR ls = S from fun h => by
        have := jrOk_yes (ls := ls) (fun j hj => HNL.out j (by rw [HN.out]; exact hj)) (by rw [← HSE.out]; exact h)
        rw [this.1, this.2, HSE.out]; exact ⟨rfl, rfl⟩)
      have HLN := Lib.hid (Lib.strCells_length S)
      have hsl : S.size ≤ 9223372036854775807 := by
        have h1 := jrS_le ls k (by rw [HN.out]; exact Nat.le_refl _)
        have h2 := HSUM.out k
        rw [hS]
        omega
      clear hS
      by_cases hbig : 16000 < S.size
      · have HR := Lib.hid (HBIG.out hbig)
        have hbI : (16000 : Int) < (S.size : Int) := by omega
        go_wp2_with (go_at_call 24; refine (Tryd.Builder_Len w.heap.size w.heap.size _ _ HI.out).mono ?_; rintro e w' ⟨rfl, rfl⟩; rw [HLN.out])
        go_ret2
        exact ⟨by rw [HR.out.1, HR.out.2]; rfl, HB.out⟩
      · have HR := Lib.hid (HYES.out (by omega))
        have hbI : ¬ (16000 : Int) < (S.size : Int) := by omega
        go_wp2_with (go_at_call 24; refine (Tryd.Builder_Len w.heap.size w.heap.size _ _ HI.out).mono ?_; rintro e w' ⟨rfl, rfl⟩; rw [HLN.out])
        refine (Tryd.Builder_String_any w.heap.size w.heap.size S.data.toList _ HI.out hszw).mono ?_
        rintro e w3 ⟨rfl, hb3⟩
        have HB3 := Lib.hid (HB.out.trans hb3)
        have HSS : Hid ((⟨S.data.toList.toArray⟩ : ByteArray) = S) := by
          show _ = _
          simp
        rw [HSS.out]
        clear hb3
        go_wp2_with fail
        go_ret2
        exact ⟨by rw [HR.out.1, HR.out.2]; rfl, HB3.out⟩

end Go.Proofs.YtkkcgclliomocaaDoor

namespace Go.Proofs.YtkkcgclliomocaaDoor
open Go.RowKit

def HasMax (w : World) : Prop := ∃ m, w.cell? ⟨0, 0, none⟩ = some (.int .i64 m)
theorem HasMax.up {w w' : World} {B : Nat} (h : HasMax w) (hb : Below B w w') (hB : w.heap.size ≤ B) : HasMax w' := by
  obtain ⟨m, hm⟩ := h
  exact ⟨m, held_of hb hm hB⟩
theorem Cut_any (l : List UInt8) (c : UInt8) (w : World) (h : HasMax w) (hl : l.length ≤ 1048576) (B : Nat) (hB : B ≤ w.heap.size) :
    Calls Tryd.prog 27 #[.string (mkB l), .string ⟨#[c]⟩] w fun e w' => e = .returned (.tuple #[.string (mkB (Lib.cut l [c]).1), .string (mkB (Lib.cut l [c]).2.1), .bool (Lib.cut l [c]).2.2]) ∧ Below B w w' := by
  obtain ⟨m, hm⟩ := h
  refine (Tryd.strings_Cut (mkB l) ⟨#[c]⟩ m w (by rw [mkB_size]; omega) hm).mono ?_
  rintro e w' ⟨rfl, n, rfl⟩
  refine ⟨?_, (below_drewN (Below.refl _ _) _).mono hB⟩
  rw [mkB_list]
  rfl

set_option maxHeartbeats 2000000 in
set_option maxRecDepth 4000 in
theorem recoverI_any (t : ByteArray) (w : World) (hp : HasPow w) (hm : HasMax w) :
    Calls Tryd.prog 14 #[.string t] w fun e w' => ∃ v', e = .returned (.tuple #[v', .int .i64 (rjN t), .bool (rjOk t)]) ∧ OwnSs w.heap.size w'.heap.size w' v' (rjR t) ∧ Below w.heap.size w w' := by
  have HP := Lib.hid hp
  have HM := Lib.hid hm
  clear hp hm
  by_cases hbig : 16000 < t.size
  · have HR := Lib.hid (show rjR t = [] ∧ rjN t = 0 ∧ rjOk t = false by unfold rjR rjN rjOk; rw [if_neg (by omega), if_neg (by omega)]; exact ⟨rfl, rfl, by simp; omega⟩)
    rw [HR.out.1, HR.out.2.1, HR.out.2.2]
    by_cases hmx : t.size ≤ 9223372036854775807
    · have hbI : (16000 : Int) < (t.size : Int) := by omega
      go_enter Tryd.func14, Tryd.ntmps14
      go_wp2_with fail
      refine bodyPost_ret (v := .tuple #[.slice none 0 0, .int .i64 0, .bool false]) (by simp [results, Tryd.results14, go_sem, *]) rfl ?_
      exact ⟨_, rfl, ⟨⟨World.ownsRow_nil _ _ _ _, by intro g hg; cases hg⟩, by intro s hs; simp at hs⟩, Below.refl _ _⟩
    · have hbI : (16000 : Int) < (t.size : Int) := by omega
      go_enter Tryd.func14, Tryd.ntmps14
      go_wp2_with fail
      refine bodyPost_ret (v := .tuple #[.slice none 0 0, .int .i64 0, .bool false]) (by simp [results, Tryd.results14, go_sem, *]) rfl ?_
      exact ⟨_, rfl, ⟨⟨World.ownsRow_nil _ _ _ _, by intro g hg; cases hg⟩, by intro s hs; simp at hs⟩, Below.refl _ _⟩
  have HR := Lib.hid (show rjR t = (rjP t).1 ∧ rjN t = (rjP t).2 ∧ rjOk t = true by unfold rjR rjN rjOk; rw [if_pos (by omega), if_pos (by omega)]; exact ⟨rfl, rfl, by simp; omega⟩)
  rw [HR.out.1, HR.out.2.1, HR.out.2.2]
  have HT := Lib.hid (show rjP t = recJ 0 (linesL t.data.toList) from rfl)
  have HTL := Lib.hid (show t.data.toList.length = t.size by rw [Array.length_toList]; rfl)
  have HTB := Lib.hid (mkB_of t)
  have hts : t.size ≤ 16000 := by omega
  have hbI : ¬ (16000 : Int) < (t.size : Int) := by omega
  obtain ⟨RR, hRR⟩ : ∃ RR, RR = rjP t := ⟨_, rfl⟩
  rw [← hRR] at HT ⊢
  clear hRR HR hbig
  go_enter Tryd.func14, Tryd.ntmps14
  go_wp2_with fail
  go_loopw [5, 6, 7, 8] (fun ov cv nv rv wr => ∃ (O : List ByteArray) (c n k : Nat) (r : List UInt8) (a : Option Addr) (cap : Nat), ov = .slice a k cap ∧ cv = .int .i64 c ∧ nv = .int .i64 n ∧ rv = .string (mkB r) ∧ c < 65003 ∧ k ≤ n ∧ n + r.length = t.size ∧ Hid (O.length = k ∧ ∀ s ∈ O, s.size ≤ maxLen) ∧ Hid (RR = (O ++ (recJ c (linesL r)).1, n + (recJ c (linesL r)).2)) ∧ Hid (wr.ownsRow w.heap.size 9 1 (.slice a k cap) k (O.map SV)) ∧ Hid (Below w.heap.size w wr)) (fun _ _ _ rv _ => match rv with | .string s => s.size | _ => 0)
  case atStart => exact ⟨[], 0, 0, 0, t.data.toList, none, 0, rfl, rfl, rfl, by rw [HTB.out], by omega, Nat.le_refl _, by rw [HTL.out]; omega, Lib.hid ⟨rfl, by intro s hs; simp at hs⟩, Lib.hid (by rw [HT.out]; simp), Lib.hid (World.ownsRow_nil _ _ _ _), Lib.hid (Below.refl _ _)⟩
  case round =>
    obtain ⟨O, c, n, k, r, a, cap, rfl, rfl, rfl, rfl, hc0, hkn, hnr, HK, HD, HO, HB⟩ := hrel
    have hszw := HB.out.size
    have HMr := Lib.hid (HM.out.up HB.out (Nat.le_refl _))
    by_cases hnl : (10 : UInt8) ∈ r
    · obtain ⟨e, r2, hr, hne⟩ := List.eq_append_cons_of_mem hnl
      have HLN := Lib.hid (show linesL r = e :: linesL r2 by rw [hr]; exact linesL_hit hne)
      have HCT := Lib.hid (show Lib.cut r [10] = (e, r2, true) by rw [hr]; exact cut_hit hne)
      have hlen : r.length = e.length + (r2.length + 1) := by rw [hr]; simp
      clear hnl hr hne
      go_wp2_with fail
      refine (Cut_any r 10 wr HMr.out (by omega) wr.heap.size (Nat.le_refl _)).mono ?_
      rintro e1 w1 ⟨rfl, hb1⟩
      rw [HCT.out]
      simp only
      have HB1 := Lib.hid (HB.out.trans (hb1.mono hszw))
      have HO1 := Lib.hid (owns_below HO.out hb1 (Nat.le_refl _))
      have HM1 := Lib.hid (HMr.out.up hb1 (Nat.le_refl _))
      have hsz1 := HB1.out.size
      clear hb1
      by_cases hsp : (32 : UInt8) ∈ e
      · obtain ⟨wd, ln, he, hnw⟩ := List.eq_append_cons_of_mem hsp
        have HCE := Lib.hid (show Lib.cut e [32] = (wd, ln, true) by rw [he]; exact cut_hit hnw)
        have hlen2 : e.length = wd.length + (ln.length + 1) := by rw [he]; simp
        have HBAD := Lib.hid (show mkB wd ≠ decS (chkN c (mkB ln)) → recJ c (linesL r) = ([], 0) from fun h => by rw [HLN.out, he]; exact recJ_bad _ hnw h)
        have HGOOD := Lib.hid (show mkB wd = decS (chkN c (mkB ln)) → recJ c (linesL r) = (mkB ln :: (recJ (chkN c (mkB ln)) (linesL r2)).1, e.length + 1 + (recJ (chkN c (mkB ln)) (linesL r2)).2) from fun h => by rw [HLN.out, he]; exact recJ_good _ hnw h)
        clear hsp he hnw
        go_wp2_with fail
        refine (Cut_any e 32 w1 HM1.out (by omega) w1.heap.size (Nat.le_refl _)).mono ?_
        rintro e2 w2 ⟨rfl, hb2⟩
        rw [HCE.out]
        simp only
        have HB2 := Lib.hid (HB1.out.trans (hb2.mono hsz1))
        have HO2 := Lib.hid (owns_below HO1.out hb2 (Nat.le_refl _))
        have hsz2 := HB2.out.size
        clear hb2
        have HCK := Lib.hid (chkN_eq hc0 (mkB ln))
        have hc1 := chkN_lt hc0 (mkB ln)
        have HLS := Lib.hid (show (mkB ln).size ≤ 1048576 by rw [mkB_size]; omega)
        obtain ⟨y, hy⟩ : ∃ y, y = chkN c (mkB ln) := ⟨_, rfl⟩
        obtain ⟨L, hL⟩ : ∃ L, L = mkB ln := ⟨_, rfl⟩
        obtain ⟨WD, hWD⟩ : ∃ WD, WD = mkB wd := ⟨_, rfl⟩
        rw [← hy] at HCK hc1 HBAD HGOOD
        rw [← hL] at HCK HGOOD HLS ⊢
        rw [← hWD] at HBAD HGOOD ⊢
        clear hy hL hWD
        go_upto_region 9 with (go_at_call 21; refine (implCheck_any c L _ (by omega) (by omega) (by have := HLS.out; unfold maxLen; omega)).mono ?_; rintro e w' ⟨rfl, rfl⟩; rw [HCK.out])
        go_wp2_with fail
        refine (Decimal_any y (by omega) _ (HP.out.up HB2.out (Nat.le_refl _))).mono ?_
        rintro e3 w3 ⟨rfl, hb3⟩
        have HB3 := Lib.hid (HB2.out.trans (hb3.mono hsz2))
        have HO3 := Lib.hid (owns_below HO2.out hb3 (Nat.le_refl _))
        have hsz3 := HB3.out.size
        obtain ⟨DY, hDY⟩ : ∃ DY, DY = decS y := ⟨_, rfl⟩
        rw [← hDY] at HBAD HGOOD ⊢
        clear hb3 hDY
        by_cases hd : WD = DY
        · subst hd
          have HRJ := Lib.hid (HGOOD.out rfl)
          have hes : (mkB e).size = e.length := mkB_size e
          obtain ⟨ME, hME⟩ : ∃ ME, ME = mkB e := ⟨_, rfl⟩
          rw [← hME] at hes ⊢
          have HES := Lib.hid hes
          have hel : ME.size ≤ 16000 := by omega
          have hHN := Lib.hid (show n + ME.size + 1 = n + e.length + 1 by omega)
          clear hes hME
          go_wp2_with (first
            | (at_builtin; refine app_strs rfl _ _ rfl w.heap.size _ k O rfl (owns_below HO3.out ((Below.refl _ _).alloc (Nat.le_refl _) _) (Nat.le_refl _)) _ [L] rfl (slcS_one w3 L _ rfl) (k + 1) (O ++ [L]) rfl rfl (by omega) (by simp; omega) ?_; intro a' cap' w4 r1 r3 _)
            | (go_at_call 28; refine (size_any _ _ (by unfold maxLen; omega)).mono ?_; rintro e w' ⟨rfl, rfl⟩))
          go_roundw
          case rel =>
            refine ⟨O ++ [L], y, n + (ME.size + 1), k + 1, r2, a', cap', by go_num, by go_num, by go_num, rfl, hc1, by omega, by have := HES.out; omega, Lib.hid ⟨by rw [List.length_append, HK.out.1]; rfl, ?_⟩, Lib.hid ?_, Lib.hid r1, Lib.hid ((HB3.out.alloc hsz3 _).trans r3)⟩
            · intro s hs
              rcases List.mem_append.1 hs with h | h
              · exact HK.out.2 s h
              · rw [List.mem_singleton] at h
                rw [h]; have := HLS.out; unfold maxLen; omega
            · have h1 := HD.out
              have h2 := HRJ.out
              have h3 := HES.out
              show RR = _
              rw [h1, h2]
              refine Prod.ext ?_ ?_
              · simp
              · simp only; omega
          case measure =>
            show (mkB r2).size < (mkB r).size
            rw [mkB_size, mkB_size]; omega
        · have hne : (WD.toList == DY.toList) = false := str_ne hd
          have HRJ := Lib.hid (HBAD.out hd)
          have HEQ := Lib.hid (show RR = (O, n) by rw [HD.out, HRJ.out]; simp)
          have HOF := HO3
          have HBF := HB3
          clear hd
          go_wp2_with fail
          refine bodyPost_ret (v := .tuple #[.slice a k cap, .int .i64 n, .bool true]) (by simp [results, Tryd.results14, go_sem, *]) rfl ?_
          rw [HEQ.out]
          refine ⟨_, rfl, OwnSs.mk HOF.out HK.out.2, HBF.out⟩
      · have HRJ := Lib.hid (show recJ c (linesL r) = ([], 0) by rw [HLN.out]; exact recJ_no _ hsp)
        have HCE := Lib.hid (cut_none hsp)
        clear hsp
        go_wp2_with fail
        refine (Cut_any e 32 w1 HM1.out (by omega) w1.heap.size (Nat.le_refl _)).mono ?_
        rintro e2 w2 ⟨rfl, hb2⟩
        rw [HCE.out]
        simp only
        have HB2 := Lib.hid (HB1.out.trans (hb2.mono hsz1))
        have HO2 := Lib.hid (owns_below HO1.out hb2 (Nat.le_refl _))
        have HCK := Lib.hid (chkN_eq hc0 (mkB []))
        have HLS := Lib.hid (show (mkB []).size ≤ 1048576 by rw [mkB_size]; simp)
        obtain ⟨L, hL⟩ : ∃ L, L = mkB [] := ⟨_, rfl⟩
        rw [← hL] at HCK HLS ⊢
        have HEQ := Lib.hid (show RR = (O, n) by rw [HD.out, HRJ.out]; simp)
        have HOF := HO2
        have HBF := HB2
        clear hb2 hL
        go_upto_region 9 with (go_at_call 21; refine (implCheck_any c L _ (by omega) (by omega) (by have := HLS.out; unfold maxLen; omega)).mono ?_; rintro e w' ⟨rfl, rfl⟩; rw [HCK.out])
        go_wp2_with fail
        refine bodyPost_ret (v := .tuple #[.slice a k cap, .int .i64 n, .bool true]) (by simp [results, Tryd.results14, go_sem, *]) rfl ?_
        rw [HEQ.out]
        refine ⟨_, rfl, OwnSs.mk HOF.out HK.out.2, HBF.out⟩
    · have HCT := Lib.hid (cut_none hnl)
      have HEQ := Lib.hid (show RR = (O, n) by rw [HD.out, linesL_none hnl]; simp [recJ])
      have HLB := Lib.hid (show (Lib.cut r [32]).2.1.length ≤ r.length by
        by_cases hsp : (32 : UInt8) ∈ r
        · obtain ⟨wd, ln, he, hnw⟩ := List.eq_append_cons_of_mem hsp
          rw [he, cut_hit hnw]; simp
          omega
        · rw [cut_none hsp]; simp)
      clear hnl
      go_wp2_with fail
      refine (Cut_any r 10 wr HMr.out (by omega) wr.heap.size (Nat.le_refl _)).mono ?_
      rintro e1 w1 ⟨rfl, hb1⟩
      rw [HCT.out]
      simp only
      have HB1 := Lib.hid (HB.out.trans (hb1.mono hszw))
      have HO1 := Lib.hid (owns_below HO.out hb1 (Nat.le_refl _))
      have HM1 := Lib.hid (HMr.out.up hb1 (Nat.le_refl _))
      have hsz1 := HB1.out.size
      clear hb1
      go_wp2_with fail
      refine (Cut_any r 32 w1 HM1.out (by omega) w1.heap.size (Nat.le_refl _)).mono ?_
      rintro e2 w2 ⟨rfl, hb2⟩
      have HBF := Lib.hid (HB1.out.trans (hb2.mono hsz1))
      have HOF := Lib.hid (owns_below HO1.out hb2 (Nat.le_refl _))
      clear hb2
      have HLS := Lib.hid (show (mkB (Lib.cut r [32]).2.1).size ≤ 1048576 by rw [mkB_size]; have := HLB.out; omega)
      have HCK := Lib.hid (chkN_eq hc0 (mkB (Lib.cut r [32]).2.1))
      obtain ⟨L, hL⟩ : ∃ L, L = mkB (Lib.cut r [32]).2.1 := ⟨_, rfl⟩
      obtain ⟨WD, hWD⟩ : ∃ WD, WD = mkB (Lib.cut r [32]).1 := ⟨_, rfl⟩
      obtain ⟨q, hq⟩ : ∃ q, q = (Lib.cut r [32]).2.2 := ⟨_, rfl⟩
      rw [← hL] at HLS HCK ⊢
      rw [← hWD, ← hq]
      clear hL hWD hq
      go_upto_region 9 with (go_at_call 21; refine (implCheck_any c L _ (by omega) (by omega) (by have := HLS.out; unfold maxLen; omega)).mono ?_; rintro e w' ⟨rfl, rfl⟩; rw [HCK.out])
      go_wp2_with fail
      refine bodyPost_ret (v := .tuple #[.slice a k cap, .int .i64 n, .bool true]) (by simp [results, Tryd.results14, go_sem, *]) rfl ?_
      rw [HEQ.out]
      refine ⟨_, rfl, OwnSs.mk HOF.out HK.out.2, HBF.out⟩

end Go.Proofs.YtkkcgclliomocaaDoor

namespace Go.Proofs.YtkkcgclliomocaaDoor
open Go.RowKit

theorem splitK_parts (c : UInt8) : ∀ (k : Nat) (l : List UInt8), l.length ≤ k → Lib.splitK [c] 0 (Lib.count l [c]) l = partsC c l
  | 0, l, h => by
    obtain rfl : l = [] := List.length_eq_zero_iff.1 (by omega)
    rw [Lib.count_miss (index_none (by simp))]
    rfl
  | k + 1, l, h => by
    by_cases hc : c ∈ l
    · obtain ⟨l1, l2, rfl, h1⟩ := List.eq_append_cons_of_mem hc
      have hi := index_hit (l2 := l2) h1
      rw [Lib.count_hit (by simp) hi, Nat.add_comm, partsC_hit h1]
      simp only [Lib.splitK]
      rw [hi, if_neg (by simp)]
      have h2 : (l1 ++ c :: l2).drop (l1.length + [c].length) = l2 := by simp
      have h3 : (((l1.length : Nat) : Int)).toNat = l1.length := by omega
      rw [h3, h2, splitK_parts c k l2 (by simp at h; omega)]
      simp
    · rw [Lib.count_miss (index_none hc), partsC_none hc]
      rfl
theorem splitB_cutS (c : UInt8) (s : ByteArray) : Lib.splitB ⟨#[c]⟩ 0 (Lib.countB s ⟨#[c]⟩) s = cutS c s := by
  have h := Lib.splitB_data ⟨#[c]⟩ 0 (Lib.countB s ⟨#[c]⟩) s
  have h2 : Lib.countB s ⟨#[c]⟩ = Lib.count s.data.toList [c] := rfl
  rw [h2] at h ⊢
  rw [show (⟨#[c]⟩ : ByteArray).data.toList = [c] from rfl, splitK_parts c _ _ (Nat.le_refl _)] at h
  unfold cutS
  rw [← h, List.map_map]
  conv => lhs; rw [← List.map_id (Lib.splitB _ _ _ _)]
  refine List.map_congr_left fun x _ => ?_
  exact (mkB_of x).symm

theorem last_nil (c : UInt8) : ∀ (k : Nat) (l : List UInt8), l.length ≤ k → l ≠ [] → ((partsC c l).getLast? = some [] ↔ l.getLast? = some c)
  | 0, l, h, hn => absurd (List.length_eq_zero_iff.1 (by omega)) hn
  | k + 1, l, h, hn => by
    by_cases hc : c ∈ l
    · obtain ⟨l1, l2, rfl, h1⟩ := List.eq_append_cons_of_mem hc
      rw [partsC_hit h1]
      have hp : (l1 :: partsC c l2).getLast? = (partsC c l2).getLast? := by
        obtain ⟨x, y, hxy⟩ : ∃ x y, partsC c l2 = x :: y := by
          cases hh : partsC c l2 with
          | nil => exact absurd hh (partsC_ne _ _)
          | cons x y => exact ⟨x, y, rfl⟩
        rw [hxy, List.getLast?_cons_cons]
      rw [hp]
      cases l2 with
      | nil => simp [partsC]
      | cons x y =>
        rw [last_nil c k (x :: y) (by simp at h ⊢; omega) (by simp)]
        simp [List.getLast?_append, List.getLast?_cons_cons]
    · rw [partsC_none hc]
      constructor
      · intro h0; simp at h0; exact absurd h0 hn
      · intro h0; exact absurd (List.mem_of_getLast? h0) hc

def lastP (t : ByteArray) : ByteArray := (cutS 10 t).getD ((cutS 10 t).length - 1) E0
theorem lastP_last (t : ByteArray) : ∃ e, (partsC 10 t.data.toList).getLast? = some e ∧ lastP t = mkB e := by
  obtain ⟨e, he⟩ : ∃ e, (partsC 10 t.data.toList).getLast? = some e := by
    cases h : (partsC 10 t.data.toList).getLast? with
    | none => exact absurd (List.getLast?_eq_none_iff.1 h) (partsC_ne _ _)
    | some e => exact ⟨e, rfl⟩
  refine ⟨e, he, ?_⟩
  rw [List.getLast?_eq_getElem?] at he
  unfold lastP cutS
  rw [List.length_map, List.getD_eq_getElem?_getD, List.getElem?_map, he]
  rfl
theorem lastP_empty : (lastP ⟨#[]⟩).size = 0 := by decide +kernel
theorem lastP_size {t : ByteArray} (h : 0 < t.size) : (lastP t).size = 0 ↔ t[t.size - 1] = 10 := by
  obtain ⟨e, he, hl⟩ := lastP_last t
  have hlen : t.data.toList.length = t.size := by rw [Array.length_toList]; rfl
  have hn : t.data.toList ≠ [] := by intro h0; rw [h0] at hlen; simp at hlen; omega
  have h1 := last_nil 10 _ t.data.toList (Nat.le_refl _) hn
  have h2 : t.data.toList.getLast? = some t[t.size - 1] := by
    rw [List.getLast?_eq_getElem?, hlen, List.getElem?_eq_getElem (by omega), Array.getElem_toList]
    rfl
  rw [he, h2] at h1
  rw [hl, mkB_size]
  constructor
  · intro h0
    have : e = [] := List.length_eq_zero_iff.1 h0
    rw [this] at h1
    simpa using h1.1 rfl
  · intro h0
    rw [h0] at h1
    have := h1.2 rfl
    simp at this
    rw [this]; rfl

def coOk (t : ByteArray) : Bool := decide (t.size ≤ 16000) && decide ((lastP t).size = 0)
def isBad (s : ByteArray) : Bool := (s.toList == [110, 111]) || (s.toList == [119, 104, 97, 116])
def badK (L : List ByteArray) : Nat → Nat
  | 0 => 0
  | k + 1 => badK L k + (if isBad (L.getD k E0) = true then 1 else 0)
theorem badK_le (L : List ByteArray) : ∀ k, badK L k ≤ k
  | 0 => Nat.le_refl _
  | k + 1 => by have := badK_le L k; simp only [badK]; split <;> omega
def linesS (t : ByteArray) : List ByteArray := (linesL t.data.toList).map mkB
def coBad (t : ByteArray) : Nat := if coOk t = true then badK (linesS t) (linesS t).length else 0
def coGood (t : ByteArray) : Nat := if coOk t = true then (linesS t).length - badK (linesS t) (linesS t).length else 0
theorem coNo {t : ByteArray} (h : coOk t = false) : coBad t = 0 ∧ coGood t = 0 := by unfold coBad coGood; rw [h]; exact ⟨rfl, rfl⟩
theorem coYes {t : ByteArray} (h : coOk t = true) : coBad t = badK (linesS t) (linesS t).length ∧ coGood t = (linesS t).length - badK (linesS t) (linesS t).length := by unfold coBad coGood; rw [if_pos h, if_pos h]; exact ⟨rfl, rfl⟩
theorem linesS_cnt (t : ByteArray) : (linesS t).length = (cutS 10 t).length - 1 := by unfold linesS; rw [cutS_lines, List.length_dropLast]
theorem linesS_le (t : ByteArray) : (linesS t).length ≤ t.size := by have := linesS_cnt t; have := cutS_cnt 10 t; omega

end Go.Proofs.YtkkcgclliomocaaDoor
