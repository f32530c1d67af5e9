/-
  FnExactRecoverJournal: texts joined: RcJS, MarkJ, StoreI, Step, ClauseS, CaseVS, StoreS, StoreT, MarkText, MarkSs, LFnExactRecoverJournal.
-/
import Derived.Deep.RegionHeld3
import Derived.Deep.Cut
import Derived.Deep.CutRange
import Derived.Lib.ConvBytes
import Derived.Test.YtkkcgclliomocaaDoorMERecoverJournalAB
import Derived.Test.YtkkcgclliomocaaDoorMERecoverJournalAC
import Derived.Test.YtkkcgclliomocaaDoorMERecoverJournalAD
import Derived.Test.YtkkcgclliomocaaDoorMERecoverJournalAE
namespace Go.Proofs.YtkkcgclliomocaaDoor
open Go.RowKit

theorem partsC_size (c : UInt8) : ∀ (l e : List UInt8), e ∈ partsC c l → e.length ≤ l.length
  | [], e, h => by simp [partsC] at h; subst h; simp
  | b :: r, e, h => by
    have ih := partsC_size c r
    simp only [partsC] at h
    split at h
    · rcases List.mem_cons.1 h with h | h
      · subst h; simp
      · have := ih e h; simp; omega
    · cases hp : partsC c r with
      | nil => rw [hp] at h; simp at h; subst h; simp
      | cons x y =>
        rw [hp] at h ih
        rcases List.mem_cons.1 h with h | h
        · subst h; have := ih x (by simp); simp; omega
        · have := ih e (by simp [h]); simp; omega
theorem linesL_size {l e : List UInt8} (h : e ∈ linesL l) : e.length ≤ l.length := partsC_size 10 l e (List.dropLast_subset _ h)
theorem linesL_cnt (l : List UInt8) : (linesL l).length ≤ l.length := by
  unfold linesL
  rw [List.length_dropLast]
  have := partsC_cnt 10 l
  omega
/-- A line parted at its first blank. -/
theorem split_at {e : List UInt8} {j : Nat} (hj : j < (mkB e).size) (hn : NoC 32 (mkB e) 0 j) (hc : (mkB e)[j] = 32) : e = e.take j ++ 32 :: e.drop (j + 1) ∧ (32 : UInt8) ∉ e.take j ∧ (mkB e).extract 0 j = mkB (e.take j) ∧ (mkB e).extract (j + 1) (mkB e).size = mkB (e.drop (j + 1)) := by
  have h1 := drop_split (s := mkB e) (f := 0) (Nat.zero_le j) hj
  have h2 := noC_mem hn (Nat.le_of_lt hj)
  rw [mkB_list, hc, List.drop_zero, Nat.sub_zero] at h1
  rw [mkB_list, List.drop_zero, Nat.sub_zero] at h2
  refine ⟨h1, h2, ?_, ?_⟩
  · refine ByteArray.ext ?_
    rw [ByteArray.data_extract]
    refine Array.ext' ?_
    simp [mkB, Array.toList_extract, List.extract_eq_take_drop]
  · refine ByteArray.ext ?_
    rw [ByteArray.data_extract]
    refine Array.ext' ?_
    simp only [mkB, Array.toList_extract, List.extract_eq_take_drop]
    rw [List.take_of_length_le]
    rw [List.length_drop, ← mkB_size e]
    exact Nat.le_refl _
theorem noC_all {e : List UInt8} (hn : NoC 32 (mkB e) 0 (mkB e).size) : (32 : UInt8) ∉ e := by
  have h2 := noC_mem hn (Nat.le_refl _)
  rw [mkB_list, List.drop_zero, Nat.sub_zero, mkB_size, List.take_of_length_le (Nat.le_refl _)] at h2
  exact h2

set_option maxHeartbeats 4000000 in
set_option maxRecDepth 4000 in
theorem l08Recover_any (t : ByteArray) (w : World) (ht : t.size ≤ 1048576) :
    Calls Tryd.prog 26 #[.string t] w fun e w' => ∃ v', e = .returned (.tuple #[v', .int .i64 (rjP t).2]) ∧ OwnSs w.heap.size w'.heap.size w' v' (rjP t).1 ∧ Below w.heap.size w w' := by
  have HT := Lib.hid (show rjP t = recJ 0 (linesL t.data.toList) from rfl)
  have HTL := Lib.hid (show t.data.toList.length = t.size by rw [Array.length_toList]; rfl)
  have HLS := Lib.hid (fun W => l08Lines_any t W ht)
  obtain ⟨RR, hRR⟩ : ∃ RR, RR = rjP t := ⟨_, rfl⟩
  rw [← hRR] at HT ⊢
  clear hRR
  go_enter Tryd.func26, Tryd.ntmps26
  go_wp2_with fail
  refine (HLS.out _).mono ?_
  rintro e w1 ⟨la, m0, lc, _, rfl, hsl, hb1⟩
  have HB1 := Lib.hid hb1
  have HZ := Lib.hid (show ∀ e ∈ linesL t.data.toList, e.length ≤ 1048576 from fun e he => by have := linesL_size he; have := HTL.out; omega)
  have hcnt : (linesL t.data.toList).length ≤ 1048576 := by have := linesL_cnt t.data.toList; have := HTL.out; omega
  obtain ⟨LN, hLN⟩ : ∃ LN, LN = linesL t.data.toList := ⟨_, rfl⟩
  rw [← hLN] at hsl HT HZ hcnt
  obtain rfl : m0 = LN.length := by
    obtain ⟨_, _, e⟩ := Slc.shape hsl
    simp only [Value.slice.injEq] at e
    rw [e.2.1]; simp
  obtain ⟨m, hm⟩ : ∃ m, m = LN.length := ⟨_, rfl⟩
  rw [← hm] at hsl hcnt ⊢
  have HSL := Lib.hid hsl
  have HSL1 := Lib.hid hsl
  have HML := Lib.hid hm
  clear hb1 hLN hsl hm HLS
  go_upto_region 6 with fail
  refine wp_at fun W2 hW2 => ?_
  have HO0 := Lib.hid (show W2.ownsRow w1.heap.size 9 1 (.slice (some ⟨w1.heap.size, 0, none⟩) 0 0) 0 (([] : List ByteArray).map SV) by
    subst hW2
    have h := World.ownsRow_lit (base := w1.heap.size) (e := 9) (size := 1) w1 #[] 0 (Nat.le_refl _) (by simp [maxLen]) rfl
    simpa using h)
  have HB0 := Lib.hid (show Below w1.heap.size w1 W2 by subst hW2; exact (Below.refl _ _).alloc (Nat.le_refl _) _)
  have hz1 := HB1.out.size
  clear hW2
  go_loopw [6, 7, 8, 9] (fun ov cv nv iv wr => ∃ (O : List ByteArray) (c n k i : Nat) (a : Option Addr) (cap : Nat), ov = .slice a k cap ∧ cv = .int .i64 c ∧ nv = .int .i64 n ∧ iv = .int .i64 i ∧ c < 65003 ∧ k ≤ i ∧ i ≤ m ∧ n ≤ i * 1048578 ∧ Hid (O.length = k ∧ ∀ s ∈ O, s.size ≤ maxLen) ∧ Hid (RR = (O ++ (recJ c (LN.drop i)).1, n + (recJ c (LN.drop i)).2)) ∧ Hid (wr.ownsRow w1.heap.size 9 1 (.slice a k cap) k (O.map SV)) ∧ Hid (Below w1.heap.size w1 wr)) (fun _ _ _ iv _ => m - (intOf iv).toNat)
  case atStart => exact ⟨[], 0, 0, 0, 0, _, _, rfl, rfl, rfl, rfl, by omega, Nat.le_refl _, Nat.zero_le _, by omega, Lib.hid ⟨rfl, by intro s hs; simp at hs⟩, Lib.hid (by rw [HT.out]; simp), HO0, HB0⟩
  case round =>
    clear HO0 HB0
    obtain ⟨O, c, n, k, i, a, cap, rfl, rfl, rfl, rfl, hc0, hki, him, hni, HK, HD, HO, HB⟩ := hrel
    have hszw := HB.out.size
    replace HSL := Lib.hid (Slc.below HSL.out HB.out (Nat.le_refl _))
    by_cases hlt : i < m
    · have hltI : (i : Int) < (m : Int) := by omega
      have hil : i < LN.length := by rw [← HML.out]; exact hlt
      have HDR := Lib.hid (List.drop_eq_getElem_cons hil)
      have HZI := Lib.hid (HZ.out _ (List.getElem_mem hil))
      obtain ⟨b, off, rfl, hb0, hcl⟩ := Slc.at HSL.out (show ((LN.map mkB).map SV)[i]? = some (.string (mkB LN[i])) by simp [hil, SV])
      obtain ⟨e, he⟩ : ∃ e, e = LN[i] := ⟨_, rfl⟩
      rw [← he] at HDR HZI hcl
      clear he
      have hes : (mkB e).size = e.length := mkB_size e
      have HSPL := Lib.hid (fun (j : Nat) (hj : j < (mkB e).size) (hn : NoC 32 (mkB e) 0 j) (hc : (mkB e)[j] = 32) => split_at hj hn hc)
      have HALL := Lib.hid (fun (hn : NoC 32 (mkB e) 0 (mkB e).size) => noC_all hn)
      obtain ⟨M, hM⟩ : ∃ M, M = mkB e := ⟨_, rfl⟩
      rw [← hM] at hcl hes HSPL HALL
      have hMs : M.size ≤ 1048576 := by rw [hes]; exact HZI.out
      have HES := Lib.hid hes
      have HM := Lib.hid hM
      clear hM hes
      go_wp2_with fail
      go_loop [10] (fun jv => ∃ j : Nat, jv = .int .i64 j ∧ j ≤ M.size ∧ Hid (NoC 32 M 0 j)) (fun jv => M.size - (intOf jv).toNat)
      case atStart => exact ⟨0, rfl, Nat.zero_le _, Lib.hid (by intro j hj h0 h1; omega)⟩
      case round =>
        obtain ⟨j, rfl, hj, HN⟩ := hrel
        by_cases hjm : j < M.size
        · have hjI : (j : Int) < (M.size : Int) := by omega
          by_cases hc : M[j] = 32
          · have hq : ((M[j].toNat : Int) != 32) = false := by rw [hc]; rfl
            have HS := Lib.hid (HSPL.out j hjm HN.out hc)
            clear hc
            go_wp2_with fail
            rw [HS.out.2.2.2]
            have HBAD := Lib.hid (show mkB (e.take j) ≠ decS (chkN c (mkB (e.drop (j + 1)))) → recJ c (LN.drop i) = ([], 0) from fun h => by
              have := recJ_bad (c := c) (LN.drop (i + 1)) HS.out.2.1 h
              rw [HDR.out]; rw [← HS.out.1] at this; exact this)
            have HGOOD := Lib.hid (show mkB (e.take j) = decS (chkN c (mkB (e.drop (j + 1)))) → recJ c (LN.drop i) = (mkB (e.drop (j + 1)) :: (recJ (chkN c (mkB (e.drop (j + 1)))) (LN.drop (i + 1))).1, e.length + 1 + (recJ (chkN c (mkB (e.drop (j + 1)))) (LN.drop (i + 1))).2) from fun h => by
              have := recJ_good (c := c) (LN.drop (i + 1)) HS.out.2.1 h
              rw [HDR.out]; rw [← HS.out.1] at this; exact this)
            have HLZ := Lib.hid (show (mkB (e.drop (j + 1))).size ≤ 1048576 by rw [mkB_size, List.length_drop]; have := HZI.out; omega)
            have HX0 := Lib.hid HS.out.2.2.1
            have HCK := Lib.hid (chkN_eq hc0 (mkB (e.drop (j + 1))))
            have hc1 := chkN_lt hc0 (mkB (e.drop (j + 1)))
            obtain ⟨y, hy⟩ : ∃ y, y = chkN c (mkB (e.drop (j + 1))) := ⟨_, rfl⟩
            rw [← hy] at HBAD HGOOD HCK hc1
            have HDC := Lib.hid (fun W => l01Dec_any y (by omega) W)
            obtain ⟨D, hD⟩ : ∃ D, D = decS y := ⟨_, rfl⟩
            rw [← hD] at HBAD HGOOD HDC
            obtain ⟨L, hL⟩ : ∃ L, L = mkB (e.drop (j + 1)) := ⟨_, rfl⟩
            rw [← hL] at HGOOD HLZ HCK ⊢
            clear hy hD hL HS
            refine (specCheck_any c L _ (by omega) (by omega) (by have := HLZ.out; unfold maxLen; omega)).mono ?_
            rintro e2 w2 ⟨rfl, rfl⟩
            rw [HCK.out]
            have hj0 : (0 : Int) ≤ (j : Int) := by omega
            have hj1 : (j : Int) ≤ (M.size : Int) := by omega
            have hjt : ((j : Int)).toNat = j := by omega
            by_cases hd : mkB (e.take j) = D
            · have hcmp : ((M.extract 0 j).toList == D.toList) = true := by rw [HX0.out, hd]; simp
              have HRJ := Lib.hid (HGOOD.out hd)
              clear hd
              go_wp2_with fail
              go_region_held3 (fun X => X.cell? ⟨b, off + i, none⟩ = some (.string M) ∧ Below wr.heap.size wr X)
                (first | exact ⟨held_of hbn hcl (Nat.le_refl _), hbn⟩ | exact ⟨hcl, (Below.refl _ _).drew⟩ | go_keep)
                (first
                  | (go_at_call 33; have hcur := (‹_ ∧ Below wr.heap.size wr _›).2; refine (HDC.out _).mono ?_; rintro e3 w3 ⟨rfl, hb3⟩; have hbn : Below wr.heap.size wr w3 := hcur.trans (hb3.mono hcur.size))
                  | fail)
              all_goals
                have HB3 := Lib.hid (HB.out.trans (hbn.mono hszw))
                have HO3 := Lib.hid (owns_below HO.out hbn (Nat.le_refl _))
                have HS3 := Lib.hid (Slc.below HSL.out hbn (Nat.le_refl _))
                have hcl3 := held_of hbn hcl (Nat.le_refl _)
                have hsz3 := HB3.out.size
                have hb3z : b < w1.heap.size := by
                  obtain ⟨b', off', e', hlt', _⟩ := Slc.at HSL1.out (show ((LN.map mkB).map SV)[i]? = some (.string (mkB LN[i])) by simp [hil, SV])
                  simp only [Option.some.injEq, Addr.mk.injEq, and_true] at e'
                  rw [e'.1]; exact hlt'
                clear hbn hcl hcmp
                go_wp2_with (at_builtin; refine app_strs rfl _ _ rfl w1.heap.size _ k O rfl (owns_below HO3.out ((Below.refl _ _).alloc (Nat.le_refl _) _) (Nat.le_refl _)) _ [L] rfl (slcS_one w3 L _ rfl) (k + 1) (O ++ [L]) rfl rfl (by omega) (by simp; omega) ?_; intro a' cap' w4 r1 r3 _; have HB4 := Lib.hid ((HB3.out.alloc hsz3 _).trans r3); have hcl4 : w4.cell? ⟨b, off + i, none⟩ = some (.string M) := (((Below.refl w1.heap.size w3).alloc hsz3 _).trans r3).cell (p := ⟨b, off + i, none⟩) hb3z |>.trans hcl3; clear r3)
                go_roundw
                case rel =>
                  refine ⟨O ++ [L], y, n + (M.size + 1), k + 1, i + 1, a', cap', by go_num, by go_num, by go_num, by go_num, hc1, by omega, by omega, by omega, Lib.hid ⟨by rw [List.length_append, HK.out.1]; rfl, ?_⟩, Lib.hid ?_, Lib.hid r1, HB4⟩
                  · intro s hs
                    rcases List.mem_append.1 hs with h | h
                    · exact HK.out.2 s h
                    · rw [List.mem_singleton] at h
                      rw [h]; have := HLZ.out; unfold maxLen; omega
                  · have h1 := HD.out
                    have h2 := HRJ.out
                    have h3 := HES.out
                    show RR = _
                    rw [h1, h2]
                    refine Prod.ext ?_ ?_
                    · simp
                    · simp only; omega
                case measure => simp [intOf]; omega
            · have hcmp : ((M.extract 0 j).toList == D.toList) = false := by rw [HX0.out]; exact str_ne hd
              have HRJ := Lib.hid (HBAD.out hd)
              have HEQ := Lib.hid (show RR = (O, n) by rw [HD.out, HRJ.out]; simp)
              clear hd
              go_wp2_with fail
              go_region_held3 (fun X => X.cell? ⟨b, off + i, none⟩ = some (.string M) ∧ Below wr.heap.size wr X)
                (first | exact ⟨held_of hbn hcl (Nat.le_refl _), hbn⟩ | exact ⟨hcl, (Below.refl _ _).drew⟩ | go_keep)
                (first
                  | (go_at_call 33; have hcur := (‹_ ∧ Below wr.heap.size wr _›).2; refine (HDC.out _).mono ?_; rintro e3 w3 ⟨rfl, hb3⟩; have hbn : Below wr.heap.size wr w3 := hcur.trans (hb3.mono hcur.size))
                  | fail)
              all_goals
                have HB3 := Lib.hid (HB.out.trans (hbn.mono hszw))
                have HO3 := Lib.hid (owns_below HO.out hbn (Nat.le_refl _))
                clear hbn hcl hcmp
                go_wp2_with fail
                go_ret2
                rw [HEQ.out]
                exact ⟨_, rfl, OwnSs.mk (owns_base HO3.out hz1) HK.out.2, HB1.out.trans (HB3.out.mono hz1)⟩
          · have hq : ((M[j].toNat : Int) != 32) = true := by
              simp only [bne_iff_ne, ne_eq]
              intro h
              exact hc (UInt8.toNat_inj.1 (by show M[j].toNat = 32; omega))
            have HNC := Lib.hid hc
            clear hc
            go_wp2_with fail
            go_round
            case rel =>
              refine ⟨j + 1, by go_num, by omega, Lib.hid (fun q hq2 h0 h1 => ?_)⟩
              by_cases hqj : q < j
              · exact HN.out q hq2 h0 hqj
              · obtain rfl : q = j := by omega
                exact HNC.out
            case measure => simp [intOf]; omega
        · obtain rfl : j = M.size := by omega
          have HRJ := Lib.hid (show recJ c (LN.drop i) = ([], 0) by rw [HDR.out]; exact recJ_no _ (HALL.out HN.out))
          have HEQ := Lib.hid (show RR = (O, n) by rw [HD.out, HRJ.out]; simp)
          go_wp2_with fail
          go_ret2
          rw [HEQ.out]
          exact ⟨_, rfl, OwnSs.mk (owns_base HO.out hz1) HK.out.2, HB1.out.trans (HB.out.mono hz1)⟩
    · obtain rfl : i = m := by omega
      have HEQ := Lib.hid (show RR = (O, n) by rw [HD.out, List.drop_eq_nil_of_le (by rw [HML.out]; exact Nat.le_refl _)]; simp [recJ])
      go_wp2_with fail
      go_ret2
      rw [HEQ.out]
      exact ⟨_, rfl, OwnSs.mk (owns_base HO.out hz1) HK.out.2, HB1.out.trans (HB.out.mono hz1)⟩

set_option maxRecDepth 4000 in
theorem recoverS_any (t : ByteArray) (w : World) :
    Calls Tryd.prog 13 #[.string t] w fun e w' => ∃ v', e = .returned (.tuple #[v', .int .i64 (rjN t), .bool (rjOk t)]) ∧ OwnSs w.heap.size w'.heap.size w' v' (rjR t) ∧ Below w.heap.size w w' := by
  by_cases hbig : 16000 < t.size
  · have HR := Lib.hid (show rjR t = [] ∧ rjN t = 0 ∧ rjOk t = false by unfold rjR rjN rjOk; rw [if_neg (by omega), if_neg (by omega)]; exact ⟨rfl, rfl, by simp; omega⟩)
    rw [HR.out.1, HR.out.2.1, HR.out.2.2]
    have hbI : (16000 : Int) < (t.size : Int) := by omega
    go_enter Tryd.func13, Tryd.ntmps13
    go_wp2_with fail
    refine bodyPost_ret (v := .tuple #[.slice none 0 0, .int .i64 0, .bool false]) (by simp [results, Tryd.results13, go_sem, *]) rfl ?_
    exact ⟨_, rfl, ⟨⟨World.ownsRow_nil _ _ _ _, by intro g hg; cases hg⟩, by intro s hs; simp at hs⟩, Below.refl _ _⟩
  · have HR := Lib.hid (show rjR t = (rjP t).1 ∧ rjN t = (rjP t).2 ∧ rjOk t = true by unfold rjR rjN rjOk; rw [if_pos (by omega), if_pos (by omega)]; exact ⟨rfl, rfl, by simp; omega⟩)
    rw [HR.out.1, HR.out.2.1, HR.out.2.2]
    have hbI : ¬ (16000 : Int) < (t.size : Int) := by omega
    go_enter Tryd.func13, Tryd.ntmps13
    go_wp2_with fail
    refine (l08Recover_any t w (by omega)).mono ?_
    rintro e w1 ⟨v', rfl, ho, hb1⟩
    have HO := Lib.hid ho
    have HB := Lib.hid hb1
    obtain ⟨n, hn⟩ : ∃ n, n = (rjP t).2 := ⟨_, rfl⟩
    have HN := Lib.hid hn
    rw [← hn]
    clear ho hb1 hn HR
    go_wp2_with fail
    refine bodyPost_ret (v := .tuple #[v', .int .i64 n, .bool true]) (by simp [results, Tryd.results13, go_sem, *]) rfl ?_
    exact ⟨_, by rw [HN.out], HO.out, HB.out⟩

end Go.Proofs.YtkkcgclliomocaaDoor

namespace Go.Proofs.YtkkcgclliomocaaDoor
open Go.RowKit

def jobV (j : JobD) : Value := .agg #[.int .i64 j.long, .int .i64 j.due, .int .i64 j.weight, .int .i64 j.ready]

/-- The marks of jobs. -/
def mkdJ (k : Int) (js : List JobD) : List JobD := (List.range js.length).map fun (i : Nat) => ⟨k + 4 * i, k + 4 * i + 1, k + 4 * i + 2, k + 4 * i + 3⟩
theorem mkdJ_len (k : Int) (js : List JobD) : (mkdJ k js).length = js.length := by simp [mkdJ]
theorem mkdJ_at (k : Int) (js : List JobD) (i : Nat) (h : i < js.length) : (mkdJ k js).getD i J0 = ⟨k + 4 * i, k + 4 * i + 1, k + 4 * i + 2, k + 4 * i + 3⟩ := by simp [mkdJ, h]

/-- The first m jobs marked. -/
def mkpJ (k : Int) (js : List JobD) (m : Nat) : List JobD := (List.range js.length).map fun (i : Nat) => if i < m then ⟨k + 4 * i, k + 4 * i + 1, k + 4 * i + 2, k + 4 * i + 3⟩ else js.getD i J0
theorem mkpJ_len (k : Int) (js : List JobD) (m : Nat) : (mkpJ k js m).length = js.length := by simp [mkpJ]
theorem mkpJ_zero (k : Int) (js : List JobD) : mkpJ k js 0 = js := by
  apply List.ext_getElem?
  intro i
  by_cases h : i < js.length
  · simp [mkpJ, h]
  · simp [mkpJ, h]
theorem mkpJ_full (k : Int) (js : List JobD) : mkpJ k js js.length = mkdJ k js := by
  apply List.ext_getElem?
  intro i
  by_cases h : i < js.length
  · simp [mkpJ, mkdJ, h]
  · simp [mkpJ, mkdJ, h]
theorem mkpJ_set (k : Int) (js : List JobD) (m : Nat) (hm : m < js.length) : mkpJ k js (m + 1) = (mkpJ k js m).set m ⟨k + 4 * m, k + 4 * m + 1, k + 4 * m + 2, k + 4 * m + 3⟩ := by
  apply List.ext_getElem?
  intro i
  rw [List.getElem?_set]
  by_cases h : i < js.length
  · by_cases he : m = i
    · subst he; simp [mkpJ, h]
    · have e : (i < m + 1) = (i < m) := by rw [eq_iff_iff]; omega
      simp [mkpJ, h, he, e]
  · by_cases he : m = i
    · omega
    · simp [mkpJ, h, he]
theorem jobsC_set : ∀ (js : List JobD) (i : Nat) (a b c d : Int), i < js.length → ((((jobsC js).set (i * 4) (I64 a)).set (i * 4 + 1) (I64 b)).set (i * 4 + 2) (I64 c)).set (i * 4 + 3) (I64 d) = jobsC (js.set i ⟨a, b, c, d⟩)
  | [], i, _, _, _, _, h => by simp at h
  | j :: r, 0, a, b, c, d, _ => by simp [jobsC, jobCells]
  | j :: r, i + 1, a, b, c, d, h => by
    have ih := jobsC_set r i a b c d (by simpa using h)
    have e : ∀ (L : List Value) (n m : Nat) (v : Value), m = n + 4 → (jobCells j ++ L).set m v = jobCells j ++ L.set n v := fun L n m v hm => by subst hm; rfl
    show ((((jobCells j ++ jobsC r).set ((i + 1) * 4) (I64 a)).set ((i + 1) * 4 + 1) (I64 b)).set ((i + 1) * 4 + 2) (I64 c)).set ((i + 1) * 4 + 3) (I64 d) = jobCells j ++ jobsC (r.set i ⟨a, b, c, d⟩)
    rw [e _ (i * 4) _ _ (by omega), e _ (i * 4 + 1) _ _ (by omega), e _ (i * 4 + 2) _ _ (by omega), e _ (i * 4 + 3) _ _ (by omega), ih]

theorem ownsK_some {w : World} {lo size : Nat} {e : TypeId} {a : Option Addr} {n cap : Nat} {vs : List Value} (h : w.ownsRow lo e size (.slice a n cap) n vs) (hn : 0 < n) : ∃ g, a = some ⟨g, 0, none⟩ ∧ lo ≤ g := by
  rcases h.2 with ⟨e, e2⟩ | ⟨g, cap', cur, e, hb, _⟩
  · simp at e; omega
  · simp only [Value.slice.injEq, true_and] at e
    exact ⟨g, e.1, hb⟩

end Go.Proofs.YtkkcgclliomocaaDoor

namespace Go.Proofs.YtkkcgclliomocaaDoor
open Go.RowKit

end Go.Proofs.YtkkcgclliomocaaDoor

namespace Go.Proofs.YtkkcgclliomocaaDoor
open Go.RowKit

/-- A slice in one block reads on where this block is kept. -/
theorem slc_keptB {S : Nat → Prop} {w w' : World} {ad : Addr} {n cap : Nat} {vs : List Value} (h : Slc w (.slice (some ad) n cap) vs) (hk : Kept S w w') (hs : ¬ S ad.block) : Slc w' (.slice (some ad) n cap) vs := by
  rcases h with ⟨e1, _⟩ | ⟨ad2, cap2, e1, h1, h2, hc⟩
  · simp at e1
  · simp only [Value.slice.injEq, Option.some.injEq] at e1
    obtain ⟨rfl, rfl, rfl⟩ := e1
    refine .inr ⟨ad, cap, rfl, h1, h2, fun i u hi => ?_⟩
    have h0 := hc i u hi
    rw [hk.cell (cell_lt h0) (by rw [addr_add_block]; exact hs)]
    exact h0

/-- A new row of one stays as it is behind an append to another. -/
theorem slc_grown {w w' : World} {ad : Addr} {n cap : Nat} {vs : List Value} {row : Option Nat} (h : Slc w (.slice (some ad) n cap) vs) (hg : w.grownBy w' row) (hne : row ≠ some ad.block) : Slc w' (.slice (some ad) n cap) vs :=
  slc_keptB (S := fun k => row = some k) h ⟨hg.os, hg.tape, hg.output, hg.size, fun k hk hn => hg.block k hk fun e => hn e.symm⟩ hne

theorem slc_drew {w : World} {v : Value} {vs : List Value} (h : Slc w v vs) : Slc w.drew v vs := h
theorem slc_alloc {w : World} {v : Value} {vs : List Value} (h : Slc w v vs) (o : Obj) : Slc (w.alloc o) v vs := h.below ((Below.refl _ _).alloc (Nat.le_refl _) _) (Nat.le_refl _)

theorem slc_oneB (w : World) (z : Int) (b : Nat) (hb : b = w.heap.size) : Slc (w.alloc (.cells #[.int .i64 z] 2)) (.slice (some ⟨b, 0, none⟩) 1 1) ([z].map I64) := by subst hb; exact slc_one w z

theorem owns_emptyB (w : World) (b : Nat) (hb : b = w.heap.size) : (w.alloc (.cells #[] 2)).ownsRow w.heap.size 2 1 (.slice (some ⟨b, 0, none⟩) 0 0) 0 (([] : List Int).map I64) := by subst hb; exact owns_empty w
theorem owns_drew {w : World} {base : Nat} {e : TypeId} {v : Value} {n : Nat} {vs : List Value} (h : w.ownsRow base e 1 v n vs) : w.drew.ownsRow base e 1 v n vs := h

end Go.Proofs.YtkkcgclliomocaaDoor

namespace Go.Proofs.YtkkcgclliomocaaDoor
open Go.RowKit

theorem Tryd.infoBool : (Tryd.prog.info? 4).map (fun i => (i.zero, i.size, i.bytes)) = some (some (.bool false), 1, 1) := by kernel_rfl

/-- What has been seen of the first k literals. -/
def seenL (xs : List Int) (k : Nat) : List Value := (List.range 11).map fun d => .bool (!allB k fun j => decide ((xs.getD j 0).natAbs ≠ d))
theorem seenL_len (xs : List Int) (k : Nat) : (seenL xs k).length = 11 := by simp [seenL]
theorem seenL_zero (xs : List Int) : seenL xs 0 = List.replicate 11 (.bool false) := rfl
theorem seenL_at (xs : List Int) (k d : Nat) (h : d < 11) : (seenL xs k)[d]? = some (.bool (!allB k fun j => decide ((xs.getD j 0).natAbs ≠ d))) := by
  unfold seenL; simp [h]
theorem allB_succ (k : Nat) (p : Nat → Bool) : allB (k + 1) p = (allB k p && p k) := by unfold allB; rw [List.range_succ]; simp
theorem seenL_set (xs : List Int) (k : Nat) (h : (xs.getD k 0).natAbs < 11) : (seenL xs k).set (xs.getD k 0).natAbs (.bool true) = seenL xs (k + 1) := by
  apply List.ext_getElem?
  intro d
  rw [List.getElem?_set]
  by_cases hd : d < 11
  · rw [seenL_at xs (k + 1) d hd, allB_succ]
    by_cases he : (xs.getD k 0).natAbs = d
    · rw [if_pos he, if_pos (by rw [seenL_len]; exact h)]
      simp only [ne_eq, he, not_true_eq_false, decide_false, Bool.and_false, Bool.not_false]
    · rw [if_neg he, seenL_at xs k d hd]
      simp only [ne_eq, he, not_false_eq_true, decide_true, Bool.and_true]
  · have h1 : (seenL xs k)[d]? = none := by rw [List.getElem?_eq_none]; rw [seenL_len]; omega
    have h2 : (seenL xs (k + 1))[d]? = none := by rw [List.getElem?_eq_none]; rw [seenL_len]; omega
    have he : ¬ (xs.getD k 0).natAbs = d := by omega
    rw [if_neg he, h1, h2]

end Go.Proofs.YtkkcgclliomocaaDoor

namespace Go.Proofs.YtkkcgclliomocaaDoor
open Go.RowKit

end Go.Proofs.YtkkcgclliomocaaDoor

namespace Go.Proofs.YtkkcgclliomocaaDoor
open Go.RowKit

theorem by8_add (x : Int) : by8 (x + 256) = by8 x := by rw [by8_eq, by8_eq]; omega
theorem lit_bd {n : Int} {xs : List Int} (h : clauseB n xs = true) {i : Nat} (hi : i < xs.length) : -10 ≤ xs.getD i 0 ∧ xs.getD i 0 ≤ 10 := by
  unfold clauseB at h
  simp only [Bool.and_eq_true] at h
  have h1 := allB_iff.1 h.2 i hi
  unfold okAt litB at h1
  simp only [Bool.and_eq_true] at h1
  have h2 := inB_iff.1 h1.1.2
  have h3 := inB_iff.1 h.1
  omega

theorem bytesWorld_below (w : World) (s : ByteArray) : Below w.heap.size w (Lib.bytesWorld w 5 s) :=
  ⟨rfl, rfl, rfl, by rw [Lib.bytesWorld_size]; omega, fun k hk => Lib.bytesWorld_at_old w _ s k hk⟩
theorem slc_bytesWorld (w : World) (s : ByteArray) (hs : s.size ≤ 1000) : Slc (Lib.bytesWorld w 5 s) (.slice (some ⟨w.heap.size, 0, none⟩) s.size (grownCap w s.size 0 5)) ((bytesOf s).map B8) := by
  have hl : ((bytesOf s).map B8).length = s.size := by rw [List.length_map, bytesOf_len]
  right
  refine ⟨⟨w.heap.size, 0, none⟩, grownCap w s.size 0 5, by rw [hl], by rw [hl]; exact grownCap_ge _ _ _ _, grownCap_le_maxLen _ _ _ _ (by unfold maxLen; omega), fun i u hi => ?_⟩
  have hil : i < s.size := by rw [← hl]; exact (List.getElem?_eq_some_iff.1 hi).1
  rw [show (⟨w.heap.size, 0, none⟩ : Addr).add i = ⟨w.heap.size, i, none⟩ by unfold Addr.add; split <;> simp_all, Lib.bytesWorld_cell w _ s i hil]
  rw [List.getElem?_map, bytesOf_get s i hil] at hi
  simp only [Option.map_some, Option.some.injEq] at hi
  subst hi
  rw [getD_str s i hil]
  rfl

theorem step_app_bytes {w : World} {ops : Array Oper} {o : Oper} {a : Act} {K : Act → World → Prop} {Q : Exit → Act → World → Prop} {E : Prop} (hgd : o.guard = none) (s x : Operand)
    (ho : o.op = .call { callee := .builtin .append, args := #[s, x], argTypes := #[40, 40] })
    (base : Nat) (v : Value) (n : Nat) (xs : List Int) (hs : a.eval s = v) (hown : w.ownsRow base 5 1 v n (xs.map B8))
    (g k : Nat) (news : List Int) (hx : a.eval x = .slice (some ⟨g, 0, none⟩) k k) (hsv : Slc w (.slice (some ⟨g, 0, none⟩) k k) (news.map B8)) (m : Nat) (ys : List Int) (hm : m = n + news.length) (hys : ys = xs ++ news) (hlen : m ≤ 1099511627776) (hbase : base ≤ w.heap.size)
    (h : ∀ a' cap' w', w'.ownsRow base 5 1 (.slice a' m cap') m (ys.map B8) → Below base w w' → K (a.put o.dst (.slice a' m cap')) w') :
    if Region.wanted o (yielded ops a.tmps) = true then Oper.wp Tryd.prog o a w K Q else E := by
  have hw : Region.wanted o (yielded ops a.tmps) = true := by simp [Region.wanted, hgd]
  rw [if_pos hw]
  obtain ⟨i0, hi, hz0, hz1, hz2⟩ := info_parts Tryd.infoU8
  subst hm hys
  rcases hsv with ⟨e, _⟩ | ⟨ad, c, e, hcl, hcm, hc⟩
  · cases e
  · simp only [Value.slice.injEq, Option.some.injEq] at e
    obtain ⟨rfl, e2, rfl⟩ := e
    refine wp_append_own w s x 40 ho base 5 i0 (.int .u8 0) 1 1 Tryd.underlying40 hi hz0 hz1 hz2 rfl (by decide) v n (xs.map B8) hs hown ⟨g, 0, none⟩ k k (news.map B8) hx (by rw [← e2]; simp) hc (b8_one news) (by simp at e2; simp [maxLen]; omega) (by simp at e2; omega) hbase ?_
    intro v' w' h2 h3 h4
    simp only [List.length_map] at e2
    subst e2
    have h1' : w'.ownsRow base 5 1 v' (n + news.length) ((xs ++ news).map B8) := by simpa using h2
    obtain ⟨a', cap', rfl⟩ := owns_shape h1'
    exact h a' cap' w' h1' (below_grown hown hbase h3)

end Go.Proofs.YtkkcgclliomocaaDoor

namespace Go.Proofs.YtkkcgclliomocaaDoor
open Go.RowKit

end Go.Proofs.YtkkcgclliomocaaDoor

namespace Go.Proofs.YtkkcgclliomocaaDoor
open Go.RowKit

/-- The digits of a number, put ahead of a text. -/
def dgS : Nat → Nat → ByteArray → ByteArray
  | 0, _, acc => acc
  | f + 1, n, acc => if n = 0 then acc else dgS f (n / 10) (strOfNums [by8 (48 + (n : Int) % 10)] ++ acc)
def mkText (k : Nat) : ByteArray := if k = 0 then ⟨#[109, 48]⟩ else ⟨#[109]⟩ ++ dgS k k ⟨#[]⟩
theorem dgS_more : ∀ (f g n : Nat) (acc : ByteArray), n ≤ f → n ≤ g → dgS f n acc = dgS g n acc
  | 0, g, n, acc, hf, hg => by
    obtain rfl : n = 0 := by omega
    cases g <;> simp [dgS]
  | f + 1, 0, n, acc, hf, hg => by
    obtain rfl : n = 0 := by omega
    simp [dgS]
  | f + 1, g + 1, n, acc, hf, hg => by
    simp only [dgS]
    split
    · rfl
    · exact dgS_more f g (n / 10) _ (by omega) (by omega)
theorem dgS_go (n : Nat) (acc : ByteArray) (h : 0 < n) : dgS n n acc = dgS (n / 10) (n / 10) (strOfNums [by8 (48 + (n : Int) % 10)] ++ acc) := by
  obtain ⟨m, rfl⟩ : ∃ m, n = m + 1 := ⟨n - 1, by omega⟩
  conv => lhs; unfold dgS
  rw [if_neg (by omega)]
  exact dgS_more _ _ _ _ (by omega) (Nat.le_refl _)
theorem dgS_size : ∀ (f n : Nat) (acc : ByteArray), (dgS f n acc).size ≤ acc.size + n
  | 0, n, acc => by simp only [dgS]; omega
  | f + 1, n, acc => by
    simp only [dgS]
    split
    · omega
    · have h := dgS_size f (n / 10) (strOfNums [by8 (48 + (n : Int) % 10)] ++ acc)
      rw [ByteArray.size_append, strOfNums_size] at h
      simp only [List.length_cons, List.length_nil] at h
      omega
theorem mkText_size (k : Nat) : (mkText k).size ≤ k + 2 := by
  unfold mkText
  split
  · show 2 ≤ _; omega
  · rw [ByteArray.size_append]
    have := dgS_size k k ⟨#[]⟩
    have e : (⟨#[]⟩ : ByteArray).size = 0 := rfl
    have e1 : (⟨#[109]⟩ : ByteArray).size = 1 := rfl
    omega

set_option maxHeartbeats 2000000 in
set_option maxRecDepth 4000 in
theorem markText_any (k : Int) (w : World) (h0 : 0 ≤ k) (h1 : k ≤ 2199023255552) :
    Calls Tryd.prog 29 #[.int .i64 k] w fun e w' => e = .returned (.string (mkText k.toNat)) ∧ Below w.heap.size w w' := by
  obtain ⟨K, rfl⟩ := Int.eq_ofNat_of_zero_le h0
  rw [Int.toNat_natCast]
  by_cases hz : K = 0
  · subst hz
    go_enter Tryd.func29, Tryd.ntmps29
    go_wp2_with fail
    go_ret
    exact ⟨rfl, Below.refl _ _⟩
  have hKI : (0 : Int) < (K : Int) := by omega
  have HT := Lib.hid (show mkText K = ⟨#[109]⟩ ++ dgS K K ⟨#[]⟩ by unfold mkText; rw [if_neg hz])
  clear h0
  go_enter Tryd.func29, Tryd.ntmps29
  go_wp2_with fail
  go_loopw [0, 3] (fun kv ov wr => ∃ (m : Nat) (A : ByteArray), kv = .int .i64 m ∧ m ≤ K ∧ ov = .string A ∧ A.size + m ≤ K ∧ Hid (dgS K K ⟨#[]⟩ = dgS m m A) ∧ Hid (Below w.heap.size w wr)) (fun kv _ _ => (intOf kv).toNat)
  case atStart => exact ⟨K, ⟨#[]⟩, rfl, Nat.le_refl _, rfl, (by show 0 + K ≤ K; omega), rfl, Below.refl _ _⟩
  case round =>
    obtain ⟨m, A, rfl, hm, rfl, hA, HD, HB⟩ := hrel
    by_cases hlt : 0 < m
    · have hmI : (0 : Int) < (m : Int) := by omega
      have HG := Lib.hid (dgS_go m A hlt)
      have hb8 : by8 (48 + (m : Int) % 10) = 48 + (m : Int) % 10 := by rw [by8_eq]; omega
      have hcv := conv_bytes (ownsB_lit wr [48 + (m : Int) % 10] 1 wr.heap.size #[.int .u8 (48 + (m : Int) % 10)] rfl rfl (by omega) rfl) (by omega)
      have hsz : (strOfNums [48 + (m : Int) % 10]).size = 1 := strOfNums_size _
      rw [hb8] at HG
      have hap : (strOfNums [48 + (m : Int) % 10] ++ A).size = 1 + A.size := by rw [ByteArray.size_append, hsz]
      have hadd := fun (W : World) => run_string_add_sum (P := Tryd.prog) (w := W) (strOfNums [48 + (m : Int) % 10]) A (by rw [hsz]; omega)
      have hb' : Below w.heap.size w (wr.alloc (.cells #[.int .u8 (48 + (m : Int) % 10)] 5)) := HB.out.alloc HB.out.size _
      have HB' := Lib.hid hb'
      have hw8 : IntKind.u8.wrap (48 + (m : Int) % 10) = 48 + (m : Int) % 10 := hb8
      obtain ⟨X, hX⟩ : ∃ X, X = strOfNums [48 + (m : Int) % 10] := ⟨_, rfl⟩
      rw [← hX] at hcv hadd HG hap
      clear hsz hb' hX hb8
      go_wp2_with fail
      go_roundw
      case rel =>
        refine ⟨m / 10, X ++ A, by first | rfl | (go_num; done) | (congr 1; omega), by omega, rfl, by omega, Lib.hid (by rw [HD.out, HG.out]), HB'⟩
      case measure => simp [intOf]; omega
    · obtain rfl : m = 0 := by omega
      have HE := Lib.hid (show mkText K = ⟨#[109]⟩ ++ A by rw [HT.out, HD.out]; rfl)
      have hadd := fun (W : World) => run_string_add_sum (P := Tryd.prog) (w := W) ⟨#[109]⟩ A (by have e : (⟨#[109]⟩ : ByteArray).size = 1 := rfl; rw [e]; omega)
      go_wp2_with fail
      go_ret
      exact ⟨by rw [HE.out]; rfl, HB.out⟩

end Go.Proofs.YtkkcgclliomocaaDoor

namespace Go.Proofs.YtkkcgclliomocaaDoor
open Go.RowKit

def mkSs (k : Int) (n : Nat) : List ByteArray := (List.range n).map fun (i : Nat) => mkText (k + i).toNat
theorem mkSs_len (k : Int) (n : Nat) : (mkSs k n).length = n := by simp [mkSs]
def mkdSs (k : Int) (xs : List ByteArray) : List ByteArray := mkSs k xs.length
theorem mkSs_size {k : Int} {n : Nat} (h1 : k + n ≤ 1099511627776) : ∀ s ∈ mkSs k n, s.size ≤ maxLen := by
  intro s hs
  obtain ⟨i, hi, rfl⟩ := List.mem_map.1 hs
  have := mkText_size (k + i).toNat
  have := List.mem_range.1 hi
  unfold maxLen
  omega
theorem markSs_set {k : Int} {xs : List ByteArray} {j : Nat} (hj : j < xs.length) : ((mkSs k j ++ xs.drop j).map SV).set j (.string (mkText (k + j).toNat)) = (mkSs k (j + 1) ++ xs.drop (j + 1)).map SV := by
  have e : xs.drop j = xs[j] :: xs.drop (j + 1) := List.drop_eq_getElem_cons hj
  rw [e, List.map_append, List.map_cons, set_mid _ _ _ _ _ (by simp [mkSs]), List.map_append]
  simp [mkSs, List.range_succ, SV]

set_option maxHeartbeats 2000000 in
set_option maxRecDepth 4000 in
theorem markSs_o (v : Value) (lo hi : Nat) (xs : List ByteArray) (k : Int) (w : World) (ho : OwnSs lo hi w v xs) (h0 : 0 ≤ k) (h1 : k + cntSs xs ≤ 1099511627776) :
    Calls Tryd.prog 15 #[v, .int .i64 k] w fun e w' => e = .returned (.int .i64 (k + cntSs xs)) ∧ OwnSs lo hi w' v (mkdSs k xs) ∧ Kept (fun b => lo ≤ b ∧ b < hi) w w' := by
  unfold cntSs at h1 ⊢
  obtain ⟨a, cap, rfl⟩ := ho.rd.shape
  have HO := Lib.hid ho
  clear ho
  go_enter Tryd.func15, Tryd.ntmps15
  go_wp2_with fail
  go_loopw [1, 5] (fun kk i wr => ∃ j : Nat, i = .int .i64 j ∧ j ≤ xs.length ∧ kk = .int .i64 (k + j) ∧ Hid (wr.ownsRow lo 9 1 (.slice a xs.length cap) xs.length ((mkSs k j ++ xs.drop j).map SV)) ∧ Hid (Kept (fun b => (Value.slice a xs.length cap).ownBlock = some b) w wr)) (fun _ i _ => xs.length - (intOf i).toNat)
  case atStart => exact ⟨0, rfl, Nat.zero_le _, by simp, Lib.hid (by simpa [mkSs] using HO.out.1.1), Lib.hid (Kept.refl _ _)⟩
  case round =>
    obtain ⟨j, rfl, hj, rfl, HO1, HK1⟩ := hrel
    by_cases hlt : j < xs.length
    · obtain ⟨g, rfl, hlo⟩ := owns_slice_some HO1.out (by omega)
      have HSET := Lib.hid (markSs_set (k := k) hlt)
      have hdl : ((mkSs k j ++ xs.drop j).map SV)[j]? = some (.string xs[j]) := by
        rw [List.getElem?_map, List.getElem?_append_right (by simp [mkSs])]
        simp [SV, mkSs, hlt]
      have HDL := Lib.hid hdl
      obtain ⟨kk, hkk⟩ : ∃ kk, kk = k + (j : Int) := ⟨_, rfl⟩
      rw [← hkk] at HSET ⊢
      have hkk0 : 0 ≤ kk := by omega
      have hkk1 : kk + 1 ≤ 1099511627776 := by omega
      have HKE := Lib.hid hkk
      obtain ⟨nm, hnm⟩ : ∃ nm, nm = mkText kk.toNat := ⟨_, rfl⟩
      have HMT := Lib.hid (markText_any kk wr hkk0 (by omega))
      rw [← hnm] at HSET HMT
      clear hkk hdl hnm
      have hzw := HK1.out.size
      go_wp2_with (go_at_call 29; refine HMT.out.mono ?_; rintro e w1 ⟨rfl, hb1⟩; have HO2 := Lib.hid (owns_below HO1.out hb1 (Nat.le_refl _)); have HK2 := Lib.hid (HK1.out.below hb1 hzw); have hd := HO2.out.cellAt j (by omega); rw [HDL.out] at hd; have hfr := HO2.out.frozenAt j; clear hb1)
      go_roundw
      case rel =>
        refine ⟨j + 1, by go_num, by omega, by have := HKE.out; first | (rw [this]; push_cast; rfl) | (congr 1; push_cast; omega), Lib.hid ?_, Lib.hid (HK2.out.setCell (p := ⟨g, j, none⟩) (.inr rfl) _)⟩
        have h1 := (HO2.out.stored j (.string nm)).1
        rw [HSET.out] at h1
        exact h1
      case measure => simp [intOf]; omega
    · obtain rfl : j = xs.length := by omega
      go_wp2_with fail
      go_ret
      refine ⟨rfl, ⟨⟨?_, HO.out.1.2⟩, mkSs_size h1⟩, HK1.out.mono fun b _ hb => ⟨(owns_lt HO.out.1.1 hb).1, HO.out.1.2 b hb⟩⟩
      have h := HO1.out
      rw [List.drop_length, List.append_nil] at h
      unfold mkdSs
      rw [mkSs_len]
      exact h

set_option maxHeartbeats 2000000 in
set_option maxRecDepth 4000 in
theorem heldSs_o (v : Value) (xs : List ByteArray) (k : Int) (w : World) (h : RdSs w v (mkdSs k xs)) (h0 : 0 ≤ k) (h1 : k + cntSs xs ≤ 1099511627776) :
    Calls Tryd.prog 16 #[v, .int .i64 k] w fun e w' => e = .returned (.int .i64 (k + cntSs xs)) ∧ Below w.heap.size w w' := by
  unfold cntSs at h1 ⊢
  obtain ⟨a, cap, e⟩ := h.shape
  unfold mkdSs at e h
  rw [mkSs_len] at e
  subst e
  obtain ⟨n, hn⟩ : ∃ n, n = xs.length := ⟨_, rfl⟩
  rw [← hn] at h h1 ⊢
  have HS := Lib.hid h
  clear h hn
  go_enter Tryd.func16, Tryd.ntmps16
  go_wp2_with fail
  go_loopw [1, 5] (fun kk i wr => ∃ j : Nat, i = .int .i64 j ∧ j ≤ n ∧ kk = .int .i64 (k + j) ∧ Hid (Below w.heap.size w wr)) (fun _ i _ => n - (intOf i).toNat)
  case atStart => exact ⟨0, rfl, Nat.zero_le _, by simp, Lib.hid (Below.refl _ _)⟩
  case round =>
    obtain ⟨j, rfl, hj, rfl, HB⟩ := hrel
    by_cases hlt : j < n
    · obtain ⟨b, off, rfl, hb, hc⟩ := (HS.out.up HB.out (Nat.le_refl _)).at (i := j) (by rw [mkSs_len]; exact hlt)
      rw [show (mkSs k n).getD j E0 = mkText (k + j).toNat by simp [mkSs, hlt]] at hc
      obtain ⟨kk, hkk⟩ : ∃ kk, kk = k + (j : Int) := ⟨_, rfl⟩
      rw [← hkk] at hc ⊢
      have hkk0 : 0 ≤ kk := by omega
      have hkk1 : kk + 1 ≤ 1099511627776 := by omega
      have HKE := Lib.hid hkk
      have HMT := Lib.hid (fun W => markText_any kk W hkk0 (by omega))
      obtain ⟨nm, hnm⟩ : ∃ nm, nm = mkText kk.toNat := ⟨_, rfl⟩
      rw [← hnm] at hc HMT
      clear hkk hnm
      have hzw := HB.out.size
      go_wp2_with fail
      go_region_held3 (fun X => X.cell? ⟨b, off + j, none⟩ = some (.string nm) ∧ Below wr.heap.size wr X)
        (first | exact ⟨held_of hbn hc (Nat.le_refl _), hbn⟩ | exact ⟨hc, (Below.refl _ _).drew⟩ | go_keep)
        (first
          | (go_at_call 29; have hcur := (‹_ ∧ Below wr.heap.size wr _›).2; refine (HMT.out _).mono ?_; rintro e3 w3 ⟨rfl, hb3⟩; have hbn : Below wr.heap.size wr w3 := hcur.trans (hb3.mono hcur.size))
          | fail)
      all_goals
        have HB3 := Lib.hid (HB.out.trans (hbn.mono hzw))
        clear hbn
        go_wp2_with fail
        go_roundw
        case rel => exact ⟨j + 1, by go_num, by omega, by have := HKE.out; first | (rw [this]; push_cast; rfl) | (congr 1; push_cast; omega), HB3⟩
        case measure => simp [intOf]; omega
    · obtain rfl : j = n := by omega
      go_wp2_with fail
      go_ret
      exact ⟨rfl, HB.out⟩

end Go.Proofs.YtkkcgclliomocaaDoor

namespace Go.Proofs.YtkkcgclliomocaaDoor
open Go.RowKit

set_option maxHeartbeats 4000000 in
set_option maxRecDepth 100000 in
theorem lawRecoverJournal_any (w : World) (a0 : ByteArray) (hpw : HasPow w) (hmw : HasMax w) :
    Calls Tryd.prog 5 #[.string a0] w fun e w' => e = .returned (.bool true) ∧ Below w.heap.size w w' := by
  have B : Hid (Below w.heap.size w w) := Below.refl _ _
  have HPW := Lib.hid hpw
  have HMW := Lib.hid hmw
  clear hpw hmw
  go_enter Tryd.func5, Tryd.ntmps5
  by_cases hg0 : (1048576 : Int) < (a0.size : Nat)
  · go_wp2_with fail
    go_ret
    exact ⟨rfl, B.out⟩
  have hs0 : a0.size ≤ 1048576 := by omega
  have ne1 : ((((rjN a0 : Nat) : Int)) != (((rjN a0 : Nat) : Int))) = false := by simp
  have ne2 : ((rjOk a0) != (rjOk a0)) = false := by simp
  go_upto_region 3 with fail
  go_wp2_with fail
  refine (recoverS_any a0 _).mono ?_
  rintro e w1 ⟨Wv0, rfl, Wo0, hb⟩
  replace Wo0 := Lib.hid Wo0
  replace B := Lib.hid (B.out.trans (hb.mono B.out.size))
  have zw1 : w.heap.size ≤ w1.heap.size := hb.size
  clear hb
  go_upto_region 4 with fail
  go_wp2_with fail
  refine (recoverI_any a0 _ (HPW.out.up B.out (Nat.le_refl _)) (HMW.out.up B.out (Nat.le_refl _))).mono ?_
  rintro e w2 ⟨Gv0, rfl, Go0, hb⟩
  replace Go0 := Lib.hid Go0
  replace B := Lib.hid (B.out.trans (hb.mono B.out.size))
  replace Wo0 := Lib.hid (Wo0.out.up hb (Nat.le_refl _))
  have zw2 : w1.heap.size ≤ w2.heap.size := hb.size
  clear hb
  go_upto_region 5 with fail
  go_wp2_with fail
  refine (eqSs_same _ _ (rjR a0) _ Go0.out.rd Wo0.out.rd).mono ?_
  rintro e w3 ⟨rfl, hb⟩
  replace B := Lib.hid (B.out.trans (hb.mono B.out.size))
  replace Wo0 := Lib.hid (Wo0.out.up hb (Nat.le_refl _))
  replace Go0 := Lib.hid (Go0.out.up hb (Nat.le_refl _))
  have zw3 : w2.heap.size ≤ w3.heap.size := hb.size
  clear hb
  have hcGo0 : (0 : Int) ≤ (cntSs (rjR a0) : Nat) := by omega
  have Go0h := Go0
  clear Go0h
  go_upto_region 8 with fail
  go_wp2_with fail
  refine (markSs_o _ _ _ (rjR a0) _ _ Go0.out (by omega) (by have := rjR_cnt a0; omega)).mono ?_
  rintro e w4 ⟨rfl, MGo0, hb⟩
  replace MGo0 := Lib.hid MGo0
  replace B := Lib.hid (B.out.trans (hb.toBelow B.out.size (by rintro k hk1 ⟨h1, h2⟩; omega)))
  replace Wo0 := Lib.hid (Wo0.out.kept hb (by rintro b h1 h2 ⟨h3, h4⟩; omega))
  have zw4 : w3.heap.size ≤ w4.heap.size := hb.size
  clear hb
  clear Go0
  have nm : ((1 + (cntSs (rjR a0) : Int) : Int) != (1 + (cntSs (rjR a0) : Int) : Int)) = false := by simp
  go_upto_region 10 with fail
  go_wp2_with fail
  refine (heldSs_o _ (rjR a0) _ _ MGo0.out.rd (by omega) (by have := rjR_cnt a0; omega)).mono ?_
  rintro e w5 ⟨rfl, hb⟩
  replace B := Lib.hid (B.out.trans (hb.mono B.out.size))
  replace Wo0 := Lib.hid (Wo0.out.up hb (Nat.le_refl _))
  replace MGo0 := Lib.hid (MGo0.out.up hb (Nat.le_refl _))
  have zw5 : w4.heap.size ≤ w5.heap.size := hb.size
  clear hb
  go_upto_region 15 with fail
  go_wp2_with fail
  refine (recoverI_any a0 _ (HPW.out.up B.out (Nat.le_refl _)) (HMW.out.up B.out (Nat.le_refl _))).mono ?_
  rintro e w6 ⟨Hv0, rfl, Ho0, hb⟩
  replace Ho0 := Lib.hid Ho0
  replace B := Lib.hid (B.out.trans (hb.mono B.out.size))
  replace Wo0 := Lib.hid (Wo0.out.up hb (Nat.le_refl _))
  replace MGo0 := Lib.hid (MGo0.out.up hb (Nat.le_refl _))
  have zw6 : w5.heap.size ≤ w6.heap.size := hb.size
  clear hb
  go_upto_region 16 with fail
  go_wp2_with fail
  refine (eqSs_same _ _ (rjR a0) _ Ho0.out.rd Wo0.out.rd).mono ?_
  rintro e w7 ⟨rfl, hb⟩
  replace B := Lib.hid (B.out.trans (hb.mono B.out.size))
  replace Wo0 := Lib.hid (Wo0.out.up hb (Nat.le_refl _))
  replace MGo0 := Lib.hid (MGo0.out.up hb (Nat.le_refl _))
  replace Ho0 := Lib.hid (Ho0.out.up hb (Nat.le_refl _))
  have zw7 : w6.heap.size ≤ w7.heap.size := hb.size
  clear hb
  go_upto_region 19 with fail
  go_wp2_with fail
  refine (heldSs_o _ (rjR a0) _ _ MGo0.out.rd (by omega) (by have := rjR_cnt a0; omega)).mono ?_
  rintro e w8 ⟨rfl, hb⟩
  replace B := Lib.hid (B.out.trans (hb.mono B.out.size))
  replace Wo0 := Lib.hid (Wo0.out.up hb (Nat.le_refl _))
  replace MGo0 := Lib.hid (MGo0.out.up hb (Nat.le_refl _))
  replace Ho0 := Lib.hid (Ho0.out.up hb (Nat.le_refl _))
  have zw8 : w7.heap.size ≤ w8.heap.size := hb.size
  clear hb
  go_wp2_with fail
  go_ret
  exact ⟨rfl, B.out⟩

end Go.Proofs.YtkkcgclliomocaaDoor
