/-
  FnExactReadRows: texts joined: RlI, NumT, Dot, Round, Left, LeftI, LeftS.
-/
import Derived.Deep.RegionHeld3
import Derived.Deep.RegionLaw
import Derived.Test.YtggpbekclegfoaaDoorMEReadRowsAE
import Derived.Test.YtggpbekclegfoaaDoorMEReadRowsAF
import Derived.Test.YtggpbekclegfoaaDoorMEReadRowsAG
import Derived.Test.YtggpbekclegfoaaDoorMEReadRowsAH
import Derived.Test.YtggpbekclegfoaaDoorMEReadRowsAI
import Derived.Test.YtggpbekclegfoaaDoorMEReadRowsAJ
import Derived.Test.YtggpbekclegfoaaDoorMEReadRowsAK
namespace Go.Proofs.YtggpbekclegfoaaDoor
open Go.RowKit

theorem slcI_one1 (w : World) (x : Int) (b : Nat) (hb : b = w.heap.size) : Slc (w.alloc (.cells #[.int .i64 x] 2)) (.slice (some ⟨b, 0, none⟩) 1 1) ([x].map I64) := by
  subst hb
  have h := World.ownsRow_lit (base := w.heap.size) (e := 2) (size := 1) w #[.int .i64 x] 1 (Nat.le_refl _) (by simp [maxLen]) rfl
  exact slc_of_owns h
theorem ne_none {s : ByteArray} (h : s ≠ noneS) : (s.toList == [110, 111, 110, 101]) = false := by
  have e : noneS.toList = [110, 111, 110, 101] := by rw [ByteArray.toList_eq]; rfl
  have := str_ne h
  rwa [e] at this

theorem divided_any (s : ByteArray) (w : World) (hs : s.size ≤ 1048576) (hm : HasMax w) :
    Calls Tryd.prog 70 #[.string s] w fun e w' => ∃ a cap, e = .returned (.slice a (wsOf s).length cap) ∧ RdSs w' (.slice a (wsOf s).length cap) (wsOf s) ∧ Below w.heap.size w w' := by
  by_cases h : s = noneS
  · subst h
    rw [wsOf_none]
    have h0 : RdSs w (.slice none 0 0) [] := ⟨.inl ⟨rfl, rfl⟩, fun s hs => by cases hs⟩
    clear hs hm
    unfold noneS
    go_enter Tryd.func70, Tryd.ntmps70
    go_wp2_with fail
    go_ret
    exact ⟨none, 0, rfl, h0, Below.refl _ _⟩
  · have HS := Lib.hid (SplitC_any 44 s w hm hs)
    rw [wsOf_not h]
    have hne := ne_none h
    clear h hs hm
    go_enter Tryd.func70, Tryd.ntmps70
    go_wp2_with (go_at_call 43; refine HS.out.mono ?_; rintro e w1 ⟨a, cap, rfl, hr, hb⟩)
    go_ret
    exact ⟨a, cap, rfl, hr, hb⟩

set_option maxHeartbeats 2000000 in
theorem ReadList_any (s : ByteArray) (w : World) (hs : s.size ≤ 1048576) (hp : HasPow w) (hm : HasMax w) (he : HasErrs w) :
    Calls Tryd.prog 41 #[.string s] w fun e w' => ∃ a cap, e = .returned (.tuple #[.slice a (rdV s).length cap, .bool (listOk s)]) ∧ w'.ownsRow w.heap.size 2 1 (.slice a (rdV s).length cap) (rdV s).length ((rdV s).map I64) ∧ Below w.heap.size w w' := by
  have HDV := Lib.hid (divided_any s w hs hm)
  have HPW := Lib.hid hp
  have HER := Lib.hid he
  have hcn := wsOf_cnt s
  have HWA := Lib.hid (fun k h => @wsOf_at s k h)
  have HSZ := Lib.hid hs
  clear hp hm he
  obtain ⟨n, hn⟩ : ∃ n, n = (wsOf s).length := ⟨_, rfl⟩
  rw [← hn] at hcn HDV HWA
  have hnb : n ≤ 2000000 := by omega
  have HN := Lib.hid hn
  clear hn hs hcn
  go_enter Tryd.func41, Tryd.ntmps41
  go_upto_region 2 with fail
  go_wp2_with (go_at_call 70; refine HDV.out.mono ?_; rintro e w1 ⟨wa, wc, rfl, hrs, hb1⟩)
  have HRS := Lib.hid hrs
  have HB1 := Lib.hid hb1
  clear hrs hb1 HDV
  have hz1 := HB1.out.size
  go_loopw [4, 12] (fun ov iv wr => ∃ (k : Nat) (b : Option Addr) (cc : Nat), iv = .int .i64 k ∧ k ≤ n ∧ ov = .slice b k cc ∧ Hid (wr.ownsRow w1.heap.size 2 1 (.slice b k cc) k ((valsK s k).map I64)) ∧ Hid (∀ j, j < k → valOk ((wsOf s).getD j E0) = true) ∧ Hid (Below w1.heap.size w1 wr)) (fun _ iv _ => n + 1 - (intOf iv).toNat)
  case atStart => exact ⟨0, none, 0, rfl, Nat.zero_le _, rfl, Lib.hid (World.ownsRow_nil _ _ _ _), Lib.hid (by intro j hj; omega), Lib.hid (Below.refl _ _)⟩
  case round =>
    obtain ⟨k, b, cc, rfl, hk, rfl, HO, HALL, HB⟩ := hrel
    obtain ⟨wo, rfl⟩ : ∃ wo, wo = wr := ⟨wr, rfl⟩
    have hsz := HB.out.size
    by_cases hlt : k < n
    · have hlt' : (k : Int) < n := by omega
      have hlw : k < (wsOf s).length := by rw [← HN.out]; exact hlt
      obtain ⟨xb, xo, rfl, _, hx⟩ := (HRS.out.up HB.out (Nat.le_refl _)).at hlw
      have hxs := HWA.out k hlt
      have HE := Lib.hid (valsK_succ s k hlw)
      have HBAD := Lib.hid (fun h => listOk_bad hlw h)
      have HSTEP := Lib.hid (fun (h : valOk ((wsOf s).getD k E0) = true) => (show ∀ j, j < k + 1 → valOk ((wsOf s).getD j E0) = true from fun j hj => by
        by_cases hjk : j = k
        · rw [hjk]; exact h
        · exact HALL.out j (by omega)))
      obtain ⟨x, hxe⟩ : ∃ x, x = (wsOf s).getD k E0 := ⟨_, rfl⟩
      rw [← hxe] at hx hxs HE HBAD HSTEP
      clear hxe
      have HRD := Lib.hid (ReadDecimal_any x wo (Nat.le_trans hxs HSZ.out) (HPW.out.up (HB1.out.trans (HB.out.mono hz1)) (Nat.le_refl _)) (HER.out.up (HB1.out.trans (HB.out.mono hz1)) (Nat.le_refl _)))
      obtain ⟨z, hz⟩ : ∃ z, z = valN x := ⟨_, rfl⟩
      obtain ⟨q, hq⟩ : ∃ q, q = valOk x := ⟨_, rfl⟩
      rw [← hz] at HRD HE
      rw [← hq] at HRD HBAD HSTEP
      clear hz hq hxs
      cases q
      · have HNO := Lib.hid (HBAD.out rfl)
        have HRV := Lib.hid (rdV_no HNO.out)
        go_wp2_with (first
          | (go_at_call 44; refine HRD.out.mono ?_; rintro e w2 ⟨rfl, hb2⟩)
          | fail)
        go_ret2
        refine ⟨none, 0, ?_, ?_, HB1.out.trans ((HB.out.trans (hb2.mono hsz)).mono hz1)⟩
        · rw [HNO.out, HRV.out]; rfl
        · rw [HRV.out]; exact World.ownsRow_nil _ _ _ _
      · have HALL2 := Lib.hid (HSTEP.out rfl)
        go_wp2_with (first
          | (go_at_call 44; refine HRD.out.mono ?_; rintro e w2 ⟨rfl, hb2⟩; have HO1 := Lib.hid (owns_below HO.out hb2 (Nat.le_refl _)); have hsz2 := Nat.le_trans hsz hb2.size)
          | (at_builtin; refine app_ints rfl _ _ rfl w1.heap.size (.slice b k cc) k (valsK s k) rfl (HO1.out.alloc _) _ [z] rfl (slcI_one1 w2 z _ rfl) (k + 1) (valsK s (k + 1)) (by simp) HE.out (by omega) (by simp; omega) ?_; intro b3 c3 w3 hown3 hbl3 _ _)
          | fail)
        go_roundw
        case rel => exact ⟨k + 1, b3, c3, by go_num, by omega, rfl, Lib.hid hown3, HALL2, Lib.hid (HB.out.trans ((hb2.mono hsz).trans (((Below.refl _ _).alloc hsz2 _).trans hbl3)))⟩
        case measure => simp [intOf]; omega
    · obtain rfl : k = n := by omega
      have HOK := Lib.hid (listOk_all (s := s) (by rw [← HN.out]; exact HALL.out))
      have HVK := Lib.hid (show valsK s k = (wsOf s).map valN by rw [HN.out]; exact valsK_all s)
      have hrd : RdI wo (.slice b k cc) ((wsOf s).map valN) := by
        have := slc_of_owns HO.out
        rwa [HVK.out] at this
      have HAI := Lib.hid (areItems_any _ _ wo hrd)
      have hai := vals_allIn (s := s) (by rw [← HN.out]; exact HALL.out)
      rw [hai, List.length_map, ← HN.out, Bool.and_true] at HAI
      rw [← HN.out] at HOK
      by_cases h64 : k ≤ 64
      · have hd : decide (k ≤ 64) = true := decide_eq_true h64
        rw [hd] at HAI HOK
        have HRV := Lib.hid (rdV_ok HOK.out)
        have HRL := Lib.hid (show (rdV s).length = k by rw [HRV.out, List.length_map]; exact HN.out.symm)
        clear hrd hai hd
        go_wp2_with (first
          | (go_at_call 53; refine HAI.out.mono ?_; rintro e w2 ⟨rfl, rfl⟩)
          | fail)
        go_ret2
        refine ⟨b, cc, ?_, ?_, HB1.out.trans (HB.out.mono hz1)⟩
        · rw [HOK.out, HRL.out]; rfl
        · rw [HRL.out, HRV.out, ← HVK.out]; exact owns_base HO.out hz1
      · have hd : decide (k ≤ 64) = false := decide_eq_false h64
        rw [hd] at HAI HOK
        have HRV := Lib.hid (rdV_no HOK.out)
        clear hrd hai hd
        go_wp2_with (first
          | (go_at_call 53; refine HAI.out.mono ?_; rintro e w2 ⟨rfl, rfl⟩)
          | fail)
        go_ret2
        refine ⟨none, 0, ?_, ?_, HB1.out.trans (HB.out.mono hz1)⟩
        · rw [HOK.out, HRV.out]; rfl
        · rw [HRV.out]; exact World.ownsRow_nil _ _ _ _

theorem owns_types {w : World} {base base' size size' n n' : Nat} {e e' : TypeId} {v v' : Value} {vs vs' : List Value} (h : w.ownsRow base e size v n vs) (h' : w.ownsRow base' e' size' v' n' vs') (he : e ≠ e') : ∀ g, v.ownBlock = some g → v'.ownBlock ≠ some g := by
  intro g hg hg'
  rcases h.2 with ⟨rfl, _⟩ | ⟨g1, cap, cur, rfl, _, hb, _⟩
  · cases hg
  · rcases h'.2 with ⟨rfl, _⟩ | ⟨g2, cap2, cur2, rfl, _, hb2, _⟩
    · cases hg'
    · have e1 : g1 = g := Option.some.inj hg
      have e2 : g2 = g := Option.some.inj hg'
      subst e1
      subst e2
      rw [hb] at hb2
      simp only [Option.some.injEq, Obj.cells.injEq] at hb2
      exact he hb2.2.1
theorem owns_grown2 {w w' : World} {base : Nat} {e : TypeId} {v : Value} {n : Nat} {vs : List Value} {row : Option Nat} (h : w.ownsRow base e 1 v n vs) (hg : w.grownBy w' row) (hn : ∀ g, v.ownBlock = some g → row ≠ some g) : w'.ownsRow base e 1 v n vs :=
  owns_kept (S := fun k => row = some k) h ⟨hg.os, hg.tape, hg.output, hg.size, fun k hk hs => hg.block k hk fun e => hs e.symm⟩ hn

set_option maxHeartbeats 2000000 in
theorem l01Numbers_any (s : ByteArray) (w : World) (hs : s.size ≤ 1048576) :
    Calls Tryd.prog 69 #[.string s] w fun e w' => ∃ a cap, e = .returned (.tuple #[.slice a (rdV s).length cap, .bool (listOk s)]) ∧ w'.ownsRow w.heap.size 2 1 (.slice a (rdV s).length cap) (rdV s).length ((rdV s).map I64) ∧ Below w.heap.size w w' := by
  by_cases h : s = noneS
  · have HOK := Lib.hid (show listOk s = true by rw [h]; unfold listOk; rw [wsOf_none]; rfl)
    have HRV := Lib.hid (show rdV s = [] by rw [rdV_ok HOK.out, h, wsOf_none]; rfl)
    have hne : (s.toList == [110, 111, 110, 101]) = true := by rw [h, ByteArray.toList_eq]; rfl
    clear h hs
    go_enter Tryd.func69, Tryd.ntmps69
    go_wp2_with fail
    go_ret2
    refine ⟨some ⟨w.heap.size, 0, none⟩, 0, ?_, ?_, (Below.refl _ _).alloc (Nat.le_refl _) _⟩
    · rw [HOK.out, HRV.out]; rfl
    · rw [HRV.out]; exact owns_empty w
  have hne := ne_none h
  have HWS := Lib.hid (wsOf_not h)
  have hcn := wsOf_cnt s
  have hcut := l01Cut_any s 44 w hs
  rw [← HWS.out] at hcut
  have hcut2 := fun W => l01Cut_any s 44 W hs
  rw [← HWS.out] at hcut2
  have HCUT := Lib.hid hcut2
  have HWA := Lib.hid (fun k h => @wsOf_at s k h)
  have HSZ := Lib.hid hs
  clear h hs hcut hcut2
  obtain ⟨n, hn⟩ : ∃ n, n = (wsOf s).length := ⟨_, rfl⟩
  rw [← hn] at hcn HCUT HWA
  have HN := Lib.hid hn
  clear hn
  by_cases hlong : 64 < n
  · have HNO := Lib.hid (listOk_long (s := s) (by rw [← HN.out]; exact hlong))
    have HRV := Lib.hid (rdV_no HNO.out)
    have hd : decide ((64 : Int) < (n : Int)) = true := decide_eq_true (by omega)
    clear hlong hcn HWA
    go_enter Tryd.func69, Tryd.ntmps69
    go_wp2_with (go_at_call 71; refine (HCUT.out _).mono ?_; rintro e w1 ⟨a, cap, rfl, _, hb1⟩)
    go_ret2
    refine ⟨none, 0, ?_, ?_, ((Below.refl w.heap.size w).alloc (Nat.le_refl _) _).trans (hb1.mono (by simp))⟩
    · rw [HNO.out, HRV.out]; rfl
    · rw [HRV.out]; exact World.ownsRow_nil _ _ _ _
  have hd : decide ((64 : Int) < (n : Int)) = false := decide_eq_false (by omega)
  go_enter Tryd.func69, Tryd.ntmps69
  go_upto_region 4 with fail
  refine wp_at fun W1 hW1 => ?_
  have HO0 := Lib.hid (show W1.ownsRow w.heap.size 2 1 (.slice (some ⟨w.heap.size, 0, none⟩) 0 0) 0 ((valsK s 0).map I64) by subst hW1; exact owns_empty w)
  have HB0 := Lib.hid (show Below w.heap.size w W1 by subst hW1; exact (Below.refl _ _).alloc (Nat.le_refl _) _)
  clear hW1
  have hz0 := HB0.out.size
  go_wp2_with (go_at_call 71; refine (HCUT.out _).mono ?_; rintro e w2 ⟨wa, wc, rfl, hws, hb2⟩)
  have HWS0 := Lib.hid (owns_base hws hz0)
  have HO2 := Lib.hid (owns_below HO0.out hb2 (Nat.le_refl _))
  have HB2 := Lib.hid (HB0.out.trans (hb2.mono hz0))
  clear hws hb2 HO0 HB0 HCUT hz0
  go_loopw [4, 6] (fun ov iv wr => ∃ (k : Nat) (b : Option Addr) (cc : Nat), iv = .int .i64 k ∧ k ≤ n ∧ ov = .slice b k cc ∧ Hid (wr.ownsRow w.heap.size 2 1 (.slice b k cc) k ((valsK s k).map I64)) ∧ Hid (wr.ownsRow w.heap.size 9 1 (.slice wa n wc) n ((wsOf s).map SV)) ∧ Hid (∀ j, j < k → valOk ((wsOf s).getD j E0) = true) ∧ Hid (Below w.heap.size w wr)) (fun _ iv _ => n + 1 - (intOf iv).toNat)
  case atStart => exact ⟨0, _, _, rfl, Nat.zero_le _, rfl, HO2, HWS0, Lib.hid (by intro j hj; omega), HB2⟩
  case round =>
    clear HO2 HWS0 HB2
    obtain ⟨k, b, cc, rfl, hk, rfl, HO, HWD, HALL, HB⟩ := hrel
    obtain ⟨wo, rfl⟩ : ∃ wo, wo = wr := ⟨wr, rfl⟩
    have hsz := HB.out.size
    by_cases hlt : k < n
    · have hlt' : (k : Int) < n := by omega
      have hlw : k < (wsOf s).length := by rw [← HN.out]; exact hlt
      have hrd : RdSs wo (.slice wa n wc) (wsOf s) := ⟨slc_of_owns HWD.out, fun x hx => by have := wsOf_le s x hx; have := HSZ.out; unfold maxLen; omega⟩
      obtain ⟨xb, xo, rfl, _, hx⟩ := hrd.at hlw
      have hxs := HWA.out k hlt
      have HE := Lib.hid (valsK_succ s k hlw)
      have HBAD := Lib.hid (fun h => listOk_bad hlw h)
      have HSTEP := Lib.hid (fun (h : valOk ((wsOf s).getD k E0) = true) => (show ∀ j, j < k + 1 → valOk ((wsOf s).getD j E0) = true from fun j hj => by
        by_cases hjk : j = k
        · rw [hjk]; exact h
        · exact HALL.out j (by omega)))
      obtain ⟨x, hxe⟩ : ∃ x, x = (wsOf s).getD k E0 := ⟨_, rfl⟩
      rw [← hxe] at hx hxs HE HBAD HSTEP
      clear hxe hrd
      have HRD := Lib.hid (l01Value_any x wo (Nat.le_trans hxs HSZ.out))
      obtain ⟨z, hz⟩ : ∃ z, z = valN x := ⟨_, rfl⟩
      obtain ⟨q, hq⟩ : ∃ q, q = valOk x := ⟨_, rfl⟩
      rw [← hz] at HRD HE
      rw [← hq] at HRD HBAD HSTEP
      clear hz hq hxs
      cases q
      · have HNO := Lib.hid (HBAD.out rfl)
        have HRV := Lib.hid (rdV_no HNO.out)
        go_wp2_with (first
          | (go_at_call 72; refine HRD.out.mono ?_; rintro e w2 ⟨rfl, hb2⟩)
          | fail)
        go_ret2
        refine ⟨none, 0, ?_, ?_, HB.out.trans (hb2.mono hsz)⟩
        · rw [HNO.out, HRV.out]; rfl
        · rw [HRV.out]; exact World.ownsRow_nil _ _ _ _
      · have HALL2 := Lib.hid (HSTEP.out rfl)
        go_wp2_with (first
          | (go_at_call 72; refine HRD.out.mono ?_; rintro e w2 ⟨rfl, hb2⟩; have HO1 := Lib.hid ((owns_below HO.out hb2 (Nat.le_refl _)).alloc (.cells #[.int .i64 z] 2)); have HWD1 := Lib.hid ((owns_below HWD.out hb2 (Nat.le_refl _)).alloc (.cells #[.int .i64 z] 2)); have hsz2 := Nat.le_trans hsz hb2.size)
          | (at_builtin; refine app_ints rfl _ _ rfl w.heap.size (.slice b k cc) k (valsK s k) rfl HO1.out _ [z] rfl (slcI_one1 w2 z _ rfl) (k + 1) (valsK s (k + 1)) (by simp) HE.out (by omega) (by simp; omega) ?_; intro b3 c3 w3 hown3 hbl3 hg3 _; have HWD3 := Lib.hid (owns_grown2 HWD1.out hg3 (owns_types HWD1.out HO1.out (by decide))))
          | fail)
        go_roundw
        case rel => exact ⟨k + 1, b3, c3, by go_num, by omega, rfl, Lib.hid hown3, HWD3, HALL2, Lib.hid (HB.out.trans ((hb2.mono hsz).trans (((Below.refl _ _).alloc hsz2 _).trans hbl3)))⟩
        case measure => simp [intOf]; omega
    · obtain rfl : k = n := by omega
      have HOK := Lib.hid (listOk_all (s := s) (by rw [← HN.out]; exact HALL.out))
      rw [← HN.out, show decide (k ≤ 64) = true from decide_eq_true (by omega)] at HOK
      have HVK := Lib.hid (show valsK s k = (wsOf s).map valN by rw [HN.out]; exact valsK_all s)
      have HRV := Lib.hid (rdV_ok HOK.out)
      have HRL := Lib.hid (show (rdV s).length = k by rw [HRV.out, List.length_map]; exact HN.out.symm)
      go_wp2_with fail
      go_ret2
      refine ⟨b, cc, ?_, ?_, HB.out⟩
      · rw [HOK.out, HRL.out]; rfl
      · rw [HRL.out, HRV.out, ← HVK.out]; exact HO.out

end Go.Proofs.YtggpbekclegfoaaDoor

namespace Go.Proofs.YtggpbekclegfoaaDoor
open Go.RowKit

theorem hexS_size (n : Nat) : (hexS n).size = 8 := hexK_size n 8
def wordsF (xs : List Nat) : List ByteArray := xs.map fun x => hexS (codeN x)
def numT (xs : List Nat) : ByteArray := textS (wordsF xs)
theorem wordsF_len (xs : List Nat) : (wordsF xs).length = xs.length := by simp [wordsF]
theorem wordsF_take (xs : List Nat) (k : Nat) (h : k < xs.length) : wordsF (xs.take (k + 1)) = wordsF (xs.take k) ++ [hexS (codeN (xs.getD k 0))] := by
  unfold wordsF
  rw [List.take_add_one, List.map_append, List.getElem?_eq_getElem h, List.getD_eq_getElem?_getD, List.getElem?_eq_getElem h]
  rfl
theorem wordsF_at (xs : List Nat) (k : Nat) (h : k < xs.length) : (wordsF xs).getD k E0 = hexS (codeN (xs.getD k 0)) := by
  unfold wordsF
  rw [List.getD_eq_getElem?_getD, List.getD_eq_getElem?_getD, List.getElem?_map, List.getElem?_eq_getElem h]
  rfl
theorem wordsF_size (xs : List Nat) : ∀ x ∈ wordsF xs, x.size ≤ 8 := by
  intro x hx
  obtain ⟨y, _, rfl⟩ := List.mem_map.1 hx
  exact Nat.le_of_eq (hexS_size _)
theorem numT_size (xs : List Nat) (h : xs.length ≤ 256) : (numT xs).size ≤ 2304 := by
  unfold numT textS
  split
  · decide
  · have h1 := joinBy_size 44 (wordsF xs) 8 (wordsF_size xs)
    rw [wordsF_len] at h1
    omega
theorem bitsF_at {xs : List Nat} (h : BitsF xs) {k : Nat} (hk : k < xs.length) : xs.getD k 0 < 4294967296 := by
  rw [List.getD_eq_getElem?_getD, List.getElem?_eq_getElem hk]
  exact h _ (List.getElem_mem _)

theorem areNumbers_any (n : Nat) (w : World) (h : n ≤ 256) : Calls Tryd.prog 62 #[.int .i64 n] w fun e w' => e = .returned (.bool true) ∧ w = w' := by
  have hd : decide ((n : Int) ≤ 256) = true := decide_eq_true (by omega)
  go_enter Tryd.func62, Tryd.ntmps62
  go_wp2_with fail
  go_ret
  exact ⟨rfl, rfl⟩

set_option maxHeartbeats 1000000 in
theorem NumbersText_any (v : Value) (xs : List Nat) (w : World) (h : RdF w v xs) (hs : BitsF xs) (hl : xs.length ≤ 256) :
    Calls Tryd.prog 37 #[v] w fun e w' => e = .returned (.tuple #[.string (numT xs), .bool true]) ∧ Below w.heap.size w w' := by
  obtain ⟨a, c, rfl⟩ := h.shape
  have HR := Lib.hid h
  have HS := Lib.hid hs
  clear h hs
  have HAN := Lib.hid (areNumbers_any xs.length w hl)
  go_enter Tryd.func37, Tryd.ntmps37
  go_upto_region 3 with (go_at_call 62; refine HAN.out.mono ?_; rintro e w1 ⟨rfl, rfl⟩)
  clear HAN
  go_wp2_with fail
  go_loopw [4, 13] (fun ov iv wr => ∃ (k : Nat) (b : Option Addr) (cc : Nat), iv = .int .i64 k ∧ k ≤ xs.length ∧ ov = .slice b k cc ∧ Hid (wr.ownsRow w.heap.size 9 1 (.slice b k cc) k ((wordsF (xs.take k)).map SV)) ∧ Hid (Below w.heap.size w wr)) (fun _ iv _ => xs.length + 1 - (intOf iv).toNat)
  case atStart => exact ⟨0, none, 0, rfl, Nat.zero_le _, rfl, Lib.hid (World.ownsRow_nil _ _ _ _), Lib.hid (Below.refl _ _)⟩
  case round =>
    obtain ⟨k, b, cc, rfl, hk, rfl, HO, HB⟩ := hrel
    obtain ⟨wo, rfl⟩ : ∃ wo, wo = wr := ⟨wr, rfl⟩
    have hsz := HB.out.size
    by_cases hlt : k < xs.length
    · have hlt' : (k : Int) < xs.length := by omega
      obtain ⟨xb, xo, rfl, _, hx⟩ := (HR.out.up HB.out (Nat.le_refl _)).at hlt
      have hsm := bitsF_at HS.out hlt
      have HE := Lib.hid (wordsF_take xs k hlt)
      obtain ⟨x, hxe⟩ : ∃ x, x = xs.getD k 0 := ⟨_, rfl⟩
      rw [← hxe] at hx hsm HE
      clear hxe
      have HD := Lib.hid (hexOf_any x wo hsm)
      obtain ⟨D, hD⟩ : ∃ D, D = hexS (codeN x) := ⟨_, rfl⟩
      rw [← hD] at HD HE
      clear hsm hD
      go_wp2_with (first
        | (go_at_call 63; refine HD.out.mono ?_; rintro e w1 ⟨rfl, rfl⟩)
        | (at_builtin; refine app_strs rfl _ _ rfl w.heap.size (.slice b k cc) k (wordsF (xs.take k)) rfl (HO.out.alloc _) _ [D] rfl (slcS_one wo D _ rfl) (k + 1) (wordsF (xs.take (k + 1))) (by simp) HE.out (by omega) (by simp; omega) ?_; intro b3 c3 w3 hown3 hbl3 _)
        | fail)
      go_roundw
      case rel => exact ⟨k + 1, b3, c3, by go_num, by omega, rfl, Lib.hid hown3, Lib.hid (HB.out.trans (((Below.refl _ _).alloc (by omega) _).trans hbl3))⟩
      case measure => simp [intOf]; omega
    · obtain rfl : k = xs.length := by omega
      have hwl := wordsF_len xs
      have hws := wordsF_size xs
      have hrd : RdSs wo (.slice b xs.length cc) (wordsF xs) := ⟨by have := slc_of_owns HO.out; rw [List.take_length] at this; exact this, fun s hs => by have := hws s hs; simp [maxLen]; omega⟩
      have HJ := Lib.hid (joined_any _ (wordsF xs) wo hrd (fun x hx => by have := hws x hx; omega) (by omega))
      clear hwl hws hrd
      go_wp2_with (go_at_call 64; refine HJ.out.mono ?_; rintro e w1 ⟨rfl, hb1⟩)
      go_ret2
      exact ⟨rfl, HB.out.trans (hb1.mono hsz)⟩

theorem jnF_size (xs : List Nat) (k : Nat) : (jnK 44 (wordsF xs) k).size ≤ 9 * xs.length := by
  have h1 := joinBy_size 44 ((wordsF xs).take k) 8 (fun x hx => wordsF_size xs x (List.mem_of_mem_take hx))
  have h2 : ((wordsF xs).take k).length ≤ xs.length := by rw [List.length_take, wordsF_len]; omega
  have h3 := Nat.mul_le_mul_left 9 h2
  unfold jnK
  omega

set_option maxHeartbeats 1000000 in
theorem l01NText_any (v : Value) (xs : List Nat) (w : World) (h : RdF w v xs) (hs : BitsF xs) (hl : xs.length ≤ 1000000) :
    Calls Tryd.prog 59 #[v] w fun e w' => e = .returned (.string (numT xs)) ∧ Below w.heap.size w w' := by
  obtain ⟨a, c, rfl⟩ := h.shape
  have HR := Lib.hid h
  have HS := Lib.hid hs
  clear h hs
  by_cases h0 : xs.length = 0
  · have hd : ((xs.length : Int) == 0) = true := by simp [h0]
    have he := Lib.hid (show numT xs = noneS by unfold numT textS; rw [show (wordsF xs).isEmpty = true by rw [List.isEmpty_iff]; exact List.length_eq_zero_iff.1 (by rw [wordsF_len]; exact h0)]; rfl)
    clear h0
    go_enter Tryd.func59, Tryd.ntmps59
    go_wp2_with fail
    go_ret
    exact ⟨by rw [he.out]; rfl, Below.refl _ _⟩
  have hpos : 0 < xs.length := Nat.pos_of_ne_zero h0
  have hd : ((xs.length : Int) == 0) = false := by rw [beq_eq_false_iff_ne]; omega
  have hposI : (0 : Int) < xs.length := by omega
  clear h0
  have HLT := Lib.hid (show numT xs = jnK 44 (wordsF xs) xs.length by
    have := jnK_all 44 (wordsF xs)
    rw [wordsF_len] at this
    rw [this]
    unfold numT textS
    rw [if_neg (by rw [List.isEmpty_iff]; intro e; have := congrArg List.length e; rw [wordsF_len, List.length_nil] at this; omega)])
  obtain ⟨xb, xo, rfl, _, hx⟩ := HR.out.at (i := 0) hpos
  have hsm := bitsF_at HS.out hpos
  have H1 := Lib.hid (show jnK 44 (wordsF xs) 1 = hexS (codeN (xs.getD 0 0)) by rw [jnK_one _ _ (by rw [wordsF_len]; exact hpos), wordsF_at xs 0 hpos])
  obtain ⟨x, hxe⟩ : ∃ x, x = xs.getD 0 0 := ⟨_, rfl⟩
  rw [← hxe] at hx hsm H1
  clear hxe
  rw [Nat.add_zero] at hx
  have HD := Lib.hid (fun W => l01Hex_any x W hsm)
  clear hsm
  go_enter Tryd.func59, Tryd.ntmps59
  go_wp2_with (go_at_call 80; refine (HD.out _).mono ?_; rintro e w1 ⟨rfl, hb1⟩)
  have HB1 := Lib.hid hb1
  clear hb1 HD
  rw [← H1.out]
  go_loopw [3, 4] (fun sv iv wr => ∃ k : Nat, iv = .int .i64 k ∧ 1 ≤ k ∧ k ≤ xs.length ∧ sv = .string (jnK 44 (wordsF xs) k) ∧ Hid (Below w.heap.size w wr)) (fun _ iv _ => xs.length + 1 - (intOf iv).toNat)
  case atStart => exact ⟨1, rfl, Nat.le_refl _, hpos, rfl, HB1⟩
  case round =>
    clear HB1
    obtain ⟨k, rfl, hk1, hk, rfl, HB⟩ := hrel
    obtain ⟨wo, rfl⟩ : ∃ wo, wo = wr := ⟨wr, rfl⟩
    have hsz := HB.out.size
    by_cases hlt : k < xs.length
    · have hlt' : (k : Int) < xs.length := by omega
      obtain ⟨xb2, xo2, ee, _, hy⟩ := (HR.out.up HB.out (Nat.le_refl _)).at hlt
      simp only [Option.some.injEq, Addr.mk.injEq, and_true] at ee
      obtain ⟨rfl, rfl⟩ := ee
      have hsm := bitsF_at HS.out hlt
      have HE := Lib.hid (show jnK 44 (wordsF xs) (k + 1) = jnK 44 (wordsF xs) k ++ B1 44 ++ hexS (codeN (xs.getD k 0)) by rw [jnK_succ 44 (wordsF xs) k (by rw [wordsF_len]; exact hlt) hk1, wordsF_at xs k hlt])
      have hjs := jnF_size xs k
      obtain ⟨y, hye⟩ : ∃ y, y = xs.getD k 0 := ⟨_, rfl⟩
      rw [← hye] at hy hsm HE
      clear hye
      obtain ⟨S, hS⟩ : ∃ S, S = jnK 44 (wordsF xs) k := ⟨_, rfl⟩
      rw [← hS] at HE hjs ⊢
      have hds := hexS_size (codeN y)
      have HD := Lib.hid (fun W => l01Hex_any y W hsm)
      obtain ⟨D, hD⟩ : ∃ D, D = hexS (codeN y) := ⟨_, rfl⟩
      rw [← hD] at HD HE hds
      have n1 : ¬ 9223372036854775807 < 1 + D.size := by omega
      have n2 : ¬ 9223372036854775807 < S.size + (1 + D.size) := by omega
      clear hS hD hsm hds
      go_wp2_with (go_at_call 80; refine (HD.out _).mono ?_; rintro e w2 ⟨rfl, hb2⟩)
      go_roundw
      case rel => exact ⟨k + 1, by go_num, by omega, by omega, by rw [HE.out, ByteArray.append_assoc]; rfl, Lib.hid (HB.out.trans (hb2.mono hsz))⟩
      case measure => simp [intOf]; omega
    · obtain rfl : k = xs.length := by omega
      go_wp2_with fail
      go_ret
      exact ⟨by rw [HLT.out]; rfl, HB.out⟩

end Go.Proofs.YtggpbekclegfoaaDoor

namespace Go.Proofs.YtggpbekclegfoaaDoor
open Go.RowKit

/-- The sum of the first k products; none where it is no number. -/
def dotO (a b : List Nat) : Nat → Option Nat
  | 0 => some 0
  | k + 1 => (dotO a b k).bind fun s => (Ieee.single.mul (a.getD k 0) (b.getD k 0)).bind fun p => Ieee.single.add s p
/-- The bits are those told, or some NaN where none are. -/
def Mt (o : Option Nat) (s : Nat) : Prop := (∀ r, o = some r → s = r) ∧ (o = none → nan32 s = true)
def finO (o : Option Nat) : Bool := match o with
  | some r => fin32 r
  | none => false

theorem drewN_on {w W : World} (h : ∃ m, W = w.drewN m) (n : Nat) : ∃ m, W.drewN n = w.drewN m := by obtain ⟨m, rfl⟩ := h; exact ⟨m + n, World.drewN_drewN _ _ _⟩
theorem fin_of_nan {x : Nat} (h : nan32 x = true) : fin32 x = false := by
  unfold nan32 at h
  unfold fin32
  cases hr : Ieee.single.read x with
  | nan a b => rfl
  | infinity s => rfl
  | number s m e => rw [hr] at h; simp [Ieee.Datum.isNaN] at h
theorem Mt.fin {o : Option Nat} {s : Nat} (h : Mt o s) : fin32 s = finO o := by
  cases o with
  | none => exact fin_of_nan (h.2 rfl)
  | some r => rw [h.1 r rfl]; rfl
theorem Mt.of_some {r s : Nat} (h : Mt (some r) s) : s = r := h.1 r rfl
theorem Mt.some' (r : Nat) : Mt (some r) r := ⟨fun _ h => (Option.some.inj h), fun h => nomatch h⟩
theorem mul_fin {x y : Nat} (hx : fin32 x = true) (hy : fin32 y = true) : ∃ p, Ieee.single.mul x y = some p := by
  unfold fin32 at hx hy
  unfold Ieee.Format.mul
  cases hr : Ieee.single.read x with
  | nan a b => rw [hr] at hx; simp at hx
  | infinity s => rw [hr] at hx; simp at hx
  | number s m e =>
    cases hq : Ieee.single.read y with
    | nan a b => rw [hq] at hy; simp at hy
    | infinity s => rw [hq] at hy; simp at hy
    | number s' m' e' => exact ⟨_, rfl⟩
theorem add_nanL {x y : Nat} (h : nan32 x = true) : Ieee.single.add x y = none := by
  unfold nan32 at h
  unfold Ieee.Format.add
  cases hr : Ieee.single.read x with
  | nan a b => simp [Ieee.Datum.sum]
  | infinity s => rw [hr] at h; simp [Ieee.Datum.isNaN] at h
  | number s m e => rw [hr] at h; simp [Ieee.Datum.isNaN] at h
theorem Mt_some {a b : List Nat} {k s p r : Nat} (h : Mt (dotO a b k) s) (hp : Ieee.single.mul (a.getD k 0) (b.getD k 0) = some p) (hr : Ieee.single.add s p = some r) : Mt (dotO a b (k + 1)) r := by
  cases hd : dotO a b k with
  | none => rw [hd] at h; rw [add_nanL (h.2 rfl)] at hr; cases hr
  | some s' =>
    rw [hd] at h
    rw [h.of_some] at hr
    simp only [dotO, hd, Option.bind_some, hp, hr]
    exact Mt.some' r
theorem Mt_none {a b : List Nat} {k s p : Nat} (h : Mt (dotO a b k) s) (hp : Ieee.single.mul (a.getD k 0) (b.getD k 0) = some p) (hr : Ieee.single.add s p = none) (q : Nat) (hq : nan32 q = true) : Mt (dotO a b (k + 1)) q := by
  have : dotO a b (k + 1) = none := by
    cases hd : dotO a b k with
    | none => simp only [dotO, hd, Option.bind_none]
    | some s' =>
      rw [hd] at h
      rw [h.of_some] at hr
      simp only [dotO, hd, Option.bind_some, hp, hr]
  rw [this]
  exact ⟨fun r h => by simp at h, fun _ => hq⟩

theorem run_mul_some {P : Program} (t : TypeId) (x y r : Nat) (h : Ieee.single.mul x y = some r) (w : World) :
    (binOp .mul t (.float .f32 x) (.float .f32 y)).run P w = .ok (.float .f32 r) w := run_float_arith w .mul t .f32 x y r h
theorem run_add_some {P : Program} (t : TypeId) (x y r : Nat) (h : Ieee.single.add x y = some r) (w : World) :
    (binOp .add t (.float .f32 x) (.float .f32 y)).run P w = .ok (.float .f32 r) w := run_float_arith w .add t .f32 x y r h
theorem run_add_none {P : Program} (t : TypeId) (x y : Nat) (h : Ieee.single.add x y = none) (w : World) :
    (binOp .add t (.float .f32 x) (.float .f32 y)).run P w = .ok (.float .f32 (tape32 (.nanBits .f32 x y) w)) w.drew := by
  have h' : FloatKind.f32.format.add x y = none := h
  simp [binOp, Op.floatArith, h', tape32, Question.forced, Result.andThen]

end Go.Proofs.YtggpbekclegfoaaDoor

namespace Go.Proofs.YtggpbekclegfoaaDoor
open Go.RowKit

/-- From 0 to a million. -/
def inR (x : Nat) : Bool := geq0 x && (FloatKind.f32.format.order x 1232348160 == some .lt || FloatKind.f32.format.order x 1232348160 == some .eq)
def toI (x : Nat) : Int := (floatToIntVal .f32 x .i64).getD 0

theorem read_mil : Ieee.single.read 1232348160 = .number false 16000000 (-4) := by decide +kernel
theorem read_zero : Ieee.single.read 0 = .number false 0 (-149) := by decide +kernel

theorem cmp_cases (a b : Int) : (compare a b = .lt ∧ a < b) ∨ (compare a b = .eq ∧ a = b) ∨ (compare a b = .gt ∧ b < a) := by
  simp only [compare, compareOfLessAndEq]
  by_cases h1 : a < b
  · rw [if_pos h1]; exact .inl ⟨rfl, h1⟩
  · rw [if_neg h1]
    by_cases h2 : a = b
    · rw [if_pos h2]; exact .inr (.inl ⟨rfl, h2⟩)
    · rw [if_neg h2]; exact .inr (.inr ⟨rfl, by omega⟩)
theorem cmp_gt {a b : Int} (h : compare a b = .gt) : b < a := by
  rcases cmp_cases a b with ⟨e, _⟩ | ⟨e, _⟩ | ⟨_, h2⟩
  · rw [e] at h; cases h
  · rw [e] at h; cases h
  · exact h2
theorem cmp_eq {a b : Int} (h : compare a b = .eq) : a = b := by
  rcases cmp_cases a b with ⟨e, _⟩ | ⟨_, h2⟩ | ⟨e, _⟩
  · rw [e] at h; cases h
  · exact h2
  · rw [e] at h; cases h
theorem cmp_lt {a b : Int} (h : compare a b = .lt) : a < b := by
  rcases cmp_cases a b with ⟨_, h2⟩ | ⟨e, _⟩ | ⟨e, _⟩
  · exact h2
  · rw [e] at h; cases h
  · rw [e] at h; cases h

theorem inR_number {x : Nat} (h : inR x = true) : ∃ s m e, Ieee.single.read x = .number s m e ∧ (s = true → m = 0) ∧ (0 ≤ e → m <<< (e + 4).toNat ≤ 16000000) := by
  unfold inR geq0 at h
  simp only [Bool.and_eq_true, Bool.or_eq_true, beq_iff_eq] at h
  obtain ⟨h1, h2⟩ := h
  have e1 : FloatKind.f32.format.order x 0 = (Ieee.single.read x).order (.number false 0 (-149)) := by show (Ieee.single.read x).order (Ieee.single.read 0) = _; rw [read_zero]
  have e2 : FloatKind.f32.format.order x 1232348160 = (Ieee.single.read x).order (.number false 16000000 (-4)) := by show (Ieee.single.read x).order (Ieee.single.read 1232348160) = _; rw [read_mil]
  rw [e1] at h1
  rw [e2] at h2
  cases hr : Ieee.single.read x with
  | nan a b => rw [hr] at h1; simp [Ieee.Datum.order] at h1
  | infinity s => rw [hr] at h1 h2; cases s <;> simp [Ieee.Datum.order] at h1 h2
  | number s m e =>
    rw [hr] at h1 h2
    refine ⟨s, m, e, rfl, ?_, ?_⟩
    · rintro rfl
      by_cases hm : m = 0
      · exact hm
      · exfalso
        simp only [Ieee.Datum.order, Option.some.injEq, Ieee.signed, Nat.zero_shiftLeft, if_true] at h1
        have hp : 0 < m <<< (e - min e (-149)).toNat := by rw [Nat.shiftLeft_eq]; exact Nat.mul_pos (by omega) (Nat.two_pow_pos _)
        generalize m <<< (e - min e (-149)).toNat = K at h1 hp
        have hlt : (-(K : Int)) < ((0 : Nat) : Int) := by omega
        rcases h1 with h1 | h1
        · have := cmp_gt h1; simp at this; omega
        · have := cmp_eq h1; simp at this; omega
    · intro he
      have hb : min e (-4) = -4 := by omega
      have hz : (e - -4).toNat = (e + 4).toNat := by omega
      simp only [Ieee.Datum.order, Option.some.injEq, hb, hz, Ieee.signed, Int.sub_self, Int.toNat_zero, Nat.shiftLeft_zero] at h2
      cases s with
      | true =>
        -- a negative number: its size is 0
        simp only [Ieee.Datum.order, Option.some.injEq, Ieee.signed, Nat.zero_shiftLeft, if_true] at h1
        have hm : m = 0 := by
          by_cases hm : m = 0
          · exact hm
          · exfalso
            have hp : 0 < m <<< (e - min e (-149)).toNat := by rw [Nat.shiftLeft_eq]; exact Nat.mul_pos (by omega) (Nat.two_pow_pos _)
            generalize m <<< (e - min e (-149)).toNat = K at h1 hp
            rcases h1 with h1 | h1
            · have := cmp_gt h1; simp at this; omega
            · have := cmp_eq h1; simp at this; omega
        subst hm; simp
      | false =>
        simp only [Bool.false_eq_true, if_false] at h2
        generalize m <<< (e + 4).toNat = K at h2 ⊢
        rcases h2 with h2 | h2
        · have := cmp_lt h2; omega
        · have := cmp_eq h2; omega

theorem inR_fin {x : Nat} (h : inR x = true) : fin32 x = true := by
  obtain ⟨s, m, e, hr, _⟩ := inR_number h
  unfold fin32; rw [hr]

theorem cut_zero (s : Bool) (n d : Nat) : Ieee.Toward.zero.cut s n d ≤ n := by
  unfold Ieee.Toward.cut
  simp only [Bool.toNat_false, Nat.add_zero]
  exact Nat.div_le_self _ _

theorem toI_some {x : Nat} (h : inR x = true) : floatToIntVal .f32 x .i64 = some (toI x) := by
  obtain ⟨s, m, e, hr, hs, hm⟩ := inR_number h
  have hb := read32_bound hr
  have key : ∃ z, floatToIntVal .f32 x .i64 = some z := by
    unfold floatToIntVal
    have e1 : FloatKind.f32.decode x = Ieee.single.read x := rfl
    rw [e1, hr]
    simp only [Ieee.Datum.toInt, Ieee.Datum.integral, Ieee.signed, Nat.shiftLeft_zero]
    have hcut : Ieee.Toward.zero.cut s (m <<< e.toNat) (-e).toNat ≤ 16777216 := by
      refine Nat.le_trans (cut_zero _ _ _) ?_
      by_cases he : 0 ≤ e
      · have h1 := hm he
        have h2 : m <<< e.toNat ≤ m <<< (e + 4).toNat := by
          rw [Nat.shiftLeft_eq, Nat.shiftLeft_eq]
          exact Nat.mul_le_mul_left _ (Nat.pow_le_pow_right (by decide) (by omega))
        omega
      · have : e.toNat = 0 := by omega
        rw [this, Nat.shiftLeft_zero]
        omega
    generalize Ieee.Toward.zero.cut s (m <<< e.toNat) (-e).toNat = K at hcut
    have c1 : IntKind.i64.min = -9223372036854775808 := rfl
    have c2 : IntKind.i64.max = 9223372036854775807 := rfl
    rw [c1, c2]
    refine ⟨_, if_pos ?_⟩
    cases s <;> simp <;> omega
  obtain ⟨z, hz⟩ := key
  unfold toI
  rw [hz]; rfl

structure OkP (r : RowsD) (x : List Nat) : Prop where
  v : ValR r
  l : (x.length : Int) = r.vars
  i : ∀ j, j < x.length → inR (x.getD j 0) = true
open Classical in
noncomputable def rpOk (r : RowsD) (x : List Nat) : Bool := decide (OkP r x)
open Classical in
noncomputable def rpL (r : RowsD) (x : List Nat) : List Int := if OkP r x then x.map toI else []
theorem rp_yes {r : RowsD} {x : List Nat} (h : OkP r x) : rpOk r x = true ∧ rpL r x = x.map toI := ⟨by simp [rpOk, h], if_pos h⟩
theorem rp_no {r : RowsD} {x : List Nat} (h : ¬ OkP r x) : rpOk r x = false ∧ rpL r x = [] := ⟨by simp [rpOk, h], if_neg h⟩
theorem rpL_cnt (r : RowsD) (x : List Nat) : cntI (rpL r x) ≤ 1048576 := by
  unfold cntI rpL
  split
  · next h =>
    have := h.l
    have := h.v.v8
    simp
    omega
  · simp
theorem map_take_succ {x : List Nat} {k : Nat} (hk : k < x.length) : (x.take (k + 1)).map toI = (x.take k).map toI ++ [toI (x.getD k 0)] := by
  rw [List.take_succ_eq_append_getElem hk, List.map_append, show x.getD k 0 = x[k] from by simp [hk]]; rfl

theorem inR_geq {x : Nat} (h : inR x = true) : (FloatKind.f32.format.order x 0 == some .gt || FloatKind.f32.format.order x 0 == some .eq) = true := by
  unfold inR geq0 at h; simp only [Bool.and_eq_true] at h; exact h.1
theorem inR_leq {x : Nat} (h : inR x = true) : (FloatKind.f32.format.order x 1232348160 == some .lt || FloatKind.f32.format.order x 1232348160 == some .eq) = true := by
  unfold inR geq0 at h; simp only [Bool.and_eq_true] at h; exact h.2

end Go.Proofs.YtggpbekclegfoaaDoor

namespace Go.Proofs.YtggpbekclegfoaaDoor
open Go.RowKit

def rowO (r : RowsD) (i : Nat) : List Nat := (r.nums.drop (i * r.gains.length)).take r.gains.length
def leftO (r : RowsD) (x : List Nat) (i : Nat) : Option Nat := (dotO (rowO r i) x r.gains.length).bind fun s => Ieee.single.sub (r.bnds.getD i 0) s
noncomputable def fitX (r : RowsD) (x : List Nat) : Bool := validR r && (((x.length : Int) == r.vars) && allFin x)
noncomputable def leftOk (r : RowsD) (x : List Nat) : Bool := fitX r x && (List.range r.bnds.length).all fun i => finO (leftO r x i)
def leftL (r : RowsD) (x : List Nat) : List Nat := (List.range r.bnds.length).map fun i => (leftO r x i).getD 0
noncomputable def leftR (r : RowsD) (x : List Nat) : List Nat := if leftOk r x = true then leftL r x else []
def gainO (r : RowsD) (x : List Nat) : Option Nat := dotO r.gains x r.gains.length
noncomputable def gainOk (r : RowsD) (x : List Nat) : Bool := fitX r x && finO (gainO r x)
noncomputable def gainV (r : RowsD) (x : List Nat) : Nat := if gainOk r x = true then (gainO r x).getD 0 else 0

theorem sub_nanR {x y : Nat} (h : nan32 y = true) : Ieee.single.sub x y = none := by
  unfold nan32 at h
  unfold Ieee.Format.sub
  cases hr : Ieee.single.read y with
  | nan a b => cases Ieee.single.read x <;> simp [Ieee.Datum.sum, Ieee.Datum.opposite]
  | infinity s => rw [hr] at h; simp [Ieee.Datum.isNaN] at h
  | number s m e => rw [hr] at h; simp [Ieee.Datum.isNaN] at h
theorem left_some {r : RowsD} {x : List Nat} {i s q : Nat} (h : Mt (dotO (rowO r i) x r.gains.length) s) (hq : Ieee.single.sub (r.bnds.getD i 0) s = some q) : Mt (leftO r x i) q := by
  unfold leftO
  cases hd : dotO (rowO r i) x r.gains.length with
  | none => rw [hd] at h; rw [sub_nanR (h.2 rfl)] at hq; cases hq
  | some s' =>
    rw [hd] at h
    rw [h.of_some] at hq
    simp only [Option.bind_some, hq]
    exact Mt.some' q
theorem left_none {r : RowsD} {x : List Nat} {i s : Nat} (h : Mt (dotO (rowO r i) x r.gains.length) s) (hq : Ieee.single.sub (r.bnds.getD i 0) s = none) (q : Nat) (hn : nan32 q = true) : Mt (leftO r x i) q := by
  have : leftO r x i = none := by
    unfold leftO
    cases hd : dotO (rowO r i) x r.gains.length with
    | none => rfl
    | some s' =>
      rw [hd] at h
      rw [h.of_some] at hq
      simp only [Option.bind_some, hq]
  rw [this]
  exact ⟨fun r h => by simp at h, fun _ => hn⟩

theorem rowO_len {r : RowsD} (hv : ValR r) {i : Nat} (hi : i < r.bnds.length) : (rowO r i).length = r.gains.length := by
  have h1 := hv.gl
  have h2 := hv.nl
  rw [← h1] at h2
  have h3 : r.nums.length = r.gains.length * r.bnds.length := by exact_mod_cast h2
  have h4 : (i + 1) * r.gains.length ≤ r.nums.length := by rw [h3, Nat.mul_comm]; exact Nat.mul_le_mul_left _ hi
  rw [Nat.add_mul] at h4
  unfold rowO
  rw [List.length_take, List.length_drop]
  omega
theorem rowO_fin {r : RowsD} (hv : ValR r) (i : Nat) : allFin (rowO r i) = true := by
  have h := hv.fn
  unfold allFin at h ⊢
  rw [List.all_eq_true] at h ⊢
  intro y hy
  unfold rowO at hy
  exact h y (List.mem_of_mem_drop (List.mem_of_mem_take hy))

/-- A piece of a slice of numbers reads. -/
theorem rdF_piece {w : World} {b off n cap : Nat} {xs : List Nat} (h : RdF w (.slice (some ⟨b, off, none⟩) n cap) xs) (m k : Nat) (hk : m + k ≤ xs.length) (c2 : Nat) (hc : k ≤ c2) (hc2 : c2 ≤ maxLen) : RdF w (.slice (some ⟨b, off + m, none⟩) k c2) ((xs.drop m).take k) := by
  have hl : ((xs.drop m).take k).length = k := by rw [List.length_take, List.length_drop]; omega
  refine .inr ⟨⟨b, off + m, none⟩, c2, by rw [List.length_map, hl], by rw [List.length_map, hl]; exact hc, hc2, fun i u hi => ?_⟩
  simp only [List.getElem?_map, Option.map_eq_some_iff] at hi
  obtain ⟨q, hq, rfl⟩ := hi
  have hlt : i < k := by have := (List.getElem?_eq_some_iff.1 hq).1; omega
  rw [List.getElem?_take_of_lt hlt, List.getElem?_drop] at hq
  obtain ⟨b', off', e, _, hcell⟩ := h.at (i := m + i) (by omega)
  simp only [Option.some.injEq, Addr.mk.injEq, and_true] at e
  obtain ⟨rfl, rfl⟩ := e
  have e2 : xs.getD (m + i) 0 = q := by rw [List.getD_eq_getElem?_getD, hq]; rfl
  rw [e2] at hcell
  have : (⟨b, off + m, none⟩ : Addr).add i = ⟨b, off + (m + i), none⟩ := by
    unfold Addr.add
    by_cases hz : i = 0
    · simp [hz]
    · simp [hz, Nat.add_assoc]
  rw [this]
  exact hcell

/-- The post of what returns a number and whether it is one. -/
def NumPost (q : Bool) (s : Nat) (B : Nat) (w : World) (e : Ending) (w' : World) : Prop := e = .returned (.tuple #[.float .f32 s, .bool q]) ∧ Below B w w'

end Go.Proofs.YtggpbekclegfoaaDoor

namespace Go.Proofs.YtggpbekclegfoaaDoor
open Go.RowKit

/-- The post of what returns a list and whether there is one. -/
def ListPost (q : Bool) (L : List Nat) (B : Nat) (w : World) (e : Ending) (w' : World) : Prop := ∃ v, e = .returned (.tuple #[v, .bool q]) ∧ RdF w' v L ∧ Below B w w'

theorem left_all {r : RowsD} {x ys : List Nat} (hl : ys.length = r.bnds.length) (h : ∀ j, j < r.bnds.length → Mt (leftO r x j) (ys.getD j 0)) : allFin ys = (List.range r.bnds.length).all fun i => finO (leftO r x i) := by
  rw [Bool.eq_iff_iff]
  constructor
  · intro ha
    rw [List.all_eq_true]
    intro i hi
    have hi' := List.mem_range.1 hi
    rw [← (h i hi').fin]
    exact allFin_get ha (by omega)
  · intro ha
    rw [List.all_eq_true] at ha
    refine allFin_yes fun i hi => ?_
    rw [(h i (by omega)).fin]
    exact ha i (List.mem_range.2 (by omega))
theorem left_eq {r : RowsD} {x ys : List Nat} (hl : ys.length = r.bnds.length) (h : ∀ j, j < r.bnds.length → Mt (leftO r x j) (ys.getD j 0)) (ha : allFin ys = true) : ys = leftL r x := by
  apply List.ext_getElem?
  intro i
  unfold leftL
  by_cases hi : i < r.bnds.length
  · have h1 := h i hi
    have h2 := allFin_get ha (i := i) (by omega)
    rw [h1.fin] at h2
    have h3 : ys[i]? = some (ys.getD i 0) := by simp [show i < ys.length by omega]
    rw [h3]
    simp only [List.getElem?_map, List.getElem?_range hi, Option.map_some]
    cases ho : leftO r x i with
    | none => rw [ho] at h2; cases h2
    | some g => rw [ho] at h1; rw [h1.of_some]; rfl
  · rw [List.getElem?_eq_none (by omega), List.getElem?_eq_none (by simp; omega)]

theorem getD_snoc_lt (ys : List Nat) (q j : Nat) (h : j < ys.length) : (ys ++ [q]).getD j 0 = ys.getD j 0 := by
  rw [List.getD_eq_getElem?_getD, List.getD_eq_getElem?_getD, List.getElem?_append_left h]
theorem getD_snoc_eq (ys : List Nat) (q j : Nat) (h : j = ys.length) : (ys ++ [q]).getD j 0 = q := by
  subst h; rw [List.getD_eq_getElem?_getD]; simp

theorem run_sub_none' {P : Program} (t : TypeId) (x y : Nat) (h : Ieee.single.sub x y = none) (w : World) :
    (binOp .sub t (.float .f32 x) (.float .f32 y)).run P w = .ok (.float .f32 (tape32 (.nanBits .f32 x y) w)) w.drew := run_sub_none t x y h w

end Go.Proofs.YtggpbekclegfoaaDoor

namespace Go.Proofs.YtggpbekclegfoaaDoor
open Go.RowKit

/-- A difference, a number or a NaN that the tape names. -/
def subV (x y : Nat) (w : World) : Nat := match Ieee.single.sub x y with
  | some r => r
  | none => tape32 (.nanBits .f32 x y) w
def subD (x y : Nat) : Nat := match Ieee.single.sub x y with
  | some _ => 0
  | none => 1
theorem run_sub_all {P : Program} (t : TypeId) (x y : Nat) (w : World) : (binOp .sub t (.float .f32 x) (.float .f32 y)).run P w = .ok (.float .f32 (subV x y w)) (w.drewN (subD x y)) := by
  unfold subV subD
  cases h : Ieee.single.sub x y with
  | some r => exact run_sub_some t x y r h w
  | none => exact run_sub_none t x y h w
theorem left_all' {r : RowsD} {x : List Nat} {i s : Nat} {y : Nat} (hy : y = r.bnds.getD i 0) (h : Mt (dotO (rowO r i) x r.gains.length) s) (w : World) : Mt (leftO r x i) (subV y s w) := by
  subst hy
  unfold subV
  cases hq : Ieee.single.sub (r.bnds.getD i 0) s with
  | some q => exact left_some h hq
  | none => exact left_none h hq _ (tape32_nan _ _ _)

theorem slcF_oneB (w : World) (z b : Nat) (hb : b = w.heap.size) : Slc (w.alloc (.cells #[.float .f32 z] 83)) (.slice (some ⟨b, 0, none⟩) 1 1) ([z].map F32) := by subst hb; exact slcF_one w z

end Go.Proofs.YtggpbekclegfoaaDoor
