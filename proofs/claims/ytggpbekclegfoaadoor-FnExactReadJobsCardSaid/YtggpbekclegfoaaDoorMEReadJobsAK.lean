/-
  FnExactReadJobs: texts joined: RlI, RdjI, RdjS, LFnExactReadJobs.
-/
import Derived.Deep.RegionLaw
import Derived.Deep.RegionHeld3
import Derived.Deep.Cut
import Derived.Test.YtggpbekclegfoaaDoorMEReadJobsAE
import Derived.Test.YtggpbekclegfoaaDoorMEReadJobsAI
import Derived.Test.YtggpbekclegfoaaDoorMEReadJobsAJ
namespace Go.Proofs.YtggpbekclegfoaaDoor
open Go.RowKit

theorem slcI_one1 (w : World) (x : Int) (b : Nat) (hb : b = w.heap.size) : Slc (w.alloc (.cells #[.int .i64 x] 2)) (.slice (some ⟨b, 0, none⟩) 1 1) ([x].map I64) := by
  subst hb
  have h := World.ownsRow_lit (base := w.heap.size) (e := 2) (size := 1) w #[.int .i64 x] 1 (Nat.le_refl _) (by simp [maxLen]) rfl
  exact slc_of_owns h
theorem ne_none {s : ByteArray} (h : s ≠ noneS) : (s.toList == [110, 111, 110, 101]) = false := by
  have e : noneS.toList = [110, 111, 110, 101] := by rw [ByteArray.toList_eq]; rfl
  have := str_ne h
  rwa [e] at this

theorem divided_any (s : ByteArray) (w : World) (hs : s.size ≤ 1048576) (hm : HasMax w) :
    Calls Tryd.prog 70 #[.string s] w fun e w' => ∃ a cap, e = .returned (.slice a (wsOf s).length cap) ∧ RdSs w' (.slice a (wsOf s).length cap) (wsOf s) ∧ Below w.heap.size w w' := by
  by_cases h : s = noneS
  · subst h
    rw [wsOf_none]
    have h0 : RdSs w (.slice none 0 0) [] := ⟨.inl ⟨rfl, rfl⟩, fun s hs => by cases hs⟩
    clear hs hm
    unfold noneS
    go_enter Tryd.func70, Tryd.ntmps70
    go_wp2_with fail
    go_ret
    exact ⟨none, 0, rfl, h0, Below.refl _ _⟩
  · have HS := Lib.hid (SplitC_any 44 s w hm hs)
    rw [wsOf_not h]
    have hne := ne_none h
    clear h hs hm
    go_enter Tryd.func70, Tryd.ntmps70
    go_wp2_with (go_at_call 43; refine HS.out.mono ?_; rintro e w1 ⟨a, cap, rfl, hr, hb⟩)
    go_ret
    exact ⟨a, cap, rfl, hr, hb⟩

set_option maxHeartbeats 2000000 in
theorem ReadList_any (s : ByteArray) (w : World) (hs : s.size ≤ 1048576) (hp : HasPow w) (hm : HasMax w) (he : HasErrs w) :
    Calls Tryd.prog 41 #[.string s] w fun e w' => ∃ a cap, e = .returned (.tuple #[.slice a (rdV s).length cap, .bool (listOk s)]) ∧ w'.ownsRow w.heap.size 2 1 (.slice a (rdV s).length cap) (rdV s).length ((rdV s).map I64) ∧ Below w.heap.size w w' := by
  have HDV := Lib.hid (divided_any s w hs hm)
  have HPW := Lib.hid hp
  have HER := Lib.hid he
  have hcn := wsOf_cnt s
  have HWA := Lib.hid (fun k h => @wsOf_at s k h)
  have HSZ := Lib.hid hs
  clear hp hm he
  obtain ⟨n, hn⟩ : ∃ n, n = (wsOf s).length := ⟨_, rfl⟩
  rw [← hn] at hcn HDV HWA
  have hnb : n ≤ 2000000 := by omega
  have HN := Lib.hid hn
  clear hn hs hcn
  go_enter Tryd.func41, Tryd.ntmps41
  go_upto_region 2 with fail
  go_wp2_with (go_at_call 70; refine HDV.out.mono ?_; rintro e w1 ⟨wa, wc, rfl, hrs, hb1⟩)
  have HRS := Lib.hid hrs
  have HB1 := Lib.hid hb1
  clear hrs hb1 HDV
  have hz1 := HB1.out.size
  go_loopw [4, 12] (fun ov iv wr => ∃ (k : Nat) (b : Option Addr) (cc : Nat), iv = .int .i64 k ∧ k ≤ n ∧ ov = .slice b k cc ∧ Hid (wr.ownsRow w1.heap.size 2 1 (.slice b k cc) k ((valsK s k).map I64)) ∧ Hid (∀ j, j < k → valOk ((wsOf s).getD j E0) = true) ∧ Hid (Below w1.heap.size w1 wr)) (fun _ iv _ => n + 1 - (intOf iv).toNat)
  case atStart => exact ⟨0, none, 0, rfl, Nat.zero_le _, rfl, Lib.hid (World.ownsRow_nil _ _ _ _), Lib.hid (by intro j hj; omega), Lib.hid (Below.refl _ _)⟩
  case round =>
    obtain ⟨k, b, cc, rfl, hk, rfl, HO, HALL, HB⟩ := hrel
    obtain ⟨wo, rfl⟩ : ∃ wo, wo = wr := ⟨wr, rfl⟩
    have hsz := HB.out.size
    by_cases hlt : k < n
    · have hlt' : (k : Int) < n := by omega
      have hlw : k < (wsOf s).length := by rw [← HN.out]; exact hlt
      obtain ⟨xb, xo, rfl, _, hx⟩ := (HRS.out.up HB.out (Nat.le_refl _)).at hlw
      have hxs := HWA.out k hlt
      have HE := Lib.hid (valsK_succ s k hlw)
      have HBAD := Lib.hid (fun h => listOk_bad hlw h)
      have HSTEP := Lib.hid (fun (h : valOk ((wsOf s).getD k E0) = true) => (show ∀ j, j < k + 1 → valOk ((wsOf s).getD j E0) = true from fun j hj => by
        by_cases hjk : j = k
        · rw [hjk]; exact h
        · exact HALL.out j (by omega)))
      obtain ⟨x, hxe⟩ : ∃ x, x = (wsOf s).getD k E0 := ⟨_, rfl⟩
      rw [← hxe] at hx hxs HE HBAD HSTEP
      clear hxe
      have HRD := Lib.hid (ReadDecimal_any x wo (Nat.le_trans hxs HSZ.out) (HPW.out.up (HB1.out.trans (HB.out.mono hz1)) (Nat.le_refl _)) (HER.out.up (HB1.out.trans (HB.out.mono hz1)) (Nat.le_refl _)))
      obtain ⟨z, hz⟩ : ∃ z, z = valN x := ⟨_, rfl⟩
      obtain ⟨q, hq⟩ : ∃ q, q = valOk x := ⟨_, rfl⟩
      rw [← hz] at HRD HE
      rw [← hq] at HRD HBAD HSTEP
      clear hz hq hxs
      cases q
      · have HNO := Lib.hid (HBAD.out rfl)
        have HRV := Lib.hid (rdV_no HNO.out)
        go_wp2_with (first
          | (go_at_call 44; refine HRD.out.mono ?_; rintro e w2 ⟨rfl, hb2⟩)
          | fail)
        go_ret2
        refine ⟨none, 0, ?_, ?_, HB1.out.trans ((HB.out.trans (hb2.mono hsz)).mono hz1)⟩
        · rw [HNO.out, HRV.out]; rfl
        · rw [HRV.out]; exact World.ownsRow_nil _ _ _ _
      · have HALL2 := Lib.hid (HSTEP.out rfl)
        go_wp2_with (first
          | (go_at_call 44; refine HRD.out.mono ?_; rintro e w2 ⟨rfl, hb2⟩; have HO1 := Lib.hid (owns_below HO.out hb2 (Nat.le_refl _)); have hsz2 := Nat.le_trans hsz hb2.size)
          | (at_builtin; refine app_ints rfl _ _ rfl w1.heap.size (.slice b k cc) k (valsK s k) rfl (HO1.out.alloc _) _ [z] rfl (slcI_one1 w2 z _ rfl) (k + 1) (valsK s (k + 1)) (by simp) HE.out (by omega) (by simp; omega) ?_; intro b3 c3 w3 hown3 hbl3 _ _)
          | fail)
        go_roundw
        case rel => exact ⟨k + 1, b3, c3, by go_num, by omega, rfl, Lib.hid hown3, HALL2, Lib.hid (HB.out.trans ((hb2.mono hsz).trans (((Below.refl _ _).alloc hsz2 _).trans hbl3)))⟩
        case measure => simp [intOf]; omega
    · obtain rfl : k = n := by omega
      have HOK := Lib.hid (listOk_all (s := s) (by rw [← HN.out]; exact HALL.out))
      have HVK := Lib.hid (show valsK s k = (wsOf s).map valN by rw [HN.out]; exact valsK_all s)
      have hrd : RdI wo (.slice b k cc) ((wsOf s).map valN) := by
        have := slc_of_owns HO.out
        rwa [HVK.out] at this
      have HAI := Lib.hid (areItems_any _ _ wo hrd)
      have hai := vals_allIn (s := s) (by rw [← HN.out]; exact HALL.out)
      rw [hai, List.length_map, ← HN.out, Bool.and_true] at HAI
      rw [← HN.out] at HOK
      by_cases h64 : k ≤ 64
      · have hd : decide (k ≤ 64) = true := decide_eq_true h64
        rw [hd] at HAI HOK
        have HRV := Lib.hid (rdV_ok HOK.out)
        have HRL := Lib.hid (show (rdV s).length = k by rw [HRV.out, List.length_map]; exact HN.out.symm)
        clear hrd hai hd
        go_wp2_with (first
          | (go_at_call 53; refine HAI.out.mono ?_; rintro e w2 ⟨rfl, rfl⟩)
          | fail)
        go_ret2
        refine ⟨b, cc, ?_, ?_, HB1.out.trans (HB.out.mono hz1)⟩
        · rw [HOK.out, HRL.out]; rfl
        · rw [HRL.out, HRV.out, ← HVK.out]; exact owns_base HO.out hz1
      · have hd : decide (k ≤ 64) = false := decide_eq_false h64
        rw [hd] at HAI HOK
        have HRV := Lib.hid (rdV_no HOK.out)
        clear hrd hai hd
        go_wp2_with (first
          | (go_at_call 53; refine HAI.out.mono ?_; rintro e w2 ⟨rfl, rfl⟩)
          | fail)
        go_ret2
        refine ⟨none, 0, ?_, ?_, HB1.out.trans (HB.out.mono hz1)⟩
        · rw [HOK.out, HRV.out]; rfl
        · rw [HRV.out]; exact World.ownsRow_nil _ _ _ _

theorem owns_types {w : World} {base base' size size' n n' : Nat} {e e' : TypeId} {v v' : Value} {vs vs' : List Value} (h : w.ownsRow base e size v n vs) (h' : w.ownsRow base' e' size' v' n' vs') (he : e ≠ e') : ∀ g, v.ownBlock = some g → v'.ownBlock ≠ some g := by
  intro g hg hg'
  rcases h.2 with ⟨rfl, _⟩ | ⟨g1, cap, cur, rfl, _, hb, _⟩
  · cases hg
  · rcases h'.2 with ⟨rfl, _⟩ | ⟨g2, cap2, cur2, rfl, _, hb2, _⟩
    · cases hg'
    · have e1 : g1 = g := Option.some.inj hg
      have e2 : g2 = g := Option.some.inj hg'
      subst e1
      subst e2
      rw [hb] at hb2
      simp only [Option.some.injEq, Obj.cells.injEq] at hb2
      exact he hb2.2.1
theorem owns_grown2 {w w' : World} {base : Nat} {e : TypeId} {v : Value} {n : Nat} {vs : List Value} {row : Option Nat} (h : w.ownsRow base e 1 v n vs) (hg : w.grownBy w' row) (hn : ∀ g, v.ownBlock = some g → row ≠ some g) : w'.ownsRow base e 1 v n vs :=
  owns_kept (S := fun k => row = some k) h ⟨hg.os, hg.tape, hg.output, hg.size, fun k hk hs => hg.block k hk fun e => hs e.symm⟩ hn

set_option maxHeartbeats 2000000 in
theorem l01Numbers_any (s : ByteArray) (w : World) (hs : s.size ≤ 1048576) :
    Calls Tryd.prog 69 #[.string s] w fun e w' => ∃ a cap, e = .returned (.tuple #[.slice a (rdV s).length cap, .bool (listOk s)]) ∧ w'.ownsRow w.heap.size 2 1 (.slice a (rdV s).length cap) (rdV s).length ((rdV s).map I64) ∧ Below w.heap.size w w' := by
  by_cases h : s = noneS
  · have HOK := Lib.hid (show listOk s = true by rw [h]; unfold listOk; rw [wsOf_none]; rfl)
    have HRV := Lib.hid (show rdV s = [] by rw [rdV_ok HOK.out, h, wsOf_none]; rfl)
    have hne : (s.toList == [110, 111, 110, 101]) = true := by rw [h, ByteArray.toList_eq]; rfl
    clear h hs
    go_enter Tryd.func69, Tryd.ntmps69
    go_wp2_with fail
    go_ret2
    refine ⟨some ⟨w.heap.size, 0, none⟩, 0, ?_, ?_, (Below.refl _ _).alloc (Nat.le_refl _) _⟩
    · rw [HOK.out, HRV.out]; rfl
    · rw [HRV.out]; exact owns_empty w
  have hne := ne_none h
  have HWS := Lib.hid (wsOf_not h)
  have hcn := wsOf_cnt s
  have hcut := l01Cut_any s 44 w hs
  rw [← HWS.out] at hcut
  have hcut2 := fun W => l01Cut_any s 44 W hs
  rw [← HWS.out] at hcut2
  have HCUT := Lib.hid hcut2
  have HWA := Lib.hid (fun k h => @wsOf_at s k h)
  have HSZ := Lib.hid hs
  clear h hs hcut hcut2
  obtain ⟨n, hn⟩ : ∃ n, n = (wsOf s).length := ⟨_, rfl⟩
  rw [← hn] at hcn HCUT HWA
  have HN := Lib.hid hn
  clear hn
  by_cases hlong : 64 < n
  · have HNO := Lib.hid (listOk_long (s := s) (by rw [← HN.out]; exact hlong))
    have HRV := Lib.hid (rdV_no HNO.out)
    have hd : decide ((64 : Int) < (n : Int)) = true := decide_eq_true (by omega)
    clear hlong hcn HWA
    go_enter Tryd.func69, Tryd.ntmps69
    go_wp2_with (go_at_call 71; refine (HCUT.out _).mono ?_; rintro e w1 ⟨a, cap, rfl, _, hb1⟩)
    go_ret2
    refine ⟨none, 0, ?_, ?_, ((Below.refl w.heap.size w).alloc (Nat.le_refl _) _).trans (hb1.mono (by simp))⟩
    · rw [HNO.out, HRV.out]; rfl
    · rw [HRV.out]; exact World.ownsRow_nil _ _ _ _
  have hd : decide ((64 : Int) < (n : Int)) = false := decide_eq_false (by omega)
  go_enter Tryd.func69, Tryd.ntmps69
  go_upto_region 4 with fail
  refine wp_at fun W1 hW1 => ?_
  have HO0 := Lib.hid (show W1.ownsRow w.heap.size 2 1 (.slice (some ⟨w.heap.size, 0, none⟩) 0 0) 0 ((valsK s 0).map I64) by subst hW1; exact owns_empty w)
  have HB0 := Lib.hid (show Below w.heap.size w W1 by subst hW1; exact (Below.refl _ _).alloc (Nat.le_refl _) _)
  clear hW1
  have hz0 := HB0.out.size
  go_wp2_with (go_at_call 71; refine (HCUT.out _).mono ?_; rintro e w2 ⟨wa, wc, rfl, hws, hb2⟩)
  have HWS0 := Lib.hid (owns_base hws hz0)
  have HO2 := Lib.hid (owns_below HO0.out hb2 (Nat.le_refl _))
  have HB2 := Lib.hid (HB0.out.trans (hb2.mono hz0))
  clear hws hb2 HO0 HB0 HCUT hz0
  go_loopw [4, 6] (fun ov iv wr => ∃ (k : Nat) (b : Option Addr) (cc : Nat), iv = .int .i64 k ∧ k ≤ n ∧ ov = .slice b k cc ∧ Hid (wr.ownsRow w.heap.size 2 1 (.slice b k cc) k ((valsK s k).map I64)) ∧ Hid (wr.ownsRow w.heap.size 9 1 (.slice wa n wc) n ((wsOf s).map SV)) ∧ Hid (∀ j, j < k → valOk ((wsOf s).getD j E0) = true) ∧ Hid (Below w.heap.size w wr)) (fun _ iv _ => n + 1 - (intOf iv).toNat)
  case atStart => exact ⟨0, _, _, rfl, Nat.zero_le _, rfl, HO2, HWS0, Lib.hid (by intro j hj; omega), HB2⟩
  case round =>
    clear HO2 HWS0 HB2
    obtain ⟨k, b, cc, rfl, hk, rfl, HO, HWD, HALL, HB⟩ := hrel
    obtain ⟨wo, rfl⟩ : ∃ wo, wo = wr := ⟨wr, rfl⟩
    have hsz := HB.out.size
    by_cases hlt : k < n
    · have hlt' : (k : Int) < n := by omega
      have hlw : k < (wsOf s).length := by rw [← HN.out]; exact hlt
      have hrd : RdSs wo (.slice wa n wc) (wsOf s) := ⟨slc_of_owns HWD.out, fun x hx => by have := wsOf_le s x hx; have := HSZ.out; unfold maxLen; omega⟩
      obtain ⟨xb, xo, rfl, _, hx⟩ := hrd.at hlw
      have hxs := HWA.out k hlt
      have HE := Lib.hid (valsK_succ s k hlw)
      have HBAD := Lib.hid (fun h => listOk_bad hlw h)
      have HSTEP := Lib.hid (fun (h : valOk ((wsOf s).getD k E0) = true) => (show ∀ j, j < k + 1 → valOk ((wsOf s).getD j E0) = true from fun j hj => by
        by_cases hjk : j = k
        · rw [hjk]; exact h
        · exact HALL.out j (by omega)))
      obtain ⟨x, hxe⟩ : ∃ x, x = (wsOf s).getD k E0 := ⟨_, rfl⟩
      rw [← hxe] at hx hxs HE HBAD HSTEP
      clear hxe hrd
      have HRD := Lib.hid (l01Value_any x wo (Nat.le_trans hxs HSZ.out))
      obtain ⟨z, hz⟩ : ∃ z, z = valN x := ⟨_, rfl⟩
      obtain ⟨q, hq⟩ : ∃ q, q = valOk x := ⟨_, rfl⟩
      rw [← hz] at HRD HE
      rw [← hq] at HRD HBAD HSTEP
      clear hz hq hxs
      cases q
      · have HNO := Lib.hid (HBAD.out rfl)
        have HRV := Lib.hid (rdV_no HNO.out)
        go_wp2_with (first
          | (go_at_call 72; refine HRD.out.mono ?_; rintro e w2 ⟨rfl, hb2⟩)
          | fail)
        go_ret2
        refine ⟨none, 0, ?_, ?_, HB.out.trans (hb2.mono hsz)⟩
        · rw [HNO.out, HRV.out]; rfl
        · rw [HRV.out]; exact World.ownsRow_nil _ _ _ _
      · have HALL2 := Lib.hid (HSTEP.out rfl)
        go_wp2_with (first
          | (go_at_call 72; refine HRD.out.mono ?_; rintro e w2 ⟨rfl, hb2⟩; have HO1 := Lib.hid ((owns_below HO.out hb2 (Nat.le_refl _)).alloc (.cells #[.int .i64 z] 2)); have HWD1 := Lib.hid ((owns_below HWD.out hb2 (Nat.le_refl _)).alloc (.cells #[.int .i64 z] 2)); have hsz2 := Nat.le_trans hsz hb2.size)
          | (at_builtin; refine app_ints rfl _ _ rfl w.heap.size (.slice b k cc) k (valsK s k) rfl HO1.out _ [z] rfl (slcI_one1 w2 z _ rfl) (k + 1) (valsK s (k + 1)) (by simp) HE.out (by omega) (by simp; omega) ?_; intro b3 c3 w3 hown3 hbl3 hg3 _; have HWD3 := Lib.hid (owns_grown2 HWD1.out hg3 (owns_types HWD1.out HO1.out (by decide))))
          | fail)
        go_roundw
        case rel => exact ⟨k + 1, b3, c3, by go_num, by omega, rfl, Lib.hid hown3, HWD3, HALL2, Lib.hid (HB.out.trans ((hb2.mono hsz).trans (((Below.refl _ _).alloc hsz2 _).trans hbl3)))⟩
        case measure => simp [intOf]; omega
    · obtain rfl : k = n := by omega
      have HOK := Lib.hid (listOk_all (s := s) (by rw [← HN.out]; exact HALL.out))
      rw [← HN.out, show decide (k ≤ 64) = true from decide_eq_true (by omega)] at HOK
      have HVK := Lib.hid (show valsK s k = (wsOf s).map valN by rw [HN.out]; exact valsK_all s)
      have HRV := Lib.hid (rdV_ok HOK.out)
      have HRL := Lib.hid (show (rdV s).length = k by rw [HRV.out, List.length_map]; exact HN.out.symm)
      go_wp2_with fail
      go_ret2
      refine ⟨b, cc, ?_, ?_, HB.out⟩
      · rw [HOK.out, HRL.out]; rfl
      · rw [HRL.out, HRV.out, ← HVK.out]; exact HO.out

end Go.Proofs.YtggpbekclegfoaaDoor

namespace Go.Proofs.YtggpbekclegfoaaDoor
open Go.RowKit

set_option maxHeartbeats 4000000 in
set_option maxRecDepth 4000 in
theorem readJobsI_any (s : ByteArray) (w : World) (hp : HasPow w) (hm : HasMax w) (he : HasErrs w) (hs : s.size ≤ 1048576) :
    Calls Tryd.prog 18 #[.string s] w fun e w' => ∃ v', e = .returned (.tuple #[v', .bool (rdjOk s)]) ∧ OwnJ w.heap.size w'.heap.size w' v' (rdjV s) ∧ Below w.heap.size w w' := by
  have HRL := Lib.hid (ReadList_any s w hs hp hm he)
  clear hp hm he hs
  cases hok : listOk s
  · have HNO := Lib.hid (rdj_bad hok)
    have HRV := Lib.hid (rdjV_no HNO.out)
    rw [hok] at HRL
    clear hok
    go_enter Tryd.func18, Tryd.ntmps18
    go_wp2_with (go_at_call 41; refine HRL.out.mono ?_; rintro e w1 ⟨a, cap, rfl, ho, hb⟩)
    go_ret2
    refine ⟨.slice none 0 0, by rw [HNO.out]; rfl, ?_, hb⟩
    rw [HRV.out]
    exact ⟨ownJ_nil _ _, by intro g hg; cases hg⟩
  rw [hok] at HRL
  have hlen := @rdV_len s
  have HOK := Lib.hid hok
  have HODD := Lib.hid (@rdj_odd s)
  have HEQ := Lib.hid (fun h4 => rdj_eq hok h4)
  have HYES := Lib.hid (@rdjV_yes s)
  have HNOV := Lib.hid (@rdjV_no s)
  obtain ⟨xs, hxs⟩ : ∃ xs, xs = rdV s := ⟨_, rfl⟩
  rw [← hxs] at HRL hlen HODD HEQ HYES
  obtain ⟨R, hR⟩ : ∃ R, R = rdjV s := ⟨_, rfl⟩
  rw [← hR] at HYES HNOV ⊢
  obtain ⟨q, hq⟩ : ∃ q, q = rdjOk s := ⟨_, rfl⟩
  rw [← hq] at HODD HEQ HYES HNOV ⊢
  clear hok hxs hR hq HOK
  by_cases h4 : xs.length % 4 = 0
  case neg =>
    have hq := HODD.out h4
    subst hq
    have HRV := Lib.hid (HNOV.out rfl)
    have hm4 : ((xs.length : Int) % 4 != 0) = true := by simp; omega
    clear h4 HODD HEQ HYES HNOV
    go_enter Tryd.func18, Tryd.ntmps18
    go_wp2_with (go_at_call 41; refine HRL.out.mono ?_; rintro e w1 ⟨a, cap, rfl, ho, hb⟩)
    go_ret2
    refine ⟨.slice none 0 0, rfl, ?_, hb⟩
    rw [HRV.out]
    exact ⟨ownJ_nil _ _, by intro g hg; cases hg⟩
  have HE := Lib.hid (HEQ.out h4)
  obtain ⟨n, hn⟩ : ∃ n, n = xs.length / 4 := ⟨_, rfl⟩
  rw [← hn] at HE HYES
  have hlen4 : xs.length = 4 * n := by omega
  have hm4 : ((xs.length : Int) % 4 != 0) = false := by simp; omega
  clear HODD HEQ hn h4
  have HLX := Lib.hid hlen4
  clear hlen4
  go_enter Tryd.func18, Tryd.ntmps18
  go_upto_region 4 with (go_at_call 41; refine HRL.out.mono ?_; rintro e w1 ⟨a, cap, rfl, ho, hb⟩)
  have HR := Lib.hid (show RdI w1 (.slice a xs.length cap) xs from slc_of_owns ho)
  have HB1 := Lib.hid hb
  have hz1 := hb.size
  clear ho hb HRL hm4
  go_wp2_with fail
  go_loopw [6, 7] (fun ov iv wr => ∃ (k i : Nat) (b : Option Addr) (cc : Nat), iv = .int .i64 i ∧ i ≤ xs.length ∧ Hid (i = 4 * k) ∧ k ≤ n ∧ ov = .slice b k cc ∧ Hid (wr.ownsRow w1.heap.size 49 4 (.slice b k cc) k (jobsC (jobsK xs k))) ∧ Hid (Below w1.heap.size w1 wr)) (fun _ iv _ => xs.length + 1 - (intOf iv).toNat)
  case atStart => exact ⟨0, 0, none, 0, rfl, Nat.zero_le _, Lib.hid rfl, Nat.zero_le _, rfl, Lib.hid (ownJ_nil _ _), Lib.hid (Below.refl _ _)⟩
  case round =>
    obtain ⟨k, i, b, cc, rfl, hi, HI, hk, rfl, HO, HB⟩ := hrel
    obtain ⟨wo, rfl⟩ : ∃ wo, wo = wr := ⟨wr, rfl⟩
    have hsz := HB.out.size
    by_cases hlt : i < xs.length
    · have hlt' : (i : Int) < xs.length := by omega
      have h1 : i + 1 < xs.length := by have := HI.out; have := HLX.out; omega
      have h2 : i + 2 < xs.length := by have := HI.out; have := HLX.out; omega
      have h3 : i + 3 < xs.length := by have := HI.out; have := HLX.out; omega
      have hk1 : k + 1 ≤ n := by have := HI.out; have := HLX.out; omega
      have HRW := HR.out.up HB.out (Nat.le_refl _)
      obtain ⟨xb, xo, rfl, hxb, d0⟩ := HRW.at hlt
      obtain ⟨xb1, xo1, e1, _, d1⟩ := HRW.at h1
      obtain ⟨xb2, xo2, e2, _, d2⟩ := HRW.at h2
      obtain ⟨xb3, xo3, e3, _, d3⟩ := HRW.at h3
      simp only [Option.some.injEq, Addr.mk.injEq, and_true] at e1 e2 e3
      obtain ⟨rfl, rfl⟩ := e1
      obtain ⟨rfl, rfl⟩ := e2
      obtain ⟨rfl, rfl⟩ := e3
      have HJ := Lib.hid (show jobsK xs (k + 1) = jobsK xs k ++ [⟨xs.getD i 0, xs.getD (i + 1) 0, xs.getD (i + 2) 0, xs.getD (i + 3) 0⟩] by rw [jobsK_succ, HI.out]; rfl)
      obtain ⟨j0, hj0⟩ : ∃ j, j = xs.getD i 0 := ⟨_, rfl⟩
      obtain ⟨j1, hj1⟩ : ∃ j, j = xs.getD (i + 1) 0 := ⟨_, rfl⟩
      obtain ⟨j2, hj2⟩ : ∃ j, j = xs.getD (i + 2) 0 := ⟨_, rfl⟩
      obtain ⟨j3, hj3⟩ : ∃ j, j = xs.getD (i + 3) 0 := ⟨_, rfl⟩
      rw [← hj0] at d0 HJ
      rw [← hj1] at d1 HJ
      rw [← hj2] at d2 HJ
      rw [← hj3] at d3 HJ
      obtain ⟨i1, hi1⟩ : ∃ i1, i1 = i + 1 := ⟨_, rfl⟩
      obtain ⟨i2, hi2⟩ : ∃ i2, i2 = i + 2 := ⟨_, rfl⟩
      obtain ⟨i3, hi3⟩ : ∃ i3, i3 = i + 3 := ⟨_, rfl⟩
      have hw1 : IntKind.i64.wrap ((i : Int) + 1) = (i1 : Int) := by rw [show ((i : Int) + 1) = (i1 : Int) by omega]; exact IntWalk.i64_in _ (by omega)
      have hw2 : IntKind.i64.wrap ((i : Int) + 2) = (i2 : Int) := by rw [show ((i : Int) + 2) = (i2 : Int) by omega]; exact IntWalk.i64_in _ (by omega)
      have hw3 : IntKind.i64.wrap ((i : Int) + 3) = (i3 : Int) := by rw [show ((i : Int) + 3) = (i3 : Int) by omega]; exact IntWalk.i64_in _ (by omega)
      have l1 : (i1 : Int) < xs.length := by omega
      have l2 : (i2 : Int) < xs.length := by omega
      have l3 : (i3 : Int) < xs.length := by omega
      rw [← hi1] at d1
      rw [← hi2] at d2
      rw [← hi3] at d3
      clear HRW hj0 hj1 hj2 hj3 h1 h2 h3 hi1 hi2 hi3
      have hn16 : k ≤ 16 := by have := HI.out; omega
      have hk1b : k + 1 ≤ 17 := by omega
      have HLW := Lib.hid (show Below w1.heap.size wo ((wo.alloc (.cells #[.int .i64 j0, .int .i64 j1, .int .i64 j2, .int .i64 j3] 49)).drew) from ((Below.refl _ _).alloc hsz _).drew)
      go_wp2_with fail
      go_region_law (refine step_app_job rfl (.tmp 27) (.tmp 48) rfl w1.heap.size (.slice b k cc) k (jobsK xs k) (by simp [Act.eval, Act.put]) (ownsK_below HO.out (((Below.refl _ _).alloc (Nat.le_refl _) _).drew) (Nat.le_refl _)) ⟨j0, j1, j2, j3⟩ wo.heap.size (Blk.new wo 49 #[.int .i64 j0, .int .i64 j1, .int .i64 j2, .int .i64 j3]) (by simp [Act.eval, Act.put]) (k + 1) (jobsK xs (k + 1)) rfl HJ.out (by omega) (by simp; omega) ?_; intro b3 c3 w3 hown3 hbl3)
      all_goals
        go_wp2_with fail
        go_roundw
        case rel => exact ⟨k + 1, i + 4, b3, c3, by go_num, by have := HI.out; have := HLX.out; omega, Lib.hid (by have := HI.out; omega), hk1, rfl, Lib.hid hown3, Lib.hid (HB.out.trans (HLW.out.trans hbl3))⟩
        case measure => simp [intOf]; omega
    · obtain rfl : i = xs.length := by omega
      obtain rfl : k = n := by have := HI.out; have := HLX.out; omega
      have HOW : Hid (OwnJ w1.heap.size wo.heap.size wo (.slice b k cc) (jobsK xs k)) := Lib.hid (OwnJ.mk (by rw [jobsK_len]; exact HO.out))
      have HA := Lib.hid (AreJobs_any _ _ wo HOW.out.rd)
      rw [← HE.out] at HA
      cases q
      · have HRV := Lib.hid (HNOV.out rfl)
        go_wp2_with (go_at_call 28; refine HA.out.mono ?_; rintro e w2 ⟨rfl, hb2⟩)
        go_ret2
        refine ⟨.slice none 0 0, rfl, ?_, HB1.out.trans ((HB.out.trans (hb2.mono hsz)).mono hz1)⟩
        rw [HRV.out]
        exact ⟨ownJ_nil _ _, by intro g hg; cases hg⟩
      · have HRV := Lib.hid (HYES.out rfl)
        go_wp2_with (go_at_call 28; refine HA.out.mono ?_; rintro e w2 ⟨rfl, hb2⟩)
        go_ret2
        refine ⟨.slice b k cc, rfl, ?_, HB1.out.trans ((HB.out.trans (hb2.mono hsz)).mono hz1)⟩
        rw [HRV.out]
        exact (HOW.out.up hb2 (Nat.le_refl _)).wide hz1 hb2.size

end Go.Proofs.YtggpbekclegfoaaDoor

namespace Go.Proofs.YtggpbekclegfoaaDoor
open Go.RowKit

set_option maxHeartbeats 4000000 in
set_option maxRecDepth 4000 in
theorem l08ReadJobs_any (s : ByteArray) (w : World) (hs : s.size ≤ 1048576) :
    Calls Tryd.prog 40 #[.string s] w fun e w' => ∃ v', e = .returned (.tuple #[v', .bool (rdjOk s)]) ∧ OwnJ w.heap.size w'.heap.size w' v' (rdjV s) ∧ Below w.heap.size w w' := by
  have HRL := Lib.hid (l01Numbers_any s w hs)
  clear hs
  cases hok : listOk s
  · have HNO := Lib.hid (rdj_bad hok)
    have HRV := Lib.hid (rdjV_no HNO.out)
    rw [hok] at HRL
    clear hok
    go_enter Tryd.func40, Tryd.ntmps40
    go_wp2_with (go_at_call 69; refine HRL.out.mono ?_; rintro e w1 ⟨a, cap, rfl, ho, hb⟩)
    go_ret2
    refine ⟨.slice none 0 0, by rw [HNO.out]; rfl, ?_, hb⟩
    rw [HRV.out]
    exact ⟨ownJ_nil _ _, by intro g hg; cases hg⟩
  rw [hok] at HRL
  have hlen := @rdV_len s
  have HOK := Lib.hid hok
  have HODD := Lib.hid (@rdj_odd s)
  have HEQ := Lib.hid (fun h4 => rdj_eq hok h4)
  have HYES := Lib.hid (@rdjV_yes s)
  have HNOV := Lib.hid (@rdjV_no s)
  obtain ⟨xs, hxs⟩ : ∃ xs, xs = rdV s := ⟨_, rfl⟩
  rw [← hxs] at HRL hlen HODD HEQ HYES
  obtain ⟨R, hR⟩ : ∃ R, R = rdjV s := ⟨_, rfl⟩
  rw [← hR] at HYES HNOV ⊢
  obtain ⟨q, hq⟩ : ∃ q, q = rdjOk s := ⟨_, rfl⟩
  rw [← hq] at HODD HEQ HYES HNOV ⊢
  clear hok hxs hR hq HOK
  by_cases h4 : xs.length % 4 = 0
  case neg =>
    have hq := HODD.out h4
    subst hq
    have HRV := Lib.hid (HNOV.out rfl)
    have hm4 : ((xs.length : Int) % 4 != 0) = true := by simp; omega
    clear h4 HODD HEQ HYES HNOV
    go_enter Tryd.func40, Tryd.ntmps40
    go_wp2_with (go_at_call 69; refine HRL.out.mono ?_; rintro e w1 ⟨a, cap, rfl, ho, hb⟩)
    go_ret2
    refine ⟨.slice none 0 0, rfl, ?_, hb⟩
    rw [HRV.out]
    exact ⟨ownJ_nil _ _, by intro g hg; cases hg⟩
  have HE := Lib.hid (HEQ.out h4)
  obtain ⟨n, hn⟩ : ∃ n, n = xs.length / 4 := ⟨_, rfl⟩
  rw [← hn] at HE HYES
  have hlen4 : xs.length = 4 * n := by omega
  have hm4 : ((xs.length : Int) % 4 != 0) = false := by simp; omega
  clear HODD HEQ hn h4
  have HLX := Lib.hid hlen4
  clear hlen4
  go_enter Tryd.func40, Tryd.ntmps40
  go_upto_region 4 with (go_at_call 69; refine HRL.out.mono ?_; rintro e w1 ⟨a, cap, rfl, ho, hb⟩)
  have HR := Lib.hid (show RdI w1 (.slice a xs.length cap) xs from slc_of_owns ho)
  have HB1 := Lib.hid hb
  have hz1 := hb.size
  clear ho hb HRL hm4
  go_upto_region 5 with fail
  refine wp_at fun W2 hW2 => ?_
  have HO0 := Lib.hid (show W2.ownsRow w1.heap.size 49 4 (.slice (some ⟨w1.heap.size, 0, none⟩) 0 0) 0 (jobsC (jobsK xs 0)) by subst hW2; exact ownJ_empty w1 _ rfl)
  have HB0 := Lib.hid (show Below w1.heap.size w1 W2 by subst hW2; exact (Below.refl _ _).alloc (Nat.le_refl _) _)
  clear hW2
  go_wp2_with fail
  go_loopw [6, 7] (fun ov iv wr => ∃ (k i : Nat) (b : Option Addr) (cc : Nat), iv = .int .i64 i ∧ i ≤ xs.length ∧ Hid (i = 4 * k) ∧ k ≤ n ∧ ov = .slice b k cc ∧ Hid (wr.ownsRow w1.heap.size 49 4 (.slice b k cc) k (jobsC (jobsK xs k))) ∧ Hid (Below w1.heap.size w1 wr)) (fun _ iv _ => xs.length + 1 - (intOf iv).toNat)
  case atStart => exact ⟨0, 0, _, _, rfl, Nat.zero_le _, Lib.hid rfl, Nat.zero_le _, rfl, HO0, HB0⟩
  case round =>
    clear HO0 HB0
    obtain ⟨k, i, b, cc, rfl, hi, HI, hk, rfl, HO, HB⟩ := hrel
    obtain ⟨wo, rfl⟩ : ∃ wo, wo = wr := ⟨wr, rfl⟩
    have hsz := HB.out.size
    by_cases hlt : i < xs.length
    · have hlt' : (i : Int) < xs.length := by omega
      have h1 : i + 1 < xs.length := by have := HI.out; have := HLX.out; omega
      have h2 : i + 2 < xs.length := by have := HI.out; have := HLX.out; omega
      have h3 : i + 3 < xs.length := by have := HI.out; have := HLX.out; omega
      have hk1 : k + 1 ≤ n := by have := HI.out; have := HLX.out; omega
      have HRW := HR.out.up HB.out (Nat.le_refl _)
      obtain ⟨xb, xo, rfl, hxb, d0⟩ := HRW.at hlt
      obtain ⟨xb1, xo1, e1, _, d1⟩ := HRW.at h1
      obtain ⟨xb2, xo2, e2, _, d2⟩ := HRW.at h2
      obtain ⟨xb3, xo3, e3, _, d3⟩ := HRW.at h3
      simp only [Option.some.injEq, Addr.mk.injEq, and_true] at e1 e2 e3
      obtain ⟨rfl, rfl⟩ := e1
      obtain ⟨rfl, rfl⟩ := e2
      obtain ⟨rfl, rfl⟩ := e3
      have HJ := Lib.hid (show jobsK xs (k + 1) = jobsK xs k ++ [⟨xs.getD i 0, xs.getD (i + 1) 0, xs.getD (i + 2) 0, xs.getD (i + 3) 0⟩] by rw [jobsK_succ, HI.out]; rfl)
      obtain ⟨j0, hj0⟩ : ∃ j, j = xs.getD i 0 := ⟨_, rfl⟩
      obtain ⟨j1, hj1⟩ : ∃ j, j = xs.getD (i + 1) 0 := ⟨_, rfl⟩
      obtain ⟨j2, hj2⟩ : ∃ j, j = xs.getD (i + 2) 0 := ⟨_, rfl⟩
      obtain ⟨j3, hj3⟩ : ∃ j, j = xs.getD (i + 3) 0 := ⟨_, rfl⟩
      rw [← hj0] at d0 HJ
      rw [← hj1] at d1 HJ
      rw [← hj2] at d2 HJ
      rw [← hj3] at d3 HJ
      obtain ⟨i1, hi1⟩ : ∃ i1, i1 = i + 1 := ⟨_, rfl⟩
      obtain ⟨i2, hi2⟩ : ∃ i2, i2 = i + 2 := ⟨_, rfl⟩
      obtain ⟨i3, hi3⟩ : ∃ i3, i3 = i + 3 := ⟨_, rfl⟩
      have hw1 : IntKind.i64.wrap ((i : Int) + 1) = (i1 : Int) := by rw [show ((i : Int) + 1) = (i1 : Int) by omega]; exact IntWalk.i64_in _ (by omega)
      have hw2 : IntKind.i64.wrap ((i : Int) + 2) = (i2 : Int) := by rw [show ((i : Int) + 2) = (i2 : Int) by omega]; exact IntWalk.i64_in _ (by omega)
      have hw3 : IntKind.i64.wrap ((i : Int) + 3) = (i3 : Int) := by rw [show ((i : Int) + 3) = (i3 : Int) by omega]; exact IntWalk.i64_in _ (by omega)
      have l1 : (i1 : Int) < xs.length := by omega
      have l2 : (i2 : Int) < xs.length := by omega
      have l3 : (i3 : Int) < xs.length := by omega
      rw [← hi1] at d1
      rw [← hi2] at d2
      rw [← hi3] at d3
      clear HRW hj0 hj1 hj2 hj3 h1 h2 h3 hi1 hi2 hi3
      have hn16 : k ≤ 16 := by have := HI.out; omega
      have hk1b : k + 1 ≤ 17 := by omega
      have HLW := Lib.hid (show Below w1.heap.size wo ((wo.alloc (.cells #[.int .i64 j0, .int .i64 j1, .int .i64 j2, .int .i64 j3] 49)).drew) from ((Below.refl _ _).alloc hsz _).drew)
      go_wp2_with fail
      go_region_law (refine step_app_job rfl (.tmp 28) (.tmp 49) rfl w1.heap.size (.slice b k cc) k (jobsK xs k) (by simp [Act.eval, Act.put]) (ownsK_below HO.out (((Below.refl _ _).alloc (Nat.le_refl _) _).drew) (Nat.le_refl _)) ⟨j0, j1, j2, j3⟩ wo.heap.size (Blk.new wo 49 #[.int .i64 j0, .int .i64 j1, .int .i64 j2, .int .i64 j3]) (by simp [Act.eval, Act.put]) (k + 1) (jobsK xs (k + 1)) rfl HJ.out (by omega) (by simp; omega) ?_; intro b3 c3 w3 hown3 hbl3)
      all_goals
        go_wp2_with fail
        go_roundw
        case rel => exact ⟨k + 1, i + 4, b3, c3, by go_num, by have := HI.out; have := HLX.out; omega, Lib.hid (by have := HI.out; omega), hk1, rfl, Lib.hid hown3, Lib.hid (HB.out.trans (HLW.out.trans hbl3))⟩
        case measure => simp [intOf]; omega
    · obtain rfl : i = xs.length := by omega
      obtain rfl : k = n := by have := HI.out; have := HLX.out; omega
      have HOW : Hid (OwnJ w1.heap.size wo.heap.size wo (.slice b k cc) (jobsK xs k)) := Lib.hid (OwnJ.mk (by rw [jobsK_len]; exact HO.out))
      have HA := Lib.hid (l06Are_any _ _ wo HOW.out.rd)
      rw [← HE.out] at HA
      cases q
      · have HRV := Lib.hid (HNOV.out rfl)
        go_wp2_with (go_at_call 25; refine HA.out.mono ?_; rintro e w2 ⟨rfl, rfl⟩)
        go_ret2
        refine ⟨.slice none 0 0, rfl, ?_, HB1.out.trans (HB.out.mono hz1)⟩
        rw [HRV.out]
        exact ⟨ownJ_nil _ _, by intro g hg; cases hg⟩
      · have HRV := Lib.hid (HYES.out rfl)
        go_wp2_with (go_at_call 25; refine HA.out.mono ?_; rintro e w2 ⟨rfl, rfl⟩)
        go_ret2
        refine ⟨.slice b k cc, rfl, ?_, HB1.out.trans (HB.out.mono hz1)⟩
        rw [HRV.out]
        exact HOW.out.wide hz1 (Nat.le_refl _)

theorem readJobsS_any (s : ByteArray) (w : World) (hs : s.size ≤ 1048576) :
    Calls Tryd.prog 17 #[.string s] w fun e w' => ∃ v', e = .returned (.tuple #[v', .bool (rdjOk s)]) ∧ OwnJ w.heap.size w'.heap.size w' v' (rdjV s) ∧ Below w.heap.size w w' := by
  have HR := Lib.hid (l08ReadJobs_any s w hs)
  clear hs
  go_enter Tryd.func17, Tryd.ntmps17
  go_wp2_with (go_at_call 40; refine HR.out.mono ?_; rintro e w1 ⟨v', rfl, ho, hb⟩)
  go_ret2
  exact ⟨v', rfl, ho, hb⟩

end Go.Proofs.YtggpbekclegfoaaDoor

namespace Go.Proofs.YtggpbekclegfoaaDoor
open Go.RowKit

set_option maxHeartbeats 4000000 in
set_option maxRecDepth 100000 in
theorem lawReadJobs_any (w : World) (a0 : ByteArray) (hpw : HasPow w) (hmw : HasMax w) (hew : HasErrs w) :
    Calls Tryd.prog 5 #[.string a0] w fun e w' => e = .returned (.bool true) ∧ Below w.heap.size w w' := by
  have B : Hid (Below w.heap.size w w) := Below.refl _ _
  have HPW := Lib.hid hpw
  have HMW := Lib.hid hmw
  have HEW := Lib.hid hew
  clear hpw hmw hew
  go_enter Tryd.func5, Tryd.ntmps5
  by_cases hg0 : (1048576 : Int) < (a0.size : Nat)
  · go_wp2_with fail
    go_ret
    exact ⟨rfl, B.out⟩
  have hs0 : a0.size ≤ 1048576 := by omega
  have ne1 : ((rdjOk a0) != (rdjOk a0)) = false := by simp
  go_upto_region 3 with fail
  go_wp2_with fail
  refine (readJobsS_any a0 _ hs0).mono ?_
  rintro e w1 ⟨Wv0, rfl, Wo0, hb⟩
  replace Wo0 := Lib.hid Wo0
  replace B := Lib.hid (B.out.trans (hb.mono B.out.size))
  have zw1 : w.heap.size ≤ w1.heap.size := hb.size
  clear hb
  go_upto_region 4 with fail
  go_wp2_with fail
  refine (readJobsI_any a0 _ (HPW.out.up B.out (Nat.le_refl _)) (HMW.out.up B.out (Nat.le_refl _)) (HEW.out.up B.out (Nat.le_refl _)) hs0).mono ?_
  rintro e w2 ⟨Gv0, rfl, Go0, hb⟩
  replace Go0 := Lib.hid Go0
  replace B := Lib.hid (B.out.trans (hb.mono B.out.size))
  replace Wo0 := Lib.hid (Wo0.out.up hb (Nat.le_refl _))
  have zw2 : w1.heap.size ≤ w2.heap.size := hb.size
  clear hb
  go_upto_region 5 with fail
  go_wp2_with fail
  refine (eqJ_same _ _ (rdjV a0) _ Go0.out.rd Wo0.out.rd).mono ?_
  rintro e w3 ⟨rfl, hb⟩
  replace B := Lib.hid (B.out.trans (hb.mono B.out.size))
  replace Wo0 := Lib.hid (Wo0.out.up hb (Nat.le_refl _))
  replace Go0 := Lib.hid (Go0.out.up hb (Nat.le_refl _))
  have zw3 : w2.heap.size ≤ w3.heap.size := hb.size
  clear hb
  have hcGo0 : (0 : Int) ≤ (cntJ (rdjV a0) : Nat) := by omega
  have Go0h := Go0
  clear Go0h
  go_upto_region 8 with fail
  go_wp2_with fail
  refine (markJ_o _ _ _ (rdjV a0) _ _ Go0.out (by omega) (by have := rdjV_cnt a0; omega)).mono ?_
  rintro e w4 ⟨rfl, MGo0, hb⟩
  replace MGo0 := Lib.hid MGo0
  replace B := Lib.hid (B.out.trans (hb.toBelow B.out.size (by rintro k hk1 ⟨h1, h2⟩; omega)))
  replace Wo0 := Lib.hid (Wo0.out.kept hb (by rintro b h1 h2 ⟨h3, h4⟩; omega))
  have zw4 : w3.heap.size ≤ w4.heap.size := hb.size
  clear hb
  clear Go0
  have nm : ((1 + (cntJ (rdjV a0) : Int) : Int) != (1 + (cntJ (rdjV a0) : Int) : Int)) = false := by simp
  go_upto_region 10 with fail
  go_wp2_with fail
  refine (heldJ_o _ (rdjV a0) _ _ MGo0.out.rd (by omega) (by have := rdjV_cnt a0; omega)).mono ?_
  rintro e w5 ⟨rfl, hb⟩
  replace B := Lib.hid (B.out.trans (hb.mono B.out.size))
  replace Wo0 := Lib.hid (Wo0.out.up hb (Nat.le_refl _))
  replace MGo0 := Lib.hid (MGo0.out.up hb (Nat.le_refl _))
  have zw5 : w4.heap.size ≤ w5.heap.size := hb.size
  clear hb
  go_upto_region 15 with fail
  go_wp2_with fail
  refine (readJobsI_any a0 _ (HPW.out.up B.out (Nat.le_refl _)) (HMW.out.up B.out (Nat.le_refl _)) (HEW.out.up B.out (Nat.le_refl _)) hs0).mono ?_
  rintro e w6 ⟨Hv0, rfl, Ho0, hb⟩
  replace Ho0 := Lib.hid Ho0
  replace B := Lib.hid (B.out.trans (hb.mono B.out.size))
  replace Wo0 := Lib.hid (Wo0.out.up hb (Nat.le_refl _))
  replace MGo0 := Lib.hid (MGo0.out.up hb (Nat.le_refl _))
  have zw6 : w5.heap.size ≤ w6.heap.size := hb.size
  clear hb
  go_upto_region 16 with fail
  go_wp2_with fail
  refine (eqJ_same _ _ (rdjV a0) _ Ho0.out.rd Wo0.out.rd).mono ?_
  rintro e w7 ⟨rfl, hb⟩
  replace B := Lib.hid (B.out.trans (hb.mono B.out.size))
  replace Wo0 := Lib.hid (Wo0.out.up hb (Nat.le_refl _))
  replace MGo0 := Lib.hid (MGo0.out.up hb (Nat.le_refl _))
  replace Ho0 := Lib.hid (Ho0.out.up hb (Nat.le_refl _))
  have zw7 : w6.heap.size ≤ w7.heap.size := hb.size
  clear hb
  go_upto_region 19 with fail
  go_wp2_with fail
  refine (heldJ_o _ (rdjV a0) _ _ MGo0.out.rd (by omega) (by have := rdjV_cnt a0; omega)).mono ?_
  rintro e w8 ⟨rfl, hb⟩
  replace B := Lib.hid (B.out.trans (hb.mono B.out.size))
  replace Wo0 := Lib.hid (Wo0.out.up hb (Nat.le_refl _))
  replace MGo0 := Lib.hid (MGo0.out.up hb (Nat.le_refl _))
  replace Ho0 := Lib.hid (Ho0.out.up hb (Nat.le_refl _))
  have zw8 : w7.heap.size ≤ w8.heap.size := hb.size
  clear hb
  go_wp2_with fail
  go_ret
  exact ⟨rfl, B.out⟩

end Go.Proofs.YtggpbekclegfoaaDoor
