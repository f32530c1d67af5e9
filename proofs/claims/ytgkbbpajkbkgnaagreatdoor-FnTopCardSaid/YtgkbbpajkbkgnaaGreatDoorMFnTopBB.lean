/-
  FnTop: texts joined: RdI, RdS, RlI, FlI, RdrI, RdjM.
-/
import Derived.Maps.AppendAt
import Derived.Test.YtgkbbpajkbkgnaaGreatDoorMFnTopAC
import Derived.Test.YtgkbbpajkbkgnaaGreatDoorMFnTopAG
import Derived.Test.YtgkbbpajkbkgnaaGreatDoorMFnTopAK
import Derived.Test.YtgkbbpajkbkgnaaGreatDoorMFnTopAL
import Derived.Test.YtgkbbpajkbkgnaaGreatDoorMFnTopAM
import Derived.Test.YtgkbbpajkbkgnaaGreatDoorMFnTopBA
set_option linter.unusedVariables false
set_option linter.unusedSimpArgs false
namespace Go.Proofs.YtgkbbpajkbkgnaaGreatDoor
open Go.RowKit Go.Shelf
theorem var_up {P : Program} {w w' : World} {B : Nat} {nm : String} {cs : Array Value} (h : w.var? P nm = some cs) (hb : Below B w w') (hB : w.heap.size ≤ B) : w'.var? P nm = some cs := by
  unfold World.var? at h ⊢
  cases hg : P.globalNamed nm with
  | none => rw [hg] at h; cases h
  | some g =>
    rw [hg] at h
    simp only [Option.bind_some] at h ⊢
    cases hh : w.heap[g]? with
    | none => rw [hh] at h; cases h
    | some o =>
      have hlt : g < w.heap.size := (Array.getElem?_eq_some_iff.1 hh).1
      rw [hb.block g (by omega)]
      exact h
/-- The library's two errors are not nil. -/
def HasErrs (w : World) : Prop := (∃ tp p, w.var? Tryz.prog "strconv.ErrSyntax" = some #[.iface tp p]) ∧ (∃ tp p, w.var? Tryz.prog "strconv.ErrRange" = some #[.iface tp p])
theorem HasErrs.up {w w' : World} {B : Nat} (h : HasErrs w) (hb : Below B w w') (hB : w.heap.size ≤ B) : HasErrs w' := by
  obtain ⟨⟨a, b, h1⟩, ⟨c, d, h2⟩⟩ := h
  exact ⟨⟨a, b, var_up h1 hb hB⟩, ⟨c, d, var_up h2 hb hB⟩⟩
theorem ParseInt_ok (s : ByteArray) (v : Int) (w : World) (hs : s.size ≤ 1048576) (h : Lib.parseIntB 64 s.data.toList = .ok v) :
    Calls Tryz.prog 141 #[.string s, .int .i64 10, .int .i64 64] w fun e w' => e = .returned (.tuple #[.int .i64 v, .nilIface]) ∧ Below w.heap.size w w' := by
  refine (Any.strconv_ParseInt_10_at64_ok Tryz.laysC174 s (by omega) v h w).mono ?_
  rintro e w' ⟨rfl, rfl | ⟨t, rfl⟩⟩
  · exact ⟨rfl, Below.refl _ _⟩
  · exact ⟨rfl, bytesWorld_below _ _⟩
theorem ParseInt_bad (s : ByteArray) (w : World) (hs : s.size ≤ 1048576) (h : ∀ v, Lib.parseIntB 64 s.data.toList ≠ .ok v) (he : HasErrs w) :
    Calls Tryz.prog 141 #[.string s, .int .i64 10, .int .i64 64] w fun e w' => ∃ z T a, e = .returned (.tuple #[.int .i64 z, .iface T (.pointer (some a))]) ∧ Below w.heap.size w w' := by
  obtain ⟨⟨a, b, h1⟩, ⟨c, d, h2⟩⟩ := he
  cases hp : Lib.parseIntB 64 s.data.toList with
  | ok v => exact absurd hp (h v)
  | range =>
    refine (Any.strconv_ParseInt_10_at64_range_var Tryz.laysC174 s (by omega) hp c d w h2).mono ?_
    rintro e w' ⟨N, rfl, _, _, hb⟩
    exact ⟨_, _, _, rfl, hb⟩
  | _ =>
    refine (Any.strconv_ParseInt_10_at64_syntax_var Tryz.laysC174 s (by omega) hp a b w h1).mono ?_
    rintro e w' ⟨N, rfl, _, _, hb⟩
    exact ⟨_, _, _, rfl, hb⟩
theorem DecimalZ_any (n : Int) (h0 : -1000000000000000 ≤ n) (h1 : n ≤ 1000000000000000) (w : World) (htab : HasPow w) :
    Calls Tryz.prog 15 #[.int .i64 n] w fun e w' => e = .returned (.string (itoaB n)) ∧ Below w.heap.size w w' := by
  have hcon := Tryz.strconv_FormatInt_10 n (by omega) (by omega) w htab
  rw [show (⟨(Lib.itoa n).toArray⟩ : ByteArray) = itoaB n from rfl] at hcon
  clear htab
  go_enter Tryz.func15, Tryz.ntmps15
  go_wp2_with (go_at_call 52; refine hcon.mono ?_; rintro e w' ⟨rfl, k, os, rfl⟩)
  go_ret
  exact ⟨rfl, below_grow (below_drewN (Below.refl _ _) _) _ (Nat.le_refl _)⟩
set_option maxHeartbeats 1000000 in
theorem ReadDecimal_any (s : ByteArray) (w : World) (hs : s.size ≤ 1048576) (hp : HasPow w) (he : HasErrs w) :
    Calls Tryz.prog 84 #[.string s] w fun e w' => e = .returned (.tuple #[.int .i64 (valN s), .bool (valOk s)]) ∧ Below w.heap.size w w' := by
  have HPW := Lib.hid hp
  by_cases hok : ∃ v, Lib.parseIntB 64 s.data.toList = .ok v
  · obtain ⟨v, hv⟩ := hok
    have HP := Lib.hid (ParseInt_ok s v w hs hv)
    have hval : valB s = if (-1000000000000000 ≤ v ∧ v ≤ 1000000000000000) ∧ itoaB v = s then some v else none := by unfold valB; rw [hv]
    clear hp he
    have hw := within_any v (-1000000000000000) 1000000000000000
    by_cases h0 : -1000000000000000 ≤ v ∧ v ≤ 1000000000000000
    · have hd := fun W hW => DecimalZ_any v h0.1 h0.2 W hW
      rw [show inB (-1000000000000000) 1000000000000000 v = true by rw [inB_iff]; exact h0] at hw
      have HW := Lib.hid hw
      by_cases he : itoaB v = s
      · have hval2 : valB s = some v := by rw [hval, if_pos ⟨h0, he⟩]
        have H1 := Lib.hid (show valN s = v by unfold valN; rw [hval2]; rfl)
        have H2 := Lib.hid (show valOk s = true by unfold valOk; rw [hval2]; rfl)
        rw [he] at hd
        have HD := Lib.hid hd
        clear hval hval2 h0 he hw hd hv
        go_enter Tryz.func84, Tryz.ntmps84
        go_wp2_with (first
          | (go_at_call 141; refine HP.out.mono ?_; rintro e w1 ⟨rfl, hb1⟩)
          | (go_at_call 115; refine (HW.out _).mono ?_; rintro e w' ⟨rfl, rfl⟩)
          | (go_at_call 15; refine (HD.out _ (HPW.out.up hb1 (Nat.le_refl _))).mono ?_; rintro e w2 ⟨rfl, hb2⟩)
          | fail)
        go_ret2
        exact ⟨by rw [H1.out, H2.out]; rfl, hb1.trans (hb2.mono hb1.size)⟩
      · have hval2 : valB s = none := by rw [hval, if_neg (fun h => he h.2)]
        have H1 := Lib.hid (show valN s = 0 by unfold valN; rw [hval2]; rfl)
        have H2 := Lib.hid (show valOk s = false by unfold valOk; rw [hval2]; rfl)
        have hne := str_ne he
        obtain ⟨D, hD⟩ : ∃ D, D = itoaB v := ⟨_, rfl⟩
        rw [← hD] at hd hne
        have HD := Lib.hid hd
        clear hval hval2 h0 he hw hd hv hD
        go_enter Tryz.func84, Tryz.ntmps84
        go_wp2_with (first
          | (go_at_call 141; refine HP.out.mono ?_; rintro e w1 ⟨rfl, hb1⟩)
          | (go_at_call 115; refine (HW.out _).mono ?_; rintro e w' ⟨rfl, rfl⟩)
          | (go_at_call 15; refine (HD.out _ (HPW.out.up hb1 (Nat.le_refl _))).mono ?_; rintro e w2 ⟨rfl, hb2⟩)
          | fail)
        go_ret2
        exact ⟨by rw [H1.out, H2.out]; rfl, hb1.trans (hb2.mono hb1.size)⟩
    · have hval2 : valB s = none := by rw [hval, if_neg (fun h => h0 h.1)]
      have H1 := Lib.hid (show valN s = 0 by unfold valN; rw [hval2]; rfl)
      have H2 := Lib.hid (show valOk s = false by unfold valOk; rw [hval2]; rfl)
      rw [show inB (-1000000000000000) 1000000000000000 v = false by apply bool_false; rw [inB_iff]; exact h0] at hw
      have HW := Lib.hid hw
      clear hval hval2 h0 hw hv
      go_enter Tryz.func84, Tryz.ntmps84
      go_wp2_with (first
        | (go_at_call 141; refine HP.out.mono ?_; rintro e w1 ⟨rfl, hb1⟩)
        | (go_at_call 115; refine (HW.out _).mono ?_; rintro e w' ⟨rfl, rfl⟩)
        | fail)
      go_ret2
      exact ⟨by rw [H1.out, H2.out]; rfl, hb1⟩
  · have HP := Lib.hid (ParseInt_bad s w hs (fun v hv => hok ⟨v, hv⟩) he)
    have hval2 : valB s = none := by
      unfold valB
      split
      · rename_i v hv
        exact absurd ⟨v, hv⟩ hok
      · rfl
    have H1 := Lib.hid (show valN s = 0 by unfold valN; rw [hval2]; rfl)
    have H2 := Lib.hid (show valOk s = false by unfold valOk; rw [hval2]; rfl)
    clear hp he hval2 hok
    go_enter Tryz.func84, Tryz.ntmps84
    go_wp2_with (first
      | (go_at_call 141; refine HP.out.mono ?_; rintro e w1 ⟨z, T, a, rfl, hb1⟩)
      | fail)
    go_ret2
    exact ⟨by rw [H1.out, H2.out]; rfl, hb1⟩
end Go.Proofs.YtgkbbpajkbkgnaaGreatDoor

namespace Go.Proofs.YtgkbbpajkbkgnaaGreatDoor
open Go.RowKit
end Go.Proofs.YtgkbbpajkbkgnaaGreatDoor

namespace Go.Proofs.YtgkbbpajkbkgnaaGreatDoor
open Go.RowKit
theorem slcI_one1 (w : World) (x : Int) (b : Nat) (hb : b = w.heap.size) : Slc (w.alloc (.cells #[.int .i64 x] 2)) (.slice (some ⟨b, 0, none⟩) 1 1) ([x].map I64) := by
  subst hb
  have h := World.ownsRow_lit (base := w.heap.size) (e := 2) (size := 1) w #[.int .i64 x] 1 (Nat.le_refl _) (by simp [maxLen]) rfl
  exact slc_of_owns h
theorem ne_none {s : ByteArray} (h : s ≠ noneS) : (s.toList == [110, 111, 110, 101]) = false := by
  have e : noneS.toList = [110, 111, 110, 101] := by rw [ByteArray.toList_eq]; rfl
  have := str_ne h
  rwa [e] at this
theorem divided_any (s : ByteArray) (w : World) (hs : s.size ≤ 1048576) (hm : HasMax w) :
    Calls Tryz.prog 86 #[.string s] w fun e w' => ∃ a cap, e = .returned (.slice a (wsOf s).length cap) ∧ RdSs w' (.slice a (wsOf s).length cap) (wsOf s) ∧ Below w.heap.size w w' := by
  by_cases h : s = noneS
  · subst h
    rw [wsOf_none]
    have h0 : RdSs w (.slice none 0 0) [] := ⟨.inl ⟨rfl, rfl⟩, fun s hs => by cases hs⟩
    clear hs hm
    unfold noneS
    go_enter Tryz.func86, Tryz.ntmps86
    go_wp2_with fail
    go_ret
    exact ⟨none, 0, rfl, h0, Below.refl _ _⟩
  · have HS := Lib.hid (SplitC_any 44 s w hm hs)
    rw [wsOf_not h]
    have hne := ne_none h
    clear h hs hm
    go_enter Tryz.func86, Tryz.ntmps86
    go_wp2_with (go_at_call 83; refine HS.out.mono ?_; rintro e w1 ⟨a, cap, rfl, hr, hb⟩)
    go_ret
    exact ⟨a, cap, rfl, hr, hb⟩
set_option maxHeartbeats 2000000 in
theorem ReadList_any (s : ByteArray) (w : World) (hs : s.size ≤ 1048576) (hp : HasPow w) (hm : HasMax w) (he : HasErrs w) :
    Calls Tryz.prog 31 #[.string s] w fun e w' => ∃ a cap, e = .returned (.tuple #[.slice a (rdV s).length cap, .bool (listOk s)]) ∧ w'.ownsRow w.heap.size 2 1 (.slice a (rdV s).length cap) (rdV s).length ((rdV s).map I64) ∧ Below w.heap.size w w' := by
  have HDV := Lib.hid (divided_any s w hs hm)
  have HPW := Lib.hid hp
  have HER := Lib.hid he
  have hcn := wsOf_cnt s
  have HWA := Lib.hid (fun k h => @wsOf_at s k h)
  have HSZ := Lib.hid hs
  clear hp hm he
  obtain ⟨n, hn⟩ : ∃ n, n = (wsOf s).length := ⟨_, rfl⟩
  rw [← hn] at hcn HDV HWA
  have hnb : n ≤ 2000000 := by omega
  have HN := Lib.hid hn
  clear hn hs hcn
  go_enter Tryz.func31, Tryz.ntmps31
  go_upto_region 2 with fail
  go_wp2_with (go_at_call 86; refine HDV.out.mono ?_; rintro e w1 ⟨wa, wc, rfl, hrs, hb1⟩)
  have HRS := Lib.hid hrs
  have HB1 := Lib.hid hb1
  clear hrs hb1 HDV
  have hz1 := HB1.out.size
  go_loopw [4, 12] (fun ov iv wr => ∃ (k : Nat) (b : Option Addr) (cc : Nat), iv = .int .i64 k ∧ k ≤ n ∧ ov = .slice b k cc ∧ Hid (wr.ownsRow w1.heap.size 2 1 (.slice b k cc) k ((valsK s k).map I64)) ∧ Hid (∀ j, j < k → valOk ((wsOf s).getD j E0) = true) ∧ Hid (Below w1.heap.size w1 wr)) (fun _ iv _ => n + 1 - (intOf iv).toNat)
  case atStart => exact ⟨0, none, 0, rfl, Nat.zero_le _, rfl, Lib.hid (World.ownsRow_nil _ _ _ _), Lib.hid (by intro j hj; omega), Lib.hid (Below.refl _ _)⟩
  case round =>
    obtain ⟨k, b, cc, rfl, hk, rfl, HO, HALL, HB⟩ := hrel
    obtain ⟨wo, rfl⟩ : ∃ wo, wo = wr := ⟨wr, rfl⟩
    have hsz := HB.out.size
    by_cases hlt : k < n
    · have hlt' : (k : Int) < n := by omega
      have hlw : k < (wsOf s).length := by rw [← HN.out]; exact hlt
      obtain ⟨xb, xo, rfl, _, hx⟩ := (HRS.out.up HB.out (Nat.le_refl _)).at hlw
      have hxs := HWA.out k hlt
      have HE := Lib.hid (valsK_succ s k hlw)
      have HBAD := Lib.hid (fun h => listOk_bad hlw h)
      have HSTEP := Lib.hid (fun (h : valOk ((wsOf s).getD k E0) = true) => (show ∀ j, j < k + 1 → valOk ((wsOf s).getD j E0) = true from fun j hj => by
        by_cases hjk : j = k
        · rw [hjk]; exact h
        · exact HALL.out j (by omega)))
      obtain ⟨x, hxe⟩ : ∃ x, x = (wsOf s).getD k E0 := ⟨_, rfl⟩
      rw [← hxe] at hx hxs HE HBAD HSTEP
      clear hxe
      have HRD := Lib.hid (ReadDecimal_any x wo (Nat.le_trans hxs HSZ.out) (HPW.out.up (HB1.out.trans (HB.out.mono hz1)) (Nat.le_refl _)) (HER.out.up (HB1.out.trans (HB.out.mono hz1)) (Nat.le_refl _)))
      obtain ⟨z, hz⟩ : ∃ z, z = valN x := ⟨_, rfl⟩
      obtain ⟨q, hq⟩ : ∃ q, q = valOk x := ⟨_, rfl⟩
      rw [← hz] at HRD HE
      rw [← hq] at HRD HBAD HSTEP
      clear hz hq hxs
      cases q
      · have HNO := Lib.hid (HBAD.out rfl)
        have HRV := Lib.hid (rdV_no HNO.out)
        go_wp2_with (first
          | (go_at_call 84; refine HRD.out.mono ?_; rintro e w2 ⟨rfl, hb2⟩)
          | fail)
        go_ret2
        refine ⟨none, 0, ?_, ?_, HB1.out.trans ((HB.out.trans (hb2.mono hsz)).mono hz1)⟩
        · rw [HNO.out, HRV.out]; rfl
        · rw [HRV.out]; exact World.ownsRow_nil _ _ _ _
      · have HALL2 := Lib.hid (HSTEP.out rfl)
        go_wp2_with (first
          | (go_at_call 84; refine HRD.out.mono ?_; rintro e w2 ⟨rfl, hb2⟩; have HO1 := Lib.hid (owns_below HO.out hb2 (Nat.le_refl _)); have hsz2 := Nat.le_trans hsz hb2.size)
          | (at_builtin; refine app_ints rfl _ _ rfl w1.heap.size (.slice b k cc) k (valsK s k) rfl (HO1.out.alloc _) _ [z] rfl (slcI_one1 w2 z _ rfl) (k + 1) (valsK s (k + 1)) (by simp) HE.out (by omega) (by simp; omega) ?_; intro b3 c3 w3 hown3 hbl3 _ _)
          | fail)
        go_roundw
        case rel => exact ⟨k + 1, b3, c3, by go_num, by omega, rfl, Lib.hid hown3, HALL2, Lib.hid (HB.out.trans ((hb2.mono hsz).trans (((Below.refl _ _).alloc hsz2 _).trans hbl3)))⟩
        case measure => simp [intOf]; omega
    · obtain rfl : k = n := by omega
      have HOK := Lib.hid (listOk_all (s := s) (by rw [← HN.out]; exact HALL.out))
      have HVK := Lib.hid (show valsK s k = (wsOf s).map valN by rw [HN.out]; exact valsK_all s)
      have hrd : RdI wo (.slice b k cc) ((wsOf s).map valN) := by
        have := slc_of_owns HO.out
        rwa [HVK.out] at this
      have HAI := Lib.hid (areItems_any _ _ wo hrd)
      have hai := vals_allIn (s := s) (by rw [← HN.out]; exact HALL.out)
      rw [hai, List.length_map, ← HN.out, Bool.and_true] at HAI
      rw [← HN.out] at HOK
      by_cases h64 : k ≤ 64
      · have hd : decide (k ≤ 64) = true := decide_eq_true h64
        rw [hd] at HAI HOK
        have HRV := Lib.hid (rdV_ok HOK.out)
        have HRL := Lib.hid (show (rdV s).length = k by rw [HRV.out, List.length_map]; exact HN.out.symm)
        clear hrd hai hd
        go_wp2_with (first
          | (go_at_call 49; refine HAI.out.mono ?_; rintro e w2 ⟨rfl, rfl⟩)
          | fail)
        go_ret2
        refine ⟨b, cc, ?_, ?_, HB1.out.trans (HB.out.mono hz1)⟩
        · rw [HOK.out, HRL.out]; rfl
        · rw [HRL.out, HRV.out, ← HVK.out]; exact owns_base HO.out hz1
      · have hd : decide (k ≤ 64) = false := decide_eq_false h64
        rw [hd] at HAI HOK
        have HRV := Lib.hid (rdV_no HOK.out)
        clear hrd hai hd
        go_wp2_with (first
          | (go_at_call 49; refine HAI.out.mono ?_; rintro e w2 ⟨rfl, rfl⟩)
          | fail)
        go_ret2
        refine ⟨none, 0, ?_, ?_, HB1.out.trans (HB.out.mono hz1)⟩
        · rw [HOK.out, HRV.out]; rfl
        · rw [HRV.out]; exact World.ownsRow_nil _ _ _ _
end Go.Proofs.YtgkbbpajkbkgnaaGreatDoor

namespace Go.Proofs.YtgkbbpajkbkgnaaGreatDoor
open Go.RowKit
theorem areNumB_any (n : Nat) (w : World) : Calls Tryz.prog 117 #[.int .i64 n] w fun e w' => e = .returned (.bool (decide (n ≤ 256))) ∧ w = w' := by
  by_cases h : n ≤ 256
  · rw [decide_eq_true h]
    exact areNumbers_any n w h
  · have hd : decide ((n : Int) ≤ 256) = false := decide_eq_false (by omega)
    rw [decide_eq_false h]
    clear h
    go_enter Tryz.func117, Tryz.ntmps117
    go_wp2_with fail
    go_ret
    exact ⟨rfl, rfl⟩
set_option maxHeartbeats 2000000 in
theorem ReadNumbers_any (s : ByteArray) (w : World) (hs : s.size ≤ 1048576) (hm : HasMax w) :
    Calls Tryz.prog 85 #[.string s] w fun e w' => ∃ a cap, e = .returned (.tuple #[.slice a (fltV s).length cap, .bool (fltOk s)]) ∧ w'.ownsRow w.heap.size 100 1 (.slice a (fltV s).length cap) (fltV s).length ((fltV s).map F32) ∧ Below w.heap.size w w' := by
  have HAN := Lib.hid (fun W n => areNumB_any n W)
  have HDV := Lib.hid (divided_any s w hs hm)
  have hcn := wsOf_cnt s
  have HWA := Lib.hid (fun k h => @wsOf_at s k h)
  have HSZ := Lib.hid hs
  clear hm
  obtain ⟨n, hn⟩ : ∃ n, n = (wsOf s).length := ⟨_, rfl⟩
  rw [← hn] at hcn HDV HWA
  have hnb : n ≤ 2000000 := by omega
  have HN := Lib.hid hn
  clear hn hs hcn
  go_enter Tryz.func85, Tryz.ntmps85
  go_upto_region 2 with fail
  by_cases hlong : 256 < n
  · have hd : decide (n ≤ 256) = false := decide_eq_false (by omega)
    have HNO := Lib.hid (fltOk_long (s := s) (by rw [← HN.out]; exact hlong))
    have HRV := Lib.hid (fltV_no HNO.out)
    have HA2 := Lib.hid (fun W => (hd ▸ HAN.out W n : _))
    clear hlong HWA
    go_wp2_with (first
      | (go_at_call 86; refine HDV.out.mono ?_; rintro e w1 ⟨wa, wc, rfl, hrs, hb1⟩)
      | (go_at_call 117; refine (HA2.out _).mono ?_; rintro e w' ⟨rfl, rfl⟩)
      | fail)
    go_ret2
    refine ⟨none, 0, ?_, ?_, hb1⟩
    · rw [HNO.out, HRV.out]; rfl
    · rw [HRV.out]; exact World.ownsRow_nil _ _ _ _
  have h256 : n ≤ 256 := by omega
  have HA2 := Lib.hid (fun W => areNumbers_any n W h256)
  go_wp2_with (first
    | (go_at_call 86; refine HDV.out.mono ?_; rintro e w1 ⟨wa, wc, rfl, hrs, hb1⟩)
    | (go_at_call 117; refine (HA2.out _).mono ?_; rintro e w' ⟨rfl, rfl⟩)
    | fail)
  have HRS := Lib.hid hrs
  have HB1 := Lib.hid hb1
  clear hrs hb1 HDV HAN HA2
  have hz1 := HB1.out.size
  go_loopw [5, 18] (fun ov iv wr => ∃ (k : Nat) (b : Option Addr) (cc : Nat), iv = .int .i64 k ∧ k ≤ n ∧ ov = .slice b k cc ∧ Hid (wr.ownsRow w1.heap.size 100 1 (.slice b k cc) k ((fltsK s k).map F32)) ∧ Hid (∀ j, j < k → hexOk ((wsOf s).getD j E0) = true) ∧ Hid (Below w1.heap.size w1 wr)) (fun _ iv _ => n + 1 - (intOf iv).toNat)
  case atStart => exact ⟨0, none, 0, rfl, Nat.zero_le _, rfl, Lib.hid (World.ownsRow_nil _ _ _ _), Lib.hid (by intro j hj; omega), Lib.hid (Below.refl _ _)⟩
  case round =>
    obtain ⟨k, b, cc, rfl, hk, rfl, HO, HALL, HB⟩ := hrel
    obtain ⟨wo, rfl⟩ : ∃ wo, wo = wr := ⟨wr, rfl⟩
    have hsz := HB.out.size
    by_cases hlt : k < n
    · have hlt' : (k : Int) < n := by omega
      have hlw : k < (wsOf s).length := by rw [← HN.out]; exact hlt
      obtain ⟨xb, xo, rfl, _, hx⟩ := (HRS.out.up HB.out (Nat.le_refl _)).at hlw
      have hxs := HWA.out k hlt
      have HE := Lib.hid (fltsK_succ s k hlw)
      have HBAD := Lib.hid (fun h => fltOk_bad hlw h)
      have HSTEP := Lib.hid (fun (h : hexOk ((wsOf s).getD k E0) = true) => (show ∀ j, j < k + 1 → hexOk ((wsOf s).getD j E0) = true from fun j hj => by
        by_cases hjk : j = k
        · rw [hjk]; exact h
        · exact HALL.out j (by omega)))
      obtain ⟨x, hxe⟩ : ∃ x, x = (wsOf s).getD k E0 := ⟨_, rfl⟩
      rw [← hxe] at hx hxs HE HBAD HSTEP
      clear hxe
      have HRD := Lib.hid (fromHex_any x wo (Nat.le_trans hxs HSZ.out))
      obtain ⟨z, hz⟩ : ∃ z, z = accH x 8 := ⟨_, rfl⟩
      obtain ⟨q, hq⟩ : ∃ q, q = hexOk x := ⟨_, rfl⟩
      rw [← hz] at HRD HE
      rw [← hq] at HRD HBAD HSTEP
      clear hz hq hxs
      cases q
      · have HNO := Lib.hid (HBAD.out rfl)
        have HRV := Lib.hid (fltV_no HNO.out)
        go_wp2_with (first
          | (go_at_call 142; refine HRD.out.mono ?_; rintro e w2 ⟨y, rfl, _, rfl⟩)
          | fail)
        go_ret2
        refine ⟨none, 0, ?_, ?_, HB1.out.trans (HB.out.mono hz1)⟩
        · rw [HNO.out, HRV.out]; rfl
        · rw [HRV.out]; exact World.ownsRow_nil _ _ _ _
      · have HALL2 := Lib.hid (HSTEP.out rfl)
        go_wp2_with (first
          | (go_at_call 142; refine HRD.out.mono ?_; rintro e w2 ⟨y, rfl, hy, rfl⟩; obtain rfl := hy rfl)
          | (at_builtin; refine app_flts rfl _ _ rfl w1.heap.size (.slice b k cc) k (fltsK s k) rfl (HO.out.alloc _) _ [y] rfl (slcF_oneB wo y _ rfl) (k + 1) (fltsK s (k + 1)) (by simp) HE.out (by omega) (by simp; omega) ?_; intro b3 c3 w3 hown3 hbl3 _ _)
          | fail)
        go_roundw
        case rel => exact ⟨k + 1, b3, c3, by go_num, by omega, rfl, Lib.hid hown3, HALL2, Lib.hid (HB.out.trans (((Below.refl _ _).alloc hsz _).trans hbl3))⟩
        case measure => simp [intOf]; omega
    · obtain rfl : k = n := by omega
      have HOK := Lib.hid (fltOk_all (s := s) (by rw [← HN.out]; exact HALL.out) (by rw [← HN.out]; exact h256))
      have HVK := Lib.hid (show fltsK s k = (wsOf s).map (fun x => accH x 8) by rw [HN.out]; exact fltsK_all s)
      have HRV := Lib.hid (fltV_ok HOK.out)
      have HRL := Lib.hid (show (fltV s).length = k by rw [HRV.out, List.length_map]; exact HN.out.symm)
      go_wp2_with fail
      go_ret2
      refine ⟨b, cc, ?_, ?_, HB1.out.trans (HB.out.mono hz1)⟩
      · rw [HOK.out, HRL.out]; rfl
      · rw [HRL.out, HRV.out, ← HVK.out]; exact owns_base HO.out hz1
end Go.Proofs.YtgkbbpajkbkgnaaGreatDoor

namespace Go.Proofs.YtgkbbpajkbkgnaaGreatDoor
open Go.RowKit
set_option maxHeartbeats 4000000 in
set_option maxRecDepth 4000 in
theorem readRowsI_any (s : ByteArray) (w : World) (hp : HasPow w) (hm : HasMax w) (he : HasErrs w) (hs : s.size ≤ 1048576) :
    Calls Tryz.prog 30 #[.string s] w fun e w' => ∃ v', e = .returned (.tuple #[v', .bool (rdrOk s)]) ∧ OwnR w.heap.size w'.heap.size w' v' (rdrV s) ∧ Below w.heap.size w w' := by
  have HPW := Lib.hid hp
  have HMX := Lib.hid hm
  have HER := Lib.hid he
  clear hp hm he
  have HSZ := Lib.hid hs
  have HSP := Lib.hid (fun W (hW : HasMax W) => SplitC_any 59 s W hW hs)
  have HSH := Lib.hid (@rdr_short s)
  have HFO := Lib.hid (@rdr_four s)
  have HVN := Lib.hid (@rdrV_no s)
  have HVY := Lib.hid (@rdrV_yes s)
  have HLE := Lib.hid (cutS_le 59 s)
  clear hs
  obtain ⟨ps, hps⟩ : ∃ ps, ps = cutS 59 s := ⟨_, rfl⟩
  rw [← hps] at HSP HSH HFO HVY HLE
  obtain ⟨R, hR⟩ : ∃ R, R = rdrV s := ⟨_, rfl⟩
  rw [← hR] at HVN HVY ⊢
  obtain ⟨q, hq⟩ : ∃ q, q = rdrOk s := ⟨_, rfl⟩
  rw [← hq] at HSH HFO HVN HVY ⊢
  have HQ0 := Lib.hid hq
  clear hps hR hq
  go_enter Tryz.func30, Tryz.ntmps30
  go_upto_region 1 with fail
  refine wp_at fun W hW => ?_
  have HB := Lib.hid (show Below w.heap.size w W by subst hW; exact (Below.refl _ _).alloc (Nat.le_refl _) _)
  have HL := Lib.hid (show Blk W w.heap.size 26 #[.int .i64 0, .slice none 0 0, .slice none 0 0, .slice none 0 0] by subst hW; exact Blk.new _ _ _)
  clear hW
  have hlW := HL.out.lt
  have hzW := HB.out.size
  go_upto_region 2 with (go_at_call 83; refine (HSP.out _ (HMX.out.up HB.out (Nat.le_refl _))).mono ?_; rintro e w1 ⟨wa, wc, rfl, hrs, hb1⟩)
  have HB1 := Lib.hid (HB.out.trans (hb1.mono hzW))
  have HL1 := Lib.hid (HL.out.below hb1 hlW)
  have HRS := Lib.hid hrs
  have hz1 := Nat.le_trans hzW hb1.size
  have hlt1 : w.heap.size < w1.heap.size := HL1.out.lt
  clear hb1 hrs HSP HB HL hlW
  by_cases h4 : ps.length = 4
  case neg =>
    have hd : ((ps.length : Int) != 4) = true := by simp; omega
    have HNO := Lib.hid (HSH.out h4)
    have HRV := Lib.hid (HVN.out HNO.out)
    have e0 : w1.cell? ⟨w.heap.size, 0, none⟩ = some (.int .i64 0) := HL1.out.cell 0 rfl
    have e1 : w1.cell? ⟨w.heap.size, 1, none⟩ = some (.slice none 0 0) := HL1.out.cell 1 rfl
    have e2 : w1.cell? ⟨w.heap.size, 2, none⟩ = some (.slice none 0 0) := HL1.out.cell 2 rfl
    have e3 : w1.cell? ⟨w.heap.size, 3, none⟩ = some (.slice none 0 0) := HL1.out.cell 3 rfl
    have f0 := HL1.out.free 0
    have f1 := HL1.out.free 1
    have f2 := HL1.out.free 2
    have f3 := HL1.out.free 3
    have FIN := Lib.hid (show ∀ Wf, Kept (· = w.heap.size) w1 Wf → Below w.heap.size w Wf from fun Wf hk => HB1.out.trans (hk.toBelow HB1.out.size (by intro k h1 h2; omega)))
    clear h4
    go_wp2_with fail
    refine bodyPost_ret (v := .tuple #[.agg #[.int .i64 0, .slice none 0 0, .slice none 0 0, .slice none 0 0], .bool false]) (by simp [results, Tryz.results30, go_sem, *]) rfl ⟨.agg #[.int .i64 0, .slice none 0 0, .slice none 0 0, .slice none 0 0], by rw [HNO.out], by rw [HRV.out]; exact ownR_zero _ _ _, FIN.out _ ?_⟩
    repeat' first | exact Kept.refl _ _ | refine Kept.setCell ?_ (.inr (by simp)) _
  have hd : ((ps.length : Int) != 4) = false := by simp; omega
  have HQ := Lib.hid (HFO.out h4)
  have HVQ := Lib.hid (HVY.out)
  obtain ⟨xb, xo, rfl, _, hx0⟩ := HRS.out.at (i := 0) (by omega)
  obtain ⟨xb1, xo1, ee1, _, hx1⟩ := HRS.out.at (i := 1) (by omega)
  simp only [Option.some.injEq, Addr.mk.injEq, and_true] at ee1
  obtain ⟨rfl, rfl⟩ := ee1
  obtain ⟨xb2, xo2, ee2, _, hx2⟩ := HRS.out.at (i := 2) (by omega)
  simp only [Option.some.injEq, Addr.mk.injEq, and_true] at ee2
  obtain ⟨rfl, rfl⟩ := ee2
  obtain ⟨xb3, xo3, ee3, _, hx3⟩ := HRS.out.at (i := 3) (by omega)
  simp only [Option.some.injEq, Addr.mk.injEq, and_true] at ee3
  obtain ⟨rfl, rfl⟩ := ee3
  have hsz := fun i (hi : i < ps.length) => Nat.le_trans (HLE.out _ (getD_mem hi)) HSZ.out
  have hs0 := hsz 0 (by omega)
  have hs1 := hsz 1 (by omega)
  have hs2 := hsz 2 (by omega)
  have hs3 := hsz 3 (by omega)
  have hn4 : ps.length = 4 := h4
  obtain ⟨p0, hp0⟩ : ∃ p, p = ps.getD 0 E0 := ⟨_, rfl⟩
  rw [← hp0] at hx0 hs0 HQ HVQ
  obtain ⟨p1, hp1⟩ : ∃ p, p = ps.getD 1 E0 := ⟨_, rfl⟩
  rw [← hp1] at hx1 hs1 HQ HVQ
  obtain ⟨p2, hp2⟩ : ∃ p, p = ps.getD 2 E0 := ⟨_, rfl⟩
  rw [← hp2] at hx2 hs2 HQ HVQ
  obtain ⟨p3, hp3⟩ : ∃ p, p = ps.getD 3 E0 := ⟨_, rfl⟩
  rw [← hp3] at hx3 hs3 HQ HVQ
  rw [Nat.add_zero] at hx0
  obtain ⟨n4, hn4e⟩ : ∃ n4, n4 = ps.length := ⟨_, rfl⟩
  rw [← hn4e] at hd hn4 ⊢
  clear hp0 hp1 hp2 hp3 hsz HSH HFO HVY HRS HLE h4 hn4e
  subst hn4
  clear hd
  have HD0 := Lib.hid (ReadDecimal_any p0 w1 hs0 (HPW.out.up HB1.out (Nat.le_refl _)) (HER.out.up HB1.out (Nat.le_refl _)))
  go_upto_region 5 with (go_at_call 84; refine HD0.out.mono ?_; rintro e w2 ⟨rfl, hb⟩)
  have HB2 := Lib.hid (HB1.out.trans (hb.mono hz1))
  have HL2 := Lib.hid (HL1.out.below hb HL1.out.lt)
  replace hx1 := held_of hb hx1 (Nat.le_refl _)
  replace hx2 := held_of hb hx2 (Nat.le_refl _)
  replace hx3 := held_of hb hx3 (Nat.le_refl _)
  have hz2 := Nat.le_trans hz1 hb.size
  have hlt2 : w.heap.size < w2.heap.size := HL2.out.lt
  clear hb HD0 hx0 HB1 HL1
  have HN1 := Lib.hid (ReadNumbers_any p1 w2 hs1 (HMX.out.up HB2.out (Nat.le_refl _)))
  go_upto_region 6 with (go_at_call 85; refine HN1.out.mono ?_; rintro e w3 ⟨sa1, sc1, rfl, ho1, hb1⟩)
  have HB3 := Lib.hid (HB2.out.trans (hb1.mono hz2))
  have HL3 := Lib.hid (HL2.out.below hb1 HL2.out.lt)
  replace hx2 := held_of hb1 hx2 (Nat.le_refl _)
  replace hx3 := held_of hb1 hx3 (Nat.le_refl _)
  have hz3 := Nat.le_trans hz2 hb1.size
  have HBB1 := Lib.hid hb1
  have HOO1 := Lib.hid ho1
  clear hb1 ho1 HN1 hx1 HB2 HL2
  have HN2 := Lib.hid (ReadNumbers_any p2 w3 hs2 (HMX.out.up HB3.out (Nat.le_refl _)))
  go_upto_region 7 with (go_at_call 85; refine HN2.out.mono ?_; rintro e w4 ⟨sa2, sc2, rfl, ho2, hb2⟩)
  have HB4 := Lib.hid (HB3.out.trans (hb2.mono hz3))
  have HL4 := Lib.hid (HL3.out.below hb2 HL3.out.lt)
  replace hx3 := held_of hb2 hx3 (Nat.le_refl _)
  have hz4 := Nat.le_trans hz3 hb2.size
  have HBB2 := Lib.hid hb2
  have HOO2 := Lib.hid ho2
  clear hb2 ho2 HN2 hx2 HB3 HL3
  have HN3 := Lib.hid (ReadNumbers_any p3 w4 hs3 (HMX.out.up HB4.out (Nat.le_refl _)))
  go_upto_region 8 with (go_at_call 85; refine HN3.out.mono ?_; rintro e w5 ⟨sa3, sc3, rfl, ho3, hb3⟩)
  have HB5 := Lib.hid (HB4.out.trans (hb3.mono hz4))
  have HL5 := Lib.hid (HL4.out.below hb3 HL4.out.lt)
  have hz5 := Nat.le_trans hz4 hb3.size
  have HBB3 := Lib.hid hb3
  have HOO3 := Lib.hid ho3
  clear hb3 ho3 HN3 hx3 HB4 HL4
  have HOW := Lib.hid (ownR_mk (z := valN p0) HOO1.out hlt2 HOO2.out (Nat.le_refl _) HOO3.out (Nat.le_refl _) HBB2.out HBB3.out HBB1.out.size)
  clear HOO1 HOO2 HOO3 HBB1 HBB2 HBB3 hs0 hs1 hs2 hs3
  have e0 : w5.cell? ⟨w.heap.size, 0, none⟩ = some (.int .i64 0) := HL5.out.cell 0 rfl
  have e1 : w5.cell? ⟨w.heap.size, 1, none⟩ = some (.slice none 0 0) := HL5.out.cell 1 rfl
  have e2 : w5.cell? ⟨w.heap.size, 2, none⟩ = some (.slice none 0 0) := HL5.out.cell 2 rfl
  have e3 : w5.cell? ⟨w.heap.size, 3, none⟩ = some (.slice none 0 0) := HL5.out.cell 3 rfl
  have f0 := HL5.out.free 0
  have f1 := HL5.out.free 1
  have f2 := HL5.out.free 2
  have f3 := HL5.out.free 3
  have hlt5 : w.heap.size < w5.heap.size := HL5.out.lt
  have FIN := Lib.hid (show ∀ Wf, Kept (· = w.heap.size) w5 Wf → Below w.heap.size w Wf from fun Wf hk => HB5.out.trans (hk.toBelow HB5.out.size (by intro k h1 h2; omega)))
  have HRW := Lib.hid (show rowsW p0 p1 p2 p3 = ⟨valN p0, fltV p1, fltV p2, fltV p3⟩ from rfl)
  have HRB := Lib.hid (show rowsB p0 p1 p2 p3 = (valOk p0 && (fltOk p1 && (fltOk p2 && (fltOk p3 && validR (rowsW p0 p1 p2 p3))))) from rfl)
  rw [HRB.out] at HQ
  obtain ⟨RR, hRR⟩ : ∃ RR, RR = rowsW p0 p1 p2 p3 := ⟨_, rfl⟩
  have HRR := Lib.hid (hRR.trans HRW.out)
  rw [← hRR] at HQ HVQ
  have HRDR := Lib.hid (show RdR w5 (.agg #[.int .i64 (valN p0), .slice sa1 (fltV p1).length sc1, .slice sa2 (fltV p2).length sc2, .slice sa3 (fltV p3).length sc3]) RR by rw [HRR.out]; exact HOW.out.rd)
  rw [← HRR.out] at HOW
  have HCH := Lib.hid (checked_any _ RR w5 HRDR.out)
  clear hRR HRW HRR HRB HRDR
  obtain ⟨z0, hz0⟩ : ∃ z, z = valN p0 := ⟨_, rfl⟩
  obtain ⟨y1, hy1⟩ : ∃ y, y = (fltV p1).length := ⟨_, rfl⟩
  obtain ⟨y2, hy2⟩ : ∃ y, y = (fltV p2).length := ⟨_, rfl⟩
  obtain ⟨y3, hy3⟩ : ∃ y, y = (fltV p3).length := ⟨_, rfl⟩
  rw [← hz0, ← hy1, ← hy2, ← hy3] at HOW HCH
  rw [← hz0, ← hy1, ← hy2, ← hy3]
  obtain ⟨q0, hq0⟩ : ∃ z, z = valOk p0 := ⟨_, rfl⟩
  obtain ⟨q1, hq1⟩ : ∃ z, z = fltOk p1 := ⟨_, rfl⟩
  obtain ⟨q2, hq2⟩ : ∃ z, z = fltOk p2 := ⟨_, rfl⟩
  obtain ⟨q3, hq3⟩ : ∃ z, z = fltOk p3 := ⟨_, rfl⟩
  rw [← hq0, ← hq1, ← hq2, ← hq3] at HQ
  rw [← hq0, ← hq1, ← hq2, ← hq3]
  clear hz0 hy1 hy2 hy3 hq0 hq1 hq2 hq3
  cases q0
  · have HNO := Lib.hid (show q = false by rw [HQ.out]; rfl)
    have HRV := Lib.hid (HVN.out HNO.out)
    clear HCH HOW
    go_wp2_with fail
    refine bodyPost_ret (v := .tuple #[.agg #[.int .i64 0, .slice none 0 0, .slice none 0 0, .slice none 0 0], .bool false]) (by simp [results, Tryz.results30, go_sem, *]) rfl ⟨.agg #[.int .i64 0, .slice none 0 0, .slice none 0 0, .slice none 0 0], by rw [HNO.out], by rw [HRV.out]; exact ownR_zero _ _ _, FIN.out _ ?_⟩
    repeat' first | exact Kept.refl _ _ | refine Kept.setCell ?_ (.inr (by simp)) _
  cases q1
  · have HNO := Lib.hid (show q = false by rw [HQ.out]; rfl)
    have HRV := Lib.hid (HVN.out HNO.out)
    clear HCH HOW
    go_wp2_with fail
    refine bodyPost_ret (v := .tuple #[.agg #[.int .i64 0, .slice none 0 0, .slice none 0 0, .slice none 0 0], .bool false]) (by simp [results, Tryz.results30, go_sem, *]) rfl ⟨.agg #[.int .i64 0, .slice none 0 0, .slice none 0 0, .slice none 0 0], by rw [HNO.out], by rw [HRV.out]; exact ownR_zero _ _ _, FIN.out _ ?_⟩
    repeat' first | exact Kept.refl _ _ | refine Kept.setCell ?_ (.inr (by simp)) _
  cases q2
  · have HNO := Lib.hid (show q = false by rw [HQ.out]; rfl)
    have HRV := Lib.hid (HVN.out HNO.out)
    clear HCH HOW
    go_wp2_with fail
    refine bodyPost_ret (v := .tuple #[.agg #[.int .i64 0, .slice none 0 0, .slice none 0 0, .slice none 0 0], .bool false]) (by simp [results, Tryz.results30, go_sem, *]) rfl ⟨.agg #[.int .i64 0, .slice none 0 0, .slice none 0 0, .slice none 0 0], by rw [HNO.out], by rw [HRV.out]; exact ownR_zero _ _ _, FIN.out _ ?_⟩
    repeat' first | exact Kept.refl _ _ | refine Kept.setCell ?_ (.inr (by simp)) _
  cases q3
  · have HNO := Lib.hid (show q = false by rw [HQ.out]; rfl)
    have HRV := Lib.hid (HVN.out HNO.out)
    clear HCH HOW
    go_wp2_with fail
    refine bodyPost_ret (v := .tuple #[.agg #[.int .i64 0, .slice none 0 0, .slice none 0 0, .slice none 0 0], .bool false]) (by simp [results, Tryz.results30, go_sem, *]) rfl ⟨.agg #[.int .i64 0, .slice none 0 0, .slice none 0 0, .slice none 0 0], by rw [HNO.out], by rw [HRV.out]; exact ownR_zero _ _ _, FIN.out _ ?_⟩
    repeat' first | exact Kept.refl _ _ | refine Kept.setCell ?_ (.inr (by simp)) _
  obtain ⟨qv, hqv⟩ : ∃ z, z = validR RR := ⟨_, rfl⟩
  rw [← hqv] at HCH HQ
  clear hqv
  cases qv
  · have HNO := Lib.hid (show q = false by rw [HQ.out]; rfl)
    have HRV := Lib.hid (HVN.out HNO.out)
    have HC2 := Lib.hid (show Calls Tryz.prog 77 #[.agg #[.int .i64 z0, .slice sa1 y1 sc1, .slice sa2 y2 sc2, .slice sa3 y3 sc3]] w5 fun e w' => e = .returned (.tuple #[.agg #[.int .i64 0, .slice none 0 0, .slice none 0 0, .slice none 0 0], .bool false]) ∧ Below w5.heap.size w5 w' from HCH.out)
    clear HCH HOW
    go_wp2_with (first
      | (go_at_call 77; refine HC2.out.mono ?_; rintro e w6 ⟨rfl, hb6⟩; replace e0 := held_of hb6 e0 (Nat.le_refl _); replace e1 := held_of hb6 e1 (Nat.le_refl _); replace e2 := held_of hb6 e2 (Nat.le_refl _); replace e3 := held_of hb6 e3 (Nat.le_refl _); have HL6 := Lib.hid (HL5.out.below hb6 HL5.out.lt); replace f0 := HL6.out.free 0; replace f1 := HL6.out.free 1; replace f2 := HL6.out.free 2; replace f3 := HL6.out.free 3; have HB6 := Lib.hid (HB5.out.trans (hb6.mono HB5.out.size)); have FIN6 := Lib.hid (show ∀ Wf, Kept (· = w.heap.size) w6 Wf → Below w.heap.size w Wf from fun Wf hk => HB6.out.trans (hk.toBelow HB6.out.size (by intro k h1 h2; omega))); clear hb6)
      | fail)
    refine bodyPost_ret (v := .tuple #[.agg #[.int .i64 0, .slice none 0 0, .slice none 0 0, .slice none 0 0], .bool false]) (by simp [results, Tryz.results30, go_sem, *]) rfl ⟨.agg #[.int .i64 0, .slice none 0 0, .slice none 0 0, .slice none 0 0], by rw [HNO.out], by rw [HRV.out]; exact ownR_zero _ _ _, FIN6.out _ ?_⟩
    repeat' first | exact Kept.refl _ _ | refine Kept.setCell ?_ (.inr (by simp)) _
  · have HYES := Lib.hid (show q = true by rw [HQ.out]; rfl)
    have HRV := Lib.hid (HVQ.out HYES.out)
    have HC2 := Lib.hid (show Calls Tryz.prog 77 #[.agg #[.int .i64 z0, .slice sa1 y1 sc1, .slice sa2 y2 sc2, .slice sa3 y3 sc3]] w5 fun e w' => e = .returned (.tuple #[.agg #[.int .i64 z0, .slice sa1 y1 sc1, .slice sa2 y2 sc2, .slice sa3 y3 sc3], .bool true]) ∧ Below w5.heap.size w5 w' from HCH.out)
    clear HCH
    go_wp2_with (first
      | (go_at_call 77; refine HC2.out.mono ?_; rintro e w6 ⟨rfl, hb6⟩; replace e0 := held_of hb6 e0 (Nat.le_refl _); replace e1 := held_of hb6 e1 (Nat.le_refl _); replace e2 := held_of hb6 e2 (Nat.le_refl _); replace e3 := held_of hb6 e3 (Nat.le_refl _); have HL6 := Lib.hid (HL5.out.below hb6 HL5.out.lt); replace f0 := HL6.out.free 0; replace f1 := HL6.out.free 1; replace f2 := HL6.out.free 2; replace f3 := HL6.out.free 3; have HB6 := Lib.hid (HB5.out.trans (hb6.mono HB5.out.size)); have HO6 := Lib.hid ((HOW.out.up hb6 (Nat.le_refl _)).wide (Nat.le_refl _) hb6.size); have FIN6 := Lib.hid (show ∀ Wf, Kept (· = w.heap.size) w6 Wf → OwnR w.heap.size Wf.heap.size Wf (.agg #[.int .i64 z0, .slice sa1 y1 sc1, .slice sa2 y2 sc2, .slice sa3 y3 sc3]) RR ∧ Below w.heap.size w Wf from fun Wf hk => ⟨(HO6.out.kept hk (by intro b h1 h2 h3; omega)).wide (Nat.le_succ _) hk.size, HB6.out.trans (hk.toBelow HB6.out.size (by intro k h1 h2; omega))⟩); clear hb6)
      | fail)
    refine bodyPost_ret (v := .tuple #[.agg #[.int .i64 z0, .slice sa1 y1 sc1, .slice sa2 y2 sc2, .slice sa3 y3 sc3], .bool true]) (by simp [results, Tryz.results30, go_sem, *]) rfl ⟨.agg #[.int .i64 z0, .slice sa1 y1 sc1, .slice sa2 y2 sc2, .slice sa3 y3 sc3], by rw [HYES.out], ?_⟩
    rw [HRV.out]
    refine FIN6.out _ ?_
    repeat' first | exact Kept.refl _ _ | refine Kept.setCell ?_ (.inr (by simp)) _
end Go.Proofs.YtgkbbpajkbkgnaaGreatDoor

namespace Go.Proofs.YtgkbbpajkbkgnaaGreatDoor
open Go.RowKit
/-- Job number i of a list of numbers. -/
def jobAt (xs : List Int) (i : Nat) : JobD := ⟨xs.getD (4 * i) 0, xs.getD (4 * i + 1) 0, xs.getD (4 * i + 2) 0, xs.getD (4 * i + 3) 0⟩
def jobsK (xs : List Int) (k : Nat) : List JobD := (List.range k).map (jobAt xs)
theorem jobsK_succ (xs : List Int) (k : Nat) : jobsK xs (k + 1) = jobsK xs k ++ [jobAt xs k] := by
  unfold jobsK
  rw [List.range_succ, List.map_append]
  rfl
theorem jobsK_len (xs : List Int) (k : Nat) : (jobsK xs k).length = k := by simp [jobsK]
theorem jobsC_snoc (js : List JobD) (j : JobD) : jobsC (js ++ [j]) = jobsC js ++ jobCells j := by simp [jobsC]
/-- The jobs with a text. -/
def rdjOk (s : ByteArray) : Bool := listOk s && (decide ((rdV s).length % 4 = 0) && areJobsB (jobsK (rdV s) ((rdV s).length / 4)))
def rdjV (s : ByteArray) : List JobD := if rdjOk s = true then jobsK (rdV s) ((rdV s).length / 4) else []
theorem rdj_bad {s : ByteArray} (h : listOk s = false) : rdjOk s = false := by unfold rdjOk; rw [h]; rfl
theorem rdj_odd {s : ByteArray} (h : (rdV s).length % 4 ≠ 0) : rdjOk s = false := by
  unfold rdjOk
  rw [decide_eq_false h, Bool.false_and, Bool.and_false]
theorem rdj_eq {s : ByteArray} (h : listOk s = true) (h4 : (rdV s).length % 4 = 0) : rdjOk s = areJobsB (jobsK (rdV s) ((rdV s).length / 4)) := by
  unfold rdjOk
  rw [h, decide_eq_true h4, Bool.true_and, Bool.true_and]
theorem rdjV_no {s : ByteArray} (h : rdjOk s = false) : rdjV s = [] := by unfold rdjV; rw [h]; rfl
theorem rdjV_yes {s : ByteArray} (h : rdjOk s = true) : rdjV s = jobsK (rdV s) ((rdV s).length / 4) := by unfold rdjV; rw [if_pos h]
theorem ownJ_nil (w : World) (base : Nat) : w.ownsRow base 86 4 (.slice none 0 0) 0 (jobsC []) := ⟨rfl, .inl ⟨rfl, rfl⟩⟩
theorem ownJ_empty (w : World) (b : Nat) (hb : b = w.heap.size) : (w.alloc (.cells #[] 86)).ownsRow w.heap.size 86 4 (.slice (some ⟨b, 0, none⟩) 0 0) 0 (jobsC []) := by
  subst hb
  exact World.ownsRow_lit (base := w.heap.size) (e := 86) (size := 4) w #[] 0 (Nat.le_refl _) (by simp [maxLen]) rfl
theorem owns4_shape {w : World} {base n : Nat} {v : Value} {vs : List Value} (h : w.ownsRow base 86 4 v n vs) : ∃ a cap, v = .slice a n cap := by
  rcases h.2 with ⟨rfl, e⟩ | ⟨g, cap, cur, rfl, _⟩
  · subst e
    exact ⟨none, 0, rfl⟩
  · exact ⟨_, _, rfl⟩
theorem belowK_grown {w w' : World} {base n size : Nat} {e : TypeId} {v : Value} {vs : List Value} (h : w.ownsRow base e size v n vs) (hbase : base ≤ w.heap.size) (hg : w.grownBy w' v.ownBlock) : Below base w w' :=
  ⟨hg.os, hg.tape, hg.output, hg.size, fun k hk => hg.block k (by omega) fun e => by
    have := (h.lt k e.symm).1
    omega⟩
/-- Append of one job to what the call owns, in a drawn region. -/
theorem step_app_job {w : World} {ops : Array Oper} {o : Oper} {a : Act} {K : Act → World → Prop} {Q : Exit → Act → World → Prop} {E : Prop} (hgd : o.guard = none) (s x : Operand)
    (ho : o.op = .call { callee := .builtin .append, args := #[s, x], argTypes := #[28, 28] })
    (base : Nat) (v : Value) (n : Nat) (js : List JobD) (hs : a.eval s = v) (hown : w.ownsRow base 86 4 v n (jobsC js))
    (j : JobD) (b : Nat) (hblk : Blk w b 86 #[.int .i64 j.long, .int .i64 j.due, .int .i64 j.weight, .int .i64 j.ready]) (hx : a.eval x = .slice (some ⟨b, 0, none⟩) 1 1)
    (m : Nat) (ys : List JobD) (hm : m = n + 1) (hys : ys = js ++ [j]) (hlen : n ≤ 1048576) (hbase : base ≤ w.heap.size)
    (h : ∀ a' cap' w', w'.ownsRow base 86 4 (.slice a' m cap') m (jobsC ys) → Below base w w' → K (a.put o.dst (.slice a' m cap')) w') :
    if Region.wanted o (yielded ops a.tmps) = true then Oper.wp Tryz.prog o a w K Q else E := by
  have hwt : Region.wanted o (yielded ops a.tmps) = true := by simp [Region.wanted, hgd]
  rw [if_pos hwt]
  subst hm hys
  obtain ⟨i0, hi, hz0, hz1, hz2⟩ := info_parts Tryz.infoJob
  have hc : ∀ t u, (jobCells j)[t]? = some u → w.cell? ((⟨b, 0, none⟩ : Addr).add t) = some u := by
    intro t u ht
    have h1 : w.heap[b]? = some (.cells #[.int .i64 j.long, .int .i64 j.due, .int .i64 j.weight, .int .i64 j.ready] 86) := hblk
    have h2 : ((⟨b, 0, none⟩ : Addr).add t) = ⟨b, t, none⟩ := by unfold Addr.add; split <;> simp_all
    rw [h2]
    simp only [World.cell?, h1]
    simpa [jobCells, I64] using ht
  obtain ⟨v', w', hr, h2, h3, _, h5⟩ := run_append_own_at (P := Tryz.prog) w base 28 o.type 86 i0 (.agg #[.int .i64 0, .int .i64 0, .int .i64 0, .int .i64 0]) 4 32 Tryz.underlying28 hi hz0 hz1 hz2 rfl (by decide) v n (jobsC js) hown ⟨b, 0, none⟩ 1 1 (jobCells j) rfl hc (by intro y hy; simp only [jobCells, List.mem_cons, List.not_mem_nil, or_false] at hy; rcases hy with rfl | rfl | rfl | rfl <;> rfl) (by unfold maxLen; omega) (by omega) hbase
  obtain ⟨a', cap', rfl⟩ := owns4_shape h2
  unfold Oper.wp execOp
  simp only [ho, resolve, invoke, builtin, Sem.run_bind, Sem.run_pure, Result.andThen_ok, List.map_toArray, List.map_cons, List.map_nil, hs, hx, hr]
  refine h a' cap' w' ?_ (belowK_grown hown hbase h3)
  rw [jobsC_snoc]
  exact h2
end Go.Proofs.YtgkbbpajkbkgnaaGreatDoor
