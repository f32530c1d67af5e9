/-
  FnDesk: texts joined: JtxI, FxI, StoreI, ClauseS, CaseVS, StoreS, RdI, RdS, RlI, FlI.
-/
import Derived.Deep.RegionHeld3
import Derived.Deep.Cut
import Derived.Lib.ConvBytes
import Derived.Test.YtgkbbpajkbkgnaaGreatDoorMFnDeskAA
import Derived.Test.YtgkbbpajkbkgnaaGreatDoorMFnDeskAC
import Derived.Test.YtgkbbpajkbkgnaaGreatDoorMFnDeskAG
import Derived.Test.YtgkbbpajkbkgnaaGreatDoorMFnDeskAK
import Derived.Test.YtgkbbpajkbkgnaaGreatDoorMFnDeskAL
import Derived.Test.YtgkbbpajkbkgnaaGreatDoorMFnDeskAM
import Derived.Test.YtgkbbpajkbkgnaaGreatDoorMFnDeskAN
import Derived.Test.YtgkbbpajkbkgnaaGreatDoorMFnDeskBA
set_option linter.unusedVariables false
set_option linter.unusedSimpArgs false
namespace Go.Proofs.YtgkbbpajkbkgnaaGreatDoor
open Go.RowKit
theorem areItems_any (v : Value) (xs : List Int) (w : World) (h : RdI w v xs) :
    Calls Tryz.prog 49 #[v] w fun e w' => e = .returned (.bool (decide (xs.length ≤ 64) && allIn (-1000000000000000) 1000000000000000 xs)) ∧ w = w' := by
  obtain ⟨a, c, rfl⟩ := h.shape
  have hl := h.len
  simp only [maxLen] at hl
  have HW := Lib.hid (allWithin_any _ xs (-1000000000000000) 1000000000000000 w h)
  clear h
  go_enter Tryz.func49, Tryz.ntmps49
  by_cases h1 : xs.length ≤ 64
  · have d1 : decide ((xs.length : Int) ≤ 64) = true := decide_eq_true (by omega)
    have HE := Lib.hid (show decide (xs.length ≤ 64) = true from decide_eq_true h1)
    clear h1
    go_wp2_with (go_at_call 121; refine HW.out.mono ?_; rintro e w' ⟨rfl, rfl⟩)
    go_ret
    exact ⟨by rw [HE.out]; rfl, rfl⟩
  · have d1 : decide ((xs.length : Int) ≤ 64) = false := decide_eq_false (by omega)
    have HE := Lib.hid (show decide (xs.length ≤ 64) = false from decide_eq_false h1)
    clear h1
    go_wp2_with fail
    go_ret
    exact ⟨by rw [HE.out]; rfl, rfl⟩
theorem listTextOk_any (v : Value) (xs : List Int) (w : World) (h : RdI w v xs) (hs : Small xs) (hl : xs.length ≤ 64) (hin : allIn (-1000000000000000) 1000000000000000 xs = true) (hp : HasPow w) :
    Calls Tryz.prog 12 #[v] w fun e w' => e = .returned (.tuple #[.string (listT xs), .bool true]) ∧ Below w.heap.size w w' := by
  have ha := areItems_any v xs w h
  rw [hin, show decide (xs.length ≤ 64) = true from decide_eq_true hl] at ha
  have HA := Lib.hid ha
  have HL := Lib.hid (listTextI_any v xs w h hs (by omega) hp)
  clear ha h hs hin hp
  go_enter Tryz.func12, Tryz.ntmps12
  go_wp2_with (first
    | (go_at_call 49; refine HA.out.mono ?_; rintro e w' ⟨rfl, rfl⟩)
    | (go_at_call 50; refine HL.out.mono ?_; rintro e w1 ⟨rfl, hb⟩))
  go_ret2
  exact ⟨rfl, hb⟩
theorem nums_in {js : List JobD} (h : areJobsB js = true) : allIn (-1000000000000000) 1000000000000000 (numsK js js.length) = true := by
  refine allIn_true fun i hi => ?_
  have := nums_small h ((numsK js js.length).getD i 0) (by rw [List.getD_eq_getElem?_getD, List.getElem?_eq_getElem hi]; exact List.getElem_mem _)
  rw [inB_iff]; omega
set_option maxHeartbeats 1000000 in
set_option maxRecDepth 4000 in
theorem jobsTextI_any (v : Value) (js : List JobD) (w : World) (h : RdJ w v js) (hp : HasPow w) :
    Calls Tryz.prog 13 #[v] w fun e w' => e = .returned (.tuple #[.string (jobT js), .bool (areJobsB js)]) ∧ Below w.heap.size w w' := by
  have HA := Lib.hid (AreJobs_any v js w h)
  obtain ⟨q, hq⟩ : ∃ q, areJobsB js = q := ⟨_, rfl⟩
  rw [hq] at HA ⊢
  have HQ := Lib.hid hq
  have HPW := Lib.hid hp
  clear hq hp
  obtain ⟨a, c, rfl⟩ := h.shape
  have HR := Lib.hid h
  clear h
  go_enter Tryz.func13, Tryz.ntmps13
  cases q
  · go_wp2_with (go_at_call 51; refine HA.out.mono ?_; rintro e w0 ⟨rfl, hb⟩)
    go_ret2
    exact ⟨by rw [show jobT js = E0 by unfold jobT; rw [HQ.out]; rfl]; rfl, hb⟩
  have hn : js.length ≤ 12 := by
    have hj := HQ.out
    unfold areJobsB at hj
    rw [Bool.and_eq_true, inB_iff] at hj
    omega
  go_upto_region 3 with (go_at_call 51; refine HA.out.mono ?_; rintro e w0 ⟨rfl, hb⟩)
  have HB0 := Lib.hid hb
  clear hb HA
  go_wp2_with fail
  go_loopw [4, 12] (fun ov iv wr => ∃ (k m : Nat) (b : Option Addr) (cc : Nat), iv = .int .i64 k ∧ k ≤ js.length ∧ Hid (m = 4 * k) ∧ ov = .slice b m cc ∧ Hid (wr.ownsRow w.heap.size 2 1 (.slice b m cc) m ((numsK js k).map I64)) ∧ Hid (Below w.heap.size w wr)) (fun _ iv _ => js.length + 1 - (intOf iv).toNat)
  case atStart => exact ⟨0, 0, none, 0, rfl, Nat.zero_le _, Lib.hid rfl, rfl, Lib.hid (World.ownsRow_nil _ _ _ _), HB0⟩
  case round =>
    obtain ⟨k, m, b, cc, rfl, hk, HM, rfl, HO, HB⟩ := hrel
    obtain ⟨wo, rfl⟩ : ∃ wo, wo = wr := ⟨wr, rfl⟩
    have hsz := HB.out.size
    by_cases hlt : k < js.length
    · have hlt' : (k : Int) < js.length := by omega
      obtain ⟨jb, jo, rfl, hjb, d0, d1, d2, d3⟩ := (HR.out.up HB.out (Nat.le_refl _)).at hlt
      have HE := Lib.hid (numsK_succ js k hlt)
      obtain ⟨j, hje⟩ : ∃ j, j = js.getD k J0 := ⟨_, rfl⟩
      rw [← hje] at d0 d1 d2 d3 HE
      have HE2 := Lib.hid (show numsK js (k + 1) = numsK js k ++ [j.long, j.due, j.weight, j.ready] from HE.out)
      have hm4 : m + 4 ≤ 1000 := by have := HM.out; omega
      clear hje HE
      have hal : Below w.heap.size wo ((wo.alloc (.cells #[.int .i64 j.long, .int .i64 j.due, .int .i64 j.weight, .int .i64 j.ready] 86)).alloc (.cells #[.int .i64 j.long, .int .i64 j.due, .int .i64 j.weight, .int .i64 j.ready] 2)) := ((Below.refl _ _).alloc hsz _).alloc (by simp; omega) _
      have HAL := Lib.hid hal
      clear hal
      go_wp2_with (go_loud (at_builtin; refine app_ints rfl _ _ rfl w.heap.size (.slice b m cc) m (numsK js k) rfl ((HO.out.alloc _).alloc _) _ [j.long, j.due, j.weight, j.ready] rfl (slcI_four _ _ _ _ _ _ (by simp)) (m + 4) (numsK js (k + 1)) (by simp) HE2.out (by omega) (Nat.le_trans hsz HAL.out.size) ?_; intro b3 c3 w3 hown3 hbl3 _ _))
      go_roundw
      case rel => exact ⟨k + 1, m + 4, b3, c3, by go_num, by omega, Lib.hid (by have := HM.out; omega), rfl, Lib.hid hown3, Lib.hid (HB.out.trans (HAL.out.trans hbl3))⟩
      case measure => simp [intOf]; omega
    · obtain rfl : k = js.length := by omega
      have hrd : RdI wo (.slice b m cc) (numsK js js.length) := slc_of_owns HO.out
      have hnl := numsK_len js js.length (Nat.le_refl _)
      have HT := Lib.hid (listTextOk_any _ (numsK js js.length) wo hrd (nums_sm HQ.out) (by omega) (nums_in HQ.out) (HPW.out.up HB.out (Nat.le_refl _)))
      clear hrd hnl
      go_wp2_with (go_at_call 12; refine HT.out.mono ?_; rintro e w1 ⟨rfl, hb1⟩)
      go_ret2
      exact ⟨by rw [show jobT js = listT (numsK js js.length) by unfold jobT; rw [HQ.out]; rfl]; rfl, HB.out.trans (hb1.mono hsz)⟩
end Go.Proofs.YtgkbbpajkbkgnaaGreatDoor

namespace Go.Proofs.YtgkbbpajkbkgnaaGreatDoor
open Go.RowKit
theorem run_frombits (x : Int) (W : World) : (callFunc 249 #[.int .u32 x]).run Tryz.prog W = .ok (.value (.float .f32 x.toNat)) W := by
  rw [run_callFunc_extern Tryz.func249 (by kernel_rfl) (by kernel_rfl) (by kernel_rfl) (e := Extern.MathFloatBits.float32frombits) (by kernel_rfl)]
  rfl
theorem FromBits_any (n : Nat) (w : World) (h : n < 4294967296) :
    Calls Tryz.prog 185 #[.int .i64 n] w fun e w' => e = .returned (.tuple #[.float .f32 n, .bool true]) ∧ w = w' := by
  have hw := within_any (n : Int) 0 4294967295
  rw [show inB 0 4294967295 (n : Int) = true by rw [inB_iff]; omega] at hw
  have HW := Lib.hid hw
  have hb := run_frombits
  have hwr : IntKind.u32.wrap (n : Int) = (n : Int) := by simp [IntKind.wrap, IntKind.bits, IntKind.signed]; omega
  clear hw
  go_enter Tryz.func185, Tryz.ntmps185
  go_wp2_with (go_at_call 115; refine (HW.out _).mono ?_; rintro e w' ⟨rfl, rfl⟩)
  go_ret2
  exact ⟨rfl, rfl⟩
theorem hex_index : ∀ c, c < 256 → Lib.indexByte [48, 49, 50, 51, 52, 53, 54, 55, 56, 57, 97, 98, 99, 100, 101, 102] c.toUInt8 = match hexV c with | some d => (d : Int) | none => -1 := by decide +kernel
theorem IndexByte_hex (c : Nat) (w : World) (h : c < 256) (z : Int) (hz : z = match hexV c with | some d => (d : Int) | none => -1) :
    Calls Tryz.prog 184 #[.string ⟨#[48, 49, 50, 51, 52, 53, 54, 55, 56, 57, 97, 98, 99, 100, 101, 102]⟩, .int .u8 c] w fun e w' => e = .returned (.int .i64 z) ∧ w = w' := by
  refine (Tryz.strings_IndexByte ⟨#[48, 49, 50, 51, 52, 53, 54, 55, 56, 57, 97, 98, 99, 100, 101, 102]⟩ (c : Int) w).mono ?_
  rintro e w' ⟨rfl, rfl⟩
  refine ⟨?_, rfl⟩
  rw [hz, ← hex_index c h, Int.toNat_natCast]
theorem i64_or_natX (a d : Nat) (ha : a < 268435456) (hd : d < 16) : bits .or .i64 ((16 * a : Nat) : Int) (d : Int) = ((16 * a + d : Nat) : Int) := by
  have h1 : (16 * a) ||| d = 16 * a + d := by
    have := Nat.shiftLeft_add_eq_or_of_lt (i := 4) (b := d) (by omega) a
    rw [Nat.shiftLeft_eq, show a * 2 ^ 4 = 16 * a by omega] at this
    exact this.symm
  show IntKind.i64.wrap ((BitVec.ofInt 64 ((16 * a : Nat) : Int) ||| BitVec.ofInt 64 (d : Int)).toNat : Int) = _
  rw [BitVec.toNat_or, ofInt_i64X _ (by omega), ofInt_i64X d (by omega), h1, IntKind.wrap_i64]
  omega
set_option maxHeartbeats 1000000 in
theorem fromHex_any (s : ByteArray) (w : World) (hs : s.size ≤ 1048576) :
    Calls Tryz.prog 142 #[.string s] w fun e w' => ∃ x, e = .returned (.tuple #[.float .f32 x, .bool (hexOk s)]) ∧ (hexOk s = true → x = accH s 8) ∧ w = w' := by
  by_cases h8 : s.size = 8
  case neg =>
    have hd : ((s.size : Int) != 8) = true := by simp; omega
    have HNO := Lib.hid (show hexOk s = false by unfold hexOk; rw [decide_eq_false h8, Bool.false_and])
    clear h8
    go_enter Tryz.func142, Tryz.ntmps142
    go_wp2_with fail
    go_ret2
    exact ⟨0, by rw [HNO.out]; rfl, fun h => (by rw [HNO.out] at h; cases h), rfl⟩
  have hd : ((s.size : Int) != 8) = false := by simp; omega
  have H8 := Lib.hid h8
  clear h8 hs
  go_enter Tryz.func142, Tryz.ntmps142
  go_wp2_with fail
  go_loopw [4, 5] (fun bv iv wr => ∃ (k : Nat), iv = .int .i64 k ∧ k ≤ 8 ∧ bv = .int .i64 (accH s k) ∧ Hid (∀ j, j < k → okB s j = true) ∧ w = wr) (fun _ iv _ => 8 - (intOf iv).toNat)
  case atStart => exact ⟨0, rfl, Nat.zero_le _, rfl, Lib.hid (by intro j hj; omega), rfl⟩
  case round =>
    obtain ⟨k, rfl, hk, rfl, HALL, rfl⟩ := hrel
    by_cases hlt : k < 8
    · have hlt' : (k : Int) < 8 := by omega
      have hks : k < s.size := by have := H8.out; omega
      have hksI : (k : Int) < (s.size : Int) := by omega
      have ha := accH_lt s k
      have hp := Nat.pow_le_pow_right (n := 16) (by omega) (show k ≤ 7 by omega)
      have hacc : accH s k < 268435456 := Nat.lt_of_lt_of_le ha hp
      have HA := Lib.hid (show accH s (k + 1) = 16 * accH s k + dvB s k from rfl)
      have hdl := dvB_lt s k
      have hget : s.data[k]! = s[k] := getElem!_pos s.data k hks
      have HOKB := Lib.hid (show okB s k = (hexV s[k].toNat).isSome by unfold okB; rw [hget])
      have HDV := Lib.hid (show dvB s k = (hexV s[k].toNat).getD 0 by unfold dvB; rw [hget])
      have HBAD := Lib.hid (show okB s k = false → hexOk s = false from fun h => by unfold hexOk; rw [allB_false hlt h, Bool.false_and, Bool.and_false])
      have HSTEP := Lib.hid (show okB s k = true → ∀ j, j < k + 1 → okB s j = true from fun h j hj => by
        by_cases hjk : j = k
        · rw [hjk]; exact h
        · exact HALL.out j (by omega))
      obtain ⟨a, hae⟩ : ∃ a, a = accH s k := ⟨_, rfl⟩
      rw [← hae] at HA hacc ⊢
      obtain ⟨d, hde⟩ : ∃ d, d = dvB s k := ⟨_, rfl⟩
      rw [← hde] at HA HDV hdl
      have hc := s[k].toNat_lt
      obtain ⟨c, hcc⟩ : ∃ c, c = s[k].toNat := ⟨_, rfl⟩
      rw [← hcc] at hc HOKB HDV
      have hcv : ∀ h : k < s.size, (s[k]'h).toNat = c := fun _ => hcc.symm
      have HIX := Lib.hid (fun W z hz => IndexByte_hex c W hc z hz)
      clear ha hp hget hae hde hcc
      cases hv : hexV c with
      | none =>
        have HNO := Lib.hid (HBAD.out (by rw [HOKB.out, hv]; rfl))
        have HI2 := Lib.hid (fun W => HIX.out W (-1) (by rw [hv]))
        clear hv hdl
        go_wp2_with (go_at_call 184; refine (HI2.out _).mono ?_; rintro e w' ⟨rfl, rfl⟩)
        go_ret2
        exact ⟨0, by rw [HNO.out]; rfl, fun h => (by rw [HNO.out] at h; cases h), rfl⟩
      | some d0 =>
        have hdd : d = d0 := by rw [HDV.out, hv]; rfl
        subst hdd
        have HI2 := Lib.hid (fun W => HIX.out W (d : Int) (by rw [hv]))
        have HALL2 := Lib.hid (HSTEP.out (by rw [HOKB.out, hv]; rfl))
        have hor : bits .or .i64 ((a : Int) * 16) (d : Int) = ((16 * a + d : Nat) : Int) := by
          have := i64_or_natX a d hacc hdl
          rwa [show ((16 * a : Nat) : Int) = (a : Int) * 16 by omega] at this
        clear hv
        go_wp2_with (go_at_call 184; refine (HI2.out _).mono ?_; rintro e w' ⟨rfl, rfl⟩)
        go_roundw
        case rel => exact ⟨k + 1, by go_num, by omega, by rw [HA.out]; go_num, HALL2, by trivial⟩
        case measure => simp [intOf]; omega
    · obtain rfl : k = 8 := by omega
      have hall := allB_true HALL.out
      have hsame := hex_same H8.out hall
      have hn : accH s 8 < 4294967296 := accH_lt s 8
      have hok : hexOk s = decide (codeN (accH s 8) = accH s 8) := by unfold hexOk; rw [H8.out, hall, decide_eq_true rfl, Bool.true_and, Bool.true_and]
      have HF := Lib.hid (FromBits_any (accH s 8) w hn)
      have hh := hexOf_any (accH s 8) w hn
      by_cases he : hexS (codeN (accH s 8)) = s
      · have HYES := Lib.hid (show hexOk s = true by rw [hok]; exact decide_eq_true (hsame.1 he))
        rw [he] at hh
        have HH := Lib.hid hh
        clear hall hsame hn hok he hh
        go_wp2_with (first
          | (go_at_call 185; refine HF.out.mono ?_; rintro e w' ⟨rfl, rfl⟩)
          | (go_at_call 118; refine HH.out.mono ?_; rintro e w' ⟨rfl, rfl⟩)
          | fail)
        go_ret2
        exact ⟨accH s 8, by rw [HYES.out]; rfl, fun _ => rfl, rfl⟩
      · have HNO := Lib.hid (show hexOk s = false by rw [hok]; exact decide_eq_false (fun h => he (hsame.2 h)))
        have hne := str_ne he
        obtain ⟨D, hD⟩ : ∃ D, D = hexS (codeN (accH s 8)) := ⟨_, rfl⟩
        rw [← hD] at hh hne
        have HH := Lib.hid hh
        clear hall hsame hn hok he hh hD
        go_wp2_with (first
          | (go_at_call 185; refine HF.out.mono ?_; rintro e w' ⟨rfl, rfl⟩)
          | (go_at_call 118; refine HH.out.mono ?_; rintro e w' ⟨rfl, rfl⟩)
          | fail)
        go_ret2
        exact ⟨accH s 8, by rw [HNO.out]; rfl, fun _ => rfl, rfl⟩
end Go.Proofs.YtgkbbpajkbkgnaaGreatDoor

namespace Go.Proofs.YtgkbbpajkbkgnaaGreatDoor
open Go.RowKit
end Go.Proofs.YtgkbbpajkbkgnaaGreatDoor

namespace Go.Proofs.YtgkbbpajkbkgnaaGreatDoor
open Go.RowKit
end Go.Proofs.YtgkbbpajkbkgnaaGreatDoor

namespace Go.Proofs.YtgkbbpajkbkgnaaGreatDoor
open Go.RowKit
end Go.Proofs.YtgkbbpajkbkgnaaGreatDoor

namespace Go.Proofs.YtgkbbpajkbkgnaaGreatDoor
open Go.RowKit
theorem bytesWorld_below (w : World) (s : ByteArray) : Below w.heap.size w (Lib.bytesWorld w 5 s) :=
  ⟨rfl, rfl, rfl, by rw [Lib.bytesWorld_size]; omega, fun k hk => Lib.bytesWorld_at_old w _ s k hk⟩
end Go.Proofs.YtgkbbpajkbkgnaaGreatDoor

namespace Go.Proofs.YtgkbbpajkbkgnaaGreatDoor
open Go.RowKit Go.Shelf
theorem var_up {P : Program} {w w' : World} {B : Nat} {nm : String} {cs : Array Value} (h : w.var? P nm = some cs) (hb : Below B w w') (hB : w.heap.size ≤ B) : w'.var? P nm = some cs := by
  unfold World.var? at h ⊢
  cases hg : P.globalNamed nm with
  | none => rw [hg] at h; cases h
  | some g =>
    rw [hg] at h
    simp only [Option.bind_some] at h ⊢
    cases hh : w.heap[g]? with
    | none => rw [hh] at h; cases h
    | some o =>
      have hlt : g < w.heap.size := (Array.getElem?_eq_some_iff.1 hh).1
      rw [hb.block g (by omega)]
      exact h
def HasErrs (w : World) : Prop := (∃ tp p, w.var? Tryz.prog "strconv.ErrSyntax" = some #[.iface tp p]) ∧ (∃ tp p, w.var? Tryz.prog "strconv.ErrRange" = some #[.iface tp p])
theorem HasErrs.up {w w' : World} {B : Nat} (h : HasErrs w) (hb : Below B w w') (hB : w.heap.size ≤ B) : HasErrs w' := by
  obtain ⟨⟨a, b, h1⟩, ⟨c, d, h2⟩⟩ := h
  exact ⟨⟨a, b, var_up h1 hb hB⟩, ⟨c, d, var_up h2 hb hB⟩⟩
theorem ParseInt_ok (s : ByteArray) (v : Int) (w : World) (hs : s.size ≤ 1048576) (h : Lib.parseIntB 64 s.data.toList = .ok v) :
    Calls Tryz.prog 141 #[.string s, .int .i64 10, .int .i64 64] w fun e w' => e = .returned (.tuple #[.int .i64 v, .nilIface]) ∧ Below w.heap.size w w' := by
  refine (Any.strconv_ParseInt_10_at64_ok Tryz.laysC174 s (by omega) v h w).mono ?_
  rintro e w' ⟨rfl, rfl | ⟨t, rfl⟩⟩
  · exact ⟨rfl, Below.refl _ _⟩
  · exact ⟨rfl, bytesWorld_below _ _⟩
theorem ParseInt_bad (s : ByteArray) (w : World) (hs : s.size ≤ 1048576) (h : ∀ v, Lib.parseIntB 64 s.data.toList ≠ .ok v) (he : HasErrs w) :
    Calls Tryz.prog 141 #[.string s, .int .i64 10, .int .i64 64] w fun e w' => ∃ z T a, e = .returned (.tuple #[.int .i64 z, .iface T (.pointer (some a))]) ∧ Below w.heap.size w w' := by
  obtain ⟨⟨a, b, h1⟩, ⟨c, d, h2⟩⟩ := he
  cases hp : Lib.parseIntB 64 s.data.toList with
  | ok v => exact absurd hp (h v)
  | range =>
    refine (Any.strconv_ParseInt_10_at64_range_var Tryz.laysC174 s (by omega) hp c d w h2).mono ?_
    rintro e w' ⟨N, rfl, _, _, hb⟩
    exact ⟨_, _, _, rfl, hb⟩
  | _ =>
    refine (Any.strconv_ParseInt_10_at64_syntax_var Tryz.laysC174 s (by omega) hp a b w h1).mono ?_
    rintro e w' ⟨N, rfl, _, _, hb⟩
    exact ⟨_, _, _, rfl, hb⟩
theorem DecimalZ_any (n : Int) (h0 : -1000000000000000 ≤ n) (h1 : n ≤ 1000000000000000) (w : World) (htab : HasPow w) :
    Calls Tryz.prog 15 #[.int .i64 n] w fun e w' => e = .returned (.string (itoaB n)) ∧ Below w.heap.size w w' := by
  have hcon := Tryz.strconv_FormatInt_10 n (by omega) (by omega) w htab
  rw [show (⟨(Lib.itoa n).toArray⟩ : ByteArray) = itoaB n from rfl] at hcon
  clear htab
  go_enter Tryz.func15, Tryz.ntmps15
  go_wp2_with (go_at_call 52; refine hcon.mono ?_; rintro e w' ⟨rfl, k, os, rfl⟩)
  go_ret
  exact ⟨rfl, below_grow (below_drewN (Below.refl _ _) _) _ (Nat.le_refl _)⟩
set_option maxHeartbeats 1000000 in
theorem ReadDecimal_any (s : ByteArray) (w : World) (hs : s.size ≤ 1048576) (hp : HasPow w) (he : HasErrs w) :
    Calls Tryz.prog 84 #[.string s] w fun e w' => e = .returned (.tuple #[.int .i64 (valN s), .bool (valOk s)]) ∧ Below w.heap.size w w' := by
  have HPW := Lib.hid hp
  by_cases hok : ∃ v, Lib.parseIntB 64 s.data.toList = .ok v
  · obtain ⟨v, hv⟩ := hok
    have HP := Lib.hid (ParseInt_ok s v w hs hv)
    have hval : valB s = if (-1000000000000000 ≤ v ∧ v ≤ 1000000000000000) ∧ itoaB v = s then some v else none := by unfold valB; rw [hv]
    clear hp he
    have hw := within_any v (-1000000000000000) 1000000000000000
    by_cases h0 : -1000000000000000 ≤ v ∧ v ≤ 1000000000000000
    · have hd := fun W hW => DecimalZ_any v h0.1 h0.2 W hW
      rw [show inB (-1000000000000000) 1000000000000000 v = true by rw [inB_iff]; exact h0] at hw
      have HW := Lib.hid hw
      by_cases he : itoaB v = s
      · have hval2 : valB s = some v := by rw [hval, if_pos ⟨h0, he⟩]
        have H1 := Lib.hid (show valN s = v by unfold valN; rw [hval2]; rfl)
        have H2 := Lib.hid (show valOk s = true by unfold valOk; rw [hval2]; rfl)
        rw [he] at hd
        have HD := Lib.hid hd
        clear hval hval2 h0 he hw hd hv
        go_enter Tryz.func84, Tryz.ntmps84
        go_wp2_with (first
          | (go_at_call 141; refine HP.out.mono ?_; rintro e w1 ⟨rfl, hb1⟩)
          | (go_at_call 115; refine (HW.out _).mono ?_; rintro e w' ⟨rfl, rfl⟩)
          | (go_at_call 15; refine (HD.out _ (HPW.out.up hb1 (Nat.le_refl _))).mono ?_; rintro e w2 ⟨rfl, hb2⟩)
          | fail)
        go_ret2
        exact ⟨by rw [H1.out, H2.out]; rfl, hb1.trans (hb2.mono hb1.size)⟩
      · have hval2 : valB s = none := by rw [hval, if_neg (fun h => he h.2)]
        have H1 := Lib.hid (show valN s = 0 by unfold valN; rw [hval2]; rfl)
        have H2 := Lib.hid (show valOk s = false by unfold valOk; rw [hval2]; rfl)
        have hne := str_ne he
        obtain ⟨D, hD⟩ : ∃ D, D = itoaB v := ⟨_, rfl⟩
        rw [← hD] at hd hne
        have HD := Lib.hid hd
        clear hval hval2 h0 he hw hd hv hD
        go_enter Tryz.func84, Tryz.ntmps84
        go_wp2_with (first
          | (go_at_call 141; refine HP.out.mono ?_; rintro e w1 ⟨rfl, hb1⟩)
          | (go_at_call 115; refine (HW.out _).mono ?_; rintro e w' ⟨rfl, rfl⟩)
          | (go_at_call 15; refine (HD.out _ (HPW.out.up hb1 (Nat.le_refl _))).mono ?_; rintro e w2 ⟨rfl, hb2⟩)
          | fail)
        go_ret2
        exact ⟨by rw [H1.out, H2.out]; rfl, hb1.trans (hb2.mono hb1.size)⟩
    · have hval2 : valB s = none := by rw [hval, if_neg (fun h => h0 h.1)]
      have H1 := Lib.hid (show valN s = 0 by unfold valN; rw [hval2]; rfl)
      have H2 := Lib.hid (show valOk s = false by unfold valOk; rw [hval2]; rfl)
      rw [show inB (-1000000000000000) 1000000000000000 v = false by apply bool_false; rw [inB_iff]; exact h0] at hw
      have HW := Lib.hid hw
      clear hval hval2 h0 hw hv
      go_enter Tryz.func84, Tryz.ntmps84
      go_wp2_with (first
        | (go_at_call 141; refine HP.out.mono ?_; rintro e w1 ⟨rfl, hb1⟩)
        | (go_at_call 115; refine (HW.out _).mono ?_; rintro e w' ⟨rfl, rfl⟩)
        | fail)
      go_ret2
      exact ⟨by rw [H1.out, H2.out]; rfl, hb1⟩
  · have HP := Lib.hid (ParseInt_bad s w hs (fun v hv => hok ⟨v, hv⟩) he)
    have hval2 : valB s = none := by
      unfold valB
      split
      · rename_i v hv
        exact absurd ⟨v, hv⟩ hok
      · rfl
    have H1 := Lib.hid (show valN s = 0 by unfold valN; rw [hval2]; rfl)
    have H2 := Lib.hid (show valOk s = false by unfold valOk; rw [hval2]; rfl)
    clear hp he hval2 hok
    go_enter Tryz.func84, Tryz.ntmps84
    go_wp2_with (first
      | (go_at_call 141; refine HP.out.mono ?_; rintro e w1 ⟨z, T, a, rfl, hb1⟩)
      | fail)
    go_ret2
    exact ⟨by rw [H1.out, H2.out]; rfl, hb1⟩
end Go.Proofs.YtgkbbpajkbkgnaaGreatDoor

namespace Go.Proofs.YtgkbbpajkbkgnaaGreatDoor
open Go.RowKit
end Go.Proofs.YtgkbbpajkbkgnaaGreatDoor

namespace Go.Proofs.YtgkbbpajkbkgnaaGreatDoor
open Go.RowKit
theorem slcI_one1 (w : World) (x : Int) (b : Nat) (hb : b = w.heap.size) : Slc (w.alloc (.cells #[.int .i64 x] 2)) (.slice (some ⟨b, 0, none⟩) 1 1) ([x].map I64) := by
  subst hb
  have h := World.ownsRow_lit (base := w.heap.size) (e := 2) (size := 1) w #[.int .i64 x] 1 (Nat.le_refl _) (by simp [maxLen]) rfl
  exact slc_of_owns h
theorem ne_none {s : ByteArray} (h : s ≠ noneS) : (s.toList == [110, 111, 110, 101]) = false := by
  have e : noneS.toList = [110, 111, 110, 101] := by rw [ByteArray.toList_eq]; rfl
  have := str_ne h
  rwa [e] at this
theorem divided_any (s : ByteArray) (w : World) (hs : s.size ≤ 1048576) (hm : HasMax w) :
    Calls Tryz.prog 86 #[.string s] w fun e w' => ∃ a cap, e = .returned (.slice a (wsOf s).length cap) ∧ RdSs w' (.slice a (wsOf s).length cap) (wsOf s) ∧ Below w.heap.size w w' := by
  by_cases h : s = noneS
  · subst h
    rw [wsOf_none]
    have h0 : RdSs w (.slice none 0 0) [] := ⟨.inl ⟨rfl, rfl⟩, fun s hs => by cases hs⟩
    clear hs hm
    unfold noneS
    go_enter Tryz.func86, Tryz.ntmps86
    go_wp2_with fail
    go_ret
    exact ⟨none, 0, rfl, h0, Below.refl _ _⟩
  · have HS := Lib.hid (SplitC_any 44 s w hm hs)
    rw [wsOf_not h]
    have hne := ne_none h
    clear h hs hm
    go_enter Tryz.func86, Tryz.ntmps86
    go_wp2_with (go_at_call 83; refine HS.out.mono ?_; rintro e w1 ⟨a, cap, rfl, hr, hb⟩)
    go_ret
    exact ⟨a, cap, rfl, hr, hb⟩
set_option maxHeartbeats 2000000 in
theorem ReadList_any (s : ByteArray) (w : World) (hs : s.size ≤ 1048576) (hp : HasPow w) (hm : HasMax w) (he : HasErrs w) :
    Calls Tryz.prog 31 #[.string s] w fun e w' => ∃ a cap, e = .returned (.tuple #[.slice a (rdV s).length cap, .bool (listOk s)]) ∧ w'.ownsRow w.heap.size 2 1 (.slice a (rdV s).length cap) (rdV s).length ((rdV s).map I64) ∧ Below w.heap.size w w' := by
  have HDV := Lib.hid (divided_any s w hs hm)
  have HPW := Lib.hid hp
  have HER := Lib.hid he
  have hcn := wsOf_cnt s
  have HWA := Lib.hid (fun k h => @wsOf_at s k h)
  have HSZ := Lib.hid hs
  clear hp hm he
  obtain ⟨n, hn⟩ : ∃ n, n = (wsOf s).length := ⟨_, rfl⟩
  rw [← hn] at hcn HDV HWA
  have hnb : n ≤ 2000000 := by omega
  have HN := Lib.hid hn
  clear hn hs hcn
  go_enter Tryz.func31, Tryz.ntmps31
  go_upto_region 2 with fail
  go_wp2_with (go_at_call 86; refine HDV.out.mono ?_; rintro e w1 ⟨wa, wc, rfl, hrs, hb1⟩)
  have HRS := Lib.hid hrs
  have HB1 := Lib.hid hb1
  clear hrs hb1 HDV
  have hz1 := HB1.out.size
  go_loopw [4, 12] (fun ov iv wr => ∃ (k : Nat) (b : Option Addr) (cc : Nat), iv = .int .i64 k ∧ k ≤ n ∧ ov = .slice b k cc ∧ Hid (wr.ownsRow w1.heap.size 2 1 (.slice b k cc) k ((valsK s k).map I64)) ∧ Hid (∀ j, j < k → valOk ((wsOf s).getD j E0) = true) ∧ Hid (Below w1.heap.size w1 wr)) (fun _ iv _ => n + 1 - (intOf iv).toNat)
  case atStart => exact ⟨0, none, 0, rfl, Nat.zero_le _, rfl, Lib.hid (World.ownsRow_nil _ _ _ _), Lib.hid (by intro j hj; omega), Lib.hid (Below.refl _ _)⟩
  case round =>
    obtain ⟨k, b, cc, rfl, hk, rfl, HO, HALL, HB⟩ := hrel
    obtain ⟨wo, rfl⟩ : ∃ wo, wo = wr := ⟨wr, rfl⟩
    have hsz := HB.out.size
    by_cases hlt : k < n
    · have hlt' : (k : Int) < n := by omega
      have hlw : k < (wsOf s).length := by rw [← HN.out]; exact hlt
      obtain ⟨xb, xo, rfl, _, hx⟩ := (HRS.out.up HB.out (Nat.le_refl _)).at hlw
      have hxs := HWA.out k hlt
      have HE := Lib.hid (valsK_succ s k hlw)
      have HBAD := Lib.hid (fun h => listOk_bad hlw h)
      have HSTEP := Lib.hid (fun (h : valOk ((wsOf s).getD k E0) = true) => (show ∀ j, j < k + 1 → valOk ((wsOf s).getD j E0) = true from fun j hj => by
        by_cases hjk : j = k
        · rw [hjk]; exact h
        · exact HALL.out j (by omega)))
      obtain ⟨x, hxe⟩ : ∃ x, x = (wsOf s).getD k E0 := ⟨_, rfl⟩
      rw [← hxe] at hx hxs HE HBAD HSTEP
      clear hxe
      have HRD := Lib.hid (ReadDecimal_any x wo (Nat.le_trans hxs HSZ.out) (HPW.out.up (HB1.out.trans (HB.out.mono hz1)) (Nat.le_refl _)) (HER.out.up (HB1.out.trans (HB.out.mono hz1)) (Nat.le_refl _)))
      obtain ⟨z, hz⟩ : ∃ z, z = valN x := ⟨_, rfl⟩
      obtain ⟨q, hq⟩ : ∃ q, q = valOk x := ⟨_, rfl⟩
      rw [← hz] at HRD HE
      rw [← hq] at HRD HBAD HSTEP
      clear hz hq hxs
      cases q
      · have HNO := Lib.hid (HBAD.out rfl)
        have HRV := Lib.hid (rdV_no HNO.out)
        go_wp2_with (first
          | (go_at_call 84; refine HRD.out.mono ?_; rintro e w2 ⟨rfl, hb2⟩)
          | fail)
        go_ret2
        refine ⟨none, 0, ?_, ?_, HB1.out.trans ((HB.out.trans (hb2.mono hsz)).mono hz1)⟩
        · rw [HNO.out, HRV.out]; rfl
        · rw [HRV.out]; exact World.ownsRow_nil _ _ _ _
      · have HALL2 := Lib.hid (HSTEP.out rfl)
        go_wp2_with (first
          | (go_at_call 84; refine HRD.out.mono ?_; rintro e w2 ⟨rfl, hb2⟩; have HO1 := Lib.hid (owns_below HO.out hb2 (Nat.le_refl _)); have hsz2 := Nat.le_trans hsz hb2.size)
          | (at_builtin; refine app_ints rfl _ _ rfl w1.heap.size (.slice b k cc) k (valsK s k) rfl (HO1.out.alloc _) _ [z] rfl (slcI_one1 w2 z _ rfl) (k + 1) (valsK s (k + 1)) (by simp) HE.out (by omega) (by simp; omega) ?_; intro b3 c3 w3 hown3 hbl3 _ _)
          | fail)
        go_roundw
        case rel => exact ⟨k + 1, b3, c3, by go_num, by omega, rfl, Lib.hid hown3, HALL2, Lib.hid (HB.out.trans ((hb2.mono hsz).trans (((Below.refl _ _).alloc hsz2 _).trans hbl3)))⟩
        case measure => simp [intOf]; omega
    · obtain rfl : k = n := by omega
      have HOK := Lib.hid (listOk_all (s := s) (by rw [← HN.out]; exact HALL.out))
      have HVK := Lib.hid (show valsK s k = (wsOf s).map valN by rw [HN.out]; exact valsK_all s)
      have hrd : RdI wo (.slice b k cc) ((wsOf s).map valN) := by
        have := slc_of_owns HO.out
        rwa [HVK.out] at this
      have HAI := Lib.hid (areItems_any _ _ wo hrd)
      have hai := vals_allIn (s := s) (by rw [← HN.out]; exact HALL.out)
      rw [hai, List.length_map, ← HN.out, Bool.and_true] at HAI
      rw [← HN.out] at HOK
      by_cases h64 : k ≤ 64
      · have hd : decide (k ≤ 64) = true := decide_eq_true h64
        rw [hd] at HAI HOK
        have HRV := Lib.hid (rdV_ok HOK.out)
        have HRL := Lib.hid (show (rdV s).length = k by rw [HRV.out, List.length_map]; exact HN.out.symm)
        clear hrd hai hd
        go_wp2_with (first
          | (go_at_call 49; refine HAI.out.mono ?_; rintro e w2 ⟨rfl, rfl⟩)
          | fail)
        go_ret2
        refine ⟨b, cc, ?_, ?_, HB1.out.trans (HB.out.mono hz1)⟩
        · rw [HOK.out, HRL.out]; rfl
        · rw [HRL.out, HRV.out, ← HVK.out]; exact owns_base HO.out hz1
      · have hd : decide (k ≤ 64) = false := decide_eq_false h64
        rw [hd] at HAI HOK
        have HRV := Lib.hid (rdV_no HOK.out)
        clear hrd hai hd
        go_wp2_with (first
          | (go_at_call 49; refine HAI.out.mono ?_; rintro e w2 ⟨rfl, rfl⟩)
          | fail)
        go_ret2
        refine ⟨none, 0, ?_, ?_, HB1.out.trans (HB.out.mono hz1)⟩
        · rw [HOK.out, HRV.out]; rfl
        · rw [HRV.out]; exact World.ownsRow_nil _ _ _ _
end Go.Proofs.YtgkbbpajkbkgnaaGreatDoor

namespace Go.Proofs.YtgkbbpajkbkgnaaGreatDoor
open Go.RowKit
theorem areNumB_any (n : Nat) (w : World) : Calls Tryz.prog 117 #[.int .i64 n] w fun e w' => e = .returned (.bool (decide (n ≤ 256))) ∧ w = w' := by
  by_cases h : n ≤ 256
  · rw [decide_eq_true h]
    exact areNumbers_any n w h
  · have hd : decide ((n : Int) ≤ 256) = false := decide_eq_false (by omega)
    rw [decide_eq_false h]
    clear h
    go_enter Tryz.func117, Tryz.ntmps117
    go_wp2_with fail
    go_ret
    exact ⟨rfl, rfl⟩
set_option maxHeartbeats 2000000 in
theorem ReadNumbers_any (s : ByteArray) (w : World) (hs : s.size ≤ 1048576) (hm : HasMax w) :
    Calls Tryz.prog 85 #[.string s] w fun e w' => ∃ a cap, e = .returned (.tuple #[.slice a (fltV s).length cap, .bool (fltOk s)]) ∧ w'.ownsRow w.heap.size 100 1 (.slice a (fltV s).length cap) (fltV s).length ((fltV s).map F32) ∧ Below w.heap.size w w' := by
  have HAN := Lib.hid (fun W n => areNumB_any n W)
  have HDV := Lib.hid (divided_any s w hs hm)
  have hcn := wsOf_cnt s
  have HWA := Lib.hid (fun k h => @wsOf_at s k h)
  have HSZ := Lib.hid hs
  clear hm
  obtain ⟨n, hn⟩ : ∃ n, n = (wsOf s).length := ⟨_, rfl⟩
  rw [← hn] at hcn HDV HWA
  have hnb : n ≤ 2000000 := by omega
  have HN := Lib.hid hn
  clear hn hs hcn
  go_enter Tryz.func85, Tryz.ntmps85
  go_upto_region 2 with fail
  by_cases hlong : 256 < n
  · have hd : decide (n ≤ 256) = false := decide_eq_false (by omega)
    have HNO := Lib.hid (fltOk_long (s := s) (by rw [← HN.out]; exact hlong))
    have HRV := Lib.hid (fltV_no HNO.out)
    have HA2 := Lib.hid (fun W => (hd ▸ HAN.out W n : _))
    clear hlong HWA
    go_wp2_with (first
      | (go_at_call 86; refine HDV.out.mono ?_; rintro e w1 ⟨wa, wc, rfl, hrs, hb1⟩)
      | (go_at_call 117; refine (HA2.out _).mono ?_; rintro e w' ⟨rfl, rfl⟩)
      | fail)
    go_ret2
    refine ⟨none, 0, ?_, ?_, hb1⟩
    · rw [HNO.out, HRV.out]; rfl
    · rw [HRV.out]; exact World.ownsRow_nil _ _ _ _
  have h256 : n ≤ 256 := by omega
  have HA2 := Lib.hid (fun W => areNumbers_any n W h256)
  go_wp2_with (first
    | (go_at_call 86; refine HDV.out.mono ?_; rintro e w1 ⟨wa, wc, rfl, hrs, hb1⟩)
    | (go_at_call 117; refine (HA2.out _).mono ?_; rintro e w' ⟨rfl, rfl⟩)
    | fail)
  have HRS := Lib.hid hrs
  have HB1 := Lib.hid hb1
  clear hrs hb1 HDV HAN HA2
  have hz1 := HB1.out.size
  go_loopw [5, 18] (fun ov iv wr => ∃ (k : Nat) (b : Option Addr) (cc : Nat), iv = .int .i64 k ∧ k ≤ n ∧ ov = .slice b k cc ∧ Hid (wr.ownsRow w1.heap.size 100 1 (.slice b k cc) k ((fltsK s k).map F32)) ∧ Hid (∀ j, j < k → hexOk ((wsOf s).getD j E0) = true) ∧ Hid (Below w1.heap.size w1 wr)) (fun _ iv _ => n + 1 - (intOf iv).toNat)
  case atStart => exact ⟨0, none, 0, rfl, Nat.zero_le _, rfl, Lib.hid (World.ownsRow_nil _ _ _ _), Lib.hid (by intro j hj; omega), Lib.hid (Below.refl _ _)⟩
  case round =>
    obtain ⟨k, b, cc, rfl, hk, rfl, HO, HALL, HB⟩ := hrel
    obtain ⟨wo, rfl⟩ : ∃ wo, wo = wr := ⟨wr, rfl⟩
    have hsz := HB.out.size
    by_cases hlt : k < n
    · have hlt' : (k : Int) < n := by omega
      have hlw : k < (wsOf s).length := by rw [← HN.out]; exact hlt
      obtain ⟨xb, xo, rfl, _, hx⟩ := (HRS.out.up HB.out (Nat.le_refl _)).at hlw
      have hxs := HWA.out k hlt
      have HE := Lib.hid (fltsK_succ s k hlw)
      have HBAD := Lib.hid (fun h => fltOk_bad hlw h)
      have HSTEP := Lib.hid (fun (h : hexOk ((wsOf s).getD k E0) = true) => (show ∀ j, j < k + 1 → hexOk ((wsOf s).getD j E0) = true from fun j hj => by
        by_cases hjk : j = k
        · rw [hjk]; exact h
        · exact HALL.out j (by omega)))
      obtain ⟨x, hxe⟩ : ∃ x, x = (wsOf s).getD k E0 := ⟨_, rfl⟩
      rw [← hxe] at hx hxs HE HBAD HSTEP
      clear hxe
      have HRD := Lib.hid (fromHex_any x wo (Nat.le_trans hxs HSZ.out))
      obtain ⟨z, hz⟩ : ∃ z, z = accH x 8 := ⟨_, rfl⟩
      obtain ⟨q, hq⟩ : ∃ q, q = hexOk x := ⟨_, rfl⟩
      rw [← hz] at HRD HE
      rw [← hq] at HRD HBAD HSTEP
      clear hz hq hxs
      cases q
      · have HNO := Lib.hid (HBAD.out rfl)
        have HRV := Lib.hid (fltV_no HNO.out)
        go_wp2_with (first
          | (go_at_call 142; refine HRD.out.mono ?_; rintro e w2 ⟨y, rfl, _, rfl⟩)
          | fail)
        go_ret2
        refine ⟨none, 0, ?_, ?_, HB1.out.trans (HB.out.mono hz1)⟩
        · rw [HNO.out, HRV.out]; rfl
        · rw [HRV.out]; exact World.ownsRow_nil _ _ _ _
      · have HALL2 := Lib.hid (HSTEP.out rfl)
        go_wp2_with (first
          | (go_at_call 142; refine HRD.out.mono ?_; rintro e w2 ⟨y, rfl, hy, rfl⟩; obtain rfl := hy rfl)
          | (at_builtin; refine app_flts rfl _ _ rfl w1.heap.size (.slice b k cc) k (fltsK s k) rfl (HO.out.alloc _) _ [y] rfl (slcF_oneB wo y _ rfl) (k + 1) (fltsK s (k + 1)) (by simp) HE.out (by omega) (by simp; omega) ?_; intro b3 c3 w3 hown3 hbl3 _ _)
          | fail)
        go_roundw
        case rel => exact ⟨k + 1, b3, c3, by go_num, by omega, rfl, Lib.hid hown3, HALL2, Lib.hid (HB.out.trans (((Below.refl _ _).alloc hsz _).trans hbl3))⟩
        case measure => simp [intOf]; omega
    · obtain rfl : k = n := by omega
      have HOK := Lib.hid (fltOk_all (s := s) (by rw [← HN.out]; exact HALL.out) (by rw [← HN.out]; exact h256))
      have HVK := Lib.hid (show fltsK s k = (wsOf s).map (fun x => accH x 8) by rw [HN.out]; exact fltsK_all s)
      have HRV := Lib.hid (fltV_ok HOK.out)
      have HRL := Lib.hid (show (fltV s).length = k by rw [HRV.out, List.length_map]; exact HN.out.symm)
      go_wp2_with fail
      go_ret2
      refine ⟨b, cc, ?_, ?_, HB1.out.trans (HB.out.mono hz1)⟩
      · rw [HOK.out, HRL.out]; rfl
      · rw [HRL.out, HRV.out, ← HVK.out]; exact owns_base HO.out hz1
end Go.Proofs.YtgkbbpajkbkgnaaGreatDoor
