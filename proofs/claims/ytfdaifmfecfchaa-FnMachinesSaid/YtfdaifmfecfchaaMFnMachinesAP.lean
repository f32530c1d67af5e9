/-
  FnMachines: texts joined: LFnMachines, OpenB.
-/
import Derived.BigQuiet
import Derived.Deep.Cut
import Derived.Lib.MinMax
import Derived.Deep.RegionLaw
import Derived.Test.YtfdaifmfecfchaaMFnMachinesAM
import Derived.Test.YtfdaifmfecfchaaMFnMachinesAN
import Derived.Test.YtfdaifmfecfchaaMFnMachinesAO
namespace Go.Proofs.Ytfdaifmfecfchaa
open Go.RowKit Go.Sort

/-- What the first k jobs of a plan give to each machine. -/
def gL (js : List JobD) (O : List Int) (m k : Nat) : List Int := (List.range m).map fun s => giveK js O s k
theorem gL_len (js : List JobD) (O : List Int) (m k : Nat) : (gL js O m k).length = m := by simp [gL]
theorem gL_at (js : List JobD) (O : List Int) {m : Nat} (k : Nat) {s : Nat} (h : s < m) : (gL js O m k).getD s 0 = giveK js O s k := by
  unfold gL
  rw [List.getD_eq_getElem?_getD, List.getElem?_map, List.getElem?_range h]
  rfl
theorem gL_zero (js : List JobD) (O : List Int) (m : Nat) : gL js O m 0 = List.replicate m 0 := by
  unfold gL
  rw [List.eq_replicate_iff]
  refine ⟨by simp, fun b hb => ?_⟩
  rw [List.mem_map] at hb
  obtain ⟨s, _, rfl⟩ := hb
  rfl
theorem gL_succ (js : List JobD) (O : List Int) (m k x : Nat) (hx : O.getD k 0 = (x : Int)) (hm : x < m) : gL js O m (k + 1) = (gL js O m k).set x ((gL js O m k).getD x 0 + longK js k) := by
  refine List.ext_getElem? fun d => ?_
  rw [List.getElem?_set, gL_at js O k hm, gL_len]
  by_cases hd : d < m
  · unfold gL
    rw [List.getElem?_map, List.getElem?_map, List.getElem?_range hd]
    have e : giveK js O d (k + 1) = giveK js O d k + if O.getD k 0 = (d : Int) then longK js k else 0 := rfl
    by_cases e2 : x = d
    · subst e2
      rw [if_pos rfl, if_pos hm]
      show some (giveK js O x (k + 1)) = _
      rw [e, if_pos hx]
    · rw [if_neg e2]
      show some (giveK js O d (k + 1)) = some (giveK js O d k)
      rw [e, if_neg (by omega), Int.add_zero]
  · rw [if_neg (by omega), List.getElem?_eq_none (by rw [gL_len]; omega), List.getElem?_eq_none (by rw [gL_len]; omega)]
theorem giveK_rng {js : List JobD} (h : ∀ i, 0 ≤ longK js i ∧ longK js i ≤ 1000) (O : List Int) (s : Nat) : ∀ k : Nat, 0 ≤ giveK js O s k ∧ giveK js O s k ≤ 1000 * k
  | 0 => by simp [giveK, sR]
  | k + 1 => by
    have ih := giveK_rng h O s k
    have := h k
    have e : giveK js O s (k + 1) = giveK js O s k + if O.getD k 0 = (s : Int) then longK js k else 0 := rfl
    rw [e]
    split <;> push_cast <;> omega
theorem mostG_rng {js : List JobD} (h : ∀ i, 0 ≤ longK js i ∧ longK js i ≤ 1000) (O : List Int) (n : Nat) : ∀ s : Nat, 0 ≤ mostG js O n s ∧ mostG js O n s ≤ 1000 * n
  | 0 => by simp [mostG]; omega
  | s + 1 => by
    have ih := mostG_rng h O n s
    have := giveK_rng h O s n
    simp only [mostG]
    omega
/-- The longest of the first jobs, and 0. -/
def longM (js : List JobD) : Nat → Int
  | 0 => 0
  | k + 1 => max (longM js k) (longK js k)
theorem longM_rng {js : List JobD} (h : ∀ i, 0 ≤ longK js i ∧ longK js i ≤ 1000) : ∀ k, 0 ≤ longM js k ∧ longM js k ≤ 1000
  | 0 => by simp [longM]
  | k + 1 => by
    have ih := longM_rng h k
    have := h k
    simp only [longM]
    omega
theorem longM_le {js : List JobD} {T : Int} (h0 : 0 ≤ T) : ∀ k, (∀ i, i < k → longK js i ≤ T) → longM js k ≤ T
  | 0, _ => h0
  | k + 1, h => by
    have := longM_le h0 k (fun i hi => h i (by omega))
    have := h k (by omega)
    simp only [longM]
    omega
theorem sRl_rng {js : List JobD} (h : ∀ i, 0 ≤ longK js i ∧ longK js i ≤ 1000) : ∀ k : Nat, 0 ≤ sR (longK js) k ∧ sR (longK js) k ≤ 1000 * k
  | 0 => by simp [sR]
  | k + 1 => by
    have ih := sRl_rng h k
    have := h k
    simp only [sR]
    push_cast
    omega

theorem allIn_wide {lo hi hi' : Int} {xs : List Int} (h : allIn lo hi xs = true) (hh : hi ≤ hi') : allIn lo hi' xs = true := by
  refine allIn_true fun i hi2 => ?_
  have := sizes_facts h i hi2
  exact inB_true (by omega)
theorem st_ends2 {a b : Nat → Int} (ha : ∀ x, 0 ≤ a x) {L : List Nat} (h : 1 ≤ L.length) : a (L.getD 0 0) + b (L.getD (L.length - 1) 0) ≤ (stEnd a b (0, 0) L).2 := by
  cases L with
  | nil => simp at h
  | cons x A =>
    have e : (x :: A).getLast? = some ((x :: A).getD ((x :: A).length - 1) 0) := by
      rw [List.getLast?_eq_getElem?, List.getD_eq_getElem?_getD, List.getElem?_eq_getElem (by simp)]
      rfl
    exact st_ends ha x _ A e
theorem twoF_nonneg {xs : List Int} (h : allIn 1 1000 xs = true) (x : Nat) : 0 ≤ twoF xs x ∧ twoF xs x ≤ 1000 := by
  unfold twoF
  by_cases e : xs.length = 0
  · have : xs = [] := List.length_eq_zero_iff.1 e
    subst this; simp
  · have := sizes_facts h (x % xs.length) (Nat.mod_lt _ (by omega)); omega

set_option maxHeartbeats 8000000 in
set_option maxRecDepth 100000 in
theorem lawFnMachines_any (w : World) (v0 : Value) (z0 : List Int) (r0 : RdB w v0 z0) (f0 : WfB z0) (v1 : Value) (z1 : List Int) (r1 : RdB w v1 z1) (f1 : WfB z1) :
    Calls Try.prog 4 #[v0, v1] w fun e w' => e = .returned (.bool true) ∧ Below w.heap.size w w' := by
  obtain ⟨i0, hi, hz0, hz1, hz2⟩ := info_parts Try.infoI64
  obtain ⟨a0, c0, rfl⟩ := r0.shape
  obtain ⟨a1, c1, rfl⟩ := r1.shape
  have HR0 := Lib.hid r0
  have HR1 := Lib.hid r1
  have HF0 := Lib.hid f0
  have HF1 := Lib.hid f1
  clear r0 r1 f0 f1
  have HLG := Lib.hid (r8Long_any (.slice a0 z0.length c0) (.slice a1 z1.length c1) z0 z1 w HR0.out HR1.out)
  obtain ⟨q, hq⟩ : ∃ q, isLong8 z0 z1 = q := ⟨_, rfl⟩
  rw [hq] at HLG
  clear hq
  go_enter Try.func4, Try.ntmps4
  cases q
  case true =>
    go_wp2_with (go_at_call 6; refine HLG.out.mono ?_; rintro e w' ⟨rfl, rfl⟩)
    go_ret
    exact ⟨rfl, Below.refl _ _⟩
  go_upto_region 3 with (go_at_call 6; refine HLG.out.mono ?_; rintro e w' ⟨rfl, rfl⟩)
  clear HLG
  go_upto_region 4 with (go_at_call 7; refine (r8At_any (.slice a1 z1.length c1) z1 40 7 w HR1.out HF1.out (by omega) (by omega) (by omega) (by omega)).mono ?_; rintro e w' ⟨r, hr0, hr1, rfl, rfl⟩)
  obtain ⟨n, hn⟩ : ∃ n : Nat, (n : Int) = 1 + r := ⟨(1 + r).toNat, by omega⟩
  have hn1 : 1 ≤ n := by omega
  have hn7 : n ≤ 7 := by omega
  rw [← hn]
  clear hn hr0 hr1
  go_upto_region 5 with (go_at_call 7; refine (r8At_any (.slice a1 z1.length c1) z1 41 4 w HR1.out HF1.out (by omega) (by omega) (by omega) (by omega)).mono ?_; rintro e w' ⟨r2, hr0, hr1, rfl, rfl⟩)
  obtain ⟨m, hm⟩ : ∃ n : Nat, (n : Int) = 1 + r2 := ⟨(1 + r2).toNat, by omega⟩
  have hm1 : 1 ≤ m := by omega
  have hm4 : m ≤ 4 := by omega
  rw [← hm]
  clear hm hr0 hr1
  go_upto_region 6 with (go_at_call 8; refine (R8Jobs_any (.slice a0 z0.length c0) z0 w HR0.out HF0.out n hn1 (by omega)).mono ?_; rintro e w1 ⟨js, sv, hl, ha, rfl, ho, hb⟩)
  obtain ⟨sa, sc, rfl⟩ := ho.rd.shape
  have HB1 := Lib.hid hb
  have hz1 := hb.size
  have HJ := Lib.hid (fun W (hW : Below w1.heap.size w1 W) => ho.rd.up hW (Nat.le_refl _))
  rw [hl] at HJ ⊢
  have hja : ∀ i, 0 ≤ longK js i ∧ longK js i ≤ 1000 := fun i => (jobs_any ha i).1
  have hmb : machB js m = true := by unfold machB; rw [ha, inB_true (by omega)]; rfl
  have hlb : lsB js m = true := by unfold lsB; rw [hmb, decide_eq_true (by omega)]; rfl
  obtain ⟨q1, q2, q3, q4, q5, q6, q7, q8, q9, q10, q11, q12⟩ := mach_law ha hm1 (by omega) (by omega)
  have g1 := mostG_rng hja (lpO js m) js.length m
  have g2 := mostG_rng hja (lfO js m) js.length m
  rw [q9] at g1
  rw [q10] at g2
  have g0 : 0 ≤ lsN js m := by
    have := q6 0 (by omega)
    have := hja 0
    omega
  rw [hl] at q5 q6 q7 q8 q9 q10 q11 q12 g1 g2
  have g3 := sRl_rng hja n
  have g4 := longM_rng hja n
  have g5 := longM_le g0 n q6
  have HC1 := Lib.hid (fun W (hW : Below w1.heap.size w1 W) => listI_any _ js m W (HJ.out W hW))
  have HC2 := Lib.hid (fun W (hW : Below w1.heap.size w1 W) => longI_any _ js m W (HJ.out W hW))
  have HC3 := Lib.hid (fun W (hW : Below w1.heap.size w1 W) => lsI_any _ js m W (HJ.out W hW))
  rw [hmb] at HC1 HC2
  rw [hlb] at HC3
  obtain ⟨P, hP⟩ : ∃ P, P = lpO js m := ⟨_, rfl⟩
  obtain ⟨F, hF⟩ : ∃ P, P = lfO js m := ⟨_, rfl⟩
  obtain ⟨pe, hpe⟩ : ∃ P, P = lpE js m := ⟨_, rfl⟩
  obtain ⟨fe, hfe⟩ : ∃ P, P = lfE js m := ⟨_, rfl⟩
  obtain ⟨S, hS⟩ : ∃ P, P = lsN js m := ⟨_, rfl⟩
  rw [← hP, ← hpe] at HC1
  rw [← hF, ← hfe] at HC2
  rw [← hS] at HC3 q1 q2 q3 q4 q5 q6 g0 g5
  rw [← hpe] at q2 q3 q9 g1
  rw [← hfe] at q1 q4 q10 g2
  rw [← hP] at q7 q9 q11
  rw [← hF] at q8 q10 q12
  clear hP hF hpe hfe hS hmb hlb q6
  have HQ7 := Lib.hid q7
  have HQ8 := Lib.hid q8
  have HQ9 := Lib.hid q9
  have HQ10 := Lib.hid q10
  have HPL := Lib.hid q11
  have HFL := Lib.hid q12
  have HN := Lib.hid hl
  have HJA := Lib.hid hja
  have HA := Lib.hid ha
  clear q7 q8 q9 q10 q11 q12 ho hb hl ha hja
  go_upto_region 7 with (go_at_call 20; refine (HC1.out w1 (Below.refl _ _)).mono ?_; rintro e w2 ⟨pv, rfl, hop, hb2⟩; obtain ⟨pa, pc, rfl⟩ := hop.rd.shape)
  have HB2 := Lib.hid hb2
  have HP2 := Lib.hid hop.rd
  rw [HPL.out] at HP2 ⊢
  clear hop hb2
  go_upto_region 8 with (go_at_call 21; refine (HC2.out w2 HB2.out).mono ?_; rintro e w3 ⟨fv, rfl, hof, hb3⟩; obtain ⟨fa, fc, rfl⟩ := hof.rd.shape)
  have HB3 := Lib.hid (HB2.out.trans (hb3.mono HB2.out.size))
  have HP3 := Lib.hid (HP2.out.up hb3 (Nat.le_refl _))
  have HF3 := Lib.hid hof.rd
  rw [HFL.out] at HF3 ⊢
  clear hof hb3 HP2 HB2
  go_upto_region 9 with (go_at_call 22; refine (HC3.out w3 HB3.out).mono ?_; rintro e w4 ⟨rfl, hb4⟩)
  have HB4 := Lib.hid (HB3.out.trans (hb4.mono HB3.out.size))
  have HP4 := Lib.hid (HP3.out.up hb4 (Nat.le_refl _))
  have HF4 := Lib.hid (HF3.out.up hb4 (Nat.le_refl _))
  clear hb4 HP3 HF3 HB3 HC1 HC2 HC3
  -- the products
  have hS7 : S ≤ 7000 := by omega
  have hmn : ∀ x : Int, 0 ≤ x → x ≤ 30000 → 0 ≤ x * m ∧ x * m ≤ 120000 := fun x h0 h1 => by
    refine ⟨Int.mul_nonneg h0 (by omega), ?_⟩
    have := Int.mul_le_mul h1 (show (m : Int) ≤ 4 by omega) (by omega) (by omega)
    omega
  have hmm : ∀ c x : Int, 0 ≤ c → c ≤ 15 → 0 ≤ x → x ≤ 7000 → 0 ≤ c * x ∧ c * x ≤ 105000 := fun c x h0 h1 h2 h3 => by
    refine ⟨Int.mul_nonneg h0 h2, ?_⟩
    have := Int.mul_le_mul h1 h3 h2 (by omega)
    omega
  have t1 := hmn pe (by omega) (by omega)
  have t2 := hmn (fe * 3) (by omega) (by omega)
  have t3 := hmn S g0 (by omega)
  have t4 := hmm (2 * (m : Int) - 1) S (by omega) (by omega) g0 hS7
  have t5 := hmm (4 * (m : Int) - 1) S (by omega) (by omega) g0 hS7
  obtain ⟨p1, hp1⟩ : ∃ p, p = pe * m := ⟨_, rfl⟩
  obtain ⟨p2, hp2⟩ : ∃ p, p = fe * 3 * m := ⟨_, rfl⟩
  obtain ⟨p3, hp3⟩ : ∃ p, p = S * m := ⟨_, rfl⟩
  obtain ⟨p4, hp4⟩ : ∃ p, p = (2 * (m : Int) - 1) * S := ⟨_, rfl⟩
  obtain ⟨p5, hp5⟩ : ∃ p, p = (4 * (m : Int) - 1) * S := ⟨_, rfl⟩
  rw [← hp1] at t1 q3
  rw [← hp2] at t2 q4
  rw [← hp3] at t3 q5
  rw [← hp4] at t4 q3
  rw [← hp5] at t5 q4
  have x1 : IntKind.i64.wrap (pe * m) = p1 := by rw [← hp1]; exact IntWalk.i64_in _ (by omega)
  have x2 : IntKind.i64.wrap (fe * 3 * m) = p2 := by rw [← hp2]; exact IntWalk.i64_in _ (by omega)
  have x3 : IntKind.i64.wrap (S * m) = p3 := by rw [← hp3]; exact IntWalk.i64_in _ (by omega)
  have x4 : IntKind.i64.wrap ((2 * (m : Int) - 1) * S) = p4 := by rw [← hp4]; exact IntWalk.i64_in _ (by omega)
  have x5 : IntKind.i64.wrap ((4 * (m : Int) - 1) * S) = p5 := by rw [← hp5]; exact IntWalk.i64_in _ (by omega)
  have k1 : ((n : Int) != (n : Int)) = false := by simp
  have k2 : decide (fe < S) = false := decide_eq_false (by omega)
  have k3 : decide (pe < S) = false := decide_eq_false (by omega)
  have k4 : decide (p4 < p1) = false := decide_eq_false (by omega)
  have k5 : decide (p5 < p2) = false := decide_eq_false (by omega)
  have hw1 : IntKind.i64.wrap (fe * 3) = fe * 3 := IntWalk.i64_in _ (by omega)
  have hw2 : IntKind.i64.wrap (2 * (m : Int)) = 2 * m := IntWalk.i64_in _ (by omega)
  have hw3 : IntKind.i64.wrap (2 * (m : Int) - 1) = 2 * m - 1 := IntWalk.i64_in _ (by omega)
  have hw4 : IntKind.i64.wrap (4 * (m : Int)) = 4 * m := IntWalk.i64_in _ (by omega)
  have hw5 : IntKind.i64.wrap (4 * (m : Int) - 1) = 4 * m - 1 := IntWalk.i64_in _ (by omega)
  have Q5 := Lib.hid q5
  have G3 := Lib.hid g3
  have G4 := Lib.hid g4
  have G5 := Lib.hid g5
  have X3 := Lib.hid x3
  clear hmn hmm t1 t2 t3 t4 t5 hp1 hp2 hp3 hp4 hp5 q1 q2 q3 q4 q5 g1 g2 g3 g4 g5 x3 hS7
  go_upto_region 11 with fail
  clear k1 k2 k3 k4 k5 x1 x2 x4 x5 hw1 hw2 hw3 hw4 hw5
  have hmk := run_make_ints m (by omega)
  have hmI : (0 : Int) ≤ (m : Int) := by omega
  go_upto_region 15 with fail
  refine wp_at fun w6 hw6 => ?_
  have HG := Lib.hid (show w6.ownsRow w4.heap.size 2 1 (.slice (some ⟨w4.heap.size, 0, none⟩) m m) m ((gL js P m 0).map I64) by
    subst hw6
    rw [gL_zero]
    exact (owns_base (owns_zerosI m (by omega) w4 _ rfl) (Nat.le_refl _)).alloc _)
  have HH := Lib.hid (show w6.ownsRow w4.heap.size 2 1 (.slice (some ⟨w4.heap.size + 1, 0, none⟩) m m) m ((gL js F m 0).map I64) by
    subst hw6
    rw [gL_zero]
    exact owns_base (owns_zerosI m (by omega) _ _ (by simp)) (by simp))
  have HB6 := Lib.hid (show Below w4.heap.size w4 w6 by subst hw6; (repeat' first | exact Below.refl _ _ | assumption | refine Below.alloc ?_ ?_ _ | refine Below.setCell ?_ ?_ _ | refine Below.drew ?_ | (simp; done) | (simp; omega)))
  obtain ⟨g, hg⟩ : ∃ g, g = w4.heap.size := ⟨_, rfl⟩
  obtain ⟨h, hh⟩ : ∃ h, h = w4.heap.size + 1 := ⟨_, rfl⟩
  have hgh : g ≠ h := by omega
  have hg1 : w4.heap.size ≤ g := by omega
  have hh1 : w4.heap.size ≤ h := by omega
  rw [← hh] at HH
  rw [← hg] at HG HH
  rw [← hh, ← hg]
  have HLG := Lib.hid (fun k => gL_len js P m k)
  have HLF := Lib.hid (fun k => gL_len js F m k)
  have HSU := Lib.hid (gL_succ js P m)
  have HSV := Lib.hid (gL_succ js F m)
  have HSR := Lib.hid (fun k => sRl_rng HJA.out k)
  have HLR := Lib.hid (fun k => longM_rng HJA.out k)
  have HGR := Lib.hid (fun s k => giveK_rng HJA.out P s k)
  have HHR := Lib.hid (fun s k => giveK_rng HJA.out F s k)
  have HGA := Lib.hid (fun k s (hs : s < m) => gL_at js P k hs)
  have HHA := Lib.hid (fun k s (hs : s < m) => gL_at js F k hs)
  clear hw6 hmk hmI hg hh
  go_wp2_with fail
  go_loopw [16, 17, 20] (fun sv mv iv wr => ∃ i : Nat, iv = .int .i64 i ∧ i ≤ n ∧ sv = .int .i64 (sR (longK js) i) ∧ mv = .int .i64 (longM js i) ∧ Hid (wr.ownsRow g 2 1 (.slice (some ⟨g, 0, none⟩) m m) m ((gL js P m i).map I64)) ∧ Hid (wr.ownsRow g 2 1 (.slice (some ⟨h, 0, none⟩) m m) m ((gL js F m i).map I64)) ∧ Hid (Below w4.heap.size w4 wr)) (fun _ _ iv _ => n + 1 - (intOf iv).toNat)
  case atStart => exact ⟨0, rfl, Nat.zero_le _, rfl, rfl, HG, HH, HB6⟩
  case round =>
    obtain ⟨i, rfl, hi, rfl, rfl, HGi, HHi, HBi⟩ := hrel
    obtain ⟨wo, rfl⟩ : ∃ wo, wo = wr := ⟨wr, rfl⟩
    by_cases hin : i < n
    · have hiI : (i : Int) < (n : Int) := by omega
      obtain ⟨pb, po, rfl, _, cp⟩ := (HP4.out.up HBi.out (Nat.le_refl _)).at (i := i) (by rw [HPL.out]; exact hin)
      obtain ⟨fb, fo, rfl, _, cf⟩ := (HF4.out.up HBi.out (Nat.le_refl _)).at (i := i) (by rw [HFL.out]; exact hin)
      have b1 := HQ7.out i hin
      have b2 := HQ8.out i hin
      obtain ⟨x, hx⟩ : ∃ x : Nat, P.getD i 0 = (x : Int) := ⟨(P.getD i 0).toNat, by omega⟩
      obtain ⟨y, hy⟩ : ∃ x : Nat, F.getD i 0 = (x : Int) := ⟨(F.getD i 0).toNat, by omega⟩
      have hxm : x < m := by omega
      have hym : y < m := by omega
      have hsu := HSU.out i x hx hxm
      have hsv := HSV.out i y hy hym
      rw [hx] at cp
      rw [hy] at cf
      have hxI : (x : Int) < (m : Int) := by omega
      have hyI : (y : Int) < (m : Int) := by omega
      have k1 : decide ((x : Int) < 0) = false := decide_eq_false (by omega)
      have k2 : decide ((m : Int) ≤ (x : Int)) = false := decide_eq_false (by omega)
      have k3 : decide ((y : Int) < 0) = false := decide_eq_false (by omega)
      have k4 : decide ((m : Int) ≤ (y : Int)) = false := decide_eq_false (by omega)
      have HJ0 := Lib.hid (fun W (hW : Below w4.heap.size w4 W) => HJ.out W (HB4.out.trans (hW.mono HB4.out.size)))
      obtain ⟨jb, jo, rfl, _, c0, _⟩ := (HJ0.out wo HBi.out).at (i := i) (by rw [HN.out]; exact hin)
      have hja := HJA.out i
      have hgr := HGR.out x i
      have hhr := HHR.out y i
      have hsr := HSR.out i
      have hlr := HLR.out i
      have e1 : sR (longK js) (i + 1) = sR (longK js) i + longK js i := rfl
      have e2 : longM js (i + 1) = max (longM js i) (longK js i) := rfl
      rw [← HGA.out i x hxm] at hgr
      rw [← HHA.out i y hym] at hhr
      have hlg := HLG.out i
      have hlf := HLF.out i
      obtain ⟨A, hA⟩ : ∃ A, A = gL js P m i := ⟨_, rfl⟩
      obtain ⟨B, hB⟩ : ∃ A, A = gL js F m i := ⟨_, rfl⟩
      obtain ⟨l, hl⟩ : ∃ l, l = longK js i := ⟨_, rfl⟩
      obtain ⟨s, hs⟩ : ∃ l, l = sR (longK js) i := ⟨_, rfl⟩
      obtain ⟨u, hu⟩ : ∃ l, l = longM js i := ⟨_, rfl⟩
      rw [← hA] at HGi hsu hgr hlg
      rw [← hB] at HHi hsv hhr hlf
      rw [show (js.getD i J0).long = l from hl.symm] at c0
      rw [← hl] at hja e1 e2 hsu hsv
      rw [← hs] at e1 hsr ⊢
      rw [← hu] at e2 hlr ⊢
      obtain ⟨p, hp⟩ : ∃ p, p = A.getD x 0 := ⟨_, rfl⟩
      obtain ⟨q, hq⟩ : ∃ p, p = B.getD y 0 := ⟨_, rfl⟩
      have hAx : A[x]? = some p := by rw [hp, List.getD_eq_getElem?_getD, List.getElem?_eq_getElem (by omega)]; rfl
      have hBy : B[y]? = some q := by rw [hq, List.getD_eq_getElem?_getD, List.getElem?_eq_getElem (by omega)]; rfl
      rw [← hp] at hsu hgr
      rw [← hq] at hsv hhr
      have HCJ := Lib.hid (fun X (hb : Below w4.heap.size w4 X) => show X.cell? ⟨jb, jo + i * 4, none⟩ = some (.int .i64 l) by
        obtain ⟨jb', jo', ee, _, cc, _⟩ := (HJ0.out X hb).at (i := i) (by rw [HN.out]; exact hin)
        simp only [Option.some.injEq, Addr.mk.injEq, and_true] at ee
        obtain ⟨rfl, rfl⟩ := ee
        rw [hl]
        exact cc)
      have HCF := Lib.hid (fun X (hb : Below w4.heap.size w4 X) => show X.cell? ⟨fb, fo + i, none⟩ = some (.int .i64 y) by
        obtain ⟨jb', jo', ee, _, cc⟩ := (HF4.out.up hb (Nat.le_refl _)).at (i := i) (by rw [HFL.out]; exact hin)
        simp only [Option.some.injEq, Addr.mk.injEq, and_true] at ee
        obtain ⟨rfl, rfl⟩ := ee
        rw [hy] at cc
        exact cc)
      have v1 : IntKind.i64.wrap (p + l) = p + l := IntWalk.i64_in _ (by omega)
      have v2 : IntKind.i64.wrap (q + l) = q + l := IntWalk.i64_in _ (by omega)
      have v3 : IntKind.i64.wrap (s + l) = s + l := IntWalk.i64_in _ (by omega)
      have cg : wo.cell? ⟨g, x, none⟩ = some (.int .i64 p) := by
        rw [HGi.out.cellAt x (by omega), List.getElem?_map, hAx]
        rfl
      have fg := HGi.out.frozenAt x
      have HBY := Lib.hid hBy
      have E1 := Lib.hid e1
      have E2 := Lib.hid e2
      have HU := Lib.hid hsu
      have HV := Lib.hid hsv
      have hlfl : y < B.length := by omega
      clear b1 b2 hx hy hgr hhr hsr hlr e1 e2 hA hB hl hs hu hp hq hAx hBy hsu hsv hlg hja
      go_upto_region 20 with fail
      clear k1 k2 k3 k4
      go_region_law (fail)
      all_goals
        go_upto_region 21 with fail
        refine wp_at fun w7 hw7 => ?_
        have HG7 := Lib.hid (show w7.ownsRow g 2 1 (.slice (some ⟨g, 0, none⟩) m m) m ((gL js P m (i + 1)).map I64) by
          subst hw7
          rw [HU.out, List.map_set]
          exact ((owns_drew HGi.out).stored x (.int .i64 (p + l))).1)
        have HH7 := Lib.hid (show w7.ownsRow g 2 1 (.slice (some ⟨h, 0, none⟩) m m) m (B.map I64) by
          subst hw7
          exact owns_kept (owns_drew HHi.out) (Kept.setCell (S := (· = g)) (Kept.refl _ _) (.inr rfl) _) (fun b e1 e2 => hgh (by have : h = b := Option.some.inj e1; omega)))
        have HB7 := Lib.hid (show Below w4.heap.size w4 w7 by subst hw7; exact HBi.out.drew.setCell hg1 _)
        have cj7 := HCJ.out w7 HB7.out
        have cf7 := HCF.out w7 HB7.out
        have c7 : w7.cell? ⟨h, y, none⟩ = some (.int .i64 q) := by
          rw [HH7.out.cellAt y (by omega), List.getElem?_map, HBY.out]
          rfl
        have f7 := HH7.out.frozenAt y
        clear hw7 cg fg cp cf c0
        go_wp2_with fail
        go_region_law (fail)
        all_goals
          go_upto_region 22 with fail
          refine wp_at fun w8 hw8 => ?_
          have HG8 := Lib.hid (show w8.ownsRow g 2 1 (.slice (some ⟨g, 0, none⟩) m m) m ((gL js P m (i + 1)).map I64) by
            subst hw8
            exact owns_kept (owns_drew HG7.out) (Kept.setCell (S := (· = h)) (Kept.refl _ _) (.inr rfl) _) (fun b e1 e2 => hgh (by have : g = b := Option.some.inj e1; omega)))
          have HH8 := Lib.hid (show w8.ownsRow g 2 1 (.slice (some ⟨h, 0, none⟩) m m) m ((gL js F m (i + 1)).map I64) by
            subst hw8
            rw [HV.out, List.map_set]
            exact ((owns_drew HH7.out).stored y (.int .i64 (q + l))).1)
          have HB8 := Lib.hid (show Below w4.heap.size w4 w8 by subst hw8; exact HB7.out.drew.setCell hh1 _)
          have cj8 := HCJ.out w8 HB8.out
          clear hw8 c7 f7 cj7 cf7
          go_wp2_with fail
          go_roundw
          case rel => exact ⟨i + 1, by go_num, by omega, by rw [E1.out], by rw [E2.out], HG8, HH8, HB8⟩
          case measure => simp [intOf]; omega
    · obtain rfl : i = n := by omega
      have hii : ¬ (i : Int) < (i : Int) := by omega
      have hs5 := Q5.out
      have hg5 := G5.out
      have hx3 := X3.out
      have hg3 := G3.out
      obtain ⟨s, hs⟩ : ∃ l, l = sR (longK js) i := ⟨_, rfl⟩
      obtain ⟨u, hu⟩ : ∃ l, l = longM js i := ⟨_, rfl⟩
      rw [← hs] at hs5 hg3 ⊢
      rw [← hu] at hg5 ⊢
      have k1 : decide (p3 < s) = false := decide_eq_false (by omega)
      have k2 : decide (S < u) = false := decide_eq_false (by omega)
      have HK1 := Lib.hid k1
      have HK2 := Lib.hid k2
      have HX3 := Lib.hid hx3
      clear hs5 hg5 hx3 hg3 hs hu k1 k2 Q5 G5 X3 G3 G4 HSU HSV HSR HLR
      go_wp2_with fail
      go_loopw [21, 22, 23] (fun xv yv kv wr => ∃ k : Nat, kv = .int .i64 k ∧ k ≤ m ∧ xv = .int .i64 (mostG js P i k) ∧ yv = .int .i64 (mostG js F i k) ∧ wo = wr) (fun _ _ kv _ => m + 1 - (intOf kv).toNat)
      case atStart => exact ⟨0, rfl, Nat.zero_le _, rfl, rfl, rfl⟩
      case round =>
        obtain ⟨k, rfl, hk, rfl, rfl, rfl⟩ := hrel
        by_cases hkm : k < m
        · have hkI : (k : Int) < (m : Int) := by omega
          have ga := HGA.out i k hkm
          have ha := HHA.out i k hkm
          have cg : wo.cell? ⟨g, k, none⟩ = some (.int .i64 (giveK js P k i)) := by
            rw [HGi.out.cellAt k (by omega), List.getElem?_map, List.getElem?_eq_getElem (by rw [HLG.out]; exact hkm)]
            rw [List.getD_eq_getElem?_getD, List.getElem?_eq_getElem (by rw [HLG.out]; exact hkm)] at ga
            rw [← ga]; rfl
          have ch : wo.cell? ⟨h, k, none⟩ = some (.int .i64 (giveK js F k i)) := by
            rw [HHi.out.cellAt k (by omega), List.getElem?_map, List.getElem?_eq_getElem (by rw [HLF.out]; exact hkm)]
            rw [List.getD_eq_getElem?_getD, List.getElem?_eq_getElem (by rw [HLF.out]; exact hkm)] at ha
            rw [← ha]; rfl
          have e1 : mostG js P i (k + 1) = max (mostG js P i k) (giveK js P k i) := rfl
          have e2 : mostG js F i (k + 1) = max (mostG js F i k) (giveK js F k i) := rfl
          obtain ⟨p, hp⟩ : ∃ p, p = giveK js P k i := ⟨_, rfl⟩
          obtain ⟨q, hq⟩ : ∃ p, p = giveK js F k i := ⟨_, rfl⟩
          obtain ⟨s1, hs1⟩ : ∃ p, p = mostG js P i k := ⟨_, rfl⟩
          obtain ⟨s2, hs2⟩ : ∃ p, p = mostG js F i k := ⟨_, rfl⟩
          rw [← hp] at cg e1
          rw [← hq] at ch e2
          rw [← hs1] at e1 ⊢
          rw [← hs2] at e2 ⊢
          have E1 := Lib.hid e1
          have E2 := Lib.hid e2
          clear e1 e2 ga ha hp hq hs1 hs2
          go_wp2_with fail
          go_roundw
          case rel => exact ⟨k + 1, by go_num, by omega, by rw [E1.out], by rw [E2.out], by first | rfl | trivial⟩
          case measure => simp [intOf]; omega
        · obtain rfl : k = m := by omega
          rw [HQ9.out, HQ10.out]
          have k0 : ¬ (k : Int) < (k : Int) := by omega
          have k1 := HK1.out
          have k2 := HK2.out
          have k3 : (pe != pe) = false := by simp
          have k4 : (fe != fe) = false := by simp
          have hx3 := HX3.out
          have HBT := Lib.hid (HB1.out.trans ((HB4.out.trans (HBi.out.mono HB4.out.size)).mono HB1.out.size))
          clear HGA HHA HLG HLF HGi HHi HP4 HF4 HJ HQ7 HQ8 HQ9 HQ10
          go_upto_region 33 with fail
          clear k0 k1 k2 k3 k4 hx3 HK1 HK2 HX3 HB1 HB4 HBi HB6 HG HH
          go_upto_region 34 with (go_at_call 23; refine (R8Sizes_any _ z0 wo (HR0.out.up HBT.out (Nat.le_refl _)) HF0.out i (by omega)).mono ?_; rintro e t1 ⟨xs, xv, hxl, hxa, rfl, hox, ht1⟩; obtain ⟨xa, xc, rfl⟩ := hox.rd.shape)
          have HT1 := Lib.hid (HBT.out.trans (ht1.mono HBT.out.size))
          have HX1 := Lib.hid hox.rd
          rw [hxl] at HX1
          try rw [hxl]
          clear hox ht1
          go_upto_region 35 with (go_at_call 23; refine (R8Sizes_any _ z1 t1 (HR1.out.up HT1.out (Nat.le_refl _)) HF1.out i (by omega)).mono ?_; rintro e t2 ⟨ys, yv, hyl, hya, rfl, hoy, ht2⟩; obtain ⟨ya, yc, rfl⟩ := hoy.rd.shape)
          have HT2 := Lib.hid (HT1.out.trans (ht2.mono HT1.out.size))
          have HX2 := Lib.hid (HX1.out.up ht2 (Nat.le_refl _))
          have HY2 := Lib.hid hoy.rd
          rw [hyl] at HY2
          try rw [hyl]
          clear hoy ht2 HX1
          have hxa' := allIn_wide hxa (show (12 : Int) ≤ 1000 by omega)
          have hya' := allIn_wide hya (show (12 : Int) ≤ 1000 by omega)
          have HTW := Lib.hid (twoI_any _ _ xs ys t2 HX2.out HY2.out hxa' hya' (by omega) (by omega) (by omega))
          have hLp := ordC_perm (swo_two (twoF xs) (twoF ys)) xs.length
          have HBEST := Lib.hid (fun (M : List Nat) (hM : M.Perm (List.range xs.length)) => two_best (twoF xs) (twoF ys) hM (0, 0))
          have HST := Lib.hid (fun W v (hW : RdI W v xs) u (hU : RdI W u ys) o L (hO : RdI W o (idxs L)) (hL : L.Perm (List.range xs.length)) => r8Stages_any v u o xs ys L W hW hU hO hxa' hya' (by omega) hL (by omega))
          obtain ⟨L, hL⟩ : ∃ L, L = ordC (twoC (twoF xs) (twoF ys)) xs.length := ⟨_, rfl⟩
          rw [← hL] at HTW hLp HBEST
          have hLl : L.length = i := by rw [hLp.length_eq, List.length_range]; exact hxl
          have hends := st_ends2 (a := twoF xs) (b := twoF ys) (fun x => (twoF_nonneg hxa' x).1) (L := L) (by omega)
          rw [hLl] at hends
          rw [hxl] at hLp HBEST HST
          have hm0 : L.getD 0 0 < i := List.mem_range.1 (hLp.mem_iff.1 (getD_in (by omega)))
          have hm9 : L.getD (i - 1) 0 < i := List.mem_range.1 (hLp.mem_iff.1 (getD_in (by omega)))
          have hx0 : twoF xs (L.getD 0 0) = xs.getD (L.getD 0 0) 0 := by unfold twoF; rw [Nat.mod_eq_of_lt (by omega)]
          have hy9 : twoF ys (L.getD (i - 1) 0) = ys.getD (L.getD (i - 1) 0) 0 := by unfold twoF; rw [Nat.mod_eq_of_lt (by omega)]
          rw [hx0, hy9] at hends
          have hxb := sizes_facts hxa' (L.getD 0 0) (by omega)
          have hyb := sizes_facts hya' (L.getD (i - 1) 0) (by omega)
          obtain ⟨E, hE⟩ : ∃ E, E = (stEnd (twoF xs) (twoF ys) (0, 0) L).2 := ⟨_, rfl⟩
          rw [← hE] at HTW HBEST hends
          have HES := Lib.hid hE.symm
          have HLP := Lib.hid hLp
          have HLL := Lib.hid hLl
          have HXL := Lib.hid hxl
          have HYL := Lib.hid hyl
          have HEN := Lib.hid hends
          clear hE hLp hLl hL hx0 hy9 hxl hyl hends
          go_upto_region 36 with (go_at_call 24; refine HTW.out.mono ?_; rintro e t3 ⟨o, rfl, hoo, ht3⟩; obtain ⟨oa, oc, rfl⟩ := hoo.rd.shape)
          have HT3 := Lib.hid (HT2.out.trans (ht3.mono HT2.out.size))
          have HX3 := Lib.hid (HX2.out.up ht3 (Nat.le_refl _))
          have HY3 := Lib.hid (HY2.out.up ht3 (Nat.le_refl _))
          have HO3 := Lib.hid hoo.rd
          have hil : (idxs L).length = i := by rw [idxs_len]; exact HLL.out
          rw [hil] at HO3
          try rw [hil]
          clear hoo ht3 HX2 HY2 hil HTW
          have HTU := Lib.hid (r8Tour_any _ L i t3 HO3.out HLP.out (by omega))
          have hEE : (E != E) = false := by simp
          go_upto_region 38 with (first
            | (go_at_call 19; refine HTU.out.mono ?_; rintro e t4 ⟨rfl, ht4⟩; have HT4 := Lib.hid (HT3.out.trans (ht4.mono HT3.out.size)); have HX4 := Lib.hid (HX3.out.up ht4 (Nat.le_refl _)); have HY4 := Lib.hid (HY3.out.up ht4 (Nat.le_refl _)); have HO4 := Lib.hid (HO3.out.up ht4 (Nat.le_refl _)); clear ht4)
            | (go_at_call_of 25 oa; refine (HST.out t4 _ HX4.out _ HY4.out _ L HO4.out HLP.out).mono ?_; rintro e w' ⟨rfl, rfl⟩; rw [HES.out])
            | (go_at_call 9; refine (R8Order_any _ z1 t4 (HR1.out.up HT4.out (Nat.le_refl _)) HF1.out i (by omega)).mono ?_; rintro e t5 ⟨M, mv, hM, rfl, hom, ht5⟩; obtain ⟨ra, rc, rfl⟩ := hom.rd.shape; have HT5 := Lib.hid (HT4.out.trans (ht5.mono HT4.out.size)); have HX5 := Lib.hid (HX4.out.up ht5 (Nat.le_refl _)); have HY5 := Lib.hid (HY4.out.up ht5 (Nat.le_refl _)); have HO5 := Lib.hid (HO4.out.up ht5 (Nat.le_refl _)); have HM5 := Lib.hid hom.rd; have HMP := Lib.hid hM; have k9 : decide ((stEnd (twoF xs) (twoF ys) (0, 0) M).2 < E) = false := decide_eq_false (by have := HBEST.out M hM; omega); clear hom ht5 hM)
            | (go_at_call_of 25 ra; refine (HST.out t5 _ HX5.out _ HY5.out _ M HM5.out HMP.out).mono ?_; rintro e w' ⟨rfl, rfl⟩)
            | fail)
          clear HTU hEE k9 HX3 HX4 HY3 HY4 HO3 HO4 HBEST HST HT1 HT2 HT3 HT4 HM5
          obtain ⟨j, hj⟩ : ∃ j, i = j + 1 := ⟨i - 1, by omega⟩
          have ej : i - 1 = j := by omega
          have hen := HEN.out
          rw [ej] at hen hm9 hyb
          obtain ⟨ob, oo, rfl, _, co0⟩ := HO5.out.at (i := 0) (by rw [idxs_len, HLL.out]; omega)
          obtain ⟨ob', oo', ee, _, co9⟩ := HO5.out.at (i := j) (by rw [idxs_len, HLL.out]; omega)
          simp only [Option.some.injEq, Addr.mk.injEq, and_true] at ee
          obtain ⟨rfl, rfl⟩ := ee
          rw [idxs_at9 (by rw [HLL.out]; omega)] at co0 co9
          obtain ⟨x, hx⟩ : ∃ x, x = L.getD 0 0 := ⟨_, rfl⟩
          obtain ⟨y, hy⟩ : ∃ x, x = L.getD j 0 := ⟨_, rfl⟩
          rw [← hx] at co0 hm0 hen hxb
          rw [← hy] at co9 hm9 hen hyb
          obtain ⟨vb, vo, rfl, _, cx⟩ := HX5.out.at (i := x) (by rw [HXL.out]; exact hm0)
          obtain ⟨ub, uo, rfl, _, cy⟩ := HY5.out.at (i := y) (by rw [HYL.out]; exact hm9)
          obtain ⟨p, hp⟩ : ∃ p, p = xs.getD x 0 := ⟨_, rfl⟩
          obtain ⟨q, hq⟩ : ∃ p, p = ys.getD y 0 := ⟨_, rfl⟩
          rw [← hp] at cx hen hxb
          rw [← hq] at cy hen hyb
          have hxI : (x : Int) < (i : Int) := by omega
          have hyI : (y : Int) < (i : Int) := by omega
          have hjI : (j : Int) < (i : Int) := by omega
          have h0I : (0 : Int) < (i : Int) := by omega
          have h0N : 0 < i := by omega
          rw [Nat.add_zero] at co0
          have hw : IntKind.i64.wrap ((i : Int) - 1) = (j : Int) := by rw [show (i : Int) - 1 = (j : Int) by omega]; exact IntWalk.i64_in _ (by omega)
          have hw2 : IntKind.i64.wrap (p + q) = p + q := IntWalk.i64_in _ (by omega)
          have k1 : decide (p + q ≤ E) = true := decide_eq_true hen
          clear hj ej hen hx hy hp hq hm0 hm9 hxb hyb HEN
          go_quiet (fail)
          go_wp2_with fail
          go_ret
          exact ⟨rfl, below_drewN HT5.out _⟩

end Go.Proofs.Ytfdaifmfecfchaa

namespace Go.Proofs.Ytfdaifmfecfchaa
open Go.ChangeShapes Go.WideShapes Go.ChangeAt Go.RowKit
set_option linter.unusedVariables false

section
variable {H : Type} {enc : TypeId × Value → H} {w : World} {base : Nat} {spare : Nat → Bool} {held : Bool}

theorem cells_u8 : Try.prog.cellsOf 5 = 1 := by kernel_rfl

set_option maxRecDepth 100000 in
theorem trod_B {fuel : Nat} {cs : List Value} {x : DataW H × List MemPlace} (h : DataW.trod enc Try.prog w base spare held fuel 22 cs = some x) : ∃ v zs, cs = [v] ∧ RdB w v zs ∧ WfB zs := by
  rcases open_ints Try.underlying22 Try.underlying5 cells_u8 h with ⟨rfl, _⟩ | ⟨a, len, cap, zs, rfl, _, hl, hm, hz, _, hcell, hwz⟩
  · exact ⟨_, [], rfl, .inl ⟨rfl, rfl⟩, by intro z hz; simp at hz⟩
  · have hle : len ≤ zs.length := by rw [hz]; split <;> omega
    refine ⟨_, zs.take len, rfl, .inr ⟨a, cap, by simp [Nat.min_eq_left hle], by simp; omega, hm, ?_⟩, fun z hz' => bounds_u8 (hwz z (List.mem_of_mem_take hz'))⟩
    intro i u hi
    have hlt : i < len := by
      have := (List.getElem?_eq_some_iff.1 hi).1
      simp at this; omega
    have h2 := hcell i (by omega)
    rw [h2, ← hi]
    simp [B8, List.getElem?_take, hlt, show i < zs.length by omega]

set_option maxRecDepth 100000 in
theorem arg_B {r : Reach} {b0 : Nat} {v : Value} {d : DataW H} {p : List MemPlace} (hv : Value.okWide Try.prog w r b0 22 v) (h : DataW.Trod enc Try.prog w base spare held 22 v d p) : ∃ zs, RdB w v zs ∧ WfB zs := by
  obtain ⟨a, len, cap, rfl⟩ := okWide_slice Try.underlying22 hv
  obtain ⟨fuel, hf⟩ := h
  obtain ⟨v, zs, e, h1, h2⟩ := trod_B hf
  simp [Value.cells] at e
  subst e
  exact ⟨zs, h1, h2⟩
end
end Go.Proofs.Ytfdaifmfecfchaa
