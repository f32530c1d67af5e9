/-
  FnMachines: texts joined: EndJ, HeadI, JbC.
-/
import Derived.BigQuiet
import Derived.Lib.MinMax
import Derived.Deep.Cut
import Derived.Test.YtfdaifmfecfchaaMFnMachinesAD
import Derived.Test.YtfdaifmfecfchaaMFnMachinesAG
import Derived.Test.YtfdaifmfecfchaaMFnMachinesAJ
import Derived.Test.YtfdaifmfecfchaaMFnMachinesAK
namespace Go.Proofs.Ytfdaifmfecfchaa
open Go.RowKit

theorem endS_ent {js : List JobD} (h : ∀ i, 0 ≤ (js.getD i J0).long ∧ (js.getD i J0).long ≤ 1000) (os : List Int) : ∀ k f, 0 ≤ (endS js os k).1.getD f 0 ∧ (endS js os k).1.getD f 0 ≤ 1000 * k
  | 0, f => by
    simp only [endS, List.getD_eq_getElem?_getD, List.getElem?_replicate]
    split <;> simp
  | k + 1, f => by
    have ih := endS_ent h os k f
    have ir := endS_rng h os k
    have hl := h (os.getD k 0).toNat
    simp only [endS]
    rw [List.getD_eq_getElem?_getD, List.getElem?_set]
    rw [List.getD_eq_getElem?_getD] at ih
    by_cases e : (os.getD k 0).toNat = f
    · by_cases e2 : (os.getD k 0).toNat < (endS js os k).1.length
      · rw [if_pos e, if_pos e2]
        simp only [Option.getD_some]
        push_cast
        omega
      · rw [if_pos e, if_neg e2]
        show (0 : Int) ≤ 0 ∧ (0 : Int) ≤ 1000 * ((k + 1 : Nat) : Int)
        omega
    · rw [if_neg e]
      push_cast
      omega
theorem ord_facts {js : List JobD} {os : List Int} (h : jobOrdB js os = true) : areJobsB js = true ∧ os.length = js.length ∧ js.length ≤ 12 ∧ 1 ≤ js.length ∧ ∀ k, k < os.length → 0 ≤ os.getD k 0 ∧ (os.getD k 0).toNat < js.length := by
  unfold jobOrdB ordB at h
  simp only [Bool.and_eq_true, beq_iff_eq] at h
  obtain ⟨h1, h2, h3, _⟩ := h
  obtain ⟨a, b, _⟩ := jobs_all h1
  refine ⟨h1, by omega, b, a, fun k hk => ?_⟩
  have h4 := inB_iff.1 ((allIn_iff _ _ _).1 h3 k hk)
  omega
theorem endsOf_ord (v u : Value) (js : List JobD) (os : List Int) (w : World) (h : RdJ w v js) (ho : RdI w u os) (hq : jobOrdB js os = true) :
    Calls Try.prog 40 #[v, u] w fun e w' => ∃ v', e = .returned v' ∧ OwnI w.heap.size w'.heap.size w' v' (endsL js os) ∧ Below w.heap.size w w' := by
  obtain ⟨h1, h2, h3, h4, h5⟩ := ord_facts hq
  exact endsOfI_any v u js os w h ho h1 (by omega) h5 (fun i => (jobs_any h1 i).1)
theorem endsL_len (js : List JobD) (os : List Int) : (endsL js os).length = js.length := endS_len js os _
theorem endsL_rng {js : List JobD} {os : List Int} (hq : jobOrdB js os = true) (f : Nat) : 0 ≤ (endsL js os).getD f 0 ∧ (endsL js os).getD f 0 ≤ 12000 := by
  obtain ⟨h1, h2, h3, h4, h5⟩ := ord_facts hq
  have := endS_ent (js := js) (fun i => (jobs_any h1 i).1) os os.length f
  unfold endsL
  omega
def wK (js : List JobD) (es : List Int) : Nat → Int
  | 0 => 0
  | k + 1 => wK js es k + (js.getD k J0).weight * es.getD k 0
def clK (js : List JobD) (es : List Int) : Nat → Int
  | 0 => 0
  | k + 1 => if (js.getD k J0).due < es.getD k 0 then clK js es k + 1 else clK js es k
def mlK (js : List JobD) (es : List Int) : Nat → Int
  | 0 => es.getD 0 0 - (js.getD 0 J0).due
  | k + 1 => max (mlK js es k) (es.getD k 0 - (js.getD k J0).due)
theorem prod_rng {g x : Int} (hg : 0 ≤ g ∧ g ≤ 1000) (hx : 0 ≤ x ∧ x ≤ 12000) : 0 ≤ g * x ∧ g * x ≤ 12000000 := by
  constructor
  · exact Int.mul_nonneg hg.1 hx.1
  · have := Int.mul_le_mul hg.2 hx.2 hx.1 (by decide)
    omega
theorem wK_rng {js : List JobD} {es : List Int} (h : ∀ i, 0 ≤ (js.getD i J0).weight ∧ (js.getD i J0).weight ≤ 1000) (he : ∀ f, 0 ≤ es.getD f 0 ∧ es.getD f 0 ≤ 12000) : ∀ k, 0 ≤ wK js es k ∧ wK js es k ≤ 12000000 * k
  | 0 => by simp [wK]
  | k + 1 => by
    have ih := wK_rng h he k
    have := prod_rng (h k) (he k)
    simp only [wK]
    push_cast
    omega
theorem clK_rng (js : List JobD) (es : List Int) : ∀ k, 0 ≤ clK js es k ∧ clK js es k ≤ k
  | 0 => by simp [clK]
  | k + 1 => by
    have ih := clK_rng js es k
    simp only [clK]
    split <;> push_cast <;> omega
def endsV (js : List JobD) (os : List Int) : List Int := if jobOrdB js os = true then endsL js os else []
def wEnd (js : List JobD) (os : List Int) : Int := if jobOrdB js os = true then wK js (endsL js os) js.length else 0
def cLate (js : List JobD) (os : List Int) : Int := if jobOrdB js os = true then clK js (endsL js os) js.length else 0
def mLate (js : List JobD) (os : List Int) : Int := if jobOrdB js os = true then mlK js (endsL js os) js.length else 0

set_option maxHeartbeats 1000000 in
theorem endsI_any (v u : Value) (js : List JobD) (os : List Int) (w : World) (h : RdJ w v js) (ho : RdI w u os) :
    Calls Try.prog 10 #[v, u] w fun e w' => ∃ v', e = .returned (.tuple #[v', .bool (jobOrdB js os)]) ∧ OwnI w.heap.size w'.heap.size w' v' (endsV js os) ∧ Below w.heap.size w w' := by
  have HM := Lib.hid (isJobOrder_any v u js os w h ho)
  obtain ⟨q, hq⟩ : ∃ q, jobOrdB js os = q := ⟨_, rfl⟩
  have HQ := Lib.hid hq
  rw [hq] at HM ⊢
  clear hq
  obtain ⟨va, vc, rfl⟩ := h.shape
  obtain ⟨ua, uc, rfl⟩ := ho.shape
  cases q
  · clear h ho
    go_enter Try.func10, Try.ntmps10
    go_wp2_with (go_at_call 39; refine HM.out.mono ?_; rintro e w1 ⟨rfl, hb1⟩)
    go_ret2
    exact ⟨_, rfl, by rw [show endsV js os = [] by unfold endsV; rw [HQ.out]; rfl]; exact ⟨World.ownsRow_nil _ _ _ _, by intro g hg; cases hg⟩, hb1⟩
  · have HE := Lib.hid (fun X (hb : Below w.heap.size w X) => endsOf_ord _ _ js os X (h.up hb (Nat.le_refl _)) (ho.up hb (Nat.le_refl _)) HQ.out)
    clear h ho
    go_enter Try.func10, Try.ntmps10
    go_wp2_with (first | (go_at_call 39; refine HM.out.mono ?_; rintro e w1 ⟨rfl, hb1⟩) | (go_at_call 40; refine (HE.out w1 hb1).mono ?_; rintro e w2 ⟨v2, rfl, ho2, hb2⟩))
    go_ret2
    exact ⟨_, rfl, by rw [show endsV js os = endsL js os by unfold endsV; rw [HQ.out]; rfl]; exact ho2.wide hb1.size (Nat.le_refl _), hb1.trans (hb2.mono hb1.size)⟩

set_option maxHeartbeats 2000000 in
set_option maxRecDepth 4000 in
theorem wEnd_any (v u : Value) (js : List JobD) (os : List Int) (w : World) (h : RdJ w v js) (ho : RdI w u os) :
    Calls Try.prog 11 #[v, u] w fun e w' => e = .returned (.tuple #[.int .i64 (wEnd js os), .bool (jobOrdB js os)]) ∧ Below w.heap.size w w' := by
  have HM := Lib.hid (isJobOrder_any v u js os w h ho)
  obtain ⟨q, hq⟩ : ∃ q, jobOrdB js os = q := ⟨_, rfl⟩
  have HQ := Lib.hid hq
  rw [hq] at HM ⊢
  clear hq
  obtain ⟨va, vc, rfl⟩ := h.shape
  obtain ⟨ua, uc, rfl⟩ := ho.shape
  cases q
  · clear h ho
    go_enter Try.func11, Try.ntmps11
    go_wp2_with (go_at_call 39; refine HM.out.mono ?_; rintro e w1 ⟨rfl, hb1⟩)
    go_ret2
    exact ⟨by rw [show wEnd js os = 0 by unfold wEnd; rw [HQ.out]; rfl]; rfl, hb1⟩
  · obtain ⟨hok, hl1, hl2, hl3, hl4⟩ := ord_facts HQ.out
    have HE := Lib.hid (fun X (hb : Below w.heap.size w X) => endsOf_ord _ _ js os X (h.up hb (Nat.le_refl _)) (ho.up hb (Nat.le_refl _)) HQ.out)
    have HR := Lib.hid h
    have HV := Lib.hid (show wEnd js os = wK js (endsL js os) js.length by unfold wEnd; rw [HQ.out]; rfl)
    have HJA := Lib.hid (jobs_any hok)
    have HER := Lib.hid (endsL_rng HQ.out)
    have HLE := Lib.hid (endsL_len js os)
    obtain ⟨es, hes⟩ : ∃ es, es = endsL js os := ⟨_, rfl⟩
    rw [← hes] at HE HV HER HLE
    have HKR := Lib.hid (fun k => wK_rng (js := js) (es := es) (fun i => (HJA.out i).2.2) HER.out k)
    obtain ⟨n, hn⟩ : ∃ n, n = js.length := ⟨_, rfl⟩
    have HN := Lib.hid hn.symm
    rw [← hn] at HV HR HLE HM HE hl2 hl3 ⊢
    clear h ho hok hl4 hes hl1 hn
    go_enter Try.func11, Try.ntmps11
    go_wp2_with (first | (go_at_call 39; refine HM.out.mono ?_; rintro e w1 ⟨rfl, hb1⟩) | (go_at_call 40; refine (HE.out w1 hb1).mono ?_; rintro e w2 ⟨v2, rfl, ho2, hb2⟩; obtain ⟨ea, ec, rfl⟩ := ho2.rd.shape))
    have HES := Lib.hid ho2.rd
    have HBE := Lib.hid (hb1.trans (hb2.mono hb1.size))
    rw [HLE.out] at HES ⊢
    clear ho2 hb2 hb1 HE HM
    go_loopw [6, 17] (fun av kv wr => ∃ k : Nat, kv = .int .i64 k ∧ k ≤ n ∧ av = .int .i64 (wK js es k) ∧ w2 = wr) (fun _ kv _ => n + 1 - (intOf kv).toNat)
    case atStart => exact ⟨0, rfl, Nat.zero_le _, rfl, rfl⟩
    case round =>
      obtain ⟨k, rfl, hk, rfl, rfl⟩ := hrel
      by_cases hkn : k < n
      · have hkI : (k : Int) < (n : Int) := by omega
        obtain ⟨eb, eo, rfl, _, ce⟩ := HES.out.at (i := k) (by rw [HLE.out]; exact hkn)
        obtain ⟨jb, jo, rfl, _, _, cj1, cj2, _⟩ := (HR.out.up HBE.out (Nat.le_refl _)).at (i := k) (by rw [HN.out]; exact hkn)
        have her := HER.out k
        have hja := HJA.out k
        have hkr := HKR.out k
        have hK : wK js es (k + 1) = wK js es k + (js.getD k J0).weight * es.getD k 0 := rfl
        obtain ⟨x, hx⟩ : ∃ x, x = es.getD k 0 := ⟨_, rfl⟩
        obtain ⟨g0, hg0⟩ : ∃ x, x = (js.getD k J0).weight := ⟨_, rfl⟩
        obtain ⟨d0, hd0⟩ : ∃ x, x = (js.getD k J0).due := ⟨_, rfl⟩
        rw [← hx] at ce her hK
        rw [← hg0] at cj2 hja
        rw [← hd0] at cj1 hja
        rw [← hg0] at hK
        have hpr := prod_rng (g := g0) (x := x) (by omega) (by omega)
        obtain ⟨p, hp⟩ : ∃ p, p = g0 * x := ⟨_, rfl⟩
        rw [← hp] at hK hpr
        have hmul : IntKind.i64.wrap (g0 * x) = p := by rw [← hp]; exact IntWalk.i64_in _ (by omega)
        obtain ⟨s, hs⟩ : ∃ s, s = wK js es k := ⟨_, rfl⟩
        rw [← hs] at hK hkr ⊢
        have hadd : IntKind.i64.wrap (s + p) = s + p := IntWalk.i64_in _ (by omega)
        have HK2 := Lib.hid hK
        clear hx hg0 hd0 hp hs hK her hja hkr
        go_wp2_with fail
        go_roundw
        case rel => exact ⟨k + 1, by go_num, by omega, by rw [HK2.out], by first | rfl | trivial⟩
        case measure => simp [intOf]; omega
      · obtain rfl : k = n := by omega
        go_wp2_with fail
        go_ret2
        exact ⟨by rw [HV.out]; rfl, HBE.out⟩

set_option maxHeartbeats 2000000 in
set_option maxRecDepth 4000 in
theorem cLate_any (v u : Value) (js : List JobD) (os : List Int) (w : World) (h : RdJ w v js) (ho : RdI w u os) :
    Calls Try.prog 13 #[v, u] w fun e w' => e = .returned (.tuple #[.int .i64 (cLate js os), .bool (jobOrdB js os)]) ∧ Below w.heap.size w w' := by
  have HM := Lib.hid (isJobOrder_any v u js os w h ho)
  obtain ⟨q, hq⟩ : ∃ q, jobOrdB js os = q := ⟨_, rfl⟩
  have HQ := Lib.hid hq
  rw [hq] at HM ⊢
  clear hq
  obtain ⟨va, vc, rfl⟩ := h.shape
  obtain ⟨ua, uc, rfl⟩ := ho.shape
  cases q
  · clear h ho
    go_enter Try.func13, Try.ntmps13
    go_wp2_with (go_at_call 39; refine HM.out.mono ?_; rintro e w1 ⟨rfl, hb1⟩)
    go_ret2
    exact ⟨by rw [show cLate js os = 0 by unfold cLate; rw [HQ.out]; rfl]; rfl, hb1⟩
  · obtain ⟨hok, hl1, hl2, hl3, hl4⟩ := ord_facts HQ.out
    have HE := Lib.hid (fun X (hb : Below w.heap.size w X) => endsOf_ord _ _ js os X (h.up hb (Nat.le_refl _)) (ho.up hb (Nat.le_refl _)) HQ.out)
    have HR := Lib.hid h
    have HV := Lib.hid (show cLate js os = clK js (endsL js os) js.length by unfold cLate; rw [HQ.out]; rfl)
    have HJA := Lib.hid (jobs_any hok)
    have HER := Lib.hid (endsL_rng HQ.out)
    have HLE := Lib.hid (endsL_len js os)
    obtain ⟨es, hes⟩ : ∃ es, es = endsL js os := ⟨_, rfl⟩
    rw [← hes] at HE HV HER HLE
    have HKR := Lib.hid (fun k => clK_rng js es k)
    obtain ⟨n, hn⟩ : ∃ n, n = js.length := ⟨_, rfl⟩
    have HN := Lib.hid hn.symm
    rw [← hn] at HV HR HLE HM HE hl2 hl3 ⊢
    clear h ho hok hl4 hes hl1 hn
    go_enter Try.func13, Try.ntmps13
    go_wp2_with (first | (go_at_call 39; refine HM.out.mono ?_; rintro e w1 ⟨rfl, hb1⟩) | (go_at_call 40; refine (HE.out w1 hb1).mono ?_; rintro e w2 ⟨v2, rfl, ho2, hb2⟩; obtain ⟨ea, ec, rfl⟩ := ho2.rd.shape))
    have HES := Lib.hid ho2.rd
    have HBE := Lib.hid (hb1.trans (hb2.mono hb1.size))
    rw [HLE.out] at HES ⊢
    clear ho2 hb2 hb1 HE HM
    go_loopw [6, 17] (fun av kv wr => ∃ k : Nat, kv = .int .i64 k ∧ k ≤ n ∧ av = .int .i64 (clK js es k) ∧ w2 = wr) (fun _ kv _ => n + 1 - (intOf kv).toNat)
    case atStart => exact ⟨0, rfl, Nat.zero_le _, rfl, rfl⟩
    case round =>
      obtain ⟨k, rfl, hk, rfl, rfl⟩ := hrel
      by_cases hkn : k < n
      · have hkI : (k : Int) < (n : Int) := by omega
        obtain ⟨eb, eo, rfl, _, ce⟩ := HES.out.at (i := k) (by rw [HLE.out]; exact hkn)
        obtain ⟨jb, jo, rfl, _, _, cj1, cj2, _⟩ := (HR.out.up HBE.out (Nat.le_refl _)).at (i := k) (by rw [HN.out]; exact hkn)
        have her := HER.out k
        have hja := HJA.out k
        have hkr := HKR.out k
        have hK : clK js es (k + 1) = if (js.getD k J0).due < es.getD k 0 then clK js es k + 1 else clK js es k := rfl
        obtain ⟨x, hx⟩ : ∃ x, x = es.getD k 0 := ⟨_, rfl⟩
        obtain ⟨g0, hg0⟩ : ∃ x, x = (js.getD k J0).weight := ⟨_, rfl⟩
        obtain ⟨d0, hd0⟩ : ∃ x, x = (js.getD k J0).due := ⟨_, rfl⟩
        rw [← hx] at ce her hK
        rw [← hg0] at cj2 hja
        rw [← hd0] at cj1 hja
        rw [← hd0] at hK
        obtain ⟨s, hs⟩ : ∃ s, s = clK js es k := ⟨_, rfl⟩
        rw [← hs] at hK hkr ⊢
        have hadd : IntKind.i64.wrap (s + 1) = s + 1 := IntWalk.i64_in _ (by omega)
        by_cases hc : d0 < x
        · have HK2 := Lib.hid (show clK js es (k + 1) = s + 1 by rw [hK, if_pos hc])
          clear hx hg0 hd0 hs hK her hja hkr
          go_wp2_with fail
          go_roundw
          case rel => exact ⟨k + 1, by go_num, by omega, by rw [HK2.out], by first | rfl | trivial⟩
          case measure => simp [intOf]; omega
        · have HK2 := Lib.hid (show clK js es (k + 1) = s by rw [hK, if_neg hc])
          clear hx hg0 hd0 hs hK her hja hkr
          go_wp2_with fail
          go_roundw
          case rel => exact ⟨k + 1, by go_num, by omega, by rw [HK2.out], by first | rfl | trivial⟩
          case measure => simp [intOf]; omega
      · obtain rfl : k = n := by omega
        go_wp2_with fail
        go_ret2
        exact ⟨by rw [HV.out]; rfl, HBE.out⟩

set_option maxHeartbeats 2000000 in
set_option maxRecDepth 4000 in
theorem mLate_any (v u : Value) (js : List JobD) (os : List Int) (w : World) (h : RdJ w v js) (ho : RdI w u os) :
    Calls Try.prog 12 #[v, u] w fun e w' => e = .returned (.tuple #[.int .i64 (mLate js os), .bool (jobOrdB js os)]) ∧ Below w.heap.size w w' := by
  have HM := Lib.hid (isJobOrder_any v u js os w h ho)
  obtain ⟨q, hq⟩ : ∃ q, jobOrdB js os = q := ⟨_, rfl⟩
  have HQ := Lib.hid hq
  rw [hq] at HM ⊢
  clear hq
  obtain ⟨va, vc, rfl⟩ := h.shape
  obtain ⟨ua, uc, rfl⟩ := ho.shape
  cases q
  · clear h ho
    go_enter Try.func12, Try.ntmps12
    go_wp2_with (go_at_call 39; refine HM.out.mono ?_; rintro e w1 ⟨rfl, hb1⟩)
    go_ret2
    exact ⟨by rw [show mLate js os = 0 by unfold mLate; rw [HQ.out]; rfl]; rfl, hb1⟩
  · obtain ⟨hok, hl1, hl2, hl3, hl4⟩ := ord_facts HQ.out
    have HE := Lib.hid (fun X (hb : Below w.heap.size w X) => endsOf_ord _ _ js os X (h.up hb (Nat.le_refl _)) (ho.up hb (Nat.le_refl _)) HQ.out)
    have HR := Lib.hid h
    have HV := Lib.hid (show mLate js os = mlK js (endsL js os) js.length by unfold mLate; rw [HQ.out]; rfl)
    have HJA := Lib.hid (jobs_any hok)
    have HER := Lib.hid (endsL_rng HQ.out)
    have HLE := Lib.hid (endsL_len js os)
    obtain ⟨es, hes⟩ : ∃ es, es = endsL js os := ⟨_, rfl⟩
    rw [← hes] at HE HV HER HLE
    have HKR := Lib.hid (fun (k : Nat) => Nat.zero_le k)
    obtain ⟨n, hn⟩ : ∃ n, n = js.length := ⟨_, rfl⟩
    have HN := Lib.hid hn.symm
    rw [← hn] at HV HR HLE HM HE hl2 hl3 ⊢
    clear h ho hok hl4 hes hl1 hn
    go_enter Try.func12, Try.ntmps12
    go_upto_region 4 with (first | (go_at_call 39; refine HM.out.mono ?_; rintro e w1 ⟨rfl, hb1⟩) | (go_at_call 40; refine (HE.out w1 hb1).mono ?_; rintro e w2 ⟨v2, rfl, ho2, hb2⟩; obtain ⟨ea, ec, rfl⟩ := ho2.rd.shape))
    have HES := Lib.hid ho2.rd
    have HBE := Lib.hid (hb1.trans (hb2.mono hb1.size))
    rw [HLE.out] at HES ⊢
    clear ho2 hb2 hb1 HE HM
    obtain ⟨eb0, eo0, rfl, _, ce0⟩ := HES.out.at (i := 0) (by rw [HLE.out]; omega)
    obtain ⟨jb0, jo0, rfl, _, _, cj0, _, _⟩ := (HR.out.up HBE.out (Nat.le_refl _)).at (i := 0) (by rw [HN.out]; omega)
    have her0 := HER.out 0
    have hja0 := HJA.out 0
    have hK0 : mlK js es 0 = es.getD 0 0 - (js.getD 0 J0).due := rfl
    obtain ⟨x0, hx0⟩ : ∃ x, x = es.getD 0 0 := ⟨_, rfl⟩
    obtain ⟨d0, hd0⟩ : ∃ x, x = (js.getD 0 J0).due := ⟨_, rfl⟩
    rw [← hx0, Nat.add_zero] at ce0
    rw [← hd0] at cj0
    rw [← hx0] at her0 hK0
    rw [← hd0] at hja0 hK0
    have hsub0 : IntKind.i64.wrap (x0 - d0) = x0 - d0 := IntWalk.i64_in _ (by omega)
    have hn0I : (0 : Int) < (n : Int) := by omega
    simp only [Nat.zero_mul, Nat.add_zero] at cj0
    have HK0 := Lib.hid hK0
    clear hx0 hd0 hK0 her0 hja0
    go_wp2_with fail
    go_quiet (fail)
    go_wp2_with fail
    rw [← HK0.out]
    obtain ⟨wq, hwq⟩ : ∃ wq, wq = w2.drewN nq := ⟨_, rfl⟩
    rw [← hwq]
    have HES := Lib.hid (show RdI wq _ es by rw [hwq]; exact HES.out.drewN nq)
    have HBE := Lib.hid (show Below w.heap.size w wq by rw [hwq]; exact below_drewN HBE.out nq)
    clear hwq ce0 cj0
    go_loopw [7, 27] (fun av kv wr => ∃ k : Nat, kv = .int .i64 k ∧ k ≤ n ∧ av = .int .i64 (mlK js es k) ∧ wq = wr) (fun _ kv _ => n + 1 - (intOf kv).toNat)
    case atStart => exact ⟨0, rfl, Nat.zero_le _, rfl, rfl⟩
    case round =>
      obtain ⟨k, rfl, hk, rfl, rfl⟩ := hrel
      by_cases hkn : k < n
      · have hkI : (k : Int) < (n : Int) := by omega
        obtain ⟨eb, eo, ee, _, ce⟩ := HES.out.at (i := k) (by rw [HLE.out]; exact hkn)
        simp only [Option.some.injEq, Addr.mk.injEq, and_true] at ee
        obtain ⟨rfl, rfl⟩ := ee
        obtain ⟨jb, jo, ej, _, _, cj1, cj2, _⟩ := (HR.out.up HBE.out (Nat.le_refl _)).at (i := k) (by rw [HN.out]; exact hkn)
        simp only [Option.some.injEq, Addr.mk.injEq, and_true] at ej
        obtain ⟨rfl, rfl⟩ := ej
        have her := HER.out k
        have hja := HJA.out k
        have hkr := HKR.out k
        have hK : mlK js es (k + 1) = max (mlK js es k) (es.getD k 0 - (js.getD k J0).due) := rfl
        obtain ⟨x, hx⟩ : ∃ x, x = es.getD k 0 := ⟨_, rfl⟩
        obtain ⟨g0, hg0⟩ : ∃ x, x = (js.getD k J0).weight := ⟨_, rfl⟩
        obtain ⟨d0, hd0⟩ : ∃ x, x = (js.getD k J0).due := ⟨_, rfl⟩
        rw [← hx] at ce her hK
        rw [← hg0] at cj2 hja
        rw [← hd0] at cj1 hja
        rw [← hd0] at hK
        obtain ⟨s, hs⟩ : ∃ s, s = mlK js es k := ⟨_, rfl⟩
        rw [← hs] at hK ⊢
        have hsub : IntKind.i64.wrap (x - d0) = x - d0 := IntWalk.i64_in _ (by omega)
        have HK2 := Lib.hid hK
        clear hx hg0 hd0 hs hK her hja hkr
        go_wp2_with fail
        go_roundw
        case rel => exact ⟨k + 1, by go_num, by omega, by rw [HK2.out], by first | rfl | trivial⟩
        case measure => simp [intOf]; omega
      · obtain rfl : k = n := by omega
        go_wp2_with fail
        go_ret2
        exact ⟨by rw [HV.out]; rfl, HBE.out⟩

end Go.Proofs.Ytfdaifmfecfchaa

namespace Go.Proofs.Ytfdaifmfecfchaa
open Go.RowKit

set_option maxHeartbeats 2000000 in
set_option maxRecDepth 4000 in
theorem headsI_any (v : Value) (js : List JobD) (w : World) (h : RdJ w v js) :
    Calls Try.prog 18 #[v] w fun e w' => e = .returned (.tuple #[.int .i64 (headsN js), .bool (areJobsB js)]) ∧ Below w.heap.size w w' := by
  obtain ⟨va, vc, rfl⟩ := h.shape
  have HA := Lib.hid (AreJobs_any _ js w h)
  have HR := Lib.hid h
  obtain ⟨q, hq⟩ : ∃ q, areJobsB js = q := ⟨_, rfl⟩
  rw [hq] at HA ⊢
  have HQ := Lib.hid hq
  clear hq h
  go_enter Try.func18, Try.ntmps18
  cases q
  · go_wp2_with (go_at_call 41; refine HA.out.mono ?_; rintro e w0 ⟨rfl, hb0⟩)
    go_ret2
    exact ⟨by rw [show headsN js = 0 by unfold headsN; rw [HQ.out]; rfl]; rfl, hb0⟩
  obtain ⟨hn1, hn2, hjf⟩ := jobs_all HQ.out
  have HJ := Lib.hid hjf
  have HRG := Lib.hid (fun r m hm => headK_rng (js := js) (fun i hi => by have := hjf i hi; omega) r m hm)
  have HE := Lib.hid (show headsN js = headsK js js.length by unfold headsN; rw [HQ.out]; rfl)
  have HS := Lib.hid (fun j => show headsK js (j + 1) = max (headsK js j) (headK js (js.getD j J0).ready js.length) from rfl)
  have HK := Lib.hid (fun r m => show headK js r (m + 1) = if r ≤ (js.getD m J0).ready then headK js r m + (js.getD m J0).long else headK js r m from rfl)
  have HS0 := Lib.hid (show headsK js 0 = 0 from rfl)
  have HK0 := Lib.hid (fun r => show headK js r 0 = r from rfl)
  clear hjf HQ
  obtain ⟨n, hn⟩ : ∃ n, n = js.length := ⟨_, rfl⟩
  have HN := Lib.hid hn.symm
  rw [← hn] at HJ HRG HE HS HA HR hn1 hn2 ⊢
  clear hn
  obtain ⟨T, hT⟩ : ∃ T, T = headsK js := ⟨_, rfl⟩
  obtain ⟨U, hU⟩ : ∃ U, U = headK js := ⟨_, rfl⟩
  rw [← hT] at HE HS HS0
  rw [← hU] at HS HK HK0 HRG
  clear hT hU
  go_wp2_with (go_at_call 41; refine HA.out.mono ?_; rintro e w0 ⟨rfl, hb0⟩)
  have HB0 := Lib.hid hb0
  have hz0 := HB0.out.size
  clear hb0 HA
  go_loopw [4, 15] (fun bv jv wr => ∃ j : Nat, jv = .int .i64 j ∧ j ≤ n ∧ bv = .int .i64 (T j) ∧ Hid (Below w.heap.size w wr)) (fun _ jv _ => n + 1 - (intOf jv).toNat)
  case atStart => exact ⟨0, rfl, Nat.zero_le _, by rw [HS0.out], HB0⟩
  case round =>
    obtain ⟨j, rfl, hj, rfl, HB⟩ := hrel
    obtain ⟨wo, rfl⟩ : ∃ wo, wo = wr := ⟨wr, rfl⟩
    by_cases hlt : j < n
    · have hltI : (j : Int) < (n : Int) := by omega
      obtain ⟨jb, jo, rfl, _, c0, c1, c2, c3⟩ := (HR.out.up HB.out (Nat.le_refl _)).at (i := j) (by rw [HN.out]; exact hlt)
      have hjr := HJ.out j hlt
      have hS := HS.out j
      obtain ⟨r, hr⟩ : ∃ r, r = (js.getD j J0).ready := ⟨_, rfl⟩
      rw [← hr] at c3 hjr hS
      have HSJ := Lib.hid hS
      obtain ⟨l0, hl0⟩ : ∃ r, r = (js.getD j J0).long := ⟨_, rfl⟩
      obtain ⟨d0, hd0⟩ : ∃ r, r = (js.getD j J0).due := ⟨_, rfl⟩
      obtain ⟨g0, hg0⟩ : ∃ r, r = (js.getD j J0).weight := ⟨_, rfl⟩
      rw [← hl0] at c0
      rw [← hd0] at c1
      rw [← hg0] at c2
      have hr0 : 0 ≤ r ∧ r ≤ 100000 := by omega
      clear hr hl0 hd0 hg0 hS hjr
      go_upto_region 7 with fail
      refine wp_at fun w1 hw1 => ?_
      obtain ⟨p, hp⟩ : ∃ p, p = wo.heap.size := ⟨_, rfl⟩
      have HP1 := Lib.hid (show Blk w1 p 39 #[.int .i64 l0, .int .i64 d0, .int .i64 g0, .int .i64 r] by subst hw1 hp; exact Blk.new _ _ _)
      have HB1 := Lib.hid (show Below w.heap.size w w1 by subst hw1; exact HB.out.alloc HB.out.size _)
      rw [← hp]
      clear hw1 hp c0 c1 c2 c3
      have e3 := HP1.out.cell 3 rfl
      go_wp2_with fail
      go_loopw [7, 23] (fun ev kv wr => ∃ k : Nat, kv = .int .i64 k ∧ k ≤ n ∧ ev = .int .i64 (U r k) ∧ Hid (Below w1.heap.size w1 wr)) (fun _ kv _ => n + 1 - (intOf kv).toNat)
      case atStart => exact ⟨0, rfl, Nat.zero_le _, by rw [HK0.out], Lib.hid (Below.refl _ _)⟩
      case round =>
        obtain ⟨k, rfl, hk, rfl, HBk⟩ := hrel
        obtain ⟨wk, rfl⟩ : ∃ wk, wk = wr := ⟨wr, rfl⟩
        have HBW := Lib.hid (HB1.out.trans (HBk.out.mono HB1.out.size))
        have HPk := Lib.hid (HP1.out.below HBk.out HP1.out.lt)
        have hU := HRG.out r k hk
        by_cases hkn : k < n
        · have hkI : (k : Int) < (n : Int) := by omega
          obtain ⟨jb2, jo2, ee, _, c0, c1, c2, c3⟩ := (HR.out.up HBW.out (Nat.le_refl _)).at (i := k) (by rw [HN.out]; exact hkn)
          simp only [Option.some.injEq, Addr.mk.injEq, and_true] at ee
          obtain ⟨rfl, rfl⟩ := ee
          have hjr := HJ.out k hkn
          have hS := HK.out r k
          obtain ⟨r2, hr2⟩ : ∃ r, r = (js.getD k J0).ready := ⟨_, rfl⟩
          obtain ⟨l2, hl2⟩ : ∃ r, r = (js.getD k J0).long := ⟨_, rfl⟩
          obtain ⟨d2, hd2⟩ : ∃ r, r = (js.getD k J0).due := ⟨_, rfl⟩
          obtain ⟨g2, hg2⟩ : ∃ r, r = (js.getD k J0).weight := ⟨_, rfl⟩
          rw [← hr2] at c3 hS
          rw [← hl2] at c0 hjr hS
          rw [← hd2] at c1
          rw [← hg2] at c2
          have hl : 1 ≤ l2 ∧ l2 ≤ 1000 := by omega
          clear hr2 hl2 hd2 hg2 hjr
          obtain ⟨u, hu⟩ : ∃ u, u = U r k := ⟨_, rfl⟩
          rw [← hu] at hS hU ⊢
          have hadd : IntKind.i64.wrap (u + l2) = u + l2 := IntWalk.i64_in _ (by omega)
          clear hu
          go_upto_region 11 with fail
          refine wp_at fun w2 hw2 => ?_
          obtain ⟨p2, hp2⟩ : ∃ p, p = wk.heap.size := ⟨_, rfl⟩
          have HP2 := Lib.hid (show Blk w2 p2 39 #[.int .i64 l2, .int .i64 d2, .int .i64 g2, .int .i64 r2] by subst hw2 hp2; exact Blk.new _ _ _)
          have HB2 := Lib.hid (show Below w1.heap.size w1 w2 by subst hw2; exact HBk.out.alloc HBk.out.size _)
          have HPp := Lib.hid (HP1.out.below HB2.out HP1.out.lt)
          rw [← hp2]
          clear hw2 hp2 c0 c1 c2 c3 e3
          have e3 := HPp.out.cell 3 rfl
          have f3 := HP2.out.cell 3 rfl
          have f0 := HP2.out.cell 0 rfl
          by_cases hge : r ≤ r2
          · have HS2 := Lib.hid (show U r (k + 1) = u + l2 by rw [hS, if_pos hge])
            clear hS
            go_wp2_with fail
            go_roundw
            case rel => exact ⟨k + 1, by go_num, by omega, by rw [HS2.out], HB2⟩
            case measure => simp [intOf]; omega
          · have HS2 := Lib.hid (show U r (k + 1) = u by rw [hS, if_neg hge])
            clear hS
            go_wp2_with fail
            go_roundw
            case rel => exact ⟨k + 1, by go_num, by omega, by rw [HS2.out], HB2⟩
            case measure => simp [intOf]; omega
        · obtain rfl : k = n := by omega
          go_wp2_with fail
          go_roundw
          case rel => exact ⟨j + 1, by go_num, by omega, by rw [HSJ.out], HBW⟩
          case measure => simp [intOf]; omega
    · obtain rfl : j = n := by omega
      go_wp2_with fail
      go_ret2
      exact ⟨by rw [HE.out]; rfl, HB.out⟩

end Go.Proofs.Ytfdaifmfecfchaa

namespace Go.Proofs.Ytfdaifmfecfchaa
open Go.RowKit Go.Sort

def dueF (js : List JobD) (x : Nat) : Int := (js.getD x J0).due
def wgtF (js : List JobD) (x : Nat) : Int := (js.getD x J0).weight
theorem take_snoc {L : List Nat} {k : Nat} (h : k < L.length) : L.take (k + 1) = L.take k ++ [L.getD k 0] := by
  rw [List.take_add_one, List.getElem?_eq_getElem h, List.getD_eq_getElem?_getD, List.getElem?_eq_getElem h]
  rfl
theorem idxs_getD (L : List Nat) (k : Nat) : ((idxs L).getD k 0).toNat = L.getD k 0 := by
  unfold idxs
  rw [List.getD_eq_getElem?_getD, List.getElem?_map, List.getD_eq_getElem?_getD]
  cases L[k]? <;> simp
theorem endS_at {js : List JobD} {L : List Nat} (hn : L.Nodup) (hlt : ∀ x ∈ L, x < js.length) : ∀ k, k ≤ L.length → (endS js (idxs L) k).2 = sumF (longK js) (L.take k) ∧ ∀ x ∈ L.take k, (endS js (idxs L) k).1.getD x 0 = cEnd (longK js) L x
  | 0, _ => by simp [endS, sumF]
  | k + 1, hk => by
    obtain ⟨i1, i2⟩ := endS_at hn hlt k (by omega)
    have hkl : k < L.length := by omega
    have hs := split_at hkl
    have hy : L.getD k 0 ∉ L.take k := fun h => by
      have h1 := hn
      rw [hs] at h1
      exact (List.nodup_append.1 h1).2.2 _ h _ (List.mem_cons_self ..) rfl
    have hc := cEnd_mid (longK js) (L.getD k 0) (L.drop (k + 1)) (L.take k) hy
    rw [← hs] at hc
    have hlen := endS_len js (idxs L) k
    have hyl := hlt _ (getD_in hkl)
    simp only [endS, idxs_getD]
    rw [take_snoc hkl, sumF_app, i1]
    refine ⟨by simp [sumF, longK], fun x hx => ?_⟩
    rcases List.mem_append.1 hx with h | h
    · have hne : L.getD k 0 ≠ x := fun e => hy (e ▸ h)
      rw [List.getD_eq_getElem?_getD, List.getElem?_set_ne hne, ← List.getD_eq_getElem?_getD]
      exact i2 x h
    · rw [List.mem_singleton.1 h, hc]
      rw [List.getD_eq_getElem?_getD, List.getElem?_set_self (by omega)]
      rfl
theorem ends_cEnd {js : List JobD} {L : List Nat} (hp : L.Perm (List.range js.length)) (i : Nat) (hi : i < js.length) : (endsL js (idxs L)).getD i 0 = cEnd (longK js) L i := by
  have h := endS_at (js := js) (hp.nodup_iff.2 List.nodup_range) (fun x hx => List.mem_range.1 (hp.mem_iff.1 hx)) L.length (Nat.le_refl _)
  unfold endsL
  rw [show (idxs L).length = L.length by simp [idxs]]
  refine h.2 i ?_
  rw [List.take_of_length_le (Nat.le_refl _)]
  exact hp.mem_iff.2 (List.mem_range.2 hi)

/-! ### the loops' sums -/
theorem wK_sum (js : List JobD) (es : List Int) : ∀ k, wK js es k = sumF (fun i => wgtF js i * es.getD i 0) (List.range k)
  | 0 => rfl
  | k + 1 => by rw [sumF_range_succ, ← wK_sum js es k]; rfl
theorem clK_sum (js : List JobD) (es : List Int) : ∀ k, clK js es k = sumF (fun i => if dueF js i < es.getD i 0 then 1 else 0) (List.range k)
  | 0 => rfl
  | k + 1 => by
    rw [sumF_range_succ, ← clK_sum js es k]
    show (if (js.getD k J0).due < es.getD k 0 then clK js es k + 1 else clK js es k) = clK js es k + if (js.getD k J0).due < es.getD k 0 then 1 else 0
    split <;> omega
def owK (js : List JobD) (es : List Int) : Nat → Int
  | 0 => 0
  | k + 1 => owK js es k + (js.getD k J0).weight * max 0 (es.getD k 0 - (js.getD k J0).due)
theorem owK_sum (js : List JobD) (es : List Int) : ∀ k, owK js es k = sumF (fun i => wgtF js i * max 0 (es.getD i 0 - dueF js i)) (List.range k)
  | 0 => rfl
  | k + 1 => by rw [sumF_range_succ, ← owK_sum js es k]; rfl
theorem mlK_ge (js : List JobD) (es : List Int) : ∀ k i, i < k → es.getD i 0 - dueF js i ≤ mlK js es k
  | 0, i, h => by omega
  | k + 1, i, h => by
    simp only [mlK]
    by_cases e : i = k
    · subst e; unfold dueF; omega
    · have := mlK_ge js es k i (by omega)
      omega
theorem mlK_le {js : List JobD} {es : List Int} {M : Int} (h0 : es.getD 0 0 - dueF js 0 ≤ M) : ∀ k, (∀ i, i < k → es.getD i 0 - dueF js i ≤ M) → mlK js es k ≤ M
  | 0, _ => h0
  | k + 1, h => by
    have := mlK_le h0 k (fun i hi => h i (by omega))
    have := h k (by omega)
    simp only [mlK]
    unfold dueF at this
    omega
/-- A sum over all jobs by their ends is what the order costs. -/
theorem sum_gcost {js : List JobD} {L : List Nat} (hp : L.Perm (List.range js.length)) (p : Nat → Int → Int) : sumF (fun i => p i ((endsL js (idxs L)).getD i 0)) (List.range js.length) = gcost (longK js) p 0 L := by
  rw [gcost_cEnd (longK js) p 0 L (hp.nodup_iff.2 List.nodup_range), sumF_perm _ hp]
  refine sumF_congr fun x hx => ?_
  rw [ends_cEnd hp x (List.mem_range.1 hx), Int.zero_add]
theorem wK_cost {js : List JobD} {L : List Nat} (hp : L.Perm (List.range js.length)) : wK js (endsL js (idxs L)) js.length = gcost (longK js) (fun x c => wgtF js x * c) 0 L := by
  rw [wK_sum]
  exact sum_gcost hp fun i c => wgtF js i * c
def lateP (js : List JobD) (x : Nat) (c : Int) : Int := wgtF js x * max 0 (c - dueF js x)
theorem owK_cost {js : List JobD} {L : List Nat} (hp : L.Perm (List.range js.length)) : owK js (endsL js (idxs L)) js.length = gcost (longK js) (lateP js) 0 L := by
  rw [owK_sum]
  exact sum_gcost hp (lateP js)
theorem clK_late {js : List JobD} {L : List Nat} (hp : L.Perm (List.range js.length)) : clK js (endsL js (idxs L)) js.length + ((L.filter fun x => decide (cEnd (longK js) L x ≤ dueF js x)).length : Int) = js.length := by
  rw [clK_sum, ← sumF_perm _ hp]
  have e : sumF (fun i => if dueF js i < (endsL js (idxs L)).getD i 0 then 1 else 0) L = sumF (fun i => if dueF js i < cEnd (longK js) L i then 1 else 0) L :=
    sumF_congr fun x hx => by rw [ends_cEnd hp x (List.mem_range.1 (hp.mem_iff.1 hx))]
  rw [e, late_count, hp.length_eq, List.length_range]
theorem ordJob {js : List JobD} {L : List Nat} (hj : areJobsB js = true) (hp : L.Perm (List.range js.length)) : jobOrdB js (idxs L) = true := by
  unfold jobOrdB ordB
  have hl : (idxs L).length = js.length := by rw [show (idxs L).length = L.length by simp [idxs], hp.length_eq, List.length_range]
  have hn : L.Nodup := hp.nodup_iff.2 List.nodup_range
  have hat : ∀ i, i < L.length → (idxs L).getD i 0 = (L.getD i 0 : Nat) := fun i hi => by
    unfold idxs
    rw [List.getD_eq_getElem?_getD, List.getElem?_map, List.getD_eq_getElem?_getD, List.getElem?_eq_getElem hi]
    rfl
  have hlL : (idxs L).length = L.length := by simp [idxs]
  rw [hj, Bool.true_and, Bool.and_eq_true, Bool.and_eq_true, beq_iff_eq]
  refine ⟨by omega, (allIn_iff _ _ _).2 fun i hi => ?_, allB_iff.2 fun i hi => ?_⟩
  · rw [hat i (by omega), inB_iff]
    have := List.mem_range.1 (hp.mem_iff.1 (getD_in (show i < L.length by omega)))
    omega
  · rw [hat i (by omega), Bool.not_eq_true', Bool.eq_false_iff]
    intro hh
    have hm : ((L.getD i 0 : Nat) : Int) ∈ (idxs L).take i := by
      unfold hasB at hh
      simpa using hh
    unfold idxs at hm
    rw [← List.map_take] at hm
    obtain ⟨y, hy, e⟩ := List.mem_map.1 hm
    have hs := split_at (L := L) (i := i) (by omega)
    have h1 := hn
    rw [hs] at h1
    exact (List.nodup_append.1 h1).2.2 _ hy _ (List.mem_cons_self ..) (by omega)

/-! ### the orders that are found -/
theorem smith_best {js : List JobD} (hj : areJobsB js = true) {L : List Nat} (hp : L.Perm (List.range js.length)) :
    gcost (longK js) (fun x c => wgtF js x * c) 0 (ordC (smithC js) js.length) ≤ gcost (longK js) (fun x c => wgtF js x * c) 0 L := by
  have hD := ordC_perm (swo_smith hj) js.length
  have hS := ordC_sorted (swo_smith hj) js.length
  have hpp : (ordC (smithC js) js.length).Perm L := hD.trans hp.symm
  rw [gcost_w, gcost_w, sumF_perm _ hpp, sumF_perm _ hpp]
  have h := pair_best (g := fun x y => longK js x * wgtF js y) hpp (by
    refine (List.Pairwise.imp_of_mem ?_ hS)
    intro x y hx hy h
    have hx' := List.mem_range.1 (hD.mem_iff.1 hx)
    have hy' := List.mem_range.1 (hD.mem_iff.1 hy)
    have h2 : ¬ decide (smithC js y x < 0) = true := by simpa using h
    unfold smithC at h2
    rw [cmpI_neg] at h2
    unfold wgtJ longJ at h2
    rw [Nat.mod_eq_of_lt hx', Nat.mod_eq_of_lt hy'] at h2
    simp only [decide_eq_true_eq, Int.not_lt] at h2
    unfold longK wgtF
    rw [Int.mul_comm, Int.mul_comm (js.getD y J0).long]
    exact h2)
  omega
theorem ordL_sorted (key : Nat → Int) (n : Nat) : (ordL key n).Pairwise fun x y => key x ≤ key y := by
  have h : SortedIn (ltK key) 0 n (ordA key n) := (insertionSort_holds (swo_ltK key) (Array.range n) 0 n (Nat.zero_le _) (by simp)).2
  have hsz := ordA_size key n
  unfold ordL
  rw [List.pairwise_iff_getElem]
  intro i j hi hj hij
  have h1 := h i j (Nat.zero_le _) hij (by rw [Array.length_toList] at hj; omega)
  rw [Array.length_toList] at hi hj
  rw [getElem!_pos (ordA key n) j hj, getElem!_pos (ordA key n) i hi] at h1
  rw [Array.getElem_toList, Array.getElem_toList]
  unfold ltK at h1
  simpa using h1
theorem ordJ_sorted (js : List JobD) : (ordJ js).Pairwise fun x y => dueF js x ≤ dueF js y := by
  refine List.Pairwise.imp_of_mem ?_ (ordL_sorted (dueK js) js.length)
  intro x y hx hy h
  have hx' := ordL_lt _ _ x hx
  have hy' := ordL_lt _ _ y hy
  unfold dueK at h
  rw [Nat.mod_eq_of_lt hx', Nat.mod_eq_of_lt hy'] at h
  exact h
theorem due_late {js : List JobD} (hj : areJobsB js = true) {L : List Nat} (hp : L.Perm (List.range js.length)) : mlK js (endsL js (idxs (ordJ js))) js.length ≤ mlK js (endsL js (idxs L)) js.length := by
  obtain ⟨h1, _, h3⟩ := areJobs_facts hj
  have hD : (ordJ js).Perm (List.range js.length) := ordL_perm _ _
  have key : ∀ i, i < js.length → (endsL js (idxs (ordJ js))).getD i 0 - dueF js i ≤ mlK js (endsL js (idxs L)) js.length := fun i hi => by
    obtain ⟨x, hx, hle⟩ := due_best (l := longK js) (d := dueF js) (hD.trans hp.symm) (hp.nodup_iff.2 List.nodup_range) (fun x hx => by have := h3 x (List.mem_range.1 (hp.mem_iff.1 hx)); omega) (ordJ_sorted js) i (hD.mem_iff.2 (List.mem_range.2 hi))
    have hx' := List.mem_range.1 (hp.mem_iff.1 hx)
    have h4 := mlK_ge js (endsL js (idxs L)) js.length x hx'
    rw [ends_cEnd hD i hi]
    rw [ends_cEnd hp x hx'] at h4
    omega
  exact mlK_le (key 0 (by omega)) js.length key

/-! ### heads -/
theorem headK_min {js : List JobD} {r : Int} : ∀ m, (∀ i, i < m → r ≤ (js.getD i J0).ready) → headK js r m = r + sumF (longK js) (List.range m)
  | 0, _ => by simp [headK, sumF]
  | m + 1, h => by
    simp only [headK]
    rw [if_pos (h m (by omega)), headK_min m (fun i hi => h i (by omega)), sumF_range_succ]
    unfold longK
    omega
theorem headsK_ge (js : List JobD) : ∀ k i, i < k → headK js (js.getD i J0).ready js.length ≤ headsK js k
  | 0, i, h => by omega
  | k + 1, i, h => by
    simp only [headsK]
    by_cases e : i = k
    · subst e; omega
    · have := headsK_ge js k i (by omega)
      omega
theorem headK_own {js : List JobD} (hl : ∀ i, i < js.length → 0 ≤ longK js i) {r : Int} {j : Nat} : ∀ m, j < m → m ≤ js.length → r ≤ (js.getD j J0).ready → r + longK js j ≤ headK js r m
  | 0, h, _, _ => by omega
  | m + 1, h, hm, hr => by
    have h0 := hl m (by omega)
    unfold longK at h0
    have hge : ∀ k, k ≤ js.length → r ≤ headK js r k := fun k => by
      induction k with
      | zero => intro _; exact Int.le_refl _
      | succ k ih =>
        intro hk
        have a := ih (by omega)
        have b := hl k (by omega)
        unfold longK at b
        simp only [headK]
        split <;> omega
    simp only [headK]
    by_cases e : j = m
    · subst e
      rw [if_pos hr]
      have := hge j (by omega)
      unfold longK
      omega
    · have := headK_own hl (j := j) (r := r) m (by omega) (by omega) hr
      split <;> omega
theorem least_ready (f : Nat → Int) : ∀ n, 1 ≤ n → ∃ j, j < n ∧ ∀ i, i < n → f j ≤ f i
  | 0, h => by omega
  | 1, _ => ⟨0, by omega, fun i hi => by rw [show i = 0 by omega]; exact Int.le_refl _⟩
  | n + 2, _ => by
    obtain ⟨j, hj, h⟩ := least_ready f (n + 1) (by omega)
    by_cases c : f j ≤ f (n + 1)
    · refine ⟨j, by omega, fun i hi => ?_⟩
      by_cases e : i = n + 1
      · rw [e]; exact c
      · exact h i (by omega)
    · refine ⟨n + 1, by omega, fun i hi => ?_⟩
      by_cases e : i = n + 1
      · rw [e]; exact Int.le_refl _
      · have := h i (by omega); omega
def mostK (js : List JobD) : Nat → Int
  | 0 => 0
  | k + 1 => max (mostK js k) ((js.getD k J0).ready + (js.getD k J0).long)
def sumK (js : List JobD) : Nat → Int
  | 0 => 0
  | k + 1 => sumK js k + (js.getD k J0).long
theorem sumK_sum (js : List JobD) : ∀ k, sumK js k = sumF (longK js) (List.range k)
  | 0 => rfl
  | k + 1 => by rw [sumF_range_succ, ← sumK_sum js k]; rfl
theorem heads_sum {js : List JobD} (hj : areJobsB js = true) : sumK js js.length ≤ headsK js js.length := by
  obtain ⟨h1, h2, h3⟩ := jobs_all hj
  obtain ⟨j, hj1, hj2⟩ := least_ready (fun i => (js.getD i J0).ready) js.length h1
  have := headsK_ge js js.length j hj1
  rw [headK_min js.length hj2] at this
  have := (h3 j hj1).2.2.1
  rw [sumK_sum]
  omega
theorem heads_most {js : List JobD} (hj : areJobsB js = true) : mostK js js.length ≤ headsK js js.length := by
  obtain ⟨h1, h2, h3⟩ := jobs_all hj
  have hge : ∀ k, 0 ≤ headsK js k := fun k => by
    induction k with
    | zero => exact Int.le_refl _
    | succ k ih => simp only [headsK]; omega
  have : ∀ k, k ≤ js.length → mostK js k ≤ headsK js js.length := fun k => by
    induction k with
    | zero => intro _; exact hge _
    | succ k ih =>
      intro hk
      have a := ih (by omega)
      have b := headsK_ge js js.length k (by omega)
      have c := headK_own (js := js) (fun i hi => by have := (h3 i hi).1.1; unfold longK; omega) (r := (js.getD k J0).ready) (j := k) js.length (by omega) (Nat.le_refl _) (Int.le_refl _)
      unfold longK at c
      simp only [mostK]
      omega
  exact this js.length (Nat.le_refl _)

end Go.Proofs.Ytfdaifmfecfchaa
