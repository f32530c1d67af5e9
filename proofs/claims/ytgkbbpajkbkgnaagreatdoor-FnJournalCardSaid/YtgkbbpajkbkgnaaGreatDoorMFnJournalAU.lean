/-
  FnJournal: texts joined: CtI, BdI.
-/
import Derived.Test.YtgkbbpajkbkgnaaGreatDoorMFnJournalAF
import Derived.Test.YtgkbbpajkbkgnaaGreatDoorMFnJournalAT
set_option linter.unusedVariables false
set_option linter.unusedSimpArgs false
namespace Go.Proofs.YtgkbbpajkbkgnaaGreatDoor
open Go.RowKit
theorem owns_two {w w' : World} {base : Nat} {e : TypeId} {n : Nat} {vs : List Value} {u v v' : Value} (hu : w.ownsRow base e 1 u n vs) (hd : ∀ g, u.ownBlock = some g → v.ownBlock ≠ some g) (hg : w.grownBy w' v.ownBlock) (hv : v'.ownBlock = v.ownBlock ∨ v'.ownBlock = some w.heap.size) :
    w'.ownsRow base e 1 u n vs ∧ ∀ g, u.ownBlock = some g → v'.ownBlock ≠ some g := by
  refine ⟨owns_kept (S := fun k => v.ownBlock = some k) hu ⟨hg.os, hg.tape, hg.output, hg.size, fun k hk hs => hg.block k hk fun e => hs e.symm⟩ hd, fun g h1 h2 => ?_⟩
  rcases hv with e | e
  · exact hd g h1 (e ▸ h2)
  · rw [e] at h2
    have := (hu.lt g h1).2
    have : w.heap.size = g := Option.some.inj h2
    omega
theorem slc_lit2 (w : World) (x y : Int) : Slc (w.alloc (.cells #[.int .i64 x, .int .i64 y] 2)) (.slice (some ⟨w.heap.size, 0, none⟩) 2 2) ([x, y].map I64) :=
  slc_of_owns (World.ownsRow_lit (base := w.heap.size) (e := 2) (size := 1) w #[.int .i64 x, .int .i64 y] 2 (Nat.le_refl _) (by simp [maxLen]) rfl)
def encA : Option (Nat × Nat) → Int
  | none => -1
  | some p => (p.1 : Int)
def encB : Option (Nat × Nat) → Int
  | none => -1
  | some p => (p.2 : Int)
theorem hasB_ins (ins : List Nat) (c : Nat) : hasB (idxs ins) (c : Int) = decide (c ∈ ins) := by
  unfold hasB
  rw [Bool.eq_iff_iff, List.contains_iff_mem, decide_eq_true_eq]
  unfold idxs
  simp only [List.mem_map]
  constructor
  · rintro ⟨x, hx, e⟩
    have : x = c := by omega
    exact this ▸ hx
  · intro h
    exact ⟨c, h, rfl⟩
def WayOk (g : FuncId) (caps : Array Value) (n : Nat) (W : Nat → Nat → Int) (w : World) : Prop :=
  ∀ (i k : Nat) (X : World), i < n → k < n → Below w.heap.size w X → Calls Tryz.prog g (#[.int .i64 i, .int .i64 k] ++ caps) X fun e w' => e = .returned (.int .i64 (W i k)) ∧ ∃ q, w' = X.drewN q
theorem WayOk.up {g : FuncId} {caps : Array Value} {n : Nat} {W : Nat → Nat → Int} {w w' : World} (h : WayOk g caps n W w) (hb : Below w.heap.size w w') : WayOk g caps n W w' :=
  fun i k X hi hk hX => h i k X hi hk (hb.trans (hX.mono hb.size))
set_option maxHeartbeats 8000000 in
set_option maxRecDepth 8000 in
theorem cityTree_any (g : FuncId) (caps : Array Value) (hent : ∀ (args : Array Value) (w : World), (callFunc g args).run Tryz.prog w = .ok (.enter g args) w) (W : Nat → Nat → Int) (n B : Nat) (hn3 : 3 ≤ n) (hn : n ≤ 10) (hB : B ≤ 100000) (hWr : ∀ i k, i < n → k < n → -(B : Int) ≤ W i k ∧ W i k ≤ B) (w : World) (hW : WayOk g caps n W w) :
    Calls Tryz.prog 323 #[.int .i64 n, .int .i64 1, .func (.func g) #[] caps] w fun e w' => ∃ u, e = .returned (.tuple #[u, .int .i64 (treeK W n (n - 2)).2.2]) ∧ OwnI w.heap.size w'.heap.size w' u (idxs (treeK W n (n - 2)).2.1) ∧ Below w.heap.size w w' := by
  have HW := Lib.hid hW
  have HT := Lib.hid (fun t (ht : t + 1 ≤ n - 1) => tree_of W hn3 t ht)
  have HST := Lib.hid (fun t (ht : t + 1 < n - 1) => tree_step (tree_of W hn3 t (by omega)) ht)
  have HRG := Lib.hid (fun t (ht : t + 1 ≤ n - 1) => show -(1000000 : Int) ≤ (treeK W n t).2.2 ∧ (treeK W n t).2.2 ≤ 1000000 from by
    have h1 := tree_rng hWr hn3 t ht
    have h2 : B * t ≤ 100000 * 10 := Nat.mul_le_mul hB (by omega)
    have h3 : ((B * t : Nat) : Int) = (B : Int) * (t : Int) := by push_cast; rfl
    omega)
  have HWR := Lib.hid hWr
  have HPK0 := Lib.hid (fun ins i s => show pkK W ins i s 0 = s from rfl)
  have HPK := Lib.hid (fun ins i s k => show pkK W ins i s (k + 1) = if (k + 1) ∈ ins then pkK W ins i s k else match pkK W ins i s k with
    | none => some (i, k + 1)
    | some p => if W i (k + 1) < W p.1 p.2 then some (i, k + 1) else some p from rfl)
  have HPO0 := Lib.hid (fun ins => show poK W n ins 0 = none from rfl)
  have HPO := Lib.hid (fun ins i => show poK W n ins (i + 1) = if (i + 1) ∈ ins then pkK W ins (i + 1) (poK W n ins i) (n - 1) else poK W n ins i from rfl)
  have HPKI := Lib.hid (fun ins i (hi : i ∈ ins) (hin : i < n) s hs k (hk : k < n) p hp => pkK_ins (W := W) (ins := ins) (i := i) (n := n) (s := s) hi hin hs k hk p hp)
  have HPOI := Lib.hid (fun ins i (hi : i < n) p hp => poK_ins (W := W) (n := n) (ins := ins) (by omega) i hi p hp)
  have HTK := Lib.hid (fun t => show treeK W n (t + 1) = match poK W n (treeK W n t).1 (n - 1) with
    | none => treeK W n t
    | some p => ((treeK W n t).1 ++ [p.2], (treeK W n t).2.1 ++ [p.1, p.2], (treeK W n t).2.2 + W p.1 p.2) from rfl)
  have HT0 := Lib.hid (show treeK W n 0 = ([1], [], 0) from rfl)
  obtain ⟨TK, hTK⟩ : ∃ TK, TK = treeK W n := ⟨_, rfl⟩
  obtain ⟨PK, hPK⟩ : ∃ PK, PK = pkK W := ⟨_, rfl⟩
  obtain ⟨PO, hPO⟩ : ∃ PO, PO = poK W n := ⟨_, rfl⟩
  have HLEN := Lib.hid (fun t (ht : t + 1 ≤ n - 1) => show (TK t).1.length = t + 1 ∧ (TK t).2.1.length = 2 * t ∧ ∀ c ∈ (TK t).1, 1 ≤ c ∧ c < n by rw [hTK]; exact ⟨(HT.out t ht).len, (HT.out t ht).eln, (HT.out t ht).rng⟩)
  rw [← hTK] at HST HRG HTK HT0 ⊢
  rw [← hPK] at HPK0 HPK HPO HPKI
  rw [← hPO] at HST HPO0 HPO HPOI HTK
  have hn2 : IntKind.i64.wrap ((n : Int) - 1) = (n : Int) - 1 := IntWalk.i64_in _ (by omega)
  clear hW HT hTK hPK hPO hWr
  go_enter Tryz.func323, Tryz.ntmps323
  go_wp2_with fail
  go_loopw [8, 9, 10] (fun iv ev tv wr => ∃ (t : Nat) (b b' : Option Addr) (c c' : Nat), t + 1 ≤ n - 1 ∧ iv = .slice b (t + 1) c ∧ ev = .slice b' (2 * t) c' ∧ tv = .int .i64 (TK t).2.2 ∧ Hid (wr.ownsRow w.heap.size 2 1 (.slice b (t + 1) c) (t + 1) ((idxs (TK t).1).map I64)) ∧ Hid (wr.ownsRow w.heap.size 2 1 (.slice b' (2 * t) c') (2 * t) ((idxs (TK t).2.1).map I64)) ∧ Hid (∀ g, (Value.slice b (t + 1) c).ownBlock = some g → (Value.slice b' (2 * t) c').ownBlock ≠ some g) ∧ Hid (Below w.heap.size w wr)) (fun iv _ _ _ => n + 1 - (match iv with | .slice _ l _ => l | _ => 0))
  case atStart =>
    refine ⟨0, some ⟨w.heap.size, 0, none⟩, none, 1, 0, by omega, rfl, rfl, by rw [HT0.out], Lib.hid ?_, Lib.hid ?_, Lib.hid (fun g h1 h2 => by cases h2), Lib.hid (by (repeat' first | exact Below.refl _ _ | assumption | refine Below.alloc ?_ ?_ _ | refine Below.setCell ?_ ?_ _ | refine Below.drew ?_ | (simp; done) | (simp; omega)))⟩
    · rw [HT0.out]
      exact World.ownsRow_lit (base := w.heap.size) (e := 2) (size := 1) w #[.int .i64 1] 1 (Nat.le_refl _) (by simp [maxLen]) rfl
    · rw [HT0.out]
      exact World.ownsRow_nil _ _ _ _
  case round =>
    obtain ⟨t, b, b', c, c', ht, rfl, rfl, rfl, HI, HE, HD, HBl⟩ := hrel
    obtain ⟨wo, rfl⟩ : ∃ wo, wo = wr := ⟨wr, rfl⟩
    have hlm : t + 1 ≤ maxLen := by unfold maxLen; omega
    by_cases hlt : t + 1 < n - 1
    · have hltI : ((t : Int) + 1) < (n : Int) - 1 := by omega
      obtain ⟨hl1, hl2, hr1⟩ := HLEN.out t ht
      have hTs := HTK.out t
      have hstep := HST.out t hlt
      obtain ⟨ins, hins⟩ : ∃ ins, ins = (TK t).1 := ⟨_, rfl⟩
      rw [← hins] at hl1 hr1 hTs hstep HI
      have HL1 := Lib.hid hl1
      have HL2 := Lib.hid hl2
      have HR1 := Lib.hid hr1
      have HTS := Lib.hid hTs
      have HSTP := Lib.hid hstep
      have HHS := Lib.hid (fun k Y (hb : ∃ q, Y = wo.drewN q) => show Calls Tryz.prog 129 #[.slice b (t + 1) c, .int .i64 ((k : Nat) : Int)] Y fun e w' => e = .returned (.bool (decide (k ∈ ins))) ∧ Y = w' by
        obtain ⟨q, rfl⟩ := hb
        rw [← hasB_ins]
        exact has_any _ (idxs ins) _ _ (slc_of_owns HI.out))
      have HWO := Lib.hid (fun i k Y (hi : i < n) (hk : k < n) (hb : ∃ q, Y = wo.drewN q) => show Calls Tryz.prog g (#[.int .i64 ((i : Nat) : Int), .int .i64 ((k : Nat) : Int)] ++ caps) Y fun e w' => e = .returned (.int .i64 (W i k)) ∧ ∃ q, w' = Y.drewN q by
        obtain ⟨q, rfl⟩ := hb
        exact HW.out i k _ hi hk (below_drewN HBl.out q))
      clear hins hl1 hl2 hr1 hTs hstep
      go_wp2_with (go_at_call 66; refine (size_any _ _ hlm).mono ?_; rintro e w1 ⟨rfl, rfl⟩)
      go_loopw [11, 12, 13] (fun av bv iv wr => ∃ i : Nat, iv = .int .i64 ((i + 1 : Nat) : Int) ∧ i ≤ n - 1 ∧ av = .int .i64 (encA (PO ins i)) ∧ bv = .int .i64 (encB (PO ins i)) ∧ Hid (∃ q, wr = wo.drewN q)) (fun _ _ iv _ => n + 1 - (intOf iv).toNat)
      case atStart => exact ⟨0, rfl, Nat.zero_le _, by rw [HPO0.out]; rfl, by rw [HPO0.out]; rfl, Lib.hid ⟨0, rfl⟩⟩
      case round =>
        obtain ⟨i, rfl, hi, rfl, rfl, HQ⟩ := hrel
        obtain ⟨wm, rfl⟩ : ∃ wm, wm = wr := ⟨wr, rfl⟩
        have hPI := HPO.out ins i
        obtain ⟨i1, hi1⟩ : ∃ i1, i1 = i + 1 := ⟨_, rfl⟩
        have HI1 := Lib.hid hi1
        rw [← hi1] at hPI ⊢
        by_cases hin : i1 < n
        · have hinI : (i1 : Int) < (n : Int) := by omega
          have HHI := Lib.hid (HHS.out i1 wm HQ.out)
          by_cases hmi : i1 ∈ ins
          · rw [if_pos hmi] at hPI
            rw [decide_eq_true hmi] at HHI
            have HPS := Lib.hid hPI
            have HMI := Lib.hid hmi
            have HPI2 := Lib.hid (fun p (hp : PO ins i = some p) => HPOI.out ins i (by omega) p hp)
            obtain ⟨s0, hs0⟩ : ∃ s0, s0 = PO ins i := ⟨_, rfl⟩
            rw [← hs0] at HPS HPI2 ⊢
            have HPKJ := Lib.hid (fun k (hk : k < n) p hp => HPKI.out ins i1 hmi hin s0 HPI2.out k hk p hp)
            have HPJ := Lib.hid (fun k => HPK.out ins i1 s0 k)
            have HPJ0 := Lib.hid (HPK0.out ins i1 s0)
            obtain ⟨Q, hQ⟩ : ∃ Q, Q = PK ins i1 s0 := ⟨_, rfl⟩
            rw [← hQ] at HPS HPKJ HPJ HPJ0
            clear hPI hmi hs0 hQ hi1
            go_wp2_with (go_at_call 129; refine HHI.out.mono ?_; rintro e w2 ⟨rfl, rfl⟩)
            go_loopw [11, 12, 14] (fun av bv kv wr => ∃ k : Nat, kv = .int .i64 ((k + 1 : Nat) : Int) ∧ k ≤ n - 1 ∧ av = .int .i64 (encA (Q k)) ∧ bv = .int .i64 (encB (Q k)) ∧ Hid (∃ q, wr = wo.drewN q)) (fun _ _ kv _ => n + 1 - (intOf kv).toNat)
            case atStart => exact ⟨0, rfl, Nat.zero_le _, by rw [HPJ0.out], by rw [HPJ0.out], HQ⟩
            case round =>
              obtain ⟨k, rfl, hk, rfl, rfl, HQ⟩ := hrel
              have hPJ := HPJ.out k
              have HPR := Lib.hid (fun p (hp : Q k = some p) => HPKJ.out k (by omega) p hp)
              obtain ⟨k1, hk1⟩ : ∃ k1, k1 = k + 1 := ⟨_, rfl⟩
              have HK1 := Lib.hid hk1
              rw [← hk1] at hPJ ⊢
              by_cases hkn : k1 < n
              · have hknI : (k1 : Int) < (n : Int) := by omega
                have HHK := Lib.hid (HHS.out k1 wr HQ.out)
                obtain ⟨o, ho⟩ : ∃ o, o = Q k := ⟨_, rfl⟩
                rw [← ho] at hPJ HPR ⊢
                by_cases hmk : k1 ∈ ins
                · rw [if_pos hmk] at hPJ
                  rw [decide_eq_true hmk] at HHK
                  have HPS := Lib.hid hPJ
                  clear hPJ hmk hk1 ho
                  go_wp2_with (go_at_call 129; refine HHK.out.mono ?_; rintro e w2 ⟨rfl, rfl⟩)
                  go_roundw
                  case rel => exact ⟨k1, by go_num, by omega, by rw [HPS.out], by rw [HPS.out], HQ⟩
                  case measure => simp [intOf]; omega
                · rw [if_neg hmk] at hPJ
                  rw [decide_eq_false hmk] at HHK
                  cases o with
                  | none =>
                    have HPS := Lib.hid hPJ
                    have ea : encA none = -1 := rfl
                    have eb : encB none = -1 := rfl
                    clear hPJ hmk hk1 ho
                    go_wp2_with (go_at_call 129; refine HHK.out.mono ?_; rintro e w2 ⟨rfl, rfl⟩)
                    go_roundw
                    case rel => exact ⟨k1, by go_num, by omega, by rw [HPS.out]; rfl, by rw [HPS.out]; rfl, HQ⟩
                    case measure => simp [intOf]; omega
                  | some p =>
                    obtain ⟨p1, p2⟩ := p
                    have hpr := HPR.out (p1, p2) rfl
                    simp only at hpr hPJ
                    have hp1 : p1 < n := hpr.2.2.1
                    have hp2 : p2 < n := hpr.2.2.2.2
                    have ea : encA (some (p1, p2)) = (p1 : Int) := rfl
                    have eb : encB (some (p1, p2)) = (p2 : Int) := rfl
                    have HC1 := Lib.hid (fun Y hY => HWO.out i1 k1 Y hin hkn hY)
                    have HC2 := Lib.hid (fun Y hY => HWO.out p1 p2 Y hp1 hp2 hY)
                    obtain ⟨x, hx⟩ : ∃ x, x = W i1 k1 := ⟨_, rfl⟩
                    obtain ⟨y, hy⟩ : ∃ y, y = W p1 p2 := ⟨_, rfl⟩
                    rw [← hx] at HC1 hPJ
                    rw [← hy] at HC2 hPJ
                    rw [ea, eb]
                    have hge : ¬ (p1 : Int) < 0 := by omega
                    have HQ0 := HQ
                    by_cases hxy : x < y
                    · rw [if_pos hxy] at hPJ
                      have HPS := Lib.hid hPJ
                      clear hPJ hmk hk1 ho hx hy hpr ea eb
                      go_wp2_with (first
                        | (go_at_call 129; refine HHK.out.mono ?_; rintro e w2 ⟨rfl, rfl⟩)
                        | (refine (HC1.out wr HQ.out).mono ?_; rintro e w2 ⟨rfl, q2, rfl⟩)
                        | (refine (HC2.out _ (by obtain ⟨q, e⟩ := HQ.out; rw [e]; exact ⟨_, World.drewN_drewN _ _ _⟩)).mono ?_; rintro e w3 ⟨rfl, q3, rfl⟩))
                      go_roundw
                      case rel => exact ⟨k1, by go_num, by omega, by rw [HPS.out]; rfl, by rw [HPS.out]; rfl, Lib.hid (by obtain ⟨q, e⟩ := HQ.out; rw [e]; exact ⟨_, World.drewN_drewN _ _ _⟩)⟩
                      case measure => simp [intOf]; omega
                    · rw [if_neg hxy] at hPJ
                      have HPS := Lib.hid hPJ
                      clear hPJ hmk hk1 ho hx hy hpr ea eb
                      go_wp2_with (first
                        | (go_at_call 129; refine HHK.out.mono ?_; rintro e w2 ⟨rfl, rfl⟩)
                        | (refine (HC1.out wr HQ.out).mono ?_; rintro e w2 ⟨rfl, q2, rfl⟩)
                        | (refine (HC2.out _ (by obtain ⟨q, e⟩ := HQ.out; rw [e]; exact ⟨_, World.drewN_drewN _ _ _⟩)).mono ?_; rintro e w3 ⟨rfl, q3, rfl⟩))
                      go_roundw
                      case rel => exact ⟨k1, by go_num, by omega, by rw [HPS.out]; rfl, by rw [HPS.out]; rfl, Lib.hid (by obtain ⟨q, e⟩ := HQ.out; rw [e]; exact ⟨_, World.drewN_drewN _ _ _⟩)⟩
                      case measure => simp [intOf]; omega
              · have hknI : ¬ (k1 : Int) < (n : Int) := by omega
                have HX := Lib.hid (show PO ins i1 = Q k by
                  have := HK1.out
                  rw [HPS.out, show k = n - 1 by omega])
                clear hPJ hk1
                go_wp2_with fail
                go_roundw
                case rel => exact ⟨i1, by go_num, by omega, by rw [HX.out], by rw [HX.out], HQ⟩
                case measure => simp [intOf]; omega
          · rw [if_neg hmi] at hPI
            rw [decide_eq_false hmi] at HHI
            have HPS := Lib.hid hPI
            clear hPI hmi hi1
            go_wp2_with (go_at_call 129; refine HHI.out.mono ?_; rintro e w2 ⟨rfl, rfl⟩)
            go_roundw
            case rel => exact ⟨i1, by go_num, by omega, by rw [HPS.out], by rw [HPS.out], HQ⟩
            case measure => simp [intOf]; omega
        · have hinI : ¬ (i1 : Int) < (n : Int) := by omega
          obtain ⟨p, hp, _, _, hp1, _, hp2⟩ := HSTP.out
          have hin1 : i = n - 1 := by have := HI1.out; omega
          obtain ⟨p1, p2⟩ := p
          simp only at hp1 hp2
          have HTN := Lib.hid (show TK (t + 1) = (ins ++ [p2], (TK t).2.1 ++ [p1, p2], (TK t).2.2 + W p1 p2) by rw [HTS.out, hp])
          rw [← hin1] at hp
          have ea : encA (PO ins i) = (p1 : Int) := by rw [hp]; rfl
          have eb : encB (PO ins i) = (p2 : Int) := by rw [hp]; rfl
          rw [ea, eb]
          have HC1 := Lib.hid (HWO.out p1 p2)
          have hx := HWR.out p1 p2 hp1 hp2
          have hg1 := HRG.out t ht
          obtain ⟨x, hx'⟩ : ∃ x, x = W p1 p2 := ⟨_, rfl⟩
          obtain ⟨s, hs'⟩ : ∃ s, s = (TK t).2.2 := ⟨_, rfl⟩
          have HXX := Lib.hid hx'
          rw [← hx'] at HC1 HTN hx
          rw [← hs'] at HTN hg1 ⊢
          have hadd : IntKind.i64.wrap (s + x) = s + x := IntWalk.i64_in _ (by omega)
          have HE1 := Lib.hid (show wm.ownsRow w.heap.size 2 1 (.slice b' (2 * t) c') (2 * t) ((idxs (TK t).2.1).map I64) by obtain ⟨q, e⟩ := HQ.out; rw [e]; exact HE.out)
          have HI2 := Lib.hid (show wm.ownsRow w.heap.size 2 1 (.slice b (t + 1) c) (t + 1) ((idxs ins).map I64) by obtain ⟨q, e⟩ := HQ.out; rw [e]; exact HI.out)
          have HB2 := Lib.hid (show Below w.heap.size w wm by obtain ⟨q, e⟩ := HQ.out; rw [e]; exact below_drewN HBl.out q)
          have hzm := HB2.out.size
          clear hPI hi1 hp ea eb hx' hs' hx hg1
          go_upto_region 16 with (at_builtin; refine app_intsL rfl _ _ rfl w.heap.size (.slice b' (2 * t) c') (2 * t) (idxs (TK t).2.1) rfl (HE1.out.alloc _) _ [(p1 : Int), (p2 : Int)] rfl (slc_lit2 _ _ _) (2 * (t + 1)) (idxs ((TK t).2.1 ++ [p1, p2])) (by simp; omega) (by unfold idxs; simp) (by omega) (by simp; omega) ?_; intro b3 c3 w3 hown3 hbl3 hgr3 hbk3)
          refine wp_at fun W3 hW3 => ?_
          have hI3 := owns_two (HI2.out.alloc _) HD.out hgr3 hbk3
          have HE3 := Lib.hid (show W3.ownsRow w.heap.size 2 1 (.slice b3 (2 * (t + 1)) c3) (2 * (t + 1)) ((idxs ((TK t).2.1 ++ [p1, p2])).map I64) by subst hW3; exact hown3)
          have HI3 := Lib.hid (show W3.ownsRow w.heap.size 2 1 (.slice b (t + 1) c) (t + 1) ((idxs ins).map I64) by subst hW3; exact hI3.1)
          have HD3 := Lib.hid hI3.2
          have HB3 := Lib.hid (show Below w.heap.size w W3 by subst hW3; exact (HB2.out.alloc hzm _).trans hbl3)
          have HC3 := Lib.hid (by have := HW.out p1 p2 W3 hp1 hp2 HB3.out; rw [← HXX.out] at this; exact this)
          have hz3 := HB3.out.size
          clear hW3 hI3 hown3 hbl3 hgr3 hbk3
          go_upto_region 17 with (refine HC3.out.mono ?_; rintro e w4 ⟨rfl, q4, rfl⟩)
          go_wp2_with (at_builtin; refine app_intsL rfl _ _ rfl w.heap.size (.slice b (t + 1) c) (t + 1) (idxs ins) rfl ((show (W3.drewN q4).ownsRow w.heap.size 2 1 (.slice b (t + 1) c) (t + 1) ((idxs ins).map I64) from HI3.out).alloc _) _ [(p2 : Int)] rfl (slc_one _ _) (t + 1 + 1) (idxs (ins ++ [p2])) (by simp) (by unfold idxs; simp) (by omega) (by simp; omega) ?_; intro b4 c4 w4 hown4 hbl4 hgr4 hbk4)
          have hE4 := owns_two (u := .slice b3 (2 * (t + 1)) c3) (v := .slice b (t + 1) c) ((show (W3.drewN q4).ownsRow w.heap.size 2 1 (.slice b3 (2 * (t + 1)) c3) (2 * (t + 1)) ((idxs ((TK t).2.1 ++ [p1, p2])).map I64) from HE3.out).alloc _) (fun g' h1 h2 => HD3.out g' h2 h1) hgr4 hbk4
          have HE4 := Lib.hid hE4.1
          have HD4 := Lib.hid (show ∀ g', (Value.slice b4 (t + 1 + 1) c4).ownBlock = some g' → (Value.slice b3 (2 * (t + 1)) c3).ownBlock ≠ some g' from fun g' h1 h2 => hE4.2 g' h2 h1)
          have HI4 := Lib.hid hown4
          have HB4 := Lib.hid (show Below w.heap.size w w4 from ((below_drewN HB3.out q4).alloc hz3 _).trans hbl4)
          clear hE4 hown4 hbl4 hgr4 hbk4
          go_roundw
          case rel => exact ⟨t + 1, b4, b3, c4, c3, by omega, rfl, rfl, by rw [HTN.out], Lib.hid (by rw [HTN.out]; exact HI4.out), Lib.hid (by rw [HTN.out]; exact HE4.out), HD4, HB4⟩
          case measure => simp; omega
    · have hltI : decide (((t : Int) + 1) < (n : Int) - 1) = false := decide_eq_false (by omega)
      have HT2 := Lib.hid (show t = n - 2 by omega)
      go_wp2_with (go_at_call 66; refine (size_any _ _ hlm).mono ?_; rintro e w1 ⟨rfl, rfl⟩)
      go_ret2
      exact ⟨_, by rw [← HT2.out]; rfl, by rw [← HT2.out]; exact OwnI.mk (n := 2 * t) HE.out, HBl.out⟩
end Go.Proofs.YtgkbbpajkbkgnaaGreatDoor

namespace Go.Proofs.YtgkbbpajkbkgnaaGreatDoor
open Go.RowKit Go.Sort
theorem below_sort {enc : Nat → Value} {w w0 : World} {g m : Nat} {dk : Array Nat} {os : Array Obj} (h : Below w.heap.size w w0) (hg : w.heap.size ≤ g) : Below w.heap.size w (sortWorld enc w0 g 0 m dk os) := by
  have h1 := Lib.below_putRow (enc := enc) (q := m) (d := dk) h hg
  unfold sortWorld
  refine ⟨h1.os, h1.tape, h1.output, ?_, fun k hk => ?_⟩
  · have := h1.size
    unfold grow
    rw [Array.size_append]
    have := h.size
    have e : (putRow enc (Sort.ahead w0 m) g 0 dk).heap.size = w0.heap.size := by simp [putRow, mapBlock, Sort.ahead]
    omega
  · have hz := h1.size
    rw [← h1.block k hk]
    unfold grow
    show (_ ++ os)[k]? = _
    rw [Array.getElem?_append_left (by omega)]
def ejK (E0 L : List Nat) : Nat → List Nat
  | 0 => E0
  | j + 1 => ejK E0 L j ++ [0, L.getD j 0 + 1]
def njK (W : Nat → Nat → Int) (N0 : Int) (L : List Nat) : Nat → Int
  | 0 => N0
  | j + 1 => njK W N0 L j + W 0 (L.getD j 0 + 1)
theorem Tryz.entersBe (args : Array Value) (w : World) : (callFunc 324 args).run Tryz.prog w = .ok (.enter 324 args) w :=
  enters_of Tryz.func324 (by kernel_rfl) rfl args w
theorem beCmp_any (g : FuncId) (caps : Array Value) (hent : ∀ (args : Array Value) (w : World), (callFunc g args).run Tryz.prog w = .ok (.enter g args) w) (a b n bx : Nat) (x y : Int) (w : World) (ha : a + 1 < n) (hb : b + 1 < n) (hn : n ≤ 10) (hbox : w.cell? ⟨bx, 0, none⟩ = some (.func (.func g) #[] caps))
    (h1 : ∀ q, Calls Tryz.prog g (#[.int .i64 0, .int .i64 ((a + 1 : Nat) : Int)] ++ caps) (w.drewN q) fun e w' => e = .returned (.int .i64 x) ∧ ∃ q', w' = (w.drewN q).drewN q')
    (h2 : ∀ q, Calls Tryz.prog g (#[.int .i64 0, .int .i64 ((b + 1 : Nat) : Int)] ++ caps) (w.drewN q) fun e w' => e = .returned (.int .i64 y) ∧ ∃ q', w' = (w.drewN q).drewN q') :
    Calls Tryz.prog 324 #[.int .i64 a, .int .i64 b, .pointer (some ⟨bx, 0, none⟩)] w fun e w' => e = .returned (.int .i64 (cmpI x y)) ∧ ∃ q, w' = w.drewN q := by
  have e1 : IntKind.i64.wrap ((a : Int) + 1) = ((a + 1 : Nat) : Int) := by rw [IntWalk.i64_in _ (by omega)]; push_cast; rfl
  have e2 : IntKind.i64.wrap ((b : Int) + 1) = ((b + 1 : Nat) : Int) := by rw [IntWalk.i64_in _ (by omega)]; push_cast; rfl
  have HQ1 := Lib.hid (fun q => show Calls Tryz.prog g (#[.int .i64 0, .int .i64 ((a + 1 : Nat) : Int)] ++ caps) (w.drewN q) fun e w' => e = .returned (.int .i64 x) ∧ ∃ q', w' = w.drewN q' from (h1 q).mono fun e w' h => ⟨h.1, by obtain ⟨q', e⟩ := h.2; exact ⟨_, by rw [e]; exact World.drewN_drewN _ _ _⟩⟩)
  have HQ2 := Lib.hid (fun q => show Calls Tryz.prog g (#[.int .i64 0, .int .i64 ((b + 1 : Nat) : Int)] ++ caps) (w.drewN q) fun e w' => e = .returned (.int .i64 y) ∧ ∃ q', w' = w.drewN q' from (h2 q).mono fun e w' h => ⟨h.1, by obtain ⟨q', e⟩ := h.2; exact ⟨_, by rw [e]; exact World.drewN_drewN _ _ _⟩⟩)
  clear h1 h2
  go_enter Tryz.func324, Tryz.ntmps324
  go_wp2_with fail
  go_quiet ((first | (go_at_call 65; exact quiet_same (cmp64_any _ _ _)) | exact HQ1.out _ | exact HQ2.out _))
  go_wp2_with fail
  go_ret
  exact ⟨rfl, _, rfl⟩
set_option maxHeartbeats 4000000 in
set_option maxRecDepth 8000 in
theorem boundEdges_any (g : FuncId) (caps : Array Value) (hent : ∀ (args : Array Value) (w : World), (callFunc g args).run Tryz.prog w = .ok (.enter g args) w) (W : Nat → Nat → Int) (n B : Nat) (hn3 : 3 ≤ n) (hn : n ≤ 10) (hB : B ≤ 100000) (hWr : ∀ i k, i < n → k < n → -(B : Int) ≤ W i k ∧ W i k ≤ B) (w : World) (hW : WayOk g caps n W w) :
    Calls Tryz.prog 292 #[.int .i64 n, .func (.func g) #[] caps] w fun e w' => ∃ u, e = .returned (.tuple #[u, .int .i64 (bndN W n)]) ∧ OwnI w.heap.size w'.heap.size w' u (idxs (bndE W n)) ∧ Below w.heap.size w w' := by
  have HW := Lib.hid hW
  have HCT := Lib.hid (fun X (hb : Below w.heap.size w X) => cityTree_any g caps hent W n B hn3 hn hB hWr X (hW.up hb))
  have HOD := Lib.hid (fun X (hb : Below w.heap.size w X) (hk : Box X w.heap.size 273 (.func (.func g) #[] caps)) (hz : w.heap.size < X.heap.size) => orderByC_any 324 #[.pointer (some ⟨w.heap.size, 0, none⟩)] Tryz.entersBe (wayC W (n - 1)) (swo_way W (n - 1)) (n - 1) (by omega) (by omega) X (fun w0 g0 hb0 hg0 => fun m os dk hs x y => by
    have hx := Nat.mod_lt x (show 0 < n - 1 by omega)
    have hy := Nat.mod_lt y (show 0 < n - 1 by omega)
    have hbl : Below w.heap.size w (sortWorld (encN (n - 1)) w0 g0 0 m dk os) := below_sort (hb.trans (hb0.mono hb.size)) (by omega)
    have hbX : Below X.heap.size X (sortWorld (encN (n - 1)) w0 g0 0 m dk os) := below_sort hb0 hg0
    refine beCmp_any g caps hent _ _ n w.heap.size (W 0 (x % (n - 1) + 1)) (W 0 (y % (n - 1) + 1)) _ (by omega) (by omega) hn (hk.below hbX hz).cell (fun q => ?_) (fun q => ?_)
    · exact HW.out 0 (x % (n - 1) + 1) _ (by omega) (by omega) (below_drewN hbl q)
    · exact HW.out 0 (y % (n - 1) + 1) _ (by omega) (by omega) (below_drewN hbl q)))
  have HWY := Lib.hid (fun j (hj : j < 2) => wayO_rng W (k := j) hn3 hj)
  have HOL := Lib.hid (ordC_len (swo_way W (n - 1)) (n - 1))
  have HWO := Lib.hid (fun j => show wayO W n j = (ordC (wayC W (n - 1)) (n - 1)).getD j 0 + 1 from rfl)
  have HE2 := Lib.hid (show bndE W n = ((treeK W n (n - 2)).2.1 ++ [0, wayO W n 0]) ++ [0, wayO W n 1] by unfold bndE; simp)
  have HN2 := Lib.hid (show bndN W n = (treeK W n (n - 2)).2.2 + W 0 (wayO W n 0) + W 0 (wayO W n 1) from rfl)
  have HTL := Lib.hid (tree_of W hn3 (n - 2) (by omega)).eln
  have HTR := Lib.hid (show -(1000000 : Int) ≤ (treeK W n (n - 2)).2.2 ∧ (treeK W n (n - 2)).2.2 ≤ 1000000 from by
    have h1 := tree_rng hWr hn3 (n - 2) (by omega)
    have h2 : B * (n - 2) ≤ 100000 * 10 := Nat.mul_le_mul hB (by omega)
    have h3 : ((B * (n - 2) : Nat) : Int) = (B : Int) * ((n - 2 : Nat) : Int) := by push_cast; rfl
    omega)
  have HWR := Lib.hid (fun k (hk : k < n) => hWr 0 k (by omega) hk)
  obtain ⟨L, hL⟩ : ∃ L, L = ordC (wayC W (n - 1)) (n - 1) := ⟨_, rfl⟩
  rw [← hL] at HOD HOL HWO
  obtain ⟨E0, hE0⟩ : ∃ E0, E0 = (treeK W n (n - 2)).2.1 := ⟨_, rfl⟩
  obtain ⟨N0, hN0⟩ : ∃ N0, N0 = (treeK W n (n - 2)).2.2 := ⟨_, rfl⟩
  rw [← hE0] at HCT HE2 HTL
  rw [← hN0] at HCT HN2 HTR
  obtain ⟨m, hm⟩ : ∃ m, m = 2 * (n - 2) := ⟨_, rfl⟩
  rw [← hm] at HTL
  have hm20 : m ≤ 20 := by omega
  have HLB0 : ∀ j, j < 2 → L.getD j 0 + 1 < n := fun j hj => by rw [← HWO.out j]; exact (HWY.out j hj).2
  have HNR := Lib.hid (show ∀ j, j ≤ 2 → -(2000000 : Int) ≤ njK W N0 L j ∧ njK W N0 L j ≤ 2000000 from fun j hj => by
    have a := HWR.out _ (HLB0 0 (by omega))
    have b := HWR.out _ (HLB0 1 (by omega))
    have c := HTR.out
    match j, hj with
    | 0, _ => show -(2000000 : Int) ≤ N0 ∧ N0 ≤ 2000000; omega
    | 1, _ => show -(2000000 : Int) ≤ N0 + W 0 (L.getD 0 0 + 1) ∧ N0 + W 0 (L.getD 0 0 + 1) ≤ 2000000; omega
    | 2, _ => show -(2000000 : Int) ≤ N0 + W 0 (L.getD 0 0 + 1) + W 0 (L.getD 1 0 + 1) ∧ N0 + W 0 (L.getD 0 0 + 1) + W 0 (L.getD 1 0 + 1) ≤ 2000000; omega)
  have HEF := Lib.hid (show bndE W n = ejK E0 L 2 by rw [HE2.out, HWO.out 0, HWO.out 1]; rfl)
  have HNF := Lib.hid (show bndN W n = njK W N0 L 2 by rw [HN2.out, HWO.out 0, HWO.out 1]; rfl)
  have HEJ0 := Lib.hid (show ejK E0 L 0 = E0 from rfl)
  have HNJ0 := Lib.hid (show njK W N0 L 0 = N0 from rfl)
  have HEJ := Lib.hid (show ∀ j, ejK E0 L (j + 1) = ejK E0 L j ++ [0, L.getD j 0 + 1] from fun j => rfl)
  have HNJ := Lib.hid (show ∀ j, njK W N0 L (j + 1) = njK W N0 L j + W 0 (L.getD j 0 + 1) from fun j => rfl)
  obtain ⟨EJ, hEJ⟩ : ∃ EJ, EJ = ejK E0 L := ⟨_, rfl⟩
  obtain ⟨NJ, hNJ⟩ : ∃ NJ, NJ = njK W N0 L := ⟨_, rfl⟩
  rw [← hEJ] at HEF HEJ0 HEJ
  rw [← hNJ] at HNF HNJ0 HNJ HNR
  have HLB := Lib.hid (show ∀ j, j < 2 → L.getD j 0 + 1 < n from fun j hj => by rw [← HWO.out j]; exact (HWY.out j hj).2)
  have HEL := Lib.hid (show (idxs E0).length = m by rw [idxs_len]; exact HTL.out)
  have hn1I : IntKind.i64.wrap ((n : Int) - 1) = ((n - 1 : Nat) : Int) := by rw [IntWalk.i64_in _ (by omega)]; omega
  obtain ⟨n1, hn1⟩ : ∃ n1, n1 = n - 1 := ⟨_, rfl⟩
  have HN1 := Lib.hid hn1
  rw [← hn1] at hn1I HOD HOL
  have hn12 : 2 ≤ n1 := by omega
  have hn19 : n1 ≤ 9 := by omega
  rw [HEF.out, HNF.out]
  clear hW hWr hL hE0 hN0 hm hEJ hNJ hn1 HLB0
  go_enter Tryz.func292, Tryz.ntmps292
  go_upto_region 1 with fail
  refine wp_at fun W0 hW0 => ?_
  have HB0 := Lib.hid (show Below w.heap.size w W0 by subst hW0; (repeat' first | exact Below.refl _ _ | assumption | refine Below.alloc ?_ ?_ _ | refine Below.setCell ?_ ?_ _ | refine Below.drew ?_ | (simp; done) | (simp; omega)))
  have HK0 := Lib.hid (show Box W0 w.heap.size 273 (.func (.func g) #[] caps) by subst hW0; exact Box.new _ _ _)
  have hz0 := HB0.out.size
  have hk0 := HK0.out.lt
  clear hW0
  have d0 := HK0.out.cell
  go_upto_region 2 with (go_at_call 323; refine (HCT.out W0 HB0.out).mono ?_; rintro e w1 ⟨ev, rfl, hoe, hb1⟩; obtain ⟨eb, ec, hev⟩ := hoe.rd.shape; rw [HEL.out] at hev; subst hev)
  have HB1 := Lib.hid (HB0.out.trans (hb1.mono hz0))
  have HX1 := Lib.hid hb1
  have HK1 := Lib.hid (HK0.out.below hb1 hk0)
  have HOE := Lib.hid hoe
  have hz1 := hb1.size
  have hk1 := HK1.out.lt
  clear d0 hoe hb1
  have d0 := HK1.out.cell
  go_upto_region 3 with (go_at_call 63; refine (HOD.out w1 HB1.out HK1.out hk1).mono ?_; rintro e w3 ⟨u, rfl, ho, hb3⟩; have hu0 := hb3; obtain ⟨ob, oc, hu, hob1, hob2⟩ := owns_pos ho.1 (by rw [idxs_len, HOL.out]; omega); rw [idxs_len, HOL.out] at hu; subst hu)
  have HB3 := Lib.hid (HB1.out.trans (hb3.mono HB1.out.size))
  have HX3 := Lib.hid (HX1.out.trans (hb3.mono hz1))
  have hz3 := hb3.size
  have HE3 := Lib.hid (show w3.ownsRow W0.heap.size 2 1 (.slice eb m ec) m ((idxs (EJ 0)).map I64) by
    have := (HOE.out.up hb3 (Nat.le_refl _)).1
    rw [HEL.out] at this
    rw [HEJ0.out]
    exact this)
  have HO3 := Lib.hid (show w3.ownsRow W0.heap.size 2 1 (.slice (some ⟨ob, 0, none⟩) n1 oc) n1 ((idxs L).map I64) by
    have := ho.1
    rw [idxs_len, HOL.out] at this
    exact owns_base this hz1)
  have HD3 := Lib.hid (show ∀ g', (Value.slice (some ⟨ob, 0, none⟩) n1 oc).ownBlock = some g' → (Value.slice eb m ec).ownBlock ≠ some g' from fun g' h1 h2 => by
    have : ob = g' := Option.some.inj h1
    have := HOE.out.2 g' h2
    omega)
  have hoc : n1 ≤ oc := by
    have := HO3.out.2
    rcases this with ⟨e, _⟩ | ⟨g', cap, cur, e, _, _, hle, _⟩
    · cases e
    · injection e with _ _ e2; omega
  have hocI : (2 : Int) ≤ (oc : Int) := by omega
  clear d0 ho hb3
  go_wp2_with fail
  go_loopw [6, 7, 24] (fun ev tv kv wr => ∃ (j : Nat) (b : Option Addr) (c : Nat), kv = .int .i64 j ∧ j ≤ 2 ∧ ev = .slice b (m + 2 * j) c ∧ tv = .int .i64 (NJ j) ∧ Hid (wr.ownsRow W0.heap.size 2 1 (.slice b (m + 2 * j) c) (m + 2 * j) ((idxs (EJ j)).map I64)) ∧ Hid (wr.ownsRow W0.heap.size 2 1 (.slice (some ⟨ob, 0, none⟩) n1 oc) n1 ((idxs L).map I64)) ∧ Hid (∀ g', (Value.slice (some ⟨ob, 0, none⟩) n1 oc).ownBlock = some g' → (Value.slice b (m + 2 * j) c).ownBlock ≠ some g') ∧ Hid (Below W0.heap.size W0 wr)) (fun _ _ kv _ => 3 - (intOf kv).toNat)
  case atStart => exact ⟨0, eb, ec, rfl, by omega, rfl, by rw [HNJ0.out], HE3, HO3, HD3, HX3⟩
  case round =>
    obtain ⟨j, b, c, rfl, hj, rfl, rfl, HE, HO, HD, HX⟩ := hrel
    by_cases hlt : j < 2
    · have hltI : (j : Int) < 2 := by omega
      have co : wr.cell? ⟨ob, j, none⟩ = some (.int .i64 ((L.getD j 0 : Nat) : Int)) := by
        rw [HO.out.cellAt j (by omega), List.getElem?_map]
        have := idxs_get (L := L) (j := j) (by rw [HOL.out]; omega)
        rw [List.getD_eq_getElem?_getD, List.getElem?_eq_getElem (by rw [idxs_len, HOL.out]; omega)] at this
        rw [List.getElem?_eq_getElem (by rw [idxs_len, HOL.out]; omega)]
        simp only [Option.getD_some] at this
        rw [this]
        rfl
      have hEJ := HEJ.out j
      have hNJ := HNJ.out j
      have hlb := HLB.out j hlt
      have hr1 := HNR.out j (by omega)
      have hr2 := HNR.out (j + 1) (by omega)
      rw [hNJ] at hr2
      obtain ⟨i, hi⟩ : ∃ i, i = L.getD j 0 := ⟨_, rfl⟩
      rw [← hi] at co hEJ hNJ hlb hr2
      have HEE := Lib.hid hEJ
      have hi1 : IntKind.i64.wrap ((i : Int) + 1) = ((i + 1 : Nat) : Int) := by rw [IntWalk.i64_in _ (by omega)]; push_cast; rfl
      have HWJ := Lib.hid (fun X (hb : Below W0.heap.size W0 X) => HW.out 0 (i + 1) X (by omega) hlb (HB0.out.trans (hb.mono hz0)))
      obtain ⟨x, hx⟩ : ∃ x, x = W 0 (i + 1) := ⟨_, rfl⟩
      rw [← hx] at HWJ hNJ hr2
      obtain ⟨s, hs⟩ : ∃ s, s = NJ j := ⟨_, rfl⟩
      rw [← hs] at hNJ hr1 hr2 ⊢
      have HNE := Lib.hid hNJ
      have hadd : IntKind.i64.wrap (s + x) = s + x := IntWalk.i64_in _ (by omega)
      have hzx := HX.out.size
      clear hEJ hNJ hi hx hs hr1 hr2
      go_upto_region 7 with (at_builtin; refine app_intsL rfl _ _ rfl W0.heap.size (.slice b (m + 2 * j) c) (m + 2 * j) (idxs (EJ j)) rfl (HE.out.alloc _) _ [(0 : Int), ((i + 1 : Nat) : Int)] rfl (slc_lit2 _ _ _) (m + 2 * (j + 1)) (idxs (EJ j ++ [0, i + 1])) (by simp; omega) (by unfold idxs; simp) (by omega) (by simp; omega) ?_; intro b4 c4 w4 hown4 hbl4 hgr4 hbk4)
      refine wp_at fun W4 hW4 => ?_
      have hO4 := owns_two (HO.out.alloc _) HD.out hgr4 hbk4
      have HE4 := Lib.hid (show W4.ownsRow W0.heap.size 2 1 (.slice b4 (m + 2 * (j + 1)) c4) (m + 2 * (j + 1)) ((idxs (EJ j ++ [0, i + 1])).map I64) by subst hW4; exact hown4)
      have HO4 := Lib.hid (show W4.ownsRow W0.heap.size 2 1 (.slice (some ⟨ob, 0, none⟩) n1 oc) n1 ((idxs L).map I64) by subst hW4; exact hO4.1)
      have HD4 := Lib.hid hO4.2
      have HX4 := Lib.hid (show Below W0.heap.size W0 W4 by subst hW4; exact (HX.out.alloc hzx _).trans hbl4)
      have HC4 := Lib.hid (HWJ.out W4 HX4.out)
      have d0 := (HK0.out.below HX4.out hk0).cell
      clear hW4 hO4 hown4 hbl4 hgr4 hbk4 co
      go_wp2_with (refine HC4.out.mono ?_; rintro e w5 ⟨rfl, q5, rfl⟩)
      go_roundw
      case rel => exact ⟨j + 1, b4, c4, by go_num, by omega, rfl, by rw [HNE.out], Lib.hid (by rw [HEE.out]; exact HE4.out), Lib.hid HO4.out, HD4, Lib.hid (below_drewN HX4.out q5)⟩
      case measure => simp [intOf]; omega
    · obtain rfl : j = 2 := by omega
      go_wp2_with fail
      go_ret2
      exact ⟨_, rfl, OwnI.mk (n := m + 2 * 2) (owns_base HE.out hz0), HB0.out.trans (HX.out.mono hz0)⟩
end Go.Proofs.YtgkbbpajkbkgnaaGreatDoor
