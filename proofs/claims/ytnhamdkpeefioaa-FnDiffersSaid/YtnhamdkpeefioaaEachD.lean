/-
  Choices: the program tells each one to a function: all numbers are of their domains.
-/
import Derived.Test.YtnhamdkpeefioaaEachC
namespace Go.Proofs.Ytnhamdkpeefioaa
open Go.RowKit

/-- Each number is of its domain. -/
def InD (D : List (List Int)) (s : List Int) : Prop := ∀ i, i < s.length → s.getD i 0 ∈ D.getD i []
theorem InD.nil (D : List (List Int)) : InD D [] := by intro i hi; simp at hi
theorem getD_mem {d : List Int} {k : Nat} (h : k < d.length) : d.getD k 0 ∈ d := by
  have : d.getD k 0 = d[k] := by simp [h]
  rw [this]; exact List.getElem_mem h
theorem InD.snoc {D : List (List Int)} {s : List Int} {x : Int} (h : InD D s) (hx : x ∈ D.getD s.length []) : InD D (s ++ [x]) := by
  intro i hi
  simp only [List.length_append, List.length_singleton] at hi
  by_cases he : i = s.length
  · subst he; simpa using hx
  · have hl : i < s.length := by omega
    have := h i hl
    simpa [List.getElem?_append_left hl] using this

set_option maxHeartbeats 1000000 in
theorem eachChoiceD_any (dv : Value) (D : List (List Int)) (hD : ValD D) (w0 : World) (hrd : RdL w0 dv D) (g : FuncId) (hent : ∀ (args : Array Value) (w : World), (callFunc g args).run Try.prog w = .ok (.enter g args) w) (caps : Array Value) (B0 : Nat) (S : Nat → Prop) (hS : ∀ b, S b → w0.heap.size ≤ b ∧ b < B0) (I : List (List Int) → World → Prop)
    (hI : ∀ done w w', I done w → Below w.heap.size w w' → I done w')
    (hT : ∀ done (s : List Int) (a : Option Addr) (cap m : Nat) (w : World), InD D s → s.length = m → m = D.length → w.ownsRow B0 2 1 (.slice a m cap) m (s.map I64) → done.length ≤ 16777216 → I done w →
      Calls Try.prog g (#[.slice a m cap] ++ caps) w fun e w' => e = .returned (.tuple #[]) ∧ I (done ++ [s]) w' ∧ Kept S w w')
    (f : Nat) : ∀ (a : Option Addr) (cap : Nat) (now : List Int) (w : World) (done : List (List Int)) (m : Nat), InD D now → now.length = m →
    now.length + f = D.length → B0 ≤ w.heap.size → Below w0.heap.size w0 w → w.ownsRow B0 2 1 (.slice a m cap) m (now.map I64) → I done w → done.length + (choi D f now).length ≤ 16777216 →
    Calls Try.prog 77 #[dv, .slice a m cap, .func (.func g) #[] caps] w fun e w' =>
      e = .returned (.tuple #[]) ∧ I (done ++ choi D f now) w' ∧ Kept S w w' := by
  obtain ⟨da, dc, rfl⟩ := hrd.shape
  have hD6 := hD.2.1
  have HD := Lib.hid hD
  have HRD := Lib.hid hrd
  clear hD hrd
  induction f with
  | zero =>
    intro a cap now w done m hin hm hlen hB hb0 hs hi hcount
    subst hm
    have hnl : ((now.length : Int) == (D.length : Int)) = true := by simp; omega
    have HS := Lib.hid hs
    have HT := Lib.hid (hT done now a cap now.length w hin rfl hlen hs (by omega) hi)
    clear hs hT hI hi hb0 hin
    go_enter Try.func77, Try.ntmps77
    go_wp2_with fail
    refine HT.out.mono ?_
    rintro e w1 ⟨rfl, hi1, hk1⟩
    have HI1 := Lib.hid hi1
    have HK1 := Lib.hid hk1
    clear hi1 hk1 HT
    go_wp2_with fail
    refine bodyPost_ret (results_none rfl _ _ _) rfl ?_
    exact ⟨rfl, by simpa [choi] using HI1.out, HK1.out⟩
  | succ f ih =>
    intro a cap now w done m hin hm hlen hB hb0 hs hi hcount
    subst hm
    have hnl : ((now.length : Int) == (D.length : Int)) = false := by rw [beq_eq_false_iff_ne]; omega
    have hnl8 : now.length < D.length := by omega
    obtain ⟨db, dof, u, rfl, _, hc00, hu⟩ := HRD.out.at hnl8
    have hc0 := held_of hb0 hc00 (Nat.le_refl _)
    clear hc00
    have hd8 := (HD.out.2.2 now.length hnl8).2.1
    have HCS := Lib.hid (choi_succ D f now)
    have HCP := Lib.hid (cPart_succ D f now)
    have HPRE := Lib.hid (cPart_pre D f now)
    obtain ⟨d, hd⟩ : ∃ d, d = D.getD now.length [] := ⟨_, rfl⟩
    rw [← hd] at hu hd8 HCS HCP HPRE
    have HDD := Lib.hid hd
    have HIN := Lib.hid hin
    clear hin
    obtain ⟨ua, uc, rfl⟩ := hu.shape
    have HU := Lib.hid hu
    have HB0 := Lib.hid hb0
    have HS := Lib.hid hs
    have HII := Lib.hid hi
    have HC := Lib.hid hcount
    have HT := Lib.hid hT
    have HI := Lib.hid hI
    have HIH := Lib.hid ih
    have HL := Lib.hid hlen
    have HSS := Lib.hid hS
    clear hs hT hI ih hlen hi hcount hS hd hb0 hu
    go_enter Try.func77, Try.ntmps77
    go_wp2_with fail
    go_loopw [22] (fun c wr => ∃ k : Nat, c = .int .i64 k ∧ k ≤ d.length ∧ I (done ++ cPart D f now k) wr ∧ Kept S w wr)
      (fun c _ => d.length - (intOf c).toNat)
    case atStart => exact ⟨0, rfl, Nat.zero_le _, by simpa [cPart] using HII.out, Kept.refl _ _⟩
    case round =>
      obtain ⟨k, rfl, hk, hi1, hkp⟩ := hrel
      have HS1 := Lib.hid (owns_kept HS.out hkp (fun b hb => by have := (owns_lt HS.out hb).1; intro hs; have := (HSS.out b hs).2; omega))
      have HB1 := Lib.hid (keptUp HB0.out hkp (fun b hb => (HSS.out b hb).1))
      have HI1 := Lib.hid hi1
      have HK1 := Lib.hid hkp
      have hsz1 := hkp.size
      clear hi1 hkp
      by_cases hlt : k < d.length
      · obtain ⟨ub, uo, rfl, _, hc1⟩ := (HU.out.up HB1.out (Nat.le_refl _)).at hlt
        have HP := Lib.hid (HCP.out k hlt)
        have HPL := Lib.hid (HPRE.out (k + 1) (d.length - (k + 1)) (by omega))
        obtain ⟨x, hx⟩ : ∃ x, x = d.getD k 0 := ⟨_, rfl⟩
        rw [← hx] at hc1 HP
        have HIN2 := Lib.hid (HIN.out.snoc (x := x) (by rw [hx, HDD.out]; exact getD_mem (by rw [← HDD.out]; exact hlt)))
        clear hx
        by_cases hq : hasB now x = true
        · go_wp2_with (go_at_call 151; refine (has_any _ now x _ (slc_of_owns HS1.out)).mono ?_; rintro e w' ⟨rfl, rfl⟩)
          go_roundw
          case rel => exact ⟨k + 1, by go_num, by omega, by rw [HP.out, if_pos (show now.contains x = true from hq), List.append_nil]; exact HI1.out, HK1.out⟩
          case measure => simp [intOf]; omega
        · have hq' : hasB now x = false := by simpa using hq
          have hnq : ¬ now.contains x = true := hq
          have HCNT := Lib.hid (show (done ++ cPart D f now k).length + (choi D f (now ++ [x])).length ≤ 16777216 by
            have h1 := HC.out
            rw [HCS.out] at h1
            obtain ⟨m, hm⟩ := HPL.out
            rw [show k + 1 + (d.length - (k + 1)) = d.length by omega, HP.out, if_neg hnq] at hm
            rw [hm] at h1
            simp only [List.length_append] at h1 ⊢
            omega)
          go_wp2_with (first
            | (go_at_call 151; refine (has_any _ now x _ (slc_of_owns HS1.out)).mono ?_; rintro e w' ⟨rfl, rfl⟩))
          refine (copyInts_any a cap now wr (slc_of_owns HS1.out) (by omega)).mono ?_
          rintro e w1 ⟨g1, cap1, rfl, hown, hbl⟩
          have hszw := hbl.size
          go_wp2_with (at_builtin; refine app_own rfl _ _ rfl wr.heap.size ⟨g1, 0, none⟩ now.length cap1 now rfl (hown.alloc _) _ [x] rfl (slc_one _ _) (now.length + 1) (now ++ [x]) (by simp) (by simp) (by omega) (by simp; omega) ?_; intro g2 cap2 w2 hown2 hbl2 hg2)
          have hbel : Below wr.heap.size wr w2 := hbl.trans (((Below.refl _ _).alloc (by omega) _).trans hbl2)
          have hbB : B0 ≤ wr.heap.size := Nat.le_trans hB HK1.out.size
          have HIH1 := Lib.hid (HIH.out (some ⟨g2, 0, none⟩) cap2 (now ++ [x]) w2 (done ++ cPart D f now k) (now.length + 1) HIN2.out (by simp) (by have := HL.out; simp; omega) (by have := hbel.size; omega) (HB1.out.trans (hbel.mono HB1.out.size)) (owns_base hown2 hbB)
            (HI.out _ _ _ HI1.out hbel) HCNT.out)
          clear hown hown2 hbl hbl2 hg2
          refine HIH1.out.mono ?_
          rintro e w3 ⟨rfl, hi2, hkp2⟩
          have HI2 := Lib.hid hi2
          have HK2 := Lib.hid hkp2
          clear hi2 hkp2 HIH1
          go_wp2_with fail
          go_roundw
          case rel => exact ⟨k + 1, by go_num, by omega, by rw [HP.out, if_neg hnq, ← List.append_assoc]; exact HI2.out, (HK1.out.below hbel HK1.out.size).trans HK2.out⟩
          case measure => simp [intOf]; omega
      · obtain rfl : k = d.length := by omega
        go_wp2_with fail
        go_end0
        exact ⟨rfl, by rw [HCS.out]; exact HI1.out, HK1.out⟩

end Go.Proofs.Ytnhamdkpeefioaa
