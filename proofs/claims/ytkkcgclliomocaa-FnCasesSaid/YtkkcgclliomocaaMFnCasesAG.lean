/-
  FnCases: texts joined: CaseVS, StoreS, StoreT, ReadM.
-/
import Derived.Lib.ConvBytes
import Derived.Test.YtkkcgclliomocaaMFnCasesAF
namespace Go.Proofs.Ytkkcgclliomocaa
open Go.RowKit

theorem specClause_b (q : Bool) (n : Int) (v : Value) (xs : List Int) (w : World) (h : RdI w v xs) (hq : clauseB n xs = q) :
    Calls Try.prog 130 #[.int .i64 n, v] w fun e w' => e = .returned (.bool q) ∧ Below w.heap.size w w' := by
  have := specClause_any n v xs w h
  rwa [hq] at this

set_option maxHeartbeats 2000000 in
theorem specIs_any (b off : Nat) (f : FormD) (a : Option Addr) (c : Nat) (w : World) (x0 : w.cell? ⟨b, off, none⟩ = some (.int .i64 f.letters)) (x1 : w.cell? ⟨b, off + 1, none⟩ = some (.slice a f.clauses.length c)) (h : RdL w (.slice a f.clauses.length c) f.clauses) :
    Calls Try.prog 129 #[.pointer (some ⟨b, off, none⟩)] w fun e w' => e = .returned (.bool (formB f)) ∧ Below w.heap.size w w' := by
  obtain ⟨n, xs⟩ := f
  simp only at x0 x1 h ⊢
  have hl := h.len
  unfold maxLen at hl
  have HS := Lib.hid h
  clear h
  by_cases hn : inB 1 10 n = true
  · have HN := Lib.hid hn
    clear hn
    by_cases h48 : xs.length ≤ 48
    · go_enter Try.func129, Try.ntmps129
      go_wp2_with (go_at_call 147; refine (specLetters_any _ _).mono ?_; rintro e w' ⟨rfl, rfl⟩; rw [HN.out])
      obtain ⟨wo, hwo⟩ : ∃ wo, wo = w := ⟨w, rfl⟩
      go_loopw [23] (fun i wr => ∃ k : Nat, i = .int .i64 k ∧ k ≤ xs.length ∧ Hid (∀ j, j < k → clauseB n (xs.getD j []) = true) ∧ Hid (Below w.heap.size w wr)) (fun i _ => xs.length - (intOf i).toNat)
      case atStart => exact ⟨0, rfl, Nat.zero_le _, fun j hj => by omega, Below.refl _ _⟩
      case round =>
        obtain ⟨k, rfl, hk, hall, HB⟩ := hrel
        by_cases hlt : k < xs.length
        · obtain ⟨g, of, u, rfl, hb0, hc, hu⟩ := HS.out.at hlt
          have HU := Lib.hid hu
          have hno := Lib.hid (show clauseB n (xs.getD k []) = false → formB ⟨n, xs⟩ = false from fun h => by unfold formB; rw [allB_false hlt h, Bool.and_false])
          have hok := Lib.hid (show clauseB n (xs.getD k []) = true → ∀ j, j < k + 1 → clauseB n (xs.getD j []) = true from fun h j hj => by
            by_cases hjk : j < k
            · exact hall.out j hjk
            · obtain rfl : j = k := by omega
              exact h)
          clear hu
          cases hq : clauseB n (xs.getD k [])
          · have hg := Lib.hid (hno.out hq)
            have HQ := Lib.hid hq
            clear hq
            go_wp2_with fail
            refine wp_region_cls (fun X => X.cell? ⟨b, off, none⟩ = some (.int .i64 n) ∧ X.cell? ⟨b, off + 1, none⟩ = some (.slice (some ⟨g, of, none⟩) xs.length c) ∧ X.cell? ⟨g, of + k, none⟩ = some u ∧ Hid (Below w.heap.size w X)) (by kernel_rfl) (by kernel_rfl) (⟨held_of HB.out x0 (Nat.le_refl _), held_of HB.out x1 (Nat.le_refl _), held_of HB.out hc (Nat.le_refl _), HB.out.drew⟩) ?_
            repeat (first
              | go_big_quiet_skip
              | (go_big_quiet_want
                 apply Exists.intro
                 refine ⟨fun X hX => ?_, ?_⟩
                 · (try dsimp only at hX)
                   go_simp
                   (first | with_reducible rfl | done | (go_at_call 130; have hcur := hX.2.2.2; refine (specClause_b _ _ _ _ _ (HU.out.up hcur.out (Nat.le_refl _)) HQ.out).mono ?_; rintro e w1 ⟨rfl, hb1⟩; have hbn := hcur.out.trans (hb1.mono hcur.out.size); exact ⟨rfl, held_of hbn x0 (Nat.le_refl _), held_of hbn x1 (Nat.le_refl _), held_of hbn hc (Nat.le_refl _), hbn⟩))
                 go_big_quiet_on
                 (try simp only [Act.put, List.setIfInBounds_toArray, List.set_cons_zero, List.set_cons_succ])))
            refine wpQuiet_nil ?_
            intro w1 hC
            (try dsimp only at hC)
            go_wp2_with fail
            go_ret
            exact ⟨by rw [hg.out]; rfl, hC.2.2.2.out⟩
          · have hg := Lib.hid (hok.out hq)
            have HQ := Lib.hid hq
            clear hq
            go_wp2_with fail
            refine wp_region_cls (fun X => X.cell? ⟨b, off, none⟩ = some (.int .i64 n) ∧ X.cell? ⟨b, off + 1, none⟩ = some (.slice (some ⟨g, of, none⟩) xs.length c) ∧ X.cell? ⟨g, of + k, none⟩ = some u ∧ Hid (Below w.heap.size w X)) (by kernel_rfl) (by kernel_rfl) (⟨held_of HB.out x0 (Nat.le_refl _), held_of HB.out x1 (Nat.le_refl _), held_of HB.out hc (Nat.le_refl _), HB.out.drew⟩) ?_
            repeat (first
              | go_big_quiet_skip
              | (go_big_quiet_want
                 apply Exists.intro
                 refine ⟨fun X hX => ?_, ?_⟩
                 · (try dsimp only at hX)
                   go_simp
                   (first | with_reducible rfl | done | (go_at_call 130; have hcur := hX.2.2.2; refine (specClause_b _ _ _ _ _ (HU.out.up hcur.out (Nat.le_refl _)) HQ.out).mono ?_; rintro e w1 ⟨rfl, hb1⟩; have hbn := hcur.out.trans (hb1.mono hcur.out.size); exact ⟨rfl, held_of hbn x0 (Nat.le_refl _), held_of hbn x1 (Nat.le_refl _), held_of hbn hc (Nat.le_refl _), hbn⟩))
                 go_big_quiet_on
                 (try simp only [Act.put, List.setIfInBounds_toArray, List.set_cons_zero, List.set_cons_succ])))
            refine wpQuiet_nil ?_
            intro w1 hC
            (try dsimp only at hC)
            go_wp2_with fail
            go_roundw
            case rel => exact ⟨k + 1, by go_num, by omega, hg.out, hC.2.2.2⟩
            case measure => simp [intOf]; omega
        · obtain rfl : k = xs.length := by omega
          go_wp2_with fail
          go_ret
          exact ⟨by rw [show formB ⟨n, xs⟩ = true by unfold formB; simp only [HN.out, Bool.true_and]; rw [allB_true hall.out]; simp [h48]]; rfl, HB.out⟩
    · go_enter Try.func129, Try.ntmps129
      go_wp2_with (go_at_call 147; refine (specLetters_any _ _).mono ?_; rintro e w' ⟨rfl, rfl⟩; rw [HN.out])
      go_ret
      exact ⟨by rw [show formB ⟨n, xs⟩ = false by unfold formB; simp only [h48, decide_false, Bool.and_false, Bool.false_and]]; rfl, Below.refl _ _⟩
  · have HN := Lib.hid (bool_false hn)
    clear hn
    go_enter Try.func129, Try.ntmps129
    go_wp2_with (go_at_call 147; refine (specLetters_any _ _).mono ?_; rintro e w' ⟨rfl, rfl⟩; rw [HN.out])
    go_ret
    exact ⟨by rw [show formB ⟨n, xs⟩ = false by unfold formB; simp only [HN.out, Bool.false_and]]; rfl, Below.refl _ _⟩

set_option maxHeartbeats 2000000 in
theorem specCase_any (b off : Nat) (d : CaseD) (a1 a2 : Option Addr) (c1 c2 : Nat) (w : World) (x0 : w.cell? ⟨b, off, none⟩ = some (.string d.name)) (x1 : w.cell? ⟨b, off + 1, none⟩ = some (.int .i64 d.form.letters)) (x2 : w.cell? ⟨b, off + 2, none⟩ = some (.slice a1 d.form.clauses.length c1)) (x3 : w.cell? ⟨b, off + 3, none⟩ = some (.slice a2 d.proof.length c2))
    (h : RdCs w (.agg #[.string d.name, .int .i64 d.form.letters, .slice a1 d.form.clauses.length c1, .slice a2 d.proof.length c2]) d) :
    Calls Try.prog 112 #[.pointer (some ⟨b, off, none⟩)] w fun e w' => e = .returned (.bool (caseB d)) ∧ Below w.heap.size w w' := by
  obtain ⟨p, q, hns⟩ := h.parts
  obtain ⟨nm, f, xs⟩ := d
  simp only at x0 x1 x2 x3 p q hns ⊢
  have hl := q.len
  unfold maxLen at hl
  have HF := Lib.hid p.parts
  have HS := Lib.hid q
  have HNS := Lib.hid hns
  clear h p q hns
  by_cases hn : nameB nm = true
  · have HN := Lib.hid hn
    clear hn
    by_cases hf : formB f = true
    · have HFB := Lib.hid hf
      clear hf
      by_cases h128 : xs.length ≤ 128
      · go_enter Try.func112, Try.ntmps112
        go_wp2_with (go_at_call 128; refine (specIsName_any _ _ HNS.out).mono ?_; rintro e w' ⟨rfl, rfl⟩; rw [HN.out])
        refine (specIs_any b (off + 1) f a1 c1 w x1 x2 HF.out).mono ?_
        rintro e w1 ⟨rfl, hb1⟩
        rw [HFB.out]
        have HB1 := Lib.hid hb1
        have y3 : w1.cell? ⟨b, off + 3, none⟩ = some (.slice a2 xs.length c2) := held_of hb1 x3 (Nat.le_refl _)
        clear hb1
        go_wp2_with fail
        go_loopw [30] (fun i wr => ∃ k : Nat, i = .int .i64 k ∧ k ≤ xs.length ∧ Hid (∀ j, j < k → clauseB f.letters (xs.getD j []) = true) ∧ Hid (Below w.heap.size w wr)) (fun i _ => xs.length - (intOf i).toNat)
        case atStart => exact ⟨0, rfl, Nat.zero_le _, fun j hj => by omega, HB1.out⟩
        case round =>
          obtain ⟨k, rfl, hk, hall, HB⟩ := hrel
          by_cases hlt : k < xs.length
          · obtain ⟨g, of, u, rfl, hb0, hc, hu⟩ := HS.out.at hlt
            have HU := Lib.hid hu
            have hno := Lib.hid (show clauseB f.letters (xs.getD k []) = false → caseB ⟨nm, f, xs⟩ = false from fun h => by unfold caseB; rw [allB_false hlt h, Bool.and_false])
            have hok := Lib.hid (show clauseB f.letters (xs.getD k []) = true → ∀ j, j < k + 1 → clauseB f.letters (xs.getD j []) = true from fun h j hj => by
              by_cases hjk : j < k
              · exact hall.out j hjk
              · obtain rfl : j = k := by omega
                exact h)
            clear hu
            cases hq : clauseB f.letters (xs.getD k [])
            · have hg := Lib.hid (hno.out hq)
              have HQ := Lib.hid hq
              clear hq
              go_wp2_with fail
              refine wp_region_cls (fun X => X.cell? ⟨b, off + 1, none⟩ = some (.int .i64 f.letters) ∧ X.cell? ⟨b, off + 3, none⟩ = some (.slice (some ⟨g, of, none⟩) xs.length c2) ∧ X.cell? ⟨g, of + k, none⟩ = some u ∧ Hid (Below w.heap.size w X)) (by kernel_rfl) (by kernel_rfl) (⟨held_of HB.out x1 (Nat.le_refl _), held_of HB.out x3 (Nat.le_refl _), held_of HB.out hc (Nat.le_refl _), HB.out.drew⟩) ?_
              repeat (first
                | go_big_quiet_skip
                | (go_big_quiet_want
                   apply Exists.intro
                   refine ⟨fun X hX => ?_, ?_⟩
                   · (try dsimp only at hX)
                     go_simp
                     (first | with_reducible rfl | done | (go_at_call 130; have hcur := hX.2.2.2; refine (specClause_b _ _ _ _ _ (HU.out.up hcur.out (Nat.le_refl _)) HQ.out).mono ?_; rintro e w1 ⟨rfl, hb1⟩; have hbn := hcur.out.trans (hb1.mono hcur.out.size); exact ⟨rfl, held_of hbn x1 (Nat.le_refl _), held_of hbn x3 (Nat.le_refl _), held_of hbn hc (Nat.le_refl _), hbn⟩))
                   go_big_quiet_on
                   (try simp only [Act.put, List.setIfInBounds_toArray, List.set_cons_zero, List.set_cons_succ])))
              refine wpQuiet_nil ?_
              intro w1 hC
              (try dsimp only at hC)
              go_wp2_with fail
              go_ret
              exact ⟨by rw [hg.out]; rfl, hC.2.2.2.out⟩
            · have hg := Lib.hid (hok.out hq)
              have HQ := Lib.hid hq
              clear hq
              go_wp2_with fail
              refine wp_region_cls (fun X => X.cell? ⟨b, off + 1, none⟩ = some (.int .i64 f.letters) ∧ X.cell? ⟨b, off + 3, none⟩ = some (.slice (some ⟨g, of, none⟩) xs.length c2) ∧ X.cell? ⟨g, of + k, none⟩ = some u ∧ Hid (Below w.heap.size w X)) (by kernel_rfl) (by kernel_rfl) (⟨held_of HB.out x1 (Nat.le_refl _), held_of HB.out x3 (Nat.le_refl _), held_of HB.out hc (Nat.le_refl _), HB.out.drew⟩) ?_
              repeat (first
                | go_big_quiet_skip
                | (go_big_quiet_want
                   apply Exists.intro
                   refine ⟨fun X hX => ?_, ?_⟩
                   · (try dsimp only at hX)
                     go_simp
                     (first | with_reducible rfl | done | (go_at_call 130; have hcur := hX.2.2.2; refine (specClause_b _ _ _ _ _ (HU.out.up hcur.out (Nat.le_refl _)) HQ.out).mono ?_; rintro e w1 ⟨rfl, hb1⟩; have hbn := hcur.out.trans (hb1.mono hcur.out.size); exact ⟨rfl, held_of hbn x1 (Nat.le_refl _), held_of hbn x3 (Nat.le_refl _), held_of hbn hc (Nat.le_refl _), hbn⟩))
                   go_big_quiet_on
                   (try simp only [Act.put, List.setIfInBounds_toArray, List.set_cons_zero, List.set_cons_succ])))
              refine wpQuiet_nil ?_
              intro w1 hC
              (try dsimp only at hC)
              go_wp2_with fail
              go_roundw
              case rel => exact ⟨k + 1, by go_num, by omega, hg.out, hC.2.2.2⟩
              case measure => simp [intOf]; omega
          · obtain rfl : k = xs.length := by omega
            go_wp2_with fail
            go_ret
            exact ⟨by rw [show caseB ⟨nm, f, xs⟩ = true by unfold caseB; simp only [HN.out, HFB.out, Bool.true_and]; rw [allB_true hall.out]; simp [h128]]; rfl, HB.out⟩
      · go_enter Try.func112, Try.ntmps112
        go_wp2_with (go_at_call 128; refine (specIsName_any _ _ HNS.out).mono ?_; rintro e w' ⟨rfl, rfl⟩; rw [HN.out])
        refine (specIs_any b (off + 1) f a1 c1 w x1 x2 HF.out).mono ?_
        rintro e w1 ⟨rfl, hb1⟩
        rw [HFB.out]
        have HB1 := Lib.hid hb1
        have y3 : w1.cell? ⟨b, off + 3, none⟩ = some (.slice a2 xs.length c2) := held_of hb1 x3 (Nat.le_refl _)
        clear hb1
        go_wp2_with fail
        go_ret
        exact ⟨by rw [show caseB ⟨nm, f, xs⟩ = false by unfold caseB; simp only [h128, decide_false, Bool.and_false, Bool.false_and]]; rfl, HB1.out⟩
    · have HFB := Lib.hid (bool_false hf)
      clear hf
      go_enter Try.func112, Try.ntmps112
      go_wp2_with (go_at_call 128; refine (specIsName_any _ _ HNS.out).mono ?_; rintro e w' ⟨rfl, rfl⟩; rw [HN.out])
      refine (specIs_any b (off + 1) f a1 c1 w x1 x2 HF.out).mono ?_
      rintro e w1 ⟨rfl, hb1⟩
      rw [HFB.out]
      have HB1 := Lib.hid hb1
      clear hb1
      go_wp2_with fail
      go_ret
      exact ⟨by rw [show caseB ⟨nm, f, xs⟩ = false by unfold caseB; simp only [HFB.out, Bool.and_false, Bool.false_and]]; rfl, HB1.out⟩
  · have HN := Lib.hid (bool_false hn)
    clear hn
    go_enter Try.func112, Try.ntmps112
    go_wp2_with (go_at_call 128; refine (specIsName_any _ _ HNS.out).mono ?_; rintro e w' ⟨rfl, rfl⟩; rw [HN.out])
    go_ret
    exact ⟨by rw [show caseB ⟨nm, f, xs⟩ = false by unfold caseB; simp only [HN.out, Bool.false_and]]; rfl, Below.refl _ _⟩

end Go.Proofs.Ytkkcgclliomocaa

namespace Go.Proofs.Ytkkcgclliomocaa
open Go.RowKit

theorem by8_add (x : Int) : by8 (x + 256) = by8 x := by rw [by8_eq, by8_eq]; omega
theorem lit_bd {n : Int} {xs : List Int} (h : clauseB n xs = true) {i : Nat} (hi : i < xs.length) : -10 ≤ xs.getD i 0 ∧ xs.getD i 0 ≤ 10 := by
  unfold clauseB at h
  simp only [Bool.and_eq_true] at h
  have h1 := allB_iff.1 h.2 i hi
  unfold okAt litB at h1
  simp only [Bool.and_eq_true] at h1
  have h2 := inB_iff.1 h1.1.2
  have h3 := inB_iff.1 h.1
  omega

set_option maxHeartbeats 4000000 in
set_option maxRecDepth 8000 in
theorem l07Clauses_any (base n : Nat) (a : Option Addr) (cap : Nat) (xs : List Int) (cv : Value) (L : List (List Int)) (t : Int) (w : World) (hown : w.ownsRow base 5 1 (.slice a n cap) n (xs.map B8)) (h0 : 0 < n) (hn : n ≤ 10000) (hbase : base ≤ w.heap.size)
    (hL : ∀ w', Below base w w' → RdL w' cv L) (hl : L.length ≤ 200) (hc : ∀ x ∈ L, clauseB t x = true) :
    Calls Try.prog 131 #[.slice a n cap, cv] w fun e w' => ∃ a' m cap', e = .returned (.slice a' m cap') ∧ n ≤ m ∧ m ≤ n + 11 * L.length ∧ w'.ownsRow base 5 1 (.slice a' m cap') m ((xs ++ clausesBytes L).map B8) ∧ Below base w w' := by
  obtain ⟨ca, cc, rfl⟩ := (hL w (Below.refl _ _)).shape
  have HO0 := Lib.hid hown
  have HL := Lib.hid hL
  have HC := Lib.hid hc
  clear hown hL hc
  go_enter Try.func131, Try.ntmps131
  go_wp2_with fail
  go_loopw [0, 9] (fun o i wr => ∃ (k m : Nat) (a : Option Addr) (cap : Nat), i = .int .i64 k ∧ k ≤ L.length ∧ o = .slice a m cap ∧ n ≤ m ∧ m ≤ n + 11 * k ∧ Hid (wr.ownsRow base 5 1 (.slice a m cap) m ((xs ++ clausesBytes (L.take k)).map B8)) ∧ Hid (Below base w wr)) (fun _ i _ => L.length - (intOf i).toNat)
  case atStart => exact ⟨0, n, a, cap, rfl, Nat.zero_le _, rfl, by omega, by omega, by rw [show clausesBytes (L.take 0) = [] from rfl, List.append_nil]; exact HO0, Below.refl _ _⟩
  case round =>
    obtain ⟨k, m, a1, cap1, rfl, hk, rfl, hm1, hm2, HO, HB⟩ := hrel
    have hzr := HB.out.size
    by_cases hlt : k < L.length
    · obtain ⟨b, off, u, rfl, hb0, hcu, hu⟩ := (HL.out wr HB.out).at hlt
      have HSN := Lib.hid (clausesBytes_snoc L k hlt)
      have hcb := HC.out (L.getD k []) (by rw [show L.getD k [] = L[k] by simp [hlt]]; exact List.getElem_mem hlt)
      have HLIT := Lib.hid (fun (i : Nat) (hi : i < (L.getD k []).length) => lit_bd hcb hi)
      have hcl := clause_len hcb
      have HAT := Lib.hid (fun (w' : World) (hb : Below base w w') => by
        obtain ⟨_, _, u', e, _, h2, h3⟩ := (HL.out w' hb).at hlt
        simp only [Option.some.injEq, Addr.mk.injEq, and_true] at e
        obtain ⟨rfl, rfl⟩ := e
        exact (⟨u', h2, h3⟩ : ∃ u, w'.cell? ⟨b, off + k, none⟩ = some u ∧ RdI w' u (L.getD k [])))
      obtain ⟨c, hcc⟩ : ∃ c, c = L.getD k [] := ⟨_, rfl⟩
      rw [← hcc] at hu HSN hcl HLIT HAT
      clear hcc hcb
      obtain ⟨ua, uc, rfl⟩ := hu.shape
      have HC0 := Lib.hid (show (clauseBytes c).take 1 = [(c.length : Int)] by unfold clauseBytes; rw [by8_eq, show ((c.length : Int) % 256) = c.length by omega]; rfl)
      have hltI : (k : Int) < (L.length : Int) := by omega
      clear hu
      go_upto_region 5 with (at_builtin; refine app_bytes rfl _ _ rfl base _ m (xs ++ clausesBytes (L.take k)) rfl (HO.out.alloc _) _ [(c.length : Int)] rfl (slcB_lit _ [(c.length : Int)] 1 _ _ rfl rfl (by omega) rfl) (m + 1) (xs ++ clausesBytes (L.take k) ++ (clauseBytes c).take 1) rfl (by rw [HC0.out]) (by omega) (by simp; omega) ?_; intro g6 cap6 w6 ho6 hb6 _)
      have HB6 := Lib.hid (HB.out.trans (((Below.refl _ _).alloc (by omega) _).trans hb6))
      have HO6 := Lib.hid ho6
      clear hcu ho6 hb6
      obtain ⟨u6, h6a, h6b⟩ := HAT.out w6 HB6.out
      obtain ⟨ua6, uc6, rfl⟩ := h6b.shape
      clear h6b
      go_wp2_with fail
      go_loopw [0, 26] (fun o i wr => ∃ (j m2 : Nat) (a : Option Addr) (cap : Nat), i = .int .i64 j ∧ j ≤ c.length ∧ o = .slice a m2 cap ∧ n ≤ m2 ∧ m2 ≤ n + 11 * k + 1 + j ∧ Hid (wr.ownsRow base 5 1 (.slice a m2 cap) m2 ((xs ++ clausesBytes (L.take k) ++ (clauseBytes c).take (j + 1)).map B8)) ∧ Hid (Below base w wr)) (fun _ i _ => c.length - (intOf i).toNat)
      case atStart => exact ⟨0, m + 1, g6, cap6, rfl, Nat.zero_le _, rfl, by omega, by omega, HO6, HB6⟩
      case round =>
        obtain ⟨j, m2, a7, cap7, rfl, hj, rfl, hm3, hm4, HO7, HB7⟩ := hrel
        have hzr2 := HB7.out.size
        by_cases hjl : j < c.length
        · obtain ⟨u7, h7a, h7b⟩ := HAT.out wr HB7.out
          obtain ⟨ua7, uc7, rfl⟩ := h7b.shape
          obtain ⟨b2, off2, rfl, hb2, hcx⟩ := h7b.at hjl
          have HT := Lib.hid (clauseBytes_take c j hjl)
          have hxb := HLIT.out j hjl
          obtain ⟨x, hx⟩ : ∃ x, x = c.getD j 0 := ⟨_, rfl⟩
          rw [← hx] at hcx HT hxb
          clear hx h7b
          have hjlI : (j : Int) < (c.length : Int) := by omega
          go_wp2_with (at_builtin; refine app_bytes rfl _ _ rfl base _ m2 (xs ++ clausesBytes (L.take k) ++ (clauseBytes c).take (j + 1)) rfl (HO7.out.alloc _) _ [x % 256] rfl (slcB_lit _ [x % 256] 1 _ _ rfl rfl (by omega) rfl) (m2 + 1) (xs ++ clausesBytes (L.take k) ++ (clauseBytes c).take (j + 2)) rfl (by rw [HT.out, show x % 256 = by8 x from (by8_eq x).symm]; simp only [List.append_assoc]) (by omega) (by simp; omega) ?_; intro g8 cap8 w8 ho8 hb8 hg8)
          have HB8 := Lib.hid (HB7.out.trans (((Below.refl _ _).alloc (by omega) _).trans hb8))
          go_roundw
          case rel => exact ⟨j + 1, m2 + 1, g8, cap8, by go_num, by omega, rfl, by omega, by omega, ho8, HB8⟩
          case measure => simp [intOf]; omega
        · obtain rfl : j = c.length := by omega
          have HT := Lib.hid (show xs ++ clausesBytes (L.take k) ++ (clauseBytes c).take (c.length + 1) = xs ++ clausesBytes (L.take (k + 1)) by
            rw [HSN.out, List.append_assoc, show (clauseBytes c).take (c.length + 1) = clauseBytes c from List.take_of_length_le (by simp [clauseBytes])])
          rw [HT.out] at HO7
          go_wp2_with fail
          go_roundw
          case rel => exact ⟨k + 1, m2, a7, cap7, by go_num, by omega, rfl, by omega, by omega, HO7, HB7⟩
          case measure => simp [intOf]; omega
    · obtain rfl : k = L.length := by omega
      rw [List.take_length] at HO
      go_wp2_with fail
      go_ret
      exact ⟨_, _, _, rfl, hm1, hm2, HO.out, HB.out⟩

theorem bytesWorld_below (w : World) (s : ByteArray) : Below w.heap.size w (Lib.bytesWorld w 5 s) :=
  ⟨rfl, rfl, rfl, by rw [Lib.bytesWorld_size]; omega, fun k hk => Lib.bytesWorld_at_old w _ s k hk⟩
theorem slc_bytesWorld (w : World) (s : ByteArray) (hs : s.size ≤ 1000) : Slc (Lib.bytesWorld w 5 s) (.slice (some ⟨w.heap.size, 0, none⟩) s.size (grownCap w s.size 0 5)) ((bytesOf s).map B8) := by
  have hl : ((bytesOf s).map B8).length = s.size := by rw [List.length_map, bytesOf_len]
  right
  refine ⟨⟨w.heap.size, 0, none⟩, grownCap w s.size 0 5, by rw [hl], by rw [hl]; exact grownCap_ge _ _ _ _, grownCap_le_maxLen _ _ _ _ (by unfold maxLen; omega), fun i u hi => ?_⟩
  have hil : i < s.size := by rw [← hl]; exact (List.getElem?_eq_some_iff.1 hi).1
  rw [show (⟨w.heap.size, 0, none⟩ : Addr).add i = ⟨w.heap.size, i, none⟩ by unfold Addr.add; split <;> simp_all, Lib.bytesWorld_cell w _ s i hil]
  rw [List.getElem?_map, bytesOf_get s i hil] at hi
  simp only [Option.map_some, Option.some.injEq] at hi
  subst hi
  rw [getD_str s i hil]
  rfl

theorem step_app_bytes {w : World} {ops : Array Oper} {o : Oper} {a : Act} {K : Act → World → Prop} {Q : Exit → Act → World → Prop} {E : Prop} (hgd : o.guard = none) (s x : Operand)
    (ho : o.op = .call { callee := .builtin .append, args := #[s, x], argTypes := #[22, 22] })
    (base : Nat) (v : Value) (n : Nat) (xs : List Int) (hs : a.eval s = v) (hown : w.ownsRow base 5 1 v n (xs.map B8))
    (g k : Nat) (news : List Int) (hx : a.eval x = .slice (some ⟨g, 0, none⟩) k k) (hsv : Slc w (.slice (some ⟨g, 0, none⟩) k k) (news.map B8)) (m : Nat) (ys : List Int) (hm : m = n + news.length) (hys : ys = xs ++ news) (hlen : m ≤ 1099511627776) (hbase : base ≤ w.heap.size)
    (h : ∀ a' cap' w', w'.ownsRow base 5 1 (.slice a' m cap') m (ys.map B8) → Below base w w' → K (a.put o.dst (.slice a' m cap')) w') :
    if Region.wanted o (yielded ops a.tmps) = true then Oper.wp Try.prog o a w K Q else E := by
  have hw : Region.wanted o (yielded ops a.tmps) = true := by simp [Region.wanted, hgd]
  rw [if_pos hw]
  obtain ⟨i0, hi, hz0, hz1, hz2⟩ := info_parts Try.infoU8
  subst hm hys
  rcases hsv with ⟨e, _⟩ | ⟨ad, c, e, hcl, hcm, hc⟩
  · cases e
  · simp only [Value.slice.injEq, Option.some.injEq] at e
    obtain ⟨rfl, e2, rfl⟩ := e
    refine wp_append_own w s x 22 ho base 5 i0 (.int .u8 0) 1 1 Try.underlying22 hi hz0 hz1 hz2 rfl (by decide) v n (xs.map B8) hs hown ⟨g, 0, none⟩ k k (news.map B8) hx (by rw [← e2]; simp) hc (b8_one news) (by simp at e2; simp [maxLen]; omega) (by simp at e2; omega) hbase ?_
    intro v' w' h2 h3 h4
    simp only [List.length_map] at e2
    subst e2
    have h1' : w'.ownsRow base 5 1 v' (n + news.length) ((xs ++ news).map B8) := by simpa using h2
    obtain ⟨a', cap', rfl⟩ := owns_shape h1'
    exact h a' cap' w' h1' (below_grown hown hbase h3)

end Go.Proofs.Ytkkcgclliomocaa

namespace Go.Proofs.Ytkkcgclliomocaa
open Go.RowKit

set_option maxHeartbeats 4000000 in
set_option maxRecDepth 8000 in
theorem l07Store_any (bb o : Nat) (d : CaseD) (a1 a2 : Option Addr) (c1 c2 : Nat) (w : World) (x0 : w.cell? ⟨bb, o, none⟩ = some (.string d.name)) (x1 : w.cell? ⟨bb, o + 1, none⟩ = some (.int .i64 d.form.letters)) (x2 : w.cell? ⟨bb, o + 2, none⟩ = some (.slice a1 d.form.clauses.length c1)) (x3 : w.cell? ⟨bb, o + 3, none⟩ = some (.slice a2 d.proof.length c2))
    (h : RdCs w (.agg #[.string d.name, .int .i64 d.form.letters, .slice a1 d.form.clauses.length c1, .slice a2 d.proof.length c2]) d) (hq : caseB d = true) :
    Calls Try.prog 113 #[.pointer (some ⟨bb, o, none⟩)] w fun e w' => e = .returned (.string (storeS d)) ∧ Below w.heap.size w w' := by
  obtain ⟨p1, p2, p3⟩ := h.parts
  have hpf := p1.parts
  obtain ⟨s1, s2, s3, s4, s5⟩ := case_parts hq
  have HLB := Lib.hid (body_len hq)
  have HC1 := Lib.hid (fun x hx => s4 x (List.mem_append_left _ hx))
  have HC2 := Lib.hid (fun x hx => s4 x (List.mem_append_right _ hx))
  obtain ⟨nm, ⟨lt, cl⟩, pr⟩ := d
  simp only at p1 p2 p3 hpf s1 s2 s3 s5 HC1 HC2 x0 x1 x2 x3 ⊢
  have hlt := inB_iff.1 s5
  have HF := Lib.hid hpf
  have HR := Lib.hid p2
  have HHB := Lib.hid (show headBytes ⟨nm, ⟨lt, cl⟩, pr⟩ = [67, 65, 83, 49] ++ [(nm.size : Int)] ++ bytesOf nm ++ [by8 lt, by8 cl.length, by8 pr.length] by
    unfold headBytes
    rw [by8_eq (nm.size : Int), show ((nm.size : Int) % 256) = nm.size by omega])
  have HBB := Lib.hid (show bodyBytes ⟨nm, ⟨lt, cl⟩, pr⟩ = headBytes ⟨nm, ⟨lt, cl⟩, pr⟩ ++ clausesBytes cl ++ clausesBytes pr by
    unfold bodyBytes clausesBytes; rw [List.flatMap_append, List.append_assoc])
  have HSB := Lib.hid (show storeS ⟨nm, ⟨lt, cl⟩, pr⟩ = strOfNums (bodyBytes ⟨nm, ⟨lt, cl⟩, pr⟩ ++ [by8 (chkL 0 (bodyBytes ⟨nm, ⟨lt, cl⟩, pr⟩)), by8 (chkL 0 (bodyBytes ⟨nm, ⟨lt, cl⟩, pr⟩) / 256)]) from rfl)
  obtain ⟨BB, hBB⟩ : ∃ B, B = bodyBytes ⟨nm, ⟨lt, cl⟩, pr⟩ := ⟨_, rfl⟩
  obtain ⟨HH, hHH⟩ : ∃ B, B = headBytes ⟨nm, ⟨lt, cl⟩, pr⟩ := ⟨_, rfl⟩
  rw [← hBB] at HBB HSB HLB
  have HBR := Lib.hid (show AllB BB by rw [hBB]; exact body_rng _)
  rw [← hHH] at HHB HBB
  clear hBB hHH h hq p1 p2 p3 hpf s4 s5
  have HNL := Lib.hid (bytesOf_len nm)
  have X0 := Lib.hid x0
  have X1 := Lib.hid x1
  have X2 := Lib.hid x2
  have X3 := Lib.hid x3
  have dk : ∀ ob : Obj, (w.alloc ob).cell? ⟨bb, o, none⟩ = some (.string nm) := fun ob => Lib.cell?_alloc_marked ob x0
  have kc := fun (w : World) (C : Array Value) (n c : Nat) => Lib.run_convert_bytes_const (P := Try.prog) w 22 5 C n c Try.underlying22 Try.underlying5
  have ks := fun (w : World) => Lib.run_convert_string_bytes (P := Try.prog) w 9 22 5 nm Try.underlying9 Try.underlying22 Try.underlying5
  clear x1 x2 x3
  go_enter Try.func113, Try.ntmps113
  go_upto_region 2 with (at_builtin; refine app_bytes_grow rfl _ _ rfl w.heap.size w.heap.size 4 [67, 65, 83, 49] rfl (Slc.below (slcB_mark w [67, 65, 83, 49] 4 _ _ _ _ rfl rfl (by omega) rfl) ((Below.refl _ _).alloc (Nat.le_refl _) _) (Nat.le_refl _)) _ 1 [(nm.size : Int)] rfl (slcB_lit _ [(nm.size : Int)] 1 _ _ rfl rfl (by omega) (by simp)) (by decide) 5 ([67, 65, 83, 49] ++ [(nm.size : Int)]) rfl rfl (by omega) (by simp; omega) ?_; intro g1 cap1 w1 ho1 hb1)
  have hb1' : Below w.heap.size w w1 := (((Below.refl _ _).alloc (Nat.le_refl _) _).alloc (by simp) _).trans hb1
  have hz1 := hb1'.size
  have HB1 := Lib.hid hb1'
  have HO1 := Lib.hid ho1
  have d0 := held_of hb1' x0 (Nat.le_refl _)
  clear dk x0 ho1 hb1 hb1' kc
  go_upto_region 3 with (at_builtin; refine app_bytes rfl _ _ rfl w.heap.size _ 5 ([67, 65, 83, 49] ++ [(nm.size : Int)]) rfl (owns_below HO1.out (bytesWorld_below _ _) (Nat.le_refl _)) _ (bytesOf nm) rfl (slc_bytesWorld _ _ (by omega)) (5 + nm.size) ([67, 65, 83, 49] ++ [(nm.size : Int)] ++ bytesOf nm) (by rw [HNL.out]) rfl (by omega) (by rw [Lib.bytesWorld_size]; omega) ?_; intro g2 cap2 w2 ho2 hb2 _)
  have hb2' : Below w.heap.size w1 w2 := ((bytesWorld_below _ _).mono hz1).trans hb2
  have hz2 := hb2'.size
  have HB2 := Lib.hid (HB1.out.trans hb2')
  have HO2 := Lib.hid ho2
  clear ks d0 ho2 hb2 hb2'
  have y1 := held_of HB2.out X1.out (Nat.le_refl _)
  have y2 := held_of HB2.out X2.out (Nat.le_refl _)
  have y3 := held_of HB2.out X3.out (Nat.le_refl _)
  have HKEEP := Lib.hid (show ∀ X, Below w.heap.size w X → (fun X => X.cell? ⟨bb, o + 1, none⟩ = some (.int .i64 lt) ∧ X.cell? ⟨bb, o + 2, none⟩ = some (.slice a1 cl.length c1) ∧ X.cell? ⟨bb, o + 3, none⟩ = some (.slice a2 pr.length c2)) X from fun X hb => ⟨held_of hb X1.out (Nat.le_refl _), held_of hb X2.out (Nat.le_refl _), held_of hb X3.out (Nat.le_refl _)⟩)
  have hb2x := HB2.out
  have hz12 : w.heap.size ≤ w2.heap.size := hb2x.size
  go_wp2_with fail
  go_region_held3 (fun X => X.cell? ⟨bb, o + 1, none⟩ = some (.int .i64 lt) ∧ X.cell? ⟨bb, o + 2, none⟩ = some (.slice a1 cl.length c1) ∧ X.cell? ⟨bb, o + 3, none⟩ = some (.slice a2 pr.length c2))
    (first | exact HKEEP.out _ hbn | exact HKEEP.out _ hb2x | exact HKEEP.out _ hb2x.drew | exact HKEEP.out _ (hb2x.alloc hz12 _).drew | exact HKEEP.out _ (hb2x.alloc hz12 _) | exact HKEEP.out _ (hb2x.drew.alloc hz12 _))
    (first
      | (refine step_app_bytes rfl (.tmp 22) (.tmp 42) (by rfl) w.heap.size _ (5 + nm.size) ([67, 65, 83, 49] ++ [(nm.size : Int)] ++ bytesOf nm) (by rfl) (by first | exact HO2.out.alloc _ | exact owns_drew (HO2.out.alloc _) | exact (owns_drew HO2.out).alloc _) _ 3 [by8 lt, by8 cl.length, by8 pr.length] (by rfl) (by first | exact slcB_lit _ [by8 lt, by8 cl.length, by8 pr.length] 3 _ _ rfl rfl (by omega) (by simp) | exact slc_drew (slcB_lit _ [by8 lt, by8 cl.length, by8 pr.length] 3 _ _ rfl rfl (by omega) (by simp))) (5 + nm.size + 3) HH rfl HHB.out (by omega) (by first | (simp; omega) | (simp at hz12 ⊢; omega)) ?_; intro g3 cap3 w3 ho3 hb3; have hbn : Below w.heap.size w w3 := Below.trans (by first | exact (hb2x.alloc hz12 _).drew | exact hb2x.alloc hz12 _ | exact hb2x.drew.alloc hz12 _) hb3)
      | fail)
  have HB3 := Lib.hid hbn
  have HO3 := Lib.hid ho3
  clear y1 y2 y3 hbn ho3 hb3 hb2x HKEEP
  have y2 := held_of HB3.out X2.out (Nat.le_refl _)
  have hz3 := HB3.out.size
  obtain ⟨m, hm⟩ : ∃ m, m = 5 + nm.size + 3 := ⟨_, rfl⟩
  have hm16 : m ≤ 16 := by omega
  have hm0 : 0 < m := by omega
  rw [← hm] at HO3 ⊢
  clear hm
  go_wp2_with fail
  refine (l07Clauses_any w.heap.size m g3 cap3 HH _ cl lt w3 HO3.out hm0 (by omega) hz3 (fun w' hb => HF.out.up (HB3.out.trans hb) (Nat.le_refl _)) (by omega) HC1.out).mono ?_
  rintro e w4 ⟨a4, m4, cap4, rfl, l4a, l4b, ho4, hb4⟩
  have HB4 := Lib.hid (HB3.out.trans hb4)
  have HO4 := Lib.hid ho4
  have hz4 := HB4.out.size
  clear y2 ho4 hb4
  have y3 := held_of HB4.out X3.out (Nat.le_refl _)
  go_wp2_with fail
  refine (l07Clauses_any w.heap.size m4 a4 cap4 (HH ++ clausesBytes cl) _ pr lt w4 HO4.out (by omega) (by omega) hz4 (fun w' hb => HR.out.up (HB4.out.trans hb) (Nat.le_refl _)) (by omega) HC2.out).mono ?_
  rintro e w5 ⟨a5, m5, cap5, rfl, l5a, l5b, ho5, hb5⟩
  rw [← HBB.out] at ho5
  have HB5 := Lib.hid (HB4.out.trans hb5)
  have HO5 := Lib.hid ho5
  have hz5 := HB5.out.size
  clear y3 ho5 hb5
  have hm50 : 0 < m5 := by omega
  have hcv := conv_bytes HO5.out hm50
  have HNB := Lib.hid (show BB.length = m5 by have := HO5.out.1; simpa using this)
  have hbd := chkL_bd BB 0 (by omega) (by omega)
  obtain ⟨ck, hck⟩ : ∃ ck, ck = chkL 0 BB := ⟨_, rfl⟩
  rw [← hck] at hbd HSB
  have HCK := Lib.hid hck
  clear hck
  go_wp2_with fail
  refine (specCheck_any 0 (strOfNums BB) w5 (by omega) (by omega) (by rw [strOfNums_size, HNB.out]; unfold maxLen; omega)).mono ?_
  rintro e w9 ⟨rfl, rfl⟩
  rw [bytes_back BB HBR.out, ← HCK.out]
  clear hcv
  rw [by8_eq, by8_eq, show ck / 256 % 256 = ck / 256 by omega] at HSB
  go_wp2_with (at_builtin; refine app_bytes rfl _ _ rfl w.heap.size _ m5 BB rfl (HO5.out.alloc _) _ [ck % 256, ck / 256] rfl (slcB_lit _ [ck % 256, ck / 256] 2 _ _ rfl rfl (by omega) rfl) (m5 + 2) (BB ++ [ck % 256, ck / 256]) rfl rfl (by omega) (by simp; omega) ?_; intro g9 cap9 w9 ho9 hb9 _; have hcv2 := conv_bytes ho9 (by omega))
  go_ret
  exact ⟨by rw [HSB.out]; rfl, HB5.out.trans (((Below.refl _ _).alloc (by omega) _).trans hb9)⟩

noncomputable def storeR (d : CaseD) : ByteArray := if caseB d = true then storeS d else ⟨#[]⟩

set_option maxHeartbeats 2000000 in
theorem implStore_any (v : Value) (d : CaseD) (w : World) (h : RdCs w v d) :
    Calls Try.prog 11 #[v] w fun e w' => e = .returned (.tuple #[.string (storeR d), .bool (caseB d)]) ∧ Below w.heap.size w w' := by
  obtain ⟨a1, c1, a2, c2, rfl⟩ := h.shape
  have HP := Lib.hid h
  clear h
  obtain ⟨q, hq⟩ : ∃ q, caseB d = q := ⟨_, rfl⟩
  have HQ := Lib.hid hq
  have HR := Lib.hid (show storeR d = if q = true then storeS d else ⟨#[]⟩ by unfold storeR; rw [hq])
  rw [hq]
  clear hq
  go_enter Try.func11, Try.ntmps11
  go_wp2_with fail
  refine Calls.at fun W hW => ?_
  have HB := Lib.hid (show Below w.heap.size w W by subst hW; (repeat' first | exact Below.refl _ _ | assumption | refine Below.alloc ?_ ?_ _ | refine Below.setCell ?_ ?_ _ | refine Below.drew ?_ | (simp; done) | (simp; omega)))
  have HK := Lib.hid (show Blk W w.heap.size 33 #[.string d.name, .int .i64 d.form.letters, .slice a1 d.form.clauses.length c1, .slice a2 d.proof.length c2] by subst hW; exact Blk.new _ _ _)
  clear hW
  refine (implValidCase_any _ d W (HP.out.up HB.out (Nat.le_refl _))).mono ?_
  rintro e w1 ⟨rfl, hb1⟩
  rw [HQ.out]
  have HB1 := Lib.hid (HB.out.trans (hb1.mono HB.out.size))
  have HK1 := Lib.hid (HK.out.below hb1 HK.out.lt)
  clear hb1
  cases q
  · go_wp2_with fail
    go_ret2
    exact ⟨by rw [HR.out]; rfl, HB1.out⟩
  · have d0 : w1.cell? ⟨w.heap.size, 0, none⟩ = some (.string d.name) := HK1.out.cell 0 rfl
    have d1 : w1.cell? ⟨w.heap.size, 1, none⟩ = some (.int .i64 d.form.letters) := HK1.out.cell 1 rfl
    have d2 : w1.cell? ⟨w.heap.size, 2, none⟩ = some (.slice a1 d.form.clauses.length c1) := HK1.out.cell 2 rfl
    have d3 : w1.cell? ⟨w.heap.size, 3, none⟩ = some (.slice a2 d.proof.length c2) := HK1.out.cell 3 rfl
    go_wp2_with fail
    refine (storeCase_any _ d w1 (HP.out.up HB1.out (Nat.le_refl _)) HQ.out).mono ?_
    rintro e w2 ⟨rfl, hb2⟩
    go_wp2_with fail
    go_ret2
    exact ⟨by rw [HR.out]; rfl, HB1.out.trans (hb2.mono HB1.out.size)⟩

end Go.Proofs.Ytkkcgclliomocaa

namespace Go.Proofs.Ytkkcgclliomocaa
open Go.RowKit

def byteAt (s : ByteArray) (p : Nat) : Int := (bytesOf s).getD p 0
theorem byteAt_get (s : ByteArray) (p : Nat) (h : p < s.size) : byteAt s p = s[p].toNat := by
  unfold byteAt; rw [List.getD_eq_getElem?_getD, bytesOf_get s p h]; rfl
theorem byteAt_rng (s : ByteArray) (p : Nat) : 0 ≤ byteAt s p ∧ byteAt s p < 256 := by
  by_cases h : p < s.size
  · rw [byteAt_get s p h]
    have := s[p].toNat_lt
    omega
  · unfold byteAt
    rw [List.getD_eq_getElem?_getD, List.getElem?_eq_none (by rw [bytesOf_len]; omega)]
    simp
/-- Where a reader stands: the place, and whether it has failed. -/
structure RdSt where
  p : Nat
  bad : Bool
def rdX (s : ByteArray) (t : RdSt) : Int := if t.p < s.size then byteAt s t.p else 0
def rdN (s : ByteArray) (t : RdSt) : RdSt := if t.p < s.size then ⟨t.p + 1, t.bad⟩ else ⟨t.p, true⟩
theorem rdX_rng (s : ByteArray) (t : RdSt) : 0 ≤ rdX s t ∧ rdX s t < 256 := by
  unfold rdX; split
  · exact byteAt_rng s t.p
  · omega
theorem rdN_le {s : ByteArray} {t : RdSt} (h : t.p ≤ s.size) : (rdN s t).p ≤ s.size := by
  unfold rdN; split
  · simp only; omega
  · exact h
/-- Some bytes. -/
def rdSome (s : ByteArray) : Nat → RdSt → List Int × RdSt
  | 0, t => ([], t)
  | n + 1, t => if t.bad = true then ([], t) else (rdX s t :: (rdSome s n (rdN s t)).1, (rdSome s n (rdN s t)).2)
theorem rdSome_bad (s : ByteArray) (n : Nat) (t : RdSt) (h : t.bad = true) : rdSome s n t = ([], t) := by
  cases n with
  | zero => rfl
  | succ n => unfold rdSome; rw [if_pos h]
theorem rdSome_go (s : ByteArray) (n : Nat) (t : RdSt) (h : t.bad = false) : rdSome s (n + 1) t = (rdX s t :: (rdSome s n (rdN s t)).1, (rdSome s n (rdN s t)).2) := by
  conv => lhs; unfold rdSome
  rw [if_neg (by rw [h]; decide)]
theorem rdSome_len (s : ByteArray) : ∀ n t, (rdSome s n t).1.length ≤ n
  | 0, t => Nat.le_refl _
  | n + 1, t => by
    unfold rdSome
    split
    · exact Nat.zero_le _
    · simp only [List.length_cons]; have := rdSome_len s n (rdN s t); omega
theorem rdSome_le {s : ByteArray} : ∀ n t, t.p ≤ s.size → (rdSome s n t).2.p ≤ s.size
  | 0, t, h => h
  | n + 1, t, h => by
    unfold rdSome
    split
    · exact h
    · exact rdSome_le n _ (rdN_le h)
/-- A byte as a literal. -/
def sgn (x : Int) : Int := if x < 128 then x else x - 256
/-- A clause: its length, and its literals. -/
def rdClause (s : ByteArray) (t : RdSt) : List Int × RdSt :=
  ((rdSome s (rdX s t).toNat (rdN s t)).1.map sgn, (rdSome s (rdX s t).toNat (rdN s t)).2)
def rdClauses (s : ByteArray) : Nat → RdSt → List (List Int) × RdSt
  | 0, t => ([], t)
  | n + 1, t => if t.bad = true then ([], t) else ((rdClause s t).1 :: (rdClauses s n (rdClause s t).2).1, (rdClauses s n (rdClause s t).2).2)
theorem rdClauses_bad (s : ByteArray) (n : Nat) (t : RdSt) (h : t.bad = true) : rdClauses s n t = ([], t) := by
  cases n with
  | zero => rfl
  | succ n => unfold rdClauses; rw [if_pos h]
theorem rdClauses_go (s : ByteArray) (n : Nat) (t : RdSt) (h : t.bad = false) : rdClauses s (n + 1) t = ((rdClause s t).1 :: (rdClauses s n (rdClause s t).2).1, (rdClauses s n (rdClause s t).2).2) := by
  conv => lhs; unfold rdClauses
  rw [if_neg (by rw [h]; decide)]
theorem rdClauses_len (s : ByteArray) : ∀ n t, (rdClauses s n t).1.length ≤ n
  | 0, t => Nat.le_refl _
  | n + 1, t => by
    unfold rdClauses
    split
    · exact Nat.zero_le _
    · simp only [List.length_cons]; have := rdClauses_len s n (rdClause s t).2; omega
theorem rdClause_le {s : ByteArray} {t : RdSt} (h : t.p ≤ s.size) : (rdClause s t).2.p ≤ s.size := rdSome_le _ _ (rdN_le h)
theorem rdClause_len (s : ByteArray) (t : RdSt) : (rdClause s t).1.length ≤ 255 := by
  unfold rdClause
  simp only [List.length_map]
  have h1 := rdSome_len s (rdX s t).toNat (rdN s t)
  have h2 := rdX_rng s t
  omega
theorem rdClauses_le {s : ByteArray} : ∀ n t, t.p ≤ s.size → (rdClauses s n t).2.p ≤ s.size
  | 0, t, h => h
  | n + 1, t, h => by
    unfold rdClauses
    split
    · exact h
    · exact rdClauses_le n _ (rdClause_le h)

end Go.Proofs.Ytkkcgclliomocaa
