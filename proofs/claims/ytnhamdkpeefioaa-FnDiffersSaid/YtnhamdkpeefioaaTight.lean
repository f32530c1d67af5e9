/-
  Tight sets: by the program and by the reference.
-/
import Derived.Test.YtnhamdkpeefioaaDigits
namespace Go.Proofs.Ytnhamdkpeefioaa
open Go.RowKit

noncomputable def tsL (D : List (List Int)) : List Int := if validD D = true then tightL D (2 ^ D.length) else []
theorem validD_iff' {D : List (List Int)} : validD D = true ↔ ValD D := by simp [validD]
theorem pow6 {n : Nat} (h : n ≤ 6) : 2 ^ n ≤ 64 := Nat.le_trans (Nat.pow_le_pow_right (by decide) h) (by decide)
theorem tsL_cnt (D : List (List Int)) : cntI (tsL D) ≤ 1048576 := by
  unfold cntI tsL
  split
  · next h =>
    have := tightL_len D (2 ^ D.length)
    have := pow6 (validD_iff'.1 h).2.1
    omega
  · simp
theorem dig_mem {s i n : Nat} (hs : s < 2 ^ n) (h : i ∈ dig s) : i < n := by
  unfold dig at h
  have h1 := (List.mem_filter.1 h).2
  by_cases hi : i < n
  · exact hi
  · have := Nat.testBit_lt_two_pow (i := i) (x := s) (Nat.lt_of_lt_of_le hs (Nat.pow_le_pow_right (by decide) (by omega)))
    rw [this] at h1; cases h1
theorem shl_cast (i : Nat) : (1 : Int) * 2 ^ i = ((2 ^ i : Nat) : Int) := by push_cast; omega

set_option maxHeartbeats 4000000 in
set_option maxRecDepth 4000 in
theorem implTight_any (v : Value) (D : List (List Int)) (w : World) (h : RdL w v D) :
    Calls Try.prog 25 #[v] w fun e w' => ∃ v', e = .returned (.tuple #[v', .bool (validD D)]) ∧ OwnI w.heap.size w'.heap.size w' v' (tsL D) ∧ Below w.heap.size w w' := by
  have H := Lib.hid (implAreDomains_o v D w h)
  obtain ⟨a, c, rfl⟩ := h.shape
  have HRD := Lib.hid h
  clear h
  go_enter Try.func25, Try.ntmps25
  go_wp2_with fail
  refine H.out.mono ?_
  rintro e w1 ⟨rfl, hb⟩
  have HB := Lib.hid hb
  have hsz1 := hb.size
  clear hb
  by_cases hv : validD D = true
  · have HV := Lib.hid (validD_iff'.1 hv)
    have HVV := Lib.hid hv
    have HN := Lib.hid (show tsL D = tightL D (2 ^ D.length) from if_pos hv)
    rw [hv]
    have hD6 := HV.out.2.1
    have hT := pow6 hD6
    have hsh := shl_cast D.length
    obtain ⟨T, hTT⟩ : ∃ T, T = 2 ^ D.length := ⟨_, rfl⟩
    rw [← hTT] at hT hsh HN
    have HT := Lib.hid hTT
    clear hv hTT
    go_wp2_with fail
    go_loopw [4, 5] (fun out kk wr => ∃ (s : Nat) (b : Option Addr) (cap : Nat), kk = .int .i64 s ∧ s ≤ T ∧ out = .slice b (tightL D s).length cap ∧ wr.ownsRow w1.heap.size 2 1 (.slice b (tightL D s).length cap) (tightL D s).length ((tightL D s).map I64) ∧ Below w.heap.size w wr ∧ Below w1.heap.size w1 wr) (fun _ kk _ => T - (intOf kk).toNat)
    case atStart => exact ⟨0, none, 0, rfl, Nat.zero_le _, rfl, World.ownsRow_nil _ _ _ _, HB.out, Below.refl _ _⟩
    case round =>
      obtain ⟨s, b, cap, rfl, hs, rfl, hown, hbl, hbl1⟩ := hrel
      have HO := Lib.hid hown
      have HBr := Lib.hid hbl
      have HBL := Lib.hid hbl1
      clear hown hbl hbl1
      by_cases hlt : s < T
      · go_wp2_with fail
        refine (digits_any s (by omega) wr).mono ?_
        rintro e w2 ⟨v2, rfl, ho2, hb2⟩
        obtain ⟨a2, c2, rfl⟩ := ho2.rd.shape
        rw [List.length_map] at *
        have HR2 := Lib.hid ho2.rd
        have HB2 := Lib.hid (HBr.out.trans (hb2.mono HBr.out.size))
        have HBL2 := Lib.hid (HBL.out.trans (hb2.mono HBL.out.size))
        have HO2 := Lib.hid (owns_below HO.out hb2 (Nat.le_refl _))
        have hdl : (dig s).length ≤ 63 := by
          have := List.length_filter_le s.testBit (List.range 63)
          simpa [dig] using this
        clear hb2 ho2
        go_wp2_with fail
        go_loopw [6, 24] (fun nm kk wi => ∃ (j m : Nat), kk = .int .i64 j ∧ j ≤ (dig s).length ∧ nm = .int .i64 m ∧ Hid (Mask m (uni D ((dig s).take j))) ∧ wi = w2) (fun _ kk _ => (dig s).length - (intOf kk).toNat)
        case atStart => exact ⟨0, 0, rfl, Nat.zero_le _, rfl, Mask.nil, rfl⟩
        case round =>
          obtain ⟨j, m, rfl, hj, rfl, hmk, rfl⟩ := hrel
          have hm32 := hmk.out.lt
          by_cases hjl : j < (dig s).length
          · obtain ⟨db, dof, rfl, _, hc⟩ := HR2.out.at (i := j) (by simpa using hjl)
            obtain ⟨i, hi⟩ : ∃ i, i = (dig s).getD j 0 := ⟨_, rfl⟩
            have hidx : ((dig s).map fun (k : Nat) => (k : Int)).getD j 0 = (i : Int) := by rw [hi]; simp [hjl]
            rw [hidx] at hc
            have him : i ∈ dig s := by rw [hi]; simp [hjl]
            have hiD : i < D.length := dig_mem (by rw [← HT.out]; exact hlt) him
            have HTK := Lib.hid (show (dig s).take (j + 1) = (dig s).take j ++ [i] by rw [List.take_succ_eq_append_getElem hjl, hi]; simp [hjl])
            obtain ⟨ob, oo, u, rfl, _, hc0, hu⟩ := (HRD.out.up HB2.out (Nat.le_refl _)).at hiD
            have hd8 := (HV.out.2.2 i hiD).2.1
            have HVD := Lib.hid (HV.out.2.2 i hiD)
            obtain ⟨d, hd⟩ : ∃ d, d = D.getD i [] := ⟨_, rfl⟩
            have HALL := Lib.hid (uniP_all D ((dig s).take j) i)
            have HSU := Lib.hid (uniP_succ D ((dig s).take j) i)
            rw [← hd] at hu hd8 HVD HALL HSU
            obtain ⟨ua, uc, rfl⟩ := hu.shape
            have HU := Lib.hid hu
            clear hi hidx him hd hu
            go_wp2_with fail
            go_loopw [6, 33] (fun nm kk wi => ∃ (k m : Nat), kk = .int .i64 k ∧ k ≤ d.length ∧ nm = .int .i64 m ∧ Hid (Mask m (uniP D ((dig s).take j) i k)) ∧ wi = wr) (fun _ kk _ => d.length - (intOf kk).toNat)
            case atStart => exact ⟨0, m, rfl, Nat.zero_le _, rfl, by rw [uniP_zero]; exact hmk.out, rfl⟩
            case round =>
              obtain ⟨k, m2, rfl, hk, rfl, hmk2, rfl⟩ := hrel
              by_cases hkl : k < d.length
              · obtain ⟨eb, eo, rfl, _, hce⟩ := HU.out.at hkl
                have hrange := (HVD.out.2.2 k hkl).1
                have HS2 := Lib.hid (HSU.out k hkl)
                obtain ⟨x, hx⟩ : ∃ x, x = d.getD k 0 := ⟨_, rfl⟩
                rw [← hx] at hce hrange HS2
                clear hx
                simp only [inB, Bool.and_eq_true, decide_eq_true_eq] at hrange
                obtain ⟨N, rfl⟩ := Int.eq_ofNat_of_zero_le hrange.1
                have hN : N < 32 := by omega
                have HNX := Lib.hid (hmk2.out.add hN)
                have hsP := shl_cast N
                have hP32 : 2 ^ N < 4294967296 := Nat.pow_lt_pow_right (by decide) hN
                have hm2 := hmk2.out.lt
                have hor := i64_or_nat m2 (2 ^ N) (by omega) (by omega)
                obtain ⟨P, hP⟩ : ∃ P, P = 2 ^ N := ⟨_, rfl⟩
                rw [← hP] at hsP hP32 hor HNX
                clear hP hrange
                have hor2 := HNX.out.lt
                obtain ⟨m3, hm3⟩ : ∃ m3, m3 = m2 ||| P := ⟨_, rfl⟩
                rw [← hm3] at hor HNX hor2
                clear hm3
                go_wp2_with fail
                go_roundw
                case rel => exact ⟨k + 1, m3, by go_num, by omega, rfl, by rw [HS2.out]; exact HNX.out, by first | trivial | rfl⟩
                case measure => simp [intOf]; omega
              · obtain rfl : k = d.length := by omega
                go_wp2_with fail
                go_roundw
                case rel => exact ⟨j + 1, m2, by go_num, by omega, rfl, by rw [HTK.out, ← HALL.out]; exact hmk2.out, by first | trivial | rfl⟩
                case measure => simp [intOf]; omega
          · obtain rfl : j = (dig s).length := by omega
            have HM := Lib.hid (show popN 32 m = (uni D (dig s)).length by have := hmk.out.len; rwa [List.take_length] at this)
            have HS := Lib.hid (dig_len (s := s) (by omega))
            go_wp2_with fail
            refine (OnesCount64_any m hm32 wr).mono ?_
            rintro e w' ⟨rfl, rfl⟩
            go_wp2_with fail
            refine (OnesCount_any s (by omega) wr).mono ?_
            rintro e w' ⟨rfl, rfl⟩
            have hlen := tightL_len D s
            have hsz2 := HBL2.out.size
            by_cases ht : tight D s = true
            · have HE := Lib.hid (tightL_yes ht)
              have hq : ((popN 32 m : Int) == (popN 32 s : Int)) = true := by
                rw [HM.out, ← HS.out]
                unfold tight at ht
                simp only [beq_iff_eq] at ht ⊢
                rw [ht]
              obtain ⟨ks, hks⟩ : ∃ ks, ks = tightL D s := ⟨_, rfl⟩
              obtain ⟨q1, hq1⟩ : ∃ q, q = popN 32 m := ⟨_, rfl⟩
              obtain ⟨q2, hq2⟩ : ∃ q, q = popN 32 s := ⟨_, rfl⟩
              rw [← hq1, ← hq2] at hq ⊢
              rw [← hks] at HO2 HE hlen ⊢
              clear ht hks hq1 hq2 HM HS hmk
              go_wp2_with (at_builtin; refine app_ints rfl _ _ rfl w1.heap.size (.slice b ks.length cap) ks.length ks rfl (HO2.out.alloc _) _ [(s : Int)] rfl (slc_one _ _) (ks.length + 1) (ks ++ [(s : Int)]) (by simp) rfl (by omega) (by simp; omega) ?_; intro b2 cap2 w3 hown2 hbl2 _ _)
              go_roundw
              case rel =>
                have e2 : Below w1.heap.size wr w3 := ((Below.refl _ _).alloc hsz2 _).trans hbl2
                exact ⟨s + 1, b2, cap2, by go_num, by omega, by rw [HE.out, List.length_append]; rfl, by rw [HE.out, List.length_append]; exact hown2, HB2.out.trans (e2.mono hsz1), HBL2.out.trans e2⟩
              case measure => simp [intOf]; omega
            · rw [Bool.not_eq_true] at ht
              have HE := Lib.hid (tightL_no ht)
              have hq : ((popN 32 m : Int) == (popN 32 s : Int)) = false := by
                rw [HM.out, ← HS.out]
                unfold tight at ht
                rw [beq_eq_false_iff_ne] at ht ⊢
                intro e
                exact ht (by omega)
              obtain ⟨q1, hq1⟩ : ∃ q, q = popN 32 m := ⟨_, rfl⟩
              obtain ⟨q2, hq2⟩ : ∃ q, q = popN 32 s := ⟨_, rfl⟩
              rw [← hq1, ← hq2] at hq ⊢
              clear ht hq1 hq2 HM HS hmk
              go_wp2_with fail
              go_roundw
              case rel => exact ⟨s + 1, b, cap, by go_num, by omega, by rw [HE.out], by rw [HE.out]; exact HO2.out, HB2.out, HBL2.out⟩
              case measure => simp [intOf]; omega
      · obtain rfl : s = T := by omega
        go_wp2_with fail
        go_ret2
        exact ⟨_, by rw [HVV.out]; rfl, by rw [HN.out]; exact (OwnI.mk HO.out).wide hsz1 (Nat.le_refl _), HBr.out⟩
  · rw [Bool.not_eq_true] at hv
    have HVV := Lib.hid hv
    have HN := Lib.hid (show tsL D = [] from if_neg (by rw [hv]; simp))
    rw [hv]
    clear hv
    go_wp2_with fail
    go_ret2
    exact ⟨.slice none 0 0, by rw [HVV.out]; rfl, by rw [HN.out]; exact ⟨World.ownsRow_nil _ _ _ _, by intro g hg; cases hg⟩, HB.out⟩

theorem uni_len {D : List (List Int)} (h : ValD D) : ∀ ds : List Nat, (uni D ds).length ≤ 8 * ds.length := by
  have fl : ∀ (d l : List Int), (d.foldl addN l).length ≤ l.length + d.length := by
    intro d
    induction d with
    | nil => intro l; simp
    | cons x d ih =>
      intro l
      have h1 := ih (addN l x)
      have h2 := addN_len l x
      simp only [List.foldl_cons, List.length_cons]
      omega
  have key : ∀ (ds : List Nat) (l : List Int), (ds.foldl (fun l i => (D.getD i []).foldl addN l) l).length ≤ l.length + 8 * ds.length := by
    intro ds
    induction ds with
    | nil => intro l; simp
    | cons i ds ih =>
      intro l
      have h1 := ih ((D.getD i []).foldl addN l)
      have h2 := fl (D.getD i []) l
      have h3 : (D.getD i []).length ≤ 8 := by
        by_cases hi : i < D.length
        · exact (h.2.2 i hi).2.1
        · simp [List.getElem?_eq_none (by omega : D.length ≤ i)]
      simp only [List.foldl_cons, List.length_cons]
      omega
  intro ds
  have := key ds []
  simpa [uni] using this
theorem uniP_len {D : List (List Int)} (h : ValD D) (ds : List Nat) (i k : Nat) : (uniP D ds i k).length ≤ 8 * ds.length + k := by
  have fl : ∀ (d l : List Int), (d.foldl addN l).length ≤ l.length + d.length := by
    intro d
    induction d with
    | nil => intro l; simp
    | cons x d ih =>
      intro l
      have h1 := ih (addN l x)
      have h2 := addN_len l x
      simp only [List.foldl_cons, List.length_cons]
      omega
  unfold uniP
  have h1 := fl ((D.getD i []).take k) (uni D ds)
  have h2 := uni_len h ds
  have h3 : ((D.getD i []).take k).length ≤ k := by rw [List.length_take]; omega
  omega
/-- The digits below i. -/
def digT (s i : Nat) : List Nat := (List.range i).filter s.testBit
theorem digT_yes {s i : Nat} (h : s.testBit i = true) : digT s (i + 1) = digT s i ++ [i] := by simp [digT, List.range_succ, h]
theorem digT_no {s i : Nat} (h : s.testBit i = false) : digT s (i + 1) = digT s i := by simp [digT, List.range_succ, h]
theorem digT_len (s i : Nat) : (digT s i).length ≤ i := by
  have := List.length_filter_le s.testBit (List.range i)
  simpa [digT] using this

set_option maxHeartbeats 4000000 in
set_option maxRecDepth 4000 in
theorem specTight_any (v : Value) (D : List (List Int)) (w : World) (h : RdL w v D) :
    Calls Try.prog 26 #[v] w fun e w' => ∃ v', e = .returned (.tuple #[v', .bool (validD D)]) ∧ OwnI w.heap.size w'.heap.size w' v' (tsL D) ∧ Below w.heap.size w w' := by
  have H := Lib.hid (l07Domains_any v D w h)
  obtain ⟨a, c, rfl⟩ := h.shape
  have HRD := Lib.hid h
  clear h
  go_enter Try.func26, Try.ntmps26
  go_wp2_with fail
  refine H.out.mono ?_
  rintro e w1 ⟨rfl, hb⟩
  have HB := Lib.hid hb
  have hsz1 := hb.size
  clear hb
  by_cases hv : validD D = true
  · have HV := Lib.hid (validD_iff'.1 hv)
    have HVV := Lib.hid hv
    have HN := Lib.hid (show tsL D = tightL D (2 ^ D.length) from if_pos hv)
    rw [hv]
    have hD6 := HV.out.2.1
    have hT := pow6 hD6
    have hsh := shl_cast D.length
    obtain ⟨T, hTT⟩ : ∃ T, T = 2 ^ D.length := ⟨_, rfl⟩
    rw [← hTT] at hT hsh HN
    have HT := Lib.hid hTT
    clear hv hTT
    go_wp2_with fail
    go_loopw [4, 5] (fun out kk wr => ∃ (s : Nat) (b : Option Addr) (cap : Nat), kk = .int .i64 s ∧ s ≤ T ∧ out = .slice b (tightL D s).length cap ∧ wr.ownsRow w1.heap.size 2 1 (.slice b (tightL D s).length cap) (tightL D s).length ((tightL D s).map I64) ∧ Below w.heap.size w wr ∧ Below w1.heap.size w1 wr) (fun _ kk _ => T - (intOf kk).toNat)
    case atStart => exact ⟨0, _, 0, rfl, Nat.zero_le _, rfl, owns_empty w1, HB.out.alloc HB.out.size _, (Below.refl _ _).alloc (Nat.le_refl _) _⟩
    case round =>
      obtain ⟨s, b, cap, rfl, hs, rfl, hown, hbl, hbl1⟩ := hrel
      have HO := Lib.hid hown
      have HBr := Lib.hid hbl
      have HBL := Lib.hid hbl1
      clear hown hbl hbl1
      by_cases hlt : s < T
      · obtain ⟨wo, hwo⟩ : ∃ wo, wo = wr := ⟨_, rfl⟩
        rw [← hwo] at HO HBr HBL
        go_wp2_with fail
        rw [← hwo]
        clear hwo
        go_loopw [6, 7, 24] (fun nm ct kk wi => ∃ (i : Nat) (g : Option Addr) (gc : Nat), kk = .int .i64 i ∧ i ≤ D.length ∧ ct = .int .i64 ((digT s i).length : Nat) ∧ nm = .slice g (uni D (digT s i)).length gc ∧ wi.ownsRow wo.heap.size 2 1 (.slice g (uni D (digT s i)).length gc) (uni D (digT s i)).length ((uni D (digT s i)).map I64) ∧ Below wo.heap.size wo wi) (fun _ _ kk _ => D.length - (intOf kk).toNat)
        case atStart => exact ⟨0, _, _, rfl, Nat.zero_le _, rfl, rfl, owns_empty wo, (Below.refl _ _).alloc (Nat.le_refl _) _⟩
        case round =>
          obtain ⟨i, g, gc, rfl, hi, rfl, rfl, hown, hbl⟩ := hrel
          have HG := Lib.hid hown
          have HBi := Lib.hid hbl
          have HBw := Lib.hid (HBr.out.trans (hbl.mono HBr.out.size))
          clear hown hbl
          have hdl := digT_len s i
          by_cases hil : i < D.length
          · have hd := shr_cast s i
            have hbit := bit_of s i
            obtain ⟨Q, hQ⟩ : ∃ Q, Q = s >>> i := ⟨_, rfl⟩
            rw [← hQ] at hd hbit
            have hQ64 : Q ≤ s := by rw [hQ]; exact Nat.shiftRight_le s i
            have hand := i64_and_nat Q 1 (by omega) (by decide)
            rw [hbit] at hand
            clear hQ hbit
            by_cases ht : s.testBit i = true
            · rw [ht] at hand
              have hand2 : bits .and .i64 (Q : Int) 1 = 1 := by simpa using hand
              have HDT := Lib.hid (digT_yes ht)
              obtain ⟨ob, oo, u, rfl, _, hc0, hu⟩ := (HRD.out.up HBw.out (Nat.le_refl _)).at hil
              have hd8 := (HV.out.2.2 i hil).2.1
              obtain ⟨d, hdd⟩ : ∃ d, d = D.getD i [] := ⟨_, rfl⟩
              have HALL := Lib.hid (uniP_all D (digT s i) i)
              have HSU := Lib.hid (uniP_succ D (digT s i) i)
              have HPL := Lib.hid (uniP_len HV.out (digT s i) i)
              rw [← hdd] at hu hd8 HALL HSU
              obtain ⟨ua, uc, rfl⟩ := hu.shape
              have HU := Lib.hid hu
              have HU0 := Lib.hid hdd
              clear ht hdd hu hand
              go_wp2_with fail
              go_loopw [6, 39] (fun nm kk wj => ∃ (k : Nat) (g : Option Addr) (gc : Nat), kk = .int .i64 k ∧ k ≤ d.length ∧ nm = .slice g (uniP D (digT s i) i k).length gc ∧ wj.ownsRow wo.heap.size 2 1 (.slice g (uniP D (digT s i) i k).length gc) (uniP D (digT s i) i k).length ((uniP D (digT s i) i k).map I64) ∧ Below wo.heap.size wo wj) (fun _ kk _ => d.length - (intOf kk).toNat)
              case atStart => exact ⟨0, g, gc, rfl, Nat.zero_le _, by rw [uniP_zero], by rw [uniP_zero]; exact HG.out, HBi.out⟩
              case round =>
                obtain ⟨k, g, gc, rfl, hk, rfl, hown, hbl⟩ := hrel
                have HGj := Lib.hid hown
                have HBj := Lib.hid hbl
                have HBwj := Lib.hid (HBr.out.trans (hbl.mono HBr.out.size))
                have hszj := hbl.size
                clear hown hbl hc0
                by_cases hkl : k < d.length
                · obtain ⟨_, _, u2, e2, _, hc0, hu2⟩ := (HRD.out.up HBwj.out (Nat.le_refl _)).at hil
                  simp only [Option.some.injEq, Addr.mk.injEq, and_true] at e2
                  obtain ⟨rfl, rfl⟩ := e2
                  rw [← HU0.out] at hu2
                  obtain ⟨ua2, uc2, rfl⟩ := hu2.shape
                  obtain ⟨eb, eo, rfl, _, hce⟩ := hu2.at hkl
                  have HS2 := Lib.hid (HSU.out k hkl)
                  have hpl := HPL.out k
                  obtain ⟨x, hx⟩ : ∃ x, x = d.getD k 0 := ⟨_, rfl⟩
                  rw [← hx] at hce HS2
                  obtain ⟨l, hl⟩ : ∃ l, l = uniP D (digT s i) i k := ⟨_, rfl⟩
                  rw [← hl] at HGj HS2 hpl ⊢
                  clear hx hl
                  by_cases hq : hasB l x = true
                  · go_wp2_with (go_at_call 87; refine (l00Has_any _ l x _ (slc_of_owns HGj.out)).mono ?_; rintro e w' ⟨rfl, rfl⟩)
                    go_roundw
                    case rel =>
                      have e : uniP D (digT s i) i (k + 1) = l := by rw [HS2.out, addN, if_pos hq]
                      exact ⟨k + 1, g, gc, by go_num, by omega, by rw [e], by rw [e]; exact HGj.out, HBj.out⟩
                    case measure => simp [intOf]; omega
                  · have hq' : hasB l x = false := by simpa using hq
                    go_wp2_with (first
                      | (go_at_call 87; refine (l00Has_any _ l x _ (slc_of_owns HGj.out)).mono ?_; rintro e w' ⟨rfl, rfl⟩)
                      | (at_builtin; refine app_ints rfl _ _ rfl wo.heap.size (.slice g l.length gc) l.length l rfl (HGj.out.alloc _) _ [x] rfl (slc_one _ _) (l.length + 1) (l ++ [x]) (by simp) rfl (by omega) (by simp; omega) ?_; intro b2 cap2 w3 hown2 hbl2 _ _))
                    go_roundw
                    case rel =>
                      have e : uniP D (digT s i) i (k + 1) = l ++ [x] := by rw [HS2.out, addN, if_neg hq]
                      exact ⟨k + 1, b2, cap2, by go_num, by omega, by rw [e, List.length_append]; rfl, by rw [e, List.length_append]; exact hown2, HBj.out.trans (((Below.refl _ _).alloc hszj _).trans hbl2)⟩
                    case measure => simp [intOf]; omega
                · obtain rfl : k = d.length := by omega
                  go_wp2_with fail
                  go_roundw
                  case rel => exact ⟨i + 1, g, gc, by go_num, by omega, by rw [HDT.out, List.length_append]; go_num, by rw [HDT.out, ← HALL.out], by rw [HDT.out, ← HALL.out]; exact HGj.out, HBj.out⟩
                  case measure => simp [intOf]; omega
            · rw [Bool.not_eq_true] at ht
              rw [ht] at hand
              have hand2 : bits .and .i64 (Q : Int) 1 = 0 := by simpa using hand
              have HDT := Lib.hid (digT_no ht)
              clear ht hand
              go_wp2_with fail
              go_roundw
              case rel => exact ⟨i + 1, g, gc, by go_num, by omega, by rw [HDT.out], by rw [HDT.out], by rw [HDT.out]; exact HG.out, HBi.out⟩
              case measure => simp [intOf]; omega
          · obtain rfl : i = D.length := by omega
            have HDD := Lib.hid (show digT s D.length = dig s from dig_of (by rw [← HT.out]; exact hlt) (by omega))
            have hlen := tightL_len D s
            have HO2 := Lib.hid (owns_below HO.out HBi.out (Nat.le_refl _))
            have HBLi := Lib.hid (HBL.out.trans (HBi.out.mono HBL.out.size))
            have hszi := HBLi.out.size
            have hwo1 := HBL.out.size
            by_cases ht : tight D s = true
            · have HE := Lib.hid (tightL_yes ht)
              have hq : (((digT s D.length).length : Int) == ((uni D (digT s D.length)).length : Int)) = true := by
                rw [HDD.out]
                unfold tight at ht
                simp only [beq_iff_eq] at ht ⊢
                rw [ht]
              obtain ⟨ks, hks⟩ : ∃ ks, ks = tightL D s := ⟨_, rfl⟩
              obtain ⟨q1, hq1⟩ : ∃ q, q = (digT s D.length).length := ⟨_, rfl⟩
              obtain ⟨q2, hq2⟩ : ∃ q, q = (uni D (digT s D.length)).length := ⟨_, rfl⟩
              rw [← hq1, ← hq2] at hq ⊢
              rw [← hks] at HO2 HE hlen ⊢
              clear ht hks hq1 hq2 HG hdl
              go_wp2_with (at_builtin; refine app_ints rfl _ _ rfl w1.heap.size (.slice b ks.length cap) ks.length ks rfl (HO2.out.alloc _) _ [(s : Int)] rfl (slc_one _ _) (ks.length + 1) (ks ++ [(s : Int)]) (by simp) rfl (by omega) (by simp; omega) ?_; intro b2 cap2 w3 hown2 hbl2 _ _)
              go_roundw
              case rel =>
                have e2 : Below w1.heap.size wr w3 := ((Below.refl _ _).alloc hszi _).trans hbl2
                exact ⟨s + 1, b2, cap2, by go_num, by omega, by rw [HE.out, List.length_append]; rfl, by rw [HE.out, List.length_append]; exact hown2, HBw.out.trans (e2.mono hsz1), HBLi.out.trans e2⟩
              case measure => simp [intOf]; omega
            · rw [Bool.not_eq_true] at ht
              have HE := Lib.hid (tightL_no ht)
              have hq : (((digT s D.length).length : Int) == ((uni D (digT s D.length)).length : Int)) = false := by
                rw [HDD.out]
                unfold tight at ht
                rw [beq_eq_false_iff_ne] at ht ⊢
                intro e
                exact ht (by omega)
              obtain ⟨q1, hq1⟩ : ∃ q, q = (digT s D.length).length := ⟨_, rfl⟩
              obtain ⟨q2, hq2⟩ : ∃ q, q = (uni D (digT s D.length)).length := ⟨_, rfl⟩
              rw [← hq1, ← hq2] at hq ⊢
              clear ht hq1 hq2 HG hdl
              go_wp2_with fail
              go_roundw
              case rel => exact ⟨s + 1, b, cap, by go_num, by omega, by rw [HE.out], by rw [HE.out]; exact HO2.out, HBw.out, HBLi.out⟩
              case measure => simp [intOf]; omega
      · obtain rfl : s = T := by omega
        go_wp2_with fail
        go_ret2
        exact ⟨_, by rw [HVV.out]; rfl, by rw [HN.out]; exact (OwnI.mk HO.out).wide hsz1 (Nat.le_refl _), HBr.out⟩
  · rw [Bool.not_eq_true] at hv
    have HVV := Lib.hid hv
    have HN := Lib.hid (show tsL D = [] from if_neg (by rw [hv]; simp))
    rw [hv]
    clear hv
    go_wp2_with fail
    go_ret2
    exact ⟨.slice none 0 0, by rw [HVV.out]; rfl, by rw [HN.out]; exact ⟨World.ownsRow_nil _ _ _ _, by intro g hg; cases hg⟩, HB.out⟩

end Go.Proofs.Ytnhamdkpeefioaa
