/-
  FnJobs: texts joined: OntI.
-/
import Derived.Test.YtfdaifmfecfchaaMFnJobsAD
import Derived.Test.YtfdaifmfecfchaaMFnJobsAL
namespace Go.Proofs.Ytfdaifmfecfchaa
open Go.RowKit Go.Sort

theorem RdJ.drewN2 {w : World} {v : Value} {js : List JobD} (h : RdJ w v js) (n : Nat) : RdJ (w.drewN n) v js := h.up (below_drewN (Below.refl w.heap.size w) n) (Nat.le_refl _)
theorem own2_cell {B g c m k : Nat} {w : World} {xs : List Nat} (h : w.ownsRow B 2 1 (.slice (some ⟨g, 0, none⟩) m c) m ((idxs xs).map I64)) (hk : k < xs.length) : w.cell? ⟨g, k, none⟩ = some (.int .i64 ((xs.getD k 0 : Nat) : Int)) := by
  obtain ⟨b, off, e, _, hc⟩ := (show RdI w (.slice (some ⟨g, 0, none⟩) m c) (idxs xs) from slc_of_owns h).at (i := k) (by rw [idxs_len]; exact hk)
  simp only [Option.some.injEq, Addr.mk.injEq, and_true] at e
  obtain ⟨rfl, rfl⟩ := e
  rw [Nat.zero_add] at hc
  rw [hc, idxs_at xs k hk]

set_option maxHeartbeats 2000000 in
set_option maxRecDepth 4000 in
theorem otI_any (v : Value) (js : List JobD) (w : World) (h : RdJ w v js) :
    Calls Try.prog 16 #[v] w fun e w' => ∃ u, e = .returned (.tuple #[u, .int .i64 (otN js), .bool (areJobsB js)]) ∧ OwnI w.heap.size w'.heap.size w' u (otL js) ∧ Below w.heap.size w w' := by
  obtain ⟨va, vc, rfl⟩ := h.shape
  have HA := Lib.hid (AreJobs_any _ js w h)
  have HR := Lib.hid h
  obtain ⟨q, hq⟩ : ∃ q, areJobsB js = q := ⟨_, rfl⟩
  rw [hq] at HA ⊢
  have HQ := Lib.hid hq
  clear hq h
  go_enter Try.func16, Try.ntmps16
  cases q
  · go_wp2_with (go_at_call 41; refine HA.out.mono ?_; rintro e w0 ⟨rfl, hb0⟩)
    go_ret3
    exact ⟨_, by rw [show otN js = 0 by unfold otN; rw [HQ.out]; rfl]; rfl, by rw [show otL js = [] by unfold otL; rw [HQ.out]; rfl]; exact ⟨World.ownsRow_nil _ _ _ _, by intro g hg; cases hg⟩, hb0⟩
  obtain ⟨hn1, hn2, hjf⟩ := areJobs_facts HQ.out
  have HJ := Lib.hid hjf
  have HD := Lib.hid (fun W (hb : Below w.heap.size w W) => dueOrder_any js _ W (HR.out.up hb (Nat.le_refl _)) hn1 hn2)
  clear hjf
  go_upto_region 5 with (go_at_call 41; refine HA.out.mono ?_; rintro e w0 ⟨rfl, hb0⟩)
  have HB0 := Lib.hid hb0
  clear hb0
  go_wp2_with (go_at_call 45; refine (HD.out _ HB0.out).mono ?_; rintro e w1 ⟨u, rfl, ho1, hb1⟩; obtain ⟨ua, uc, rfl⟩ := ho1.rd.shape; rw [show (idxs (ordL (dueK js) js.length)).length = js.length by rw [idxs_len, ordL_len]] at *)
  have HU := Lib.hid (ho1.wide HB0.out.size (Nat.le_refl _))
  have HB1 := Lib.hid (HB0.out.trans (hb1.mono HB0.out.size))
  clear ho1 hb1 HD HA
  go_loopw [5, 6, 7, 19] (fun kv av tv iv wr => ∃ (k : Nat) (K A : List Nat) (t : Int) (b : Option Addr) (c : Nat) (b2 : Option Addr) (c2 : Nat), iv = .int .i64 k ∧ k ≤ js.length ∧ kv = .slice b K.length c ∧ av = .slice b2 A.length c2 ∧ tv = .int .i64 t ∧ Hid (Ont js k K A t) ∧ Hid (Own2 w1.heap.size wr (.slice b K.length c) (.slice b2 A.length c2) (idxs K) (idxs A)) ∧ Hid (Below w1.heap.size w1 wr)) (fun _ _ _ iv _ => js.length + 1 - (intOf iv).toNat)
  case atStart => exact ⟨0, [], [], 0, none, 0, none, 0, rfl, Nat.zero_le _, rfl, rfl, rfl, Ont.start js, ⟨World.ownsRow_nil _ _ _ _, World.ownsRow_nil _ _ _ _, fun g hg => by cases hg⟩, Below.refl _ _⟩
  case round =>
    obtain ⟨k, K, A, t, b, c, b2, c2, rfl, hk, rfl, rfl, rfl, HO, HW, HB⟩ := hrel
    obtain ⟨wo, rfl⟩ : ∃ wo, wo = wr := ⟨wr, rfl⟩
    have hKl : K.length ≤ 12 := by have := HO.out.lens; omega
    have hAl : A.length ≤ 12 := by have := HO.out.lens; omega
    by_cases hlt : k < js.length
    · have hlt' : (k : Int) < js.length := by omega
      obtain ⟨db, dof, rfl, hdb, hd0⟩ := (HU.out.rd.up HB.out (Nat.le_refl _)).at (i := k) (by rw [idxs_len, ordL_len]; exact hlt)
      rw [idxs_at _ _ (by rw [ordL_len]; exact hlt)] at hd0
      obtain ⟨i, hi⟩ : ∃ i, i = (ordL (dueK js) js.length).getD k 0 := ⟨_, rfl⟩
      rw [← hi] at hd0
      have hin : i < js.length := by rw [hi]; exact ordJ_lt js k hlt
      have HI := Lib.hid hi
      have HN := Lib.hid (HO.out.next hlt i hi HQ.out)
      have ht1 := HO.out.lo
      have ht2 := HO.out.hi
      have hsz := HB.out.size
      clear hi
      have HW1 := Lib.hid (show wo.ownsRow w1.heap.size 2 1 (.slice b K.length c) K.length ((idxs K).map I64) by have := HW.out.1; rw [idxs_len] at this; exact this)
      go_upto_region 9 with (at_builtin; refine app_intsL rfl _ _ rfl w1.heap.size (.slice b K.length c) K.length (idxs K) rfl (HW1.out.alloc _) _ [(i : Int)] rfl (slc_one _ _) (K.length + 1) (idxs (K ++ [i])) (by simp) (by rw [idxs_app]; rfl) (by omega) (by simp; omega) ?_; intro b3 c3 w3 hown3 hbl3 hg3 hor3)
      have hal : Below wo.heap.size wo (wo.alloc (.cells #[.int .i64 (i : Int)] 2)) := (Below.refl _ _).alloc (Nat.le_refl _) _
      have HW3 := Lib.hid (HW.out.grow hal hown3 (show K.length + 1 = (idxs (K ++ [i])).length by rw [idxs_len]; simp) hg3 hor3)
      have HB3 := Lib.hid (HB.out.trans (((Below.refl _ _).alloc hsz _).trans hbl3))
      have HBw3 := Lib.hid (HB1.out.trans (HB3.out.mono HB1.out.size))
      obtain ⟨g, rfl, hg⟩ := owns_slice_some hown3 (by omega)
      clear hal hbl3 hg3 hor3 HW HB HW1 hdb hd0 hsz
      obtain ⟨K1, hK1⟩ : ∃ K1, K1 = K ++ [i] := ⟨_, rfl⟩
      have hK1l : K1.length = K.length + 1 := by rw [hK1]; simp
      rw [← hK1] at hown3 HW3
      have HO3 := Lib.hid hown3
      have HK1 := Lib.hid hK1
      clear hown3 hK1
      obtain ⟨jb, jo, rfl, hjb, d0, d1, _, _⟩ := (HR.out.up HBw3.out (Nat.le_refl _)).at hin
      have hli := HJ.out i hin
      unfold longK at hli
      obtain ⟨l, hl⟩ : ∃ l, l = (js.getD i J0).long := ⟨_, rfl⟩
      obtain ⟨d, hd⟩ : ∃ d, d = (js.getD i J0).due := ⟨_, rfl⟩
      rw [← hl] at d0 hli
      rw [← hd] at d1 hli
      have HL := Lib.hid hl
      have HDU := Lib.hid hd
      have hin' : (i : Int) < js.length := by omega
      have hwr : IntKind.i64.wrap (t + l) = t + l := by rw [IntKind.wrap_i64]; omega
      clear hl hd
      have hmem : ∀ x, x < K1.length → K1.getD x 0 < js.length := fun x hx => by
        have : K1.getD x 0 ∈ K1 := by rw [List.getD_eq_getElem?_getD, List.getElem?_eq_getElem hx]; exact List.getElem_mem _
        generalize K1.getD x 0 = y at this ⊢
        rw [HK1.out] at this
        rcases List.mem_append.1 this with h1 | h1
        · exact HO.out.small y h1
        · rw [List.mem_singleton.1 h1]; exact hin
      have HM := Lib.hid hmem
      clear hmem
      by_cases hle : t + l ≤ d
      · have HE := Lib.hid (show otStep js K A t i = (K1, A, t + l) by unfold otStep longK; rw [← HL.out, ← HDU.out, if_pos hle, HK1.out])
        rw [HE.out] at HN
        go_wp2_with fail
        go_roundw
        case rel => exact ⟨k + 1, K1, A, t + l, _, _, b2, c2, by go_num, by omega, by rw [hK1l], rfl, rfl, HN, Lib.hid (by rw [hK1l]; exact HW3.out), HB3⟩
        case measure => simp [intOf]; omega
      · have hf : decide (t + l ≤ d) = false := decide_eq_false hle
        obtain ⟨m, hm⟩ : ∃ m, m = longest js K1 := ⟨_, rfl⟩
        have hml : m < K1.length := by rw [hm]; exact mostN_lt _ _ (by omega)
        have HE := Lib.hid (show otStep js K A t i = (K1.eraseIdx m, A ++ [K1.getD m 0], t + l - longK js (K1.getD m 0)) by
          have e : longK js i = l := HL.out.symm
          unfold otStep
          rw [e, ← HDU.out, if_neg hle, ← HK1.out, ← hm])
        rw [HE.out] at HN
        have HMM := Lib.hid hm
        clear hm hle
        obtain ⟨wi, hwi⟩ : ∃ wi, wi = w3 := ⟨_, rfl⟩
        go_wp2_with fail
        go_loopw [10, 43] (fun lv jv wr => ∃ (j : Nat), jv = .int .i64 j ∧ j ≤ K1.length ∧ lv = .int .i64 (mostN (keptLong js K1) j) ∧ Hid (∃ n, wr = w3.drewN n)) (fun _ jv _ => K1.length + 1 - (intOf jv).toNat)
        case atStart => exact ⟨0, rfl, Nat.zero_le _, rfl, Lib.hid ⟨0, rfl⟩⟩
        case round =>
          obtain ⟨j, rfl, hj, rfl, hdr⟩ := hrel
          by_cases hjl : j < K1.length
          · have hjl' : (j : Int) < (K.length : Int) + 1 := by omega
            have hjl2 : (j : Int) < ((K.length + 1 : Nat) : Int) := by omega
            have hoR : Hid (wr.ownsRow w1.heap.size 2 1 (.slice (some ⟨g, 0, none⟩) (K.length + 1) c3) (K.length + 1) ((idxs K1).map I64)) := Lib.hid (by obtain ⟨n, rfl⟩ := hdr.out; exact HO3.out)
            have hjR : Hid (RdJ wr (.slice (some ⟨jb, jo, none⟩) js.length _) js) := Lib.hid (by obtain ⟨n, rfl⟩ := hdr.out; exact (HR.out.up HBw3.out (Nat.le_refl _)).drewN2 n)
            obtain ⟨p, hp⟩ : ∃ p, p = mostN (keptLong js K1) j := ⟨_, rfl⟩
            have hpj : p ≤ j := by rw [hp]; exact mostN_le _ _
            rw [← hp]
            have hc1 := own2_cell hoR.out hjl
            have hc2 := own2_cell hoR.out (show p < K1.length by omega)
            have hy := HM.out j hjl
            have hz := HM.out p (by omega)
            have HS := Lib.hid (show mostN (keptLong js K1) (j + 1) = if longK js (K1.getD p 0) < longK js (K1.getD j 0) then j else p by rw [hp]; rfl)
            have HP := Lib.hid hp
            clear hp
            obtain ⟨y, hye⟩ : ∃ y, y = K1.getD j 0 := ⟨_, rfl⟩
            obtain ⟨z, hze⟩ : ∃ z, z = K1.getD p 0 := ⟨_, rfl⟩
            rw [← hye] at hc1 hy HS
            rw [← hze] at hc2 hz HS
            clear hye hze
            obtain ⟨b4, o4, e4, _, y0, _, _, _⟩ := hjR.out.at hy
            simp only [Option.some.injEq, Addr.mk.injEq, and_true] at e4
            obtain ⟨rfl, rfl⟩ := e4
            obtain ⟨b5, o5, e5, _, z0, _, _, _⟩ := hjR.out.at hz
            simp only [Option.some.injEq, Addr.mk.injEq, and_true] at e5
            obtain ⟨rfl, rfl⟩ := e5
            unfold longK at HS
            obtain ⟨ly, hly⟩ : ∃ q, q = (js.getD y J0).long := ⟨_, rfl⟩
            obtain ⟨lz, hlz⟩ : ∃ q, q = (js.getD z J0).long := ⟨_, rfl⟩
            rw [← hly] at y0 HS
            rw [← hlz] at z0 HS
            clear hly hlz
            have hy' : (y : Int) < js.length := by omega
            have hz' : (z : Int) < js.length := by omega
            have hp1 : (p : Int) < (K.length : Int) + 1 := by omega
            have hp2 : (p : Int) < ((K.length + 1 : Nat) : Int) := by omega
            by_cases hlq : lz < ly
            · have hd1 : decide (lz < ly) = true := decide_eq_true hlq
              have HX := Lib.hid (show mostN (keptLong js K1) (j + 1) = j by rw [HS.out, if_pos hlq])
              clear hlq HS
              go_wp2_with fail
              go_quiet (fail)
              go_wp2_with fail
              go_roundw
              case rel => exact ⟨j + 1, by go_num, by omega, by rw [HX.out], Lib.hid (by obtain ⟨n, rfl⟩ := hdr.out; exact drewN_ex ⟨n, rfl⟩ _)⟩
              case measure => simp [intOf]; omega
            · have hd1 : decide (lz < ly) = false := decide_eq_false hlq
              have HX := Lib.hid (show mostN (keptLong js K1) (j + 1) = p by rw [HS.out, if_neg hlq])
              clear hlq HS
              go_wp2_with fail
              go_quiet (fail)
              go_wp2_with fail
              go_roundw
              case rel => exact ⟨j + 1, by go_num, by omega, by rw [HX.out], Lib.hid (by obtain ⟨n, rfl⟩ := hdr.out; exact drewN_ex ⟨n, rfl⟩ _)⟩
              case measure => simp [intOf]; omega
          · obtain rfl : j = K1.length := by omega
            obtain ⟨wd, rfl⟩ : ∃ wd, wd = wr := ⟨wr, rfl⟩
            have hmm := HMM.out
            unfold longest at hmm
            rw [← hmm]
            have hbd : Below w3.heap.size w3 wd := by obtain ⟨n, rfl⟩ := hdr.out; exact below_drewN (Below.refl _ _) n
            have HW4 := Lib.hid (HW3.out.up hbd (Nat.le_refl _))
            have hzd := hbd.size
            have hz3 := HB3.out.size
            have HB4 := Lib.hid (HB3.out.trans (hbd.mono hz3))
            have HO4 := Lib.hid (show wd.ownsRow w1.heap.size 2 1 (.slice (some ⟨g, 0, none⟩) (K.length + 1) c3) (K.length + 1) ((idxs K1).map I64) by obtain ⟨n, rfl⟩ := hdr.out; exact HO3.out)
            have hjR : Hid (RdJ wd (.slice (some ⟨jb, jo, none⟩) js.length _) js) := Lib.hid (by obtain ⟨n, rfl⟩ := hdr.out; exact (HR.out.up HBw3.out (Nat.le_refl _)).drewN2 n)
            have hc2 := own2_cell HO4.out hml
            have hz := HM.out m hml
            obtain ⟨z, hze⟩ : ∃ z, z = K1.getD m 0 := ⟨_, rfl⟩
            rw [← hze] at hc2 hz HE HN
            obtain ⟨b5, o5, e5, _, z0, _, _, _⟩ := hjR.out.at hz
            simp only [Option.some.injEq, Addr.mk.injEq, and_true] at e5
            obtain ⟨rfl, rfl⟩ := e5
            have hlz0 := HJ.out z hz
            unfold longK at hlz0 HN HE
            obtain ⟨lz, hlz⟩ : ∃ q, q = (js.getD z J0).long := ⟨_, rfl⟩
            rw [← hlz] at z0 hlz0 HN HE
            have hz' : (z : Int) < js.length := by omega
            have hm' : (m : Int) < (K.length : Int) + 1 := by omega
            have hm2 : (m : Int) < ((K.length + 1 : Nat) : Int) := by omega
            have hwz : IntKind.i64.wrap (t + l - lz) = t + l - lz := by rw [IntKind.wrap_i64]; omega
            have HA1 := Lib.hid (show wd.ownsRow w1.heap.size 2 1 (.slice b2 A.length c2) A.length ((idxs A).map I64) by have := HW4.out.2.1; rw [idxs_len] at this; exact this)
            have HLZ := Lib.hid hlz
            have HZE := Lib.hid hze
            clear hmm hbd hlz hze d0 d1
            go_upto_region 19 with (at_builtin; refine app_intsL rfl _ _ rfl w1.heap.size (.slice b2 A.length c2) A.length (idxs A) rfl (HA1.out.alloc _) _ [(z : Int)] rfl (slc_one _ _) (A.length + 1) (idxs (A ++ [z])) (by simp) (by rw [idxs_app]; rfl) (by omega) (by simp; omega) ?_; intro b4 c4 w5 hown5 hbl5 hg5 hor5)
            have hal5 : Below wd.heap.size wd (wd.alloc (.cells #[.int .i64 (z : Int)] 2)) := (Below.refl _ _).alloc (Nat.le_refl _) _
            have HW5 := Lib.hid (HW4.out.symm.grow hal5 hown5 (show A.length + 1 = (idxs (A ++ [z])).length by rw [idxs_len]; simp) hg5 hor5).symm
            have hlow : Below w1.heap.size wd w5 := ((Below.refl _ _).alloc (by omega) _).trans hbl5
            have HB5 := Lib.hid (HB4.out.trans hlow)
            have HO5 := Lib.hid (show w5.ownsRow w1.heap.size 2 1 (.slice (some ⟨g, 0, none⟩) (K.length + 1) c3) (K.length + 1) ((idxs K1).map I64) by have := HW5.out.1; rw [idxs_len, hK1l] at this; exact this)
            have hc5 := own2_cell HO5.out hml
            obtain ⟨b6, o6, e6, _, z5, _, _, _⟩ := (HR.out.up (HB1.out.trans (HB5.out.mono HB1.out.size)) (Nat.le_refl _)).at hz
            simp only [Option.some.injEq, Addr.mk.injEq, and_true] at e6
            obtain ⟨rfl, rfl⟩ := e6
            rw [← HLZ.out] at z5
            rw [← HZE.out] at hc5
            have hC := delete_any w1.heap.size g c3 m (idxs K1) w5 (by rw [idxs_len, hK1l]; exact HO5.out) (by rw [idxs_len]; exact hml) HB5.out.size
            rw [idxs_len, hK1l, ← idxs_erase] at hC
            have HC := Lib.hid hC
            clear hC hal5 hown5 hbl5 hg5 hor5 hlow HO4 HO3 HW3 hjR
            go_wp2_with (go_at_call 46; refine HC.out.mono ?_; rintro e w6 ⟨rfl, ho6, hk6⟩)
            have hl6 : K.length + 1 - 1 = (idxs (K1.eraseIdx m)).length := by rw [idxs_len, List.length_eraseIdx, if_pos hml, hK1l]
            have HW6 := Lib.hid (HW5.out.cut ho6 hl6 hk6)
            have HB6 := Lib.hid (HB5.out.trans (hk6.toBelow HB5.out.size (fun k h1 h2 => by omega)))
            go_roundw
            case rel => exact ⟨k + 1, K1.eraseIdx m, A ++ [z], t + l - lz, some ⟨g, 0, none⟩, c3, b4, c4, by go_num, by omega, by rw [List.length_eraseIdx, if_pos hml, hK1l]; rfl, by rw [List.length_append]; rfl, rfl, HN, Lib.hid (by rw [List.length_eraseIdx, if_pos hml, hK1l, List.length_append]; exact HW6.out), HB6⟩
            case measure => simp [intOf]; omega
    · obtain rfl : k = js.length := by omega
      have HE := Lib.hid HO.out.done
      have HW1 := Lib.hid (show wo.ownsRow w1.heap.size 2 1 (.slice b K.length c) K.length ((idxs K).map I64) by have := HW.out.1; rw [idxs_len] at this; exact this)
      have hsl : Hid (Slc wo (.slice b2 A.length c2) ((idxs A).map I64)) := Lib.hid (slc_of_owns HW.out.2.1)
      have hsz := HB.out.size
      go_wp2_with (first | (at_builtin; refine app_intsL rfl _ _ rfl w1.heap.size (.slice b K.length c) K.length (idxs K) rfl HW1.out _ (idxs A) rfl hsl.out (K.length + A.length) (idxs (K ++ A)) (by rw [idxs_len]) (idxs_app _ _) (by omega) hsz ?_; intro b3 c3 w3 hown3 hbl3 hg3 hor3) | (go_at_call 47; refine (size_any _ _ (by simp [maxLen]; omega)).mono ?_; rintro e w' ⟨rfl, rfl⟩))
      go_ret3
      have e1 : otN js = (K.length : Nat) := by unfold otN; rw [if_pos HQ.out, HE.out]
      have e2 : otL js = idxs (K ++ A) := by unfold otL; rw [if_pos HQ.out, HE.out]
      refine ⟨_, by rw [e1]; rfl, ?_, HB1.out.trans ((HB.out.trans hbl3).mono HB1.out.size)⟩
      rw [e2]
      exact (OwnI.mk hown3).wide HB1.out.size (Nat.le_refl _)

end Go.Proofs.Ytfdaifmfecfchaa
