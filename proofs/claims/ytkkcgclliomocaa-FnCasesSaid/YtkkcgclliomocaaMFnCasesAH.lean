/-
  FnCases: texts joined: Reader, LoadM.
-/
import Derived.Deep.Cut
import Derived.Test.YtkkcgclliomocaaMFnCasesAG
namespace Go.Proofs.Ytkkcgclliomocaa
open Go.RowKit

def Rdr (w : World) (b : Nat) (s : ByteArray) (t : RdSt) : Prop := Blk w b 130 #[.string s, .int .i64 t.p, .bool t.bad]

set_option maxHeartbeats 1000000 in
theorem rdByte_any (b : Nat) (s : ByteArray) (t : RdSt) (w : World) (hs : s.size ≤ maxLen) (hp : t.p ≤ s.size) (h : Rdr w b s t) :
    Calls Try.prog 104 #[.pointer (some ⟨b, 0, none⟩)] w fun e w' => e = .returned (.int .u8 (rdX s t)) ∧ Rdr w' b s (rdN s t) ∧ Kept (· = b) w w' ∧ w'.heap.size = w.heap.size := by
  unfold maxLen at hs
  have H := Lib.hid h
  have d0 : w.cell? ⟨b, 0, none⟩ = some (.string s) := h.cell 0 rfl
  have d1 : w.cell? ⟨b, 1, none⟩ = some (.int .i64 t.p) := h.cell 1 rfl
  have d2 : w.cell? ⟨b, 2, none⟩ = some (.bool t.bad) := h.cell 2 rfl
  have f1 := h.free 1
  have f2 := h.free 2
  obtain ⟨p, bad⟩ := t
  simp only at hp d1 d2
  clear h
  by_cases hlt : p < s.size
  · have HX := Lib.hid (show rdX s ⟨p, bad⟩ = s[p].toNat by unfold rdX; rw [if_pos hlt]; exact byteAt_get s p hlt)
    have HN := Lib.hid (show rdN s ⟨p, bad⟩ = ⟨p + 1, bad⟩ by unfold rdN; rw [if_pos hlt])
    have hlen : decide (s.size ≤ p) = false := decide_eq_false (by omega)
    have hset := Lib.hid (fun n : Nat => Blk.set (show Blk (w.drewN n) b 130 #[.string s, .int .i64 p, .bool bad] from H.out) 1 (.int .i64 ((p : Int) + 1)))
    go_enter Try.func104, Try.ntmps104
    go_wp2_with fail
    go_quiet (fail)
    go_upto_region 5 with fail
    refine wp_at fun W hW => ?_
    have HR := Lib.hid (show Rdr W b s ⟨p + 1, bad⟩ by
      subst hW; exact hset.out _)
    have HK := Lib.hid (show Kept (· = b) w W by subst hW; exact Kept.setCell (S := (· = b)) (p := ⟨b, 1, none⟩) ((Kept.refl _ _).drewN _) (.inr rfl) _)
    have HZ := Lib.hid (show W.heap.size = w.heap.size by subst hW; simp [World.setCell])
    clear hW d0 d1 d2 f1 f2 hlen
    have d0 : W.cell? ⟨b, 0, none⟩ = some (.string s) := HR.out.cell 0 rfl
    have d1 : W.cell? ⟨b, 1, none⟩ = some (.int .i64 ((p + 1 : Nat) : Int)) := HR.out.cell 1 rfl
    have d2 : W.cell? ⟨b, 2, none⟩ = some (.bool bad) := HR.out.cell 2 rfl
    have h1 : (((p + 1 : Nat) : Int) - 1).toNat = p := by omega
    have h3 : IntKind.i64.wrap (((p + 1 : Nat) : Int) - 1) = (p : Int) := by rw [IntWalk.i64_in _ (by omega)]; omega
    go_wp2_with fail
    go_quiet (fail)
    go_wp2_with fail
    go_ret
    refine ⟨by rw [HX.out]; rfl, ?_, ?_, ?_⟩
    · rw [HN.out]; exact HR.out
    · exact HK.out.drewN _
    · exact HZ.out
  · obtain rfl : p = s.size := by omega
    have HX := Lib.hid (show rdX s ⟨s.size, bad⟩ = 0 by unfold rdX; rw [if_neg hlt])
    have HN := Lib.hid (show rdN s ⟨s.size, bad⟩ = ⟨s.size, true⟩ by unfold rdN; rw [if_neg hlt])
    have hlen : decide (s.size ≤ s.size) = true := decide_eq_true (Nat.le_refl _)
    have hset := Lib.hid (fun n : Nat => Blk.set (show Blk (w.drewN n) b 130 #[.string s, .int .i64 s.size, .bool bad] from H.out) 2 (.bool true))
    have hkep := Lib.hid (fun n : Nat => Kept.setCell (S := (· = b)) (p := ⟨b, 2, none⟩) ((Kept.refl (· = b) w).drewN n) (.inr rfl) (.bool true))
    go_enter Try.func104, Try.ntmps104
    go_wp2_with fail
    go_quiet (fail)
    go_wp2_with fail
    go_ret
    refine ⟨by rw [HX.out]; rfl, ?_, ?_, ?_⟩
    · rw [HN.out]; exact hset.out _
    · exact hkep.out _
    · simp [World.setCell]

theorem conv_any {w : World} {base n cap : Nat} {a : Option Addr} {xs : List Int} (h : w.ownsRow base 5 1 (.slice a n cap) n (xs.map B8)) :
    (convert 22 9 (.slice a n cap)).run Try.prog w = .ok (.string (strOfNums xs)) w := by
  have hl : xs.length = n := by have := h.1; simpa using this
  by_cases h0 : 0 < n
  · exact conv_bytes h h0
  · obtain rfl : n = 0 := by omega
    obtain rfl : xs = [] := List.length_eq_zero_iff.1 hl
    rcases h.2 with ⟨e, _⟩ | ⟨g, cap', cur, e, _⟩
    · simp only [Value.slice.injEq] at e
      obtain ⟨rfl, _, rfl⟩ := e
      exact run_convert_bytes_nil w 22 5 Try.underlying22 Try.underlying5 0 0 9 Try.underlying9
    · simp only [Value.slice.injEq] at e
      obtain ⟨rfl, _, rfl⟩ := e
      exact run_convert_bytes_arg w 22 5 Try.underlying22 Try.underlying5 g 0 0 cap [] rfl (fun i hi => by omega) 9 Try.underlying9

set_option maxHeartbeats 2000000 in
set_option maxRecDepth 4000 in
theorem rdSome_any (b : Nat) (s : ByteArray) (t0 : RdSt) (n : Nat) (w : World) (hs : s.size ≤ maxLen) (hp : t0.p ≤ s.size) (hn : n ≤ 255) (h : Rdr w b s t0) :
    Calls Try.prog 103 #[.pointer (some ⟨b, 0, none⟩), .int .i64 n] w fun e w' => e = .returned (.string (strOfNums (rdSome s n t0).1)) ∧ Rdr w' b s (rdSome s n t0).2 ∧ Kept (· = b) w w' := by
  have H := Lib.hid h
  have HS := Lib.hid hs
  have hbw := h.lt
  unfold maxLen at hs
  clear h
  go_enter Try.func103, Try.ntmps103
  go_wp2_with fail
  go_loopw [1, 5] (fun mv o wr => ∃ (m k : Nat) (acc : List Int) (t : RdSt) (a : Option Addr) (cap : Nat), mv = .int .i64 m ∧ m ≤ n ∧ k + m ≤ n ∧ o = .slice a k cap ∧ t.p ≤ s.size ∧ Hid (wr.ownsRow w.heap.size 5 1 (.slice a k cap) k (acc.map B8)) ∧ Hid (Rdr wr b s t) ∧ Hid (Kept (· = b) w wr) ∧ Hid (rdSome s n t0 = (acc ++ (rdSome s m t).1, (rdSome s m t).2))) (fun mv _ _ => (intOf mv).toNat)
  case atStart => exact ⟨n, 0, [], t0, none, 0, rfl, Nat.le_refl _, by omega, rfl, hp, World.ownsRow_nil _ _ _ _, H, Kept.refl _ _, rfl⟩
  case round =>
    obtain ⟨m, k, acc, t, a, cap, rfl, hm, hkm, rfl, htp, HO, HR, HK, HE⟩ := hrel
    have hz := HK.out.size
    have hcv := conv_any HO.out
    by_cases hm0 : 0 < m
    · have hmI : (0 : Int) < (m : Int) := by omega
      have d2 : wr.cell? ⟨b, 2, none⟩ = some (.bool t.bad) := HR.out.cell 2 rfl
      obtain ⟨q, hq⟩ : ∃ q, t.bad = q := ⟨_, rfl⟩
      rw [hq] at d2
      have HQ := Lib.hid hq
      clear hq
      cases q
      · clear hcv
        obtain ⟨m', rfl⟩ : ∃ m', m = m' + 1 := ⟨m - 1, by omega⟩
        have HG := Lib.hid (rdSome_go s m' t HQ.out)
        have hxr := rdX_rng s t
        obtain ⟨x, hx⟩ : ∃ x, x = rdX s t := ⟨_, rfl⟩
        rw [← hx] at HG hxr
        have HX := Lib.hid hx
        clear hx
        go_wp2_with fail
        refine (rdByte_any b s t wr HS.out htp HR.out).mono ?_
        rintro e w1 ⟨rfl, hr1, hk1, hz1⟩
        rw [← HX.out]
        have HR1 := Lib.hid hr1
        have HK1 := Lib.hid (HK.out.trans hk1)
        have HO1 := Lib.hid (owns_kept HO.out hk1 (by rintro g hg rfl; have := (owns_lt HO.out hg).1; omega))
        have htp1 := rdN_le htp
        have hz1' : wr.heap.size ≤ w1.heap.size := Nat.le_of_eq hz1.symm
        clear hr1 hk1 d2 hz1
        go_wp2_with (at_builtin; refine app_bytes rfl _ _ rfl w.heap.size _ k acc rfl (HO1.out.alloc _) _ [x] rfl (slcB_lit _ [x] 1 _ _ rfl rfl (by omega) rfl) (k + 1) (acc ++ [x]) rfl rfl (by omega) (by simp; omega) ?_; intro g8 cap8 w8 ho8 hb8 _)
        have hb8' : Below w.heap.size w1 w8 := ((Below.refl _ _).alloc (by omega) _).trans hb8
        go_roundw
        case rel =>
          refine ⟨m', k + 1, acc ++ [x], rdN s t, g8, cap8, by go_num, by omega, by omega, rfl, htp1, ho8, ?_, HK1.out.below hb8' (Nat.le_refl _), ?_⟩
          · exact HR1.out.below hb8' hbw
          · have := HE.out
            rw [HG.out] at this
            refine Lib.hid ?_
            rw [this, List.append_assoc]; rfl
        case measure => simp [intOf]
      · have HG := Lib.hid (rdSome_bad s m t HQ.out)
        go_wp2_with fail
        go_ret
        have := HE.out
        rw [HG.out] at this
        exact ⟨by rw [this]; simp only [List.append_nil]; rfl, by rw [this]; exact HR.out, HK.out⟩
    · obtain rfl : m = 0 := by omega
      go_wp2_with fail
      go_ret
      have := HE.out
      exact ⟨by rw [this]; show _ = Ending.returned (Value.string (strOfNums (acc ++ []))); rw [List.append_nil]; rfl, by rw [this]; exact HR.out, HK.out⟩

theorem ownEach_kept {lo hi : Nat} {w w' : World} {vs : List Value} {zss : List (List Int)} {S : Nat → Prop} (h : OwnEach lo hi w vs zss) (hk : Kept S w w') (hs : ∀ b, lo ≤ b → b < hi → ¬ S b) : OwnEach lo hi w' vs zss :=
  ⟨h.1, fun i u zs a b => (h.2.1 i u zs a b).kept hk hs, h.2.2⟩
theorem sgn_wrap {x : Int} (h : 0 ≤ x ∧ x < 256) : IntKind.i8.wrap x = sgn x := by
  unfold sgn
  simp only [IntKind.wrap, IntKind.bits, IntKind.signed, Bool.true_and, decide_eq_true_eq, show ((2 : Int) ^ 8) = 256 from by decide, show ((2 : Int) ^ (8 - 1)) = 128 from by decide]
  split <;> split <;> omega
theorem sgn_rng {x : Int} (h : 0 ≤ x ∧ x < 256) : -128 ≤ sgn x ∧ sgn x ≤ 127 := by
  unfold sgn; split <;> omega

set_option maxHeartbeats 4000000 in
set_option maxRecDepth 8000 in
theorem rdClauses_any (b : Nat) (s : ByteArray) (t0 : RdSt) (n : Nat) (w : World) (hs : s.size ≤ maxLen) (hp : t0.p ≤ s.size) (hn : n ≤ 255) (h : Rdr w b s t0) :
    Calls Try.prog 105 #[.pointer (some ⟨b, 0, none⟩), .int .i64 n] w fun e w' => ∃ v, e = .returned v ∧ OwnL w.heap.size w'.heap.size w' v (rdClauses s n t0).1 ∧ Rdr w' b s (rdClauses s n t0).2 ∧ Kept (· = b) w w' := by
  have H := Lib.hid h
  have HS := Lib.hid hs
  have hbw := h.lt
  unfold maxLen at hs
  clear h
  go_enter Try.func105, Try.ntmps105
  go_wp2_with fail
  go_loopw [1, 5] (fun mv o wr => ∃ (m k : Nat) (acc : List (List Int)) (vs : List Value) (t : RdSt) (a : Option Addr) (cap : Nat), mv = .int .i64 m ∧ m ≤ n ∧ k + m ≤ n ∧ o = .slice a k cap ∧ t.p ≤ s.size ∧ Hid (wr.ownsRow w.heap.size 65 1 (.slice a k cap) k vs) ∧ Hid (OwnEach w.heap.size wr.heap.size wr vs acc) ∧ Hid (Rdr wr b s t) ∧ Hid (Kept (· = b) w wr) ∧ Hid (rdClauses s n t0 = (acc ++ (rdClauses s m t).1, (rdClauses s m t).2))) (fun mv _ _ => (intOf mv).toNat)
  case atStart => exact ⟨n, 0, [], [], t0, none, 0, rfl, Nat.le_refl _, by omega, rfl, hp, World.ownsRow_nil _ _ _ _, ⟨rfl, by intro i u zs h; simp at h, by intro i j u u' g _ h; simp at h⟩, H, Kept.refl _ _, rfl⟩
  case round =>
    obtain ⟨m, k, acc, vs, t, a, cap, rfl, hm, hkm, rfl, htp, HO, HE, HR, HK, HEQ⟩ := hrel
    have hz := HK.out.size
    have HEND := Lib.hid (show ((rdClauses s n t0).1 = acc ∧ (rdClauses s n t0).2 = t) → ∃ v, Ending.returned (Value.slice a k cap) = Ending.returned v ∧ OwnL w.heap.size wr.heap.size wr v (rdClauses s n t0).1 ∧ Rdr wr b s (rdClauses s n t0).2 ∧ Kept (· = b) w wr from fun he => by
      rw [he.1, he.2]
      exact ⟨_, rfl, ⟨vs, by rw [show acc.length = k by rw [← HE.out.1]; exact owns_len HO.out]; exact HO.out, fun g hg => (owns_lt HO.out hg).2, HE.out⟩, HR.out, HK.out⟩)
    by_cases hm0 : 0 < m
    · have hmI : (0 : Int) < (m : Int) := by omega
      have d2 : wr.cell? ⟨b, 2, none⟩ = some (.bool t.bad) := HR.out.cell 2 rfl
      obtain ⟨q, hq⟩ : ∃ q, t.bad = q := ⟨_, rfl⟩
      rw [hq] at d2
      have HQ := Lib.hid hq
      clear hq
      cases q
      · obtain ⟨m', rfl⟩ : ∃ m', m = m' + 1 := ⟨m - 1, by omega⟩
        have HG := Lib.hid (rdClauses_go s m' t HQ.out)
        have hxr := rdX_rng s t
        obtain ⟨L, hL⟩ : ∃ L : Nat, (L : Int) = rdX s t := ⟨(rdX s t).toNat, by omega⟩
        have HCL := Lib.hid (show rdClause s t = ((rdSome s L (rdN s t)).1.map sgn, (rdSome s L (rdN s t)).2) by unfold rdClause; rw [← hL]; rfl)
        rw [← hL] at hxr
        have HX := Lib.hid hL
        clear hL HEND
        go_wp2_with fail
        refine (rdByte_any b s t wr HS.out htp HR.out).mono ?_
        rintro e w1 ⟨rfl, hr1, hk1, hz1⟩
        rw [← HX.out]
        have HR1 := Lib.hid hr1
        have HK1 := Lib.hid (HK.out.trans hk1)
        have HO1 := Lib.hid (owns_kept HO.out hk1 (by rintro g hg rfl; have := (owns_lt HO.out hg).1; omega))
        have HE1 := Lib.hid (show OwnEach w.heap.size wr.heap.size w1 vs acc from ownEach_kept HE.out hk1 (by rintro g h1 h2 rfl; omega))
        have htp1 := rdN_le htp
        have hz1' : wr.heap.size ≤ w1.heap.size := Nat.le_of_eq hz1.symm
        clear hr1 hk1 d2 hz1
        obtain ⟨wo, rfl⟩ : ∃ wo, wo = wr := ⟨wr, rfl⟩
        go_wp2_with fail
        go_loopw [6, 7] (fun o kv wr2 => ∃ (m2 k2 : Nat) (raw : List Int) (t2 : RdSt) (a2 : Option Addr) (cap2 : Nat), kv = .int .u8 m2 ∧ m2 ≤ L ∧ k2 + m2 ≤ L ∧ o = .slice a2 k2 cap2 ∧ t2.p ≤ s.size ∧ Hid (wr2.ownsRow w1.heap.size 2 1 (.slice a2 k2 cap2) k2 ((raw.map sgn).map I64)) ∧ Hid (Rdr wr2 b s t2) ∧ Hid (Kept (· = b) w1 wr2) ∧ Hid (rdSome s L (rdN s t) = (raw ++ (rdSome s m2 t2).1, (rdSome s m2 t2).2))) (fun _ kv _ => (intOf kv).toNat)
        case atStart => exact ⟨L, 0, [], rdN s t, none, 0, rfl, Nat.le_refl _, by omega, rfl, htp1, World.ownsRow_nil _ _ _ _, HR1, Kept.refl _ _, rfl⟩
        case round =>
          obtain ⟨m2, k2, raw, t2, a2, cap2, rfl, hm2, hkm2, rfl, htp2, HO2, HR2, HK2, HE2⟩ := hrel
          have hzw := HK2.out.size
          have HDONE := Lib.hid (show rdSome s m2 t2 = ([], t2) → rdClauses s n t0 = ((acc ++ [raw.map sgn]) ++ (rdClauses s m' t2).1, (rdClauses s m' t2).2) from fun hr => by
            have e1 := HE2.out
            rw [hr] at e1
            have e2 := HEQ.out
            have e3 := HCL.out
            rw [e1] at e3
            simp only [List.append_nil] at e3
            rw [HG.out, e3] at e2
            rw [e2, List.append_assoc]
            rfl)
          by_cases hm20 : 0 < m2
          · have hm2I : (0 : Int) < (m2 : Int) := by omega
            have d2 : wr.cell? ⟨b, 2, none⟩ = some (.bool t2.bad) := HR2.out.cell 2 rfl
            obtain ⟨q2, hq2⟩ : ∃ q, t2.bad = q := ⟨_, rfl⟩
            rw [hq2] at d2
            have HQ2 := Lib.hid hq2
            clear hq2
            cases q2
            · obtain ⟨m3, rfl⟩ : ∃ m3, m2 = m3 + 1 := ⟨m2 - 1, by omega⟩
              have HG2 := Lib.hid (rdSome_go s m3 t2 HQ2.out)
              have hyr := rdX_rng s t2
              obtain ⟨y, hy⟩ : ∃ y, y = rdX s t2 := ⟨_, rfl⟩
              rw [← hy] at HG2 hyr
              have HY := Lib.hid hy
              have hsw := sgn_wrap hyr
              have hsr := sgn_rng hyr
              obtain ⟨z, hzz⟩ : ∃ z, z = sgn y := ⟨_, rfl⟩
              rw [← hzz] at hsw hsr
              have HZZ := Lib.hid hzz
              clear hy hzz
              go_wp2_with fail
              refine (rdByte_any b s t2 wr HS.out htp2 HR2.out).mono ?_
              rintro e w3 ⟨rfl, hr3, hk3, hz3⟩
              rw [← HY.out]
              have HR3 := Lib.hid hr3
              have HK3 := Lib.hid (HK2.out.trans hk3)
              have HO3 := Lib.hid (owns_kept HO2.out hk3 (by rintro g hg rfl; have := (owns_lt HO2.out hg).1; omega))
              have htp3 := rdN_le htp2
              have hz3' : wr.heap.size ≤ w3.heap.size := Nat.le_of_eq hz3.symm
              clear hr3 hk3 d2 hz3
              go_wp2_with (at_builtin; refine app_ints rfl _ _ rfl w1.heap.size _ k2 (raw.map sgn) rfl (HO3.out.alloc _) _ [z] rfl (slc_one w3 z) (k2 + 1) ((raw ++ [y]).map sgn) rfl (by rw [List.map_append, HZZ.out]; rfl) (by omega) (by simp; omega) ?_; intro g8 cap8 w8 ho8 hb8 _ _)
              have hb8' : Below w1.heap.size w3 w8 := ((Below.refl _ _).alloc (by omega) _).trans hb8
              go_roundw
              case rel =>
                refine ⟨m3, k2 + 1, raw ++ [y], rdN s t2, g8, cap8, by go_num, by omega, by omega, rfl, htp3, ho8, ?_, HK3.out.below hb8' (Nat.le_refl _), ?_⟩
                · exact HR3.out.below hb8' (by omega)
                · have := HE2.out
                  rw [HG2.out] at this
                  refine Lib.hid ?_
                  rw [this, List.append_assoc]; rfl
              case measure => simp [intOf]
            · have HDN := Lib.hid (HDONE.out (rdSome_bad s m2 t2 HQ2.out))
              clear HDONE
              have hal := (Below.refl wr.heap.size wr).alloc (Nat.le_refl _) (.cells #[.slice a2 k2 cap2] 65)
              have hlen : (raw.map sgn).length = k2 := by have := HO2.out.1; simpa using this
              have HU := Lib.hid (show OwnI w1.heap.size wr.heap.size (wr.alloc (.cells #[.slice a2 k2 cap2] 65)) (.slice a2 k2 cap2) (raw.map sgn) from (show OwnI w1.heap.size wr.heap.size wr (.slice a2 k2 cap2) (raw.map sgn) from OwnI.mk HO2.out).up hal (Nat.le_refl _))
              have HO5 := Lib.hid (owns_below (owns_kept HO1.out HK2.out (by rintro g hg rfl; have := (owns_lt HO1.out hg).1; omega)) hal (Nat.le_refl _))
              have HE5 := Lib.hid ((ownEach_kept HE1.out HK2.out (by rintro g h1 h2 rfl; omega)).up hal (Nat.le_refl _))
              have HR5 := Lib.hid (show Rdr (wr.alloc (.cells #[.slice a2 k2 cap2] 65)) b s t2 from HR2.out.alloc _)
              have HK5 := Lib.hid ((HK1.out.trans HK2.out).alloc (.cells #[.slice a2 k2 cap2] 65))
              clear hal
              go_wp2_with (at_builtin; refine app_list rfl _ _ rfl w.heap.size (.slice a k cap) k vs rfl HO5.out _ a2 k2 cap2 rfl (slc_list wr _ _ rfl) (by omega) (by simp; omega) ?_; intro oa2 oc2 w6 hown6 hbl6 hg6)
              go_roundw
              case rel =>
                refine ⟨m', k + 1, acc ++ [raw.map sgn], vs ++ [Value.slice a2 k2 cap2], t2, oa2, oc2, by go_num, by omega, by omega, rfl, htp2, Lib.hid hown6, ?_, ?_, ?_, HDN⟩
                · exact OwnEach.snoc HO5.out HE5.out HU.out (by omega) (by omega) (by simp) (by simp; omega) hg6
                · exact HR5.out.below hbl6 hbw
                · exact HK5.out.below hbl6 (Nat.le_refl _)
              case measure => simp [intOf]
          · obtain rfl : m2 = 0 := by omega
            have HDN := Lib.hid (HDONE.out rfl)
            clear HDONE
            have hal := (Below.refl wr.heap.size wr).alloc (Nat.le_refl _) (.cells #[.slice a2 k2 cap2] 65)
            have hlen : (raw.map sgn).length = k2 := by have := HO2.out.1; simpa using this
            have HU := Lib.hid (show OwnI w1.heap.size wr.heap.size (wr.alloc (.cells #[.slice a2 k2 cap2] 65)) (.slice a2 k2 cap2) (raw.map sgn) from (show OwnI w1.heap.size wr.heap.size wr (.slice a2 k2 cap2) (raw.map sgn) from OwnI.mk HO2.out).up hal (Nat.le_refl _))
            have HO5 := Lib.hid (owns_below (owns_kept HO1.out HK2.out (by rintro g hg rfl; have := (owns_lt HO1.out hg).1; omega)) hal (Nat.le_refl _))
            have HE5 := Lib.hid ((ownEach_kept HE1.out HK2.out (by rintro g h1 h2 rfl; omega)).up hal (Nat.le_refl _))
            have HR5 := Lib.hid (show Rdr (wr.alloc (.cells #[.slice a2 k2 cap2] 65)) b s t2 from HR2.out.alloc _)
            have HK5 := Lib.hid ((HK1.out.trans HK2.out).alloc (.cells #[.slice a2 k2 cap2] 65))
            clear hal
            go_wp2_with (at_builtin; refine app_list rfl _ _ rfl w.heap.size (.slice a k cap) k vs rfl HO5.out _ a2 k2 cap2 rfl (slc_list wr _ _ rfl) (by omega) (by simp; omega) ?_; intro oa2 oc2 w6 hown6 hbl6 hg6)
            go_roundw
            case rel =>
              refine ⟨m', k + 1, acc ++ [raw.map sgn], vs ++ [Value.slice a2 k2 cap2], t2, oa2, oc2, by go_num, by omega, by omega, rfl, htp2, Lib.hid hown6, ?_, ?_, ?_, HDN⟩
              · exact OwnEach.snoc HO5.out HE5.out HU.out (by omega) (by omega) (by simp) (by simp; omega) hg6
              · exact HR5.out.below hbl6 hbw
              · exact HK5.out.below hbl6 (Nat.le_refl _)
            case measure => simp [intOf]
      · have HG := Lib.hid (rdClauses_bad s m t HQ.out)
        go_wp2_with fail
        go_ret
        have := HEQ.out
        rw [HG.out] at this
        exact HEND.out ⟨by rw [this]; simp, by rw [this]⟩
    · obtain rfl : m = 0 := by omega
      go_wp2_with fail
      go_ret
      have := HEQ.out
      exact HEND.out ⟨by rw [this]; show acc ++ [] = acc; simp, by rw [this]; rfl⟩

end Go.Proofs.Ytkkcgclliomocaa

namespace Go.Proofs.Ytkkcgclliomocaa
open Go.RowKit

/-- The text's first bytes. -/
def preS (s : ByteArray) (n : Nat) : ByteArray := strOfNums ((bytesOf s).take n)
/-- A piece of it. -/
def midL (s : ByteArray) (p n : Nat) : List Int := ((bytesOf s).drop p).take n

/-- The reference's clause at a place. -/
def clAt (s : ByteArray) (p : Nat) : Option (List Int × Nat) :=
  if p + 1 ≤ s.size ∧ p + 1 + (byteAt s p).toNat ≤ s.size then some ((midL s (p + 1) (byteAt s p).toNat).map sgn, p + 1 + (byteAt s p).toNat) else none
def clsAt (s : ByteArray) : Nat → Nat → Option (List (List Int) × Nat)
  | 0, p => some ([], p)
  | n + 1, p => (clAt s p).bind fun r => (clsAt s n r.2).map fun q => (r.1 :: q.1, q.2)
/-- The reference's reading: the case, and how many bytes. -/
def specP (s : ByteArray) : Option (CaseD × Nat) :=
  if 5 ≤ s.size ∧ 5 + (byteAt s 4).toNat + 3 ≤ s.size then
    (clsAt s (byteAt s (5 + (byteAt s 4).toNat + 1)).toNat (5 + (byteAt s 4).toNat + 3)).bind fun r =>
      (clsAt s (byteAt s (5 + (byteAt s 4).toNat + 2)).toNat r.2).bind fun q =>
        if q.2 + 2 ≤ s.size then some (⟨strOfNums (midL s 5 (byteAt s 4).toNat), ⟨byteAt s (5 + (byteAt s 4).toNat), r.1⟩, q.1⟩, q.2 + 2) else none
  else none
noncomputable def accP (s : ByteArray) : Option (CaseD × Nat) := (specP s).bind fun r => if caseB r.1 = true ∧ storeS r.1 = preS s r.2 then some r else none

/-- The program's reading. -/
def t1 (s : ByteArray) : RdSt := (rdSome s 4 ⟨0, false⟩).2
def nmR (s : ByteArray) : List Int × RdSt := rdSome s (rdX s (t1 s)).toNat (rdN s (t1 s))
def t4 (s : ByteArray) : RdSt := rdN s (nmR s).2
def t5 (s : ByteArray) : RdSt := rdN s (t4 s)
def t6 (s : ByteArray) : RdSt := rdN s (t5 s)
def clR (s : ByteArray) : List (List Int) × RdSt := rdClauses s (rdX s (t4 s)).toNat (t6 s)
def prR (s : ByteArray) : List (List Int) × RdSt := rdClauses s (rdX s (t5 s)).toNat (clR s).2
def t9 (s : ByteArray) : RdSt := (rdSome s 2 (prR s).2).2
def implC (s : ByteArray) : CaseD := ⟨strOfNums (nmR s).1, ⟨rdX s (nmR s).2, (clR s).1⟩, (prR s).1⟩
def casB (s : ByteArray) : Bool := decide ((rdSome s 4 ⟨0, false⟩).1 = [67, 65, 83, 49])
noncomputable def accI (s : ByteArray) : Option (CaseD × Nat) := if casB s = true ∧ (t9 s).bad = false ∧ caseB (implC s) = true ∧ storeS (implC s) = preS s (t9 s).p then some (implC s, (t9 s).p) else none

/-- A reader that has failed stands at the end. -/
def RdOk (s : ByteArray) (t : RdSt) : Prop := t.p ≤ s.size ∧ (t.bad = true → t.p = s.size)
def dead (s : ByteArray) : RdSt := ⟨s.size, true⟩
theorem rdOk_dead {s : ByteArray} {t : RdSt} (h : RdOk s t) (hb : t.bad = true) : t = dead s := by
  obtain ⟨p, b⟩ := t
  simp only at hb
  have := h.2 hb
  simp only at this
  subst hb this
  rfl
theorem rdOk_live {s : ByteArray} {p : Nat} (h : p ≤ s.size) : RdOk s ⟨p, false⟩ := ⟨h, fun h => by cases h⟩
theorem rdN_live {s : ByteArray} {p : Nat} (h : p < s.size) : rdN s ⟨p, false⟩ = ⟨p + 1, false⟩ := by unfold rdN; rw [if_pos h]
theorem rdX_live {s : ByteArray} {p : Nat} (h : p < s.size) : rdX s ⟨p, false⟩ = byteAt s p := by unfold rdX; rw [if_pos h]
theorem rdN_end (s : ByteArray) (b : Bool) : rdN s ⟨s.size, b⟩ = dead s := by unfold rdN; rw [if_neg (by simp)]; rfl
theorem rdN_dead (s : ByteArray) : rdN s (dead s) = dead s := rdN_end s true
theorem rdSome_dead (s : ByteArray) (n : Nat) : rdSome s n (dead s) = ([], dead s) := rdSome_bad s n _ rfl
theorem rdClauses_dead (s : ByteArray) (n : Nat) : rdClauses s n (dead s) = ([], dead s) := rdClauses_bad s n _ rfl
theorem midL_succ (s : ByteArray) (p n : Nat) (h : p < s.size) : midL s p (n + 1) = byteAt s p :: midL s (p + 1) n := by
  unfold midL byteAt
  have hp : p < (bytesOf s).length := by rw [bytesOf_len]; exact h
  rw [List.drop_eq_getElem_cons hp, List.take_succ_cons]
  simp [hp]
theorem rdSome_spec (s : ByteArray) : ∀ (n p : Nat), p ≤ s.size → (p + n ≤ s.size → rdSome s n ⟨p, false⟩ = (midL s p n, ⟨p + n, false⟩)) ∧ (s.size < p + n → (rdSome s n ⟨p, false⟩).2 = dead s)
  | 0, p, h => ⟨fun _ => by simp [rdSome, midL], fun h2 => by omega⟩
  | n + 1, p, h => by
    rw [rdSome_go s n ⟨p, false⟩ rfl]
    by_cases hp : p < s.size
    · rw [rdX_live hp, rdN_live hp]
      have ih := rdSome_spec s n (p + 1) (by omega)
      constructor
      · intro h2
        rw [ih.1 (by omega), midL_succ s p n hp]
        simp only [RdSt.mk.injEq, and_true, Prod.mk.injEq, true_and]
        omega
      · intro h2
        exact ih.2 (by omega)
    · obtain rfl : p = s.size := by omega
      refine ⟨fun h2 => by omega, fun _ => ?_⟩
      rw [rdN_end, rdSome_dead]
theorem rdClause_spec (s : ByteArray) (p : Nat) (h : p ≤ s.size) : (∀ r, clAt s p = some r → rdClause s ⟨p, false⟩ = (r.1, ⟨r.2, false⟩) ∧ r.2 ≤ s.size) ∧ (clAt s p = none → (rdClause s ⟨p, false⟩).2 = dead s) := by
  unfold clAt rdClause
  by_cases hp : p < s.size
  · rw [rdX_live hp, rdN_live hp]
    have h1 := rdSome_spec s (byteAt s p).toNat (p + 1) (by omega)
    constructor
    · intro r hr
      split at hr
      · next hh =>
        simp only [Option.some.injEq] at hr
        subst hr
        rw [h1.1 hh.2]
        exact ⟨rfl, hh.2⟩
      · cases hr
    · intro hr
      split at hr
      · cases hr
      · next hh => exact h1.2 (by omega)
  · obtain rfl : p = s.size := by omega
    rw [rdN_end, rdSome_dead]
    refine ⟨fun r hr => ?_, fun _ => rfl⟩
    split at hr
    · omega
    · cases hr
theorem rdClauses_spec (s : ByteArray) : ∀ (n p : Nat), p ≤ s.size → (∀ r, clsAt s n p = some r → rdClauses s n ⟨p, false⟩ = (r.1, ⟨r.2, false⟩) ∧ r.2 ≤ s.size) ∧ (clsAt s n p = none → (rdClauses s n ⟨p, false⟩).2 = dead s)
  | 0, p, h => ⟨fun r hr => by simp only [clsAt, Option.some.injEq] at hr; subst hr; exact ⟨rfl, h⟩, fun hr => by cases hr⟩
  | n + 1, p, h => by
    rw [rdClauses_go s n ⟨p, false⟩ rfl]
    have hc := rdClause_spec s p h
    cases hq : clAt s p with
    | none =>
      have h1 := hc.2 hq
      constructor
      · intro r hr
        simp only [clsAt, hq] at hr
        cases hr
      · intro _
        rw [h1, rdClauses_dead]
    | some q =>
      obtain ⟨h1, h2⟩ := hc.1 q hq
      have ih := rdClauses_spec s n q.2 h2
      rw [h1]
      constructor
      · intro r hr
        simp only [clsAt, hq, Option.bind_some, Option.map_eq_some_iff] at hr
        obtain ⟨u, hu, rfl⟩ := hr
        obtain ⟨h3, h4⟩ := ih.1 u hu
        rw [h3]
        exact ⟨rfl, h4⟩
      · intro hr
        simp only [clsAt, hq, Option.bind_some, Option.map_eq_none_iff] at hr
        exact ih.2 hr

theorem store_rng (c : CaseD) : AllB (storeBytes c) := AllB.append (body_rng c) (fun x hx => by
  simp only [List.mem_cons, List.not_mem_nil, or_false] at hx
  rcases hx with rfl | rfl
  · exact by8_rng _
  · exact by8_rng _)

/-- The program's reading, where the reference's goes through; and where not. -/
theorem impl_spec (s : ByteArray) : (∀ r, specP s = some r → implC s = r.1 ∧ t9 s = ⟨r.2, false⟩ ∧ (rdSome s 4 ⟨0, false⟩).1 = (bytesOf s).take 4) ∧ (specP s = none → (t9 s).bad = true) := by
  have hdead : ∀ n, (rdSome s n (dead s)).2 = dead s := fun n => by rw [rdSome_dead]
  unfold specP implC t9 prR clR t6 t5 t4 nmR t1
  have h4 := rdSome_spec s 4 0 (Nat.zero_le _)
  by_cases h5 : 4 < s.size
  case neg =>
    rw [if_neg (by omega)]
    refine ⟨fun r hr => (by cases hr), fun _ => ?_⟩
    have : rdN s (rdSome s 4 ⟨0, false⟩).2 = dead s := by
      by_cases h : s.size = 4
      · rw [(h4.1 (by omega))]
        show rdN s ⟨4, false⟩ = _
        rw [← h]; exact rdN_end s false
      · rw [h4.2 (by omega)]; exact rdN_dead s
    rw [this]
    simp only [rdSome_dead, rdN_dead, rdClauses_dead]
    rfl
  rw [h4.1 (by omega)]
  simp only [Nat.zero_add]
  rw [rdN_live h5, rdX_live h5]
  obtain ⟨k, hk⟩ : ∃ k, k = (byteAt s 4).toNat := ⟨_, rfl⟩
  rw [← hk]
  have hn := rdSome_spec s k (4 + 1) (by omega)
  by_cases hA : 5 + k + 3 ≤ s.size
  case neg =>
    rw [if_neg (by omega)]
    refine ⟨fun r hr => (by cases hr), fun _ => ?_⟩
    have hd : rdN s (rdN s (rdN s (rdSome s k ⟨4 + 1, false⟩).2)) = dead s := by
      by_cases hB : 5 + k ≤ s.size
      · rw [hn.1 (by omega)]
        by_cases e0 : s.size = 5 + k
        · rw [show (⟨4 + 1 + k, false⟩ : RdSt) = ⟨s.size, false⟩ by rw [e0], rdN_end, rdN_dead, rdN_dead]
        · rw [rdN_live (by omega)]
          by_cases e1 : s.size = 5 + k + 1
          · rw [show (⟨4 + 1 + k + 1, false⟩ : RdSt) = ⟨s.size, false⟩ by rw [e1], rdN_end, rdN_dead]
          · rw [rdN_live (by omega), show (⟨4 + 1 + k + 1 + 1, false⟩ : RdSt) = ⟨s.size, false⟩ by rw [show s.size = 4 + 1 + k + 1 + 1 by omega], rdN_end]
      · rw [hn.2 (by omega)]; simp only [rdN_dead]
    rw [hd]
    simp only [rdSome_dead, rdN_dead, rdClauses_dead]
    rfl
  rw [if_pos ⟨by omega, hA⟩, hn.1 (by omega)]
  rw [show 4 + 1 + k = 5 + k by omega]
  simp only
  rw [rdN_live (show 5 + k < s.size by omega), rdX_live (show 5 + k < s.size by omega), rdX_live (show 5 + k + 1 < s.size by omega), rdN_live (show 5 + k + 1 < s.size by omega), rdX_live (show 5 + k + 1 + 1 < s.size by omega), rdN_live (show 5 + k + 1 + 1 < s.size by omega)]
  rw [show 5 + k + 1 + 1 = 5 + k + 2 by omega, show 5 + k + 2 + 1 = 5 + k + 3 by omega]
  have hc := rdClauses_spec s (byteAt s (5 + k + 1)).toNat (5 + k + 3) hA
  cases hq : clsAt s (byteAt s (5 + k + 1)).toNat (5 + k + 3) with
  | none =>
    refine ⟨fun r hr => (by cases hr), fun _ => ?_⟩
    rw [hc.2 hq]
    simp only [rdSome_dead, rdClauses_dead]
    rfl
  | some q =>
    obtain ⟨h1, h2⟩ := hc.1 q hq
    rw [h1]
    simp only [Option.bind_some]
    have hc2 := rdClauses_spec s (byteAt s (5 + k + 2)).toNat q.2 h2
    cases hu : clsAt s (byteAt s (5 + k + 2)).toNat q.2 with
    | none =>
      refine ⟨fun r hr => (by cases hr), fun _ => ?_⟩
      rw [hc2.2 hu]
      simp only [rdSome_dead]
      rfl
    | some u =>
      obtain ⟨h3, h6⟩ := hc2.1 u hu
      rw [h3]
      simp only [Option.bind_some]
      have hl := rdSome_spec s 2 u.2 h6
      by_cases hE : u.2 + 2 ≤ s.size
      · rw [if_pos hE]
        refine ⟨fun r hr => ?_, fun hr => by cases hr⟩
        simp only [Option.some.injEq] at hr
        subst hr
        refine ⟨rfl, by rw [hl.1 hE], ?_⟩
        simp [midL]
      · rw [if_neg hE]
        refine ⟨fun r hr => (by cases hr), fun _ => ?_⟩
        rw [hl.2 (by omega)]
        rfl

theorem accI_eq (s : ByteArray) : accI s = accP s := by
  have h := impl_spec s
  unfold accI accP
  cases hq : specP s with
  | none =>
    have := h.2 hq
    rw [if_neg (by rw [this]; rintro ⟨_, h, _⟩; cases h)]
    rfl
  | some r =>
    obtain ⟨h1, h2, h3⟩ := h.1 r hq
    rw [h1, h2]
    simp only [Option.bind_some, true_and]
    by_cases hh : caseB r.1 = true ∧ storeS r.1 = preS s r.2
    · have hc : casB s = true := by
        unfold casB
        rw [h3, decide_eq_true_eq]
        have e := congrArg bytesOf hh.2
        unfold preS at e
        rw [bytes_back _ (fun x hx => bytesOf_rng s x (List.mem_of_mem_take hx))] at e
        unfold storeS at e
        rw [bytes_back _ (store_rng r.1)] at e
        have e4 := congrArg (List.take 4) e
        rw [List.take_take] at e4
        have hr4 : 4 ≤ r.2 := by
          have hl := congrArg List.length e
          rw [List.length_take] at hl
          unfold storeBytes bodyBytes headBytes at hl
          simp only [List.length_append, List.length_cons] at hl
          omega
        rw [Nat.min_eq_left hr4] at e4
        rw [← e4]
        rfl
      rw [if_pos ⟨hc, hh⟩, if_pos hh]
    · rw [if_neg (fun h => hh h.2), if_neg hh]

end Go.Proofs.Ytkkcgclliomocaa
