/-
  Choices: how many, and the first one; by the reference and by the program.
-/
import Derived.Test.YtnhamdkpeefioaaDiffer
namespace Go.Proofs.Ytnhamdkpeefioaa
open Go.RowKit

theorem allC_len {D : List (List Int)} (h : ValD D) : (allC D).length ≤ 262144 := choi_8 h D.length [] h.2.1
theorem allC_mem {D : List (List Int)} {s : List Int} (h : s ∈ allC D) : s.length = D.length := by have := choi_mem D D.length [] s h; simpa using this

/-- What is returned. -/
noncomputable def cdN (D : List (List Int)) : Int := if validD D = true then ((allC D).length : Nat) else 0
noncomputable def fdL (D : List (List Int)) : List Int := if validD D = true then (allC D).head?.getD [] else []
noncomputable def fdOk (D : List (List Int)) : Bool := if validD D = true then !(allC D).isEmpty else false
theorem fdL_cnt (D : List (List Int)) : cntI (fdL D) ≤ 1048576 := by
  unfold cntI fdL
  split
  · next h =>
    cases e : allC D with
    | nil => simp
    | cons s r =>
      have := allC_mem (D := D) (s := s) (by rw [e]; simp)
      have := (validD_iff.1 h).2.1
      simp
      omega
  · simp

set_option maxHeartbeats 1000000 in
theorem specCountD_any (v : Value) (D : List (List Int)) (w : World) (h : RdL w v D) :
    Calls Try.prog 30 #[v] w fun e w' => e = .returned (.tuple #[.int .i64 (cdN D), .bool (validD D)]) ∧ Below w.heap.size w w' := by
  have H := Lib.hid (l07Domains_any v D w h)
  obtain ⟨a, c, rfl⟩ := h.shape
  have HRD := Lib.hid h
  clear h
  go_enter Try.func30, Try.ntmps30
  go_wp2_with fail
  refine H.out.mono ?_
  rintro e w1 ⟨rfl, hb⟩
  have HB := Lib.hid hb
  clear hb
  by_cases hv : validD D = true
  · have HV := Lib.hid (validD_iff.1 hv)
    have HN := Lib.hid (show cdN D = ((allC D).length : Nat) from if_pos hv)
    have HVV := Lib.hid hv
    rw [hv]
    clear hv
    go_wp2_with fail
    refine (l07All_any _ D HV.out w1 (HRD.out.up HB.out (Nat.le_refl _))).mono ?_
    rintro e w2 ⟨fv, sv, B0, lo, hi, rfl, hB0, hfi, hlo, hmk, hbl⟩
    have HB2 := Lib.hid (HB.out.trans (hbl.mono HB.out.size))
    clear hfi hmk hbl
    go_wp2_with fail
    go_ret2
    exact ⟨by rw [HVV.out, HN.out]; rfl, HB2.out⟩
  · rw [Bool.not_eq_true] at hv
    have HN := Lib.hid (show cdN D = 0 from if_neg (by rw [hv]; simp))
    have HVV := Lib.hid hv
    rw [hv]
    clear hv
    go_wp2_with fail
    go_ret2
    exact ⟨by rw [HVV.out, HN.out]; rfl, HB.out⟩

set_option maxHeartbeats 1000000 in
theorem specFirstD_any (v : Value) (D : List (List Int)) (w : World) (h : RdL w v D) :
    Calls Try.prog 29 #[v] w fun e w' => ∃ v', e = .returned (.tuple #[v', .bool (fdOk D)]) ∧ OwnI w.heap.size w'.heap.size w' v' (fdL D) ∧ Below w.heap.size w w' := by
  have H := Lib.hid (l07Domains_any v D w h)
  obtain ⟨a, c, rfl⟩ := h.shape
  have HRD := Lib.hid h
  clear h
  go_enter Try.func29, Try.ntmps29
  go_wp2_with fail
  refine H.out.mono ?_
  rintro e w1 ⟨rfl, hb⟩
  have HB := Lib.hid hb
  clear hb
  by_cases hv : validD D = true
  · have HV := Lib.hid (validD_iff.1 hv)
    have HN := Lib.hid (show fdL D = (allC D).head?.getD [] from if_pos hv)
    have HOK := Lib.hid (show fdOk D = !(allC D).isEmpty from if_pos hv)
    have HVV := Lib.hid hv
    rw [hv]
    clear hv
    go_wp2_with fail
    refine (l07All_any _ D HV.out w1 (HRD.out.up HB.out (Nat.le_refl _))).mono ?_
    rintro e w2 ⟨fv, sv, B0, lo, hi, rfl, hB0, hfi, hlo, hmk, hbl⟩
    have HB2 := Lib.hid (HB.out.trans (hbl.mono HB.out.size))
    have hsz := HB.out.size
    clear hmk hbl
    rcases hfi with ⟨h1, fa, fc, rfl⟩ | ⟨s, r, g, fc, h1, h2, rfl, h3⟩
    · rw [h1] at HN HOK ⊢
      clear h1
      go_wp2_with fail
      go_ret2
      exact ⟨.slice none 0 0, by rw [HOK.out]; rfl, by rw [HN.out]; exact ⟨World.ownsRow_nil _ _ _ _, by intro g hg; cases hg⟩, HB2.out⟩
    · have hsn : (((allC D).length : Int) == 0) = false := by rw [h1, beq_eq_false_iff_ne]; simp; omega
      have H3 := Lib.hid h3
      have H1 := Lib.hid h1
      clear h1 h3 h2
      go_wp2_with fail
      go_ret2
      exact ⟨_, by rw [HOK.out, H1.out]; rfl, by rw [HN.out, H1.out]; exact OwnI.mk (owns_base H3.out (by omega)), HB2.out⟩
  · rw [Bool.not_eq_true] at hv
    have HN := Lib.hid (show fdL D = [] from if_neg (by rw [hv]; simp))
    have HOK := Lib.hid (show fdOk D = false from if_neg (by rw [hv]; simp))
    rw [hv]
    clear hv
    go_wp2_with fail
    go_ret2
    exact ⟨.slice none 0 0, by rw [HOK.out]; rfl, by rw [HN.out]; exact ⟨World.ownsRow_nil _ _ _ _, by intro g hg; cases hg⟩, HB.out⟩

/-! ### The program -/

theorem Try.entersCD (args : Array Value) (w : World) : (callFunc 84 args).run Try.prog w = .ok (.enter 84 args) w :=
  enters_of Try.func84 (by kernel_rfl) rfl args w

theorem countD1_any (v : Value) (cb k : Nat) (w : World) (hk : k ≤ 16777216) (hbox : Box w cb 2 (.int .i64 k)) :
    Calls Try.prog 84 #[v, .pointer (some ⟨cb, 0, none⟩)] w fun e w' => e = .returned (.tuple #[]) ∧ w' = w.setCell ⟨cb, 0, none⟩ (.int .i64 (k + 1 : Nat)) := by
  have hc := hbox.cell
  have hf := hbox.free
  go_enter Try.func84, Try.ntmps84
  go_wp2
  go_end0
  exact ⟨rfl, rfl⟩

set_option maxHeartbeats 1000000 in
theorem implCountD_any (v : Value) (D : List (List Int)) (w : World) (h : RdL w v D) :
    Calls Try.prog 24 #[v] w fun e w' => e = .returned (.tuple #[.int .i64 (cdN D), .bool (validD D)]) ∧ Below w.heap.size w w' := by
  have H := Lib.hid (implAreDomains_o v D w h)
  obtain ⟨a, c, rfl⟩ := h.shape
  have HRD := Lib.hid h
  clear h
  go_enter Try.func24, Try.ntmps24
  go_wp2_with fail
  refine H.out.mono ?_
  rintro e w1 ⟨rfl, hb⟩
  have HB := Lib.hid hb
  clear hb
  by_cases hv : validD D = true
  · have HV := Lib.hid (validD_iff.1 hv)
    have HN := Lib.hid (show cdN D = ((allC D).length : Nat) from if_pos hv)
    have HVV := Lib.hid hv
    have hl := allC_len HV.out
    rw [hv]
    clear hv
    go_wp2_with fail
    refine (eachChoice_any _ D HV.out w HRD.out 84 Try.entersCD #[.pointer (some ⟨w1.heap.size, 0, none⟩)] (w1.heap.size + 1) (· = w1.heap.size) (by have := HB.out.size; intro b hb; omega)
      (fun done w' => Box w' w1.heap.size 2 (.int .i64 (done.length : Int)) ∧ w1.heap.size < w'.heap.size ∧ Below w1.heap.size w1 w') ?_ ?_ D.length none 0 [] _ [] 0 rfl (by simp) (by simp) ?_ (World.ownsRow_nil _ _ _ _) ?_ (by show 0 + (allC D).length ≤ _; omega)).mono ?_
    · rintro done w2 w3 ⟨hb, hlt, hbl⟩ h12
      exact ⟨hb.below h12 hlt, by have := h12.size; omega, hbl.trans (h12.mono (by omega))⟩
    · rintro done s a cap m w2 _ _ _ hlen ⟨hb, hlt, hbl⟩
      refine (countD1_any _ _ _ w2 hlen hb).mono ?_
      rintro e w3 ⟨rfl, rfl⟩
      refine ⟨rfl, ⟨?_, by simpa using hlt, hbl.setCell (Nat.le_refl _) _⟩, Kept.setCell (S := (· = w1.heap.size)) (Kept.refl _ _) (.inr rfl) _⟩
      have := hb.set (.int .i64 ((done.length + 1 : Nat) : Int))
      simpa using this
    · exact HB.out.alloc HB.out.size _
    · exact ⟨by simpa using Box.new w1 2 (.int .i64 0), by simp, (Below.refl _ _).alloc (Nat.le_refl _) _⟩
    · rintro e w2 ⟨rfl, ⟨hb, hlt, hbl⟩, hk⟩
      simp only [List.nil_append] at hb
      have hc := hb.cell
      have HB2 := Lib.hid (HB.out.trans (hbl.mono HB.out.size))
      clear hbl hb hk
      go_wp2_with fail
      go_ret2
      exact ⟨by rw [HVV.out, HN.out]; rfl, HB2.out⟩
  · rw [Bool.not_eq_true] at hv
    have HN := Lib.hid (show cdN D = 0 from if_neg (by rw [hv]; simp))
    have HVV := Lib.hid hv
    rw [hv]
    clear hv
    go_wp2_with fail
    go_ret2
    exact ⟨by rw [HVV.out, HN.out]; rfl, HB.out⟩

theorem Try.entersFD (args : Array Value) (w : World) : (callFunc 83 args).run Try.prog w = .ok (.enter 83 args) w :=
  enters_of Try.func83 (by kernel_rfl) rfl args w

set_option maxHeartbeats 400000 in
theorem firstD1_any (B0 fb n : Nat) (hn : 1 ≤ n) (done : List (List Int)) (s : List Int) (a : Option Addr) (cap m : Nat) (w : World) (hm : s.length = m) (hmn : m = n) (hs : w.ownsRow B0 2 1 (.slice a m cap) m (s.map I64)) (hfb : fb < B0) (h : FQ B0 fb done w) :
    Calls Try.prog 83 (#[.slice a m cap] ++ #[.pointer (some ⟨fb, 0, none⟩)]) w fun e w' => e = .returned (.tuple #[]) ∧ FQ B0 fb (done ++ [s]) w' ∧ Kept (· = fb) w w' := by
  subst hm
  subst hmn
  have heq := fun (w : World) (a : Option Addr) (n c : Nat) => Lib.run_eql_slice_nil (P := Try.prog) w 32 2 a n c 0 0 Try.underlying32
  obtain ⟨g0, rfl, hg0⟩ := owns_slice_some hs (by omega)
  rcases h with ⟨rfl, h2⟩ | ⟨s', r, g, cap', rfl, h2, h3⟩
  · have hc := h2.cell
    have hf := h2.free
    have HS := Lib.hid hs
    have HB := Lib.hid h2
    clear hs h2
    go_enter Try.func83, Try.ntmps83
    go_wp2_with fail
    go_end0
    refine ⟨rfl, .inr ⟨s, [], g0, cap, rfl, HB.out.set _, ?_⟩, Kept.setCell (S := (· = fb)) (Kept.refl _ _) (.inr rfl) _⟩
    exact owns_other HS.out (by simp [Value.ownBlock]; omega) _
  · have hc := h2.cell
    have hf := h2.free
    have HS := Lib.hid hs
    have HB := Lib.hid h2
    have HO := Lib.hid h3
    clear hs h2 h3
    go_enter Try.func83, Try.ntmps83
    go_wp2_with fail
    go_end0
    exact ⟨rfl, .inr ⟨s', r ++ [s], g, cap', by simp, HB.out, HO.out⟩, Kept.refl _ _⟩

set_option maxHeartbeats 1000000 in
theorem implFirstD_any (v : Value) (D : List (List Int)) (w : World) (h : RdL w v D) :
    Calls Try.prog 23 #[v] w fun e w' => ∃ v', e = .returned (.tuple #[v', .bool (fdOk D)]) ∧ OwnI w.heap.size w'.heap.size w' v' (fdL D) ∧ Below w.heap.size w w' := by
  have H := Lib.hid (implAreDomains_o v D w h)
  obtain ⟨a, c, rfl⟩ := h.shape
  have HRD := Lib.hid h
  have HNE := Lib.hid (fun (w : World) (a : Option Addr) (n c : Nat) => run_neq_slice_nil_any (P := Try.prog) w 32 2 a n c 0 0 Try.underlying32)
  clear h
  go_enter Try.func23, Try.ntmps23
  go_wp2_with fail
  refine H.out.mono ?_
  rintro e w1 ⟨rfl, hb⟩
  have HB := Lib.hid hb
  have hsz1 := hb.size
  clear hb
  by_cases hv : validD D = true
  · have HV := Lib.hid (validD_iff.1 hv)
    have HN := Lib.hid (show fdL D = (allC D).head?.getD [] from if_pos hv)
    have HOK := Lib.hid (show fdOk D = !(allC D).isEmpty from if_pos hv)
    have hl := allC_len HV.out
    rw [hv]
    clear hv
    go_wp2_with fail
    refine (eachChoice_any _ D HV.out w HRD.out 83 Try.entersFD #[.pointer (some ⟨w1.heap.size, 0, none⟩)] (w1.heap.size + 1) (· = w1.heap.size) (by intro b hb; omega)
      (fun done w' => FQ (w1.heap.size + 1) w1.heap.size done w' ∧ Below w1.heap.size w1 w') ?_ ?_ D.length none 0 [] _ [] 0 rfl (by simp) (by simp) ?_ (World.ownsRow_nil _ _ _ _) ?_ (by show 0 + (allC D).length ≤ _; omega)).mono ?_
    · rintro done w2 w3 ⟨hb, hbl⟩ h12
      exact ⟨hb.up h12, hbl.trans (h12.mono hbl.size)⟩
    · rintro done s a cap m w2 hm hmn hs hlen ⟨hb, hbl⟩
      refine (firstD1_any _ _ D.length HV.out.1 done s a cap m w2 hm hmn hs (by omega) hb).mono ?_
      rintro e w3 ⟨rfl, h1, h2⟩
      exact ⟨rfl, ⟨h1, hbl.trans (h2.toBelow hbl.size (by intro k h1 h2; omega))⟩, h2⟩
    · exact HB.out.alloc HB.out.size _
    · exact ⟨.inl ⟨rfl, Box.new w1 32 (.slice none 0 0)⟩, (Below.refl _ _).alloc (Nat.le_refl _) _⟩
    · rintro e w2 ⟨rfl, ⟨hq, hbl⟩, hk⟩
      simp only [List.nil_append] at hq
      have HB2 := Lib.hid (HB.out.trans (hbl.mono HB.out.size))
      have hne := HNE.out
      clear hbl hk
      rcases hq with ⟨h1, h2⟩ | ⟨s, r, g, cap, h1, h2, h3⟩
      · have hc := h2.cell
        have H1 := Lib.hid (show allC D = [] from h1)
        clear h1 h2
        go_wp2_with fail
        go_quiet (fail)
        go_wp2_with fail
        go_ret2
        exact ⟨_, by rw [HOK.out, H1.out]; rfl, by rw [HN.out, H1.out]; exact ⟨World.ownsRow_nil _ _ _ _, by intro g hg; cases hg⟩, below_drewN HB2.out _⟩
      · have hc := h2.cell
        have H1 := Lib.hid (show allC D = s :: r from h1)
        have H3 := Lib.hid h3
        clear h1 h2 h3
        go_wp2_with fail
        go_quiet (fail)
        go_wp2_with fail
        go_ret2
        exact ⟨_, by rw [HOK.out, H1.out]; rfl, by rw [HN.out, H1.out]; exact OwnI.mk (owns_base (owns_below H3.out (below_drewN (Below.refl _ _) _) (Nat.le_refl _)) (by omega)), below_drewN HB2.out _⟩
  · rw [Bool.not_eq_true] at hv
    have HN := Lib.hid (show fdL D = [] from if_neg (by rw [hv]; simp))
    have HOK := Lib.hid (show fdOk D = false from if_neg (by rw [hv]; simp))
    rw [hv]
    clear hv
    go_wp2_with fail
    go_ret2
    exact ⟨.slice none 0 0, by rw [HOK.out]; rfl, by rw [HN.out]; exact ⟨World.ownsRow_nil _ _ _ _, by intro g hg; cases hg⟩, HB.out⟩

end Go.Proofs.Ytnhamdkpeefioaa
