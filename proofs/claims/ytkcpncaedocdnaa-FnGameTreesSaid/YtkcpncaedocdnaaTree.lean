/-
  Trees: two lists of integers in a struct: the laws' own functions.
-/
import Derived.Test.YtkcpncaedocdnaaLawInts
namespace Go.Proofs.Ytkcpncaedocdnaa
open Go.RowKit

set_option maxHeartbeats 400000 in
theorem szTree_any (a1 a2 : Option Addr) (n1 n2 c1 c2 : Nat) (left : Int) (w : World) (h1 : n1 ≤ maxLen) (h2 : n2 ≤ maxLen) (hl : left ≤ 1048576) (h0 : 0 ≤ left) :
    Calls Try.prog 15 #[.agg #[.slice a1 n1 c1, .slice a2 n2 c2], .int .i64 left] w fun e w' => ∃ r : Int, e = .returned (.int .i64 r) ∧ -1 ≤ r ∧ r ≤ left ∧ (0 ≤ r → (n1 + n2 : Int) ≤ left - r) ∧ Below w.heap.size w w' := by
  have hb : Below w.heap.size w (w.alloc (.cells #[.slice a1 n1 c1, .slice a2 n2 c2] 24)) := (Below.refl _ _).alloc (Nat.le_refl _) _
  go_enter Try.func15, Try.ntmps15
  go_wp2_with fail
  refine (szInts_any _ _ _ _ _ h1 hl h0).mono ?_
  rintro e w' ⟨r, rfl, hr0, hr1, hr2, rfl⟩
  by_cases h : r < 0
  · go_wp2_with fail
    go_ret
    exact ⟨-1, rfl, by omega, by omega, by omega, hb⟩
  · go_wp2_with fail
    refine (szInts_any _ _ _ _ _ h2 (by omega) (by omega)).mono ?_
    rintro e w' ⟨r2, rfl, hs0, hs1, hs2, rfl⟩
    by_cases h' : r2 < 0
    · go_wp2_with fail
      go_ret
      exact ⟨-1, rfl, by omega, by omega, by omega, hb⟩
    · go_wp2_with fail
      go_ret
      exact ⟨r2, rfl, by omega, by omega, by omega, hb⟩

set_option maxHeartbeats 400000 in
theorem toTree_any (a1 a2 : Option Addr) (n1 n2 c1 c2 : Nat) (p q : List Int) (w : World) (h1 : p.length = n1) (h2 : q.length = n2) (s1 : Slc w (.slice a1 n1 c1) (p.map I64)) (s2 : Slc w (.slice a2 n2 c2) (q.map I64)) (b1 : n1 ≤ 17592186044416) (b2 : n2 ≤ 17592186044416) :
    Calls Try.prog 17 #[.agg #[.slice a1 n1 c1, .slice a2 n2 c2]] w fun e w' => ∃ g1 g2, e = .returned (.agg #[.slice (some ⟨g1, 0, none⟩) n1 n1, .slice (some ⟨g2, 0, none⟩) n2 n2]) ∧
      w'.ownsRow w.heap.size 2 1 (.slice (some ⟨g1, 0, none⟩) n1 n1) n1 (p.map I64) ∧ w'.ownsRow w.heap.size 2 1 (.slice (some ⟨g2, 0, none⟩) n2 n2) n2 (q.map I64) ∧ g1 ≠ g2 ∧ Below w.heap.size w w' := by
  have S1 := Lib.hid s1
  have S2 := Lib.hid s2
  have H1 := Lib.hid h1
  have H2 := Lib.hid h2
  clear s1 s2 h1 h2
  go_enter Try.func17, Try.ntmps17
  go_wp2_with fail
  refine Calls.at fun W1 hW => ?_
  have hb1 : Below w.heap.size w W1 := by subst hW; (repeat' first | exact Below.refl _ _ | assumption | refine Below.alloc ?_ ?_ _ | refine Below.setCell ?_ ?_ _ | refine Below.drew ?_ | (simp; done) | (simp; omega))
  have hk1 : Blk W1 (w.heap.size + 2) 28 #[.slice none 0 0, .slice none 0 0] := by subst hW; simpa using Blk.new ((w.alloc (.cells #[.slice a1 n1 c1, .slice a2 n2 c2] 24)).alloc (.cells #[.slice none 0 0, .slice none 0 0] 28)) 28 #[.slice none 0 0, .slice none 0 0]
  have hk2 : Blk W1 w.heap.size 24 #[.slice a1 n1 c1, .slice a2 n2 c2] := by subst hW; exact ((Blk.new w _ _).alloc _).alloc _
  have hk3 : Blk W1 (w.heap.size + 1) 28 #[.slice none 0 0, .slice none 0 0] := by subst hW; simpa using (Blk.new (w.alloc (.cells #[.slice a1 n1 c1, .slice a2 n2 c2] 24)) 28 #[.slice none 0 0, .slice none 0 0]).alloc (.cells #[.slice none 0 0, .slice none 0 0] 28)
  clear hW
  have hz1 := hk1.lt
  refine (toInts_any _ _ _ p _ H1.out (S1.out.below hb1 (Nat.le_refl _)) b1).mono ?_
  rintro e w1 ⟨g1, rfl, ho1, hb2⟩
  have HO1 := Lib.hid ho1
  have HB2 := Lib.hid (hb1.trans (hb2.mono hb1.size))
  have HK1 := Lib.hid (hk1.below hb2 hz1)
  have HK2 := Lib.hid (hk2.below hb2 hk2.lt)
  have HK3 := Lib.hid (hk3.below hb2 hk3.lt)
  have HL1 := Lib.hid (owns_lt ho1 (k := g1) rfl)
  have HZ := Lib.hid hz1
  have HB1 := Lib.hid hb1
  have c0 := HK1.out.cell 0 rfl
  have f0 := HK1.out.free 0
  have d1 := HK2.out.cell 1 rfl
  clear hb1 hb2 hk1 hk2 hk3 ho1 hz1
  go_wp2_with fail
  refine Calls.at fun W2 hW => ?_
  have hb2 : Below w.heap.size w W2 := by subst hW; exact HB2.out.setCell (by simp; omega) _
  have hz2 : W2.heap.size = w1.heap.size := by subst hW; simp
  have hne := HK1.out.not_owned HO1.out (by decide)
  have ho2 : W2.ownsRow W1.heap.size 2 1 (.slice (some ⟨g1, 0, none⟩) n1 n1) n1 (p.map I64) := by subst hW; exact owns_other HO1.out hne _
  have hk1 : Blk W2 (w.heap.size + 2) 28 #[.slice (some ⟨g1, 0, none⟩) n1 n1, .slice none 0 0] := by subst hW; exact HK1.out.set 0 _
  have hk3 : Blk W2 (w.heap.size + 1) 28 #[.slice none 0 0, .slice none 0 0] := by subst hW; exact HK3.out.other (by simp) _
  clear hW hne c0 f0 d1 HB2 HK1 HK2 HK3 HO1
  refine (toInts_any _ _ _ q _ H2.out (S2.out.below hb2 (Nat.le_refl _)) b2).mono ?_
  rintro e w2 ⟨g2, rfl, ho3, hb3⟩
  have HO2 := Lib.hid (owns_below ho2 hb3 (Nat.le_refl _))
  have HO3 := Lib.hid ho3
  have HB3 := Lib.hid (hb2.trans (hb3.mono hb2.size))
  have HK1 := Lib.hid (hk1.below hb3 hk1.lt)
  have HK3 := Lib.hid (hk3.below hb3 hk3.lt)
  have HL2 := Lib.hid (owns_lt ho3 (k := g2) rfl)
  have HZ2 := Lib.hid hz2
  have HB4 := Lib.hid hb2
  have c0 : w2.cell? ⟨w.heap.size + 2, 0, none⟩ = some (.slice (some ⟨g1, 0, none⟩) n1 n1) := HK1.out.cell 0 rfl
  have c1 : w2.cell? ⟨w.heap.size + 2, 1, none⟩ = some (.slice none 0 0) := HK1.out.cell 1 rfl
  have f1 := HK1.out.free 1
  have e0 : w2.cell? ⟨w.heap.size + 1, 0, none⟩ = some (.slice none 0 0) := HK3.out.cell 0 rfl
  have e1 : w2.cell? ⟨w.heap.size + 1, 1, none⟩ = some (.slice none 0 0) := HK3.out.cell 1 rfl
  have ff0 := HK3.out.free 0
  have ff1 := HK3.out.free 1
  clear hb2 hb3 ho2 ho3 hk1 hk3 hz2
  go_wp2_with fail
  refine bodyPost_ret (v := .agg #[.slice (some ⟨g1, 0, none⟩) n1 n1, .slice (some ⟨g2, 0, none⟩) n2 n2]) (by simp [results, Try.results17, go_sem, *]) rfl ⟨g1, g2, rfl, ?_, ?_, ?_, ?_⟩
  · refine owns_other (owns_other (owns_other (owns_base HO2.out HB1.out.size) ?_ _) ?_ _) ?_ _ <;> (have := HL1.out; have := HZ.out; simp [Value.ownBlock]; omega)
  · refine owns_other (owns_other (owns_other (owns_base HO3.out HB4.out.size) ?_ _) ?_ _) ?_ _ <;> (have := HL2.out; have := HZ2.out; have := HZ.out; have := HL1.out; simp [Value.ownBlock]; omega)
  · have := HL1.out; have := HL2.out; have := HZ2.out; omega
  · exact ((HB3.out.setCell (by simp; omega) _).setCell (by simp) _).setCell (by simp) _

end Go.Proofs.Ytkcpncaedocdnaa
