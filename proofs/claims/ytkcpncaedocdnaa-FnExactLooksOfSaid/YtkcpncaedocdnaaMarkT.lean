/-
  Marks in trees.
-/
import Derived.Test.YtkcpncaedocdnaaTreeO
namespace Go.Proofs.Ytkcpncaedocdnaa
open Go.RowKit

/-- The block alone that a list owns. -/
theorem OwnI.fine {lo hi : Nat} {w : World} {v : Value} {xs : List Int} (h : OwnI lo hi w v xs) : ∃ l u, OwnI l u w v xs ∧ ∀ b, l ≤ b → b < u → v.ownBlock = some b ∧ lo ≤ b ∧ b < hi ∧ b < w.heap.size := by
  obtain ⟨⟨h1, h2⟩, h3⟩ := h
  rcases h2 with ⟨rfl, e⟩ | ⟨g, cap, cur, rfl, hb, hg, rest⟩
  · exact ⟨0, 0, ⟨⟨h1, .inl ⟨rfl, e⟩⟩, by intro g hg; cases hg⟩, by intro b h4 h5; omega⟩
  · refine ⟨g, g + 1, ⟨⟨h1, .inr ⟨g, cap, cur, rfl, Nat.le_refl _, hg, rest⟩⟩, ?_⟩, ?_⟩
    · intro g' hg'
      simp [Value.ownBlock] at hg'
      omega
    · intro b h4 h5
      obtain rfl : b = g := by omega
      exact ⟨rfl, hb, h3 _ rfl, lt_of_block hg⟩

def mkdT (k : Int) (t : List Int × List Int) : List Int × List Int := (mkI k t.1.length, mkI (k + t.1.length) t.2.length)
theorem mkI_len (k : Int) (n : Nat) : (mkI k n).length = n := by simp [mkI]

set_option maxHeartbeats 1000000 in
theorem markT_o (v : Value) (lo hi : Nat) (t : List Int × List Int) (k : Int) (w : World) (ho : OwnT lo hi w v t) (h0 : 0 ≤ k) (h1 : k + cntT t ≤ 1099511627776) :
    Calls Try.prog 21 #[v, .int .i64 k] w fun e w' => e = .returned (.int .i64 (k + cntT t)) ∧ OwnT lo hi w' v (mkdT k t) ∧ Kept (fun b => lo ≤ b ∧ b < hi) w w' := by
  obtain ⟨va, vb, rfl, o1, o2, hne⟩ := ho
  obtain ⟨l1, u1, f1, d1⟩ := o1.fine
  obtain ⟨l2, u2, f2, d2⟩ := o2.fine
  obtain ⟨p, q⟩ := t
  simp only [cntT] at h1 o1 o2 f1 f2 ⊢
  obtain ⟨a, c, rfl⟩ := f1.rd.shape
  obtain ⟨a', c', rfl⟩ := f2.rd.shape
  have b1 : k + p.length ≤ 1099511627776 := by omega
  have b2 : k + p.length + q.length ≤ 1099511627776 := by omega
  have F1 := Lib.hid f1
  have F2 := Lib.hid f2
  have D1 := Lib.hid d1
  have D2 := Lib.hid d2
  have HN := Lib.hid hne
  have HH1 := Lib.hid o1.2
  have HH2 := Lib.hid o2.2
  have HO1 := Lib.hid o1
  have HO2 := Lib.hid o2
  clear o1 o2 f1 f2 d1 d2 hne h1
  go_enter Try.func21, Try.ntmps21
  go_wp2_with fail
  refine Calls.at fun W hW => ?_
  have hb : Below w.heap.size w W := by subst hW; (repeat' first | exact Below.refl _ _ | assumption | refine Below.alloc ?_ ?_ _ | refine Below.setCell ?_ ?_ _ | refine Below.drew ?_ | (simp; done) | (simp; omega))
  have hk : Blk W w.heap.size 28 #[.slice a p.length c, .slice a' q.length c'] := by subst hW; exact Blk.new _ _ _
  clear hW
  refine (markI_any _ l1 u1 p k W (F1.out.up hb (Nat.le_refl _)) h0 b1).mono ?_
  rintro e w1 ⟨rfl, m1, k1⟩
  have c1 : w1.cell? ⟨w.heap.size, 1, none⟩ = some (.slice a' q.length c') := (hk.kept k1 (by rintro ⟨h1, h2⟩; have := (D1.out _ h1 h2).2.2.2; omega)).cell 1 rfl
  have o2' := Lib.hid (show OwnI l2 u2 w1 (.slice a' q.length c') q from ⟨owns_kept (F2.out.up hb (Nat.le_refl _)).1 k1 (fun g hg hs => HN.out g (D1.out g hs.1 hs.2).1 hg), F2.out.2⟩)
  have M1 := Lib.hid m1
  have K1 := Lib.hid k1
  have HB := Lib.hid hb
  clear hk m1 k1 hb
  go_wp2_with fail
  refine (markI_any _ l2 u2 q (k + p.length) w1 o2'.out (by omega) b2).mono ?_
  rintro e w2 ⟨rfl, m2, k2⟩
  have M2 := Lib.hid m2
  have K2 := Lib.hid k2
  clear m2 k2 c1
  go_wp2_with fail
  go_ret
  refine ⟨by rw [Int.natCast_add, Int.add_assoc]; rfl, ⟨_, _, rfl, ⟨?_, HH1.out⟩, ⟨?_, HH2.out⟩, HN.out⟩, ?_⟩
  · have h1 := owns_kept M1.out.1 K2.out (fun g hg hs => HN.out g hg (D2.out g hs.1 hs.2).1)
    have h2 := HO1.out.1
    simp only [mkdT]
    refine ⟨h1.1, ?_⟩
    rcases h1.2 with h3 | ⟨g, cap, cur, e, hb, r⟩
    · exact .inl h3
    · exact .inr ⟨g, cap, cur, e, (owns_lt h2 (by rw [e]; rfl)).1, r⟩
  · have h1 := M2.out.1
    have h2 := HO2.out.1
    simp only [mkdT]
    refine ⟨h1.1, ?_⟩
    rcases h1.2 with h3 | ⟨g, cap, cur, e, hb, r⟩
    · exact .inl h3
    · exact .inr ⟨g, cap, cur, e, (owns_lt h2 (by rw [e]; rfl)).1, r⟩
  · have e1 : Kept (fun b => lo ≤ b ∧ b < hi) W w1 := K1.out.mono (fun i _ hs => by have := D1.out i hs.1 hs.2; omega)
    have e2 : Kept (fun b => lo ≤ b ∧ b < hi) w1 w2 := K2.out.mono (fun i _ hs => by have := D2.out i hs.1 hs.2; omega)
    exact (Kept.of_below HB.out (Nat.le_refl _)).trans (e1.trans e2)

end Go.Proofs.Ytkcpncaedocdnaa
