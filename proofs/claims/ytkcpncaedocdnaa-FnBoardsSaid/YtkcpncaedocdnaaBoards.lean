/-
  What the two searches tell a law: queens and squares that are found.
-/
import Derived.Test.YtkcpncaedocdnaaBoardM
import Derived.Test.YtkcpncaedocdnaaFirstQ
import Derived.Test.YtkcpncaedocdnaaCountQ
import Derived.Test.YtkcpncaedocdnaaFillS
import Derived.Test.YtkcpncaedocdnaaCountS
namespace Go.Proofs.Ytkcpncaedocdnaa

theorem QOk.nil (n : Nat) : QOk n [] := by intro i hi; simp at hi

theorem boards_q {N : Nat} (h1 : 1 ≤ N) (h8 : N ≤ 8) : ∃ (C : Int) (q : List Int) (ok : Bool), cqV (N : Int) = .tuple #[.int .i64 C, .bool true] ∧ fqOk (N : Int) = ok ∧ fqList (N : Int) = q ∧
    (ok = true → 0 < C ∧ q.length = N) ∧ (ok = false → C ≤ 0 ∧ q = []) ∧ QOk N q ∧ q.length ≤ 8 := by
  have hi : 1 ≤ (N : Int) ∧ (N : Int) ≤ 8 := by omega
  refine ⟨((qSols N N []).length : Nat), fqList N, fqOk N, by simp [cqV, hi], rfl, rfl, ?_, ?_, ?_, fqList_len _⟩
  · intro h
    cases hq : qSols N N [] with
    | nil => simp [fqOk, hi, hq] at h
    | cons s r =>
      refine ⟨by simp, ?_⟩
      have hm := qSols_mem N N [] s (by rw [hq]; simp)
      simp [fqList, hi, hq]
      simpa using hm
  · intro h
    cases hq : qSols N N [] with
    | nil => simp [fqList, hi, hq]
    | cons s r => simp [fqOk, hi, hq] at h
  · cases hq : qSols N N [] with
    | nil => have e : fqList (N : Int) = [] := by simp [fqList, hi, hq]
             rw [e]; exact QOk.nil N
    | cons s r =>
      have e : fqList (N : Int) = s := by simp [fqList, hi, hq]
      rw [e]
      exact qSols_ok N N [] (QOk.nil N) s (by rw [hq]; simp)

theorem boards_s {M : Nat} {xs : List Int} (h1 : 1 ≤ M) (h4 : M ≤ 4) (hl : xs.length = M * M) (hr : ∀ v ∈ xs, 0 ≤ v ∧ v ≤ M) : ∃ (C : Int) (s : List Int) (ok : Bool), csOk (M : Int) xs = true ∧ csN (M : Int) xs = C ∧ fsOk (M : Int) xs = ok ∧ fsL (M : Int) xs = s ∧
    (ok = true → 0 < C ∧ SqOk M xs s) ∧ (ok = false → C ≤ 0 ∧ s = []) := by
  have hall : allIn 0 M xs = true := by
    rw [allIn_iff]
    intro i hi
    have e : xs.getD i 0 = xs[i] := by simp [hi]
    rw [e]
    exact inB_true (hr _ (List.getElem_mem hi))
  have hcs : csOk (M : Int) xs = true := (csOk_iff _ _).2 ⟨⟨by omega, by omega⟩, by rw [hl]; exact Int.natCast_mul M M, hall⟩
  have hfs : fsIn (M : Int) xs = true := (fsIn_iff _ _).2 ⟨⟨by omega, by omega⟩, by rw [hl]; exact Int.natCast_mul M M, hall⟩
  refine ⟨((isols M (M * M) xs 0).length : Nat), fsL M xs, fsOk M xs, hcs, by simp [csN, hcs], rfl, rfl, ?_, ?_⟩
  · intro h
    cases hq : isols M (M * M) xs 0 with
    | nil => simp [fsOk, hfs, hq] at h
    | cons s r =>
      refine ⟨by simp, ?_⟩
      have e : fsL (M : Int) xs = s := by simp [fsL, hfs, hq]
      rw [e]
      exact isols_ok h1 hl hall (by rw [hq]; simp)
  · intro h
    cases hq : isols M (M * M) xs 0 with
    | nil => simp [fsL, hfs, hq]
    | cons s r => simp [fsOk, hfs, hq] at h

end Go.Proofs.Ytkcpncaedocdnaa
