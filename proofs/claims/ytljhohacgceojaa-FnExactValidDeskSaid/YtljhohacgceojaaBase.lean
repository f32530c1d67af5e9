/-
  Walks of small functions that many statements reach.
-/
import Derived.Test.YtljhohacgceojaaChecked
import Derived.Test.YtljhohacgceojaaSup
namespace Go.Proofs.Ytljhohacgceojaa
open Go.RowKit

theorem Try.infoI64 : (Try.prog.info? 2).map (fun i => (i.zero, i.size, i.bytes)) = some (some (.int .i64 0), 1, 8) := by kernel_rfl

def I64 (x : Int) : Value := .int .i64 x
theorem i64_one (xs : List Int) : ∀ u ∈ xs.map I64, u.oneCell' = true := by
  intro u hu; simp at hu; obtain ⟨x, _, rfl⟩ := hu; rfl

def inB (lo hi n : Int) : Bool := decide (lo ≤ n) && decide (n ≤ hi)
theorem inB_true {lo hi n : Int} (h : lo ≤ n ∧ n ≤ hi) : inB lo hi n = true := by simp [inB, h]
theorem inB_false {lo hi n : Int} (h : ¬ (lo ≤ n ∧ n ≤ hi)) : inB lo hi n = false := by simp only [inB, ← Bool.not_eq_true, Bool.and_eq_true, decide_eq_true_eq]; exact h

set_option maxHeartbeats 400000 in
theorem in_any (n lo hi : Int) (w : World) :
    Calls Try.prog 134 #[.int .i64 n, .int .i64 lo, .int .i64 hi] w fun e w' => e = .returned (.bool (inB lo hi n)) ∧ w = w' := by
  by_cases h : lo ≤ n
  · go_enter Try.func134, Try.ntmps134
    go_wp2
    go_ret
    exact ⟨by simp [inB, h], rfl⟩
  · go_enter Try.func134, Try.ntmps134
    go_wp2
    go_ret
    exact ⟨by simp [inB]; omega, rfl⟩

set_option maxHeartbeats 400000 in
theorem within_any (n lo hi : Int) (w : World) :
    Calls Try.prog 98 #[.int .i64 n, .int .i64 lo, .int .i64 hi] w fun e w' => e = .returned (.bool (inB lo hi n)) ∧ w = w' := by
  by_cases h : lo ≤ n
  · go_enter Try.func98, Try.ntmps98
    go_wp2
    go_ret
    exact ⟨by simp [inB, h], rfl⟩
  · go_enter Try.func98, Try.ntmps98
    go_wp2
    go_ret
    exact ⟨by simp [inB]; omega, rfl⟩

set_option maxHeartbeats 400000 in
theorem size_any (n : Nat) (w : World) (h : n ≤ maxLen) :
    Calls Try.prog 99 #[.int .i64 n] w fun e w' => e = .returned (.int .i64 n) ∧ w = w' := by
  unfold maxLen at h
  go_enter Try.func99, Try.ntmps99
  go_wp2
  go_ret
  exact ⟨rfl, rfl⟩

/-- Append of integers to what the call owns; it may be nil. -/
theorem app_ints {w : World} {ops : Array Oper} {rest : List Oper} {o : Oper} {a : Act} {Q : Exit → Act → World → Prop} (hgd : o.guard = none) (s x : Operand)
    (ho : o.op = .call { callee := .builtin .append, args := #[s, x], argTypes := #[60, 60] })
    (base : Nat) (v : Value) (n : Nat) (xs : List Int) (hs : a.eval s = v) (hown : w.ownsRow base 2 1 v n (xs.map I64))
    (sv : Value) (news : List Int) (hx : a.eval x = sv) (hsv : Slc w sv (news.map I64)) (m : Nat) (ys : List Int) (hm : m = n + news.length) (hys : ys = xs ++ news) (hlen : m ≤ 17592186044416) (hbase : base ≤ w.heap.size)
    (h : ∀ a' cap' w', w'.ownsRow base 2 1 (.slice a' m cap') m (ys.map I64) → Below base w w' → w.grownBy w' v.ownBlock → (Value.slice a' m cap' = .slice none 0 0 ↔ v = .slice none 0 0 ∧ news = []) → wpList Try.prog ops Q rest (a.put o.dst (.slice a' m cap')) w') :
    wpList Try.prog ops Q (o :: rest) a w := by
  obtain ⟨i0, hi, hz0, hz1, hz2⟩ := info_parts Try.infoI64
  subst hm hys
  refine wpList_append_slc hgd s x 60 ho base 2 i0 (.int .i64 0) 8 Try.underlying60 hi hz0 hz1 hz2 rfl v n (xs.map I64) hs hown sv (news.map I64) hx hsv (i64_one news) (by simp [maxLen]; omega) (by simp; omega) hbase ?_
  intro v' w' h1 h2 h3
  have h1' : w'.ownsRow base 2 1 v' (n + news.length) ((xs ++ news).map I64) := by simpa using h1
  obtain ⟨a', cap', rfl⟩ := owns_shape h1'
  exact h a' cap' w' h1' (below_grown hown hbase h2) h2 (by simpa using h3)

/-- Append of integers to what the call owns and is not nil. -/
theorem app_own {w : World} {ops : Array Oper} {rest : List Oper} {o : Oper} {a : Act} {Q : Exit → Act → World → Prop} (hgd : o.guard = none) (s x : Operand)
    (ho : o.op = .call { callee := .builtin .append, args := #[s, x], argTypes := #[60, 60] })
    (base : Nat) (ad : Addr) (n cap : Nat) (xs : List Int) (hs : a.eval s = .slice (some ad) n cap) (hown : w.ownsRow base 2 1 (.slice (some ad) n cap) n (xs.map I64))
    (sv : Value) (news : List Int) (hx : a.eval x = sv) (hsv : Slc w sv (news.map I64)) (m : Nat) (ys : List Int) (hm : m = n + news.length) (hys : ys = xs ++ news) (hlen : m ≤ 17592186044416) (hbase : base ≤ w.heap.size)
    (h : ∀ g cap' w', w'.ownsRow base 2 1 (.slice (some ⟨g, 0, none⟩) m cap') m (ys.map I64) → Below base w w' → w.grownBy w' (Value.slice (some ad) n cap).ownBlock → wpList Try.prog ops Q rest (a.put o.dst (.slice (some ⟨g, 0, none⟩) m cap')) w') :
    wpList Try.prog ops Q (o :: rest) a w := by
  refine app_ints hgd s x ho base _ n xs hs hown sv news hx hsv m ys hm hys hlen hbase ?_
  intro a' cap' w' h1 h2 h3 h4
  obtain ⟨g, c, e, _⟩ := owns_some h1 (by intro e; have := h4.1 e; simp at this)
  simp only [Value.slice.injEq, true_and] at e
  obtain ⟨rfl, rfl⟩ := e
  exact h g _ w' h1 h2 h3

/-- A new row of one integer. -/
theorem slc_one (w : World) (z : Int) : Slc (w.alloc (.cells #[.int .i64 z] 2)) (.slice (some ⟨w.heap.size, 0, none⟩) 1 1) ([z].map I64) := by
  have h := World.ownsRow_lit (base := w.heap.size) (e := 2) (size := 1) w #[.int .i64 z] 1 (Nat.le_refl _) (by simp [maxLen]) rfl
  exact slc_of_owns h

/-- A new empty row. -/
theorem owns_empty (w : World) : (w.alloc (.cells #[] 2)).ownsRow w.heap.size 2 1 (.slice (some ⟨w.heap.size, 0, none⟩) 0 0) 0 (([] : List Int).map I64) :=
  World.ownsRow_lit (base := w.heap.size) (e := 2) (size := 1) w #[] 0 (Nat.le_refl _) (by simp [maxLen]) rfl

end Go.Proofs.Ytljhohacgceojaa
