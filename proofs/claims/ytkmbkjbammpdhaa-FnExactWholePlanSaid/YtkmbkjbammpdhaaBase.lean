/-
  Walks of small functions that many statements reach.
-/
import Derived.Test.YtkmbkjbammpdhaaChecked
import Derived.Test.YtkmbkjbammpdhaaSup
namespace Go.Proofs.Ytkmbkjbammpdhaa
open Go.RowKit

theorem Try.infoI64 : (Try.prog.info? 2).map (fun i => (i.zero, i.size, i.bytes)) = some (some (.int .i64 0), 1, 8) := by kernel_rfl

def I64 (x : Int) : Value := .int .i64 x
theorem i64_one (xs : List Int) : ∀ u ∈ xs.map I64, u.oneCell' = true := by
  intro u hu; simp at hu; obtain ⟨x, _, rfl⟩ := hu; rfl

def inB (lo hi n : Int) : Bool := decide (lo ≤ n) && decide (n ≤ hi)
theorem inB_true {lo hi n : Int} (h : lo ≤ n ∧ n ≤ hi) : inB lo hi n = true := by simp [inB, h]
theorem inB_false {lo hi n : Int} (h : ¬ (lo ≤ n ∧ n ≤ hi)) : inB lo hi n = false := by simp only [inB, ← Bool.not_eq_true, Bool.and_eq_true, decide_eq_true_eq]; exact h

set_option maxHeartbeats 400000 in
theorem in_any (n lo hi : Int) (w : World) :
    Calls Try.prog 135 #[.int .i64 n, .int .i64 lo, .int .i64 hi] w fun e w' => e = .returned (.bool (inB lo hi n)) ∧ w = w' := by
  by_cases h : lo ≤ n
  · go_enter Try.func135, Try.ntmps135
    go_wp2
    go_ret
    exact ⟨by simp [inB, h], rfl⟩
  · go_enter Try.func135, Try.ntmps135
    go_wp2
    go_ret
    exact ⟨by simp [inB]; omega, rfl⟩

set_option maxHeartbeats 400000 in
theorem within_any (n lo hi : Int) (w : World) :
    Calls Try.prog 109 #[.int .i64 n, .int .i64 lo, .int .i64 hi] w fun e w' => e = .returned (.bool (inB lo hi n)) ∧ w = w' := by
  by_cases h : lo ≤ n
  · go_enter Try.func109, Try.ntmps109
    go_wp2
    go_ret
    exact ⟨by simp [inB, h], rfl⟩
  · go_enter Try.func109, Try.ntmps109
    go_wp2
    go_ret
    exact ⟨by simp [inB]; omega, rfl⟩

set_option maxHeartbeats 400000 in
theorem size_any (n : Nat) (w : World) (h : n ≤ maxLen) :
    Calls Try.prog 105 #[.int .i64 n] w fun e w' => e = .returned (.int .i64 n) ∧ w = w' := by
  unfold maxLen at h
  go_enter Try.func105, Try.ntmps105
  go_wp2
  go_ret
  exact ⟨rfl, rfl⟩

/-- Append of integers to what the call owns; it may be nil. -/
theorem app_ints {w : World} {ops : Array Oper} {rest : List Oper} {o : Oper} {a : Act} {Q : Exit → Act → World → Prop} (hgd : o.guard = none) (s x : Operand)
    (ho : o.op = .call { callee := .builtin .append, args := #[s, x], argTypes := #[36, 36] })
    (base : Nat) (v : Value) (n : Nat) (xs : List Int) (hs : a.eval s = v) (hown : w.ownsRow base 2 1 v n (xs.map I64))
    (sv : Value) (news : List Int) (hx : a.eval x = sv) (hsv : Slc w sv (news.map I64)) (m : Nat) (ys : List Int) (hm : m = n + news.length) (hys : ys = xs ++ news) (hlen : m ≤ 17592186044416) (hbase : base ≤ w.heap.size)
    (h : ∀ a' cap' w', w'.ownsRow base 2 1 (.slice a' m cap') m (ys.map I64) → Below base w w' → w.grownBy w' v.ownBlock → (Value.slice a' m cap' = .slice none 0 0 ↔ v = .slice none 0 0 ∧ news = []) → wpList Try.prog ops Q rest (a.put o.dst (.slice a' m cap')) w') :
    wpList Try.prog ops Q (o :: rest) a w := by
  obtain ⟨i0, hi, hz0, hz1, hz2⟩ := info_parts Try.infoI64
  subst hm hys
  refine wpList_append_slc hgd s x 36 ho base 2 i0 (.int .i64 0) 8 Try.underlying36 hi hz0 hz1 hz2 rfl v n (xs.map I64) hs hown sv (news.map I64) hx hsv (i64_one news) (by simp [maxLen]; omega) (by simp; omega) hbase ?_
  intro v' w' h1 h2 h3
  have h1' : w'.ownsRow base 2 1 v' (n + news.length) ((xs ++ news).map I64) := by simpa using h1
  obtain ⟨a', cap', rfl⟩ := owns_shape h1'
  exact h a' cap' w' h1' (below_grown hown hbase h2) h2 (by simpa using h3)

/-- Append of integers to what the call owns and is not nil. -/
theorem app_own {w : World} {ops : Array Oper} {rest : List Oper} {o : Oper} {a : Act} {Q : Exit → Act → World → Prop} (hgd : o.guard = none) (s x : Operand)
    (ho : o.op = .call { callee := .builtin .append, args := #[s, x], argTypes := #[36, 36] })
    (base : Nat) (ad : Addr) (n cap : Nat) (xs : List Int) (hs : a.eval s = .slice (some ad) n cap) (hown : w.ownsRow base 2 1 (.slice (some ad) n cap) n (xs.map I64))
    (sv : Value) (news : List Int) (hx : a.eval x = sv) (hsv : Slc w sv (news.map I64)) (m : Nat) (ys : List Int) (hm : m = n + news.length) (hys : ys = xs ++ news) (hlen : m ≤ 17592186044416) (hbase : base ≤ w.heap.size)
    (h : ∀ g cap' w', w'.ownsRow base 2 1 (.slice (some ⟨g, 0, none⟩) m cap') m (ys.map I64) → Below base w w' → w.grownBy w' (Value.slice (some ad) n cap).ownBlock → wpList Try.prog ops Q rest (a.put o.dst (.slice (some ⟨g, 0, none⟩) m cap')) w') :
    wpList Try.prog ops Q (o :: rest) a w := by
  refine app_ints hgd s x ho base _ n xs hs hown sv news hx hsv m ys hm hys hlen hbase ?_
  intro a' cap' w' h1 h2 h3 h4
  obtain ⟨g, c, e, _⟩ := owns_some h1 (by intro e; have := h4.1 e; simp at this)
  simp only [Value.slice.injEq, true_and] at e
  obtain ⟨rfl, rfl⟩ := e
  exact h g _ w' h1 h2 h3

/-- A new row of one integer. -/
theorem slc_one (w : World) (z : Int) : Slc (w.alloc (.cells #[.int .i64 z] 2)) (.slice (some ⟨w.heap.size, 0, none⟩) 1 1) ([z].map I64) := by
  have h := World.ownsRow_lit (base := w.heap.size) (e := 2) (size := 1) w #[.int .i64 z] 1 (Nat.le_refl _) (by simp [maxLen]) rfl
  exact slc_of_owns h

/-- A new empty row. -/
theorem owns_empty (w : World) : (w.alloc (.cells #[] 2)).ownsRow w.heap.size 2 1 (.slice (some ⟨w.heap.size, 0, none⟩) 0 0) 0 (([] : List Int).map I64) :=
  World.ownsRow_lit (base := w.heap.size) (e := 2) (size := 1) w #[] 0 (Nat.le_refl _) (by simp [maxLen]) rfl

set_option maxHeartbeats 400000 in
theorem copyInts_any (a : Option Addr) (cap : Nat) (xs : List Int) (w : World) (hs : Slc w (.slice a xs.length cap) (xs.map I64)) (hb : xs.length ≤ 17592186044416) :
    Calls Try.prog 108 #[.slice a xs.length cap] w fun e w' => ∃ g cap, e = .returned (.slice (some ⟨g, 0, none⟩) xs.length cap) ∧ w'.ownsRow w.heap.size 2 1 (.slice (some ⟨g, 0, none⟩) xs.length cap) xs.length (xs.map I64) ∧ Below w.heap.size w w' := by
  have hsl := hs.below (Below.alloc (Below.refl w.heap.size w) (Nat.le_refl _) (.cells #[] 2)) (Nat.le_refl _)
  have HS := Lib.hid hs
  clear hs
  go_enter Try.func108, Try.ntmps108
  go_wp2_with (at_builtin; refine app_own rfl _ _ rfl w.heap.size ⟨w.heap.size, 0, none⟩ 0 0 [] rfl (owns_empty w) _ xs rfl hsl xs.length xs (by simp) (by simp) hb (by simp) ?_; intro g cap' w1 hown hbl hg)
  go_ret
  exact ⟨g, cap', rfl, hown, ((Below.refl _ _).alloc (Nat.le_refl _) _).trans hbl⟩

end Go.Proofs.Ytkmbkjbammpdhaa
