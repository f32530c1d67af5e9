/-
  Support over any program: slices that read as lists of cells, memory that the call owns.
-/
import Derived.WalkKit
import Derived.WalkSpells
import Derived.WalkLawsBesides
import Derived.Deep.QuietTactic
import Derived.BigQuiet
import Derived.Lib.Hide
import Derived.Laws.AppendOwnNone
namespace Go.Proofs.Ytljhohacgceojaa
open Go.RowKit

/-- The slice value v reads, in w, as the cells vs (elements of one cell each). -/
def Slc (w : World) (v : Value) (vs : List Value) : Prop :=
  (v = .slice none 0 0 ∧ vs = []) ∨
  ∃ ad cap, v = .slice (some ad) vs.length cap ∧ vs.length ≤ cap ∧ cap ≤ maxLen ∧ ∀ i u, vs[i]? = some u → w.cell? (ad.add i) = some u

theorem Slc.nil (w : World) : Slc w (.slice none 0 0) [] := .inl ⟨rfl, rfl⟩

theorem Slc.len {w : World} {v : Value} {vs : List Value} (h : Slc w v vs) : vs.length ≤ maxLen := by
  rcases h with ⟨_, rfl⟩ | ⟨_, _, _, h, h', _⟩
  · simp [maxLen]
  · omega

/-- The shape of the value. -/
theorem Slc.shape {w : World} {v : Value} {vs : List Value} (h : Slc w v vs) : ∃ a cap, v = .slice a vs.length cap := by
  rcases h with ⟨rfl, rfl⟩ | ⟨ad, cap, rfl, _⟩
  · exact ⟨none, 0, rfl⟩
  · exact ⟨some ad, cap, rfl⟩

/-- A cell of it. -/
theorem Slc.at {w : World} {a : Option Addr} {n cap : Nat} {vs : List Value} (h : Slc w (.slice a n cap) vs) {i : Nat} {u : Value} (hi : vs[i]? = some u) :
    ∃ b off, a = some ⟨b, off, none⟩ ∧ b < w.heap.size ∧ w.cell? ⟨b, off + i, none⟩ = some u := by
  rcases h with ⟨_, rfl⟩ | ⟨ad, cap', e, _, _, hc⟩
  · simp at hi
  · simp only [Value.slice.injEq] at e
    obtain ⟨rfl, rfl, rfl⟩ := e
    have h0 := hc i u hi
    obtain ⟨b, off, spot⟩ := ad
    have hs : spot = none := by
      have hlt : 0 < vs.length := by
        cases vs with
        | nil => simp at hi
        | cons x l => simp
      have hz := hc 0 _ (List.getElem?_eq_getElem hlt)
      simpa [Addr.add] using World.cell?_spot hz
    subst hs
    have h1 : w.cell? ⟨b, off + i, none⟩ = some u := by
      by_cases hz : i = 0
      · subst hz; simpa [Addr.add] using h0
      · simpa [Addr.add, hz] using h0
    refine ⟨b, off, rfl, ?_, h1⟩
    by_cases hb : b < w.heap.size
    · exact hb
    · exfalso
      have : w.heap[b]? = none := by simp; omega
      simp [World.cell?, this] at h1

theorem cell_lt {w : World} {a : Addr} {u : Value} (h : w.cell? a = some u) : a.block < w.heap.size := by
  by_cases hb : a.block < w.heap.size
  · exact hb
  · exfalso
    have : w.heap[a.block]? = none := by simp; omega
    simp [World.cell?, this] at h

theorem addr_add_block (a : Addr) (i : Nat) : (a.add i).block = a.block := by unfold Addr.add; split <;> rfl

/-- It reads on where no block of the old memory has turned. -/
theorem Slc.below {w w' : World} {B : Nat} {v : Value} {vs : List Value} (h : Slc w v vs) (hb : Below B w w') (hB : w.heap.size ≤ B) : Slc w' v vs := by
  rcases h with h | ⟨ad, cap, e, h1, h2, hc⟩
  · exact .inl h
  · refine .inr ⟨ad, cap, e, h1, h2, fun i u hi => ?_⟩
    have h0 := hc i u hi
    rw [hb.cell (by have := cell_lt h0; omega)]
    exact h0

theorem Slc.drewN {w : World} {v : Value} {vs : List Value} (h : Slc w v vs) (n : Nat) : Slc (w.drewN n) v vs := h

/-- What is owned reads. -/
theorem slc_of_owns {w : World} {base : Nat} {e : TypeId} {v : Value} {n : Nat} {vs : List Value} (h : w.ownsRow base e 1 v n vs) : Slc w v vs := by
  obtain ⟨hl, h2⟩ := h
  simp at hl
  rcases h2 with ⟨rfl, rfl⟩ | ⟨g, cap, cur, rfl, hb, hg, hn, hm, hs, ht⟩
  · left; exact ⟨rfl, List.length_eq_zero_iff.1 hl⟩
  · right
    refine ⟨⟨g, 0, none⟩, cap, by rw [hl], by omega, hm, fun i u hi => ?_⟩
    have hi' : i < vs.length := (List.getElem?_eq_some_iff.1 hi).1
    have : w.cell? ⟨g, i, none⟩ = some u := by
      rw [cell_of_row w g i cur e (0, 0) hg]
      rw [← ht] at hi
      simp [List.getElem?_take] at hi
      exact hi.2
    unfold Addr.add
    split
    · next hz => subst hz; exact this
    · simpa using this

/-- Append to what the call owns, the source any slice that reads. -/
theorem wpList_append_slc {P : Program} {w : World} {ops : Array Oper} {rest : List Oper} {o : Oper} {a : Act} {Q : Exit → Act → World → Prop} (hgd : o.guard = none) (s x : Operand) (t : TypeId)
    (ho : o.op = .call { callee := .builtin .append, args := #[s, x], argTypes := #[t, t] })
    (base : Nat) (e : TypeId) (i : TypeInfo) (z : Value) (bytes : Nat) (ht : P.underlying t = some (.slice e)) (hi : P.info? e = some i) (hz : i.zero = some z)
    (hsize : i.size = 1) (hby : i.bytes = bytes) (hzs : z.cells.size = 1)
    (v : Value) (n : Nat) (xs : List Value) (hs : a.eval s = v) (hown : w.ownsRow base e 1 v n xs)
    (sv : Value) (news : List Value) (hx : a.eval x = sv) (hsv : Slc w sv news) (h1 : ∀ u ∈ news, u.oneCell' = true)
    (h63 : n + news.length ≤ maxLen) (hbytes : (n + news.length) * bytes ≤ 140737488355328) (hbase : base ≤ w.heap.size)
    (h : ∀ v' w', w'.ownsRow base e 1 v' (n + news.length) (xs ++ news) → w.grownBy w' v.ownBlock → (v' = .slice none 0 0 ↔ v = .slice none 0 0 ∧ news = []) → wpList P ops Q rest (a.put o.dst v') w') :
    wpList P ops Q (o :: rest) a w := by
  rcases hsv with ⟨rfl, rfl⟩ | ⟨ad, cap, rfl, hcl, hcm, hc⟩
  · refine wpList_append_own_none hgd s x t ho base e i 1 ht hi v n xs hs hown hx ?_
    exact h v w (by simpa using hown) (World.grownBy.refl _ _) (by simp)
  · refine wpList_append_own w hgd s x t ho base e i z 1 bytes ht hi hz hsize hby hzs (by decide) v n xs hs hown ad news.length cap news hx (by simp) hc h1 h63 hbytes hbase ?_
    intro v' w' h2 h3 h4
    exact h v' w' h2 h3 (by rw [h4]; simp)

/-- What is owned and is not nil begins at the head of a block. -/
theorem owns_some {w : World} {base : Nat} {e : TypeId} {v : Value} {n : Nat} {vs : List Value} (h : w.ownsRow base e 1 v n vs) (hn : v ≠ .slice none 0 0) :
    ∃ g cap, v = .slice (some ⟨g, 0, none⟩) n cap ∧ base ≤ g ∧ g < w.heap.size := by
  rcases h.2 with ⟨rfl, _⟩ | ⟨g, cap, cur, rfl, hb, hg, _⟩
  · exact absurd rfl hn
  · exact ⟨g, cap, rfl, hb, lt_of_block hg⟩

theorem owns_len {w : World} {base : Nat} {e : TypeId} {v : Value} {n : Nat} {vs : List Value} (h : w.ownsRow base e 1 v n vs) : vs.length = n := by simpa using h.1

/-- Blocks that are there stay owned. -/
theorem owns_below {w w' : World} {base B : Nat} {e : TypeId} {v : Value} {n : Nat} {vs : List Value} (h : w.ownsRow base e 1 v n vs) (hb : Below B w w') (hB : w.heap.size ≤ B) : w'.ownsRow base e 1 v n vs := by
  refine ⟨h.1, ?_⟩
  rcases h.2 with h2 | ⟨g, cap, cur, hv, h3, hg, r⟩
  · exact .inl h2
  · exact .inr ⟨g, cap, cur, hv, h3, by rw [hb.block g (by have := lt_of_block hg; omega)]; exact hg, r⟩

theorem owns_base {w : World} {base base' : Nat} {e : TypeId} {v : Value} {n : Nat} {vs : List Value} (h : w.ownsRow base e 1 v n vs) (hb : base' ≤ base) : w.ownsRow base' e 1 v n vs := by
  refine ⟨h.1, ?_⟩
  rcases h.2 with h2 | ⟨g, cap, cur, hv, h3, hg, r⟩
  · exact .inl h2
  · exact .inr ⟨g, cap, cur, hv, by omega, hg, r⟩

theorem owns_lt {w : World} {base : Nat} {e : TypeId} {v : Value} {n : Nat} {vs : List Value} (h : w.ownsRow base e 1 v n vs) {k : Nat} (hk : v.ownBlock = some k) : base ≤ k ∧ k < w.heap.size := h.lt k hk

/-- What was there is as it was, but for the blocks in S. -/
structure Kept (S : Nat → Prop) (w w' : World) : Prop where
  os : w'.os = w.os
  tape : w'.tape = w.tape
  output : w'.output = w.output
  size : w.heap.size ≤ w'.heap.size
  block : ∀ k, k < w.heap.size → ¬ S k → w'.heap[k]? = w.heap[k]?

namespace Kept
variable {S S' : Nat → Prop} {a w w' : World}
theorem refl (S : Nat → Prop) (w : World) : Kept S w w := ⟨rfl, rfl, rfl, Nat.le_refl _, fun _ _ _ => rfl⟩
/-- One step more, which may turn the blocks in S' alone. -/
theorem step (h : Kept S a w) (k : Kept S' w w') (hs : ∀ i, i < a.heap.size → S' i → S i) : Kept S a w' :=
  ⟨k.os.trans h.os, k.tape.trans h.tape, k.output.trans h.output, Nat.le_trans h.size k.size,
    fun i hi hn => (k.block i (Nat.lt_of_lt_of_le hi h.size) (fun e => hn (hs i hi e))).trans (h.block i hi hn)⟩
theorem trans (h : Kept S a w) (k : Kept S w w') : Kept S a w' := h.step k fun _ _ x => x
theorem mono (h : Kept S a w) (hs : ∀ i, i < a.heap.size → S i → S' i) : Kept S' a w := ⟨h.os, h.tape, h.output, h.size, fun i hi hn => h.block i hi fun x => hn (hs i hi x)⟩
theorem of_below {B : Nat} (h : Below B w w') (hB : w.heap.size ≤ B) : Kept S w w' := ⟨h.os, h.tape, h.output, h.size, fun k hk _ => h.block k (by omega)⟩
theorem below {B : Nat} (h : Kept S a w) (k : Below B w w') (hB : a.heap.size ≤ B) : Kept S a w' :=
  ⟨k.os.trans h.os, k.tape.trans h.tape, k.output.trans h.output, Nat.le_trans h.size k.size, fun i hi hn => (k.block i (by omega)).trans (h.block i hi hn)⟩
theorem toBelow {B : Nat} (h : Kept S w w') (hB : B ≤ w.heap.size) (hs : ∀ k, k < B → ¬ S k) : Below B w w' := ⟨h.os, h.tape, h.output, h.size, fun k hk => h.block k (by omega) (hs k hk)⟩
theorem drew (h : Kept S a w) : Kept S a w.drew := ⟨h.os, h.tape, h.output, h.size, h.block⟩
theorem drewN (h : Kept S a w) (n : Nat) : Kept S a (w.drewN n) := ⟨h.os, h.tape, h.output, h.size, h.block⟩
theorem alloc (h : Kept S a w) (o : Obj) : Kept S a (w.alloc o) := h.step (S' := fun _ => False) ⟨rfl, rfl, rfl, by simp, fun k hk _ => Below.heap_alloc _ _ _ hk⟩ fun _ _ x => x.elim
theorem setCell (h : Kept S a w) {p : Addr} (hp : a.heap.size ≤ p.block ∨ S p.block) (u : Value) : Kept S a (w.setCell p u) :=
  h.step (S' := fun k => k = p.block) ⟨rfl, rfl, rfl, by simp [World.setCell], fun k _ hk => Below.heap_setCell _ _ _ _ hk⟩ fun i hi e => by
    subst e
    rcases hp with hp | hp
    · omega
    · exact hp
theorem grown {row : Option Nat} (h : Kept S a w) (hg : w.grownBy w' row) (hr : ∀ k, row = some k → a.heap.size ≤ k ∨ S k) : Kept S a w' :=
  h.step (S' := fun k => row = some k) ⟨hg.os, hg.tape, hg.output, hg.size, fun k hk hn => hg.block k hk fun e => hn e.symm⟩ fun i hi e => by
    rcases hr i e with hp | hp
    · omega
    · exact hp
theorem cell (h : Kept S w w') {p : Addr} (hp : p.block < w.heap.size) (hs : ¬ S p.block) : w'.cell? p = w.cell? p := World.cell?_of_block (w := w) (h.block p.block hp hs)
end Kept

theorem Slc.kept {S : Nat → Prop} {w w' : World} {a : Option Addr} {n cap : Nat} {vs : List Value} (h : Slc w (.slice a n cap) vs) (hk : Kept S w w')
    (hs : ∀ ad u, u ∈ vs → w.cell? ad = some u → ¬ S ad.block) : Slc w' (.slice a n cap) vs := by
  rcases h with h | ⟨ad, cap', e, h1, h2, hc⟩
  · exact .inl h
  · refine .inr ⟨ad, cap', e, h1, h2, fun i u hi => ?_⟩
    have h0 := hc i u hi
    rw [hk.cell (cell_lt h0) (hs _ u (List.mem_of_getElem? hi) h0)]
    exact h0

theorem owns_kept {S : Nat → Prop} {w w' : World} {base : Nat} {e : TypeId} {v : Value} {n : Nat} {vs : List Value} (h : w.ownsRow base e 1 v n vs) (hk : Kept S w w') (hs : ∀ g, v.ownBlock = some g → ¬ S g) : w'.ownsRow base e 1 v n vs := by
  refine ⟨h.1, ?_⟩
  rcases h.2 with h2 | ⟨g, cap, cur, hv, h3, hg, r⟩
  · exact .inl h2
  · exact .inr ⟨g, cap, cur, hv, h3, by rw [hk.block g (lt_of_block hg) (hs g (by rw [hv]; rfl))]; exact hg, r⟩

/-- A block of one cell: a variable that lies in memory. -/
def Box (w : World) (b : Nat) (t : TypeId) (v : Value) : Prop := w.heap[b]? = some (.cells #[v] t (0, 0))

theorem Box.cell {w : World} {b : Nat} {t : TypeId} {v : Value} (h : Box w b t v) : w.cell? ⟨b, 0, none⟩ = some v := cell_of_one h
theorem Box.free {w : World} {b : Nat} {t : TypeId} {v : Value} (h : Box w b t v) : w.frozen? ⟨b, 0, none⟩ = false := free_of_one h
theorem Box.lt {w : World} {b : Nat} {t : TypeId} {v : Value} (h : Box w b t v) : b < w.heap.size := lt_of_block h
theorem Box.set {w : World} {b : Nat} {t : TypeId} {v : Value} (h : Box w b t v) (u : Value) : Box (w.setCell ⟨b, 0, none⟩ u) b t u := one_setCell h
theorem Box.kept {S : Nat → Prop} {w w' : World} {b : Nat} {t : TypeId} {v : Value} (h : Box w b t v) (hk : Kept S w w') (hs : ¬ S b) : Box w' b t v := (hk.block b h.lt hs).trans h
theorem Box.new (w : World) (t : TypeId) (v : Value) : Box (w.alloc (.cells #[v] t)) w.heap.size t v := heap_alloc_new w _
theorem Box.cell_eq {w : World} {b : Nat} {t : TypeId} {u v : Value} {a : Addr} (h : Box w b t v) (ha : a.block = b) (hc : w.cell? a = some u) : u = v := by
  subst ha
  unfold Box at h
  simp only [World.cell?, h] at hc
  split at hc
  · simp at hc
  · match ho : a.off with
    | 0 => rw [ho] at hc; simp at hc; exact hc.symm
    | k + 1 => rw [ho] at hc; simp at hc
theorem Box.not_owned {w : World} {b : Nat} {t e : TypeId} {v u : Value} {base n size : Nat} {vs : List Value} (h : Box w b t v) (ho : w.ownsRow base e size u n vs) (hte : t ≠ e) : u.ownBlock ≠ some b := by
  intro hb
  rcases ho.2 with ⟨rfl, _⟩ | ⟨g, cap, cur, rfl, _, hg, _⟩
  · simp [Value.ownBlock] at hb
  · simp [Value.ownBlock] at hb
    subst hb
    unfold Box at h
    rw [hg] at h
    simp at h
    exact hte h.2.symm

theorem Box.below {w w' : World} {b B : Nat} {t : TypeId} {v : Value} (h : Box w b t v) (hb : Below B w w') (hB : b < B) : Box w' b t v := (hb.block b hB).trans h

/-- An append to what is owned from base on leaves all below base as it was. -/
theorem below_grown {w w' : World} {base : Nat} {e : TypeId} {v : Value} {n : Nat} {vs : List Value} (h : w.ownsRow base e 1 v n vs) (hbase : base ≤ w.heap.size) (hg : w.grownBy w' v.ownBlock) : Below base w w' :=
  (Below.refl base w).grown hg hbase fun k hk => (owns_lt h hk).1

theorem owns_shape {w : World} {base : Nat} {e : TypeId} {v : Value} {n : Nat} {vs : List Value} (h : w.ownsRow base e 1 v n vs) : ∃ a cap, v = .slice a n cap := by
  rcases h.2 with ⟨rfl, rfl⟩ | ⟨g, cap, cur, rfl, _⟩
  · exact ⟨_, _, rfl⟩
  · exact ⟨_, _, rfl⟩

/-- A function with a body is entered. -/
theorem enters_of {P : Program} {f : FuncId} {fn : Func} {c : Code} (hf : P.funcs[f]? = some fn) (hname : (fn.name == "runtime.NumGoroutine") = false) (hb : fn.body = some c) (args : Array Value) (w : World) :
    (callFunc f args).run P w = .ok (.enter f args) w := by
  have h1 : fn.name ≠ "runtime.NumGoroutine" := by simpa using hname
  simp [callFunc, hf, h1, hb]

/-- A block of cells that nobody has frozen: a struct that lies in memory. -/
def Blk (w : World) (b : Nat) (t : TypeId) (cs : Array Value) : Prop := w.heap[b]? = some (.cells cs t (0, 0))

theorem Blk.cell {w : World} {b : Nat} {t : TypeId} {cs : Array Value} (h : Blk w b t cs) (j : Nat) {u : Value} (hj : cs[j]? = some u) : w.cell? ⟨b, j, none⟩ = some u := by
  unfold Blk at h; simp [World.cell?, h, hj]
theorem Blk.free {w : World} {b : Nat} {t : TypeId} {cs : Array Value} (h : Blk w b t cs) (j : Nat) : w.frozen? ⟨b, j, none⟩ = false := by
  unfold Blk at h; simp [World.frozen?, h]
theorem Blk.lt {w : World} {b : Nat} {t : TypeId} {cs : Array Value} (h : Blk w b t cs) : b < w.heap.size := lt_of_block h
theorem Blk.new (w : World) (t : TypeId) (cs : Array Value) : Blk (w.alloc (.cells cs t)) w.heap.size t cs := heap_alloc_new w _
theorem Blk.below {w w' : World} {b B : Nat} {t : TypeId} {cs : Array Value} (h : Blk w b t cs) (hb : Below B w w') (hB : b < B) : Blk w' b t cs := (hb.block b hB).trans h
theorem Blk.alloc {w : World} {b : Nat} {t : TypeId} {cs : Array Value} (h : Blk w b t cs) (o : Obj) : Blk (w.alloc o) b t cs := (Below.heap_alloc _ _ _ h.lt).trans h
theorem Blk.kept {S : Nat → Prop} {w w' : World} {b : Nat} {t : TypeId} {cs : Array Value} (h : Blk w b t cs) (hk : Kept S w w') (hs : ¬ S b) : Blk w' b t cs := (hk.block b h.lt hs).trans h
theorem Blk.set {w : World} {b : Nat} {t : TypeId} {cs : Array Value} (h : Blk w b t cs) (j : Nat) (u : Value) : Blk (w.setCell ⟨b, j, none⟩ u) b t (cs.setIfInBounds j u) := heap_setCell_same w b j cs t u h
theorem Blk.other {w : World} {b : Nat} {t : TypeId} {cs : Array Value} (h : Blk w b t cs) {a : Addr} (ha : b ≠ a.block) (u : Value) : Blk (w.setCell a u) b t cs := (Below.heap_setCell _ _ _ _ ha).trans h
theorem Blk.not_owned {w : World} {b : Nat} {t e : TypeId} {cs : Array Value} {u : Value} {base n size : Nat} {vs : List Value} (h : Blk w b t cs) (ho : w.ownsRow base e size u n vs) (hte : t ≠ e) : u.ownBlock ≠ some b := by
  intro hb
  rcases ho.2 with ⟨rfl, _⟩ | ⟨g, cap, cur, rfl, _, hg, _⟩
  · simp [Value.ownBlock] at hb
  · simp [Value.ownBlock] at hb
    subst hb
    unfold Blk at h
    rw [hg] at h
    simp at h
    exact hte h.2.symm

/-- What is owned is not turned by a store elsewhere. -/
theorem owns_other {w : World} {base : Nat} {e : TypeId} {v : Value} {n : Nat} {vs : List Value} (h : w.ownsRow base e 1 v n vs) {a : Addr} (ha : v.ownBlock ≠ some a.block) (u : Value) : (w.setCell a u).ownsRow base e 1 v n vs :=
  ownsRow_setCell_other h ha u

theorem Slc.other {w : World} {a : Option Addr} {n cap : Nat} {vs : List Value} (h : Slc w (.slice a n cap) vs) {p : Addr} (hp : ∀ ad, a = some ad → vs ≠ [] → ad.block ≠ p.block) (u : Value) : Slc (w.setCell p u) (.slice a n cap) vs := by
  rcases h with h | ⟨ad, cap', e, h1, h2, hc⟩
  · exact .inl h
  · refine .inr ⟨ad, cap', e, h1, h2, fun i v hi => ?_⟩
    have h0 := hc i v hi
    simp only [Value.slice.injEq] at e
    have hne := hp ad e.1 (by rintro rfl; simp at hi)
    rw [World.cell?_of_block (w := w) (Below.heap_setCell _ _ _ _ (by rw [addr_add_block]; exact hne))]
    exact h0

/-- A name for the world in which a call is made. -/
theorem Calls.at {P : Program} {f : FuncId} {args : Array Value} {w : World} {R : Ending → World → Prop} (h : ∀ W, W = w → Calls P f args W R) : Calls P f args w R := h w rfl

theorem held_of {w w' : World} {B : Nat} (hb : Below B w w') {a : Addr} {u : Value} (h : w.cell? a = some u) (hB : w.heap.size ≤ B) : w'.cell? a = some u := (hb.cell (by have := cell_lt h; omega)).trans h

/-- A name for the world at the head of a piece of code. -/
theorem wp_at {P : Program} {c : Code} {Q : Exit → Act → World → Prop} {a : Act} {w : World} (h : ∀ W, W = w → c.wp P Q a W) : c.wp P Q a w := h w rfl

theorem quiet_same {P : Program} {f : FuncId} {args : Array Value} {w : World} {n : Nat} {v : Value} (h : Calls P f args (w.drewN n) fun e w' => e = .returned v ∧ w.drewN n = w') :
    Calls P f args (w.drewN n) fun e w'' => e = .returned v ∧ ∃ m, w'' = w.drewN m := h.mono fun _ _ ⟨he, hm⟩ => ⟨he, n, hm.symm⟩

end Go.Proofs.Ytljhohacgceojaa
