/-
  FnRules: texts joined: Sup, Float, Base, LawInts, PredI, PredF, Float64.
-/
import Derived.WalkKit
import Derived.WalkSpells
import Derived.WalkLawsBesides
import Derived.Deep.QuietTactic
import Derived.BigQuiet
import Derived.Lib.Hide
import Derived.Laws.AppendOwnNone
import Derived.Laws.FloatArith
import Derived.Test.YtfdaifmfecfchaaChecked
import Derived.Deep.RegionHeld3
namespace Go.Proofs.Ytfdaifmfecfchaa
open Go.RowKit

/-- The slice value v reads, in w, as the cells vs (elements of one cell each). -/
def Slc (w : World) (v : Value) (vs : List Value) : Prop :=
  (v = .slice none 0 0 ∧ vs = []) ∨
  ∃ ad cap, v = .slice (some ad) vs.length cap ∧ vs.length ≤ cap ∧ cap ≤ maxLen ∧ ∀ i u, vs[i]? = some u → w.cell? (ad.add i) = some u

theorem Slc.nil (w : World) : Slc w (.slice none 0 0) [] := .inl ⟨rfl, rfl⟩

theorem Slc.len {w : World} {v : Value} {vs : List Value} (h : Slc w v vs) : vs.length ≤ maxLen := by
  rcases h with ⟨_, rfl⟩ | ⟨_, _, _, h, h', _⟩
  · simp [maxLen]
  · omega

/-- The shape of the value. -/
theorem Slc.shape {w : World} {v : Value} {vs : List Value} (h : Slc w v vs) : ∃ a cap, v = .slice a vs.length cap := by
  rcases h with ⟨rfl, rfl⟩ | ⟨ad, cap, rfl, _⟩
  · exact ⟨none, 0, rfl⟩
  · exact ⟨some ad, cap, rfl⟩

/-- A cell of it. -/
theorem Slc.at {w : World} {a : Option Addr} {n cap : Nat} {vs : List Value} (h : Slc w (.slice a n cap) vs) {i : Nat} {u : Value} (hi : vs[i]? = some u) :
    ∃ b off, a = some ⟨b, off, none⟩ ∧ b < w.heap.size ∧ w.cell? ⟨b, off + i, none⟩ = some u := by
  rcases h with ⟨_, rfl⟩ | ⟨ad, cap', e, _, _, hc⟩
  · simp at hi
  · simp only [Value.slice.injEq] at e
    obtain ⟨rfl, rfl, rfl⟩ := e
    have h0 := hc i u hi
    obtain ⟨b, off, spot⟩ := ad
    have hs : spot = none := by
      have hlt : 0 < vs.length := by
        cases vs with
        | nil => simp at hi
        | cons x l => simp
      have hz := hc 0 _ (List.getElem?_eq_getElem hlt)
      simpa [Addr.add] using World.cell?_spot hz
    subst hs
    have h1 : w.cell? ⟨b, off + i, none⟩ = some u := by
      by_cases hz : i = 0
      · subst hz; simpa [Addr.add] using h0
      · simpa [Addr.add, hz] using h0
    refine ⟨b, off, rfl, ?_, h1⟩
    by_cases hb : b < w.heap.size
    · exact hb
    · exfalso
      have : w.heap[b]? = none := by simp; omega
      simp [World.cell?, this] at h1

theorem cell_lt {w : World} {a : Addr} {u : Value} (h : w.cell? a = some u) : a.block < w.heap.size := by
  by_cases hb : a.block < w.heap.size
  · exact hb
  · exfalso
    have : w.heap[a.block]? = none := by simp; omega
    simp [World.cell?, this] at h

theorem addr_add_block (a : Addr) (i : Nat) : (a.add i).block = a.block := by unfold Addr.add; split <;> rfl

/-- It reads on where no block of the old memory has turned. -/
theorem Slc.below {w w' : World} {B : Nat} {v : Value} {vs : List Value} (h : Slc w v vs) (hb : Below B w w') (hB : w.heap.size ≤ B) : Slc w' v vs := by
  rcases h with h | ⟨ad, cap, e, h1, h2, hc⟩
  · exact .inl h
  · refine .inr ⟨ad, cap, e, h1, h2, fun i u hi => ?_⟩
    have h0 := hc i u hi
    rw [hb.cell (by have := cell_lt h0; omega)]
    exact h0

theorem Slc.drewN {w : World} {v : Value} {vs : List Value} (h : Slc w v vs) (n : Nat) : Slc (w.drewN n) v vs := h

/-- What is owned reads. -/
theorem slc_of_owns {w : World} {base : Nat} {e : TypeId} {v : Value} {n : Nat} {vs : List Value} (h : w.ownsRow base e 1 v n vs) : Slc w v vs := by
  obtain ⟨hl, h2⟩ := h
  simp at hl
  rcases h2 with ⟨rfl, rfl⟩ | ⟨g, cap, cur, rfl, hb, hg, hn, hm, hs, ht⟩
  · left; exact ⟨rfl, List.length_eq_zero_iff.1 hl⟩
  · right
    refine ⟨⟨g, 0, none⟩, cap, by rw [hl], by omega, hm, fun i u hi => ?_⟩
    have hi' : i < vs.length := (List.getElem?_eq_some_iff.1 hi).1
    have : w.cell? ⟨g, i, none⟩ = some u := by
      rw [cell_of_row w g i cur e (0, 0) hg]
      rw [← ht] at hi
      simp [List.getElem?_take] at hi
      exact hi.2
    unfold Addr.add
    split
    · next hz => subst hz; exact this
    · simpa using this

/-- Append to what the call owns, the source any slice that reads. -/
theorem wpList_append_slc {P : Program} {w : World} {ops : Array Oper} {rest : List Oper} {o : Oper} {a : Act} {Q : Exit → Act → World → Prop} (hgd : o.guard = none) (s x : Operand) (t : TypeId)
    (ho : o.op = .call { callee := .builtin .append, args := #[s, x], argTypes := #[t, t] })
    (base : Nat) (e : TypeId) (i : TypeInfo) (z : Value) (bytes : Nat) (ht : P.underlying t = some (.slice e)) (hi : P.info? e = some i) (hz : i.zero = some z)
    (hsize : i.size = 1) (hby : i.bytes = bytes) (hzs : z.cells.size = 1)
    (v : Value) (n : Nat) (xs : List Value) (hs : a.eval s = v) (hown : w.ownsRow base e 1 v n xs)
    (sv : Value) (news : List Value) (hx : a.eval x = sv) (hsv : Slc w sv news) (h1 : ∀ u ∈ news, u.oneCell' = true)
    (h63 : n + news.length ≤ maxLen) (hbytes : (n + news.length) * bytes ≤ 140737488355328) (hbase : base ≤ w.heap.size)
    (h : ∀ v' w', w'.ownsRow base e 1 v' (n + news.length) (xs ++ news) → w.grownBy w' v.ownBlock → (v' = .slice none 0 0 ↔ v = .slice none 0 0 ∧ news = []) → wpList P ops Q rest (a.put o.dst v') w') :
    wpList P ops Q (o :: rest) a w := by
  rcases hsv with ⟨rfl, rfl⟩ | ⟨ad, cap, rfl, hcl, hcm, hc⟩
  · refine wpList_append_own_none hgd s x t ho base e i 1 ht hi v n xs hs hown hx ?_
    exact h v w (by simpa using hown) (World.grownBy.refl _ _) (by simp)
  · refine wpList_append_own w hgd s x t ho base e i z 1 bytes ht hi hz hsize hby hzs (by decide) v n xs hs hown ad news.length cap news hx (by simp) hc h1 h63 hbytes hbase ?_
    intro v' w' h2 h3 h4
    exact h v' w' h2 h3 (by rw [h4]; simp)

/-- What is owned and is not nil begins at the head of a block. -/
theorem owns_some {w : World} {base : Nat} {e : TypeId} {v : Value} {n : Nat} {vs : List Value} (h : w.ownsRow base e 1 v n vs) (hn : v ≠ .slice none 0 0) :
    ∃ g cap, v = .slice (some ⟨g, 0, none⟩) n cap ∧ base ≤ g ∧ g < w.heap.size := by
  rcases h.2 with ⟨rfl, _⟩ | ⟨g, cap, cur, rfl, hb, hg, _⟩
  · exact absurd rfl hn
  · exact ⟨g, cap, rfl, hb, lt_of_block hg⟩

theorem owns_len {w : World} {base : Nat} {e : TypeId} {v : Value} {n : Nat} {vs : List Value} (h : w.ownsRow base e 1 v n vs) : vs.length = n := by simpa using h.1

/-- Blocks that are there stay owned. -/
theorem owns_below {w w' : World} {base B : Nat} {e : TypeId} {v : Value} {n : Nat} {vs : List Value} (h : w.ownsRow base e 1 v n vs) (hb : Below B w w') (hB : w.heap.size ≤ B) : w'.ownsRow base e 1 v n vs := by
  refine ⟨h.1, ?_⟩
  rcases h.2 with h2 | ⟨g, cap, cur, hv, h3, hg, r⟩
  · exact .inl h2
  · exact .inr ⟨g, cap, cur, hv, h3, by rw [hb.block g (by have := lt_of_block hg; omega)]; exact hg, r⟩

theorem owns_base {w : World} {base base' : Nat} {e : TypeId} {v : Value} {n : Nat} {vs : List Value} (h : w.ownsRow base e 1 v n vs) (hb : base' ≤ base) : w.ownsRow base' e 1 v n vs := by
  refine ⟨h.1, ?_⟩
  rcases h.2 with h2 | ⟨g, cap, cur, hv, h3, hg, r⟩
  · exact .inl h2
  · exact .inr ⟨g, cap, cur, hv, by omega, hg, r⟩

theorem owns_lt {w : World} {base : Nat} {e : TypeId} {v : Value} {n : Nat} {vs : List Value} (h : w.ownsRow base e 1 v n vs) {k : Nat} (hk : v.ownBlock = some k) : base ≤ k ∧ k < w.heap.size := h.lt k hk

/-- What was there is as it was, but for the blocks in S. -/
structure Kept (S : Nat → Prop) (w w' : World) : Prop where
  os : w'.os = w.os
  tape : w'.tape = w.tape
  output : w'.output = w.output
  size : w.heap.size ≤ w'.heap.size
  block : ∀ k, k < w.heap.size → ¬ S k → w'.heap[k]? = w.heap[k]?

namespace Kept
variable {S S' : Nat → Prop} {a w w' : World}
theorem refl (S : Nat → Prop) (w : World) : Kept S w w := ⟨rfl, rfl, rfl, Nat.le_refl _, fun _ _ _ => rfl⟩
/-- One step more, which may turn the blocks in S' alone. -/
theorem step (h : Kept S a w) (k : Kept S' w w') (hs : ∀ i, i < a.heap.size → S' i → S i) : Kept S a w' :=
  ⟨k.os.trans h.os, k.tape.trans h.tape, k.output.trans h.output, Nat.le_trans h.size k.size,
    fun i hi hn => (k.block i (Nat.lt_of_lt_of_le hi h.size) (fun e => hn (hs i hi e))).trans (h.block i hi hn)⟩
theorem trans (h : Kept S a w) (k : Kept S w w') : Kept S a w' := h.step k fun _ _ x => x
theorem mono (h : Kept S a w) (hs : ∀ i, i < a.heap.size → S i → S' i) : Kept S' a w := ⟨h.os, h.tape, h.output, h.size, fun i hi hn => h.block i hi fun x => hn (hs i hi x)⟩
theorem of_below {B : Nat} (h : Below B w w') (hB : w.heap.size ≤ B) : Kept S w w' := ⟨h.os, h.tape, h.output, h.size, fun k hk _ => h.block k (by omega)⟩
theorem below {B : Nat} (h : Kept S a w) (k : Below B w w') (hB : a.heap.size ≤ B) : Kept S a w' :=
  ⟨k.os.trans h.os, k.tape.trans h.tape, k.output.trans h.output, Nat.le_trans h.size k.size, fun i hi hn => (k.block i (by omega)).trans (h.block i hi hn)⟩
theorem toBelow {B : Nat} (h : Kept S w w') (hB : B ≤ w.heap.size) (hs : ∀ k, k < B → ¬ S k) : Below B w w' := ⟨h.os, h.tape, h.output, h.size, fun k hk => h.block k (by omega) (hs k hk)⟩
theorem drew (h : Kept S a w) : Kept S a w.drew := ⟨h.os, h.tape, h.output, h.size, h.block⟩
theorem drewN (h : Kept S a w) (n : Nat) : Kept S a (w.drewN n) := ⟨h.os, h.tape, h.output, h.size, h.block⟩
theorem alloc (h : Kept S a w) (o : Obj) : Kept S a (w.alloc o) := h.step (S' := fun _ => False) ⟨rfl, rfl, rfl, by simp, fun k hk _ => Below.heap_alloc _ _ _ hk⟩ fun _ _ x => x.elim
theorem setCell (h : Kept S a w) {p : Addr} (hp : a.heap.size ≤ p.block ∨ S p.block) (u : Value) : Kept S a (w.setCell p u) :=
  h.step (S' := fun k => k = p.block) ⟨rfl, rfl, rfl, by simp [World.setCell], fun k _ hk => Below.heap_setCell _ _ _ _ hk⟩ fun i hi e => by
    subst e
    rcases hp with hp | hp
    · omega
    · exact hp
theorem grown {row : Option Nat} (h : Kept S a w) (hg : w.grownBy w' row) (hr : ∀ k, row = some k → a.heap.size ≤ k ∨ S k) : Kept S a w' :=
  h.step (S' := fun k => row = some k) ⟨hg.os, hg.tape, hg.output, hg.size, fun k hk hn => hg.block k hk fun e => hn e.symm⟩ fun i hi e => by
    rcases hr i e with hp | hp
    · omega
    · exact hp
theorem cell (h : Kept S w w') {p : Addr} (hp : p.block < w.heap.size) (hs : ¬ S p.block) : w'.cell? p = w.cell? p := World.cell?_of_block (w := w) (h.block p.block hp hs)
end Kept

theorem Slc.kept {S : Nat → Prop} {w w' : World} {a : Option Addr} {n cap : Nat} {vs : List Value} (h : Slc w (.slice a n cap) vs) (hk : Kept S w w')
    (hs : ∀ ad u, u ∈ vs → w.cell? ad = some u → ¬ S ad.block) : Slc w' (.slice a n cap) vs := by
  rcases h with h | ⟨ad, cap', e, h1, h2, hc⟩
  · exact .inl h
  · refine .inr ⟨ad, cap', e, h1, h2, fun i u hi => ?_⟩
    have h0 := hc i u hi
    rw [hk.cell (cell_lt h0) (hs _ u (List.mem_of_getElem? hi) h0)]
    exact h0

theorem owns_kept {S : Nat → Prop} {w w' : World} {base : Nat} {e : TypeId} {v : Value} {n : Nat} {vs : List Value} (h : w.ownsRow base e 1 v n vs) (hk : Kept S w w') (hs : ∀ g, v.ownBlock = some g → ¬ S g) : w'.ownsRow base e 1 v n vs := by
  refine ⟨h.1, ?_⟩
  rcases h.2 with h2 | ⟨g, cap, cur, hv, h3, hg, r⟩
  · exact .inl h2
  · exact .inr ⟨g, cap, cur, hv, h3, by rw [hk.block g (lt_of_block hg) (hs g (by rw [hv]; rfl))]; exact hg, r⟩

/-- A block of one cell: a variable that lies in memory. -/
def Box (w : World) (b : Nat) (t : TypeId) (v : Value) : Prop := w.heap[b]? = some (.cells #[v] t (0, 0))

theorem Box.cell {w : World} {b : Nat} {t : TypeId} {v : Value} (h : Box w b t v) : w.cell? ⟨b, 0, none⟩ = some v := cell_of_one h
theorem Box.free {w : World} {b : Nat} {t : TypeId} {v : Value} (h : Box w b t v) : w.frozen? ⟨b, 0, none⟩ = false := free_of_one h
theorem Box.lt {w : World} {b : Nat} {t : TypeId} {v : Value} (h : Box w b t v) : b < w.heap.size := lt_of_block h
theorem Box.set {w : World} {b : Nat} {t : TypeId} {v : Value} (h : Box w b t v) (u : Value) : Box (w.setCell ⟨b, 0, none⟩ u) b t u := one_setCell h
theorem Box.kept {S : Nat → Prop} {w w' : World} {b : Nat} {t : TypeId} {v : Value} (h : Box w b t v) (hk : Kept S w w') (hs : ¬ S b) : Box w' b t v := (hk.block b h.lt hs).trans h
theorem Box.new (w : World) (t : TypeId) (v : Value) : Box (w.alloc (.cells #[v] t)) w.heap.size t v := heap_alloc_new w _
theorem Box.cell_eq {w : World} {b : Nat} {t : TypeId} {u v : Value} {a : Addr} (h : Box w b t v) (ha : a.block = b) (hc : w.cell? a = some u) : u = v := by
  subst ha
  unfold Box at h
  simp only [World.cell?, h] at hc
  split at hc
  · simp at hc
  · match ho : a.off with
    | 0 => rw [ho] at hc; simp at hc; exact hc.symm
    | k + 1 => rw [ho] at hc; simp at hc
theorem Box.not_owned {w : World} {b : Nat} {t e : TypeId} {v u : Value} {base n size : Nat} {vs : List Value} (h : Box w b t v) (ho : w.ownsRow base e size u n vs) (hte : t ≠ e) : u.ownBlock ≠ some b := by
  intro hb
  rcases ho.2 with ⟨rfl, _⟩ | ⟨g, cap, cur, rfl, _, hg, _⟩
  · simp [Value.ownBlock] at hb
  · simp [Value.ownBlock] at hb
    subst hb
    unfold Box at h
    rw [hg] at h
    simp at h
    exact hte h.2.symm

theorem Box.below {w w' : World} {b B : Nat} {t : TypeId} {v : Value} (h : Box w b t v) (hb : Below B w w') (hB : b < B) : Box w' b t v := (hb.block b hB).trans h

/-- An append to what is owned from base on leaves all below base as it was. -/
theorem below_grown {w w' : World} {base : Nat} {e : TypeId} {v : Value} {n : Nat} {vs : List Value} (h : w.ownsRow base e 1 v n vs) (hbase : base ≤ w.heap.size) (hg : w.grownBy w' v.ownBlock) : Below base w w' :=
  (Below.refl base w).grown hg hbase fun k hk => (owns_lt h hk).1

theorem owns_shape {w : World} {base : Nat} {e : TypeId} {v : Value} {n : Nat} {vs : List Value} (h : w.ownsRow base e 1 v n vs) : ∃ a cap, v = .slice a n cap := by
  rcases h.2 with ⟨rfl, rfl⟩ | ⟨g, cap, cur, rfl, _⟩
  · exact ⟨_, _, rfl⟩
  · exact ⟨_, _, rfl⟩

/-- A function with a body is entered. -/
theorem enters_of {P : Program} {f : FuncId} {fn : Func} {c : Code} (hf : P.funcs[f]? = some fn) (hname : (fn.name == "runtime.NumGoroutine") = false) (hb : fn.body = some c) (args : Array Value) (w : World) :
    (callFunc f args).run P w = .ok (.enter f args) w := by
  have h1 : fn.name ≠ "runtime.NumGoroutine" := by simpa using hname
  simp [callFunc, hf, h1, hb]

/-- A block of cells that nobody has frozen: a struct that lies in memory. -/
def Blk (w : World) (b : Nat) (t : TypeId) (cs : Array Value) : Prop := w.heap[b]? = some (.cells cs t (0, 0))

theorem Blk.cell {w : World} {b : Nat} {t : TypeId} {cs : Array Value} (h : Blk w b t cs) (j : Nat) {u : Value} (hj : cs[j]? = some u) : w.cell? ⟨b, j, none⟩ = some u := by
  unfold Blk at h; simp [World.cell?, h, hj]
theorem Blk.free {w : World} {b : Nat} {t : TypeId} {cs : Array Value} (h : Blk w b t cs) (j : Nat) : w.frozen? ⟨b, j, none⟩ = false := by
  unfold Blk at h; simp [World.frozen?, h]
theorem Blk.lt {w : World} {b : Nat} {t : TypeId} {cs : Array Value} (h : Blk w b t cs) : b < w.heap.size := lt_of_block h
theorem Blk.new (w : World) (t : TypeId) (cs : Array Value) : Blk (w.alloc (.cells cs t)) w.heap.size t cs := heap_alloc_new w _
theorem Blk.below {w w' : World} {b B : Nat} {t : TypeId} {cs : Array Value} (h : Blk w b t cs) (hb : Below B w w') (hB : b < B) : Blk w' b t cs := (hb.block b hB).trans h
theorem Blk.alloc {w : World} {b : Nat} {t : TypeId} {cs : Array Value} (h : Blk w b t cs) (o : Obj) : Blk (w.alloc o) b t cs := (Below.heap_alloc _ _ _ h.lt).trans h
theorem Blk.kept {S : Nat → Prop} {w w' : World} {b : Nat} {t : TypeId} {cs : Array Value} (h : Blk w b t cs) (hk : Kept S w w') (hs : ¬ S b) : Blk w' b t cs := (hk.block b h.lt hs).trans h
theorem Blk.set {w : World} {b : Nat} {t : TypeId} {cs : Array Value} (h : Blk w b t cs) (j : Nat) (u : Value) : Blk (w.setCell ⟨b, j, none⟩ u) b t (cs.setIfInBounds j u) := heap_setCell_same w b j cs t u h
theorem Blk.other {w : World} {b : Nat} {t : TypeId} {cs : Array Value} (h : Blk w b t cs) {a : Addr} (ha : b ≠ a.block) (u : Value) : Blk (w.setCell a u) b t cs := (Below.heap_setCell _ _ _ _ ha).trans h
theorem Blk.not_owned {w : World} {b : Nat} {t e : TypeId} {cs : Array Value} {u : Value} {base n size : Nat} {vs : List Value} (h : Blk w b t cs) (ho : w.ownsRow base e size u n vs) (hte : t ≠ e) : u.ownBlock ≠ some b := by
  intro hb
  rcases ho.2 with ⟨rfl, _⟩ | ⟨g, cap, cur, rfl, _, hg, _⟩
  · simp [Value.ownBlock] at hb
  · simp [Value.ownBlock] at hb
    subst hb
    unfold Blk at h
    rw [hg] at h
    simp at h
    exact hte h.2.symm

/-- What is owned is not turned by a store elsewhere. -/
theorem owns_other {w : World} {base : Nat} {e : TypeId} {v : Value} {n : Nat} {vs : List Value} (h : w.ownsRow base e 1 v n vs) {a : Addr} (ha : v.ownBlock ≠ some a.block) (u : Value) : (w.setCell a u).ownsRow base e 1 v n vs :=
  ownsRow_setCell_other h ha u

theorem Slc.other {w : World} {a : Option Addr} {n cap : Nat} {vs : List Value} (h : Slc w (.slice a n cap) vs) {p : Addr} (hp : ∀ ad, a = some ad → vs ≠ [] → ad.block ≠ p.block) (u : Value) : Slc (w.setCell p u) (.slice a n cap) vs := by
  rcases h with h | ⟨ad, cap', e, h1, h2, hc⟩
  · exact .inl h
  · refine .inr ⟨ad, cap', e, h1, h2, fun i v hi => ?_⟩
    have h0 := hc i v hi
    simp only [Value.slice.injEq] at e
    have hne := hp ad e.1 (by rintro rfl; simp at hi)
    rw [World.cell?_of_block (w := w) (Below.heap_setCell _ _ _ _ (by rw [addr_add_block]; exact hne))]
    exact h0

/-- A name for the world in which a call is made. -/
theorem Calls.at {P : Program} {f : FuncId} {args : Array Value} {w : World} {R : Ending → World → Prop} (h : ∀ W, W = w → Calls P f args W R) : Calls P f args w R := h w rfl

theorem held_of {w w' : World} {B : Nat} (hb : Below B w w') {a : Addr} {u : Value} (h : w.cell? a = some u) (hB : w.heap.size ≤ B) : w'.cell? a = some u := (hb.cell (by have := cell_lt h; omega)).trans h

/-- A name for the world at the head of a piece of code. -/
theorem wp_at {P : Program} {c : Code} {Q : Exit → Act → World → Prop} {a : Act} {w : World} (h : ∀ W, W = w → c.wp P Q a W) : c.wp P Q a w := h w rfl

theorem quiet_same {P : Program} {f : FuncId} {args : Array Value} {w : World} {n : Nat} {v : Value} (h : Calls P f args (w.drewN n) fun e w' => e = .returned v ∧ w.drewN n = w') :
    Calls P f args (w.drewN n) fun e w'' => e = .returned v ∧ ∃ m, w'' = w.drewN m := h.mono fun _ _ ⟨he, hm⟩ => ⟨he, n, hm.symm⟩

end Go.Proofs.Ytfdaifmfecfchaa

namespace Go.Proofs.Ytfdaifmfecfchaa
open Go.RowKit

def F32 (b : Nat) : Value := .float .f32 b
def nan32 (x : Nat) : Bool := (Ieee.single.read x).isNaN
def fin32 (x : Nat) : Bool := match Ieee.single.read x with
  | .number .. => true
  | _ => false

theorem order_self (f : Ieee.Format) (x : Nat) (h : (f.read x).isNaN = false) : f.order x x = some .eq := by
  unfold Ieee.Format.order
  cases hr : f.read x with
  | nan a b => rw [hr] at h; simp [Ieee.Datum.isNaN] at h
  | infinity s => simp [Ieee.Datum.order]
  | number s m e => simp [Ieee.Datum.order]
theorem order_nanL (f : Ieee.Format) (x y : Nat) (h : (f.read x).isNaN = true) : f.order x y = none := by
  unfold Ieee.Format.order
  cases hr : f.read x with
  | nan a b => simp [Ieee.Datum.order]
  | infinity s => rw [hr] at h; simp [Ieee.Datum.isNaN] at h
  | number s m e => rw [hr] at h; simp [Ieee.Datum.isNaN] at h
theorem order_nanR (f : Ieee.Format) (x y : Nat) (h : (f.read y).isNaN = true) : f.order x y = none := by
  unfold Ieee.Format.order
  cases hr : f.read y with
  | nan a b => cases f.read x <;> simp [Ieee.Datum.order]
  | infinity s => rw [hr] at h; simp [Ieee.Datum.isNaN] at h
  | number s m e => rw [hr] at h; simp [Ieee.Datum.isNaN] at h

theorem sub_fin {x : Nat} (h : fin32 x = true) : Ieee.single.sub x x = some 0 := by
  unfold fin32 at h
  unfold Ieee.Format.sub
  cases hr : Ieee.single.read x with
  | nan a b => rw [hr] at h; simp at h
  | infinity s => rw [hr] at h; simp at h
  | number s m e =>
    have ht : Ieee.signed s m 0 + Ieee.signed (!s) m 0 = 0 := by cases s <;> simp [Ieee.signed] <;> omega
    simp only [Ieee.Datum.opposite, Ieee.Datum.sum, Option.map_some, Int.min_self, Int.sub_self, Int.toNat_zero, ht, if_true, Int.natAbs_zero]
    cases s <;> simp [Ieee.Format.write, Ieee.Format.nearest, Ieee.Format.word]
theorem sub_not {x : Nat} (h : fin32 x = false) : Ieee.single.sub x x = none := by
  unfold fin32 at h
  unfold Ieee.Format.sub
  cases hr : Ieee.single.read x with
  | nan a b => simp [Ieee.Datum.opposite, Ieee.Datum.sum]
  | infinity s => cases s <;> simp [Ieee.Datum.opposite, Ieee.Datum.sum]
  | number s m e => rw [hr] at h; simp at h

/-- The bits of a NaN that the tape names. -/
def tape32 (q : Question) (w : World) : Nat := q.cut (w.tape w.drawn q)
theorem nan_cut32 (t : Nat) : (Ieee.single.read ((t % 2) * 2 ^ 31 + 0x7f800000 + 1 + (t / 2) % (2 ^ 23 - 1))).isNaN = true := by
  have h1 : t % 2 < 2 := Nat.mod_lt _ (by decide)
  have h2 : (t / 2) % (2 ^ 23 - 1) < 2 ^ 23 - 1 := Nat.mod_lt _ (by decide)
  generalize t % 2 = s at h1 ⊢
  generalize (t / 2) % (2 ^ 23 - 1) = r at h2 ⊢
  have e : (s * 2 ^ 31 + 0x7f800000 + 1 + r) % 2147483648 = 0x7f800000 + 1 + r := by omega
  unfold Ieee.Format.read
  have c1 : Ieee.single.signWeight = 2147483648 := rfl
  have c2 : Ieee.single.binade = 8388608 := rfl
  have c3 : Ieee.single.infRung = 2139095040 := rfl
  simp only [c1, c2, c3, e]
  rw [if_neg (by omega), if_neg (by omega), if_neg (by omega)]
  rfl
theorem nan_cut64 (t : Nat) : (Ieee.double.read ((t % 2) * 2 ^ 63 + 0x7ff0000000000000 + 1 + (t / 2) % (2 ^ 52 - 1))).isNaN = true := by
  have h1 : t % 2 < 2 := Nat.mod_lt _ (by decide)
  have h2 : (t / 2) % (2 ^ 52 - 1) < 2 ^ 52 - 1 := Nat.mod_lt _ (by decide)
  generalize t % 2 = s at h1 ⊢
  generalize (t / 2) % (2 ^ 52 - 1) = r at h2 ⊢
  have e : (s * 2 ^ 63 + 0x7ff0000000000000 + 1 + r) % 9223372036854775808 = 0x7ff0000000000000 + 1 + r := by omega
  unfold Ieee.Format.read
  have c1 : Ieee.double.signWeight = 9223372036854775808 := rfl
  have c2 : Ieee.double.binade = 4503599627370496 := rfl
  have c3 : Ieee.double.infRung = 9218868437227405312 := rfl
  simp only [c1, c2, c3, e]
  rw [if_neg (by omega), if_neg (by omega), if_neg (by omega)]
  rfl

/-- A difference that is no number: a NaN that the tape names. -/
theorem run_sub_none {P : Program} (t : TypeId) (x y : Nat) (h : Ieee.single.sub x y = none) (w : World) :
    (binOp .sub t (.float .f32 x) (.float .f32 y)).run P w = .ok (.float .f32 (tape32 (.nanBits .f32 x y) w)) w.drew := by
  have h' : FloatKind.f32.format.sub x y = none := h
  simp [binOp, Op.floatArith, h', tape32, Question.forced, Result.andThen]
theorem tape32_nan (x y : Nat) (w : World) : (Ieee.single.read (tape32 (.nanBits .f32 x y) w)).isNaN = true := by
  unfold tape32
  exact nan_cut32 _
theorem run_sub_some {P : Program} (t : TypeId) (x y r : Nat) (h : Ieee.single.sub x y = some r) (w : World) :
    (binOp .sub t (.float .f32 x) (.float .f32 y)).run P w = .ok (.float .f32 r) w := run_float_arith w .sub t .f32 x y r h

end Go.Proofs.Ytfdaifmfecfchaa

namespace Go.Proofs.Ytfdaifmfecfchaa
open Go.RowKit

theorem Try.infoI64 : (Try.prog.info? 2).map (fun i => (i.zero, i.size, i.bytes)) = some (some (.int .i64 0), 1, 8) := by kernel_rfl

def I64 (x : Int) : Value := .int .i64 x
theorem i64_one (xs : List Int) : ∀ u ∈ xs.map I64, u.oneCell' = true := by
  intro u hu; simp at hu; obtain ⟨x, _, rfl⟩ := hu; rfl

def inB (lo hi n : Int) : Bool := decide (lo ≤ n) && decide (n ≤ hi)
theorem inB_true {lo hi n : Int} (h : lo ≤ n ∧ n ≤ hi) : inB lo hi n = true := by simp [inB, h]
theorem inB_false {lo hi n : Int} (h : ¬ (lo ≤ n ∧ n ≤ hi)) : inB lo hi n = false := by simp only [inB, ← Bool.not_eq_true, Bool.and_eq_true, decide_eq_true_eq]; exact h

set_option maxHeartbeats 400000 in
theorem within_any (n lo hi : Int) (w : World) :
    Calls Try.prog 55 #[.int .i64 n, .int .i64 lo, .int .i64 hi] w fun e w' => e = .returned (.bool (inB lo hi n)) ∧ w = w' := by
  by_cases h : lo ≤ n
  · go_enter Try.func55, Try.ntmps55
    go_wp2
    go_ret
    exact ⟨by simp [inB, h], rfl⟩
  · go_enter Try.func55, Try.ntmps55
    go_wp2
    go_ret
    exact ⟨by simp [inB]; omega, rfl⟩

set_option maxHeartbeats 400000 in
theorem size_any (n : Nat) (w : World) (h : n ≤ maxLen) :
    Calls Try.prog 47 #[.int .i64 n] w fun e w' => e = .returned (.int .i64 n) ∧ w = w' := by
  unfold maxLen at h
  go_enter Try.func47, Try.ntmps47
  go_wp2
  go_ret
  exact ⟨rfl, rfl⟩

/-- Append of integers to what the call owns; it may be nil. -/
theorem app_ints {w : World} {ops : Array Oper} {rest : List Oper} {o : Oper} {a : Act} {Q : Exit → Act → World → Prop} (hgd : o.guard = none) (s x : Operand)
    (ho : o.op = .call { callee := .builtin .append, args := #[s, x], argTypes := #[27, 27] })
    (base : Nat) (v : Value) (n : Nat) (xs : List Int) (hs : a.eval s = v) (hown : w.ownsRow base 2 1 v n (xs.map I64))
    (sv : Value) (news : List Int) (hx : a.eval x = sv) (hsv : Slc w sv (news.map I64)) (m : Nat) (ys : List Int) (hm : m = n + news.length) (hys : ys = xs ++ news) (hlen : m ≤ 17592186044416) (hbase : base ≤ w.heap.size)
    (h : ∀ a' cap' w', w'.ownsRow base 2 1 (.slice a' m cap') m (ys.map I64) → Below base w w' → w.grownBy w' v.ownBlock → (Value.slice a' m cap' = .slice none 0 0 ↔ v = .slice none 0 0 ∧ news = []) → wpList Try.prog ops Q rest (a.put o.dst (.slice a' m cap')) w') :
    wpList Try.prog ops Q (o :: rest) a w := by
  obtain ⟨i0, hi, hz0, hz1, hz2⟩ := info_parts Try.infoI64
  subst hm hys
  refine wpList_append_slc hgd s x 27 ho base 2 i0 (.int .i64 0) 8 Try.underlying27 hi hz0 hz1 hz2 rfl v n (xs.map I64) hs hown sv (news.map I64) hx hsv (i64_one news) (by simp [maxLen]; omega) (by simp; omega) hbase ?_
  intro v' w' h1 h2 h3
  have h1' : w'.ownsRow base 2 1 v' (n + news.length) ((xs ++ news).map I64) := by simpa using h1
  obtain ⟨a', cap', rfl⟩ := owns_shape h1'
  exact h a' cap' w' h1' (below_grown hown hbase h2) h2 (by simpa using h3)

/-- Append of integers to what the call owns and is not nil. -/
theorem app_own {w : World} {ops : Array Oper} {rest : List Oper} {o : Oper} {a : Act} {Q : Exit → Act → World → Prop} (hgd : o.guard = none) (s x : Operand)
    (ho : o.op = .call { callee := .builtin .append, args := #[s, x], argTypes := #[27, 27] })
    (base : Nat) (ad : Addr) (n cap : Nat) (xs : List Int) (hs : a.eval s = .slice (some ad) n cap) (hown : w.ownsRow base 2 1 (.slice (some ad) n cap) n (xs.map I64))
    (sv : Value) (news : List Int) (hx : a.eval x = sv) (hsv : Slc w sv (news.map I64)) (m : Nat) (ys : List Int) (hm : m = n + news.length) (hys : ys = xs ++ news) (hlen : m ≤ 17592186044416) (hbase : base ≤ w.heap.size)
    (h : ∀ g cap' w', w'.ownsRow base 2 1 (.slice (some ⟨g, 0, none⟩) m cap') m (ys.map I64) → Below base w w' → w.grownBy w' (Value.slice (some ad) n cap).ownBlock → wpList Try.prog ops Q rest (a.put o.dst (.slice (some ⟨g, 0, none⟩) m cap')) w') :
    wpList Try.prog ops Q (o :: rest) a w := by
  refine app_ints hgd s x ho base _ n xs hs hown sv news hx hsv m ys hm hys hlen hbase ?_
  intro a' cap' w' h1 h2 h3 h4
  obtain ⟨g, c, e, _⟩ := owns_some h1 (by intro e; have := h4.1 e; simp at this)
  simp only [Value.slice.injEq, true_and] at e
  obtain ⟨rfl, rfl⟩ := e
  exact h g _ w' h1 h2 h3

/-- A new row of one integer. -/
theorem slc_one (w : World) (z : Int) : Slc (w.alloc (.cells #[.int .i64 z] 2)) (.slice (some ⟨w.heap.size, 0, none⟩) 1 1) ([z].map I64) := by
  have h := World.ownsRow_lit (base := w.heap.size) (e := 2) (size := 1) w #[.int .i64 z] 1 (Nat.le_refl _) (by simp [maxLen]) rfl
  exact slc_of_owns h

/-- A new empty row. -/
theorem owns_empty (w : World) : (w.alloc (.cells #[] 2)).ownsRow w.heap.size 2 1 (.slice (some ⟨w.heap.size, 0, none⟩) 0 0) 0 (([] : List Int).map I64) :=
  World.ownsRow_lit (base := w.heap.size) (e := 2) (size := 1) w #[] 0 (Nat.le_refl _) (by simp [maxLen]) rfl

set_option maxHeartbeats 400000 in
theorem copyInts_any (a : Option Addr) (cap : Nat) (xs : List Int) (w : World) (hs : Slc w (.slice a xs.length cap) (xs.map I64)) (hb : xs.length ≤ 17592186044416) :
    Calls Try.prog 80 #[.slice a xs.length cap] w fun e w' => ∃ g cap, e = .returned (.slice (some ⟨g, 0, none⟩) xs.length cap) ∧ w'.ownsRow w.heap.size 2 1 (.slice (some ⟨g, 0, none⟩) xs.length cap) xs.length (xs.map I64) ∧ Below w.heap.size w w' := by
  have hsl := hs.below (Below.alloc (Below.refl w.heap.size w) (Nat.le_refl _) (.cells #[] 2)) (Nat.le_refl _)
  have HS := Lib.hid hs
  clear hs
  go_enter Try.func80, Try.ntmps80
  go_wp2_with (at_builtin; refine app_own rfl _ _ rfl w.heap.size ⟨w.heap.size, 0, none⟩ 0 0 [] rfl (owns_empty w) _ xs rfl hsl xs.length xs (by simp) (by simp) hb (by simp) ?_; intro g cap' w1 hown hbl hg)
  go_ret
  exact ⟨g, cap', rfl, hown, ((Below.refl _ _).alloc (Nat.le_refl _) _).trans hbl⟩

end Go.Proofs.Ytfdaifmfecfchaa

namespace Go.Proofs.Ytfdaifmfecfchaa
open Go.RowKit

/-- Equal lists: a comparison that reads both. -/
theorem take_ne {xs ys : List Int} {k : Nat} (hx : k < xs.length) (hy : k < ys.length) (h : xs.getD k 0 ≠ ys.getD k 0) : xs ≠ ys := by
  rintro rfl; exact h rfl

theorem take_eq_succ {xs ys : List Int} {k : Nat} (hx : k < xs.length) (hy : k < ys.length) (h : xs.take k = ys.take k) (h2 : xs.getD k 0 = ys.getD k 0) : xs.take (k + 1) = ys.take (k + 1) := by
  rw [List.take_succ_eq_append_getElem hx, List.take_succ_eq_append_getElem hy, h]
  simp [hx, hy] at h2
  rw [h2]

theorem set_mid {α : Type} (A R : List α) (z x : α) (k : Nat) (hk : A.length = k) : (A ++ z :: R).set k x = A ++ x :: R := by
  subst hk; simp [List.set_append]

theorem set_fill {xs : List Int} {k : Nat} {x : Int} (hk : k < xs.length) (hx : x = xs.getD k 0) :
    ((xs.take k ++ List.replicate (xs.length - k) 0).map I64).set k (.int .i64 x) = (xs.take (k + 1) ++ List.replicate (xs.length - (k + 1)) 0).map I64 := by
  subst hx
  have e : List.replicate (xs.length - k) (0 : Int) = 0 :: List.replicate (xs.length - (k + 1)) 0 := by
    rw [show xs.length - k = (xs.length - (k + 1)) + 1 by omega, List.replicate_succ]
  rw [e, List.take_succ_eq_append_getElem hk, List.map_append, List.map_cons, set_mid _ _ _ _ _ (by simp; omega), List.map_append, List.map_append, List.append_assoc, show xs.getD k 0 = xs[k] from by simp [hk]]
  rfl

end Go.Proofs.Ytfdaifmfecfchaa

namespace Go.Proofs.Ytfdaifmfecfchaa
open Go.RowKit

/-- v reads as the integers xs. -/
def RdI (w : World) (v : Value) (xs : List Int) : Prop := Slc w v (xs.map I64)
/-- v owns the integers xs, in blocks from lo up to hi. -/
def OwnI (lo hi : Nat) (w : World) (v : Value) (xs : List Int) : Prop := w.ownsRow lo 2 1 v xs.length (xs.map I64) ∧ ∀ g, v.ownBlock = some g → g < hi
def bulkI (xs : List Int) : Nat := xs.length

theorem RdI.shape {w : World} {v : Value} {xs : List Int} (h : RdI w v xs) : ∃ a c, v = .slice a xs.length c := by
  obtain ⟨a, c, e⟩ := Slc.shape h; exact ⟨a, c, by simpa using e⟩
theorem RdI.up {w w' : World} {v : Value} {xs : List Int} {B : Nat} (h : RdI w v xs) (hb : Below B w w') (hB : w.heap.size ≤ B) : RdI w' v xs := Slc.below h hb hB
theorem RdI.at {w : World} {a : Option Addr} {n c : Nat} {xs : List Int} (h : RdI w (.slice a n c) xs) {i : Nat} (hi : i < xs.length) :
    ∃ b off, a = some ⟨b, off, none⟩ ∧ b < w.heap.size ∧ w.cell? ⟨b, off + i, none⟩ = some (.int .i64 (xs.getD i 0)) := Slc.at h (by simp [I64, hi])
theorem RdI.len {w : World} {v : Value} {xs : List Int} (h : RdI w v xs) : xs.length ≤ maxLen := by simpa using Slc.len h
theorem RdI.drewN {w : World} {v : Value} {xs : List Int} (h : RdI w v xs) (n : Nat) : RdI (w.drewN n) v xs := Slc.drewN h n
theorem OwnI.rd {lo hi : Nat} {w : World} {v : Value} {xs : List Int} (h : OwnI lo hi w v xs) : RdI w v xs := slc_of_owns h.1
theorem OwnI.up {lo hi : Nat} {w w' : World} {v : Value} {xs : List Int} {B : Nat} (h : OwnI lo hi w v xs) (hb : Below B w w') (hB : w.heap.size ≤ B) : OwnI lo hi w' v xs := ⟨owns_below h.1 hb hB, h.2⟩
theorem OwnI.wide {lo hi lo' hi' : Nat} {w : World} {v : Value} {xs : List Int} (h : OwnI lo hi w v xs) (h1 : lo' ≤ lo) (h2 : hi ≤ hi') : OwnI lo' hi' w v xs := ⟨owns_base h.1 h1, fun g hg => Nat.lt_of_lt_of_le (h.2 g hg) h2⟩
theorem OwnI.kept {lo hi : Nat} {w w' : World} {v : Value} {xs : List Int} {S : Nat → Prop} (h : OwnI lo hi w v xs) (hk : Kept S w w') (hs : ∀ b, lo ≤ b → b < hi → ¬ S b) : OwnI lo hi w' v xs :=
  ⟨owns_kept h.1 hk fun g hg => hs g (owns_lt h.1 hg).1 (h.2 g hg), h.2⟩
theorem OwnI.mk {lo : Nat} {w : World} {v : Value} {n : Nat} {xs : List Int} (h : w.ownsRow lo 2 1 v n (xs.map I64)) : OwnI lo w.heap.size w v xs := by
  obtain rfl : xs.length = n := by simpa using owns_len h
  exact ⟨h, fun g hg => (owns_lt h hg).2⟩

/-- What is left behind the marks. -/
def mkI (k : Int) (n : Nat) : List Int := (List.range n).map fun (i : Nat) => k + i

end Go.Proofs.Ytfdaifmfecfchaa

namespace Go.Proofs.Ytfdaifmfecfchaa
open Go.RowKit

def RdF (w : World) (v : Value) (xs : List Nat) : Prop := Slc w v (xs.map F32)
def OwnF (lo hi : Nat) (w : World) (v : Value) (xs : List Nat) : Prop := w.ownsRow lo 53 1 v xs.length (xs.map F32) ∧ ∀ g, v.ownBlock = some g → g < hi
def bulkF (xs : List Nat) : Nat := xs.length

theorem RdF.shape {w : World} {v : Value} {xs : List Nat} (h : RdF w v xs) : ∃ a c, v = .slice a xs.length c := by
  obtain ⟨a, c, e⟩ := Slc.shape h; exact ⟨a, c, by simpa using e⟩
theorem RdF.up {w w' : World} {v : Value} {xs : List Nat} {B : Nat} (h : RdF w v xs) (hb : Below B w w') (hB : w.heap.size ≤ B) : RdF w' v xs := Slc.below h hb hB
theorem RdF.at {w : World} {a : Option Addr} {n c : Nat} {xs : List Nat} (h : RdF w (.slice a n c) xs) {i : Nat} (hi : i < xs.length) :
    ∃ b off, a = some ⟨b, off, none⟩ ∧ b < w.heap.size ∧ w.cell? ⟨b, off + i, none⟩ = some (.float .f32 (xs.getD i 0)) := Slc.at h (by simp [F32, hi])
theorem RdF.len {w : World} {v : Value} {xs : List Nat} (h : RdF w v xs) : xs.length ≤ maxLen := by simpa using Slc.len h
theorem RdF.drewN {w : World} {v : Value} {xs : List Nat} (h : RdF w v xs) (n : Nat) : RdF (w.drewN n) v xs := Slc.drewN h n
theorem OwnF.rd {lo hi : Nat} {w : World} {v : Value} {xs : List Nat} (h : OwnF lo hi w v xs) : RdF w v xs := slc_of_owns h.1
theorem OwnF.up {lo hi : Nat} {w w' : World} {v : Value} {xs : List Nat} {B : Nat} (h : OwnF lo hi w v xs) (hb : Below B w w') (hB : w.heap.size ≤ B) : OwnF lo hi w' v xs := ⟨owns_below h.1 hb hB, h.2⟩
theorem OwnF.wide {lo hi lo' hi' : Nat} {w : World} {v : Value} {xs : List Nat} (h : OwnF lo hi w v xs) (h1 : lo' ≤ lo) (h2 : hi ≤ hi') : OwnF lo' hi' w v xs := ⟨owns_base h.1 h1, fun g hg => Nat.lt_of_lt_of_le (h.2 g hg) h2⟩
theorem OwnF.kept {lo hi : Nat} {w w' : World} {v : Value} {xs : List Nat} {S : Nat → Prop} (h : OwnF lo hi w v xs) (hk : Kept S w w') (hs : ∀ b, lo ≤ b → b < hi → ¬ S b) : OwnF lo hi w' v xs :=
  ⟨owns_kept h.1 hk fun g hg => hs g (owns_lt h.1 hg).1 (h.2 g hg), h.2⟩
theorem OwnF.mk {lo : Nat} {w : World} {v : Value} {n : Nat} {xs : List Nat} (h : w.ownsRow lo 53 1 v n (xs.map F32)) : OwnF lo w.heap.size w v xs := by
  obtain rfl : xs.length = n := by simpa using owns_len h
  exact ⟨h, fun g hg => (owns_lt h hg).2⟩

theorem Try.infoF32 : (Try.prog.info? 53).map (fun i => (i.zero, i.size, i.bytes)) = some (some (.float .f32 0), 1, 4) := by kernel_rfl

theorem fill_f {xs : List Nat} {k : Nat} {x : Nat} (hk : k < xs.length) (hx : x = xs.getD k 0) :
    ((xs.take k ++ List.replicate (xs.length - k) 0).map F32).set k (.float .f32 x) = (xs.take (k + 1) ++ List.replicate (xs.length - (k + 1)) 0).map F32 := by
  subst hx
  have e : List.replicate (xs.length - k) (0 : Nat) = 0 :: List.replicate (xs.length - (k + 1)) 0 := by
    rw [show xs.length - k = (xs.length - (k + 1)) + 1 by omega, List.replicate_succ]
  rw [e, List.take_succ_eq_append_getElem hk, List.map_append, List.map_cons, set_mid _ _ _ _ _ (by simp; omega), List.map_append, List.map_append, List.append_assoc, show xs.getD k 0 = xs[k] from by simp [hk]]
  rfl

@[go_sem] theorem run_store_float (P : Program) (w : World) (a : Addr) (m : Mode) (k : FloatKind) (n : Nat) : (store a (.float k n) m).run P w = stored P w a (.float k n) m := run_store P w a _ m rfl

/-! ### The same number -/

theorem zero_div {r : Nat} (h : Ieee.double.order r 0 = some .eq) : ∃ q, Ieee.double.div 4607182418800017408 r = some q := by
  have e1 : Ieee.double.read 4607182418800017408 = .number false 4503599627370496 (-52) := by decide +kernel
  have e0 : Ieee.double.read 0 = .number false 0 (-1074) := by decide +kernel
  unfold Ieee.Format.order at h
  unfold Ieee.Format.div
  rw [e1]
  rw [e0] at h
  cases hr : Ieee.double.read r with
  | nan a b => rw [hr] at h; simp [Ieee.Datum.order] at h
  | infinity s => rw [hr] at h; cases s <;> simp [Ieee.Datum.order] at h
  | number s m e =>
    by_cases hm : m = 0
    · subst hm; simp [Ieee.Datum.quotient]
    · simp [Ieee.Datum.quotient, hm]

end Go.Proofs.Ytfdaifmfecfchaa

namespace Go.Proofs.Ytfdaifmfecfchaa
open Go.RowKit

theorem read32_bound {b m : Nat} {s : Bool} {e : Int} (h : Ieee.single.read b = .number s m e) : m < 16777216 ∧ -149 ≤ e ∧ e ≤ 104 := by
  unfold Ieee.Format.read at h
  have c1 : Ieee.single.signWeight = 2147483648 := rfl
  have c2 : Ieee.single.binade = 8388608 := rfl
  have c3 : Ieee.single.infRung = 2139095040 := rfl
  have c4 : Ieee.single.leastPlace = -149 := by decide +kernel
  simp only [c1, c2, c3, c4] at h
  split at h
  · simp only [Ieee.Datum.number.injEq] at h
    obtain ⟨_, rfl, rfl⟩ := h
    omega
  · split at h
    · simp only [Ieee.Datum.number.injEq] at h
      obtain ⟨_, rfl, rfl⟩ := h
      omega
    · split at h <;> simp at h

theorem read_word64 (s : Bool) (r : Nat) (h : r < 9218868437227405312) : (Ieee.double.read (Ieee.double.word s r)).isNaN = false ∧ (Ieee.double.read (Ieee.double.word s r)).isInfinity = false := by
  have c1 : Ieee.double.signWeight = 9223372036854775808 := rfl
  have c2 : Ieee.double.binade = 4503599627370496 := rfl
  have c3 : Ieee.double.infRung = 9218868437227405312 := rfl
  have e : (Ieee.double.word s r) % 9223372036854775808 = r := by
    unfold Ieee.Format.word
    rw [c1]
    cases s <;> simp <;> omega
  unfold Ieee.Format.read
  simp only [c1, c2, c3, e]
  split
  · exact ⟨rfl, rfl⟩
  · first
    | exact ⟨rfl, rfl⟩
    | (rw [if_pos h]; exact ⟨rfl, rfl⟩)

theorem near_aux (Q K : Nat) (hQ : Q ≤ 1149) (hK : K < 9007199254740992) : min (Q * 4503599627370496 + K) 9218868437227405312 < 9218868437227405312 := by
  have : Q * 4503599627370496 ≤ 1149 * 4503599627370496 := Nat.mul_le_mul_right _ hQ
  omega
theorem nearest64 (s : Bool) {m : Nat} {e : Int} (hm : m < 16777216) (h1 : -149 ≤ e) (h2 : e ≤ 104) : ∃ r, r < 9218868437227405312 ∧ Ieee.double.nearest s m e = Ieee.double.word s r := by
  unfold Ieee.Format.nearest
  by_cases h0 : m = 0
  · rw [if_pos h0]; exact ⟨0, by decide, rfl⟩
  · rw [if_neg h0]
    have hl : m.log2 ≤ 23 := by
      have : m.log2 < 24 := (Nat.log2_lt h0).2 (by omega)
      omega
    have hlt : m < 2 ^ (m.log2 + 1) := Nat.lt_log2_self
    have c4 : Ieee.double.leastPlace = -1074 := by decide +kernel
    have c2 : Ieee.double.binade = 4503599627370496 := rfl
    have c3 : Ieee.double.infRung = 9218868437227405312 := rfl
    have c5 : Ieee.double.fractionBits = 52 := rfl
    have hlast : max (e + (m.log2 : Int) - (52 : Nat)) (-1074) = e + m.log2 - 52 := by omega
    simp only [c4, c2, c3, c5, hlast]
    have ha : (e - (e + (m.log2 : Int) - 52)).toNat = 52 - m.log2 := by omega
    have hb : (e + (m.log2 : Int) - 52 - e).toNat = 0 := by omega
    rw [ha, hb]
    have hk : m <<< (52 - m.log2) < 9007199254740992 := by
      rw [Nat.shiftLeft_eq]
      have : m * 2 ^ (52 - m.log2) < 2 ^ (m.log2 + 1) * 2 ^ (52 - m.log2) := Nat.mul_lt_mul_of_pos_right hlt (Nat.two_pow_pos _)
      rw [← Nat.pow_add, show m.log2 + 1 + (52 - m.log2) = 53 by omega] at this
      exact this
    generalize m <<< (52 - m.log2) = K at hk
    have hcut : Ieee.Toward.even.cut s K 0 = K := by
      unfold Ieee.Toward.cut
      simp [Nat.mod_one]
    rw [hcut]
    have hQ : (e + (m.log2 : Int) - 52 - -1074).toNat ≤ 1149 := by omega
    exact ⟨_, near_aux _ _ hQ hk, rfl⟩

/-- What is no NaN has a place among the doubles, and is no NaN there. -/
theorem conv64 {b : Nat} (h : nan32 b = false) : ∃ r, floatToFloatBits .f32 b .f64 = some r ∧ (Ieee.double.read r).isNaN = false := by
  unfold nan32 at h
  unfold floatToFloatBits
  rw [if_neg (by decide)]
  have e : FloatKind.f32.decode b = Ieee.single.read b := rfl
  rw [e]
  cases hr : Ieee.single.read b with
  | nan x y => rw [hr] at h; simp [Ieee.Datum.isNaN] at h
  | infinity s =>
    refine ⟨_, rfl, ?_⟩
    cases s <;> decide +kernel
  | number s m e =>
    obtain ⟨a1, a2, a3⟩ := read32_bound hr
    obtain ⟨r, b1, b2⟩ := nearest64 s a1 a2 a3
    have b3 : FloatKind.f64.encode (.number s m e) = Ieee.double.word s r := b2
    have b4 := read_word64 s r b1
    simp only [b3]
    rw [if_neg (by rw [show FloatKind.f64.decode (Ieee.double.word s r) = Ieee.double.read (Ieee.double.word s r) from rfl, b4.2]; simp)]
    exact ⟨_, rfl, b4.1⟩

/-- The bits of a double that the tape names. -/
def tape64 (q : Question) (w : World) : Nat := q.cut (w.tape w.drawn q)
theorem tape64_nan (b : Nat) (w : World) : (Ieee.double.read (tape64 (.nanConv .f64 b) w)).isNaN = true := by
  unfold tape64
  exact nan_cut64 _
theorem run_conv_nan {P : Program} (src dst : TypeId) (b : Nat) (hs : (P.underlying src).isSome = true) (hd : P.underlying dst = some (.float .f64)) (h : nan32 b = true) (w : World) :
    (convert src dst (.float .f32 b)).run P w = .ok (.float .f64 (tape64 (.nanConv .f64 b) w)) w.drew := by
  unfold nan32 at h
  obtain ⟨u, hs'⟩ := Option.isSome_iff_exists.1 hs
  have e : FloatKind.f32.decode b = Ieee.single.read b := rfl
  cases hr : Ieee.single.read b with
  | nan x y => cases u <;> simp [convert, run_underlying hs', run_underlying hd, Conv.floatToFloat, e, hr, Question.forced, tape64, Result.andThen]
  | infinity s => rw [hr] at h; simp [Ieee.Datum.isNaN] at h
  | number s m e => rw [hr] at h; simp [Ieee.Datum.isNaN] at h

theorem Try.und32 : Try.prog.underlying 53 = some (.float .f32) := Try.underlying53
theorem Try.und64 : Try.prog.underlying 57 = some (.float .f64) := Try.underlying57

theorem drew_ex {w W : World} (h : ∃ m, W = w.drewN m) : ∃ m, W.drew = w.drewN m := by obtain ⟨m, rfl⟩ := h; exact ⟨m + 1, rfl⟩
theorem drewN_ex {w W : World} (h : ∃ m, W = w.drewN m) (n : Nat) : ∃ m, W.drewN n = w.drewN m := by obtain ⟨m, rfl⟩ := h; exact ⟨m + n, World.drewN_drewN _ _ _⟩
end Go.Proofs.Ytfdaifmfecfchaa
