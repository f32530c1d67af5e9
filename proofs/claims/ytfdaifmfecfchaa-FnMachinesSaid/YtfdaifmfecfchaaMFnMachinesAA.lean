/-
  FnMachines: texts joined: Sup, McA, Base.
-/
import Derived.WalkKit
import Derived.WalkSpells
import Derived.WalkLawsBesides
import Derived.Deep.QuietTactic
import Derived.BigQuiet
import Derived.Lib.Hide
import Derived.Laws.AppendOwnNone
import Derived.Test.YtfdaifmfecfchaaChecked
namespace Go.Proofs.Ytfdaifmfecfchaa
open Go.RowKit

/-- The slice value v reads, in w, as the cells vs (elements of one cell each). -/
def Slc (w : World) (v : Value) (vs : List Value) : Prop :=
  (v = .slice none 0 0 ∧ vs = []) ∨
  ∃ ad cap, v = .slice (some ad) vs.length cap ∧ vs.length ≤ cap ∧ cap ≤ maxLen ∧ ∀ i u, vs[i]? = some u → w.cell? (ad.add i) = some u

theorem Slc.nil (w : World) : Slc w (.slice none 0 0) [] := .inl ⟨rfl, rfl⟩

theorem Slc.len {w : World} {v : Value} {vs : List Value} (h : Slc w v vs) : vs.length ≤ maxLen := by
  rcases h with ⟨_, rfl⟩ | ⟨_, _, _, h, h', _⟩
  · simp [maxLen]
  · omega

/-- The shape of the value. -/
theorem Slc.shape {w : World} {v : Value} {vs : List Value} (h : Slc w v vs) : ∃ a cap, v = .slice a vs.length cap := by
  rcases h with ⟨rfl, rfl⟩ | ⟨ad, cap, rfl, _⟩
  · exact ⟨none, 0, rfl⟩
  · exact ⟨some ad, cap, rfl⟩

/-- A cell of it. -/
theorem Slc.at {w : World} {a : Option Addr} {n cap : Nat} {vs : List Value} (h : Slc w (.slice a n cap) vs) {i : Nat} {u : Value} (hi : vs[i]? = some u) :
    ∃ b off, a = some ⟨b, off, none⟩ ∧ b < w.heap.size ∧ w.cell? ⟨b, off + i, none⟩ = some u := by
  rcases h with ⟨_, rfl⟩ | ⟨ad, cap', e, _, _, hc⟩
  · simp at hi
  · simp only [Value.slice.injEq] at e
    obtain ⟨rfl, rfl, rfl⟩ := e
    have h0 := hc i u hi
    obtain ⟨b, off, spot⟩ := ad
    have hs : spot = none := by
      have hlt : 0 < vs.length := by
        cases vs with
        | nil => simp at hi
        | cons x l => simp
      have hz := hc 0 _ (List.getElem?_eq_getElem hlt)
      simpa [Addr.add] using World.cell?_spot hz
    subst hs
    have h1 : w.cell? ⟨b, off + i, none⟩ = some u := by
      by_cases hz : i = 0
      · subst hz; simpa [Addr.add] using h0
      · simpa [Addr.add, hz] using h0
    refine ⟨b, off, rfl, ?_, h1⟩
    by_cases hb : b < w.heap.size
    · exact hb
    · exfalso
      have : w.heap[b]? = none := by simp; omega
      simp [World.cell?, this] at h1

theorem cell_lt {w : World} {a : Addr} {u : Value} (h : w.cell? a = some u) : a.block < w.heap.size := by
  by_cases hb : a.block < w.heap.size
  · exact hb
  · exfalso
    have : w.heap[a.block]? = none := by simp; omega
    simp [World.cell?, this] at h

theorem addr_add_block (a : Addr) (i : Nat) : (a.add i).block = a.block := by unfold Addr.add; split <;> rfl

/-- It reads on where no block of the old memory has turned. -/
theorem Slc.below {w w' : World} {B : Nat} {v : Value} {vs : List Value} (h : Slc w v vs) (hb : Below B w w') (hB : w.heap.size ≤ B) : Slc w' v vs := by
  rcases h with h | ⟨ad, cap, e, h1, h2, hc⟩
  · exact .inl h
  · refine .inr ⟨ad, cap, e, h1, h2, fun i u hi => ?_⟩
    have h0 := hc i u hi
    rw [hb.cell (by have := cell_lt h0; omega)]
    exact h0

theorem Slc.drewN {w : World} {v : Value} {vs : List Value} (h : Slc w v vs) (n : Nat) : Slc (w.drewN n) v vs := h

/-- What is owned reads. -/
theorem slc_of_owns {w : World} {base : Nat} {e : TypeId} {v : Value} {n : Nat} {vs : List Value} (h : w.ownsRow base e 1 v n vs) : Slc w v vs := by
  obtain ⟨hl, h2⟩ := h
  simp at hl
  rcases h2 with ⟨rfl, rfl⟩ | ⟨g, cap, cur, rfl, hb, hg, hn, hm, hs, ht⟩
  · left; exact ⟨rfl, List.length_eq_zero_iff.1 hl⟩
  · right
    refine ⟨⟨g, 0, none⟩, cap, by rw [hl], by omega, hm, fun i u hi => ?_⟩
    have hi' : i < vs.length := (List.getElem?_eq_some_iff.1 hi).1
    have : w.cell? ⟨g, i, none⟩ = some u := by
      rw [cell_of_row w g i cur e (0, 0) hg]
      rw [← ht] at hi
      simp [List.getElem?_take] at hi
      exact hi.2
    unfold Addr.add
    split
    · next hz => subst hz; exact this
    · simpa using this

/-- Append to what the call owns, the source any slice that reads. -/
theorem wpList_append_slc {P : Program} {w : World} {ops : Array Oper} {rest : List Oper} {o : Oper} {a : Act} {Q : Exit → Act → World → Prop} (hgd : o.guard = none) (s x : Operand) (t : TypeId)
    (ho : o.op = .call { callee := .builtin .append, args := #[s, x], argTypes := #[t, t] })
    (base : Nat) (e : TypeId) (i : TypeInfo) (z : Value) (bytes : Nat) (ht : P.underlying t = some (.slice e)) (hi : P.info? e = some i) (hz : i.zero = some z)
    (hsize : i.size = 1) (hby : i.bytes = bytes) (hzs : z.cells.size = 1)
    (v : Value) (n : Nat) (xs : List Value) (hs : a.eval s = v) (hown : w.ownsRow base e 1 v n xs)
    (sv : Value) (news : List Value) (hx : a.eval x = sv) (hsv : Slc w sv news) (h1 : ∀ u ∈ news, u.oneCell' = true)
    (h63 : n + news.length ≤ maxLen) (hbytes : (n + news.length) * bytes ≤ 140737488355328) (hbase : base ≤ w.heap.size)
    (h : ∀ v' w', w'.ownsRow base e 1 v' (n + news.length) (xs ++ news) → w.grownBy w' v.ownBlock → (v' = .slice none 0 0 ↔ v = .slice none 0 0 ∧ news = []) → wpList P ops Q rest (a.put o.dst v') w') :
    wpList P ops Q (o :: rest) a w := by
  rcases hsv with ⟨rfl, rfl⟩ | ⟨ad, cap, rfl, hcl, hcm, hc⟩
  · refine wpList_append_own_none hgd s x t ho base e i 1 ht hi v n xs hs hown hx ?_
    exact h v w (by simpa using hown) (World.grownBy.refl _ _) (by simp)
  · refine wpList_append_own w hgd s x t ho base e i z 1 bytes ht hi hz hsize hby hzs (by decide) v n xs hs hown ad news.length cap news hx (by simp) hc h1 h63 hbytes hbase ?_
    intro v' w' h2 h3 h4
    exact h v' w' h2 h3 (by rw [h4]; simp)

/-- What is owned and is not nil begins at the head of a block. -/
theorem owns_some {w : World} {base : Nat} {e : TypeId} {v : Value} {n : Nat} {vs : List Value} (h : w.ownsRow base e 1 v n vs) (hn : v ≠ .slice none 0 0) :
    ∃ g cap, v = .slice (some ⟨g, 0, none⟩) n cap ∧ base ≤ g ∧ g < w.heap.size := by
  rcases h.2 with ⟨rfl, _⟩ | ⟨g, cap, cur, rfl, hb, hg, _⟩
  · exact absurd rfl hn
  · exact ⟨g, cap, rfl, hb, lt_of_block hg⟩

theorem owns_len {w : World} {base : Nat} {e : TypeId} {v : Value} {n : Nat} {vs : List Value} (h : w.ownsRow base e 1 v n vs) : vs.length = n := by simpa using h.1

/-- Blocks that are there stay owned. -/
theorem owns_below {w w' : World} {base B : Nat} {e : TypeId} {v : Value} {n : Nat} {vs : List Value} (h : w.ownsRow base e 1 v n vs) (hb : Below B w w') (hB : w.heap.size ≤ B) : w'.ownsRow base e 1 v n vs := by
  refine ⟨h.1, ?_⟩
  rcases h.2 with h2 | ⟨g, cap, cur, hv, h3, hg, r⟩
  · exact .inl h2
  · exact .inr ⟨g, cap, cur, hv, h3, by rw [hb.block g (by have := lt_of_block hg; omega)]; exact hg, r⟩

theorem owns_base {w : World} {base base' : Nat} {e : TypeId} {v : Value} {n : Nat} {vs : List Value} (h : w.ownsRow base e 1 v n vs) (hb : base' ≤ base) : w.ownsRow base' e 1 v n vs := by
  refine ⟨h.1, ?_⟩
  rcases h.2 with h2 | ⟨g, cap, cur, hv, h3, hg, r⟩
  · exact .inl h2
  · exact .inr ⟨g, cap, cur, hv, by omega, hg, r⟩

theorem owns_lt {w : World} {base : Nat} {e : TypeId} {v : Value} {n : Nat} {vs : List Value} (h : w.ownsRow base e 1 v n vs) {k : Nat} (hk : v.ownBlock = some k) : base ≤ k ∧ k < w.heap.size := h.lt k hk

/-- What was there is as it was, but for the blocks in S. -/
structure Kept (S : Nat → Prop) (w w' : World) : Prop where
  os : w'.os = w.os
  tape : w'.tape = w.tape
  output : w'.output = w.output
  size : w.heap.size ≤ w'.heap.size
  block : ∀ k, k < w.heap.size → ¬ S k → w'.heap[k]? = w.heap[k]?

namespace Kept
variable {S S' : Nat → Prop} {a w w' : World}
theorem refl (S : Nat → Prop) (w : World) : Kept S w w := ⟨rfl, rfl, rfl, Nat.le_refl _, fun _ _ _ => rfl⟩
/-- One step more, which may turn the blocks in S' alone. -/
theorem step (h : Kept S a w) (k : Kept S' w w') (hs : ∀ i, i < a.heap.size → S' i → S i) : Kept S a w' :=
  ⟨k.os.trans h.os, k.tape.trans h.tape, k.output.trans h.output, Nat.le_trans h.size k.size,
    fun i hi hn => (k.block i (Nat.lt_of_lt_of_le hi h.size) (fun e => hn (hs i hi e))).trans (h.block i hi hn)⟩
theorem trans (h : Kept S a w) (k : Kept S w w') : Kept S a w' := h.step k fun _ _ x => x
theorem mono (h : Kept S a w) (hs : ∀ i, i < a.heap.size → S i → S' i) : Kept S' a w := ⟨h.os, h.tape, h.output, h.size, fun i hi hn => h.block i hi fun x => hn (hs i hi x)⟩
theorem of_below {B : Nat} (h : Below B w w') (hB : w.heap.size ≤ B) : Kept S w w' := ⟨h.os, h.tape, h.output, h.size, fun k hk _ => h.block k (by omega)⟩
theorem below {B : Nat} (h : Kept S a w) (k : Below B w w') (hB : a.heap.size ≤ B) : Kept S a w' :=
  ⟨k.os.trans h.os, k.tape.trans h.tape, k.output.trans h.output, Nat.le_trans h.size k.size, fun i hi hn => (k.block i (by omega)).trans (h.block i hi hn)⟩
theorem toBelow {B : Nat} (h : Kept S w w') (hB : B ≤ w.heap.size) (hs : ∀ k, k < B → ¬ S k) : Below B w w' := ⟨h.os, h.tape, h.output, h.size, fun k hk => h.block k (by omega) (hs k hk)⟩
theorem drew (h : Kept S a w) : Kept S a w.drew := ⟨h.os, h.tape, h.output, h.size, h.block⟩
theorem drewN (h : Kept S a w) (n : Nat) : Kept S a (w.drewN n) := ⟨h.os, h.tape, h.output, h.size, h.block⟩
theorem alloc (h : Kept S a w) (o : Obj) : Kept S a (w.alloc o) := h.step (S' := fun _ => False) ⟨rfl, rfl, rfl, by simp, fun k hk _ => Below.heap_alloc _ _ _ hk⟩ fun _ _ x => x.elim
theorem setCell (h : Kept S a w) {p : Addr} (hp : a.heap.size ≤ p.block ∨ S p.block) (u : Value) : Kept S a (w.setCell p u) :=
  h.step (S' := fun k => k = p.block) ⟨rfl, rfl, rfl, by simp [World.setCell], fun k _ hk => Below.heap_setCell _ _ _ _ hk⟩ fun i hi e => by
    subst e
    rcases hp with hp | hp
    · omega
    · exact hp
theorem grown {row : Option Nat} (h : Kept S a w) (hg : w.grownBy w' row) (hr : ∀ k, row = some k → a.heap.size ≤ k ∨ S k) : Kept S a w' :=
  h.step (S' := fun k => row = some k) ⟨hg.os, hg.tape, hg.output, hg.size, fun k hk hn => hg.block k hk fun e => hn e.symm⟩ fun i hi e => by
    rcases hr i e with hp | hp
    · omega
    · exact hp
theorem cell (h : Kept S w w') {p : Addr} (hp : p.block < w.heap.size) (hs : ¬ S p.block) : w'.cell? p = w.cell? p := World.cell?_of_block (w := w) (h.block p.block hp hs)
end Kept

theorem Slc.kept {S : Nat → Prop} {w w' : World} {a : Option Addr} {n cap : Nat} {vs : List Value} (h : Slc w (.slice a n cap) vs) (hk : Kept S w w')
    (hs : ∀ ad u, u ∈ vs → w.cell? ad = some u → ¬ S ad.block) : Slc w' (.slice a n cap) vs := by
  rcases h with h | ⟨ad, cap', e, h1, h2, hc⟩
  · exact .inl h
  · refine .inr ⟨ad, cap', e, h1, h2, fun i u hi => ?_⟩
    have h0 := hc i u hi
    rw [hk.cell (cell_lt h0) (hs _ u (List.mem_of_getElem? hi) h0)]
    exact h0

theorem owns_kept {S : Nat → Prop} {w w' : World} {base : Nat} {e : TypeId} {v : Value} {n : Nat} {vs : List Value} (h : w.ownsRow base e 1 v n vs) (hk : Kept S w w') (hs : ∀ g, v.ownBlock = some g → ¬ S g) : w'.ownsRow base e 1 v n vs := by
  refine ⟨h.1, ?_⟩
  rcases h.2 with h2 | ⟨g, cap, cur, hv, h3, hg, r⟩
  · exact .inl h2
  · exact .inr ⟨g, cap, cur, hv, h3, by rw [hk.block g (lt_of_block hg) (hs g (by rw [hv]; rfl))]; exact hg, r⟩

/-- A block of one cell: a variable that lies in memory. -/
def Box (w : World) (b : Nat) (t : TypeId) (v : Value) : Prop := w.heap[b]? = some (.cells #[v] t (0, 0))

theorem Box.cell {w : World} {b : Nat} {t : TypeId} {v : Value} (h : Box w b t v) : w.cell? ⟨b, 0, none⟩ = some v := cell_of_one h
theorem Box.free {w : World} {b : Nat} {t : TypeId} {v : Value} (h : Box w b t v) : w.frozen? ⟨b, 0, none⟩ = false := free_of_one h
theorem Box.lt {w : World} {b : Nat} {t : TypeId} {v : Value} (h : Box w b t v) : b < w.heap.size := lt_of_block h
theorem Box.set {w : World} {b : Nat} {t : TypeId} {v : Value} (h : Box w b t v) (u : Value) : Box (w.setCell ⟨b, 0, none⟩ u) b t u := one_setCell h
theorem Box.kept {S : Nat → Prop} {w w' : World} {b : Nat} {t : TypeId} {v : Value} (h : Box w b t v) (hk : Kept S w w') (hs : ¬ S b) : Box w' b t v := (hk.block b h.lt hs).trans h
theorem Box.new (w : World) (t : TypeId) (v : Value) : Box (w.alloc (.cells #[v] t)) w.heap.size t v := heap_alloc_new w _
theorem Box.cell_eq {w : World} {b : Nat} {t : TypeId} {u v : Value} {a : Addr} (h : Box w b t v) (ha : a.block = b) (hc : w.cell? a = some u) : u = v := by
  subst ha
  unfold Box at h
  simp only [World.cell?, h] at hc
  split at hc
  · simp at hc
  · match ho : a.off with
    | 0 => rw [ho] at hc; simp at hc; exact hc.symm
    | k + 1 => rw [ho] at hc; simp at hc
theorem Box.not_owned {w : World} {b : Nat} {t e : TypeId} {v u : Value} {base n size : Nat} {vs : List Value} (h : Box w b t v) (ho : w.ownsRow base e size u n vs) (hte : t ≠ e) : u.ownBlock ≠ some b := by
  intro hb
  rcases ho.2 with ⟨rfl, _⟩ | ⟨g, cap, cur, rfl, _, hg, _⟩
  · simp [Value.ownBlock] at hb
  · simp [Value.ownBlock] at hb
    subst hb
    unfold Box at h
    rw [hg] at h
    simp at h
    exact hte h.2.symm

theorem Box.below {w w' : World} {b B : Nat} {t : TypeId} {v : Value} (h : Box w b t v) (hb : Below B w w') (hB : b < B) : Box w' b t v := (hb.block b hB).trans h

/-- An append to what is owned from base on leaves all below base as it was. -/
theorem below_grown {w w' : World} {base : Nat} {e : TypeId} {v : Value} {n : Nat} {vs : List Value} (h : w.ownsRow base e 1 v n vs) (hbase : base ≤ w.heap.size) (hg : w.grownBy w' v.ownBlock) : Below base w w' :=
  (Below.refl base w).grown hg hbase fun k hk => (owns_lt h hk).1

theorem owns_shape {w : World} {base : Nat} {e : TypeId} {v : Value} {n : Nat} {vs : List Value} (h : w.ownsRow base e 1 v n vs) : ∃ a cap, v = .slice a n cap := by
  rcases h.2 with ⟨rfl, rfl⟩ | ⟨g, cap, cur, rfl, _⟩
  · exact ⟨_, _, rfl⟩
  · exact ⟨_, _, rfl⟩

/-- A function with a body is entered. -/
theorem enters_of {P : Program} {f : FuncId} {fn : Func} {c : Code} (hf : P.funcs[f]? = some fn) (hname : (fn.name == "runtime.NumGoroutine") = false) (hb : fn.body = some c) (args : Array Value) (w : World) :
    (callFunc f args).run P w = .ok (.enter f args) w := by
  have h1 : fn.name ≠ "runtime.NumGoroutine" := by simpa using hname
  simp [callFunc, hf, h1, hb]

/-- A block of cells that nobody has frozen: a struct that lies in memory. -/
def Blk (w : World) (b : Nat) (t : TypeId) (cs : Array Value) : Prop := w.heap[b]? = some (.cells cs t (0, 0))

theorem Blk.cell {w : World} {b : Nat} {t : TypeId} {cs : Array Value} (h : Blk w b t cs) (j : Nat) {u : Value} (hj : cs[j]? = some u) : w.cell? ⟨b, j, none⟩ = some u := by
  unfold Blk at h; simp [World.cell?, h, hj]
theorem Blk.free {w : World} {b : Nat} {t : TypeId} {cs : Array Value} (h : Blk w b t cs) (j : Nat) : w.frozen? ⟨b, j, none⟩ = false := by
  unfold Blk at h; simp [World.frozen?, h]
theorem Blk.lt {w : World} {b : Nat} {t : TypeId} {cs : Array Value} (h : Blk w b t cs) : b < w.heap.size := lt_of_block h
theorem Blk.new (w : World) (t : TypeId) (cs : Array Value) : Blk (w.alloc (.cells cs t)) w.heap.size t cs := heap_alloc_new w _
theorem Blk.below {w w' : World} {b B : Nat} {t : TypeId} {cs : Array Value} (h : Blk w b t cs) (hb : Below B w w') (hB : b < B) : Blk w' b t cs := (hb.block b hB).trans h
theorem Blk.alloc {w : World} {b : Nat} {t : TypeId} {cs : Array Value} (h : Blk w b t cs) (o : Obj) : Blk (w.alloc o) b t cs := (Below.heap_alloc _ _ _ h.lt).trans h
theorem Blk.kept {S : Nat → Prop} {w w' : World} {b : Nat} {t : TypeId} {cs : Array Value} (h : Blk w b t cs) (hk : Kept S w w') (hs : ¬ S b) : Blk w' b t cs := (hk.block b h.lt hs).trans h
theorem Blk.set {w : World} {b : Nat} {t : TypeId} {cs : Array Value} (h : Blk w b t cs) (j : Nat) (u : Value) : Blk (w.setCell ⟨b, j, none⟩ u) b t (cs.setIfInBounds j u) := heap_setCell_same w b j cs t u h
theorem Blk.other {w : World} {b : Nat} {t : TypeId} {cs : Array Value} (h : Blk w b t cs) {a : Addr} (ha : b ≠ a.block) (u : Value) : Blk (w.setCell a u) b t cs := (Below.heap_setCell _ _ _ _ ha).trans h
theorem Blk.not_owned {w : World} {b : Nat} {t e : TypeId} {cs : Array Value} {u : Value} {base n size : Nat} {vs : List Value} (h : Blk w b t cs) (ho : w.ownsRow base e size u n vs) (hte : t ≠ e) : u.ownBlock ≠ some b := by
  intro hb
  rcases ho.2 with ⟨rfl, _⟩ | ⟨g, cap, cur, rfl, _, hg, _⟩
  · simp [Value.ownBlock] at hb
  · simp [Value.ownBlock] at hb
    subst hb
    unfold Blk at h
    rw [hg] at h
    simp at h
    exact hte h.2.symm

/-- What is owned is not turned by a store elsewhere. -/
theorem owns_other {w : World} {base : Nat} {e : TypeId} {v : Value} {n : Nat} {vs : List Value} (h : w.ownsRow base e 1 v n vs) {a : Addr} (ha : v.ownBlock ≠ some a.block) (u : Value) : (w.setCell a u).ownsRow base e 1 v n vs :=
  ownsRow_setCell_other h ha u

theorem Slc.other {w : World} {a : Option Addr} {n cap : Nat} {vs : List Value} (h : Slc w (.slice a n cap) vs) {p : Addr} (hp : ∀ ad, a = some ad → vs ≠ [] → ad.block ≠ p.block) (u : Value) : Slc (w.setCell p u) (.slice a n cap) vs := by
  rcases h with h | ⟨ad, cap', e, h1, h2, hc⟩
  · exact .inl h
  · refine .inr ⟨ad, cap', e, h1, h2, fun i v hi => ?_⟩
    have h0 := hc i v hi
    simp only [Value.slice.injEq] at e
    have hne := hp ad e.1 (by rintro rfl; simp at hi)
    rw [World.cell?_of_block (w := w) (Below.heap_setCell _ _ _ _ (by rw [addr_add_block]; exact hne))]
    exact h0

/-- A name for the world in which a call is made. -/
theorem Calls.at {P : Program} {f : FuncId} {args : Array Value} {w : World} {R : Ending → World → Prop} (h : ∀ W, W = w → Calls P f args W R) : Calls P f args w R := h w rfl

theorem held_of {w w' : World} {B : Nat} (hb : Below B w w') {a : Addr} {u : Value} (h : w.cell? a = some u) (hB : w.heap.size ≤ B) : w'.cell? a = some u := (hb.cell (by have := cell_lt h; omega)).trans h

/-- A name for the world at the head of a piece of code. -/
theorem wp_at {P : Program} {c : Code} {Q : Exit → Act → World → Prop} {a : Act} {w : World} (h : ∀ W, W = w → c.wp P Q a W) : c.wp P Q a w := h w rfl

theorem quiet_same {P : Program} {f : FuncId} {args : Array Value} {w : World} {n : Nat} {v : Value} (h : Calls P f args (w.drewN n) fun e w' => e = .returned v ∧ w.drewN n = w') :
    Calls P f args (w.drewN n) fun e w'' => e = .returned v ∧ ∃ m, w'' = w.drewN m := h.mono fun _ _ ⟨he, hm⟩ => ⟨he, n, hm.symm⟩

end Go.Proofs.Ytfdaifmfecfchaa

namespace Go.Proofs.Ytfdaifmfecfchaa
open Go.RowKit

/-- The first n values of a function, summed. -/
def sR (f : Nat → Int) : Nat → Int
  | 0 => 0
  | n + 1 => sR f n + f n
theorem sR_add (f g : Nat → Int) : ∀ n, sR (fun k => f k + g k) n = sR f n + sR g n
  | 0 => rfl
  | n + 1 => by simp only [sR, sR_add f g n]; omega
theorem sR_zero : ∀ n, sR (fun _ => 0) n = 0
  | 0 => rfl
  | n + 1 => by simp only [sR, sR_zero n]; rfl
theorem sR_congr {f g : Nat → Int} : ∀ {n}, (∀ k, k < n → f k = g k) → sR f n = sR g n
  | 0, _ => rfl
  | n + 1, h => by simp only [sR, h n (by omega), sR_congr (n := n) (fun k hk => h k (by omega))]
theorem sR_le {f g : Nat → Int} : ∀ {n}, (∀ k, k < n → f k ≤ g k) → sR f n ≤ sR g n
  | 0, _ => Int.le_refl _
  | n + 1, h => by
    have := h n (by omega)
    have := sR_le (n := n) (fun k hk => h k (by omega))
    simp only [sR]
    omega
theorem sR_const (c : Int) : ∀ n : Nat, sR (fun _ => c) n = n * c
  | 0 => by simp [sR]
  | n + 1 => by simp only [sR, sR_const c n]; push_cast; rw [Int.add_mul]; omega
theorem sR_nonneg {f : Nat → Int} {n : Nat} (h : ∀ k, k < n → 0 ≤ f k) : 0 ≤ sR f n := by
  have := sR_le (f := fun _ => 0) h
  rw [sR_zero] at this
  exact this
/-- A part of a sum of what is not below 0. -/
theorem sR_one {f : Nat → Int} : ∀ {n}, (∀ k, k < n → 0 ≤ f k) → ∀ k, k < n → f k ≤ sR f n
  | 0, _, k, hk => by omega
  | n + 1, h, k, hk => by
    simp only [sR]
    by_cases e : k = n
    · have := sR_nonneg (f := f) (n := n) (fun i hi => h i (by omega))
      rw [e]; omega
    · have := sR_one (n := n) (fun i hi => h i (by omega)) k (by omega)
      have := h n (by omega)
      omega
theorem sR_two {f : Nat → Int} : ∀ {n}, (∀ k, k < n → 0 ≤ f k) → ∀ j k, j < k → k < n → f j + f k ≤ sR f n
  | 0, _, j, k, _, hk => by omega
  | n + 1, h, j, k, hj, hk => by
    simp only [sR]
    by_cases e : k = n
    · have := sR_one (f := f) (n := n) (fun i hi => h i (by omega)) j (by omega)
      rw [e]; omega
    · have := sR_two (n := n) (fun i hi => h i (by omega)) j k hj (by omega)
      have := h n (by omega)
      omega
theorem sR_mono {f : Nat → Int} {n m : Nat} (h : ∀ k, 0 ≤ f k) : n ≤ m → sR f n ≤ sR f m := by
  intro hm
  induction m with
  | zero => have : n = 0 := by omega
            rw [this]; exact Int.le_refl _
  | succ m ih =>
    by_cases e : n = m + 1
    · rw [e]; exact Int.le_refl _
    · have := ih (by omega)
      have := h m
      simp only [sR]
      omega
/-- One value alone. -/
theorem sR_pick (c : Int) (b : Nat) : ∀ m, sR (fun i => if b = i then c else 0) m = if b < m then c else 0
  | 0 => by simp [sR]
  | m + 1 => by
    simp only [sR, sR_pick c b m]
    by_cases h : b < m
    · rw [if_pos h, if_neg (show ¬ b = m by omega), if_pos (show b < m + 1 by omega)]; omega
    · rw [if_neg h]
      by_cases e : b = m
      · rw [if_pos e, if_pos (show b < m + 1 by omega)]; omega
      · rw [if_neg e, if_neg (show ¬ b < m + 1 by omega)]; rfl
/-- A sum, machine by machine. -/
theorem sR_by {g : Nat → Int} {B : Nat → Nat} {m : Nat} : ∀ {n}, (∀ k, k < n → B k < m) → sR (fun i => sR (fun k => if B k = i then g k else 0) n) m = sR g n
  | 0, _ => by simp only [sR]; exact sR_zero m
  | n + 1, h => by
    simp only [sR]
    rw [sR_add, sR_by (n := n) (fun k hk => h k (by omega)), sR_pick, if_pos (h n (by omega))]

/-! ### a plan that keeps within an end -/
/-- The jobs with these lengths are put on m machines, each of which ends at T at the latest. -/
structure Within (e : Nat → Int) (n m : Nat) (B : Nat → Nat) (T : Int) : Prop where
  lt : ∀ k, k < n → B k < m
  le : ∀ i, i < m → sR (fun k => if B k = i then e k else 0) n ≤ T
theorem ite_nonneg {p : Prop} [Decidable p] {x : Int} (h : 0 ≤ x) : 0 ≤ (if p then x else 0) := by split <;> omega
theorem Within.sum {e : Nat → Int} {n m : Nat} {B : Nat → Nat} {T : Int} (h : Within e n m B T) : sR e n ≤ m * T := by
  rw [← sR_by h.lt, ← sR_const]
  exact sR_le h.le
theorem Within.one {e : Nat → Int} {n m : Nat} {B : Nat → Nat} {T : Int} (h : Within e n m B T) (he : ∀ k, 0 ≤ e k) {k : Nat} (hk : k < n) : e k ≤ T := by
  have := sR_one (f := fun j => if B j = B k then e j else 0) (n := n) (fun j _ => ite_nonneg (he j)) k hk
  have := h.le _ (h.lt k hk)
  simp only [if_true] at *
  omega
theorem Within.two {e : Nat → Int} {n m : Nat} {B : Nat → Nat} {T : Int} (h : Within e n m B T) (he : ∀ k, 0 ≤ e k) {j k : Nat} (hj : j < k) (hk : k < n) (hb : B j = B k) : e j + e k ≤ T := by
  have := sR_two (f := fun i => if B i = B k then e i else 0) (n := n) (fun i _ => ite_nonneg (he i)) j k hj hk
  have := h.le _ (h.lt k hk)
  simp only [if_true, if_pos hb] at *
  omega
theorem Within.part {e : Nat → Int} {n m : Nat} {B : Nat → Nat} {T : Int} (h : Within e n m B T) (he : ∀ k, 0 ≤ e k) {k : Nat} (hk : k ≤ n) : Within e k m B T :=
  ⟨fun j hj => h.lt j (by omega), fun i hi => Int.le_trans (sR_mono (fun _ => ite_nonneg (he _)) hk) (h.le i hi)⟩

/-! ### the list's plan -/
/-- Job by job, each goes to a machine that is used least. -/
structure Lsch (e : Nat → Int) (n m : Nat) (ld : Nat → Nat → Int) (q : Nat → Nat) : Prop where
  zero : ∀ i, i < m → ld 0 i = 0
  step : ∀ k i, k < n → i < m → ld (k + 1) i = ld k i + if q k = i then e k else 0
  lt : ∀ k, k < n → q k < m
  min : ∀ k i, k < n → i < m → ld k (q k) ≤ ld k i
theorem Lsch.is {e : Nat → Int} {n m : Nat} {ld : Nat → Nat → Int} {q : Nat → Nat} (h : Lsch e n m ld q) : ∀ k i, k ≤ n → i < m → ld k i = sR (fun j => if q j = i then e j else 0) k
  | 0, i, _, hi => by rw [h.zero i hi]; rfl
  | k + 1, i, hk, hi => by rw [h.step k i (by omega) hi, h.is k i (by omega) hi]; rfl
theorem Lsch.low {e : Nat → Int} {n m : Nat} {ld : Nat → Nat → Int} {q : Nat → Nat} (h : Lsch e n m ld q) (k : Nat) (hk : k < n) : m * ld k (q k) ≤ sR e k := by
  rw [← sR_by (g := e) (B := q) (m := m) (n := k) (fun j hj => h.lt j (by omega)), ← sR_const]
  refine sR_le fun i hi => ?_
  rw [← h.is k i (by omega) hi]
  exact h.min k i hk hi
/-- Each machine is idle all the time, or its end is that of some job, which was put where it could begin first. -/
theorem Lsch.last {e : Nat → Int} {n m : Nat} {ld : Nat → Nat → Int} {q : Nat → Nat} (h : Lsch e n m ld q) : ∀ k i, k ≤ n → i < m → ld k i = 0 ∨ ∃ j, j < k ∧ ld k i = ld j (q j) + e j
  | 0, i, _, hi => .inl (h.zero i hi)
  | k + 1, i, hk, hi => by
    rw [h.step k i (by omega) hi]
    by_cases e1 : q k = i
    · rw [if_pos e1]
      exact .inr ⟨k, by omega, by rw [e1]⟩
    · rw [if_neg e1, Int.add_zero]
      rcases h.last k i (by omega) hi with h0 | ⟨j, hj, hj2⟩
      · exact .inl h0
      · exact .inr ⟨j, by omega, hj2⟩
theorem sR_upto {e : Nat → Int} (he : ∀ k, 0 ≤ e k) {j n : Nat} (hj : j < n) : sR e j + e j ≤ sR e n := sR_mono (n := j + 1) (m := n) he hj
theorem mulm1 (m : Nat) (hm : 1 ≤ m) (x : Int) : ((m : Int) - 1) * x = m * x - x := by rw [Int.sub_mul, Int.one_mul]
/-- Lists are at most 2 - 1/m times as long as the best. -/
theorem Lsch.graham {e : Nat → Int} {n m : Nat} {ld : Nat → Nat → Int} {q B : Nat → Nat} {T : Int} (h : Lsch e n m ld q) (he : ∀ k, 0 ≤ e k) (hm : 1 ≤ m) (hT : 0 ≤ T) (hB : Within e n m B T) (i : Nat) (hi : i < m) : ld n i * m ≤ (2 * m - 1) * T := by
  have hmT : 0 ≤ ((m : Int) - 1) * T := Int.mul_nonneg (by omega) hT
  have h2 : (2 * (m : Int) - 1) * T = m * T + (m * T - T) := by
    rw [Int.sub_mul, Int.one_mul, Int.mul_assoc]
    omega
  rw [mulm1 m hm] at hmT
  rcases h.last n i (Nat.le_refl _) hi with h0 | ⟨j, hj, h0⟩
  · rw [h0, h2, Int.zero_mul]
    have : 0 ≤ (m : Int) * T := Int.mul_nonneg (by omega) hT
    omega
  · have h3 := h.low j hj
    have h4 := sR_upto he hj
    have h5 := hB.sum
    have h6 := hB.one he hj
    have h7 : ((m : Int) - 1) * e j ≤ ((m : Int) - 1) * T := Int.mul_le_mul_of_nonneg_left h6 (by omega)
    rw [mulm1 m hm, mulm1 m hm] at h7
    rw [h0, h2, Int.add_mul, Int.mul_comm (ld j (q j)), Int.mul_comm (e j)]
    omega

/-! ### the longest first -/
theorem nodup_sub8 : ∀ {a b : List Nat}, a.Nodup → (∀ x ∈ a, x ∈ b) → a.length ≤ b.length
  | [], _, _, _ => Nat.zero_le _
  | x :: a, b, hn, hs => by
    have hx := hs x (List.mem_cons_self ..)
    have h1 := List.nodup_cons.1 hn
    have := nodup_sub8 (a := a) (b := b.erase x) h1.2 (fun y hy => (List.mem_erase_of_ne (by rintro rfl; exact h1.1 hy)).2 (hs y (List.mem_cons_of_mem _ hy)))
    rw [List.length_erase_of_mem hx] at this
    have hp : 0 < b.length := List.length_pos_of_mem hx
    simp only [List.length_cons]
    omega
theorem pig_free (q : Nat → Nat) {k m : Nat} (h : k < m) : ∃ i, i < m ∧ ∀ t, t < k → q t ≠ i := by
  refine Classical.byContradiction fun hc => ?_
  have := nodup_sub8 (a := List.range m) (b := (List.range k).map q) List.nodup_range fun x hx => by
    refine Classical.byContradiction fun hx2 => hc ⟨x, List.mem_range.1 hx, fun t ht e => hx2 (List.mem_map.2 ⟨t, List.mem_range.2 ht, e⟩)⟩
  simp at this
  omega
theorem pig_apart (q : Nat → Nat) {c m k : Nat} (h : k - m < m - c) (hq : ∀ s t, s < t → t < m → q s ≠ q t) : ∃ t, c ≤ t ∧ t < m ∧ ∀ s, m ≤ s → s < k → q s ≠ q t := by
  refine Classical.byContradiction fun hc => ?_
  have hn : ((List.range' c (m - c)).map q).Nodup := by
    refine List.pairwise_map.2 ((List.pairwise_lt_range' (s := c) (n := m - c)).imp_of_mem fun {a b} ha hb hab => ?_)
    rw [List.mem_range'_1] at hb
    exact hq _ _ hab (by omega)
  have := nodup_sub8 (b := (List.range' m (k - m)).map q) hn fun x hx => by
    obtain ⟨t, ht, rfl⟩ := List.mem_map.1 hx
    rw [List.mem_range'_1] at ht
    refine Classical.byContradiction fun hx2 => hc ⟨t, ht.1, by omega, fun s h1 h2 e => hx2 (List.mem_map.2 ⟨s, ?_, e⟩)⟩
    rw [List.mem_range'_1]
    omega
  simp at this
  omega
theorem Lsch.nonneg {e : Nat → Int} {n m : Nat} {ld : Nat → Nat → Int} {q : Nat → Nat} (h : Lsch e n m ld q) (he : ∀ k, 0 ≤ e k) (k i : Nat) (hk : k ≤ n) (hi : i < m) : 0 ≤ ld k i := by
  rw [h.is k i hk hi]
  exact sR_nonneg fun j _ => ite_nonneg (he j)
theorem Lsch.early {e : Nat → Int} {n m : Nat} {ld : Nat → Nat → Int} {q : Nat → Nat} (h : Lsch e n m ld q) (he : ∀ k, k < n → 1 ≤ e k) (he0 : ∀ k, 0 ≤ e k) : ∀ k, k ≤ n → k ≤ m →
    (∀ t, t < k → ld k (q t) = e t) ∧ (∀ s t, s < t → t < k → q s ≠ q t) ∧ ∀ i, i < m → (∀ t, t < k → q t ≠ i) → ld k i = 0
  | 0, _, _ => ⟨fun t ht => by omega, fun s t _ ht => by omega, fun i hi _ => h.zero i hi⟩
  | k + 1, hk, hm => by
    obtain ⟨h1, h2, h3⟩ := h.early he he0 k (by omega) (by omega)
    have hq := h.lt k (by omega)
    obtain ⟨i0, hi0, hi1⟩ := pig_free q (k := k) (m := m) (by omega)
    have hz : ld k (q k) = 0 := by
      have := h.min k i0 (by omega) hi0
      have := h3 i0 hi0 hi1
      have := h.nonneg he0 k (q k) (by omega) hq
      omega
    have hne : ∀ t, t < k → q t ≠ q k := fun t ht e2 => by
      have := h1 t ht
      rw [e2, hz] at this
      have := he t (by omega)
      omega
    refine ⟨fun t ht => ?_, fun s t hs ht => ?_, fun i hi hti => ?_⟩
    · by_cases e2 : t = k
      · subst e2
        rw [h.step t _ (by omega) hq, if_pos rfl, hz]; omega
      · rw [h.step k _ (by omega) (h.lt t (by omega)), if_neg (fun e3 => hne t (by omega) e3.symm), h1 t (by omega)]; omega
    · by_cases e2 : t = k
      · subst e2; exact hne s hs
      · exact h2 s t hs (by omega)
    · rw [h.step k i (by omega) hi, if_neg (hti k (by omega)), h3 i hi (fun t ht => hti t (by omega))]; rfl
theorem Lsch.same {e : Nat → Int} {n m : Nat} {ld : Nat → Nat → Int} {q : Nat → Nat} (h : Lsch e n m ld q) (a i : Nat) (hi : i < m) : ∀ k, a ≤ k → k ≤ n → (∀ s, a ≤ s → s < k → q s ≠ i) → ld k i = ld a i
  | 0, ha, _, _ => by have : a = 0 := by omega
                      rw [this]
  | k + 1, ha, hk, hs => by
    by_cases e1 : a = k + 1
    · rw [e1]
    · rw [h.step k i (by omega) hi, if_neg (hs k (by omega) (by omega)), Int.add_zero]
      exact h.same a i hi k (by omega) (by omega) (fun s h1 h2 => hs s h1 (by omega))
/-- How many of the first jobs a machine has. -/
def cntB (B : Nat → Nat) (n i : Nat) : Int := sR (fun k => if B k = i then 1 else 0) n
theorem cntB_alone {B : Nat → Nat} {n j : Nat} (hj : j < n) (h : ∀ k, k < n → k ≠ j → B k ≠ B j) : cntB B n (B j) = 1 := by
  unfold cntB
  have : sR (fun k => if B k = B j then (1 : Int) else 0) n = sR (fun k => if j = k then 1 else 0) n := sR_congr fun k hk => by
    by_cases e : j = k
    · rw [if_pos e, e, if_pos rfl]
    · rw [if_neg e, if_neg (h k hk (fun e2 => e e2.symm))]
  rw [this, sR_pick, if_pos hj]
/-- With at most two jobs on each machine: one of the longest ones is not alone. -/
theorem not_alone {B : Nat → Nat} {n m c : Nat} (hB : ∀ k, k < n → B k < m) (h2 : ∀ i, i < m → cntB B n i ≤ 2) (hc : 2 * m < n + c + 1) (hcn : c < n) : ∃ j, j ≤ c ∧ ∃ k, k < n ∧ k ≠ j ∧ B k = B j := by
  refine Classical.byContradiction fun hno => ?_
  have hal : ∀ j, j ≤ c → cntB B n (B j) = 1 := fun j hj => cntB_alone (by omega) fun k hk hkj e => hno ⟨j, hj, k, hk, hkj, e⟩
  have e1 := sR_by (g := fun j => 1 + if cntB B n (B j) = 1 then 1 else 0) hB
  have e2 : sR (fun i => sR (fun k => if B k = i then 1 + (if cntB B n (B k) = 1 then 1 else 0) else 0) n) m ≤ m * 2 := by
    rw [← sR_const]
    refine sR_le fun i hi => ?_
    have e3 : sR (fun k => if B k = i then 1 + (if cntB B n (B k) = 1 then 1 else 0) else (0 : Int)) n = sR (fun k => (if B k = i then 1 else 0) + if B k = i then (if cntB B n i = 1 then 1 else 0) else 0) n := sR_congr fun k _ => by
      by_cases e : B k = i
      · rw [if_pos e, if_pos e, if_pos e, e]
      · rw [if_neg e, if_neg e, if_neg e]; rfl
    rw [e3, sR_add]
    have h2i := h2 i hi
    by_cases e4 : cntB B n i = 1
    · rw [if_pos e4]
      have : sR (fun k => if B k = i then (1 : Int) else 0) n = cntB B n i := rfl
      omega
    · rw [if_neg e4]
      have e5 : sR (fun k => if B k = i then (0 : Int) else 0) n = 0 := by
        refine (sR_congr (g := fun _ => 0) fun k _ => ?_).trans (sR_zero n)
        split <;> rfl
      have : sR (fun k => if B k = i then (1 : Int) else 0) n = cntB B n i := rfl
      omega
  rw [e1, sR_add, sR_const] at e2
  have e6 : ((c + 1 : Nat) : Int) ≤ sR (fun j => if cntB B n (B j) = 1 then 1 else 0) n := by
    have a1 : sR (fun j => if cntB B n (B j) = 1 then (1 : Int) else 0) (c + 1) = sR (fun _ => 1) (c + 1) := sR_congr fun k hk => by rw [if_pos (hal k (by omega))]
    have a2 := sR_mono (f := fun j => if cntB B n (B j) = 1 then (1 : Int) else 0) (n := c + 1) (m := n) (fun _ => ite_nonneg (by omega)) (by omega)
    rw [a1, sR_const] at a2
    omega
  omega
theorem Lsch.two {e : Nat → Int} {n m : Nat} {ld : Nat → Nat → Int} {q B : Nat → Nat} {T : Int} (h : Lsch e n m ld q) (he : ∀ k, k < n → 1 ≤ e k) (he0 : ∀ k, 0 ≤ e k) (hs : ∀ j k, j ≤ k → k < n → e k ≤ e j) (hB : Within e n m B T)
    (k : Nat) (hk : k < n) (h3 : T < 3 * e k) : ld k (q k) + e k ≤ T := by
  have hq := h.lt k hk
  by_cases hkm : k < m
  · obtain ⟨_, _, h4⟩ := h.early he he0 k (by omega) (by omega)
    obtain ⟨i0, hi0, hi1⟩ := pig_free q (k := k) (m := m) hkm
    have := h.min k i0 hk hi0
    have := h4 i0 hi0 hi1
    have := hB.one he0 hk
    omega
  · have hP := hB.part he0 (k := k + 1) (by omega)
    have h2 : ∀ i, i < m → cntB B (k + 1) i ≤ 2 := fun i hi => by
      have a1 := hP.le i hi
      have a2 : cntB B (k + 1) i * e k ≤ sR (fun j => if B j = i then e j else 0) (k + 1) := by
        have : ∀ n', n' ≤ k + 1 → cntB B n' i * e k ≤ sR (fun j => if B j = i then e j else 0) n' := fun n' => by
          induction n' with
          | zero => intro _; simp [cntB, sR]
          | succ n' ih =>
            intro hn'
            have ih := ih (by omega)
            have hh := hs n' k (by omega) hk
            show (cntB B n' i + if B n' = i then 1 else 0) * e k ≤ sR (fun j => if B j = i then e j else 0) n' + if B n' = i then e n' else 0
            split
            · rw [Int.add_mul]; omega
            · rw [Int.add_zero]; omega
        exact this _ (Nat.le_refl _)
      refine Classical.byContradiction fun hc => ?_
      have a3 : 3 * e k ≤ cntB B (k + 1) i * e k := Int.mul_le_mul_of_nonneg_right (by omega) (he0 k)
      omega
    have hn2 : k + 1 ≤ 2 * m := by
      refine Classical.byContradiction fun hc => ?_
      have a1 := sR_by (g := fun _ => (1 : Int)) hP.lt
      rw [sR_const] at a1
      have a2 : sR (fun i => sR (fun k => if B k = i then (1 : Int) else 0) (k + 1)) m ≤ sR (fun _ => 2) m := sR_le fun i hi => h2 i hi
      rw [sR_const, a1] at a2
      omega
    obtain ⟨c, hc⟩ : ∃ c, c = 2 * m - (k + 1) := ⟨_, rfl⟩
    obtain ⟨j, hj, k', hk', hne, hb⟩ := not_alone (c := c) hP.lt h2 (by omega) (by omega)
    have hsum : e j + e k' ≤ T := by
      by_cases hlt : j < k'
      · exact hP.two he0 hlt hk' hb.symm
      · have := hP.two he0 (j := k') (k := j) (by omega) (by omega) hb
        omega
    have g1 := hs j c hj (by omega)
    have g2 := hs k' k (by omega) hk
    obtain ⟨e1, e2, _⟩ := h.early he he0 m (by omega) (Nat.le_refl _)
    obtain ⟨t, ht1, ht2, ht3⟩ := pig_apart q (c := c) (m := m) (k := k) (by omega) e2
    have g3 := h.same m (q t) (h.lt t (by omega)) k (by omega) (by omega) ht3
    rw [e1 t ht2] at g3
    have g4 := h.min k (q t) hk (h.lt t (by omega))
    have g5 := hs c t ht1 (by omega)
    omega
/-- The longest first: at most 4/3 - 1/(3m) times as long as the best. -/
theorem Lsch.long {e : Nat → Int} {n m : Nat} {ld : Nat → Nat → Int} {q B : Nat → Nat} {T : Int} (h : Lsch e n m ld q) (he : ∀ k, k < n → 1 ≤ e k) (he0 : ∀ k, 0 ≤ e k) (hs : ∀ j k, j ≤ k → k < n → e k ≤ e j) (hm : 1 ≤ m) (hT : 0 ≤ T) (hB : Within e n m B T) (i : Nat) (hi : i < m) :
    ld n i * 3 * m ≤ (4 * m - 1) * T := by
  have hmT : 0 ≤ ((m : Int) - 1) * T := Int.mul_nonneg (by omega) hT
  have hT2 : 0 ≤ (m : Int) * T := Int.mul_nonneg (by omega) hT
  have h2 : (4 * (m : Int) - 1) * T = 4 * (m * T) - T := by
    rw [Int.sub_mul, Int.one_mul, Int.mul_assoc]
  rw [mulm1 m hm] at hmT
  rw [h2, Int.mul_assoc, Int.mul_comm 3, ← Int.mul_assoc, Int.mul_comm (ld n i)]
  rcases h.last n i (Nat.le_refl _) hi with h0 | ⟨j, hj, h0⟩
  · rw [h0, Int.mul_zero]
    omega
  · by_cases h3 : T < 3 * e j
    · have h4 := h.two he he0 hs hB j hj h3
      have h5 : (m : Int) * ld n i ≤ m * T := by rw [h0]; exact Int.mul_le_mul_of_nonneg_left h4 (by omega)
      omega
    · have h4 := h.low j hj
      have h5 := sR_upto he0 hj
      have h6 := hB.sum
      have h7 : ((m : Int) - 1) * (3 * e j) ≤ ((m : Int) - 1) * T := Int.mul_le_mul_of_nonneg_left (by omega) (by omega)
      rw [mulm1 m hm, mulm1 m hm] at h7
      rw [h0, Int.mul_add]
      have h8 : (m : Int) * (3 * e j) = 3 * (m * e j) := by rw [← Int.mul_assoc, Int.mul_comm (m : Int) 3, Int.mul_assoc]
      omega

end Go.Proofs.Ytfdaifmfecfchaa

namespace Go.Proofs.Ytfdaifmfecfchaa
open Go.RowKit

theorem Try.infoI64 : (Try.prog.info? 2).map (fun i => (i.zero, i.size, i.bytes)) = some (some (.int .i64 0), 1, 8) := by kernel_rfl

def I64 (x : Int) : Value := .int .i64 x
theorem i64_one (xs : List Int) : ∀ u ∈ xs.map I64, u.oneCell' = true := by
  intro u hu; simp at hu; obtain ⟨x, _, rfl⟩ := hu; rfl

def inB (lo hi n : Int) : Bool := decide (lo ≤ n) && decide (n ≤ hi)
theorem inB_true {lo hi n : Int} (h : lo ≤ n ∧ n ≤ hi) : inB lo hi n = true := by simp [inB, h]
theorem inB_false {lo hi n : Int} (h : ¬ (lo ≤ n ∧ n ≤ hi)) : inB lo hi n = false := by simp only [inB, ← Bool.not_eq_true, Bool.and_eq_true, decide_eq_true_eq]; exact h

set_option maxHeartbeats 400000 in
theorem within_any (n lo hi : Int) (w : World) :
    Calls Try.prog 55 #[.int .i64 n, .int .i64 lo, .int .i64 hi] w fun e w' => e = .returned (.bool (inB lo hi n)) ∧ w = w' := by
  by_cases h : lo ≤ n
  · go_enter Try.func55, Try.ntmps55
    go_wp2
    go_ret
    exact ⟨by simp [inB, h], rfl⟩
  · go_enter Try.func55, Try.ntmps55
    go_wp2
    go_ret
    exact ⟨by simp [inB]; omega, rfl⟩

set_option maxHeartbeats 400000 in
theorem size_any (n : Nat) (w : World) (h : n ≤ maxLen) :
    Calls Try.prog 47 #[.int .i64 n] w fun e w' => e = .returned (.int .i64 n) ∧ w = w' := by
  unfold maxLen at h
  go_enter Try.func47, Try.ntmps47
  go_wp2
  go_ret
  exact ⟨rfl, rfl⟩

/-- Append of integers to what the call owns; it may be nil. -/
theorem app_ints {w : World} {ops : Array Oper} {rest : List Oper} {o : Oper} {a : Act} {Q : Exit → Act → World → Prop} (hgd : o.guard = none) (s x : Operand)
    (ho : o.op = .call { callee := .builtin .append, args := #[s, x], argTypes := #[27, 27] })
    (base : Nat) (v : Value) (n : Nat) (xs : List Int) (hs : a.eval s = v) (hown : w.ownsRow base 2 1 v n (xs.map I64))
    (sv : Value) (news : List Int) (hx : a.eval x = sv) (hsv : Slc w sv (news.map I64)) (m : Nat) (ys : List Int) (hm : m = n + news.length) (hys : ys = xs ++ news) (hlen : m ≤ 17592186044416) (hbase : base ≤ w.heap.size)
    (h : ∀ a' cap' w', w'.ownsRow base 2 1 (.slice a' m cap') m (ys.map I64) → Below base w w' → w.grownBy w' v.ownBlock → (Value.slice a' m cap' = .slice none 0 0 ↔ v = .slice none 0 0 ∧ news = []) → wpList Try.prog ops Q rest (a.put o.dst (.slice a' m cap')) w') :
    wpList Try.prog ops Q (o :: rest) a w := by
  obtain ⟨i0, hi, hz0, hz1, hz2⟩ := info_parts Try.infoI64
  subst hm hys
  refine wpList_append_slc hgd s x 27 ho base 2 i0 (.int .i64 0) 8 Try.underlying27 hi hz0 hz1 hz2 rfl v n (xs.map I64) hs hown sv (news.map I64) hx hsv (i64_one news) (by simp [maxLen]; omega) (by simp; omega) hbase ?_
  intro v' w' h1 h2 h3
  have h1' : w'.ownsRow base 2 1 v' (n + news.length) ((xs ++ news).map I64) := by simpa using h1
  obtain ⟨a', cap', rfl⟩ := owns_shape h1'
  exact h a' cap' w' h1' (below_grown hown hbase h2) h2 (by simpa using h3)

/-- Append of integers to what the call owns and is not nil. -/
theorem app_own {w : World} {ops : Array Oper} {rest : List Oper} {o : Oper} {a : Act} {Q : Exit → Act → World → Prop} (hgd : o.guard = none) (s x : Operand)
    (ho : o.op = .call { callee := .builtin .append, args := #[s, x], argTypes := #[27, 27] })
    (base : Nat) (ad : Addr) (n cap : Nat) (xs : List Int) (hs : a.eval s = .slice (some ad) n cap) (hown : w.ownsRow base 2 1 (.slice (some ad) n cap) n (xs.map I64))
    (sv : Value) (news : List Int) (hx : a.eval x = sv) (hsv : Slc w sv (news.map I64)) (m : Nat) (ys : List Int) (hm : m = n + news.length) (hys : ys = xs ++ news) (hlen : m ≤ 17592186044416) (hbase : base ≤ w.heap.size)
    (h : ∀ g cap' w', w'.ownsRow base 2 1 (.slice (some ⟨g, 0, none⟩) m cap') m (ys.map I64) → Below base w w' → w.grownBy w' (Value.slice (some ad) n cap).ownBlock → wpList Try.prog ops Q rest (a.put o.dst (.slice (some ⟨g, 0, none⟩) m cap')) w') :
    wpList Try.prog ops Q (o :: rest) a w := by
  refine app_ints hgd s x ho base _ n xs hs hown sv news hx hsv m ys hm hys hlen hbase ?_
  intro a' cap' w' h1 h2 h3 h4
  obtain ⟨g, c, e, _⟩ := owns_some h1 (by intro e; have := h4.1 e; simp at this)
  simp only [Value.slice.injEq, true_and] at e
  obtain ⟨rfl, rfl⟩ := e
  exact h g _ w' h1 h2 h3

/-- A new row of one integer. -/
theorem slc_one (w : World) (z : Int) : Slc (w.alloc (.cells #[.int .i64 z] 2)) (.slice (some ⟨w.heap.size, 0, none⟩) 1 1) ([z].map I64) := by
  have h := World.ownsRow_lit (base := w.heap.size) (e := 2) (size := 1) w #[.int .i64 z] 1 (Nat.le_refl _) (by simp [maxLen]) rfl
  exact slc_of_owns h

/-- A new empty row. -/
theorem owns_empty (w : World) : (w.alloc (.cells #[] 2)).ownsRow w.heap.size 2 1 (.slice (some ⟨w.heap.size, 0, none⟩) 0 0) 0 (([] : List Int).map I64) :=
  World.ownsRow_lit (base := w.heap.size) (e := 2) (size := 1) w #[] 0 (Nat.le_refl _) (by simp [maxLen]) rfl

set_option maxHeartbeats 400000 in
theorem copyInts_any (a : Option Addr) (cap : Nat) (xs : List Int) (w : World) (hs : Slc w (.slice a xs.length cap) (xs.map I64)) (hb : xs.length ≤ 17592186044416) :
    Calls Try.prog 80 #[.slice a xs.length cap] w fun e w' => ∃ g cap, e = .returned (.slice (some ⟨g, 0, none⟩) xs.length cap) ∧ w'.ownsRow w.heap.size 2 1 (.slice (some ⟨g, 0, none⟩) xs.length cap) xs.length (xs.map I64) ∧ Below w.heap.size w w' := by
  have hsl := hs.below (Below.alloc (Below.refl w.heap.size w) (Nat.le_refl _) (.cells #[] 2)) (Nat.le_refl _)
  have HS := Lib.hid hs
  clear hs
  go_enter Try.func80, Try.ntmps80
  go_wp2_with (at_builtin; refine app_own rfl _ _ rfl w.heap.size ⟨w.heap.size, 0, none⟩ 0 0 [] rfl (owns_empty w) _ xs rfl hsl xs.length xs (by simp) (by simp) hb (by simp) ?_; intro g cap' w1 hown hbl hg)
  go_ret
  exact ⟨g, cap', rfl, hown, ((Below.refl _ _).alloc (Nat.le_refl _) _).trans hbl⟩

end Go.Proofs.Ytfdaifmfecfchaa
