/-
  FnJobs: texts joined: Sup, Base, LawInts, PredI, MarkI, SortM, PredL, MarkL, HeldL, FormO.
-/
import Derived.WalkKit
import Derived.WalkSpells
import Derived.WalkLawsBesides
import Derived.Deep.QuietTactic
import Derived.BigQuiet
import Derived.Lib.Hide
import Derived.Laws.AppendOwnNone
import Derived.Test.YtfdaifmfecfchaaChecked
import Derived.Sort.LotA
import Derived.Sort.WalkA
namespace Go.Proofs.Ytfdaifmfecfchaa
open Go.RowKit

/-- The slice value v reads, in w, as the cells vs (elements of one cell each). -/
def Slc (w : World) (v : Value) (vs : List Value) : Prop :=
  (v = .slice none 0 0 ∧ vs = []) ∨
  ∃ ad cap, v = .slice (some ad) vs.length cap ∧ vs.length ≤ cap ∧ cap ≤ maxLen ∧ ∀ i u, vs[i]? = some u → w.cell? (ad.add i) = some u

theorem Slc.nil (w : World) : Slc w (.slice none 0 0) [] := .inl ⟨rfl, rfl⟩

theorem Slc.len {w : World} {v : Value} {vs : List Value} (h : Slc w v vs) : vs.length ≤ maxLen := by
  rcases h with ⟨_, rfl⟩ | ⟨_, _, _, h, h', _⟩
  · simp [maxLen]
  · omega

/-- The shape of the value. -/
theorem Slc.shape {w : World} {v : Value} {vs : List Value} (h : Slc w v vs) : ∃ a cap, v = .slice a vs.length cap := by
  rcases h with ⟨rfl, rfl⟩ | ⟨ad, cap, rfl, _⟩
  · exact ⟨none, 0, rfl⟩
  · exact ⟨some ad, cap, rfl⟩

/-- A cell of it. -/
theorem Slc.at {w : World} {a : Option Addr} {n cap : Nat} {vs : List Value} (h : Slc w (.slice a n cap) vs) {i : Nat} {u : Value} (hi : vs[i]? = some u) :
    ∃ b off, a = some ⟨b, off, none⟩ ∧ b < w.heap.size ∧ w.cell? ⟨b, off + i, none⟩ = some u := by
  rcases h with ⟨_, rfl⟩ | ⟨ad, cap', e, _, _, hc⟩
  · simp at hi
  · simp only [Value.slice.injEq] at e
    obtain ⟨rfl, rfl, rfl⟩ := e
    have h0 := hc i u hi
    obtain ⟨b, off, spot⟩ := ad
    have hs : spot = none := by
      have hlt : 0 < vs.length := by
        cases vs with
        | nil => simp at hi
        | cons x l => simp
      have hz := hc 0 _ (List.getElem?_eq_getElem hlt)
      simpa [Addr.add] using World.cell?_spot hz
    subst hs
    have h1 : w.cell? ⟨b, off + i, none⟩ = some u := by
      by_cases hz : i = 0
      · subst hz; simpa [Addr.add] using h0
      · simpa [Addr.add, hz] using h0
    refine ⟨b, off, rfl, ?_, h1⟩
    by_cases hb : b < w.heap.size
    · exact hb
    · exfalso
      have : w.heap[b]? = none := by simp; omega
      simp [World.cell?, this] at h1

theorem cell_lt {w : World} {a : Addr} {u : Value} (h : w.cell? a = some u) : a.block < w.heap.size := by
  by_cases hb : a.block < w.heap.size
  · exact hb
  · exfalso
    have : w.heap[a.block]? = none := by simp; omega
    simp [World.cell?, this] at h

theorem addr_add_block (a : Addr) (i : Nat) : (a.add i).block = a.block := by unfold Addr.add; split <;> rfl

/-- It reads on where no block of the old memory has turned. -/
theorem Slc.below {w w' : World} {B : Nat} {v : Value} {vs : List Value} (h : Slc w v vs) (hb : Below B w w') (hB : w.heap.size ≤ B) : Slc w' v vs := by
  rcases h with h | ⟨ad, cap, e, h1, h2, hc⟩
  · exact .inl h
  · refine .inr ⟨ad, cap, e, h1, h2, fun i u hi => ?_⟩
    have h0 := hc i u hi
    rw [hb.cell (by have := cell_lt h0; omega)]
    exact h0

theorem Slc.drewN {w : World} {v : Value} {vs : List Value} (h : Slc w v vs) (n : Nat) : Slc (w.drewN n) v vs := h

/-- What is owned reads. -/
theorem slc_of_owns {w : World} {base : Nat} {e : TypeId} {v : Value} {n : Nat} {vs : List Value} (h : w.ownsRow base e 1 v n vs) : Slc w v vs := by
  obtain ⟨hl, h2⟩ := h
  simp at hl
  rcases h2 with ⟨rfl, rfl⟩ | ⟨g, cap, cur, rfl, hb, hg, hn, hm, hs, ht⟩
  · left; exact ⟨rfl, List.length_eq_zero_iff.1 hl⟩
  · right
    refine ⟨⟨g, 0, none⟩, cap, by rw [hl], by omega, hm, fun i u hi => ?_⟩
    have hi' : i < vs.length := (List.getElem?_eq_some_iff.1 hi).1
    have : w.cell? ⟨g, i, none⟩ = some u := by
      rw [cell_of_row w g i cur e (0, 0) hg]
      rw [← ht] at hi
      simp [List.getElem?_take] at hi
      exact hi.2
    unfold Addr.add
    split
    · next hz => subst hz; exact this
    · simpa using this

/-- Append to what the call owns, the source any slice that reads. -/
theorem wpList_append_slc {P : Program} {w : World} {ops : Array Oper} {rest : List Oper} {o : Oper} {a : Act} {Q : Exit → Act → World → Prop} (hgd : o.guard = none) (s x : Operand) (t : TypeId)
    (ho : o.op = .call { callee := .builtin .append, args := #[s, x], argTypes := #[t, t] })
    (base : Nat) (e : TypeId) (i : TypeInfo) (z : Value) (bytes : Nat) (ht : P.underlying t = some (.slice e)) (hi : P.info? e = some i) (hz : i.zero = some z)
    (hsize : i.size = 1) (hby : i.bytes = bytes) (hzs : z.cells.size = 1)
    (v : Value) (n : Nat) (xs : List Value) (hs : a.eval s = v) (hown : w.ownsRow base e 1 v n xs)
    (sv : Value) (news : List Value) (hx : a.eval x = sv) (hsv : Slc w sv news) (h1 : ∀ u ∈ news, u.oneCell' = true)
    (h63 : n + news.length ≤ maxLen) (hbytes : (n + news.length) * bytes ≤ 140737488355328) (hbase : base ≤ w.heap.size)
    (h : ∀ v' w', w'.ownsRow base e 1 v' (n + news.length) (xs ++ news) → w.grownBy w' v.ownBlock → (v' = .slice none 0 0 ↔ v = .slice none 0 0 ∧ news = []) → wpList P ops Q rest (a.put o.dst v') w') :
    wpList P ops Q (o :: rest) a w := by
  rcases hsv with ⟨rfl, rfl⟩ | ⟨ad, cap, rfl, hcl, hcm, hc⟩
  · refine wpList_append_own_none hgd s x t ho base e i 1 ht hi v n xs hs hown hx ?_
    exact h v w (by simpa using hown) (World.grownBy.refl _ _) (by simp)
  · refine wpList_append_own w hgd s x t ho base e i z 1 bytes ht hi hz hsize hby hzs (by decide) v n xs hs hown ad news.length cap news hx (by simp) hc h1 h63 hbytes hbase ?_
    intro v' w' h2 h3 h4
    exact h v' w' h2 h3 (by rw [h4]; simp)

/-- What is owned and is not nil begins at the head of a block. -/
theorem owns_some {w : World} {base : Nat} {e : TypeId} {v : Value} {n : Nat} {vs : List Value} (h : w.ownsRow base e 1 v n vs) (hn : v ≠ .slice none 0 0) :
    ∃ g cap, v = .slice (some ⟨g, 0, none⟩) n cap ∧ base ≤ g ∧ g < w.heap.size := by
  rcases h.2 with ⟨rfl, _⟩ | ⟨g, cap, cur, rfl, hb, hg, _⟩
  · exact absurd rfl hn
  · exact ⟨g, cap, rfl, hb, lt_of_block hg⟩

theorem owns_len {w : World} {base : Nat} {e : TypeId} {v : Value} {n : Nat} {vs : List Value} (h : w.ownsRow base e 1 v n vs) : vs.length = n := by simpa using h.1

/-- Blocks that are there stay owned. -/
theorem owns_below {w w' : World} {base B : Nat} {e : TypeId} {v : Value} {n : Nat} {vs : List Value} (h : w.ownsRow base e 1 v n vs) (hb : Below B w w') (hB : w.heap.size ≤ B) : w'.ownsRow base e 1 v n vs := by
  refine ⟨h.1, ?_⟩
  rcases h.2 with h2 | ⟨g, cap, cur, hv, h3, hg, r⟩
  · exact .inl h2
  · exact .inr ⟨g, cap, cur, hv, h3, by rw [hb.block g (by have := lt_of_block hg; omega)]; exact hg, r⟩

theorem owns_base {w : World} {base base' : Nat} {e : TypeId} {v : Value} {n : Nat} {vs : List Value} (h : w.ownsRow base e 1 v n vs) (hb : base' ≤ base) : w.ownsRow base' e 1 v n vs := by
  refine ⟨h.1, ?_⟩
  rcases h.2 with h2 | ⟨g, cap, cur, hv, h3, hg, r⟩
  · exact .inl h2
  · exact .inr ⟨g, cap, cur, hv, by omega, hg, r⟩

theorem owns_lt {w : World} {base : Nat} {e : TypeId} {v : Value} {n : Nat} {vs : List Value} (h : w.ownsRow base e 1 v n vs) {k : Nat} (hk : v.ownBlock = some k) : base ≤ k ∧ k < w.heap.size := h.lt k hk

/-- What was there is as it was, but for the blocks in S. -/
structure Kept (S : Nat → Prop) (w w' : World) : Prop where
  os : w'.os = w.os
  tape : w'.tape = w.tape
  output : w'.output = w.output
  size : w.heap.size ≤ w'.heap.size
  block : ∀ k, k < w.heap.size → ¬ S k → w'.heap[k]? = w.heap[k]?

namespace Kept
variable {S S' : Nat → Prop} {a w w' : World}
theorem refl (S : Nat → Prop) (w : World) : Kept S w w := ⟨rfl, rfl, rfl, Nat.le_refl _, fun _ _ _ => rfl⟩
/-- One step more, which may turn the blocks in S' alone. -/
theorem step (h : Kept S a w) (k : Kept S' w w') (hs : ∀ i, i < a.heap.size → S' i → S i) : Kept S a w' :=
  ⟨k.os.trans h.os, k.tape.trans h.tape, k.output.trans h.output, Nat.le_trans h.size k.size,
    fun i hi hn => (k.block i (Nat.lt_of_lt_of_le hi h.size) (fun e => hn (hs i hi e))).trans (h.block i hi hn)⟩
theorem trans (h : Kept S a w) (k : Kept S w w') : Kept S a w' := h.step k fun _ _ x => x
theorem mono (h : Kept S a w) (hs : ∀ i, i < a.heap.size → S i → S' i) : Kept S' a w := ⟨h.os, h.tape, h.output, h.size, fun i hi hn => h.block i hi fun x => hn (hs i hi x)⟩
theorem of_below {B : Nat} (h : Below B w w') (hB : w.heap.size ≤ B) : Kept S w w' := ⟨h.os, h.tape, h.output, h.size, fun k hk _ => h.block k (by omega)⟩
theorem below {B : Nat} (h : Kept S a w) (k : Below B w w') (hB : a.heap.size ≤ B) : Kept S a w' :=
  ⟨k.os.trans h.os, k.tape.trans h.tape, k.output.trans h.output, Nat.le_trans h.size k.size, fun i hi hn => (k.block i (by omega)).trans (h.block i hi hn)⟩
theorem toBelow {B : Nat} (h : Kept S w w') (hB : B ≤ w.heap.size) (hs : ∀ k, k < B → ¬ S k) : Below B w w' := ⟨h.os, h.tape, h.output, h.size, fun k hk => h.block k (by omega) (hs k hk)⟩
theorem drew (h : Kept S a w) : Kept S a w.drew := ⟨h.os, h.tape, h.output, h.size, h.block⟩
theorem drewN (h : Kept S a w) (n : Nat) : Kept S a (w.drewN n) := ⟨h.os, h.tape, h.output, h.size, h.block⟩
theorem alloc (h : Kept S a w) (o : Obj) : Kept S a (w.alloc o) := h.step (S' := fun _ => False) ⟨rfl, rfl, rfl, by simp, fun k hk _ => Below.heap_alloc _ _ _ hk⟩ fun _ _ x => x.elim
theorem setCell (h : Kept S a w) {p : Addr} (hp : a.heap.size ≤ p.block ∨ S p.block) (u : Value) : Kept S a (w.setCell p u) :=
  h.step (S' := fun k => k = p.block) ⟨rfl, rfl, rfl, by simp [World.setCell], fun k _ hk => Below.heap_setCell _ _ _ _ hk⟩ fun i hi e => by
    subst e
    rcases hp with hp | hp
    · omega
    · exact hp
theorem grown {row : Option Nat} (h : Kept S a w) (hg : w.grownBy w' row) (hr : ∀ k, row = some k → a.heap.size ≤ k ∨ S k) : Kept S a w' :=
  h.step (S' := fun k => row = some k) ⟨hg.os, hg.tape, hg.output, hg.size, fun k hk hn => hg.block k hk fun e => hn e.symm⟩ fun i hi e => by
    rcases hr i e with hp | hp
    · omega
    · exact hp
theorem cell (h : Kept S w w') {p : Addr} (hp : p.block < w.heap.size) (hs : ¬ S p.block) : w'.cell? p = w.cell? p := World.cell?_of_block (w := w) (h.block p.block hp hs)
end Kept

theorem Slc.kept {S : Nat → Prop} {w w' : World} {a : Option Addr} {n cap : Nat} {vs : List Value} (h : Slc w (.slice a n cap) vs) (hk : Kept S w w')
    (hs : ∀ ad u, u ∈ vs → w.cell? ad = some u → ¬ S ad.block) : Slc w' (.slice a n cap) vs := by
  rcases h with h | ⟨ad, cap', e, h1, h2, hc⟩
  · exact .inl h
  · refine .inr ⟨ad, cap', e, h1, h2, fun i u hi => ?_⟩
    have h0 := hc i u hi
    rw [hk.cell (cell_lt h0) (hs _ u (List.mem_of_getElem? hi) h0)]
    exact h0

theorem owns_kept {S : Nat → Prop} {w w' : World} {base : Nat} {e : TypeId} {v : Value} {n : Nat} {vs : List Value} (h : w.ownsRow base e 1 v n vs) (hk : Kept S w w') (hs : ∀ g, v.ownBlock = some g → ¬ S g) : w'.ownsRow base e 1 v n vs := by
  refine ⟨h.1, ?_⟩
  rcases h.2 with h2 | ⟨g, cap, cur, hv, h3, hg, r⟩
  · exact .inl h2
  · exact .inr ⟨g, cap, cur, hv, h3, by rw [hk.block g (lt_of_block hg) (hs g (by rw [hv]; rfl))]; exact hg, r⟩

/-- A block of one cell: a variable that lies in memory. -/
def Box (w : World) (b : Nat) (t : TypeId) (v : Value) : Prop := w.heap[b]? = some (.cells #[v] t (0, 0))

theorem Box.cell {w : World} {b : Nat} {t : TypeId} {v : Value} (h : Box w b t v) : w.cell? ⟨b, 0, none⟩ = some v := cell_of_one h
theorem Box.free {w : World} {b : Nat} {t : TypeId} {v : Value} (h : Box w b t v) : w.frozen? ⟨b, 0, none⟩ = false := free_of_one h
theorem Box.lt {w : World} {b : Nat} {t : TypeId} {v : Value} (h : Box w b t v) : b < w.heap.size := lt_of_block h
theorem Box.set {w : World} {b : Nat} {t : TypeId} {v : Value} (h : Box w b t v) (u : Value) : Box (w.setCell ⟨b, 0, none⟩ u) b t u := one_setCell h
theorem Box.kept {S : Nat → Prop} {w w' : World} {b : Nat} {t : TypeId} {v : Value} (h : Box w b t v) (hk : Kept S w w') (hs : ¬ S b) : Box w' b t v := (hk.block b h.lt hs).trans h
theorem Box.new (w : World) (t : TypeId) (v : Value) : Box (w.alloc (.cells #[v] t)) w.heap.size t v := heap_alloc_new w _
theorem Box.cell_eq {w : World} {b : Nat} {t : TypeId} {u v : Value} {a : Addr} (h : Box w b t v) (ha : a.block = b) (hc : w.cell? a = some u) : u = v := by
  subst ha
  unfold Box at h
  simp only [World.cell?, h] at hc
  split at hc
  · simp at hc
  · match ho : a.off with
    | 0 => rw [ho] at hc; simp at hc; exact hc.symm
    | k + 1 => rw [ho] at hc; simp at hc
theorem Box.not_owned {w : World} {b : Nat} {t e : TypeId} {v u : Value} {base n size : Nat} {vs : List Value} (h : Box w b t v) (ho : w.ownsRow base e size u n vs) (hte : t ≠ e) : u.ownBlock ≠ some b := by
  intro hb
  rcases ho.2 with ⟨rfl, _⟩ | ⟨g, cap, cur, rfl, _, hg, _⟩
  · simp [Value.ownBlock] at hb
  · simp [Value.ownBlock] at hb
    subst hb
    unfold Box at h
    rw [hg] at h
    simp at h
    exact hte h.2.symm

theorem Box.below {w w' : World} {b B : Nat} {t : TypeId} {v : Value} (h : Box w b t v) (hb : Below B w w') (hB : b < B) : Box w' b t v := (hb.block b hB).trans h

/-- An append to what is owned from base on leaves all below base as it was. -/
theorem below_grown {w w' : World} {base : Nat} {e : TypeId} {v : Value} {n : Nat} {vs : List Value} (h : w.ownsRow base e 1 v n vs) (hbase : base ≤ w.heap.size) (hg : w.grownBy w' v.ownBlock) : Below base w w' :=
  (Below.refl base w).grown hg hbase fun k hk => (owns_lt h hk).1

theorem owns_shape {w : World} {base : Nat} {e : TypeId} {v : Value} {n : Nat} {vs : List Value} (h : w.ownsRow base e 1 v n vs) : ∃ a cap, v = .slice a n cap := by
  rcases h.2 with ⟨rfl, rfl⟩ | ⟨g, cap, cur, rfl, _⟩
  · exact ⟨_, _, rfl⟩
  · exact ⟨_, _, rfl⟩

/-- A function with a body is entered. -/
theorem enters_of {P : Program} {f : FuncId} {fn : Func} {c : Code} (hf : P.funcs[f]? = some fn) (hname : (fn.name == "runtime.NumGoroutine") = false) (hb : fn.body = some c) (args : Array Value) (w : World) :
    (callFunc f args).run P w = .ok (.enter f args) w := by
  have h1 : fn.name ≠ "runtime.NumGoroutine" := by simpa using hname
  simp [callFunc, hf, h1, hb]

/-- A block of cells that nobody has frozen: a struct that lies in memory. -/
def Blk (w : World) (b : Nat) (t : TypeId) (cs : Array Value) : Prop := w.heap[b]? = some (.cells cs t (0, 0))

theorem Blk.cell {w : World} {b : Nat} {t : TypeId} {cs : Array Value} (h : Blk w b t cs) (j : Nat) {u : Value} (hj : cs[j]? = some u) : w.cell? ⟨b, j, none⟩ = some u := by
  unfold Blk at h; simp [World.cell?, h, hj]
theorem Blk.free {w : World} {b : Nat} {t : TypeId} {cs : Array Value} (h : Blk w b t cs) (j : Nat) : w.frozen? ⟨b, j, none⟩ = false := by
  unfold Blk at h; simp [World.frozen?, h]
theorem Blk.lt {w : World} {b : Nat} {t : TypeId} {cs : Array Value} (h : Blk w b t cs) : b < w.heap.size := lt_of_block h
theorem Blk.new (w : World) (t : TypeId) (cs : Array Value) : Blk (w.alloc (.cells cs t)) w.heap.size t cs := heap_alloc_new w _
theorem Blk.below {w w' : World} {b B : Nat} {t : TypeId} {cs : Array Value} (h : Blk w b t cs) (hb : Below B w w') (hB : b < B) : Blk w' b t cs := (hb.block b hB).trans h
theorem Blk.alloc {w : World} {b : Nat} {t : TypeId} {cs : Array Value} (h : Blk w b t cs) (o : Obj) : Blk (w.alloc o) b t cs := (Below.heap_alloc _ _ _ h.lt).trans h
theorem Blk.kept {S : Nat → Prop} {w w' : World} {b : Nat} {t : TypeId} {cs : Array Value} (h : Blk w b t cs) (hk : Kept S w w') (hs : ¬ S b) : Blk w' b t cs := (hk.block b h.lt hs).trans h
theorem Blk.set {w : World} {b : Nat} {t : TypeId} {cs : Array Value} (h : Blk w b t cs) (j : Nat) (u : Value) : Blk (w.setCell ⟨b, j, none⟩ u) b t (cs.setIfInBounds j u) := heap_setCell_same w b j cs t u h
theorem Blk.other {w : World} {b : Nat} {t : TypeId} {cs : Array Value} (h : Blk w b t cs) {a : Addr} (ha : b ≠ a.block) (u : Value) : Blk (w.setCell a u) b t cs := (Below.heap_setCell _ _ _ _ ha).trans h
theorem Blk.not_owned {w : World} {b : Nat} {t e : TypeId} {cs : Array Value} {u : Value} {base n size : Nat} {vs : List Value} (h : Blk w b t cs) (ho : w.ownsRow base e size u n vs) (hte : t ≠ e) : u.ownBlock ≠ some b := by
  intro hb
  rcases ho.2 with ⟨rfl, _⟩ | ⟨g, cap, cur, rfl, _, hg, _⟩
  · simp [Value.ownBlock] at hb
  · simp [Value.ownBlock] at hb
    subst hb
    unfold Blk at h
    rw [hg] at h
    simp at h
    exact hte h.2.symm

/-- What is owned is not turned by a store elsewhere. -/
theorem owns_other {w : World} {base : Nat} {e : TypeId} {v : Value} {n : Nat} {vs : List Value} (h : w.ownsRow base e 1 v n vs) {a : Addr} (ha : v.ownBlock ≠ some a.block) (u : Value) : (w.setCell a u).ownsRow base e 1 v n vs :=
  ownsRow_setCell_other h ha u

theorem Slc.other {w : World} {a : Option Addr} {n cap : Nat} {vs : List Value} (h : Slc w (.slice a n cap) vs) {p : Addr} (hp : ∀ ad, a = some ad → vs ≠ [] → ad.block ≠ p.block) (u : Value) : Slc (w.setCell p u) (.slice a n cap) vs := by
  rcases h with h | ⟨ad, cap', e, h1, h2, hc⟩
  · exact .inl h
  · refine .inr ⟨ad, cap', e, h1, h2, fun i v hi => ?_⟩
    have h0 := hc i v hi
    simp only [Value.slice.injEq] at e
    have hne := hp ad e.1 (by rintro rfl; simp at hi)
    rw [World.cell?_of_block (w := w) (Below.heap_setCell _ _ _ _ (by rw [addr_add_block]; exact hne))]
    exact h0

/-- A name for the world in which a call is made. -/
theorem Calls.at {P : Program} {f : FuncId} {args : Array Value} {w : World} {R : Ending → World → Prop} (h : ∀ W, W = w → Calls P f args W R) : Calls P f args w R := h w rfl

theorem held_of {w w' : World} {B : Nat} (hb : Below B w w') {a : Addr} {u : Value} (h : w.cell? a = some u) (hB : w.heap.size ≤ B) : w'.cell? a = some u := (hb.cell (by have := cell_lt h; omega)).trans h

/-- A name for the world at the head of a piece of code. -/
theorem wp_at {P : Program} {c : Code} {Q : Exit → Act → World → Prop} {a : Act} {w : World} (h : ∀ W, W = w → c.wp P Q a W) : c.wp P Q a w := h w rfl

theorem quiet_same {P : Program} {f : FuncId} {args : Array Value} {w : World} {n : Nat} {v : Value} (h : Calls P f args (w.drewN n) fun e w' => e = .returned v ∧ w.drewN n = w') :
    Calls P f args (w.drewN n) fun e w'' => e = .returned v ∧ ∃ m, w'' = w.drewN m := h.mono fun _ _ ⟨he, hm⟩ => ⟨he, n, hm.symm⟩

end Go.Proofs.Ytfdaifmfecfchaa

namespace Go.Proofs.Ytfdaifmfecfchaa
open Go.RowKit

theorem Try.infoI64 : (Try.prog.info? 2).map (fun i => (i.zero, i.size, i.bytes)) = some (some (.int .i64 0), 1, 8) := by kernel_rfl

def I64 (x : Int) : Value := .int .i64 x
theorem i64_one (xs : List Int) : ∀ u ∈ xs.map I64, u.oneCell' = true := by
  intro u hu; simp at hu; obtain ⟨x, _, rfl⟩ := hu; rfl

def inB (lo hi n : Int) : Bool := decide (lo ≤ n) && decide (n ≤ hi)
theorem inB_true {lo hi n : Int} (h : lo ≤ n ∧ n ≤ hi) : inB lo hi n = true := by simp [inB, h]
theorem inB_false {lo hi n : Int} (h : ¬ (lo ≤ n ∧ n ≤ hi)) : inB lo hi n = false := by simp only [inB, ← Bool.not_eq_true, Bool.and_eq_true, decide_eq_true_eq]; exact h

set_option maxHeartbeats 400000 in
theorem within_any (n lo hi : Int) (w : World) :
    Calls Try.prog 55 #[.int .i64 n, .int .i64 lo, .int .i64 hi] w fun e w' => e = .returned (.bool (inB lo hi n)) ∧ w = w' := by
  by_cases h : lo ≤ n
  · go_enter Try.func55, Try.ntmps55
    go_wp2
    go_ret
    exact ⟨by simp [inB, h], rfl⟩
  · go_enter Try.func55, Try.ntmps55
    go_wp2
    go_ret
    exact ⟨by simp [inB]; omega, rfl⟩

set_option maxHeartbeats 400000 in
theorem size_any (n : Nat) (w : World) (h : n ≤ maxLen) :
    Calls Try.prog 47 #[.int .i64 n] w fun e w' => e = .returned (.int .i64 n) ∧ w = w' := by
  unfold maxLen at h
  go_enter Try.func47, Try.ntmps47
  go_wp2
  go_ret
  exact ⟨rfl, rfl⟩

/-- Append of integers to what the call owns; it may be nil. -/
theorem app_ints {w : World} {ops : Array Oper} {rest : List Oper} {o : Oper} {a : Act} {Q : Exit → Act → World → Prop} (hgd : o.guard = none) (s x : Operand)
    (ho : o.op = .call { callee := .builtin .append, args := #[s, x], argTypes := #[27, 27] })
    (base : Nat) (v : Value) (n : Nat) (xs : List Int) (hs : a.eval s = v) (hown : w.ownsRow base 2 1 v n (xs.map I64))
    (sv : Value) (news : List Int) (hx : a.eval x = sv) (hsv : Slc w sv (news.map I64)) (m : Nat) (ys : List Int) (hm : m = n + news.length) (hys : ys = xs ++ news) (hlen : m ≤ 17592186044416) (hbase : base ≤ w.heap.size)
    (h : ∀ a' cap' w', w'.ownsRow base 2 1 (.slice a' m cap') m (ys.map I64) → Below base w w' → w.grownBy w' v.ownBlock → (Value.slice a' m cap' = .slice none 0 0 ↔ v = .slice none 0 0 ∧ news = []) → wpList Try.prog ops Q rest (a.put o.dst (.slice a' m cap')) w') :
    wpList Try.prog ops Q (o :: rest) a w := by
  obtain ⟨i0, hi, hz0, hz1, hz2⟩ := info_parts Try.infoI64
  subst hm hys
  refine wpList_append_slc hgd s x 27 ho base 2 i0 (.int .i64 0) 8 Try.underlying27 hi hz0 hz1 hz2 rfl v n (xs.map I64) hs hown sv (news.map I64) hx hsv (i64_one news) (by simp [maxLen]; omega) (by simp; omega) hbase ?_
  intro v' w' h1 h2 h3
  have h1' : w'.ownsRow base 2 1 v' (n + news.length) ((xs ++ news).map I64) := by simpa using h1
  obtain ⟨a', cap', rfl⟩ := owns_shape h1'
  exact h a' cap' w' h1' (below_grown hown hbase h2) h2 (by simpa using h3)

/-- Append of integers to what the call owns and is not nil. -/
theorem app_own {w : World} {ops : Array Oper} {rest : List Oper} {o : Oper} {a : Act} {Q : Exit → Act → World → Prop} (hgd : o.guard = none) (s x : Operand)
    (ho : o.op = .call { callee := .builtin .append, args := #[s, x], argTypes := #[27, 27] })
    (base : Nat) (ad : Addr) (n cap : Nat) (xs : List Int) (hs : a.eval s = .slice (some ad) n cap) (hown : w.ownsRow base 2 1 (.slice (some ad) n cap) n (xs.map I64))
    (sv : Value) (news : List Int) (hx : a.eval x = sv) (hsv : Slc w sv (news.map I64)) (m : Nat) (ys : List Int) (hm : m = n + news.length) (hys : ys = xs ++ news) (hlen : m ≤ 17592186044416) (hbase : base ≤ w.heap.size)
    (h : ∀ g cap' w', w'.ownsRow base 2 1 (.slice (some ⟨g, 0, none⟩) m cap') m (ys.map I64) → Below base w w' → w.grownBy w' (Value.slice (some ad) n cap).ownBlock → wpList Try.prog ops Q rest (a.put o.dst (.slice (some ⟨g, 0, none⟩) m cap')) w') :
    wpList Try.prog ops Q (o :: rest) a w := by
  refine app_ints hgd s x ho base _ n xs hs hown sv news hx hsv m ys hm hys hlen hbase ?_
  intro a' cap' w' h1 h2 h3 h4
  obtain ⟨g, c, e, _⟩ := owns_some h1 (by intro e; have := h4.1 e; simp at this)
  simp only [Value.slice.injEq, true_and] at e
  obtain ⟨rfl, rfl⟩ := e
  exact h g _ w' h1 h2 h3

/-- A new row of one integer. -/
theorem slc_one (w : World) (z : Int) : Slc (w.alloc (.cells #[.int .i64 z] 2)) (.slice (some ⟨w.heap.size, 0, none⟩) 1 1) ([z].map I64) := by
  have h := World.ownsRow_lit (base := w.heap.size) (e := 2) (size := 1) w #[.int .i64 z] 1 (Nat.le_refl _) (by simp [maxLen]) rfl
  exact slc_of_owns h

/-- A new empty row. -/
theorem owns_empty (w : World) : (w.alloc (.cells #[] 2)).ownsRow w.heap.size 2 1 (.slice (some ⟨w.heap.size, 0, none⟩) 0 0) 0 (([] : List Int).map I64) :=
  World.ownsRow_lit (base := w.heap.size) (e := 2) (size := 1) w #[] 0 (Nat.le_refl _) (by simp [maxLen]) rfl

set_option maxHeartbeats 400000 in
theorem copyInts_any (a : Option Addr) (cap : Nat) (xs : List Int) (w : World) (hs : Slc w (.slice a xs.length cap) (xs.map I64)) (hb : xs.length ≤ 17592186044416) :
    Calls Try.prog 80 #[.slice a xs.length cap] w fun e w' => ∃ g cap, e = .returned (.slice (some ⟨g, 0, none⟩) xs.length cap) ∧ w'.ownsRow w.heap.size 2 1 (.slice (some ⟨g, 0, none⟩) xs.length cap) xs.length (xs.map I64) ∧ Below w.heap.size w w' := by
  have hsl := hs.below (Below.alloc (Below.refl w.heap.size w) (Nat.le_refl _) (.cells #[] 2)) (Nat.le_refl _)
  have HS := Lib.hid hs
  clear hs
  go_enter Try.func80, Try.ntmps80
  go_wp2_with (at_builtin; refine app_own rfl _ _ rfl w.heap.size ⟨w.heap.size, 0, none⟩ 0 0 [] rfl (owns_empty w) _ xs rfl hsl xs.length xs (by simp) (by simp) hb (by simp) ?_; intro g cap' w1 hown hbl hg)
  go_ret
  exact ⟨g, cap', rfl, hown, ((Below.refl _ _).alloc (Nat.le_refl _) _).trans hbl⟩

end Go.Proofs.Ytfdaifmfecfchaa

namespace Go.Proofs.Ytfdaifmfecfchaa
open Go.RowKit

/-- Equal lists: a comparison that reads both. -/
theorem take_ne {xs ys : List Int} {k : Nat} (hx : k < xs.length) (hy : k < ys.length) (h : xs.getD k 0 ≠ ys.getD k 0) : xs ≠ ys := by
  rintro rfl; exact h rfl

theorem take_eq_succ {xs ys : List Int} {k : Nat} (hx : k < xs.length) (hy : k < ys.length) (h : xs.take k = ys.take k) (h2 : xs.getD k 0 = ys.getD k 0) : xs.take (k + 1) = ys.take (k + 1) := by
  rw [List.take_succ_eq_append_getElem hx, List.take_succ_eq_append_getElem hy, h]
  simp [hx, hy] at h2
  rw [h2]

theorem set_mid {α : Type} (A R : List α) (z x : α) (k : Nat) (hk : A.length = k) : (A ++ z :: R).set k x = A ++ x :: R := by
  subst hk; simp [List.set_append]

theorem set_fill {xs : List Int} {k : Nat} {x : Int} (hk : k < xs.length) (hx : x = xs.getD k 0) :
    ((xs.take k ++ List.replicate (xs.length - k) 0).map I64).set k (.int .i64 x) = (xs.take (k + 1) ++ List.replicate (xs.length - (k + 1)) 0).map I64 := by
  subst hx
  have e : List.replicate (xs.length - k) (0 : Int) = 0 :: List.replicate (xs.length - (k + 1)) 0 := by
    rw [show xs.length - k = (xs.length - (k + 1)) + 1 by omega, List.replicate_succ]
  rw [e, List.take_succ_eq_append_getElem hk, List.map_append, List.map_cons, set_mid _ _ _ _ _ (by simp; omega), List.map_append, List.map_append, List.append_assoc, show xs.getD k 0 = xs[k] from by simp [hk]]
  rfl

end Go.Proofs.Ytfdaifmfecfchaa

namespace Go.Proofs.Ytfdaifmfecfchaa
open Go.RowKit

/-- v reads as the integers xs. -/
def RdI (w : World) (v : Value) (xs : List Int) : Prop := Slc w v (xs.map I64)
/-- v owns the integers xs, in blocks from lo up to hi. -/
def OwnI (lo hi : Nat) (w : World) (v : Value) (xs : List Int) : Prop := w.ownsRow lo 2 1 v xs.length (xs.map I64) ∧ ∀ g, v.ownBlock = some g → g < hi
def bulkI (xs : List Int) : Nat := xs.length

theorem RdI.shape {w : World} {v : Value} {xs : List Int} (h : RdI w v xs) : ∃ a c, v = .slice a xs.length c := by
  obtain ⟨a, c, e⟩ := Slc.shape h; exact ⟨a, c, by simpa using e⟩
theorem RdI.up {w w' : World} {v : Value} {xs : List Int} {B : Nat} (h : RdI w v xs) (hb : Below B w w') (hB : w.heap.size ≤ B) : RdI w' v xs := Slc.below h hb hB
theorem RdI.at {w : World} {a : Option Addr} {n c : Nat} {xs : List Int} (h : RdI w (.slice a n c) xs) {i : Nat} (hi : i < xs.length) :
    ∃ b off, a = some ⟨b, off, none⟩ ∧ b < w.heap.size ∧ w.cell? ⟨b, off + i, none⟩ = some (.int .i64 (xs.getD i 0)) := Slc.at h (by simp [I64, hi])
theorem RdI.len {w : World} {v : Value} {xs : List Int} (h : RdI w v xs) : xs.length ≤ maxLen := by simpa using Slc.len h
theorem RdI.drewN {w : World} {v : Value} {xs : List Int} (h : RdI w v xs) (n : Nat) : RdI (w.drewN n) v xs := Slc.drewN h n
theorem OwnI.rd {lo hi : Nat} {w : World} {v : Value} {xs : List Int} (h : OwnI lo hi w v xs) : RdI w v xs := slc_of_owns h.1
theorem OwnI.up {lo hi : Nat} {w w' : World} {v : Value} {xs : List Int} {B : Nat} (h : OwnI lo hi w v xs) (hb : Below B w w') (hB : w.heap.size ≤ B) : OwnI lo hi w' v xs := ⟨owns_below h.1 hb hB, h.2⟩
theorem OwnI.wide {lo hi lo' hi' : Nat} {w : World} {v : Value} {xs : List Int} (h : OwnI lo hi w v xs) (h1 : lo' ≤ lo) (h2 : hi ≤ hi') : OwnI lo' hi' w v xs := ⟨owns_base h.1 h1, fun g hg => Nat.lt_of_lt_of_le (h.2 g hg) h2⟩
theorem OwnI.kept {lo hi : Nat} {w w' : World} {v : Value} {xs : List Int} {S : Nat → Prop} (h : OwnI lo hi w v xs) (hk : Kept S w w') (hs : ∀ b, lo ≤ b → b < hi → ¬ S b) : OwnI lo hi w' v xs :=
  ⟨owns_kept h.1 hk fun g hg => hs g (owns_lt h.1 hg).1 (h.2 g hg), h.2⟩
theorem OwnI.mk {lo : Nat} {w : World} {v : Value} {n : Nat} {xs : List Int} (h : w.ownsRow lo 2 1 v n (xs.map I64)) : OwnI lo w.heap.size w v xs := by
  obtain rfl : xs.length = n := by simpa using owns_len h
  exact ⟨h, fun g hg => (owns_lt h hg).2⟩

/-- What is left behind the marks. -/
def mkI (k : Int) (n : Nat) : List Int := (List.range n).map fun (i : Nat) => k + i

end Go.Proofs.Ytfdaifmfecfchaa

namespace Go.Proofs.Ytfdaifmfecfchaa
open Go.RowKit

theorem mark_set {xs : List Int} {k : Int} {j : Nat} (hj : j < xs.length) :
    ((mkI k j ++ xs.drop j).map I64).set j (.int .i64 (k + j)) = (mkI k (j + 1) ++ xs.drop (j + 1)).map I64 := by
  rw [List.drop_eq_getElem_cons hj, List.map_append, List.map_cons, set_mid _ _ _ _ _ (by simp [mkI])]
  simp [mkI, List.range_succ, I64]

theorem owns_slice_some {w : World} {lo : Nat} {e : TypeId} {a : Option Addr} {n cap : Nat} {vs : List Value} (h : w.ownsRow lo e 1 (.slice a n cap) n vs) (hn : 0 < n) : ∃ g, a = some ⟨g, 0, none⟩ ∧ lo ≤ g := by
  rcases h.2 with ⟨e1, e2⟩ | ⟨g, cap', cur, e1, hb, _⟩
  · omega
  · simp only [Value.slice.injEq] at e1
    exact ⟨g, e1.1, hb⟩

def cntI (xs : List Int) : Nat := xs.length
theorem cntI_le (xs : List Int) : cntI xs ≤ bulkI xs := Nat.le_refl _
def mkdI (k : Int) (xs : List Int) : List Int := mkI k xs.length

end Go.Proofs.Ytfdaifmfecfchaa

namespace Go.Proofs.Ytfdaifmfecfchaa
open Go.RowKit Go.Sort

def ltK (key : Nat → Int) (x y : Nat) : Bool := decide (key x < key y)
theorem swo_ltK (key : Nat → Int) : SWO (ltK key) where
  irrefl x := by simp [ltK]
  trans x y z h1 h2 := by simp only [ltK, decide_eq_true_eq] at *; omega
  ntrans x y z h1 h2 := by simp only [ltK, decide_eq_false_iff_not] at *; omega
/-- The indices below n, those with a lesser key first, equal ones in order. -/
def ordA (key : Nat → Int) (n : Nat) : Array Nat := insertionSort (ltK key) (Array.range n) 0 n
def ordL (key : Nat → Int) (n : Nat) : List Nat := (ordA key n).toList
theorem ordA_perm (key : Nat → Int) (n : Nat) : PermIn 0 n (Array.range n) (ordA key n) :=
  (insertionSort_holds (swo_ltK key) (Array.range n) 0 n (Nat.zero_le _) (by simp)).1
theorem ordA_size (key : Nat → Int) (n : Nat) : (ordA key n).size = n := by rw [(ordA_perm key n).1]; simp
theorem ordL_len (key : Nat → Int) (n : Nat) : (ordL key n).length = n := by unfold ordL; rw [Array.length_toList, ordA_size]
theorem ordL_perm (key : Nat → Int) (n : Nat) : (ordL key n).Perm (List.range n) := by
  have h := (ordA_perm key n).2.2
  have e0 : ∀ (a : Array Nat) k, a.size = k → a.extract 0 k = a := by
    rintro a _ rfl
    exact Array.extract_size
  have e1 := e0 _ _ (ordA_size key n)
  have e2 := e0 (Array.range n) n (by simp)
  rw [e1, e2, Array.toList_range] at h
  exact h
theorem ordL_lt (key : Nat → Int) (n : Nat) : ∀ x ∈ ordL key n, x < n := fun x hx => List.mem_range.1 ((ordL_perm key n).mem_iff.1 hx)

/-- The reference's state: what stands ahead, and what is still to come. -/
theorem ins_zero (key : Nat → Int) (n : Nat) : insOuter (ltK key) 0 n 0 (Array.range n) = ordA key n := by
  unfold ordA insertionSort
  by_cases h : 0 < n
  · rw [insOuter_go _ _ _ _ _ h, insInner_stop _ _ _ _ (.inl (Nat.le_refl _))]
  · rw [insOuter_stop _ _ _ _ _ h, insOuter_stop _ _ _ _ _ (by omega)]

end Go.Proofs.Ytfdaifmfecfchaa

namespace Go.Proofs.Ytfdaifmfecfchaa
open Go.RowKit

/-- Each of the values reads as the list at its place. -/
def Each (w : World) (vs : List Value) (zss : List (List Int)) : Prop := vs.length = zss.length ∧ ∀ (i : Nat) u zs, vs[i]? = some u → zss[i]? = some zs → RdI w u zs
def RdL (w : World) (v : Value) (zss : List (List Int)) : Prop := ∃ vs, Slc w v vs ∧ Each w vs zss
/-- Owned: the outer row, and the inner ones, each in a block of its own. -/
def OwnEach (lo hi : Nat) (w : World) (vs : List Value) (zss : List (List Int)) : Prop :=
  vs.length = zss.length ∧ (∀ (i : Nat) u zs, vs[i]? = some u → zss[i]? = some zs → OwnI lo hi w u zs) ∧ ∀ (i j : Nat) u u' g, i ≠ j → vs[i]? = some u → vs[j]? = some u' → u.ownBlock = some g → u'.ownBlock ≠ some g
def OwnL (lo hi : Nat) (w : World) (v : Value) (zss : List (List Int)) : Prop :=
  ∃ vs, w.ownsRow lo 27 1 v zss.length vs ∧ (∀ g, v.ownBlock = some g → g < hi) ∧ OwnEach lo hi w vs zss
def lsum : List (List Int) → Nat
  | [] => 0
  | z :: r => z.length + lsum r
theorem lsum_append : ∀ (a b : List (List Int)), lsum (a ++ b) = lsum a + lsum b
  | [], b => by simp [lsum]
  | z :: r, b => by simp only [List.cons_append, lsum, lsum_append r b]; omega
def bulkL (zss : List (List Int)) : Nat := zss.length + lsum zss

theorem RdL.shape {w : World} {v : Value} {zss : List (List Int)} (h : RdL w v zss) : ∃ a c, v = .slice a zss.length c := by
  obtain ⟨vs, h1, h2⟩ := h
  obtain ⟨a, c, e⟩ := h1.shape
  exact ⟨a, c, by rw [e, h2.1]⟩
theorem RdL.len {w : World} {v : Value} {zss : List (List Int)} (h : RdL w v zss) : zss.length ≤ maxLen := by
  obtain ⟨vs, h1, h2⟩ := h
  rw [← h2.1]; exact h1.len
theorem Each.up {w w' : World} {vs : List Value} {zss : List (List Int)} {B : Nat} (h : Each w vs zss) (hb : Below B w w') (hB : w.heap.size ≤ B) : Each w' vs zss :=
  ⟨h.1, fun i u zs h1 h2 => (h.2 i u zs h1 h2).up hb hB⟩
theorem RdL.up {w w' : World} {v : Value} {zss : List (List Int)} {B : Nat} (h : RdL w v zss) (hb : Below B w w') (hB : w.heap.size ≤ B) : RdL w' v zss := by
  obtain ⟨vs, h1, h2⟩ := h
  exact ⟨vs, h1.below hb hB, h2.up hb hB⟩
/-- One of the lists. -/
theorem RdL.at {w : World} {a : Option Addr} {n c : Nat} {zss : List (List Int)} (h : RdL w (.slice a n c) zss) {i : Nat} (hi : i < zss.length) :
    ∃ b off u, a = some ⟨b, off, none⟩ ∧ b < w.heap.size ∧ w.cell? ⟨b, off + i, none⟩ = some u ∧ RdI w u (zss.getD i []) := by
  obtain ⟨vs, h1, h2⟩ := h
  have hv : i < vs.length := by rw [h2.1]; exact hi
  obtain ⟨b, off, ha, hb, hc⟩ := h1.at (List.getElem?_eq_getElem hv)
  exact ⟨b, off, vs[i], ha, hb, hc, h2.2 i _ _ (List.getElem?_eq_getElem hv) (by simp [hi])⟩

theorem OwnEach.each {lo hi : Nat} {w : World} {vs : List Value} {zss : List (List Int)} (h : OwnEach lo hi w vs zss) : Each w vs zss := ⟨h.1, fun i u zs h1 h2 => (h.2.1 i u zs h1 h2).rd⟩
theorem OwnL.rd {lo hi : Nat} {w : World} {v : Value} {zss : List (List Int)} (h : OwnL lo hi w v zss) : RdL w v zss := by
  obtain ⟨vs, h1, h2, h3⟩ := h
  exact ⟨vs, slc_of_owns h1, h3.each⟩
theorem OwnEach.up {lo hi : Nat} {w w' : World} {vs : List Value} {zss : List (List Int)} {B : Nat} (h : OwnEach lo hi w vs zss) (hb : Below B w w') (hB : w.heap.size ≤ B) : OwnEach lo hi w' vs zss :=
  ⟨h.1, fun i u zs h1 h2 => (h.2.1 i u zs h1 h2).up hb hB, h.2.2⟩
theorem OwnL.up {lo hi : Nat} {w w' : World} {v : Value} {zss : List (List Int)} {B : Nat} (h : OwnL lo hi w v zss) (hb : Below B w w') (hB : w.heap.size ≤ B) : OwnL lo hi w' v zss := by
  obtain ⟨vs, h1, h2, h3⟩ := h
  exact ⟨vs, owns_below h1 hb hB, h2, h3.up hb hB⟩
theorem OwnEach.wide {lo hi lo' hi' : Nat} {w : World} {vs : List Value} {zss : List (List Int)} (h : OwnEach lo hi w vs zss) (a : lo' ≤ lo) (b : hi ≤ hi') : OwnEach lo' hi' w vs zss :=
  ⟨h.1, fun i u zs h1 h2 => (h.2.1 i u zs h1 h2).wide a b, h.2.2⟩
theorem OwnL.wide {lo hi lo' hi' : Nat} {w : World} {v : Value} {zss : List (List Int)} (h : OwnL lo hi w v zss) (a : lo' ≤ lo) (b : hi ≤ hi') : OwnL lo' hi' w v zss := by
  obtain ⟨vs, h1, h2, h3⟩ := h
  exact ⟨vs, owns_base h1 a, fun g hg => Nat.lt_of_lt_of_le (h2 g hg) b, h3.wide a b⟩
theorem OwnL.kept {lo hi : Nat} {w w' : World} {v : Value} {zss : List (List Int)} {S : Nat → Prop} (h : OwnL lo hi w v zss) (hk : Kept S w w') (hs : ∀ b, lo ≤ b → b < hi → ¬ S b) : OwnL lo hi w' v zss := by
  obtain ⟨vs, h1, h2, h3⟩ := h
  exact ⟨vs, owns_kept h1 hk fun g hg => hs g (owns_lt h1 hg).1 (h2 g hg), h2, h3.1, fun i u zs a b => (h3.2.1 i u zs a b).kept hk hs, h3.2.2⟩

theorem sum_take_succ (zss : List (List Int)) (k : Nat) (hk : k < zss.length) : lsum (zss.take (k + 1)) = lsum (zss.take k) + (zss.getD k []).length := by
  rw [List.take_succ_eq_append_getElem hk, lsum_append]
  simp [hk, lsum]

theorem bulkL_le (zss : List (List Int)) (k : Nat) : lsum (zss.take k) + zss.length ≤ bulkL zss := by
  unfold bulkL
  have : lsum (zss.take k) + lsum (zss.drop k) = lsum zss := by rw [← lsum_append, List.take_append_drop]
  omega

theorem Try.infoInts : (Try.prog.info? 27).map (fun i => (i.zero, i.size, i.bytes)) = some (some (.slice none 0 0), 1, 24) := by kernel_rfl

end Go.Proofs.Ytfdaifmfecfchaa

namespace Go.Proofs.Ytfdaifmfecfchaa
open Go.RowKit

def cntL (zss : List (List Int)) : Nat := lsum zss
theorem cntL_le (zss : List (List Int)) : cntL zss ≤ bulkL zss := by unfold cntL bulkL; omega
/-- The first j lists marked from k on. -/
def mkP (k : Int) : List (List Int) → Nat → List (List Int)
  | [], _ => []
  | zss, 0 => zss
  | z :: r, j + 1 => mkI k z.length :: mkP (k + z.length) r j
def mkdL (k : Int) (zss : List (List Int)) : List (List Int) := mkP k zss zss.length
theorem mkP_zero (k : Int) (zss : List (List Int)) : mkP k zss 0 = zss := by cases zss <;> rfl
theorem mkP_length (k : Int) : ∀ (zss : List (List Int)) (j : Nat), (mkP k zss j).length = zss.length
  | [], j => by cases j <;> rfl
  | z :: r, 0 => rfl
  | z :: r, j + 1 => by simp only [mkP, List.length_cons, mkP_length (k + z.length) r j]
theorem mkP_late (k : Int) : ∀ (zss : List (List Int)) (j i : Nat), j ≤ i → (mkP k zss j)[i]? = zss[i]?
  | [], j, i, _ => by cases j <;> rfl
  | z :: r, 0, i, _ => rfl
  | z :: r, j + 1, i, h => by
    cases i with
    | zero => omega
    | succ i => simp only [mkP, List.getElem?_cons_succ]; exact mkP_late (k + z.length) r j i (by omega)
theorem mkP_set (k : Int) : ∀ (zss : List (List Int)) (j : Nat), j < zss.length → mkP k zss (j + 1) = (mkP k zss j).set j (mkI (k + lsum (zss.take j)) (zss.getD j []).length)
  | [], j, h => by simp at h
  | z :: r, 0, h => by simp [mkP, mkP_zero, lsum]
  | z :: r, j + 1, h => by
    have ih := mkP_set (k + z.length) r j (by simpa using h)
    rw [mkP, ih, mkP, List.set_cons_succ]
    congr 2
    simp only [List.take_succ_cons, lsum, List.getD_cons_succ]
    congr 1
    push_cast
    omega
theorem mkdL_at (k : Int) : ∀ (zss : List (List Int)) (j i : Nat), i < j → i < zss.length → (mkP k zss j)[i]? = some (mkI (k + lsum (zss.take i)) (zss.getD i []).length)
  | [], j, i, _, h => by simp at h
  | z :: r, 0, i, h, _ => by omega
  | z :: r, j + 1, 0, _, _ => by simp [mkP, lsum]
  | z :: r, j + 1, i + 1, h, h2 => by
    have ih := mkdL_at (k + z.length) r j i (by omega) (by simpa using h2)
    simp only [mkP, List.getElem?_cons_succ, ih, List.take_succ_cons, lsum, List.getD_cons_succ]
    congr 2
    push_cast
    omega

theorem owns_ne {w : World} {b1 b2 n1 n2 g : Nat} {e1 e2 : TypeId} {v1 v2 : Value} {x1 x2 : List Value} (h1 : w.ownsRow b1 e1 1 v1 n1 x1) (h2 : w.ownsRow b2 e2 1 v2 n2 x2) (hne : e1 ≠ e2) (hg : v1.ownBlock = some g) : v2.ownBlock ≠ some g := by
  intro hg2
  rcases h1.2 with ⟨rfl, _⟩ | ⟨a, cap, cur, rfl, _, hh, _⟩
  · simp [Value.ownBlock] at hg
  · rcases h2.2 with ⟨rfl, _⟩ | ⟨a2, cap2, cur2, rfl, _, hh2, _⟩
    · simp [Value.ownBlock] at hg2
    · simp only [Value.ownBlock, Option.some.injEq] at hg hg2
      subst hg hg2
      rw [hh] at hh2
      simp only [Option.some.injEq, Obj.cells.injEq] at hh2
      exact hne hh2.2.1
/-- Where memory that is owned lies: in a block of its own, or nowhere. -/
theorem OwnI.own {lo hi : Nat} {w : World} {u : Value} {zs : List Int} (h : OwnI lo hi w u zs) : ∃ l h', OwnI l h' w u zs ∧ ((u.ownBlock = none ∧ l = 0 ∧ h' = 0) ∨ (u.ownBlock = some l ∧ h' = l + 1 ∧ lo ≤ l ∧ l < hi)) := by
  obtain ⟨h1, h2⟩ := h
  rcases h1.2 with ⟨rfl, e⟩ | ⟨g, cap, cur, rfl, a1, a2⟩
  · exact ⟨0, 0, ⟨⟨h1.1, .inl ⟨rfl, e⟩⟩, by intro g hg; cases hg⟩, .inl ⟨rfl, rfl, rfl⟩⟩
  · exact ⟨g, g + 1, ⟨⟨h1.1, .inr ⟨g, cap, cur, rfl, Nat.le_refl _, a2⟩⟩, by intro g' hg; simp only [Value.ownBlock, Option.some.injEq] at hg; omega⟩, .inr ⟨rfl, rfl, a1, h2 g rfl⟩⟩

/-- One of the rows is written anew: the others are as they were. -/
theorem OwnEach.set {lo hi l h' : Nat} {w w' : World} {vs : List Value} {zss : List (List Int)} {i : Nat} {u : Value} {z : List Int} (h : OwnEach lo hi w vs zss) (hu : vs[i]? = some u)
    (hl : (u.ownBlock = none ∧ l = 0 ∧ h' = 0) ∨ (u.ownBlock = some l ∧ h' = l + 1 ∧ lo ≤ l ∧ l < hi)) (hn : OwnI l h' w' u z) (hk : Kept (fun b => l ≤ b ∧ b < h') w w') : OwnEach lo hi w' vs (zss.set i z) := by
  refine ⟨by rw [List.length_set]; exact h.1, fun j u' zs h1 h2 => ?_, h.2.2⟩
  by_cases hji : j = i
  · subst hji
    rw [hu] at h1
    simp only [Option.some.injEq] at h1
    subst h1
    have hlt : j < zss.length := by rw [← h.1]; exact (List.getElem?_eq_some_iff.1 hu).1
    rw [List.getElem?_set_self (by simpa using hlt)] at h2
    simp only [Option.some.injEq] at h2
    subst h2
    rcases hl with ⟨e, rfl, rfl⟩ | ⟨e, rfl, a1, a2⟩
    · refine ⟨⟨hn.1.1, ?_⟩, by intro g hg; rw [e] at hg; cases hg⟩
      rcases hn.1.2 with x | ⟨g, cap, cur, rfl, _⟩
      · exact .inl x
      · simp [Value.ownBlock] at e
    · exact hn.wide a1 (by omega)
  · rw [List.getElem?_set_ne (by omega)] at h2
    have ho := h.2.1 j u' zs h1 h2
    refine ⟨owns_kept ho.1 hk ?_, ho.2⟩
    rintro g hg ⟨hs1, hs2⟩
    rcases hl with ⟨e, rfl, rfl⟩ | ⟨e, rfl, a1, a2⟩
    · omega
    · have : g = l := by omega
      subst this
      exact h.2.2 i j u u' g (by omega) hu h1 e hg

end Go.Proofs.Ytfdaifmfecfchaa

namespace Go.Proofs.Ytfdaifmfecfchaa
open Go.RowKit

end Go.Proofs.Ytfdaifmfecfchaa

namespace Go.Proofs.Ytfdaifmfecfchaa
open Go.RowKit

structure FormD where
  letters : Int
  clauses : List (List Int)

def RdFm (w : World) (v : Value) (d : FormD) : Prop := ∃ v1, v = .agg #[.int .i64 d.letters, v1] ∧ RdL w v1 d.clauses
def OwnFm (lo hi : Nat) (w : World) (v : Value) (d : FormD) : Prop := ∃ v1 l1 h1, v = .agg #[.int .i64 d.letters, v1] ∧ OwnL l1 h1 w v1 d.clauses ∧
  lo ≤ l1 ∧ l1 ≤ h1 ∧ h1 ≤ hi ∧ h1 ≤ w.heap.size
def bulkFm (d : FormD) : Nat := bulkL d.clauses
def cntFm (d : FormD) : Nat := cntL d.clauses

theorem RdFm.shape {w : World} {v : Value} {d : FormD} (h : RdFm w v d) : ∃ a1 c1, v = .agg #[.int .i64 d.letters, .slice a1 d.clauses.length c1] := by
  obtain ⟨v1, rfl, p1⟩ := h
  obtain ⟨a1, c1, rfl⟩ := p1.shape
  exact ⟨_, _, rfl⟩
theorem RdFm.parts {w : World} {z1 z2 : Value} {d : FormD} (h : RdFm w (.agg #[z1, z2]) d) : RdL w z2 d.clauses := by
  obtain ⟨v1, e, p1⟩ := h
  simp only [Value.agg.injEq, Array.mk.injEq, List.cons.injEq, and_true] at e
  obtain ⟨rfl, rfl⟩ := e
  exact p1
theorem RdFm.up {w w' : World} {v : Value} {d : FormD} {B : Nat} (h : RdFm w v d) (hb : Below B w w') (hB : w.heap.size ≤ B) : RdFm w' v d := by
  obtain ⟨v1, e, p1⟩ := h
  exact ⟨v1, e, p1.up hb hB⟩
theorem OwnFm.rd {lo hi : Nat} {w : World} {v : Value} {d : FormD} (h : OwnFm lo hi w v d) : RdFm w v d := by
  obtain ⟨v1, l1, h1, e, p1, r1, r2, r3, r4⟩ := h
  exact ⟨v1, e, p1.rd⟩
theorem OwnFm.up {lo hi : Nat} {w w' : World} {v : Value} {d : FormD} {B : Nat} (h : OwnFm lo hi w v d) (hb : Below B w w') (hB : w.heap.size ≤ B) : OwnFm lo hi w' v d := by
  obtain ⟨v1, l1, h1, e, p1, r1, r2, r3, r4⟩ := h
  exact ⟨v1, l1, h1, e, p1.up hb hB, r1, r2, r3, Nat.le_trans r4 hb.size⟩
theorem OwnFm.wide {lo hi lo' hi' : Nat} {w : World} {v : Value} {d : FormD} (h : OwnFm lo hi w v d) (a : lo' ≤ lo) (b : hi ≤ hi') : OwnFm lo' hi' w v d := by
  obtain ⟨v1, l1, h1, e, p1, r1, r2, r3, r4⟩ := h
  exact ⟨v1, l1, h1, e, p1, by omega, r2, by omega, r4⟩
theorem OwnFm.kept {lo hi : Nat} {w w' : World} {v : Value} {d : FormD} {S : Nat → Prop} (h : OwnFm lo hi w v d) (hk : Kept S w w') (hs : ∀ b, lo ≤ b → b < hi → ¬ S b) : OwnFm lo hi w' v d := by
  obtain ⟨v1, l1, h1, e, p1, r1, r2, r3, r4⟩ := h
  exact ⟨v1, l1, h1, e, p1.kept hk (fun b a c => hs b (by omega) (by omega)), r1, r2, r3, Nat.le_trans r4 hk.size⟩

def mkdFm (k : Int) (d : FormD) : FormD := ⟨d.letters, mkdL k d.clauses⟩

end Go.Proofs.Ytfdaifmfecfchaa
