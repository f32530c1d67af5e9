/-
  FnExactJobsText: texts joined: ClauseM, Reg, Clause, CaseV, StoreM, Check, DecS, JournM, TextM, AllIn.
-/
import Derived.Deep.RegionHeld3
import Derived.Lib.AppendStr
import Derived.Laws.BytesArg
import Derived.Lib.SlBytesConst
import Derived.ArgAppend
import Derived.Lib.ItoaNum
import Derived.Lib.LaidTab
import Derived.Lib.SmallJoins
import Derived.Lib.Join
import Derived.Test.YtggpbekclegfoaaDoorMEJobsTextAB
import Derived.Test.YtggpbekclegfoaaDoorMEJobsTextAC
namespace Go.Proofs.YtggpbekclegfoaaDoor
open Go.RowKit

/-- The byte is a small letter. -/
def smallB (c : UInt8) : Bool := decide (97 ≤ c.toNat) && decide (c.toNat ≤ 122)
def nameB (s : ByteArray) : Bool := inB 1 8 s.size && allB s.size fun i => smallB (s.data.toList.getD i 0)

def litB (n x : Int) : Bool := decide (x ≠ 0) && inB (-n) n x
def okAt (n : Int) (xs : List Int) (i : Nat) : Bool := litB n (xs.getD i 0) && (decide (i = 0) || decide ((xs.getD (i - 1) 0).natAbs < (xs.getD i 0).natAbs))
def clauseB (n : Int) (xs : List Int) : Bool := inB 1 10 n && allB xs.length (okAt n xs)
/-- What the reference looks for first: literals of different letters. -/
def litAt (n : Int) (xs : List Int) (i : Nat) : Bool := litB n (xs.getD i 0) && allB i fun j => decide ((xs.getD j 0).natAbs ≠ (xs.getD i 0).natAbs)
def litsB (n : Int) (xs : List Int) : Bool := allB xs.length (litAt n xs)
def downAt (xs : List Int) (i : Nat) : Bool := decide (i = 0) || decide ((xs.getD (i - 1) 0).natAbs ≤ (xs.getD i 0).natAbs)

theorem clause_eq (n : Int) (xs : List Int) : (litsB n xs && allB xs.length (downAt xs)) = allB xs.length (okAt n xs) := by
  rw [Bool.eq_iff_iff, Bool.and_eq_true]
  unfold litsB
  rw [allB_iff, allB_iff, allB_iff]
  constructor
  · rintro ⟨h1, h2⟩ i hi
    have a := h1 i hi
    have b := h2 i hi
    unfold litAt at a
    unfold downAt at b
    unfold okAt
    rw [Bool.and_eq_true, allB_iff] at a
    rw [Bool.and_eq_true]
    refine ⟨a.1, ?_⟩
    rcases Nat.eq_zero_or_pos i with rfl | h0
    · simp
    · have c := a.2 (i - 1) (by omega)
      have hz : ¬ i = 0 := by omega
      simp only [hz, decide_false, Bool.false_or, decide_eq_true_eq] at b c ⊢
      omega
  · intro h
    have mono : ∀ d i, i < xs.length → d ≤ i → d ≠ 0 → (xs.getD (i - d) 0).natAbs < (xs.getD i 0).natAbs := by
      intro d
      induction d with
      | zero => intro i _ _ h; exact absurd rfl h
      | succ d ih =>
        intro i hi hd _
        have a := h (i - d) (by omega)
        unfold okAt at a
        rw [Bool.and_eq_true] at a
        have hz : ¬ i - d = 0 := by omega
        have a2 := a.2
        simp only [hz, decide_false, Bool.false_or, decide_eq_true_eq] at a2
        rw [show i - d - 1 = i - (d + 1) by omega] at a2
        by_cases h0 : d = 0
        · subst h0; exact a2
        · exact Nat.lt_trans a2 (ih i hi (by omega) h0)
    refine ⟨fun i hi => ?_, fun i hi => ?_⟩
    · unfold litAt
      rw [Bool.and_eq_true, allB_iff]
      have a := h i hi
      unfold okAt at a
      rw [Bool.and_eq_true] at a
      refine ⟨a.1, fun j hj => ?_⟩
      have := mono (i - j) i hi (by omega) (by omega)
      rw [show i - (i - j) = j by omega] at this
      simp only [decide_eq_true_eq]
      omega
    · unfold downAt
      rcases Nat.eq_zero_or_pos i with rfl | h0
      · simp
      · have := mono 1 i hi (by omega) (by omega)
        rw [Bool.or_eq_true, decide_eq_true_eq, decide_eq_true_eq]
        right; omega

def formB (f : FormD) : Bool := (inB 1 10 f.letters && decide (f.clauses.length ≤ 48)) && allB f.clauses.length fun i => clauseB f.letters (f.clauses.getD i [])
def caseB (c : CaseD) : Bool := (nameB c.name && (formB c.form && decide (c.proof.length ≤ 128))) && allB c.proof.length fun i => clauseB c.form.letters (c.proof.getD i [])

theorem litB_bd {n x : Int} (hn : inB 1 10 n = true) (h : litB n x = true) : -10 ≤ x ∧ x ≤ 10 ∧ x ≠ 0 := by
  unfold litB inB at h
  unfold inB at hn
  simp only [Bool.and_eq_true, decide_eq_true_eq] at h hn
  omega

end Go.Proofs.YtggpbekclegfoaaDoor

namespace Go.Proofs.YtggpbekclegfoaaDoor
open Go.RowKit

theorem wp_region_cls {P : Program} {id : Nat} {Q : Exit → Act → World → Prop} {a : Act} {w : World} {l : List Oper} (C : World → Prop) (hm : P.follows .mixedOrders = true) (hB : Region.lexB .any l.toArray = true) (hC : C w.drew)
    (h : wpQuiet P l.toArray C (fun a' => ∀ w', C w' → Q .normal a' w') l a) : (Code.region id l.toArray true).wp P Q a w :=
  wp_region_quiet (C := C) hm hB hC (by simpa using h)

theorem q_step {P : Program} {ops : Array Oper} {C : World → Prop} {Q : Act → Prop} {o : Oper} {rest : List Oper} {a : Act} (hw : Region.wanted o (yielded ops a.tmps) = true)
    (h : ∃ v, (∀ X, C X → o.quietAt P a C X v) ∧ wpQuiet P ops C Q rest (a.put o.dst v)) : wpQuiet P ops C Q (o :: rest) a :=
  wpQuiet_step fun _ hK => by obtain ⟨v, h1, h2⟩ := h; rw [if_pos hw]; exact ⟨v, h1, hK _ h2⟩

end Go.Proofs.YtggpbekclegfoaaDoor

namespace Go.Proofs.YtggpbekclegfoaaDoor
open Go.RowKit

theorem getD_str (s : ByteArray) (k : Nat) (h : k < s.size) : s.data.toList.getD k 0 = s[k] := by
  have h' : k < s.data.toList.length := by simpa using h
  rw [List.getD_eq_getElem?_getD, List.getElem?_eq_getElem h']
  rfl

end Go.Proofs.YtggpbekclegfoaaDoor

namespace Go.Proofs.YtggpbekclegfoaaDoor
open Go.RowKit

end Go.Proofs.YtggpbekclegfoaaDoor

namespace Go.Proofs.YtggpbekclegfoaaDoor
open Go.RowKit

def by8 (n : Int) : Int := IntKind.u8.wrap n
theorem by8_eq (n : Int) : by8 n = n % 256 := by unfold by8; rw [IntKind.wrap_u8]
def bytesOf (s : ByteArray) : List Int := s.data.toList.map fun b => (b.toNat : Int)
theorem bytesOf_len (s : ByteArray) : (bytesOf s).length = s.size := by unfold bytesOf; rw [List.length_map, Array.length_toList]; rfl
theorem strCells_bytes (s : ByteArray) : Lib.strCells s = (bytesOf s).map B8 := by unfold Lib.strCells bytesOf; rw [List.map_map]; rfl
def clauseBytes (c : List Int) : List Int := by8 c.length :: c.map by8
def clausesBytes (L : List (List Int)) : List Int := L.flatMap clauseBytes
def headBytes (c : CaseD) : List Int := [67, 65, 83, 49] ++ [by8 c.name.size] ++ bytesOf c.name ++ [by8 c.form.letters, by8 c.form.clauses.length, by8 c.proof.length]
def bodyBytes (c : CaseD) : List Int := headBytes c ++ clausesBytes (c.form.clauses ++ c.proof)
def chkL (a : Int) (l : List Int) : Int := l.foldl (fun a b => (907 * a + b + 179) % 65003) a
def storeBytes (c : CaseD) : List Int := bodyBytes c ++ [by8 (chkL 0 (bodyBytes c)), by8 (chkL 0 (bodyBytes c) / 256)]
def storeS (c : CaseD) : ByteArray := strOfNums (storeBytes c)

theorem chkL_bd : ∀ (l : List Int) (a : Int), 0 ≤ a → a < 65003 → 0 ≤ chkL a l ∧ chkL a l < 65003
  | [], a, h0, h1 => ⟨h0, h1⟩
  | b :: r, a, h0, h1 => by
    show 0 ≤ chkL ((907 * a + b + 179) % 65003) r ∧ _
    exact chkL_bd r _ (by omega) (by omega)
theorem chkL_snoc (a : Int) (l : List Int) (b : Int) : chkL a (l ++ [b]) = (907 * chkL a l + b + 179) % 65003 := by simp [chkL]

/-- A clause that is one has at most ten literals. -/
theorem clause_len {n : Int} {xs : List Int} (h : clauseB n xs = true) : xs.length ≤ 10 := by
  unfold clauseB at h
  simp only [Bool.and_eq_true] at h
  obtain ⟨hn, hall⟩ := h
  have hall' := allB_iff.1 hall
  have key : ∀ i, i < xs.length → i + 1 ≤ (xs.getD i 0).natAbs := by
    intro i
    induction i with
    | zero =>
      intro hi
      have := hall' 0 hi
      unfold okAt litB at this
      simp only [Bool.and_eq_true, decide_eq_true_eq] at this
      omega
    | succ i ih =>
      intro hi
      have h1 := ih (by omega)
      have := hall' (i + 1) hi
      unfold okAt at this
      simp only [Bool.and_eq_true, Bool.or_eq_true, decide_eq_true_eq, Nat.add_sub_cancel] at this
      omega
  by_cases h10 : xs.length ≤ 10
  · exact h10
  · exfalso
    have h1 := key 10 (by omega)
    have := hall' 10 (by omega)
    unfold okAt litB at this
    simp only [Bool.and_eq_true] at this
    have h2 := inB_iff.1 this.1.2
    have h3 := inB_iff.1 hn
    omega
theorem clausesBytes_len : ∀ (L : List (List Int)), (∀ c ∈ L, c.length ≤ 10) → (clausesBytes L).length ≤ 11 * L.length
  | [], _ => by simp [clausesBytes]
  | c :: r, h => by
    have ih := clausesBytes_len r (fun x hx => h x (List.mem_cons_of_mem _ hx))
    have h1 := h c (List.mem_cons_self ..)
    show (clauseBytes c ++ clausesBytes r).length ≤ _
    rw [List.length_append]
    simp only [clauseBytes, List.length_cons, List.length_map]
    omega
theorem case_parts {c : CaseD} (h : caseB c = true) : c.name.size ≤ 8 ∧ c.form.clauses.length ≤ 48 ∧ c.proof.length ≤ 128 ∧ (∀ x ∈ c.form.clauses ++ c.proof, clauseB c.form.letters x = true) ∧ inB 1 10 c.form.letters = true := by
  unfold caseB formB nameB at h
  simp only [Bool.and_eq_true, decide_eq_true_eq] at h
  obtain ⟨⟨⟨h1, _⟩, ⟨⟨h2, h3⟩, h4⟩, h5⟩, h6⟩ := h
  have h1' := inB_iff.1 h1
  refine ⟨by omega, h3, h5, ?_, h2⟩
  intro x hx
  rcases List.mem_append.1 hx with hx | hx
  · obtain ⟨i, hi, rfl⟩ := List.mem_iff_getElem.1 hx
    have := allB_iff.1 h4 i hi
    simpa [hi] using this
  · obtain ⟨i, hi, rfl⟩ := List.mem_iff_getElem.1 hx
    have := allB_iff.1 h6 i hi
    simpa [hi] using this
theorem body_len {c : CaseD} (h : caseB c = true) : (bodyBytes c).length ≤ 2000 := by
  obtain ⟨h1, h2, h3, h4, _⟩ := case_parts h
  have h5 := clausesBytes_len (c.form.clauses ++ c.proof) (fun x hx => clause_len (h4 x hx))
  rw [List.length_append] at h5
  unfold bodyBytes headBytes
  simp only [List.length_append, List.length_cons, List.length_nil, bytesOf_len]
  omega

/-- All are bytes. -/
def AllB (xs : List Int) : Prop := ∀ x ∈ xs, 0 ≤ x ∧ x < 256
theorem AllB.append {a b : List Int} (h : AllB a) (k : AllB b) : AllB (a ++ b) := fun x hx => by
  rcases List.mem_append.1 hx with h1 | h1
  · exact h x h1
  · exact k x h1
theorem by8_rng (n : Int) : 0 ≤ by8 n ∧ by8 n < 256 := by rw [by8_eq]; omega
theorem bytesOf_rng (s : ByteArray) : AllB (bytesOf s) := fun x hx => by
  obtain ⟨b, _, rfl⟩ := List.mem_map.1 hx
  have := b.toNat_lt
  omega
theorem clauses_rng (L : List (List Int)) : AllB (clausesBytes L) := fun x hx => by
  obtain ⟨c, _, h⟩ := List.mem_flatMap.1 hx
  rcases List.mem_cons.1 h with rfl | h
  · exact by8_rng _
  · obtain ⟨y, _, rfl⟩ := List.mem_map.1 h
    exact by8_rng _
theorem lit_rng (a b c d : Int) (h : (0 ≤ a ∧ a < 256) ∧ (0 ≤ b ∧ b < 256) ∧ (0 ≤ c ∧ c < 256) ∧ (0 ≤ d ∧ d < 256)) : AllB [a, b, c, d] := fun x hx => by
  simp only [List.mem_cons, List.not_mem_nil, or_false] at hx
  rcases hx with rfl | rfl | rfl | rfl
  · exact h.1
  · exact h.2.1
  · exact h.2.2.1
  · exact h.2.2.2
theorem one_rng (a : Int) (h : 0 ≤ a ∧ a < 256) : AllB [a] := fun x hx => by
  simp only [List.mem_cons, List.not_mem_nil, or_false] at hx
  subst hx; exact h
theorem three_rng (a b c : Int) (h : (0 ≤ a ∧ a < 256) ∧ (0 ≤ b ∧ b < 256) ∧ (0 ≤ c ∧ c < 256)) : AllB [a, b, c] := fun x hx => by
  simp only [List.mem_cons, List.not_mem_nil, or_false] at hx
  rcases hx with rfl | rfl | rfl
  · exact h.1
  · exact h.2.1
  · exact h.2.2
theorem body_rng (c : CaseD) : AllB (bodyBytes c) :=
  AllB.append (AllB.append (AllB.append (AllB.append (lit_rng _ _ _ _ (by omega)) (one_rng _ (by8_rng _))) (bytesOf_rng _)) (three_rng _ _ _ ⟨by8_rng _, by8_rng _, by8_rng _⟩)) (clauses_rng _)
theorem bytes_back (xs : List Int) (h : AllB xs) : bytesOf (strOfNums xs) = xs := by
  unfold bytesOf
  rw [strOfNums_data, List.map_map]
  have : ∀ (l : List Int), AllB l → l.map ((fun b : UInt8 => (b.toNat : Int)) ∘ fun n : Int => UInt8.ofNat n.toNat) = l := by
    intro l
    induction l with
    | nil => intro _; rfl
    | cons x r ih =>
      intro hl
      have h1 := hl x (List.mem_cons_self ..)
      rw [List.map_cons, ih (fun y hy => hl y (List.mem_cons_of_mem _ hy))]
      congr 1
      simp only [Function.comp, UInt8.toNat_ofNat']
      omega
  exact this xs h

theorem clausesBytes_snoc (L : List (List Int)) (k : Nat) (h : k < L.length) : clausesBytes (L.take (k + 1)) = clausesBytes (L.take k) ++ clauseBytes (L.getD k []) := by
  rw [List.take_succ_eq_append_getElem h]
  unfold clausesBytes
  rw [List.flatMap_append]
  simp [h]
theorem clauseBytes_take (c : List Int) (j : Nat) (h : j < c.length) : (clauseBytes c).take (j + 2) = (clauseBytes c).take (j + 1) ++ [by8 (c.getD j 0)] := by
  unfold clauseBytes
  simp only [List.take_succ_cons, List.cons_append]
  rw [List.take_succ_eq_append_getElem (show j < (c.map by8).length by simpa using h)]
  simp [h]

theorem Tryd.infoU8 : (Tryd.prog.info? 5).map (fun i => (i.zero, i.size, i.bytes)) = some (some (.int .u8 0), 1, 1) := by kernel_rfl
theorem b8_one (xs : List Int) : ∀ u ∈ xs.map B8, u.oneCell' = true := by
  intro u hu
  obtain ⟨x, _, rfl⟩ := List.mem_map.1 hu
  rfl

/-- Append of bytes to what the call owns; it may be nil. -/
theorem app_bytes {w : World} {ops : Array Oper} {rest : List Oper} {o : Oper} {a : Act} {Q : Exit → Act → World → Prop} (hgd : o.guard = none) (s x : Operand)
    (ho : o.op = .call { callee := .builtin .append, args := #[s, x], argTypes := #[90, 90] })
    (base : Nat) (v : Value) (n : Nat) (xs : List Int) (hs : a.eval s = v) (hown : w.ownsRow base 5 1 v n (xs.map B8))
    (sv : Value) (news : List Int) (hx : a.eval x = sv) (hsv : Slc w sv (news.map B8)) (m : Nat) (ys : List Int) (hm : m = n + news.length) (hys : ys = xs ++ news) (hlen : m ≤ 1099511627776) (hbase : base ≤ w.heap.size)
    (h : ∀ a' cap' w', w'.ownsRow base 5 1 (.slice a' m cap') m (ys.map B8) → Below base w w' → w.grownBy w' v.ownBlock → wpList Tryd.prog ops Q rest (a.put o.dst (.slice a' m cap')) w') :
    wpList Tryd.prog ops Q (o :: rest) a w := by
  obtain ⟨i0, hi, hz0, hz1, hz2⟩ := info_parts Tryd.infoU8
  subst hm hys
  refine wpList_append_slc hgd s x 90 ho base 5 i0 (.int .u8 0) 1 Tryd.underlying90 hi hz0 hz1 hz2 rfl v n (xs.map B8) hs hown sv (news.map B8) hx hsv (b8_one news) (by simp [maxLen]; omega) (by simp; omega) hbase ?_
  intro v' w' h1 h2 h3
  have h1' : w'.ownsRow base 5 1 v' (n + news.length) ((xs ++ news).map B8) := by simpa using h1
  obtain ⟨a', cap', rfl⟩ := owns_shape h1'
  exact h a' cap' w' h1' (below_grown hown hbase h2) h2
/-- Append of a string's bytes. -/
theorem app_strB {w : World} {ops : Array Oper} {rest : List Oper} {o : Oper} {a : Act} {Q : Exit → Act → World → Prop} (hgd : o.guard = none) (s x : Operand)
    (ho : o.op = .call { callee := .builtin .append, args := #[s, x], argTypes := #[90, 9] })
    (base : Nat) (v : Value) (n : Nat) (xs : List Int) (hs : a.eval s = v) (hown : w.ownsRow base 5 1 v n (xs.map B8))
    (str : ByteArray) (hx : a.eval x = .string str) (m : Nat) (ys : List Int) (hm : m = n + str.size) (hys : ys = xs ++ bytesOf str) (hlen : m ≤ 1099511627776) (hbase : base ≤ w.heap.size)
    (h : ∀ a' cap' w', w'.ownsRow base 5 1 (.slice a' m cap') m (ys.map B8) → Below base w w' → w.grownBy w' v.ownBlock → wpList Tryd.prog ops Q rest (a.put o.dst (.slice a' m cap')) w') :
    wpList Tryd.prog ops Q (o :: rest) a w := by
  obtain ⟨i0, hi, hz0, hz1, hz2⟩ := info_parts Tryd.infoU8
  subst hm hys
  refine Lib.wpList_append_own_string w hgd s x 90 9 ho base 5 i0 Tryd.underlying90 Tryd.underlying9 hi hz0 hz1 hz2 v n (xs.map B8) hs hown str hx (by simp [maxLen]; omega) (by omega) hbase ?_
  intro v' w' h1 h2 h3
  have h1' : w'.ownsRow base 5 1 v' (n + str.size) ((xs ++ bytesOf str).map B8) := by rw [List.map_append, ← strCells_bytes]; exact h1
  obtain ⟨a', cap', rfl⟩ := owns_shape h1'
  exact h a' cap' w' h1' (below_grown hown hbase h2) h2
/-- A new row of bytes. -/
theorem ownsB_lit (w : World) (xs : List Int) (n b : Nat) (cs : Array Value) (hcs : cs = (xs.map B8).toArray) (hn : xs.length = n) (h4 : n ≤ 4) (hb : b = w.heap.size) :
    (w.alloc (.cells cs 5)).ownsRow w.heap.size 5 1 (.slice (some ⟨b, 0, none⟩) n n) n (xs.map B8) := by
  subst hcs hb hn
  have h := World.ownsRow_lit (base := w.heap.size) (e := 5) (size := 1) w (xs.map B8).toArray xs.length (Nat.le_refl _) (by simp [maxLen]; omega) (by simp)
  simpa using h
theorem slcB_lit (w : World) (xs : List Int) (n b : Nat) (cs : Array Value) (hcs : cs = (xs.map B8).toArray) (hn : xs.length = n) (h4 : n ≤ 4) (hb : b = w.heap.size) :
    Slc (w.alloc (.cells cs 5)) (.slice (some ⟨b, 0, none⟩) n n) (xs.map B8) := slc_of_owns (ownsB_lit w xs n b cs hcs hn h4 hb)
/-- The row of a constant string's bytes, with its mark. -/
theorem slcB_mark (w : World) (xs : List Int) (n b p q : Nat) (cs : Array Value) (hcs : cs = (xs.map B8).toArray) (hn : xs.length = n) (h4 : n ≤ 4) (hb : b = w.heap.size) :
    Slc (w.alloc (.cells cs 5 (p, q))) (.slice (some ⟨b, 0, none⟩) n n) (xs.map B8) := by
  subst hcs hb hn
  right
  refine ⟨⟨w.heap.size, 0, none⟩, xs.length, by simp, by simp, by unfold maxLen; omega, fun i u hi => ?_⟩
  have h1 : (w.alloc (.cells (xs.map B8).toArray 5 (p, q))).heap[w.heap.size]? = some (.cells (xs.map B8).toArray 5 (p, q)) := heap_alloc_new w _
  have h2 : ((⟨w.heap.size, 0, none⟩ : Addr).add i) = ⟨w.heap.size, i, none⟩ := by unfold Addr.add; split <;> simp_all
  rw [h2]
  have h3 : ((xs.map B8).toArray)[i]? = some u := by simpa using hi
  simp only [World.cell?, h1]
  simpa using h3
/-- Append to a full row that is not the call's own: always into a new one. -/
theorem app_bytes_grow {w : World} {ops : Array Oper} {rest : List Oper} {o : Oper} {a : Act} {Q : Exit → Act → World → Prop} (hgd : o.guard = none) (s x : Operand)
    (ho : o.op = .call { callee := .builtin .append, args := #[s, x], argTypes := #[90, 90] })
    (base : Nat) (b : Nat) (n : Nat) (xs : List Int) (hs : a.eval s = .slice (some ⟨b, 0, none⟩) n n) (hold : Slc w (.slice (some ⟨b, 0, none⟩) n n) (xs.map B8))
    (g k : Nat) (news : List Int) (hx : a.eval x = .slice (some ⟨g, 0, none⟩) k k) (hsv : Slc w (.slice (some ⟨g, 0, none⟩) k k) (news.map B8)) (hk : 0 < k) (m : Nat) (ys : List Int) (hm : m = n + k) (hys : ys = xs ++ news) (hlen : m ≤ 1099511627776) (hbase : base ≤ w.heap.size)
    (h : ∀ a' cap' w', w'.ownsRow base 5 1 (.slice a' m cap') m (ys.map B8) → Below base w w' → wpList Tryd.prog ops Q rest (a.put o.dst (.slice a' m cap')) w') :
    wpList Tryd.prog ops Q (o :: rest) a w := by
  obtain ⟨i0, hi, hz0, hz1, hz2⟩ := info_parts Tryd.infoU8
  subst hm hys
  have h1 : ∀ j u, (xs.map B8)[j]? = some u → w.cell? ((⟨b, 0, none⟩ : Addr).add j) = some u := by
    rcases hold with ⟨e, _⟩ | ⟨ad, c, e, _, _, hc⟩
    · cases e
    · simp only [Value.slice.injEq, Option.some.injEq] at e
      obtain ⟨rfl, _, _⟩ := e
      exact hc
  have h2 : ∀ j u, (news.map B8)[j]? = some u → w.cell? ((⟨g, 0, none⟩ : Addr).add j) = some u := by
    rcases hsv with ⟨e, _⟩ | ⟨ad, c, e, _, _, hc⟩
    · cases e
    · simp only [Value.slice.injEq, Option.some.injEq] at e
      obtain ⟨rfl, _, _⟩ := e
      exact hc
  have l1 : (xs.map B8).length = n := by
    rcases hold with ⟨e, _⟩ | ⟨ad, c, e, _, _, hc⟩
    · cases e
    · simp only [Value.slice.injEq] at e; exact e.2.1.symm
  have l2 : (news.map B8).length = k := by
    rcases hsv with ⟨e, _⟩ | ⟨ad, c, e, _, _, hc⟩
    · cases e
    · simp only [Value.slice.injEq] at e; exact e.2.1.symm
  refine wpList_append_grows w hgd s x 90 ho 5 i0 (.int .u8 0) 1 1 Tryd.underlying90 hi hz0 hz1 hz2 rfl (by decide) (some ⟨b, 0, none⟩) n n (xs.map B8) hs (fun e => by cases e) (by rw [l1, Nat.mul_one]) (fun b' e => by cases e; exact h1) ⟨g, 0, none⟩ k k (news.map B8) hx (by rw [l2, Nat.mul_one]) h2 (b8_one news) (by omega) (by simp [maxLen]; omega) (by omega) ?_
  intro v' w' r1 r2
  have r1' : w'.ownsRow base 5 1 v' (n + k) ((xs ++ news).map B8) := by rw [List.map_append]; exact owns_base r1 hbase
  obtain ⟨a', cap', rfl⟩ := owns_shape r1'
  exact h a' cap' w' r1' ((Below.refl _ _).grown r2 hbase (by intro k hk; cases hk))
/-- Bytes as a string. -/
theorem conv_bytes {w : World} {base n cap : Nat} {a : Option Addr} {xs : List Int} (h : w.ownsRow base 5 1 (.slice a n cap) n (xs.map B8)) (h0 : 0 < n) :
    (convert 90 9 (.slice a n cap)).run Tryd.prog w = .ok (.string (strOfNums xs)) w := by
  have hl : xs.length = n := by have := h.1; simpa using this
  obtain ⟨g, cap', e, _⟩ := owns_some h (by intro e; cases e; omega)
  simp only [Value.slice.injEq, true_and] at e
  obtain ⟨rfl, rfl⟩ := e
  refine run_convert_bytes_arg (P := Tryd.prog) w 90 5 Tryd.underlying90 Tryd.underlying5 g 0 n cap xs hl (fun i hi => ?_) 9 Tryd.underlying9
  obtain ⟨b, off, e, _, hc⟩ := (show RdB w (.slice (some ⟨g, 0, none⟩) xs.length cap) xs by rw [hl]; exact slc_of_owns h).at (i := i) (by omega)
  simp only [Option.some.injEq, Addr.mk.injEq, and_true] at e
  obtain ⟨rfl, rfl⟩ := e
  exact hc

end Go.Proofs.YtggpbekclegfoaaDoor

namespace Go.Proofs.YtggpbekclegfoaaDoor
open Go.RowKit

theorem bytesOf_get (s : ByteArray) (k : Nat) (h : k < s.size) : (bytesOf s)[k]? = some (s[k].toNat : Int) := by
  have hk : k < s.data.toList.length := by rw [Array.length_toList]; exact h
  have e : s.data.toList[k]? = some s[k] := by
    rw [List.getElem?_eq_getElem hk, Array.getElem_toList]; rfl
  unfold bytesOf
  rw [List.getElem?_map, e]
  rfl
theorem bytesOf_take (s : ByteArray) (k : Nat) (h : k < s.size) : (bytesOf s).take (k + 1) = (bytesOf s).take k ++ [(s[k].toNat : Int)] := by
  rw [List.take_add_one, bytesOf_get s k h]
  rfl

end Go.Proofs.YtggpbekclegfoaaDoor

namespace Go.Proofs.YtggpbekclegfoaaDoor
open Go.RowKit

def digI (n : Nat) : List Int := (Lib.decDigits n).map fun b => (b.toNat : Int)
def decS (n : Nat) : ByteArray := ⟨(Lib.decDigits n).toArray⟩
theorem digI_step (m : Nat) : digI m = (if m / 10 = 0 then [] else digI (m / 10)) ++ [48 + ((m % 10 : Nat) : Int)] := by
  unfold digI
  rw [Lib.decDigits]
  by_cases h : m < 10
  · rw [dif_pos h, if_pos (by omega)]
    have : m % 10 = m := Nat.mod_eq_of_lt h
    simp [this]
    omega
  · rw [dif_neg h, if_neg (by omega), List.map_append]
    have : m % 10 < 10 := Nat.mod_lt _ (by omega)
    simp
    omega
theorem digI_ne (m : Nat) : digI m ≠ [] := by rw [digI_step]; simp
theorem digI_len : ∀ (k n : Nat), n < 10 ^ (k + 1) → (digI n).length ≤ k + 1
  | 0, n, h => by
    rw [digI_step, if_pos (by omega)]; simp
  | k + 1, n, h => by
    rw [digI_step]
    split
    · simp
    · have := digI_len k (n / 10) (by rw [Nat.pow_succ] at h; omega)
      simp; omega
theorem digI_len20 {n : Nat} (h : n < 1000000000000000000) : (digI n).length ≤ 18 := digI_len 17 n h
theorem digI_rng (n : Nat) : ∀ x ∈ digI n, 0 ≤ x ∧ x < 256 := by
  intro x hx
  obtain ⟨b, _, rfl⟩ := List.mem_map.1 hx
  have := b.toNat_lt
  omega
theorem bytesOf_decS (n : Nat) : bytesOf (decS n) = digI n := rfl
theorem decS_of (n : Nat) : strOfNums (digI n) = decS n := by
  unfold strOfNums digI decS
  congr 2
  rw [List.map_map]
  conv => rhs; rw [← List.map_id (Lib.decDigits n)]
  refine List.map_congr_left fun b _ => ?_
  simp
theorem decS_size {n : Nat} (h : n < 1000000000000000000) : (decS n).size ≤ 18 := by rw [← bytesOf_len, bytesOf_decS]; exact digI_len20 h
theorem decS_pos (n : Nat) : 1 ≤ (decS n).size := by
  rw [← bytesOf_len, bytesOf_decS]
  cases h : digI n with
  | nil => exact absurd h (digI_ne n)
  | cons a l => simp

theorem below_grow {B : Nat} {w a : World} (h : Below B w a) (os : Array Obj) (hB : B ≤ a.heap.size) : Below B w (Sort.grow a os) :=
  ⟨h.os, h.tape, h.output, Nat.le_trans h.size (by simp [Sort.grow]), fun k hk => (by
    show (a.heap ++ os)[k]? = _
    rw [Array.getElem?_append_left (by omega)]
    exact h.block k hk)⟩

def HasPow (w : World) : Prop := Lib.TabIs Tryd.prog w "internal/strconv.uint64pow10" .u64 Lib.pow10Tab

theorem Decimal_any (n : Nat) (hn : n < 1000000000000000000) (w : World) (htab : HasPow w) :
    Calls Tryd.prog 36 #[.int .i64 n] w fun e w' => e = .returned (.string (decS n)) ∧ Below w.heap.size w w' := by
  have hcon := Tryd.strconv_FormatInt_10 n (by omega) (by omega) w htab
  have hi : (⟨(Lib.itoa n).toArray⟩ : ByteArray) = decS n := by
    unfold Lib.itoa decS
    rw [if_neg (by omega), Int.toNat_natCast]
  rw [hi] at hcon
  clear hi htab
  go_enter Tryd.func36, Tryd.ntmps36
  go_wp2_with (go_at_call 61; refine hcon.mono ?_; rintro e w' ⟨rfl, k, os, rfl⟩)
  go_ret
  exact ⟨rfl, below_grow (below_drewN (Below.refl _ _) _) _ (Nat.le_refl _)⟩

set_option maxHeartbeats 2000000 in
set_option maxRecDepth 4000 in
theorem l01Dec_any (n : Nat) (hn : n < 1000000000000000000) (w : World) :
    Calls Tryd.prog 58 #[.int .i64 n] w fun e w' => e = .returned (.string (decS n)) ∧ Below w.heap.size w w' := by
  have HL := Lib.hid (digI_len20 hn)
  have HS := Lib.hid (decS_of n)
  go_enter Tryd.func58, Tryd.ntmps58
  go_upto_region 3 with fail
  refine wp_at fun W1 hW1 => ?_
  have HO0 := Lib.hid (show W1.ownsRow w.heap.size 5 1 (.slice (some ⟨w.heap.size, 0, none⟩) 0 0) 0 (([] : List Int).map B8) by subst hW1; exact ownsB_lit w [] 0 w.heap.size #[] rfl rfl (by omega) rfl)
  have HB0 := Lib.hid (show Below w.heap.size w W1 by subst hW1; exact (Below.refl _ _).alloc (Nat.le_refl _) _)
  clear hW1
  go_loopw [3, 4] (fun ov rv wr => ∃ (m k : Nat) (L : List Int) (a : Option Addr) (cap : Nat), ov = .slice a k cap ∧ rv = .int .i64 m ∧ k ≤ 18 ∧ m ≤ n ∧ Hid (L.length = k) ∧ Hid (wr.ownsRow w.heap.size 5 1 (.slice a k cap) k (L.map B8)) ∧ Hid ((L = [] ∧ m = n) ∨ (L ≠ [] ∧ digI n = (if m = 0 then [] else digI m) ++ L)) ∧ Hid (Below w.heap.size w wr)) (fun ov rv _ => (intOf rv).toNat * 2 + (match ov with | .slice _ 0 _ => 1 | _ => 0))
  case atStart => exact ⟨n, 0, [], _, _, rfl, rfl, by omega, Nat.le_refl _, Lib.hid rfl, HO0, Lib.hid (.inl ⟨rfl, rfl⟩), HB0⟩
  case round =>
    clear HO0 HB0
    obtain ⟨m, k, L, a, cap, rfl, rfl, hk, hm, HK, HO, HD, HB⟩ := hrel
    by_cases hgo : k = 0 ∨ m ≠ 0
    · have HST := Lib.hid (show digI n = (if m / 10 = 0 then [] else digI (m / 10)) ++ ([48 + ((m % 10 : Nat) : Int)] ++ L) by
        rcases HD.out with ⟨h1, h2⟩ | ⟨h1, h2⟩
        · subst h1 h2
          exact digI_step m
        · have hm0 : m ≠ 0 := by
            rcases hgo with h | h
            · exact absurd (List.length_eq_zero_iff.1 (HK.out.trans h)) h1
            · exact h
          rw [h2, if_neg hm0, digI_step m, List.append_assoc])
      have HK1 := Lib.hid (show k + 1 ≤ 18 by
        have h1 := HL.out
        rw [HST.out] at h1
        have h2 := HK.out
        simp only [List.length_append, List.length_cons, List.length_nil] at h1
        omega)
      have hwq : ((m : Int)).tdiv 10 = ((m / 10 : Nat) : Int) := by rw [Int.tdiv_eq_ediv_of_nonneg (by omega)]; omega
      have hwr : ((m : Int)).tmod 10 = ((m % 10 : Nat) : Int) := by rw [Int.tmod_eq_emod_of_nonneg (by omega)]; omega
      have hr10 : m % 10 < 10 := Nat.mod_lt _ (by omega)
      have hq10 : m / 10 ≤ m := Nat.div_le_self _ _
      have HMQ := Lib.hid (show m ≠ 0 → m / 10 < m from fun h => Nat.div_lt_self (by omega) (by omega))
      obtain ⟨r, hr⟩ : ∃ r, r = m % 10 := ⟨_, rfl⟩
      obtain ⟨q, hq⟩ : ∃ q, q = m / 10 := ⟨_, rfl⟩
      rw [← hr] at hwr hr10 HST
      rw [← hq] at hwq hq10 HST HMQ
      clear hr hq
      have hrn : ¬ ((r : Int) < 0) := by omega
      have hwb : IntKind.u8.wrap (48 + (r : Int)) = 48 + (r : Int) := by simp [IntKind.wrap, IntKind.bits, IntKind.signed]; omega
      have hsz := HB.out.size
      rcases (show k = 0 ∨ (k ≠ 0 ∧ m ≠ 0) by omega) with hk0 | ⟨hk0, hm0⟩
      · subst hk0
        go_wp2_with (at_builtin; refine app_bytes rfl _ _ rfl w.heap.size _ 1 [48 + (r : Int)] rfl (owns_base (ownsB_lit wr [48 + (r : Int)] 1 _ _ rfl rfl (by omega) rfl) hsz) _ L rfl (slc_of_owns (owns_below HO.out ((Below.refl _ _).alloc (Nat.le_refl _) _) (Nat.le_refl _))) (0 + 1) ([48 + (r : Int)] ++ L) (by have := HK.out; omega) rfl (by omega) (by simp; omega) ?_; intro a' cap' w' r1 r2 _)
        go_roundw
        case rel => exact ⟨q, 0 + 1, [48 + (r : Int)] ++ L, a', cap', rfl, by go_num, HK1.out, by omega, Lib.hid (by have := HK.out; rw [List.length_append, this]; simp; try omega), Lib.hid r1, Lib.hid (.inr ⟨by simp, HST.out⟩), Lib.hid ((HB.out.alloc hsz _).trans r2)⟩
        case measure => simp [intOf]; omega
      · have hkI : ((k : Int) == 0) = false := by simp; omega
        have hmI : ((m : Int) != 0) = true := by simp; omega
        go_wp2_with (at_builtin; refine app_bytes rfl _ _ rfl w.heap.size _ 1 [48 + (r : Int)] rfl (owns_base (ownsB_lit wr [48 + (r : Int)] 1 _ _ rfl rfl (by omega) rfl) hsz) _ L rfl (slc_of_owns (owns_below HO.out ((Below.refl _ _).alloc (Nat.le_refl _) _) (Nat.le_refl _))) (k + 1) ([48 + (r : Int)] ++ L) (by have := HK.out; omega) rfl (by omega) (by simp; omega) ?_; intro a' cap' w' r1 r2 _)
        go_roundw
        case rel => exact ⟨q, k + 1, [48 + (r : Int)] ++ L, a', cap', by go_num, by go_num, HK1.out, by omega, Lib.hid (by have := HK.out; rw [List.length_append, this]; simp; try omega), Lib.hid r1, Lib.hid (.inr ⟨by simp, HST.out⟩), Lib.hid ((HB.out.alloc hsz _).trans r2)⟩
        case measure => have := HMQ.out hm0; simp [intOf]; omega
    · obtain ⟨hk0, rfl⟩ : k ≠ 0 ∧ m = 0 := by omega
      have hkI : ((k : Int) == 0) = false := by simp; omega
      have HE := Lib.hid (show L = digI n by
        rcases HD.out with ⟨h1, h2⟩ | ⟨h1, h2⟩
        · exact absurd (by rw [← HK.out, h1]; rfl) hk0
        · rw [h2, if_pos rfl, List.nil_append])
      have hn0 : ¬ ((n : Int) < 0) := by omega
      have hcv := conv_bytes HO.out (by omega)
      rw [HE.out, HS.out] at hcv
      go_wp2_with fail
      go_ret
      exact ⟨rfl, HB.out⟩

end Go.Proofs.YtggpbekclegfoaaDoor

namespace Go.Proofs.YtggpbekclegfoaaDoor
open Go.RowKit

def B1 (b : UInt8) : ByteArray := ⟨#[b]⟩
def ent (c : Nat) (l : ByteArray) : ByteArray := decS c ++ B1 32 ++ l ++ B1 10
def chkN (c : Nat) (l : ByteArray) : Nat := (chkL c (bytesOf l)).toNat
theorem chkN_eq {c : Nat} (h : c < 65003) (l : ByteArray) : chkL c (bytesOf l) = (chkN c l : Int) := by
  have := chkL_bd (bytesOf l) c (by omega) (by omega)
  unfold chkN
  omega
theorem chkN_lt {c : Nat} (h : c < 65003) (l : ByteArray) : chkN c l < 65003 := by
  have := chkL_bd (bytesOf l) c (by omega) (by omega)
  unfold chkN
  omega
def jrC (ls : List ByteArray) : Nat → Nat
  | 0 => 0
  | k + 1 => chkN (jrC ls k) (ls.getD k E0)
def jrS (ls : List ByteArray) : Nat → ByteArray
  | 0 => E0
  | k + 1 => jrS ls k ++ ent (jrC ls (k + 1)) (ls.getD k E0)
theorem jrC_lt (ls : List ByteArray) : ∀ k, jrC ls k < 65003
  | 0 => by simp [jrC]
  | k + 1 => chkN_lt (jrC_lt ls k) _
theorem ent_size (c : Nat) (l : ByteArray) : (ent c l).size = (decS c).size + l.size + 2 := by
  unfold ent
  rw [ByteArray.size_append, ByteArray.size_append, ByteArray.size_append]
  have e : ∀ b, (B1 b).size = 1 := fun _ => rfl
  rw [e, e]
  omega
theorem jrS_ge (ls : List ByteArray) : ∀ k, k ≤ ls.length → sumS (ls.take k) + 3 * k ≤ (jrS ls k).size
  | 0, _ => by simp [sumS, jrS]
  | k + 1, h => by
    have ih := jrS_ge ls k (by omega)
    have h1 := sumS_take ls k (by omega)
    have h2 := decS_pos (jrC ls (k + 1))
    show _ ≤ (jrS ls k ++ ent (jrC ls (k + 1)) (ls.getD k E0)).size
    rw [ByteArray.size_append, ent_size, h1]
    omega
theorem jrS_le (ls : List ByteArray) : ∀ k, k ≤ ls.length → (jrS ls k).size ≤ sumS (ls.take k) + 20 * k
  | 0, _ => by show E0.size ≤ _; exact Nat.zero_le _
  | k + 1, h => by
    have ih := jrS_le ls k (by omega)
    have h1 := sumS_take ls k (by omega)
    have h2 := decS_size (n := jrC ls (k + 1)) (by have := jrC_lt ls (k + 1); omega)
    show (jrS ls k ++ ent (jrC ls (k + 1)) (ls.getD k E0)).size ≤ _
    rw [ByteArray.size_append, ent_size, h1]
    omega
theorem jrS_mono (ls : List ByteArray) : ∀ (k d : Nat), (jrS ls k).size ≤ (jrS ls (k + d)).size
  | k, 0 => Nat.le_refl _
  | k, d + 1 => by
    refine Nat.le_trans (jrS_mono ls k d) ?_
    show _ ≤ (jrS ls (k + d) ++ _).size
    rw [ByteArray.size_append]
    omega
theorem sumS_le (ls : List ByteArray) : ∀ k, sumS (ls.take k) ≤ sumS ls := by
  intro k
  have : sumS ls = sumS (ls.take k) + sumS (ls.drop k) := by
    unfold sumS
    rw [← List.sum_append, ← List.map_append, List.take_append_drop]
  omega

def hasNL (l : ByteArray) : Bool := decide (0 ≤ Lib.indexByte l.data.toList 10)
theorem indexByte_mem (l : List UInt8) (c : UInt8) : 0 ≤ Lib.indexByte l c ↔ c ∈ l := by
  induction l with
  | nil => simp [Lib.indexByte]
  | cons b r ih =>
    have hge := Lib.indexByte_ge r c
    simp only [Lib.indexByte, List.mem_cons]
    by_cases hb : (b == c) = true
    · rw [if_pos hb]
      have := eq_of_beq hb
      simp [this]
    · rw [if_neg hb]
      have hne : ¬ c = b := fun e => hb (by simp [e])
      by_cases h2 : (Lib.indexByte r c == -1) = true
      · rw [if_pos h2]
        have h3 := eq_of_beq h2
        rw [h3] at ih
        simp only [hne, false_or, ← ih]
      · rw [if_neg h2]
        have h3 : ¬ Lib.indexByte r c = -1 := by simpa using h2
        simp only [hne, false_or, ← ih]
        omega
theorem hasNL_yes {l : ByteArray} {k : Nat} (hk : k < l.size) (h : l[k].toNat = 10) : hasNL l = true := by
  unfold hasNL
  rw [decide_eq_true_iff, indexByte_mem]
  have h1 : l.data.toList[k]? = some l[k] := by
    rw [List.getElem?_eq_getElem (by rw [Array.length_toList]; exact hk), Array.getElem_toList]; rfl
  have h2 : l[k] = 10 := UInt8.toNat_inj.1 (by rw [h]; rfl)
  rw [h2] at h1
  exact List.mem_of_getElem? h1
theorem hasNL_no {l : ByteArray} (h : ∀ k (hk : k < l.size), l[k].toNat ≠ 10) : hasNL l = false := by
  unfold hasNL
  rw [decide_eq_false_iff_not, indexByte_mem]
  intro hm
  obtain ⟨k, hk, he⟩ := List.mem_iff_getElem.1 hm
  rw [Array.length_toList] at hk
  refine h k hk ?_
  have : l[k] = 10 := by rw [← he, Array.getElem_toList]; rfl
  rw [this]; rfl

def noNL (ls : List ByteArray) : Bool := ls.all fun l => !hasNL l
def jrOk (ls : List ByteArray) : Bool := noNL ls && decide ((jrS ls ls.length).size ≤ 16000)
def jrR (ls : List ByteArray) : ByteArray := if jrOk ls = true then jrS ls ls.length else E0
theorem noNL_false {ls : List ByteArray} {k : Nat} (hk : k < ls.length) (h : hasNL (ls.getD k E0) = true) : noNL ls = false := by
  cases hb : noNL ls
  · rfl
  · unfold noNL at hb
    rw [List.all_eq_true] at hb
    have := hb _ (getD_mem hk)
    rw [h] at this
    cases this
theorem noNL_true {ls : List ByteArray} (h : ∀ k, k < ls.length → hasNL (ls.getD k E0) = false) : noNL ls = true := by
  unfold noNL
  rw [List.all_eq_true]
  intro l hl
  obtain ⟨k, hk, rfl⟩ := List.mem_iff_getElem.1 hl
  have := h k hk
  rw [List.getD_eq_getElem?_getD, List.getElem?_eq_getElem hk] at this
  rw [show (some ls[k]).getD E0 = ls[k] from rfl] at this
  rw [this]; rfl
theorem jrOk_nl {ls : List ByteArray} {k : Nat} (hk : k < ls.length) (h : hasNL (ls.getD k E0) = true) : jrOk ls = false ∧ jrR ls = E0 := by
  have : jrOk ls = false := by unfold jrOk; rw [noNL_false hk h]; rfl
  exact ⟨this, by unfold jrR; rw [this]; rfl⟩
theorem jrOk_big {ls : List ByteArray} (h : 16000 < (jrS ls ls.length).size) : jrOk ls = false ∧ jrR ls = E0 := by
  have : jrOk ls = false := by unfold jrOk; rw [show decide ((jrS ls ls.length).size ≤ 16000) = false by simp; omega, Bool.and_false]
  exact ⟨this, by unfold jrR; rw [this]; rfl⟩
theorem jrOk_big2 {ls : List ByteArray} {k : Nat} (hk : k ≤ ls.length) (h : 16000 < sumS (ls.take k) + 3 * k) : jrOk ls = false ∧ jrR ls = E0 := by
  refine jrOk_big ?_
  have h1 := jrS_ge ls k hk
  have h2 := jrS_mono ls k (ls.length - k)
  rw [show k + (ls.length - k) = ls.length by omega] at h2
  omega
theorem jrOk_yes {ls : List ByteArray} (h : ∀ k, k < ls.length → hasNL (ls.getD k E0) = false) (h2 : (jrS ls ls.length).size ≤ 16000) : jrOk ls = true ∧ jrR ls = jrS ls ls.length := by
  have : jrOk ls = true := by unfold jrOk; rw [noNL_true h]; simp; exact h2
  exact ⟨this, by unfold jrR; rw [if_pos this]⟩
theorem strCells_add (a b : ByteArray) : Lib.strCells (a ++ b) = Lib.strCells a ++ Lib.strCells b := by
  unfold Lib.strCells
  rw [ByteArray.data_append, Array.toList_append, List.map_append]

end Go.Proofs.YtggpbekclegfoaaDoor

namespace Go.Proofs.YtggpbekclegfoaaDoor
open Go.RowKit

def noneS : ByteArray := ⟨#[110, 111, 110, 101]⟩
def joinBy (c : UInt8) (ws : List ByteArray) : ByteArray := ⟨(Lib.join (ws.map (·.data.toList)) [c]).toArray⟩
def textS (ws : List ByteArray) : ByteArray := if ws.isEmpty = true then noneS else joinBy 44 ws
theorem joinBy_one (c : UInt8) (x : ByteArray) : joinBy c [x] = x := by
  unfold joinBy
  rw [List.map_cons, List.map_nil, Lib.join_one]
theorem joinBy_snoc (c : UInt8) (ws : List ByteArray) (x : ByteArray) (h : ws ≠ []) : joinBy c (ws ++ [x]) = joinBy c ws ++ B1 c ++ x := by
  cases ws with
  | nil => exact absurd rfl h
  | cons y r =>
    apply ByteArray.ext
    unfold joinBy
    rw [ByteArray.data_append, ByteArray.data_append]
    apply Array.ext'
    rw [Array.toList_append, Array.toList_append, List.cons_append, List.map_cons, List.map_cons, Lib.join_cons, Lib.join_cons, List.map_append]
    unfold Lib.joinTail
    simp [B1]
/-- The first k of them. -/
def jnK (c : UInt8) (ws : List ByteArray) (k : Nat) : ByteArray := joinBy c (ws.take k)
theorem jnK_one (c : UInt8) (ws : List ByteArray) (h : 0 < ws.length) : jnK c ws 1 = ws.getD 0 E0 := by
  cases ws with
  | nil => simp at h
  | cons y r => exact joinBy_one c y
theorem jnK_succ (c : UInt8) (ws : List ByteArray) (k : Nat) (h : k < ws.length) (hk : 1 ≤ k) : jnK c ws (k + 1) = jnK c ws k ++ B1 c ++ ws.getD k E0 := by
  unfold jnK
  rw [List.take_add_one, List.getElem?_eq_getElem h, List.getD_eq_getElem?_getD, List.getElem?_eq_getElem h]
  exact joinBy_snoc c _ _ (by intro e; have := congrArg List.length e; rw [List.length_take, List.length_nil] at this; omega)
theorem jnK_all (c : UInt8) (ws : List ByteArray) : jnK c ws ws.length = joinBy c ws := by unfold jnK; rw [List.take_length]
theorem joinBy_size (c : UInt8) (ws : List ByteArray) (N : Nat) (h : ∀ x ∈ ws, x.size ≤ N) : (joinBy c ws).size ≤ (N + 1) * ws.length := by
  have hs : ∀ (l : List UInt8), (⟨l.toArray⟩ : ByteArray).size = l.length := fun l => by simp [ByteArray.size]
  unfold joinBy
  rw [hs]
  cases ws with
  | nil => simp [Lib.join_nil]
  | cons y r =>
    rw [List.map_cons, Lib.join_length]
    have hl : ∀ (r : List ByteArray), (∀ x ∈ r, x.size ≤ N) → Lib.lens (r.map (·.data.toList)) ≤ N * r.length := by
      intro r
      induction r with
      | nil => intro _; simp [Lib.lens]
      | cons z s ih =>
        intro h
        have h1 := h z (by simp)
        have h2 := ih fun x hx => h x (by simp [hx])
        have e : z.data.toList.length = z.size := by rw [Array.length_toList]; rfl
        unfold Lib.lens at h2 ⊢
        rw [List.map_cons, List.map_cons, List.sum_cons, e, List.length_cons, Nat.mul_succ]
        omega
    have h3 := hl (y :: r) h
    rw [List.map_cons] at h3
    simp only [List.length_cons, List.length_map, List.length_nil] at h3 ⊢
    have e : (N + 1) * (r.length + 1) = N * (r.length + 1) + (r.length + 1) := by rw [Nat.add_mul, Nat.one_mul]
    rw [e]
    omega

end Go.Proofs.YtggpbekclegfoaaDoor

namespace Go.Proofs.YtggpbekclegfoaaDoor
open Go.RowKit

def allIn (lo hi : Int) (xs : List Int) : Bool := xs.all (inB lo hi)

theorem allIn_true {lo hi : Int} {xs : List Int} (h : ∀ i, i < xs.length → inB lo hi (xs.getD i 0) = true) : allIn lo hi xs = true := by
  unfold allIn
  rw [List.all_eq_true]
  intro x hx
  obtain ⟨i, hi, rfl⟩ := List.mem_iff_getElem.1 hx
  have := h i hi
  simpa [hi] using this
theorem allIn_false {lo hi : Int} {xs : List Int} {i : Nat} (hlt : i < xs.length) (h : inB lo hi (xs.getD i 0) = false) : allIn lo hi xs = false := by
  unfold allIn
  rw [List.all_eq_false]
  exact ⟨xs[i], List.getElem_mem hlt, by simpa [hlt] using h⟩

set_option maxHeartbeats 400000 in
theorem allWithin_any (v : Value) (xs : List Int) (lo hi : Int) (w : World) (h : RdI w v xs) :
    Calls Tryd.prog 78 #[v, .int .i64 lo, .int .i64 hi] w fun e w' => e = .returned (.bool (allIn lo hi xs)) ∧ w = w' := by
  obtain ⟨a, c, rfl⟩ := h.shape
  have hl := h.len
  unfold maxLen at hl
  have HS := Lib.hid h
  clear h
  go_enter Tryd.func78, Tryd.ntmps78
  go_wp2_with fail
  go_loop [11] (fun i => ∃ k : Nat, i = .int .i64 k ∧ k ≤ xs.length ∧ Hid (∀ i, i < k → inB lo hi (xs.getD i 0) = true)) (fun i => xs.length - (intOf i).toNat)
  case atStart => exact ⟨0, rfl, Nat.zero_le _, fun i hi => by omega⟩
  case round =>
    obtain ⟨k, rfl, hk, hall⟩ := hrel
    by_cases hlt : k < xs.length
    · obtain ⟨b, off, rfl, hb, hc⟩ := HS.out.at hlt
      obtain ⟨x, hx⟩ : ∃ x, x = xs.getD k 0 := ⟨_, rfl⟩
      rw [← hx] at hc
      have HX := Lib.hid hx
      clear hx
      by_cases hin : inB lo hi x = true
      · go_wp2_with (go_at_call 51; refine (within_any _ _ _ _).mono ?_; rintro e w' ⟨rfl, rfl⟩)
        go_round
        case rel => exact ⟨k + 1, by go_num, by omega, fun i hi => by
          rcases Nat.lt_succ_iff_lt_or_eq.1 hi with h | rfl
          · exact hall.out i h
          · rw [← HX.out]; exact hin⟩
        case measure => simp [intOf]; omega
      · have hin' : inB lo hi x = false := by simpa using hin
        go_wp2_with (go_at_call 51; refine (within_any _ _ _ _).mono ?_; rintro e w' ⟨rfl, rfl⟩)
        go_ret
        exact ⟨by rw [allIn_false hlt (by rw [← HX.out]; exact hin')]; rfl, rfl⟩
    · obtain rfl : k = xs.length := by omega
      go_wp2_with fail
      go_ret
      exact ⟨by rw [allIn_true hall.out]; rfl, rfl⟩

theorem allIn_iff (lo hi : Int) (xs : List Int) : allIn lo hi xs = true ↔ ∀ i, i < xs.length → inB lo hi (xs.getD i 0) = true := by
  constructor
  · intro h i hi
    unfold allIn at h
    rw [List.all_eq_true] at h
    have := h xs[i] (List.getElem_mem hi)
    simpa [hi] using this
  · exact allIn_true

def Rising (xs : List Int) : Prop := ∀ i, i < xs.length → 0 < i → xs.getD (i - 1) 0 < xs.getD i 0
instance (xs : List Int) : Decidable (Rising xs) := by unfold Rising; exact inferInstance
def risingB (xs : List Int) : Bool := decide (Rising xs)
theorem risingB_true {xs : List Int} (h : Rising xs) : risingB xs = true := by simp [risingB, h]
theorem risingB_false {xs : List Int} (h : ¬ Rising xs) : risingB xs = false := by simp [risingB, h]

end Go.Proofs.YtggpbekclegfoaaDoor
