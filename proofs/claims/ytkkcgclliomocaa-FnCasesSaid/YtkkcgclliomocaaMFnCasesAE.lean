/-
  FnCases: texts joined: StoreM, Check, MarkJ.
-/
import Derived.Lib.AppendStr
import Derived.Laws.BytesArg
import Derived.Lib.SlBytesConst
import Derived.ArgAppend
import Derived.Deep.RegionHeld3
import Derived.Test.YtkkcgclliomocaaMFnCasesAA
import Derived.Test.YtkkcgclliomocaaMFnCasesAC
import Derived.Test.YtkkcgclliomocaaMFnCasesAD
namespace Go.Proofs.Ytkkcgclliomocaa
open Go.RowKit

def by8 (n : Int) : Int := IntKind.u8.wrap n
theorem by8_eq (n : Int) : by8 n = n % 256 := by unfold by8; rw [IntKind.wrap_u8]
def bytesOf (s : ByteArray) : List Int := s.data.toList.map fun b => (b.toNat : Int)
theorem bytesOf_len (s : ByteArray) : (bytesOf s).length = s.size := by unfold bytesOf; rw [List.length_map, Array.length_toList]; rfl
theorem strCells_bytes (s : ByteArray) : Lib.strCells s = (bytesOf s).map B8 := by unfold Lib.strCells bytesOf; rw [List.map_map]; rfl
def clauseBytes (c : List Int) : List Int := by8 c.length :: c.map by8
def clausesBytes (L : List (List Int)) : List Int := L.flatMap clauseBytes
def headBytes (c : CaseD) : List Int := [67, 65, 83, 49] ++ [by8 c.name.size] ++ bytesOf c.name ++ [by8 c.form.letters, by8 c.form.clauses.length, by8 c.proof.length]
def bodyBytes (c : CaseD) : List Int := headBytes c ++ clausesBytes (c.form.clauses ++ c.proof)
def chkL (a : Int) (l : List Int) : Int := l.foldl (fun a b => (907 * a + b + 179) % 65003) a
def storeBytes (c : CaseD) : List Int := bodyBytes c ++ [by8 (chkL 0 (bodyBytes c)), by8 (chkL 0 (bodyBytes c) / 256)]
def storeS (c : CaseD) : ByteArray := strOfNums (storeBytes c)

theorem chkL_bd : ∀ (l : List Int) (a : Int), 0 ≤ a → a < 65003 → 0 ≤ chkL a l ∧ chkL a l < 65003
  | [], a, h0, h1 => ⟨h0, h1⟩
  | b :: r, a, h0, h1 => by
    show 0 ≤ chkL ((907 * a + b + 179) % 65003) r ∧ _
    exact chkL_bd r _ (by omega) (by omega)
theorem chkL_snoc (a : Int) (l : List Int) (b : Int) : chkL a (l ++ [b]) = (907 * chkL a l + b + 179) % 65003 := by simp [chkL]

/-- A clause that is one has at most ten literals. -/
theorem clause_len {n : Int} {xs : List Int} (h : clauseB n xs = true) : xs.length ≤ 10 := by
  unfold clauseB at h
  simp only [Bool.and_eq_true] at h
  obtain ⟨hn, hall⟩ := h
  have hall' := allB_iff.1 hall
  have key : ∀ i, i < xs.length → i + 1 ≤ (xs.getD i 0).natAbs := by
    intro i
    induction i with
    | zero =>
      intro hi
      have := hall' 0 hi
      unfold okAt litB at this
      simp only [Bool.and_eq_true, decide_eq_true_eq] at this
      omega
    | succ i ih =>
      intro hi
      have h1 := ih (by omega)
      have := hall' (i + 1) hi
      unfold okAt at this
      simp only [Bool.and_eq_true, Bool.or_eq_true, decide_eq_true_eq, Nat.add_sub_cancel] at this
      omega
  by_cases h10 : xs.length ≤ 10
  · exact h10
  · exfalso
    have h1 := key 10 (by omega)
    have := hall' 10 (by omega)
    unfold okAt litB at this
    simp only [Bool.and_eq_true] at this
    have h2 := inB_iff.1 this.1.2
    have h3 := inB_iff.1 hn
    omega
theorem clausesBytes_len : ∀ (L : List (List Int)), (∀ c ∈ L, c.length ≤ 10) → (clausesBytes L).length ≤ 11 * L.length
  | [], _ => by simp [clausesBytes]
  | c :: r, h => by
    have ih := clausesBytes_len r (fun x hx => h x (List.mem_cons_of_mem _ hx))
    have h1 := h c (List.mem_cons_self ..)
    show (clauseBytes c ++ clausesBytes r).length ≤ _
    rw [List.length_append]
    simp only [clauseBytes, List.length_cons, List.length_map]
    omega
theorem case_parts {c : CaseD} (h : caseB c = true) : c.name.size ≤ 8 ∧ c.form.clauses.length ≤ 48 ∧ c.proof.length ≤ 128 ∧ (∀ x ∈ c.form.clauses ++ c.proof, clauseB c.form.letters x = true) ∧ inB 1 10 c.form.letters = true := by
  unfold caseB formB nameB at h
  simp only [Bool.and_eq_true, decide_eq_true_eq] at h
  obtain ⟨⟨⟨h1, _⟩, ⟨⟨h2, h3⟩, h4⟩, h5⟩, h6⟩ := h
  have h1' := inB_iff.1 h1
  refine ⟨by omega, h3, h5, ?_, h2⟩
  intro x hx
  rcases List.mem_append.1 hx with hx | hx
  · obtain ⟨i, hi, rfl⟩ := List.mem_iff_getElem.1 hx
    have := allB_iff.1 h4 i hi
    simpa [hi] using this
  · obtain ⟨i, hi, rfl⟩ := List.mem_iff_getElem.1 hx
    have := allB_iff.1 h6 i hi
    simpa [hi] using this
theorem body_len {c : CaseD} (h : caseB c = true) : (bodyBytes c).length ≤ 2000 := by
  obtain ⟨h1, h2, h3, h4, _⟩ := case_parts h
  have h5 := clausesBytes_len (c.form.clauses ++ c.proof) (fun x hx => clause_len (h4 x hx))
  rw [List.length_append] at h5
  unfold bodyBytes headBytes
  simp only [List.length_append, List.length_cons, List.length_nil, bytesOf_len]
  omega

/-- All are bytes. -/
def AllB (xs : List Int) : Prop := ∀ x ∈ xs, 0 ≤ x ∧ x < 256
theorem AllB.append {a b : List Int} (h : AllB a) (k : AllB b) : AllB (a ++ b) := fun x hx => by
  rcases List.mem_append.1 hx with h1 | h1
  · exact h x h1
  · exact k x h1
theorem by8_rng (n : Int) : 0 ≤ by8 n ∧ by8 n < 256 := by rw [by8_eq]; omega
theorem bytesOf_rng (s : ByteArray) : AllB (bytesOf s) := fun x hx => by
  obtain ⟨b, _, rfl⟩ := List.mem_map.1 hx
  have := b.toNat_lt
  omega
theorem clauses_rng (L : List (List Int)) : AllB (clausesBytes L) := fun x hx => by
  obtain ⟨c, _, h⟩ := List.mem_flatMap.1 hx
  rcases List.mem_cons.1 h with rfl | h
  · exact by8_rng _
  · obtain ⟨y, _, rfl⟩ := List.mem_map.1 h
    exact by8_rng _
theorem lit_rng (a b c d : Int) (h : (0 ≤ a ∧ a < 256) ∧ (0 ≤ b ∧ b < 256) ∧ (0 ≤ c ∧ c < 256) ∧ (0 ≤ d ∧ d < 256)) : AllB [a, b, c, d] := fun x hx => by
  simp only [List.mem_cons, List.not_mem_nil, or_false] at hx
  rcases hx with rfl | rfl | rfl | rfl
  · exact h.1
  · exact h.2.1
  · exact h.2.2.1
  · exact h.2.2.2
theorem one_rng (a : Int) (h : 0 ≤ a ∧ a < 256) : AllB [a] := fun x hx => by
  simp only [List.mem_cons, List.not_mem_nil, or_false] at hx
  subst hx; exact h
theorem three_rng (a b c : Int) (h : (0 ≤ a ∧ a < 256) ∧ (0 ≤ b ∧ b < 256) ∧ (0 ≤ c ∧ c < 256)) : AllB [a, b, c] := fun x hx => by
  simp only [List.mem_cons, List.not_mem_nil, or_false] at hx
  rcases hx with rfl | rfl | rfl
  · exact h.1
  · exact h.2.1
  · exact h.2.2
theorem body_rng (c : CaseD) : AllB (bodyBytes c) :=
  AllB.append (AllB.append (AllB.append (AllB.append (lit_rng _ _ _ _ (by omega)) (one_rng _ (by8_rng _))) (bytesOf_rng _)) (three_rng _ _ _ ⟨by8_rng _, by8_rng _, by8_rng _⟩)) (clauses_rng _)
theorem bytes_back (xs : List Int) (h : AllB xs) : bytesOf (strOfNums xs) = xs := by
  unfold bytesOf
  rw [strOfNums_data, List.map_map]
  have : ∀ (l : List Int), AllB l → l.map ((fun b : UInt8 => (b.toNat : Int)) ∘ fun n : Int => UInt8.ofNat n.toNat) = l := by
    intro l
    induction l with
    | nil => intro _; rfl
    | cons x r ih =>
      intro hl
      have h1 := hl x (List.mem_cons_self ..)
      rw [List.map_cons, ih (fun y hy => hl y (List.mem_cons_of_mem _ hy))]
      congr 1
      simp only [Function.comp, UInt8.toNat_ofNat']
      omega
  exact this xs h

theorem clausesBytes_snoc (L : List (List Int)) (k : Nat) (h : k < L.length) : clausesBytes (L.take (k + 1)) = clausesBytes (L.take k) ++ clauseBytes (L.getD k []) := by
  rw [List.take_succ_eq_append_getElem h]
  unfold clausesBytes
  rw [List.flatMap_append]
  simp [h]
theorem clauseBytes_take (c : List Int) (j : Nat) (h : j < c.length) : (clauseBytes c).take (j + 2) = (clauseBytes c).take (j + 1) ++ [by8 (c.getD j 0)] := by
  unfold clauseBytes
  simp only [List.take_succ_cons, List.cons_append]
  rw [List.take_succ_eq_append_getElem (show j < (c.map by8).length by simpa using h)]
  simp [h]

theorem Try.infoU8 : (Try.prog.info? 5).map (fun i => (i.zero, i.size, i.bytes)) = some (some (.int .u8 0), 1, 1) := by kernel_rfl
theorem b8_one (xs : List Int) : ∀ u ∈ xs.map B8, u.oneCell' = true := by
  intro u hu
  obtain ⟨x, _, rfl⟩ := List.mem_map.1 hu
  rfl

/-- Append of bytes to what the call owns; it may be nil. -/
theorem app_bytes {w : World} {ops : Array Oper} {rest : List Oper} {o : Oper} {a : Act} {Q : Exit → Act → World → Prop} (hgd : o.guard = none) (s x : Operand)
    (ho : o.op = .call { callee := .builtin .append, args := #[s, x], argTypes := #[22, 22] })
    (base : Nat) (v : Value) (n : Nat) (xs : List Int) (hs : a.eval s = v) (hown : w.ownsRow base 5 1 v n (xs.map B8))
    (sv : Value) (news : List Int) (hx : a.eval x = sv) (hsv : Slc w sv (news.map B8)) (m : Nat) (ys : List Int) (hm : m = n + news.length) (hys : ys = xs ++ news) (hlen : m ≤ 1099511627776) (hbase : base ≤ w.heap.size)
    (h : ∀ a' cap' w', w'.ownsRow base 5 1 (.slice a' m cap') m (ys.map B8) → Below base w w' → w.grownBy w' v.ownBlock → wpList Try.prog ops Q rest (a.put o.dst (.slice a' m cap')) w') :
    wpList Try.prog ops Q (o :: rest) a w := by
  obtain ⟨i0, hi, hz0, hz1, hz2⟩ := info_parts Try.infoU8
  subst hm hys
  refine wpList_append_slc hgd s x 22 ho base 5 i0 (.int .u8 0) 1 Try.underlying22 hi hz0 hz1 hz2 rfl v n (xs.map B8) hs hown sv (news.map B8) hx hsv (b8_one news) (by simp [maxLen]; omega) (by simp; omega) hbase ?_
  intro v' w' h1 h2 h3
  have h1' : w'.ownsRow base 5 1 v' (n + news.length) ((xs ++ news).map B8) := by simpa using h1
  obtain ⟨a', cap', rfl⟩ := owns_shape h1'
  exact h a' cap' w' h1' (below_grown hown hbase h2) h2
/-- Append of a string's bytes. -/
theorem app_strB {w : World} {ops : Array Oper} {rest : List Oper} {o : Oper} {a : Act} {Q : Exit → Act → World → Prop} (hgd : o.guard = none) (s x : Operand)
    (ho : o.op = .call { callee := .builtin .append, args := #[s, x], argTypes := #[22, 9] })
    (base : Nat) (v : Value) (n : Nat) (xs : List Int) (hs : a.eval s = v) (hown : w.ownsRow base 5 1 v n (xs.map B8))
    (str : ByteArray) (hx : a.eval x = .string str) (m : Nat) (ys : List Int) (hm : m = n + str.size) (hys : ys = xs ++ bytesOf str) (hlen : m ≤ 1099511627776) (hbase : base ≤ w.heap.size)
    (h : ∀ a' cap' w', w'.ownsRow base 5 1 (.slice a' m cap') m (ys.map B8) → Below base w w' → w.grownBy w' v.ownBlock → wpList Try.prog ops Q rest (a.put o.dst (.slice a' m cap')) w') :
    wpList Try.prog ops Q (o :: rest) a w := by
  obtain ⟨i0, hi, hz0, hz1, hz2⟩ := info_parts Try.infoU8
  subst hm hys
  refine Lib.wpList_append_own_string w hgd s x 22 9 ho base 5 i0 Try.underlying22 Try.underlying9 hi hz0 hz1 hz2 v n (xs.map B8) hs hown str hx (by simp [maxLen]; omega) (by omega) hbase ?_
  intro v' w' h1 h2 h3
  have h1' : w'.ownsRow base 5 1 v' (n + str.size) ((xs ++ bytesOf str).map B8) := by rw [List.map_append, ← strCells_bytes]; exact h1
  obtain ⟨a', cap', rfl⟩ := owns_shape h1'
  exact h a' cap' w' h1' (below_grown hown hbase h2) h2
/-- A new row of bytes. -/
theorem ownsB_lit (w : World) (xs : List Int) (n b : Nat) (cs : Array Value) (hcs : cs = (xs.map B8).toArray) (hn : xs.length = n) (h4 : n ≤ 4) (hb : b = w.heap.size) :
    (w.alloc (.cells cs 5)).ownsRow w.heap.size 5 1 (.slice (some ⟨b, 0, none⟩) n n) n (xs.map B8) := by
  subst hcs hb hn
  have h := World.ownsRow_lit (base := w.heap.size) (e := 5) (size := 1) w (xs.map B8).toArray xs.length (Nat.le_refl _) (by simp [maxLen]; omega) (by simp)
  simpa using h
theorem slcB_lit (w : World) (xs : List Int) (n b : Nat) (cs : Array Value) (hcs : cs = (xs.map B8).toArray) (hn : xs.length = n) (h4 : n ≤ 4) (hb : b = w.heap.size) :
    Slc (w.alloc (.cells cs 5)) (.slice (some ⟨b, 0, none⟩) n n) (xs.map B8) := slc_of_owns (ownsB_lit w xs n b cs hcs hn h4 hb)
/-- The row of a constant string's bytes, with its mark. -/
theorem slcB_mark (w : World) (xs : List Int) (n b p q : Nat) (cs : Array Value) (hcs : cs = (xs.map B8).toArray) (hn : xs.length = n) (h4 : n ≤ 4) (hb : b = w.heap.size) :
    Slc (w.alloc (.cells cs 5 (p, q))) (.slice (some ⟨b, 0, none⟩) n n) (xs.map B8) := by
  subst hcs hb hn
  right
  refine ⟨⟨w.heap.size, 0, none⟩, xs.length, by simp, by simp, by unfold maxLen; omega, fun i u hi => ?_⟩
  have h1 : (w.alloc (.cells (xs.map B8).toArray 5 (p, q))).heap[w.heap.size]? = some (.cells (xs.map B8).toArray 5 (p, q)) := heap_alloc_new w _
  have h2 : ((⟨w.heap.size, 0, none⟩ : Addr).add i) = ⟨w.heap.size, i, none⟩ := by unfold Addr.add; split <;> simp_all
  rw [h2]
  have h3 : ((xs.map B8).toArray)[i]? = some u := by simpa using hi
  simp only [World.cell?, h1]
  simpa using h3
/-- Append to a full row that is not the call's own: always into a new one. -/
theorem app_bytes_grow {w : World} {ops : Array Oper} {rest : List Oper} {o : Oper} {a : Act} {Q : Exit → Act → World → Prop} (hgd : o.guard = none) (s x : Operand)
    (ho : o.op = .call { callee := .builtin .append, args := #[s, x], argTypes := #[22, 22] })
    (base : Nat) (b : Nat) (n : Nat) (xs : List Int) (hs : a.eval s = .slice (some ⟨b, 0, none⟩) n n) (hold : Slc w (.slice (some ⟨b, 0, none⟩) n n) (xs.map B8))
    (g k : Nat) (news : List Int) (hx : a.eval x = .slice (some ⟨g, 0, none⟩) k k) (hsv : Slc w (.slice (some ⟨g, 0, none⟩) k k) (news.map B8)) (hk : 0 < k) (m : Nat) (ys : List Int) (hm : m = n + k) (hys : ys = xs ++ news) (hlen : m ≤ 1099511627776) (hbase : base ≤ w.heap.size)
    (h : ∀ a' cap' w', w'.ownsRow base 5 1 (.slice a' m cap') m (ys.map B8) → Below base w w' → wpList Try.prog ops Q rest (a.put o.dst (.slice a' m cap')) w') :
    wpList Try.prog ops Q (o :: rest) a w := by
  obtain ⟨i0, hi, hz0, hz1, hz2⟩ := info_parts Try.infoU8
  subst hm hys
  have h1 : ∀ j u, (xs.map B8)[j]? = some u → w.cell? ((⟨b, 0, none⟩ : Addr).add j) = some u := by
    rcases hold with ⟨e, _⟩ | ⟨ad, c, e, _, _, hc⟩
    · cases e
    · simp only [Value.slice.injEq, Option.some.injEq] at e
      obtain ⟨rfl, _, _⟩ := e
      exact hc
  have h2 : ∀ j u, (news.map B8)[j]? = some u → w.cell? ((⟨g, 0, none⟩ : Addr).add j) = some u := by
    rcases hsv with ⟨e, _⟩ | ⟨ad, c, e, _, _, hc⟩
    · cases e
    · simp only [Value.slice.injEq, Option.some.injEq] at e
      obtain ⟨rfl, _, _⟩ := e
      exact hc
  have l1 : (xs.map B8).length = n := by
    rcases hold with ⟨e, _⟩ | ⟨ad, c, e, _, _, hc⟩
    · cases e
    · simp only [Value.slice.injEq] at e; exact e.2.1.symm
  have l2 : (news.map B8).length = k := by
    rcases hsv with ⟨e, _⟩ | ⟨ad, c, e, _, _, hc⟩
    · cases e
    · simp only [Value.slice.injEq] at e; exact e.2.1.symm
  refine wpList_append_grows w hgd s x 22 ho 5 i0 (.int .u8 0) 1 1 Try.underlying22 hi hz0 hz1 hz2 rfl (by decide) (some ⟨b, 0, none⟩) n n (xs.map B8) hs (fun e => by cases e) (by rw [l1, Nat.mul_one]) (fun b' e => by cases e; exact h1) ⟨g, 0, none⟩ k k (news.map B8) hx (by rw [l2, Nat.mul_one]) h2 (b8_one news) (by omega) (by simp [maxLen]; omega) (by omega) ?_
  intro v' w' r1 r2
  have r1' : w'.ownsRow base 5 1 v' (n + k) ((xs ++ news).map B8) := by rw [List.map_append]; exact owns_base r1 hbase
  obtain ⟨a', cap', rfl⟩ := owns_shape r1'
  exact h a' cap' w' r1' ((Below.refl _ _).grown r2 hbase (by intro k hk; cases hk))
/-- Bytes as a string. -/
theorem conv_bytes {w : World} {base n cap : Nat} {a : Option Addr} {xs : List Int} (h : w.ownsRow base 5 1 (.slice a n cap) n (xs.map B8)) (h0 : 0 < n) :
    (convert 22 9 (.slice a n cap)).run Try.prog w = .ok (.string (strOfNums xs)) w := by
  have hl : xs.length = n := by have := h.1; simpa using this
  obtain ⟨g, cap', e, _⟩ := owns_some h (by intro e; cases e; omega)
  simp only [Value.slice.injEq, true_and] at e
  obtain ⟨rfl, rfl⟩ := e
  refine run_convert_bytes_arg (P := Try.prog) w 22 5 Try.underlying22 Try.underlying5 g 0 n cap xs hl (fun i hi => ?_) 9 Try.underlying9
  obtain ⟨b, off, e, _, hc⟩ := (show RdB w (.slice (some ⟨g, 0, none⟩) xs.length cap) xs by rw [hl]; exact slc_of_owns h).at (i := i) (by omega)
  simp only [Option.some.injEq, Addr.mk.injEq, and_true] at e
  obtain ⟨rfl, rfl⟩ := e
  exact hc

end Go.Proofs.Ytkkcgclliomocaa

namespace Go.Proofs.Ytkkcgclliomocaa
open Go.RowKit

theorem bytesOf_get (s : ByteArray) (k : Nat) (h : k < s.size) : (bytesOf s)[k]? = some (s[k].toNat : Int) := by
  have hk : k < s.data.toList.length := by rw [Array.length_toList]; exact h
  have e : s.data.toList[k]? = some s[k] := by
    rw [List.getElem?_eq_getElem hk, Array.getElem_toList]; rfl
  unfold bytesOf
  rw [List.getElem?_map, e]
  rfl
theorem bytesOf_take (s : ByteArray) (k : Nat) (h : k < s.size) : (bytesOf s).take (k + 1) = (bytesOf s).take k ++ [(s[k].toNat : Int)] := by
  rw [List.take_add_one, bytesOf_get s k h]
  rfl

set_option maxHeartbeats 1000000 in
theorem implCheck_any (a : Int) (s : ByteArray) (w : World) (h0 : 0 ≤ a) (h1 : a < 65003) (hs : s.size ≤ maxLen) :
    Calls Try.prog 102 #[.int .i64 a, .string s] w fun e w' => e = .returned (.tuple #[.int .i64 (chkL a (bytesOf s)), .bool true]) ∧ w = w' := by
  unfold maxLen at hs
  have hin := Lib.hid (show inB 0 65002 a = true from inB_iff.2 ⟨h0, by omega⟩)
  go_enter Try.func102, Try.ntmps102
  go_wp2_with (go_at_call 106; refine (within_any _ _ _ _).mono ?_; rintro e w' ⟨rfl, rfl⟩; rw [hin.out])
  go_loop [0, 6] (fun c i => ∃ (k : Nat) (b : Int), i = .int .i64 k ∧ k ≤ s.size ∧ c = .int .i64 b ∧ 0 ≤ b ∧ b < 65003 ∧ Hid (b = chkL a ((bytesOf s).take k))) (fun _ i => s.size - (intOf i).toNat)
  case atStart => exact ⟨0, a, rfl, Nat.zero_le _, rfl, h0, h1, rfl⟩
  case round =>
    obtain ⟨k, b, rfl, hk, rfl, hb0, hb1, HB⟩ := hrel
    by_cases hlt : k < s.size
    · have HT := Lib.hid (bytesOf_take s k hlt)
      have hx : s[k].toNat < 256 := s[k].toNat_lt
      go_wp2
      go_round
      case rel =>
        refine ⟨k + 1, (907 * b + s[k].toNat + 179) % 65003, by go_num, by omega, ?_, by omega, by omega, ?_⟩
        · first | rfl | (congr 1; omega) | (simp; omega)
        · show _ = _
          rw [HT.out, chkL_snoc, ← HB.out]
      case measure => simp [intOf]; omega
    · obtain rfl : k = s.size := by omega
      have HE := Lib.hid (show b = chkL a (bytesOf s) by have := HB.out; rwa [List.take_of_length_le (by rw [bytesOf_len]; exact Nat.le_refl _)] at this)
      go_wp2
      go_ret2
      exact ⟨by rw [HE.out]; rfl, rfl⟩

set_option maxHeartbeats 1000000 in
theorem specCheck_any (a : Int) (s : ByteArray) (w : World) (h0 : 0 ≤ a) (h1 : a < 65003) (hs : s.size ≤ maxLen) :
    Calls Try.prog 132 #[.int .i64 a, .string s] w fun e w' => e = .returned (.int .i64 (chkL a (bytesOf s))) ∧ w = w' := by
  unfold maxLen at hs
  go_enter Try.func132, Try.ntmps132
  go_wp2_with fail
  go_loop [0, 5] (fun c i => ∃ (k : Nat) (b : Int), i = .int .i64 k ∧ k ≤ s.size ∧ c = .int .i64 b ∧ 0 ≤ b ∧ b < 65003 ∧ Hid (b = chkL a ((bytesOf s).take k))) (fun _ i => s.size - (intOf i).toNat)
  case atStart => exact ⟨0, a, rfl, Nat.zero_le _, rfl, h0, h1, rfl⟩
  case round =>
    obtain ⟨k, b, rfl, hk, rfl, hb0, hb1, HB⟩ := hrel
    by_cases hlt : k < s.size
    · have HT := Lib.hid (bytesOf_take s k hlt)
      have hx : s[k].toNat < 256 := s[k].toNat_lt
      go_wp2
      go_round
      case rel =>
        refine ⟨k + 1, (907 * b + s[k].toNat + 179) % 65003, by go_num, by omega, ?_, by omega, by omega, ?_⟩
        · first | rfl | (congr 1; omega) | (simp; omega)
        · show _ = _
          rw [HT.out, chkL_snoc, ← HB.out]
      case measure => simp [intOf]; omega
    · obtain rfl : k = s.size := by omega
      have HE := Lib.hid (show b = chkL a (bytesOf s) by have := HB.out; rwa [List.take_of_length_le (by rw [bytesOf_len]; exact Nat.le_refl _)] at this)
      go_wp2
      go_ret
      exact ⟨by rw [HE.out]; rfl, rfl⟩

end Go.Proofs.Ytkkcgclliomocaa

namespace Go.Proofs.Ytkkcgclliomocaa
open Go.RowKit

def jobV (j : JobD) : Value := .agg #[.int .i64 j.long, .int .i64 j.due, .int .i64 j.weight, .int .i64 j.ready]

set_option maxHeartbeats 1000000 in
theorem eqJob_same (j : JobD) (w : World) :
    Calls Try.prog 98 #[jobV j, jobV j] w fun e w' => e = .returned (.bool true) ∧ Below w.heap.size w w' := by
  obtain ⟨a, b, c, d⟩ := j
  have h1 : (a != a) = false := by simp
  have h2 : (b != b) = false := by simp
  have h3 : (c != c) = false := by simp
  have h4 : (d != d) = false := by simp
  unfold jobV
  simp only
  go_enter Try.func98, Try.ntmps98
  go_wp2_with fail
  go_ret
  exact ⟨rfl, by (repeat' first | exact Below.refl _ _ | assumption | refine Below.alloc ?_ ?_ _ | refine Below.setCell ?_ ?_ _ | refine Below.drew ?_ | (simp; done) | (simp; omega))⟩

set_option maxHeartbeats 1000000 in
set_option maxRecDepth 4000 in
theorem eqJ_same (v v' : Value) (js : List JobD) (w : World) (h : RdJ w v js) (h' : RdJ w v' js) :
    Calls Try.prog 44 #[v, v'] w fun e w' => e = .returned (.bool true) ∧ Below w.heap.size w w' := by
  obtain ⟨a, c, rfl⟩ := h.shape
  obtain ⟨a', c', rfl⟩ := h'.shape
  have hl := h.len
  unfold maxLen at hl
  have hne : ((js.length : Int) != (js.length : Int)) = false := by simp
  have HS := Lib.hid h
  have HS' := Lib.hid h'
  clear h h'
  go_enter Try.func44, Try.ntmps44
  go_wp2_with fail
  go_loopw [5] (fun i wr => ∃ k : Nat, i = .int .i64 k ∧ k ≤ js.length ∧ Below w.heap.size w wr) (fun i _ => js.length - (intOf i).toNat)
  case atStart => exact ⟨0, rfl, Nat.zero_le _, Below.refl _ _⟩
  case round =>
    obtain ⟨k, rfl, hk, hbl⟩ := hrel
    have HB := Lib.hid hbl
    clear hbl
    by_cases hlt : k < js.length
    · obtain ⟨b, off, rfl, hb0, x0, x1, x2, x3⟩ := (HS.out.up HB.out (Nat.le_refl _)).at hlt
      obtain ⟨b', off', rfl, hb0', y0, y1, y2, y3⟩ := (HS'.out.up HB.out (Nat.le_refl _)).at hlt
      obtain ⟨j, hj⟩ : ∃ j, j = js.getD k J0 := ⟨_, rfl⟩
      rw [← hj] at x0 x1 x2 x3 y0 y1 y2 y3
      have HE := Lib.hid (eqJob_same j)
      obtain ⟨p, q, r, s⟩ := j
      simp only at x0 x1 x2 x3 y0 y1 y2 y3
      clear hj
      have kk : (k : Int) < (js.length : Int) := by omega
      have HKEEP := Lib.hid (show ∀ X, Below wr.heap.size wr X → (fun X => X.cell? ⟨b, off + k * 4, none⟩ = some (.int .i64 p) ∧ X.cell? ⟨b, off + k * 4 + 1, none⟩ = some (.int .i64 q) ∧ X.cell? ⟨b, off + k * 4 + 2, none⟩ = some (.int .i64 r) ∧ X.cell? ⟨b, off + k * 4 + 3, none⟩ = some (.int .i64 s) ∧ X.cell? ⟨b', off' + k * 4, none⟩ = some (.int .i64 p) ∧ X.cell? ⟨b', off' + k * 4 + 1, none⟩ = some (.int .i64 q) ∧ X.cell? ⟨b', off' + k * 4 + 2, none⟩ = some (.int .i64 r) ∧ X.cell? ⟨b', off' + k * 4 + 3, none⟩ = some (.int .i64 s)) X from fun X hb => ⟨held_of hb x0 (Nat.le_refl _), held_of hb x1 (Nat.le_refl _), held_of hb x2 (Nat.le_refl _), held_of hb x3 (Nat.le_refl _), held_of hb y0 (Nat.le_refl _), held_of hb y1 (Nat.le_refl _), held_of hb y2 (Nat.le_refl _), held_of hb y3 (Nat.le_refl _)⟩)
      go_wp2_with fail
      go_region_held3 (fun X => X.cell? ⟨b, off + k * 4, none⟩ = some (.int .i64 p) ∧ X.cell? ⟨b, off + k * 4 + 1, none⟩ = some (.int .i64 q) ∧ X.cell? ⟨b, off + k * 4 + 2, none⟩ = some (.int .i64 r) ∧ X.cell? ⟨b, off + k * 4 + 3, none⟩ = some (.int .i64 s) ∧ X.cell? ⟨b', off' + k * 4, none⟩ = some (.int .i64 p) ∧ X.cell? ⟨b', off' + k * 4 + 1, none⟩ = some (.int .i64 q) ∧ X.cell? ⟨b', off' + k * 4 + 2, none⟩ = some (.int .i64 r) ∧ X.cell? ⟨b', off' + k * 4 + 3, none⟩ = some (.int .i64 s))
        (first | exact HKEEP.out _ hbn | (refine HKEEP.out _ ?_; (repeat' first | exact Below.refl _ _ | assumption | refine Below.alloc ?_ ?_ _ | refine Below.setCell ?_ ?_ _ | refine Below.drew ?_ | (simp; done) | (simp; omega)); done) | go_keep)
        (first
          | (go_at_call 98; refine (HE.out _).mono ?_; rintro e w1 ⟨rfl, hb1⟩; have hbn : Below wr.heap.size wr w1 := Below.trans (by (repeat' first | exact Below.refl _ _ | assumption | refine Below.alloc ?_ ?_ _ | refine Below.setCell ?_ ?_ _ | refine Below.drew ?_ | (simp; done) | (simp; omega))) (hb1.mono (by simp)))
          | fail)
      go_wp2_with fail
      go_roundw
      case rel => exact ⟨k + 1, by go_num, by omega, HB.out.trans (hbn.mono HB.out.size)⟩
      case measure => simp [intOf]; omega
    · obtain rfl : k = js.length := by omega
      go_wp2_with fail
      go_ret
      exact ⟨rfl, HB.out⟩

/-- The marks of jobs. -/
def mkdJ (k : Int) (js : List JobD) : List JobD := (List.range js.length).map fun (i : Nat) => ⟨k + 4 * i, k + 4 * i + 1, k + 4 * i + 2, k + 4 * i + 3⟩
theorem mkdJ_len (k : Int) (js : List JobD) : (mkdJ k js).length = js.length := by simp [mkdJ]
theorem mkdJ_at (k : Int) (js : List JobD) (i : Nat) (h : i < js.length) : (mkdJ k js).getD i J0 = ⟨k + 4 * i, k + 4 * i + 1, k + 4 * i + 2, k + 4 * i + 3⟩ := by simp [mkdJ, h]

/-- The first m jobs marked. -/
def mkpJ (k : Int) (js : List JobD) (m : Nat) : List JobD := (List.range js.length).map fun (i : Nat) => if i < m then ⟨k + 4 * i, k + 4 * i + 1, k + 4 * i + 2, k + 4 * i + 3⟩ else js.getD i J0
theorem mkpJ_len (k : Int) (js : List JobD) (m : Nat) : (mkpJ k js m).length = js.length := by simp [mkpJ]
theorem mkpJ_zero (k : Int) (js : List JobD) : mkpJ k js 0 = js := by
  apply List.ext_getElem?
  intro i
  by_cases h : i < js.length
  · simp [mkpJ, h]
  · simp [mkpJ, h]
theorem mkpJ_full (k : Int) (js : List JobD) : mkpJ k js js.length = mkdJ k js := by
  apply List.ext_getElem?
  intro i
  by_cases h : i < js.length
  · simp [mkpJ, mkdJ, h]
  · simp [mkpJ, mkdJ, h]
theorem mkpJ_set (k : Int) (js : List JobD) (m : Nat) (hm : m < js.length) : mkpJ k js (m + 1) = (mkpJ k js m).set m ⟨k + 4 * m, k + 4 * m + 1, k + 4 * m + 2, k + 4 * m + 3⟩ := by
  apply List.ext_getElem?
  intro i
  rw [List.getElem?_set]
  by_cases h : i < js.length
  · by_cases he : m = i
    · subst he; simp [mkpJ, h]
    · have e : (i < m + 1) = (i < m) := by rw [eq_iff_iff]; omega
      simp [mkpJ, h, he, e]
  · by_cases he : m = i
    · omega
    · simp [mkpJ, h, he]
theorem jobsC_set : ∀ (js : List JobD) (i : Nat) (a b c d : Int), i < js.length → ((((jobsC js).set (i * 4) (I64 a)).set (i * 4 + 1) (I64 b)).set (i * 4 + 2) (I64 c)).set (i * 4 + 3) (I64 d) = jobsC (js.set i ⟨a, b, c, d⟩)
  | [], i, _, _, _, _, h => by simp at h
  | j :: r, 0, a, b, c, d, _ => by simp [jobsC, jobCells]
  | j :: r, i + 1, a, b, c, d, h => by
    have ih := jobsC_set r i a b c d (by simpa using h)
    have e : ∀ (L : List Value) (n m : Nat) (v : Value), m = n + 4 → (jobCells j ++ L).set m v = jobCells j ++ L.set n v := fun L n m v hm => by subst hm; rfl
    show ((((jobCells j ++ jobsC r).set ((i + 1) * 4) (I64 a)).set ((i + 1) * 4 + 1) (I64 b)).set ((i + 1) * 4 + 2) (I64 c)).set ((i + 1) * 4 + 3) (I64 d) = jobCells j ++ jobsC (r.set i ⟨a, b, c, d⟩)
    rw [e _ (i * 4) _ _ (by omega), e _ (i * 4 + 1) _ _ (by omega), e _ (i * 4 + 2) _ _ (by omega), e _ (i * 4 + 3) _ _ (by omega), ih]

theorem ownsK_some {w : World} {lo size : Nat} {e : TypeId} {a : Option Addr} {n cap : Nat} {vs : List Value} (h : w.ownsRow lo e size (.slice a n cap) n vs) (hn : 0 < n) : ∃ g, a = some ⟨g, 0, none⟩ ∧ lo ≤ g := by
  rcases h.2 with ⟨e, e2⟩ | ⟨g, cap', cur, e, hb, _⟩
  · simp at e; omega
  · simp only [Value.slice.injEq, true_and] at e
    exact ⟨g, e.1, hb⟩

set_option maxHeartbeats 1000000 in
theorem markJ_o (v : Value) (lo hi : Nat) (js : List JobD) (k : Int) (w : World) (ho : OwnJ lo hi w v js) (h0 : 0 ≤ k) (h1 : k + cntJ js ≤ 1099511627776) :
    Calls Try.prog 45 #[v, .int .i64 k] w fun e w' => e = .returned (.int .i64 (k + cntJ js)) ∧ OwnJ lo hi w' v (mkdJ k js) ∧ Kept (fun b => lo ≤ b ∧ b < hi) w w' := by
  obtain ⟨a, c, rfl⟩ := ho.rd.shape
  have hl := ho.rd.len
  unfold maxLen at hl
  unfold cntJ at h1 ⊢
  have HO := Lib.hid ho
  clear ho
  go_enter Try.func45, Try.ntmps45
  go_wp2_with fail
  go_loopw [1, 5] (fun kk i wr => ∃ j : Nat, i = .int .i64 j ∧ j ≤ js.length ∧ kk = .int .i64 (k + 4 * j) ∧ wr.ownsRow lo 113 4 (.slice a js.length c) js.length (jobsC (mkpJ k js j)) ∧ Kept (fun b => lo ≤ b ∧ b < hi) w wr) (fun _ i _ => js.length - (intOf i).toNat)
  case atStart => exact ⟨0, rfl, Nat.zero_le _, by simp, by rw [mkpJ_zero]; exact HO.out.1, Kept.refl _ _⟩
  case round =>
    obtain ⟨j, rfl, hj, rfl, hown, hkp⟩ := hrel
    have HO1 := Lib.hid hown
    have HK1 := Lib.hid hkp
    clear hkp
    by_cases hlt : j < js.length
    · obtain ⟨g, rfl, hlo⟩ := ownsK_some hown (by omega)
      have hhi := HO.out.2 g rfl
      clear hown
      have hlen := mkpJ_len k js j
      have d0 := HO1.out.cellAt (j * 4) (by omega)
      have d1 := HO1.out.cellAt (j * 4 + 1) (by omega)
      have d2 := HO1.out.cellAt (j * 4 + 2) (by omega)
      have d3 := HO1.out.cellAt (j * 4 + 3) (by omega)
      have e0 := jobsC_at (mkpJ k js j) j 0 (by omega) (by omega)
      rw [Nat.add_zero] at e0
      rw [e0] at d0
      rw [jobsC_at (mkpJ k js j) j 1 (by omega) (by omega)] at d1
      rw [jobsC_at (mkpJ k js j) j 2 (by omega) (by omega)] at d2
      rw [jobsC_at (mkpJ k js j) j 3 (by omega) (by omega)] at d3
      generalize (mkpJ k js j).getD j J0 = old at d0 d1 d2 d3
      simp only [jobCells, List.getElem?_cons_zero, List.getElem?_cons_succ, I64] at d0 d1 d2 d3
      have f0 := HO1.out.frozenAt (j * 4)
      have f1 := HO1.out.frozenAt (j * 4 + 1)
      have f2 := HO1.out.frozenAt (j * 4 + 2)
      have f3 := HO1.out.frozenAt (j * 4 + 3)
      have HST := Lib.hid ((((HO1.out.stored (j * 4) (.int .i64 (k + 4 * j))).1.stored (j * 4 + 1) (.int .i64 (k + 4 * j + 1))).1.stored (j * 4 + 2) (.int .i64 (k + 4 * j + 2))).1.stored (j * 4 + 3) (.int .i64 (k + 4 * j + 3))).1
      have HSET := Lib.hid (mkpJ_set k js j hlt)
      have HJC := Lib.hid (jobsC_set (mkpJ k js j) j (k + 4 * j) (k + 4 * j + 1) (k + 4 * j + 2) (k + 4 * j + 3) (by omega))
      clear e0 hlen
      have s1 : k + 4 * (j : Int) + 1 + 1 = k + 4 * (j : Int) + 2 := by omega
      have s2 : k + 4 * (j : Int) + 2 + 1 = k + 4 * (j : Int) + 3 := by omega
      go_wp2_with fail
      go_roundw
      case rel =>
        refine ⟨j + 1, by go_num, by omega, congrArg (Value.int IntKind.i64) (by push_cast; omega), ?_, (((HK1.out.setCell (.inr ⟨hlo, hhi⟩) _).setCell (.inr ⟨hlo, hhi⟩) _).setCell (.inr ⟨hlo, hhi⟩) _).setCell (.inr ⟨hlo, hhi⟩) _⟩
        rw [HSET.out, ← HJC.out]
        exact HST.out
      case measure => simp [intOf]; omega
    · clear hown
      obtain rfl : j = js.length := by omega
      go_wp2_with fail
      go_ret
      refine ⟨congrArg (fun x => Ending.returned (Value.int IntKind.i64 x)) (by push_cast; omega), ⟨?_, HO.out.2⟩, HK1.out⟩
      have h := HO1.out
      rw [mkpJ_full] at h
      rw [mkdJ_len]
      exact h

end Go.Proofs.Ytkkcgclliomocaa
