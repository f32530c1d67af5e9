/-
  FnExactStoreCases: texts joined: StoreM, Check, MarkJ, StoreI.
-/
import Derived.Lib.AppendStr
import Derived.Laws.BytesArg
import Derived.Lib.SlBytesConst
import Derived.ArgAppend
import Derived.Deep.RegionHeld3
import Derived.Deep.Cut
import Derived.Test.YtljhohacgceojaaMEStoreCasesAC
import Derived.Test.YtljhohacgceojaaMEStoreCasesAE
namespace Go.Proofs.Ytljhohacgceojaa
open Go.RowKit

def by8 (n : Int) : Int := IntKind.u8.wrap n
theorem by8_eq (n : Int) : by8 n = n % 256 := by unfold by8; rw [IntKind.wrap_u8]
def bytesOf (s : ByteArray) : List Int := s.data.toList.map fun b => (b.toNat : Int)
theorem bytesOf_len (s : ByteArray) : (bytesOf s).length = s.size := by unfold bytesOf; rw [List.length_map, Array.length_toList]; rfl
theorem strCells_bytes (s : ByteArray) : Lib.strCells s = (bytesOf s).map B8 := by unfold Lib.strCells bytesOf; rw [List.map_map]; rfl
def clauseBytes (c : List Int) : List Int := by8 c.length :: c.map by8
def clausesBytes (L : List (List Int)) : List Int := L.flatMap clauseBytes
def headBytes (c : CaseD) : List Int := [67, 65, 83, 49] ++ [by8 c.name.size] ++ bytesOf c.name ++ [by8 c.form.letters, by8 c.form.clauses.length, by8 c.proof.length]
def bodyBytes (c : CaseD) : List Int := headBytes c ++ clausesBytes (c.form.clauses ++ c.proof)
def chkL (a : Int) (l : List Int) : Int := l.foldl (fun a b => (907 * a + b + 179) % 65003) a
def storeBytes (c : CaseD) : List Int := bodyBytes c ++ [by8 (chkL 0 (bodyBytes c)), by8 (chkL 0 (bodyBytes c) / 256)]
def storeS (c : CaseD) : ByteArray := strOfNums (storeBytes c)

theorem chkL_bd : ∀ (l : List Int) (a : Int), 0 ≤ a → a < 65003 → 0 ≤ chkL a l ∧ chkL a l < 65003
  | [], a, h0, h1 => ⟨h0, h1⟩
  | b :: r, a, h0, h1 => by
    show 0 ≤ chkL ((907 * a + b + 179) % 65003) r ∧ _
    exact chkL_bd r _ (by omega) (by omega)
theorem chkL_snoc (a : Int) (l : List Int) (b : Int) : chkL a (l ++ [b]) = (907 * chkL a l + b + 179) % 65003 := by simp [chkL]

/-- A clause that is one has at most ten literals. -/
theorem clause_len {n : Int} {xs : List Int} (h : clauseB n xs = true) : xs.length ≤ 10 := by
  unfold clauseB at h
  simp only [Bool.and_eq_true] at h
  obtain ⟨hn, hall⟩ := h
  have hall' := allB_iff.1 hall
  have key : ∀ i, i < xs.length → i + 1 ≤ (xs.getD i 0).natAbs := by
    intro i
    induction i with
    | zero =>
      intro hi
      have := hall' 0 hi
      unfold okAt litB at this
      simp only [Bool.and_eq_true, decide_eq_true_eq] at this
      omega
    | succ i ih =>
      intro hi
      have h1 := ih (by omega)
      have := hall' (i + 1) hi
      unfold okAt at this
      simp only [Bool.and_eq_true, Bool.or_eq_true, decide_eq_true_eq, Nat.add_sub_cancel] at this
      omega
  by_cases h10 : xs.length ≤ 10
  · exact h10
  · exfalso
    have h1 := key 10 (by omega)
    have := hall' 10 (by omega)
    unfold okAt litB at this
    simp only [Bool.and_eq_true] at this
    have h2 := inB_iff.1 this.1.2
    have h3 := inB_iff.1 hn
    omega
theorem clausesBytes_len : ∀ (L : List (List Int)), (∀ c ∈ L, c.length ≤ 10) → (clausesBytes L).length ≤ 11 * L.length
  | [], _ => by simp [clausesBytes]
  | c :: r, h => by
    have ih := clausesBytes_len r (fun x hx => h x (List.mem_cons_of_mem _ hx))
    have h1 := h c (List.mem_cons_self ..)
    show (clauseBytes c ++ clausesBytes r).length ≤ _
    rw [List.length_append]
    simp only [clauseBytes, List.length_cons, List.length_map]
    omega
theorem case_parts {c : CaseD} (h : caseB c = true) : c.name.size ≤ 8 ∧ c.form.clauses.length ≤ 48 ∧ c.proof.length ≤ 128 ∧ (∀ x ∈ c.form.clauses ++ c.proof, clauseB c.form.letters x = true) ∧ inB 1 10 c.form.letters = true := by
  unfold caseB formB nameB at h
  simp only [Bool.and_eq_true, decide_eq_true_eq] at h
  obtain ⟨⟨⟨h1, _⟩, ⟨⟨h2, h3⟩, h4⟩, h5⟩, h6⟩ := h
  have h1' := inB_iff.1 h1
  refine ⟨by omega, h3, h5, ?_, h2⟩
  intro x hx
  rcases List.mem_append.1 hx with hx | hx
  · obtain ⟨i, hi, rfl⟩ := List.mem_iff_getElem.1 hx
    have := allB_iff.1 h4 i hi
    simpa [hi] using this
  · obtain ⟨i, hi, rfl⟩ := List.mem_iff_getElem.1 hx
    have := allB_iff.1 h6 i hi
    simpa [hi] using this
theorem body_len {c : CaseD} (h : caseB c = true) : (bodyBytes c).length ≤ 2000 := by
  obtain ⟨h1, h2, h3, h4, _⟩ := case_parts h
  have h5 := clausesBytes_len (c.form.clauses ++ c.proof) (fun x hx => clause_len (h4 x hx))
  rw [List.length_append] at h5
  unfold bodyBytes headBytes
  simp only [List.length_append, List.length_cons, List.length_nil, bytesOf_len]
  omega

/-- All are bytes. -/
def AllB (xs : List Int) : Prop := ∀ x ∈ xs, 0 ≤ x ∧ x < 256
theorem AllB.append {a b : List Int} (h : AllB a) (k : AllB b) : AllB (a ++ b) := fun x hx => by
  rcases List.mem_append.1 hx with h1 | h1
  · exact h x h1
  · exact k x h1
theorem by8_rng (n : Int) : 0 ≤ by8 n ∧ by8 n < 256 := by rw [by8_eq]; omega
theorem bytesOf_rng (s : ByteArray) : AllB (bytesOf s) := fun x hx => by
  obtain ⟨b, _, rfl⟩ := List.mem_map.1 hx
  have := b.toNat_lt
  omega
theorem clauses_rng (L : List (List Int)) : AllB (clausesBytes L) := fun x hx => by
  obtain ⟨c, _, h⟩ := List.mem_flatMap.1 hx
  rcases List.mem_cons.1 h with rfl | h
  · exact by8_rng _
  · obtain ⟨y, _, rfl⟩ := List.mem_map.1 h
    exact by8_rng _
theorem lit_rng (a b c d : Int) (h : (0 ≤ a ∧ a < 256) ∧ (0 ≤ b ∧ b < 256) ∧ (0 ≤ c ∧ c < 256) ∧ (0 ≤ d ∧ d < 256)) : AllB [a, b, c, d] := fun x hx => by
  simp only [List.mem_cons, List.not_mem_nil, or_false] at hx
  rcases hx with rfl | rfl | rfl | rfl
  · exact h.1
  · exact h.2.1
  · exact h.2.2.1
  · exact h.2.2.2
theorem one_rng (a : Int) (h : 0 ≤ a ∧ a < 256) : AllB [a] := fun x hx => by
  simp only [List.mem_cons, List.not_mem_nil, or_false] at hx
  subst hx; exact h
theorem three_rng (a b c : Int) (h : (0 ≤ a ∧ a < 256) ∧ (0 ≤ b ∧ b < 256) ∧ (0 ≤ c ∧ c < 256)) : AllB [a, b, c] := fun x hx => by
  simp only [List.mem_cons, List.not_mem_nil, or_false] at hx
  rcases hx with rfl | rfl | rfl
  · exact h.1
  · exact h.2.1
  · exact h.2.2
theorem body_rng (c : CaseD) : AllB (bodyBytes c) :=
  AllB.append (AllB.append (AllB.append (AllB.append (lit_rng _ _ _ _ (by omega)) (one_rng _ (by8_rng _))) (bytesOf_rng _)) (three_rng _ _ _ ⟨by8_rng _, by8_rng _, by8_rng _⟩)) (clauses_rng _)
theorem bytes_back (xs : List Int) (h : AllB xs) : bytesOf (strOfNums xs) = xs := by
  unfold bytesOf
  rw [strOfNums_data, List.map_map]
  have : ∀ (l : List Int), AllB l → l.map ((fun b : UInt8 => (b.toNat : Int)) ∘ fun n : Int => UInt8.ofNat n.toNat) = l := by
    intro l
    induction l with
    | nil => intro _; rfl
    | cons x r ih =>
      intro hl
      have h1 := hl x (List.mem_cons_self ..)
      rw [List.map_cons, ih (fun y hy => hl y (List.mem_cons_of_mem _ hy))]
      congr 1
      simp only [Function.comp, UInt8.toNat_ofNat']
      omega
  exact this xs h

theorem clausesBytes_snoc (L : List (List Int)) (k : Nat) (h : k < L.length) : clausesBytes (L.take (k + 1)) = clausesBytes (L.take k) ++ clauseBytes (L.getD k []) := by
  rw [List.take_succ_eq_append_getElem h]
  unfold clausesBytes
  rw [List.flatMap_append]
  simp [h]
theorem clauseBytes_take (c : List Int) (j : Nat) (h : j < c.length) : (clauseBytes c).take (j + 2) = (clauseBytes c).take (j + 1) ++ [by8 (c.getD j 0)] := by
  unfold clauseBytes
  simp only [List.take_succ_cons, List.cons_append]
  rw [List.take_succ_eq_append_getElem (show j < (c.map by8).length by simpa using h)]
  simp [h]

theorem Try.infoU8 : (Try.prog.info? 5).map (fun i => (i.zero, i.size, i.bytes)) = some (some (.int .u8 0), 1, 1) := by kernel_rfl
theorem b8_one (xs : List Int) : ∀ u ∈ xs.map B8, u.oneCell' = true := by
  intro u hu
  obtain ⟨x, _, rfl⟩ := List.mem_map.1 hu
  rfl

/-- Append of bytes to what the call owns; it may be nil. -/
theorem app_bytes {w : World} {ops : Array Oper} {rest : List Oper} {o : Oper} {a : Act} {Q : Exit → Act → World → Prop} (hgd : o.guard = none) (s x : Operand)
    (ho : o.op = .call { callee := .builtin .append, args := #[s, x], argTypes := #[41, 41] })
    (base : Nat) (v : Value) (n : Nat) (xs : List Int) (hs : a.eval s = v) (hown : w.ownsRow base 5 1 v n (xs.map B8))
    (sv : Value) (news : List Int) (hx : a.eval x = sv) (hsv : Slc w sv (news.map B8)) (m : Nat) (ys : List Int) (hm : m = n + news.length) (hys : ys = xs ++ news) (hlen : m ≤ 1099511627776) (hbase : base ≤ w.heap.size)
    (h : ∀ a' cap' w', w'.ownsRow base 5 1 (.slice a' m cap') m (ys.map B8) → Below base w w' → w.grownBy w' v.ownBlock → wpList Try.prog ops Q rest (a.put o.dst (.slice a' m cap')) w') :
    wpList Try.prog ops Q (o :: rest) a w := by
  obtain ⟨i0, hi, hz0, hz1, hz2⟩ := info_parts Try.infoU8
  subst hm hys
  refine wpList_append_slc hgd s x 41 ho base 5 i0 (.int .u8 0) 1 Try.underlying41 hi hz0 hz1 hz2 rfl v n (xs.map B8) hs hown sv (news.map B8) hx hsv (b8_one news) (by simp [maxLen]; omega) (by simp; omega) hbase ?_
  intro v' w' h1 h2 h3
  have h1' : w'.ownsRow base 5 1 v' (n + news.length) ((xs ++ news).map B8) := by simpa using h1
  obtain ⟨a', cap', rfl⟩ := owns_shape h1'
  exact h a' cap' w' h1' (below_grown hown hbase h2) h2
/-- Append of a string's bytes. -/
theorem app_strB {w : World} {ops : Array Oper} {rest : List Oper} {o : Oper} {a : Act} {Q : Exit → Act → World → Prop} (hgd : o.guard = none) (s x : Operand)
    (ho : o.op = .call { callee := .builtin .append, args := #[s, x], argTypes := #[41, 9] })
    (base : Nat) (v : Value) (n : Nat) (xs : List Int) (hs : a.eval s = v) (hown : w.ownsRow base 5 1 v n (xs.map B8))
    (str : ByteArray) (hx : a.eval x = .string str) (m : Nat) (ys : List Int) (hm : m = n + str.size) (hys : ys = xs ++ bytesOf str) (hlen : m ≤ 1099511627776) (hbase : base ≤ w.heap.size)
    (h : ∀ a' cap' w', w'.ownsRow base 5 1 (.slice a' m cap') m (ys.map B8) → Below base w w' → w.grownBy w' v.ownBlock → wpList Try.prog ops Q rest (a.put o.dst (.slice a' m cap')) w') :
    wpList Try.prog ops Q (o :: rest) a w := by
  obtain ⟨i0, hi, hz0, hz1, hz2⟩ := info_parts Try.infoU8
  subst hm hys
  refine Lib.wpList_append_own_string w hgd s x 41 9 ho base 5 i0 Try.underlying41 Try.underlying9 hi hz0 hz1 hz2 v n (xs.map B8) hs hown str hx (by simp [maxLen]; omega) (by omega) hbase ?_
  intro v' w' h1 h2 h3
  have h1' : w'.ownsRow base 5 1 v' (n + str.size) ((xs ++ bytesOf str).map B8) := by rw [List.map_append, ← strCells_bytes]; exact h1
  obtain ⟨a', cap', rfl⟩ := owns_shape h1'
  exact h a' cap' w' h1' (below_grown hown hbase h2) h2
/-- A new row of bytes. -/
theorem ownsB_lit (w : World) (xs : List Int) (n b : Nat) (cs : Array Value) (hcs : cs = (xs.map B8).toArray) (hn : xs.length = n) (h4 : n ≤ 4) (hb : b = w.heap.size) :
    (w.alloc (.cells cs 5)).ownsRow w.heap.size 5 1 (.slice (some ⟨b, 0, none⟩) n n) n (xs.map B8) := by
  subst hcs hb hn
  have h := World.ownsRow_lit (base := w.heap.size) (e := 5) (size := 1) w (xs.map B8).toArray xs.length (Nat.le_refl _) (by simp [maxLen]; omega) (by simp)
  simpa using h
theorem slcB_lit (w : World) (xs : List Int) (n b : Nat) (cs : Array Value) (hcs : cs = (xs.map B8).toArray) (hn : xs.length = n) (h4 : n ≤ 4) (hb : b = w.heap.size) :
    Slc (w.alloc (.cells cs 5)) (.slice (some ⟨b, 0, none⟩) n n) (xs.map B8) := slc_of_owns (ownsB_lit w xs n b cs hcs hn h4 hb)
/-- The row of a constant string's bytes, with its mark. -/
theorem slcB_mark (w : World) (xs : List Int) (n b p q : Nat) (cs : Array Value) (hcs : cs = (xs.map B8).toArray) (hn : xs.length = n) (h4 : n ≤ 4) (hb : b = w.heap.size) :
    Slc (w.alloc (.cells cs 5 (p, q))) (.slice (some ⟨b, 0, none⟩) n n) (xs.map B8) := by
  subst hcs hb hn
  right
  refine ⟨⟨w.heap.size, 0, none⟩, xs.length, by simp, by simp, by unfold maxLen; omega, fun i u hi => ?_⟩
  have h1 : (w.alloc (.cells (xs.map B8).toArray 5 (p, q))).heap[w.heap.size]? = some (.cells (xs.map B8).toArray 5 (p, q)) := heap_alloc_new w _
  have h2 : ((⟨w.heap.size, 0, none⟩ : Addr).add i) = ⟨w.heap.size, i, none⟩ := by unfold Addr.add; split <;> simp_all
  rw [h2]
  have h3 : ((xs.map B8).toArray)[i]? = some u := by simpa using hi
  simp only [World.cell?, h1]
  simpa using h3
/-- Append to a full row that is not the call's own: always into a new one. -/
theorem app_bytes_grow {w : World} {ops : Array Oper} {rest : List Oper} {o : Oper} {a : Act} {Q : Exit → Act → World → Prop} (hgd : o.guard = none) (s x : Operand)
    (ho : o.op = .call { callee := .builtin .append, args := #[s, x], argTypes := #[41, 41] })
    (base : Nat) (b : Nat) (n : Nat) (xs : List Int) (hs : a.eval s = .slice (some ⟨b, 0, none⟩) n n) (hold : Slc w (.slice (some ⟨b, 0, none⟩) n n) (xs.map B8))
    (g k : Nat) (news : List Int) (hx : a.eval x = .slice (some ⟨g, 0, none⟩) k k) (hsv : Slc w (.slice (some ⟨g, 0, none⟩) k k) (news.map B8)) (hk : 0 < k) (m : Nat) (ys : List Int) (hm : m = n + k) (hys : ys = xs ++ news) (hlen : m ≤ 1099511627776) (hbase : base ≤ w.heap.size)
    (h : ∀ a' cap' w', w'.ownsRow base 5 1 (.slice a' m cap') m (ys.map B8) → Below base w w' → wpList Try.prog ops Q rest (a.put o.dst (.slice a' m cap')) w') :
    wpList Try.prog ops Q (o :: rest) a w := by
  obtain ⟨i0, hi, hz0, hz1, hz2⟩ := info_parts Try.infoU8
  subst hm hys
  have h1 : ∀ j u, (xs.map B8)[j]? = some u → w.cell? ((⟨b, 0, none⟩ : Addr).add j) = some u := by
    rcases hold with ⟨e, _⟩ | ⟨ad, c, e, _, _, hc⟩
    · cases e
    · simp only [Value.slice.injEq, Option.some.injEq] at e
      obtain ⟨rfl, _, _⟩ := e
      exact hc
  have h2 : ∀ j u, (news.map B8)[j]? = some u → w.cell? ((⟨g, 0, none⟩ : Addr).add j) = some u := by
    rcases hsv with ⟨e, _⟩ | ⟨ad, c, e, _, _, hc⟩
    · cases e
    · simp only [Value.slice.injEq, Option.some.injEq] at e
      obtain ⟨rfl, _, _⟩ := e
      exact hc
  have l1 : (xs.map B8).length = n := by
    rcases hold with ⟨e, _⟩ | ⟨ad, c, e, _, _, hc⟩
    · cases e
    · simp only [Value.slice.injEq] at e; exact e.2.1.symm
  have l2 : (news.map B8).length = k := by
    rcases hsv with ⟨e, _⟩ | ⟨ad, c, e, _, _, hc⟩
    · cases e
    · simp only [Value.slice.injEq] at e; exact e.2.1.symm
  refine wpList_append_grows w hgd s x 41 ho 5 i0 (.int .u8 0) 1 1 Try.underlying41 hi hz0 hz1 hz2 rfl (by decide) (some ⟨b, 0, none⟩) n n (xs.map B8) hs (fun e => by cases e) (by rw [l1, Nat.mul_one]) (fun b' e => by cases e; exact h1) ⟨g, 0, none⟩ k k (news.map B8) hx (by rw [l2, Nat.mul_one]) h2 (b8_one news) (by omega) (by simp [maxLen]; omega) (by omega) ?_
  intro v' w' r1 r2
  have r1' : w'.ownsRow base 5 1 v' (n + k) ((xs ++ news).map B8) := by rw [List.map_append]; exact owns_base r1 hbase
  obtain ⟨a', cap', rfl⟩ := owns_shape r1'
  exact h a' cap' w' r1' ((Below.refl _ _).grown r2 hbase (by intro k hk; cases hk))
/-- Bytes as a string. -/
theorem conv_bytes {w : World} {base n cap : Nat} {a : Option Addr} {xs : List Int} (h : w.ownsRow base 5 1 (.slice a n cap) n (xs.map B8)) (h0 : 0 < n) :
    (convert 41 9 (.slice a n cap)).run Try.prog w = .ok (.string (strOfNums xs)) w := by
  have hl : xs.length = n := by have := h.1; simpa using this
  obtain ⟨g, cap', e, _⟩ := owns_some h (by intro e; cases e; omega)
  simp only [Value.slice.injEq, true_and] at e
  obtain ⟨rfl, rfl⟩ := e
  refine run_convert_bytes_arg (P := Try.prog) w 41 5 Try.underlying41 Try.underlying5 g 0 n cap xs hl (fun i hi => ?_) 9 Try.underlying9
  obtain ⟨b, off, e, _, hc⟩ := (show RdB w (.slice (some ⟨g, 0, none⟩) xs.length cap) xs by rw [hl]; exact slc_of_owns h).at (i := i) (by omega)
  simp only [Option.some.injEq, Addr.mk.injEq, and_true] at e
  obtain ⟨rfl, rfl⟩ := e
  exact hc

end Go.Proofs.Ytljhohacgceojaa

namespace Go.Proofs.Ytljhohacgceojaa
open Go.RowKit

theorem bytesOf_get (s : ByteArray) (k : Nat) (h : k < s.size) : (bytesOf s)[k]? = some (s[k].toNat : Int) := by
  have hk : k < s.data.toList.length := by rw [Array.length_toList]; exact h
  have e : s.data.toList[k]? = some s[k] := by
    rw [List.getElem?_eq_getElem hk, Array.getElem_toList]; rfl
  unfold bytesOf
  rw [List.getElem?_map, e]
  rfl
theorem bytesOf_take (s : ByteArray) (k : Nat) (h : k < s.size) : (bytesOf s).take (k + 1) = (bytesOf s).take k ++ [(s[k].toNat : Int)] := by
  rw [List.take_add_one, bytesOf_get s k h]
  rfl

set_option maxHeartbeats 1000000 in
theorem implCheck_any (a : Int) (s : ByteArray) (w : World) (h0 : 0 ≤ a) (h1 : a < 65003) (hs : s.size ≤ maxLen) :
    Calls Try.prog 106 #[.int .i64 a, .string s] w fun e w' => e = .returned (.tuple #[.int .i64 (chkL a (bytesOf s)), .bool true]) ∧ w = w' := by
  unfold maxLen at hs
  have hin := Lib.hid (show inB 0 65002 a = true from inB_iff.2 ⟨h0, by omega⟩)
  go_enter Try.func106, Try.ntmps106
  go_wp2_with (go_at_call 98; refine (within_any _ _ _ _).mono ?_; rintro e w' ⟨rfl, rfl⟩; rw [hin.out])
  go_loop [0, 6] (fun c i => ∃ (k : Nat) (b : Int), i = .int .i64 k ∧ k ≤ s.size ∧ c = .int .i64 b ∧ 0 ≤ b ∧ b < 65003 ∧ Hid (b = chkL a ((bytesOf s).take k))) (fun _ i => s.size - (intOf i).toNat)
  case atStart => exact ⟨0, a, rfl, Nat.zero_le _, rfl, h0, h1, rfl⟩
  case round =>
    obtain ⟨k, b, rfl, hk, rfl, hb0, hb1, HB⟩ := hrel
    by_cases hlt : k < s.size
    · have HT := Lib.hid (bytesOf_take s k hlt)
      have hx : s[k].toNat < 256 := s[k].toNat_lt
      go_wp2
      go_round
      case rel =>
        refine ⟨k + 1, (907 * b + s[k].toNat + 179) % 65003, by go_num, by omega, ?_, by omega, by omega, ?_⟩
        · first | rfl | (congr 1; omega) | (simp; omega)
        · show _ = _
          rw [HT.out, chkL_snoc, ← HB.out]
      case measure => simp [intOf]; omega
    · obtain rfl : k = s.size := by omega
      have HE := Lib.hid (show b = chkL a (bytesOf s) by have := HB.out; rwa [List.take_of_length_le (by rw [bytesOf_len]; exact Nat.le_refl _)] at this)
      go_wp2
      go_ret2
      exact ⟨by rw [HE.out]; rfl, rfl⟩

set_option maxHeartbeats 1000000 in
theorem specCheck_any (a : Int) (s : ByteArray) (w : World) (h0 : 0 ≤ a) (h1 : a < 65003) (hs : s.size ≤ maxLen) :
    Calls Try.prog 111 #[.int .i64 a, .string s] w fun e w' => e = .returned (.int .i64 (chkL a (bytesOf s))) ∧ w = w' := by
  unfold maxLen at hs
  go_enter Try.func111, Try.ntmps111
  go_wp2_with fail
  go_loop [0, 5] (fun c i => ∃ (k : Nat) (b : Int), i = .int .i64 k ∧ k ≤ s.size ∧ c = .int .i64 b ∧ 0 ≤ b ∧ b < 65003 ∧ Hid (b = chkL a ((bytesOf s).take k))) (fun _ i => s.size - (intOf i).toNat)
  case atStart => exact ⟨0, a, rfl, Nat.zero_le _, rfl, h0, h1, rfl⟩
  case round =>
    obtain ⟨k, b, rfl, hk, rfl, hb0, hb1, HB⟩ := hrel
    by_cases hlt : k < s.size
    · have HT := Lib.hid (bytesOf_take s k hlt)
      have hx : s[k].toNat < 256 := s[k].toNat_lt
      go_wp2
      go_round
      case rel =>
        refine ⟨k + 1, (907 * b + s[k].toNat + 179) % 65003, by go_num, by omega, ?_, by omega, by omega, ?_⟩
        · first | rfl | (congr 1; omega) | (simp; omega)
        · show _ = _
          rw [HT.out, chkL_snoc, ← HB.out]
      case measure => simp [intOf]; omega
    · obtain rfl : k = s.size := by omega
      have HE := Lib.hid (show b = chkL a (bytesOf s) by have := HB.out; rwa [List.take_of_length_le (by rw [bytesOf_len]; exact Nat.le_refl _)] at this)
      go_wp2
      go_ret
      exact ⟨by rw [HE.out]; rfl, rfl⟩

end Go.Proofs.Ytljhohacgceojaa

namespace Go.Proofs.Ytljhohacgceojaa
open Go.RowKit

def jobV (j : JobD) : Value := .agg #[.int .i64 j.long, .int .i64 j.due, .int .i64 j.weight, .int .i64 j.ready]

set_option maxHeartbeats 1000000 in
theorem eqJob_same (j : JobD) (w : World) :
    Calls Try.prog 120 #[jobV j, jobV j] w fun e w' => e = .returned (.bool true) ∧ Below w.heap.size w w' := by
  obtain ⟨a, b, c, d⟩ := j
  have h1 : (a != a) = false := by simp
  have h2 : (b != b) = false := by simp
  have h3 : (c != c) = false := by simp
  have h4 : (d != d) = false := by simp
  unfold jobV
  simp only
  go_enter Try.func120, Try.ntmps120
  go_wp2_with fail
  go_ret
  exact ⟨rfl, by (repeat' first | exact Below.refl _ _ | assumption | refine Below.alloc ?_ ?_ _ | refine Below.setCell ?_ ?_ _ | refine Below.drew ?_ | (simp; done) | (simp; omega))⟩

set_option maxHeartbeats 1000000 in
set_option maxRecDepth 4000 in
theorem eqJ_same (v v' : Value) (js : List JobD) (w : World) (h : RdJ w v js) (h' : RdJ w v' js) :
    Calls Try.prog 87 #[v, v'] w fun e w' => e = .returned (.bool true) ∧ Below w.heap.size w w' := by
  obtain ⟨a, c, rfl⟩ := h.shape
  obtain ⟨a', c', rfl⟩ := h'.shape
  have hl := h.len
  unfold maxLen at hl
  have hne : ((js.length : Int) != (js.length : Int)) = false := by simp
  have HS := Lib.hid h
  have HS' := Lib.hid h'
  clear h h'
  go_enter Try.func87, Try.ntmps87
  go_wp2_with fail
  go_loopw [5] (fun i wr => ∃ k : Nat, i = .int .i64 k ∧ k ≤ js.length ∧ Below w.heap.size w wr) (fun i _ => js.length - (intOf i).toNat)
  case atStart => exact ⟨0, rfl, Nat.zero_le _, Below.refl _ _⟩
  case round =>
    obtain ⟨k, rfl, hk, hbl⟩ := hrel
    have HB := Lib.hid hbl
    clear hbl
    by_cases hlt : k < js.length
    · obtain ⟨b, off, rfl, hb0, x0, x1, x2, x3⟩ := (HS.out.up HB.out (Nat.le_refl _)).at hlt
      obtain ⟨b', off', rfl, hb0', y0, y1, y2, y3⟩ := (HS'.out.up HB.out (Nat.le_refl _)).at hlt
      obtain ⟨j, hj⟩ : ∃ j, j = js.getD k J0 := ⟨_, rfl⟩
      rw [← hj] at x0 x1 x2 x3 y0 y1 y2 y3
      have HE := Lib.hid (eqJob_same j)
      obtain ⟨p, q, r, s⟩ := j
      simp only at x0 x1 x2 x3 y0 y1 y2 y3
      clear hj
      have kk : (k : Int) < (js.length : Int) := by omega
      have HKEEP := Lib.hid (show ∀ X, Below wr.heap.size wr X → (fun X => X.cell? ⟨b, off + k * 4, none⟩ = some (.int .i64 p) ∧ X.cell? ⟨b, off + k * 4 + 1, none⟩ = some (.int .i64 q) ∧ X.cell? ⟨b, off + k * 4 + 2, none⟩ = some (.int .i64 r) ∧ X.cell? ⟨b, off + k * 4 + 3, none⟩ = some (.int .i64 s) ∧ X.cell? ⟨b', off' + k * 4, none⟩ = some (.int .i64 p) ∧ X.cell? ⟨b', off' + k * 4 + 1, none⟩ = some (.int .i64 q) ∧ X.cell? ⟨b', off' + k * 4 + 2, none⟩ = some (.int .i64 r) ∧ X.cell? ⟨b', off' + k * 4 + 3, none⟩ = some (.int .i64 s)) X from fun X hb => ⟨held_of hb x0 (Nat.le_refl _), held_of hb x1 (Nat.le_refl _), held_of hb x2 (Nat.le_refl _), held_of hb x3 (Nat.le_refl _), held_of hb y0 (Nat.le_refl _), held_of hb y1 (Nat.le_refl _), held_of hb y2 (Nat.le_refl _), held_of hb y3 (Nat.le_refl _)⟩)
      go_wp2_with fail
      go_region_held3 (fun X => X.cell? ⟨b, off + k * 4, none⟩ = some (.int .i64 p) ∧ X.cell? ⟨b, off + k * 4 + 1, none⟩ = some (.int .i64 q) ∧ X.cell? ⟨b, off + k * 4 + 2, none⟩ = some (.int .i64 r) ∧ X.cell? ⟨b, off + k * 4 + 3, none⟩ = some (.int .i64 s) ∧ X.cell? ⟨b', off' + k * 4, none⟩ = some (.int .i64 p) ∧ X.cell? ⟨b', off' + k * 4 + 1, none⟩ = some (.int .i64 q) ∧ X.cell? ⟨b', off' + k * 4 + 2, none⟩ = some (.int .i64 r) ∧ X.cell? ⟨b', off' + k * 4 + 3, none⟩ = some (.int .i64 s))
        (first | exact HKEEP.out _ hbn | (refine HKEEP.out _ ?_; (repeat' first | exact Below.refl _ _ | assumption | refine Below.alloc ?_ ?_ _ | refine Below.setCell ?_ ?_ _ | refine Below.drew ?_ | (simp; done) | (simp; omega)); done) | go_keep)
        (first
          | (go_at_call 120; refine (HE.out _).mono ?_; rintro e w1 ⟨rfl, hb1⟩; have hbn : Below wr.heap.size wr w1 := Below.trans (by (repeat' first | exact Below.refl _ _ | assumption | refine Below.alloc ?_ ?_ _ | refine Below.setCell ?_ ?_ _ | refine Below.drew ?_ | (simp; done) | (simp; omega))) (hb1.mono (by simp)))
          | fail)
      go_wp2_with fail
      go_roundw
      case rel => exact ⟨k + 1, by go_num, by omega, HB.out.trans (hbn.mono HB.out.size)⟩
      case measure => simp [intOf]; omega
    · obtain rfl : k = js.length := by omega
      go_wp2_with fail
      go_ret
      exact ⟨rfl, HB.out⟩

/-- The marks of jobs. -/
def mkdJ (k : Int) (js : List JobD) : List JobD := (List.range js.length).map fun (i : Nat) => ⟨k + 4 * i, k + 4 * i + 1, k + 4 * i + 2, k + 4 * i + 3⟩
theorem mkdJ_len (k : Int) (js : List JobD) : (mkdJ k js).length = js.length := by simp [mkdJ]
theorem mkdJ_at (k : Int) (js : List JobD) (i : Nat) (h : i < js.length) : (mkdJ k js).getD i J0 = ⟨k + 4 * i, k + 4 * i + 1, k + 4 * i + 2, k + 4 * i + 3⟩ := by simp [mkdJ, h]

/-- The first m jobs marked. -/
def mkpJ (k : Int) (js : List JobD) (m : Nat) : List JobD := (List.range js.length).map fun (i : Nat) => if i < m then ⟨k + 4 * i, k + 4 * i + 1, k + 4 * i + 2, k + 4 * i + 3⟩ else js.getD i J0
theorem mkpJ_len (k : Int) (js : List JobD) (m : Nat) : (mkpJ k js m).length = js.length := by simp [mkpJ]
theorem mkpJ_zero (k : Int) (js : List JobD) : mkpJ k js 0 = js := by
  apply List.ext_getElem?
  intro i
  by_cases h : i < js.length
  · simp [mkpJ, h]
  · simp [mkpJ, h]
theorem mkpJ_full (k : Int) (js : List JobD) : mkpJ k js js.length = mkdJ k js := by
  apply List.ext_getElem?
  intro i
  by_cases h : i < js.length
  · simp [mkpJ, mkdJ, h]
  · simp [mkpJ, mkdJ, h]
theorem mkpJ_set (k : Int) (js : List JobD) (m : Nat) (hm : m < js.length) : mkpJ k js (m + 1) = (mkpJ k js m).set m ⟨k + 4 * m, k + 4 * m + 1, k + 4 * m + 2, k + 4 * m + 3⟩ := by
  apply List.ext_getElem?
  intro i
  rw [List.getElem?_set]
  by_cases h : i < js.length
  · by_cases he : m = i
    · subst he; simp [mkpJ, h]
    · have e : (i < m + 1) = (i < m) := by rw [eq_iff_iff]; omega
      simp [mkpJ, h, he, e]
  · by_cases he : m = i
    · omega
    · simp [mkpJ, h, he]
theorem jobsC_set : ∀ (js : List JobD) (i : Nat) (a b c d : Int), i < js.length → ((((jobsC js).set (i * 4) (I64 a)).set (i * 4 + 1) (I64 b)).set (i * 4 + 2) (I64 c)).set (i * 4 + 3) (I64 d) = jobsC (js.set i ⟨a, b, c, d⟩)
  | [], i, _, _, _, _, h => by simp at h
  | j :: r, 0, a, b, c, d, _ => by simp [jobsC, jobCells]
  | j :: r, i + 1, a, b, c, d, h => by
    have ih := jobsC_set r i a b c d (by simpa using h)
    have e : ∀ (L : List Value) (n m : Nat) (v : Value), m = n + 4 → (jobCells j ++ L).set m v = jobCells j ++ L.set n v := fun L n m v hm => by subst hm; rfl
    show ((((jobCells j ++ jobsC r).set ((i + 1) * 4) (I64 a)).set ((i + 1) * 4 + 1) (I64 b)).set ((i + 1) * 4 + 2) (I64 c)).set ((i + 1) * 4 + 3) (I64 d) = jobCells j ++ jobsC (r.set i ⟨a, b, c, d⟩)
    rw [e _ (i * 4) _ _ (by omega), e _ (i * 4 + 1) _ _ (by omega), e _ (i * 4 + 2) _ _ (by omega), e _ (i * 4 + 3) _ _ (by omega), ih]

theorem ownsK_some {w : World} {lo size : Nat} {e : TypeId} {a : Option Addr} {n cap : Nat} {vs : List Value} (h : w.ownsRow lo e size (.slice a n cap) n vs) (hn : 0 < n) : ∃ g, a = some ⟨g, 0, none⟩ ∧ lo ≤ g := by
  rcases h.2 with ⟨e, e2⟩ | ⟨g, cap', cur, e, hb, _⟩
  · simp at e; omega
  · simp only [Value.slice.injEq, true_and] at e
    exact ⟨g, e.1, hb⟩

end Go.Proofs.Ytljhohacgceojaa

namespace Go.Proofs.Ytljhohacgceojaa
open Go.RowKit

set_option maxHeartbeats 4000000 in
set_option maxRecDepth 8000 in
theorem storeCase_any (v : Value) (d : CaseD) (w : World) (h : RdCs w v d) (hq : caseB d = true) :
    Calls Try.prog 65 #[v] w fun e w' => e = .returned (.string (storeS d)) ∧ Below w.heap.size w w' := by
  obtain ⟨a1, c1, a2, c2, rfl⟩ := h.shape
  obtain ⟨p1, p2, p3⟩ := h.parts
  have hpf := p1.parts
  obtain ⟨s1, s2, s3, s4, s5⟩ := case_parts hq
  have HLB := Lib.hid (body_len hq)
  have HCL := Lib.hid (fun x hx => clause_len (s4 x hx))
  obtain ⟨nm, ⟨lt, cl⟩, pr⟩ := d
  simp only at p1 p2 p3 hpf s1 s2 s3 s5 HCL ⊢
  have hlt := inB_iff.1 s5
  have HF := Lib.hid hpf
  have HR := Lib.hid p2
  have HHB := Lib.hid (show headBytes ⟨nm, ⟨lt, cl⟩, pr⟩ = [67, 65, 83, 49] ++ [(nm.size : Int)] ++ bytesOf nm ++ [lt, (cl.length : Int), (pr.length : Int)] by
    unfold headBytes
    rw [by8_eq, by8_eq, by8_eq, by8_eq, show ((nm.size : Int) % 256) = nm.size by omega, show lt % 256 = lt by omega, show ((cl.length : Int) % 256) = cl.length by omega, show ((pr.length : Int) % 256) = pr.length by omega])
  have HBB := Lib.hid (show bodyBytes ⟨nm, ⟨lt, cl⟩, pr⟩ = headBytes ⟨nm, ⟨lt, cl⟩, pr⟩ ++ clausesBytes (cl ++ pr) from rfl)
  have HSB := Lib.hid (show storeS ⟨nm, ⟨lt, cl⟩, pr⟩ = strOfNums (bodyBytes ⟨nm, ⟨lt, cl⟩, pr⟩ ++ [by8 (chkL 0 (bodyBytes ⟨nm, ⟨lt, cl⟩, pr⟩)), by8 (chkL 0 (bodyBytes ⟨nm, ⟨lt, cl⟩, pr⟩) / 256)]) from rfl)
  obtain ⟨BB, hBB⟩ : ∃ B, B = bodyBytes ⟨nm, ⟨lt, cl⟩, pr⟩ := ⟨_, rfl⟩
  obtain ⟨HH, hHH⟩ : ∃ B, B = headBytes ⟨nm, ⟨lt, cl⟩, pr⟩ := ⟨_, rfl⟩
  rw [← hBB] at HBB HSB HLB
  have HBR := Lib.hid (show AllB BB by rw [hBB]; exact body_rng _)
  rw [← hHH] at HHB HBB
  clear hBB hHH h hq p1 p2 p3 hpf s4 s5
  have HNL := Lib.hid (bytesOf_len nm)
  have kc := fun (w : World) (C : Array Value) (n c : Nat) => Lib.run_convert_bytes_const (P := Try.prog) w 41 5 C n c Try.underlying41 Try.underlying5
  go_enter Try.func65, Try.ntmps65
  go_upto_region 1 with fail
  refine wp_at fun W hW => ?_
  have HB := Lib.hid (show Below w.heap.size w W by subst hW; (repeat' first | exact Below.refl _ _ | assumption | refine Below.alloc ?_ ?_ _ | refine Below.setCell ?_ ?_ _ | refine Below.drew ?_ | (simp; done) | (simp; omega)))
  have HK := Lib.hid (show Blk W w.heap.size 37 #[.string nm, .int .i64 lt, .slice a1 cl.length c1, .slice a2 pr.length c2] by subst hW; exact Blk.new _ _ _)
  have d0 : W.cell? ⟨w.heap.size, 0, none⟩ = some (.string nm) := HK.out.cell 0 rfl
  have dk : ∀ o : Obj, (W.alloc o).cell? ⟨w.heap.size, 0, none⟩ = some (.string nm) := fun o => Lib.cell?_alloc_marked o d0
  have hz := HB.out.size
  have hkl := HK.out.lt
  clear hW
  go_upto_region 2 with (at_builtin; refine app_bytes_grow rfl _ _ rfl W.heap.size W.heap.size 4 [67, 65, 83, 49] rfl (Slc.below (slcB_mark W [67, 65, 83, 49] 4 _ _ _ _ rfl rfl (by omega) rfl) ((Below.refl _ _).alloc (Nat.le_refl _) _) (Nat.le_refl _)) _ 1 [(nm.size : Int)] rfl (slcB_lit _ [(nm.size : Int)] 1 _ _ rfl rfl (by omega) (by simp)) (by decide) 5 ([67, 65, 83, 49] ++ [(nm.size : Int)]) rfl rfl (by omega) (by simp; omega) ?_; intro g1 cap1 w1 ho1 hb1)
  have hb1' : Below W.heap.size W w1 := (((Below.refl _ _).alloc (Nat.le_refl _) _).alloc (by simp) _).trans hb1
  have hz1 := hb1'.size
  have hb1w : Below W.heap.size W w1 := hb1'
  have HB1 := Lib.hid (HB.out.trans (hb1'.mono hz))
  have HK1 := Lib.hid (HK.out.below hb1' HK.out.lt)
  have HO1 := Lib.hid ho1
  clear d0 dk ho1 hb1 hb1' HK
  have d0 : w1.cell? ⟨w.heap.size, 0, none⟩ = some (.string nm) := HK1.out.cell 0 rfl
  go_upto_region 3 with (at_builtin; refine app_strB rfl _ _ rfl W.heap.size _ 5 ([67, 65, 83, 49] ++ [(nm.size : Int)]) rfl HO1.out nm rfl (5 + nm.size) ([67, 65, 83, 49] ++ [(nm.size : Int)] ++ bytesOf nm) rfl rfl (by omega) hz1 ?_; intro g2 cap2 w2 ho2 hb2 _)
  have hz2 := hb2.size
  have HB2 := Lib.hid (HB1.out.trans (hb2.mono (by omega)))
  have HK2 := Lib.hid (HK1.out.below hb2 (by omega))
  have HO2 := Lib.hid ho2
  have hb2w := hb1w.trans hb2
  clear d0 ho2 hb2 HK1 HO1 hb1w
  have d1 : w2.cell? ⟨w.heap.size, 1, none⟩ = some (.int .i64 lt) := HK2.out.cell 1 rfl
  have d2 : w2.cell? ⟨w.heap.size, 2, none⟩ = some (.slice a1 cl.length c1) := HK2.out.cell 2 rfl
  have d3 : w2.cell? ⟨w.heap.size, 3, none⟩ = some (.slice a2 pr.length c2) := HK2.out.cell 3 rfl
  go_upto_region 4 with (at_builtin; refine app_bytes rfl _ _ rfl W.heap.size _ (5 + nm.size) ([67, 65, 83, 49] ++ [(nm.size : Int)] ++ bytesOf nm) rfl (HO2.out.alloc _) _ [lt, (cl.length : Int), (pr.length : Int)] rfl (slcB_lit _ [lt, (cl.length : Int), (pr.length : Int)] 3 _ _ rfl rfl (by omega) (by simp)) (5 + nm.size + 3) HH rfl HHB.out (by omega) (by simp; omega) ?_; intro g3 cap3 w3 ho3 hb3 _)
  have hb3' : Below W.heap.size w2 w3 := ((Below.refl _ _).alloc (by omega) _).trans hb3
  have hz3 := hb3'.size
  have HB3 := Lib.hid (HB2.out.trans (hb3'.mono hz))
  have HBW3 := Lib.hid (hb2w.trans hb3')
  have HK3 := Lib.hid (HK2.out.below hb3' (by omega))
  have HO3 := Lib.hid ho3
  clear d1 d2 d3 ho3 hb3 hb3' HK2 HO2 hb2w
  have d2 : w3.cell? ⟨w.heap.size, 2, none⟩ = some (.slice a1 cl.length c1) := HK3.out.cell 2 rfl
  have d3 : w3.cell? ⟨w.heap.size, 3, none⟩ = some (.slice a2 pr.length c2) := HK3.out.cell 3 rfl
  go_wp2_with fail
  refine Calls.at fun W4 hW4 => ?_
  have hb4 : Below w3.heap.size w3 W4 := by subst hW4; exact (Below.refl _ _).alloc (Nat.le_refl _) _
  have k1 : W4.cell? ⟨w3.heap.size, 0, none⟩ = some (.slice a1 cl.length c1) := by subst hW4; exact (Blk.new w3 28 #[.slice a1 cl.length c1, .slice a2 pr.length c2]).cell 0 rfl
  have k2 : W4.cell? ⟨w3.heap.size, 1, none⟩ = some (.slice a2 pr.length c2) := by subst hW4; exact (Blk.new w3 28 #[.slice a1 cl.length c1, .slice a2 pr.length c2]).cell 1 rfl
  clear hW4
  have hz4 := hb4.size
  have HB4 := Lib.hid (HB3.out.trans (hb4.mono (by omega)))
  have HO4 := Lib.hid (owns_below HO3.out hb4 (Nat.le_refl _))
  have HBW4 := Lib.hid (HBW3.out.trans (hb4.mono (by omega)))
  clear d2 d3 hb4
  obtain ⟨vs1, sl1, ea1⟩ := HF.out
  obtain ⟨vs2, sl2, ea2⟩ := HR.out
  have EA := Lib.hid (show Each w (vs1 ++ vs2) (cl ++ pr) from ⟨by rw [List.length_append, List.length_append, ea1.1, ea2.1], fun i u zs hu hzs => by
    by_cases hi2 : i < cl.length
    · rw [List.getElem?_append_left (by rw [ea1.1]; exact hi2)] at hu
      rw [List.getElem?_append_left hi2] at hzs
      exact ea1.2 i u zs hu hzs
    · rw [List.getElem?_append_right (by rw [ea1.1]; omega), ea1.1] at hu
      rw [List.getElem?_append_right (by omega)] at hzs
      exact ea2.2 _ u zs hu hzs⟩)
  have one : ∀ (vs : List Value) (zs : List (List Int)), Each w vs zs → ∀ u ∈ vs, u.oneCell' = true := fun vs zs he u hu => by
    obtain ⟨j, hj⟩ := List.mem_iff_getElem?.1 hu
    obtain ⟨x, hx⟩ : ∃ x, zs[j]? = some x := ⟨_, List.getElem?_eq_getElem (by have := (List.getElem?_eq_some_iff.1 hj).1; have := he.1; omega)⟩
    obtain ⟨_, _, e⟩ := (he.2 j u x hj hx).shape
    subst e; rfl
  have o1 := one _ _ ea1
  have o2 := one _ _ ea2
  have l1 := ea1.1
  have l2 := ea2.1
  clear one ea1 ea2
  refine (concatLL_any w3.heap.size a1 c1 cl.length a2 c2 pr.length vs1 vs2 W4 (sl1.below HB4.out (Nat.le_refl _)) (sl2.below HB4.out (Nat.le_refl _)) o1 o2 l1 l2 k1 k2 (by omega)).mono ?_
  rintro e w5 ⟨a5, c5, rfl, hr5, hb5⟩
  clear k1 k2 sl1 sl2 o1 o2 l1 l2
  have HB5 := Lib.hid (HB4.out.trans (hb5.mono (by omega)))
  have HO5 := Lib.hid (owns_below HO4.out hb5 (Nat.le_refl _))
  have hz5 := hb5.size
  have HBW := Lib.hid (HBW4.out.trans (hb5.mono (by omega)))
  have hzw := HB5.out.size
  have HLL := Lib.hid (show (cl ++ pr).length = cl.length + pr.length from List.length_append)
  obtain ⟨N, hN⟩ : ∃ N, N = cl.length + pr.length := ⟨_, rfl⟩
  rw [← hN] at hr5 HLL ⊢
  have hln : N ≤ 176 := by omega
  have HR5 := Lib.hid hr5
  obtain ⟨L, hL⟩ : ∃ L, L = cl ++ pr := ⟨_, rfl⟩
  rw [← hL] at HBB HCL EA HLL
  obtain ⟨vs, hvs⟩ : ∃ vs, vs = vs1 ++ vs2 := ⟨_, rfl⟩
  rw [← hvs] at HR5 EA
  clear hr5 hb5 hL hvs HHB hN
  obtain ⟨m, hm⟩ : ∃ m, m = 5 + nm.size + 3 := ⟨_, rfl⟩
  have hm16 : m ≤ 16 := by omega
  have hm0 : 0 < m := by omega
  rw [← hm] at HO5 ⊢
  clear hm
  go_wp2_with fail
  go_loopw [3, 46] (fun o i wr => ∃ (k n : Nat) (a : Option Addr) (cap : Nat), i = .int .i64 k ∧ k ≤ N ∧ o = .slice a n cap ∧ n ≤ 16 + 11 * k ∧ 0 < n ∧ Hid (wr.ownsRow W.heap.size 5 1 (.slice a n cap) n ((HH ++ clausesBytes (L.take k)).map B8)) ∧ Hid (wr.ownsRow W4.heap.size 60 1 (.slice a5 N c5) N vs) ∧ Hid (Below W.heap.size W wr)) (fun _ i _ => N - (intOf i).toNat)
  case atStart => exact ⟨0, m, g3, cap3, rfl, Nat.zero_le _, rfl, by omega, by omega, by rw [show clausesBytes (L.take 0) = [] from rfl, List.append_nil]; exact HO5, HR5, HBW⟩
  case round =>
    obtain ⟨k, n, a, cap, rfl, hk, rfl, hn, hn0, HO, HL, HBr⟩ := hrel
    have hzr := HBr.out.size
    by_cases hlt2 : k < N
    · obtain ⟨g5, rfl, hg5⟩ : ∃ g, a5 = some ⟨g, 0, none⟩ ∧ True := by obtain ⟨g, e, _⟩ := ownsK_some HL.out (by omega); exact ⟨g, e, trivial⟩
      have hkl2 : k < L.length := by rw [HLL.out]; exact hlt2
      have HSN := Lib.hid (clausesBytes_snoc L k hkl2)
      have hcl := HCL.out (L.getD k []) (by rw [show L.getD k [] = L[k] by simp [hkl2]]; exact List.getElem_mem hkl2)
      obtain ⟨u, hu⟩ : ∃ u, vs[k]? = some u := ⟨_, List.getElem?_eq_getElem (by rw [EA.out.1]; exact hkl2)⟩
      have hc := HL.out.cellAt k (by omega)
      rw [hu] at hc
      have hru := EA.out.2 k u (L.getD k []) hu (by simp [hkl2])
      obtain ⟨c, hcc⟩ : ∃ c, c = L.getD k [] := ⟨_, rfl⟩
      rw [← hcc] at hru HSN hcl
      clear hcc hu
      obtain ⟨ua, uc, rfl⟩ := hru.shape
      have HU := Lib.hid hru
      have HC0 := Lib.hid (show (clauseBytes c).take 1 = [(c.length : Int)] by unfold clauseBytes; rw [by8_eq, show ((c.length : Int) % 256) = c.length by omega]; rfl)
      have hltI : (k : Int) < (N : Int) := by omega
      clear hru
      go_upto_region 8 with (at_builtin; refine app_bytes rfl _ _ rfl W.heap.size _ n (HH ++ clausesBytes (L.take k)) rfl (HO.out.alloc _) _ [(c.length : Int)] rfl (slcB_lit _ [(c.length : Int)] 1 _ _ rfl rfl (by omega) rfl) (n + 1) (HH ++ clausesBytes (L.take k) ++ (clauseBytes c).take 1) rfl (by rw [HC0.out]) (by omega) (by simp; omega) ?_; intro g6 cap6 w6 ho6 hb6 hg6)
      have HB6 := Lib.hid (HBr.out.trans (((Below.refl _ _).alloc (by omega) _).trans hb6))
      have HL6 := Lib.hid (owns_beside (HL.out.alloc _) (HO.out.alloc _) (by decide) hg6)
      have HO6 := Lib.hid ho6
      clear hc ho6 hb6 hg6
      go_wp2_with fail
      go_loopw [3, 58] (fun o i wr => ∃ (j n2 : Nat) (a : Option Addr) (cap : Nat), i = .int .i64 j ∧ j ≤ c.length ∧ o = .slice a n2 cap ∧ n2 ≤ 17 + 11 * k + j ∧ 0 < n2 ∧ Hid (wr.ownsRow W.heap.size 5 1 (.slice a n2 cap) n2 ((HH ++ clausesBytes (L.take k) ++ (clauseBytes c).take (j + 1)).map B8)) ∧ Hid (wr.ownsRow W4.heap.size 60 1 (.slice (some ⟨g5, 0, none⟩) N c5) N vs) ∧ Hid (Below W.heap.size W wr)) (fun _ i _ => c.length - (intOf i).toNat)
      case atStart => exact ⟨0, n + 1, g6, cap6, rfl, Nat.zero_le _, rfl, by omega, by omega, HO6, HL6, HB6⟩
      case round =>
        obtain ⟨j, n2, a7, cap7, rfl, hj, rfl, hn2, hn20, HO7, HL7, HB7⟩ := hrel
        have hzr2 := HB7.out.size
        by_cases hjl : j < c.length
        · obtain ⟨b, off, rfl, hb0, hcx⟩ := (HU.out.up (HB.out.trans (HB7.out.mono hz)) (Nat.le_refl _)).at hjl
          have HT := Lib.hid (clauseBytes_take c j hjl)
          obtain ⟨x, hx⟩ : ∃ x, x = c.getD j 0 := ⟨_, rfl⟩
          rw [← hx] at hcx HT
          clear hx
          have hjlI : (j : Int) < (c.length : Int) := by omega
          go_wp2_with (at_builtin; refine app_bytes rfl _ _ rfl W.heap.size _ n2 (HH ++ clausesBytes (L.take k) ++ (clauseBytes c).take (j + 1)) rfl (HO7.out.alloc _) _ [by8 x] rfl (slcB_lit _ [by8 x] 1 _ _ rfl rfl (by omega) rfl) (n2 + 1) (HH ++ clausesBytes (L.take k) ++ (clauseBytes c).take (j + 2)) rfl (by rw [HT.out]; simp only [List.append_assoc]) (by omega) (by simp; omega) ?_; intro g8 cap8 w8 ho8 hb8 hg8)
          have HB8 := Lib.hid (HB7.out.trans (((Below.refl _ _).alloc (by omega) _).trans hb8))
          have HL8 := Lib.hid (owns_beside (HL7.out.alloc _) (HO7.out.alloc _) (by decide) hg8)
          go_roundw
          case rel => exact ⟨j + 1, n2 + 1, g8, cap8, by go_num, by omega, rfl, by omega, by omega, ho8, HL8, HB8⟩
          case measure => simp [intOf]; omega
        · obtain rfl : j = c.length := by omega
          have HT := Lib.hid (show HH ++ clausesBytes (L.take k) ++ (clauseBytes c).take (c.length + 1) = HH ++ clausesBytes (L.take (k + 1)) by
            rw [HSN.out, List.append_assoc, show (clauseBytes c).take (c.length + 1) = clauseBytes c from List.take_of_length_le (by simp [clauseBytes])])
          rw [HT.out] at HO7
          go_wp2_with fail
          go_roundw
          case rel => exact ⟨k + 1, n2, a7, cap7, by go_num, by omega, rfl, by omega, hn20, HO7, HL7, HB7⟩
          case measure => simp [intOf]; omega
    · obtain rfl : k = N := by omega
      have HFB := Lib.hid (show HH ++ clausesBytes (L.take k) = BB by rw [List.take_of_length_le (by rw [HLL.out]; exact Nat.le_refl _), HBB.out])
      rw [HFB.out] at HO
      have hcv := conv_bytes HO.out hn0
      have HNB := Lib.hid (show BB.length = n by have := HO.out.1; simpa using this)
      have hbd := chkL_bd BB 0 (by omega) (by omega)
      obtain ⟨ck, hck⟩ : ∃ ck, ck = chkL 0 BB := ⟨_, rfl⟩
      rw [← hck] at hbd HSB
      have HCK := Lib.hid hck
      clear hck
      go_wp2_with fail
      refine (implCheck_any 0 (strOfNums BB) wr (by omega) (by omega) (by rw [strOfNums_size, HNB.out]; unfold maxLen; omega)).mono ?_
      rintro e w9 ⟨rfl, rfl⟩
      rw [bytes_back BB HBR.out, ← HCK.out]
      clear hcv
      rw [by8_eq, by8_eq, show ck / 256 % 256 = ck / 256 by omega] at HSB
      go_wp2_with (at_builtin; refine app_bytes rfl _ _ rfl W.heap.size _ n BB rfl (HO.out.alloc _) _ [ck % 256, ck / 256] rfl (slcB_lit _ [ck % 256, ck / 256] 2 _ _ rfl rfl (by omega) rfl) (n + 2) (BB ++ [ck % 256, ck / 256]) rfl rfl (by omega) (by simp; omega) ?_; intro g9 cap9 w9 ho9 hb9 _; have hcv2 := conv_bytes ho9 (by omega))
      go_ret
      exact ⟨by rw [HSB.out]; rfl, (HB.out.trans (HBr.out.mono hz)).trans ((((Below.refl _ _).alloc (by omega) _).trans hb9).mono hz)⟩

end Go.Proofs.Ytljhohacgceojaa
