/-
  FnCases: texts joined: MarkText, MarkCL, RecM, Stores, BeginM.
-/
import Derived.Maps.AppendAt
import Derived.Test.YtkkcgclliomocaaMFnCasesAD
import Derived.Test.YtkkcgclliomocaaMFnCasesAG
import Derived.Test.YtkkcgclliomocaaMFnCasesAH
import Derived.Test.YtkkcgclliomocaaMFnCasesAI
namespace Go.Proofs.Ytkkcgclliomocaa
open Go.RowKit

/-- The digits of a number, put ahead of a text. -/
def dgS : Nat → Nat → ByteArray → ByteArray
  | 0, _, acc => acc
  | f + 1, n, acc => if n = 0 then acc else dgS f (n / 10) (strOfNums [by8 (48 + (n : Int) % 10)] ++ acc)
def mkText (k : Nat) : ByteArray := if k = 0 then ⟨#[109, 48]⟩ else ⟨#[109]⟩ ++ dgS k k ⟨#[]⟩
theorem dgS_more : ∀ (f g n : Nat) (acc : ByteArray), n ≤ f → n ≤ g → dgS f n acc = dgS g n acc
  | 0, g, n, acc, hf, hg => by
    obtain rfl : n = 0 := by omega
    cases g <;> simp [dgS]
  | f + 1, 0, n, acc, hf, hg => by
    obtain rfl : n = 0 := by omega
    simp [dgS]
  | f + 1, g + 1, n, acc, hf, hg => by
    simp only [dgS]
    split
    · rfl
    · exact dgS_more f g (n / 10) _ (by omega) (by omega)
theorem dgS_go (n : Nat) (acc : ByteArray) (h : 0 < n) : dgS n n acc = dgS (n / 10) (n / 10) (strOfNums [by8 (48 + (n : Int) % 10)] ++ acc) := by
  obtain ⟨m, rfl⟩ : ∃ m, n = m + 1 := ⟨n - 1, by omega⟩
  conv => lhs; unfold dgS
  rw [if_neg (by omega)]
  exact dgS_more _ _ _ _ (by omega) (Nat.le_refl _)
theorem dgS_size : ∀ (f n : Nat) (acc : ByteArray), (dgS f n acc).size ≤ acc.size + n
  | 0, n, acc => by simp only [dgS]; omega
  | f + 1, n, acc => by
    simp only [dgS]
    split
    · omega
    · have h := dgS_size f (n / 10) (strOfNums [by8 (48 + (n : Int) % 10)] ++ acc)
      rw [ByteArray.size_append, strOfNums_size] at h
      simp only [List.length_cons, List.length_nil] at h
      omega
theorem mkText_size (k : Nat) : (mkText k).size ≤ k + 2 := by
  unfold mkText
  split
  · show 2 ≤ _; omega
  · rw [ByteArray.size_append]
    have := dgS_size k k ⟨#[]⟩
    have e : (⟨#[]⟩ : ByteArray).size = 0 := rfl
    have e1 : (⟨#[109]⟩ : ByteArray).size = 1 := rfl
    omega

set_option maxHeartbeats 2000000 in
set_option maxRecDepth 4000 in
theorem markText_any (k : Int) (w : World) (h0 : 0 ≤ k) (h1 : k ≤ 2199023255552) :
    Calls Try.prog 69 #[.int .i64 k] w fun e w' => e = .returned (.string (mkText k.toNat)) ∧ Below w.heap.size w w' := by
  obtain ⟨K, rfl⟩ := Int.eq_ofNat_of_zero_le h0
  rw [Int.toNat_natCast]
  by_cases hz : K = 0
  · subst hz
    go_enter Try.func69, Try.ntmps69
    go_wp2_with fail
    go_ret
    exact ⟨rfl, Below.refl _ _⟩
  have hKI : (0 : Int) < (K : Int) := by omega
  have HT := Lib.hid (show mkText K = ⟨#[109]⟩ ++ dgS K K ⟨#[]⟩ by unfold mkText; rw [if_neg hz])
  clear h0
  go_enter Try.func69, Try.ntmps69
  go_wp2_with fail
  go_loopw [0, 3] (fun kv ov wr => ∃ (m : Nat) (A : ByteArray), kv = .int .i64 m ∧ m ≤ K ∧ ov = .string A ∧ A.size + m ≤ K ∧ Hid (dgS K K ⟨#[]⟩ = dgS m m A) ∧ Hid (Below w.heap.size w wr)) (fun kv _ _ => (intOf kv).toNat)
  case atStart => exact ⟨K, ⟨#[]⟩, rfl, Nat.le_refl _, rfl, (by show 0 + K ≤ K; omega), rfl, Below.refl _ _⟩
  case round =>
    obtain ⟨m, A, rfl, hm, rfl, hA, HD, HB⟩ := hrel
    by_cases hlt : 0 < m
    · have hmI : (0 : Int) < (m : Int) := by omega
      have HG := Lib.hid (dgS_go m A hlt)
      have hb8 : by8 (48 + (m : Int) % 10) = 48 + (m : Int) % 10 := by rw [by8_eq]; omega
      have hcv := conv_bytes (ownsB_lit wr [48 + (m : Int) % 10] 1 wr.heap.size #[.int .u8 (48 + (m : Int) % 10)] rfl rfl (by omega) rfl) (by omega)
      have hsz : (strOfNums [48 + (m : Int) % 10]).size = 1 := strOfNums_size _
      rw [hb8] at HG
      have hap : (strOfNums [48 + (m : Int) % 10] ++ A).size = 1 + A.size := by rw [ByteArray.size_append, hsz]
      have hadd := fun (W : World) => run_string_add_sum (P := Try.prog) (w := W) (strOfNums [48 + (m : Int) % 10]) A (by rw [hsz]; omega)
      have hb' : Below w.heap.size w (wr.alloc (.cells #[.int .u8 (48 + (m : Int) % 10)] 5)) := HB.out.alloc HB.out.size _
      have HB' := Lib.hid hb'
      have hw8 : IntKind.u8.wrap (48 + (m : Int) % 10) = 48 + (m : Int) % 10 := hb8
      obtain ⟨X, hX⟩ : ∃ X, X = strOfNums [48 + (m : Int) % 10] := ⟨_, rfl⟩
      rw [← hX] at hcv hadd HG hap
      clear hsz hb' hX hb8
      go_wp2_with fail
      go_roundw
      case rel =>
        refine ⟨m / 10, X ++ A, by first | rfl | (go_num; done) | (congr 1; omega), by omega, rfl, by omega, Lib.hid (by rw [HD.out, HG.out]), HB'⟩
      case measure => simp [intOf]; omega
    · obtain rfl : m = 0 := by omega
      have HE := Lib.hid (show mkText K = ⟨#[109]⟩ ++ A by rw [HT.out, HD.out]; rfl)
      have hadd := fun (W : World) => run_string_add_sum (P := Try.prog) (w := W) ⟨#[109]⟩ A (by have e : (⟨#[109]⟩ : ByteArray).size = 1 := rfl; rw [e]; omega)
      go_wp2_with fail
      go_ret
      exact ⟨by rw [HE.out]; rfl, HB.out⟩

end Go.Proofs.Ytkkcgclliomocaa

namespace Go.Proofs.Ytkkcgclliomocaa
open Go.RowKit

def cntC2 (d : CaseD) : Nat := 2 + (cntL d.form.clauses + cntL d.proof)
def cntCL : List CaseD → Nat
  | [] => 0
  | d :: r => cntC2 d + cntCL r
theorem cntCL_append : ∀ (a b : List CaseD), cntCL (a ++ b) = cntCL a + cntCL b
  | [], b => by simp [cntCL]
  | z :: r, b => by simp only [List.cons_append, cntCL, cntCL_append r b]; omega
theorem cntCL_succ (ds : List CaseD) (j : Nat) (h : j < ds.length) : cntCL (ds.take (j + 1)) = cntCL (ds.take j) + cntC2 (ds.getD j ICL) := by
  rw [List.take_succ_eq_append_getElem h, cntCL_append]
  simp [h, cntCL]
theorem cntCL_le (ds : List CaseD) (j : Nat) : cntCL (ds.take j) ≤ cntCL ds := by
  have : cntCL (ds.take j) + cntCL (ds.drop j) = cntCL ds := by rw [← cntCL_append, List.take_append_drop]
  omega
def mkdC2 (k : Int) (d : CaseD) : CaseD := ⟨mkText k.toNat, ⟨k + 1, mkdL (k + 1 + 1) d.form.clauses⟩, mkdL (k + 1 + 1 + cntL d.form.clauses) d.proof⟩
def mkdCL : Int → List CaseD → List CaseD
  | _, [] => []
  | k, d :: r => mkdC2 k d :: mkdCL (k + cntC2 d) r
theorem mkdCL_length : ∀ (k : Int) (ds : List CaseD), (mkdCL k ds).length = ds.length
  | _, [] => rfl
  | k, d :: r => by simp only [mkdCL, List.length_cons, mkdCL_length]
theorem mkdCL_append : ∀ (k : Int) (a b : List CaseD), mkdCL k (a ++ b) = mkdCL k a ++ mkdCL (k + cntCL a) b
  | k, [], b => by simp [mkdCL, cntCL]
  | k, d :: r, b => by
    simp only [List.cons_append, mkdCL, mkdCL_append (k + cntC2 d) r b, cntCL]
    congr 3
    push_cast; omega
theorem mkdCL_at (k : Int) (ds : List CaseD) (j : Nat) (h : j < ds.length) : (mkdCL k ds).getD j ICL = mkdC2 (k + cntCL (ds.take j)) (ds.getD j ICL) := by
  have e : ds = ds.take j ++ (ds.getD j ICL :: ds.drop (j + 1)) := by
    rw [List.getD_eq_getElem?_getD, List.getElem?_eq_getElem h, Option.getD_some, ← List.drop_eq_getElem_cons h, List.take_append_drop]
  conv => lhs; rw [e]
  rw [mkdCL_append, List.getD_eq_getElem?_getD, List.getElem?_append_right (by rw [mkdCL_length, List.length_take]; omega), mkdCL_length, List.length_take, Nat.min_eq_left (by omega), Nat.sub_self]
  rfl
/-- Marked up to j. -/
def upCL (k : Int) (ds : List CaseD) (j : Nat) : List CaseD := mkdCL k (ds.take j) ++ ds.drop j
theorem upCL_len (k : Int) (ds : List CaseD) (j : Nat) : (upCL k ds j).length = ds.length := by
  unfold upCL; rw [List.length_append, mkdCL_length, List.length_take, List.length_drop]; omega
theorem upCL_at (k : Int) (ds : List CaseD) (j : Nat) (h : j < ds.length) : (upCL k ds j)[j]? = some (ds.getD j ICL) := by
  unfold upCL
  rw [List.getElem?_append_right (by rw [mkdCL_length, List.length_take]; omega), mkdCL_length, List.length_take, Nat.min_eq_left (by omega), Nat.sub_self, List.getElem?_drop, Nat.add_zero, List.getD_eq_getElem?_getD, List.getElem?_eq_getElem h]
  rfl
theorem upCL_succ (k : Int) (ds : List CaseD) (j : Nat) (h : j < ds.length) : upCL k ds (j + 1) = (upCL k ds j).set j (mkdC2 (k + cntCL (ds.take j)) (ds.getD j ICL)) := by
  unfold upCL
  rw [List.set_append_right _ _ (by rw [mkdCL_length, List.length_take]; omega), mkdCL_length, List.length_take, Nat.min_eq_left (by omega), Nat.sub_self, List.take_succ_eq_append_getElem h, mkdCL_append, List.append_assoc]
  congr 1
  rw [List.drop_eq_getElem_cons h, List.set_cons_zero]
  simp only [mkdCL, List.cons_append, List.nil_append]
  rw [List.getD_eq_getElem?_getD, List.getElem?_eq_getElem h]
  rfl

theorem set_same (L : List Value) (i : Nat) (u : Value) (h : L[i]? = some u) : L.set i u = L := by
  apply List.ext_getElem?
  intro m
  rw [List.getElem?_set]
  split
  · next e =>
    subst e
    split
    · exact h.symm
    · next hl => rw [List.getElem?_eq_none (by omega)]
  · rfl
theorem set2_flat (rows : List RowCL) (j : Nat) (r r' : RowCL) (hr : rows[j]? = some r) (h1 : r'.a1 = r.a1) (h2 : r'.a2 = r.a2) :
    ((rows.flatMap cellsCL).set (j * 4) (.string r'.d.name)).set (j * 4 + 1) (.int .i64 r'.d.form.letters) = (rows.set j r').flatMap cellsCL := by
  have hj : j < rows.length := (List.getElem?_eq_some_iff.1 hr).1
  rw [← flat_put cellsCL 4 cellsCL_len rows j r' hj]
  simp only [putAt, cellsCL, h1, h2]
  have e2 := flat_at cellsCL 4 cellsCL_len rows j 2 r hr (by omega)
  have e3 := flat_at cellsCL 4 cellsCL_len rows j 3 r hr (by omega)
  rw [set_same _ (j * 4 + 1 + 1) r.a1, set_same _ (j * 4 + 1 + 1 + 1) r.a2]
  · rw [List.getElem?_set_ne (by omega), List.getElem?_set_ne (by omega)]; exact e3
  · rw [List.getElem?_set_ne (by omega), List.getElem?_set_ne (by omega)]; exact e2
theorem OwnECL.put {lo hi : Nat} {w w' : World} {rows : List RowCL} {j : Nat} {r r' : RowCL} (h : OwnECL lo hi w rows) (hr : rows[j]? = some r) (hl : r'.l = r.l) (hh : r'.h = r.h)
    (ho : OwnCs r.l r.h w' (aggCL r') r'.d) (hk : ∀ (i : Nat) (s : RowCL), i ≠ j → rows[i]? = some s → OwnCs s.l s.h w' (aggCL s) s.d) : OwnECL lo hi w' (rows.set j r') := by
  have hj : j < rows.length := (List.getElem?_eq_some_iff.1 hr).1
  constructor
  · intro i s hs
    rw [List.getElem?_set] at hs
    split at hs
    · next e =>
      simp only [Option.some.injEq] at hs
      subst hs
      rw [hl, hh]
      exact ⟨ho, (h.1 j r hr).2⟩
    · next e => exact ⟨hk i s (fun h => e h.symm) hs, (h.1 i s hs).2⟩
  · intro a b s t hab hs ht
    rw [List.getElem?_set] at hs ht
    split at hs
    · next e =>
      simp only [Option.some.injEq] at hs
      subst hs
      rw [if_neg (by omega)] at ht
      rw [hh]
      exact h.2 a b r t hab (by rw [← e]; exact hr) ht
    · split at ht
      · next e =>
        simp only [Option.some.injEq] at ht
        subst ht
        rw [hl]
        exact h.2 a b s r hab hs (by rw [← e]; exact hr)
      · exact h.2 a b s t hab hs ht

set_option maxHeartbeats 2000000 in
set_option maxRecDepth 4000 in
theorem markCL_o (v : Value) (lo hi : Nat) (ds : List CaseD) (k : Int) (w : World) (ho : OwnCL lo hi w v ds) (h0 : 0 ≤ k) (h1 : k + cntCL ds ≤ 1099511627776) :
    Calls Try.prog 24 #[v, .int .i64 k] w fun e w' => e = .returned (.int .i64 (k + cntCL ds)) ∧ OwnCL lo hi w' v (mkdCL k ds) ∧ Kept (fun b => lo ≤ b ∧ b < hi) w w' := by
  obtain ⟨a, c, rfl⟩ := ho.rd.shape
  have hl := ho.rd.len
  unfold maxLen at hl
  obtain ⟨rows0, hd, hown, hblk, hE⟩ := ho
  have H1 := Lib.hid h1
  have HO0 := Lib.hid hown
  have HE0 := Lib.hid hE
  have HB0 := Lib.hid hblk
  have HD0 := Lib.hid hd
  clear hd hown hblk hE h1
  go_enter Try.func24, Try.ntmps24
  go_wp2_with fail
  go_loopw [1, 5] (fun kk i wr => ∃ (j : Nat) (rows : List RowCL), i = .int .i64 j ∧ j ≤ ds.length ∧ kk = .int .i64 (k + (cntCL (ds.take j) : Nat)) ∧ Hid (rows.map (·.d) = upCL k ds j) ∧ Hid (wr.ownsRow lo 33 4 (.slice a ds.length c) ds.length (rows.flatMap cellsCL)) ∧ Hid (∀ g, (Value.slice a ds.length c).ownBlock = some g → g < hi ∧ ∀ (i : Nat) (r : RowCL), rows[i]? = some r → ¬ (r.l ≤ g ∧ g < r.h)) ∧ Hid (OwnECL lo hi wr rows) ∧ Hid (Kept (fun b => lo ≤ b ∧ b < hi) w wr)) (fun _ i _ => ds.length - (intOf i).toNat)
  case atStart => exact ⟨0, rows0, rfl, Nat.zero_le _, by simp [cntCL], Lib.hid (by rw [← HD0.out]; rfl), HO0, HB0, HE0, Kept.refl _ _⟩
  case round =>
    obtain ⟨j, rows, rfl, hj, rfl, HR, HO, HBK, HE, HK⟩ := hrel
    clear HO0 HE0 HB0 HD0
    by_cases hlt : j < ds.length
    · obtain ⟨g, rfl, hlo⟩ := ownsK_some HO.out (by omega)
      have hhi := (HBK.out g rfl).1
      have hlen : rows.length = ds.length := by have := congrArg List.length HR.out; rw [upCL_len, List.length_map] at this; exact this
      obtain ⟨r, hr⟩ : ∃ r, rows[j]? = some r := ⟨_, List.getElem?_eq_getElem (by omega)⟩
      have HRR := Lib.hid hr
      have hrd : r.d = ds.getD j ICL := by
        have h := upCL_at k ds j hlt
        rw [← HR.out, List.getElem?_map, hr] at h
        simpa using h
      have HSUC := Lib.hid (upCL_succ k ds j hlt)
      have HCN := Lib.hid (cntCL_succ ds j hlt)
      have hle := cntCL_le ds (j + 1)
      have h1 := H1.out
      rw [HCN.out] at hle
      unfold cntC2 at hle
      rw [← hrd] at HSUC HCN hle
      have hng := (HBK.out g rfl).2 j r hr
      have hrl := (HE.out.1 j r hr).2
      obtain ⟨va, vb, l1, q1, l2, q2, ev, ⟨vc, L1, Q1, ew, o1, r1, r2, r3, r4⟩, o2, hsz, s1, s2, s3, s4, s5, s6⟩ := (HE.out.1 j r hr).1
      simp only [aggCL, Value.agg.injEq, Array.mk.injEq, List.cons.injEq, and_true, true_and] at ev ew
      obtain ⟨e1, e2⟩ := ev
      subst ew
      obtain ⟨a1, c1, rfl⟩ := o1.rd.shape
      obtain ⟨a2, c2, rfl⟩ := o2.rd.shape
      have hat := fun (d : Nat) (hd : d < 4) => flat_at cellsCL 4 cellsCL_len rows j d r hr hd
      have d0 := HO.out.cellAt (j * 4) (by omega)
      have d1 := HO.out.cellAt (j * 4 + 1) (by omega)
      have d2 := HO.out.cellAt (j * 4 + 2) (by omega)
      have d3 := HO.out.cellAt (j * 4 + 3) (by omega)
      have e0 := hat 0 (by omega)
      rw [Nat.add_zero] at e0
      rw [e0] at d0
      rw [hat 1 (by omega)] at d1
      rw [hat 2 (by omega)] at d2
      rw [hat 3 (by omega)] at d3
      simp only [cellsCL, List.getElem?_cons_zero, List.getElem?_cons_succ, e1, e2] at d0 d1 d2 d3
      have O1 := Lib.hid o1
      have O2 := Lib.hid o2
      obtain ⟨kk, hkk⟩ : ∃ kk, kk = k + (cntCL (ds.take j) : Nat) := ⟨_, rfl⟩
      have hkk0 : 0 ≤ kk := by omega
      obtain ⟨n1, hn1⟩ : ∃ n, n = cntL r.d.form.clauses := ⟨_, rfl⟩
      obtain ⟨n2, hn2⟩ : ∃ n, n = cntL r.d.proof := ⟨_, rfl⟩
      rw [← hn1, ← hn2] at hle
      have hkb : kk + 2 + n1 + n2 ≤ 1099511627776 := by omega
      rw [← hkk] at HSUC ⊢
      have HKK := Lib.hid hkk
      have HN1 := Lib.hid hn1
      have HN2 := Lib.hid hn2
      have E1 := Lib.hid e1
      have E2 := Lib.hid e2
      have HRD := Lib.hid hrd
      have D0 := Lib.hid d0
      have D1 := Lib.hid d1
      have D2 := Lib.hid d2
      have D3 := Lib.hid d3
      clear o1 o2 hle h1 hkk hn1 hn2 hat e0 e1 e2 hrd hr hlen d0 d1 d2 d3
      go_wp2_with fail
      refine (markText_any kk wr hkk0 (by omega)).mono ?_
      rintro e w1 ⟨rfl, hb1⟩
      have HB1 := Lib.hid hb1
      have d0 := held_of hb1 D0.out (Nat.le_refl _)
      have d1 := held_of hb1 D1.out (Nat.le_refl _)
      have d2 := held_of hb1 D2.out (Nat.le_refl _)
      have d3 := held_of hb1 D3.out (Nat.le_refl _)
      have HO1 := Lib.hid (ownsK_below HO.out hb1 (Nat.le_refl _))
      have f0 := HO1.out.frozenAt (j * 4)
      have f1 := HO1.out.frozenAt (j * 4 + 1)
      have hgs : g < w1.heap.size := cell_lt d0
      have hz1 := hb1.size
      have HE1 := Lib.hid (HE.out.up hb1 (Nat.le_refl _))
      replace O1 := Lib.hid (O1.out.up hb1 (Nat.le_refl _))
      replace O2 := Lib.hid (O2.out.up hb1 (Nat.le_refl _))
      have HK1 := Lib.hid (HK.out.trans (Kept.of_below hb1 (Nat.le_refl _)))
      obtain ⟨nm, hnm⟩ : ∃ nm, nm = mkText kk.toNat := ⟨_, rfl⟩
      have hnms : nm.size ≤ maxLen := by rw [hnm]; have := mkText_size kk.toNat; unfold maxLen; omega
      rw [← hnm]
      have HNM := Lib.hid hnm
      obtain ⟨W2, hW2⟩ : ∃ W, W = (w1.setCell ⟨g, j * 4, none⟩ (.string nm)).setCell ⟨g, j * 4 + 1, none⟩ (.int .i64 (kk + 1)) := ⟨_, rfl⟩
      have hown2 := ((HO1.out.stored (j * 4) (.string nm)).1.stored (j * 4 + 1) (.int .i64 (kk + 1))).1
      rw [← hW2] at hown2
      have HOW2 := Lib.hid hown2
      have hk2 : Kept (fun b => b = g) w1 W2 := by rw [hW2]; exact Kept.setCell (S := fun b => b = g) (p := ⟨g, j * 4 + 1, none⟩) (Kept.setCell (S := fun b => b = g) (p := ⟨g, j * 4, none⟩) (Kept.refl _ _) (.inr rfl) _) (.inr rfl) _
      have HK2 := Lib.hid hk2
      have hz2 := hk2.size
      have x2 : W2.cell? ⟨g, j * 4 + 2, none⟩ = some (.slice a1 r.d.form.clauses.length c1) := by
        rw [hW2, World.cell?_setCell_other _ _ _ _ (by simp), World.cell?_setCell_other _ _ _ _ (by simp)]; exact d2
      have x3 : W2.cell? ⟨g, j * 4 + 3, none⟩ = some (.slice a2 r.d.proof.length c2) := by
        rw [hW2, World.cell?_setCell_other _ _ _ _ (by simp), World.cell?_setCell_other _ _ _ _ (by simp)]; exact d3
      have X3 := Lib.hid x3
      have P1 := Lib.hid (O1.out.kept hk2 (by rintro b p1 p2 rfl; exact hng ⟨by omega, by omega⟩))
      have P2 := Lib.hid (O2.out.kept hk2 (by rintro b p1 p2 rfl; exact hng ⟨by omega, by omega⟩))
      have HW2 := Lib.hid hW2
      clear hb1 hown2 hk2 hW2 x2 x3 hnm
      go_wp2_with fail
      rw [← HW2.out]
      clear d0 d1 d2 d3 f0 f1
      refine (markL_o _ L1 Q1 r.d.form.clauses (kk + 1 + 1) W2 P1.out (by omega) (by rw [← HN1.out]; omega)).mono ?_
      rintro e w3 ⟨rfl, m1, k3⟩
      rw [← HN1.out]
      have hz3 := k3.size
      have x3 : w3.cell? ⟨g, j * 4 + 3, none⟩ = some (.slice a2 r.d.proof.length c2) := (k3.cell (p := ⟨g, j * 4 + 3, none⟩) (by show g < _; omega) (fun h => hng ⟨Nat.le_trans (by omega : r.l ≤ L1) h.1, Nat.lt_of_lt_of_le h.2 (by omega : Q1 ≤ r.h)⟩)).trans X3.out
      have P3 := Lib.hid (P2.out.kept k3 (by rintro b p1 p2 ⟨y1, y2⟩; omega))
      have M1 := Lib.hid m1
      have K3 := Lib.hid (show Kept (fun b => r.l ≤ b ∧ b < r.h) W2 w3 from k3.mono (by rintro b _ ⟨y1, y2⟩; exact ⟨by omega, by omega⟩))
      clear m1 k3
      go_wp2_with fail
      refine (markL_o _ l2 q2 r.d.proof (kk + 1 + 1 + n1) w3 P3.out (by omega) (by rw [← HN2.out]; omega)).mono ?_
      rintro e w4 ⟨rfl, m2, k4⟩
      rw [← HN2.out]
      have hz4 := k4.size
      have M2 := Lib.hid m2
      have M3 := Lib.hid (M1.out.kept k4 (by rintro b p1 p2 ⟨y1, y2⟩; omega))
      have K4 := Lib.hid (K3.out.trans (show Kept (fun b => r.l ≤ b ∧ b < r.h) w3 w4 from k4.mono (by rintro b _ ⟨y1, y2⟩; exact ⟨by omega, by omega⟩)))
      clear m2 k4 x3
      go_wp2_with fail
      go_roundw
      case rel =>
        have hr := HRR.out
        refine ⟨j + 1, rows.set j ⟨mkdC2 kk r.d, r.a1, r.a2, r.l, r.h⟩, by go_num, by omega, congrArg (Value.int IntKind.i64) (by rw [HCN.out, HKK.out]; unfold cntC2; rw [← HN1.out, ← HN2.out]; push_cast; omega), Lib.hid ?_, Lib.hid ?_, Lib.hid ?_, Lib.hid ?_, Lib.hid ?_⟩
        · rw [List.map_set, HR.out, HSUC.out]
        · refine ownsK_kept ?_ K4.out (by intro g' h; cases h; exact hng)
          have := HOW2.out
          rw [← set2_flat rows j r ⟨mkdC2 kk r.d, r.a1, r.a2, r.l, r.h⟩ hr rfl rfl]
          simp only [mkdC2]
          rw [← HNM.out]
          exact this
        · intro g' hg'
          cases hg'
          refine ⟨hhi, fun i s hs => ?_⟩
          rw [List.getElem?_set] at hs
          split at hs
          · split at hs
            · simp only [Option.some.injEq] at hs; subst hs; exact hng
            · cases hs
          · exact (HBK.out g rfl).2 i s hs
        · refine OwnECL.put HE1.out hr rfl rfl ?_ ?_
          · refine ⟨.slice a1 r.d.form.clauses.length c1, .slice a2 r.d.proof.length c2, l1, q1, l2, q2, ?_, ⟨_, L1, Q1, rfl, ?_, r1, r2, r3, by omega⟩, ?_, ?_, s1, s2, s3, s4, s5, by omega⟩
            · simp only [aggCL, mkdC2, E1.out, E2.out]
            · exact M3.out
            · simp only [mkdC2]; rw [← HN1.out]; exact M2.out
            · simp only [mkdC2]; rw [← HNM.out]; exact hnms
          · intro i s hij hs
            have ho := (HE1.out.1 i s hs).1
            have hnr := (HBK.out g rfl).2 i s hs
            have hsep : s.h ≤ r.l ∨ r.h ≤ s.l := by
              rcases Nat.lt_or_ge i j with h | h
              · exact .inl (HE1.out.2 i j s r h hs hr)
              · exact .inr (HE1.out.2 j i r s (by omega) hr hs)
            exact (ho.kept HK2.out (by rintro b p1 p2 rfl; exact hnr ⟨p1, p2⟩)).kept K4.out (by rintro b p1 p2 ⟨p3, p4⟩; omega)
        · exact (HK1.out.step HK2.out (by rintro b _ rfl; exact ⟨hlo, hhi⟩)).step K4.out (by rintro b _ ⟨p1, p2⟩; omega)
      case measure => simp [intOf]; omega
    · obtain rfl : j = ds.length := by omega
      go_wp2_with fail
      go_ret
      refine ⟨congrArg (fun x => Ending.returned (Value.int IntKind.i64 x)) (by rw [List.take_length]), ?_, HK.out⟩
      have e : upCL k ds ds.length = mkdCL k ds := by unfold upCL; rw [List.take_length, List.drop_length, List.append_nil]
      rw [e] at HR
      exact ⟨rows, HR.out.symm, by rw [mkdCL_length]; exact HO.out, HBK.out, HE.out⟩

set_option maxHeartbeats 2000000 in
set_option maxRecDepth 4000 in
theorem heldCL_o (v : Value) (ds : List CaseD) (k : Int) (w : World) (h : RdCL w v (mkdCL k ds)) (h0 : 0 ≤ k) (h1 : k + cntCL ds ≤ 1099511627776) :
    Calls Try.prog 25 #[v, .int .i64 k] w fun e w' => e = .returned (.int .i64 (k + cntCL ds)) ∧ Below w.heap.size w w' := by
  obtain ⟨a, c, rfl⟩ := h.shape
  have hl := h.len
  unfold maxLen at hl
  rw [mkdCL_length] at *
  have HS := Lib.hid h
  have H1 := Lib.hid h1
  clear h h1
  go_enter Try.func25, Try.ntmps25
  go_wp2_with fail
  go_loopw [1, 5] (fun kk i wr => ∃ j : Nat, i = .int .i64 j ∧ j ≤ ds.length ∧ kk = .int .i64 (k + (cntCL (ds.take j) : Nat)) ∧ Hid (Below w.heap.size w wr)) (fun _ i _ => ds.length - (intOf i).toNat)
  case atStart => exact ⟨0, rfl, Nat.zero_le _, by simp [cntCL], Below.refl _ _⟩
  case round =>
    obtain ⟨j, rfl, hj, rfl, HB⟩ := hrel
    by_cases hlt : j < ds.length
    · obtain ⟨b, off, z1, z2, rfl, hb0, x0, x1, x2, x3, hu⟩ := (HS.out.up HB.out (Nat.le_refl _)).at (i := j) (by rw [mkdCL_length]; exact hlt)
      rw [mkdCL_at k ds j hlt] at x0 x1 hu
      have HCN := Lib.hid (cntCL_succ ds j hlt)
      have hle := cntCL_le ds (j + 1)
      have h1 := H1.out
      rw [HCN.out] at hle
      unfold cntC2 at hle
      obtain ⟨d, hd⟩ : ∃ d, d = ds.getD j ICL := ⟨_, rfl⟩
      rw [← hd] at x0 x1 hu HCN hle
      obtain ⟨kk, hkk⟩ : ∃ kk, kk = k + (cntCL (ds.take j) : Nat) := ⟨_, rfl⟩
      have hkk0 : 0 ≤ kk := by omega
      obtain ⟨n1, hn1⟩ : ∃ n, n = cntL d.form.clauses := ⟨_, rfl⟩
      obtain ⟨n2, hn2⟩ : ∃ n, n = cntL d.proof := ⟨_, rfl⟩
      rw [← hn1, ← hn2] at hle
      have hkb : kk + 2 + n1 + n2 ≤ 1099511627776 := by omega
      rw [← hkk] at x0 x1 hu ⊢
      have HKK := Lib.hid hkk
      have HN1 := Lib.hid hn1
      have HN2 := Lib.hid hn2
      obtain ⟨p1, q1, p2, q2, hsz⟩ := hu.shape
      simp only [Value.agg.injEq, Array.mk.injEq, List.cons.injEq, and_true, true_and] at hsz
      obtain ⟨rfl, rfl⟩ := hsz
      obtain ⟨hf, hp, -⟩ := hu.parts
      have hc := hf.parts
      simp only [mkdC2] at x0 x1 x2 x3 hc hp
      rw [← hn1] at hp
      obtain ⟨m1, hm1⟩ : ∃ m, m = (mkdL (kk + 1 + 1) d.form.clauses).length := ⟨_, rfl⟩
      rw [← hn1] at x3
      obtain ⟨m2, hm2⟩ : ∃ m, m = (mkdL (kk + 1 + 1 + n1) d.proof).length := ⟨_, rfl⟩
      rw [← hm1] at x2 hc
      rw [← hm2] at x3 hp
      have HC := Lib.hid hc
      have HP := Lib.hid hp
      have X0 := Lib.hid x0
      have X1 := Lib.hid x1
      have X2 := Lib.hid x2
      have X3 := Lib.hid x3
      have hn2' : ¬ (kk + 1 + 1 + (n1 : Int) < 0) := by omega
      have hn3' : ¬ (kk + 1 + 1 + (n1 : Int) + (n2 : Int) < 0) := by omega
      have hne1 : ((kk + 1) != (kk + 1)) = false := by simp
      clear hu hf hc hp x0 x1 x2 x3 hkk hn1 hn2 hm1 hm2 hle h1 hd
      obtain ⟨nm, hnm⟩ : ∃ nm, nm = mkText kk.toNat := ⟨_, rfl⟩
      rw [← hnm] at X0
      have HNM := Lib.hid hnm
      clear hnm
      have hzw := HB.out.size
      go_wp2_with fail
      refine wp_region_cls (fun X => X.cell? ⟨b, off + j * 4, none⟩ = some (.string nm) ∧ Hid (Below wr.heap.size wr X)) (by kernel_rfl) (by kernel_rfl) (⟨X0.out, (Below.refl _ _).drew⟩) ?_
      repeat (first
        | go_big_quiet_skip
        | (go_big_quiet_want
           apply Exists.intro
           refine ⟨fun X hX => ?_, ?_⟩
           · (try dsimp only at hX)
             go_simp
             (first | with_reducible rfl | done | (first | (go_at_call 69; refine (markText_any kk _ hkk0 (by omega)).mono ?_; rintro e w1 ⟨rfl, hb1⟩; rw [← HNM.out]; exact ⟨rfl, held_of (hX.2.out.trans (hb1.mono hX.2.out.size)) X0.out (Nat.le_refl _), Lib.hid (hX.2.out.trans (hb1.mono hX.2.out.size))⟩)))
           go_big_quiet_on
           (try simp only [Act.put, List.setIfInBounds_toArray, List.set_cons_zero, List.set_cons_succ])))
      refine wpQuiet_nil ?_
      intro wx hC
      (try dsimp only at hC)
      obtain ⟨x0, hCB⟩ := hC
      clear x0
      have x1 := held_of hCB.out X1.out (Nat.le_refl _)
      have x2 := held_of hCB.out X2.out (Nat.le_refl _)
      have HBx := Lib.hid (HB.out.trans (hCB.out.mono hzw))
      have hzx := hCB.out.size
      go_wp2_with fail
      refine (heldL_o _ d.form.clauses (kk + 1 + 1) wx (HC.out.up hCB.out (Nat.le_refl _)) (by omega) (by rw [← HN1.out]; omega)).mono ?_
      rintro e w3 ⟨rfl, hb3⟩
      rw [← HN1.out]
      have HB3 := Lib.hid (hCB.out.trans (hb3.mono hzx))
      have x3 := held_of HB3.out X3.out (Nat.le_refl _)
      clear hb3 x1 x2
      go_wp2_with fail
      refine (heldL_o _ d.proof (kk + 1 + 1 + n1) w3 (HP.out.up HB3.out (Nat.le_refl _)) (by omega) (by rw [← HN2.out]; omega)).mono ?_
      rintro e w4 ⟨rfl, hb4⟩
      rw [← HN2.out]
      have HB4 := Lib.hid (HB.out.trans ((HB3.out.trans (hb4.mono HB3.out.size)).mono hzw))
      clear hb4 x3
      go_wp2_with fail
      go_roundw
      case rel =>
        exact ⟨j + 1, by go_num, by omega, congrArg (Value.int IntKind.i64) (by rw [HCN.out, HKK.out]; unfold cntC2; rw [← HN1.out, ← HN2.out]; push_cast; omega), HB4⟩
      case measure => simp [intOf]; omega
    · obtain rfl : j = ds.length := by omega
      go_wp2_with fail
      go_ret
      exact ⟨congrArg (fun x => Ending.returned (Value.int IntKind.i64 x)) (by rw [List.take_length]), HB.out⟩

end Go.Proofs.Ytkkcgclliomocaa

namespace Go.Proofs.Ytkkcgclliomocaa
open Go.RowKit

/-- The rest of a text. -/
def tailS (s : ByteArray) (p : Nat) : ByteArray := s.extract p s.size
theorem tailS_size (s : ByteArray) (p : Nat) : (tailS s p).size = s.size - p := by unfold tailS; simp
noncomputable def recL (s : ByteArray) : Nat → Nat → List CaseD × Nat
  | 0, p => ([], p)
  | m + 1, p => if rcOk (tailS s p) = true then (rcC (tailS s p) :: (recL s m (p + rcN (tailS s p))).1, (recL s m (p + rcN (tailS s p))).2) else ([], p)
theorem recL_no (s : ByteArray) (m p : Nat) (h : rcOk (tailS s p) = false) : recL s m p = ([], p) := by
  cases m with
  | zero => rfl
  | succ m => unfold recL; rw [if_neg (by rw [h]; decide)]
theorem recL_go (s : ByteArray) (m p : Nat) (h : rcOk (tailS s p) = true) : recL s (m + 1) p = (rcC (tailS s p) :: (recL s m (p + rcN (tailS s p))).1, (recL s m (p + rcN (tailS s p))).2) := by
  conv => lhs; unfold recL
  rw [if_pos h]
noncomputable def recC (s : ByteArray) : List CaseD := (recL s 8 0).1
noncomputable def recP (s : ByteArray) : Nat := (recL s 8 0).2
theorem recL_cnt (s : ByteArray) : ∀ m p, cntCL (recL s m p).1 ≤ 1762 * m
  | 0, p => Nat.zero_le _
  | m + 1, p => by
    unfold recL
    split
    · simp only [cntCL]
      have h1 := recL_cnt s m (p + rcN (tailS s p))
      have h2 := rcC_cnt (tailS s p)
      unfold cntC2
      omega
    · exact Nat.zero_le _
theorem recC_cnt (s : ByteArray) : cntCL (recC s) ≤ 14096 := recL_cnt s 8 0

theorem OwnECL.snoc {lo hi hi' : Nat} {w : World} {rows : List RowCL} {r : RowCL} (h : OwnECL lo hi w rows) (ho : OwnCs r.l r.h w (aggCL r) r.d) (h1 : hi ≤ r.l) (h2 : lo ≤ r.l) (h3 : r.h ≤ hi') (h4 : hi ≤ hi') : OwnECL lo hi' w (rows ++ [r]) := by
  constructor
  · intro i s hs
    by_cases hi : i < rows.length
    · rw [List.getElem?_append_left hi] at hs
      obtain ⟨q1, q2, q3⟩ := h.1 i s hs
      exact ⟨q1, q2, by omega⟩
    · rw [List.getElem?_append_right (by omega)] at hs
      have : s = r := by
        rcases hn : i - rows.length with _ | n
        · rw [hn] at hs; simpa using hs.symm
        · rw [hn] at hs; simp at hs
      subst this
      exact ⟨ho, h2, h3⟩
  · intro i j s t hij hs ht
    have hjl := (List.getElem?_eq_some_iff.1 ht).1
    rw [List.length_append, List.length_singleton] at hjl
    rw [List.getElem?_append_left (by omega)] at hs
    by_cases hj : j < rows.length
    · rw [List.getElem?_append_left hj] at ht
      exact h.2 i j s t hij hs ht
    · rw [List.getElem?_append_right (by omega), show j - rows.length = 0 by omega] at ht
      simp only [List.getElem?_cons_zero, Option.some.injEq] at ht
      subst ht
      have := (h.1 i s hs).2.2
      omega

theorem cells4 (w : World) (cs : List Value) : ∀ j u, cs[j]? = some u → (w.alloc (.cells cs.toArray 33)).cell? ((⟨w.heap.size, 0, none⟩ : Addr).add j) = some u := by
  intro j u hj
  have h1 : (w.alloc (.cells cs.toArray 33)).heap[w.heap.size]? = some (.cells cs.toArray 33) := heap_alloc_new w _
  have h2 : ((⟨w.heap.size, 0, none⟩ : Addr).add j) = ⟨w.heap.size, j, none⟩ := by unfold Addr.add; split <;> simp_all
  rw [h2]
  simp only [World.cell?, h1]
  simpa using hj

/-- Append of one case to a list of them that the call owns. -/
theorem app_CL {W : World} {ops : Array Oper} {rest : List Oper} {o : Oper} {a : Act} {Q : Exit → Act → World → Prop} (hgd : o.guard = none) (s x : Operand)
    (ho : o.op = .call { callee := .builtin .append, args := #[s, x], argTypes := #[24, 24] })
    (base : Nat) (v : Value) (n : Nat) (rows : List RowCL) (hs : a.eval s = v) (hown : W.ownsRow base 33 4 v n (rows.flatMap cellsCL))
    (r : RowCL) (cs : Array Value) (hcs : cs = (cellsCL r).toArray) (b : Nat) (hb : b = W.heap.size) (hx : a.eval x = .slice (some ⟨b, 0, none⟩) 1 1) (h1 : r.a1.oneCell' = true) (h2 : r.a2.oneCell' = true)
    (m : Nat) (hm : m = n + 1) (hlen : n ≤ 1000) (hbase : base ≤ W.heap.size)
    (h : ∀ a' cap' w', w'.ownsRow base 33 4 (.slice a' m cap') m ((rows ++ [r]).flatMap cellsCL) → Below base W w' → Kept (fun b => v.ownBlock = some b) W w' → W.heap.size < w'.heap.size → ((Value.slice a' m cap').ownBlock = v.ownBlock ∨ (Value.slice a' m cap').ownBlock = some (W.heap.size + 1)) → wpList Try.prog ops Q rest (a.put o.dst (.slice a' m cap')) w') :
    wpList Try.prog ops Q (o :: rest) a (W.alloc (.cells cs 33)) := by
  obtain ⟨i0, hi, hz0, hz1, hz2⟩ := info_parts Try.infoZCL
  subst hcs hb hm
  have hal : Below W.heap.size W (W.alloc (.cells (cellsCL r).toArray 33)) := (Below.refl _ _).alloc (Nat.le_refl _) _
  have hsz : (W.alloc (.cells (cellsCL r).toArray 33)).heap.size = W.heap.size + 1 := by simp
  have hown' := ownsK_below hown hal (Nat.le_refl _)
  refine wpList_append_own_at (w := W.alloc (.cells (cellsCL r).toArray 33)) hgd s x 24 ho base 33 i0 (.agg #[.string ⟨#[]⟩, .int .i64 0, .slice none 0 0, .slice none 0 0]) 4 72 Try.underlying24 hi hz0 hz1 hz2 rfl (by decide) v n (rows.flatMap cellsCL) hs hown'
    ⟨W.heap.size, 0, none⟩ 1 1 (cellsCL r) hx rfl (cells4 W (cellsCL r)) ?_ (by unfold maxLen; omega) (by omega) (by omega) ?_
  · intro u hu
    simp only [cellsCL, List.mem_cons, List.not_mem_nil, or_false] at hu
    rcases hu with rfl | rfl | rfl | rfl
    · rfl
    · rfl
    · exact h1
    · exact h2
  · intro v' w' hown2 hg _ hat
    have e : rows.flatMap cellsCL ++ cellsCL r = (rows ++ [r]).flatMap cellsCL := by simp
    rw [e] at hown2
    obtain ⟨a', cap', rfl⟩ : ∃ a' cap', v' = .slice a' (n + 1) cap' := by
      rcases hown2.2 with ⟨_, e⟩ | ⟨g, cap, cur, rfl, _⟩
      · omega
      · exact ⟨_, _, rfl⟩
    have hk : Kept (fun b => v.ownBlock = some b) W w' := (Kept.of_below hal (Nat.le_refl _)).step ⟨hg.os, hg.tape, hg.output, hg.size, fun k hk hs => hg.block k hk fun e => hs e.symm⟩ (fun _ _ h => h)
    have hsz2 := hg.size
    refine h a' cap' w' hown2 (hk.toBelow hbase ?_) hk (by omega) (by rw [← hsz]; exact hat)
    intro k hk1 hk2
    have := (hown.lt k hk2).1
    omega

end Go.Proofs.Ytkkcgclliomocaa

namespace Go.Proofs.Ytkkcgclliomocaa
open Go.RowKit

noncomputable def storesF (ds : List CaseD) : ByteArray := (ds.map storeS).foldl (· ++ ·) ⟨#[]⟩
theorem storesF_snoc (ds : List CaseD) (k : Nat) (h : k < ds.length) : storesF (ds.take (k + 1)) = storesF (ds.take k) ++ storeS (ds.getD k ICL) := by
  unfold storesF
  rw [List.take_succ_eq_append_getElem h, List.map_append, List.foldl_append]
  simp [h]
noncomputable def storesB (ds : List CaseD) : Bool := decide (ds.length ≤ 8) && allB ds.length (fun i => caseB (ds.getD i ICL))
noncomputable def storesR (ds : List CaseD) : ByteArray := if storesB ds = true then storesF ds else ⟨#[]⟩
theorem storeS_size {d : CaseD} (h : caseB d = true) : (storeS d).size ≤ 2002 := by
  unfold storeS
  rw [strOfNums_size]
  have := body_len h
  unfold storeBytes
  simp only [List.length_append, List.length_cons, List.length_nil]
  omega

set_option maxHeartbeats 2000000 in
set_option maxRecDepth 4000 in
theorem implStores_any (v : Value) (ds : List CaseD) (w : World) (h : RdCL w v ds) :
    Calls Try.prog 15 #[v] w fun e w' => e = .returned (.tuple #[.string (storesR ds), .bool (storesB ds)]) ∧ Below w.heap.size w w' := by
  obtain ⟨a, c, rfl⟩ := h.shape
  have HS := Lib.hid h
  have hm := h.len
  simp only [maxLen] at hm
  clear h
  by_cases h8 : ds.length ≤ 8
  case neg =>
    have HN := Lib.hid (show storesB ds = false by unfold storesB; rw [decide_eq_false h8]; rfl)
    go_enter Try.func15, Try.ntmps15
    go_wp2_with fail
    go_ret2
    exact ⟨by unfold storesR; rw [HN.out]; rfl, Below.refl _ _⟩
  have H8 := Lib.hid (show storesB ds = allB ds.length (fun i => caseB (ds.getD i ICL)) by unfold storesB; rw [decide_eq_true h8]; rfl)
  go_enter Try.func15, Try.ntmps15
  go_wp2_with fail
  go_loopw [4, 12] (fun o i wr => ∃ (k : Nat) (A : ByteArray), i = .int .i64 k ∧ k ≤ ds.length ∧ o = .string A ∧ A.size ≤ 2002 * k ∧ Hid (A = storesF (ds.take k)) ∧ Hid (∀ j, j < k → caseB (ds.getD j ICL) = true) ∧ Hid (Below w.heap.size w wr)) (fun _ i _ => ds.length - (intOf i).toNat)
  case atStart => exact ⟨0, ⟨#[]⟩, rfl, Nat.zero_le _, rfl, Nat.zero_le _, rfl, fun j hj => by omega, Below.refl _ _⟩
  case round =>
    obtain ⟨k, A, rfl, hk, rfl, hA, HA, HALL, HB⟩ := hrel
    by_cases hlt : k < ds.length
    · obtain ⟨b, off, b1, b2, rfl, hb0, x0, x1, x2, x3, hu⟩ := (HS.out.up HB.out (Nat.le_refl _)).at hlt
      have HSN := Lib.hid (storesF_snoc ds k hlt)
      have HNO := Lib.hid (show caseB (ds.getD k ICL) = false → storesB ds = false from fun h => by rw [H8.out, allB_false hlt h])
      obtain ⟨d, hd⟩ : ∃ d, d = ds.getD k ICL := ⟨_, rfl⟩
      rw [← hd] at x0 x1 hu HSN HNO
      have HD := Lib.hid hd
      clear hd
      obtain ⟨p1, q1, p2, q2, e⟩ := hu.shape
      simp only [Value.agg.injEq, Array.mk.injEq, List.cons.injEq, and_true, true_and] at e
      obtain ⟨rfl, rfl⟩ := e
      have HU := Lib.hid hu
      have hltI : (k : Int) < (ds.length : Int) := by omega
      have hz := HB.out.size
      obtain ⟨q, hq⟩ : ∃ q, caseB d = q := ⟨_, rfl⟩
      have HQ := Lib.hid hq
      clear hu hq
      go_wp2_with fail
      refine Calls.at fun W hW => ?_
      have hbw := Lib.hid (show Below wr.heap.size wr W by subst hW; (repeat' first | exact Below.refl _ _ | assumption | refine Below.alloc ?_ ?_ _ | refine Below.setCell ?_ ?_ _ | refine Below.drew ?_ | (simp; done) | (simp; omega)))
      have HK := Lib.hid (show Blk W wr.heap.size 33 #[.string d.name, .int .i64 d.form.letters, .slice p1 d.form.clauses.length q1, .slice p2 d.proof.length q2] by subst hW; first | exact Blk.new _ _ _ | simpa using ((((Blk.new wr 33 #[.string ⟨#[]⟩, .int .i64 0, .slice none 0 0, .slice none 0 0]).set 0 (.string d.name)).set 1 (.int .i64 d.form.letters)).set 2 (.slice p1 d.form.clauses.length q1)).set 3 (.slice p2 d.proof.length q2))
      clear hW x0 x1 x2 x3
      have HBW := Lib.hid (HB.out.trans (hbw.out.mono hz))
      refine (implValidCase_any _ d W (HU.out.up hbw.out (Nat.le_refl _))).mono ?_
      rintro e w1 ⟨rfl, hb1⟩
      rw [HQ.out]
      have HB1 := Lib.hid (HBW.out.trans (hb1.mono HBW.out.size))
      have HK1 := Lib.hid (HK.out.below hb1 HK.out.lt)
      have HU1 := Lib.hid ((HU.out.up hbw.out (Nat.le_refl _)).up hb1 (Nat.le_refl _))
      clear hb1
      cases q
      · have HN := Lib.hid (HNO.out HQ.out)
        go_wp2_with fail
        go_ret2
        exact ⟨by unfold storesR; rw [HN.out]; rfl, HB1.out⟩
      have hsz := storeS_size HQ.out
      have hadd := fun (W : World) => run_string_add_sum (P := Try.prog) (w := W) A (storeS d) (by omega)
      have d0 : w1.cell? ⟨wr.heap.size, 0, none⟩ = some (.string d.name) := HK1.out.cell 0 rfl
      have d1 : w1.cell? ⟨wr.heap.size, 1, none⟩ = some (.int .i64 d.form.letters) := HK1.out.cell 1 rfl
      have d2 : w1.cell? ⟨wr.heap.size, 2, none⟩ = some (.slice p1 d.form.clauses.length q1) := HK1.out.cell 2 rfl
      have d3 : w1.cell? ⟨wr.heap.size, 3, none⟩ = some (.slice p2 d.proof.length q2) := HK1.out.cell 3 rfl
      go_wp2_with fail
      refine (storeCase_any _ d w1 HU1.out HQ.out).mono ?_
      rintro e w2 ⟨rfl, hb2⟩
      have HB2 := Lib.hid (HB1.out.trans (hb2.mono HB1.out.size))
      clear hb2 d0 d1 d2 d3
      have hap : (A ++ storeS d).size = A.size + (storeS d).size := ByteArray.size_append
      go_wp2_with fail
      go_roundw
      case rel =>
        refine ⟨k + 1, A ++ storeS d, by go_num, by omega, rfl, by omega, Lib.hid (by rw [HSN.out, ← HA.out]), fun j hj => ?_, HB2⟩
        by_cases hjk : j < k
        · exact HALL.out j hjk
        · obtain rfl : j = k := by omega
          rw [← HD.out]; exact HQ.out
      case measure => simp [intOf]; omega
    · obtain rfl : k = ds.length := by omega
      have HN := Lib.hid (show storesB ds = true by rw [H8.out, allB_true HALL.out])
      have HR := Lib.hid (show storesR ds = A by unfold storesR; rw [HN.out, if_pos rfl, HA.out, List.take_length])
      go_wp2_with fail
      go_ret2
      exact ⟨by rw [HN.out, HR.out]; rfl, HB.out⟩

end Go.Proofs.Ytkkcgclliomocaa

namespace Go.Proofs.Ytkkcgclliomocaa
open Go.RowKit

theorem clsAt_split (s : ByteArray) : ∀ (m n p : Nat), clsAt s (m + n) p = (clsAt s m p).bind fun r => (clsAt s n r.2).map fun q => (r.1 ++ q.1, q.2)
  | 0, n, p => by
    rw [Nat.zero_add]
    simp only [clsAt, Option.bind_some, List.nil_append]
    cases clsAt s n p <;> rfl
  | m + 1, n, p => by
    rw [show m + 1 + n = (m + n) + 1 by omega]
    simp only [clsAt]
    cases hq : clAt s p with
    | none => rfl
    | some r =>
      simp only [Option.bind_some]
      rw [clsAt_split s m n r.2]
      cases hu : clsAt s m r.2 with
      | none => rfl
      | some u =>
        simp only [Option.bind_some, Option.map_some]
        cases clsAt s n u.2 <;> rfl
theorem clsAt_snoc (s : ByteArray) (j p : Nat) : clsAt s (j + 1) p = (clsAt s j p).bind fun r => (clAt s r.2).map fun c => (r.1 ++ [c.1], c.2) := by
  rw [clsAt_split s j 1 p]
  congr 1
  funext r
  simp only [clsAt]
  cases clAt s r.2 <;> rfl
theorem clsAt_len (s : ByteArray) : ∀ (n p : Nat) (r : List (List Int) × Nat), clsAt s n p = some r → r.1.length = n
  | 0, p, r, h => by simp only [clsAt, Option.some.injEq] at h; subst h; rfl
  | n + 1, p, r, h => by
    simp only [clsAt] at h
    cases hq : clAt s p with
    | none => rw [hq] at h; cases h
    | some c =>
      rw [hq] at h
      simp only [Option.bind_some, Option.map_eq_some_iff] at h
      obtain ⟨q, hq2, rfl⟩ := h
      simp only [List.length_cons]
      rw [clsAt_len s n _ q hq2]
theorem clsAt_none {s : ByteArray} {j n p : Nat} (h : clsAt s j p = none) (hj : j ≤ n) : clsAt s n p = none := by
  rw [show n = j + (n - j) by omega, clsAt_split, h]; rfl
theorem clsAt_parts {s : ByteArray} {m n p : Nat} {r : List (List Int) × Nat} (h : clsAt s (m + n) p = some r) : ∃ p1, clsAt s m p = some (r.1.take m, p1) ∧ clsAt s n p1 = some (r.1.drop m, r.2) := by
  rw [clsAt_split] at h
  cases hq : clsAt s m p with
  | none => rw [hq] at h; cases h
  | some u =>
    rw [hq] at h
    simp only [Option.bind_some, Option.map_eq_some_iff] at h
    obtain ⟨q, hq2, rfl⟩ := h
    have hl := clsAt_len s m p u hq
    refine ⟨u.2, ?_, ?_⟩
    · rw [List.take_left' hl]
    · rw [List.drop_left' hl]; exact hq2
/-- The reference's reading, out of the clauses all together. -/
theorem specP_some {s : ByteArray} {k a x1 x2 : Nat} {r : List (List Int) × Nat} (hk : (byteAt s 4).toNat = k) (ha : 5 + k = a) (hA : a + 3 ≤ s.size) (h1 : (byteAt s (a + 1)).toNat = x1) (h2 : (byteAt s (a + 2)).toNat = x2) (h : clsAt s (x1 + x2) (a + 3) = some r) :
    specP s = if r.2 + 2 ≤ s.size then some (⟨strOfNums (midL s 5 k), ⟨byteAt s a, r.1.take x1⟩, r.1.drop x1⟩, r.2 + 2) else none := by
  obtain ⟨p1, q1, q2⟩ := clsAt_parts h
  unfold specP
  rw [hk, ha, if_pos ⟨by omega, hA⟩, h1, h2, q1]
  simp only [Option.bind_some, q2]
theorem specP_none {s : ByteArray} {k a x1 x2 : Nat} (hk : (byteAt s 4).toNat = k) (ha : 5 + k = a) (hA : a + 3 ≤ s.size) (h1 : (byteAt s (a + 1)).toNat = x1) (h2 : (byteAt s (a + 2)).toNat = x2) (h : clsAt s (x1 + x2) (a + 3) = none) : specP s = none := by
  unfold specP
  rw [hk, ha, if_pos ⟨by omega, hA⟩, h1, h2]
  rw [clsAt_split] at h
  cases hq : clsAt s x1 (a + 3) with
  | none => rfl
  | some u =>
    rw [hq] at h
    simp only [Option.bind_some, Option.map_eq_none_iff] at h
    simp only [Option.bind_some, h, Option.bind_none]

end Go.Proofs.Ytkkcgclliomocaa
