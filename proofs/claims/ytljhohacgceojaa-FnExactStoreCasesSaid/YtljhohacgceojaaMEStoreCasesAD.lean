/-
  FnExactStoreCases: texts joined: CaseL, OpenC, AppLL.
-/
import Derived.Deep.RegionHeld3
import Derived.Lib.SmallJoins
import Derived.Test.YtljhohacgceojaaMEStoreCasesAB
import Derived.Test.YtljhohacgceojaaMEStoreCasesAC
namespace Go.Proofs.Ytljhohacgceojaa
open Go.RowKit

def ICL : CaseD := ⟨⟨#[]⟩, ⟨0, []⟩, []⟩
/-- One of a list: its data, the values of its slices, and where they lie. -/
structure RowCL where
  d : CaseD
  a1 : Value
  a2 : Value
  l : Nat
  h : Nat
def cellsCL (r : RowCL) : List Value := [.string r.d.name, .int .i64 r.d.form.letters, r.a1, r.a2]
def aggCL (r : RowCL) : Value := .agg #[.string r.d.name, .int .i64 r.d.form.letters, r.a1, r.a2]
theorem cellsCL_len (r : RowCL) : (cellsCL r).length = 4 := rfl
def sumCL : List CaseD → Nat
  | [] => 0
  | z :: r => bulkCs z + sumCL r
theorem sumCL_append : ∀ (a b : List CaseD), sumCL (a ++ b) = sumCL a + sumCL b
  | [], b => by simp [sumCL]
  | z :: r, b => by simp only [List.cons_append, sumCL, sumCL_append r b]; omega
def bulkCL (ds : List CaseD) : Nat := ds.length + sumCL ds
theorem sumCL_take_succ (ds : List CaseD) (k : Nat) (hk : k < ds.length) : sumCL (ds.take (k + 1)) = sumCL (ds.take k) + bulkCs (ds.getD k ICL) := by
  rw [List.take_succ_eq_append_getElem hk, sumCL_append]
  simp [hk, sumCL]
theorem bulkCL_le (ds : List CaseD) (k : Nat) : sumCL (ds.take k) + ds.length ≤ bulkCL ds := by
  unfold bulkCL
  have : sumCL (ds.take k) + sumCL (ds.drop k) = sumCL ds := by rw [← sumCL_append, List.take_append_drop]
  omega

/-- The slice reads as these. -/
def RdCL (w : World) (v : Value) (ds : List CaseD) : Prop := (∃ a cap, v = .slice a 0 cap ∧ cap ≤ maxLen ∧ ds = []) ∨
  ∃ (b off cap : Nat) (rows : List RowCL), v = .slice (some ⟨b, off, none⟩) ds.length cap ∧ ds.length ≤ cap ∧ cap ≤ maxLen ∧ ds = rows.map (·.d) ∧
    ∀ (i : Nat) (r : RowCL), rows[i]? = some r → (∀ c u, (cellsCL r)[c]? = some u → w.cell? ⟨b, off + i * 4 + c, none⟩ = some u) ∧ RdCs w (aggCL r) r.d
def OwnECL (lo hi : Nat) (w : World) (rows : List RowCL) : Prop :=
  (∀ (i : Nat) (r : RowCL), rows[i]? = some r → OwnCs r.l r.h w (aggCL r) r.d ∧ lo ≤ r.l ∧ r.h ≤ hi) ∧ ∀ (i j : Nat) (r s : RowCL), i < j → rows[i]? = some r → rows[j]? = some s → r.h ≤ s.l
def OwnCL (lo hi : Nat) (w : World) (v : Value) (ds : List CaseD) : Prop :=
  ∃ rows : List RowCL, ds = rows.map (·.d) ∧ w.ownsRow lo 37 4 v ds.length (rows.flatMap cellsCL) ∧ (∀ g, v.ownBlock = some g → g < hi ∧ ∀ (i : Nat) (r : RowCL), rows[i]? = some r → ¬ (r.l ≤ g ∧ g < r.h)) ∧ OwnECL lo hi w rows

theorem RdCL.shape {w : World} {v : Value} {ds : List CaseD} (h : RdCL w v ds) : ∃ a c, v = .slice a ds.length c := by
  rcases h with ⟨a, cap, rfl, _, rfl⟩ | ⟨b, off, cap, rows, rfl, _⟩
  · exact ⟨a, cap, rfl⟩
  · exact ⟨_, cap, rfl⟩
theorem RdCL.len {w : World} {v : Value} {ds : List CaseD} (h : RdCL w v ds) : ds.length ≤ maxLen := by
  rcases h with ⟨a, cap, rfl, _, rfl⟩ | ⟨b, off, cap, rows, rfl, h1, h2, _⟩
  · simp [maxLen]
  · omega
theorem RdCL.up {w w' : World} {v : Value} {ds : List CaseD} {B : Nat} (h : RdCL w v ds) (hb : Below B w w') (hB : w.heap.size ≤ B) : RdCL w' v ds := by
  rcases h with h | ⟨b, off, cap, rows, e, h1, h2, h3, hc⟩
  · exact .inl h
  · exact .inr ⟨b, off, cap, rows, e, h1, h2, h3, fun i r hr => ⟨fun c u hu => held_of hb ((hc i r hr).1 c u hu) hB, (hc i r hr).2.up hb hB⟩⟩
theorem RdCL.at {w : World} {a : Option Addr} {n c : Nat} {ds : List CaseD} (h : RdCL w (.slice a n c) ds) {i : Nat} (hi : i < ds.length) :
    ∃ b off a1 a2, a = some ⟨b, off, none⟩ ∧ b < w.heap.size ∧ w.cell? ⟨b, off + i * 4, none⟩ = some (.string (ds.getD i ICL).name) ∧ w.cell? ⟨b, off + i * 4 + 1, none⟩ = some (.int .i64 (ds.getD i ICL).form.letters) ∧ w.cell? ⟨b, off + i * 4 + 2, none⟩ = some (a1) ∧ w.cell? ⟨b, off + i * 4 + 3, none⟩ = some (a2) ∧ RdCs w (.agg #[.string (ds.getD i ICL).name, .int .i64 (ds.getD i ICL).form.letters, a1, a2]) (ds.getD i ICL) := by
  rcases h with ⟨_, _, _, _, rfl⟩ | ⟨b, off, cap, rows, e, _, _, hd, hc⟩
  · simp at hi
  · simp only [Value.slice.injEq] at e
    obtain ⟨rfl, rfl, rfl⟩ := e
    have hir : i < rows.length := by rw [hd] at hi; simpa using hi
    have hg : ds.getD i ICL = rows[i].d := by rw [hd]; simp [hir]
    obtain ⟨h1, h2⟩ := hc i _ (List.getElem?_eq_getElem hir)
    rw [hg]
    have h0 := h1 0 _ rfl
    exact ⟨b, off, rows[i].a1, rows[i].a2, rfl, cell_lt h0, h0, h1 1 _ rfl, h1 2 _ rfl, h1 3 _ rfl, h2⟩

theorem OwnECL.up {lo hi : Nat} {w w' : World} {rows : List RowCL} {B : Nat} (h : OwnECL lo hi w rows) (hb : Below B w w') (hB : w.heap.size ≤ B) : OwnECL lo hi w' rows :=
  ⟨fun i r hr => ⟨(h.1 i r hr).1.up hb hB, (h.1 i r hr).2⟩, h.2⟩
theorem OwnECL.wide {lo hi lo' hi' : Nat} {w : World} {rows : List RowCL} (h : OwnECL lo hi w rows) (a : lo' ≤ lo) (b : hi ≤ hi') : OwnECL lo' hi' w rows :=
  ⟨fun i r hr => ⟨(h.1 i r hr).1, Nat.le_trans a (h.1 i r hr).2.1, Nat.le_trans (h.1 i r hr).2.2 b⟩, h.2⟩
theorem OwnECL.kept {lo hi : Nat} {w w' : World} {rows : List RowCL} {S : Nat → Prop} (h : OwnECL lo hi w rows) (hk : Kept S w w') (hs : ∀ (i : Nat) (r : RowCL), rows[i]? = some r → ∀ b, r.l ≤ b → b < r.h → ¬ S b) : OwnECL lo hi w' rows :=
  ⟨fun i r hr => ⟨(h.1 i r hr).1.kept hk (hs i r hr), (h.1 i r hr).2⟩, h.2⟩
theorem OwnCL.len {lo hi : Nat} {w : World} {v : Value} {ds : List CaseD} (h : OwnCL lo hi w v ds) : ds.length ≤ maxLen := by
  obtain ⟨rows, _, h2, _⟩ := h
  rcases h2.2 with ⟨_, e⟩ | ⟨g, cap, cur, _, _, _, hn, hm, _⟩
  · rw [e]; simp [maxLen]
  · omega
theorem OwnCL.rd {lo hi : Nat} {w : World} {v : Value} {ds : List CaseD} (h : OwnCL lo hi w v ds) : RdCL w v ds := by
  have hlen := h.len
  obtain ⟨rows, h1, h2, h3, h4⟩ := h
  have h2' := h2
  rcases h2.2 with ⟨rfl, e⟩ | ⟨g, cap, cur, rfl, hb, hg, hn, hm, hs, ht⟩
  · left; exact ⟨none, 0, rfl, by simp [maxLen], List.length_eq_zero_iff.1 e⟩
  · right
    refine ⟨g, 0, cap, rows, rfl, hn, hm, h1, fun i r hr => ⟨fun c u hu => ?_, (h4.1 i r hr).1.rd⟩⟩
    have hc : c < 4 := by
      have := (List.getElem?_eq_some_iff.1 hu).1
      rwa [cellsCL_len] at this
    have hi : i < ds.length := by rw [h1, List.length_map]; exact (List.getElem?_eq_some_iff.1 hr).1
    have h5 := h2'.cellAt (i * 4 + c) (by omega)
    rw [flat_at cellsCL 4 cellsCL_len rows i c r hr hc, hu] at h5
    simpa [Nat.add_assoc] using h5
theorem OwnCL.up {lo hi : Nat} {w w' : World} {v : Value} {ds : List CaseD} {B : Nat} (h : OwnCL lo hi w v ds) (hb : Below B w w') (hB : w.heap.size ≤ B) : OwnCL lo hi w' v ds := by
  obtain ⟨rows, h1, h2, h3, h4⟩ := h
  exact ⟨rows, h1, ownsK_below h2 hb hB, h3, h4.up hb hB⟩
theorem OwnCL.wide {lo hi lo' hi' : Nat} {w : World} {v : Value} {ds : List CaseD} (h : OwnCL lo hi w v ds) (a : lo' ≤ lo) (b : hi ≤ hi') : OwnCL lo' hi' w v ds := by
  obtain ⟨rows, h1, h2, h3, h4⟩ := h
  exact ⟨rows, h1, ownsK_base h2 a, fun g hg => ⟨Nat.lt_of_lt_of_le (h3 g hg).1 b, (h3 g hg).2⟩, h4.wide a b⟩
theorem OwnCL.kept {lo hi : Nat} {w w' : World} {v : Value} {ds : List CaseD} {S : Nat → Prop} (h : OwnCL lo hi w v ds) (hk : Kept S w w') (hs : ∀ b, lo ≤ b → b < hi → ¬ S b) : OwnCL lo hi w' v ds := by
  obtain ⟨rows, h1, h2, h3, h4⟩ := h
  exact ⟨rows, h1, ownsK_kept h2 hk fun g hg => hs g (h2.lt g hg).1 (h3 g hg).1, h3, h4.kept hk fun i r hr b a c => hs b (by have := (h4.1 i r hr).2.1; omega) (by have := (h4.1 i r hr).2.2; omega)⟩


set_option maxHeartbeats 400000 in
theorem szCL_any (v : Value) (ds : List CaseD) (left : Int) (w : World) (h : RdCL w v ds) (h1 : left ≤ 1048576) (h0 : 0 ≤ left) :
    Calls Try.prog 12 #[v, .int .i64 left] w fun e w' => ∃ r : Int, e = .returned (.int .i64 r) ∧ -1 ≤ r ∧ r ≤ left ∧ (0 ≤ r → (bulkCL ds : Int) ≤ left - r) ∧ Below w.heap.size w w' := by
  obtain ⟨a, c, rfl⟩ := h.shape
  have hl := h.len
  unfold maxLen at hl
  have HS := Lib.hid h
  clear h
  by_cases hn : left - ds.length < 0
  · go_enter Try.func12, Try.ntmps12
    go_wp2_with fail
    go_ret
    exact ⟨-1, rfl, by omega, by omega, by omega, Below.refl _ _⟩
  · go_enter Try.func12, Try.ntmps12
    go_wp2_with fail
    go_loopw [1, 5] (fun l i wr => ∃ (k : Nat) (r : Int), i = .int .i64 k ∧ k ≤ ds.length ∧ l = .int .i64 r ∧ 0 ≤ r ∧ r ≤ left ∧ Hid (sumCL (ds.take k) + ds.length ≤ left - r) ∧ Below w.heap.size w wr) (fun _ i _ => ds.length - (intOf i).toNat)
    case atStart => exact ⟨0, left - ds.length, rfl, Nat.zero_le _, rfl, by omega, by omega, (by simp [sumCL]; omega : sumCL (ds.take 0) + (ds.length : Int) ≤ left - (left - ds.length)), Below.refl _ _⟩
    case round =>
      obtain ⟨k, r, rfl, hk, rfl, hr0, hr1, hsum, hb⟩ := hrel
      have HB := Lib.hid hb
      clear hb
      by_cases hlt : k < ds.length
      · obtain ⟨b, off, z1, z2, rfl, hbk, x0, x1, x2, x3, hu⟩ := (HS.out.up HB.out (Nat.le_refl _)).at hlt
        have HT := Lib.hid (sumCL_take_succ ds k hlt)
        obtain ⟨d, hd⟩ : ∃ d, d = ds.getD k ICL := ⟨_, rfl⟩
        rw [← hd] at x0 x1 hu HT
        have HU := Lib.hid hu
        clear hu hd
        go_wp2_with fail
        refine (szCs_any _ d _ _ HU.out (by omega) hr0).mono ?_
        rintro e w1 ⟨r', rfl, s1, s2, s3, hb1⟩
        have HB1 := Lib.hid (HB.out.trans (hb1.mono HB.out.size))
        clear hb1
        by_cases hneg : r' < 0
        · go_wp2_with fail
          go_ret
          exact ⟨-1, rfl, by omega, by omega, by omega, HB1.out⟩
        · go_wp2_with fail
          go_roundw
          case rel =>
            refine ⟨k + 1, r', by go_num, by omega, rfl, by omega, by omega, ?_, HB1.out⟩
            have h3 := s3 (by omega)
            have h4 := hsum.out
            show (sumCL (ds.take (k + 1)) : Int) + ds.length ≤ left - r'
            rw [HT.out]
            push_cast
            omega
          case measure => simp [intOf]; omega
      · obtain rfl : k = ds.length := by omega
        go_wp2_with fail
        go_ret
        refine ⟨r, rfl, by omega, by omega, fun _ => ?_, HB.out⟩
        have h4 := hsum.out
        rw [List.take_length] at h4
        unfold bulkCL
        push_cast
        omega


theorem Try.infoZCL : (Try.prog.info? 37).map (fun i => (i.zero, i.size, i.bytes)) = some (some (.agg #[.string ⟨#[]⟩, .int .i64 0, .slice none 0 0, .slice none 0 0]), 4, 72) := by kernel_rfl

set_option maxHeartbeats 2000000 in
set_option maxRecDepth 4000 in
theorem toCL_any (v : Value) (ds : List CaseD) (w : World) (h : RdCL w v ds) (hb : bulkCL ds ≤ 1048576) :
    Calls Try.prog 14 #[v] w fun e w' => ∃ v', e = .returned v' ∧ OwnCL w.heap.size w'.heap.size w' v' ds ∧ Below w.heap.size w w' := by
  obtain ⟨i0, hi, hz0, hz1, hz2⟩ := info_parts Try.infoZCL
  obtain ⟨a, c, rfl⟩ := h.shape
  have hln : ds.length ≤ 1048576 := by unfold bulkCL at hb; omega
  have HS := Lib.hid h
  have HBU := Lib.hid hb
  clear h hb
  go_enter Try.func14, Try.ntmps14
  go_wp2_with (at_make; refine wpList_make_full _ rfl _ _ 25 rfl w.heap.size 37 i0 (.agg #[.string ⟨#[]⟩, .int .i64 0, .slice none 0 0, .slice none 0 0]) 4 Try.underlying25 hi hz0 hz1 .i64 .i64 ds.length ds.length ds.length rfl rfl rfl rfl (by rw [hz2]; omega) (by unfold maxLen; omega) (by simp) ?_; intro w1 hown hgrow)
  have hb1 : Below w.heap.size w w1 := (Below.refl _ _).grown hgrow (Nat.le_refl _) (by intro k hk; cases hk)
  have hlt1 := (hown.lt w.heap.size rfl).2
  have hmr : (madeCells (.agg #[.string ⟨#[]⟩, .int .i64 0, .slice none 0 0, .slice none 0 0] : Value).cells (ds.length * 4)).toList = (List.replicate ds.length (⟨ICL, .slice none 0 0, .slice none 0 0, 0, 0⟩ : RowCL)).flatMap cellsCL := flat_made cellsCL (⟨ICL, .slice none 0 0, .slice none 0 0, 0, 0⟩ : RowCL) ds.length (by simp [cellsCL])
  rw [hmr] at hown
  have HO := Lib.hid hown
  have HB := Lib.hid hb1
  have HL := Lib.hid hlt1
  clear hown hb1 hgrow hlt1 hmr
  go_loopw [4] (fun i wr => ∃ (k : Nat) (rows : List RowCL), i = .int .i64 k ∧ k ≤ ds.length ∧ ds.take k = rows.map (·.d) ∧ rows.length = k ∧ wr.ownsRow w.heap.size 37 4 (.slice (some ⟨w.heap.size, 0, none⟩) ds.length ds.length) ds.length ((rows ++ List.replicate (ds.length - k) (⟨ICL, .slice none 0 0, .slice none 0 0, 0, 0⟩ : RowCL)).flatMap cellsCL) ∧ OwnECL (w.heap.size + 1) wr.heap.size wr rows ∧ w.heap.size < wr.heap.size ∧ Below w.heap.size w wr) (fun i _ => ds.length - (intOf i).toNat)
  case atStart => exact ⟨0, [], rfl, Nat.zero_le _, rfl, rfl, by simpa using HO.out, ⟨by intro i r h; simp at h, by intro i j r s _ h; simp at h⟩, HL.out, HB.out⟩
  case round =>
    obtain ⟨k, rows, rfl, hk, hrd, hrl, hown, heach, hlt2, hbel⟩ := hrel
    have HO1 := Lib.hid hown
    have HE1 := Lib.hid heach
    have HB1 := Lib.hid hbel
    have HRD := Lib.hid hrd
    have HRL := Lib.hid hrl
    clear hown heach hbel hrd hrl
    by_cases hlt : k < ds.length
    · obtain ⟨b, off, z1, z2, rfl, hb0, x0, x1, x2, x3, hu⟩ := (HS.out.up HB1.out (Nat.le_refl _)).at hlt
      have hle : bulkCs (ds.getD k ICL) ≤ 1048576 := by
        have h1 := bulkCL_le ds (k + 1)
        rw [sumCL_take_succ ds k hlt] at h1
        have h2 := HBU.out
        omega
      obtain ⟨d, hd⟩ : ∃ d, d = ds.getD k ICL := ⟨_, rfl⟩
      rw [← hd] at x0 x1 hu hle
      have HU := Lib.hid hu
      have HLE := Lib.hid hle
      have HD := Lib.hid hd
      clear hu hle hd
      go_wp2_with fail
      refine (toCs_any _ d wr HU.out HLE.out).mono ?_
      rintro e w2 ⟨v', rfl, ho2, hb2⟩
      obtain ⟨b1, e1, b2, e2, rfl⟩ := ho2.rd.shape
      have HO2 := Lib.hid (ownsK_below HO1.out hb2 (Nat.le_refl _))
      have HE2 := Lib.hid (HE1.out.up hb2 (Nat.le_refl _))
      have HB2 := Lib.hid (HB1.out.trans (hb2.mono HB1.out.size))
      have HN := Lib.hid ho2
      have hsz := hb2.size
      clear ho2 hb2
      have hlen : (rows ++ List.replicate (ds.length - k) (⟨ICL, .slice none 0 0, .slice none 0 0, 0, 0⟩ : RowCL)).length = ds.length := by rw [List.length_append, List.length_replicate, HRL.out]; omega
      have d0 := HO2.out.cellAt (k * 4) (by omega)
      have d1 := HO2.out.cellAt (k * 4 + 1) (by omega)
      have d2 := HO2.out.cellAt (k * 4 + 2) (by omega)
      have d3 := HO2.out.cellAt (k * 4 + 3) (by omega)
      have hz : (rows ++ List.replicate (ds.length - k) (⟨ICL, .slice none 0 0, .slice none 0 0, 0, 0⟩ : RowCL))[k]? = some ⟨ICL, .slice none 0 0, .slice none 0 0, 0, 0⟩ := by
        rw [List.getElem?_append_right (by rw [HRL.out]; omega), HRL.out, List.getElem?_replicate, if_pos (by omega)]
      have ee0 := flat_at cellsCL 4 cellsCL_len _ k 0 _ hz (by omega)
      rw [Nat.add_zero] at ee0
      rw [ee0] at d0
      have ee1 := flat_at cellsCL 4 cellsCL_len _ k 1 _ hz (by omega)
      rw [ee1] at d1
      have ee2 := flat_at cellsCL 4 cellsCL_len _ k 2 _ hz (by omega)
      rw [ee2] at d2
      have ee3 := flat_at cellsCL 4 cellsCL_len _ k 3 _ hz (by omega)
      rw [ee3] at d3
      simp only [cellsCL, ICL, List.getElem?_cons_zero, List.getElem?_cons_succ] at d0 d1 d2 d3
      have f0 := HO2.out.frozenAt (k * 4)
      have f1 := HO2.out.frozenAt (k * 4 + 1)
      have f2 := HO2.out.frozenAt (k * 4 + 2)
      have f3 := HO2.out.frozenAt (k * 4 + 3)
      have HST := Lib.hid (((((HO2.out.stored (k * 4) (.string d.name)).1.stored (k * 4 + 1) (.int .i64 d.form.letters)).1.stored (k * 4 + 2) (.slice b1 d.form.clauses.length e1)).1.stored (k * 4 + 3) (.slice b2 d.proof.length e2)).1)
      have HJC := Lib.hid (flat_put cellsCL 4 cellsCL_len (rows ++ List.replicate (ds.length - k) (⟨ICL, .slice none 0 0, .slice none 0 0, 0, 0⟩ : RowCL)) k ⟨d, .slice b1 d.form.clauses.length e1, .slice b2 d.proof.length e2, wr.heap.size, w2.heap.size⟩ (by omega))
      have HLT := Lib.hid (set_mid rows (List.replicate (ds.length - (k + 1)) (⟨ICL, .slice none 0 0, .slice none 0 0, 0, 0⟩ : RowCL)) ⟨ICL, .slice none 0 0, .slice none 0 0, 0, 0⟩ ⟨d, .slice b1 d.form.clauses.length e1, .slice b2 d.proof.length e2, wr.heap.size, w2.heap.size⟩ k HRL.out)
      clear ee0 ee1 ee2 ee3 hlen hz
      go_wp2_with fail
      go_roundw
      case rel =>
        have hkp : Kept (· = w.heap.size) w2 ((((w2.setCell ⟨w.heap.size, k * 4, none⟩ (.string d.name)).setCell ⟨w.heap.size, k * 4 + 1, none⟩ (.int .i64 d.form.letters)).setCell ⟨w.heap.size, k * 4 + 2, none⟩ (.slice b1 d.form.clauses.length e1)).setCell ⟨w.heap.size, k * 4 + 3, none⟩ (.slice b2 d.proof.length e2)) := (Kept.setCell (S := (· = w.heap.size)) (p := ⟨w.heap.size, k * 4 + 3, none⟩) (Kept.setCell (S := (· = w.heap.size)) (p := ⟨w.heap.size, k * 4 + 2, none⟩) (Kept.setCell (S := (· = w.heap.size)) (p := ⟨w.heap.size, k * 4 + 1, none⟩) (Kept.setCell (S := (· = w.heap.size)) (p := ⟨w.heap.size, k * 4, none⟩) (Kept.refl _ _) (.inr rfl) _) (.inr rfl) _) (.inr rfl) _) (.inr rfl) _)
        have hws : ((((w2.setCell ⟨w.heap.size, k * 4, none⟩ (.string d.name)).setCell ⟨w.heap.size, k * 4 + 1, none⟩ (.int .i64 d.form.letters)).setCell ⟨w.heap.size, k * 4 + 2, none⟩ (.slice b1 d.form.clauses.length e1)).setCell ⟨w.heap.size, k * 4 + 3, none⟩ (.slice b2 d.proof.length e2)).heap.size = w2.heap.size := by simp
        refine ⟨k + 1, rows ++ [⟨d, .slice b1 d.form.clauses.length e1, .slice b2 d.proof.length e2, wr.heap.size, w2.heap.size⟩], by go_num, by omega, ?_, by simp [HRL.out], ?_, ?_, by rw [hws]; omega, ((((HB2.out.setCell (Nat.le_refl _) _).setCell (Nat.le_refl _) _).setCell (Nat.le_refl _) _).setCell (Nat.le_refl _) _)⟩
        · rw [List.take_succ_eq_append_getElem hlt, HRD.out, List.map_append, List.map_cons, List.map_nil]
          congr 2
          show _ = d
          rw [HD.out]; simp [hlt]
        · have h1 := HST.out
          have h2 := HJC.out
          simp only [cellsCL, putAt] at h2
          rw [show ds.length - k = (ds.length - (k + 1)) + 1 by omega, List.replicate_succ] at h1 h2
          rw [HLT.out] at h2
          rw [List.append_assoc, List.singleton_append, ← h2]
          exact h1
        · rw [hws]
          refine ⟨fun i r hr => ?_, fun i j r s hij hr hs => ?_⟩
          · by_cases hik : i < k
            · rw [List.getElem?_append_left (by rw [HRL.out]; exact hik)] at hr
              obtain ⟨q1, q2, q3⟩ := HE2.out.1 i r hr
              exact ⟨q1.kept hkp (by intro b p1 p2 p3; omega), q2, by omega⟩
            · have hik' : i = k := by
                have := (List.getElem?_eq_some_iff.1 hr).1
                simp [HRL.out] at this
                omega
              subst hik'
              rw [List.getElem?_append_right (by rw [HRL.out]; exact Nat.le_refl _), HRL.out] at hr
              simp only [Nat.sub_self, List.getElem?_cons_zero, Option.some.injEq] at hr
              subst hr
              exact ⟨HN.out.kept hkp (by intro b p1 p2 p3; omega), hlt2, Nat.le_refl _⟩
          · have hjl := (List.getElem?_eq_some_iff.1 hs).1
            simp [HRL.out] at hjl
            rw [List.getElem?_append_left (by rw [HRL.out]; omega)] at hr
            by_cases hjk : j < k
            · rw [List.getElem?_append_left (by rw [HRL.out]; exact hjk)] at hs
              exact HE2.out.2 i j r s hij hr hs
            · have hjk' : j = k := by omega
              subst hjk'
              rw [List.getElem?_append_right (by rw [HRL.out]; exact Nat.le_refl _), HRL.out] at hs
              simp only [Nat.sub_self, List.getElem?_cons_zero, Option.some.injEq] at hs
              subst hs
              exact (HE1.out.1 i r hr).2.2
      case measure => simp [intOf]; omega
    · obtain rfl : k = ds.length := by omega
      go_wp2_with fail
      go_ret
      refine ⟨_, rfl, ⟨rows, ?_, by simpa using HO1.out, ?_, HE1.out.wide (by omega) (Nat.le_refl _)⟩, HB1.out⟩
      · have := HRD.out
        rwa [List.take_length] at this
      · intro g hg
        simp [Value.ownBlock] at hg
        subst hg
        exact ⟨hlt2, fun i r hr h => by have := (HE1.out.1 i r hr).2.1; omega⟩


set_option maxHeartbeats 2000000 in
set_option maxRecDepth 4000 in
theorem eqCL_same (v v' : Value) (ds : List CaseD) (w : World) (h : RdCL w v ds) (h' : RdCL w v' ds) :
    Calls Try.prog 16 #[v, v'] w fun e w' => e = .returned (.bool true) ∧ Below w.heap.size w w' := by
  obtain ⟨a, c, rfl⟩ := h.shape
  obtain ⟨a', c', rfl⟩ := h'.shape
  have hl := h.len
  unfold maxLen at hl
  have hne : ((ds.length : Int) != (ds.length : Int)) = false := by simp
  have HS := Lib.hid h
  have HS' := Lib.hid h'
  clear h h'
  go_enter Try.func16, Try.ntmps16
  go_wp2_with fail
  go_loopw [5] (fun i wr => ∃ k : Nat, i = .int .i64 k ∧ k ≤ ds.length ∧ Below w.heap.size w wr) (fun i _ => ds.length - (intOf i).toNat)
  case atStart => exact ⟨0, rfl, Nat.zero_le _, Below.refl _ _⟩
  case round =>
    obtain ⟨k, rfl, hk, hbl⟩ := hrel
    have HB := Lib.hid hbl
    clear hbl
    by_cases hlt : k < ds.length
    · obtain ⟨b, off, z1, z2, rfl, hb0, x0, x1, x2, x3, hu⟩ := (HS.out.up HB.out (Nat.le_refl _)).at hlt
      obtain ⟨b', off', z1', z2', rfl, hb0', y0, y1, y2, y3, hu'⟩ := (HS'.out.up HB.out (Nat.le_refl _)).at hlt
      obtain ⟨d, hd⟩ : ∃ d, d = ds.getD k ICL := ⟨_, rfl⟩
      rw [← hd] at x0 x1 y0 y1 hu hu'
      obtain ⟨p1, q1, p2, q2, hsz⟩ := hu.shape
      obtain ⟨P1, Q1, P2, Q2, hsy⟩ := hu'.shape
      simp only [Value.agg.injEq, Array.mk.injEq, List.cons.injEq, and_true, true_and] at hsz hsy
      obtain ⟨rfl, rfl⟩ := hsz
      obtain ⟨rfl, rfl⟩ := hsy
      have HU := Lib.hid hu
      have HU' := Lib.hid hu'
      clear hd hu hu'
      have kk : (k : Int) < (ds.length : Int) := by omega
      have HKEEP := Lib.hid (show ∀ X, Below wr.heap.size wr X → (fun X => X.cell? ⟨b, off + k * 4, none⟩ = some (.string d.name) ∧ X.cell? ⟨b, off + k * 4 + 1, none⟩ = some (.int .i64 d.form.letters) ∧ X.cell? ⟨b, off + k * 4 + 2, none⟩ = some ((.slice p1 d.form.clauses.length q1)) ∧ X.cell? ⟨b, off + k * 4 + 3, none⟩ = some ((.slice p2 d.proof.length q2)) ∧ X.cell? ⟨b', off' + k * 4, none⟩ = some (.string d.name) ∧ X.cell? ⟨b', off' + k * 4 + 1, none⟩ = some (.int .i64 d.form.letters) ∧ X.cell? ⟨b', off' + k * 4 + 2, none⟩ = some ((.slice P1 d.form.clauses.length Q1)) ∧ X.cell? ⟨b', off' + k * 4 + 3, none⟩ = some ((.slice P2 d.proof.length Q2)) ∧ Below wr.heap.size wr X) X from fun X hb => ⟨held_of hb x0 (Nat.le_refl _), held_of hb x1 (Nat.le_refl _), held_of hb x2 (Nat.le_refl _), held_of hb x3 (Nat.le_refl _), held_of hb y0 (Nat.le_refl _), held_of hb y1 (Nat.le_refl _), held_of hb y2 (Nat.le_refl _), held_of hb y3 (Nat.le_refl _), hb⟩)
      go_wp2_with fail
      go_region_held3 (fun X => X.cell? ⟨b, off + k * 4, none⟩ = some (.string d.name) ∧ X.cell? ⟨b, off + k * 4 + 1, none⟩ = some (.int .i64 d.form.letters) ∧ X.cell? ⟨b, off + k * 4 + 2, none⟩ = some ((.slice p1 d.form.clauses.length q1)) ∧ X.cell? ⟨b, off + k * 4 + 3, none⟩ = some ((.slice p2 d.proof.length q2)) ∧ X.cell? ⟨b', off' + k * 4, none⟩ = some (.string d.name) ∧ X.cell? ⟨b', off' + k * 4 + 1, none⟩ = some (.int .i64 d.form.letters) ∧ X.cell? ⟨b', off' + k * 4 + 2, none⟩ = some ((.slice P1 d.form.clauses.length Q1)) ∧ X.cell? ⟨b', off' + k * 4 + 3, none⟩ = some ((.slice P2 d.proof.length Q2)) ∧ Below wr.heap.size wr X)
        (first | exact HKEEP.out _ hbn | (refine HKEEP.out _ ?_; (repeat' first | exact Below.refl _ _ | assumption | refine Below.alloc ?_ ?_ _ | refine Below.setCell ?_ ?_ _ | refine Below.drew ?_ | (simp; done) | (simp; omega)); done) | go_keep)
        (first
          | (go_at_call 21; have hcur := (‹_ ∧ _ ∧ _ ∧ _ ∧ _ ∧ _ ∧ _ ∧ _ ∧ Below wr.heap.size wr _›).2.2.2.2.2.2.2.2; refine (eqCs_same _ _ d _ (HU.out.up hcur (Nat.le_refl _)) (HU'.out.up hcur (Nat.le_refl _))).mono ?_; rintro e w1 ⟨rfl, hb1⟩; have hbn : Below wr.heap.size wr w1 := Below.trans hcur (hb1.mono hcur.size))
          | fail)
      go_wp2_with fail
      go_roundw
      case rel => exact ⟨k + 1, by go_num, by omega, HB.out.trans (hbn.mono HB.out.size)⟩
      case measure => simp [intOf]; omega
    · obtain rfl : k = ds.length := by omega
      go_wp2_with fail
      go_ret
      exact ⟨rfl, HB.out⟩

end Go.Proofs.Ytljhohacgceojaa

namespace Go.Proofs.Ytljhohacgceojaa
open Go.ChangeShapes Go.WideShapes Go.ChangeAt Go.RowKit
set_option linter.unusedVariables false

section
variable {H : Type} {enc : TypeId × Value → H} {w : World} {base : Nat} {spare : Nat → Bool} {held : Bool}

theorem cells_four {a : Addr} {cs : List Value} (h : w.cells? base a (0 + 4) = some cs) : ∃ v0 v1 v2 v3, cs = [v0, v1, v2, v3] ∧ w.cell? (a.add 0) = some v0 ∧ w.cell? (a.add 1) = some v1 ∧ w.cell? (a.add 2) = some v2 ∧ w.cell? (a.add 3) = some v3 := by
  simp only [World.cells?, Nat.zero_add] at h
  split at h
  · rw [show List.range 4 = [0, 1, 2, 3] from rfl] at h
    cases h0 : w.cell? (a.add 0) with
    | none => rw [List.mapM_cons, h0] at h; simp at h
    | some v0 =>
      cases h1 : w.cell? (a.add 1) with
      | none => rw [List.mapM_cons, h0, List.mapM_cons, h1] at h; simp at h
      | some v1 =>
        cases h2 : w.cell? (a.add 2) with
        | none => rw [List.mapM_cons, h0, List.mapM_cons, h1, List.mapM_cons, h2] at h; simp at h
        | some v2 =>
          cases h3 : w.cell? (a.add 3) with
          | none => rw [List.mapM_cons, h0, List.mapM_cons, h1, List.mapM_cons, h2, List.mapM_cons, h3] at h; simp at h
          | some v3 =>
            rw [List.mapM_cons, h0, List.mapM_cons, h1, List.mapM_cons, h2, List.mapM_cons, h3] at h
            simp at h
            exact ⟨v0, v1, v2, v3, h.symm, rfl, rfl, rfl, rfl⟩
  · cases h

/-- An address whose cells read has no spot: its cells lie one behind another. -/
theorem add_plain {a : Addr} {u : Value} (h : w.cell? (a.add 0) = some u) : ∃ b off, a = ⟨b, off, none⟩ := by
  obtain ⟨b, off, spot⟩ := a
  have h0 := World.cell?_spot h
  have : spot = none := by simpa [Addr.add] using h0
  subst this
  exact ⟨b, off, rfl⟩

theorem trod_three {P : Program} {t : TypeId} {f0 f1 f2 : Field} {fuel : Nat} {cs : List Value} {x : DataW H × List MemPlace} (ht : P.underlying t = some (.struct #[f0, f1, f2])) (h : DataW.trod enc P w base spare held fuel t cs = some x) :
    ∃ y0 y1 y2 n, cs.length = P.cellsOf t ∧ DataW.trod enc P w base spare held n f0.type ((cs.drop f0.offset).take (P.cellsOf f0.type)) = some y0 ∧
      DataW.trod enc P w base spare held n f1.type ((cs.drop f1.offset).take (P.cellsOf f1.type)) = some y1 ∧ DataW.trod enc P w base spare held n f2.type ((cs.drop f2.offset).take (P.cellsOf f2.type)) = some y2 := by
  obtain ⟨xs, n, _, rfl, hl, hlen, hf⟩ := DataW.trod_struct ht h
  match xs, hlen with
  | [y0, y1, y2], _ => exact ⟨y0, y1, y2, n, hl, by simpa using hf 0 f0 rfl, by simpa using hf 1 f1 rfl, by simpa using hf 2 f2 rfl⟩

theorem cells_form : Try.prog.cellsOf 30 = 2 := by kernel_rfl
theorem cells_case : Try.prog.cellsOf 32 = 4 := by kernel_rfl
theorem cells_lists : Try.prog.cellsOf 28 = 1 := by kernel_rfl
theorem cells_str : Try.prog.cellsOf 9 = 1 := by kernel_rfl
theorem cells_num : Try.prog.cellsOf 2 = 1 := by kernel_rfl

def WfFm (d : FormD) : Prop := (-9223372036854775808 ≤ d.letters ∧ d.letters ≤ 9223372036854775807) ∧ WfL d.clauses
def WfCs (d : CaseD) : Prop := WfFm d.form ∧ WfL d.proof
def WfCL (ds : List CaseD) : Prop := ∀ d ∈ ds, WfCs d

set_option maxRecDepth 100000 in
theorem trod_Fm {fuel : Nat} {cs : List Value} {x : DataW H × List MemPlace} (h : DataW.trod enc Try.prog w base spare held fuel 30 cs = some x) : ∃ z v d, cs = [.int .i64 z, v] ∧ RdFm w (.agg #[.int .i64 z, v]) d ∧ z = d.letters ∧ WfFm d := by
  obtain ⟨y0, y1, n, _, hl, h0, h1⟩ := trod_struct2 Try.underlying30 h
  rw [cells_form] at hl
  match cs, hl with
  | [a, b], _ =>
    rw [cells_num] at h0
    rw [cells_lists] at h1
    obtain ⟨z, e0, _, f0⟩ := DataW.trod_int Try.underlying2 h0
    obtain ⟨v, q, e1, r1, f1⟩ := trod_L (w := w) h1
    simp at e0 e1
    subst e0 e1
    exact ⟨z, _, ⟨z, q⟩, rfl, ⟨_, rfl, r1⟩, rfl, wf_i64_bounds f0, f1⟩

set_option maxRecDepth 100000 in
theorem trod_Cs {fuel : Nat} {cs : List Value} {x : DataW H × List MemPlace} (h : DataW.trod enc Try.prog w base spare held fuel 32 cs = some x) : ∃ v1 v2 d, cs = [.string d.name, .int .i64 d.form.letters, v1, v2] ∧ RdCs w (.agg #[.string d.name, .int .i64 d.form.letters, v1, v2]) d ∧ WfCs d := by
  obtain ⟨y0, y1, y2, n, hl, h0, h1, h2⟩ := trod_three Try.underlying32 h
  rw [cells_case] at hl
  match cs, hl with
    | [a, b, c, e], _ =>
      rw [cells_str] at h0
      rw [cells_form] at h1
      rw [cells_lists] at h2
      obtain ⟨s, e0, _, f0⟩ := DataW.trod_string Try.underlying9 (by simpa using h0)
      obtain ⟨z, vv, d, e1, r1, hz, f1⟩ := trod_Fm (w := w) (by simpa using h1)
      obtain ⟨vw, q, e2, r2, f2⟩ := trod_L (w := w) (by simpa using h2)
      simp at e0 e1 e2
      obtain ⟨rfl, rfl⟩ := e1
      subst e0 e2 hz
      exact ⟨_, _, ⟨s, d, q⟩, rfl, ⟨_, _, rfl, r1, r2, f0⟩, f1, f2⟩

set_option maxRecDepth 100000 in
theorem arg_Cs {r : Reach} {b0 : Nat} {v : Value} {d : DataW H} {p : List MemPlace} (hv : Value.okWide Try.prog w r b0 32 v) (h : DataW.Trod enc Try.prog w base spare held 32 v d p) : ∃ t, RdCs w v t ∧ WfCs t := by
  obtain ⟨cs, rfl, hsz⟩ := okWide_struct Try.underlying32 hv
  obtain ⟨fuel, hf⟩ := h
  obtain ⟨v1, v2, d, e, r1, f1⟩ := trod_Cs (w := w) hf
  obtain ⟨l⟩ := cs
  simp only [Value.cells] at e
  subst e
  exact ⟨d, r1, f1⟩

set_option maxRecDepth 100000 in
theorem trod_CL {fuel : Nat} {cs : List Value} {x : DataW H × List MemPlace} (h : DataW.trod enc Try.prog w base spare held fuel 22 cs = some x) : ∃ v ds, cs = [v] ∧ RdCL w v ds ∧ WfCL ds := by
  rcases DataW.trod_slice Try.underlying22 h with ⟨rfl, _⟩ | ⟨a, len, cap, elems, rest, n, _, rfl, _, hb, hl, hm, hlen, hel, _, _⟩
  · exact ⟨_, [], rfl, .inl ⟨none, 0, rfl, by simp [maxLen], rfl⟩, by intro z hz; simp at hz⟩
  · rw [cells_case] at hel
    have hex : ∀ i, i < len → ∃ q : RowCL, (i = 0 → ∃ b off, a = ⟨b, off, none⟩) ∧ (∀ c u, (cellsCL q)[c]? = some u → w.cell? ((a.add (i * 4)).add c) = some u) ∧ RdCs w (aggCL q) q.d ∧ WfCs q.d := by
      intro i hi
      have h1 := hel i hi
      rw [List.getElem?_eq_getElem (by omega)] at h1
      cases hc : w.cells? base (a.add (i * 4)) 4 with
      | none => rw [hc] at h1; simp at h1
      | some cs' =>
        rw [hc] at h1
        simp only [Option.bind_some] at h1
        obtain ⟨v0, v1, v2, v3, rfl, q0, q1, q2, q3⟩ := cells_four hc
        obtain ⟨u1, u2, d, e, r, f⟩ := trod_Cs h1
        simp at e
        obtain ⟨rfl, rfl, rfl, rfl⟩ := e
        refine ⟨⟨d, v2, v3, 0, 0⟩, ?_, ?_, r, f⟩
        · rintro rfl
          obtain ⟨b, off, ha⟩ := add_plain q0
          exact ⟨b, off, by simpa [Addr.add] using ha⟩
        · intro c u hu
          match c, hu with
          | 0, hu => simp [cellsCL] at hu; subst hu; exact q0
          | 1, hu => simp [cellsCL] at hu; subst hu; exact q1
          | 2, hu => simp [cellsCL] at hu; subst hu; exact q2
          | 3, hu => simp [cellsCL] at hu; subst hu; exact q3
          | c + 4, hu => simp [cellsCL] at hu
    obtain ⟨l, hll, hlp⟩ := exists_list _ len hex
    by_cases hz : len = 0
    · subst hz
      exact ⟨_, [], rfl, .inl ⟨some a, cap, rfl, hm, rfl⟩, by intro z hz; simp at hz⟩
    · have h0 : l[0]? = some (l[0]'(by omega)) := List.getElem?_eq_getElem (by omega)
      obtain ⟨b, off, rfl⟩ := (hlp 0 _ h0).1 rfl
      refine ⟨_, l.map (·.d), rfl, .inr ⟨b, off, cap, l, by simp [hll], by simp [hll]; omega, hm, rfl, fun i r hr => ⟨fun c u hu => ?_, (hlp i r hr).2.2.1⟩⟩, ?_⟩
      · have h5 := (hlp i r hr).2.1 c u hu
        have e : ((⟨b, off, none⟩ : Addr).add (i * 4)).add c = ⟨b, off + i * 4 + c, none⟩ := by
          unfold Addr.add
          by_cases q1 : i * 4 = 0 <;> by_cases q2 : c = 0 <;> simp [q1, q2]
        rwa [e] at h5
      · intro z hz
        simp at hz
        obtain ⟨q, hq, rfl⟩ := hz
        obtain ⟨i, hi, he⟩ := List.mem_iff_getElem.1 hq
        have := (hlp i _ (List.getElem?_eq_getElem hi)).2.2.2
        rwa [he] at this

set_option maxRecDepth 100000 in
theorem arg_CL {r : Reach} {b0 : Nat} {v : Value} {d : DataW H} {p : List MemPlace} (hv : Value.okWide Try.prog w r b0 22 v) (h : DataW.Trod enc Try.prog w base spare held 22 v d p) : ∃ ds, RdCL w v ds ∧ WfCL ds := by
  obtain ⟨a, len, cap, rfl⟩ := okWide_slice Try.underlying22 hv
  obtain ⟨fuel, hf⟩ := h
  obtain ⟨v, zs, e, h1, h2⟩ := trod_CL hf
  simp [Value.cells] at e
  subst e
  exact ⟨zs, h1, h2⟩
end
end Go.Proofs.Ytljhohacgceojaa

namespace Go.Proofs.Ytljhohacgceojaa
open Go.RowKit

theorem app_list {w : World} {ops : Array Oper} {rest : List Oper} {o : Oper} {a : Act} {Q : Exit → Act → World → Prop} (hgd : o.guard = none) (s x : Operand)
    (ho : o.op = .call { callee := .builtin .append, args := #[s, x], argTypes := #[28, 28] })
    (base : Nat) (v : Value) (n : Nat) (vs : List Value) (hs : a.eval s = v) (hown : w.ownsRow base 60 1 v n vs)
    (sv : Value) (ua : Option Addr) (un uc : Nat) (hx : a.eval x = sv) (hsv : Slc w sv [.slice ua un uc]) (hlen : n ≤ 1048576) (hbase : base ≤ w.heap.size)
    (h : ∀ a' cap' w', w'.ownsRow base 60 1 (.slice a' (n + 1) cap') (n + 1) (vs ++ [.slice ua un uc]) → Below base w w' → w.grownBy w' v.ownBlock → wpList Try.prog ops Q rest (a.put o.dst (.slice a' (n + 1) cap')) w') :
    wpList Try.prog ops Q (o :: rest) a w := by
  obtain ⟨i0, hi, hz0, hz1, hz2⟩ := info_parts Try.infoInts
  refine wpList_append_slc hgd s x 28 ho base 60 i0 (.slice none 0 0) 24 Try.underlying28 hi hz0 hz1 hz2 rfl v n vs hs hown sv [.slice ua un uc] hx hsv (by intro u hu; simp at hu; subst hu; rfl) (by simp [maxLen]; omega) (by simp; omega) hbase ?_
  intro v' w' h1 h2 h3
  obtain ⟨a', cap', rfl⟩ := owns_shape h1
  exact h a' cap' w' h1 (below_grown hown hbase h2) h2

/-- A new row of one list. -/
theorem slc_list (w : World) (u : Value) (b : Nat) (hb : b = w.heap.size) : Slc (w.alloc (.cells #[u] 60)) (.slice (some ⟨b, 0, none⟩) 1 1) [u] := by
  subst hb
  exact slc_of_owns (World.ownsRow_lit (base := w.heap.size) (e := 60) (size := 1) w #[u] 1 (Nat.le_refl _) (by simp [maxLen]) rfl)

/-- The lists of one's own, and one more. -/
theorem OwnEach.snoc {lo hi l2 h2 : Nat} {w w' : World} {v u : Value} {n : Nat} {vs : List Value} {zss : List (List Int)} {z : List Int} (hv : w.ownsRow lo 60 1 v n vs) (he : OwnEach lo hi w vs zss) (hu : OwnI l2 h2 w u z) (hhi : hi ≤ l2) (hl : lo ≤ l2) (h2w : h2 ≤ w.heap.size) (hiw : hi ≤ w.heap.size) (hg : w.grownBy w' v.ownBlock) :
    OwnEach lo w'.heap.size w' (vs ++ [u]) (zss ++ [z]) := by
  have hz := hg.size
  have keep : ∀ {l h : Nat} {u : Value} {z : List Int}, OwnI l h w u z → OwnI l h w' u z := by
    intro l h u z ho
    refine ⟨owns_kept (S := fun k => v.ownBlock = some k) ho.1 ⟨hg.os, hg.tape, hg.output, hg.size, fun k hk hs => hg.block k hk fun e => hs e.symm⟩ (fun g h1 h2 => owns_ne ho.1 hv (by decide) h1 h2), ho.2⟩
  have at' : ∀ (i : Nat) u1 z1, (vs ++ [u])[i]? = some u1 → (zss ++ [z])[i]? = some z1 → (i < zss.length ∧ vs[i]? = some u1 ∧ zss[i]? = some z1) ∨ (i = zss.length ∧ u1 = u ∧ z1 = z) := by
    intro i u1 z1 h1 h2
    by_cases hik : i < zss.length
    · rw [List.getElem?_append_left (by rw [he.1]; exact hik)] at h1
      rw [List.getElem?_append_left hik] at h2
      exact .inl ⟨hik, h1, h2⟩
    · have hik' : i = zss.length := by
        have := (List.getElem?_eq_some_iff.1 h2).1
        simp at this
        omega
      subst hik'
      rw [List.getElem?_append_right (by rw [he.1]; exact Nat.le_refl _), he.1] at h1
      rw [List.getElem?_append_right (Nat.le_refl _)] at h2
      simp at h1 h2
      exact .inr ⟨rfl, h1.symm, h2.symm⟩
  refine ⟨by simp [he.1], ?_, ?_⟩
  · intro i u1 z1 h1 h2'
    rcases at' i u1 z1 h1 h2' with ⟨_, q1, q2⟩ | ⟨_, rfl, rfl⟩
    · exact (keep (he.2.1 i u1 z1 q1 q2)).wide (Nat.le_refl _) (by omega)
    · exact (keep hu).wide hl (by omega)
  · intro i j u1 u2 g hij h1 h2' hg1 hg2
    have zat : ∀ (i : Nat) u1, (vs ++ [u])[i]? = some u1 → ∃ z1, (zss ++ [z])[i]? = some z1 := by
      intro i u1 h
      have := (List.getElem?_eq_some_iff.1 h).1
      simp [he.1] at this
      exact ⟨(zss ++ [z])[i]'(by simp; omega), List.getElem?_eq_getElem (by simp; omega)⟩
    obtain ⟨z1, q1⟩ := zat i u1 h1
    obtain ⟨z2, q2⟩ := zat j u2 h2'
    rcases at' i u1 z1 h1 q1 with ⟨a1, a2, a3⟩ | ⟨a1, rfl, rfl⟩ <;> rcases at' j u2 z2 h2' q2 with ⟨c1, c2, c3⟩ | ⟨c1, rfl, rfl⟩
    · exact he.2.2 i j u1 u2 g hij a2 c2 hg1 hg2
    · have := (he.2.1 i u1 z1 a2 a3).2 g hg1
      have := (owns_lt hu.1 hg2).1
      omega
    · have := (he.2.1 j u2 z2 c2 c3).2 g hg2
      have := (owns_lt hu.1 hg1).1
      omega
    · omega

end Go.Proofs.Ytljhohacgceojaa
