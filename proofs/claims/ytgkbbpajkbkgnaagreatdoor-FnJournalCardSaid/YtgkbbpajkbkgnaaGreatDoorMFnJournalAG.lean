/-
  FnJournal: texts joined: NumT, AppF, OwnRows, OwnB, OwnSpec, AddRow, RtxS, FxM.
-/
import Derived.Deep.AppendLies
import Derived.Maps.AppendAt
import Derived.Deep.RegionHeld3
import Derived.Test.YtgkbbpajkbkgnaaGreatDoorMFnJournalAB
import Derived.Test.YtgkbbpajkbkgnaaGreatDoorMFnJournalAD
import Derived.Test.YtgkbbpajkbkgnaaGreatDoorMFnJournalAF
set_option linter.unusedVariables false
set_option linter.unusedSimpArgs false
namespace Go.Proofs.YtgkbbpajkbkgnaaGreatDoor
open Go.RowKit
theorem hexS_size (n : Nat) : (hexS n).size = 8 := hexK_size n 8
def wordsF (xs : List Nat) : List ByteArray := xs.map fun x => hexS (codeN x)
def numT (xs : List Nat) : ByteArray := textS (wordsF xs)
theorem wordsF_len (xs : List Nat) : (wordsF xs).length = xs.length := by simp [wordsF]
theorem wordsF_take (xs : List Nat) (k : Nat) (h : k < xs.length) : wordsF (xs.take (k + 1)) = wordsF (xs.take k) ++ [hexS (codeN (xs.getD k 0))] := by
  unfold wordsF
  rw [List.take_add_one, List.map_append, List.getElem?_eq_getElem h, List.getD_eq_getElem?_getD, List.getElem?_eq_getElem h]
  rfl
theorem wordsF_at (xs : List Nat) (k : Nat) (h : k < xs.length) : (wordsF xs).getD k E0 = hexS (codeN (xs.getD k 0)) := by
  unfold wordsF
  rw [List.getD_eq_getElem?_getD, List.getD_eq_getElem?_getD, List.getElem?_map, List.getElem?_eq_getElem h]
  rfl
theorem wordsF_size (xs : List Nat) : ∀ x ∈ wordsF xs, x.size ≤ 8 := by
  intro x hx
  obtain ⟨y, _, rfl⟩ := List.mem_map.1 hx
  exact Nat.le_of_eq (hexS_size _)
theorem numT_size (xs : List Nat) (h : xs.length ≤ 256) : (numT xs).size ≤ 2304 := by
  unfold numT textS
  split
  · decide
  · have h1 := joinBy_size 44 (wordsF xs) 8 (wordsF_size xs)
    rw [wordsF_len] at h1
    omega
theorem bitsF_at {xs : List Nat} (h : BitsF xs) {k : Nat} (hk : k < xs.length) : xs.getD k 0 < 4294967296 := by
  rw [List.getD_eq_getElem?_getD, List.getElem?_eq_getElem hk]
  exact h _ (List.getElem_mem _)
theorem areNumbers_any (n : Nat) (w : World) (h : n ≤ 256) : Calls Tryz.prog 117 #[.int .i64 n] w fun e w' => e = .returned (.bool true) ∧ w = w' := by
  have hd : decide ((n : Int) ≤ 256) = true := decide_eq_true (by omega)
  go_enter Tryz.func117, Tryz.ntmps117
  go_wp2_with fail
  go_ret
  exact ⟨rfl, rfl⟩
set_option maxHeartbeats 1000000 in
theorem NumbersText_any (v : Value) (xs : List Nat) (w : World) (h : RdF w v xs) (hs : BitsF xs) (hl : xs.length ≤ 256) :
    Calls Tryz.prog 47 #[v] w fun e w' => e = .returned (.tuple #[.string (numT xs), .bool true]) ∧ Below w.heap.size w w' := by
  obtain ⟨a, c, rfl⟩ := h.shape
  have HR := Lib.hid h
  have HS := Lib.hid hs
  clear h hs
  have HAN := Lib.hid (areNumbers_any xs.length w hl)
  go_enter Tryz.func47, Tryz.ntmps47
  go_upto_region 3 with (go_at_call 117; refine HAN.out.mono ?_; rintro e w1 ⟨rfl, rfl⟩)
  clear HAN
  go_wp2_with fail
  go_loopw [4, 13] (fun ov iv wr => ∃ (k : Nat) (b : Option Addr) (cc : Nat), iv = .int .i64 k ∧ k ≤ xs.length ∧ ov = .slice b k cc ∧ Hid (wr.ownsRow w.heap.size 9 1 (.slice b k cc) k ((wordsF (xs.take k)).map SV)) ∧ Hid (Below w.heap.size w wr)) (fun _ iv _ => xs.length + 1 - (intOf iv).toNat)
  case atStart => exact ⟨0, none, 0, rfl, Nat.zero_le _, rfl, Lib.hid (World.ownsRow_nil _ _ _ _), Lib.hid (Below.refl _ _)⟩
  case round =>
    obtain ⟨k, b, cc, rfl, hk, rfl, HO, HB⟩ := hrel
    obtain ⟨wo, rfl⟩ : ∃ wo, wo = wr := ⟨wr, rfl⟩
    have hsz := HB.out.size
    by_cases hlt : k < xs.length
    · have hlt' : (k : Int) < xs.length := by omega
      obtain ⟨xb, xo, rfl, _, hx⟩ := (HR.out.up HB.out (Nat.le_refl _)).at hlt
      have hsm := bitsF_at HS.out hlt
      have HE := Lib.hid (wordsF_take xs k hlt)
      obtain ⟨x, hxe⟩ : ∃ x, x = xs.getD k 0 := ⟨_, rfl⟩
      rw [← hxe] at hx hsm HE
      clear hxe
      have HD := Lib.hid (hexOf_any x wo hsm)
      obtain ⟨D, hD⟩ : ∃ D, D = hexS (codeN x) := ⟨_, rfl⟩
      rw [← hD] at HD HE
      clear hsm hD
      go_wp2_with (first
        | (go_at_call 118; refine HD.out.mono ?_; rintro e w1 ⟨rfl, rfl⟩)
        | (at_builtin; refine app_strs rfl _ _ rfl w.heap.size (.slice b k cc) k (wordsF (xs.take k)) rfl (HO.out.alloc _) _ [D] rfl (slcS_one wo D _ rfl) (k + 1) (wordsF (xs.take (k + 1))) (by simp) HE.out (by omega) (by simp; omega) ?_; intro b3 c3 w3 hown3 hbl3 _)
        | fail)
      go_roundw
      case rel => exact ⟨k + 1, b3, c3, by go_num, by omega, rfl, Lib.hid hown3, Lib.hid (HB.out.trans (((Below.refl _ _).alloc (by omega) _).trans hbl3))⟩
      case measure => simp [intOf]; omega
    · obtain rfl : k = xs.length := by omega
      have hwl := wordsF_len xs
      have hws := wordsF_size xs
      have hrd : RdSs wo (.slice b xs.length cc) (wordsF xs) := ⟨by have := slc_of_owns HO.out; rw [List.take_length] at this; exact this, fun s hs => by have := hws s hs; simp [maxLen]; omega⟩
      have HJ := Lib.hid (joined_any _ (wordsF xs) wo hrd (fun x hx => by have := hws x hx; omega) (by omega))
      clear hwl hws hrd
      go_wp2_with (go_at_call 119; refine HJ.out.mono ?_; rintro e w1 ⟨rfl, hb1⟩)
      go_ret2
      exact ⟨rfl, HB.out.trans (hb1.mono hsz)⟩
theorem jnF_size (xs : List Nat) (k : Nat) : (jnK 44 (wordsF xs) k).size ≤ 9 * xs.length := by
  have h1 := joinBy_size 44 ((wordsF xs).take k) 8 (fun x hx => wordsF_size xs x (List.mem_of_mem_take hx))
  have h2 : ((wordsF xs).take k).length ≤ xs.length := by rw [List.length_take, wordsF_len]; omega
  have h3 := Nat.mul_le_mul_left 9 h2
  unfold jnK
  omega
set_option maxHeartbeats 1000000 in
theorem l01NText_any (v : Value) (xs : List Nat) (w : World) (h : RdF w v xs) (hs : BitsF xs) (hl : xs.length ≤ 1000000) :
    Calls Tryz.prog 179 #[v] w fun e w' => e = .returned (.string (numT xs)) ∧ Below w.heap.size w w' := by
  obtain ⟨a, c, rfl⟩ := h.shape
  have HR := Lib.hid h
  have HS := Lib.hid hs
  clear h hs
  by_cases h0 : xs.length = 0
  · have hd : ((xs.length : Int) == 0) = true := by simp [h0]
    have he := Lib.hid (show numT xs = noneS by unfold numT textS; rw [show (wordsF xs).isEmpty = true by rw [List.isEmpty_iff]; exact List.length_eq_zero_iff.1 (by rw [wordsF_len]; exact h0)]; rfl)
    clear h0
    go_enter Tryz.func179, Tryz.ntmps179
    go_wp2_with fail
    go_ret
    exact ⟨by rw [he.out]; rfl, Below.refl _ _⟩
  have hpos : 0 < xs.length := Nat.pos_of_ne_zero h0
  have hd : ((xs.length : Int) == 0) = false := by rw [beq_eq_false_iff_ne]; omega
  have hposI : (0 : Int) < xs.length := by omega
  clear h0
  have HLT := Lib.hid (show numT xs = jnK 44 (wordsF xs) xs.length by
    have := jnK_all 44 (wordsF xs)
    rw [wordsF_len] at this
    rw [this]
    unfold numT textS
    rw [if_neg (by rw [List.isEmpty_iff]; intro e; have := congrArg List.length e; rw [wordsF_len, List.length_nil] at this; omega)])
  obtain ⟨xb, xo, rfl, _, hx⟩ := HR.out.at (i := 0) hpos
  have hsm := bitsF_at HS.out hpos
  have H1 := Lib.hid (show jnK 44 (wordsF xs) 1 = hexS (codeN (xs.getD 0 0)) by rw [jnK_one _ _ (by rw [wordsF_len]; exact hpos), wordsF_at xs 0 hpos])
  obtain ⟨x, hxe⟩ : ∃ x, x = xs.getD 0 0 := ⟨_, rfl⟩
  rw [← hxe] at hx hsm H1
  clear hxe
  rw [Nat.add_zero] at hx
  have HD := Lib.hid (fun W => l01Hex_any x W hsm)
  clear hsm
  go_enter Tryz.func179, Tryz.ntmps179
  go_wp2_with (go_at_call 239; refine (HD.out _).mono ?_; rintro e w1 ⟨rfl, hb1⟩)
  have HB1 := Lib.hid hb1
  clear hb1 HD
  rw [← H1.out]
  go_loopw [3, 4] (fun sv iv wr => ∃ k : Nat, iv = .int .i64 k ∧ 1 ≤ k ∧ k ≤ xs.length ∧ sv = .string (jnK 44 (wordsF xs) k) ∧ Hid (Below w.heap.size w wr)) (fun _ iv _ => xs.length + 1 - (intOf iv).toNat)
  case atStart => exact ⟨1, rfl, Nat.le_refl _, hpos, rfl, HB1⟩
  case round =>
    clear HB1
    obtain ⟨k, rfl, hk1, hk, rfl, HB⟩ := hrel
    obtain ⟨wo, rfl⟩ : ∃ wo, wo = wr := ⟨wr, rfl⟩
    have hsz := HB.out.size
    by_cases hlt : k < xs.length
    · have hlt' : (k : Int) < xs.length := by omega
      obtain ⟨xb2, xo2, ee, _, hy⟩ := (HR.out.up HB.out (Nat.le_refl _)).at hlt
      simp only [Option.some.injEq, Addr.mk.injEq, and_true] at ee
      obtain ⟨rfl, rfl⟩ := ee
      have hsm := bitsF_at HS.out hlt
      have HE := Lib.hid (show jnK 44 (wordsF xs) (k + 1) = jnK 44 (wordsF xs) k ++ B1 44 ++ hexS (codeN (xs.getD k 0)) by rw [jnK_succ 44 (wordsF xs) k (by rw [wordsF_len]; exact hlt) hk1, wordsF_at xs k hlt])
      have hjs := jnF_size xs k
      obtain ⟨y, hye⟩ : ∃ y, y = xs.getD k 0 := ⟨_, rfl⟩
      rw [← hye] at hy hsm HE
      clear hye
      obtain ⟨S, hS⟩ : ∃ S, S = jnK 44 (wordsF xs) k := ⟨_, rfl⟩
      rw [← hS] at HE hjs ⊢
      have hds := hexS_size (codeN y)
      have HD := Lib.hid (fun W => l01Hex_any y W hsm)
      obtain ⟨D, hD⟩ : ∃ D, D = hexS (codeN y) := ⟨_, rfl⟩
      rw [← hD] at HD HE hds
      have n1 : ¬ 9223372036854775807 < 1 + D.size := by omega
      have n2 : ¬ 9223372036854775807 < S.size + (1 + D.size) := by omega
      clear hS hD hsm hds
      go_wp2_with (go_at_call 239; refine (HD.out _).mono ?_; rintro e w2 ⟨rfl, hb2⟩)
      go_roundw
      case rel => exact ⟨k + 1, by go_num, by omega, by omega, by rw [HE.out, ByteArray.append_assoc]; rfl, Lib.hid (HB.out.trans (hb2.mono hsz))⟩
      case measure => simp [intOf]; omega
    · obtain rfl : k = xs.length := by omega
      go_wp2_with fail
      go_ret
      exact ⟨by rw [HLT.out]; rfl, HB.out⟩
end Go.Proofs.YtgkbbpajkbkgnaaGreatDoor

namespace Go.Proofs.YtgkbbpajkbkgnaaGreatDoor
open Go.RowKit
theorem f32_one (xs : List Nat) : ∀ u ∈ xs.map F32, u.oneCell' = true := by
  intro u hu
  obtain ⟨x, _, rfl⟩ := List.mem_map.1 hu
  rfl
theorem app_flts {w : World} {ops : Array Oper} {rest : List Oper} {o : Oper} {a : Act} {Q : Exit → Act → World → Prop} (hgd : o.guard = none) (s x : Operand)
    (ho : o.op = .call { callee := .builtin .append, args := #[s, x], argTypes := #[24, 24] })
    (base : Nat) (v : Value) (n : Nat) (xs : List Nat) (hs : a.eval s = v) (hown : w.ownsRow base 100 1 v n (xs.map F32))
    (sv : Value) (news : List Nat) (hx : a.eval x = sv) (hsv : Slc w sv (news.map F32)) (m : Nat) (ys : List Nat) (hm : m = n + news.length) (hys : ys = xs ++ news) (hlen : m ≤ 17592186044416) (hbase : base ≤ w.heap.size)
    (h : ∀ a' cap' w', w'.ownsRow base 100 1 (.slice a' m cap') m (ys.map F32) → Below base w w' → w.grownBy w' v.ownBlock → (Value.slice a' m cap' = .slice none 0 0 ↔ v = .slice none 0 0 ∧ news = []) → wpList Tryz.prog ops Q rest (a.put o.dst (.slice a' m cap')) w') :
    wpList Tryz.prog ops Q (o :: rest) a w := by
  obtain ⟨i0, hi, hz0, hz1, hz2⟩ := info_parts Tryz.infoF32
  subst hm hys
  refine wpList_append_slc hgd s x 24 ho base 100 i0 (.float .f32 0) 4 Tryz.underlying24 hi hz0 hz1 hz2 rfl v n (xs.map F32) hs hown sv (news.map F32) hx hsv (f32_one news) (by simp [maxLen]; omega) (by simp; omega) hbase ?_
  intro v' w' h1 h2 h3
  have h1' : w'.ownsRow base 100 1 v' (n + news.length) ((xs ++ news).map F32) := by simpa using h1
  obtain ⟨a', cap', rfl⟩ := owns_shape h1'
  exact h a' cap' w' h1' (below_grown hown hbase h2) h2 (by simpa using h3)
theorem slcF_one (w : World) (z : Nat) : Slc (w.alloc (.cells #[.float .f32 z] 100)) (.slice (some ⟨w.heap.size, 0, none⟩) 1 1) ([z].map F32) := by
  have h := World.ownsRow_lit (base := w.heap.size) (e := 100) (size := 1) w #[.float .f32 z] 1 (Nat.le_refl _) (by simp [maxLen]) rfl
  exact slc_of_owns h
theorem ownsF_empty (w : World) : (w.alloc (.cells #[] 100)).ownsRow w.heap.size 100 1 (.slice (some ⟨w.heap.size, 0, none⟩) 0 0) 0 (([] : List Nat).map F32) :=
  World.ownsRow_lit (base := w.heap.size) (e := 100) (size := 1) w #[] 0 (Nat.le_refl _) (by simp [maxLen]) rfl
set_option maxHeartbeats 400000 in
theorem copyF_any (v : Value) (xs : List Nat) (w : World) (h : RdF w v xs) (hb : xs.length ≤ 17592186044416) :
    Calls Tryz.prog 131 #[v] w fun e w' => ∃ v', e = .returned v' ∧ OwnF w.heap.size w'.heap.size w' v' xs ∧ Below w.heap.size w w' := by
  obtain ⟨a, cap, rfl⟩ := h.shape
  have hsl := (show Slc w _ (xs.map F32) from h).below (Below.alloc (Below.refl w.heap.size w) (Nat.le_refl _) (.cells #[] 100)) (Nat.le_refl _)
  have HS := Lib.hid h
  clear h
  go_enter Tryz.func131, Tryz.ntmps131
  go_wp2_with (at_builtin; refine app_flts rfl _ _ rfl w.heap.size (.slice (some ⟨w.heap.size, 0, none⟩) 0 0) 0 [] rfl (ownsF_empty w) _ xs rfl hsl xs.length xs (by simp) (by simp) hb (by simp) ?_; intro a2 cap' w1 hown hbl hg _)
  go_ret
  exact ⟨_, rfl, OwnF.mk hown, ((Below.refl _ _).alloc (Nat.le_refl _) _).trans hbl⟩
end Go.Proofs.YtgkbbpajkbkgnaaGreatDoor

namespace Go.Proofs.YtgkbbpajkbkgnaaGreatDoor
open Go.RowKit
theorem boundR {v : Value} {r : RowsD} {w : World} (_h : RdR w v r) (hv : ValR r) : r.nums.length ≤ 64 ∧ r.bnds.length ≤ 8 ∧ r.gains.length ≤ 8 := by
  have h1 := hv.nl
  have h2 := mulR hv.v1 hv.v8 hv.b8
  have h3 := hv.gl
  have h4 := hv.v8
  have h5 := hv.b8
  omega
theorem ownRows_fin {w W Wl : World} {n0 : Int} {x1 x2 x3 : List Nat} {yA yB yC : Value} {lA hA lB hB lC hC : Nat} (hb : Below w.heap.size w W) (hbn : Below W.heap.size W Wl) (hsz : w.heap.size + 1 < W.heap.size)
    (oA : OwnF lA hA Wl yA x1) (oB : OwnF lB hB Wl yB x2) (oC : OwnF lC hC Wl yC x3) (gA : W.heap.size ≤ lA ∧ hA ≤ Wl.heap.size) (gB : W.heap.size ≤ lB ∧ hB ≤ Wl.heap.size) (gC : W.heap.size ≤ lC ∧ hC ≤ Wl.heap.size)
    (dAB : hA ≤ lB ∨ hB ≤ lA) (dAC : hA ≤ lC ∨ hC ≤ lA) (dBC : hB ≤ lC ∨ hC ≤ lB) :
    ∀ Wf, Kept (· = w.heap.size + 1) Wl Wf → Wf.heap.size = Wl.heap.size → OwnR w.heap.size Wf.heap.size Wf (.agg #[.int .i64 n0, yA, yB, yC]) ⟨n0, x1, x2, x3⟩ ∧ Below w.heap.size w Wf := by
  intro Wf hk hz
  have z1 := hb.size
  have z2 := hbn.size
  have k1 := (oA.kept hk (by intro b h1 h2 h3; omega)).wide (lo' := w.heap.size) (hi' := Wf.heap.size) (by omega) (by omega)
  have k2 := (oB.kept hk (by intro b h1 h2 h3; omega)).wide (lo' := w.heap.size) (hi' := Wf.heap.size) (by omega) (by omega)
  have k3 := (oC.kept hk (by intro b h1 h2 h3; omega)).wide (lo' := w.heap.size) (hi' := Wf.heap.size) (by omega) (by omega)
  have hbl : Below w.heap.size w Wl := hb.trans (hbn.mono hb.size)
  refine ⟨⟨_, _, _, rfl, k1, k2, k3, ?_, ?_, ?_⟩, hbl.trans (hk.toBelow hbl.size (by intro k h1 h2; omega))⟩
  · intro g q1 q2; have := oA.blk q1; have := oB.blk q2; omega
  · intro g q1 q2; have := oA.blk q1; have := oC.blk q2; omega
  · intro g q1 q2; have := oB.blk q1; have := oC.blk q2; omega
set_option maxHeartbeats 4000000 in
set_option maxRecDepth 4000 in
theorem ownRows_any (v : Value) (r : RowsD) (w : World) (h : RdR w v r) (hb : bulkR r ≤ 1048576) :
    Calls Tryz.prog 74 #[v] w fun e w' => ∃ v', e = .returned v' ∧ OwnR w.heap.size w'.heap.size w' v' r ∧ Below w.heap.size w w' := by
  obtain ⟨a1, c1, a2, c2, a3, c3, rfl⟩ := h.shape
  obtain ⟨p1, p2, p3⟩ := h.parts
  obtain ⟨n0, x1, x2, x3⟩ := r
  simp only [bulkR] at p1 p2 p3 hb ⊢
  have P1 := Lib.hid p1
  have P2 := Lib.hid p2
  have P3 := Lib.hid p3
  have L1 : Hid (x1.length ≤ 17592186044416) := by show x1.length ≤ _; omega
  have L2 : Hid (x2.length ≤ 17592186044416) := by show x2.length ≤ _; omega
  have L3 : Hid (x3.length ≤ 17592186044416) := by show x3.length ≤ _; omega
  clear h p1 p2 p3 hb
  go_enter Tryz.func74, Tryz.ntmps74
  go_wp2_with fail
  refine wp_at fun W hW => ?_
  have HB := Lib.hid (show Below w.heap.size w W by subst hW; (repeat' first | exact Below.refl _ _ | assumption | refine Below.alloc ?_ ?_ _ | refine Below.setCell ?_ ?_ _ | refine Below.drew ?_ | (simp; done) | (simp; omega)))
  have HK := Lib.hid (show Blk W w.heap.size 26 #[.int .i64 n0, .slice a1 x1.length c1, .slice a2 x2.length c2, .slice a3 x3.length c3] by subst hW; exact (Blk.new _ _ _).alloc _)
  have HL := Lib.hid (show Blk W (w.heap.size + 1) 26 #[.int .i64 0, .slice none 0 0, .slice none 0 0, .slice none 0 0] by subst hW; simpa using Blk.new (w.alloc (.cells #[.int .i64 n0, .slice a1 x1.length c1, .slice a2 x2.length c2, .slice a3 x3.length c3] 26)) 26 #[.int .i64 0, .slice none 0 0, .slice none 0 0, .slice none 0 0])
  clear hW
  have hl1 := HL.out.lt
  have Q1 := Lib.hid (P1.out.up HB.out (Nat.le_refl _))
  have Q2 := Lib.hid (P2.out.up HB.out (Nat.le_refl _))
  have Q3 := Lib.hid (P3.out.up HB.out (Nat.le_refl _))
  have HKEEP := Lib.hid (show ∀ X, Below W.heap.size W X → X.cell? ⟨w.heap.size, 0, none⟩ = some (.int .i64 n0) ∧ X.cell? ⟨w.heap.size, 1, none⟩ = some (.slice a1 x1.length c1) ∧ X.cell? ⟨w.heap.size, 2, none⟩ = some (.slice a2 x2.length c2) ∧ X.cell? ⟨w.heap.size, 3, none⟩ = some (.slice a3 x3.length c3) from fun X hb => by
    have k := HK.out.below hb HK.out.lt
    exact ⟨k.cell 0 rfl, k.cell 1 rfl, k.cell 2 rfl, k.cell 3 rfl⟩)
  go_region_held3 (fun X => X.cell? ⟨w.heap.size, 0, none⟩ = some (.int .i64 n0) ∧ X.cell? ⟨w.heap.size, 1, none⟩ = some (.slice a1 x1.length c1) ∧ X.cell? ⟨w.heap.size, 2, none⟩ = some (.slice a2 x2.length c2) ∧ X.cell? ⟨w.heap.size, 3, none⟩ = some (.slice a3 x3.length c3))
    (first | exact HKEEP.out _ hbn | (refine HKEEP.out _ ?_; (repeat' first | exact Below.refl _ _ | assumption | refine Below.alloc ?_ ?_ _ | refine Below.setCell ?_ ?_ _ | refine Below.drew ?_ | (simp; done) | (simp; omega)); done) | go_keep)
    (first
      | (go_at_call_of 131 a1; refine (copyF_any _ x1 _ (Q1.out.up (B := W.heap.size) (by first | exact hbn | (repeat' first | exact Below.refl _ _ | assumption | refine Below.alloc ?_ ?_ _ | refine Below.setCell ?_ ?_ _ | refine Below.drew ?_ | (simp; done) | (simp; omega))) (Nat.le_refl _)) L1.out).mono ?_; rintro e wA ⟨yA, rfl, oA, hA⟩; obtain ⟨bA, eA, rfl⟩ := oA.rd.shape; have zzA := (show Below W.heap.size W _ from (by first | exact hbn | (repeat' first | exact Below.refl _ _ | assumption | refine Below.alloc ?_ ?_ _ | refine Below.setCell ?_ ?_ _ | refine Below.drew ?_ | (simp; done) | (simp; omega)))).trans (hA.mono (show W.heap.size ≤ _ from (by first | exact hbn.size | (simp; done)))); have hbn := zzA; clear zzA; have zA := hA.size; have hl := HL.out.below hbn HL.out.lt; have t0 : wA.cell? ⟨w.heap.size + 1, 0, none⟩ = some (.int .i64 0) := hl.cell 0 rfl; have t1 : wA.cell? ⟨w.heap.size + 1, 1, none⟩ = some (.slice none 0 0) := hl.cell 1 rfl; have t2 : wA.cell? ⟨w.heap.size + 1, 2, none⟩ = some (.slice none 0 0) := hl.cell 2 rfl; have t3 : wA.cell? ⟨w.heap.size + 1, 3, none⟩ = some (.slice none 0 0) := hl.cell 3 rfl; have u0 := hl.free 0; have u1 := hl.free 1; have u2 := hl.free 2; have u3 := hl.free 3; clear hl)
      | (go_at_call_of 131 a2; refine (copyF_any _ x2 _ (Q2.out.up (B := W.heap.size) (by first | exact hbn | (repeat' first | exact Below.refl _ _ | assumption | refine Below.alloc ?_ ?_ _ | refine Below.setCell ?_ ?_ _ | refine Below.drew ?_ | (simp; done) | (simp; omega))) (Nat.le_refl _)) L2.out).mono ?_; rintro e wB ⟨yB, rfl, oB, hB⟩; obtain ⟨bB, eB, rfl⟩ := oB.rd.shape; have zzB := (show Below W.heap.size W _ from (by first | exact hbn | (repeat' first | exact Below.refl _ _ | assumption | refine Below.alloc ?_ ?_ _ | refine Below.setCell ?_ ?_ _ | refine Below.drew ?_ | (simp; done) | (simp; omega)))).trans (hB.mono (show W.heap.size ≤ _ from (by first | exact hbn.size | (simp; done)))); have hbn := zzB; clear zzB; have zB := hB.size; have hl := HL.out.below hbn HL.out.lt; have t0 : wB.cell? ⟨w.heap.size + 1, 0, none⟩ = some (.int .i64 0) := hl.cell 0 rfl; have t1 : wB.cell? ⟨w.heap.size + 1, 1, none⟩ = some (.slice none 0 0) := hl.cell 1 rfl; have t2 : wB.cell? ⟨w.heap.size + 1, 2, none⟩ = some (.slice none 0 0) := hl.cell 2 rfl; have t3 : wB.cell? ⟨w.heap.size + 1, 3, none⟩ = some (.slice none 0 0) := hl.cell 3 rfl; have u0 := hl.free 0; have u1 := hl.free 1; have u2 := hl.free 2; have u3 := hl.free 3; clear hl)
      | (go_at_call_of 131 a3; refine (copyF_any _ x3 _ (Q3.out.up (B := W.heap.size) (by first | exact hbn | (repeat' first | exact Below.refl _ _ | assumption | refine Below.alloc ?_ ?_ _ | refine Below.setCell ?_ ?_ _ | refine Below.drew ?_ | (simp; done) | (simp; omega))) (Nat.le_refl _)) L3.out).mono ?_; rintro e wC ⟨yC, rfl, oC, hC⟩; obtain ⟨bC, eC, rfl⟩ := oC.rd.shape; have zzC := (show Below W.heap.size W _ from (by first | exact hbn | (repeat' first | exact Below.refl _ _ | assumption | refine Below.alloc ?_ ?_ _ | refine Below.setCell ?_ ?_ _ | refine Below.drew ?_ | (simp; done) | (simp; omega)))).trans (hC.mono (show W.heap.size ≤ _ from (by first | exact hbn.size | (simp; done)))); have hbn := zzC; clear zzC; have zC := hC.size; have hl := HL.out.below hbn HL.out.lt; have t0 : wC.cell? ⟨w.heap.size + 1, 0, none⟩ = some (.int .i64 0) := hl.cell 0 rfl; have t1 : wC.cell? ⟨w.heap.size + 1, 1, none⟩ = some (.slice none 0 0) := hl.cell 1 rfl; have t2 : wC.cell? ⟨w.heap.size + 1, 2, none⟩ = some (.slice none 0 0) := hl.cell 2 rfl; have t3 : wC.cell? ⟨w.heap.size + 1, 3, none⟩ = some (.slice none 0 0) := hl.cell 3 rfl; have u0 := hl.free 0; have u1 := hl.free 1; have u2 := hl.free 2; have u3 := hl.free 3; clear hl))
  all_goals
    have zD : W.drew.heap.size = W.heap.size := rfl
    go_wp2_with fail
    refine bodyPost_ret (v := .agg #[.int .i64 n0, .slice bA x1.length eA, .slice bB x2.length eB, .slice bC x3.length eC]) (by simp [results, Tryz.results74, go_sem, *]) rfl ⟨_, rfl, ?_⟩
    refine ownRows_fin HB.out hbn hl1
      (by first | exact oA | exact oA.up hB (Nat.le_refl _) | exact oA.up hC (Nat.le_refl _) | exact (oA.up hB (Nat.le_refl _)).up hC (Nat.le_refl _) | exact (oA.up hC (Nat.le_refl _)).up hB (Nat.le_refl _))
      (by first | exact oB | exact oB.up hA (Nat.le_refl _) | exact oB.up hC (Nat.le_refl _) | exact (oB.up hA (Nat.le_refl _)).up hC (Nat.le_refl _) | exact (oB.up hC (Nat.le_refl _)).up hA (Nat.le_refl _))
      (by first | exact oC | exact oC.up hA (Nat.le_refl _) | exact oC.up hB (Nat.le_refl _) | exact (oC.up hA (Nat.le_refl _)).up hB (Nat.le_refl _) | exact (oC.up hB (Nat.le_refl _)).up hA (Nat.le_refl _))
      (by omega) (by omega) (by omega) (by omega) (by omega) (by omega) _ ?_ (by simp)
    repeat' first | exact Kept.refl _ _ | refine Kept.setCell ?_ (.inr (by simp)) _
def zeroR : RowsD := ⟨0, [], [], []⟩
set_option maxHeartbeats 1000000 in
theorem checked_any (v : Value) (r : RowsD) (w : World) (h : RdR w v r) :
    Calls Tryz.prog 77 #[v] w fun e w' => e = .returned (.tuple #[if validR r = true then v else .agg #[.int .i64 0, .slice none 0 0, .slice none 0 0, .slice none 0 0], .bool (validR r)]) ∧ Below w.heap.size w w' := by
  obtain ⟨a1, c1, a2, c2, a3, c3, rfl⟩ := h.shape
  obtain ⟨n0, x1, x2, x3⟩ := r
  simp only
  have HP := Lib.hid h
  clear h
  obtain ⟨V, hV⟩ : ∃ V : Value, V = if validR ⟨n0, x1, x2, x3⟩ = true then .agg #[.int .i64 n0, .slice a1 x1.length c1, .slice a2 x2.length c2, .slice a3 x3.length c3] else .agg #[.int .i64 0, .slice none 0 0, .slice none 0 0, .slice none 0 0] := ⟨_, rfl⟩
  rw [← hV]
  have HVV := Lib.hid hV
  clear hV
  go_enter Tryz.func77, Tryz.ntmps77
  go_wp2_with fail
  refine Calls.at fun W hW => ?_
  have HB := Lib.hid (show Below w.heap.size w W by subst hW; (repeat' first | exact Below.refl _ _ | assumption | refine Below.alloc ?_ ?_ _ | refine Below.setCell ?_ ?_ _ | refine Below.drew ?_ | (simp; done) | (simp; omega)))
  have HK := Lib.hid (show Blk W w.heap.size 26 #[.int .i64 n0, .slice a1 x1.length c1, .slice a2 x2.length c2, .slice a3 x3.length c3] by subst hW; exact (Blk.new _ _ _).alloc _)
  have HL := Lib.hid (show Blk W (w.heap.size + 1) 26 #[.int .i64 0, .slice none 0 0, .slice none 0 0, .slice none 0 0] by subst hW; simpa using Blk.new (w.alloc (.cells #[.int .i64 n0, .slice a1 x1.length c1, .slice a2 x2.length c2, .slice a3 x3.length c3] 26)) 26 #[.int .i64 0, .slice none 0 0, .slice none 0 0, .slice none 0 0])
  clear hW
  refine (ValidRows_any _ ⟨n0, x1, x2, x3⟩ W (HP.out.up HB.out (Nat.le_refl _))).mono ?_
  rintro e w1 ⟨rfl, hb1⟩
  have HB1 := Lib.hid (HB.out.trans (hb1.mono HB.out.size))
  have HK1 := Lib.hid (HK.out.below hb1 HK.out.lt)
  have HL1 := Lib.hid (HL.out.below hb1 HL.out.lt)
  clear hb1
  have d0 : w1.cell? ⟨w.heap.size, 0, none⟩ = some (.int .i64 n0) := HK1.out.cell 0 rfl
  have d1 : w1.cell? ⟨w.heap.size, 1, none⟩ = some (.slice a1 x1.length c1) := HK1.out.cell 1 rfl
  have d2 : w1.cell? ⟨w.heap.size, 2, none⟩ = some (.slice a2 x2.length c2) := HK1.out.cell 2 rfl
  have d3 : w1.cell? ⟨w.heap.size, 3, none⟩ = some (.slice a3 x3.length c3) := HK1.out.cell 3 rfl
  have e0 : w1.cell? ⟨w.heap.size + 1, 0, none⟩ = some (.int .i64 0) := HL1.out.cell 0 rfl
  have e1 : w1.cell? ⟨w.heap.size + 1, 1, none⟩ = some (.slice none 0 0) := HL1.out.cell 1 rfl
  have e2 : w1.cell? ⟨w.heap.size + 1, 2, none⟩ = some (.slice none 0 0) := HL1.out.cell 2 rfl
  have e3 : w1.cell? ⟨w.heap.size + 1, 3, none⟩ = some (.slice none 0 0) := HL1.out.cell 3 rfl
  have f0 := HL1.out.free 0
  have f1 := HL1.out.free 1
  have f2 := HL1.out.free 2
  have f3 := HL1.out.free 3
  have fin : ∀ Wf, Kept (· = w.heap.size + 1) w1 Wf → Below w.heap.size w Wf := fun Wf hk => HB1.out.trans (hk.toBelow HB1.out.size (by intro k h1 h2; omega))
  have FIN := Lib.hid fin
  clear fin
  by_cases hv : validR ⟨n0, x1, x2, x3⟩ = true
  · have HV := Lib.hid hv
    rw [hv]
    clear hv
    go_wp2_with fail
    refine bodyPost_ret (v := .tuple #[.agg #[.int .i64 n0, .slice a1 x1.length c1, .slice a2 x2.length c2, .slice a3 x3.length c3], .bool true]) (by simp [results, Tryz.results77, go_sem, *]) rfl ⟨by rw [HVV.out, HV.out]; rfl, FIN.out _ ?_⟩
    repeat' first | exact Kept.refl _ _ | refine Kept.setCell ?_ (.inr (by simp)) _
  · rw [Bool.not_eq_true] at hv
    have HV := Lib.hid hv
    rw [hv]
    clear hv
    go_wp2_with fail
    refine bodyPost_ret (v := .tuple #[.agg #[.int .i64 0, .slice none 0 0, .slice none 0 0, .slice none 0 0], .bool false]) (by simp [results, Tryz.results77, go_sem, *]) rfl ⟨by rw [HVV.out, HV.out]; rfl, FIN.out _ ?_⟩
    repeat' first | exact Kept.refl _ _ | refine Kept.setCell ?_ (.inr (by simp)) _
end Go.Proofs.YtgkbbpajkbkgnaaGreatDoor

namespace Go.Proofs.YtgkbbpajkbkgnaaGreatDoor
open Go.RowKit
theorem Blk.newB (w : World) (t : TypeId) (cs : Array Value) (b : Nat) (hb : b = w.heap.size) : Blk (w.alloc (.cells cs t)) b t cs := by subst hb; exact Blk.new w t cs
theorem blk_grown {w w' : World} {b : Nat} {t : TypeId} {cs : Array Value} {row : Option Nat} (h : Blk w b t cs) (hg : w.grownBy w' row) (hne : row ≠ some b) : Blk w' b t cs :=
  (hg.block b h.lt fun e => hne e.symm).trans h
end Go.Proofs.YtgkbbpajkbkgnaaGreatDoor

namespace Go.Proofs.YtgkbbpajkbkgnaaGreatDoor
open Go.RowKit
def zeroCells : Array Value := #[.int .i64 0, .slice none 0 0, .slice none 0 0, .slice none 0 0]
end Go.Proofs.YtgkbbpajkbkgnaaGreatDoor

namespace Go.Proofs.YtgkbbpajkbkgnaaGreatDoor
open Go.RowKit
theorem app_fltsL {w : World} {ops : Array Oper} {rest : List Oper} {o : Oper} {a : Act} {Q : Exit → Act → World → Prop} (hgd : o.guard = none) (s x : Operand)
    (ho : o.op = .call { callee := .builtin .append, args := #[s, x], argTypes := #[24, 24] })
    (base : Nat) (v : Value) (n : Nat) (xs : List Nat) (hs : a.eval s = v) (hown : w.ownsRow base 100 1 v n (xs.map F32))
    (sv : Value) (news : List Nat) (hx : a.eval x = sv) (hsv : Slc w sv (news.map F32)) (m : Nat) (ys : List Nat) (hm : m = n + news.length) (hys : ys = xs ++ news) (hlen : m ≤ 17592186044416) (hbase : base ≤ w.heap.size)
    (h : ∀ a' cap' w', w'.ownsRow base 100 1 (.slice a' m cap') m (ys.map F32) → Below base w w' → w.grownBy w' v.ownBlock → ((Value.slice a' m cap').ownBlock = v.ownBlock ∨ (Value.slice a' m cap').ownBlock = some w.heap.size) → wpList Tryz.prog ops Q rest (a.put o.dst (.slice a' m cap')) w') :
    wpList Tryz.prog ops Q (o :: rest) a w := by
  obtain ⟨i0, hi, hz0, hz1, hz2⟩ := info_parts Tryz.infoF32
  subst hm hys
  have hk : ∀ v' w', w'.ownsRow base 100 1 v' (n + news.length) (xs.map F32 ++ news.map F32) → w.grownBy w' v.ownBlock → (v'.ownBlock = v.ownBlock ∨ v'.ownBlock = some w.heap.size) → wpList Tryz.prog ops Q rest (a.put o.dst v') w' := by
    intro v' w' h1 h2 h3
    have h1' : w'.ownsRow base 100 1 v' (n + news.length) ((xs ++ news).map F32) := by simpa using h1
    obtain ⟨a', cap', rfl⟩ := owns_shape h1'
    exact h a' cap' w' h1' (below_grown hown hbase h2) h2 h3
  rcases hsv with ⟨rfl, hnil⟩ | ⟨ad, cap, rfl, hcl, hcm, hc⟩
  · have hn : news = [] := by simpa using hnil
    subst hn
    refine wpList_append_own_none hgd s x 24 ho base 100 i0 1 Tryz.underlying24 hi v n (xs.map F32) hs hown hx ?_
    exact hk v w (by simpa using hown) (World.grownBy.refl _ _) (.inl rfl)
  · refine wpList_append_own_at w hgd s x 24 ho base 100 i0 (.float .f32 0) 1 4 Tryz.underlying24 hi hz0 hz1 hz2 rfl (by decide) v n (xs.map F32) hs hown ad (news.map F32).length cap (news.map F32) hx (by simp) hc (f32_one news) (by simp [maxLen]; omega) (by simp; omega) hbase ?_
    intro v' w' h2 h3 _ h5
    exact hk v' w' (by simpa using h2) h3 h5
theorem ownF_grown {lo hi : Nat} {w w' : World} {v u : Value} {xs : List Nat} (h : OwnF lo hi w v xs) (hg : w.grownBy w' u.ownBlock) (hn : ∀ g, v.ownBlock = some g → u.ownBlock ≠ some g) : OwnF lo hi w' v xs := by
  refine ⟨owns_kept (S := fun k => u.ownBlock = some k) h.1 ⟨hg.os, hg.tape, hg.output, hg.size, fun k hk hs => hg.block k hk fun e => hs e.symm⟩ hn, h.2⟩
theorem ownR_app1 {lo hi : Nat} {w w' : World} {n0 : Int} {x1 x2 x3 xs : List Nat} {y1 y2 y3 y : Value} {m : Nat} (h : OwnR lo hi w (.agg #[.int .i64 n0, y1, y2, y3]) ⟨n0, x1, x2, x3⟩) (hh : hi ≤ w.heap.size) (hg : w.grownBy w' y1.ownBlock)
    (ho : w'.ownsRow lo 100 1 y m (xs.map F32)) (hl : y.ownBlock = y1.ownBlock ∨ y.ownBlock = some w.heap.size) : OwnR lo w'.heap.size w' (.agg #[.int .i64 n0, y, y2, y3]) ⟨n0, xs, x2, x3⟩ := by
  obtain ⟨va, vb, vc, e, o1, o2, o3, d1, d2, d3⟩ := h
  simp only [Value.agg.injEq, Array.mk.injEq, List.cons.injEq, and_true, true_and] at e
  obtain ⟨rfl, rfl, rfl⟩ := e
  have hz := hg.size
  have p2 : OwnF lo hi w' y2 x2 := ownF_grown o2 hg (fun g hg h2 => d1 g h2 hg)
  have p3 : OwnF lo hi w' y3 x3 := ownF_grown o3 hg (fun g hg h2 => d2 g h2 hg)
  refine ⟨_, _, _, rfl, OwnF.mk ho, p2.wide (Nat.le_refl _) (by omega), p3.wide (Nat.le_refl _) (by omega), ?_, ?_, d3⟩
  · intro g h1 h2
    rcases hl with hl | hl
    · exact d1 g (hl ▸ h1) h2
    · rw [hl] at h1; simp only [Option.some.injEq] at h1; have := (p2.blk h2).2; omega
  · intro g h1 h2
    rcases hl with hl | hl
    · exact d2 g (hl ▸ h1) h2
    · rw [hl] at h1; simp only [Option.some.injEq] at h1; have := (p3.blk h2).2; omega
theorem ownR_app2 {lo hi : Nat} {w w' : World} {n0 : Int} {x1 x2 x3 xs : List Nat} {y1 y2 y3 y : Value} {m : Nat} (h : OwnR lo hi w (.agg #[.int .i64 n0, y1, y2, y3]) ⟨n0, x1, x2, x3⟩) (hh : hi ≤ w.heap.size) (hg : w.grownBy w' y2.ownBlock)
    (ho : w'.ownsRow lo 100 1 y m (xs.map F32)) (hl : y.ownBlock = y2.ownBlock ∨ y.ownBlock = some w.heap.size) : OwnR lo w'.heap.size w' (.agg #[.int .i64 n0, y1, y, y3]) ⟨n0, x1, xs, x3⟩ := by
  obtain ⟨va, vb, vc, e, o1, o2, o3, d1, d2, d3⟩ := h
  simp only [Value.agg.injEq, Array.mk.injEq, List.cons.injEq, and_true, true_and] at e
  obtain ⟨rfl, rfl, rfl⟩ := e
  have hz := hg.size
  have p1 : OwnF lo hi w' y1 x1 := ownF_grown o1 hg d1
  have p3 : OwnF lo hi w' y3 x3 := ownF_grown o3 hg (fun g hg h2 => d3 g h2 hg)
  refine ⟨_, _, _, rfl, p1.wide (Nat.le_refl _) (by omega), OwnF.mk ho, p3.wide (Nat.le_refl _) (by omega), ?_, d2, ?_⟩
  · intro g h1 h2
    rcases hl with hl | hl
    · exact d1 g h1 (hl ▸ h2)
    · rw [hl] at h2; simp only [Option.some.injEq] at h2; have := (p1.blk h1).2; omega
  · intro g h1 h2
    rcases hl with hl | hl
    · exact d3 g (hl ▸ h1) h2
    · rw [hl] at h1; simp only [Option.some.injEq] at h1; have := (p3.blk h2).2; omega
theorem ownR_set {lo hi : Nat} {w : World} {v : Value} {r : RowsD} {g : Nat} {cs : Array Value} (h : OwnR lo hi w v r) (hb : Blk w g 26 cs) (j : Nat) (u : Value) : OwnR lo hi (w.setCell ⟨g, j, none⟩ u) v r := by
  obtain ⟨va, vb, vc, e, o1, o2, o3, d⟩ := h
  have f : ∀ {y : Value} {xs : List Nat}, OwnF lo hi w y xs → OwnF lo hi (w.setCell ⟨g, j, none⟩ u) y xs := fun o => ⟨ownsRow_setCell_other o.1 (hb.not_owned o.1 (by decide)) _, o.2⟩
  exact ⟨va, vb, vc, e, f o1, f o2, f o3, d⟩
theorem OwnR.parts {lo hi : Nat} {w : World} {x0 x y z : Value} {r : RowsD} (h : OwnR lo hi w (.agg #[x0, x, y, z]) r) : OwnF lo hi w x r.nums ∧ OwnF lo hi w y r.bnds ∧ OwnF lo hi w z r.gains := by
  obtain ⟨va, vb, vc, e, h1, h2, h3, _⟩ := h
  simp only [Value.agg.injEq, Array.mk.injEq, List.cons.injEq, and_true] at e
  obtain ⟨_, rfl, rfl, rfl⟩ := e
  exact ⟨h1, h2, h3⟩
theorem ownR_zero (lo hi : Nat) (w : World) : OwnR lo hi w (.agg #[.int .i64 0, .slice none 0 0, .slice none 0 0, .slice none 0 0]) zeroR := by
  have o : OwnF lo hi w (.slice none 0 0) [] := ⟨World.ownsRow_nil _ _ _ _, by intro g hg; cases hg⟩
  exact ⟨_, _, _, rfl, o, o, o, (by intro g hg; cases hg), (by intro g hg; cases hg), (by intro g hg; cases hg)⟩
end Go.Proofs.YtgkbbpajkbkgnaaGreatDoor

namespace Go.Proofs.YtgkbbpajkbkgnaaGreatDoor
open Go.RowKit
def wordsR (r : RowsD) : List ByteArray := [decS r.vars.toNat, numT r.nums, numT r.bnds, numT r.gains]
def rowsS (r : RowsD) : ByteArray := joinBy 59 (wordsR r)
noncomputable def rowT (r : RowsD) : ByteArray := if validR r = true then rowsS r else E0
theorem rowsS_eq (r : RowsD) : rowsS r = decS r.vars.toNat ++ B1 59 ++ numT r.nums ++ B1 59 ++ numT r.bnds ++ B1 59 ++ numT r.gains := by
  unfold rowsS wordsR
  rw [show [decS r.vars.toNat, numT r.nums, numT r.bnds, numT r.gains] = ([decS r.vars.toNat, numT r.nums, numT r.bnds]) ++ [numT r.gains] from rfl, joinBy_snoc _ _ _ (by simp)]
  rw [show [decS r.vars.toNat, numT r.nums, numT r.bnds] = ([decS r.vars.toNat, numT r.nums]) ++ [numT r.bnds] from rfl, joinBy_snoc _ _ _ (by simp)]
  rw [show [decS r.vars.toNat, numT r.nums] = ([decS r.vars.toNat]) ++ [numT r.nums] from rfl, joinBy_snoc _ _ _ (by simp), joinBy_one]
theorem valR_few {r : RowsD} (h : validR r = true) : r.nums.length ≤ 64 ∧ r.bnds.length ≤ 64 ∧ r.gains.length ≤ 64 ∧ 0 ≤ r.vars ∧ r.vars ≤ 8 := by
  have hv := validR_iff.1 h
  have h1 := hv.nl
  have h2 := hv.v8
  have h3 := hv.b8
  have h4 := hv.v1
  have h5 := hv.gl
  have : r.vars * r.bnds.length ≤ 8 * 8 := Int.mul_le_mul h2 (by omega) (by omega) (by omega)
  omega
set_option maxHeartbeats 4000000 in
set_option maxRecDepth 4000 in
theorem l08Rows_any (bb : Nat) (r : RowsD) (a1 a2 a3 : Option Addr) (c1 c2 c3 : Nat) (w : World) (hk : PreB w bb #[.int .i64 r.vars, .slice a1 r.nums.length c1, .slice a2 r.bnds.length c2, .slice a3 r.gains.length c3])
    (p1 : RdF w (.slice a1 r.nums.length c1) r.nums) (p2 : RdF w (.slice a2 r.bnds.length c2) r.bnds) (p3 : RdF w (.slice a3 r.gains.length c3) r.gains) (hv : validR r = true) (b1 : BitsF r.nums) (b2 : BitsF r.bnds) (b3 : BitsF r.gains) :
    Calls Tryz.prog 137 #[.pointer (some ⟨bb, 0, none⟩)] w fun e w' => e = .returned (.string (rowsS r)) ∧ Below w.heap.size w w' := by
  have hf := valR_few hv
  have d0 := hk.cell 0 rfl
  have d1 := hk.cell 1 rfl
  have d2 := hk.cell 2 rfl
  have d3 := hk.cell 3 rfl
  have HE := Lib.hid (rowsS_eq r)
  have P1 := Lib.hid p1
  have P2 := Lib.hid p2
  have P3 := Lib.hid p3
  have B1 := Lib.hid b1
  have B2 := Lib.hid b2
  have B3 := Lib.hid b3
  obtain ⟨n, hn⟩ : ∃ n : Nat, r.vars = (n : Int) := ⟨r.vars.toNat, by omega⟩
  have hn8 : n ≤ 8 := by omega
  have HD := Lib.hid (fun W => l01Dec_any n (by omega) W)
  have s0 := decS_size (n := n) (by omega)
  have s1 := numT_size r.nums (by omega)
  have s2 := numT_size r.bnds (by omega)
  have s3 := numT_size r.gains (by omega)
  have HL1 := Lib.hid (show r.nums.length ≤ 1000000 by omega)
  have HL2 := Lib.hid (show r.bnds.length ≤ 1000000 by omega)
  have HL3 := Lib.hid (show r.gains.length ≤ 1000000 by omega)
  rw [hn] at d0 HE
  have HE2 := Lib.hid (show rowsS r = decS n ++ Go.Proofs.YtgkbbpajkbkgnaaGreatDoor.B1 59 ++ numT r.nums ++ Go.Proofs.YtgkbbpajkbkgnaaGreatDoor.B1 59 ++ numT r.bnds ++ Go.Proofs.YtgkbbpajkbkgnaaGreatDoor.B1 59 ++ numT r.gains from HE.out)
  have H1 := Lib.hid (fun W (h : Below w.heap.size w W) => l01NText_any _ r.nums W (P1.out.up h (Nat.le_refl _)) B1.out HL1.out)
  have H2 := Lib.hid (fun W (h : Below w.heap.size w W) => l01NText_any _ r.bnds W (P2.out.up h (Nat.le_refl _)) B2.out HL2.out)
  have H3 := Lib.hid (fun W (h : Below w.heap.size w W) => l01NText_any _ r.gains W (P3.out.up h (Nat.le_refl _)) B3.out HL3.out)
  obtain ⟨D, hD⟩ : ∃ D, D = decS n := ⟨_, rfl⟩
  obtain ⟨N1, hN1⟩ : ∃ N1, N1 = numT r.nums := ⟨_, rfl⟩
  obtain ⟨N2, hN2⟩ : ∃ N2, N2 = numT r.bnds := ⟨_, rfl⟩
  obtain ⟨N3, hN3⟩ : ∃ N3, N3 = numT r.gains := ⟨_, rfl⟩
  rw [← hD] at HD s0 HE2
  rw [← hN1] at H1 s1 HE2
  rw [← hN2] at H2 s2 HE2
  rw [← hN3] at H3 s3 HE2
  obtain ⟨R, hR⟩ : ∃ R, R = rowsS r := ⟨_, rfl⟩
  rw [← hR] at HE2 ⊢
  have n1 : ¬ 9223372036854775807 < D.size + 1 := by omega
  have n2 : ¬ 9223372036854775807 < D.size + 1 + N1.size := by omega
  have n3 : ¬ 9223372036854775807 < D.size + 1 + N1.size + 1 := by omega
  have n4 : ¬ 9223372036854775807 < D.size + 1 + N1.size + 1 + N2.size := by omega
  have n5 : ¬ 9223372036854775807 < D.size + 1 + N1.size + 1 + N2.size + 1 := by omega
  have n6 : ¬ 9223372036854775807 < D.size + 1 + N1.size + 1 + N2.size + 1 + N3.size := by omega
  clear hk p1 p2 p3 b1 b2 b3 hv hf HE hn hD hN1 hN2 hN3 hR P1 P2 P3 B1 B2 B3 HL1 HL2 HL3 s0 s1 s2 s3
  go_enter Tryz.func137, Tryz.ntmps137
  go_wp2_with fail
  go_region_held3 (fun X => X.cell? ⟨bb, 0, none⟩ = some (.int .i64 n) ∧ X.cell? ⟨bb, 1, none⟩ = some (.slice a1 r.nums.length c1) ∧ X.cell? ⟨bb, 2, none⟩ = some (.slice a2 r.bnds.length c2) ∧ X.cell? ⟨bb, 3, none⟩ = some (.slice a3 r.gains.length c3) ∧ Below w.heap.size w X)
    (first | exact ⟨held_of hbn d0 (Nat.le_refl _), held_of hbn d1 (Nat.le_refl _), held_of hbn d2 (Nat.le_refl _), held_of hbn d3 (Nat.le_refl _), hbn⟩ | exact ⟨d0, d1, d2, d3, (Below.refl _ _).drew⟩)
    (first
      | (go_at_call 135; have hh := (‹_ ∧ _ ∧ _ ∧ _ ∧ Below w.heap.size w _›).2.2.2.2; refine (HD.out _).mono ?_; rintro e w1 ⟨rfl, hb1⟩; have hbn := hh.trans (hb1.mono hh.size))
      | (go_at_call 179; have hh := (‹_ ∧ _ ∧ _ ∧ _ ∧ Below w.heap.size w _›).2.2.2.2; (first | with_reducible refine (H1.out _ hh).mono ?_ | with_reducible refine (H2.out _ hh).mono ?_ | with_reducible refine (H3.out _ hh).mono ?_); rintro e w1 ⟨rfl, hb1⟩; have hbn := hh.trans (hb1.mono hh.size))
      | fail)
  all_goals
    have HBN := Lib.hid hbn
    go_wp2_with fail
    go_ret
    exact ⟨by rw [HE2.out]; rfl, HBN.out⟩
end Go.Proofs.YtgkbbpajkbkgnaaGreatDoor

namespace Go.Proofs.YtgkbbpajkbkgnaaGreatDoor
open Go.RowKit
def hexV (c : Nat) : Option Nat := if 48 ≤ c ∧ c ≤ 57 then some (c - 48) else if 97 ≤ c ∧ c ≤ 102 then some (c - 87) else none
def dvB (s : ByteArray) (k : Nat) : Nat := (hexV (s.data[k]!).toNat).getD 0
def okB (s : ByteArray) (k : Nat) : Bool := (hexV (s.data[k]!).toNat).isSome
def accH (s : ByteArray) : Nat → Nat
  | 0 => 0
  | k + 1 => 16 * accH s k + dvB s k
def hexOk (s : ByteArray) : Bool := decide (s.size = 8) && (allB 8 (okB s) && decide (codeN (accH s 8) = accH s 8))
theorem hexV_lt {c d : Nat} (h : hexV c = some d) : d < 16 := by
  unfold hexV at h
  split at h
  · simp only [Option.some.injEq] at h; omega
  · split at h
    · simp only [Option.some.injEq] at h; omega
    · cases h
theorem dvB_lt (s : ByteArray) (k : Nat) : dvB s k < 16 := by
  unfold dvB
  cases h : hexV (s.data[k]!).toNat with
  | none => decide
  | some d => exact hexV_lt h
theorem accH_lt (s : ByteArray) : ∀ k, accH s k < 16 ^ k
  | 0 => Nat.one_pos
  | k + 1 => by
    have h1 := accH_lt s k
    have h2 := dvB_lt s k
    rw [Nat.pow_succ]
    simp only [accH]
    omega
theorem dig_at (n i : Nat) : (n >>> i) &&& 15 = n / 2 ^ i % 16 := by
  rw [Nat.shiftRight_eq_div_pow, show 15 = 2 ^ 4 - 1 from rfl, Nat.and_two_pow_sub_one_eq_mod]
def byteD (n i : Nat) : UInt8 := UInt8.ofNat (dig16 (n / 2 ^ i % 16))
theorem hexS_list (n : Nat) : (hexS n).data.toList = [byteD n 28, byteD n 24, byteD n 20, byteD n 16, byteD n 12, byteD n 8, byteD n 4, byteD n 0] := by
  have e : n &&& 15 = n % 16 := by rw [show 15 = 2 ^ 4 - 1 from rfl, Nat.and_two_pow_sub_one_eq_mod]
  simp [hexS, hexK, B1, E0, ByteArray.data_append, dig_at, byteD, e]
theorem hex_back : ∀ n, n < 256 → (hexV n).isSome = true → dig16 ((hexV n).getD 0) = n := by decide +kernel
theorem hex_forth : ∀ d, d < 16 → hexV (dig16 d) = some d := by decide +kernel
theorem byte_back {c : UInt8} {n i : Nat} (h : (hexV c.toNat).isSome = true) (hd : n / 2 ^ i % 16 = (hexV c.toNat).getD 0) : byteD n i = c := by
  unfold byteD
  rw [hd, hex_back c.toNat c.toNat_lt h]
  exact UInt8.ofNat_toNat
theorem eight {s : ByteArray} (h : s.size = 8) : ∃ a b c d e f g i : UInt8, s = ⟨#[a, b, c, d, e, f, g, i]⟩ := by
  obtain ⟨⟨l⟩⟩ := s
  have hl : l.length = 8 := h
  match l, hl with
  | [a, b, c, d, e, f, g, i], _ => exact ⟨a, b, c, d, e, f, g, i, rfl⟩
theorem hexS_acc {s : ByteArray} (h8 : s.size = 8) (ho : allB 8 (okB s) = true) : hexS (accH s 8) = s := by
  rw [allB_iff] at ho
  have ho0 := ho 0 (by omega)
  have ho1 := ho 1 (by omega)
  have ho2 := ho 2 (by omega)
  have ho3 := ho 3 (by omega)
  have ho4 := ho 4 (by omega)
  have ho5 := ho 5 (by omega)
  have ho6 := ho 6 (by omega)
  have ho7 := ho 7 (by omega)
  have v0 := dvB_lt s 0
  have v1 := dvB_lt s 1
  have v2 := dvB_lt s 2
  have v3 := dvB_lt s 3
  have v4 := dvB_lt s 4
  have v5 := dvB_lt s 5
  have v6 := dvB_lt s 6
  have v7 := dvB_lt s 7
  have hn : accH s 8 = 16 * (16 * (16 * (16 * (16 * (16 * (16 * (16 * 0 + dvB s 0) + dvB s 1) + dvB s 2) + dvB s 3) + dvB s 4) + dvB s 5) + dvB s 6) + dvB s 7 := rfl
  have e0 : accH s 8 / 2 ^ 28 % 16 = dvB s 0 := by rw [hn]; omega
  have e1 : accH s 8 / 2 ^ 24 % 16 = dvB s 1 := by rw [hn]; omega
  have e2 : accH s 8 / 2 ^ 20 % 16 = dvB s 2 := by rw [hn]; omega
  have e3 : accH s 8 / 2 ^ 16 % 16 = dvB s 3 := by rw [hn]; omega
  have e4 : accH s 8 / 2 ^ 12 % 16 = dvB s 4 := by rw [hn]; omega
  have e5 : accH s 8 / 2 ^ 8 % 16 = dvB s 5 := by rw [hn]; omega
  have e6 : accH s 8 / 2 ^ 4 % 16 = dvB s 6 := by rw [hn]; omega
  have e7 : accH s 8 / 2 ^ 0 % 16 = dvB s 7 := by rw [hn]; omega
  obtain ⟨n, hne⟩ : ∃ n, n = accH s 8 := ⟨_, rfl⟩
  rw [← hne] at e0 e1 e2 e3 e4 e5 e6 e7 ⊢
  clear hne hn v0 v1 v2 v3 v4 v5 v6 v7 ho
  obtain ⟨a, b, c, d, e, f, g, i, rfl⟩ := eight h8
  apply ByteArray.ext
  apply Array.ext'
  rw [hexS_list, byte_back (c := a) ho0 e0, byte_back (c := b) ho1 e1, byte_back (c := c) ho2 e2, byte_back (c := d) ho3 e3, byte_back (c := e) ho4 e4, byte_back (c := f) ho5 e5, byte_back (c := g) ho6 e6, byte_back (c := i) ho7 e7]
theorem dv_of {s : ByteArray} {k n i : Nat} (h : s.data[k]! = byteD n i) : dvB s k = n / 2 ^ i % 16 := by
  have hm : n / 2 ^ i % 16 < 16 := Nat.mod_lt _ (by omega)
  have hd := dig16_lt _ hm
  unfold dvB
  rw [h]
  unfold byteD
  rw [UInt8.toNat_ofNat', Nat.mod_eq_of_lt (by omega), hex_forth _ hm]
  rfl
theorem accH_hexS (m : Nat) (h : m < 4294967296) : accH (hexS m) 8 = m := by
  have hs : (hexS m).data = #[byteD m 28, byteD m 24, byteD m 20, byteD m 16, byteD m 12, byteD m 8, byteD m 4, byteD m 0] := Array.ext' (hexS_list m)
  have hn : accH (hexS m) 8 = 16 * (16 * (16 * (16 * (16 * (16 * (16 * (16 * 0 + dvB (hexS m) 0) + dvB (hexS m) 1) + dvB (hexS m) 2) + dvB (hexS m) 3) + dvB (hexS m) 4) + dvB (hexS m) 5) + dvB (hexS m) 6) + dvB (hexS m) 7 := rfl
  rw [hn, dv_of (k := 0) (i := 28) (n := m) (by rw [hs]; rfl), dv_of (k := 1) (i := 24) (n := m) (by rw [hs]; rfl), dv_of (k := 2) (i := 20) (n := m) (by rw [hs]; rfl), dv_of (k := 3) (i := 16) (n := m) (by rw [hs]; rfl), dv_of (k := 4) (i := 12) (n := m) (by rw [hs]; rfl), dv_of (k := 5) (i := 8) (n := m) (by rw [hs]; rfl), dv_of (k := 6) (i := 4) (n := m) (by rw [hs]; rfl), dv_of (k := 7) (i := 0) (n := m) (by rw [hs]; rfl)]
  omega
theorem hex_same {s : ByteArray} (h8 : s.size = 8) (ho : allB 8 (okB s) = true) : hexS (codeN (accH s 8)) = s ↔ codeN (accH s 8) = accH s 8 := by
  have hl : accH s 8 < 4294967296 := accH_lt s 8
  constructor
  · intro h
    have h0 := hexS_acc h8 ho
    have h : hexS (codeN (accH s 8)) = hexS (accH s 8) := h.trans h0.symm
    have h2 : accH (hexS (codeN (accH s 8))) 8 = accH (hexS (accH s 8)) 8 := congrArg (fun t => accH t 8) h
    rwa [accH_hexS _ (codeN_lt hl), accH_hexS _ hl] at h2
  · intro h
    rw [h]
    exact hexS_acc h8 ho
end Go.Proofs.YtgkbbpajkbkgnaaGreatDoor
