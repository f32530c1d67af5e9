/-
  FnExactWholeGap: texts joined: TofS, BstS.
-/
import Derived.Deep.RegionLaw
import Derived.Test.YtkfiepiipigcmaaMEWholeGapAD
import Derived.Test.YtkfiepiipigcmaaMEWholeGapAN
import Derived.Test.YtkfiepiipigcmaaMEWholeGapAO
import Derived.Test.YtkfiepiipigcmaaMEWholeGapAQ
namespace Go.Proofs.Ytkfiepiipigcmaa
open Go.RowKit

theorem rdF_get {w : World} {b o n c : Nat} {xs : List Nat} (h : RdF w (.slice (some ⟨b, o, none⟩) n c) xs) {i : Nat} (hi : i < xs.length) : w.cell? ⟨b, o + i, none⟩ = some (.float .f32 (xs.getD i 0)) := by
  obtain ⟨b2, o2, e, _, hc⟩ := h.at hi
  simp only [Option.some.injEq, Addr.mk.injEq, and_true] at e
  obtain ⟨rfl, rfl⟩ := e
  exact hc

set_option maxHeartbeats 8000000 in
set_option maxRecDepth 8000 in
theorem l02TableOf_any (bb : Nat) (a1 : Option Addr) (c1 : Nat) (a2 : Option Addr) (c2 : Nat) (a3 : Option Addr) (c3 : Nat) (r : RowsD) (w : World) (hval : ValR r)
    (hk : Blk w bb 67 #[.int .i64 r.vars, .slice a1 r.nums.length c1, .slice a2 r.bnds.length c2, .slice a3 r.gains.length c3]) (h : RdR w (.agg #[.int .i64 r.vars, .slice a1 r.nums.length c1, .slice a2 r.bnds.length c2, .slice a3 r.gains.length c3]) r) :
    Calls Try.prog 162 #[.pointer (some ⟨bb, 0, none⟩)] w fun e w' => ∃ (a : Option Addr) (n c : Nat) (b : Option Addr) (m d : Nat), e = .returned (.agg #[.int .i64 (tableT r).vars, .slice a n c, .slice b m d]) ∧ (∀ Wg, Kept (· < w.heap.size) w' Wg → RdTb Wg (.agg #[.int .i64 (tableT r).vars, .slice a n c, .slice b m d]) (tableT r)) ∧ Below w.heap.size w w' := by
  obtain ⟨p1, p2, p3⟩ := h.parts
  have hg8 : r.gains.length ≤ 8 := by have := hval.v8; have := hval.gl; omega
  have hg1 : 1 ≤ r.gains.length := by have := hval.v1; have := hval.gl; omega
  have hb8 := hval.b8
  have hb1 := hval.b1
  have hnl : r.nums.length = r.gains.length * r.bnds.length := by have := hval.nl; rw [← hval.gl] at this; exact_mod_cast this
  have hn1 : 0 < r.nums.length := by rw [hnl]; exact Nat.mul_pos (by omega) (by omega)
  have hIXN : ∀ i k, i < r.bnds.length → k < r.gains.length → i * r.gains.length + k < r.nums.length := fun i k hi hk => by
    have : (i + 1) * r.gains.length ≤ r.bnds.length * r.gains.length := Nat.mul_le_mul_right _ (by omega)
    rw [Nat.add_mul, Nat.mul_comm r.bnds.length] at this
    omega
  have hn64 : r.nums.length ≤ 64 := by rw [hnl]; exact Nat.le_trans (Nat.mul_le_mul hg8 hb8) (by decide)
  rw [← hval.gl] at hk
  obtain ⟨b1, o1, rfl, _, _⟩ := p1.at (i := 0) hn1
  obtain ⟨b2, o2, rfl, _, _⟩ := p2.at (i := 0) (by omega)
  obtain ⟨b3, o3, rfl, _, _⟩ := p3.at (i := 0) (by omega)
  have HE1 := Lib.hid (fun X (hb : Below w.heap.size w X) m (hm : m < r.nums.length) => rdF_get (p1.up hb (Nat.le_refl _)) (i := m) hm)
  have HE2 := Lib.hid (fun X (hb : Below w.heap.size w X) m (hm : m < r.bnds.length) => rdF_get (p2.up hb (Nat.le_refl _)) (i := m) hm)
  have HE3 := Lib.hid (fun X (hb : Below w.heap.size w X) m (hm : m < r.gains.length) => rdF_get (p3.up hb (Nat.le_refl _)) (i := m) hm)
  have HR0 := Lib.hid (rowK_zero r)
  have HRN := Lib.hid (fun i k (hi : i < r.bnds.length) (hk : k < r.gains.length) => rowK_next hval hi hk)
  have HRG := Lib.hid (fun k (hk : k < r.gains.length) => rowK_nextG (r := r) hk)
  have HU0 := Lib.hid (unK_zero r)
  have HUN := Lib.hid (fun i k (hk : k < r.bnds.length) => unK_next r i hk)
  have HUR := Lib.hid (fun i (hi : i < r.bnds.length) => unK_row hval hi)
  have HUL := Lib.hid (unK_last r)
  have HTV := Lib.hid (show (tableT r).vars = r.gains.length from rfl)
  have HTB := Lib.hid (show (tableT r).basis = tabB r r.bnds.length from rfl)
  have HBN := Lib.hid (fun i => show tabB r (i + 1) = tabB r i ++ [(r.gains.length : Int) + (i : Int)] by rw [tabB_next, hval.gl])
  have HIX := Lib.hid hIXN
  obtain ⟨V, hV⟩ : ∃ V, V = r.gains.length := ⟨_, rfl⟩
  obtain ⟨n, hn⟩ : ∃ n, n = r.bnds.length := ⟨_, rfl⟩
  obtain ⟨M, hM⟩ : ∃ n, n = r.nums.length := ⟨_, rfl⟩
  rw [← hV] at hk hg8 hg1 HE3 HRN HRG HU0 HTV HBN HIX
  rw [← hn] at hk hb8 hb1 HE2 HRN HRG HUN HUR HUL HTB HIX
  rw [← hM] at hk hn64 HE1 HIX
  have HKB := Lib.hid hk
  have hbl := hk.lt
  have d0 := hk.cell 0 rfl
  have d2 := hk.cell 2 rfl
  clear h hval hk p1 p2 p3 hnl hn1 hIXN hV hn hM
  go_enter Try.func162, Try.ntmps162
  go_upto_region 3 with fail
  refine wp_at fun W0 hW0 => ?_
  obtain ⟨q, hq⟩ : ∃ q, q = w.heap.size + 1 := ⟨_, rfl⟩
  have HT0 := Lib.hid (show Tof w W0 q V none 0 0 (tabN r 0) none 0 0 (tabB r 0) from ⟨by subst hW0 hq; simpa using Blk.new (w.alloc (.cells #[.int .i64 0, .slice none 0 0, .slice none 0 0] 136)) 136 #[.int .i64 V, .slice none 0 0, .slice none 0 0], World.ownsRow_nil _ _ _ _, World.ownsRow_nil _ _ _ _, by subst hW0; exact (Blk.new _ _ _).alloc _, by subst hW0; (repeat' first | exact Below.refl _ _ | assumption | refine Below.alloc ?_ ?_ _ | refine Below.setCell ?_ ?_ _ | refine Below.drew ?_ | (simp; done) | (simp; omega))⟩)
  rw [← hq]
  have hqw : w.heap.size < q := by omega
  clear hW0 hq d0 d2
  go_wp2_with fail
  go_loopw [5] (fun iv wr => ∃ (i z : Nat) (g : Option Addr) (cg : Nat) (b : Option Addr) (j cb : Nat) (L : List Nat) (Bs : List Int), iv = .int .i64 i ∧ i ≤ n + 1 ∧ z ≤ 17 * i ∧ Hid (Tof w wr q V g z cg L b j cb Bs) ∧ Hid ((i ≤ n ∧ j = i ∧ L = tabN r i ∧ Bs = tabB r i) ∨ (i = n + 1 ∧ L = (tableT r).nums ∧ Bs = tabB r n))) (fun iv _ => n + 2 - (intOf iv).toNat)
  case atStart => exact ⟨0, 0, none, 0, none, 0, 0, _, _, rfl, Nat.zero_le _, Nat.zero_le _, HT0, Lib.hid (.inl ⟨Nat.zero_le _, rfl, rfl, rfl⟩)⟩
  case round =>
    obtain ⟨i, z, g, cg, b, j, cb, L, Bs, rfl, hi, hz, HT, HC⟩ := hrel
    obtain ⟨wi, rfl⟩ : ∃ wi, wi = wr := ⟨wr, rfl⟩
    by_cases hin : i ≤ n
    · have hinI : (i : Int) ≤ (n : Int) := by omega
      obtain ⟨_, rfl, rfl, rfl⟩ : i ≤ n ∧ j = i ∧ L = tabN r i ∧ Bs = tabB r i := by
        rcases HC.out with h | ⟨h, _⟩
        · exact h
        · omega
      have HT1 := Lib.hid (show Tof w wi q V g z cg (rowK r j 0) b j cb (tabB r j) by rw [HR0.out]; exact HT.out)
      clear HC HT
      by_cases hlt : j < n
      · have hltI : (j : Int) < (n : Int) := by omega
        obtain ⟨I0, hI⟩ : ∃ I0, I0 = j * V := ⟨_, rfl⟩
        have e1 : (j : Int) * (V : Int) = (I0 : Int) := by rw [hI]; push_cast; rfl
        have hI64 : I0 ≤ 64 := by have := HIX.out j 0 hlt (by omega); omega
        have w1 : IntKind.i64.wrap (I0 : Int) = (I0 : Int) := IntWalk.i64_in _ (by omega)
        have HII := Lib.hid (show ∀ k, k < V → I0 + k < M from fun k hk => by rw [hI]; exact HIX.out j k hlt hk)
        have HRJ := Lib.hid (show ∀ k, k < V → rowK r j (k + 1) = rowK r j k ++ [r.nums.getD (I0 + k) 0] from fun k hk => by rw [hI]; exact HRN.out j k hlt hk)
        clear hI
        go_wp2_with fail
        go_loopw [6] (fun kv wr => ∃ (k z' : Nat) (g : Option Addr) (cg : Nat), kv = .int .i64 k ∧ k ≤ V ∧ z' ≤ z + k ∧ Hid (Tof w wr q V g z' cg (rowK r j k) b j cb (tabB r j))) (fun kv _ => V + 1 - (intOf kv).toNat)
        case atStart => exact ⟨0, z, g, cg, rfl, Nat.zero_le _, Nat.le_refl _, HT1⟩
        case round =>
          obtain ⟨k, z1, g, cg, rfl, hk, hz1, HT⟩ := hrel
          obtain ⟨wk, rfl⟩ : ∃ wk, wk = wr := ⟨wr, rfl⟩
          have HKk := Lib.hid (HKB.out.below HT.out.bel hbl)
          have d0 := HKk.out.cell 0 rfl
          by_cases hkV : k < V
          · have hkI : (k : Int) < (V : Int) := by omega
            have d1 := HKk.out.cell 1 rfl
            obtain ⟨mi, hmi⟩ : ∃ m, m = I0 + k := ⟨_, rfl⟩
            have hmM : mi < M := by rw [hmi]; exact HII.out k hkV
            have hmI : (mi : Int) < (M : Int) := by omega
            have e3 : IntKind.i64.wrap ((I0 : Int) + (k : Int)) = (mi : Int) := by rw [IntWalk.i64_in _ (by omega), hmi]; push_cast; rfl
            have hNX := HRJ.out k hkV
            rw [← hmi] at hNX
            have hc := HE1.out wk HT.out.bel mi hmM
            obtain ⟨y, hy⟩ : ∃ y, y = r.nums.getD mi 0 := ⟨_, rfl⟩
            rw [← hy] at hc hNX
            have HNX := Lib.hid hNX
            clear hmi hNX hy
            have q1 := HT.out.blk.cell 1 rfl
            have hqk := HT.out.blk.lt
            have hwk := HT.out.bel.size
            have HX4 := Lib.hid (fun o => show Below wk.heap.size wk (wk.drew.alloc o) from (Below.refl _ _).drew.alloc (Nat.le_refl _) o)
            have q1a : ∀ o, (wk.alloc o).cell? ⟨q, 1, none⟩ = some (.slice g z1 cg) := fun o => (HT.out.blk.alloc o).cell 1 rfl
            go_wp2_with fail
            go_region_law (first
              | (refine step_app_fltsL rfl (.tmp 36) (.tmp 51) (by rfl) w.heap.size (.slice g z1 cg) z1 (rowK r j k) (by rfl) ((owns_drew HT.out.on).alloc _) _ [y] (by rfl) (slcF_oneB _ y _ (by simp)) (z1 + 1) (rowK r j (k + 1)) (by simp) HNX.out (by omega) (by simp; omega) ?_; intro g4 c4 w4 hown4 hbl4 hg4 _; have HM4 := Lib.hid (HT.out.midN (HX4.out _) hg4); have HN4 := Lib.hid (HT.out.appN hqw (HX4.out _) hg4 hbl4 hown4); have qa := HM4.out.cell 1 rfl; have sa := HM4.out.free 1; clear hown4 hbl4 hg4)
              | fail)
            all_goals
              go_wp2_with fail
              go_roundw
              case rel => exact ⟨k + 1, z1 + 1, g4, c4, by go_num, by omega, by omega, HN4⟩
              case measure => simp [intOf]; omega
          · obtain rfl : k = V := by omega
            have HT2 := Lib.hid (show Tof w wk q k g z1 cg (unK r j 0) b j cb (tabB r j) by rw [HU0.out]; exact HT.out)
            clear HT d0
            have d0 := HKk.out.cell 0 rfl
            go_wp2_with fail
            go_loopw [7] (fun uv wr => ∃ (u z' : Nat) (g : Option Addr) (cg : Nat), uv = .int .i64 u ∧ u ≤ n ∧ z' ≤ z1 + u ∧ Hid (Tof w wr q k g z' cg (unK r j u) b j cb (tabB r j))) (fun uv _ => n + 1 - (intOf uv).toNat)
            case atStart => exact ⟨0, z1, g, cg, rfl, Nat.zero_le _, Nat.le_refl _, HT2⟩
            case round =>
              obtain ⟨u, z2, g, cg, rfl, hu, hz2, HT⟩ := hrel
              obtain ⟨wu, rfl⟩ : ∃ wu, wu = wr := ⟨wr, rfl⟩
              have q1 := HT.out.blk.cell 1 rfl
              have HX5 := Lib.hid (fun o => show Below wu.heap.size wu (wu.alloc o) from (Below.refl _ _).alloc (Nat.le_refl _) o)
              have HX4 := Lib.hid (fun o => show Below wu.heap.size wu (wu.drew.alloc o) from (Below.refl _ _).drew.alloc (Nat.le_refl _) o)
              have hqk := HT.out.blk.lt
              have hwk := HT.out.bel.size
              by_cases hun : u < n
              · have huI : (u : Int) < (n : Int) := by omega
                have HNX := Lib.hid (HUN.out j u hun)
                by_cases huj : u = j
                · have hee : ((u : Int) == (j : Int)) = true := by rw [beq_iff_eq]; omega
                  have HN2 := Lib.hid (show unK r j (u + 1) = unK r j u ++ [oneF] by rw [HNX.out, if_pos huj])
                  clear huj
                  go_wp2_with (at_builtin; refine app_flts rfl _ _ rfl w.heap.size (.slice g z2 cg) z2 (unK r j u) rfl (HT.out.on.alloc _) _ [oneF] rfl (slcF_oneB _ oneF _ (by simp)) (z2 + 1) (unK r j (u + 1)) (by simp) HN2.out (by omega) (by simp; omega) ?_; intro g4 c4 w4 hown4 hbl4 hg4 _; have HM4 := Lib.hid (HT.out.midN (HX5.out _) hg4); have HN4 := Lib.hid (HT.out.appN hqw (HX5.out _) hg4 hbl4 hown4); have qa := HM4.out.cell 1 rfl; have sa := HM4.out.free 1; clear hown4 hbl4 hg4)
                  go_roundw
                  case rel => exact ⟨u + 1, z2 + 1, g4, c4, by go_num, by omega, by omega, HN4⟩
                  case measure => simp [intOf]; omega
                · have hee : ((u : Int) == (j : Int)) = false := by rw [beq_eq_false_iff_ne]; omega
                  have HN2 := Lib.hid (show unK r j (u + 1) = unK r j u ++ [0] by rw [HNX.out, if_neg huj])
                  clear huj
                  go_wp2_with (at_builtin; refine app_flts rfl _ _ rfl w.heap.size (.slice g z2 cg) z2 (unK r j u) rfl (HT.out.on.alloc _) _ [0] rfl (slcF_oneB _ 0 _ (by simp)) (z2 + 1) (unK r j (u + 1)) (by simp) HN2.out (by omega) (by simp; omega) ?_; intro g4 c4 w4 hown4 hbl4 hg4 _; have HM4 := Lib.hid (HT.out.midN (HX5.out _) hg4); have HN4 := Lib.hid (HT.out.appN hqw (HX5.out _) hg4 hbl4 hown4); have qa := HM4.out.cell 1 rfl; have sa := HM4.out.free 1; clear hown4 hbl4 hg4)
                  go_roundw
                  case rel => exact ⟨u + 1, z2 + 1, g4, c4, by go_num, by omega, by omega, HN4⟩
                  case measure => simp [intOf]; omega
              · obtain rfl : u = n := by omega
                have HKu := Lib.hid (HKB.out.below HT.out.bel hbl)
                have d2 := HKu.out.cell 2 rfl
                have hc := HE2.out wu HT.out.bel j hlt
                have hNX := (HUR.out j hlt).symm
                obtain ⟨y, hy⟩ : ∃ y, y = r.bnds.getD j 0 := ⟨_, rfl⟩
                rw [← hy] at hc hNX
                have HNX := Lib.hid hNX
                clear hNX hy
                have q1a : ∀ o, (wu.alloc o).cell? ⟨q, 1, none⟩ = some (.slice g z2 cg) := fun o => (HT.out.blk.alloc o).cell 1 rfl
                go_wp2_with fail
                go_region_law (first
                  | (refine step_app_fltsL rfl (.tmp 85) (.tmp 93) (by rfl) w.heap.size (.slice g z2 cg) z2 (unK r j u) (by rfl) ((owns_drew HT.out.on).alloc _) _ [y] (by rfl) (slcF_oneB _ y _ (by simp)) (z2 + 1) (tabN r (j + 1)) (by simp) HNX.out (by omega) (by simp; omega) ?_; intro g4 c4 w4 hown4 hbl4 hg4 _; have HM4 := Lib.hid (HT.out.midN (HX4.out _) hg4); have HN4 := Lib.hid (HT.out.appN hqw (HX4.out _) hg4 hbl4 hown4); have qa := HM4.out.cell 1 rfl; have sa := HM4.out.free 1; clear hown4 hbl4 hg4)
                  | fail)
                all_goals
                  go_wp2_with fail
                  refine wp_at fun w6 hw6 => ?_
                  have HT6 := Lib.hid (show Tof w w6 q k g4 (z2 + 1) c4 (tabN r (j + 1)) b j cb (tabB r j) by subst hw6; exact HN4.out)
                  clear hw6 q1 q1a qa sa hc HM4 HN4
                  have HK6 := Lib.hid (HKB.out.below HT6.out.bel hbl)
                  have d0 := HK6.out.cell 0 rfl
                  have q2 := HT6.out.blk.cell 2 rfl
                  have q2a : ∀ o, (w6.alloc o).cell? ⟨q, 2, none⟩ = some (.slice b j cb) := fun o => (HT6.out.blk.alloc o).cell 2 rfl
                  have hq6 := HT6.out.blk.lt
                  have hw6 := HT6.out.bel.size
                  have HX6 := Lib.hid (fun o => show Below w6.heap.size w6 (w6.drew.alloc o) from (Below.refl _ _).drew.alloc (Nat.le_refl _) o)
                  have w3 : IntKind.i64.wrap ((k : Int) + (j : Int)) = (k : Int) + (j : Int) := IntWalk.i64_in _ (by omega)
                  have HB6 := Lib.hid (HBN.out j)
                  go_region_law (first
                    | (refine step_app_intsL rfl (.tmp 97) (.tmp 104) (by rfl) w.heap.size (.slice b j cb) j (tabB r j) (by rfl) ((owns_drew HT6.out.ob).alloc _) _ [(k : Int) + (j : Int)] (by rfl) (slc_oneB _ ((k : Int) + (j : Int)) _ (by simp)) (j + 1) (tabB r (j + 1)) (by simp) HB6.out (by omega) (by simp; omega) ?_; intro b7 c7 w7 hown7 hbl7 hg7 _; have HM7 := Lib.hid (HT6.out.midB (HX6.out _) hg7); have HN7 := Lib.hid (HT6.out.appB hqw (HX6.out _) hg7 hbl7 hown7); have qa := HM7.out.cell 2 rfl; have sa := HM7.out.free 2; clear hown7 hbl7 hg7)
                    | fail)
                  all_goals
                    go_wp2_with fail
                    go_roundw
                    case rel => exact ⟨j + 1, z2 + 1, g4, c4, b7, j + 1, c7, _, _, by go_num, by omega, by omega, HN7, Lib.hid (.inl ⟨by omega, rfl, rfl, rfl⟩)⟩
                    case measure => simp [intOf]; omega
      · obtain rfl : j = n := by omega
        have hltI : ¬ (j : Int) < (j : Int) := by omega
        have hlf : decide ((j : Int) < (j : Int)) = false := by simp
        go_wp2_with fail
        go_loopw [6] (fun kv wr => ∃ (k z' : Nat) (g : Option Addr) (cg : Nat), kv = .int .i64 k ∧ k ≤ V ∧ z' ≤ z + k ∧ Hid (Tof w wr q V g z' cg (rowK r j k) b j cb (tabB r j))) (fun kv _ => V + 1 - (intOf kv).toNat)
        case atStart => exact ⟨0, z, g, cg, rfl, Nat.zero_le _, Nat.le_refl _, HT1⟩
        case round =>
          obtain ⟨k, z1, g, cg, rfl, hk, hz1, HT⟩ := hrel
          obtain ⟨wk, rfl⟩ : ∃ wk, wk = wr := ⟨wr, rfl⟩
          have HKk := Lib.hid (HKB.out.below HT.out.bel hbl)
          have d0 := HKk.out.cell 0 rfl
          by_cases hkV : k < V
          · have hkI : (k : Int) < (V : Int) := by omega
            have d3 := HKk.out.cell 3 rfl
            have hNX := HRG.out k hkV
            have hc := HE3.out wk HT.out.bel k hkV
            obtain ⟨y, hy⟩ : ∃ y, y = r.gains.getD k 0 := ⟨_, rfl⟩
            rw [← hy] at hc hNX
            have HNX := Lib.hid hNX
            clear hNX hy
            have q1 := HT.out.blk.cell 1 rfl
            have hqk := HT.out.blk.lt
            have hwk := HT.out.bel.size
            have HX4 := Lib.hid (fun o => show Below wk.heap.size wk (wk.drew.alloc o) from (Below.refl _ _).drew.alloc (Nat.le_refl _) o)
            have q1a : ∀ o, (wk.alloc o).cell? ⟨q, 1, none⟩ = some (.slice g z1 cg) := fun o => (HT.out.blk.alloc o).cell 1 rfl
            go_wp2_with fail
            go_region_law (first
              | (refine step_app_fltsL rfl (.tmp 55) (.tmp 64) (by rfl) w.heap.size (.slice g z1 cg) z1 (rowK r j k) (by rfl) ((owns_drew HT.out.on).alloc _) _ [(negF y)] (by rfl) (slcF_oneB _ (negF y) _ (by simp)) (z1 + 1) (rowK r j (k + 1)) (by simp) HNX.out (by omega) (by simp; omega) ?_; intro g4 c4 w4 hown4 hbl4 hg4 _; have HM4 := Lib.hid (HT.out.midN (HX4.out _) hg4); have HN4 := Lib.hid (HT.out.appN hqw (HX4.out _) hg4 hbl4 hown4); have qa := HM4.out.cell 1 rfl; have sa := HM4.out.free 1; clear hown4 hbl4 hg4)
              | fail)
            all_goals
              go_wp2_with fail
              go_roundw
              case rel => exact ⟨k + 1, z1 + 1, g4, c4, by go_num, by omega, by omega, HN4⟩
              case measure => simp [intOf]; omega
          · obtain rfl : k = V := by omega
            have HT2 := Lib.hid (show Tof w wk q k g z1 cg (unK r j 0) b j cb (tabB r j) by rw [HU0.out]; exact HT.out)
            clear HT d0
            have d0 := HKk.out.cell 0 rfl
            go_wp2_with fail
            go_loopw [7] (fun uv wr => ∃ (u z' : Nat) (g : Option Addr) (cg : Nat), uv = .int .i64 u ∧ u ≤ j ∧ z' ≤ z1 + u ∧ Hid (Tof w wr q k g z' cg (unK r j u) b j cb (tabB r j))) (fun uv _ => j + 1 - (intOf uv).toNat)
            case atStart => exact ⟨0, z1, g, cg, rfl, Nat.zero_le _, Nat.le_refl _, HT2⟩
            case round =>
              obtain ⟨u, z2, g, cg, rfl, hu, hz2, HT⟩ := hrel
              obtain ⟨wu, rfl⟩ : ∃ wu, wu = wr := ⟨wr, rfl⟩
              have q1 := HT.out.blk.cell 1 rfl
              have HX5 := Lib.hid (fun o => show Below wu.heap.size wu (wu.alloc o) from (Below.refl _ _).alloc (Nat.le_refl _) o)
              have HX4 := Lib.hid (fun o => show Below wu.heap.size wu (wu.drew.alloc o) from (Below.refl _ _).drew.alloc (Nat.le_refl _) o)
              have hqk := HT.out.blk.lt
              have hwk := HT.out.bel.size
              by_cases hun : u < j
              · have huI : (u : Int) < (j : Int) := by omega
                have HNX := Lib.hid (HUN.out j u hun)
                have huj : ¬ u = j := by omega
                have hee : ((u : Int) == (j : Int)) = false := by rw [beq_eq_false_iff_ne]; omega
                have HN2 := Lib.hid (show unK r j (u + 1) = unK r j u ++ [0] by rw [HNX.out, if_neg huj])
                clear huj
                go_wp2_with (at_builtin; refine app_flts rfl _ _ rfl w.heap.size (.slice g z2 cg) z2 (unK r j u) rfl (HT.out.on.alloc _) _ [0] rfl (slcF_oneB _ 0 _ (by simp)) (z2 + 1) (unK r j (u + 1)) (by simp) HN2.out (by omega) (by simp; omega) ?_; intro g4 c4 w4 hown4 hbl4 hg4 _; have HM4 := Lib.hid (HT.out.midN (HX5.out _) hg4); have HN4 := Lib.hid (HT.out.appN hqw (HX5.out _) hg4 hbl4 hown4); have qa := HM4.out.cell 1 rfl; have sa := HM4.out.free 1; clear hown4 hbl4 hg4)
                go_roundw
                case rel => exact ⟨u + 1, z2 + 1, g4, c4, by go_num, by omega, by omega, HN4⟩
                case measure => simp [intOf]; omega
              · obtain rfl : u = j := by omega
                have HNX := Lib.hid HUL.out.symm
                go_wp2_with (at_builtin; refine app_flts rfl _ _ rfl w.heap.size (.slice g z2 cg) z2 (unK r u u) rfl (HT.out.on.alloc _) _ [0] rfl (slcF_oneB _ 0 _ (by simp)) (z2 + 1) (tableT r).nums (by simp) HNX.out (by omega) (by first | (simp; done) | (simp; omega)) ?_; intro g4 c4 w4 hown4 hbl4 hg4 _; have HM4 := Lib.hid (HT.out.midN (HX5.out _) hg4); have HN4 := Lib.hid (HT.out.appN hqw (HX5.out _) hg4 hbl4 hown4); have qa := HM4.out.cell 1 rfl; have sa := HM4.out.free 1; clear hown4 hbl4 hg4)
                go_roundw
                case rel => exact ⟨u + 1, z2 + 1, g4, c4, b, u, cb, _, _, by go_num, by omega, by omega, HN4, Lib.hid (.inr ⟨rfl, rfl, rfl⟩)⟩
                case measure => first | (simp [intOf]; done) | (simp [intOf]; omega)
    · obtain rfl : i = n + 1 := by omega
      obtain ⟨_, rfl, rfl⟩ : n + 1 = n + 1 ∧ L = (tableT r).nums ∧ Bs = tabB r n := by
        rcases HC.out with ⟨h, _⟩ | h
        · omega
        · exact h
      have qa0 := HT.out.blk.cell 0 rfl
      have qa1 := HT.out.blk.cell 1 rfl
      have qa2 := HT.out.blk.cell 2 rfl
      have r0 := HT.out.ret.cell 0 rfl
      have r1 := HT.out.ret.cell 1 rfl
      have r2 := HT.out.ret.cell 2 rfl
      have s0 := HT.out.ret.free 0
      have s1 := HT.out.ret.free 1
      have s2 := HT.out.ret.free 2
      have HFIN := Lib.hid (show ∀ Wf, Kept (· = w.heap.size) wi Wf → ∃ (a : Option Addr) (n c : Nat) (b' : Option Addr) (m d : Nat), (Ending.returned (.agg #[.int .i64 V, .slice g z cg, .slice b j cb]) : Ending) = .returned (.agg #[.int .i64 (tableT r).vars, .slice a n c, .slice b' m d]) ∧ (∀ Wg, Kept (· < w.heap.size) Wf Wg → RdTb Wg (.agg #[.int .i64 (tableT r).vars, .slice a n c, .slice b' m d]) (tableT r)) ∧ Below w.heap.size w Wf from fun Wf hk => by
        have hB := HT.out.bel
        refine ⟨g, z, cg, b, j, cb, by rw [HTV.out], fun Wg hg => ⟨_, _, rfl, slc_of_owns (owns_kept (owns_kept HT.out.on hk ?_) hg ?_), ?_⟩, hB.trans (hk.toBelow hB.size (by intro k h1 h2; omega))⟩
        · intro b' e
          have := (owns_lt HT.out.on e).1
          intro e2
          have h1 := HT.out.ret.not_owned HT.out.on (by decide)
          exact h1 (by rw [← e2]; exact e)
        · intro b' e
          have := (owns_lt HT.out.on e).1
          omega
        · rw [HTB.out]
          refine slc_of_owns (owns_kept (owns_kept HT.out.ob hk ?_) hg ?_)
          · intro b' e
            intro e2
            have h1 := HT.out.ret.not_owned HT.out.ob (by decide)
            exact h1 (by rw [← e2]; exact e)
          · intro b' e
            have := (owns_lt HT.out.ob e).1
            omega)
      go_wp2_with fail
      refine bodyPost_ret (v := .agg #[.int .i64 V, .slice g z cg, .slice b j cb]) (by simp [results, Try.results162, go_sem, *]) rfl (HFIN.out _ ?_)
      repeat' first | exact Kept.refl _ _ | refine Kept.setCell ?_ (.inr (by simp)) _

end Go.Proofs.Ytkfiepiipigcmaa

namespace Go.Proofs.Ytkfiepiipigcmaa
open Go.RowKit

theorem l02Most_any (n : Int) (w : World) : Calls Try.prog 141 #[.int .i64 n] w fun e w' => e = .returned (.bool (inB 0 64 n)) ∧ w' = w := by
  go_enter Try.func141, Try.ntmps141
  go_wp2_with fail
  refine (in_any n 0 64 w).mono ?_
  rintro e w1 ⟨rfl, rfl⟩
  go_wp2_with fail
  go_ret
  exact ⟨rfl, rfl⟩

set_option maxHeartbeats 2000000 in
theorem l02Can_any (bb : Nat) (v0 v1 v2 v3 : Value) (r : RowsD) (most : Int) (near : Nat) (w : World) (hk : Blk w bb 67 #[v0, v1, v2, v3]) (h : RdR w (.agg #[v0, v1, v2, v3]) r) :
    Calls Try.prog 108 #[.pointer (some ⟨bb, 0, none⟩), .int .i64 most, .float .f32 near] w fun e w' => e = .returned (.bool (solvB r most near)) ∧ ∃ m, w' = w.drewN m := by
  have HIS := Lib.hid (l02Is_any bb v0 v1 v2 v3 r w hk h)
  have HB := Lib.hid (show solvB r most near = (validR r && inB 0 64 most && least near) from rfl)
  obtain ⟨a, ha⟩ : ∃ a, a = validR r := ⟨_, rfl⟩
  obtain ⟨b, hb⟩ : ∃ a, inB 0 64 most = a := ⟨_, rfl⟩
  rw [← ha] at HIS HB
  rw [hb] at HB
  have HM := Lib.hid hb
  clear ha hb hk h
  cases a
  · go_enter Try.func108, Try.ntmps108
    go_wp2_with (go_at_call 107; refine HIS.out.mono ?_; rintro e w2 ⟨rfl, m2, rfl⟩)
    go_ret
    exact ⟨by rw [HB.out]; rfl, _, rfl⟩
  · cases b
    · go_enter Try.func108, Try.ntmps108
      go_wp2_with (first | (go_at_call 107; refine HIS.out.mono ?_; rintro e w2 ⟨rfl, m2, rfl⟩) | (go_at_call 141; refine (l02Most_any _ _).mono ?_; rintro e w3 ⟨rfl, rfl⟩; rw [HM.out]))
      go_ret
      exact ⟨by rw [HB.out]; rfl, _, rfl⟩
    · go_enter Try.func108, Try.ntmps108
      go_wp2_with (first | (go_at_call 107; refine HIS.out.mono ?_; rintro e w2 ⟨rfl, m2, rfl⟩) | (go_at_call 141; refine (l02Most_any _ _).mono ?_; rintro e w3 ⟨rfl, rfl⟩; rw [HM.out]) | (go_at_call 140; refine (l02Least_any _ _).mono ?_; rintro e w4 ⟨rfl, m4, rfl⟩))
      go_ret
      exact ⟨by rw [HB.out]; simp, _, by first | rfl | rw [World.drewN_drewN]⟩

/-- What 'l02Best' tells. -/
def BstPost (o : Option TabD) (B : Nat) (w : World) (e : Ending) (w' : World) : Prop :=
  ∃ (x : Int) (a : Option Addr) (n c : Nat) (b : Option Addr) (m d : Nat), e = .returned (.tuple #[.agg #[.int .i64 x, .slice a n c, .slice b m d], .bool o.isSome]) ∧
    (∀ t', o = some t' → RdTb w' (.agg #[.int .i64 x, .slice a n c, .slice b m d]) t') ∧ Below B w w'

set_option maxHeartbeats 4000000 in
set_option maxRecDepth 8000 in
theorem l02Best_any (bb : Nat) (a1 : Option Addr) (c1 : Nat) (a2 : Option Addr) (c2 : Nat) (a3 : Option Addr) (c3 : Nat) (r : RowsD) (most near : Nat) (w : World) (hval : ValR r) (hnr : least near = true) (hmost : most ≤ 64)
    (hk : Blk w bb 67 #[.int .i64 r.vars, .slice a1 r.nums.length c1, .slice a2 r.bnds.length c2, .slice a3 r.gains.length c3]) (h : RdR w (.agg #[.int .i64 r.vars, .slice a1 r.nums.length c1, .slice a2 r.bnds.length c2, .slice a3 r.gains.length c3]) r) :
    Calls Try.prog 142 #[.pointer (some ⟨bb, 0, none⟩), .int .i64 most, .float .f32 near] w (BstPost (solveO near most (tableT r)) w.heap.size w) := by
  have HTO := Lib.hid (fun X (hb : Below w.heap.size w X) => l02TableOf_any bb a1 c1 a2 c2 a3 c3 r X hval (hk.below hb hk.lt) (h.up hb (Nat.le_refl _)))
  have HG := Lib.hid (tableT_good hval)
  obtain ⟨t, ht⟩ : ∃ t, t = tableT r := ⟨_, rfl⟩
  rw [← ht] at HTO HG ⊢
  have HSV := Lib.hid (fun bb' X (hp : TpB X bb' t) => l02Solved_any bb' t most near X hp HG.out hnr hmost)
  unfold SlsPost at HSV
  obtain ⟨o, ho⟩ : ∃ o, o = solveO near most t := ⟨_, rfl⟩
  rw [← ho] at HSV ⊢
  clear ht ho hval hk h HG
  go_enter Try.func142, Try.ntmps142
  go_upto_region 1 with fail
  refine wp_at fun W0 hW0 => ?_
  have HB0 := Lib.hid (show Below w.heap.size w W0 by subst hW0; (repeat' first | exact Below.refl _ _ | assumption | refine Below.alloc ?_ ?_ _ | refine Below.setCell ?_ ?_ _ | refine Below.drew ?_ | (simp; done) | (simp; omega)))
  have HR0 := Lib.hid (show Blk W0 w.heap.size 136 #[.int .i64 0, .slice none 0 0, .slice none 0 0] by subst hW0; exact Blk.new _ _ _)
  have hz0 := HB0.out.size
  have hz01 := HR0.out.lt
  clear hW0
  go_upto_region 2 with (go_at_call 162; refine (HTO.out W0 HB0.out).mono ?_; rintro e w1 ⟨a, n, c, b, m, d, rfl, hrt, hb1⟩; have HB1 := Lib.hid (HB0.out.trans (hb1.mono hz0)); have HR1 := Lib.hid (HR0.out.below hb1 hz01); have hz11 := hb1.size)
  refine wp_at fun W2 hW2 => ?_
  obtain ⟨q, hq⟩ : ∃ q, q = w1.heap.size := ⟨_, rfl⟩
  obtain ⟨x, hx⟩ : ∃ x : Int, x = t.vars := ⟨_, rfl⟩
  rw [← hx] at hrt hW2
  have HQ2 := Lib.hid (show Blk W2 q 136 #[.int .i64 x, .slice a n c, .slice b m d] by subst hW2 hq; exact Blk.new _ _ _)
  have HR2 := Lib.hid (show Blk W2 w.heap.size 136 #[.int .i64 0, .slice none 0 0, .slice none 0 0] by subst hW2; exact HR1.out.alloc _)
  have HB2 := Lib.hid (show Below w.heap.size w W2 by subst hW2; exact HB1.out.alloc HB1.out.size _)
  have HP2 := Lib.hid (TpB.of HQ2.out (hrt W2 (by subst hW2; exact (Kept.refl _ _).alloc _)))
  have hr2 := HR2.out.lt
  rw [← hq]
  clear hW2 hq hb1 hz11 HTO HB1 HR1 hrt hx HQ2
  go_upto_region 3 with (go_at_call 163; refine (HSV.out q W2 HP2.out).mono ?_; rintro e w3 ⟨x3, a3', n3, c3', b3, m3, d3', cnt, col, rfl, hyes, hb3⟩; have HB3 := Lib.hid (HB2.out.trans (hb3.mono HB2.out.size)); have HR3 := Lib.hid (HR2.out.below hb3 hr2))
  refine wp_at fun W4 hW4 => ?_
  obtain ⟨q4, hq4⟩ : ∃ q, q = w3.heap.size := ⟨_, rfl⟩
  have HQ4 := Lib.hid (show Blk W4 q4 136 #[.int .i64 x3, .slice a3' n3 c3', .slice b3 m3 d3'] by subst hW4 hq4; exact Blk.new _ _ _)
  have HR4 := Lib.hid (show Blk W4 w.heap.size 136 #[.int .i64 0, .slice none 0 0, .slice none 0 0] by subst hW4; exact HR3.out.alloc _)
  have HB4 := Lib.hid (show Below w.heap.size w W4 by subst hW4; exact HB3.out.alloc HB3.out.size _)
  have HFIN := Lib.hid (show ∀ Wf, Kept (· = w.heap.size) W4 Wf → BstPost o w.heap.size w (.returned (.tuple #[.agg #[.int .i64 x3, .slice a3' n3 c3', .slice b3 m3 d3'], .bool o.isSome])) Wf from fun Wf hk => ⟨_, _, _, _, _, _, _, rfl, (fun t' h' => hyes t' h' Wf (by subst hW4; exact ((Kept.refl _ _).alloc _).trans (hk.mono (by intro b _ e; rw [e]; exact hr2)))), HB4.out.trans (hk.toBelow HB4.out.size (by intro k h1 h2; omega))⟩)
  rw [← hq4]
  clear hW4 hq4 hyes hb3 HB3 HR3
  have d0 := HQ4.out.cell 0 rfl
  have d1 := HQ4.out.cell 1 rfl
  have d2 := HQ4.out.cell 2 rfl
  have r0 := HR4.out.cell 0 rfl
  have r1 := HR4.out.cell 1 rfl
  have r2 := HR4.out.cell 2 rfl
  have s0 := HR4.out.free 0
  have s1 := HR4.out.free 1
  have s2 := HR4.out.free 2
  obtain ⟨ok, hok⟩ : ∃ ok, ok = o.isSome := ⟨_, rfl⟩
  rw [← hok] at HFIN ⊢
  clear hok
  go_wp2_with fail
  refine bodyPost_ret (v := .tuple #[.agg #[.int .i64 x3, .slice a3' n3 c3', .slice b3 m3 d3'], .bool ok]) (by simp [results, Try.results142, go_sem, *]) rfl (HFIN.out _ ?_)
  repeat' first | exact Kept.refl _ _ | refine Kept.setCell ?_ (.inr (by simp)) _

/-- What 'l02Solve' and 'SolveRows' tell. -/
def SrsPost (o : Option TabD) (B : Nat) (w : World) (e : Ending) (w' : World) : Prop :=
  ∃ va vb, e = .returned (.tuple #[va, vb, .bool o.isSome]) ∧ (∀ t', o = some t' → RdF w' va (planT t') ∧ RdF w' vb (priceT t')) ∧ Below B w w'

set_option maxHeartbeats 4000000 in
set_option maxRecDepth 8000 in
theorem l02Solve_any (bb : Nat) (a1 : Option Addr) (c1 : Nat) (a2 : Option Addr) (c2 : Nat) (a3 : Option Addr) (c3 : Nat) (r : RowsD) (most near : Nat) (w : World) (hval : ValR r) (hnr : least near = true) (hmost : most ≤ 64)
    (hk : Blk w bb 67 #[.int .i64 r.vars, .slice a1 r.nums.length c1, .slice a2 r.bnds.length c2, .slice a3 r.gains.length c3]) (h : RdR w (.agg #[.int .i64 r.vars, .slice a1 r.nums.length c1, .slice a2 r.bnds.length c2, .slice a3 r.gains.length c3]) r) :
    Calls Try.prog 109 #[.pointer (some ⟨bb, 0, none⟩), .int .i64 most, .float .f32 near] w (SrsPost (solveO near most (tableT r)) w.heap.size w) := by
  have HBV := Lib.hid (l02Best_any bb a1 c1 a2 c2 a3 c3 r most near w hval hnr hmost hk h)
  have HGD := Lib.hid (fun t' (h : solveO near most (tableT r) = some t') => solveO_good most (tableT r) t' (tableT_good hval) h)
  obtain ⟨o, ho⟩ : ∃ o, o = solveO near most (tableT r) := ⟨_, rfl⟩
  rw [← ho] at HBV HGD ⊢
  clear ho hval hk h
  go_enter Try.func109, Try.ntmps109
  go_upto_region 2 with (go_at_call 142; refine HBV.out.mono ?_; rintro e w1 ⟨x, a, n, c, b, m, d, rfl, hyes, hb1⟩)
  refine wp_at fun W2 hW2 => ?_
  obtain ⟨q, hq⟩ : ∃ q, q = w1.heap.size := ⟨_, rfl⟩
  have HQ2 := Lib.hid (show Blk W2 q 136 #[.int .i64 x, .slice a n c, .slice b m d] by subst hW2 hq; exact Blk.new _ _ _)
  have HB2 := Lib.hid (show Below w.heap.size w W2 by subst hW2; exact hb1.alloc hb1.size _)
  have HY := Lib.hid (show ∀ t', o = some t' → TpB W2 q t' from fun t' h' => TpB.of HQ2.out ((hyes t' h').up (by subst hW2; exact (Below.refl _ _).alloc (Nat.le_refl _) _) (Nat.le_refl _)))
  rw [← hq]
  have hz2 := HB2.out.size
  clear hW2 hq hyes hb1 HQ2
  cases o with
  | none =>
    go_wp2_with fail
    go_ret3
    exact ⟨_, _, rfl, (fun t' h' => by cases h'), HB2.out⟩
  | some t =>
    have HG := Lib.hid (HGD.out t rfl)
    have HTP := Lib.hid (HY.out t rfl)
    have HPL := Lib.hid (l02Plan_any q t W2 HTP.out HG.out)
    have HPR := Lib.hid (fun X (hb : Below W2.heap.size W2 X) => l02Prices_any q t X (HTP.out.below hb (Nat.le_refl _)) HG.out)
    clear HY HGD HTP HG
    go_wp2_with (first
      | (go_at_call 143; refine HPL.out.mono ?_; rintro e w3 ⟨va, rfl, hva, hb3⟩; have HA := Lib.hid hva; have HB3 := Lib.hid hb3; clear hva hb3)
      | (go_at_call 144; refine (HPR.out w3 HB3.out).mono ?_; rintro e w4 ⟨vb, rfl, hvb, hb4⟩))
    go_ret3
    exact ⟨_, _, rfl, (fun t' h' => by cases h'; exact ⟨(HA.out.up hb4 (Nat.le_refl _)).rd, hvb.rd⟩), HB2.out.trans ((HB3.out.trans (hb4.mono HB3.out.size)).mono hz2)⟩

set_option maxHeartbeats 4000000 in
set_option maxRecDepth 8000 in
theorem solveRowsS_any (v : Value) (r : RowsD) (most : Int) (near : Nat) (w : World) (h : RdR w v r) :
    Calls Try.prog 85 #[v, .int .i64 most, .float .f32 near] w (SrsPost (solvO r most near) w.heap.size w) := by
  obtain ⟨a1, c1, a2, c2, a3, c3, rfl⟩ := h.shape
  have HRD := Lib.hid h
  clear h
  obtain ⟨p, hp⟩ : ∃ p, solvB r most near = p := ⟨_, rfl⟩
  have HP := Lib.hid hp
  have HCN := Lib.hid (fun bb X hk (hb : Below w.heap.size w X) => l02Can_any bb (.int .i64 r.vars) (.slice a1 r.nums.length c1) (.slice a2 r.bnds.length c2) (.slice a3 r.gains.length c3) r most near X hk (HRD.out.up hb (Nat.le_refl _)))
  rw [hp] at HCN
  clear hp
  go_enter Try.func85, Try.ntmps85
  go_upto_region 1 with fail
  refine wp_at fun W0 hW0 => ?_
  have HB0 := Lib.hid (show Below w.heap.size w W0 by subst hW0; (repeat' first | exact Below.refl _ _ | assumption | refine Below.alloc ?_ ?_ _ | refine Below.setCell ?_ ?_ _ | refine Below.drew ?_ | (simp; done) | (simp; omega)))
  have HK0 := Lib.hid (show Blk W0 w.heap.size 67 #[.int .i64 r.vars, .slice a1 r.nums.length c1, .slice a2 r.bnds.length c2, .slice a3 r.gains.length c3] by subst hW0; exact Blk.new _ _ _)
  clear hW0
  have hz0 := HB0.out.size
  cases p
  · have HNO := Lib.hid (show solvO r most near = none by unfold solvO; rw [HP.out]; rfl)
    go_wp2_with (go_at_call 108; refine (HCN.out _ W0 HK0.out HB0.out).mono ?_; rintro e w1 ⟨rfl, m1, rfl⟩)
    go_ret3
    exact ⟨_, _, by rw [HNO.out]; rfl, (fun t' h' => by rw [HNO.out] at h'; cases h'), below_drewN HB0.out _⟩
  · have hp := HP.out
    unfold solvB at hp
    rw [Bool.and_eq_true, Bool.and_eq_true] at hp
    obtain ⟨⟨h1, h2⟩, h3⟩ := hp
    have h2 := inB_iff.1 h2
    obtain ⟨M, rfl⟩ := Int.eq_ofNat_of_zero_le h2.1
    have HSV := Lib.hid (fun n => l02Solve_any w.heap.size a1 c1 a2 c2 a3 c3 r M near (W0.drewN n) (validR_iff.1 h1) h3 (by omega) HK0.out ((HRD.out.up HB0.out (Nat.le_refl _)).up (below_drewN (Below.refl _ _) n) (Nat.le_refl _)))
    have HYS := Lib.hid (show solvO r (M : Int) near = solveO near M (tableT r) by unfold solvO; rw [HP.out]; rfl)
    obtain ⟨o, ho⟩ : ∃ o, o = solveO near M (tableT r) := ⟨_, rfl⟩
    rw [← ho] at HSV HYS
    unfold SrsPost at HSV
    clear h1 h2 h3 ho
    go_wp2_with (first
      | (go_at_call 108; refine (HCN.out _ W0 HK0.out HB0.out).mono ?_; rintro e w1 ⟨rfl, m1, rfl⟩)
      | (go_at_call 109; refine (HSV.out m1).mono ?_; rintro e w2 ⟨va, vb, rfl, hab, hb2⟩))
    go_ret3
    exact ⟨_, _, by rw [HYS.out]; rfl, (by rw [HYS.out]; exact hab), HB0.out.trans ((below_drewN (Below.refl _ _) _).trans (hb2.mono (by simp; omega)))⟩

end Go.Proofs.Ytkfiepiipigcmaa
