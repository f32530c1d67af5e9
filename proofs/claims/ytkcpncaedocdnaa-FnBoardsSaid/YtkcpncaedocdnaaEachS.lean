/-
  Squares: the program that tells each square to a function that answers the same at every call.
-/
import Derived.Test.YtkcpncaedocdnaaCells
namespace Go.Proofs.Ytkcpncaedocdnaa
open Go.RowKit

set_option maxHeartbeats 1000000 in
theorem isSquare_any (n top : Int) (ht : top ≤ 5) (v : Value) (xs : List Int) (w : World) (h : RdI w v xs) :
    Calls Try.prog 105 #[.int .i64 n, v, .int .i64 top] w fun e w' => (CellsOk n top xs ∧ e = .returned (.bool true) ∨ ¬ CellsOk n top xs ∧ e = .returned (.bool false)) ∧ w = w' := by
  obtain ⟨a, c, rfl⟩ := h.shape
  have hl := h.len
  have hl2 := hl
  unfold maxLen at hl
  have HS := Lib.hid h
  have HL2 := Lib.hid hl2
  clear h hl2
  by_cases hA : 1 ≤ n ∧ n ≤ top
  case neg =>
    have hin := inB_false hA
    have HA := Lib.hid hA
    clear hA
    go_enter Try.func105, Try.ntmps105
    go_wp2_with (go_at_call 99; refine (within_any _ _ _ _).mono ?_; rintro e w' ⟨rfl, rfl⟩)
    go_ret
    exact ⟨.inr ⟨fun x => HA.out x.1, rfl⟩, rfl⟩
  have hin := inB_true hA
  obtain ⟨N, rfl⟩ := Int.eq_ofNat_of_zero_le (by omega : 0 ≤ n)
  obtain ⟨hA1, hA2⟩ := hA
  obtain ⟨m, hm⟩ : ∃ m, m = N * N := ⟨_, rfl⟩
  have q1 : (N : Int) * (N : Int) = (m : Int) := by rw [hm]; exact (Int.natCast_mul N N).symm
  have hm25 : m ≤ 25 := by rw [hm]; exact Nat.mul_le_mul (by omega : N ≤ 5) (by omega : N ≤ 5)
  have HM := Lib.hid hm
  clear hm
  by_cases hB : xs.length = m
  case neg =>
    have hB' : ((xs.length : Int) == (m : Int)) = false := by simp; omega
    have HB := Lib.hid hB
    clear hB
    go_enter Try.func105, Try.ntmps105
    go_wp2_with (first
      | (go_at_call 99; refine (within_any _ _ _ _).mono ?_; rintro e w' ⟨rfl, rfl⟩)
      | (go_at_call 95; refine (size_any _ _ HL2.out).mono ?_; rintro e w' ⟨rfl, rfl⟩))
    go_ret
    exact ⟨.inr ⟨fun x => HB.out (by have := x.2.1; rw [HM.out]; exact_mod_cast this), rfl⟩, rfl⟩
  have hB' : ((xs.length : Int) == (m : Int)) = true := by simp; omega
  have HB := Lib.hid hB
  clear hB
  go_enter Try.func105, Try.ntmps105
  go_wp2_with (first
    | (go_at_call 99; refine (within_any _ _ _ _).mono ?_; rintro e w' ⟨rfl, rfl⟩)
    | (go_at_call 95; refine (size_any _ _ HL2.out).mono ?_; rintro e w' ⟨rfl, rfl⟩)
    | (go_at_call 127; refine (allWithin_any _ xs _ _ _ HS.out).mono ?_; rintro e w' ⟨rfl, rfl⟩))
  go_ret
  refine ⟨?_, rfl⟩
  by_cases hC : allIn 0 N xs = true
  · exact .inl ⟨⟨⟨hA1, hA2⟩, by rw [HB.out]; exact q1.symm, hC⟩, congrArg (fun b => Ending.returned (.bool b)) hC⟩
  · exact .inr ⟨fun x => hC x.2.2, congrArg (fun b => Ending.returned (.bool b)) (by rwa [Bool.not_eq_true] at hC)⟩

/-- What is told, and what is answered, where each call answers c. -/
def visS (c : Bool) (l : List (List Int)) : List (List Int) := if c then l else l.take 1
def retS (c : Bool) (l : List (List Int)) : Bool := c || l.isEmpty
theorem vis_go {c : Bool} {l m : List (List Int)} (h : retS c l = true) : visS c (l ++ m) = visS c l ++ visS c m ∧ retS c (l ++ m) = retS c m := by
  cases c with
  | true => simp [visS, retS]
  | false =>
    have : l = [] := by simpa [retS] using h
    subst this
    simp [visS]
theorem vis_stop {c : Bool} {l m : List (List Int)} (h : retS c l = false) : visS c (l ++ m) = visS c l ∧ retS c (l ++ m) = false := by
  cases c with
  | true => simp [retS] at h
  | false =>
    cases l with
    | nil => simp [retS] at h
    | cons s r => simp [visS, retS]
theorem vis_le {c : Bool} {l m : List (List Int)} : (visS c l).length ≤ (visS c (l ++ m)).length := by
  cases c with
  | true => simp [visS]
  | false => simp [visS]; omega

/-- What the program has found when it comes to the number low + k. -/
def ipart (n f : Nat) (sq : List Int) (i : Nat) (low : Int) (k : Nat) : List (List Int) :=
  ((List.range k).map fun (q : Nat) => low + (q : Int)).flatMap fun v => if fitsB n sq i v then isols n f (sq.set i v) (i + 1) else []
theorem ipart_succ (n f : Nat) (sq : List Int) (i : Nat) (low : Int) (k : Nat) : ipart n f sq i low (k + 1) = ipart n f sq i low k ++ if fitsB n sq i (low + k) then isols n f (sq.set i (low + k)) (i + 1) else [] := by
  simp only [ipart, List.range_succ, List.map_append, List.flatMap_append, List.map_cons, List.map_nil, List.flatMap_cons, List.flatMap_nil, List.append_nil]
theorem ipart_le (n f : Nat) (sq : List Int) (i : Nat) (low : Int) (k : Nat) : ∀ d, ∃ m, ipart n f sq i low (k + d) = ipart n f sq i low k ++ m
  | 0 => ⟨[], by simp⟩
  | d + 1 => by
    obtain ⟨m, hm⟩ := ipart_le n f sq i low k d
    rw [← Nat.add_assoc, ipart_succ, hm, List.append_assoc]
    exact ⟨_, rfl⟩
theorem ipart_all (n f : Nat) (sq : List Int) (i : Nat) (low high : Int) (cnt : Nat) (h : 0 < sq.getD i 0 ∧ low = sq.getD i 0 ∧ high = sq.getD i 0 ∨ ¬ 0 < sq.getD i 0 ∧ low = 1 ∧ high = n) (hc : (cnt : Int) = high + 1 - low) : isols n (f + 1) sq i = ipart n f sq i low cnt := by
  simp only [isols, ipart]
  congr 1
  rcases h with ⟨h1, h2, h3⟩ | ⟨h1, h2, h3⟩
  · obtain rfl : cnt = 1 := by omega
    rw [show cands n sq i = [sq.getD i 0] from if_pos h1, h2]; simp
  · obtain rfl : cnt = n := by omega
    simp only [cands, h1, if_false, oneTo, h2]
    apply List.map_congr_left
    intro q _
    omega

/-- Are all the first j rounds free of a clash? -/
def freeB (n : Nat) (sq : List Int) (i : Nat) (x : Int) (j : Nat) : Bool := (List.range j).all fun k => !clashB n sq i x k
theorem freeB_succ (n : Nat) (sq : List Int) (i : Nat) (x : Int) (j : Nat) : freeB n sq i x (j + 1) = (freeB n sq i x j && !clashB n sq i x j) := by
  simp [freeB, List.range_succ, List.all_append]

set_option maxHeartbeats 8000000 in
set_option maxRecDepth 4000 in
theorem eachSquare_any (n : Nat) (hn1 : 1 ≤ n) (hn5 : n ≤ 5) (c : Bool) (M : Nat) (g : FuncId) (hent : ∀ (args : Array Value) (w : World), (callFunc g args).run Try.prog w = .ok (.enter g args) w) (caps : Array Value) (B0 : Nat) (S : Nat → Prop) (hS : ∀ b, S b → b < B0) (I : List (List Int) → World → Prop)
    (hI : ∀ done w w', I done w → Below w.heap.size w w' → I done w')
    (hT : ∀ done (s : List Int) (a : Option Addr) (cap m : Nat) (w : World), s.length = m → m = n * n → w.ownsRow B0 2 1 (.slice a m cap) m (s.map I64) → (done ++ [s]).length ≤ M → I done w →
      Calls Try.prog g (#[.slice a m cap] ++ caps) w fun e w' => e = .returned (.bool c) ∧ I (done ++ [s]) w' ∧ Kept S w w')
    (f : Nat) : ∀ (a : Option Addr) (cap : Nat) (sq : List Int) (w : World) (done : List (List Int)) (m i : Nat), i + f = n * n → sq.length = m → m = n * n → (∀ v ∈ sq, 0 ≤ v ∧ v ≤ n) →
    B0 ≤ w.heap.size → (f = 0 → w.ownsRow B0 2 1 (.slice a m cap) m (sq.map I64)) → (∀ w', Kept S w w' → RdI w' (.slice a m cap) sq) → I done w → (done ++ visS c (isols n f sq i)).length ≤ M →
    Calls Try.prog 106 #[.int .i64 n, .slice a m cap, .int .i64 i, .func (.func g) #[] caps] w fun e w' =>
      e = .returned (.bool (retS c (isols n f sq i))) ∧ I (done ++ visS c (isols n f sq i)) w' ∧ Kept S w w' := by
  have hnn : n * n ≤ 25 := Nat.mul_le_mul hn5 hn5
  obtain ⟨mm, hmm⟩ : ∃ mm, mm = n * n := ⟨_, rfl⟩
  have q1 : (n : Int) * (n : Int) = (mm : Int) := by rw [hmm]; exact (Int.natCast_mul n n).symm
  have hmm25 : mm ≤ 25 := by omega
  induction f with
  | zero =>
    intro a cap sq w done m i hi hlen hm hrng hB hs hrd hinv hcount
    subst hlen
    have hii : ((i : Int) == (mm : Int)) = true := by simp; omega
    have HT := Lib.hid (hT done sq a cap sq.length w rfl hm (hs rfl) (by simpa [isols, visS] using hcount) hinv)
    have HC := Lib.hid hcount
    clear hs hT hI hinv hrd hcount hm hmm hnn hi
    go_enter Try.func106, Try.ntmps106
    go_wp2_with fail
    refine HT.out.mono ?_
    rintro e w1 ⟨rfl, hi1, hk1⟩
    have HI1 := Lib.hid hi1
    have HK1 := Lib.hid hk1
    clear hi1 hk1 HT
    go_wp2_with fail
    go_ret
    exact ⟨by simp [isols, retS], by simpa [isols, visS] using HI1.out, HK1.out⟩
  | succ f ih =>
    intro a cap sq w done m i hi hlen hm hrng hB hs hrd hinv hcount
    subst hlen
    have hii : ((i : Int) == (mm : Int)) = false := by simp; omega
    have hil : i < sq.length := by omega
    have hi25 : i < 25 := by omega
    have hsl25 : sq.length ≤ 25 := by omega
    obtain ⟨r, hr⟩ : ∃ r, r = i / n := ⟨_, rfl⟩
    obtain ⟨cc, hcc⟩ : ∃ cc, cc = i % n := ⟨_, rfl⟩
    have hrn : r < n := by rw [hr]; exact Nat.div_lt_of_lt_mul (by omega)
    have hcn : cc < n := by rw [hcc]; exact Nat.mod_lt _ hn1
    have q2 : (i : Int) / (n : Int) = (r : Int) := by rw [hr]; exact (Int.natCast_ediv i n).symm
    have q3 : (i : Int) % (n : Int) = (cc : Int) := by rw [hcc]; exact (Int.natCast_emod i n).symm
    obtain ⟨mr, hmr⟩ : ∃ mr, mr = r * n := ⟨_, rfl⟩
    have hmb : mr + n ≤ n * n := by
      have : (r + 1) * n ≤ n * n := Nat.mul_le_mul_right n hrn
      rw [hmr]; rw [Nat.add_mul] at this; omega
    have hmr25 : mr ≤ 25 := by omega
    have q4 : (r : Int) * (n : Int) = (mr : Int) := by rw [hmr]; exact (Int.natCast_mul r n).symm
    obtain ⟨x, hx⟩ : ∃ x, x = sq.getD i 0 := ⟨_, rfl⟩
    have hxb : 0 ≤ x ∧ x ≤ n := by
      have : sq.getD i 0 = sq[i] := by simp [hil]
      rw [hx, this]; exact hrng _ (List.getElem_mem hil)
    obtain ⟨hx0, hxn⟩ := hxb
    have h0 := hrd w (Kept.refl _ _)
    obtain ⟨b, off, rfl, hb0, hc0⟩ := h0.at hil
    rw [← hx] at hc0
    have HRD := Lib.hid hrd
    have HII := Lib.hid hinv
    have HC := Lib.hid hcount
    have HT := Lib.hid hT
    have HI := Lib.hid hI
    have HIH := Lib.hid ih
    have HL := Lib.hid hm
    have HSS := Lib.hid hS
    have HRG := Lib.hid hrng
    have HMM := Lib.hid hmm
    have HX := Lib.hid hx
    have HR := Lib.hid hr
    have HCC := Lib.hid hcc
    have HMR := Lib.hid hmr
    have HMB := Lib.hid hmb
    have HIN := Lib.hid hi
    have HNN := Lib.hid hnn
    have HBB := Lib.hid hb0
    clear hs hT hI ih hm hinv hcount hS hrng hmm hx hr hcc hmr hmb hi hnn hrd h0 hb0
    go_enter Try.func106, Try.ntmps106
    have key : ∃ (low high : Int) (cnt : Nat), (0 < x ∧ low = x ∧ high = x ∨ ¬ 0 < x ∧ low = 1 ∧ high = n) ∧ (cnt : Int) = high + 1 - low ∧ 1 ≤ low ∧ high ≤ n := by
      by_cases h : 0 < x
      · exact ⟨x, x, 1, .inl ⟨h, rfl, rfl⟩, by omega, by omega, by omega⟩
      · exact ⟨1, n, n, .inr ⟨h, rfl, rfl⟩, by omega, by omega, by omega⟩
    obtain ⟨low, high, cnt, hcase, hcnt, hlow1, hhighn⟩ := key
    have HE := Lib.hid (ipart_all n f sq i low high cnt (by rw [← HX.out]; exact hcase) hcnt)
    rcases hcase with ⟨hx1, hlow, hhigh⟩ | ⟨hx1, hlow, hhigh⟩
    focus (go_wp2_with fail; go_quiet (fail); go_wp2_with fail)
    rotate_left
    focus (go_wp2_with fail)

    all_goals
      refine wp_at fun W hW => ?_
      have HW := Lib.hid (show Below w.heap.size w W by subst hW; first | exact below_drewN (Below.refl _ _) _ | exact Below.refl _ _)
      clear hW
      go_loopw [11] (fun v wr => ∃ k : Nat, v = .int .i64 (low + k) ∧ k ≤ cnt ∧ I (done ++ visS c (ipart n f sq i low k)) wr ∧ retS c (ipart n f sq i low k) = true ∧ Kept S w wr) (fun v _ => cnt - (intOf v - low).toNat)
      case atStart => exact ⟨0, by rw [hlow]; simp, Nat.zero_le _, by simpa [ipart, visS] using HI.out _ _ _ HII.out HW.out, by simp [ipart, retS], Kept.of_below HW.out (Nat.le_refl _)⟩
      case round =>
        obtain ⟨k, rfl, hk, hi1, hret, hkp⟩ := hrel
        have hr1 := HRD.out _ hkp
        have HS1 := Lib.hid hr1
        have HI1 := Lib.hid hi1
        have HK1 := Lib.hid hkp
        have HRT := Lib.hid hret
        clear hi1 hkp hr1 hret
        by_cases hlt : k < cnt
        · obtain ⟨v, hv⟩ : ∃ v, v = low + (k : Int) := ⟨_, rfl⟩
          rw [← hv]
          have hv1 : 1 ≤ v := by omega
          have hvh : v ≤ high := by omega
          have hvn : v ≤ n := by omega
          have HV := Lib.hid hv
          clear hv
          go_wp2_with fail
          obtain ⟨wo, hwo⟩ : ∃ wo : World, wo = wr := ⟨_, rfl⟩
          go_loopw [12, 13] (fun fr j wi => ∃ q : Nat, j = .int .i64 q ∧ q ≤ n ∧ fr = .bool (freeB n sq i v q) ∧ Below wo.heap.size wo wi) (fun _ j _ => n - (intOf j).toNat)
          case atStart => exact ⟨0, rfl, Nat.zero_le _, by simp [freeB], by rw [hwo]; exact Below.refl _ _⟩
          case round =>
            obtain ⟨j, rfl, hj, rfl, hbl⟩ := hrel
            have hrw := HS1.out.up (by rw [hwo] at hbl; exact hbl) (Nat.le_refl _)
            have HBL := Lib.hid hbl
            clear hbl
            by_cases hjl : j < n
            · obtain ⟨t, ht⟩ : ∃ t, t = j * n := ⟨_, rfl⟩
              have htb : t + n ≤ n * n := by
                have : (j + 1) * n ≤ n * n := Nat.mul_le_mul_right n hjl
                rw [ht]; rw [Nat.add_mul] at this; omega
              have q5 : (j : Int) * (n : Int) = (t : Int) := by rw [ht]; exact (Int.natCast_mul j n).symm
              obtain ⟨b', off', e, _, hc1⟩ := hrw.at (i := mr + j) (by have := HL.out; have := HMB.out; omega)
              simp only [Option.some.injEq, Addr.mk.injEq, and_true] at e
              obtain ⟨rfl, rfl⟩ := e
              obtain ⟨_, _, e, _, hc2⟩ := hrw.at (i := t + cc) (by have := HL.out; omega)
              simp only [Option.some.injEq, Addr.mk.injEq, and_true] at e
              obtain ⟨rfl, rfl⟩ := e
              obtain ⟨p, hp⟩ : ∃ p, p = sq.getD (mr + j) 0 := ⟨_, rfl⟩
              obtain ⟨q, hq⟩ : ∃ q, q = sq.getD (t + cc) 0 := ⟨_, rfl⟩
              rw [← hp] at hc1
              rw [← hq] at hc2
              have ht25 : t ≤ 25 := by have := HNN.out; omega
              have i1 : (mr : Int) + j < sq.length := by have := HL.out; have := HMB.out; omega
              have i2 : (t : Int) + cc < sq.length := by have := HL.out; omega
              obtain ⟨F, hF⟩ : ∃ F, F = freeB n sq i v j := ⟨_, rfl⟩
              have HK := Lib.hid (show freeB n sq i v (j + 1) = (F && ((((mr : Int) + j == i) || p != v) && (((t : Int) + cc == i) || q != v))) by
                rw [freeB_succ, ← hF, clash_eq n sq i v p q j (by rw [← HR.out, ← HMR.out]; exact hp) (by rw [← HCC.out, ← ht]; exact hq), ← HR.out, ← HMR.out, ← HCC.out, ← ht]
                have a1 : (mr + j != i) = !((mr : Int) + j == i) := by rw [Bool.eq_iff_iff]; simp; omega
                have a2 : (t + cc != i) = !((t : Int) + cc == i) := by rw [Bool.eq_iff_iff]; simp; omega
                rw [a1, a2]
                cases ((mr : Int) + j == i) <;> cases ((t : Int) + cc == i) <;> simp [bne])
              rw [← hF]
              clear hp hq ht htb hF hrw
              have w1 : IntKind.i64.wrap ((mr : Int) + j) = (mr : Int) + j := IntWalk.i64_in _ (by omega)
              have w2 : IntKind.i64.wrap ((t : Int) + cc) = (t : Int) + cc := IntWalk.i64_in _ (by omega)
              have w3 : IntKind.i64.wrap (mr : Int) = mr := IntWalk.i64_in _ (by omega)
              have w4 : IntKind.i64.wrap (t : Int) = t := IntWalk.i64_in _ (by omega)
              have w5 : IntKind.i64.wrap (r : Int) = r := IntWalk.i64_in _ (by omega)
              have w6 : IntKind.i64.wrap (cc : Int) = cc := IntWalk.i64_in _ (by omega)
              go_wp2_with fail
              go_quiet (fail)
              clear w1 w2 w3 w4 w5 w6
              have HBN := Lib.hid (below_drewN HBL.out nq)
              clear HBL hc0
              cases F
              case false =>
                go_wp2_with fail
                go_roundw
                case rel => exact ⟨j + 1, by go_num, by omega, by rw [HK.out]; rfl, HBN.out⟩
                case measure => simp [intOf]; omega
              by_cases e1 : ((mr : Int) + j == i) = true
              · by_cases e2 : ((t : Int) + cc == i) = true
                · go_wp2_with fail
                  go_roundw
                  case rel => exact ⟨j + 1, by go_num, by omega, by rw [HK.out, e1, e2]; rfl, HBN.out⟩
                  case measure => simp [intOf]; omega
                · rw [Bool.not_eq_true] at e2
                  by_cases e3 : (q != v) = true
                  · go_wp2_with fail
                    go_roundw
                    case rel => exact ⟨j + 1, by go_num, by omega, by rw [HK.out, e1, e2, e3]; rfl, HBN.out⟩
                    case measure => simp [intOf]; omega
                  · rw [Bool.not_eq_true] at e3
                    go_wp2_with fail
                    go_roundw
                    case rel => exact ⟨j + 1, by go_num, by omega, by rw [HK.out, e1, e2, e3]; rfl, HBN.out⟩
                    case measure => simp [intOf]; omega
              · rw [Bool.not_eq_true] at e1
                by_cases e4 : (p != v) = true
                · by_cases e2 : ((t : Int) + cc == i) = true
                  · go_wp2_with fail
                    go_roundw
                    case rel => exact ⟨j + 1, by go_num, by omega, by rw [HK.out, e1, e4, e2]; rfl, HBN.out⟩
                    case measure => simp [intOf]; omega
                  · rw [Bool.not_eq_true] at e2
                    by_cases e3 : (q != v) = true
                    · go_wp2_with fail
                      go_roundw
                      case rel => exact ⟨j + 1, by go_num, by omega, by rw [HK.out, e1, e4, e2, e3]; rfl, HBN.out⟩
                      case measure => simp [intOf]; omega
                    · rw [Bool.not_eq_true] at e3
                      go_wp2_with fail
                      go_roundw
                      case rel => exact ⟨j + 1, by go_num, by omega, by rw [HK.out, e1, e4, e2, e3]; rfl, HBN.out⟩
                      case measure => simp [intOf]; omega
                · rw [Bool.not_eq_true] at e4
                  go_wp2_with fail
                  go_roundw
                  case rel => exact ⟨j + 1, by go_num, by omega, by rw [HK.out, e1, e4]; rfl, HBN.out⟩
                  case measure => simp [intOf]; omega
            · obtain rfl : j = n := by omega
              clear hc0 hj hjl
              rw [hwo] at HBL
              clear hwo
              have HRW := Lib.hid hrw
              clear hrw
              by_cases hft : fitsB j sq i v = true
              case neg =>
                have hfr : freeB j sq i v j = false := by rw [Bool.not_eq_true] at hft; exact hft
                rw [hfr]
                have HP := Lib.hid (show ipart j f sq i low (k + 1) = ipart j f sq i low k by rw [ipart_succ, ← HV.out, if_neg hft, List.append_nil])
                clear hft
                go_wp2_with fail
                go_roundw
                case rel => exact ⟨k + 1, by rw [HV.out]; go_num, by omega, by rw [HP.out]; exact HI.out _ _ _ HI1.out HBL.out, by rw [HP.out]; exact HRT.out, HK1.out.below HBL.out HK1.out.size⟩
                case measure => rw [HV.out]; simp [intOf]; omega
              have hfr : freeB j sq i v j = true := hft
              rw [hfr]
              have HP := Lib.hid (show ipart j f sq i low (k + 1) = ipart j f sq i low k ++ isols j f (sq.set i v) (i + 1) by rw [ipart_succ, ← HV.out, if_pos hft])
              have HVG := Lib.hid (vis_go (m := isols j f (sq.set i v) (i + 1)) HRT.out)
              have HEQ := Lib.hid (show ∃ m, ipart j f sq i low cnt = ipart j f sq i low (k + 1) ++ m by
                have := ipart_le j f sq i low (k + 1) (cnt - (k + 1)); rwa [show k + 1 + (cnt - (k + 1)) = cnt by omega] at this)
              clear hft hfr
              go_wp2_with fail
              refine (copyInts_any _ cap sq wr HRW.out (by omega)).mono ?_
              rintro e w1 ⟨g1, cap1, rfl, hown, hbl⟩
              have hd := hown.cellAt i (by omega)
              have hfz := hown.frozenAt i
              have HO := Lib.hid (OwnI.mk hown)
              have HB1 := Lib.hid hbl
              clear hown hbl
              obtain ⟨y, hy⟩ : ∃ y, (sq.map I64)[i]? = some (.int .i64 y) := ⟨sq[i], by simp [I64, hil]⟩
              rw [hy] at hd
              clear hy
              go_wp2_with fail
              refine Calls.at fun W2 hW2 => ?_
              have ho := Lib.hid (show OwnI wr.heap.size w1.heap.size W2 (.slice (some ⟨g1, 0, none⟩) sq.length cap1) (sq.set i v) by subst hW2; exact HO.out.set rfl i v)
              have hbW := Lib.hid (show Below wr.heap.size wr W2 by subst hW2; exact HB1.out.setCell (p := ⟨g1, i, none⟩) (owns_lt HO.out.1 rfl).1 _)
              clear hW2 hd hfz HO HB1
              have hwi := Lib.hid (HBL.out.trans (hbW.out.mono HBL.out.size))
              have hBw : B0 ≤ wr.heap.size := by have := HBL.out.size; have := HK1.out.size; omega
              have hlen2 : (sq.set i v).length = sq.length := List.length_set
              have HIH1 := Lib.hid (HIH.out (some ⟨g1, 0, none⟩) cap1 (sq.set i v) W2 (done ++ visS c (ipart j f sq i low k)) sq.length (i + 1) (by have := HIN.out; omega) hlen2 HL.out
                (fun u hu => by
                  rcases List.mem_or_eq_of_mem_set hu with h | rfl
                  · exact HRG.out u h
                  · omega)
                (Nat.le_trans hBw hbW.out.size)
                (fun _ => by have := owns_base ho.out.1 hBw; rwa [hlen2] at this)
                (fun w' hk' => slc_of_owns (owns_kept ho.out.1 hk' (fun g hg hs => by have := (owns_lt ho.out.1 hg).1; have := HSS.out g hs; omega)))
                (HI.out _ _ _ HI1.out hwi.out)
                (by
                  have h1 := HC.out
                  rw [HE.out] at h1
                  obtain ⟨m, hm⟩ := HEQ.out
                  rw [hm] at h1
                  have h2 := vis_le (c := c) (l := ipart j f sq i low (k + 1)) (m := m)
                  rw [HP.out, HVG.out.1, List.length_append] at h2
                  rw [HP.out] at h1
                  simp only [List.length_append] at h1 ⊢
                  omega))
              clear hlen2
              refine HIH1.out.mono ?_
              rintro e w3 ⟨rfl, hi3, hk3⟩
              have HI3 := Lib.hid hi3
              have HK3 := Lib.hid ((HK1.out.below hwi.out HK1.out.size).trans hk3)
              clear hi3 hk3 HIH1
              by_cases hr3 : retS c (isols j f (sq.set i v) (i + 1)) = true
              · rw [hr3]
                have HR3 := Lib.hid hr3
                clear hr3
                go_wp2_with fail
                go_roundw
                case rel => exact ⟨k + 1, by rw [HV.out]; go_num, by omega, by rw [HP.out, HVG.out.1, ← List.append_assoc]; exact HI3.out, by rw [HP.out, HVG.out.2]; exact HR3.out, HK3.out⟩
                case measure => rw [HV.out]; simp [intOf]; omega
              · rw [Bool.not_eq_true] at hr3
                rw [hr3]
                have HR3 := Lib.hid hr3
                clear hr3
                go_wp2_with fail
                go_ret
                obtain ⟨m, hm⟩ := HEQ.out
                have h4 := vis_stop (m := m) (show retS c (ipart j f sq i low (k + 1)) = false by rw [HP.out, HVG.out.2]; exact HR3.out)
                exact ⟨by rw [HE.out, hm, h4.2]; rfl, by rw [HE.out, hm, h4.1, HP.out, HVG.out.1, ← List.append_assoc]; exact HI3.out, HK3.out⟩
        · obtain rfl : k = cnt := by omega
          go_wp2_with fail
          go_ret
          exact ⟨by rw [HE.out, HRT.out]; rfl, by rw [HE.out]; exact HI1.out, HK1.out⟩

end Go.Proofs.Ytkcpncaedocdnaa
