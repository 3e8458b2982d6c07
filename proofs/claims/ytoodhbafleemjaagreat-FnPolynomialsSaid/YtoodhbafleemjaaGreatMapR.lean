/- The walk of terms: the sorted monomials of a polynomial that stands in a map; told. -/
import Derived.Test.YtoodhbafleemjaaGreatMapP
import Derived.Test.YtoodhbafleemjaaGreatKeep
import Derived.Test.YtoodhbafleemjaaGreatSort
namespace Go.Proofs.YtoodhbafleemjaaGreat
open Go.RowKit
set_option linter.unusedVariables false

theorem RanP.pushed {w0 w w' : World} {b r B K n c : Nat} {L V : List Int} {A : Option Addr} {xss : List (List Int)} (h : RanP w b r L V) (hs : StL w0 B w K A n c xss) (hg : w.grownBy w' (Value.ownBlock (.slice A n c))) : RanP w' b r L V ∧ w'.rangeLeft b r = w.rangeLeft b r := by
  obtain ⟨vs, h1, _⟩ := hs.own.rows
  refine h.kept hg (fun e => ?_) (fun e => ?_)
  · obtain ⟨cs, e2⟩ := h1.kind b e.symm
    exact h.own.noCells _ _ _ e2
  · obtain ⟨cs, e2⟩ := h1.kind r e.symm
    exact h.noCells _ _ _ e2
def RetTm (k : Nat) (L : List Int) (w : World) (e : Ending) (w' : World) : Prop := ∃ yss, RetL yss.length yss w e w' ∧ yss.Perm ((oddI L).map (decP k)) ∧ yss.Pairwise fun a b => ltL b a = false
theorem decP_take : ∀ (k : Nat) (c : Int) (j : Nat), j < k → (decP k c).take (j + 1) = (decP k c).take j ++ [c / 64 ^ j % 64]
  | 0, c, j, h => absurd h (by omega)
  | k + 1, c, 0, h => by simp [decP]
  | k + 1, c, j + 1, h => by
    have := decP_take k (c / 64) j (by omega)
    simp only [decP, List.take_succ_cons, this, List.cons_append]
    rw [Int.ediv_ediv_of_nonneg (by decide), Int.pow_succ, Int.mul_comm 64]

theorem wfI_lt {x : Int} (h : wfI x) : x < 9223372036854775808 := by
  unfold wfI litI at h
  have e1 : IntKind.i64.max = 9223372036854775807 := by decide
  have h' : (decide (IntKind.i64.min ≤ x) && decide (x ≤ IntKind.i64.max)) = true := h
  rw [e1, Bool.and_eq_true, decide_eq_true_eq, decide_eq_true_eq] at h'
  omega
theorem dec_step {k j : Nat} {x : Int} (h0 : 0 ≤ x) (h1 : wfI x) (hj : j < k) : (decP k x).take j ++ [bits .and .i64 (x / 2 ^ (6 * j)) 63] = (decP k x).take (j + 1) := by
  have e64 : (2 : Int) ^ (6 * j) = 64 ^ j := by rw [Int.pow_mul]; rfl
  have hpos : (0 : Int) < 64 ^ j := Int.pow_pos (by decide)
  have h2 : 0 ≤ x / 64 ^ j := Int.ediv_nonneg h0 (Int.le_of_lt hpos)
  have h3 : x / 64 ^ j ≤ x := Int.ediv_le_self _ h0
  rw [decP_take k x j hj, e64, and63 h2 (by have := wfI_lt h1; omega)]
theorem RetTm.mk {k n c K : Nat} {L V : List Int} {A : Option Addr} {yss : List (List Int)} {w w' : World} (h : StL w w.heap.size w' K A n c yss) (hp : yss.Perm (V.map (decP k))) (hv : V.Perm (oddI L)) (hs : yss.Pairwise fun a b => ltL b a = false) (hn : n = yss.length) :
    RetTm k L w (.returned (.slice A n c)) w' := by subst hn; exact ⟨yss, h.ret, hp.trans (hv.map _), hs⟩
set_option maxRecDepth 100000 in
theorem terms_any (b k : Nat) (L : List Int) (w : World) (hL : OwnP w b L) (fL : ∀ a ∈ L, 0 ≤ a) (hk : k ≤ 10) (nL : L.length ≤ 100000000) :
    Calls Tryz.prog 102 #[.map (some b), .int .i64 k] w (RetTm k L w) := by
  obtain ⟨R, hR⟩ : ∃ R, R = RetTm k L w := ⟨_, rfl⟩
  have HR := Lib.hid hR
  rw [← hR]
  have HL := Lib.hid hL
  have FL := Lib.hid fL
  have NL := Lib.hid nL
  obtain ⟨B, hB⟩ : ∃ B, B = w.heap.size := ⟨_, rfl⟩
  have hlt := hL.lt
  rw [← hB] at hlt
  have LT := Lib.hid hlt
  obtain ⟨w0, hw0⟩ : ∃ w0, w0 = w.alloc (.cells #[] 41) := ⟨_, rfl⟩
  have S0 : Hid (StL w B w0 w0.heap.size (some ⟨B, 0, none⟩) 0 0 []) := Lib.hid (by
    have := StL.start (Below.refl w.heap.size w) (Nat.le_refl _)
    rw [hw0, hB]
    simpa using this)
  have P0 : Hid (OwnP w0 b L) := Lib.hid (hL.below (by rw [hw0]; exact (Below.refl _ _).alloc (Nat.le_refl _) _))
  have HB := Lib.hid hB
  have HW0 := Lib.hid hw0
  clear hL fL nL hR hlt hB hw0
  go_enter Tryz.func102, Tryz.ntmps102
  go_wp2_with (first
    | (at_range; rw [← HW0.out]; refine wpList_rangeP _ rfl (.tmp 10) rfl Tryz.underlying64 rfl P0.out ?_; intro w1 h0 h1 h2; have R1 := Lib.hid h0; have B1 := Lib.hid h1; have Z1 := Lib.hid h2; clear h0 h1 h2))
  go_frame
  obtain ⟨r, hr⟩ : ∃ r, r = w0.heap.size := ⟨_, rfl⟩
  have hr0 : B ≤ r := by rw [hr]; exact S0.out.size
  rw [← hr] at R1
  rw [← hr, ← HB.out]
  have HRB := Lib.hid hr0
  have S1 : Hid (StL w B w1 w1.heap.size (some ⟨B, 0, none⟩) 0 0 []) := Lib.hid (S0.out.call B1.out).here
  clear hr hr0
  go_loopw [5, 12] (fun o _ wr => ∃ (V : List Int) (A : Option Addr) (c : Nat), o = .slice A V.length c ∧ Hid (RanP wr b r L V) ∧ Hid (StL w B wr wr.heap.size A V.length c (V.map (decP k)))) (fun _ _ wr => wr.rangeLeft b r)
  case atStart => exact ⟨[], _, _, rfl, R1, S1⟩
  case round =>
    obtain ⟨V, A, c, rfl, HR1, HS1⟩ := hrel
    go_wp2_with (at_next; refine wpList_nextP _ rfl (.tmp 11) rfl rfl HR1.out ?_ ?_)
    · intro hd
      have HD := Lib.hid hd
      clear hd
      have HSo := fun (h1 : V.length ≤ 1000000000000) => Lib.hid (sortO_any A V.length c B wr.heap.size (V.map (decP k)) wr HS1.out.own (Nat.le_refl _) h1 (by
        intro x hx
        obtain ⟨a, _, rfl⟩ := List.mem_map.1 hx
        rw [decP_len]; omega))
      have HSo := HSo (by have := HR1.out.len; have := NL.out; omega)
      go_wp2_with fail
      refine HSo.out.mono ?_
      rintro e w2 ⟨yss, rfl, hp, hs, ho, hg⟩
      have HP2 := Lib.hid hp
      have HS2 := Lib.hid hs
      have HL2 : Hid (V.length = yss.length) := Lib.hid (by have := hp.length_eq; rw [List.length_map] at this; exact this.symm)
      have HO2 : Hid (StL w B w2 wr.heap.size A V.length c yss) := Lib.hid ⟨ho, HS1.out.bel.grown hg HS1.out.size (by obtain ⟨vs, h1, _⟩ := HS1.out.own.rows; exact h1.row), HS1.out.size, hg.size⟩
      clear hp hs ho hg
      go_wp2_with fail
      rw [HR.out]
      rw [HB.out] at HO2
      exact RetTm.mk (A := A) (n := V.length) (c := c) HO2.out HP2.out HD.out HS2.out HL2.out
    · intro x w2 hx ho h1 h2 h3 h4 h5
      have hx0 := FL.out x (mem_of_odd ho)
      have hS2 := (HS1.out.turned h3 HRB.out HR1.out.noCells).here
      have N1 := Lib.hid h1
      have N2 := Lib.hid h2
      have HS2 := Lib.hid hS2
      have HX0 := Lib.hid hx0
      have HXW := Lib.hid hx
      have HT0 := Lib.hid (StS.start (Below.refl w2.heap.size w2) (Nat.le_refl _))
      have HVl : Hid (V.length ≤ 100000000) := Lib.hid (by have := HR1.out.len; have := NL.out; omega)
      clear h1 h2 h3 h4 hS2 hx0 ho hx
      go_wp2_with fail
      go_loopw [7, 18] (fun y i wz => ∃ (j c5 : Nat) (A5 : Option Addr), j ≤ k ∧ i = .int .i64 j ∧ y = .slice A5 j c5 ∧ Hid (StS w2 w2.heap.size wz A5 j c5 ((decP k x).take j))) (fun _ i _ => k - (intOf i).toNat)
      case atStart => exact ⟨0, _, _, Nat.zero_le _, rfl, rfl, HT0⟩
      case round =>
        obtain ⟨j, c5, A5, hj, rfl, rfl, HS⟩ := hrel
        by_cases hjt : j < k
        · go_wp2_with (at_builtin; refine wpList_pushI rfl (.tmp 21) (.tmp 27) rfl rfl rfl HS.out (by omega) ?_)
          intro A6 c6 w6 hs6 _
          rw [dec_step HX0.out HXW.out hjt] at hs6
          have HS6 := Lib.hid hs6
          clear hs6
          go_wp2_with fail
          go_roundw
          case rel => exact ⟨j + 1, c6, A6, by omega, by go_num, rfl, HS6⟩
          case measure => simp [intOf]; omega
        · obtain rfl : j = k := by omega
          have hU : (decP j x).take j = decP j x := by rw [List.take_of_length_le (by rw [decP_len]; exact Nat.le_refl _)]
          have hs7 := HS.out
          rw [hU] at hs7
          have HS7 := Lib.hid hs7
          have HT7 := Lib.hid (HS2.out.call hs7.bel)
          have HR7 := Lib.hid (N1.out.below hs7.bel)
          clear hs7 hU
          go_wp2_with (at_builtin; refine wpList_pushL rfl (.tmp 30) (.tmp 32) rfl rfl rfl HT7.out HS7.out.own (by have := HVl.out; omega) ?_)
          intro A6 c6 w6 hs6 hg6 _
          have HS8 := Lib.hid hs6
          have HR8 := Lib.hid (HR7.out.1.pushed HT7.out hg6)
          clear hs6 hg6
          go_wp2_with fail
          go_roundw
          case rel =>
            have e1 : (V ++ [x]).length = V.length + 1 := by simp
            exact ⟨V ++ [x], A6, c6, by rw [e1], Lib.hid HR8.out.1, Lib.hid (by rw [e1, List.map_append]; exact HS8.out)⟩
          case measure => rw [HR8.out.2, HR7.out.2]; exact N2.out
end Go.Proofs.YtoodhbafleemjaaGreat

/- told: a polynomial that stands in a map, if it has not too many terms; l08Fit. -/
namespace Go.Proofs.YtoodhbafleemjaaGreat
open Go.RowKit
set_option linter.unusedVariables false

/-- what told answers: variables, terms, code -/
def toldV (v : Int) (s : List (List Int)) : Int × List (List Int) × Int := if 2000 < s.length then (0, [], 3) else (v, s, 0)
theorem toldV_no {v : Int} {s : List (List Int)} (h : 2000 < s.length) : toldV v s = (0, [], 3) := if_pos h
theorem toldV_yes {v : Int} {s : List (List Int)} (h : ¬ 2000 < s.length) : toldV v s = (v, s, 0) := if_neg h
abbrev RetPl (o : Int × List (List Int) × Int) (w : World) (e : Ending) (w' : World) : Prop := RetNC o.1 o.2.1.length o.2.1 o.2.2 w e w'
theorem terms_of {b k : Nat} {xss : List (List Int)} {w : World} (h : OwnP w b (xss.map encP)) (hx : ∀ x ∈ xss, Mono k x) (hk : k ≤ 10) (hn : xss.length ≤ 100000000) :
    Calls Tryz.prog 102 #[.map (some b), .int .i64 k] w (RetL (oddL xss).length (oddL xss) w) :=
  (terms_any b k (xss.map encP) w h (fun a ha => by obtain ⟨x, hx1, rfl⟩ := List.mem_map.1 ha; exact encP_nonneg (hx x hx1).1) hk (by rw [List.length_map]; exact hn)).mono fun e w' ⟨yss, h1, h2, h3⟩ => by
    have := terms_eq hx h2 h3
    subst this
    exact h1
set_option maxRecDepth 100000 in
theorem told_any (b k : Nat) (xss : List (List Int)) (w : World) (h : OwnP w b (xss.map encP)) (hx : ∀ x ∈ xss, Mono k x) (hk : k ≤ 10) (hn : xss.length ≤ 100000000) :
    Calls Tryz.prog 48 #[.int .i64 k, .map (some b)] w (RetPl (toldV k (oddL xss)) w) := by
  obtain ⟨w0, r, hw0, hbe, hb0, hz0, hF⟩ := start1 w (.int .i64 0) (.slice none 0 0) 26
  have H := Lib.hid (h.below hb0)
  have HX := Lib.hid hx
  have HN := Lib.hid hn
  have Hw := Lib.hid hw0
  have Hbe := Lib.hid hbe
  have Hb0 := Lib.hid hb0
  have HZ := Lib.hid hz0
  have F0 := Lib.hid hF
  obtain ⟨m, hm⟩ : ∃ m, m = (oddL xss).length := ⟨_, rfl⟩
  have HM := Lib.hid (show (oddI (xss.map encP)).length = m from by rw [hm]; exact oddL_size hx)
  obtain ⟨o, ho⟩ : ∃ o, o = toldV k (oddL xss) := ⟨_, rfl⟩
  have HO := Lib.hid ho
  have hcase : (Hid (2000 < m) ∧ Hid (o = (0, [], 3))) ∨ (Hid (¬ 2000 < m) ∧ Hid (o = ((k : Int), oddL xss, 0))) := by
    by_cases h1 : 2000 < m
    · exact .inl ⟨Lib.hid h1, Lib.hid (by rw [ho]; exact toldV_no (by omega))⟩
    · exact .inr ⟨Lib.hid h1, Lib.hid (by rw [ho]; exact toldV_yes (by omega))⟩
  rw [← ho]
  clear h hx hn hw0 hbe hb0 hz0 hF hm ho
  have q0 := F0.out.at_ (b := r) (o := 0) (V := .int .i64 0) (by simp)
  have q1 := F0.out.at_ (b := r) (o := 1) (V := .slice none 0 0) (by simp)
  have f0 := F0.out.fr (b := r) (o := 0) (V := .int .i64 0) (by simp)
  have f1 := F0.out.fr (b := r) (o := 1) (V := .slice none 0 0) (by simp)
  rcases hcase with ⟨hA, hV⟩ | ⟨hA, hV⟩
  · have hl : decide ((2000 : Int) < m) = true := decide_eq_true (by have := hA.out; omega)
    have hres := cells_end q0 q1 (.int .i64 0) (.slice none 0 0)
    go_enter Tryz.func48, Tryz.ntmps48
    go_wp2_with (at_len; rw [← Hw.out, ← Hbe.out]; refine wpList_lenP _ rfl (.tmp 6) rfl Tryz.underlying64 rfl H.out ?_; rw [HM.out])
    refine bodyPost_ret (v := .tuple #[.agg #[.int .i64 0, .slice none 0 0], .int .i64 3]) (by simp [results, Tryz.results48, go_sem, hres.1, hres.2]) rfl ?_
    exact RetNC.bad (by rw [hV.out]) (by rw [hV.out]) (by rw [hV.out]) Hb0.out (by rw [Hbe.out]; omega)
  · have hl : decide ((2000 : Int) < m) = false := decide_eq_false (by have := hA.out; omega)
    have HT := Lib.hid (terms_of H.out HX.out hk HN.out)
    go_enter Tryz.func48, Tryz.ntmps48
    go_wp2_with (at_len; rw [← Hw.out, ← Hbe.out]; refine wpList_lenP _ rfl (.tmp 6) rfl Tryz.underlying64 rfl H.out ?_; rw [HM.out])
    refine HT.out.mono ?_
    rintro e w2 ⟨A2, c2, rfl, ho2, hb2⟩
    have O2 := Lib.hid ho2
    have B2 := Lib.hid hb2
    clear ho2 hb2 q0 q1 f0 f1
    have q0 := (F0.out.below B2.out).at_ (b := r) (o := 0) (V := .int .i64 0) (by simp)
    have q1 := (F0.out.below B2.out).at_ (b := r) (o := 1) (V := .slice none 0 0) (by simp)
    have f0 := (F0.out.below B2.out).fr (b := r) (o := 0) (V := .int .i64 0) (by simp)
    have f1 := (F0.out.below B2.out).fr (b := r) (o := 1) (V := .slice none 0 0) (by simp)
    have hres := cells_end q0 q1 (.int .i64 k) (.slice A2 (oddL xss).length c2)
    go_wp2_with fail
    refine bodyPost_ret (v := .tuple #[.agg #[.int .i64 k, .slice A2 (oddL xss).length c2], .int .i64 0]) (by simp [results, Tryz.results48, go_sem, hres.1, hres.2]) rfl ?_
    exact RetNC.mk (V := w0.heap.size) (by rw [hV.out]) (by rw [hV.out]) (by rw [hV.out]) (by rw [hV.out]) (Hb0.out.trans (B2.out.mono Hb0.out.size)) (by rw [Hbe.out]; omega) (by rw [HZ.out]; omega) (O2.out.m (Nat.le_refl _)) (Nat.le_refl _)
end Go.Proofs.YtoodhbafleemjaaGreat
