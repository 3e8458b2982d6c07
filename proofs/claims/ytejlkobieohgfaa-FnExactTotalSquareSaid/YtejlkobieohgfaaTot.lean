/- TotalSquare on the program's side. -/
import Derived.Test.YtejlkobieohgfaaSquO
import Derived.Test.YtejlkobieohgfaaPlm
namespace Go.Proofs.Ytejlkobieohgfaa
open Go.RowKit
set_option linter.unusedVariables false

def totP (v : Int) (f : List (List Int)) (n : Nat) : Pls := (List.range n).map fun i => ((squO v f (i : Nat)).1, (squO v f (i : Nat)).2.1)
theorem totP_succ (v : Int) (f : List (List Int)) (n : Nat) : totP v f (n + 1) = totP v f n ++ [((squO v f (n : Nat)).1, (squO v f (n : Nat)).2.1)] := by
  unfold totP; rw [List.range_succ, List.map_append]; rfl
theorem totP_length (v : Int) (f : List (List Int)) (n : Nat) : (totP v f n).length = n := by simp [totP]
def totO (v : Int) (f : List (List Int)) : Pls × Int :=
  if polB v f = true then (if 40 < 2 * degL f then ([], 3) else
    match (List.range ((degL f).toNat + 1)).find? (fun i => (squO v f (i : Nat)).2.2 != 0) with
    | some i => ([], (squO v f (i : Nat)).2.2)
    | none => (totP v f ((degL f).toNat + 1), 0)) else ([], 1)
theorem totO_bad {v : Int} {f : List (List Int)} (h : polB v f = false) : totO v f = ([], 1) := by unfold totO; rw [if_neg (by rw [h]; simp)]
theorem totO_lim {v : Int} {f : List (List Int)} (h : polB v f = true) (h2 : 40 < 2 * degL f) : totO v f = ([], 3) := by unfold totO; rw [if_pos h, if_pos h2]
theorem totO_hit {v : Int} {f : List (List Int)} {D k : Nat} (h : polB v f = true) (h2 : 2 * degL f ≤ 40) (hD : degL f = D) (hk : k ≤ D) (h3 : ∀ j < k, (squO v f (j : Nat)).2.2 = 0) (h4 : (squO v f (k : Nat)).2.2 ≠ 0) : totO v f = ([], (squO v f (k : Nat)).2.2) := by
  unfold totO
  rw [if_pos h, if_neg (by omega), hD, Int.toNat_natCast]
  have : (List.range (D + 1)).find? (fun i => (squO v f (i : Nat)).2.2 != 0) = some k := by
    rw [List.find?_range_eq_some]
    refine ⟨by simpa using h4, by simp; omega, fun j hj => by simpa using h3 j hj⟩
  rw [this]
theorem totO_ok {v : Int} {f : List (List Int)} {D : Nat} (h : polB v f = true) (h2 : 2 * degL f ≤ 40) (hD : degL f = D) (h3 : ∀ j < D + 1, (squO v f (j : Nat)).2.2 = 0) : totO v f = (totP v f (D + 1), 0) := by
  unfold totO
  rw [if_pos h, if_neg (by omega), hD, Int.toNat_natCast]
  have : (List.range (D + 1)).find? (fun i => (squO v f (i : Nat)).2.2 != 0) = none := by
    rw [List.find?_eq_none]
    intro j hj
    simpa using h3 j (List.mem_range.1 hj)
  rw [this]
/-- a function returns polynomials and a code -/
def RetQC (n : Nat) (ps : Pls) (k : Int) (w : World) (e : Ending) (w' : World) : Prop :=
  ∃ A c, e = .returned (.tuple #[.slice A n c, .int .i64 k]) ∧ OwnQ w' w.heap.size w'.heap.size A n c ps ∧ Below w.heap.size w w'
theorem RetQC.bad {w w' : World} {ps : Pls} {k k' : Int} (h : [] = ps) (hk : k' = k) (hb : Below w.heap.size w w') : RetQC ps.length ps k w (.returned (.tuple #[.slice none 0 0, .int .i64 k'])) w' := by
  subst h; subst hk
  exact ⟨none, 0, rfl, OwnQ.none, hb⟩
theorem RetQC.mk {w w' w0 : World} {ps qs : Pls} {k k' : Int} {A : Option Addr} {n c K : Nat} (h : qs = ps) (hk : k' = k) (hn : n = qs.length) (hs : StQ w0 w0.heap.size w' K A n c qs) (h0 : Below w.heap.size w w0) : RetQC ps.length ps k w (.returned (.tuple #[.slice A n c, .int .i64 k'])) w' := by
  subst h; subst hk; subst hn
  exact ⟨A, c, rfl, (hs.own.up hs.hi).down h0.size, h0.trans (hs.bel.mono h0.size)⟩

set_option maxRecDepth 100000 in
set_option maxHeartbeats 2000000 in
theorem iTotalSquare (v : Int) (A1 : Option Addr) (n1 c1 : Nat) (xss : List (List Int)) (w : World) (h1 : RdL w w.heap.size A1 n1 c1 xss) (hn1 : n1 ≤ 2000000) (ht1 : totalL xss ≤ 2000000) :
    Calls Try.prog 34 #[.agg #[.int .i64 v, .slice A1 n1 c1]] w (RetQC (totO v xss).1.length (totO v xss).1 (totO v xss).2 w) := by
  obtain ⟨w0, b, hw0, hbe, hb0, hz0, hF⟩ := start1 w (.int .i64 v) (.slice A1 n1 c1) 28
  have HL1 := Lib.hid h1.len
  have H1 := Lib.hid (rdL_here h1 hb0); clear h1
  have Hw := Lib.hid hw0; clear hw0
  have Hbe := Lib.hid hbe; clear hbe
  have Hb0 := Lib.hid hb0; clear hb0
  have HZ := Lib.hid hz0; clear hz0
  have F0 := Lib.hid hF; clear hF
  have X0 := Lib.hid (Below.refl w0.heap.size w0)
  obtain ⟨r1, hr1⟩ : ∃ r, r = polB v xss := ⟨_, rfl⟩
  have HR1 := Lib.hid hr1; clear hr1
  obtain ⟨o, ho⟩ : ∃ o, o = totO v xss := ⟨_, rfl⟩
  have HO := Lib.hid ho
  rw [← ho]
  clear ho
  obtain ⟨R, hR⟩ : ∃ R, R = RetQC o.1.length o.1 o.2 w := ⟨_, rfl⟩
  have HR := Lib.hid hR
  rw [← hR]
  clear hR
  go_enter Try.func34, Try.ntmps34
  go_wp2_with fail
  rw [← Hw.out, ← Hbe.out]
  have k0 := (F0.out.below X0.out).at_ (b := b) (o := 0) (V := .int .i64 v) (by simp)
  have k1 := (F0.out.below X0.out).at_ (b := b) (o := 1) (V := .slice A1 n1 c1) (by simp)
  refine (iIsPoly v A1 n1 c1 xss _ H1.out hn1 ht1).mono ?_
  rintro e w1 ⟨rfl, hb1⟩
  rw [← HR1.out]
  have X1 := Lib.hid hb1; clear hb1 k0 k1
  cases r1
  · have HV := Lib.hid (HO.out.trans (totO_bad HR1.out.symm))
    go_wp2_with fail
    rw [HR.out]
    exact RetQC.bad (by rw [HV.out]) (by rw [HV.out]) (Hb0.out.trans (X1.out.mono Hb0.out.size))
  · have HP1 := Lib.hid (polF_of HR1.out.symm)
    obtain ⟨D, hD⟩ : ∃ D : Nat, (D : Int) = degL xss := ⟨(degL xss).toNat, by have := HP1.out.deg.2.1; omega⟩
    have HD := Lib.hid hD
    have hD40 : D ≤ 40 := by have := HP1.out.deg.2.2; omega
    have D1 := fun (W : World) (hB : Below w0.heap.size w0 W) => Lib.hid (degreeP_any v A1 n1 c1 _ xss W (rdL_here H1.out hB) (Nat.le_refl _) hn1 ht1)
    rw [← hD] at D1
    clear hD
    have k0 := (F0.out.below X1.out).at_ (b := b) (o := 0) (V := .int .i64 v) (by simp)
    have k1 := (F0.out.below X1.out).at_ (b := b) (o := 1) (V := .slice A1 n1 c1) (by simp)
    have hw2 : IntKind.i64.wrap (2 * (D : Int)) = 2 * D := by rw [IntKind.wrap_i64]; omega
    go_wp2_with fail
    refine (D1 _ X1.out).out.mono ?_
    rintro e w2 ⟨rfl, hb2⟩
    have X2 := Lib.hid (X1.out.trans (hb2.mono X1.out.size)); clear hb2 k0 k1
    by_cases hlim : 40 < 2 * (D : Int)
    · have HV := Lib.hid (HO.out.trans (totO_lim HR1.out.symm (by rw [← HD.out]; exact hlim)))
      have hl : decide (40 < 2 * (D : Int)) = true := decide_eq_true hlim
      clear hlim
      go_wp2_with fail
      rw [HR.out]
      exact RetQC.bad (by rw [HV.out]) (by rw [HV.out]) (Hb0.out.trans (X2.out.mono Hb0.out.size))
    · have HLM := Lib.hid (show 2 * degL xss ≤ 40 from by rw [← HD.out]; omega)
      have hl : decide (40 < 2 * (D : Int)) = false := decide_eq_false hlim
      have hw3 : IntKind.i64.wrap ((D : Int) + 1) = ((D + 1 : Nat) : Int) := by rw [IntKind.wrap_i64]; omega
      clear hlim
      have HQ3 := Lib.hid (StQ.start X2.out X2.out.size)
      have X3 := Lib.hid HQ3.out.bel
      have k0 := (F0.out.below X3.out).at_ (b := b) (o := 0) (V := .int .i64 v) (by simp)
      have k1 := (F0.out.below X3.out).at_ (b := b) (o := 1) (V := .slice A1 n1 c1) (by simp)
      go_wp2_with fail
      refine (D1 _ X3.out).out.mono ?_
      rintro e w4 ⟨rfl, hb4⟩
      have HQ4 := Lib.hid (HQ3.out.call hb4)
      clear hb4 k0 k1 X3 hl hw2
      go_wp2_with fail
      go_loopw [4, 21] (fun p i wr => ∃ (k c K : Nat) (A : Option Addr), k ≤ D + 1 ∧ i = .int .i64 k ∧ p = .slice A k c ∧ Hid (StQ w0 w0.heap.size wr K A k c (totP v xss k)) ∧ Hid (∀ j < k, (squO v xss (j : Nat)).2.2 = 0)) (fun _ i _ => D + 1 - (intOf i).toNat)
      case atStart => exact ⟨0, 0, _, _, Nat.zero_le _, rfl, rfl, HQ4, Lib.hid (fun j hj => by omega)⟩
      case round =>
        clear HQ4 HQ3
        obtain ⟨k, c, K, A, hk, rfl, rfl, HQ, HZk⟩ := hrel
        have X5 := Lib.hid HQ.out.bel
        by_cases hlt : k < D + 1
        · have hlt' : (k : Int) < ((D + 1 : Nat) : Int) := by omega
          have hlt2 : decide ((k : Int) < ((D + 1 : Nat) : Int)) = true := decide_eq_true hlt'
          obtain ⟨q, hq⟩ : ∃ q, q = squO v xss (k : Nat) := ⟨_, rfl⟩
          have C5 := iSquareOn v A1 n1 c1 xss k wr (rdL_here H1.out X5.out) hn1 ht1
          rw [← hq] at C5
          have HC := Lib.hid C5
          have HQq := Lib.hid hq
          clear C5 hq
          obtain ⟨⟨qv, ql, qk⟩, hqe⟩ : ∃ q' : Int × List (List Int) × Int, q = q' := ⟨_, rfl⟩
          subst hqe
          have k0 := (F0.out.below X5.out).at_ (b := b) (o := 0) (V := .int .i64 v) (by simp)
          have k1 := (F0.out.below X5.out).at_ (b := b) (o := 1) (V := .slice A1 n1 c1) (by simp)
          go_wp2_with fail
          refine HC.out.mono ?_
          rintro e w6 ⟨A6, c6, rfl, ho6, hb6⟩
          have M6 := Lib.hid ho6
          have HQ6 := Lib.hid (HQ.out.call hb6)
          have HZ6 := Lib.hid hb6.size
          clear ho6 hb6 k0 k1
          dsimp only at M6
          by_cases hq0 : qk = 0
          · subst hq0
            have hb7 : Below w6.heap.size w6 (w6.alloc (.cells #[.int .i64 qv, .slice A6 ql.length c6] 28)) := (Below.refl _ _).alloc (Nat.le_refl _) _
            have HQ7 := Lib.hid (HQ6.out.call hb7)
            have M7 := Lib.hid ((M6.out.below hb7).mono HQ.out.hi (Nat.le_refl _))
            have HZ7 := Lib.hid hb7.size
            have HK6 := Lib.hid HQ6.out.hi
            clear hb7
            go_wp2_with (at_builtin; refine wpList_pushQH rfl (.tmp 33) (.tmp 35) rfl rfl (by simp) rfl HQ7.out M7.out HK6.out HZ7.out (by omega) ?_)
            rintro A8 c8 w8 hst
            have HQ8 := Lib.hid hst
            clear hst
            go_wp2_with fail
            go_roundw
            case rel => exact ⟨k + 1, c8, _, A8, by omega, by go_num, rfl, Lib.hid (by rw [totP_succ, ← HQq.out]; exact HQ8.out), Lib.hid (fun j hj => by
              rcases Nat.lt_or_eq_of_le (Nat.le_of_lt_succ hj) with h | rfl
              · exact HZk.out j h
              · rw [← HQq.out])⟩
            case measure => simp [intOf]; omega
          · have hq1 : (qk != 0) = true := by simpa using hq0
            have HV := Lib.hid (HO.out.trans (totO_hit HR1.out.symm HLM.out HD.out.symm (by omega) HZk.out (by rw [← HQq.out]; exact hq0)))
            clear hq0
            go_wp2_with fail
            rw [HR.out]
            refine RetQC.bad (by rw [HV.out]) (by rw [HV.out, ← HQq.out]) (Hb0.out.trans (Below.mono ?_ Hb0.out.size))
            exact HQ6.out.bel.alloc HQ6.out.size _
        · obtain rfl : k = D + 1 := by omega
          have HV := Lib.hid (HO.out.trans (totO_ok HR1.out.symm HLM.out HD.out.symm HZk.out))
          clear hlt
          go_wp2_with fail
          rw [HR.out]
          exact RetQC.mk (by rw [HV.out]) (by rw [HV.out]) (totP_length _ _ _).symm HQ.out Hb0.out
end Go.Proofs.Ytejlkobieohgfaa
