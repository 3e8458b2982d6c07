/- TotalSquare on the program's side. -/
import Derived.Test.YtoodhbafleemjaaGreatSquO
import Derived.Test.YtoodhbafleemjaaGreatPlq
import Derived.Test.YtoodhbafleemjaaGreatMon
import Derived.Deep.DeepCutAuto
namespace Go.Proofs.YtoodhbafleemjaaGreat
open Go.RowKit
set_option linter.unusedVariables false

def totP (v : Int) (f : List (List Int)) (n : Nat) : Pls := (List.range n).map fun i => ((squO v f (i : Nat)).1, (squO v f (i : Nat)).2.1)
theorem totP_succ (v : Int) (f : List (List Int)) (n : Nat) : totP v f (n + 1) = totP v f n ++ [((squO v f (n : Nat)).1, (squO v f (n : Nat)).2.1)] := by
  unfold totP; rw [List.range_succ, List.map_append]; rfl
theorem totP_length (v : Int) (f : List (List Int)) (n : Nat) : (totP v f n).length = n := by simp [totP]
def totO (v : Int) (f : List (List Int)) : Pls × Int :=
  if polB v f = true then (if 40 < 2 * degL f then ([], 3) else
    match (List.range ((degL f).toNat + 1)).find? (fun i => (squO v f (i : Nat)).2.2 != 0) with
    | some i => ([], (squO v f (i : Nat)).2.2)
    | none => (totP v f ((degL f).toNat + 1), 0)) else ([], 1)
theorem totO_bad {v : Int} {f : List (List Int)} (h : polB v f = false) : totO v f = ([], 1) := by unfold totO; rw [if_neg (by rw [h]; simp)]
theorem totO_lim {v : Int} {f : List (List Int)} (h : polB v f = true) (h2 : 40 < 2 * degL f) : totO v f = ([], 3) := by unfold totO; rw [if_pos h, if_pos h2]
theorem totO_hit {v : Int} {f : List (List Int)} {D k : Nat} (h : polB v f = true) (h2 : 2 * degL f ≤ 40) (hD : degL f = D) (hk : k ≤ D) (h3 : ∀ j < k, (squO v f (j : Nat)).2.2 = 0) (h4 : (squO v f (k : Nat)).2.2 ≠ 0) : totO v f = ([], (squO v f (k : Nat)).2.2) := by
  unfold totO
  rw [if_pos h, if_neg (by omega), hD, Int.toNat_natCast]
  have : (List.range (D + 1)).find? (fun i => (squO v f (i : Nat)).2.2 != 0) = some k := by
    rw [List.find?_range_eq_some]
    refine ⟨by simpa using h4, by simp; omega, fun j hj => by simpa using h3 j hj⟩
  rw [this]
theorem totO_ok {v : Int} {f : List (List Int)} {D : Nat} (h : polB v f = true) (h2 : 2 * degL f ≤ 40) (hD : degL f = D) (h3 : ∀ j < D + 1, (squO v f (j : Nat)).2.2 = 0) : totO v f = (totP v f (D + 1), 0) := by
  unfold totO
  rw [if_pos h, if_neg (by omega), hD, Int.toNat_natCast]
  have : (List.range (D + 1)).find? (fun i => (squO v f (i : Nat)).2.2 != 0) = none := by
    rw [List.find?_eq_none]
    intro j hj
    simpa using h3 j (List.mem_range.1 hj)
  rw [this]
/-- a function returns polynomials and a code -/
def RetQC (n : Nat) (ps : Pls) (k : Int) (w : World) (e : Ending) (w' : World) : Prop :=
  ∃ A c, e = .returned (.tuple #[.slice A n c, .int .i64 k]) ∧ OwnQ w' w.heap.size w'.heap.size A n c ps ∧ Below w.heap.size w w'
theorem RetQC.bad {w w' : World} {ps : Pls} {k k' : Int} (h : [] = ps) (hk : k' = k) (hb : Below w.heap.size w w') : RetQC ps.length ps k w (.returned (.tuple #[.slice none 0 0, .int .i64 k'])) w' := by
  subst h; subst hk
  exact ⟨none, 0, rfl, OwnQ.none, hb⟩
theorem RetQC.mk {w w' w0 : World} {ps qs : Pls} {k k' : Int} {A : Option Addr} {n c K : Nat} (h : qs = ps) (hk : k' = k) (hn : n = qs.length) (hs : StQ w0 w0.heap.size w' K A n c qs) (h0 : Below w.heap.size w w0) : RetQC ps.length ps k w (.returned (.tuple #[.slice A n c, .int .i64 k'])) w' := by
  subst h; subst hk; subst hn
  exact ⟨A, c, rfl, (hs.own.up hs.hi).down h0.size, h0.trans (hs.bel.mono h0.size)⟩

set_option maxRecDepth 100000 in
set_option maxHeartbeats 2000000 in
theorem iTotalSquare (v : Int) (A1 : Option Addr) (n1 c1 : Nat) (xss : List (List Int)) (w : World) (h1 : RdL w w.heap.size A1 n1 c1 xss) (hn1 : n1 ≤ 2000000) (ht1 : totalL xss ≤ 2000000) :
    Calls Tryz.prog 23 #[.agg #[.int .i64 v, .slice A1 n1 c1]] w (RetQC (totO v xss).1.length (totO v xss).1 (totO v xss).2 w) := by
  obtain ⟨w0, b, hw0, hbe, hb0, hz0, hF⟩ := start1 w (.int .i64 v) (.slice A1 n1 c1) 26
  have HL1 := Lib.hid h1.len
  have H1 := Lib.hid (rdL_here h1 hb0); clear h1
  have Hw := Lib.hid hw0; clear hw0
  have Hbe := Lib.hid hbe; clear hbe
  have Hb0 := Lib.hid hb0; clear hb0
  have HZ := Lib.hid hz0; clear hz0
  have F0 := Lib.hid hF; clear hF
  have X0 := Lib.hid (Below.refl w0.heap.size w0)
  obtain ⟨r1, hr1⟩ : ∃ r, r = polB v xss := ⟨_, rfl⟩
  have HR1 := Lib.hid hr1; clear hr1
  obtain ⟨o, ho⟩ : ∃ o, o = totO v xss := ⟨_, rfl⟩
  have HO := Lib.hid ho
  rw [← ho]
  clear ho
  obtain ⟨R, hR⟩ : ∃ R, R = RetQC o.1.length o.1 o.2 w := ⟨_, rfl⟩
  have HR := Lib.hid hR
  rw [← hR]
  clear hR
  go_enter Tryz.func23, Tryz.ntmps23
  go_wp2_with fail
  rw [← Hw.out, ← Hbe.out]
  have k0 := (F0.out.below X0.out).at_ (b := b) (o := 0) (V := .int .i64 v) (by simp)
  have k1 := (F0.out.below X0.out).at_ (b := b) (o := 1) (V := .slice A1 n1 c1) (by simp)
  refine (iIsPoly v A1 n1 c1 xss _ H1.out hn1 ht1).mono ?_
  rintro e w1 ⟨rfl, hb1⟩
  rw [← HR1.out]
  have X1 := Lib.hid hb1; clear hb1 k0 k1
  cases r1
  · have HV := Lib.hid (HO.out.trans (totO_bad HR1.out.symm))
    go_wp2_with fail
    rw [HR.out]
    exact RetQC.bad (by rw [HV.out]) (by rw [HV.out]) (Hb0.out.trans (X1.out.mono Hb0.out.size))
  · have HP1 := Lib.hid (polF_of HR1.out.symm)
    obtain ⟨D, hD⟩ : ∃ D : Nat, (D : Int) = degL xss := ⟨(degL xss).toNat, by have := HP1.out.deg.2.1; omega⟩
    have HD := Lib.hid hD
    have hD40 : D ≤ 40 := by have := HP1.out.deg.2.2; omega
    have D1 := fun (W : World) (hB : Below w0.heap.size w0 W) => Lib.hid (degreeP_any v A1 n1 c1 _ xss W (rdL_here H1.out hB) (Nat.le_refl _) hn1 ht1)
    rw [← hD] at D1
    clear hD
    have k0 := (F0.out.below X1.out).at_ (b := b) (o := 0) (V := .int .i64 v) (by simp)
    have k1 := (F0.out.below X1.out).at_ (b := b) (o := 1) (V := .slice A1 n1 c1) (by simp)
    have hw2 : IntKind.i64.wrap (2 * (D : Int)) = 2 * D := by rw [IntKind.wrap_i64]; omega
    go_wp2_with fail
    refine (D1 _ X1.out).out.mono ?_
    rintro e w2 ⟨rfl, hb2⟩
    have X2 := Lib.hid (X1.out.trans (hb2.mono X1.out.size)); clear hb2 k0 k1
    by_cases hlim : 40 < 2 * (D : Int)
    · have HV := Lib.hid (HO.out.trans (totO_lim HR1.out.symm (by rw [← HD.out]; exact hlim)))
      have hl : decide (40 < 2 * (D : Int)) = true := decide_eq_true hlim
      clear hlim
      go_wp2_with fail
      rw [HR.out]
      exact RetQC.bad (by rw [HV.out]) (by rw [HV.out]) (Hb0.out.trans (X2.out.mono Hb0.out.size))
    · have HLM := Lib.hid (show 2 * degL xss ≤ 40 from by rw [← HD.out]; omega)
      have hl : decide (40 < 2 * (D : Int)) = false := decide_eq_false hlim
      have hw3 : IntKind.i64.wrap ((D : Int) + 1) = ((D + 1 : Nat) : Int) := by rw [IntKind.wrap_i64]; omega
      clear hlim
      have HQ3 := Lib.hid (StQ.start X2.out X2.out.size)
      have X3 := Lib.hid HQ3.out.bel
      have k0 := (F0.out.below X3.out).at_ (b := b) (o := 0) (V := .int .i64 v) (by simp)
      have k1 := (F0.out.below X3.out).at_ (b := b) (o := 1) (V := .slice A1 n1 c1) (by simp)
      go_wp2_with fail
      refine (D1 _ X3.out).out.mono ?_
      rintro e w4 ⟨rfl, hb4⟩
      have HQ4 := Lib.hid (HQ3.out.call hb4)
      clear hb4 k0 k1 X3 hl hw2
      go_wp2_with fail
      go_loopw [4, 21] (fun p i wr => ∃ (k c K : Nat) (A : Option Addr), k ≤ D + 1 ∧ i = .int .i64 k ∧ p = .slice A k c ∧ Hid (StQ w0 w0.heap.size wr K A k c (totP v xss k)) ∧ Hid (∀ j < k, (squO v xss (j : Nat)).2.2 = 0)) (fun _ i _ => D + 1 - (intOf i).toNat)
      case atStart => exact ⟨0, 0, _, _, Nat.zero_le _, rfl, rfl, HQ4, Lib.hid (fun j hj => by omega)⟩
      case round =>
        clear HQ4 HQ3
        obtain ⟨k, c, K, A, hk, rfl, rfl, HQ, HZk⟩ := hrel
        have X5 := Lib.hid HQ.out.bel
        by_cases hlt : k < D + 1
        · have hlt' : (k : Int) < ((D + 1 : Nat) : Int) := by omega
          have hlt2 : decide ((k : Int) < ((D + 1 : Nat) : Int)) = true := decide_eq_true hlt'
          obtain ⟨q, hq⟩ : ∃ q, q = squO v xss (k : Nat) := ⟨_, rfl⟩
          have C5 := iSquareOn v A1 n1 c1 xss k wr (rdL_here H1.out X5.out) hn1 ht1
          rw [← hq] at C5
          have HC := Lib.hid C5
          have HQq := Lib.hid hq
          clear C5 hq
          obtain ⟨⟨qv, ql, qk⟩, hqe⟩ : ∃ q' : Int × List (List Int) × Int, q = q' := ⟨_, rfl⟩
          subst hqe
          have k0 := (F0.out.below X5.out).at_ (b := b) (o := 0) (V := .int .i64 v) (by simp)
          have k1 := (F0.out.below X5.out).at_ (b := b) (o := 1) (V := .slice A1 n1 c1) (by simp)
          go_wp2_with fail
          refine HC.out.mono ?_
          rintro e w6 ⟨A6, c6, rfl, ho6, hb6⟩
          have M6 := Lib.hid ho6
          have HQ6 := Lib.hid (HQ.out.call hb6)
          have HZ6 := Lib.hid hb6.size
          clear ho6 hb6 k0 k1
          dsimp only at M6
          by_cases hq0 : qk = 0
          · subst hq0
            have hb7 : Below w6.heap.size w6 (w6.alloc (.cells #[.int .i64 qv, .slice A6 ql.length c6] 26)) := (Below.refl _ _).alloc (Nat.le_refl _) _
            have HQ7 := Lib.hid (HQ6.out.call hb7)
            have M7 := Lib.hid ((M6.out.below hb7).mono HQ.out.hi (Nat.le_refl _))
            have HZ7 := Lib.hid hb7.size
            have HK6 := Lib.hid HQ6.out.hi
            clear hb7
            go_wp2_with (at_builtin; refine wpList_pushQH rfl (.tmp 33) (.tmp 35) rfl rfl (by simp) rfl HQ7.out M7.out HK6.out HZ7.out (by omega) ?_)
            rintro A8 c8 w8 hst
            have HQ8 := Lib.hid hst
            clear hst
            go_wp2_with fail
            go_roundw
            case rel => exact ⟨k + 1, c8, _, A8, by omega, by go_num, rfl, Lib.hid (by rw [totP_succ, ← HQq.out]; exact HQ8.out), Lib.hid (fun j hj => by
              rcases Nat.lt_or_eq_of_le (Nat.le_of_lt_succ hj) with h | rfl
              · exact HZk.out j h
              · rw [← HQq.out])⟩
            case measure => simp [intOf]; omega
          · have hq1 : (qk != 0) = true := by simpa using hq0
            have HV := Lib.hid (HO.out.trans (totO_hit HR1.out.symm HLM.out HD.out.symm (by omega) HZk.out (by rw [← HQq.out]; exact hq0)))
            clear hq0
            go_wp2_with fail
            rw [HR.out]
            refine RetQC.bad (by rw [HV.out]) (by rw [HV.out, ← HQq.out]) (Hb0.out.trans (Below.mono ?_ Hb0.out.size))
            exact HQ6.out.bel.alloc HQ6.out.size _
        · obtain rfl : k = D + 1 := by omega
          have HV := Lib.hid (HO.out.trans (totO_ok HR1.out.symm HLM.out HD.out.symm HZk.out))
          clear hlt
          go_wp2_with fail
          rw [HR.out]
          exact RetQC.mk (by rw [HV.out]) (by rw [HV.out]) (totP_length _ _ _).symm HQ.out Hb0.out
end Go.Proofs.YtoodhbafleemjaaGreat

/- TotalSquare on the reference's side. -/
namespace Go.Proofs.YtoodhbafleemjaaGreat
open Go.RowKit
set_option linter.unusedVariables false

set_option maxRecDepth 100000 in
set_option maxHeartbeats 4000000 in
theorem sTotalSquare (v : Int) (A1 : Option Addr) (n1 c1 : Nat) (xss : List (List Int)) (w : World) (h1 : RdL w w.heap.size A1 n1 c1 xss) (hn1 : n1 ≤ 2000000) (ht1 : totalL xss ≤ 2000000) :
    Calls Tryz.prog 24 #[.agg #[.int .i64 v, .slice A1 n1 c1]] w (RetQC (totO v xss).1.length (totO v xss).1 (totO v xss).2 w) := by
  obtain ⟨w0, b, hw0, hbe, hb0, hz0, hF⟩ := start1 w (.int .i64 v) (.slice A1 n1 c1) 26
  have HL1 := Lib.hid h1.len
  have H1 := Lib.hid (rdL_here h1 hb0); clear h1
  have Hw := Lib.hid hw0; clear hw0
  have Hbe := Lib.hid hbe; clear hbe
  have Hb0 := Lib.hid hb0; clear hb0
  have HZ := Lib.hid hz0; clear hz0
  have F0 := Lib.hid hF; clear hF
  have X0 := Lib.hid (Below.refl w0.heap.size w0)
  obtain ⟨r1, hr1⟩ : ∃ r, r = polB v xss := ⟨_, rfl⟩
  have HR1 := Lib.hid hr1; clear hr1
  obtain ⟨o, ho⟩ : ∃ o, o = totO v xss := ⟨_, rfl⟩
  have HO := Lib.hid ho
  rw [← ho]
  clear ho
  obtain ⟨R, hR⟩ : ∃ R, R = RetQC o.1.length o.1 o.2 w := ⟨_, rfl⟩
  have HR := Lib.hid hR
  rw [← hR]
  clear hR
  go_enter Tryz.func24, Tryz.ntmps24
  go_wp2_with fail
  rw [← Hw.out, ← Hbe.out]
  have k0 := (F0.out.below X0.out).at_ (b := b) (o := 0) (V := .int .i64 v) (by simp)
  have k1 := (F0.out.below X0.out).at_ (b := b) (o := 1) (V := .slice A1 n1 c1) (by simp)
  refine (l08Is_any v A1 n1 c1 xss _ H1.out hn1 ht1).mono ?_
  rintro e w1 ⟨rfl, hb1⟩
  rw [← HR1.out]
  have X1 := Lib.hid hb1; clear hb1 k0 k1
  cases r1
  · have HV := Lib.hid (HO.out.trans (totO_bad HR1.out.symm))
    go_wp2_with fail
    rw [HR.out]
    exact RetQC.bad (by rw [HV.out]) (by rw [HV.out]) (Hb0.out.trans (X1.out.mono Hb0.out.size))
  · have HP1 := Lib.hid (polF_of HR1.out.symm)
    obtain ⟨D, hD⟩ : ∃ D : Nat, (D : Int) = degL xss := ⟨(degL xss).toNat, by have := HP1.out.deg.2.1; omega⟩
    have HD := Lib.hid hD
    have hD40 : D ≤ 40 := by have := HP1.out.deg.2.2; omega
    have D1 := Lib.hid (l08Degree_any A1 n1 c1 _ xss w1 (rdL_here H1.out X1.out) hn1 ht1)
    rw [← hD] at D1
    clear hD
    have k0 := (F0.out.below X1.out).at_ (b := b) (o := 0) (V := .int .i64 v) (by simp)
    have k1 := (F0.out.below X1.out).at_ (b := b) (o := 1) (V := .slice A1 n1 c1) (by simp)
    have hw2 : IntKind.i64.wrap (2 * (D : Int)) = 2 * D := by rw [IntKind.wrap_i64]; omega
    by_cases hlim : 40 < 2 * (D : Int)
    · have HV := Lib.hid (HO.out.trans (totO_lim HR1.out.symm (by rw [← HD.out]; exact hlim)))
      have hl : decide (40 < 2 * (D : Int)) = true := decide_eq_true hlim
      clear hlim
      go_wp2_with fail
      refine D1.out.mono ?_
      rintro e w2 ⟨rfl, h2⟩
      rw [h2]
      clear h2 k0 k1
      go_wp2_with fail
      rw [HR.out]
      refine RetQC.bad (by rw [HV.out]) (by rw [HV.out]) (Hb0.out.trans (Below.mono ?_ Hb0.out.size))
      first
        | exact X1.out.alloc X1.out.size _
        | exact X1.out
    · have HLM := Lib.hid (show 2 * degL xss ≤ 40 from by rw [← HD.out]; omega)
      have hl : decide (40 < 2 * (D : Int)) = false := decide_eq_false hlim
      clear hlim
      go_wp2_with fail
      refine D1.out.mono ?_
      rintro e w2 ⟨rfl, h2⟩
      rw [h2]
      clear h2 k0 k1
      obtain ⟨w3, hw3'⟩ : ∃ W, W = w1.alloc (.cells #[] 26) := ⟨_, rfl⟩
      have Q3 := StQ.start X1.out X1.out.size
      rw [← hw3'] at Q3
      have HQ3 := Lib.hid Q3
      have HW3 := Lib.hid hw3'
      clear Q3 hw3'
      go_wp2_with fail
      rw [← HW3.out]
      clear HW3 hl hw2
      try go_wp2_with fail
      go_loopw [5, 6] (fun p i wr => ∃ (k c K : Nat) (A : Option Addr), k ≤ D + 1 ∧ i = .int .i64 k ∧ p = .slice A k c ∧ Hid (StQ w0 w0.heap.size wr K A k c (totP v xss k)) ∧ Hid (∀ j < k, (squO v xss (j : Nat)).2.2 = 0)) (fun _ i _ => D + 1 - (intOf i).toNat)
      case atStart => exact ⟨0, 0, _, _, Nat.zero_le _, rfl, rfl, HQ3, Lib.hid (fun j hj => by omega)⟩
      case round =>
        clear HQ3
        obtain ⟨k, c, K, A, hk, rfl, rfl, HQ, HZk⟩ := hrel
        have X5 := Lib.hid HQ.out.bel
        by_cases hlt : k < D + 1
        · have hlt2 : decide ((k : Int) ≤ (D : Int)) = true := decide_eq_true (by omega)
          have hlt3 : (k : Int) ≤ (D : Int) := by omega
          have XR := Lib.hid (Below.refl wr.heap.size wr)
          have HZr := Lib.hid (show b < wr.heap.size from by have := X5.out.size; have := HZ.out; omega)
          have FR := Lib.hid (F0.out.below X5.out)
          have HNL := Lib.hid (show xss.length = 0 ∨ degL xss + (k : Int) ≤ 40 from .inr (by have := HLM.out; rw [← HD.out] at this ⊢; omega))
          have hkin : inB (k : Int) 0 40 = true := inB_iff.2 ⟨by omega, by omega⟩
          have HV := Lib.hid (squO_ok HR1.out.symm hkin HNL.out)
          obtain ⟨q, hq⟩ : ∃ q, q = squO v xss (k : Nat) := ⟨_, rfl⟩
          rw [← hq] at HV
          have HQq := Lib.hid hq
          clear hq
          obtain ⟨⟨qv, ql, qk⟩, hqe⟩ : ∃ q' : Int × List (List Int) × Int, q = q' := ⟨_, rfl⟩
          subst hqe
          obtain ⟨kv, hkv⟩ : ∃ m : Nat, v = m := ⟨v.toNat, by have := HP1.out.lo; omega⟩
          have hk4 : kv ≤ 4 := by have := HP1.out.hi; omega
          have MD := Lib.hid (HP1.out.degs hkv)
          have MP := Lib.hid (sq_mono HP1.out hkv hkin HNL.out)
          have HDE := Lib.hid (show ∀ x ∈ xss, Deg kv (if n1 = 0 then 0 else degL xss) x from fun x hx => by
            rw [if_neg (by rintro rfl; have := HL1.out; rw [List.eq_nil_of_length_eq_zero this] at hx; cases hx)]
            exact MD.out x hx)
          have HDI := Lib.hid (show (if n1 = 0 then 0 else degL xss) + (k : Int) ≤ 63 from by
            split
            · omega
            · have := HLM.out; rw [← HD.out] at this ⊢; omega)
          have L1 := Lib.hid (show xss.length ≤ 2000 from HP1.out.len)
          clear hkv hkin
          obtain ⟨s, hs⟩ : ∃ s, s = oddL (sqP xss (k : Nat)) := ⟨_, rfl⟩
          have hsl : s.length ≤ 16777216 := by rw [hs]; exact oddL_small MP.out hk4
          have HS := fun (W : World) (hB : Below wr.heap.size wr W) => Lib.hid (l08Square_any A1 n1 c1 kv _ k xss W (rdL_here H1.out (X5.out.trans (hB.mono X5.out.size))) HDE.out (by omega) HDI.out hk4 (by omega))
          rw [← hs] at HS HV
          obtain ⟨l, hl⟩ : ∃ l, l = s.length := ⟨_, rfl⟩
          rw [← hl] at HS hsl
          have HLs := Lib.hid hl
          clear hs hl
          obtain ⟨xr, fA, nr, fc, kr, HF, HR1x, HR2x, HR3x, HR4x⟩ := fit_cases (v := v) HV.out HLs.out (by omega)
          have HR1x := Lib.hid (show xr = qv from HR1x.out)
          have HR2x := Lib.hid (show nr = ql.length from HR2x.out)
          have HR3x := Lib.hid (show kr = qk from HR3x.out)
          go_upto_region 9 with fail
          go_cut [7, 8] (fun p q wc => ∃ (bp : Nat) (A6 : Option Addr) (c6 K6 : Nat), p = .pointer (some ⟨bp, 0, none⟩) ∧ q = .int .i64 kr ∧ Hid (wc.cell? ⟨bp, 0, none⟩ = some (.int .i64 xr) ∧ wc.cell? ⟨bp, 1, none⟩ = some (.slice A6 nr c6) ∧ Below wr.heap.size wr wc ∧ OwnM wc wr.heap.size K6 A6 nr c6 ql ∧ K6 ≤ wc.heap.size ∧ wr.heap.size ≤ K6))
          case first =>
            have Bd := Lib.hid (show Below wr.heap.size wr wr.drew from below_drewN XR.out 1)
            have C2 := Lib.hid (FR.out.below XR.out)
            have Cd := Lib.hid (show Cells _ wr.drew from C2.out.drewN 1)
            have BdA := Lib.hid (show Below wr.heap.size wr (wr.alloc (.cells #[.int .i64 0, .slice none 0 0] 26)).drew from below_drewN (XR.out.alloc XR.out.size _) 1)
            have CdA := Lib.hid (show Cells _ (wr.alloc (.cells #[.int .i64 0, .slice none 0 0] 26)).drew from (C2.out.below ((Below.refl _ _).alloc (Nat.le_refl _) (.cells #[.int .i64 0, .slice none 0 0] 26))).drewN 1)
            have NdA := Lib.hid (show Cells [(wr.heap.size, 0, .int .i64 0), (wr.heap.size, 1, .slice none 0 0)] (wr.alloc (.cells #[.int .i64 0, .slice none 0 0] 26)).drew from (Cells.nil.alloc2 (.int .i64 0) (.slice none 0 0) 26 (w := wr) rfl).drewN 1)
            have zl2 : b < wr.heap.size := by have := XR.out.size; have := HZr.out; omega
            have zA : (wr.alloc (.cells #[.int .i64 0, .slice none 0 0] 26)).drew.heap.size = wr.heap.size + 1 := by show (wr.alloc (.cells #[.int .i64 0, .slice none 0 0] 26)).heap.size = _; simp
            have kd0 := Cd.out.at_ (b := b) (o := 0) (V := .int .i64 v) (by simp)
            have kd1 := Cd.out.at_ (b := b) (o := 1) (V := .slice A1 n1 c1) (by simp)
            have ke0 := CdA.out.at_ (b := b) (o := 0) (V := .int .i64 v) (by simp)
            have ke1 := CdA.out.at_ (b := b) (o := 1) (V := .slice A1 n1 c1) (by simp)
            go_wp2_with fail
            go_region_held3 (fun w' => w'.cell? ⟨b, 0, none⟩ = some (.int .i64 v) ∧ w'.cell? ⟨b, 1, none⟩ = some (.slice A1 n1 c1)) (first | (with_reducible exact ⟨kd0, kd1⟩) | (with_reducible exact ⟨ke0, ke1⟩) | (with_reducible exact ⟨ka0, ka1⟩) | (with_reducible exact ⟨kf0, kf1⟩) | (with_reducible exact ⟨kb0, kb1⟩) | (with_reducible exact ⟨kg0, kg1⟩) | (with_reducible exact ⟨kh0, kh1⟩) | (with_reducible exact ⟨two_far mm0 kb0, two_far mm0 kb1⟩))
              (first
                | (go_at_call 73
                   refine (HS _ (by first | exact Bd.out | exact BdA.out)).out.mono ?_
                   rintro e w4 ⟨A5, c5, rfl, ho5, hb5⟩
                   have B4 : Hid (Below wr.heap.size wr w4) := by
                     first
                       | exact Lib.hid (Bd.out.trans (hb5.mono Bd.out.size))
                       | exact Lib.hid (BdA.out.trans (hb5.mono BdA.out.size))
                   have M4 : Hid (OwnM w4 wr.heap.size w4.heap.size A5 l c5 s) := by
                     first
                       | exact Lib.hid (ho5.m (Nat.le_refl _))
                       | exact Lib.hid ((ho5.m (Nat.le_refl _)).mono (Nat.le_trans (Nat.le_succ _) (Nat.le_of_eq zA.symm)) (Nat.le_refl _))
                   first
                     | have M4s : Hid (OwnM w4 (wr.heap.size + 1) w4.heap.size A5 l c5 s) := Lib.hid ((ho5.m (Nat.le_refl _)).mono (Nat.le_of_eq zA.symm) (Nat.le_refl _))
                     | skip
                   have C4 := Lib.hid (FR.out.below B4.out)
                   have B4A := Lib.hid (show Below wr.heap.size wr (w4.alloc (.cells #[.int .i64 0, .slice none 0 0] 26)) from B4.out.alloc B4.out.size _)
                   have C4A := Lib.hid (C4.out.below ((Below.refl _ _).alloc (Nat.le_refl _) (.cells #[.int .i64 0, .slice none 0 0] 26)))
                   have M4A := Lib.hid (M4.out.below ((Below.refl _ _).alloc (Nat.le_refl _) (.cells #[.int .i64 0, .slice none 0 0] 26)))
                   have N4A := Lib.hid (Cells.nil.alloc2 (.int .i64 0) (.slice none 0 0) 26 (w := w4) rfl)
                   first
                     | have N4 := Lib.hid (NdA.out.below hb5)
                     | skip
                   have ka0 := C4.out.at_ (b := b) (o := 0) (V := .int .i64 v) (by simp)
                   have ka1 := C4.out.at_ (b := b) (o := 1) (V := .slice A1 n1 c1) (by simp)
                   have kf0 := C4A.out.at_ (b := b) (o := 0) (V := .int .i64 v) (by simp)
                   have kf1 := C4A.out.at_ (b := b) (o := 1) (V := .slice A1 n1 c1) (by simp)
                   clear ho5 hb5)
                | (go_at_call 53
                   refine (HF _ _ _).out.mono ?_
                   rintro e w5 ⟨rfl, hb6⟩
                   have B5 : Hid (Below wr.heap.size wr w5) := by
                     first
                       | exact Lib.hid (B4.out.trans (hb6.mono B4.out.size))
                       | exact Lib.hid (B4A.out.trans (hb6.mono B4A.out.size))
                   have M5 : Hid (OwnM w5 wr.heap.size w4.heap.size A5 l c5 s) := by
                     first
                       | exact Lib.hid (M4.out.below hb6)
                       | exact Lib.hid (M4A.out.below hb6)
                   have Z5 : w4.heap.size ≤ w5.heap.size := by
                     first
                       | exact hb6.size
                       | exact Nat.le_trans (by simp) hb6.size
                   first
                     | (have N5 := Lib.hid (N4.out.below hb6)
                        have M5s : Hid (OwnM w5 (wr.heap.size + 1) w4.heap.size A5 l c5 s) := Lib.hid (M4s.out.below hb6)
                        have n0 := N5.out.at_ (b := wr.heap.size) (o := 0) (V := .int .i64 0) (by simp)
                        have n1' := N5.out.at_ (b := wr.heap.size) (o := 1) (V := .slice none 0 0) (by simp)
                        have nf0 := N5.out.fr (b := wr.heap.size) (o := 0) (V := .int .i64 0) (by simp)
                        have nf1 := N5.out.fr (b := wr.heap.size) (o := 1) (V := .slice none 0 0) (by simp)
                        have mm0 : wr.heap.size ≠ b := by have := B4.out.size; have := HZr.out; omega)
                     | (have N5 := Lib.hid (N4A.out.below hb6)
                        have n0 := N5.out.at_ (b := w4.heap.size) (o := 0) (V := .int .i64 0) (by simp)
                        have n1' := N5.out.at_ (b := w4.heap.size) (o := 1) (V := .slice none 0 0) (by simp)
                        have nf0 := N5.out.fr (b := w4.heap.size) (o := 0) (V := .int .i64 0) (by simp)
                        have nf1 := N5.out.fr (b := w4.heap.size) (o := 1) (V := .slice none 0 0) (by simp)
                        have mm0 : w4.heap.size ≠ b := by have := B4.out.size; have := HZr.out; omega)
                     | skip
                   have C5 := Lib.hid (FR.out.below B5.out)
                   have C5A := Lib.hid (C5.out.below ((Below.refl _ _).alloc (Nat.le_refl _) (.cells #[.int .i64 0, .slice none 0 0] 26)))
                   have C5B := Lib.hid (C5.out.below ((Below.refl _ _).alloc (Nat.le_refl _) (.cells #[.int .i64 xr, .slice (fA A5) nr (fc c5)] 26)))
                   have kb0 := C5.out.at_ (b := b) (o := 0) (V := .int .i64 v) (by simp)
                   have kb1 := C5.out.at_ (b := b) (o := 1) (V := .slice A1 n1 c1) (by simp)
                   have kg0 := C5A.out.at_ (b := b) (o := 0) (V := .int .i64 v) (by simp)
                   have kg1 := C5A.out.at_ (b := b) (o := 1) (V := .slice A1 n1 c1) (by simp)
                   have kh0 := C5B.out.at_ (b := b) (o := 0) (V := .int .i64 v) (by simp)
                   have kh1 := C5B.out.at_ (b := b) (o := 1) (V := .slice A1 n1 c1) (by simp)
                   clear hb6))
            all_goals
              first
                | (obtain ⟨wz, hwz⟩ : ∃ W, W = w5.alloc (.cells #[.int .i64 xr, .slice (fA A5) nr (fc c5)] 26) := ⟨_, rfl⟩
                   rw [← hwz]
                   have XZ := Lib.hid (show Below wr.heap.size wr wz from by rw [hwz]; exact B5.out.alloc B5.out.size _)
                   have MZ := Lib.hid (show OwnM wz wr.heap.size w4.heap.size A5 l c5 s from by rw [hwz]; exact (M5.out.below ((Below.refl _ _).alloc (Nat.le_refl _) _)).mono XR.out.size (Nat.le_refl _))
                   have hz4 : w4.heap.size ≤ wz.heap.size := by rw [hwz]; simp; omega
                   have y0 : wz.cell? ⟨w5.heap.size, 0, none⟩ = some (.int .i64 xr) := by rw [hwz]; exact new_at rfl rfl
                   have y1 : wz.cell? ⟨w5.heap.size, 1, none⟩ = some (.slice (fA A5) nr (fc c5)) := by rw [hwz]; exact new_at rfl rfl
                   clear hwz)
                | (obtain ⟨wz, hwz⟩ : ∃ W, W = (w5.setCell ⟨w4.heap.size, 0, none⟩ (.int .i64 xr)).setCell ⟨w4.heap.size, 1, none⟩ (.slice (fA A5) nr (fc c5)) := ⟨_, rfl⟩
                   rw [← hwz]
                   have XZ := Lib.hid (show Below wr.heap.size wr wz from by rw [hwz]; exact (B5.out.setCell (p := ⟨w4.heap.size, 0, none⟩) B4.out.size _).setCell (p := ⟨w4.heap.size, 1, none⟩) B4.out.size _)
                   have MZ := Lib.hid (show OwnM wz wr.heap.size w4.heap.size A5 l c5 s from by rw [hwz]; exact (M5.out.two Z5 (.inr (Nat.le_refl _))).mono XR.out.size (Nat.le_refl _))
                   have hz4 : w4.heap.size ≤ wz.heap.size := by rw [hwz]; simp [World.setCell]; omega
                   have y0 : wz.cell? ⟨w4.heap.size, 0, none⟩ = some (.int .i64 xr) := by rw [hwz]; exact (cells_end n0 n1' (.int .i64 xr) (.slice (fA A5) nr (fc c5))).1
                   have y1 : wz.cell? ⟨w4.heap.size, 1, none⟩ = some (.slice (fA A5) nr (fc c5)) := by rw [hwz]; exact (cells_end n0 n1' (.int .i64 xr) (.slice (fA A5) nr (fc c5))).2
                   clear hwz)
                | (obtain ⟨wz, hwz⟩ : ∃ W, W = (w5.setCell ⟨wr.heap.size, 0, none⟩ (.int .i64 xr)).setCell ⟨wr.heap.size, 1, none⟩ (.slice (fA A5) nr (fc c5)) := ⟨_, rfl⟩
                   rw [← hwz]
                   have XZ := Lib.hid (show Below wr.heap.size wr wz from by rw [hwz]; exact (B5.out.setCell (p := ⟨wr.heap.size, 0, none⟩) XR.out.size _).setCell (p := ⟨wr.heap.size, 1, none⟩) XR.out.size _)
                   have MZ := Lib.hid (show OwnM wz wr.heap.size w4.heap.size A5 l c5 s from by rw [hwz]; exact (M5s.out.two Z5 (.inl (Nat.lt_succ_self _))).mono (Nat.le_succ_of_le XR.out.size) (Nat.le_refl _))
                   have hz4 : w4.heap.size ≤ wz.heap.size := by rw [hwz]; simp [World.setCell]; omega
                   have y0 : wz.cell? ⟨wr.heap.size, 0, none⟩ = some (.int .i64 xr) := by rw [hwz]; exact (cells_end n0 n1' (.int .i64 xr) (.slice (fA A5) nr (fc c5))).1
                   have y1 : wz.cell? ⟨wr.heap.size, 1, none⟩ = some (.slice (fA A5) nr (fc c5)) := by rw [hwz]; exact (cells_end n0 n1' (.int .i64 xr) (.slice (fA A5) nr (fc c5))).2
                   clear hwz)
              go_wp2_with fail
              go_meet
              exact ⟨_, _, _, _, rfl, rfl, Lib.hid ⟨y0, y1, XZ.out, HR4x.out _ _ _ _ _ MZ.out, hz4, B4.out.size⟩⟩
          case rest =>
            obtain ⟨bp, A6, c6, K6, rfl, rfl, hv⟩ := hcut
            obtain ⟨y0, y1, hb7, ho7, hK7, hK8⟩ := hv.out
            have HQ7 := Lib.hid (HQ.out.call hb7)
            have M7 := Lib.hid ho7
            have HK7 := Lib.hid hK7
            have HKK : Hid (K ≤ K6) := Lib.hid (Nat.le_trans HQ.out.hi hK8)
            clear hv hb7 ho7 hK7 hK8
            by_cases hq0 : kr = 0
            · subst hq0
              have M7 := Lib.hid (M7.out.mono HQ.out.hi (Nat.le_refl _))
              go_wp2_with (at_builtin; refine wpList_pushQH rfl (.tmp 37) (.tmp 39) rfl rfl rfl rfl HQ7.out M7.out HKK.out HK7.out (by omega) ?_)
              rintro A8 c8 w8 hst
              have HQ8 := Lib.hid hst
              clear hst
              go_wp2_with fail
              go_roundw
              case rel => exact ⟨k + 1, c8, _, A8, by omega, by go_num, rfl, Lib.hid (by rw [totP_succ, ← HQq.out, ← HR1x.out]; exact HQ8.out), Lib.hid (fun j hj => by
                rcases Nat.lt_or_eq_of_le (Nat.le_of_lt_succ hj) with h | rfl
                · exact HZk.out j h
                · rw [← HQq.out]; exact HR3x.out.symm)⟩
              case measure => simp [intOf]; omega
            · have hq1 : (kr != 0) = true := by simpa using hq0
              have HV2 := Lib.hid (HO.out.trans (totO_hit HR1.out.symm HLM.out HD.out.symm (by omega) HZk.out (by rw [← HQq.out, ← HR3x.out]; exact hq0)))
              clear hq0
              go_wp2_with fail
              rw [HR.out]
              exact RetQC.bad (by rw [HV2.out]) (by rw [HV2.out, ← HQq.out]; exact HR3x.out) (Hb0.out.trans (HQ7.out.bel.mono Hb0.out.size))
        · obtain rfl : k = D + 1 := by omega
          have hlt2 : decide (((D + 1 : Nat) : Int) ≤ (D : Int)) = false := decide_eq_false (by omega)
          have hlt3 : ¬ ((D + 1 : Nat) : Int) ≤ (D : Int) := by omega
          have HV := Lib.hid (HO.out.trans (totO_ok HR1.out.symm HLM.out HD.out.symm HZk.out))
          clear hlt
          go_wp2_with fail
          rw [HR.out]
          exact RetQC.mk (by rw [HV.out]) (by rw [HV.out]) (totP_length _ _ _).symm HQ.out Hb0.out
end Go.Proofs.YtoodhbafleemjaaGreat
