/- SquareOn on the program's side. -/
import Derived.Test.YtoodhbafleemjaaGreatSqm
import Derived.Test.YtoodhbafleemjaaGreatPlyA
import Derived.Lib.QuietBelow
import Derived.Test.YtoodhbafleemjaaGreatMon
namespace Go.Proofs.YtoodhbafleemjaaGreat
open Go.RowKit
set_option linter.unusedVariables false

def squO (v : Int) (f : List (List Int)) (i : Int) : Int × List (List Int) × Int :=
  if polB v f = true then (if inB i 0 40 = true then (if 0 < f.length ∧ 40 < degL f + i then (0, [], 3) else toldV v (oddL (sqP f i))) else (0, [], 2)) else (0, [], 1)
theorem squO_bad {v i : Int} {f : List (List Int)} (h : polB v f = false) : squO v f i = (0, [], 1) := by unfold squO; rw [if_neg (by rw [h]; simp)]
theorem squO_range {v i : Int} {f : List (List Int)} (h : polB v f = true) (h2 : inB i 0 40 = false) : squO v f i = (0, [], 2) := by unfold squO; rw [if_pos h, if_neg (by rw [h2]; simp)]
theorem squO_lim {v i : Int} {f : List (List Int)} (h : polB v f = true) (h2 : inB i 0 40 = true) (a : 0 < f.length) (b : 40 < degL f + i) : squO v f i = (0, [], 3) := by unfold squO; rw [if_pos h, if_pos h2, if_pos ⟨a, b⟩]
theorem squO_ok {v i : Int} {f : List (List Int)} (h : polB v f = true) (h2 : inB i 0 40 = true) (a : f.length = 0 ∨ degL f + i ≤ 40) : squO v f i = toldV v (oddL (sqP f i)) := by
  unfold squO; rw [if_pos h, if_pos h2, if_neg]
  rintro ⟨p, q⟩
  rcases a with a | a <;> omega
theorem squO_void {v i : Int} {f : List (List Int)} (h : polB v f = true) (h2 : inB i 0 40 = true) (a : f.length = 0) : squO v f i = (v, [], 0) := by
  rw [squO_ok h h2 (.inl a), List.eq_nil_of_length_eq_zero a]
  exact toldV_yes (by simp [oddL, sqP])
/-- the terms of a square: its monomials -/
theorem sq_mono {v i : Int} {f : List (List Int)} {k : Nat} (hf : PolF v f) (hk : v = k) (hi : inB i 0 40 = true) (a : f.length = 0 ∨ degL f + i ≤ 40) : ∀ z ∈ sqP f i, Mono k z := by
  intro z hz
  rcases a with a | a
  · rw [List.eq_nil_of_length_eq_zero a] at hz; cases hz
  · exact (sqP_deg (hf.degs hk) z hz).mono (by omega)

set_option maxRecDepth 100000 in
set_option maxHeartbeats 1000000 in
theorem iSquareOn (v : Int) (A1 : Option Addr) (n1 c1 : Nat) (xss : List (List Int)) (i : Int) (w : World) (h1 : RdL w w.heap.size A1 n1 c1 xss) (hn1 : n1 ≤ 2000000) (ht1 : totalL xss ≤ 2000000) :
    Calls Tryz.prog 14 #[.agg #[.int .i64 v, .slice A1 n1 c1], .int .i64 i] w (RetPl (squO v xss i) w) := by
  obtain ⟨w0, b, hw0, hbe, hb0, hz0, hF⟩ := start22 w (.int .i64 v) (.slice A1 n1 c1) (.int .i64 0) (.slice none 0 0) 26 26
  have HL1 := Lib.hid h1.len
  have H1 := Lib.hid (rdL_here h1 hb0); clear h1
  have Hw := Lib.hid hw0; clear hw0
  have Hbe := Lib.hid hbe; clear hbe
  have Hb0 := Lib.hid hb0; clear hb0
  have HZ := Lib.hid hz0; clear hz0
  have F0 := Lib.hid hF; clear hF
  have X0 := Lib.hid (Below.refl w0.heap.size w0)
  obtain ⟨r1, hr1⟩ : ∃ r, r = polB v xss := ⟨_, rfl⟩
  have HR1 := Lib.hid hr1; clear hr1
  obtain ⟨r2, hr2⟩ : ∃ r, r = inB i 0 40 := ⟨_, rfl⟩
  have HR2 := Lib.hid hr2; clear hr2
  obtain ⟨o, ho⟩ : ∃ o, o = squO v xss i := ⟨_, rfl⟩
  have HO := Lib.hid ho
  rw [← ho]
  clear ho
  go_enter Tryz.func14, Tryz.ntmps14
  go_wp2_with fail
  rw [← Hw.out, ← Hbe.out]
  have k0 := (F0.out.below X0.out).at_ (b := b) (o := 0) (V := .int .i64 v) (by simp)
  have k1 := (F0.out.below X0.out).at_ (b := b) (o := 1) (V := .slice A1 n1 c1) (by simp)
  refine (iIsPoly v A1 n1 c1 xss _ H1.out hn1 ht1).mono ?_
  rintro e w1 ⟨rfl, hb1⟩
  rw [← HR1.out]
  have X1 := Lib.hid hb1; clear hb1 k0 k1
  have k0 := (F0.out.below X1.out).at_ (b := b) (o := 0) (V := .int .i64 v) (by simp)
  have k1 := (F0.out.below X1.out).at_ (b := b) (o := 1) (V := .slice A1 n1 c1) (by simp)
  cases r1
  · have HV := Lib.hid (HO.out.trans (squO_bad HR1.out.symm))
    have q0 := (F0.out.below X1.out).at_ (b := b + 1) (o := 0) (V := .int .i64 0) (by simp)
    have q1 := (F0.out.below X1.out).at_ (b := b + 1) (o := 1) (V := .slice none 0 0) (by simp)
    have f0 := (F0.out.below X1.out).fr (b := b + 1) (o := 0) (V := .int .i64 0) (by simp)
    have f1 := (F0.out.below X1.out).fr (b := b + 1) (o := 1) (V := .slice none 0 0) (by simp)
    have hres := cells_end q0 q1 (.int .i64 0) (.slice none 0 0)
    go_wp2_with fail
    refine bodyPost_ret (v := .tuple #[.agg #[.int .i64 0, .slice none 0 0], .int .i64 1]) (by simp [results, Tryz.results14, go_sem, hres.1, hres.2]) rfl ?_
    exact RetNC.bad (by rw [HV.out]) (by rw [HV.out]) (by rw [HV.out]) (Hb0.out.trans (X1.out.mono Hb0.out.size)) (by rw [Hbe.out]; omega)
  · have HP1 := Lib.hid (polF_of HR1.out.symm)
    go_wp2_with fail
    refine (isDegree_any i _).mono ?_
    rintro e w2 ⟨rfl, rfl⟩
    rw [← HR2.out]
    cases r2
    · have HV := Lib.hid (HO.out.trans (squO_range HR1.out.symm HR2.out.symm))
      have q0 := (F0.out.below X1.out).at_ (b := b + 1) (o := 0) (V := .int .i64 0) (by simp)
      have q1 := (F0.out.below X1.out).at_ (b := b + 1) (o := 1) (V := .slice none 0 0) (by simp)
      have f0 := (F0.out.below X1.out).fr (b := b + 1) (o := 0) (V := .int .i64 0) (by simp)
      have f1 := (F0.out.below X1.out).fr (b := b + 1) (o := 1) (V := .slice none 0 0) (by simp)
      have hres := cells_end q0 q1 (.int .i64 0) (.slice none 0 0)
      go_wp2_with fail
      refine bodyPost_ret (v := .tuple #[.agg #[.int .i64 0, .slice none 0 0], .int .i64 2]) (by simp [results, Tryz.results14, go_sem, hres.1, hres.2]) rfl ?_
      exact RetNC.bad (by rw [HV.out]) (by rw [HV.out]) (by rw [HV.out]) (Hb0.out.trans (X1.out.mono Hb0.out.size)) (by rw [Hbe.out]; omega)
    · have HI := Lib.hid (inB_iff.1 HR2.out.symm)
      go_wp2_with fail
      refine (isZeroP_any v A1 n1 c1 _ hn1).mono ?_
      rintro e w3 ⟨rfl, hb3⟩
      have X3 := Lib.hid (X1.out.trans (hb3.mono X1.out.size)); clear hb3 k0 k1
      have k0 := (F0.out.below X3.out).at_ (b := b) (o := 0) (V := .int .i64 v) (by simp)
      have k1 := (F0.out.below X3.out).at_ (b := b) (o := 1) (V := .slice A1 n1 c1) (by simp)
      by_cases hz1 : n1 = 0
      · have HV := Lib.hid (HO.out.trans (squO_void HR1.out.symm HR2.out.symm (by rw [HL1.out]; exact hz1)))
        rw [decide_eq_true hz1]
        clear hz1
        have q0 := (F0.out.below X3.out).at_ (b := b + 1) (o := 0) (V := .int .i64 0) (by simp)
        have q1 := (F0.out.below X3.out).at_ (b := b + 1) (o := 1) (V := .slice none 0 0) (by simp)
        have f0 := (F0.out.below X3.out).fr (b := b + 1) (o := 0) (V := .int .i64 0) (by simp)
        have f1 := (F0.out.below X3.out).fr (b := b + 1) (o := 1) (V := .slice none 0 0) (by simp)
        have hres := cells_end q0 q1 (.int .i64 v) (.slice none 0 0)
        go_wp2_with fail
        refine bodyPost_ret (v := .tuple #[.agg #[.int .i64 v, .slice none 0 0], .int .i64 0]) (by simp [results, Tryz.results14, go_sem, hres.1, hres.2]) rfl ?_
        exact RetNC.void (by rw [HV.out]) (by rw [HV.out]) (by rw [HV.out]) (Hb0.out.trans (X3.out.mono Hb0.out.size)) (by rw [Hbe.out]; omega)
      · rw [decide_eq_false hz1]
        have HZ1 := Lib.hid (show 0 < n1 by omega)
        clear hz1
        obtain ⟨d1, hd1⟩ : ∃ d, d = degL xss := ⟨_, rfl⟩
        have D1 := Lib.hid (degreeP_any v A1 n1 c1 _ xss w3 (rdL_here H1.out X3.out) (Nat.le_refl _) hn1 ht1)
        rw [← hd1] at D1
        have E1 := Lib.hid hd1
        have b1 := HP1.out.deg.2
        rw [← hd1] at b1
        have BD1 := Lib.hid b1
        clear hd1 b1
        have hwd : IntKind.i64.wrap (d1 + i) = d1 + i := by have := BD1.out; have := HI.out; rw [IntKind.wrap_i64]; omega
        go_wp2_with fail
        refine D1.out.mono ?_
        rintro e w4 ⟨rfl, hb4⟩
        have X4 := Lib.hid (X3.out.trans (hb4.mono X3.out.size)); clear hb4 k0 k1
        by_cases hlim : 40 < d1 + i
        · have HV := Lib.hid (HO.out.trans (squO_lim HR1.out.symm HR2.out.symm (by rw [HL1.out]; exact HZ1.out) (by rw [← E1.out]; exact hlim)))
          have hl : decide (40 < d1 + i) = true := decide_eq_true hlim
          clear hlim
          have q0 := (F0.out.below X4.out).at_ (b := b + 1) (o := 0) (V := .int .i64 0) (by simp)
          have q1 := (F0.out.below X4.out).at_ (b := b + 1) (o := 1) (V := .slice none 0 0) (by simp)
          have f0 := (F0.out.below X4.out).fr (b := b + 1) (o := 0) (V := .int .i64 0) (by simp)
          have f1 := (F0.out.below X4.out).fr (b := b + 1) (o := 1) (V := .slice none 0 0) (by simp)
          have hres := cells_end q0 q1 (.int .i64 0) (.slice none 0 0)
          go_wp2_with fail
          refine bodyPost_ret (v := .tuple #[.agg #[.int .i64 0, .slice none 0 0], .int .i64 3]) (by simp [results, Tryz.results14, go_sem, hres.1, hres.2]) rfl ?_
          exact RetNC.bad (by rw [HV.out]) (by rw [HV.out]) (by rw [HV.out]) (Hb0.out.trans (X4.out.mono Hb0.out.size)) (by rw [Hbe.out]; omega)
        · have HNL := Lib.hid (show xss.length = 0 ∨ degL xss + i ≤ 40 from .inr (by rw [← E1.out]; omega))
          have HV := Lib.hid (HO.out.trans (squO_ok HR1.out.symm HR2.out.symm HNL.out))
          have hl : decide (40 < d1 + i) = false := decide_eq_false hlim
          obtain ⟨k, hk⟩ : ∃ k : Nat, v = k := ⟨v.toNat, by have := HP1.out.lo; omega⟩
          have hk4 : k ≤ 4 := by have := HP1.out.hi; omega
          have MD := Lib.hid (HP1.out.degs hk)
          have MP := Lib.hid (sq_mono HP1.out hk HR2.out.symm HNL.out)
          have L1 := Lib.hid (show xss.length ≤ 2000 from HP1.out.len)
          have HDE := Lib.hid (show degL xss + i ≤ 63 from by rw [← E1.out]; omega)
          clear hlim
          subst hk
          have k0 := (F0.out.below X4.out).at_ (b := b) (o := 0) (V := .int .i64 k) (by simp)
          have k1 := (F0.out.below X4.out).at_ (b := b) (o := 1) (V := .slice A1 n1 c1) (by simp)
          go_wp2_with fail
          have Bd := Lib.hid (show Below w0.heap.size w0 w4.drew from below_drewN X4.out 1)
          have Cd := Lib.hid (F0.out.below Bd.out)
          have kd0 := Cd.out.at_ (b := b) (o := 0) (V := .int .i64 k) (by simp)
          have kd1 := Cd.out.at_ (b := b) (o := 1) (V := .slice A1 n1 c1) (by simp)
          clear k0 k1 hwd hl
          go_region_held3 (fun w' => w'.cell? ⟨b, 0, none⟩ = some (.int .i64 k) ∧ w'.cell? ⟨b, 1, none⟩ = some (.slice A1 n1 c1))
            (first | (with_reducible exact ⟨kd0, kd1⟩) | (with_reducible exact ⟨ka0, ka1⟩) | (with_reducible exact ⟨ke0, ke1⟩) | (with_reducible exact ⟨two_far mm0 ke0, two_far mm0 ke1⟩))
            (first
              | (go_at_call 65
                 refine (square_any A1 n1 c1 k _ i xss _ (rdL_here H1.out Bd.out) MD.out HI.out.1 HDE.out hk4 (by omega)).mono ?_
                 rintro e w6 ⟨p, rfl, hp6, op6, hb6⟩
                 have B6 := Lib.hid (Bd.out.trans (hb6.mono Bd.out.size))
                 have P6 := Lib.hid op6.odd
                 have C6 := Lib.hid (F0.out.below B6.out)
                 have ka0 := C6.out.at_ (b := b) (o := 0) (V := .int .i64 k) (by simp)
                 have ka1 := C6.out.at_ (b := b) (o := 1) (V := .slice A1 n1 c1) (by simp)
                 have HT := told_any p k (oddL (sqP xss i)) w6 P6.out (oddL_mono MP.out) (by omega) (by have := oddL_small MP.out hk4; omega)
                 rw [oddL_of_asc (oddL_asc _), ← HV.out] at HT
                 have HT := Lib.hid HT
                 clear hp6 op6 hb6)
              | (go_at_call 48
                 refine HT.out.mono ?_
                 rintro e w9 ⟨A9, c9, rfl, om9, hb9⟩
                 have X9 := Lib.hid (B6.out.trans (hb9.mono B6.out.size))
                 have O9 := Lib.hid (om9.mono B6.out.size (Nat.le_refl _))
                 have C9 := Lib.hid (F0.out.below X9.out)
                 have ke0 := C9.out.at_ (b := b) (o := 0) (V := .int .i64 k) (by simp)
                 have ke1 := C9.out.at_ (b := b) (o := 1) (V := .slice A1 n1 c1) (by simp)
                 have q0 := C9.out.at_ (b := b + 1) (o := 0) (V := .int .i64 0) (by simp)
                 have q1 := C9.out.at_ (b := b + 1) (o := 1) (V := .slice none 0 0) (by simp)
                 have f0 := C9.out.fr (b := b + 1) (o := 0) (V := .int .i64 0) (by simp)
                 have f1 := C9.out.fr (b := b + 1) (o := 1) (V := .slice none 0 0) (by simp)
                 have mm0 : b + 1 ≠ b := by omega
                 clear om9 hb9))
          have hres := cells_end q0 q1 (.int .i64 o.1) (.slice A9 o.2.1.length c9)
          go_wp2_with fail
          refine bodyPost_ret (v := .tuple #[.agg #[.int .i64 o.1, .slice A9 o.2.1.length c9], .int .i64 o.2.2]) (by simp [results, Tryz.results14, go_sem, hres.1, hres.2]) rfl ?_
          exact RetNC.mk (V := w0.heap.size) rfl rfl rfl rfl (Hb0.out.trans (X9.out.mono Hb0.out.size)) (by rw [Hbe.out]; omega) (by rw [HZ.out]; omega) O9.out (Nat.le_refl _)
end Go.Proofs.YtoodhbafleemjaaGreat

/- SquareOn on the reference's side. -/
namespace Go.Proofs.YtoodhbafleemjaaGreat
open Go.RowKit
set_option linter.unusedVariables false

set_option maxRecDepth 100000 in
set_option maxHeartbeats 1000000 in
theorem sSquareOn (v : Int) (A1 : Option Addr) (n1 c1 : Nat) (xss : List (List Int)) (i : Int) (w : World) (h1 : RdL w w.heap.size A1 n1 c1 xss) (hn1 : n1 ≤ 2000000) (ht1 : totalL xss ≤ 2000000) :
    Calls Tryz.prog 17 #[.agg #[.int .i64 v, .slice A1 n1 c1], .int .i64 i] w (RetPl (squO v xss i) w) := by
  obtain ⟨w0, b, hw0, hbe, hb0, hz0, hF⟩ := start22 w (.int .i64 v) (.slice A1 n1 c1) (.int .i64 0) (.slice none 0 0) 26 26
  have HL1 := Lib.hid h1.len
  have H1 := Lib.hid (rdL_here h1 hb0); clear h1
  have Hw := Lib.hid hw0; clear hw0
  have Hbe := Lib.hid hbe; clear hbe
  have Hb0 := Lib.hid hb0; clear hb0
  have HZ := Lib.hid hz0; clear hz0
  have F0 := Lib.hid hF; clear hF
  have X0 := Lib.hid (Below.refl w0.heap.size w0)
  obtain ⟨r1, hr1⟩ : ∃ r, r = polB v xss := ⟨_, rfl⟩
  have HR1 := Lib.hid hr1; clear hr1
  obtain ⟨r2, hr2⟩ : ∃ r, r = inB i 0 40 := ⟨_, rfl⟩
  have HR2 := Lib.hid hr2; clear hr2
  obtain ⟨o, ho⟩ : ∃ o, o = squO v xss i := ⟨_, rfl⟩
  have HO := Lib.hid ho
  rw [← ho]
  clear ho
  go_enter Tryz.func17, Tryz.ntmps17
  go_wp2_with fail
  rw [← Hw.out, ← Hbe.out]
  have k0 := (F0.out.below X0.out).at_ (b := b) (o := 0) (V := .int .i64 v) (by simp)
  have k1 := (F0.out.below X0.out).at_ (b := b) (o := 1) (V := .slice A1 n1 c1) (by simp)
  refine (l08Is_any v A1 n1 c1 xss _ H1.out hn1 ht1).mono ?_
  rintro e w1 ⟨rfl, hb1⟩
  rw [← HR1.out]
  have X1 := Lib.hid hb1; clear hb1 k0 k1
  have k0 := (F0.out.below X1.out).at_ (b := b) (o := 0) (V := .int .i64 v) (by simp)
  have k1 := (F0.out.below X1.out).at_ (b := b) (o := 1) (V := .slice A1 n1 c1) (by simp)
  cases r1
  · have HV := Lib.hid (HO.out.trans (squO_bad HR1.out.symm))
    have q0 := (F0.out.below X1.out).at_ (b := b + 1) (o := 0) (V := .int .i64 0) (by simp)
    have q1 := (F0.out.below X1.out).at_ (b := b + 1) (o := 1) (V := .slice none 0 0) (by simp)
    have f0 := (F0.out.below X1.out).fr (b := b + 1) (o := 0) (V := .int .i64 0) (by simp)
    have f1 := (F0.out.below X1.out).fr (b := b + 1) (o := 1) (V := .slice none 0 0) (by simp)
    have hres := cells_end q0 q1 (.int .i64 0) (.slice none 0 0)
    go_wp2_with fail
    refine bodyPost_ret (v := .tuple #[.agg #[.int .i64 0, .slice none 0 0], .int .i64 1]) (by simp [results, Tryz.results17, go_sem, hres.1, hres.2]) rfl ?_
    exact RetNC.bad (by rw [HV.out]) (by rw [HV.out]) (by rw [HV.out]) (Hb0.out.trans (X1.out.mono Hb0.out.size)) (by rw [Hbe.out]; omega)
  · have HP1 := Lib.hid (polF_of HR1.out.symm)
    go_wp2_with fail
    refine (l01In_any i _ _ _).mono ?_
    rintro e w2 ⟨rfl, rfl⟩
    rw [← HR2.out]
    cases r2
    · have HV := Lib.hid (HO.out.trans (squO_range HR1.out.symm HR2.out.symm))
      have q0 := (F0.out.below X1.out).at_ (b := b + 1) (o := 0) (V := .int .i64 0) (by simp)
      have q1 := (F0.out.below X1.out).at_ (b := b + 1) (o := 1) (V := .slice none 0 0) (by simp)
      have f0 := (F0.out.below X1.out).fr (b := b + 1) (o := 0) (V := .int .i64 0) (by simp)
      have f1 := (F0.out.below X1.out).fr (b := b + 1) (o := 1) (V := .slice none 0 0) (by simp)
      have hres := cells_end q0 q1 (.int .i64 0) (.slice none 0 0)
      go_wp2_with fail
      refine bodyPost_ret (v := .tuple #[.agg #[.int .i64 0, .slice none 0 0], .int .i64 2]) (by simp [results, Tryz.results17, go_sem, hres.1, hres.2]) rfl ?_
      exact RetNC.bad (by rw [HV.out]) (by rw [HV.out]) (by rw [HV.out]) (Hb0.out.trans (X1.out.mono Hb0.out.size)) (by rw [Hbe.out]; omega)
    · have HI := Lib.hid (inB_iff.1 HR2.out.symm)
      obtain ⟨d1, hd1⟩ : ∃ d, d = degL xss := ⟨_, rfl⟩
      have D1 := Lib.hid (l08Degree_any A1 n1 c1 _ xss w2 (rdL_here H1.out X1.out) hn1 ht1)
      rw [← hd1] at D1
      have E1 := Lib.hid hd1
      have b1 := HP1.out.deg.2
      rw [← hd1] at b1
      have BD1 := Lib.hid b1
      clear hd1 b1
      have hwd : IntKind.i64.wrap (d1 + i) = d1 + i := by have := BD1.out; have := HI.out; rw [IntKind.wrap_i64]; omega
      have hcase : (Hid (0 < n1) ∧ Hid (40 < d1 + i)) ∨ Hid (n1 = 0) ∨ (Hid (0 < n1) ∧ Hid (d1 + i ≤ 40)) := by
        by_cases h1 : n1 = 0
        · exact .inr (.inl (Lib.hid h1))
        · by_cases h2 : 40 < d1 + i
          · exact .inl ⟨Lib.hid (by omega), Lib.hid h2⟩
          · exact .inr (.inr ⟨Lib.hid (by omega), Lib.hid (Int.not_lt.1 h2)⟩)
      rcases hcase with ⟨hA, hB⟩ | hcase
      · have HV := Lib.hid (HO.out.trans (squO_lim HR1.out.symm HR2.out.symm (by rw [HL1.out]; exact hA.out) (by rw [← E1.out]; exact hB.out)))
        have t1 : decide ((0 : Int) < n1) = true := decide_eq_true (by have := hA.out; omega)
        have t3 : 0 < n1 := hA.out
        have hl : decide (40 < d1 + i) = true := decide_eq_true hB.out
        go_wp2_with fail
        refine D1.out.mono ?_
        rintro e w3 ⟨rfl, rfl⟩
        clear k0 k1
        have q0 := (F0.out.below X1.out).at_ (b := b + 1) (o := 0) (V := .int .i64 0) (by simp)
        have q1 := (F0.out.below X1.out).at_ (b := b + 1) (o := 1) (V := .slice none 0 0) (by simp)
        have f0 := (F0.out.below X1.out).fr (b := b + 1) (o := 0) (V := .int .i64 0) (by simp)
        have f1 := (F0.out.below X1.out).fr (b := b + 1) (o := 1) (V := .slice none 0 0) (by simp)
        have hres := cells_end q0 q1 (.int .i64 0) (.slice none 0 0)
        go_wp2_with fail
        refine bodyPost_ret (v := .tuple #[.agg #[.int .i64 0, .slice none 0 0], .int .i64 3]) (by simp [results, Tryz.results17, go_sem, hres.1, hres.2]) rfl ?_
        exact RetNC.bad (by rw [HV.out]) (by rw [HV.out]) (by rw [HV.out]) (Hb0.out.trans (X1.out.mono Hb0.out.size)) (by rw [Hbe.out]; omega)
      · have HNL := Lib.hid (show xss.length = 0 ∨ degL xss + i ≤ 40 from by
          rcases hcase with h | ⟨_, h⟩
          · exact .inl (by rw [HL1.out]; exact h.out)
          · exact .inr (by rw [← E1.out]; exact h.out))
        have HV := Lib.hid (HO.out.trans (squO_ok HR1.out.symm HR2.out.symm HNL.out))
        obtain ⟨k, hk⟩ : ∃ k : Nat, v = k := ⟨v.toNat, by have := HP1.out.lo; omega⟩
        have hk4 : k ≤ 4 := by have := HP1.out.hi; omega
        have MD := Lib.hid (HP1.out.degs hk)
        have MP := Lib.hid (sq_mono HP1.out hk HR2.out.symm HNL.out)
        have HDE := Lib.hid (show ∀ x ∈ xss, Deg k (if n1 = 0 then 0 else degL xss) x from fun x hx => by
          rw [if_neg (by rintro rfl; have := HL1.out; rw [List.eq_nil_of_length_eq_zero this] at hx; cases hx)]
          exact MD.out x hx)
        have HDI := Lib.hid (show (if n1 = 0 then 0 else degL xss) + i ≤ 63 from by
          split
          · have := HI.out; omega
          · rename_i hz
            rcases HNL.out with h | h
            · rw [HL1.out] at h; exact absurd h hz
            · omega)
        have L1 := Lib.hid (show xss.length ≤ 2000 from HP1.out.len)
        clear hk
        obtain ⟨s, hs⟩ : ∃ s, s = oddL (sqP xss i) := ⟨_, rfl⟩
        have hsl : s.length ≤ 16777216 := by rw [hs]; exact oddL_small MP.out hk4
        have HS := fun (W : World) (hB : Below w0.heap.size w0 W) => Lib.hid (l08Square_any A1 n1 c1 k _ i xss W (rdL_here H1.out hB) HDE.out HI.out.1 HDI.out hk4 (by omega))
        rw [← hs] at HS HV
        obtain ⟨l, hl⟩ : ∃ l, l = s.length := ⟨_, rfl⟩
        rw [← hl] at HS hsl
        have HLs := Lib.hid hl
        clear hs hl
        rcases hcase with hA | ⟨hA, hB⟩
        have t1 : decide ((0 : Int) < n1) = false := decide_eq_false (by have := hA.out; omega)
        have t3 : decide (0 < n1) = false := decide_eq_false (by have := hA.out; omega)
        have t4 : ¬ 0 < n1 := by have := hA.out; omega
        go_wp2_with fail
        clear t1 t3 t4
        rotate_left
        have t1 : decide ((0 : Int) < n1) = true := decide_eq_true (by have := hA.out; omega)
        have t3 : 0 < n1 := hA.out
        have hl : decide (40 < d1 + i) = false := decide_eq_false (Int.not_lt.2 hB.out)
        go_wp2_with fail
        refine D1.out.mono ?_
        rintro e w3 ⟨rfl, h3⟩
        rw [h3]
        clear h3
        go_wp2_with fail
        clear t1 t3 hl
        all_goals
          clear hwd k0 k1
          obtain ⟨xr, fA, nr, fc, kr, HF, HR1x, HR2x, HR3x, HR4x⟩ := fit_cases (v := v) HV.out HLs.out (by omega)
          have Bd := Lib.hid (show Below w0.heap.size w0 w2.drew from below_drewN X1.out 1)
          have C2 := Lib.hid (F0.out.below X1.out)
          have Cd := Lib.hid (show Cells _ w2.drew from C2.out.drewN 1)
          have BdA := Lib.hid (show Below w0.heap.size w0 (w2.alloc (.cells #[.int .i64 0, .slice none 0 0] 26)).drew from below_drewN (X1.out.alloc X1.out.size _) 1)
          have CdA := Lib.hid (show Cells _ (w2.alloc (.cells #[.int .i64 0, .slice none 0 0] 26)).drew from (C2.out.below ((Below.refl _ _).alloc (Nat.le_refl _) (.cells #[.int .i64 0, .slice none 0 0] 26))).drewN 1)
          have NdA := Lib.hid (show Cells [(w2.heap.size, 0, .int .i64 0), (w2.heap.size, 1, .slice none 0 0)] (w2.alloc (.cells #[.int .i64 0, .slice none 0 0] 26)).drew from (Cells.nil.alloc2 (.int .i64 0) (.slice none 0 0) 26 (w := w2) rfl).drewN 1)
          have zl2 : b < w2.heap.size := by have := X1.out.size; have := HZ.out; omega
          have zA : (w2.alloc (.cells #[.int .i64 0, .slice none 0 0] 26)).drew.heap.size = w2.heap.size + 1 := by show (w2.alloc (.cells #[.int .i64 0, .slice none 0 0] 26)).heap.size = _; simp
          have kd0 := Cd.out.at_ (b := b) (o := 0) (V := .int .i64 v) (by simp)
          have kd1 := Cd.out.at_ (b := b) (o := 1) (V := .slice A1 n1 c1) (by simp)
          have ke0 := CdA.out.at_ (b := b) (o := 0) (V := .int .i64 v) (by simp)
          have ke1 := CdA.out.at_ (b := b) (o := 1) (V := .slice A1 n1 c1) (by simp)
          go_wp2_with fail
          go_region_held3 (fun w' => w'.cell? ⟨b, 0, none⟩ = some (.int .i64 v) ∧ w'.cell? ⟨b, 1, none⟩ = some (.slice A1 n1 c1)) (first | (with_reducible exact ⟨kd0, kd1⟩) | (with_reducible exact ⟨ke0, ke1⟩) | (with_reducible exact ⟨ka0, ka1⟩) | (with_reducible exact ⟨kf0, kf1⟩) | (with_reducible exact ⟨kb0, kb1⟩) | (with_reducible exact ⟨kg0, kg1⟩) | (with_reducible exact ⟨kh0, kh1⟩) | (with_reducible exact ⟨two_far mm0 kb0, two_far mm0 kb1⟩))
            (first
              | (go_at_call 73
                 refine (HS _ (by first | exact Bd.out | exact BdA.out)).out.mono ?_
                 rintro e w4 ⟨A5, c5, rfl, ho5, hb5⟩
                 have B4 : Hid (Below w0.heap.size w0 w4) := by
                   first
                     | exact Lib.hid (Bd.out.trans (hb5.mono Bd.out.size))
                     | exact Lib.hid (BdA.out.trans (hb5.mono BdA.out.size))
                 have M4 : Hid (OwnM w4 w2.heap.size w4.heap.size A5 l c5 s) := by
                   first
                     | exact Lib.hid (ho5.m (Nat.le_refl _))
                     | exact Lib.hid ((ho5.m (Nat.le_refl _)).mono (Nat.le_trans (Nat.le_succ _) (Nat.le_of_eq zA.symm)) (Nat.le_refl _))
                 first
                   | have M4s : Hid (OwnM w4 (w2.heap.size + 1) w4.heap.size A5 l c5 s) := Lib.hid ((ho5.m (Nat.le_refl _)).mono (Nat.le_of_eq zA.symm) (Nat.le_refl _))
                   | skip
                 have C4 := Lib.hid (F0.out.below B4.out)
                 have B4A := Lib.hid (show Below w0.heap.size w0 (w4.alloc (.cells #[.int .i64 0, .slice none 0 0] 26)) from B4.out.alloc B4.out.size _)
                 have C4A := Lib.hid (C4.out.below ((Below.refl _ _).alloc (Nat.le_refl _) (.cells #[.int .i64 0, .slice none 0 0] 26)))
                 have M4A := Lib.hid (M4.out.below ((Below.refl _ _).alloc (Nat.le_refl _) (.cells #[.int .i64 0, .slice none 0 0] 26)))
                 have N4A := Lib.hid (Cells.nil.alloc2 (.int .i64 0) (.slice none 0 0) 26 (w := w4) rfl)
                 first
                   | have N4 := Lib.hid (NdA.out.below hb5)
                   | skip
                 have ka0 := C4.out.at_ (b := b) (o := 0) (V := .int .i64 v) (by simp)
                 have ka1 := C4.out.at_ (b := b) (o := 1) (V := .slice A1 n1 c1) (by simp)
                 have kf0 := C4A.out.at_ (b := b) (o := 0) (V := .int .i64 v) (by simp)
                 have kf1 := C4A.out.at_ (b := b) (o := 1) (V := .slice A1 n1 c1) (by simp)
                 clear ho5 hb5)
              | (go_at_call 53
                 refine (HF _ _ _).out.mono ?_
                 rintro e w5 ⟨rfl, hb6⟩
                 have B5 : Hid (Below w0.heap.size w0 w5) := by
                   first
                     | exact Lib.hid (B4.out.trans (hb6.mono B4.out.size))
                     | exact Lib.hid (B4A.out.trans (hb6.mono B4A.out.size))
                 have M5 : Hid (OwnM w5 w2.heap.size w4.heap.size A5 l c5 s) := by
                   first
                     | exact Lib.hid (M4.out.below hb6)
                     | exact Lib.hid (M4A.out.below hb6)
                 have Z5 : w4.heap.size ≤ w5.heap.size := by
                   first
                     | exact hb6.size
                     | exact Nat.le_trans (by simp) hb6.size
                 first
                   | (have N5 := Lib.hid (N4.out.below hb6)
                      have M5s : Hid (OwnM w5 (w2.heap.size + 1) w4.heap.size A5 l c5 s) := Lib.hid (M4s.out.below hb6)
                      have n0 := N5.out.at_ (b := w2.heap.size) (o := 0) (V := .int .i64 0) (by simp)
                      have n1' := N5.out.at_ (b := w2.heap.size) (o := 1) (V := .slice none 0 0) (by simp)
                      have nf0 := N5.out.fr (b := w2.heap.size) (o := 0) (V := .int .i64 0) (by simp)
                      have nf1 := N5.out.fr (b := w2.heap.size) (o := 1) (V := .slice none 0 0) (by simp)
                      have mm0 : w2.heap.size ≠ b := by have := B4.out.size; have := HZ.out; omega)
                   | (have N5 := Lib.hid (N4A.out.below hb6)
                      have n0 := N5.out.at_ (b := w4.heap.size) (o := 0) (V := .int .i64 0) (by simp)
                      have n1' := N5.out.at_ (b := w4.heap.size) (o := 1) (V := .slice none 0 0) (by simp)
                      have nf0 := N5.out.fr (b := w4.heap.size) (o := 0) (V := .int .i64 0) (by simp)
                      have nf1 := N5.out.fr (b := w4.heap.size) (o := 1) (V := .slice none 0 0) (by simp)
                      have mm0 : w4.heap.size ≠ b := by have := B4.out.size; have := HZ.out; omega)
                   | skip
                 have C5 := Lib.hid (F0.out.below B5.out)
                 have C5A := Lib.hid (C5.out.below ((Below.refl _ _).alloc (Nat.le_refl _) (.cells #[.int .i64 0, .slice none 0 0] 26)))
                 have C5B := Lib.hid (C5.out.below ((Below.refl _ _).alloc (Nat.le_refl _) (.cells #[.int .i64 xr, .slice (fA A5) nr (fc c5)] 26)))
                 have kb0 := C5.out.at_ (b := b) (o := 0) (V := .int .i64 v) (by simp)
                 have kb1 := C5.out.at_ (b := b) (o := 1) (V := .slice A1 n1 c1) (by simp)
                 have kg0 := C5A.out.at_ (b := b) (o := 0) (V := .int .i64 v) (by simp)
                 have kg1 := C5A.out.at_ (b := b) (o := 1) (V := .slice A1 n1 c1) (by simp)
                 have kh0 := C5B.out.at_ (b := b) (o := 0) (V := .int .i64 v) (by simp)
                 have kh1 := C5B.out.at_ (b := b) (o := 1) (V := .slice A1 n1 c1) (by simp)
                 clear hb6))
          all_goals
            first
              | (obtain ⟨wz, hwz⟩ : ∃ W, W = w5.alloc (.cells #[.int .i64 xr, .slice (fA A5) nr (fc c5)] 26) := ⟨_, rfl⟩
                 rw [← hwz]
                 have XZ := Lib.hid (show Below w0.heap.size w0 wz from by rw [hwz]; exact B5.out.alloc B5.out.size _)
                 have MZ := Lib.hid (show OwnM wz w0.heap.size w4.heap.size A5 l c5 s from by rw [hwz]; exact (M5.out.below ((Below.refl _ _).alloc (Nat.le_refl _) _)).mono X1.out.size (Nat.le_refl _))
                 have hz4 : w4.heap.size ≤ wz.heap.size := by rw [hwz]; simp; omega
                 have y0 : wz.cell? ⟨w5.heap.size, 0, none⟩ = some (.int .i64 xr) := by rw [hwz]; exact new_at rfl rfl
                 have y1 : wz.cell? ⟨w5.heap.size, 1, none⟩ = some (.slice (fA A5) nr (fc c5)) := by rw [hwz]; exact new_at rfl rfl
                 clear hwz)
              | (obtain ⟨wz, hwz⟩ : ∃ W, W = (w5.setCell ⟨w4.heap.size, 0, none⟩ (.int .i64 xr)).setCell ⟨w4.heap.size, 1, none⟩ (.slice (fA A5) nr (fc c5)) := ⟨_, rfl⟩
                 rw [← hwz]
                 have XZ := Lib.hid (show Below w0.heap.size w0 wz from by rw [hwz]; exact (B5.out.setCell (p := ⟨w4.heap.size, 0, none⟩) B4.out.size _).setCell (p := ⟨w4.heap.size, 1, none⟩) B4.out.size _)
                 have MZ := Lib.hid (show OwnM wz w0.heap.size w4.heap.size A5 l c5 s from by rw [hwz]; exact (M5.out.two Z5 (.inr (Nat.le_refl _))).mono X1.out.size (Nat.le_refl _))
                 have hz4 : w4.heap.size ≤ wz.heap.size := by rw [hwz]; simp [World.setCell]; omega
                 have y0 : wz.cell? ⟨w4.heap.size, 0, none⟩ = some (.int .i64 xr) := by rw [hwz]; exact (cells_end n0 n1' (.int .i64 xr) (.slice (fA A5) nr (fc c5))).1
                 have y1 : wz.cell? ⟨w4.heap.size, 1, none⟩ = some (.slice (fA A5) nr (fc c5)) := by rw [hwz]; exact (cells_end n0 n1' (.int .i64 xr) (.slice (fA A5) nr (fc c5))).2
                 clear hwz)
              | (obtain ⟨wz, hwz⟩ : ∃ W, W = (w5.setCell ⟨w2.heap.size, 0, none⟩ (.int .i64 xr)).setCell ⟨w2.heap.size, 1, none⟩ (.slice (fA A5) nr (fc c5)) := ⟨_, rfl⟩
                 rw [← hwz]
                 have XZ := Lib.hid (show Below w0.heap.size w0 wz from by rw [hwz]; exact (B5.out.setCell (p := ⟨w2.heap.size, 0, none⟩) X1.out.size _).setCell (p := ⟨w2.heap.size, 1, none⟩) X1.out.size _)
                 have MZ := Lib.hid (show OwnM wz w0.heap.size w4.heap.size A5 l c5 s from by rw [hwz]; exact (M5s.out.two Z5 (.inl (Nat.lt_succ_self _))).mono (Nat.le_succ_of_le X1.out.size) (Nat.le_refl _))
                 have hz4 : w4.heap.size ≤ wz.heap.size := by rw [hwz]; simp [World.setCell]; omega
                 have y0 : wz.cell? ⟨w2.heap.size, 0, none⟩ = some (.int .i64 xr) := by rw [hwz]; exact (cells_end n0 n1' (.int .i64 xr) (.slice (fA A5) nr (fc c5))).1
                 have y1 : wz.cell? ⟨w2.heap.size, 1, none⟩ = some (.slice (fA A5) nr (fc c5)) := by rw [hwz]; exact (cells_end n0 n1' (.int .i64 xr) (.slice (fA A5) nr (fc c5))).2
                 clear hwz)
            have q0 := (F0.out.below XZ.out).at_ (b := b + 1) (o := 0) (V := .int .i64 0) (by simp)
            have q1 := (F0.out.below XZ.out).at_ (b := b + 1) (o := 1) (V := .slice none 0 0) (by simp)
            have f0 := (F0.out.below XZ.out).fr (b := b + 1) (o := 0) (V := .int .i64 0) (by simp)
            have f1 := (F0.out.below XZ.out).fr (b := b + 1) (o := 1) (V := .slice none 0 0) (by simp)
            have hres := cells_end q0 q1 (.int .i64 xr) (.slice (fA A5) nr (fc c5))
            go_wp2_with fail
            refine bodyPost_ret (v := .tuple #[.agg #[.int .i64 xr, .slice (fA A5) nr (fc c5)], .int .i64 kr]) (by simp [results, Tryz.results17, go_sem, hres.1, hres.2]) rfl ?_
            exact RetNC.mk (V := w0.heap.size) HR1x.out HR2x.out rfl HR3x.out (Hb0.out.trans (XZ.out.mono Hb0.out.size)) (by rw [Hbe.out]; omega) (by rw [HZ.out]; omega) (HR4x.out _ _ _ _ _ MZ.out) hz4
end Go.Proofs.YtoodhbafleemjaaGreat
