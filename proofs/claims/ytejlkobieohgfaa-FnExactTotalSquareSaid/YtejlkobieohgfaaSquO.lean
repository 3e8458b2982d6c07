/- SquareOn on the program's side. -/
import Derived.Test.YtejlkobieohgfaaSqI
import Derived.Test.YtejlkobieohgfaaFit
import Derived.Lib.QuietBelow
namespace Go.Proofs.Ytejlkobieohgfaa
open Go.RowKit
set_option linter.unusedVariables false

def squO (v : Int) (f : List (List Int)) (i : Int) : Int × List (List Int) × Int :=
  if polB v f = true then (if inB i 0 40 = true then (if 0 < f.length ∧ 40 < degL f + i then (0, [], 3) else toldV v (oddL (sqP f i))) else (0, [], 2)) else (0, [], 1)
theorem squO_bad {v i : Int} {f : List (List Int)} (h : polB v f = false) : squO v f i = (0, [], 1) := by unfold squO; rw [if_neg (by rw [h]; simp)]
theorem squO_range {v i : Int} {f : List (List Int)} (h : polB v f = true) (h2 : inB i 0 40 = false) : squO v f i = (0, [], 2) := by unfold squO; rw [if_pos h, if_neg (by rw [h2]; simp)]
theorem squO_lim {v i : Int} {f : List (List Int)} (h : polB v f = true) (h2 : inB i 0 40 = true) (a : 0 < f.length) (b : 40 < degL f + i) : squO v f i = (0, [], 3) := by unfold squO; rw [if_pos h, if_pos h2, if_pos ⟨a, b⟩]
theorem squO_ok {v i : Int} {f : List (List Int)} (h : polB v f = true) (h2 : inB i 0 40 = true) (a : f.length = 0 ∨ degL f + i ≤ 40) : squO v f i = toldV v (oddL (sqP f i)) := by
  unfold squO; rw [if_pos h, if_pos h2, if_neg]
  rintro ⟨p, q⟩
  rcases a with a | a <;> omega
theorem squO_void {v i : Int} {f : List (List Int)} (h : polB v f = true) (h2 : inB i 0 40 = true) (a : f.length = 0) : squO v f i = (v, [], 0) := by
  rw [squO_ok h h2 (.inl a), List.eq_nil_of_length_eq_zero a]
  exact toldV_yes (by simp [oddL, sqP])
/-- the terms of a square: its monomials -/
theorem sq_mono {v i : Int} {f : List (List Int)} {k : Nat} (hf : PolF v f) (hk : v = k) (hi : inB i 0 40 = true) (a : f.length = 0 ∨ degL f + i ≤ 40) : ∀ z ∈ sqP f i, Mono k z := by
  intro z hz
  rcases a with a | a
  · rw [List.eq_nil_of_length_eq_zero a] at hz; cases hz
  · exact (sqP_deg (hf.degs hk) z hz).mono (by omega)

set_option maxRecDepth 100000 in
set_option maxHeartbeats 1000000 in
theorem iSquareOn (v : Int) (A1 : Option Addr) (n1 c1 : Nat) (xss : List (List Int)) (i : Int) (w : World) (h1 : RdL w w.heap.size A1 n1 c1 xss) (hn1 : n1 ≤ 2000000) (ht1 : totalL xss ≤ 2000000) :
    Calls Try.prog 32 #[.agg #[.int .i64 v, .slice A1 n1 c1], .int .i64 i] w (RetPl (squO v xss i) w) := by
  obtain ⟨w0, b, hw0, hbe, hb0, hz0, hF⟩ := start22 w (.int .i64 v) (.slice A1 n1 c1) (.int .i64 0) (.slice none 0 0) 28 28
  have HL1 := Lib.hid h1.len
  have H1 := Lib.hid (rdL_here h1 hb0); clear h1
  have Hw := Lib.hid hw0; clear hw0
  have Hbe := Lib.hid hbe; clear hbe
  have Hb0 := Lib.hid hb0; clear hb0
  have HZ := Lib.hid hz0; clear hz0
  have F0 := Lib.hid hF; clear hF
  have X0 := Lib.hid (Below.refl w0.heap.size w0)
  obtain ⟨r1, hr1⟩ : ∃ r, r = polB v xss := ⟨_, rfl⟩
  have HR1 := Lib.hid hr1; clear hr1
  obtain ⟨r2, hr2⟩ : ∃ r, r = inB i 0 40 := ⟨_, rfl⟩
  have HR2 := Lib.hid hr2; clear hr2
  obtain ⟨o, ho⟩ : ∃ o, o = squO v xss i := ⟨_, rfl⟩
  have HO := Lib.hid ho
  rw [← ho]
  clear ho
  go_enter Try.func32, Try.ntmps32
  go_wp2_with fail
  rw [← Hw.out, ← Hbe.out]
  have k0 := (F0.out.below X0.out).at_ (b := b) (o := 0) (V := .int .i64 v) (by simp)
  have k1 := (F0.out.below X0.out).at_ (b := b) (o := 1) (V := .slice A1 n1 c1) (by simp)
  refine (iIsPoly v A1 n1 c1 xss _ H1.out hn1 ht1).mono ?_
  rintro e w1 ⟨rfl, hb1⟩
  rw [← HR1.out]
  have X1 := Lib.hid hb1; clear hb1 k0 k1
  have k0 := (F0.out.below X1.out).at_ (b := b) (o := 0) (V := .int .i64 v) (by simp)
  have k1 := (F0.out.below X1.out).at_ (b := b) (o := 1) (V := .slice A1 n1 c1) (by simp)
  cases r1
  · have HV := Lib.hid (HO.out.trans (squO_bad HR1.out.symm))
    have q0 := (F0.out.below X1.out).at_ (b := b + 1) (o := 0) (V := .int .i64 0) (by simp)
    have q1 := (F0.out.below X1.out).at_ (b := b + 1) (o := 1) (V := .slice none 0 0) (by simp)
    have f0 := (F0.out.below X1.out).fr (b := b + 1) (o := 0) (V := .int .i64 0) (by simp)
    have f1 := (F0.out.below X1.out).fr (b := b + 1) (o := 1) (V := .slice none 0 0) (by simp)
    have hres := cells_end q0 q1 (.int .i64 0) (.slice none 0 0)
    go_wp2_with fail
    refine bodyPost_ret (v := .tuple #[.agg #[.int .i64 0, .slice none 0 0], .int .i64 1]) (by simp [results, Try.results32, go_sem, hres.1, hres.2]) rfl ?_
    exact RetNC.bad (by rw [HV.out]) (by rw [HV.out]) (by rw [HV.out]) (Hb0.out.trans (X1.out.mono Hb0.out.size)) (by rw [Hbe.out]; omega)
  · have HP1 := Lib.hid (polF_of HR1.out.symm)
    go_wp2_with fail
    refine (isDegree_any i _).mono ?_
    rintro e w2 ⟨rfl, rfl⟩
    rw [← HR2.out]
    cases r2
    · have HV := Lib.hid (HO.out.trans (squO_range HR1.out.symm HR2.out.symm))
      have q0 := (F0.out.below X1.out).at_ (b := b + 1) (o := 0) (V := .int .i64 0) (by simp)
      have q1 := (F0.out.below X1.out).at_ (b := b + 1) (o := 1) (V := .slice none 0 0) (by simp)
      have f0 := (F0.out.below X1.out).fr (b := b + 1) (o := 0) (V := .int .i64 0) (by simp)
      have f1 := (F0.out.below X1.out).fr (b := b + 1) (o := 1) (V := .slice none 0 0) (by simp)
      have hres := cells_end q0 q1 (.int .i64 0) (.slice none 0 0)
      go_wp2_with fail
      refine bodyPost_ret (v := .tuple #[.agg #[.int .i64 0, .slice none 0 0], .int .i64 2]) (by simp [results, Try.results32, go_sem, hres.1, hres.2]) rfl ?_
      exact RetNC.bad (by rw [HV.out]) (by rw [HV.out]) (by rw [HV.out]) (Hb0.out.trans (X1.out.mono Hb0.out.size)) (by rw [Hbe.out]; omega)
    · have HI := Lib.hid (inB_iff.1 HR2.out.symm)
      go_wp2_with fail
      refine (isZeroP_any v A1 n1 c1 _ hn1).mono ?_
      rintro e w3 ⟨rfl, hb3⟩
      have X3 := Lib.hid (X1.out.trans (hb3.mono X1.out.size)); clear hb3 k0 k1
      have k0 := (F0.out.below X3.out).at_ (b := b) (o := 0) (V := .int .i64 v) (by simp)
      have k1 := (F0.out.below X3.out).at_ (b := b) (o := 1) (V := .slice A1 n1 c1) (by simp)
      by_cases hz1 : n1 = 0
      · have HV := Lib.hid (HO.out.trans (squO_void HR1.out.symm HR2.out.symm (by rw [HL1.out]; exact hz1)))
        rw [decide_eq_true hz1]
        clear hz1
        have q0 := (F0.out.below X3.out).at_ (b := b + 1) (o := 0) (V := .int .i64 0) (by simp)
        have q1 := (F0.out.below X3.out).at_ (b := b + 1) (o := 1) (V := .slice none 0 0) (by simp)
        have f0 := (F0.out.below X3.out).fr (b := b + 1) (o := 0) (V := .int .i64 0) (by simp)
        have f1 := (F0.out.below X3.out).fr (b := b + 1) (o := 1) (V := .slice none 0 0) (by simp)
        have hres := cells_end q0 q1 (.int .i64 v) (.slice none 0 0)
        go_wp2_with fail
        refine bodyPost_ret (v := .tuple #[.agg #[.int .i64 v, .slice none 0 0], .int .i64 0]) (by simp [results, Try.results32, go_sem, hres.1, hres.2]) rfl ?_
        exact RetNC.void (by rw [HV.out]) (by rw [HV.out]) (by rw [HV.out]) (Hb0.out.trans (X3.out.mono Hb0.out.size)) (by rw [Hbe.out]; omega)
      · rw [decide_eq_false hz1]
        have HZ1 := Lib.hid (show 0 < n1 by omega)
        clear hz1
        obtain ⟨d1, hd1⟩ : ∃ d, d = degL xss := ⟨_, rfl⟩
        have D1 := Lib.hid (degreeP_any v A1 n1 c1 _ xss w3 (rdL_here H1.out X3.out) (Nat.le_refl _) hn1 ht1)
        rw [← hd1] at D1
        have E1 := Lib.hid hd1
        have b1 := HP1.out.deg.2
        rw [← hd1] at b1
        have BD1 := Lib.hid b1
        clear hd1 b1
        have hwd : IntKind.i64.wrap (d1 + i) = d1 + i := by have := BD1.out; have := HI.out; rw [IntKind.wrap_i64]; omega
        go_wp2_with fail
        refine D1.out.mono ?_
        rintro e w4 ⟨rfl, hb4⟩
        have X4 := Lib.hid (X3.out.trans (hb4.mono X3.out.size)); clear hb4 k0 k1
        by_cases hlim : 40 < d1 + i
        · have HV := Lib.hid (HO.out.trans (squO_lim HR1.out.symm HR2.out.symm (by rw [HL1.out]; exact HZ1.out) (by rw [← E1.out]; exact hlim)))
          have hl : decide (40 < d1 + i) = true := decide_eq_true hlim
          clear hlim
          have q0 := (F0.out.below X4.out).at_ (b := b + 1) (o := 0) (V := .int .i64 0) (by simp)
          have q1 := (F0.out.below X4.out).at_ (b := b + 1) (o := 1) (V := .slice none 0 0) (by simp)
          have f0 := (F0.out.below X4.out).fr (b := b + 1) (o := 0) (V := .int .i64 0) (by simp)
          have f1 := (F0.out.below X4.out).fr (b := b + 1) (o := 1) (V := .slice none 0 0) (by simp)
          have hres := cells_end q0 q1 (.int .i64 0) (.slice none 0 0)
          go_wp2_with fail
          refine bodyPost_ret (v := .tuple #[.agg #[.int .i64 0, .slice none 0 0], .int .i64 3]) (by simp [results, Try.results32, go_sem, hres.1, hres.2]) rfl ?_
          exact RetNC.bad (by rw [HV.out]) (by rw [HV.out]) (by rw [HV.out]) (Hb0.out.trans (X4.out.mono Hb0.out.size)) (by rw [Hbe.out]; omega)
        · have HNL := Lib.hid (show xss.length = 0 ∨ degL xss + i ≤ 40 from .inr (by rw [← E1.out]; omega))
          have HV := Lib.hid (HO.out.trans (squO_ok HR1.out.symm HR2.out.symm HNL.out))
          have hl : decide (40 < d1 + i) = false := decide_eq_false hlim
          obtain ⟨k, hk⟩ : ∃ k : Nat, v = k := ⟨v.toNat, by have := HP1.out.lo; omega⟩
          have hk4 : k ≤ 4 := by have := HP1.out.hi; omega
          have MD := Lib.hid (HP1.out.degs hk)
          have MP := Lib.hid (sq_mono HP1.out hk HR2.out.symm HNL.out)
          have L1 := Lib.hid (show xss.length ≤ 2000 from HP1.out.len)
          have HDE := Lib.hid (show degL xss + i ≤ 63 from by rw [← E1.out]; omega)
          clear hlim
          subst hk
          have k0 := (F0.out.below X4.out).at_ (b := b) (o := 0) (V := .int .i64 k) (by simp)
          have k1 := (F0.out.below X4.out).at_ (b := b) (o := 1) (V := .slice A1 n1 c1) (by simp)
          go_wp2_with fail
          have Bd := Lib.hid (show Below w0.heap.size w0 w4.drew from below_drewN X4.out 1)
          have Cd := Lib.hid (F0.out.below Bd.out)
          have kd0 := Cd.out.at_ (b := b) (o := 0) (V := .int .i64 k) (by simp)
          have kd1 := Cd.out.at_ (b := b) (o := 1) (V := .slice A1 n1 c1) (by simp)
          clear k0 k1 hwd hl
          go_region_held3 (fun w' => w'.cell? ⟨b, 0, none⟩ = some (.int .i64 k) ∧ w'.cell? ⟨b, 1, none⟩ = some (.slice A1 n1 c1))
            (first | (with_reducible exact ⟨kd0, kd1⟩) | (with_reducible exact ⟨ka0, ka1⟩) | (with_reducible exact ⟨ke0, ke1⟩) | (with_reducible exact ⟨two_far mm0 ke0, two_far mm0 ke1⟩))
            (first
              | (go_at_call 97
                 refine (square_any A1 n1 c1 k _ i xss _ (rdL_here H1.out Bd.out) MD.out HI.out.1 HDE.out hk4 (by omega)).mono ?_
                 rintro e w6 ⟨p, rfl, hp6, op6, hb6⟩
                 have B6 := Lib.hid (Bd.out.trans (hb6.mono Bd.out.size))
                 have P6 := Lib.hid op6.odd
                 have C6 := Lib.hid (F0.out.below B6.out)
                 have ka0 := C6.out.at_ (b := b) (o := 0) (V := .int .i64 k) (by simp)
                 have ka1 := C6.out.at_ (b := b) (o := 1) (V := .slice A1 n1 c1) (by simp)
                 have HT := told_any p k (oddL (sqP xss i)) w6 P6.out (oddL_mono MP.out) (by omega) (by have := oddL_small MP.out hk4; omega)
                 rw [oddL_of_asc (oddL_asc _), ← HV.out] at HT
                 have HT := Lib.hid HT
                 clear hp6 op6 hb6)
              | (go_at_call 91
                 refine HT.out.mono ?_
                 rintro e w9 ⟨A9, c9, rfl, om9, hb9⟩
                 have X9 := Lib.hid (B6.out.trans (hb9.mono B6.out.size))
                 have O9 := Lib.hid (om9.mono B6.out.size (Nat.le_refl _))
                 have C9 := Lib.hid (F0.out.below X9.out)
                 have ke0 := C9.out.at_ (b := b) (o := 0) (V := .int .i64 k) (by simp)
                 have ke1 := C9.out.at_ (b := b) (o := 1) (V := .slice A1 n1 c1) (by simp)
                 have q0 := C9.out.at_ (b := b + 1) (o := 0) (V := .int .i64 0) (by simp)
                 have q1 := C9.out.at_ (b := b + 1) (o := 1) (V := .slice none 0 0) (by simp)
                 have f0 := C9.out.fr (b := b + 1) (o := 0) (V := .int .i64 0) (by simp)
                 have f1 := C9.out.fr (b := b + 1) (o := 1) (V := .slice none 0 0) (by simp)
                 have mm0 : b + 1 ≠ b := by omega
                 clear om9 hb9))
          have hres := cells_end q0 q1 (.int .i64 o.1) (.slice A9 o.2.1.length c9)
          go_wp2_with fail
          refine bodyPost_ret (v := .tuple #[.agg #[.int .i64 o.1, .slice A9 o.2.1.length c9], .int .i64 o.2.2]) (by simp [results, Try.results32, go_sem, hres.1, hres.2]) rfl ?_
          exact RetNC.mk (V := w0.heap.size) rfl rfl rfl rfl (Hb0.out.trans (X9.out.mono Hb0.out.size)) (by rw [Hbe.out]; omega) (by rw [HZ.out]; omega) O9.out (Nat.le_refl _)
end Go.Proofs.Ytejlkobieohgfaa
