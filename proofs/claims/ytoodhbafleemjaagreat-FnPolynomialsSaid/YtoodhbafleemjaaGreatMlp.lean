/- What MultiplyPolys answers; facts on products. -/
import Derived.Test.YtoodhbafleemjaaGreatPlyA
import Derived.Test.YtoodhbafleemjaaGreatMapP
import Derived.Lib.QuietBelow
import Derived.Deep.RegionHeld3
namespace Go.Proofs.YtoodhbafleemjaaGreat
open Go.RowKit
set_option linter.unusedVariables false

def mlpO (v : Int) (f : List (List Int)) (u : Int) (g : List (List Int)) : Int × List (List Int) × Int :=
  if polB v f = true ∧ polB u g = true then
    (if v = u then (if 0 < f.length ∧ 0 < g.length ∧ 40 < degL f + degL g then (0, [], 3) else toldV v (oddL (prodsP f g))) else (0, [], 2))
  else (0, [], 1)
theorem mlpO_bad1 {v u : Int} {f g : List (List Int)} (h : polB v f = false) : mlpO v f u g = (0, [], 1) := by unfold mlpO; rw [if_neg (by rw [h]; simp)]
theorem mlpO_bad2 {v u : Int} {f g : List (List Int)} (h : polB u g = false) : mlpO v f u g = (0, [], 1) := by unfold mlpO; rw [if_neg (by rw [h]; simp)]
theorem mlpO_range {v u : Int} {f g : List (List Int)} (h1 : polB v f = true) (h2 : polB u g = true) (h : v ≠ u) : mlpO v f u g = (0, [], 2) := by
  unfold mlpO; rw [if_pos ⟨h1, h2⟩, if_neg h]
theorem mlpO_lim {v u : Int} {f g : List (List Int)} (h1 : polB v f = true) (h2 : polB u g = true) (h : v = u) (a : 0 < f.length) (b : 0 < g.length) (c : 40 < degL f + degL g) : mlpO v f u g = (0, [], 3) := by
  unfold mlpO; rw [if_pos ⟨h1, h2⟩, if_pos h, if_pos ⟨a, b, c⟩]
theorem mlpO_ok {v u : Int} {f g : List (List Int)} (h1 : polB v f = true) (h2 : polB u g = true) (h : v = u) (a : f.length = 0 ∨ g.length = 0 ∨ ¬ 40 < degL f + degL g) : mlpO v f u g = toldV v (oddL (prodsP f g)) := by
  have hn : ¬ (0 < f.length ∧ 0 < g.length ∧ 40 < degL f + degL g) := by
    rintro ⟨p, q, r⟩
    rcases a with a | a | a
    · omega
    · omega
    · exact a r
  unfold mlpO; rw [if_pos ⟨h1, h2⟩, if_pos h, if_neg hn]
theorem prodsP_nil {f g : List (List Int)} (a : f.length = 0 ∨ g.length = 0) : prodsP f g = [] := by
  rcases a with a | a
  · rw [List.eq_nil_of_length_eq_zero a]; rfl
  · rw [List.eq_nil_of_length_eq_zero a]; unfold prodsP; simp
theorem mlpO_void {v u : Int} {f g : List (List Int)} (h1 : polB v f = true) (h2 : polB u g = true) (h : v = u) (a : f.length = 0 ∨ g.length = 0) : mlpO v f u g = (v, [], 0) := by
  rw [mlpO_ok h1 h2 h (by rcases a with a | a; exact .inl a; exact .inr (.inl a)), prodsP_nil a]
  exact toldV_yes (by simp [oddL])
theorem prodsP_len (f g : List (List Int)) : (prodsP f g).length = f.length * g.length := by
  unfold prodsP
  induction f with
  | nil => simp
  | cons x f ih => rw [List.flatMap_cons, List.length_append, ih, List.length_map, List.length_cons, Nat.succ_mul, Nat.add_comm]
/-- the numbers of monomials of at most four variables -/
theorem enc_lt {k : Nat} {xss : List (List Int)} (h : ∀ x ∈ xss, Mono k x) (hk : k ≤ 4) : ∀ a ∈ xss.map encP, 0 ≤ a ∧ a < 1099511627776 := by
  intro a ha
  obtain ⟨x, hx, rfl⟩ := List.mem_map.1 ha
  obtain ⟨h1, h2⟩ := h x hx
  have h3 := encP_lt h1
  have hp : (64 : Nat) ^ x.length ≤ 64 ^ 4 := Nat.pow_le_pow_right (by decide) (by omega)
  have e9 : (64 : Nat) ^ 4 = 16777216 := by decide
  have h4 : (64 : Int) ^ x.length ≤ 16777216 := by
    rw [show (64 : Int) ^ x.length = ((64 ^ x.length : Nat) : Int) from by rw [Int.natCast_pow]; rfl]
    omega
  exact ⟨encP_nonneg h1, by omega⟩
theorem prods_mono {v : Int} {f g : List (List Int)} {k : Nat} (hf : PolF v f) (hg : PolF v g) (hk : v = k) (h : f.length = 0 ∨ g.length = 0 ∨ ¬ 40 < degL f + degL g) : ∀ x ∈ prodsP f g, Mono k x := by
  intro x hx
  rcases h with h | h | h
  · rw [prodsP_nil (.inl h)] at hx; cases hx
  · rw [prodsP_nil (.inr h)] at hx; cases hx
  · exact (prodsP_deg (hf.degs hk) (hg.degs hk) x hx).mono (by omega)
theorem prods_enc {v : Int} {f g : List (List Int)} {k : Nat} (hf : PolF v f) (hg : PolF v g) (hk : v = k) : (prodsP f g).map encP = (f.map encP).flatMap fun a => (g.map encP).map (a + ·) :=
  prodsP_enc (fun x hx => (hf.monos hk x hx).2) (fun x hx => (hg.monos hk x hx).2)
end Go.Proofs.YtoodhbafleemjaaGreat

/- impl.MultiplyPolys. -/
namespace Go.Proofs.YtoodhbafleemjaaGreat
open Go.RowKit
set_option linter.unusedVariables false

set_option maxRecDepth 100000 in
set_option maxHeartbeats 1000000 in
theorem iMultiplyPolys (v u : Int) (A1 A2 : Option Addr) (n1 c1 n2 c2 : Nat) (xss yss : List (List Int)) (w : World) (h1 : RdL w w.heap.size A1 n1 c1 xss) (h2 : RdL w w.heap.size A2 n2 c2 yss) (hn1 : n1 ≤ 2000000) (hn2 : n2 ≤ 2000000) (ht1 : totalL xss ≤ 2000000) (ht2 : totalL yss ≤ 2000000) :
    Calls Tryz.prog 7 #[.agg #[.int .i64 v, .slice A1 n1 c1], .agg #[.int .i64 u, .slice A2 n2 c2]] w (RetPl (mlpO v xss u yss) w) := by
  obtain ⟨w0, b, hw0, hbe, hb0, hz0, hF⟩ := start222 w (.int .i64 v) (.slice A1 n1 c1) (.int .i64 u) (.slice A2 n2 c2) (.int .i64 0) (.slice none 0 0) 26 26 26
  have HL1 := Lib.hid h1.len
  have HL2 := Lib.hid h2.len
  have H1 := Lib.hid (rdL_here h1 hb0); clear h1
  have H2 := Lib.hid (rdL_here h2 hb0); clear h2
  have Hw := Lib.hid hw0; clear hw0
  have Hbe := Lib.hid hbe; clear hbe
  have Hb0 := Lib.hid hb0; clear hb0
  have HZ := Lib.hid hz0; clear hz0
  have F0 := Lib.hid hF; clear hF
  have X0 := Lib.hid (Below.refl w0.heap.size w0)
  obtain ⟨r1, hr1⟩ : ∃ r, r = polB v xss := ⟨_, rfl⟩
  have HR1 := Lib.hid hr1; clear hr1
  obtain ⟨r2, hr2⟩ : ∃ r, r = polB u yss := ⟨_, rfl⟩
  have HR2 := Lib.hid hr2; clear hr2
  obtain ⟨o, ho⟩ : ∃ o, o = mlpO v xss u yss := ⟨_, rfl⟩
  have HO := Lib.hid ho
  rw [← ho]
  clear ho
  go_enter Tryz.func7, Tryz.ntmps7
  go_wp2_with fail
  rw [← Hw.out, ← Hbe.out]
  have k0 := (F0.out.below X0.out).at_ (b := b) (o := 0) (V := .int .i64 v) (by simp)
  have k1 := (F0.out.below X0.out).at_ (b := b) (o := 1) (V := .slice A1 n1 c1) (by simp)
  have k2 := (F0.out.below X0.out).at_ (b := b + 1) (o := 0) (V := .int .i64 u) (by simp)
  have k3 := (F0.out.below X0.out).at_ (b := b + 1) (o := 1) (V := .slice A2 n2 c2) (by simp)
  refine (iIsPoly v A1 n1 c1 xss _ H1.out hn1 ht1).mono ?_
  rintro e w1 ⟨rfl, hb1⟩
  rw [← HR1.out]
  have X1 := Lib.hid hb1; clear hb1 k0 k1 k2 k3
  have k0 := (F0.out.below X1.out).at_ (b := b) (o := 0) (V := .int .i64 v) (by simp)
  have k1 := (F0.out.below X1.out).at_ (b := b) (o := 1) (V := .slice A1 n1 c1) (by simp)
  have k2 := (F0.out.below X1.out).at_ (b := b + 1) (o := 0) (V := .int .i64 u) (by simp)
  have k3 := (F0.out.below X1.out).at_ (b := b + 1) (o := 1) (V := .slice A2 n2 c2) (by simp)
  cases r1
  · have HV := Lib.hid (HO.out.trans (mlpO_bad1 HR1.out.symm))
    have q0 := (F0.out.below X1.out).at_ (b := b + 1 + 1) (o := 0) (V := .int .i64 0) (by simp)
    have q1 := (F0.out.below X1.out).at_ (b := b + 1 + 1) (o := 1) (V := .slice none 0 0) (by simp)
    have f0 := (F0.out.below X1.out).fr (b := b + 1 + 1) (o := 0) (V := .int .i64 0) (by simp)
    have f1 := (F0.out.below X1.out).fr (b := b + 1 + 1) (o := 1) (V := .slice none 0 0) (by simp)
    have hres := cells_end q0 q1 (.int .i64 0) (.slice none 0 0)
    go_wp2_with fail
    refine bodyPost_ret (v := .tuple #[.agg #[.int .i64 0, .slice none 0 0], .int .i64 1]) (by simp [results, Tryz.results7, go_sem, hres.1, hres.2]) rfl ?_
    exact RetNC.bad (by rw [HV.out]) (by rw [HV.out]) (by rw [HV.out]) (Hb0.out.trans (X1.out.mono Hb0.out.size)) (by rw [Hbe.out]; omega)
  · go_wp2_with fail
    refine (iIsPoly u A2 n2 c2 yss _ (rdL_here H2.out X1.out) hn2 ht2).mono ?_
    rintro e w2 ⟨rfl, hb2⟩
    rw [← HR2.out]
    have X2 := Lib.hid (X1.out.trans (hb2.mono X1.out.size)); clear hb2 k0 k1 k2 k3
    have k0 := (F0.out.below X2.out).at_ (b := b) (o := 0) (V := .int .i64 v) (by simp)
    have k1 := (F0.out.below X2.out).at_ (b := b) (o := 1) (V := .slice A1 n1 c1) (by simp)
    have k2 := (F0.out.below X2.out).at_ (b := b + 1) (o := 0) (V := .int .i64 u) (by simp)
    have k3 := (F0.out.below X2.out).at_ (b := b + 1) (o := 1) (V := .slice A2 n2 c2) (by simp)
    cases r2
    · have HV := Lib.hid (HO.out.trans (mlpO_bad2 HR2.out.symm))
      have q0 := (F0.out.below X2.out).at_ (b := b + 1 + 1) (o := 0) (V := .int .i64 0) (by simp)
      have q1 := (F0.out.below X2.out).at_ (b := b + 1 + 1) (o := 1) (V := .slice none 0 0) (by simp)
      have f0 := (F0.out.below X2.out).fr (b := b + 1 + 1) (o := 0) (V := .int .i64 0) (by simp)
      have f1 := (F0.out.below X2.out).fr (b := b + 1 + 1) (o := 1) (V := .slice none 0 0) (by simp)
      have hres := cells_end q0 q1 (.int .i64 0) (.slice none 0 0)
      go_wp2_with fail
      refine bodyPost_ret (v := .tuple #[.agg #[.int .i64 0, .slice none 0 0], .int .i64 1]) (by simp [results, Tryz.results7, go_sem, hres.1, hres.2]) rfl ?_
      exact RetNC.bad (by rw [HV.out]) (by rw [HV.out]) (by rw [HV.out]) (Hb0.out.trans (X2.out.mono Hb0.out.size)) (by rw [Hbe.out]; omega)
    · have HP1 := Lib.hid (polF_of HR1.out.symm)
      have HP2 := Lib.hid (polF_of HR2.out.symm)
      by_cases hvu : v = u
      · have HVU := Lib.hid hvu
        have hne1 : (v == u) = true := by simpa using hvu
        have hne2 : (v != u) = false := by simpa using hvu
        clear hvu
        go_wp2_with fail
        refine (isZeroP_any v A1 n1 c1 _ hn1).mono ?_
        rintro e w3 ⟨rfl, hb3⟩
        have X3 := Lib.hid (X2.out.trans (hb3.mono X2.out.size)); clear hb3 k0 k1 k2 k3
        have k0 := (F0.out.below X3.out).at_ (b := b) (o := 0) (V := .int .i64 v) (by simp)
        have k1 := (F0.out.below X3.out).at_ (b := b) (o := 1) (V := .slice A1 n1 c1) (by simp)
        have k2 := (F0.out.below X3.out).at_ (b := b + 1) (o := 0) (V := .int .i64 u) (by simp)
        have k3 := (F0.out.below X3.out).at_ (b := b + 1) (o := 1) (V := .slice A2 n2 c2) (by simp)
        by_cases hz1 : n1 = 0
        · have HV := Lib.hid (HO.out.trans (mlpO_void HR1.out.symm HR2.out.symm HVU.out (.inl (by rw [HL1.out]; exact hz1))))
          rw [decide_eq_true hz1]
          clear hz1
          have q0 := (F0.out.below X3.out).at_ (b := b + 1 + 1) (o := 0) (V := .int .i64 0) (by simp)
          have q1 := (F0.out.below X3.out).at_ (b := b + 1 + 1) (o := 1) (V := .slice none 0 0) (by simp)
          have f0 := (F0.out.below X3.out).fr (b := b + 1 + 1) (o := 0) (V := .int .i64 0) (by simp)
          have f1 := (F0.out.below X3.out).fr (b := b + 1 + 1) (o := 1) (V := .slice none 0 0) (by simp)
          have hres := cells_end q0 q1 (.int .i64 v) (.slice none 0 0)
          go_wp2_with fail
          refine bodyPost_ret (v := .tuple #[.agg #[.int .i64 v, .slice none 0 0], .int .i64 0]) (by simp [results, Tryz.results7, go_sem, hres.1, hres.2]) rfl ?_
          exact RetNC.void (by rw [HV.out]) (by rw [HV.out]) (by rw [HV.out]) (Hb0.out.trans (X3.out.mono Hb0.out.size)) (by rw [Hbe.out]; omega)
        · rw [decide_eq_false hz1]
          have HZ1 := Lib.hid (show 0 < n1 by omega)
          clear hz1
          go_wp2_with fail
          refine (isZeroP_any u A2 n2 c2 _ hn2).mono ?_
          rintro e w4 ⟨rfl, hb4⟩
          have X4 := Lib.hid (X3.out.trans (hb4.mono X3.out.size)); clear hb4 k0 k1 k2 k3
          have k0 := (F0.out.below X4.out).at_ (b := b) (o := 0) (V := .int .i64 v) (by simp)
          have k1 := (F0.out.below X4.out).at_ (b := b) (o := 1) (V := .slice A1 n1 c1) (by simp)
          have k2 := (F0.out.below X4.out).at_ (b := b + 1) (o := 0) (V := .int .i64 u) (by simp)
          have k3 := (F0.out.below X4.out).at_ (b := b + 1) (o := 1) (V := .slice A2 n2 c2) (by simp)
          by_cases hz2 : n2 = 0
          · have HV := Lib.hid (HO.out.trans (mlpO_void HR1.out.symm HR2.out.symm HVU.out (.inr (by rw [HL2.out]; exact hz2))))
            rw [decide_eq_true hz2]
            clear hz2
            have q0 := (F0.out.below X4.out).at_ (b := b + 1 + 1) (o := 0) (V := .int .i64 0) (by simp)
            have q1 := (F0.out.below X4.out).at_ (b := b + 1 + 1) (o := 1) (V := .slice none 0 0) (by simp)
            have f0 := (F0.out.below X4.out).fr (b := b + 1 + 1) (o := 0) (V := .int .i64 0) (by simp)
            have f1 := (F0.out.below X4.out).fr (b := b + 1 + 1) (o := 1) (V := .slice none 0 0) (by simp)
            have hres := cells_end q0 q1 (.int .i64 v) (.slice none 0 0)
            go_wp2_with fail
            refine bodyPost_ret (v := .tuple #[.agg #[.int .i64 v, .slice none 0 0], .int .i64 0]) (by simp [results, Tryz.results7, go_sem, hres.1, hres.2]) rfl ?_
            exact RetNC.void (by rw [HV.out]) (by rw [HV.out]) (by rw [HV.out]) (Hb0.out.trans (X4.out.mono Hb0.out.size)) (by rw [Hbe.out]; omega)
          · rw [decide_eq_false hz2]
            have HZ2 := Lib.hid (show 0 < n2 by omega)
            clear hz2
            have D1 := fun (W : World) (hB : Below w4.heap.size w4 W) => Lib.hid (degreeP_any v A1 n1 c1 _ xss W (rdL_here H1.out (X4.out.trans (hB.mono X4.out.size))) (Nat.le_refl _) hn1 ht1)
            have D2 := fun (W : World) (hB : Below w4.heap.size w4 W) => Lib.hid (degreeP_any u A2 n2 c2 _ yss W (rdL_here H2.out (X4.out.trans (hB.mono X4.out.size))) (Nat.le_refl _) hn2 ht2)
            obtain ⟨d1, hd1⟩ : ∃ d, d = degL xss := ⟨_, rfl⟩
            obtain ⟨d2, hd2⟩ : ∃ d, d = degL yss := ⟨_, rfl⟩
            rw [← hd1] at D1
            rw [← hd2] at D2
            have E1 := Lib.hid hd1
            have E2 := Lib.hid hd2
            have b1 := HP1.out.deg.2
            have b2 := HP2.out.deg.2
            rw [← hd1] at b1
            rw [← hd2] at b2
            have BD1 := Lib.hid b1
            have BD2 := Lib.hid b2
            clear hd1 hd2 b1 b2
            have hwd : IntKind.i64.wrap (d1 + d2) = d1 + d2 := by have := BD1.out; have := BD2.out; rw [IntKind.wrap_i64]; omega
            go_wp2_with fail
            have g0 := cell_regrown k0
            have g1 := cell_regrown k1
            have g2 := cell_regrown k2
            have g3 := cell_regrown k3
            by_cases hlim : 40 < d1 + d2
            · have HV := Lib.hid (HO.out.trans (mlpO_lim HR1.out.symm HR2.out.symm HVU.out (by rw [HL1.out]; exact HZ1.out) (by rw [HL2.out]; exact HZ2.out) (by rw [← E1.out, ← E2.out]; exact hlim)))
              have hl : decide (40 < d1 + d2) = true := decide_eq_true hlim
              clear hlim
              refine wp_region_quiet_below (by kernel_rfl) (by kernel_rfl) ?_
              repeat (go_big_quiet_step ((first | (go_at_call_of 47 A1; exact Calls.regrown_of ((D1 _ (below_regrown _ _ _)).out)) | (go_at_call_of 47 A2; exact Calls.regrown_of ((D2 _ (below_regrown _ _ _)).out)))))
              refine wpQuiet_nil ?_
              intro _ hw'
              obtain ⟨⟨dq, osq⟩, hw''⟩ := hw'
              subst hw''
              have hb5 := below_regrown w4 dq osq
              obtain ⟨w5, hwq⟩ : ∃ W, W = Sort.grow (redrawn w4 dq) osq := ⟨_, rfl⟩
              rw [← hwq] at hb5 ⊢
              clear hwq
              have X5 := Lib.hid (X4.out.trans (hb5.mono X4.out.size))
              clear g0 g1 g2 g3 k0 k1 k2 k3 hb5 D1 D2
              have q0 := (F0.out.below X5.out).at_ (b := b + 1 + 1) (o := 0) (V := .int .i64 0) (by simp)
              have q1 := (F0.out.below X5.out).at_ (b := b + 1 + 1) (o := 1) (V := .slice none 0 0) (by simp)
              have f0 := (F0.out.below X5.out).fr (b := b + 1 + 1) (o := 0) (V := .int .i64 0) (by simp)
              have f1 := (F0.out.below X5.out).fr (b := b + 1 + 1) (o := 1) (V := .slice none 0 0) (by simp)
              have hres := cells_end q0 q1 (.int .i64 0) (.slice none 0 0)
              go_wp2_with fail
              refine bodyPost_ret (v := .tuple #[.agg #[.int .i64 0, .slice none 0 0], .int .i64 3]) (by simp [results, Tryz.results7, go_sem, hres.1, hres.2]) rfl ?_
              exact RetNC.bad (by rw [HV.out]) (by rw [HV.out]) (by rw [HV.out]) (Hb0.out.trans (X5.out.mono Hb0.out.size)) (by rw [Hbe.out]; omega)
            · have HNL := Lib.hid (show xss.length = 0 ∨ yss.length = 0 ∨ ¬ 40 < degL xss + degL yss from .inr (.inr (by rw [← E1.out, ← E2.out]; exact hlim)))
              have HV := Lib.hid (HO.out.trans (mlpO_ok HR1.out.symm HR2.out.symm HVU.out HNL.out))
              have hl : decide (40 < d1 + d2) = false := decide_eq_false hlim
              clear hlim
              refine wp_region_quiet_below (by kernel_rfl) (by kernel_rfl) ?_
              repeat (go_big_quiet_step ((first | (go_at_call_of 47 A1; exact Calls.regrown_of ((D1 _ (below_regrown _ _ _)).out)) | (go_at_call_of 47 A2; exact Calls.regrown_of ((D2 _ (below_regrown _ _ _)).out)))))
              refine wpQuiet_nil ?_
              intro _ hw'
              obtain ⟨⟨dq, osq⟩, hw''⟩ := hw'
              subst hw''
              have hb5 := below_regrown w4 dq osq
              obtain ⟨w5, hwq⟩ : ∃ W, W = Sort.grow (redrawn w4 dq) osq := ⟨_, rfl⟩
              rw [← hwq] at hb5 ⊢
              clear hwq
              have X5 := Lib.hid (X4.out.trans (hb5.mono X4.out.size))
              clear g0 g1 g2 g3 k0 k1 k2 k3 hb5 D1 D2 hl hwd
              obtain ⟨k, hk⟩ : ∃ k : Nat, v = k := ⟨v.toNat, by have := HP1.out.lo; omega⟩
              have hk4 : k ≤ 4 := by have := HP1.out.hi; omega
              have HQ2 := Lib.hid (show PolF v yss from by rw [HVU.out]; exact HP2.out)
              have M1 := Lib.hid (HP1.out.monos hk)
              have M2 := Lib.hid (HQ2.out.monos hk)
              have MP := Lib.hid (prods_mono HP1.out HQ2.out hk HNL.out)
              have ME := Lib.hid (prods_enc HP1.out HQ2.out hk)
              have L1 := Lib.hid (show xss.length ≤ 2000 from HP1.out.len)
              have L2 := Lib.hid (show yss.length ≤ 2000 from HP2.out.len)
              subst hk
              have Bd := Lib.hid (show Below w0.heap.size w0 w5.drew from below_drewN X5.out 1)
              have Cd := Lib.hid (F0.out.below Bd.out)
              have kd0 := Cd.out.at_ (b := b) (o := 0) (V := .int .i64 k) (by simp)
              have kd1 := Cd.out.at_ (b := b) (o := 1) (V := .slice A1 n1 c1) (by simp)
              have kd2 := Cd.out.at_ (b := b + 1) (o := 1) (V := .slice A2 n2 c2) (by simp)
              go_wp2_with fail
              go_region_held3 (fun w' => w'.cell? ⟨b, 0, none⟩ = some (.int .i64 k) ∧ w'.cell? ⟨b, 1, none⟩ = some (.slice A1 n1 c1) ∧ w'.cell? ⟨b + 1, 1, none⟩ = some (.slice A2 n2 c2))
                (first | (with_reducible exact ⟨kd0, kd1, kd2⟩) | (with_reducible exact ⟨ka0, ka1, ka2⟩) | (with_reducible exact ⟨kb0, kb1, kb2⟩) | (with_reducible exact ⟨kc0, kc1, kc2⟩) | (with_reducible exact ⟨ke0, ke1, ke2⟩) | (with_reducible exact ⟨two_far mm0 ke0, two_far mm0 ke1, two_far mm1 ke2⟩))
                (first
                  | (go_at_call_of 49 A1
                     refine (polyOf_any A1 n1 c1 xss _ (rdL_here H1.out Bd.out) (fun x hx => (M1.out x hx).ten (by omega)) (by omega)).mono ?_
                     rintro e w6 ⟨p, rfl, hp6, op6, hb6⟩
                     have B6 := Lib.hid (Bd.out.trans (hb6.mono Bd.out.size))
                     have P6 := Lib.hid op6
                     have C6 := Lib.hid (F0.out.below B6.out)
                     have ka0 := C6.out.at_ (b := b) (o := 0) (V := .int .i64 k) (by simp)
                     have ka1 := C6.out.at_ (b := b) (o := 1) (V := .slice A1 n1 c1) (by simp)
                     have ka2 := C6.out.at_ (b := b + 1) (o := 1) (V := .slice A2 n2 c2) (by simp)
                     clear hp6 op6 hb6)
                  | (go_at_call_of 49 A2
                     refine (polyOf_any A2 n2 c2 yss _ (rdL_here H2.out B6.out) (fun x hx => (M2.out x hx).ten (by omega)) (by omega)).mono ?_
                     rintro e w7 ⟨q, rfl, hp7, op7, hb7⟩
                     have B7 := Lib.hid (B6.out.trans (hb7.mono B6.out.size))
                     have P7 := Lib.hid (P6.out.below hb7)
                     have Q7 := Lib.hid op7
                     have C7 := Lib.hid (F0.out.below B7.out)
                     have kb0 := C7.out.at_ (b := b) (o := 0) (V := .int .i64 k) (by simp)
                     have kb1 := C7.out.at_ (b := b) (o := 1) (V := .slice A1 n1 c1) (by simp)
                     have kb2 := C7.out.at_ (b := b + 1) (o := 1) (V := .slice A2 n2 c2) (by simp)
                     clear hp7 op7 hb7)
                  | (go_at_call 50
                     refine (times_any p q (xss.map encP) (yss.map encP) _ P7.out Q7.out (enc_lt M1.out hk4) (enc_lt M2.out hk4) (by rw [List.length_map]; have := L1.out; omega) (by rw [List.length_map]; have := L2.out; omega)).mono ?_
                     rintro e w8 ⟨t, rfl, hp8, op8, hb8⟩
                     have B8 := Lib.hid (B7.out.trans (hb8.mono B7.out.size))
                     have P8 : Hid (OwnP w8 t ((prodsP xss yss).map encP)) := Lib.hid (by rw [ME.out]; exact op8)
                     have C8 := Lib.hid (F0.out.below B8.out)
                     have kc0 := C8.out.at_ (b := b) (o := 0) (V := .int .i64 k) (by simp)
                     have kc1 := C8.out.at_ (b := b) (o := 1) (V := .slice A1 n1 c1) (by simp)
                     have kc2 := C8.out.at_ (b := b + 1) (o := 1) (V := .slice A2 n2 c2) (by simp)
                     have HT := told_any t k (prodsP xss yss) w8 P8.out MP.out (by omega) (by rw [prodsP_len]; have := L1.out; have := L2.out; exact Nat.le_trans (Nat.mul_le_mul L1.out L2.out) (by decide))
                     rw [← HV.out] at HT
                     have HT := Lib.hid HT
                     clear hp8 op8 hb8)
                  | (go_at_call 48
                     refine HT.out.mono ?_
                     rintro e w9 ⟨A9, c9, rfl, om9, hb9⟩
                     have X9 := Lib.hid (B8.out.trans (hb9.mono B8.out.size))
                     have O9 := Lib.hid (om9.mono B8.out.size (Nat.le_refl _))
                     have C9 := Lib.hid (F0.out.below X9.out)
                     have ke0 := C9.out.at_ (b := b) (o := 0) (V := .int .i64 k) (by simp)
                     have ke1 := C9.out.at_ (b := b) (o := 1) (V := .slice A1 n1 c1) (by simp)
                     have ke2 := C9.out.at_ (b := b + 1) (o := 1) (V := .slice A2 n2 c2) (by simp)
                     have q0 := C9.out.at_ (b := b + 1 + 1) (o := 0) (V := .int .i64 0) (by simp)
                     have q1 := C9.out.at_ (b := b + 1 + 1) (o := 1) (V := .slice none 0 0) (by simp)
                     have f0 := C9.out.fr (b := b + 1 + 1) (o := 0) (V := .int .i64 0) (by simp)
                     have f1 := C9.out.fr (b := b + 1 + 1) (o := 1) (V := .slice none 0 0) (by simp)
                     have mm0 : b + 1 + 1 ≠ b := by omega
                     have mm1 : b + 1 + 1 ≠ b + 1 := by omega
                     clear om9 hb9))
              have hres := cells_end q0 q1 (.int .i64 o.1) (.slice A9 o.2.1.length c9)
              go_wp2_with fail
              refine bodyPost_ret (v := .tuple #[.agg #[.int .i64 o.1, .slice A9 o.2.1.length c9], .int .i64 o.2.2]) (by simp [results, Tryz.results7, go_sem, hres.1, hres.2]) rfl ?_
              exact RetNC.mk (V := w0.heap.size) rfl rfl rfl rfl (Hb0.out.trans (X9.out.mono Hb0.out.size)) (by rw [Hbe.out]; omega) (by rw [HZ.out]; omega) O9.out (Nat.le_refl _)
      · have HV := Lib.hid (HO.out.trans (mlpO_range HR1.out.symm HR2.out.symm hvu))
        have hne1 : (v == u) = false := by simpa using hvu
        have hne2 : (v != u) = true := by simpa using hvu
        clear hvu
        have q0 := (F0.out.below X2.out).at_ (b := b + 1 + 1) (o := 0) (V := .int .i64 0) (by simp)
        have q1 := (F0.out.below X2.out).at_ (b := b + 1 + 1) (o := 1) (V := .slice none 0 0) (by simp)
        have f0 := (F0.out.below X2.out).fr (b := b + 1 + 1) (o := 0) (V := .int .i64 0) (by simp)
        have f1 := (F0.out.below X2.out).fr (b := b + 1 + 1) (o := 1) (V := .slice none 0 0) (by simp)
        have hres := cells_end q0 q1 (.int .i64 0) (.slice none 0 0)
        go_wp2_with fail
        refine bodyPost_ret (v := .tuple #[.agg #[.int .i64 0, .slice none 0 0], .int .i64 2]) (by simp [results, Tryz.results7, go_sem, hres.1, hres.2]) rfl ?_
        exact RetNC.bad (by rw [HV.out]) (by rw [HV.out]) (by rw [HV.out]) (Hb0.out.trans (X2.out.mono Hb0.out.size)) (by rw [Hbe.out]; omega)
end Go.Proofs.YtoodhbafleemjaaGreat
