/- IsHit on both sides. -/
import Derived.Test.YtoodhbafleemjaaGreatNrmS
import Derived.Test.YtoodhbafleemjaaGreatNrmI
namespace Go.Proofs.YtoodhbafleemjaaGreat
open Go.RowKit
set_option linter.unusedVariables false

def hitB (v : Int) (f : Pol) : Bool := decide ((nrmO v f).2.2 = 0) && decide ((nrmO v f).2.1.length = 0)
set_option maxRecDepth 100000 in
theorem iIsHit (v : Int) (A1 : Option Addr) (n1 c1 : Nat) (xss : List (List Int)) (w : World) (h1 : RdL w w.heap.size A1 n1 c1 xss) (hn1 : n1 ≤ 2000000) (ht1 : totalL xss ≤ 2000000) :
    Calls Tryz.prog 43 #[.agg #[.int .i64 v, .slice A1 n1 c1]] w (RetBIC (hitB v xss) (nrmO v xss).2.2 w) := by
  obtain ⟨w0, b, hw0, hbe, hb0, hz0, hF⟩ := start1 w (.int .i64 v) (.slice A1 n1 c1) 26
  have HC := Lib.hid (iNormalForm v A1 n1 c1 xss w0 (rdL_here h1 hb0) hn1 ht1)
  have Hb0 := Lib.hid hb0
  have k0 := hF.at_ (b := b) (o := 0) (V := .int .i64 v) (by simp)
  have k1 := hF.at_ (b := b) (o := 1) (V := .slice A1 n1 c1) (by simp)
  rw [hw0, hbe] at k0 k1
  rw [hw0] at HC
  have HLe : Hid ((nrmO v xss).2.1.length ≤ 2000000) := Lib.hid (by
    exact (nrmO_bounds v xss).1)
  unfold hitB
  obtain ⟨o, ho⟩ : ∃ o, o = nrmO v xss := ⟨_, rfl⟩
  rw [← ho] at HC HLe ⊢
  obtain ⟨o1, T, oc⟩ := o
  obtain ⟨l, hl⟩ : ∃ l, l = T.length := ⟨_, rfl⟩
  have HC2 : Hid (Calls Tryz.prog 39 #[.agg #[.int .i64 v, .slice A1 n1 c1]] (w.alloc (.cells #[.int .i64 v, .slice A1 n1 c1] 26)) (RetNC o1 l T oc (w.alloc (.cells #[.int .i64 v, .slice A1 n1 c1] 26)))) := Lib.hid (by rw [hl]; exact HC.out)
  have hl2 : l ≤ 2000000 := by rw [hl]; exact HLe.out
  have HL := Lib.hid hl
  have Hw := Lib.hid hw0
  clear ho hl HC h1 hw0 hbe hz0 hF HLe hb0
  go_enter Tryz.func43, Tryz.ntmps43
  go_wp2_with fail
  refine HC2.out.mono ?_
  rintro e w1 ⟨A, c, rfl, hm, hb1⟩
  rw [← Hw.out] at hb1
  have X1 := Lib.hid (Hb0.out.trans (hb1.mono Hb0.out.size))
  have hba : Below w1.heap.size w1 (w1.alloc (.cells #[.int .i64 o1, .slice A l c] 26)) := (Below.refl _ _).alloc (Nat.le_refl _) _
  have X2 := Lib.hid (X1.out.trans (hba.mono X1.out.size))
  clear hm hb1 hba
  by_cases hc : oc = 0
  · subst hc
    go_wp2_with fail
    refine (isZeroP_any o1 A l c _ hl2).mono ?_
    rintro e w3 ⟨rfl, hb3⟩
    have X3 := Lib.hid (X2.out.trans (hb3.mono X2.out.size))
    clear hb3
    go_wp2_with fail
    refine bodyPost_ret (v := .tuple #[.bool (decide (l = 0)), .int .i64 0]) (by simp [results, Tryz.results43, go_sem]) rfl ?_
    exact RetBIC.mk (by rw [HL.out]; simp) rfl X3.out
  · have hne : (oc == 0) = false := by simpa using hc
    have HNE := Lib.hid hc
    go_wp2_with fail
    refine bodyPost_ret (v := .tuple #[.bool false, .int .i64 oc]) (by simp [results, Tryz.results43, go_sem]) rfl ?_
    exact RetBIC.mk (by simp [HNE.out]) rfl X2.out
set_option maxRecDepth 100000 in
theorem sIsHit (v : Int) (A1 : Option Addr) (n1 c1 : Nat) (xss : List (List Int)) (w : World) (h1 : RdL w w.heap.size A1 n1 c1 xss) (hn1 : n1 ≤ 2000000) (ht1 : totalL xss ≤ 2000000) :
    Calls Tryz.prog 44 #[.agg #[.int .i64 v, .slice A1 n1 c1]] w (RetBIC (hitB v xss) (nrmO v xss).2.2 w) := by
  obtain ⟨w0, b, hw0, hbe, hb0, hz0, hF⟩ := start1 w (.int .i64 v) (.slice A1 n1 c1) 26
  have HC := Lib.hid (poly09_any v A1 n1 c1 xss w0 (rdL_here h1 hb0) hn1 ht1)
  have H1 := Lib.hid h1
  have Hb0 := Lib.hid hb0
  have F0 := Lib.hid hF
  have HBe := Lib.hid hbe
  have Hw := Lib.hid hw0
  have k0 := hF.at_ (b := b) (o := 0) (V := .int .i64 v) (by simp)
  have k1 := hF.at_ (b := b) (o := 1) (V := .slice A1 n1 c1) (by simp)
  rw [hw0, hbe] at k0 k1
  have HN := fun (hp : polB v xss = true) (hc : (nrmO v xss).2.2 = 0) (W : World) (hB : Below w.heap.size w W) => Lib.hid (normal09_any v A1 n1 c1 xss W (rdL_here H1.out hB) hn1 ht1 hp hc)
  have HNP : Hid ((nrmO v xss).2.2 = 0 → polB v xss = true) := Lib.hid (by
    unfold nrmO
    split
    · rename_i hp; exact fun _ => hp
    · exact fun h => by cases h)
  unfold hitB
  obtain ⟨o, ho⟩ : ∃ o, o = nrmO v xss := ⟨_, rfl⟩
  rw [← ho] at HC HN HNP ⊢
  obtain ⟨o1, T, oc⟩ := o
  clear ho h1 hw0 hbe hz0 hF hb0
  go_enter Tryz.func44, Tryz.ntmps44
  go_wp2_with fail
  rw [← Hw.out]
  clear k0 k1
  refine HC.out.mono ?_
  rintro e w1 ⟨rfl, hb1⟩
  have X1 := Lib.hid (Hb0.out.trans (hb1.mono Hb0.out.size))
  have k0 := (F0.out.below hb1).at_ (b := b) (o := 0) (V := .int .i64 v) (by simp)
  have k1 := (F0.out.below hb1).at_ (b := b) (o := 1) (V := .slice A1 n1 c1) (by simp)
  rw [HBe.out] at k0 k1
  clear hb1
  by_cases hc : oc = 0
  · have HCN := HN (HNP.out hc) hc _ X1.out
    subst hc
    obtain ⟨l, hl⟩ : ∃ l, l = T.length := ⟨_, rfl⟩
    have HL := Lib.hid hl
    clear hl HN HC
    go_wp2_with fail
    refine HCN.out.mono ?_
    rintro e w3 ⟨A3, c3, rfl, hr3, hb3⟩
    have X3 := Lib.hid (X1.out.trans (hb3.mono X1.out.size))
    clear hr3 hb3
    rw [← HL.out]
    go_wp2_with fail
    refine bodyPost_ret (v := .tuple #[.bool ((l : Int) == 0), .int .i64 0]) (by simp [results, Tryz.results44, go_sem]) rfl ?_
    refine RetBIC.mk ?_ rfl X3.out
    rw [← HL.out]
    have e : ((l : Int) == 0) = decide (l = 0) := by
      by_cases h : l = 0
      · subst h; rfl
      · rw [decide_eq_false h]; simp; omega
    rw [e]; simp
  · have hne : (oc != 0) = true := by simpa using hc
    have HNE := Lib.hid hc
    clear HN HC
    go_wp2_with fail
    refine bodyPost_ret (v := .tuple #[.bool false, .int .i64 oc]) (by simp [results, Tryz.results44, go_sem]) rfl ?_
    exact RetBIC.mk (by simp [HNE.out]) rfl X1.out
end Go.Proofs.YtoodhbafleemjaaGreat
