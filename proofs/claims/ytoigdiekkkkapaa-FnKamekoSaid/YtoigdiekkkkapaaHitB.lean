/- IsHit on both sides. -/
import Derived.Test.YtoigdiekkkkapaaNrmS
import Derived.Test.YtoigdiekkkkapaaNrmI
namespace Go.Proofs.Ytoigdiekkkkapaa
open Go.RowKit
set_option linter.unusedVariables false

def hitB (v : Int) (f : Pol) : Bool := decide ((nrmO v f).2.2 = 0) && decide ((nrmO v f).2.1.length = 0)
set_option maxRecDepth 100000 in
theorem iIsHit (v : Int) (A1 : Option Addr) (n1 c1 : Nat) (xss : List (List Int)) (w : World) (h1 : RdL w w.heap.size A1 n1 c1 xss) (hn1 : n1 ≤ 2000000) (ht1 : totalL xss ≤ 2000000) :
    Calls Try.prog 17 #[.agg #[.int .i64 v, .slice A1 n1 c1]] w (RetBIC (hitB v xss) (nrmO v xss).2.2 w) := by
  obtain ⟨w0, b, hw0, hbe, hb0, hz0, hF⟩ := start1 w (.int .i64 v) (.slice A1 n1 c1) 26
  have HC := Lib.hid (iNormalForm v A1 n1 c1 xss w0 (rdL_here h1 hb0) hn1 ht1)
  have Hb0 := Lib.hid hb0
  have k0 := hF.at_ (b := b) (o := 0) (V := .int .i64 v) (by simp)
  have k1 := hF.at_ (b := b) (o := 1) (V := .slice A1 n1 c1) (by simp)
  rw [hw0, hbe] at k0 k1
  rw [hw0] at HC
  have HLe : Hid ((nrmO v xss).2.1.length ≤ 2000000) := Lib.hid (by
    exact (nrmO_bounds v xss).1)
  unfold hitB
  obtain ⟨o, ho⟩ : ∃ o, o = nrmO v xss := ⟨_, rfl⟩
  rw [← ho] at HC HLe ⊢
  obtain ⟨o1, T, oc⟩ := o
  obtain ⟨l, hl⟩ : ∃ l, l = T.length := ⟨_, rfl⟩
  have HC2 : Hid (Calls Try.prog 35 #[.agg #[.int .i64 v, .slice A1 n1 c1]] (w.alloc (.cells #[.int .i64 v, .slice A1 n1 c1] 26)) (RetNC o1 l T oc (w.alloc (.cells #[.int .i64 v, .slice A1 n1 c1] 26)))) := Lib.hid (by rw [hl]; exact HC.out)
  have hl2 : l ≤ 2000000 := by rw [hl]; exact HLe.out
  have HL := Lib.hid hl
  have Hw := Lib.hid hw0
  clear ho hl HC h1 hw0 hbe hz0 hF HLe hb0
  go_enter Try.func17, Try.ntmps17
  go_wp2_with fail
  refine HC2.out.mono ?_
  rintro e w1 ⟨A, c, rfl, hm, hb1⟩
  rw [← Hw.out] at hb1
  have X1 := Lib.hid (Hb0.out.trans (hb1.mono Hb0.out.size))
  have hba : Below w1.heap.size w1 (w1.alloc (.cells #[.int .i64 o1, .slice A l c] 26)) := (Below.refl _ _).alloc (Nat.le_refl _) _
  have X2 := Lib.hid (X1.out.trans (hba.mono X1.out.size))
  clear hm hb1 hba
  by_cases hc : oc = 0
  · subst hc
    go_wp2_with fail
    refine (isZeroP_any o1 A l c _ hl2).mono ?_
    rintro e w3 ⟨rfl, hb3⟩
    have X3 := Lib.hid (X2.out.trans (hb3.mono X2.out.size))
    clear hb3
    go_wp2_with fail
    refine bodyPost_ret (v := .tuple #[.bool (decide (l = 0)), .int .i64 0]) (by simp [results, Try.results17, go_sem]) rfl ?_
    exact RetBIC.mk (by rw [HL.out]; simp) rfl X3.out
  · have hne : (oc == 0) = false := by simpa using hc
    have HNE := Lib.hid hc
    go_wp2_with fail
    refine bodyPost_ret (v := .tuple #[.bool false, .int .i64 oc]) (by simp [results, Try.results17, go_sem]) rfl ?_
    exact RetBIC.mk (by simp [HNE.out]) rfl X2.out
end Go.Proofs.Ytoigdiekkkkapaa
