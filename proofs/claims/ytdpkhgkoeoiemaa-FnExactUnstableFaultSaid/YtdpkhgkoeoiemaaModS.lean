/- isTable and l11Shape. -/
import Derived.Test.YtdpkhgkoeoiemaaModI
import Derived.Test.YtdpkhgkoeoiemaaFrC
namespace Go.Proofs.Ytdpkhgkoeoiemaa
open Go.RowKit
set_option linter.unusedVariables false

theorem isStem_any (n : Int) (w : World) : Calls Try.prog 52 #[.int .i64 n] w (RetP (inB n 0 20) w) := by
  go_enter Try.func52, Try.ntmps52
  go_wp2_with fail
  refine (in_any _ _ _ _).mono ?_
  rintro e w' ⟨rfl, rfl⟩
  go_wp2_with fail
  go_ret
  exact RetP.mk rfl
theorem stemAll_any (A : Option Addr) (n c : Nat) (xs : List Int) (w : World) (h : RdS w w.heap.size A n c xs) (hn : n ≤ 2000000) :
    Calls Try.prog 30 #[.slice A n c, .func (.func 52) #[] #[]] w (RetBb (stemB xs) w) := by
  have hl := h.len
  refine (allI_any A n c xs _ _ _ w h hn (cond_of (fun x => inB x 0 20) (enters_of Try.func52 (by kernel_rfl) rfl) isStem_any xs w)).mono ?_
  intro e w' hw
  rw [all_range xs (fun x => inB x 0 20) _ n hl (fun j hj => by simp [List.getElem?_eq_getElem hj])] at hw
  exact hw
theorem stem_mem {ds : List Int} (h : stemB ds = true) : ∀ d ∈ ds, 0 ≤ d ∧ d ≤ 20 := fun d hd => inB_iff.1 ((List.all_eq_true.1 h) d hd)

/-- a module's parts, read in a world -/
structure RdMod (w : World) (A1 : Option Addr) (n1 c1 : Nat) (ds : List Int) (A2 : Option Addr) (n2 c2 : Nat) (act : List (List Int)) : Prop where
  ds : RdS w w.heap.size A1 n1 c1 ds
  act : RdL w w.heap.size A2 n2 c2 act
theorem RdMod.below {w w1 : World} {A1 A2 : Option Addr} {n1 c1 n2 c2 : Nat} {ds : List Int} {act : List (List Int)} (h : RdMod w A1 n1 c1 ds A2 n2 c2 act) (hb : Below w.heap.size w w1) : RdMod w1 A1 n1 c1 ds A2 n2 c2 act :=
  ⟨(h.ds.below hb).mono hb.size, (h.act.below hb).mono hb.size⟩

set_option maxRecDepth 100000 in
theorem isTable_any (A1 A2 : Option Addr) (n1 c1 n2 c2 : Nat) (ds : List Int) (act : List (List Int)) (w : World) (h : RdMod w A1 n1 c1 ds A2 n2 c2 act) (hn1 : n1 ≤ 2000000) (hn2 : n2 ≤ 2000000) (ht : totalL act ≤ 2000000) :
    Calls Try.prog 36 #[.agg #[.slice A1 n1 c1, .slice A2 n2 c2]] w (RetBb (tabB ds act) w) := by
  obtain ⟨w0, b, hw0, hbe, hb0, hz0, hF⟩ := start1 w (.slice A1 n1 c1) (.slice A2 n2 c2) 29
  have HX := Lib.hid (fun (x : List Int) (hx : x ∈ act) => Nat.le_trans (len_le_of_total hx) ht)
  have HTo := Lib.hid ht
  have HL1 := Lib.hid h.ds.len
  have HL2 := Lib.hid h.act.len
  have H := Lib.hid (h.below hb0)
  have Hw := Lib.hid hw0
  have Hbe := Lib.hid hbe
  have Hb0 := Lib.hid hb0
  have F0 := Lib.hid hF
  have HZ := Lib.hid hz0
  obtain ⟨R, hR⟩ : ∃ R, R = tabB ds act := ⟨_, rfl⟩
  have HR := Lib.hid hR
  rw [← hR]
  have k0 := F0.out.at_ (b := b) (o := 0) (V := .slice A1 n1 c1) (by simp)
  have k1 := F0.out.at_ (b := b) (o := 1) (V := .slice A2 n2 c2) (by simp)
  clear h ht hw0 hbe hb0 hF hR hz0
  by_cases hn : n1 ≤ 16
  · obtain ⟨r1, hr1⟩ : ∃ r, r = stemB ds := ⟨_, rfl⟩
    have HR1 := Lib.hid hr1; clear hr1
    have hnd : decide ((16 : Int) < (n1 : Int)) = false := by simp; omega
    go_enter Try.func36, Try.ntmps36
    go_wp2_with fail
    rw [← Hw.out, ← Hbe.out]
    refine (stemAll_any A1 n1 c1 ds _ H.out.ds (by omega)).mono ?_
    rintro e w1 ⟨rfl, hb1⟩
    rw [← HR1.out]
    have X1 := Lib.hid hb1
    have C1 := Lib.hid (F0.out.below hb1)
    clear k0 k1 hb1
    have k0 := C1.out.at_ (b := b) (o := 0) (V := .slice A1 n1 c1) (by simp)
    have k1 := C1.out.at_ (b := b) (o := 1) (V := .slice A2 n2 c2) (by simp)
    cases r1
    · have HV : Hid (R = false) := Lib.hid (by rw [HR.out]; simp [tabB, ← HR1.out])
      go_wp2_with fail
      go_ret
      exact RetBb.mk (b' := false) HV.out.symm (Hb0.out.trans (X1.out.mono Hb0.out.size))
    · have HST := Lib.hid (stem_mem HR1.out.symm)
      obtain ⟨r2, hr2⟩ : ∃ r, r = sortB ds := ⟨_, rfl⟩
      have HR2 := Lib.hid hr2; clear hr2
      go_wp2_with fail
      refine (sorted_any A1 n1 c1 _ ds _ (H.out.below X1.out).ds (by omega)).mono ?_
      rintro e w2 ⟨rfl, q2, rfl⟩
      rw [← HR2.out]
      cases r2
      · have HV : Hid (R = false) := Lib.hid (by rw [HR.out]; simp [tabB, ← HR2.out])
        go_wp2_with fail
        go_ret
        exact RetBb.mk (b' := false) HV.out.symm (below_drewN (Hb0.out.trans (X1.out.mono Hb0.out.size)) _)
      · obtain ⟨r3, hr3⟩ : ∃ r, r = risB act := ⟨_, rfl⟩
        have HR3 := Lib.hid hr3; clear hr3
        go_wp2_with fail
        refine (rising_any A2 n2 c2 _ act _ (H.out.below (below_drewN X1.out q2)).act (by omega) (by have := HTo.out; omega)).mono ?_
        rintro e w3 ⟨rfl, q3, rfl⟩
        rw [← HR3.out]
        have X3 := Lib.hid (below_drewN X1.out (q2 + q3))
        rw [World.drewN_drewN]
        cases r3
        · have HV : Hid (R = false) := Lib.hid (by rw [HR.out]; simp [tabB, ← HR3.out])
          go_wp2_with fail
          go_ret
          exact RetBb.mk (b' := false) HV.out.symm (Hb0.out.trans (X3.out.mono Hb0.out.size))
        · have HV : Hid (R = act.all (trB ds)) := Lib.hid (by rw [HR.out]; simp [tabB, ← HR1.out, ← HR2.out, ← HR3.out, HL1.out, hn])
          have hwn : IntKind.i64.wrap ((n1 : Int) - 1) = (n1 : Int) - 1 := by rw [IntKind.wrap_i64]; omega
          obtain ⟨wn, hwn0⟩ : ∃ W, W = w1.drewN (q2 + q3) := ⟨_, rfl⟩
          rw [← hwn0] at X3
          have C3 := Lib.hid (F0.out.below X3.out)
          clear k0 k1
          have k0 := C3.out.at_ (b := b) (o := 0) (V := .slice A1 n1 c1) (by simp)
          have k1 := C3.out.at_ (b := b) (o := 1) (V := .slice A2 n2 c2) (by simp)
          rw [← hwn0]
          clear hwn0
          obtain ⟨w4, hw4⟩ : ∃ W, W = wn.alloc (.cells #[.int .i64 ((n1 : Int) - 1)] 2) := ⟨_, rfl⟩
          have bal4 : Below wn.heap.size wn w4 := by rw [hw4]; exact (Below.refl wn.heap.size wn).alloc (Nat.le_refl _) _
          have X4 := Lib.hid (X3.out.trans (bal4.mono X3.out.size))
          have hg4 : w4.cell? ⟨wn.heap.size, 0, none⟩ = some (.int .i64 ((n1 : Int) - 1)) := by rw [hw4]; exact new_at rfl rfl
          have C4 := Lib.hid (F0.out.below X4.out)
          have hb4 := C4.out.at_ (b := b) (o := 0) (V := .slice A1 n1 c1) (by simp)
          have hsz4 : wn.heap.size < w4.heap.size := by rw [hw4]; simp
          have hbl4 : b < w4.heap.size := by have := X4.out.size; have := HZ.out; omega
          have M4 := Lib.hid (H.out.below X4.out)
          have HC := Lib.hid (allL_any A2 n2 c2 act 56 #[.pointer (some ⟨wn.heap.size, 0, none⟩), .pointer (some ⟨b, 0, none⟩)] (fun j => trB ds (act[j]?.getD [])) w4 M4.out.act (by omega)
            ⟨enters_of Try.func56 (by kernel_rfl) rfl, fun j A n c xs hv w' hb' hr => by
              have e : act[j]?.getD [] = xs := by simp [hv]
              rw [e]
              have hB := hb'
              exact (isTable1_any wn.heap.size b A1 A n1 c1 n c ds xs w' ((hB.cell (p := ⟨wn.heap.size, 0, none⟩) hsz4).trans hg4) ((hB.cell (p := ⟨b, 0, none⟩) hbl4).trans hb4) (M4.out.below hB).ds hr hn HST.out).mono fun e w'' h => ⟨h.1, by
                obtain ⟨_, q, hq⟩ := h
                rw [hq]
                exact below_drewN (Below.refl _ _) q⟩⟩)
          rw [allR_rows (trB ds) HL2.out, ← HV.out] at HC
          have HW4 := Lib.hid hw4
          have k4 := C4.out.at_ (b := b) (o := 1) (V := .slice A2 n2 c2) (by simp)
          rw [hw4] at k4
          have hbw : b < wn.heap.size := by have := X3.out.size; have := HZ.out; omega
          have hbw2 : ¬ b = wn.heap.size := by omega
          have hbw3 : ¬ wn.heap.size = b := by omega
          clear bal4 hg4 hw4 hb4 hsz4 hbl4
          go_wp2_with fail
          rw [← HW4.out]
          refine HC.out.mono ?_
          rintro e w5 ⟨rfl, hb5⟩
          have X5 := Lib.hid (X4.out.trans (hb5.mono X4.out.size))
          clear hb5
          go_wp2_with fail
          go_ret
          exact RetBb.mk rfl (Hb0.out.trans (X5.out.mono Hb0.out.size))
  · have HV : Hid (R = false) := Lib.hid (by rw [HR.out]; simp [tabB, HL1.out, hn])
    have hnd : decide ((16 : Int) < (n1 : Int)) = true := by simp; omega
    go_enter Try.func36, Try.ntmps36
    go_wp2_with fail
    rw [← Hw.out]
    go_ret
    exact RetBb.mk (b' := false) HV.out.symm Hb0.out
end Go.Proofs.Ytdpkhgkoeoiemaa
