/- What a module is but for Adem's relations, on the program's side: isTable. -/
import Derived.Test.YtejojliljplcdaaGreatDoorPut
import Derived.Test.YtejojliljplcdaaGreatDoorIsLam
import Derived.Test.YtejojliljplcdaaGreatDoorFrC
namespace Go.Proofs.YtejojliljplcdaaGreatDoor
open Go.RowKit
set_option linter.unusedVariables false

theorem lessI_any (a b : Int) (w : World) : Calls Tryz.prog 137 #[.int .i64 a, .int .i64 b] w (RetP (decide (a < b)) w) := by
  go_enter Tryz.func137, Tryz.ntmps137
  go_wp2_with fail
  refine (isNaN_any _ _).mono ?_
  rintro e w' ⟨rfl, rfl⟩
  go_wp2_with fail
  go_ret
  exact RetP.mk rfl

def sortB : List Int → Bool
  | [] => true
  | [_] => true
  | a :: b :: t => decide (a ≤ b) && sortB (b :: t)
theorem sortB_iff : ∀ {xs : List Int}, sortB xs = true ↔ ∀ (i : Nat) (a b : Int), xs[i]? = some a → xs[i + 1]? = some b → a ≤ b
  | [] => by simp [sortB]
  | [x] => by simp [sortB]
  | x :: y :: t => by
    simp only [sortB, Bool.and_eq_true, decide_eq_true_eq]
    rw [sortB_iff (xs := y :: t)]
    constructor
    · rintro ⟨h1, h2⟩ i a b ha hb
      cases i with
      | zero => simp at ha hb; omega
      | succ i => exact h2 i a b (by simpa using ha) (by simpa using hb)
    · intro h
      exact ⟨h 0 x y rfl rfl, fun i a b ha hb => h (i + 1) a b (by simpa using ha) (by simpa using hb)⟩
theorem sortB_no {xs : List Int} {i : Nat} {a b : Int} (ha : Hid (xs[i]? = some a)) (hb : Hid (xs[i + 1]? = some b)) (h : b < a) : sortB xs = false := by
  cases hs : sortB xs with
  | false => rfl
  | true => have := sortB_iff.1 hs i a b ha.out hb.out; omega

theorem sorted_any (A : Option Addr) (n c B : Nat) (xs : List Int) (w : World) (h : RdS w B A n c xs) (hn : n ≤ 1000000000) :
    Calls Tryz.prog 115 #[.slice A n c] w (RetB (sortB xs) w) := by
  have Hl := Lib.hid h.len
  have H := Lib.hid h
  have hwn : IntKind.i64.wrap ((n : Int) - 1) = (n : Int) - 1 := by rw [IntKind.wrap_i64]; omega
  obtain ⟨R, hR⟩ : ∃ R, R = sortB xs := ⟨_, rfl⟩
  have HR := Lib.hid hR
  rw [← hR]
  clear h hR
  go_enter Tryz.func115, Tryz.ntmps115
  go_wp2_with fail
  go_loopw [3] (fun i wr => ∃ (j : Nat) (i' : Int), j ≤ n ∧ i = .int .i64 i' ∧ i' = (j : Int) - 1 ∧ Hid (∀ k a b, j ≤ k + 1 → xs[k]? = some a → xs[k + 1]? = some b → a ≤ b) ∧ ∃ q, wr = w.drewN q) (fun i _ => (intOf i).toNat)
  case atStart => exact ⟨n, _, Nat.le_refl _, rfl, rfl, Lib.hid (fun k a b hk ha hb => by have := (List.getElem?_eq_some_iff.1 hb).1; rw [Hl.out] at this; omega), ⟨0, rfl⟩⟩
  case round =>
    obtain ⟨j, i', hj, rfl, hi', HS, q, rfl⟩ := hrel
    by_cases hj2 : 2 ≤ j
    · obtain ⟨t, p, hs, htp⟩ : ∃ t p, j = t + 1 ∧ t = p + 1 := ⟨j - 1, j - 2, by omega, by omega⟩
      subst hs
      obtain rfl : i' = (t : Int) := by omega
      clear hi' hj2
      obtain ⟨ad, y, rfl, _, hy, hcy⟩ := H.out.at_ (k := t) (by omega)
      obtain ⟨ad', x, had, _, hx, hcx⟩ := H.out.at_ (k := p) (by omega)
      obtain rfl : ad = ad' := by simpa using had
      clear had
      have hwq : IntKind.i64.wrap ((t : Int) - 1) = (p : Int) := by rw [IntKind.wrap_i64]; omega
      have h0 : (0 : Int) < (t : Int) := by omega
      have h0n : 0 < t := by omega
      have h1 : (t : Int) < (n : Int) := by omega
      have h2 : (p : Int) < (n : Int) := by omega
      have HTP := Lib.hid htp
      clear htp
      have hc := fun W : Nat => Lib.hid (show Calls Tryz.prog 137 #[.int .i64 y, .int .i64 x] (w.drewN W) (fun e w'' => e = .returned (.bool (decide (y < x))) ∧ ∃ m, w'' = (w.drewN W).drewN m) from (lessI_any y x (w.drewN W)).mono fun e w' h => ⟨h.1, 0, h.2⟩)
      by_cases hlt : y < x
      · have HR0 := Lib.hid (HR.out.trans (sortB_no hx (by have := hy.out; rw [HTP.out] at this; exact Lib.hid this) hlt))
        rw [decide_eq_true hlt] at hc
        clear hlt
        go_wp2_with fail
        go_quiet ((go_at_call 137; first | exact Calls.quiet_of ((hc _).out) | exact quiet_add ((hc _).out)))
        go_wp2_with fail
        go_ret
        exact RetB.mk (b' := false) HR0.out.symm (by first | exact ⟨_, rfl⟩ | exact ⟨_, World.drewN_drewN _ _ _⟩ | (simp only [World.drewN_drewN]; exact ⟨_, rfl⟩))
      · have HS2 := Lib.hid (show ∀ k a b, t ≤ k + 1 → xs[k]? = some a → xs[k + 1]? = some b → a ≤ b from fun k a b hk ha hb => by
          have := HTP.out
          by_cases hkp : k = p
          · subst hkp
            rw [hx.out] at ha
            rw [← this, hy.out] at hb
            injection ha with ha
            injection hb with hb
            omega
          · exact HS.out k a b (by omega) ha hb)
        rw [decide_eq_false hlt] at hc
        clear hlt
        go_wp2_with fail
        go_quiet ((go_at_call 137; first | exact Calls.quiet_of ((hc _).out) | exact quiet_add ((hc _).out)))
        go_wp2_with fail
        go_roundw
        case rel => exact ⟨t, (p : Int), by omega, by go_num, by have := HTP.out; omega, HS2, (by first | exact ⟨_, rfl⟩ | exact ⟨_, World.drewN_drewN _ _ _⟩ | (simp only [World.drewN_drewN]; exact ⟨_, rfl⟩))⟩
        case measure => have := HTP.out; simp [intOf]; omega
    · have HR1 := Lib.hid (show R = true from by
        rw [HR.out, sortB_iff]
        intro i a b ha hb
        exact HS.out i a b (by omega) ha hb)
      have hle : ¬ (0 : Int) < i' := by omega
      have hle2 : decide ((0 : Int) < i') = false := decide_eq_false hle
      clear hi' hj2
      go_wp2_with fail
      go_ret
      exact RetB.mk (b' := true) HR1.out.symm (by first | exact ⟨_, rfl⟩ | exact ⟨_, World.drewN_drewN _ _ _⟩ | (simp only [World.drewN_drewN]; exact ⟨_, rfl⟩))

/-- one entry of a module's action: a degree and two places, between whose degrees it lies -/
def trB (ds : List Int) : List Int → Bool
  | [a0, a1, a2] => inB a0 1 20 && inB a1 0 (ds.length - 1) && inB a2 0 (ds.length - 1) && decide (ds[a2.toNat]?.getD 0 = ds[a1.toNat]?.getD 0 + a0)
  | _ => false
def stemB (ds : List Int) : Bool := ds.all fun d => inB d 0 20
def tabB (ds : List Int) (act : List (List Int)) : Bool := decide (ds.length ≤ 16) && stemB ds && sortB ds && risB act && act.all (trB ds)
theorem trB_len {ds x : List Int} (h : x.length ≠ 3) : trB ds x = false := by
  unfold trB
  split
  · simp at h
  · rfl
theorem isTable1_any (g b : Nat) (A A' : Option Addr) (n c n' c' : Nat) (ds x : List Int) (w : World) (hg : w.cell? ⟨g, 0, none⟩ = some (.int .i64 ((n : Int) - 1))) (hb : w.cell? ⟨b, 0, none⟩ = some (.slice A n c))
    (h : RdS w w.heap.size A n c ds) (hr : RdS w w.heap.size A' n' c' x) (hn : n ≤ 16) (hst : ∀ d ∈ ds, 0 ≤ d ∧ d ≤ 20) :
    Calls Tryz.prog 118 #[.slice A' n' c', .pointer (some ⟨g, 0, none⟩), .pointer (some ⟨b, 0, none⟩)] w (RetB (trB ds x) w) := by
  have HL := Lib.hid h.len
  have H := Lib.hid h
  have HX := Lib.hid hr
  have HS := Lib.hid hst
  obtain ⟨R, hR⟩ : ∃ R, R = trB ds x := ⟨_, rfl⟩
  have HR := Lib.hid hR
  rw [← hR]
  have HI := fun (y lo hi : Int) (W : Nat) => Lib.hid (show Calls Tryz.prog 71 #[.int .i64 y, .int .i64 lo, .int .i64 hi] (w.drewN W) (fun e w'' => e = .returned (.bool (inB y lo hi)) ∧ ∃ m, w'' = (w.drewN W).drewN m) from (in_any y lo hi (w.drewN W)).mono fun e w' h => ⟨h.1, 0, h.2⟩)
  clear h hr hst hR
  by_cases h3 : n' = 3
  · subst h3
    obtain ⟨ad, a0, rfl, _, hx0, hc0⟩ := HX.out.at_ (k := 0) (by omega)
    obtain ⟨ad', a1, had, _, hx1, hc1⟩ := HX.out.at_ (k := 1) (by omega)
    obtain rfl : ad = ad' := by simpa using had
    clear had
    obtain ⟨ad', a2, had, _, hx2, hc2⟩ := HX.out.at_ (k := 2) (by omega)
    obtain rfl : ad = ad' := by simpa using had
    clear had
    have hc00 : w.cell? ad = some (.int .i64 a0) := by simpa [Addr.add] using hc0
    simp [Addr.add] at hc1 hc2
    have hxe : x = [a0, a1, a2] := by
      have hl := HX.out.len
      match x, hl with
      | [p, q, r], _ =>
        have h0 := hx0.out; have h1 := hx1.out; have h2 := hx2.out
        simp at h0 h1 h2
        rw [h0, h1, h2]
    have HV := Lib.hid (show R = (inB a0 1 20 && inB a1 0 ((n : Int) - 1) && inB a2 0 ((n : Int) - 1) && decide (ds[a2.toNat]?.getD 0 = ds[a1.toNat]?.getD 0 + a0)) from by rw [HR.out, hxe]; simp only [trB, HL.out])
    clear hxe hx0 hx1 hx2 hc0
    cases i0 : inB a0 1 20
    · have HF := Lib.hid (show R = false from by rw [HV.out, i0]; rfl)
      go_enter Tryz.func118, Tryz.ntmps118
      go_wp2_with fail
      go_quiet ((go_at_call 71; first | exact Calls.quiet_of ((HI _ _ _ _).out) | exact quiet_add ((HI _ _ _ _).out)))
      go_wp2_with fail
      go_ret
      exact RetB.mk (b' := false) HF.out.symm (by first | exact ⟨_, rfl⟩ | exact ⟨_, World.drewN_drewN _ _ _⟩ | (simp only [World.drewN_drewN]; exact ⟨_, rfl⟩))
    · cases i1 : inB a1 0 ((n : Int) - 1)
      · have HF := Lib.hid (show R = false from by rw [HV.out, i0, i1]; rfl)
        go_enter Tryz.func118, Tryz.ntmps118
        go_wp2_with fail
        go_quiet ((go_at_call 71; first | exact Calls.quiet_of ((HI _ _ _ _).out) | exact quiet_add ((HI _ _ _ _).out)))
        go_wp2_with fail
        go_ret
        exact RetB.mk (b' := false) HF.out.symm (by first | exact ⟨_, rfl⟩ | exact ⟨_, World.drewN_drewN _ _ _⟩ | (simp only [World.drewN_drewN]; exact ⟨_, rfl⟩))
      · cases i2 : inB a2 0 ((n : Int) - 1)
        · have HF := Lib.hid (show R = false from by rw [HV.out, i0, i1, i2]; rfl)
          go_enter Tryz.func118, Tryz.ntmps118
          go_wp2_with fail
          go_quiet ((go_at_call 71; first | exact Calls.quiet_of ((HI _ _ _ _).out) | exact quiet_add ((HI _ _ _ _).out)))
          go_wp2_with fail
          go_ret
          exact RetB.mk (b' := false) HF.out.symm (by first | exact ⟨_, rfl⟩ | exact ⟨_, World.drewN_drewN _ _ _⟩ | (simp only [World.drewN_drewN]; exact ⟨_, rfl⟩))
        · have b0 := inB_iff.1 i0
          have b1 := inB_iff.1 i1
          have b2 := inB_iff.1 i2
          obtain ⟨k1, rfl⟩ : ∃ k1 : Nat, a1 = k1 := ⟨a1.toNat, by omega⟩
          obtain ⟨k2, rfl⟩ : ∃ k2 : Nat, a2 = k2 := ⟨a2.toNat, by omega⟩
          obtain ⟨ae, d1, hae, _, hd1, he1⟩ := H.out.at_ (k := k1) (by omega)
          subst hae
          obtain ⟨ad', d2, had, _, hd2, he2⟩ := H.out.at_ (k := k2) (by omega)
          obtain rfl : ae = ad' := by simpa using had
          clear had
          have s1 := HS.out d1 (mem_of hd1)
          have hwd : IntKind.i64.wrap (d1 + a0) = d1 + a0 := by rw [IntKind.wrap_i64]; omega
          have HF := Lib.hid (show R = decide (d2 = d1 + a0) from by rw [HV.out, i0, i1, i2]; simp [hd1.out, hd2.out])
          have b1' : (k1 : Int) < (n : Int) := by omega
          have b2' : (k2 : Int) < (n : Int) := by omega
          clear b0 b1 b2 s1 hd1 hd2
          by_cases he : d2 = d1 + a0
          · have HE := Lib.hid (show R = true from by rw [HF.out]; simpa using he)
            have he3 : (d2 == d1 + a0) = true := by simpa using he
            clear he
            go_enter Tryz.func118, Tryz.ntmps118
            go_wp2_with fail
            go_quiet ((go_at_call 71; first | exact Calls.quiet_of ((HI _ _ _ _).out) | exact quiet_add ((HI _ _ _ _).out)))
            go_wp2_with fail
            go_quiet (fail)
            go_wp2_with fail
            go_ret
            exact RetB.mk (b' := true) HE.out.symm (by first | exact ⟨_, rfl⟩ | exact ⟨_, World.drewN_drewN _ _ _⟩ | (simp only [World.drewN_drewN]; exact ⟨_, rfl⟩))
          · have HE := Lib.hid (show R = false from by rw [HF.out]; simpa using he)
            have he3 : (d2 == d1 + a0) = false := by simpa using he
            clear he
            go_enter Tryz.func118, Tryz.ntmps118
            go_wp2_with fail
            go_quiet ((go_at_call 71; first | exact Calls.quiet_of ((HI _ _ _ _).out) | exact quiet_add ((HI _ _ _ _).out)))
            go_wp2_with fail
            go_quiet (fail)
            go_wp2_with fail
            go_ret
            exact RetB.mk (b' := false) HE.out.symm (by first | exact ⟨_, rfl⟩ | exact ⟨_, World.drewN_drewN _ _ _⟩ | (simp only [World.drewN_drewN]; exact ⟨_, rfl⟩))
  · have HF := Lib.hid (show R = false from by rw [HR.out]; exact trB_len (by rw [HX.out.len]; exact h3))
    have hne1 : ((n' : Int) == 3) = false := by simp; omega
    have hne2 : ((n' : Int) != 3) = true := by simp; omega
    have hne3 : (n' == 3) = false := by simp; omega
    clear h3
    go_enter Tryz.func118, Tryz.ntmps118
    go_wp2_with fail
    go_quiet (fail)
    go_wp2_with fail
    go_ret
    exact RetB.mk (b' := false) HF.out.symm (by first | exact ⟨_, rfl⟩ | exact ⟨_, World.drewN_drewN _ _ _⟩ | (simp only [World.drewN_drewN]; exact ⟨_, rfl⟩))
end Go.Proofs.YtejojliljplcdaaGreatDoor

/- isTable and l11Shape. -/
namespace Go.Proofs.YtejojliljplcdaaGreatDoor
open Go.RowKit
set_option linter.unusedVariables false

theorem isStem_any (n : Int) (w : World) : Calls Tryz.prog 73 #[.int .i64 n] w (RetP (inB n 0 20) w) := by
  go_enter Tryz.func73, Tryz.ntmps73
  go_wp2_with fail
  refine (in_any _ _ _ _).mono ?_
  rintro e w' ⟨rfl, rfl⟩
  go_wp2_with fail
  go_ret
  exact RetP.mk rfl
theorem stemAll_any (A : Option Addr) (n c : Nat) (xs : List Int) (w : World) (h : RdS w w.heap.size A n c xs) (hn : n ≤ 2000000) :
    Calls Tryz.prog 56 #[.slice A n c, .func (.func 73) #[] #[]] w (RetBb (stemB xs) w) := by
  have hl := h.len
  refine (allI_any A n c xs _ _ _ w h hn (cond_of (fun x => inB x 0 20) (enters_of Tryz.func73 (by kernel_rfl) rfl) isStem_any xs w)).mono ?_
  intro e w' hw
  rw [all_range xs (fun x => inB x 0 20) _ n hl (fun j hj => by simp [List.getElem?_eq_getElem hj])] at hw
  exact hw
theorem stem_mem {ds : List Int} (h : stemB ds = true) : ∀ d ∈ ds, 0 ≤ d ∧ d ≤ 20 := fun d hd => inB_iff.1 ((List.all_eq_true.1 h) d hd)

/-- a module's parts, read in a world -/
structure RdMod (w : World) (A1 : Option Addr) (n1 c1 : Nat) (ds : List Int) (A2 : Option Addr) (n2 c2 : Nat) (act : List (List Int)) : Prop where
  ds : RdS w w.heap.size A1 n1 c1 ds
  act : RdL w w.heap.size A2 n2 c2 act
theorem RdMod.below {w w1 : World} {A1 A2 : Option Addr} {n1 c1 n2 c2 : Nat} {ds : List Int} {act : List (List Int)} (h : RdMod w A1 n1 c1 ds A2 n2 c2 act) (hb : Below w.heap.size w w1) : RdMod w1 A1 n1 c1 ds A2 n2 c2 act :=
  ⟨(h.ds.below hb).mono hb.size, (h.act.below hb).mono hb.size⟩

set_option maxRecDepth 100000 in
theorem isTable_any (A1 A2 : Option Addr) (n1 c1 n2 c2 : Nat) (ds : List Int) (act : List (List Int)) (w : World) (h : RdMod w A1 n1 c1 ds A2 n2 c2 act) (hn1 : n1 ≤ 2000000) (hn2 : n2 ≤ 2000000) (ht : totalL act ≤ 2000000) :
    Calls Tryz.prog 81 #[.agg #[.slice A1 n1 c1, .slice A2 n2 c2]] w (RetBb (tabB ds act) w) := by
  obtain ⟨w0, b, hw0, hbe, hb0, hz0, hF⟩ := start1 w (.slice A1 n1 c1) (.slice A2 n2 c2) 27
  have HX := Lib.hid (fun (x : List Int) (hx : x ∈ act) => Nat.le_trans (len_le_of_total hx) ht)
  have HTo := Lib.hid ht
  have HL1 := Lib.hid h.ds.len
  have HL2 := Lib.hid h.act.len
  have H := Lib.hid (h.below hb0)
  have Hw := Lib.hid hw0
  have Hbe := Lib.hid hbe
  have Hb0 := Lib.hid hb0
  have F0 := Lib.hid hF
  have HZ := Lib.hid hz0
  obtain ⟨R, hR⟩ : ∃ R, R = tabB ds act := ⟨_, rfl⟩
  have HR := Lib.hid hR
  rw [← hR]
  have k0 := F0.out.at_ (b := b) (o := 0) (V := .slice A1 n1 c1) (by simp)
  have k1 := F0.out.at_ (b := b) (o := 1) (V := .slice A2 n2 c2) (by simp)
  clear h ht hw0 hbe hb0 hF hR hz0
  by_cases hn : n1 ≤ 16
  · obtain ⟨r1, hr1⟩ : ∃ r, r = stemB ds := ⟨_, rfl⟩
    have HR1 := Lib.hid hr1; clear hr1
    have hnd : decide ((16 : Int) < (n1 : Int)) = false := by simp; omega
    go_enter Tryz.func81, Tryz.ntmps81
    go_wp2_with fail
    rw [← Hw.out, ← Hbe.out]
    refine (stemAll_any A1 n1 c1 ds _ H.out.ds (by omega)).mono ?_
    rintro e w1 ⟨rfl, hb1⟩
    rw [← HR1.out]
    have X1 := Lib.hid hb1
    have C1 := Lib.hid (F0.out.below hb1)
    clear k0 k1 hb1
    have k0 := C1.out.at_ (b := b) (o := 0) (V := .slice A1 n1 c1) (by simp)
    have k1 := C1.out.at_ (b := b) (o := 1) (V := .slice A2 n2 c2) (by simp)
    cases r1
    · have HV : Hid (R = false) := Lib.hid (by rw [HR.out]; simp [tabB, ← HR1.out])
      go_wp2_with fail
      go_ret
      exact RetBb.mk (b' := false) HV.out.symm (Hb0.out.trans (X1.out.mono Hb0.out.size))
    · have HST := Lib.hid (stem_mem HR1.out.symm)
      obtain ⟨r2, hr2⟩ : ∃ r, r = sortB ds := ⟨_, rfl⟩
      have HR2 := Lib.hid hr2; clear hr2
      go_wp2_with fail
      refine (sorted_any A1 n1 c1 _ ds _ (H.out.below X1.out).ds (by omega)).mono ?_
      rintro e w2 ⟨rfl, q2, rfl⟩
      rw [← HR2.out]
      cases r2
      · have HV : Hid (R = false) := Lib.hid (by rw [HR.out]; simp [tabB, ← HR2.out])
        go_wp2_with fail
        go_ret
        exact RetBb.mk (b' := false) HV.out.symm (below_drewN (Hb0.out.trans (X1.out.mono Hb0.out.size)) _)
      · obtain ⟨r3, hr3⟩ : ∃ r, r = risB act := ⟨_, rfl⟩
        have HR3 := Lib.hid hr3; clear hr3
        go_wp2_with fail
        refine (rising_any A2 n2 c2 _ act _ (H.out.below (below_drewN X1.out q2)).act (by omega) (by have := HTo.out; omega)).mono ?_
        rintro e w3 ⟨rfl, q3, rfl⟩
        rw [← HR3.out]
        have X3 := Lib.hid (below_drewN X1.out (q2 + q3))
        rw [World.drewN_drewN]
        cases r3
        · have HV : Hid (R = false) := Lib.hid (by rw [HR.out]; simp [tabB, ← HR3.out])
          go_wp2_with fail
          go_ret
          exact RetBb.mk (b' := false) HV.out.symm (Hb0.out.trans (X3.out.mono Hb0.out.size))
        · have HV : Hid (R = act.all (trB ds)) := Lib.hid (by rw [HR.out]; simp [tabB, ← HR1.out, ← HR2.out, ← HR3.out, HL1.out, hn])
          have hwn : IntKind.i64.wrap ((n1 : Int) - 1) = (n1 : Int) - 1 := by rw [IntKind.wrap_i64]; omega
          obtain ⟨wn, hwn0⟩ : ∃ W, W = w1.drewN (q2 + q3) := ⟨_, rfl⟩
          rw [← hwn0] at X3
          have C3 := Lib.hid (F0.out.below X3.out)
          clear k0 k1
          have k0 := C3.out.at_ (b := b) (o := 0) (V := .slice A1 n1 c1) (by simp)
          have k1 := C3.out.at_ (b := b) (o := 1) (V := .slice A2 n2 c2) (by simp)
          rw [← hwn0]
          clear hwn0
          obtain ⟨w4, hw4⟩ : ∃ W, W = wn.alloc (.cells #[.int .i64 ((n1 : Int) - 1)] 2) := ⟨_, rfl⟩
          have bal4 : Below wn.heap.size wn w4 := by rw [hw4]; exact (Below.refl wn.heap.size wn).alloc (Nat.le_refl _) _
          have X4 := Lib.hid (X3.out.trans (bal4.mono X3.out.size))
          have hg4 : w4.cell? ⟨wn.heap.size, 0, none⟩ = some (.int .i64 ((n1 : Int) - 1)) := by rw [hw4]; exact new_at rfl rfl
          have C4 := Lib.hid (F0.out.below X4.out)
          have hb4 := C4.out.at_ (b := b) (o := 0) (V := .slice A1 n1 c1) (by simp)
          have hsz4 : wn.heap.size < w4.heap.size := by rw [hw4]; simp
          have hbl4 : b < w4.heap.size := by have := X4.out.size; have := HZ.out; omega
          have M4 := Lib.hid (H.out.below X4.out)
          have HC := Lib.hid (allL_any A2 n2 c2 act 118 #[.pointer (some ⟨wn.heap.size, 0, none⟩), .pointer (some ⟨b, 0, none⟩)] (fun j => trB ds (act[j]?.getD [])) w4 M4.out.act (by omega)
            ⟨enters_of Tryz.func118 (by kernel_rfl) rfl, fun j A n c xs hv w' hb' hr => by
              have e : act[j]?.getD [] = xs := by simp [hv]
              rw [e]
              have hB := hb'
              exact (isTable1_any wn.heap.size b A1 A n1 c1 n c ds xs w' ((hB.cell (p := ⟨wn.heap.size, 0, none⟩) hsz4).trans hg4) ((hB.cell (p := ⟨b, 0, none⟩) hbl4).trans hb4) (M4.out.below hB).ds hr hn HST.out).mono fun e w'' h => ⟨h.1, by
                obtain ⟨_, q, hq⟩ := h
                rw [hq]
                exact below_drewN (Below.refl _ _) q⟩⟩)
          rw [allR_rows (trB ds) HL2.out, ← HV.out] at HC
          have HW4 := Lib.hid hw4
          have k4 := C4.out.at_ (b := b) (o := 1) (V := .slice A2 n2 c2) (by simp)
          rw [hw4] at k4
          have hbw : b < wn.heap.size := by have := X3.out.size; have := HZ.out; omega
          have hbw2 : ¬ b = wn.heap.size := by omega
          have hbw3 : ¬ wn.heap.size = b := by omega
          clear bal4 hg4 hw4 hb4 hsz4 hbl4
          go_wp2_with fail
          rw [← HW4.out]
          refine HC.out.mono ?_
          rintro e w5 ⟨rfl, hb5⟩
          have X5 := Lib.hid (X4.out.trans (hb5.mono X4.out.size))
          clear hb5
          go_wp2_with fail
          go_ret
          exact RetBb.mk rfl (Hb0.out.trans (X5.out.mono Hb0.out.size))
  · have HV : Hid (R = false) := Lib.hid (by rw [HR.out]; simp [tabB, HL1.out, hn])
    have hnd : decide ((16 : Int) < (n1 : Int)) = true := by simp; omega
    go_enter Tryz.func81, Tryz.ntmps81
    go_wp2_with fail
    rw [← Hw.out]
    go_ret
    exact RetBb.mk (b' := false) HV.out.symm Hb0.out
end Go.Proofs.YtejojliljplcdaaGreatDoor

/- l11Shape: what a module is but for Adem's relations, on the reference's side. -/
namespace Go.Proofs.YtejojliljplcdaaGreatDoor
open Go.RowKit
set_option linter.unusedVariables false

theorem stemB_no {ds : List Int} {k : Nat} {d : Int} (hx : Hid (ds[k]? = some d)) (h : inB d 0 20 = false) : stemB ds = false := by
  rw [stemB, List.all_eq_false]
  exact ⟨d, mem_of hx, by simp [h]⟩
/-- an entry as the reference asks it -/
theorem trB_cases {ds : List Int} {n : Nat} {a0 a1 a2 : Int} (hl : ds.length = n) (hs : ∀ d ∈ ds, 0 ≤ d ∧ d ≤ 20) :
    (a0 < 1 → trB ds [a0, a1, a2] = false) ∧ (inB a1 0 ((n : Int) - 1) = false → trB ds [a0, a1, a2] = false) ∧ (inB a2 0 ((n : Int) - 1) = false → trB ds [a0, a1, a2] = false) ∧
    (∀ (k1 k2 : Nat) (d1 d2 : Int), ¬ a0 < 1 → a1 = k1 → a2 = k2 → inB a1 0 ((n : Int) - 1) = true → inB a2 0 ((n : Int) - 1) = true → ds[k1]? = some d1 → ds[k2]? = some d2 → trB ds [a0, a1, a2] = decide (d2 - d1 = a0)) := by
  subst hl
  refine ⟨fun h => ?_, fun h => ?_, fun h => ?_, fun k1 k2 d1 d2 h0 e1 e2 h1 h2 g1 g2 => ?_⟩
  · have : inB a0 1 20 = false := by
      cases hi : inB a0 1 20
      · rfl
      · have := inB_iff.1 hi; omega
    simp [trB, this]
  · simp [trB, h]
  · simp [trB, h]
  · subst e1 e2
    have b1 := hs d1 (List.mem_of_getElem? g1)
    have b2 := hs d2 (List.mem_of_getElem? g2)
    simp only [trB, h1, h2, Int.toNat_natCast, g1, g2, Option.getD_some, Bool.and_true]
    by_cases he : d2 - d1 = a0
    · have h3 : inB a0 1 20 = true := inB_iff.2 (by omega)
      have h4 : d2 = d1 + a0 := by omega
      rw [h3, decide_eq_true he, decide_eq_true h4]; rfl
    · have h4 : ¬ d2 = d1 + a0 := by omega
      rw [decide_eq_false he, decide_eq_false h4]; simp

set_option maxRecDepth 100000 in
set_option maxHeartbeats 1000000 in
theorem l11Shape_any (A1 A2 : Option Addr) (n1 c1 n2 c2 : Nat) (ds : List Int) (act : List (List Int)) (w : World) (h : RdMod w A1 n1 c1 ds A2 n2 c2 act) (hn1 : n1 ≤ 2000000) (hn2 : n2 ≤ 2000000) (ht : totalL act ≤ 2000000) :
    Calls Tryz.prog 74 #[.agg #[.slice A1 n1 c1, .slice A2 n2 c2]] w (RetBb (tabB ds act) w) := by
  obtain ⟨w0, b, hw0, hbe, hb0, hz0, hF⟩ := start1 w (.slice A1 n1 c1) (.slice A2 n2 c2) 27
  have HX := Lib.hid (fun (x : List Int) (hx : x ∈ act) => Nat.le_trans (len_le_of_total hx) ht)
  have HTo := Lib.hid ht
  have HL1 := Lib.hid h.ds.len
  have HL2 := Lib.hid h.act.len
  have H := Lib.hid (h.below hb0)
  have Hw := Lib.hid hw0
  have Hbe := Lib.hid hbe
  have Hb0 := Lib.hid hb0
  have F0 := Lib.hid hF
  obtain ⟨R, hR⟩ : ∃ R, R = tabB ds act := ⟨_, rfl⟩
  have HR := Lib.hid hR
  rw [← hR]
  have k0 := F0.out.at_ (b := b) (o := 0) (V := .slice A1 n1 c1) (by simp)
  have k1 := F0.out.at_ (b := b) (o := 1) (V := .slice A2 n2 c2) (by simp)
  clear h ht hw0 hbe hb0 hF hR hz0
  by_cases hn : n1 ≤ 16
  · have hnd : decide ((16 : Int) < (n1 : Int)) = false := by simp; omega
    obtain ⟨r3, hr3⟩ : ∃ r, r = risB act := ⟨_, rfl⟩
    have HR3 := Lib.hid hr3; clear hr3
    go_enter Tryz.func74, Tryz.ntmps74
    go_wp2_with fail
    rw [← Hw.out, ← Hbe.out]
    refine (ascending_any A2 n2 c2 _ act _ H.out.act (by omega) (by have := HTo.out; omega)).mono ?_
    rintro e w2 ⟨rfl, q2, rfl⟩
    rw [← HR3.out]
    cases r3
    · have HV : Hid (R = false) := Lib.hid (by rw [HR.out]; simp [tabB, ← HR3.out])
      go_wp2_with fail
      go_ret
      exact RetBb.mk (b' := false) HV.out.symm (below_drewN Hb0.out _)
    · have HV : Hid (R = (stemB ds && sortB ds && act.all (trB ds))) := Lib.hid (by rw [HR.out]; simp [tabB, ← HR3.out, HL1.out, hn])
      have HI := fun (y lo hi : Int) (W : Nat) => Lib.hid (show Calls Tryz.prog 103 #[.int .i64 y, .int .i64 lo, .int .i64 hi] (w0.drewN W) (fun e w'' => e = .returned (.bool (inB y lo hi)) ∧ ∃ m, w'' = (w0.drewN W).drewN m) from (l01In_any y lo hi (w0.drewN W)).mono fun e w' h => ⟨h.1, 0, h.2⟩)
      go_wp2_with fail
      go_loopw [3] (fun i wr => ∃ j : Nat, j ≤ n1 ∧ i = .int .i64 j ∧ Hid (∀ (k : Nat) (d : Int), k < j → ds[k]? = some d → inB d 0 20 = true) ∧ Hid (∀ (k : Nat) (x y : Int), k + 1 < j → ds[k]? = some x → ds[k + 1]? = some y → x ≤ y) ∧ ∃ q, wr = w0.drewN q) (fun i _ => n1 - (intOf i).toNat)
      case atStart => exact ⟨0, Nat.zero_le _, rfl, Lib.hid (fun k d hk => absurd hk (by omega)), Lib.hid (fun k x y hk => absurd hk (by omega)), (by first | exact ⟨_, rfl⟩ | exact ⟨_, World.drewN_drewN _ _ _⟩ | (simp only [World.drewN_drewN]; exact ⟨_, rfl⟩))⟩
      case round =>
        obtain ⟨t, hj, rfl, HA, HS, q, rfl⟩ := hrel
        by_cases hlt : t < n1
        · obtain ⟨ad, y, rfl, _, hy, hcy⟩ := H.out.ds.at_ hlt
          cases i0 : inB y 0 20
          · have HF := Lib.hid (show R = false from by rw [HV.out, stemB_no hy i0]; rfl)
            go_wp2_with fail
            go_quiet ((go_at_call 103; first | exact Calls.quiet_of ((HI _ _ _ _).out) | exact quiet_add ((HI _ _ _ _).out)))
            go_wp2_with fail
            go_ret
            exact RetBb.mk (b' := false) HF.out.symm (by first | exact below_drewN Hb0.out _ | exact below_drewN (below_drewN Hb0.out _) _)
          · have HA2 := Lib.hid (show ∀ (k : Nat) (d : Int), k < t + 1 → ds[k]? = some d → inB d 0 20 = true from fun k d hk hd => by
              by_cases hkt : k = t
              · subst hkt
                rw [hy.out] at hd
                injection hd with hd
                rw [← hd]; exact i0
              · exact HA.out k d (by omega) hd)
            by_cases ht0 : t = 0
            · subst ht0
              have hc00 : w0.cell? ad = some (.int .i64 y) := by simpa [Addr.add] using hcy
              have h0n : 0 < n1 := hlt
              have h0i : (0 : Int) < (n1 : Int) := by omega
              go_wp2_with fail
              go_quiet ((go_at_call 103; first | exact Calls.quiet_of ((HI _ _ _ _).out) | exact quiet_add ((HI _ _ _ _).out)))
              go_wp2_with fail
              go_roundw
              case rel => exact ⟨1, by omega, by go_num, HA2, Lib.hid (fun k x y hk => absurd hk (by omega)), (by first | exact ⟨_, rfl⟩ | exact ⟨_, World.drewN_drewN _ _ _⟩ | (simp only [World.drewN_drewN]; exact ⟨_, rfl⟩))⟩
              case measure => simp [intOf]; omega
            · obtain ⟨p, htp⟩ : ∃ p, t = p + 1 := ⟨t - 1, by omega⟩
              obtain ⟨ad', x, had, _, hx, hcx⟩ := H.out.ds.at_ (k := p) (by omega)
              obtain rfl : ad = ad' := by simpa using had
              clear had
              have hwq : IntKind.i64.wrap ((t : Int) - 1) = (p : Int) := by rw [IntKind.wrap_i64]; omega
              have h0 : decide ((0 : Int) < (t : Int)) = true := by simp; omega
              have h0n : 0 < t := by omega
              have h2 : (p : Int) < (n1 : Int) := by omega
              have HTP := Lib.hid htp
              clear htp ht0
              by_cases hyx : y < x
              · have HF := Lib.hid (show R = false from by rw [HV.out, sortB_no hx (by have := hy.out; rw [HTP.out] at this; exact Lib.hid this) hyx]; simp)
                have hyd : decide (y < x) = true := decide_eq_true hyx
                clear hyx
                go_wp2_with fail
                go_quiet ((go_at_call 103; first | exact Calls.quiet_of ((HI _ _ _ _).out) | exact quiet_add ((HI _ _ _ _).out)))
                go_wp2_with fail
                go_ret
                exact RetBb.mk (b' := false) HF.out.symm (by first | exact below_drewN Hb0.out _ | exact below_drewN (below_drewN Hb0.out _) _)
              · have HS2 := Lib.hid (show ∀ (k : Nat) (a b : Int), k + 1 < t + 1 → ds[k]? = some a → ds[k + 1]? = some b → a ≤ b from fun k a b hk ha hb => by
                  have := HTP.out
                  by_cases hkp : k = p
                  · subst hkp
                    rw [hx.out] at ha
                    rw [← this, hy.out] at hb
                    injection ha with ha
                    injection hb with hb
                    omega
                  · exact HS.out k a b (by omega) ha hb)
                have hyd : decide (y < x) = false := decide_eq_false hyx
                clear hyx
                go_wp2_with fail
                go_quiet ((go_at_call 103; first | exact Calls.quiet_of ((HI _ _ _ _).out) | exact quiet_add ((HI _ _ _ _).out)))
                go_wp2_with fail
                go_roundw
                case rel => exact ⟨t + 1, by omega, by go_num, HA2, HS2, (by first | exact ⟨_, rfl⟩ | exact ⟨_, World.drewN_drewN _ _ _⟩ | (simp only [World.drewN_drewN]; exact ⟨_, rfl⟩))⟩
                case measure => simp [intOf]; omega
        · obtain rfl : t = n1 := by omega
          have HST := Lib.hid (show ∀ d ∈ ds, 0 ≤ d ∧ d ≤ 20 from fun d hd => by
            obtain ⟨k, hk, rfl⟩ := List.getElem_of_mem hd
            exact inB_iff.1 (HA.out k _ (by rw [← HL1.out]; exact hk) (List.getElem?_eq_getElem hk)))
          have HV2 : Hid (R = act.all (trB ds)) := Lib.hid (by
            have e1 : stemB ds = true := List.all_eq_true.2 fun d hd => inB_iff.2 (HST.out d hd)
            have e2 : sortB ds = true := sortB_iff.2 fun k x y hx hy => HS.out k x y (by
              have := (List.getElem?_eq_some_iff.1 hy).1
              rw [HL1.out] at this; exact this) hx hy
            rw [HV.out, e1, e2]; rfl)
          go_wp2_with fail
          go_loopw [5] (fun i wr => ∃ j : Nat, j ≤ n2 ∧ i = .int .i64 j ∧ Hid ((act.take j).all (trB ds) = true) ∧ ∃ q, wr = w0.drewN q) (fun i _ => n2 - (intOf i).toNat)
          case atStart => exact ⟨0, Nat.zero_le _, rfl, Lib.hid (by simp), (by first | exact ⟨_, rfl⟩ | exact ⟨_, World.drewN_drewN _ _ _⟩ | (simp only [World.drewN_drewN]; exact ⟨_, rfl⟩))⟩
          case round =>
            obtain ⟨j, hj2, rfl, HK, q2, rfl⟩ := hrel
            by_cases hlt2 : j < n2
            · obtain ⟨ad, A', n', c', x, rfl, _, hx, hcx, hrx⟩ := H.out.act.at_ hlt2
              have HRX := Lib.hid hrx
              clear hrx
              have hwn : IntKind.i64.wrap ((t : Int) - 1) = (t : Int) - 1 := by rw [IntKind.wrap_i64]; omega
              by_cases h3 : n' = 3
              · subst h3
                obtain ⟨ax, a0, rfl, _, hx0, hc0⟩ := HRX.out.at_ (k := 0) (by omega)
                obtain ⟨ad', a1, had, _, hx1, hc1⟩ := HRX.out.at_ (k := 1) (by omega)
                obtain rfl : ax = ad' := by simpa using had
                clear had
                obtain ⟨ad', a2, had, _, hx2, hc2⟩ := HRX.out.at_ (k := 2) (by omega)
                obtain rfl : ax = ad' := by simpa using had
                clear had
                have hc00 : w0.cell? ax = some (.int .i64 a0) := by simpa [Addr.add] using hc0
                simp [Addr.add] at hc1 hc2
                have hxe : x = [a0, a1, a2] := by
                  have hl := HRX.out.len
                  match x, hl with
                  | [p, q, r], _ =>
                    have h0 := hx0.out; have h1 := hx1.out; have h2 := hx2.out
                    simp at h0 h1 h2
                    rw [h0, h1, h2]
                have HTC := Lib.hid (trB_cases (a0 := a0) (a1 := a1) (a2 := a2) HL1.out HST.out)
                rw [← hxe] at HTC
                clear hxe hx0 hx1 hx2 hc0
                by_cases i0 : a0 < 1
                · have HF := Lib.hid (show R = false from by rw [HV2.out]; exact all_no hx (Lib.hid (HTC.out.1 i0)))
                  have i0d : decide (a0 < 1) = true := decide_eq_true i0
                  clear i0
                  go_wp2_with fail
                  go_quiet ((go_at_call 103; first | exact Calls.quiet_of ((HI _ _ _ _).out) | exact quiet_add ((HI _ _ _ _).out)))
                  go_wp2_with fail
                  go_ret
                  exact RetBb.mk (b' := false) HF.out.symm (by first | exact below_drewN Hb0.out _ | exact below_drewN (below_drewN Hb0.out _) _)
                · have i0d : decide (a0 < 1) = false := decide_eq_false i0
                  cases i1 : inB a1 0 ((t : Int) - 1)
                  · have HF := Lib.hid (show R = false from by rw [HV2.out]; exact all_no hx (Lib.hid (HTC.out.2.1 i1)))
                    clear i0
                    go_wp2_with fail
                    go_quiet ((go_at_call 103; first | exact Calls.quiet_of ((HI _ _ _ _).out) | exact quiet_add ((HI _ _ _ _).out)))
                    go_wp2_with fail
                    go_ret
                    exact RetBb.mk (b' := false) HF.out.symm (by first | exact below_drewN Hb0.out _ | exact below_drewN (below_drewN Hb0.out _) _)
                  · cases i2 : inB a2 0 ((t : Int) - 1)
                    · have HF := Lib.hid (show R = false from by rw [HV2.out]; exact all_no hx (Lib.hid (HTC.out.2.2.1 i2)))
                      clear i0
                      go_wp2_with fail
                      go_quiet ((go_at_call 103; first | exact Calls.quiet_of ((HI _ _ _ _).out) | exact quiet_add ((HI _ _ _ _).out)))
                      go_wp2_with fail
                      go_ret
                      exact RetBb.mk (b' := false) HF.out.symm (by first | exact below_drewN Hb0.out _ | exact below_drewN (below_drewN Hb0.out _) _)
                    · have b1 := inB_iff.1 i1
                      have b2 := inB_iff.1 i2
                      obtain ⟨k1, rfl⟩ : ∃ k1 : Nat, a1 = k1 := ⟨a1.toNat, by omega⟩
                      obtain ⟨k2, rfl⟩ : ∃ k2 : Nat, a2 = k2 := ⟨a2.toNat, by omega⟩
                      obtain ⟨ae, d1, hae, _, hd1, he1⟩ := H.out.ds.at_ (k := k1) (by omega)
                      subst hae
                      obtain ⟨ad', d2, had, _, hd2, he2⟩ := H.out.ds.at_ (k := k2) (by omega)
                      obtain rfl : ae = ad' := by simpa using had
                      clear had
                      have s1 := HST.out d1 (mem_of hd1)
                      have s2 := HST.out d2 (mem_of hd2)
                      have hwd : IntKind.i64.wrap (d2 - d1) = d2 - d1 := by rw [IntKind.wrap_i64]; omega
                      have HF := Lib.hid (HTC.out.2.2.2 k1 k2 d1 d2 i0 rfl rfl i1 i2 hd1.out hd2.out)
                      have b1' : (k1 : Int) < (t : Int) := by omega
                      have b2' : (k2 : Int) < (t : Int) := by omega
                      clear b1 b2 s1 s2 hd1 hd2 i0
                      by_cases he : d2 - d1 = a0
                      · have HE := Lib.hid (show trB ds x = true from by rw [HF.out]; simpa using he)
                        have he3 : (d2 - d1 == a0) = true := by simpa using he
                        have he4 : (d2 - d1 != a0) = false := by simpa using he
                        clear he
                        go_wp2_with fail
                        go_quiet ((go_at_call 103; first | exact Calls.quiet_of ((HI _ _ _ _).out) | exact quiet_add ((HI _ _ _ _).out)))
                        go_wp2_with fail
                        go_roundw
                        case rel => exact ⟨j + 1, by omega, by go_num, Lib.hid (all_take_succL hx HK HE), (by first | exact ⟨_, rfl⟩ | exact ⟨_, World.drewN_drewN _ _ _⟩ | (simp only [World.drewN_drewN]; exact ⟨_, rfl⟩))⟩
                        case measure => simp [intOf]; omega
                      · have HE := Lib.hid (show R = false from by rw [HV2.out]; exact all_no hx (Lib.hid (by rw [HF.out]; simpa using he)))
                        have he3 : (d2 - d1 == a0) = false := by simpa using he
                        have he4 : (d2 - d1 != a0) = true := by simpa using he
                        clear he
                        go_wp2_with fail
                        go_quiet ((go_at_call 103; first | exact Calls.quiet_of ((HI _ _ _ _).out) | exact quiet_add ((HI _ _ _ _).out)))
                        go_wp2_with fail
                        go_ret
                        exact RetBb.mk (b' := false) HE.out.symm (by first | exact below_drewN Hb0.out _ | exact below_drewN (below_drewN Hb0.out _) _)
              · have HF := Lib.hid (show R = false from by rw [HV2.out]; exact all_no hx (Lib.hid (trB_len (by rw [HRX.out.len]; exact h3))))
                have hne1 : ((n' : Int) == 3) = false := by simp; omega
                have hne2 : ((n' : Int) != 3) = true := by simp; omega
                have hne3 : (n' == 3) = false := by simp; omega
                clear h3
                go_wp2_with fail
                go_quiet (fail)
                go_wp2_with fail
                go_ret
                exact RetBb.mk (b' := false) HF.out.symm (by first | exact below_drewN Hb0.out _ | exact below_drewN (below_drewN Hb0.out _) _)
            · obtain rfl : j = n2 := by omega
              have HE := Lib.hid (show R = true from by rw [HV2.out]; have := HK.out; rwa [List.take_of_length_le (by rw [HL2.out]; exact Nat.le_refl _)] at this)
              go_wp2_with fail
              go_ret
              exact RetBb.mk (b' := true) HE.out.symm (by first | exact below_drewN Hb0.out _ | exact below_drewN (below_drewN Hb0.out _) _)
  · have HV : Hid (R = false) := Lib.hid (by rw [HR.out]; simp [tabB, HL1.out, hn])
    have hnd : decide ((16 : Int) < (n1 : Int)) = true := by simp; omega
    go_enter Tryz.func74, Tryz.ntmps74
    go_wp2_with fail
    rw [← Hw.out]
    go_ret
    exact RetBb.mk (b' := false) HV.out.symm Hb0.out
end Go.Proofs.YtejojliljplcdaaGreatDoor
