/- What a module is but for Adem's relations, on the program's side: isTable. -/
import Derived.Test.YtdpkhgkoeoiemaaPut
import Derived.Test.YtdpkhgkoeoiemaaIsLam
namespace Go.Proofs.Ytdpkhgkoeoiemaa
open Go.RowKit
set_option linter.unusedVariables false

theorem lessI_any (a b : Int) (w : World) : Calls Try.prog 65 #[.int .i64 a, .int .i64 b] w (RetP (decide (a < b)) w) := by
  go_enter Try.func65, Try.ntmps65
  go_wp2_with fail
  refine (isNaN_any _ _).mono ?_
  rintro e w' ⟨rfl, rfl⟩
  go_wp2_with fail
  go_ret
  exact RetP.mk rfl

def sortB : List Int → Bool
  | [] => true
  | [_] => true
  | a :: b :: t => decide (a ≤ b) && sortB (b :: t)
theorem sortB_iff : ∀ {xs : List Int}, sortB xs = true ↔ ∀ (i : Nat) (a b : Int), xs[i]? = some a → xs[i + 1]? = some b → a ≤ b
  | [] => by simp [sortB]
  | [x] => by simp [sortB]
  | x :: y :: t => by
    simp only [sortB, Bool.and_eq_true, decide_eq_true_eq]
    rw [sortB_iff (xs := y :: t)]
    constructor
    · rintro ⟨h1, h2⟩ i a b ha hb
      cases i with
      | zero => simp at ha hb; omega
      | succ i => exact h2 i a b (by simpa using ha) (by simpa using hb)
    · intro h
      exact ⟨h 0 x y rfl rfl, fun i a b ha hb => h (i + 1) a b (by simpa using ha) (by simpa using hb)⟩
theorem sortB_no {xs : List Int} {i : Nat} {a b : Int} (ha : Hid (xs[i]? = some a)) (hb : Hid (xs[i + 1]? = some b)) (h : b < a) : sortB xs = false := by
  cases hs : sortB xs with
  | false => rfl
  | true => have := sortB_iff.1 hs i a b ha.out hb.out; omega

theorem sorted_any (A : Option Addr) (n c B : Nat) (xs : List Int) (w : World) (h : RdS w B A n c xs) (hn : n ≤ 1000000000) :
    Calls Try.prog 53 #[.slice A n c] w (RetB (sortB xs) w) := by
  have Hl := Lib.hid h.len
  have H := Lib.hid h
  have hwn : IntKind.i64.wrap ((n : Int) - 1) = (n : Int) - 1 := by rw [IntKind.wrap_i64]; omega
  obtain ⟨R, hR⟩ : ∃ R, R = sortB xs := ⟨_, rfl⟩
  have HR := Lib.hid hR
  rw [← hR]
  clear h hR
  go_enter Try.func53, Try.ntmps53
  go_wp2_with fail
  go_loopw [3] (fun i wr => ∃ (j : Nat) (i' : Int), j ≤ n ∧ i = .int .i64 i' ∧ i' = (j : Int) - 1 ∧ Hid (∀ k a b, j ≤ k + 1 → xs[k]? = some a → xs[k + 1]? = some b → a ≤ b) ∧ ∃ q, wr = w.drewN q) (fun i _ => (intOf i).toNat)
  case atStart => exact ⟨n, _, Nat.le_refl _, rfl, rfl, Lib.hid (fun k a b hk ha hb => by have := (List.getElem?_eq_some_iff.1 hb).1; rw [Hl.out] at this; omega), ⟨0, rfl⟩⟩
  case round =>
    obtain ⟨j, i', hj, rfl, hi', HS, q, rfl⟩ := hrel
    by_cases hj2 : 2 ≤ j
    · obtain ⟨t, p, hs, htp⟩ : ∃ t p, j = t + 1 ∧ t = p + 1 := ⟨j - 1, j - 2, by omega, by omega⟩
      subst hs
      obtain rfl : i' = (t : Int) := by omega
      clear hi' hj2
      obtain ⟨ad, y, rfl, _, hy, hcy⟩ := H.out.at_ (k := t) (by omega)
      obtain ⟨ad', x, had, _, hx, hcx⟩ := H.out.at_ (k := p) (by omega)
      obtain rfl : ad = ad' := by simpa using had
      clear had
      have hwq : IntKind.i64.wrap ((t : Int) - 1) = (p : Int) := by rw [IntKind.wrap_i64]; omega
      have h0 : (0 : Int) < (t : Int) := by omega
      have h0n : 0 < t := by omega
      have h1 : (t : Int) < (n : Int) := by omega
      have h2 : (p : Int) < (n : Int) := by omega
      have HTP := Lib.hid htp
      clear htp
      have hc := fun W : Nat => Lib.hid (show Calls Try.prog 65 #[.int .i64 y, .int .i64 x] (w.drewN W) (fun e w'' => e = .returned (.bool (decide (y < x))) ∧ ∃ m, w'' = (w.drewN W).drewN m) from (lessI_any y x (w.drewN W)).mono fun e w' h => ⟨h.1, 0, h.2⟩)
      by_cases hlt : y < x
      · have HR0 := Lib.hid (HR.out.trans (sortB_no hx (by have := hy.out; rw [HTP.out] at this; exact Lib.hid this) hlt))
        rw [decide_eq_true hlt] at hc
        clear hlt
        go_wp2_with fail
        go_quiet ((go_at_call 65; first | exact Calls.quiet_of ((hc _).out) | exact quiet_add ((hc _).out)))
        go_wp2_with fail
        go_ret
        exact RetB.mk (b' := false) HR0.out.symm (by first | exact ⟨_, rfl⟩ | exact ⟨_, World.drewN_drewN _ _ _⟩ | (simp only [World.drewN_drewN]; exact ⟨_, rfl⟩))
      · have HS2 := Lib.hid (show ∀ k a b, t ≤ k + 1 → xs[k]? = some a → xs[k + 1]? = some b → a ≤ b from fun k a b hk ha hb => by
          have := HTP.out
          by_cases hkp : k = p
          · subst hkp
            rw [hx.out] at ha
            rw [← this, hy.out] at hb
            injection ha with ha
            injection hb with hb
            omega
          · exact HS.out k a b (by omega) ha hb)
        rw [decide_eq_false hlt] at hc
        clear hlt
        go_wp2_with fail
        go_quiet ((go_at_call 65; first | exact Calls.quiet_of ((hc _).out) | exact quiet_add ((hc _).out)))
        go_wp2_with fail
        go_roundw
        case rel => exact ⟨t, (p : Int), by omega, by go_num, by have := HTP.out; omega, HS2, (by first | exact ⟨_, rfl⟩ | exact ⟨_, World.drewN_drewN _ _ _⟩ | (simp only [World.drewN_drewN]; exact ⟨_, rfl⟩))⟩
        case measure => have := HTP.out; simp [intOf]; omega
    · have HR1 := Lib.hid (show R = true from by
        rw [HR.out, sortB_iff]
        intro i a b ha hb
        exact HS.out i a b (by omega) ha hb)
      have hle : ¬ (0 : Int) < i' := by omega
      have hle2 : decide ((0 : Int) < i') = false := decide_eq_false hle
      clear hi' hj2
      go_wp2_with fail
      go_ret
      exact RetB.mk (b' := true) HR1.out.symm (by first | exact ⟨_, rfl⟩ | exact ⟨_, World.drewN_drewN _ _ _⟩ | (simp only [World.drewN_drewN]; exact ⟨_, rfl⟩))

/-- one entry of a module's action: a degree and two places, between whose degrees it lies -/
def trB (ds : List Int) : List Int → Bool
  | [a0, a1, a2] => inB a0 1 20 && inB a1 0 (ds.length - 1) && inB a2 0 (ds.length - 1) && decide (ds[a2.toNat]?.getD 0 = ds[a1.toNat]?.getD 0 + a0)
  | _ => false
def stemB (ds : List Int) : Bool := ds.all fun d => inB d 0 20
def tabB (ds : List Int) (act : List (List Int)) : Bool := decide (ds.length ≤ 16) && stemB ds && sortB ds && risB act && act.all (trB ds)
theorem trB_len {ds x : List Int} (h : x.length ≠ 3) : trB ds x = false := by
  unfold trB
  split
  · simp at h
  · rfl
theorem isTable1_any (g b : Nat) (A A' : Option Addr) (n c n' c' : Nat) (ds x : List Int) (w : World) (hg : w.cell? ⟨g, 0, none⟩ = some (.int .i64 ((n : Int) - 1))) (hb : w.cell? ⟨b, 0, none⟩ = some (.slice A n c))
    (h : RdS w w.heap.size A n c ds) (hr : RdS w w.heap.size A' n' c' x) (hn : n ≤ 16) (hst : ∀ d ∈ ds, 0 ≤ d ∧ d ≤ 20) :
    Calls Try.prog 56 #[.slice A' n' c', .pointer (some ⟨g, 0, none⟩), .pointer (some ⟨b, 0, none⟩)] w (RetB (trB ds x) w) := by
  have HL := Lib.hid h.len
  have H := Lib.hid h
  have HX := Lib.hid hr
  have HS := Lib.hid hst
  obtain ⟨R, hR⟩ : ∃ R, R = trB ds x := ⟨_, rfl⟩
  have HR := Lib.hid hR
  rw [← hR]
  have HI := fun (y lo hi : Int) (W : Nat) => Lib.hid (show Calls Try.prog 57 #[.int .i64 y, .int .i64 lo, .int .i64 hi] (w.drewN W) (fun e w'' => e = .returned (.bool (inB y lo hi)) ∧ ∃ m, w'' = (w.drewN W).drewN m) from (in_any y lo hi (w.drewN W)).mono fun e w' h => ⟨h.1, 0, h.2⟩)
  clear h hr hst hR
  by_cases h3 : n' = 3
  · subst h3
    obtain ⟨ad, a0, rfl, _, hx0, hc0⟩ := HX.out.at_ (k := 0) (by omega)
    obtain ⟨ad', a1, had, _, hx1, hc1⟩ := HX.out.at_ (k := 1) (by omega)
    obtain rfl : ad = ad' := by simpa using had
    clear had
    obtain ⟨ad', a2, had, _, hx2, hc2⟩ := HX.out.at_ (k := 2) (by omega)
    obtain rfl : ad = ad' := by simpa using had
    clear had
    have hc00 : w.cell? ad = some (.int .i64 a0) := by simpa [Addr.add] using hc0
    simp [Addr.add] at hc1 hc2
    have hxe : x = [a0, a1, a2] := by
      have hl := HX.out.len
      match x, hl with
      | [p, q, r], _ =>
        have h0 := hx0.out; have h1 := hx1.out; have h2 := hx2.out
        simp at h0 h1 h2
        rw [h0, h1, h2]
    have HV := Lib.hid (show R = (inB a0 1 20 && inB a1 0 ((n : Int) - 1) && inB a2 0 ((n : Int) - 1) && decide (ds[a2.toNat]?.getD 0 = ds[a1.toNat]?.getD 0 + a0)) from by rw [HR.out, hxe]; simp only [trB, HL.out])
    clear hxe hx0 hx1 hx2 hc0
    cases i0 : inB a0 1 20
    · have HF := Lib.hid (show R = false from by rw [HV.out, i0]; rfl)
      go_enter Try.func56, Try.ntmps56
      go_wp2_with fail
      go_quiet ((go_at_call 57; first | exact Calls.quiet_of ((HI _ _ _ _).out) | exact quiet_add ((HI _ _ _ _).out)))
      go_wp2_with fail
      go_ret
      exact RetB.mk (b' := false) HF.out.symm (by first | exact ⟨_, rfl⟩ | exact ⟨_, World.drewN_drewN _ _ _⟩ | (simp only [World.drewN_drewN]; exact ⟨_, rfl⟩))
    · cases i1 : inB a1 0 ((n : Int) - 1)
      · have HF := Lib.hid (show R = false from by rw [HV.out, i0, i1]; rfl)
        go_enter Try.func56, Try.ntmps56
        go_wp2_with fail
        go_quiet ((go_at_call 57; first | exact Calls.quiet_of ((HI _ _ _ _).out) | exact quiet_add ((HI _ _ _ _).out)))
        go_wp2_with fail
        go_ret
        exact RetB.mk (b' := false) HF.out.symm (by first | exact ⟨_, rfl⟩ | exact ⟨_, World.drewN_drewN _ _ _⟩ | (simp only [World.drewN_drewN]; exact ⟨_, rfl⟩))
      · cases i2 : inB a2 0 ((n : Int) - 1)
        · have HF := Lib.hid (show R = false from by rw [HV.out, i0, i1, i2]; rfl)
          go_enter Try.func56, Try.ntmps56
          go_wp2_with fail
          go_quiet ((go_at_call 57; first | exact Calls.quiet_of ((HI _ _ _ _).out) | exact quiet_add ((HI _ _ _ _).out)))
          go_wp2_with fail
          go_ret
          exact RetB.mk (b' := false) HF.out.symm (by first | exact ⟨_, rfl⟩ | exact ⟨_, World.drewN_drewN _ _ _⟩ | (simp only [World.drewN_drewN]; exact ⟨_, rfl⟩))
        · have b0 := inB_iff.1 i0
          have b1 := inB_iff.1 i1
          have b2 := inB_iff.1 i2
          obtain ⟨k1, rfl⟩ : ∃ k1 : Nat, a1 = k1 := ⟨a1.toNat, by omega⟩
          obtain ⟨k2, rfl⟩ : ∃ k2 : Nat, a2 = k2 := ⟨a2.toNat, by omega⟩
          obtain ⟨ae, d1, hae, _, hd1, he1⟩ := H.out.at_ (k := k1) (by omega)
          subst hae
          obtain ⟨ad', d2, had, _, hd2, he2⟩ := H.out.at_ (k := k2) (by omega)
          obtain rfl : ae = ad' := by simpa using had
          clear had
          have s1 := HS.out d1 (mem_of hd1)
          have hwd : IntKind.i64.wrap (d1 + a0) = d1 + a0 := by rw [IntKind.wrap_i64]; omega
          have HF := Lib.hid (show R = decide (d2 = d1 + a0) from by rw [HV.out, i0, i1, i2]; simp [hd1.out, hd2.out])
          have b1' : (k1 : Int) < (n : Int) := by omega
          have b2' : (k2 : Int) < (n : Int) := by omega
          clear b0 b1 b2 s1 hd1 hd2
          by_cases he : d2 = d1 + a0
          · have HE := Lib.hid (show R = true from by rw [HF.out]; simpa using he)
            have he3 : (d2 == d1 + a0) = true := by simpa using he
            clear he
            go_enter Try.func56, Try.ntmps56
            go_wp2_with fail
            go_quiet ((go_at_call 57; first | exact Calls.quiet_of ((HI _ _ _ _).out) | exact quiet_add ((HI _ _ _ _).out)))
            go_wp2_with fail
            go_quiet (fail)
            go_wp2_with fail
            go_ret
            exact RetB.mk (b' := true) HE.out.symm (by first | exact ⟨_, rfl⟩ | exact ⟨_, World.drewN_drewN _ _ _⟩ | (simp only [World.drewN_drewN]; exact ⟨_, rfl⟩))
          · have HE := Lib.hid (show R = false from by rw [HF.out]; simpa using he)
            have he3 : (d2 == d1 + a0) = false := by simpa using he
            clear he
            go_enter Try.func56, Try.ntmps56
            go_wp2_with fail
            go_quiet ((go_at_call 57; first | exact Calls.quiet_of ((HI _ _ _ _).out) | exact quiet_add ((HI _ _ _ _).out)))
            go_wp2_with fail
            go_quiet (fail)
            go_wp2_with fail
            go_ret
            exact RetB.mk (b' := false) HE.out.symm (by first | exact ⟨_, rfl⟩ | exact ⟨_, World.drewN_drewN _ _ _⟩ | (simp only [World.drewN_drewN]; exact ⟨_, rfl⟩))
  · have HF := Lib.hid (show R = false from by rw [HR.out]; exact trB_len (by rw [HX.out.len]; exact h3))
    have hne1 : ((n' : Int) == 3) = false := by simp; omega
    have hne2 : ((n' : Int) != 3) = true := by simp; omega
    have hne3 : (n' == 3) = false := by simp; omega
    clear h3
    go_enter Try.func56, Try.ntmps56
    go_wp2_with fail
    go_quiet (fail)
    go_wp2_with fail
    go_ret
    exact RetB.mk (b' := false) HF.out.symm (by first | exact ⟨_, rfl⟩ | exact ⟨_, World.drewN_drewN _ _ _⟩ | (simp only [World.drewN_drewN]; exact ⟨_, rfl⟩))
end Go.Proofs.Ytdpkhgkoeoiemaa
