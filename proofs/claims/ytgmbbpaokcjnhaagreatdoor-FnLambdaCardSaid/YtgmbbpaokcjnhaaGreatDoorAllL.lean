/- all[[]int64]: a condition on all lists of a list. -/
import Derived.Test.YtgmbbpaokcjnhaaGreatDoorLL
import Derived.Test.YtgmbbpaokcjnhaaGreatDoorBase
import Derived.Test.YtgmbbpaokcjnhaaGreatDoorExc
import Derived.Test.YtgmbbpaokcjnhaaGreatDoorLex
import Derived.Deep.RegionWith
namespace Go.Proofs.YtgmbbpaokcjnhaaGreatDoor
open Go.RowKit
set_option linter.unusedVariables false

/-- What is known of a condition on lists that is handed in as a function value: at each list it answers p, and writes nothing that was there. -/
structure CondL (fid : Nat) (cs : Array Value) (xss : List (List Int)) (p : Nat → Bool) (w : World) : Prop where
  enters : ∀ args w, (callFunc fid args).run Tryz.prog w = .ok (.enter fid args) w
  calls : ∀ (j : Nat) (A : Option Addr) (n c : Nat) (xs : List Int), xss[j]? = some xs → ∀ w', Below w.heap.size w w' → RdS w' w'.heap.size A n c xs → Calls Tryz.prog fid (#[.slice A n c] ++ cs) w' (RetBb (p j) w')
theorem CondL.below {fid : Nat} {cs : Array Value} {xss : List (List Int)} {p : Nat → Bool} {w w1 : World} (h : CondL fid cs xss p w) (hb : Below w.heap.size w w1) : CondL fid cs xss p w1 :=
  ⟨h.enters, fun j A n c xs hv w' hw' hr => h.calls j A n c xs hv w' (hb.trans (hw'.mono hb.size)) hr⟩

theorem indexL_any (A : Option Addr) (n c : Nat) (xss : List (List Int)) (fid : Nat) (cs : Array Value) (p : Nat → Bool) (w : World) (h : RdL w w.heap.size A n c xss) (hn : n ≤ 2000000)
    (hf : CondL fid cs xss p w) :
    Calls Tryz.prog 84 #[.slice A n c, .func (.func fid) #[] cs] w (RetIb (firstB p n) w) := by
  have hent := hf.enters
  have HF := Lib.hid hf; clear hf
  go_enter Tryz.func84, Tryz.ntmps84
  go_wp2_with fail
  go_loopw [8] (fun i wr => ∃ k : Nat, k ≤ n ∧ i = .int .i64 k ∧ Hid (∀ j, j < k → p j = false) ∧ Below w.heap.size w wr) (fun i _ => n - (intOf i).toNat)
  case atStart => exact ⟨0, Nat.zero_le _, rfl, Lib.hid (fun j hj => absurd hj (by omega)), Below.refl _ _⟩
  case round =>
    obtain ⟨k, hk, rfl, H0, HB⟩ := hrel
    by_cases hlt : k < n
    · obtain ⟨ad, A', n', c', xs, rfl, _, hx, hc, hr⟩ := (h.below HB).at_ hlt
      have hcall := HF.out.calls k A' n' c' xs hx.out wr HB (hr.mono HB.size)
      have Hcall := Lib.hid hcall; clear hcall hr
      by_cases hp : p k = true
      · have Hp := Lib.hid hp; clear hp
        go_wp2_with fail
        refine Hcall.out.mono ?_
        rintro e w1 ⟨rfl, hb1⟩
        rw [Hp.out]
        go_wp2_with fail
        go_ret
        exact RetIb.mk (y := k) (firstB_hit hlt H0.out Hp.out).symm (HB.trans (hb1.mono HB.size))
      · have Hp := Lib.hid hp; clear hp
        go_wp2_with fail
        refine Hcall.out.mono ?_
        rintro e w1 ⟨rfl, hb1⟩
        rw [Bool.eq_false_iff.2 Hp.out]
        go_wp2_with fail
        go_roundw
        case rel =>
          refine ⟨k+1, by omega, by go_num, Lib.hid (fun j hj => ?_), HB.trans (hb1.mono HB.size)⟩
          rcases Nat.lt_succ_iff_lt_or_eq.1 hj with h | rfl
          · exact H0.out j h
          · exact Bool.eq_false_iff.2 Hp.out
        case measure => simp [intOf]; omega
    · go_wp2_with fail
      go_ret
      obtain rfl : k = n := by omega
      exact RetIb.mk (y := -1) (firstB_miss H0.out).symm HB

theorem containsL_any (A : Option Addr) (n c : Nat) (xss : List (List Int)) (fid : Nat) (cs : Array Value) (p : Nat → Bool) (w : World) (h : RdL w w.heap.size A n c xss) (hn : n ≤ 2000000)
    (hf : CondL fid cs xss p w) :
    Calls Tryz.prog 64 #[.slice A n c, .func (.func fid) #[] cs] w (RetBb ((List.range n).any p) w) := by
  have H := Lib.hid h; clear h
  have HF := Lib.hid hf; clear hf
  go_enter Tryz.func64, Tryz.ntmps64
  go_wp2_with fail
  refine (indexL_any A n c xss fid cs p w H.out hn HF.out).mono ?_
  rintro e w1 ⟨rfl, hb1⟩
  go_wp2_with fail
  go_ret
  exact RetBb.mk firstB_ge hb1

theorem notL_cond (g : Nat) (xss : List (List Int)) (fid : Nat) (cs : Array Value) (p : Nat → Bool) (w : World) (hc : w.cell? ⟨g, 0, none⟩ = some (.func (.func fid) #[] cs)) (hg : g < w.heap.size)
    (hf : CondL fid cs xss p w) : CondL 65 #[.pointer (some ⟨g, 0, none⟩)] xss (fun j => !p j) w := by
  refine ⟨enters_of Tryz.func65 (by kernel_rfl) rfl, fun j A n c xs hv w' hb hr => ?_⟩
  have hc' : w'.cell? ⟨g, 0, none⟩ = some (.func (.func fid) #[] cs) := (hb.cell (p := ⟨g, 0, none⟩) hg).trans hc
  have hent := hf.enters
  have Hcall := Lib.hid (hf.calls j A n c xs hv w' hb hr)
  clear hf hc hv hr
  simp only [List.append_toArray, List.cons_append, List.nil_append]
  go_enter Tryz.func65, Tryz.ntmps65
  go_wp2_with fail
  refine Hcall.out.mono ?_
  rintro e w1 ⟨rfl, hb1⟩
  go_wp2_with fail
  go_ret
  exact RetBb.mk rfl hb1

/-- all[[]int64]: the condition holds at every list. -/
theorem allL_any (A : Option Addr) (n c : Nat) (xss : List (List Int)) (fid : Nat) (cs : Array Value) (p : Nat → Bool) (w : World) (h : RdL w w.heap.size A n c xss) (hn : n ≤ 2000000)
    (hf : CondL fid cs xss p w) :
    Calls Tryz.prog 36 #[.slice A n c, .func (.func fid) #[] cs] w (RetBb ((List.range n).all p) w) := by
  have hb0 : Below w.heap.size w (w.alloc (.cells #[.func (.func fid) #[] cs] 55)) := (Below.refl _ _).alloc (Nat.le_refl _) _
  have H := Lib.hid ((h.below hb0).mono hb0.size); clear h
  have HF := Lib.hid (notL_cond w.heap.size xss fid cs p _ (by simp) (by simp) (hf.below hb0)); clear hf
  have Hb0 := Lib.hid hb0; clear hb0
  go_enter Tryz.func36, Tryz.ntmps36
  go_wp2_with fail
  refine (containsL_any A n c xss _ _ _ _ H.out hn HF.out).mono ?_
  rintro e w1 ⟨rfl, hb1⟩
  go_wp2_with fail
  go_ret
  exact RetBb.mk (by rw [List.not_any_eq_all_not]; simp) (Hb0.out.trans (hb1.mono Hb0.out.size))

/-- a condition on lists, whatever the world, without memory of its own -/
theorem condL_of {fid : Nat} (q : List Int → Bool) (henter : ∀ args w, (callFunc fid args).run Tryz.prog w = .ok (.enter fid args) w) (xss : List (List Int))
    (h : ∀ (A : Option Addr) (n c : Nat) (xs : List Int) (w : World), xs ∈ xss → RdS w w.heap.size A n c xs → Calls Tryz.prog fid #[.slice A n c] w (RetBb (q xs) w)) (w : World) : CondL fid #[] xss (fun j => q (xss[j]?.getD [])) w := by
  refine ⟨henter, fun j A n c xs hv w' _ hr => ?_⟩
  have : xss[j]?.getD [] = xs := by simp [hv]
  rw [this]
  exact h A n c xs w' (List.mem_of_getElem? hv) hr
theorem allR_rows {xss : List (List Int)} {n : Nat} (q : List Int → Bool) (hl : xss.length = n) : (List.range n).all (fun j => q (xss[j]?.getD [])) = xss.all q := by
  subst hl
  rw [Bool.eq_iff_iff, List.all_eq_true, List.all_eq_true]
  constructor
  · intro h x hx
    obtain ⟨j, hj, rfl⟩ := List.getElem_of_mem hx
    have := h j (by simpa using hj)
    simpa [List.getElem?_eq_getElem hj] using this
  · intro h j hj
    have hj' : j < xss.length := by simpa using hj
    rw [List.getElem?_eq_getElem hj']
    exact h _ (List.getElem_mem _)
end Go.Proofs.YtgmbbpaokcjnhaaGreatDoor

/- Lambda words on both sides: isLambdaWord, l16Word. -/
namespace Go.Proofs.YtgmbbpaokcjnhaaGreatDoor
open Go.RowKit
set_option linter.unusedVariables false

theorem factor_any (n : Int) (w : World) : Calls Tryz.prog 28 #[.int .i64 n] w (RetP (inB n 0 11) w) := by
  go_enter Tryz.func28, Tryz.ntmps28
  go_wp2_with fail
  refine (in_any _ _ _ _).mono ?_
  rintro e w' ⟨rfl, rfl⟩
  go_wp2_with fail
  go_ret
  exact RetP.mk rfl
theorem stem_any (A : Option Addr) (n c B : Nat) (xs : List Int) (w : World) (h : RdS w B A n c xs) (hn : n ≤ 1000000000000) :
    Calls Tryz.prog 32 #[.slice A n c] w (RetI (psT 0 xs) w) := by
  have Hl := Lib.hid h.len
  obtain ⟨R, hR⟩ : ∃ R, R = psT 0 xs := ⟨_, rfl⟩
  have HR := Lib.hid hR
  rw [← hR]
  clear hR
  go_enter Tryz.func32, Tryz.ntmps32
  go_wp2_with fail
  go_loop [3, 4] (fun t i => ∃ (k : Nat) (s : Int), k ≤ n ∧ i = .int .i64 k ∧ t = .int .i64 s ∧ Hid (s = psT 0 (xs.take k))) (fun _ i => n - (intOf i).toNat)
  case atStart => exact ⟨0, 0, Nat.zero_le _, rfl, rfl, Lib.hid rfl⟩
  case round =>
    obtain ⟨k, s, hk, rfl, rfl, HS⟩ := hrel
    by_cases hlt : k < n
    · obtain ⟨ad, x, rfl, _, hx, hc⟩ := h.at_ hlt
      go_wp2_with fail
      go_round
      case rel => exact ⟨k+1, wrap64 (s + x), by omega, by go_num, rfl, Lib.hid (by rw [take_succ_of hx, psT_snoc, ← HS.out])⟩
      case measure => simp [intOf]; omega
    · go_wp2_with fail
      go_ret
      obtain rfl : k = n := by omega
      refine RetI.mk (y := s) ?_
      rw [HS.out, HR.out, List.take_of_length_le (by rw [Hl.out]; omega)]

def facB (xs : List Int) : Bool := xs.all (fun x => inB x 0 11)
def wordB (xs : List Int) : Bool := decide (xs.length ≤ 7) && facB xs && inB (psT 0 xs) 0 11

theorem facAll_any (A : Option Addr) (n c : Nat) (xs : List Int) (w : World) (h : RdS w w.heap.size A n c xs) (hn : n ≤ 2000000) :
    Calls Tryz.prog 66 #[.slice A n c, .func (.func 28) #[] #[]] w (RetBb (facB xs) w) := by
  have hl := h.len
  refine (allI_any A n c xs _ _ _ w h hn (cond_of (fun x => inB x 0 11) (enters_of Tryz.func28 (by kernel_rfl) rfl) factor_any xs w)).mono ?_
  intro e w' hw
  rw [all_range xs (fun x => inB x 0 11) _ n hl (fun j hj => by simp [List.getElem?_eq_getElem hj])] at hw
  exact hw

theorem isLambdaWord_any (A : Option Addr) (n c : Nat) (xs : List Int) (w : World) (h : RdS w w.heap.size A n c xs) (hn : n ≤ 2000000) :
    Calls Tryz.prog 37 #[.slice A n c] w (RetBb (wordB xs) w) := by
  have Hl := Lib.hid h.len
  have H := Lib.hid h; clear h
  by_cases h7 : n ≤ 7
  · cases hf : facB xs
    · have HV : Hid (wordB xs = false) := Lib.hid (by simp [wordB, hf])
      have HF := Lib.hid hf; clear hf
      go_enter Tryz.func37, Tryz.ntmps37
      go_wp2_with fail
      refine (facAll_any A n c xs _ H.out (by omega)).mono ?_
      rintro e w1 ⟨rfl, hb1⟩
      rw [HF.out]
      go_wp2_with fail
      go_ret
      exact RetBb.mk (b' := false) HV.out.symm hb1
    · have HV : Hid (wordB xs = inB (psT 0 xs) 0 11) := Lib.hid (by simp [wordB, hf, Hl.out, h7])
      have HF := Lib.hid hf; clear hf
      obtain ⟨t, ht⟩ : ∃ t, t = psT 0 xs := ⟨_, rfl⟩
      have HT := Lib.hid ht
      rw [← ht] at HV
      clear ht
      go_enter Tryz.func37, Tryz.ntmps37
      go_wp2_with fail
      refine (facAll_any A n c xs _ H.out (by omega)).mono ?_
      rintro e w1 ⟨rfl, hb1⟩
      rw [HF.out]
      have HB1 := Lib.hid hb1; clear hb1
      go_wp2_with fail
      refine (sum_any A n c _ xs _ (H.out.below HB1.out) (by omega)).mono ?_
      rintro e w2 ⟨rfl, rfl⟩
      rw [← HT.out]
      go_wp2_with fail
      refine (factor_any _ _).mono ?_
      rintro e w2 ⟨rfl, rfl⟩
      go_wp2_with fail
      go_ret
      exact RetBb.mk HV.out.symm HB1.out
  · have HV : Hid (wordB xs = false) := Lib.hid (by simp [wordB, Hl.out, h7])
    go_enter Tryz.func37, Tryz.ntmps37
    go_wp2_with fail
    go_ret
    exact RetBb.mk (b' := false) HV.out.symm (Below.refl _ _)

theorem psT_range_aux (xs : List Int) : ∀ t : Int, 0 ≤ t → t + 11 * (xs.length : Int) ≤ 1000000 → facB xs = true → 0 ≤ psT t xs ∧ psT t xs ≤ t + 11 * (xs.length : Int) := by
  induction xs with
  | nil => intro t h0 h1 _; simp [psT]; omega
  | cons x xs ih =>
    intro t h0 h1 hf
    have hx : inB x 0 11 = true ∧ facB xs = true := by simpa [facB] using hf
    have hx0 := inB_iff.1 hx.1
    have hl : ((x :: xs).length : Int) = (xs.length : Int) + 1 := by simp
    rw [hl] at h1 ⊢
    have hw : wrap64 (t + x) = t + x := by unfold wrap64; omega
    have e : psT t (x :: xs) = psT (t + x) xs := by rw [← hw]; rfl
    rw [e]
    have := ih (t + x) (by omega) (by omega) hx.2
    omega
theorem psT_range {xs : List Int} (h : facB xs = true) (hl : xs.length ≤ 7) : 0 ≤ psT 0 xs := (psT_range_aux xs 0 (by omega) (by omega) h).1
theorem facB_no {xs : List Int} {k : Nat} {x : Int} (hx : Hid (xs[k]? = some x)) (h : inB x 0 11 = false) : facB xs = false := by
  rw [facB, List.all_eq_false]
  exact ⟨x, mem_of hx, by simp [h]⟩

theorem l16Word_any (A : Option Addr) (n c B : Nat) (xs : List Int) (w : World) (h : RdS w B A n c xs) (hn : n ≤ 2000000) :
    Calls Tryz.prog 59 #[.slice A n c] w (RetP (wordB xs) w) := by
  have Hl := Lib.hid h.len
  have H := Lib.hid h; clear h
  by_cases h7 : n ≤ 7
  · go_enter Tryz.func59, Tryz.ntmps59
    go_wp2_with fail
    go_loop [3] (fun i => ∃ k : Nat, k ≤ n ∧ i = .int .i64 k ∧ Hid (facB (xs.take k) = true)) (fun i => n - (intOf i).toNat)
    case atStart => exact ⟨0, Nat.zero_le _, rfl, Lib.hid rfl⟩
    case round =>
      obtain ⟨k, hk, rfl, HF⟩ := hrel
      by_cases hlt : k < n
      · obtain ⟨ad, x, rfl, _, hx, hc⟩ := H.out.at_ hlt
        cases hi : inB x 0 11
        · have HI := Lib.hid hi; clear hi
          go_wp2_with fail
          refine (l01In_any _ _ _ _).mono ?_
          rintro e w' ⟨rfl, rfl⟩
          rw [HI.out]
          go_wp2_with fail
          go_ret
          exact RetP.mk (b' := false) (by simp [wordB, facB_no hx HI.out])
        · have HI := Lib.hid hi; clear hi
          go_wp2_with fail
          refine (l01In_any _ _ _ _).mono ?_
          rintro e w' ⟨rfl, rfl⟩
          rw [HI.out]
          go_wp2_with fail
          go_round
          case rel => exact ⟨k + 1, by omega, by go_num, Lib.hid (by
            have h1 := HF.out
            rw [take_succ_of hx]
            unfold facB at h1 ⊢
            rw [List.all_append, h1]
            simp [HI.out])⟩
          case measure => simp [intOf]; omega
      · obtain rfl : k = n := by omega
        have hfa : facB xs = true := by have h1 := HF.out; rwa [List.take_of_length_le (by rw [Hl.out]; omega)] at h1
        obtain ⟨t, ht⟩ : ∃ t, t = psT 0 xs := ⟨_, rfl⟩
        have HV : Hid (wordB xs = decide (t ≤ 11)) := Lib.hid (by
          have h0 := psT_range hfa (by rw [Hl.out]; exact h7)
          rw [← ht] at h0
          simp only [wordB, hfa, Hl.out, h7, ← ht, inB, decide_true, Bool.true_and]
          congr 1
          exact propext ⟨fun h => h.2, fun h => ⟨h0, h⟩⟩)
        have HT := Lib.hid ht
        clear ht hfa
        go_wp2_with fail
        refine (stem_any A k c _ xs _ H.out (by omega)).mono ?_
        rintro e w2 ⟨rfl, rfl⟩
        rw [← HT.out]
        go_wp2_with fail
        go_ret
        exact RetP.mk (b' := decide (t ≤ 11)) HV.out.symm
  · have HV : Hid (wordB xs = false) := Lib.hid (by simp [wordB, Hl.out, h7])
    go_enter Tryz.func59, Tryz.ntmps59
    go_wp2_with fail
    go_ret
    exact RetP.mk (b' := false) HV.out.symm
end Go.Proofs.YtgmbbpaokcjnhaaGreatDoor

/- IsLambda on both sides. -/
namespace Go.Proofs.YtgmbbpaokcjnhaaGreatDoor
open Go.RowKit
set_option linter.unusedVariables false

/-- all lists have the length and the stem of the first -/
def sameB (q : List Int → Int) (xss : List (List Int)) : Bool := xss.all (fun y => decide (q y = q (xss.headD [])))
def lenI (xs : List Int) : Int := xs.length
def isLB (xss : List (List Int)) : Bool := decide (xss.length ≤ 2000) && risB xss && xss.all wordB && sameB (psT 0) xss && sameB lenI xss

/-- a function of lists that is handed in: what is known of it -/
structure FunL (fid : Nat) (q : List Int → Int) : Prop where
  enters : ∀ args w, (callFunc fid args).run Tryz.prog w = .ok (.enter fid args) w
  calls : ∀ (A : Option Addr) (n c B : Nat) (xs : List Int) (w : World), RdS w B A n c xs → n ≤ 2000000 → Calls Tryz.prog fid #[.slice A n c] w (RetI (q xs) w)

theorem sumFun : FunL 40 (psT 0) := ⟨enters_of Tryz.func40 (by kernel_rfl) rfl, fun A n c B xs w h hn => sum_any A n c B xs w h (by omega)⟩
theorem lenFun : FunL 41 lenI := ⟨enters_of Tryz.func41 (by kernel_rfl) rfl, fun A n c B xs w h hn => by
  have Hl := Lib.hid h.len
  clear h
  go_enter Tryz.func41, Tryz.ntmps41
  go_wp2
  go_ret
  exact RetI.mk (by simp [lenI, Hl.out])⟩

theorem sameDeg1S_any (g1 g2 : Nat) (A : Option Addr) (n c : Nat) (xss : List (List Int)) (A' : Option Addr) (n' c' : Nat) (xs : List Int) (w : World)
    (hc1 : w.cell? ⟨g1, 0, none⟩ = some (.func (.func 40) #[] #[])) (hc2 : w.cell? ⟨g2, 0, none⟩ = some (.slice A n c)) (h : RdL w w.heap.size A n c xss) (hn : 1 ≤ n) (hx : ∀ x ∈ xss, x.length ≤ 2000000)
    (hr : RdS w w.heap.size A' n' c' xs) (hn' : n' ≤ 2000000) :
    Calls Tryz.prog 68 #[.slice A' n' c', .pointer (some ⟨g1, 0, none⟩), .pointer (some ⟨g2, 0, none⟩)] w (RetB (decide (psT 0 xs = psT 0 (xss.headD []))) w) := by
  obtain ⟨ad, A3, n3, c3, x0, rfl, _, hx0, hc0, hr0⟩ := h.at_ hn
  have hn3 : n3 ≤ 2000000 := by rw [← hr0.len]; exact hx x0 (List.mem_of_getElem? hx0.out)
  have hh : xss.headD [] = x0 := by
    have := hx0.out
    cases xss with
    | nil => simp at this
    | cons y ys => simpa using this
  rw [hh]
  have hf : FunL 40 (psT 0) := sumFun
  have hent := hf.enters
  have Hc0 := fun W : Nat => Lib.hid (hf.calls A3 n3 c3 _ x0 (w.drewN W) (hr0.drewN W) hn3)
  have Hc1 := fun W : Nat => Lib.hid (hf.calls A' n' c' _ xs (w.drewN W) (hr.drewN W) hn')
  have hc00 : w.cell? ad = some (.slice A3 n3 c3) := by simpa [Addr.add] using hc0
  obtain ⟨v, hv⟩ : ∃ v, v = psT 0 xs := ⟨_, rfl⟩
  obtain ⟨u, hu⟩ : ∃ u, u = psT 0 x0 := ⟨_, rfl⟩
  rw [← hv, ← hu]
  rw [← hv] at Hc1
  rw [← hu] at Hc0
  have Hd0 := fun W : Nat => Lib.hid (show Calls Tryz.prog 40 #[.slice A3 n3 c3] (w.drewN W) (fun e w'' => e = .returned (.int .i64 u) ∧ ∃ m, w'' = w.drewN m) from (Hc0 W).out.mono fun e w' h => ⟨h.1, W, h.2⟩)
  have Hd1 := fun W : Nat => Lib.hid (show Calls Tryz.prog 40 #[.slice A' n' c'] (w.drewN W) (fun e w'' => e = .returned (.int .i64 v) ∧ ∃ m, w'' = w.drewN m) from (Hc1 W).out.mono fun e w' h => ⟨h.1, W, h.2⟩)
  clear hf h hr hr0 hv hu hx0 hc0 Hc0 Hc1
  go_enter Tryz.func68, Tryz.ntmps68
  go_wp2_with fail
  go_quiet (first | (go_at_call_of 40 n'; exact (Hd1 _).out) | (go_at_call_of 40 n3; exact (Hd0 _).out))
  go_wp2_with fail
  go_ret
  exact RetB.mk (b' := decide (v = u)) rfl (by first | exact ⟨_, rfl⟩ | exact ⟨_, World.drewN_drewN _ _ _⟩ | (simp only [World.drewN_drewN]; exact ⟨_, rfl⟩))

theorem sameDegS_cond (g1 g2 : Nat) (A : Option Addr) (n c : Nat) (xss : List (List Int)) (w : World)
    (hc1 : w.cell? ⟨g1, 0, none⟩ = some (.func (.func 40) #[] #[])) (hc2 : w.cell? ⟨g2, 0, none⟩ = some (.slice A n c)) (hg1 : g1 < w.heap.size) (hg2 : g2 < w.heap.size) (h : RdL w w.heap.size A n c xss) (hx : ∀ x ∈ xss, x.length ≤ 2000000) :
    CondL 68 #[.pointer (some ⟨g1, 0, none⟩), .pointer (some ⟨g2, 0, none⟩)] xss (fun j => decide (psT 0 (xss[j]?.getD []) = psT 0 (xss.headD []))) w := by
  refine ⟨enters_of Tryz.func68 (by kernel_rfl) rfl, fun j A' n' c' xs hv w' hb hr => ?_⟩
  have hgx : xss[j]?.getD [] = xs := by simp [hv]
  rw [hgx]
  have hn : 1 ≤ n := by rw [← h.len]; exact Nat.lt_of_le_of_lt (Nat.zero_le j) (List.getElem?_eq_some_iff.1 hv).1
  have hn' : n' ≤ 2000000 := by rw [← hr.len]; exact hx xs (List.mem_of_getElem? hv)
  exact (sameDeg1S_any g1 g2 A n c xss A' n' c' xs w' ((hb.cell (p := ⟨g1, 0, none⟩) hg1).trans hc1) ((hb.cell (p := ⟨g2, 0, none⟩) hg2).trans hc2) ((h.below hb).mono hb.size) hn hx hr hn').mono
    fun e w'' hh => ⟨hh.1, by obtain ⟨k, hk⟩ := hh.2; rw [hk]; exact below_drewN (Below.refl _ _) k⟩
theorem sameDegreeS_any (A : Option Addr) (n c : Nat) (xss : List (List Int)) (w : World) (h : RdL w w.heap.size A n c xss) (hn : n ≤ 2000000) (hx : ∀ x ∈ xss, x.length ≤ 2000000) :
    Calls Tryz.prog 39 #[.slice A n c, .func (.func 40) #[] #[]] w (RetBb (sameB (psT 0) xss) w) := by
  have hl := h.len
  have HE : Hid ((List.range n).all (fun j => decide (psT 0 (xss[j]?.getD []) = psT 0 (xss.headD []))) = sameB (psT 0) xss) := Lib.hid (allR_rows (fun y => decide (psT 0 y = psT 0 (xss.headD []))) hl)
  have hb1 : Below w.heap.size w (w.alloc (.cells #[.slice A n c] 24)) := (Below.refl _ _).alloc (Nat.le_refl _) _
  have hb2 : Below w.heap.size w ((w.alloc (.cells #[.slice A n c] 24)).alloc (.cells #[.func (.func 40) #[] #[]] 52)) := hb1.alloc hb1.size _
  have H := Lib.hid ((h.below hb2).mono hb2.size)
  have HC := Lib.hid (sameDegS_cond (w.heap.size + 1) w.heap.size A n c xss _ (by simp) (by simp) (by simp) (by simp; omega) H.out hx)
  have HB := Lib.hid hb2
  clear hb1 hb2 h hl
  go_enter Tryz.func39, Tryz.ntmps39
  go_wp2_with fail
  refine (allL_any A n c xss _ _ _ _ H.out hn HC.out).mono ?_
  rintro e w1 ⟨rfl, hb1⟩
  go_wp2_with fail
  go_ret
  exact RetBb.mk (by rw [← HE.out]; simp only [List.headD_eq_head?_getD]) (HB.out.trans (hb1.mono HB.out.size))
theorem sameDeg1L_any (g1 g2 : Nat) (A : Option Addr) (n c : Nat) (xss : List (List Int)) (A' : Option Addr) (n' c' : Nat) (xs : List Int) (w : World)
    (hc1 : w.cell? ⟨g1, 0, none⟩ = some (.func (.func 41) #[] #[])) (hc2 : w.cell? ⟨g2, 0, none⟩ = some (.slice A n c)) (h : RdL w w.heap.size A n c xss) (hn : 1 ≤ n) (hx : ∀ x ∈ xss, x.length ≤ 2000000)
    (hr : RdS w w.heap.size A' n' c' xs) (hn' : n' ≤ 2000000) :
    Calls Tryz.prog 68 #[.slice A' n' c', .pointer (some ⟨g1, 0, none⟩), .pointer (some ⟨g2, 0, none⟩)] w (RetB (decide (lenI xs = lenI (xss.headD []))) w) := by
  obtain ⟨ad, A3, n3, c3, x0, rfl, _, hx0, hc0, hr0⟩ := h.at_ hn
  have hn3 : n3 ≤ 2000000 := by rw [← hr0.len]; exact hx x0 (List.mem_of_getElem? hx0.out)
  have hh : xss.headD [] = x0 := by
    have := hx0.out
    cases xss with
    | nil => simp at this
    | cons y ys => simpa using this
  rw [hh]
  have hf : FunL 41 (lenI) := lenFun
  have hent := hf.enters
  have Hc0 := fun W : Nat => Lib.hid (hf.calls A3 n3 c3 _ x0 (w.drewN W) (hr0.drewN W) hn3)
  have Hc1 := fun W : Nat => Lib.hid (hf.calls A' n' c' _ xs (w.drewN W) (hr.drewN W) hn')
  have hc00 : w.cell? ad = some (.slice A3 n3 c3) := by simpa [Addr.add] using hc0
  obtain ⟨v, hv⟩ : ∃ v, v = lenI xs := ⟨_, rfl⟩
  obtain ⟨u, hu⟩ : ∃ u, u = lenI x0 := ⟨_, rfl⟩
  rw [← hv, ← hu]
  rw [← hv] at Hc1
  rw [← hu] at Hc0
  have Hd0 := fun W : Nat => Lib.hid (show Calls Tryz.prog 41 #[.slice A3 n3 c3] (w.drewN W) (fun e w'' => e = .returned (.int .i64 u) ∧ ∃ m, w'' = w.drewN m) from (Hc0 W).out.mono fun e w' h => ⟨h.1, W, h.2⟩)
  have Hd1 := fun W : Nat => Lib.hid (show Calls Tryz.prog 41 #[.slice A' n' c'] (w.drewN W) (fun e w'' => e = .returned (.int .i64 v) ∧ ∃ m, w'' = w.drewN m) from (Hc1 W).out.mono fun e w' h => ⟨h.1, W, h.2⟩)
  clear hf h hr hr0 hv hu hx0 hc0 Hc0 Hc1
  go_enter Tryz.func68, Tryz.ntmps68
  go_wp2_with fail
  go_quiet (first | (go_at_call_of 41 n'; exact (Hd1 _).out) | (go_at_call_of 41 n3; exact (Hd0 _).out))
  go_wp2_with fail
  go_ret
  exact RetB.mk (b' := decide (v = u)) rfl (by first | exact ⟨_, rfl⟩ | exact ⟨_, World.drewN_drewN _ _ _⟩ | (simp only [World.drewN_drewN]; exact ⟨_, rfl⟩))

theorem sameDegL_cond (g1 g2 : Nat) (A : Option Addr) (n c : Nat) (xss : List (List Int)) (w : World)
    (hc1 : w.cell? ⟨g1, 0, none⟩ = some (.func (.func 41) #[] #[])) (hc2 : w.cell? ⟨g2, 0, none⟩ = some (.slice A n c)) (hg1 : g1 < w.heap.size) (hg2 : g2 < w.heap.size) (h : RdL w w.heap.size A n c xss) (hx : ∀ x ∈ xss, x.length ≤ 2000000) :
    CondL 68 #[.pointer (some ⟨g1, 0, none⟩), .pointer (some ⟨g2, 0, none⟩)] xss (fun j => decide (lenI (xss[j]?.getD []) = lenI (xss.headD []))) w := by
  refine ⟨enters_of Tryz.func68 (by kernel_rfl) rfl, fun j A' n' c' xs hv w' hb hr => ?_⟩
  have hgx : xss[j]?.getD [] = xs := by simp [hv]
  rw [hgx]
  have hn : 1 ≤ n := by rw [← h.len]; exact Nat.lt_of_le_of_lt (Nat.zero_le j) (List.getElem?_eq_some_iff.1 hv).1
  have hn' : n' ≤ 2000000 := by rw [← hr.len]; exact hx xs (List.mem_of_getElem? hv)
  exact (sameDeg1L_any g1 g2 A n c xss A' n' c' xs w' ((hb.cell (p := ⟨g1, 0, none⟩) hg1).trans hc1) ((hb.cell (p := ⟨g2, 0, none⟩) hg2).trans hc2) ((h.below hb).mono hb.size) hn hx hr hn').mono
    fun e w'' hh => ⟨hh.1, by obtain ⟨k, hk⟩ := hh.2; rw [hk]; exact below_drewN (Below.refl _ _) k⟩
theorem sameDegreeL_any (A : Option Addr) (n c : Nat) (xss : List (List Int)) (w : World) (h : RdL w w.heap.size A n c xss) (hn : n ≤ 2000000) (hx : ∀ x ∈ xss, x.length ≤ 2000000) :
    Calls Tryz.prog 39 #[.slice A n c, .func (.func 41) #[] #[]] w (RetBb (sameB (lenI) xss) w) := by
  have hl := h.len
  have HE : Hid ((List.range n).all (fun j => decide (lenI (xss[j]?.getD []) = lenI (xss.headD []))) = sameB (lenI) xss) := Lib.hid (allR_rows (fun y => decide (lenI y = lenI (xss.headD []))) hl)
  have hb1 : Below w.heap.size w (w.alloc (.cells #[.slice A n c] 24)) := (Below.refl _ _).alloc (Nat.le_refl _) _
  have hb2 : Below w.heap.size w ((w.alloc (.cells #[.slice A n c] 24)).alloc (.cells #[.func (.func 41) #[] #[]] 52)) := hb1.alloc hb1.size _
  have H := Lib.hid ((h.below hb2).mono hb2.size)
  have HC := Lib.hid (sameDegL_cond (w.heap.size + 1) w.heap.size A n c xss _ (by simp) (by simp) (by simp) (by simp; omega) H.out hx)
  have HB := Lib.hid hb2
  clear hb1 hb2 h hl
  go_enter Tryz.func39, Tryz.ntmps39
  go_wp2_with fail
  refine (allL_any A n c xss _ _ _ _ H.out hn HC.out).mono ?_
  rintro e w1 ⟨rfl, hb1⟩
  go_wp2_with fail
  go_ret
  exact RetBb.mk (by rw [← HE.out]; simp only [List.headD_eq_head?_getD]) (HB.out.trans (hb1.mono HB.out.size))
end Go.Proofs.YtgmbbpaokcjnhaaGreatDoor

/- IsLambda on both sides. -/
namespace Go.Proofs.YtgmbbpaokcjnhaaGreatDoor
open Go.RowKit
set_option linter.unusedVariables false

theorem len_le_of_total {xss : List (List Int)} {x : List Int} (h : x ∈ xss) : x.length ≤ totalL xss := by
  obtain ⟨k, hk, rfl⟩ := List.getElem_of_mem h
  exact len_le_total (Lib.hid (List.getElem?_eq_getElem hk))
theorem wordAll_any (A : Option Addr) (n c : Nat) (xss : List (List Int)) (w : World) (h : RdL w w.heap.size A n c xss) (hn : n ≤ 2000000) (hx : ∀ x ∈ xss, x.length ≤ 2000000) :
    Calls Tryz.prog 36 #[.slice A n c, .func (.func 37) #[] #[]] w (RetBb (xss.all wordB) w) := by
  have hl := h.len
  have := allL_any A n c xss _ _ _ w h hn (condL_of wordB (enters_of Tryz.func37 (by kernel_rfl) rfl) xss (fun A n c xs w hm hr => isLambdaWord_any A n c xs w hr (by rw [← hr.len]; exact hx xs hm)) w)
  rw [allR_rows wordB hl] at this
  exact this

theorem box_cell {w w1 : World} {T : TypeId} {cs : Array Value} {i : Nat} {v : Value} (hb : Below (w.alloc (.cells cs T)).heap.size (w.alloc (.cells cs T)) w1) (hv : (w.alloc (.cells cs T)).cell? ⟨w.heap.size, i, none⟩ = some v) :
    w1.cell? ⟨w.heap.size, i, none⟩ = some v := (hb.cell (p := ⟨w.heap.size, i, none⟩) (by simp)).trans hv

theorem iIsLambda (A : Option Addr) (n c : Nat) (xss : List (List Int)) (w : World) (h : RdL w w.heap.size A n c xss) (hn : n ≤ 2000000) (ht : totalL xss ≤ 2000000) :
    Calls Tryz.prog 9 #[.agg #[.slice A n c]] w (RetBb (isLB xss) w) := by
  have hx : ∀ x ∈ xss, x.length ≤ 2000000 := fun x hx => Nat.le_trans (len_le_of_total hx) ht
  have hl := h.len
  have hb0 : Below w.heap.size w (w.alloc (.cells #[.slice A n c] 26)) := (Below.refl _ _).alloc (Nat.le_refl _) _
  have H := Lib.hid ((h.below hb0).mono hb0.size); clear h
  have HX := Lib.hid hx; clear hx
  have HL := Lib.hid hl; clear hl
  have Hb0 := Lib.hid hb0; clear hb0
  have HC : Hid ((w.alloc (.cells #[.slice A n c] 26)).cell? ⟨w.heap.size, 0, none⟩ = some (.slice A n c)) := Lib.hid (by simp)
  by_cases h1 : n ≤ 2000
  · have Hw := Lib.hid (wordAll_any A n c xss _ H.out hn HX.out)
    cases hw : xss.all wordB
    · have HV : Hid (isLB xss = false) := Lib.hid (by simp only [isLB, hw]; simp)
      rw [hw] at Hw; clear hw
      go_enter Tryz.func9, Tryz.ntmps9
      go_wp2_with fail
      refine (Hw.out).mono ?_
      rintro e w1 ⟨rfl, hb1⟩
      go_wp2_with fail
      go_ret
      exact RetBb.mk (b' := false) HV.out.symm (Hb0.out.trans (hb1.mono Hb0.out.size))
    · cases hr : risB xss
      · have HV : Hid (isLB xss = false) := Lib.hid (by simp [isLB, hr])
        rw [hw] at Hw; clear hw
        have HR := Lib.hid hr; clear hr
        go_enter Tryz.func9, Tryz.ntmps9
        go_wp2_with fail
        refine (Hw.out).mono ?_
        rintro e w1 ⟨rfl, hb1⟩
        have hc1 := box_cell hb1 HC.out
        have Hb1 := Lib.hid hb1; clear hb1
        go_wp2_with fail
        refine (rising_any A n c _ xss _ (H.out.below Hb1.out) (by omega) (by omega)).mono ?_
        rintro e w2 ⟨rfl, q2, rfl⟩
        rw [HR.out]
        go_wp2_with fail
        go_ret
        exact RetBb.mk (b' := false) HV.out.symm (below_drewN (Hb0.out.trans (Hb1.out.mono Hb0.out.size)) _)
      · have HV : Hid (isLB xss = (sameB (psT 0) xss && sameB lenI xss)) := Lib.hid (by simp only [isLB, hw, hr, HL.out, h1]; simp)
        rw [hw] at Hw; clear hw
        have HR := Lib.hid hr; clear hr
        cases hs : sameB (psT 0) xss
        · rw [hs] at HV
          have HS := Lib.hid hs; clear hs
          go_enter Tryz.func9, Tryz.ntmps9
          go_wp2_with fail
          refine (Hw.out).mono ?_
          rintro e w1 ⟨rfl, hb1⟩
          have hc1 := box_cell hb1 HC.out
          have Hb1 := Lib.hid hb1; clear hb1
          go_wp2_with fail
          refine (rising_any A n c _ xss _ (H.out.below Hb1.out) (by omega) (by omega)).mono ?_
          rintro e w2 ⟨rfl, q2, rfl⟩
          rw [HR.out]
          go_wp2_with fail
          refine (sameDegreeS_any A n c xss _ ((H.out.below (below_drewN Hb1.out q2)).mono Hb1.out.size) hn HX.out).mono ?_
          rintro e w3 ⟨rfl, hb3⟩
          rw [HS.out]
          go_wp2_with fail
          go_ret
          exact RetBb.mk (b' := false) HV.out.symm ((below_drewN (Hb0.out.trans (Hb1.out.mono Hb0.out.size)) _).trans (hb3.mono (Nat.le_trans Hb0.out.size Hb1.out.size)))
        · rw [hs] at HV
          have HS := Lib.hid hs; clear hs
          go_enter Tryz.func9, Tryz.ntmps9
          go_wp2_with fail
          refine (Hw.out).mono ?_
          rintro e w1 ⟨rfl, hb1⟩
          have hc1 := box_cell hb1 HC.out
          have Hb1 := Lib.hid hb1; clear hb1
          go_wp2_with fail
          refine (rising_any A n c _ xss _ (H.out.below Hb1.out) (by omega) (by omega)).mono ?_
          rintro e w2 ⟨rfl, q2, rfl⟩
          rw [HR.out]
          go_wp2_with fail
          refine (sameDegreeS_any A n c xss _ ((H.out.below (below_drewN Hb1.out q2)).mono Hb1.out.size) hn HX.out).mono ?_
          rintro e w3 ⟨rfl, hb3⟩
          rw [HS.out]
          have Hb3 := Lib.hid ((below_drewN Hb1.out q2).trans (hb3.mono Hb1.out.size)); clear hb3 hc1
          have hc3 := box_cell Hb3.out HC.out
          go_wp2_with fail
          refine (sameDegreeL_any A n c xss _ ((H.out.below Hb3.out).mono Hb3.out.size) hn HX.out).mono ?_
          rintro e w4 ⟨rfl, hb4⟩
          have Hb4 := Lib.hid hb4; clear hb4
          go_wp2_with fail
          go_ret
          exact RetBb.mk HV.out.symm (Hb0.out.trans ((Hb3.out.trans (Hb4.out.mono Hb3.out.size)).mono Hb0.out.size))
  · have HV : Hid (isLB xss = false) := Lib.hid (by simp [isLB, HL.out, h1])
    go_enter Tryz.func9, Tryz.ntmps9
    go_wp2_with fail
    go_ret
    exact RetBb.mk (b' := false) HV.out.symm Hb0.out

def okx (x0 x : List Int) : Bool := wordB x && decide (lenI x = lenI x0) && decide (psT 0 x = psT 0 x0)
theorem isLB_eq (xss : List (List Int)) : isLB xss = (decide (xss.length ≤ 2000) && risB xss && xss.all (okx (xss.headD []))) := by
  have h : xss.all (okx (xss.headD [])) = (xss.all wordB && sameB (psT 0) xss && sameB lenI xss) := by
    rw [Bool.eq_iff_iff]
    simp only [Bool.and_eq_true, List.all_eq_true, sameB, okx]
    exact ⟨fun h => ⟨⟨fun x hx => (h x hx).1.1, fun x hx => (h x hx).2⟩, fun x hx => (h x hx).1.2⟩, fun h x hx => ⟨⟨h.1.1 x hx, h.2 x hx⟩, h.1.2 x hx⟩⟩
  rw [h]
  simp only [isLB, Bool.and_assoc]
theorem all_take_succL {xss : List (List Int)} {k : Nat} {x : List Int} {p : List Int → Bool} (hx : Hid (xss[k]? = some x)) (h : Hid ((xss.take k).all p = true)) (hp : Hid (p x = true)) : (xss.take (k + 1)).all p = true := by
  rw [List.take_add_one, hx.out, List.all_append, h.out]; simp [hp.out]
theorem all_no {xss : List (List Int)} {k : Nat} {x : List Int} {p : List Int → Bool} (hx : Hid (xss[k]? = some x)) (hp : Hid (p x = false)) : xss.all p = false := by
  rw [List.all_eq_false]; exact ⟨x, List.mem_of_getElem? hx.out, by simp [hp.out]⟩

theorem l16Is_any (A : Option Addr) (n c B : Nat) (xss : List (List Int)) (w : World) (h : RdL w B A n c xss) (hn : n ≤ 2000000) (ht : totalL xss ≤ 2000000) :
    Calls Tryz.prog 31 #[.slice A n c] w (RetB (isLB xss) w) := by
  have HX := Lib.hid (fun (x : List Int) (hx : x ∈ xss) => Nat.le_trans (len_le_of_total hx) ht)
  have HT := Lib.hid ht; clear ht
  have HL := Lib.hid h.len
  have H := Lib.hid h; clear h
  rw [isLB_eq]
  by_cases h1 : n ≤ 2000
  · have HA := fun W : Nat => Lib.hid (ascending_any A n c B xss (w.drewN W) (H.out.drewN W) (by omega) (by have := HT.out; omega))
    cases hr : risB xss
    · rw [hr] at HA; clear hr
      go_enter Tryz.func31, Tryz.ntmps31
      go_wp2_with fail
      refine (HA 0).out.mono ?_
      rintro e w1 ⟨rfl, q, rfl⟩
      go_wp2_with fail
      go_ret
      exact RetB.mk (b' := false) (by simp) (by first | exact ⟨_, rfl⟩ | exact ⟨_, World.drewN_drewN _ _ _⟩ | (simp only [World.drewN_drewN]; exact ⟨_, rfl⟩))
    · rw [hr] at HA; clear hr
      obtain ⟨R, hR⟩ : ∃ R, R = xss.all (okx (xss.headD [])) := ⟨_, rfl⟩
      have HR := Lib.hid hR
      rw [← hR, show decide (xss.length ≤ 2000) = true from by simp [HL.out, h1], Bool.true_and, Bool.true_and]
      clear hR
      go_enter Tryz.func31, Tryz.ntmps31
      go_wp2_with fail
      refine (HA 0).out.mono ?_
      rintro e w1 ⟨rfl, q0, rfl⟩
      go_wp2_with fail
      go_loopw [3] (fun i wr => ∃ k : Nat, k ≤ n ∧ i = .int .i64 k ∧ Hid ((xss.take k).all (okx (xss.headD [])) = true) ∧ ∃ q, wr = w.drewN q) (fun i _ => n - (intOf i).toNat)
      case atStart => exact ⟨0, Nat.zero_le _, rfl, Lib.hid (by simp), (by first | exact ⟨_, rfl⟩ | exact ⟨_, World.drewN_drewN _ _ _⟩ | (simp only [World.drewN_drewN]; exact ⟨_, rfl⟩))⟩
      case round =>
        obtain ⟨k, hk, rfl, HK, q, rfl⟩ := hrel
        clear HA
        by_cases hlt : k < n
        · obtain ⟨ad, A1, n1, c1, x, rfl, _, hx, hc1, hr1⟩ := H.out.at_ hlt
          obtain ⟨ad', A0, n0, c0, x0, had, _, hx0, hc0, hr0⟩ := H.out.at_ (show 0 < n by omega)
          obtain rfl : ad = ad' := by simpa using had
          clear had
          have hc00 : w.cell? ad = some (.slice A0 n0 c0) := by simpa [Addr.add] using hc0
          clear hc0
          have hh : xss.headD [] = x0 := by
            have := hx0.out
            cases xss with
            | nil => simp at this
            | cons y ys => simpa using this
          have hn1 : n1 ≤ 2000000 := by rw [← hr1.len]; exact HX.out x (List.mem_of_getElem? hx.out)
          have hn0 : n0 ≤ 2000000 := by rw [← hr0.len]; exact HX.out x0 (List.mem_of_getElem? hx0.out)
          have Hl1 := Lib.hid hr1.len
          have Hl0 := Lib.hid hr0.len
          have hpos : (0 : Int) < (n : Int) := by omega
          have Hw1 := fun W : Nat => Lib.hid (show Calls Tryz.prog 59 #[.slice A1 n1 c1] (w.drewN W) (fun e w'' => e = .returned (.bool (wordB x)) ∧ ∃ m, w'' = (w.drewN W).drewN m) from (l16Word_any A1 n1 c1 _ x (w.drewN W) (hr1.drewN W) hn1).mono fun e w' h => ⟨h.1, 0, h.2⟩)
          have Hs1 := fun W : Nat => Lib.hid (show Calls Tryz.prog 32 #[.slice A1 n1 c1] (w.drewN W) (fun e w'' => e = .returned (.int .i64 (psT 0 x)) ∧ ∃ m, w'' = (w.drewN W).drewN m) from (stem_any A1 n1 c1 _ x (w.drewN W) (hr1.drewN W) (by omega)).mono fun e w' h => ⟨h.1, 0, h.2⟩)
          have Hs0 := fun W : Nat => Lib.hid (show Calls Tryz.prog 32 #[.slice A0 n0 c0] (w.drewN W) (fun e w'' => e = .returned (.int .i64 (psT 0 x0)) ∧ ∃ m, w'' = (w.drewN W).drewN m) from (stem_any A0 n0 c0 _ x0 (w.drewN W) (hr0.drewN W) (by omega)).mono fun e w' h => ⟨h.1, 0, h.2⟩)
          rw [hh] at HR HK
          have Hh := Lib.hid hh
          clear hr1 hr0 hh
          have hne0 : ((n0 : Int) == (n0 : Int)) = true := by simp
          cases hw : wordB x
          · simp only [hw] at Hw1
            have HN : Hid (okx x0 x = false) := Lib.hid (by simp [okx, hw])
            clear hw
            go_wp2_with fail
            go_quiet ((go_at_call 59; first | exact Calls.quiet_of ((Hw1 _).out) | exact quiet_add ((Hw1 _).out)))
            go_wp2_with fail
            go_ret
            exact RetB.mk (b' := false) (by rw [HR.out, all_no hx HN]) (by first | exact ⟨_, rfl⟩ | exact ⟨_, World.drewN_drewN _ _ _⟩ | (simp only [World.drewN_drewN]; exact ⟨_, rfl⟩))
          · simp only [hw] at Hw1
            by_cases hn10 : n1 = n0
            · obtain ⟨v, hv⟩ : ∃ v, v = psT 0 x := ⟨_, rfl⟩
              obtain ⟨u, hu⟩ : ∃ u, u = psT 0 x0 := ⟨_, rfl⟩
              rw [← hv] at Hs1
              rw [← hu] at Hs0
              by_cases hvu : v = u
              · have HN : Hid (okx x0 x = true) := Lib.hid (by simp [okx, hw, lenI, Hl1.out, Hl0.out, hn10, ← hv, ← hu, hvu])
                clear hw hv hu
                subst hvu hn10
                have hne1 : (v == v) = true := by simp
                have hne2 : (v != v) = false := by simp
                have hne3 : ((n1 : Int) != (n1 : Int)) = false := by simp
                go_wp2_with fail
                go_quiet (first | (go_at_call 59; first | exact Calls.quiet_of ((Hw1 _).out) | exact quiet_add ((Hw1 _).out)) | (go_at_call_of 32 A1; first | exact Calls.quiet_of ((Hs1 _).out) | exact quiet_add ((Hs1 _).out)) | (go_at_call_of 32 A0; first | exact Calls.quiet_of ((Hs0 _).out) | exact quiet_add ((Hs0 _).out)))
                go_wp2_with fail
                go_roundw
                case rel => exact ⟨k + 1, by omega, by go_num, Lib.hid (by rw [Hh.out]; exact all_take_succL hx HK HN), (by first | exact ⟨_, rfl⟩ | exact ⟨_, World.drewN_drewN _ _ _⟩ | (simp only [World.drewN_drewN]; exact ⟨_, rfl⟩))⟩
                case measure => simp [intOf]; omega
              · have HN : Hid (okx x0 x = false) := Lib.hid (by simp [okx, ← hv, ← hu, hvu])
                clear hw hv hu
                subst hn10
                have hne3 : ((n1 : Int) != (n1 : Int)) = false := by simp
                have hne1 : (v == u) = false := by simpa using hvu
                have hne2 : (v != u) = true := by simpa using hvu
                clear hvu
                go_wp2_with fail
                go_quiet (first | (go_at_call 59; first | exact Calls.quiet_of ((Hw1 _).out) | exact quiet_add ((Hw1 _).out)) | (go_at_call_of 32 A1; first | exact Calls.quiet_of ((Hs1 _).out) | exact quiet_add ((Hs1 _).out)) | (go_at_call_of 32 A0; first | exact Calls.quiet_of ((Hs0 _).out) | exact quiet_add ((Hs0 _).out)))
                go_wp2_with fail
                go_ret
                exact RetB.mk (b' := false) (by rw [HR.out, all_no hx HN]) (by first | exact ⟨_, rfl⟩ | exact ⟨_, World.drewN_drewN _ _ _⟩ | (simp only [World.drewN_drewN]; exact ⟨_, rfl⟩))
            · have HN : Hid (okx x0 x = false) := Lib.hid (by simp [okx, lenI, Hl1.out, Hl0.out, show ¬ (n1 : Int) = n0 by omega])
              clear hw
              have hne1 : ((n1 : Int) == (n0 : Int)) = false := by simp; omega
              have hne2 : ((n1 : Int) != (n0 : Int)) = true := by simp; omega
              have hne3 : (n1 == n0) = false := by simp; omega
              clear hn10 Hs1 Hs0 hne0
              go_wp2_with fail
              go_quiet ((go_at_call 59; first | exact Calls.quiet_of ((Hw1 _).out) | exact quiet_add ((Hw1 _).out)))
              go_wp2_with fail
              go_ret
              exact RetB.mk (b' := false) (by rw [HR.out, all_no hx HN]) (by first | exact ⟨_, rfl⟩ | exact ⟨_, World.drewN_drewN _ _ _⟩ | (simp only [World.drewN_drewN]; exact ⟨_, rfl⟩))
        · go_wp2_with fail
          go_ret
          obtain rfl : k = n := by omega
          exact RetB.mk (b' := true) (by have h3 := HK.out; rw [List.take_of_length_le (by rw [HL.out]; omega)] at h3; rw [HR.out, h3]) (by first | exact ⟨_, rfl⟩ | exact ⟨_, World.drewN_drewN _ _ _⟩ | (simp only [World.drewN_drewN]; exact ⟨_, rfl⟩))
  · have HV : Hid ((decide (xss.length ≤ 2000) && risB xss && xss.all (okx (xss.headD []))) = false) := Lib.hid (by simp [HL.out, h1])
    go_enter Tryz.func31, Tryz.ntmps31
    go_wp2_with fail
    go_ret
    exact RetB.mk (b' := false) (HV.out.symm.trans (by simp only [List.headD_eq_head?_getD])) ⟨0, rfl⟩
end Go.Proofs.YtgmbbpaokcjnhaaGreatDoor
