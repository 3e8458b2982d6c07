/- all[[]int64]: a condition on all lists of a list. -/
import Derived.Test.YtoodhbafleemjaaGreatLL
import Derived.Test.YtoodhbafleemjaaGreatBase
import Derived.Test.YtoodhbafleemjaaGreatExc
import Derived.Test.YtoodhbafleemjaaGreatLex
import Derived.Deep.RegionWith
namespace Go.Proofs.YtoodhbafleemjaaGreat
open Go.RowKit
set_option linter.unusedVariables false

/-- What is known of a condition on lists that is handed in as a function value: at each list it answers p, and writes nothing that was there. -/
structure CondL (fid : Nat) (cs : Array Value) (xss : List (List Int)) (p : Nat → Bool) (w : World) : Prop where
  enters : ∀ args w, (callFunc fid args).run Tryz.prog w = .ok (.enter fid args) w
  calls : ∀ (j : Nat) (A : Option Addr) (n c : Nat) (xs : List Int), xss[j]? = some xs → ∀ w', Below w.heap.size w w' → RdS w' w'.heap.size A n c xs → Calls Tryz.prog fid (#[.slice A n c] ++ cs) w' (RetBb (p j) w')
theorem CondL.below {fid : Nat} {cs : Array Value} {xss : List (List Int)} {p : Nat → Bool} {w w1 : World} (h : CondL fid cs xss p w) (hb : Below w.heap.size w w1) : CondL fid cs xss p w1 :=
  ⟨h.enters, fun j A n c xs hv w' hw' hr => h.calls j A n c xs hv w' (hb.trans (hw'.mono hb.size)) hr⟩

theorem indexL_any (A : Option Addr) (n c : Nat) (xss : List (List Int)) (fid : Nat) (cs : Array Value) (p : Nat → Bool) (w : World) (h : RdL w w.heap.size A n c xss) (hn : n ≤ 2000000)
    (hf : CondL fid cs xss p w) :
    Calls Tryz.prog 125 #[.slice A n c, .func (.func fid) #[] cs] w (RetIb (firstB p n) w) := by
  have hent := hf.enters
  have HF := Lib.hid hf; clear hf
  go_enter Tryz.func125, Tryz.ntmps125
  go_wp2_with fail
  go_loopw [8] (fun i wr => ∃ k : Nat, k ≤ n ∧ i = .int .i64 k ∧ Hid (∀ j, j < k → p j = false) ∧ Below w.heap.size w wr) (fun i _ => n - (intOf i).toNat)
  case atStart => exact ⟨0, Nat.zero_le _, rfl, Lib.hid (fun j hj => absurd hj (by omega)), Below.refl _ _⟩
  case round =>
    obtain ⟨k, hk, rfl, H0, HB⟩ := hrel
    by_cases hlt : k < n
    · obtain ⟨ad, A', n', c', xs, rfl, _, hx, hc, hr⟩ := (h.below HB).at_ hlt
      have hcall := HF.out.calls k A' n' c' xs hx.out wr HB (hr.mono HB.size)
      have Hcall := Lib.hid hcall; clear hcall hr
      by_cases hp : p k = true
      · have Hp := Lib.hid hp; clear hp
        go_wp2_with fail
        refine Hcall.out.mono ?_
        rintro e w1 ⟨rfl, hb1⟩
        rw [Hp.out]
        go_wp2_with fail
        go_ret
        exact RetIb.mk (y := k) (firstB_hit hlt H0.out Hp.out).symm (HB.trans (hb1.mono HB.size))
      · have Hp := Lib.hid hp; clear hp
        go_wp2_with fail
        refine Hcall.out.mono ?_
        rintro e w1 ⟨rfl, hb1⟩
        rw [Bool.eq_false_iff.2 Hp.out]
        go_wp2_with fail
        go_roundw
        case rel =>
          refine ⟨k+1, by omega, by go_num, Lib.hid (fun j hj => ?_), HB.trans (hb1.mono HB.size)⟩
          rcases Nat.lt_succ_iff_lt_or_eq.1 hj with h | rfl
          · exact H0.out j h
          · exact Bool.eq_false_iff.2 Hp.out
        case measure => simp [intOf]; omega
    · go_wp2_with fail
      go_ret
      obtain rfl : k = n := by omega
      exact RetIb.mk (y := -1) (firstB_miss H0.out).symm HB

theorem containsL_any (A : Option Addr) (n c : Nat) (xss : List (List Int)) (fid : Nat) (cs : Array Value) (p : Nat → Bool) (w : World) (h : RdL w w.heap.size A n c xss) (hn : n ≤ 2000000)
    (hf : CondL fid cs xss p w) :
    Calls Tryz.prog 108 #[.slice A n c, .func (.func fid) #[] cs] w (RetBb ((List.range n).any p) w) := by
  have H := Lib.hid h; clear h
  have HF := Lib.hid hf; clear hf
  go_enter Tryz.func108, Tryz.ntmps108
  go_wp2_with fail
  refine (indexL_any A n c xss fid cs p w H.out hn HF.out).mono ?_
  rintro e w1 ⟨rfl, hb1⟩
  go_wp2_with fail
  go_ret
  exact RetBb.mk firstB_ge hb1

theorem notL_cond (g : Nat) (xss : List (List Int)) (fid : Nat) (cs : Array Value) (p : Nat → Bool) (w : World) (hc : w.cell? ⟨g, 0, none⟩ = some (.func (.func fid) #[] cs)) (hg : g < w.heap.size)
    (hf : CondL fid cs xss p w) : CondL 109 #[.pointer (some ⟨g, 0, none⟩)] xss (fun j => !p j) w := by
  refine ⟨enters_of Tryz.func109 (by kernel_rfl) rfl, fun j A n c xs hv w' hb hr => ?_⟩
  have hc' : w'.cell? ⟨g, 0, none⟩ = some (.func (.func fid) #[] cs) := (hb.cell (p := ⟨g, 0, none⟩) hg).trans hc
  have hent := hf.enters
  have Hcall := Lib.hid (hf.calls j A n c xs hv w' hb hr)
  clear hf hc hv hr
  simp only [List.append_toArray, List.cons_append, List.nil_append]
  go_enter Tryz.func109, Tryz.ntmps109
  go_wp2_with fail
  refine Hcall.out.mono ?_
  rintro e w1 ⟨rfl, hb1⟩
  go_wp2_with fail
  go_ret
  exact RetBb.mk rfl hb1

/-- all[[]int64]: the condition holds at every list. -/
theorem allL_any (A : Option Addr) (n c : Nat) (xss : List (List Int)) (fid : Nat) (cs : Array Value) (p : Nat → Bool) (w : World) (h : RdL w w.heap.size A n c xss) (hn : n ≤ 2000000)
    (hf : CondL fid cs xss p w) :
    Calls Tryz.prog 56 #[.slice A n c, .func (.func fid) #[] cs] w (RetBb ((List.range n).all p) w) := by
  have hb0 : Below w.heap.size w (w.alloc (.cells #[.func (.func fid) #[] cs] 73)) := (Below.refl _ _).alloc (Nat.le_refl _) _
  have H := Lib.hid ((h.below hb0).mono hb0.size); clear h
  have HF := Lib.hid (notL_cond w.heap.size xss fid cs p _ (by simp) (by simp) (hf.below hb0)); clear hf
  have Hb0 := Lib.hid hb0; clear hb0
  go_enter Tryz.func56, Tryz.ntmps56
  go_wp2_with fail
  refine (containsL_any A n c xss _ _ _ _ H.out hn HF.out).mono ?_
  rintro e w1 ⟨rfl, hb1⟩
  go_wp2_with fail
  go_ret
  exact RetBb.mk (by rw [List.not_any_eq_all_not]; simp) (Hb0.out.trans (hb1.mono Hb0.out.size))

/-- a condition on lists, whatever the world, without memory of its own -/
theorem condL_of {fid : Nat} (q : List Int → Bool) (henter : ∀ args w, (callFunc fid args).run Tryz.prog w = .ok (.enter fid args) w) (xss : List (List Int))
    (h : ∀ (A : Option Addr) (n c : Nat) (xs : List Int) (w : World), xs ∈ xss → RdS w w.heap.size A n c xs → Calls Tryz.prog fid #[.slice A n c] w (RetBb (q xs) w)) (w : World) : CondL fid #[] xss (fun j => q (xss[j]?.getD [])) w := by
  refine ⟨henter, fun j A n c xs hv w' _ hr => ?_⟩
  have : xss[j]?.getD [] = xs := by simp [hv]
  rw [this]
  exact h A n c xs w' (List.mem_of_getElem? hv) hr
theorem allR_rows {xss : List (List Int)} {n : Nat} (q : List Int → Bool) (hl : xss.length = n) : (List.range n).all (fun j => q (xss[j]?.getD [])) = xss.all q := by
  subst hl
  rw [Bool.eq_iff_iff, List.all_eq_true, List.all_eq_true]
  constructor
  · intro h x hx
    obtain ⟨j, hj, rfl⟩ := List.getElem_of_mem hx
    have := h j (by simpa using hj)
    simpa [List.getElem?_eq_getElem hj] using this
  · intro h j hj
    have hj' : j < xss.length := by simpa using hj
    rw [List.getElem?_eq_getElem hj']
    exact h _ (List.getElem_mem _)
end Go.Proofs.YtoodhbafleemjaaGreat

/- Lambda words on both sides: isLambdaWord, l16Word. -/
namespace Go.Proofs.YtoodhbafleemjaaGreat
open Go.RowKit
set_option linter.unusedVariables false

def facB (xs : List Int) : Bool := xs.all (fun x => inB x 0 11)
def wordB (xs : List Int) : Bool := decide (xs.length ≤ 7) && facB xs && inB (psT 0 xs) 0 11

theorem psT_range_aux (xs : List Int) : ∀ t : Int, 0 ≤ t → t + 11 * (xs.length : Int) ≤ 1000000 → facB xs = true → 0 ≤ psT t xs ∧ psT t xs ≤ t + 11 * (xs.length : Int) := by
  induction xs with
  | nil => intro t h0 h1 _; simp [psT]; omega
  | cons x xs ih =>
    intro t h0 h1 hf
    have hx : inB x 0 11 = true ∧ facB xs = true := by simpa [facB] using hf
    have hx0 := inB_iff.1 hx.1
    have hl : ((x :: xs).length : Int) = (xs.length : Int) + 1 := by simp
    rw [hl] at h1 ⊢
    have hw : wrap64 (t + x) = t + x := by unfold wrap64; omega
    have e : psT t (x :: xs) = psT (t + x) xs := by rw [← hw]; rfl
    rw [e]
    have := ih (t + x) (by omega) (by omega) hx.2
    omega
theorem psT_range {xs : List Int} (h : facB xs = true) (hl : xs.length ≤ 7) : 0 ≤ psT 0 xs := (psT_range_aux xs 0 (by omega) (by omega) h).1
theorem facB_no {xs : List Int} {k : Nat} {x : Int} (hx : Hid (xs[k]? = some x)) (h : inB x 0 11 = false) : facB xs = false := by
  rw [facB, List.all_eq_false]
  exact ⟨x, mem_of hx, by simp [h]⟩

end Go.Proofs.YtoodhbafleemjaaGreat

/- IsLambda on both sides. -/
namespace Go.Proofs.YtoodhbafleemjaaGreat
open Go.RowKit
set_option linter.unusedVariables false

/-- all lists have the length and the stem of the first -/
def sameB (q : List Int → Int) (xss : List (List Int)) : Bool := xss.all (fun y => decide (q y = q (xss.headD [])))
def lenI (xs : List Int) : Int := xs.length
def isLB (xss : List (List Int)) : Bool := decide (xss.length ≤ 2000) && risB xss && xss.all wordB && sameB (psT 0) xss && sameB lenI xss

/-- a function of lists that is handed in: what is known of it -/
structure FunL (fid : Nat) (q : List Int → Int) : Prop where
  enters : ∀ args w, (callFunc fid args).run Tryz.prog w = .ok (.enter fid args) w
  calls : ∀ (A : Option Addr) (n c B : Nat) (xs : List Int) (w : World), RdS w B A n c xs → n ≤ 2000000 → Calls Tryz.prog fid #[.slice A n c] w (RetI (q xs) w)

theorem sumFun : FunL 62 (psT 0) := ⟨enters_of Tryz.func62 (by kernel_rfl) rfl, fun A n c B xs w h hn => sum_any A n c B xs w h (by omega)⟩
theorem sameDeg1S_any (g1 g2 : Nat) (A : Option Addr) (n c : Nat) (xss : List (List Int)) (A' : Option Addr) (n' c' : Nat) (xs : List Int) (w : World)
    (hc1 : w.cell? ⟨g1, 0, none⟩ = some (.func (.func 62) #[] #[])) (hc2 : w.cell? ⟨g2, 0, none⟩ = some (.slice A n c)) (h : RdL w w.heap.size A n c xss) (hn : 1 ≤ n) (hx : ∀ x ∈ xss, x.length ≤ 2000000)
    (hr : RdS w w.heap.size A' n' c' xs) (hn' : n' ≤ 2000000) :
    Calls Tryz.prog 111 #[.slice A' n' c', .pointer (some ⟨g1, 0, none⟩), .pointer (some ⟨g2, 0, none⟩)] w (RetB (decide (psT 0 xs = psT 0 (xss.headD []))) w) := by
  obtain ⟨ad, A3, n3, c3, x0, rfl, _, hx0, hc0, hr0⟩ := h.at_ hn
  have hn3 : n3 ≤ 2000000 := by rw [← hr0.len]; exact hx x0 (List.mem_of_getElem? hx0.out)
  have hh : xss.headD [] = x0 := by
    have := hx0.out
    cases xss with
    | nil => simp at this
    | cons y ys => simpa using this
  rw [hh]
  have hf : FunL 62 (psT 0) := sumFun
  have hent := hf.enters
  have Hc0 := fun W : Nat => Lib.hid (hf.calls A3 n3 c3 _ x0 (w.drewN W) (hr0.drewN W) hn3)
  have Hc1 := fun W : Nat => Lib.hid (hf.calls A' n' c' _ xs (w.drewN W) (hr.drewN W) hn')
  have hc00 : w.cell? ad = some (.slice A3 n3 c3) := by simpa [Addr.add] using hc0
  obtain ⟨v, hv⟩ : ∃ v, v = psT 0 xs := ⟨_, rfl⟩
  obtain ⟨u, hu⟩ : ∃ u, u = psT 0 x0 := ⟨_, rfl⟩
  rw [← hv, ← hu]
  rw [← hv] at Hc1
  rw [← hu] at Hc0
  have Hd0 := fun W : Nat => Lib.hid (show Calls Tryz.prog 62 #[.slice A3 n3 c3] (w.drewN W) (fun e w'' => e = .returned (.int .i64 u) ∧ ∃ m, w'' = w.drewN m) from (Hc0 W).out.mono fun e w' h => ⟨h.1, W, h.2⟩)
  have Hd1 := fun W : Nat => Lib.hid (show Calls Tryz.prog 62 #[.slice A' n' c'] (w.drewN W) (fun e w'' => e = .returned (.int .i64 v) ∧ ∃ m, w'' = w.drewN m) from (Hc1 W).out.mono fun e w' h => ⟨h.1, W, h.2⟩)
  clear hf h hr hr0 hv hu hx0 hc0 Hc0 Hc1
  go_enter Tryz.func111, Tryz.ntmps111
  go_wp2_with fail
  go_quiet (first | (go_at_call_of 62 n'; exact (Hd1 _).out) | (go_at_call_of 62 n3; exact (Hd0 _).out))
  go_wp2_with fail
  go_ret
  exact RetB.mk (b' := decide (v = u)) rfl (by first | exact ⟨_, rfl⟩ | exact ⟨_, World.drewN_drewN _ _ _⟩ | (simp only [World.drewN_drewN]; exact ⟨_, rfl⟩))

theorem sameDegS_cond (g1 g2 : Nat) (A : Option Addr) (n c : Nat) (xss : List (List Int)) (w : World)
    (hc1 : w.cell? ⟨g1, 0, none⟩ = some (.func (.func 62) #[] #[])) (hc2 : w.cell? ⟨g2, 0, none⟩ = some (.slice A n c)) (hg1 : g1 < w.heap.size) (hg2 : g2 < w.heap.size) (h : RdL w w.heap.size A n c xss) (hx : ∀ x ∈ xss, x.length ≤ 2000000) :
    CondL 111 #[.pointer (some ⟨g1, 0, none⟩), .pointer (some ⟨g2, 0, none⟩)] xss (fun j => decide (psT 0 (xss[j]?.getD []) = psT 0 (xss.headD []))) w := by
  refine ⟨enters_of Tryz.func111 (by kernel_rfl) rfl, fun j A' n' c' xs hv w' hb hr => ?_⟩
  have hgx : xss[j]?.getD [] = xs := by simp [hv]
  rw [hgx]
  have hn : 1 ≤ n := by rw [← h.len]; exact Nat.lt_of_le_of_lt (Nat.zero_le j) (List.getElem?_eq_some_iff.1 hv).1
  have hn' : n' ≤ 2000000 := by rw [← hr.len]; exact hx xs (List.mem_of_getElem? hv)
  exact (sameDeg1S_any g1 g2 A n c xss A' n' c' xs w' ((hb.cell (p := ⟨g1, 0, none⟩) hg1).trans hc1) ((hb.cell (p := ⟨g2, 0, none⟩) hg2).trans hc2) ((h.below hb).mono hb.size) hn hx hr hn').mono
    fun e w'' hh => ⟨hh.1, by obtain ⟨k, hk⟩ := hh.2; rw [hk]; exact below_drewN (Below.refl _ _) k⟩
theorem sameDegreeS_any (A : Option Addr) (n c : Nat) (xss : List (List Int)) (w : World) (h : RdL w w.heap.size A n c xss) (hn : n ≤ 2000000) (hx : ∀ x ∈ xss, x.length ≤ 2000000) :
    Calls Tryz.prog 61 #[.slice A n c, .func (.func 62) #[] #[]] w (RetBb (sameB (psT 0) xss) w) := by
  have hl := h.len
  have HE : Hid ((List.range n).all (fun j => decide (psT 0 (xss[j]?.getD []) = psT 0 (xss.headD []))) = sameB (psT 0) xss) := Lib.hid (allR_rows (fun y => decide (psT 0 y = psT 0 (xss.headD []))) hl)
  have hb1 : Below w.heap.size w (w.alloc (.cells #[.slice A n c] 24)) := (Below.refl _ _).alloc (Nat.le_refl _) _
  have hb2 : Below w.heap.size w ((w.alloc (.cells #[.slice A n c] 24)).alloc (.cells #[.func (.func 62) #[] #[]] 77)) := hb1.alloc hb1.size _
  have H := Lib.hid ((h.below hb2).mono hb2.size)
  have HC := Lib.hid (sameDegS_cond (w.heap.size + 1) w.heap.size A n c xss _ (by simp) (by simp) (by simp) (by simp; omega) H.out hx)
  have HB := Lib.hid hb2
  clear hb1 hb2 h hl
  go_enter Tryz.func61, Tryz.ntmps61
  go_wp2_with fail
  refine (allL_any A n c xss _ _ _ _ H.out hn HC.out).mono ?_
  rintro e w1 ⟨rfl, hb1⟩
  go_wp2_with fail
  go_ret
  exact RetBb.mk (by rw [← HE.out]; simp only [List.headD_eq_head?_getD]) (HB.out.trans (hb1.mono HB.out.size))
end Go.Proofs.YtoodhbafleemjaaGreat

/- IsLambda on both sides. -/
namespace Go.Proofs.YtoodhbafleemjaaGreat
open Go.RowKit
set_option linter.unusedVariables false

theorem len_le_of_total {xss : List (List Int)} {x : List Int} (h : x ∈ xss) : x.length ≤ totalL xss := by
  obtain ⟨k, hk, rfl⟩ := List.getElem_of_mem h
  exact len_le_total (Lib.hid (List.getElem?_eq_getElem hk))
theorem box_cell {w w1 : World} {T : TypeId} {cs : Array Value} {i : Nat} {v : Value} (hb : Below (w.alloc (.cells cs T)).heap.size (w.alloc (.cells cs T)) w1) (hv : (w.alloc (.cells cs T)).cell? ⟨w.heap.size, i, none⟩ = some v) :
    w1.cell? ⟨w.heap.size, i, none⟩ = some v := (hb.cell (p := ⟨w.heap.size, i, none⟩) (by simp)).trans hv

def okx (x0 x : List Int) : Bool := wordB x && decide (lenI x = lenI x0) && decide (psT 0 x = psT 0 x0)
theorem isLB_eq (xss : List (List Int)) : isLB xss = (decide (xss.length ≤ 2000) && risB xss && xss.all (okx (xss.headD []))) := by
  have h : xss.all (okx (xss.headD [])) = (xss.all wordB && sameB (psT 0) xss && sameB lenI xss) := by
    rw [Bool.eq_iff_iff]
    simp only [Bool.and_eq_true, List.all_eq_true, sameB, okx]
    exact ⟨fun h => ⟨⟨fun x hx => (h x hx).1.1, fun x hx => (h x hx).2⟩, fun x hx => (h x hx).1.2⟩, fun h x hx => ⟨⟨h.1.1 x hx, h.2 x hx⟩, h.1.2 x hx⟩⟩
  rw [h]
  simp only [isLB, Bool.and_assoc]
theorem all_take_succL {xss : List (List Int)} {k : Nat} {x : List Int} {p : List Int → Bool} (hx : Hid (xss[k]? = some x)) (h : Hid ((xss.take k).all p = true)) (hp : Hid (p x = true)) : (xss.take (k + 1)).all p = true := by
  rw [List.take_add_one, hx.out, List.all_append, h.out]; simp [hp.out]
theorem all_no {xss : List (List Int)} {k : Nat} {x : List Int} {p : List Int → Bool} (hx : Hid (xss[k]? = some x)) (hp : Hid (p x = false)) : xss.all p = false := by
  rw [List.all_eq_false]; exact ⟨x, List.mem_of_getElem? hx.out, by simp [hp.out]⟩

end Go.Proofs.YtoodhbafleemjaaGreat
