/- IsLambda on both sides. -/
import Derived.Test.YtbcchiaigincaaaGreatDoorWordL
import Derived.Deep.RegionWith
namespace Go.Proofs.YtbcchiaigincaaaGreatDoor
open Go.RowKit
set_option linter.unusedVariables false

/-- all lists have the length and the stem of the first -/
def sameB (q : List Int → Int) (xss : List (List Int)) : Bool := xss.all (fun y => decide (q y = q (xss.headD [])))
def lenI (xs : List Int) : Int := xs.length
def isLB (xss : List (List Int)) : Bool := decide (xss.length ≤ 2000) && risB xss && xss.all wordB && sameB (psT 0) xss && sameB lenI xss

/-- a function of lists that is handed in: what is known of it -/
structure FunL (fid : Nat) (q : List Int → Int) : Prop where
  enters : ∀ args w, (callFunc fid args).run Tryz.prog w = .ok (.enter fid args) w
  calls : ∀ (A : Option Addr) (n c B : Nat) (xs : List Int) (w : World), RdS w B A n c xs → n ≤ 2000000 → Calls Tryz.prog fid #[.slice A n c] w (RetI (q xs) w)

theorem sumFun : FunL 33 (psT 0) := ⟨enters_of Tryz.func33 (by kernel_rfl) rfl, fun A n c B xs w h hn => sum_any A n c B xs w h (by omega)⟩
theorem sameDeg1S_any (g1 g2 : Nat) (A : Option Addr) (n c : Nat) (xss : List (List Int)) (A' : Option Addr) (n' c' : Nat) (xs : List Int) (w : World)
    (hc1 : w.cell? ⟨g1, 0, none⟩ = some (.func (.func 33) #[] #[])) (hc2 : w.cell? ⟨g2, 0, none⟩ = some (.slice A n c)) (h : RdL w w.heap.size A n c xss) (hn : 1 ≤ n) (hx : ∀ x ∈ xss, x.length ≤ 2000000)
    (hr : RdS w w.heap.size A' n' c' xs) (hn' : n' ≤ 2000000) :
    Calls Tryz.prog 54 #[.slice A' n' c', .pointer (some ⟨g1, 0, none⟩), .pointer (some ⟨g2, 0, none⟩)] w (RetB (decide (psT 0 xs = psT 0 (xss.headD []))) w) := by
  obtain ⟨ad, A3, n3, c3, x0, rfl, _, hx0, hc0, hr0⟩ := h.at_ hn
  have hn3 : n3 ≤ 2000000 := by rw [← hr0.len]; exact hx x0 (List.mem_of_getElem? hx0.out)
  have hh : xss.headD [] = x0 := by
    have := hx0.out
    cases xss with
    | nil => simp at this
    | cons y ys => simpa using this
  rw [hh]
  have hf : FunL 33 (psT 0) := sumFun
  have hent := hf.enters
  have Hc0 := fun W : Nat => Lib.hid (hf.calls A3 n3 c3 _ x0 (w.drewN W) (hr0.drewN W) hn3)
  have Hc1 := fun W : Nat => Lib.hid (hf.calls A' n' c' _ xs (w.drewN W) (hr.drewN W) hn')
  have hc00 : w.cell? ad = some (.slice A3 n3 c3) := by simpa [Addr.add] using hc0
  obtain ⟨v, hv⟩ : ∃ v, v = psT 0 xs := ⟨_, rfl⟩
  obtain ⟨u, hu⟩ : ∃ u, u = psT 0 x0 := ⟨_, rfl⟩
  rw [← hv, ← hu]
  rw [← hv] at Hc1
  rw [← hu] at Hc0
  have Hd0 := fun W : Nat => Lib.hid (show Calls Tryz.prog 33 #[.slice A3 n3 c3] (w.drewN W) (fun e w'' => e = .returned (.int .i64 u) ∧ ∃ m, w'' = w.drewN m) from (Hc0 W).out.mono fun e w' h => ⟨h.1, W, h.2⟩)
  have Hd1 := fun W : Nat => Lib.hid (show Calls Tryz.prog 33 #[.slice A' n' c'] (w.drewN W) (fun e w'' => e = .returned (.int .i64 v) ∧ ∃ m, w'' = w.drewN m) from (Hc1 W).out.mono fun e w' h => ⟨h.1, W, h.2⟩)
  clear hf h hr hr0 hv hu hx0 hc0 Hc0 Hc1
  go_enter Tryz.func54, Tryz.ntmps54
  go_wp2_with fail
  go_quiet (first | (go_at_call_of 33 n'; exact (Hd1 _).out) | (go_at_call_of 33 n3; exact (Hd0 _).out))
  go_wp2_with fail
  go_ret
  exact RetB.mk (b' := decide (v = u)) rfl (by first | exact ⟨_, rfl⟩ | exact ⟨_, World.drewN_drewN _ _ _⟩ | (simp only [World.drewN_drewN]; exact ⟨_, rfl⟩))

theorem sameDegS_cond (g1 g2 : Nat) (A : Option Addr) (n c : Nat) (xss : List (List Int)) (w : World)
    (hc1 : w.cell? ⟨g1, 0, none⟩ = some (.func (.func 33) #[] #[])) (hc2 : w.cell? ⟨g2, 0, none⟩ = some (.slice A n c)) (hg1 : g1 < w.heap.size) (hg2 : g2 < w.heap.size) (h : RdL w w.heap.size A n c xss) (hx : ∀ x ∈ xss, x.length ≤ 2000000) :
    CondL 54 #[.pointer (some ⟨g1, 0, none⟩), .pointer (some ⟨g2, 0, none⟩)] xss (fun j => decide (psT 0 (xss[j]?.getD []) = psT 0 (xss.headD []))) w := by
  refine ⟨enters_of Tryz.func54 (by kernel_rfl) rfl, fun j A' n' c' xs hv w' hb hr => ?_⟩
  have hgx : xss[j]?.getD [] = xs := by simp [hv]
  rw [hgx]
  have hn : 1 ≤ n := by rw [← h.len]; exact Nat.lt_of_le_of_lt (Nat.zero_le j) (List.getElem?_eq_some_iff.1 hv).1
  have hn' : n' ≤ 2000000 := by rw [← hr.len]; exact hx xs (List.mem_of_getElem? hv)
  exact (sameDeg1S_any g1 g2 A n c xss A' n' c' xs w' ((hb.cell (p := ⟨g1, 0, none⟩) hg1).trans hc1) ((hb.cell (p := ⟨g2, 0, none⟩) hg2).trans hc2) ((h.below hb).mono hb.size) hn hx hr hn').mono
    fun e w'' hh => ⟨hh.1, by obtain ⟨k, hk⟩ := hh.2; rw [hk]; exact below_drewN (Below.refl _ _) k⟩
theorem sameDegreeS_any (A : Option Addr) (n c : Nat) (xss : List (List Int)) (w : World) (h : RdL w w.heap.size A n c xss) (hn : n ≤ 2000000) (hx : ∀ x ∈ xss, x.length ≤ 2000000) :
    Calls Tryz.prog 32 #[.slice A n c, .func (.func 33) #[] #[]] w (RetBb (sameB (psT 0) xss) w) := by
  have hl := h.len
  have HE : Hid ((List.range n).all (fun j => decide (psT 0 (xss[j]?.getD []) = psT 0 (xss.headD []))) = sameB (psT 0) xss) := Lib.hid (allR_rows (fun y => decide (psT 0 y = psT 0 (xss.headD []))) hl)
  have hb1 : Below w.heap.size w (w.alloc (.cells #[.slice A n c] 22)) := (Below.refl _ _).alloc (Nat.le_refl _) _
  have hb2 : Below w.heap.size w ((w.alloc (.cells #[.slice A n c] 22)).alloc (.cells #[.func (.func 33) #[] #[]] 61)) := hb1.alloc hb1.size _
  have H := Lib.hid ((h.below hb2).mono hb2.size)
  have HC := Lib.hid (sameDegS_cond (w.heap.size + 1) w.heap.size A n c xss _ (by simp) (by simp) (by simp) (by simp; omega) H.out hx)
  have HB := Lib.hid hb2
  clear hb1 hb2 h hl
  go_enter Tryz.func32, Tryz.ntmps32
  go_wp2_with fail
  refine (allL_any A n c xss _ _ _ _ H.out hn HC.out).mono ?_
  rintro e w1 ⟨rfl, hb1⟩
  go_wp2_with fail
  go_ret
  exact RetBb.mk (by rw [← HE.out]; simp only [List.headD_eq_head?_getD]) (HB.out.trans (hb1.mono HB.out.size))
end Go.Proofs.YtbcchiaigincaaaGreatDoor
