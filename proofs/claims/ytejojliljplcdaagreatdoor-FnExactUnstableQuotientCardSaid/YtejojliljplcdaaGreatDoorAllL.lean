/- all[[]int64]: a condition on all lists of a list. -/
import Derived.Test.YtejojliljplcdaaGreatDoorLL
import Derived.Test.YtejojliljplcdaaGreatDoorBase
import Derived.Test.YtejojliljplcdaaGreatDoorExc
namespace Go.Proofs.YtejojliljplcdaaGreatDoor
open Go.RowKit
set_option linter.unusedVariables false

/-- What is known of a condition on lists that is handed in as a function value: at each list it answers p, and writes nothing that was there. -/
structure CondL (fid : Nat) (cs : Array Value) (xss : List (List Int)) (p : Nat → Bool) (w : World) : Prop where
  enters : ∀ args w, (callFunc fid args).run Tryz.prog w = .ok (.enter fid args) w
  calls : ∀ (j : Nat) (A : Option Addr) (n c : Nat) (xs : List Int), xss[j]? = some xs → ∀ w', Below w.heap.size w w' → RdS w' w'.heap.size A n c xs → Calls Tryz.prog fid (#[.slice A n c] ++ cs) w' (RetBb (p j) w')
theorem CondL.below {fid : Nat} {cs : Array Value} {xss : List (List Int)} {p : Nat → Bool} {w w1 : World} (h : CondL fid cs xss p w) (hb : Below w.heap.size w w1) : CondL fid cs xss p w1 :=
  ⟨h.enters, fun j A n c xs hv w' hw' hr => h.calls j A n c xs hv w' (hb.trans (hw'.mono hb.size)) hr⟩

theorem indexL_any (A : Option Addr) (n c : Nat) (xss : List (List Int)) (fid : Nat) (cs : Array Value) (p : Nat → Bool) (w : World) (h : RdL w w.heap.size A n c xss) (hn : n ≤ 2000000)
    (hf : CondL fid cs xss p w) :
    Calls Tryz.prog 150 #[.slice A n c, .func (.func fid) #[] cs] w (RetIb (firstB p n) w) := by
  have hent := hf.enters
  have HF := Lib.hid hf; clear hf
  go_enter Tryz.func150, Tryz.ntmps150
  go_wp2_with fail
  go_loopw [8] (fun i wr => ∃ k : Nat, k ≤ n ∧ i = .int .i64 k ∧ Hid (∀ j, j < k → p j = false) ∧ Below w.heap.size w wr) (fun i _ => n - (intOf i).toNat)
  case atStart => exact ⟨0, Nat.zero_le _, rfl, Lib.hid (fun j hj => absurd hj (by omega)), Below.refl _ _⟩
  case round =>
    obtain ⟨k, hk, rfl, H0, HB⟩ := hrel
    by_cases hlt : k < n
    · obtain ⟨ad, A', n', c', xs, rfl, _, hx, hc, hr⟩ := (h.below HB).at_ hlt
      have hcall := HF.out.calls k A' n' c' xs hx.out wr HB (hr.mono HB.size)
      have Hcall := Lib.hid hcall; clear hcall hr
      by_cases hp : p k = true
      · have Hp := Lib.hid hp; clear hp
        go_wp2_with fail
        refine Hcall.out.mono ?_
        rintro e w1 ⟨rfl, hb1⟩
        rw [Hp.out]
        go_wp2_with fail
        go_ret
        exact RetIb.mk (y := k) (firstB_hit hlt H0.out Hp.out).symm (HB.trans (hb1.mono HB.size))
      · have Hp := Lib.hid hp; clear hp
        go_wp2_with fail
        refine Hcall.out.mono ?_
        rintro e w1 ⟨rfl, hb1⟩
        rw [Bool.eq_false_iff.2 Hp.out]
        go_wp2_with fail
        go_roundw
        case rel =>
          refine ⟨k+1, by omega, by go_num, Lib.hid (fun j hj => ?_), HB.trans (hb1.mono HB.size)⟩
          rcases Nat.lt_succ_iff_lt_or_eq.1 hj with h | rfl
          · exact H0.out j h
          · exact Bool.eq_false_iff.2 Hp.out
        case measure => simp [intOf]; omega
    · go_wp2_with fail
      go_ret
      obtain rfl : k = n := by omega
      exact RetIb.mk (y := -1) (firstB_miss H0.out).symm HB

theorem containsL_any (A : Option Addr) (n c : Nat) (xss : List (List Int)) (fid : Nat) (cs : Array Value) (p : Nat → Bool) (w : World) (h : RdL w w.heap.size A n c xss) (hn : n ≤ 2000000)
    (hf : CondL fid cs xss p w) :
    Calls Tryz.prog 139 #[.slice A n c, .func (.func fid) #[] cs] w (RetBb ((List.range n).any p) w) := by
  have H := Lib.hid h; clear h
  have HF := Lib.hid hf; clear hf
  go_enter Tryz.func139, Tryz.ntmps139
  go_wp2_with fail
  refine (indexL_any A n c xss fid cs p w H.out hn HF.out).mono ?_
  rintro e w1 ⟨rfl, hb1⟩
  go_wp2_with fail
  go_ret
  exact RetBb.mk firstB_ge hb1

theorem notL_cond (g : Nat) (xss : List (List Int)) (fid : Nat) (cs : Array Value) (p : Nat → Bool) (w : World) (hc : w.cell? ⟨g, 0, none⟩ = some (.func (.func fid) #[] cs)) (hg : g < w.heap.size)
    (hf : CondL fid cs xss p w) : CondL 140 #[.pointer (some ⟨g, 0, none⟩)] xss (fun j => !p j) w := by
  refine ⟨enters_of Tryz.func140 (by kernel_rfl) rfl, fun j A n c xs hv w' hb hr => ?_⟩
  have hc' : w'.cell? ⟨g, 0, none⟩ = some (.func (.func fid) #[] cs) := (hb.cell (p := ⟨g, 0, none⟩) hg).trans hc
  have hent := hf.enters
  have Hcall := Lib.hid (hf.calls j A n c xs hv w' hb hr)
  clear hf hc hv hr
  simp only [List.append_toArray, List.cons_append, List.nil_append]
  go_enter Tryz.func140, Tryz.ntmps140
  go_wp2_with fail
  refine Hcall.out.mono ?_
  rintro e w1 ⟨rfl, hb1⟩
  go_wp2_with fail
  go_ret
  exact RetBb.mk rfl hb1

/-- all[[]int64]: the condition holds at every list. -/
theorem allL_any (A : Option Addr) (n c : Nat) (xss : List (List Int)) (fid : Nat) (cs : Array Value) (p : Nat → Bool) (w : World) (h : RdL w w.heap.size A n c xss) (hn : n ≤ 2000000)
    (hf : CondL fid cs xss p w) :
    Calls Tryz.prog 117 #[.slice A n c, .func (.func fid) #[] cs] w (RetBb ((List.range n).all p) w) := by
  have hb0 : Below w.heap.size w (w.alloc (.cells #[.func (.func fid) #[] cs] 116)) := (Below.refl _ _).alloc (Nat.le_refl _) _
  have H := Lib.hid ((h.below hb0).mono hb0.size); clear h
  have HF := Lib.hid (notL_cond w.heap.size xss fid cs p _ (by simp) (by simp) (hf.below hb0)); clear hf
  have Hb0 := Lib.hid hb0; clear hb0
  go_enter Tryz.func117, Tryz.ntmps117
  go_wp2_with fail
  refine (containsL_any A n c xss _ _ _ _ H.out hn HF.out).mono ?_
  rintro e w1 ⟨rfl, hb1⟩
  go_wp2_with fail
  go_ret
  exact RetBb.mk (by rw [List.not_any_eq_all_not]; simp) (Hb0.out.trans (hb1.mono Hb0.out.size))

/-- a condition on lists, whatever the world, without memory of its own -/
theorem condL_of {fid : Nat} (q : List Int → Bool) (henter : ∀ args w, (callFunc fid args).run Tryz.prog w = .ok (.enter fid args) w) (xss : List (List Int))
    (h : ∀ (A : Option Addr) (n c : Nat) (xs : List Int) (w : World), xs ∈ xss → RdS w w.heap.size A n c xs → Calls Tryz.prog fid #[.slice A n c] w (RetBb (q xs) w)) (w : World) : CondL fid #[] xss (fun j => q (xss[j]?.getD [])) w := by
  refine ⟨henter, fun j A n c xs hv w' _ hr => ?_⟩
  have : xss[j]?.getD [] = xs := by simp [hv]
  rw [this]
  exact h A n c xs w' (List.mem_of_getElem? hv) hr
theorem allR_rows {xss : List (List Int)} {n : Nat} (q : List Int → Bool) (hl : xss.length = n) : (List.range n).all (fun j => q (xss[j]?.getD [])) = xss.all q := by
  subst hl
  rw [Bool.eq_iff_iff, List.all_eq_true, List.all_eq_true]
  constructor
  · intro h x hx
    obtain ⟨j, hj, rfl⟩ := List.getElem_of_mem hx
    have := h j (by simpa using hj)
    simpa [List.getElem?_eq_getElem hj] using this
  · intro h j hj
    have hj' : j < xss.length := by simpa using hj
    rw [List.getElem?_eq_getElem hj']
    exact h _ (List.getElem_mem _)
end Go.Proofs.YtejojliljplcdaaGreatDoor
