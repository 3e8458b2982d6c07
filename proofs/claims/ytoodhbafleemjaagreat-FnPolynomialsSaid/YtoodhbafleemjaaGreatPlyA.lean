/- Two polynomials: frames, and what AddPolys answers. -/
import Derived.Test.YtoodhbafleemjaaGreatKam
import Derived.Test.YtoodhbafleemjaaGreatMapR
import Derived.Test.YtoodhbafleemjaaGreatModT
import Derived.Deep.RegionHeld3
namespace Go.Proofs.YtoodhbafleemjaaGreat
open Go.RowKit
set_option linter.unusedVariables false

/-- two boxes of a Poly each and the result's cells -/
theorem start222 (w : World) (U1 U2 V1 V2 R1 R2 : Value) (T1 T2 T3 : TypeId) : ∃ w0 b, w0 = ((w.alloc (.cells #[U1, U2] T1)).alloc (.cells #[V1, V2] T2)).alloc (.cells #[R1, R2] T3) ∧ b = w.heap.size ∧ Below w.heap.size w w0 ∧ w0.heap.size = b + 1 + 1 + 1 ∧
    Cells [(b + 1 + 1, 0, R1), (b + 1 + 1, 1, R2), (b + 1, 0, V1), (b + 1, 1, V2), (b, 0, U1), (b, 1, U2)] w0 := by
  refine ⟨_, _, rfl, rfl, (((Below.refl _ _).alloc (Nat.le_refl _) _).alloc (by simp) _).alloc (by simp; omega) _, by simp, ?_⟩
  exact ((Cells.nil.alloc2 U1 U2 T1 rfl).alloc2 V1 V2 T2 (by simp)).alloc2 R1 R2 T3 (by simp)
theorem PolF.degs {v : Int} {xss : List (List Int)} {k : Nat} (h : PolF v xss) (hk : v = k) : ∀ x ∈ xss, Deg k (degL xss) x := fun x hx => by
  have h1 := h.each x hx
  refine ⟨fun a ha => (h1.2.1 a ha).1, by rw [h.deg.1]; exact h.same x hx, by omega⟩
theorem PolF.monos {v : Int} {xss : List (List Int)} {k : Nat} (h : PolF v xss) (hk : v = k) : ∀ x ∈ xss, Mono k x := fun x hx => (h.degs hk x hx).mono (by have := h.deg; omega)
theorem Mono.ten {k : Nat} {x : List Int} (h : Mono k x) (hk : k ≤ 10) : fitP x ∧ x.length ≤ 10 := ⟨h.1, by rw [h.2]; exact hk⟩

/-- what AddPolys answers -/
def adpO (v : Int) (f : List (List Int)) (u : Int) (g : List (List Int)) : Int × List (List Int) × Int :=
  if polB v f = true ∧ polB u g = true then
    (if v = u ∧ (f = [] ∨ g = [] ∨ degL f = degL g) then toldV v (oddL (f ++ g)) else (0, [], 2))
  else (0, [], 1)
theorem adpO_bad1 {v u : Int} {f g : List (List Int)} (h : polB v f = false) : adpO v f u g = (0, [], 1) := by unfold adpO; rw [if_neg (by rw [h]; simp)]
theorem adpO_bad2 {v u : Int} {f g : List (List Int)} (h : polB u g = false) : adpO v f u g = (0, [], 1) := by unfold adpO; rw [if_neg (by rw [h]; simp)]
theorem adpO_range {v u : Int} {f g : List (List Int)} (h1 : polB v f = true) (h2 : polB u g = true) (h : v ≠ u ∨ 0 < f.length ∧ 0 < g.length ∧ degL f ≠ degL g) : adpO v f u g = (0, [], 2) := by
  unfold adpO
  rw [if_pos ⟨h1, h2⟩, if_neg]
  rintro ⟨e, h3⟩
  rcases h with h | ⟨k1, k2, k3⟩
  · exact h e
  · rcases h3 with h3 | h3 | h3
    · rw [h3] at k1; simp at k1
    · rw [h3] at k2; simp at k2
    · exact k3 h3
theorem adpO_ok {v u : Int} {f g : List (List Int)} (h1 : polB v f = true) (h2 : polB u g = true) (h : v = u) (h3 : f.length = 0 ∨ g.length = 0 ∨ degL f = degL g) : adpO v f u g = toldV v (oddL (f ++ g)) := by
  have h4 : f = [] ∨ g = [] ∨ degL f = degL g := by
    rcases h3 with h3 | h3 | h3
    · exact .inl (List.eq_nil_of_length_eq_zero h3)
    · exact .inr (.inl (List.eq_nil_of_length_eq_zero h3))
    · exact .inr (.inr h3)
  unfold adpO
  rw [if_pos ⟨h1, h2⟩, if_pos ⟨h, h4⟩]
end Go.Proofs.YtoodhbafleemjaaGreat

/- spec.l08Fit, spec.l08Both. -/
namespace Go.Proofs.YtoodhbafleemjaaGreat
open Go.RowKit
set_option linter.unusedVariables false

/-- what l08Fit answers: the list itself, or nothing -/
def RetFitP (v : Int) (A : Option Addr) (n c : Nat) (w : World) (e : Ending) (w' : World) : Prop :=
  Below w.heap.size w w' ∧ (2000 < n → e = .returned (.tuple #[.agg #[.int .i64 0, .slice none 0 0], .int .i64 3])) ∧ (¬ 2000 < n → e = .returned (.tuple #[.agg #[.int .i64 v, .slice A n c], .int .i64 0]))
theorem RetFitP.no {v : Int} {A : Option Addr} {n c : Nat} {w w' : World} (h : 2000 < n) (hb : Below w.heap.size w w') : RetFitP v A n c w (.returned (.tuple #[.agg #[.int .i64 0, .slice none 0 0], .int .i64 3])) w' := ⟨hb, fun _ => rfl, fun h2 => absurd h h2⟩
theorem RetFitP.yes {v : Int} {A : Option Addr} {n c : Nat} {w w' : World} (h : ¬ 2000 < n) (hb : Below w.heap.size w w') : RetFitP v A n c w (.returned (.tuple #[.agg #[.int .i64 v, .slice A n c], .int .i64 0])) w' := ⟨hb, fun h2 => absurd h2 h, fun _ => rfl⟩
set_option maxRecDepth 100000 in
theorem l08Fit_any (v : Int) (A : Option Addr) (n c : Nat) (w : World) (hn : n ≤ 1000000000) : Calls Tryz.prog 53 #[.int .i64 v, .slice A n c] w (RetFitP v A n c w) := by
  by_cases hl : 2000 < n
  · have hA := Lib.hid hl
    go_enter Tryz.func53, Tryz.ntmps53
    go_wp2_with fail
    refine bodyPost_ret (v := .tuple #[.agg #[.int .i64 0, .slice none 0 0], .int .i64 3]) (by simp [results, Tryz.results53, go_sem]) rfl ?_
    exact RetFitP.no hA.out ((Below.refl _ _).alloc (Nat.le_refl _) _)
  · have hA := Lib.hid hl
    go_enter Tryz.func53, Tryz.ntmps53
    go_wp2_with fail
    refine bodyPost_ret (v := .tuple #[.agg #[.int .i64 v, .slice A n c], .int .i64 0]) (by simp [results, Tryz.results53, go_sem]) rfl ?_
    exact RetFitP.yes hA.out (((Below.refl _ _).alloc (Nat.le_refl _) _))

/-- what l08Fit hands back of an owned list of terms, in one shape for both cases -/
theorem fit_cases {v : Int} {l : Nat} {s : List (List Int)} {o : Int × List (List Int) × Int} (hv : o = toldV v s) (hl : l = s.length) (hb : l ≤ 1000000000) :
    ∃ (x : Int) (fA : Option Addr → Option Addr) (n' : Nat) (fc : Nat → Nat) (k : Int),
      (∀ (A : Option Addr) (c : Nat) (W : World), Hid (Calls Tryz.prog 53 #[.int .i64 v, .slice A l c] W fun e w' => e = .returned (.tuple #[.agg #[.int .i64 x, .slice (fA A) n' (fc c)], .int .i64 k]) ∧ Below W.heap.size W w')) ∧
      Hid (x = o.1) ∧ Hid (n' = o.2.1.length) ∧ Hid (k = o.2.2) ∧ Hid (∀ (w' : World) (B K : Nat) (A : Option Addr) (c : Nat), OwnM w' B K A l c s → OwnM w' B K (fA A) n' (fc c) o.2.1) := by
  by_cases h : 2000 < l
  · refine ⟨0, fun _ => none, 0, fun _ => 0, 3, fun A c W => Lib.hid ((l08Fit_any v A l c W hb).mono fun e w' hh => ⟨hh.2.1 h, hh.1⟩), ?_⟩
    rw [hv, toldV_no (by omega)]
    exact ⟨Lib.hid rfl, Lib.hid rfl, Lib.hid rfl, Lib.hid fun _ _ _ _ _ _ => OwnM.nil⟩
  · refine ⟨v, fun A => A, l, fun c => c, 0, fun A c W => Lib.hid ((l08Fit_any v A l c W hb).mono fun e w' hh => ⟨hh.2.2 h, hh.1⟩), ?_⟩
    rw [hv, toldV_yes (by omega)]
    exact ⟨Lib.hid rfl, Lib.hid hl, Lib.hid rfl, Lib.hid fun _ _ _ _ _ hh => hh⟩
theorem two_far {w : World} {bn b i : Nat} {X Y V : Value} (hne : bn ≠ b) (h : w.cell? ⟨b, i, none⟩ = some V) : ((w.setCell ⟨bn, 0, none⟩ X).setCell ⟨bn, 1, none⟩ Y).cell? ⟨b, i, none⟩ = some V :=
  (World.cell?_setCell_far _ _ _ _ hne).trans ((World.cell?_setCell_far _ _ _ _ hne).trans h)
/-- two cells of one block are written: what lies elsewhere stays owned -/
theorem OwnM.two {w : World} {B K n c bn : Nat} {A : Option Addr} {xss : List (List Int)} {X Y : Value} (h : OwnM w B K A n c xss) (hK : K ≤ w.heap.size) (hb : bn < B ∨ K ≤ bn) : OwnM ((w.setCell ⟨bn, 0, none⟩ X).setCell ⟨bn, 1, none⟩ Y) B K A n c xss :=
  h.apart ((mid_setCell (B := bn) (K := bn + 1) (p := ⟨bn, 0, none⟩) X ⟨Nat.le_refl _, Nat.lt_succ_self _⟩).trans (mid_setCell (p := ⟨bn, 1, none⟩) Y ⟨Nat.le_refl _, Nat.lt_succ_self _⟩)) hK (by omega)
/-- two boxes -/
theorem start22' (w : World) (U1 U2 V1 V2 : Value) (T1 T2 : TypeId) : ∃ w0 b, w0 = (w.alloc (.cells #[U1, U2] T1)).alloc (.cells #[V1, V2] T2) ∧ b = w.heap.size ∧ Below w.heap.size w w0 ∧ w0.heap.size = b + 1 + 1 ∧
    Cells [(b + 1, 0, V1), (b + 1, 1, V2), (b, 0, U1), (b, 1, U2)] w0 := start22 w U1 U2 V1 V2 T1 T2
def bothO (v : Int) (f : List (List Int)) (u : Int) (g : List (List Int)) : Int := if polB v f = true ∧ polB u g = true then (if v = u then 0 else 2) else 1
set_option maxRecDepth 100000 in
theorem l08Both_any (v u : Int) (A1 A2 : Option Addr) (n1 c1 n2 c2 : Nat) (xss yss : List (List Int)) (w : World) (h1 : RdL w w.heap.size A1 n1 c1 xss) (h2 : RdL w w.heap.size A2 n2 c2 yss) (hn1 : n1 ≤ 2000000) (hn2 : n2 ≤ 2000000) (ht1 : totalL xss ≤ 2000000) (ht2 : totalL yss ≤ 2000000) :
    Calls Tryz.prog 51 #[.agg #[.int .i64 v, .slice A1 n1 c1], .agg #[.int .i64 u, .slice A2 n2 c2]] w (RetIb (bothO v xss u yss) w) := by
  obtain ⟨w0, b, hw0, hbe, hb0, hz0, hF⟩ := start22 w (.int .i64 v) (.slice A1 n1 c1) (.int .i64 u) (.slice A2 n2 c2) 26 26
  have H1 := Lib.hid (rdL_here h1 hb0); clear h1
  have H2 := Lib.hid (rdL_here h2 hb0); clear h2
  have Hw := Lib.hid hw0; clear hw0
  have Hbe := Lib.hid hbe; clear hbe
  have Hb0 := Lib.hid hb0; clear hb0
  have F0 := Lib.hid hF; clear hF
  have X0 := Lib.hid (Below.refl w0.heap.size w0)
  obtain ⟨r1, hr1⟩ : ∃ r, r = polB v xss := ⟨_, rfl⟩
  have HR1 := Lib.hid hr1; clear hr1
  obtain ⟨r2, hr2⟩ : ∃ r, r = polB u yss := ⟨_, rfl⟩
  have HR2 := Lib.hid hr2; clear hr2
  go_enter Tryz.func51, Tryz.ntmps51
  go_wp2_with fail
  rw [← Hw.out, ← Hbe.out]
  have k0 := (F0.out.below X0.out).at_ (b := b) (o := 0) (V := .int .i64 v) (by simp)
  have k1 := (F0.out.below X0.out).at_ (b := b) (o := 1) (V := .slice A1 n1 c1) (by simp)
  have k2 := (F0.out.below X0.out).at_ (b := b + 1) (o := 0) (V := .int .i64 u) (by simp)
  have k3 := (F0.out.below X0.out).at_ (b := b + 1) (o := 1) (V := .slice A2 n2 c2) (by simp)
  refine (l08Is_any v A1 n1 c1 xss _ H1.out hn1 ht1).mono ?_
  rintro e w1 ⟨rfl, hb1⟩
  rw [← HR1.out]
  have X1 := Lib.hid hb1; clear hb1 k0 k1 k2 k3
  have k0 := (F0.out.below X1.out).at_ (b := b) (o := 0) (V := .int .i64 v) (by simp)
  have k1 := (F0.out.below X1.out).at_ (b := b) (o := 1) (V := .slice A1 n1 c1) (by simp)
  have k2 := (F0.out.below X1.out).at_ (b := b + 1) (o := 0) (V := .int .i64 u) (by simp)
  have k3 := (F0.out.below X1.out).at_ (b := b + 1) (o := 1) (V := .slice A2 n2 c2) (by simp)
  cases r1
  · go_wp2_with fail
    go_ret
    exact RetIb.mk (y := 1) (x := bothO v xss u yss) (by unfold bothO; rw [← HR1.out]; simp) (Hb0.out.trans (X1.out.mono Hb0.out.size))
  · go_wp2_with fail
    refine (l08Is_any u A2 n2 c2 yss _ (rdL_here H2.out X1.out) hn2 ht2).mono ?_
    rintro e w2 ⟨rfl, hb2⟩
    rw [← HR2.out]
    have X2 := Lib.hid (X1.out.trans (hb2.mono X1.out.size)); clear hb2 k0 k1 k2 k3
    have k0 := (F0.out.below X2.out).at_ (b := b) (o := 0) (V := .int .i64 v) (by simp)
    have k1 := (F0.out.below X2.out).at_ (b := b) (o := 1) (V := .slice A1 n1 c1) (by simp)
    have k2 := (F0.out.below X2.out).at_ (b := b + 1) (o := 0) (V := .int .i64 u) (by simp)
    have k3 := (F0.out.below X2.out).at_ (b := b + 1) (o := 1) (V := .slice A2 n2 c2) (by simp)
    cases r2
    · go_wp2_with fail
      go_ret
      exact RetIb.mk (y := 1) (x := bothO v xss u yss) (by unfold bothO; rw [← HR2.out]; simp) (Hb0.out.trans (X2.out.mono Hb0.out.size))
    · by_cases hvu : v = u
      · have hV : Hid (bothO v xss u yss = 0) := Lib.hid (by unfold bothO; rw [← HR1.out, ← HR2.out]; simp [hvu])
        have hne1 : (v == u) = true := by simpa using hvu
        have hne2 : (v != u) = false := by simpa using hvu
        clear hvu
        go_wp2_with fail
        go_ret
        exact RetIb.mk (y := 0) (x := bothO v xss u yss) (by rw [hV.out]) (Hb0.out.trans (X2.out.mono Hb0.out.size))
      · have hV : Hid (bothO v xss u yss = 2) := Lib.hid (by unfold bothO; rw [← HR1.out, ← HR2.out]; simp [hvu])
        have hne1 : (v == u) = false := by simpa using hvu
        have hne2 : (v != u) = true := by simpa using hvu
        clear hvu
        go_wp2_with fail
        go_ret
        exact RetIb.mk (y := 2) (x := bothO v xss u yss) (by rw [hV.out]) (Hb0.out.trans (X2.out.mono Hb0.out.size))
end Go.Proofs.YtoodhbafleemjaaGreat
