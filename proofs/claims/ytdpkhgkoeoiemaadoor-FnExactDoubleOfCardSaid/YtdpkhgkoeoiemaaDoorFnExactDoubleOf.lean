/-
  Proved: for every input the program's DoubleOf returns what the reference's returns, leaves its arguments as they were, and shares no memory (Rows.FnExactDoubleOfSaid).
  Conditions: none.
-/
import Derived.Test.YtdpkhgkoeoiemaaDoorCards
import Derived.Test.YtdpkhgkoeoiemaaDoorTie
import Derived.Test.YtdpkhgkoeoiemaaDoorDebL
import Derived.SevenTiedAt
import Derived.Test.YtdpkhgkoeoiemaaDoorLwDoubleOf
import Derived.Test.YtdpkhgkoeoiemaaDoorLawS
import Derived.Test.YtdpkhgkoeoiemaaDoorDebK
import Derived.Test.YtdpkhgkoeoiemaaDoorOpen
import Derived.WalkKit
import Derived.ProofKit
import Derived.OpenShut
import Derived.ShutString
namespace Go.Proofs.YtdpkhgkoeoiemaaDoor.fnExactDoubleOf
open Go.ChangeShapes Go.WideShapes Go.ChangeAt Go.RowKit Go.Lib
open Go.ChangeMaps (open_string shut_string)
set_option linter.unusedVariables false

theorem own : ownKnob Tryd.prog.godebug = none := by kernel_rfl
theorem laidOut : laidOutB Tryd.prog = true := by kernel_rfl

theorem dbl_len {ds : List Int} {act : List (List Int)} {n : Nat} {v L : List Int} {k : Int} (h : DblA ds act n v L k) (hn : n ≤ 1048576) : L.length ≤ 1000000000 := by
  rcases h with ⟨_, rfl, _⟩ | ⟨_, _, rfl, _⟩ | ⟨x, hm, hl, _, rfl, h⟩
  · simp
  · simp
  · rcases h with ⟨_, rfl, _⟩ | ⟨_, _, rfl, _⟩ | ⟨_, _, rfl, _⟩
    · simp
    · simp
    · unfold vecF
      simp
      omega

/-! The walk of the law: it returns true and writes nothing that was there. -/
theorem walk (D0 : Option Addr) (d0 q0 : Nat) (ds0 : List Int) (A0 : Option Addr) (n0 c0 : Nat) (xss0 : List (List Int)) (A1 : Option Addr) (n1 c1 : Nat) (xs1 : List Int) (w : World) (hT : Deb w) (g0 : RdS w w.heap.size D0 d0 q0 ds0) (y0 : d0 ≤ 9223372036854775807) (h0 : RdL w w.heap.size A0 n0 c0 xss0) (m0 : n0 ≤ 9223372036854775807) (e0 : ∀ x ∈ xss0, x.length ≤ 9223372036854775807) (f0 : ∀ x ∈ xss0, ∀ i ∈ x, (Lit.int .i64 i).wf = true) (h1 : RdS w w.heap.size A1 n1 c1 xs1) (m1 : n1 ≤ 9223372036854775807) (f1 : ∀ i ∈ xs1, (Lit.int .i64 i).wf = true) :
    Calls Tryd.prog 3 #[.agg #[.slice D0 d0 q0, .slice A0 n0 c0], .slice A1 n1 c1] w fun e w' => e = .returned (.bool true) ∧ Below w.heap.size w w' := by
  have g : RdMd w w.heap.size D0 d0 q0 ds0 A0 n0 c0 xss0 := ⟨g0, h0⟩
  by_cases hl : n1 ≤ 1048576
  · by_cases hs : d0 + (n0 + totalL xss0) ≤ 1048576
    · obtain ⟨L, k, hA⟩ := dbl_ex ds0 xss0 d0 xs1
      exact coreDoubleOf D0 d0 q0 ds0 A0 n0 c0 xss0 A1 n1 c1 xs1 _ L k (dbl_len hA (by omega)) w hT g e0 h1 hl hs
        (fun D0 A0 q0 c0 A1 c1 w r0 r1 => sDoubleOf_any D0 A0 A1 d0 q0 n0 c0 n1 c1 ds0 xss0 xs1 L k w ⟨r0.ds, r0.act⟩ r1 (by omega) (by omega) (by omega) (by omega) hA)
        (fun D0 A0 q0 c0 A1 c1 w hT r0 r1 => iDoubleOf_any D0 A0 A1 d0 q0 n0 c0 n1 c1 ds0 xss0 xs1 L k w hT ⟨r0.ds, r0.act⟩ r1 (by omega) (by omega) (by omega) (by omega) hA)
    · exact bigDoubleOf0 D0 d0 q0 ds0 A0 n0 c0 xss0 A1 n1 c1 xs1 w g y0 m0 e0 hl hs
  · exact bigSDoubleOf1 D0 d0 q0 ds0 A0 n0 c0 xss0 A1 n1 c1 xs1 w hl

theorem door_met (os : Os) (args : Array Value) : laidMetH Tryd.prog Rows.fnExactDoubleOfRow.laid ((World.doorLaid Tryd.prog 14 os).forCall (fun _ _ => 0) ⟨#[], args, []⟩).memory :=
  laidMetH_of_parts3 (fuel := 8) (laidMet_of_run' 8 (by kernel_rfl) (by kernel_rfl)) (by kernel_rfl) (by kernel_rfl)

set_option maxRecDepth 100000 in
theorem lifted (os : Os) (started : os.Started) (H : Type) (enc : TypeId × Value → H) :
    ReturnsInHanded {} Tryd.checked os 3 .any (fun w args => (Rows.fnExactDoubleOfSpec.pre enc Tryd.prog Tryd.f3 [] false w args ∧ laidMetH Tryd.prog Rows.fnExactDoubleOfRow.laid w) ∧ sizedMet enc Tryd.prog Tryd.f3 (OpenSpec.ofChange Rows.fnExactDoubleOfSpec) false w args)
      (Rows.fnExactDoubleOfSpec.post enc Tryd.prog Tryd.f3 false true false false) := by
  refine returnsInHanded_of_change_and (C := Tryd.checked) (X := fun w _ => laidMetH Tryd.prog Rows.fnExactDoubleOfRow.laid w) (fun _ _ _ hh h => h.of_heap hh) own started (by kernel_rfl) Tryd.func3
    (ChangeSpec.witness_shaped (enc := enc) (C := Tryd.checked) (os := os) (X := fun w _ => laidMetH Tryd.prog Rows.fnExactDoubleOfRow.laid w) false (World.doorLaid Tryd.prog 14 os) #[.agg #[.slice none 0 0, .slice none 0 0], .slice none 0 0] 8 rfl (World.shaped_of_RefB (by kernel_rfl) (by kernel_rfl)) (by kernel_rfl) (by kernel_rfl) (by kernel_rfl) (door_met os _)) ?_
  intro W base args ds gs before hval0 hW _ _ hL _
  have hval : ∀ (j : Nat) t v, Tryd.f3.params[j]? = some t → args[j]? = some v → Value.okWide Tryd.prog W .any base t v := hval0
  have hW' := hW
  obtain ⟨p, q, hA0, hV, rfl, hfz, hnd⟩ := hW
  have hA : DataW.TrodAll enc Tryd.prog W 0 (fun _ => true) true Tryd.f3.params.toList args.toList ds p := hA0
  rw [Tryd.params3] at hA hval
  obtain ⟨v0, vs0, d0, ds0, p0, q0, hargs, rfl, rfl, g0, r0⟩ := trodAll_cons hA
  obtain ⟨v1, vs1, d1, ds1, p1, q1, rfl, rfl, rfl, g1, r1⟩ := trodAll_cons r0
  obtain ⟨rfl, rfl, rfl⟩ := trodAll_nil r1
  obtain rfl : args = #[v0, v1] := by cases args; simp_all
  obtain ⟨rfl, rfl⟩ := trodVars_none hV
  have k0 := g0
  have lt0 : ∀ x ∈ p0, x.block < W.heap.size := by obtain ⟨m, hm⟩ := k0; exact DataW.trod_lt m _ _ _ hm
  have k1 := g1
  have lt1 : ∀ x ∈ p1, x.block < W.heap.size := by obtain ⟨m, hm⟩ := k1; exact DataW.trod_lt m _ _ _ hm
  obtain ⟨s0, u0, z0, y0, N0, hv0, _, _, tz0, t0⟩ := Go.Joins.open_agg2 Tryd.underlying25 (by kernel_rfl) (by kernel_rfl) (hval 0 25 v0 rfl rfl) g0
  obtain ⟨D0, d0, q0, ds0, hs0, k0d, k0y, _⟩ := open_row Tryd.underlying22 Tryd.underlying2 (by kernel_rfl) tz0
  obtain ⟨A0, n0, c0, xss0, hu0, h0, m0, e0, f0⟩ := open_lists Tryd.underlying23 Tryd.underlying22 Tryd.underlying2 (by kernel_rfl) (by kernel_rfl) t0
  subst hs0
  subst hu0
  subst hv0
  obtain ⟨A1, n1, c1, xs1, hv1, h1, m1, f1⟩ := open_rowT Tryd.underlying22 Tryd.underlying2 (by kernel_rfl) (hval 1 22 v1 rfl rfl) g1
  subst hv1
  clear hA0 hval0
  have hT : Deb W := deb_of_laid hL
  refine (walk D0 d0 q0 ds0 A0 n0 c0 xss0 A1 n1 c1 xs1 W hT k0d k0y h0 m0 e0 f0 h1 m1 f1).mono fun e W' ⟨he, bel⟩ => ?_
  subst he
  exact ⟨_, rfl, _, _, _, [], _, [], hW', trodAll_mk1 (shut_bool Tryd.underlying4 _), (trodAll_cons_mk (Below.trod laidOut (by kernel_rfl) (of_decide_eq_true (by kernel_rfl)) k0 bel lt0) (trodAll_cons_mk (Below.trod laidOut (by kernel_rfl) (of_decide_eq_true (by kernel_rfl)) k1 bel lt1) trodAll_mk0)), rfl, bel.frame _, fun h => by cases h⟩

theorem over : Rows.fnExactDoubleOfRow.holds Tryd.pinned (OpenSpec.ofChange Rows.fnExactDoubleOfSpec) :=
  OpenClaim.holds_of_wide 3 Tryd.f3 rfl rfl rfl rfl rfl rfl rfl ⟨rfl, rfl, rfl, rfl, rfl⟩ rfl rfl rfl rfl rfl (by kernel_rfl) Tryd.func3 (by kernel_rfl)
    (of_decide_eq_true (by kernel_rfl)) (by unfold Func.isWrapper; first | (rw [if_pos (by decide +kernel)]; kernel_rfl) | (rw [if_neg (by decide +kernel)]; exact ⟨rfl, rfl⟩))
    (fun os started H enc _ => lifted os started H enc)

theorem proved : Rows.FnExactDoubleOfCardSaid :=
  Claim7.holds_tied_plain_at .later [] [.data] true (true, "ecd5a816f183991c83db879582dbfe3e104cc54e6f92ab468acf9a407d1adeab") false
    over (fun _ h => by cases h) (by kernel_rfl) (fun _ h => by cases h) fnExactDoubleOf_row_tie rfl ⟨rfl, rfl⟩ (by kernel_rfl) rfl
    (fun f fn hf hfn => by
      obtain rfl : f = 3 := Option.some.inj ((show Tryd.prog.funcNamed "loop.example/g01154/laws.FnExactDoubleOf" = some 3 by kernel_rfl).symm.trans hf) |>.symm
      obtain rfl : fn = Tryd.f3 := (Option.some.inj (Tryd.func3.symm.trans hfn)).symm
      exact ⟨by kernel_rfl, fun j t ht => by
        rw [Tryd.params3] at ht
        have hm : t ∈ [25, 22] := by simpa using Array.mem_of_getElem? ht
        have hall : ([25, 22].all fun u => !Tryd.prog.wantsStandIn u) = true := by kernel_rfl
        exact (show Tryd.prog.wantsStandIn t = false by simpa using List.all_eq_true.1 hall t hm)⟩)
    (by kernel_rfl)
#print axioms proved
end Go.Proofs.YtdpkhgkoeoiemaaDoor.fnExactDoubleOf
