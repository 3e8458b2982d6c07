/-
  Proved: for every input the program's IsHit returns what the reference's returns, leaves its arguments as they were, and shares no memory (Rows.FnExactIsHitSaid).
  Conditions: none.
-/
import Derived.Test.YtkajhjgfmpjkoaaRows
import Derived.Test.YtkajhjgfmpjkoaaLwIsHit
import Derived.Test.YtkajhjgfmpjkoaaHitB
import Derived.Test.YtkajhjgfmpjkoaaOpen
import Derived.WalkKit
import Derived.ProofKit
import Derived.OpenShut
import Derived.ShutString
namespace Go.Proofs.Ytkajhjgfmpjkoaa.fnExactIsHit
open Go.ChangeShapes Go.WideShapes Go.ChangeAt Go.RowKit Go.Lib
open Go.ChangeMaps (open_string shut_string)
set_option linter.unusedVariables false

theorem own : ownKnob Try.prog.godebug = none := by kernel_rfl
theorem laidOut : laidOutB Try.prog = true := by kernel_rfl


/-! The walk of the law: it returns true and writes nothing that was there. -/
theorem walk (a0 : Int) (A0 : Option Addr) (n0 c0 : Nat) (xss0 : List (List Int)) (w : World) (i0 : (Lit.int .i64 a0).wf = true) (h0 : RdL w w.heap.size A0 n0 c0 xss0) (m0 : n0 ≤ 9223372036854775807) (e0 : ∀ x ∈ xss0, x.length ≤ 9223372036854775807) (f0 : ∀ x ∈ xss0, ∀ i ∈ x, (Lit.int .i64 i).wf = true) :
    Calls Try.prog 3 #[.agg #[.int .i64 a0, .slice A0 n0 c0]] w fun e w' => e = .returned (.bool true) ∧ Below w.heap.size w w' := by
  by_cases hs : n0 + totalL xss0 ≤ 1048576
  · exact coreIsHit a0 A0 n0 c0 xss0 _ _ w h0 e0 hs
      (fun A0 c0 w r0 => sIsHit a0 A0 n0 c0 xss0 w r0 (by omega) (by omega))
      (fun A0 c0 w r0 => iIsHit a0 A0 n0 c0 xss0 w r0 (by omega) (by omega))
  · exact bigIsHit0 a0 A0 n0 c0 xss0 w h0 m0 e0 hs

set_option maxRecDepth 100000 in
theorem lifted (os : Os) (started : os.Started) (H : Type) (enc : TypeId × Value → H) :
    ReturnsInHanded {} Try.checked os 3 .any (Rows.fnExactIsHitSpec.pre6 enc Try.prog Try.f3 Rows.fnExactIsHitRow.domain false) (Rows.fnExactIsHitSpec.post enc Try.prog Try.f3 false true false false) := by
  refine returnsInHanded_of_change (C := Try.checked) own started (by kernel_rfl) Try.func3
    (ChangeSpec.witness6 (enc := enc) (C := Try.checked) false ⟨#[], #[.agg #[.int .i64 0, .slice none 0 0]], []⟩ 8 (by kernel_rfl) (by kernel_rfl) (by kernel_rfl) (by kernel_rfl)) ?_
  intro W base args ds gs before hval0 hW hcnd _
  have hval : ∀ (j : Nat) t v, Try.f3.params[j]? = some t → args[j]? = some v → Value.okWide Try.prog W .any base t v := hval0
  have hW' := hW
  obtain ⟨p, q, hA0, hV, rfl, hfz, hnd⟩ := hW
  have hA : DataW.TrodAll enc Try.prog W 0 (fun _ => true) true Try.f3.params.toList args.toList ds p := hA0
  rw [Try.params3] at hA hval
  obtain ⟨v0, vs0, d0, ds0, p0, q0, hargs, rfl, rfl, g0, r0⟩ := trodAll_cons hA
  obtain ⟨rfl, rfl, rfl⟩ := trodAll_nil r0
  obtain rfl : args = #[v0] := by cases args; simp_all
  obtain ⟨rfl, rfl⟩ := trodVars_none hV
  have k0 := g0
  have lt0 : ∀ x ∈ p0, x.block < W.heap.size := by obtain ⟨m, hm⟩ := k0; exact DataW.trod_lt m _ _ _ hm
  obtain ⟨s0, u0, z0, y0, N0, hv0, _, _, tz0, t0⟩ := Go.Joins.open_agg2 Try.underlying24 (by kernel_rfl) (by kernel_rfl) (hval 0 24 v0 rfl rfl) g0
  obtain ⟨a0, hs0, _, i0⟩ := DataW.trod_int Try.underlying2 tz0
  obtain ⟨A0, n0, c0, xss0, hu0, h0, m0, e0, f0⟩ := open_lists Try.underlying22 Try.underlying54 Try.underlying2 (by kernel_rfl) (by kernel_rfl) t0
  simp only [List.cons.injEq, and_true] at hs0
  subst hs0
  subst hu0
  subst hv0
  clear hA0 hval0
  refine (walk a0 A0 n0 c0 xss0 W i0 h0 m0 e0 f0).mono fun e W' ⟨he, bel⟩ => ?_
  subst he
  exact ⟨_, rfl, _, _, _, [], _, [], hW', trodAll_mk1 (shut_bool Try.underlying4 _), (trodAll_cons_mk (Below.trod laidOut (by kernel_rfl) (of_decide_eq_true (by kernel_rfl)) k0 bel lt0) trodAll_mk0), rfl, bel.frame _, fun h => by cases h⟩

theorem over : Rows.fnExactIsHitRow.holds Try.pinned (OpenSpec.ofChange Rows.fnExactIsHitSpec) :=
  OpenClaim.holds_of_wide 3 Try.f3 rfl rfl rfl rfl rfl rfl rfl ⟨rfl, rfl, rfl, rfl, rfl⟩ rfl rfl rfl rfl rfl (by kernel_rfl) Try.func3 (by kernel_rfl)
    (of_decide_eq_true (by kernel_rfl)) (by unfold Func.isWrapper; first | (rw [if_pos (by decide +kernel)]; kernel_rfl) | (rw [if_neg (by decide +kernel)]; exact ⟨rfl, rfl⟩))
    (fun os started H enc _ => lifted os started H enc)

theorem proved : Rows.FnExactIsHitSaid := over
#print axioms proved
end Go.Proofs.Ytkajhjgfmpjkoaa.fnExactIsHit
