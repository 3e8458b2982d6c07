/-
  Proved: for every input the program's IsDesk returns what the reference's returns, leaves its arguments as they were, and shares no memory (Rows.FnExactIsDeskSaid).
  Conditions: none.
-/
import Derived.Test.YtdpkhgkoeoiemaaGreatRows
import Derived.Test.YtdpkhgkoeoiemaaGreatLwIsDesk
import Derived.Test.YtdpkhgkoeoiemaaGreatDeskO
import Derived.Test.YtdpkhgkoeoiemaaGreatOpen
import Derived.WalkKit
import Derived.ProofKit
import Derived.OpenShut
import Derived.ShutString
namespace Go.Proofs.YtdpkhgkoeoiemaaGreat.fnExactIsDesk
open Go.ChangeShapes Go.WideShapes Go.ChangeAt Go.RowKit Go.Lib
open Go.ChangeMaps (open_string shut_string)
set_option linter.unusedVariables false

theorem own : ownKnob Tryz.prog.godebug = none := by kernel_rfl
theorem laidOut : laidOutB Tryz.prog = true := by kernel_rfl


/-! The walk of the law: it returns true and writes nothing that was there. -/
theorem walk (D0 : DV) (X0 : DD) (w : World) (h0 : RdDesk w w.heap.size D0 X0) (l0 : LenD D0 X0) :
    Calls Tryz.prog 3 #[.agg #[.slice D0.m.A D0.m.n D0.m.c, .slice D0.s.A D0.s.n D0.s.c, .slice D0.d.A D0.d.n D0.d.c, .int .i64 X0.v, .slice D0.p.A D0.p.n D0.p.c, .slice D0.g.A D0.g.n D0.g.c, .slice D0.a.A D0.a.n D0.a.c, .slice D0.l.A D0.l.n D0.l.c]] w fun e w' => e = .returned (.bool true) ∧ Below w.heap.size w w' := by
  by_cases hs : szD D0 X0 ≤ 1048576
  · exact coreIsDesk D0 X0 w h0 l0 hs
  · exact bigIsDesk D0 X0 w h0 l0 hs

set_option maxRecDepth 100000 in
theorem lifted (os : Os) (started : os.Started) (H : Type) (enc : TypeId × Value → H) :
    ReturnsInHanded {} Tryz.checked os 3 .any (Rows.fnExactIsDeskSpec.pre6 enc Tryz.prog Tryz.f3 Rows.fnExactIsDeskRow.domain false) (Rows.fnExactIsDeskSpec.post enc Tryz.prog Tryz.f3 false true false false) := by
  refine returnsInHanded_of_change (C := Tryz.checked) own started (by kernel_rfl) Tryz.func3
    (ChangeSpec.witness6 (enc := enc) (C := Tryz.checked) false ⟨#[], #[.agg #[.slice none 0 0, .slice none 0 0, .slice none 0 0, .int .i64 0, .slice none 0 0, .slice none 0 0, .slice none 0 0, .slice none 0 0]], []⟩ 8 (by kernel_rfl) (by kernel_rfl) (by kernel_rfl) (by kernel_rfl)) ?_
  intro W base args ds gs before hval0 hW hcnd _
  have hval : ∀ (j : Nat) t v, Tryz.f3.params[j]? = some t → args[j]? = some v → Value.okWide Tryz.prog W .any base t v := hval0
  have hW' := hW
  obtain ⟨p, q, hA0, hV, rfl, hfz, hnd⟩ := hW
  have hA : DataW.TrodAll enc Tryz.prog W 0 (fun _ => true) true Tryz.f3.params.toList args.toList ds p := hA0
  rw [Tryz.params3] at hA hval
  obtain ⟨v0, vs0, d0, ds0, p0, q0, hargs, rfl, rfl, g0, r0⟩ := trodAll_cons hA
  obtain ⟨rfl, rfl, rfl⟩ := trodAll_nil r0
  obtain rfl : args = #[v0] := by cases args; simp_all
  obtain ⟨rfl, rfl⟩ := trodVars_none hV
  have k0 := g0
  have lt0 : ∀ x ∈ p0, x.block < W.heap.size := by obtain ⟨m, hm⟩ := k0; exact DataW.trod_lt m _ _ _ hm
  obtain ⟨D0, X0, hv0, h0, l0⟩ := open_desk (hval 0 34 v0 rfl rfl) g0
  subst hv0
  clear hA0 hval0
  refine (walk D0 X0 W h0 l0).mono fun e W' ⟨he, bel⟩ => ?_
  subst he
  exact ⟨_, rfl, _, _, _, [], _, [], hW', trodAll_mk1 (shut_bool Tryz.underlying4 _), (trodAll_cons_mk (Below.trod laidOut (by kernel_rfl) (of_decide_eq_true (by kernel_rfl)) k0 bel lt0) trodAll_mk0), rfl, bel.frame _, fun h => by cases h⟩

theorem over : Rows.fnExactIsDeskRow.holds Tryz.pinned (OpenSpec.ofChange Rows.fnExactIsDeskSpec) :=
  OpenClaim.holds_of_wide 3 Tryz.f3 rfl rfl rfl rfl rfl rfl rfl ⟨rfl, rfl, rfl, rfl, rfl⟩ rfl rfl rfl rfl rfl (by kernel_rfl) Tryz.func3 (by kernel_rfl)
    (of_decide_eq_true (by kernel_rfl)) (by unfold Func.isWrapper; first | (rw [if_pos (by decide +kernel)]; kernel_rfl) | (rw [if_neg (by decide +kernel)]; exact ⟨rfl, rfl⟩))
    (fun os started H enc _ => lifted os started H enc)

theorem proved : Rows.FnExactIsDeskSaid := over
#print axioms proved
end Go.Proofs.YtdpkhgkoeoiemaaGreat.fnExactIsDesk
