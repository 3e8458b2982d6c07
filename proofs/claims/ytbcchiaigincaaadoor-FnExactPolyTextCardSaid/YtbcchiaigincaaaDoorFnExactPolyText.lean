/-
  Proved: for every input the program's PolyText returns what the reference's returns, leaves its arguments as they were, and shares no memory (Rows.FnExactPolyTextSaid).
  Conditions: none.
-/
import Derived.Test.YtbcchiaigincaaaDoorCards
import Derived.Test.YtbcchiaigincaaaDoorTie
import Derived.SevenTiedAt
import Derived.LaidMore
import Derived.Lay
import Derived.FnData
import Derived.Stop.Joined
import Derived.Test.YtbcchiaigincaaaDoorLwPolyText
import Derived.Test.YtbcchiaigincaaaDoorOpen
import Derived.WalkKit
import Derived.ProofKit
import Derived.OpenShut
import Derived.ShutString
namespace Go.Proofs.YtbcchiaigincaaaDoor.fnExactPolyText
open Go.ChangeShapes Go.WideShapes Go.ChangeAt Go.RowKit Go.Lib
open Go.ChangeMaps (open_string shut_string)
set_option linter.unusedVariables false

theorem own : ownKnob Tryd.prog.godebug = none := by kernel_rfl
theorem laidOut : laidOutB Tryd.prog = true := by kernel_rfl


/-! The walk of the law: it returns true and writes nothing that was there. -/
theorem walk (a0 : Int) (A0 : Option Addr) (n0 c0 : Nat) (xss0 : List (List Int)) (w : World) (i0 : (Lit.int .i64 a0).wf = true) (h0 : RdL w w.heap.size A0 n0 c0 xss0) (m0 : n0 ≤ 9223372036854775807) (e0 : ∀ x ∈ xss0, x.length ≤ 9223372036854775807) (f0 : ∀ x ∈ xss0, ∀ i ∈ x, (Lit.int .i64 i).wf = true) :
    Calls Tryd.prog 3 #[.agg #[.int .i64 a0, .slice A0 n0 c0]] w fun e w' => e = .returned (.bool true) ∧ Below w.heap.size w w' := by
  by_cases hs : n0 + totalL xss0 ≤ 1048576
  · exact corePolyText a0 A0 n0 c0 xss0 ⟨(ptT a0 xss0).toArray⟩ (ptC a0 xss0) w h0 e0 hs
      (fun A0 c0 w r0 => sPolyText a0 A0 n0 c0 xss0 w r0 (by omega) (by omega))
      (fun A0 c0 w r0 => iPolyText a0 A0 n0 c0 xss0 w r0 (by omega) (by omega))
  · exact bigPolyText0 a0 A0 n0 c0 xss0 w h0 m0 e0 hs

theorem door_met (os : Os) (args : Array Value) : laidMetH Tryd.prog Rows.fnExactPolyTextRow.laid ((World.laidAll Tryd.prog os Rows.fnExactPolyTextRow.laid).forCall (fun _ _ => 0) ⟨#[], args, []⟩).memory := by
  rw [MakeChecks.laidMetH_plain _ _ _ (by kernel_rfl)]
  exact laidMet_laidAll _ (by kernel_rfl) (by kernel_rfl)

set_option maxRecDepth 100000 in
theorem lifted (os : Os) (started : os.Started) (H : Type) (enc : TypeId × Value → H) :
    ReturnsInHanded {} Tryd.checked os 3 .any (fun w args => (Rows.fnExactPolyTextSpec.pre enc Tryd.prog Tryd.f3 [] false w args ∧ laidMetH Tryd.prog Rows.fnExactPolyTextRow.laid w) ∧ sizedMet enc Tryd.prog Tryd.f3 (OpenSpec.ofChange Rows.fnExactPolyTextSpec) false w args)
      (Rows.fnExactPolyTextSpec.post enc Tryd.prog Tryd.f3 false true false false) := by
  have contract : ∀ (W : World) (base : Nat) (args : Array Value) (ds gs : List (DataW H)) (before : List MemPlace),
      (∀ (j : Nat) t v, Tryd.f3.params[j]? = some t → args[j]? = some v → Value.okWide Tryd.prog W .any base t v) →
      DataW.Whole enc Tryd.prog Tryd.f3.params.toList Rows.fnExactPolyTextSpec.vars false W args.toList ds gs before → laidMetH Tryd.prog Rows.fnExactPolyTextRow.laid W → W.ShapedOpen Tryd.prog →
      Calls Tryd.prog 3 args W fun e W' => ∃ v, e = .returned v ∧ Rows.fnExactPolyTextSpec.post enc Tryd.prog Tryd.f3 false true false false W args v W' := by
    intro W base args ds gs before hval0 hW hL hsh
    have hval : ∀ (j : Nat) t v, Tryd.f3.params[j]? = some t → args[j]? = some v → Value.okWide Tryd.prog W .any base t v := hval0
    have hW' := hW
    obtain ⟨p, q, hA0, hV, rfl, hfz, hnd⟩ := hW
    have hA : DataW.TrodAll enc Tryd.prog W 0 (fun _ => true) true Tryd.f3.params.toList args.toList ds p := hA0
    rw [Tryd.params3] at hA hval
    obtain ⟨v0, vs0, d0, ds0, p0, q0, hargs, rfl, rfl, g0, r0⟩ := trodAll_cons hA
    obtain ⟨rfl, rfl, rfl⟩ := trodAll_nil r0
    obtain rfl : args = #[v0] := by cases args; simp_all
    obtain ⟨rfl, rfl⟩ := trodVars_none hV
    have k0 := g0
    have lt0 : ∀ x ∈ p0, x.block < W.heap.size := by obtain ⟨m, hm⟩ := k0; exact DataW.trod_lt m _ _ _ hm
    obtain ⟨s0, u0, z0, y0, N0, hv0, _, _, tz0, t0⟩ := Go.Joins.open_agg2 Tryd.underlying24 (by kernel_rfl) (by kernel_rfl) (hval 0 24 v0 rfl rfl) g0
    obtain ⟨a0, hs0, _, i0⟩ := DataW.trod_int Tryd.underlying2 tz0
    obtain ⟨A0, n0, c0, xss0, hu0, h0, m0, e0, f0⟩ := open_lists Tryd.underlying22 Tryd.underlying38 Tryd.underlying2 (by kernel_rfl) (by kernel_rfl) t0
    simp only [List.cons.injEq, and_true] at hs0
    subst hs0
    subst hu0
    subst hv0
    clear hA0 hval0
    refine (walk a0 A0 n0 c0 xss0 W i0 h0 m0 e0 f0).mono fun e W' ⟨he, bel⟩ => ?_
    subst he
    exact ⟨_, rfl, _, _, _, [], _, [], hW', trodAll_mk1 (shut_bool Tryd.underlying4 _), (trodAll_cons_mk (Below.trod laidOut (by kernel_rfl) (of_decide_eq_true (by kernel_rfl)) k0 bel lt0) trodAll_mk0), rfl, bel.frame _, fun h => by cases h⟩
  refine returnsInHanded_of_calls own started (by kernel_rfl)
    (ChangeSpec.witness_shaped (enc := enc) (C := Tryd.checked) (os := os) (X := fun w _ => laidMetH Tryd.prog Rows.fnExactPolyTextRow.laid w) false (World.laidAll Tryd.prog os Rows.fnExactPolyTextRow.laid) #[.agg #[.int .i64 0, .slice none 0 0]] 8 (World.laidAll_os _ _ _) (World.shaped_of_ZipB (by kernel_rfl) (by kernel_rfl)) (by kernel_rfl) (by kernel_rfl) (by kernel_rfl) (door_met os _)) ?_
  intro w tape i _ hsh _ hok hpre _
  obtain ⟨_, _, _, fn', hfn', _, _, _, _, hvals⟩ := hok
  obtain rfl : fn' = Tryd.f3 := Option.some.inj (hfn'.symm.trans Tryd.func3)
  obtain ⟨⟨⟨ds, gs, before, hw, _⟩, hL⟩, _⟩ := hpre
  refine (contract (w.forCall tape i) w.heap.size i.args ds gs before hvals (DataW.Whole.of_heap (w' := w.forCall tape i) (by rfl) hw) (hL.of_heap (by rfl)) hsh).mono fun e W' ⟨v, he, hp⟩ => ?_
  subst he
  exact ChangeSpec.post_blind hp

theorem over : Rows.fnExactPolyTextRow.holds Tryd.pinned (OpenSpec.ofChange Rows.fnExactPolyTextSpec) :=
  OpenClaim.holds_of_wide 3 Tryd.f3 rfl rfl rfl rfl rfl rfl rfl ⟨rfl, rfl, rfl, rfl, rfl⟩ rfl rfl rfl rfl rfl (by kernel_rfl) Tryd.func3 (by kernel_rfl)
    (of_decide_eq_true (by kernel_rfl)) (by unfold Func.isWrapper; first | (rw [if_pos (by decide +kernel)]; kernel_rfl) | (rw [if_neg (by decide +kernel)]; exact ⟨rfl, rfl⟩))
    (fun os started H enc _ => lifted os started H enc)

theorem proved : Rows.FnExactPolyTextCardSaid :=
  Claim7.holds_tied_plain_at .later [] [.data, .data, .data] true (true, "b0e5cb80176e1303105059bc1bfe0bb9bd0155697e942bc610518470d373af82") false
    over (fun _ h => by cases h) (by kernel_rfl) (fun _ h => by cases h) fnExactPolyText_row_tie rfl ⟨rfl, rfl⟩ (by kernel_rfl) rfl
    (fun f fn hf hfn => by
      obtain rfl : f = 3 := Option.some.inj ((show Tryd.prog.funcNamed "loop.example/g01154/laws.FnExactPolyText" = some 3 by kernel_rfl).symm.trans hf) |>.symm
      obtain rfl : fn = Tryd.f3 := (Option.some.inj (Tryd.func3.symm.trans hfn)).symm
      exact ⟨by kernel_rfl, fun j t ht => by
        rw [Tryd.params3] at ht
        have hm : t ∈ [24] := by simpa using Array.mem_of_getElem? ht
        have hall : ([24].all fun u => !Tryd.prog.wantsStandIn u) = true := by kernel_rfl
        exact (show Tryd.prog.wantsStandIn t = false by simpa using List.all_eq_true.1 hall t hm)⟩)
    (by kernel_rfl)
#print axioms proved
end Go.Proofs.YtbcchiaigincaaaDoor.fnExactPolyText
