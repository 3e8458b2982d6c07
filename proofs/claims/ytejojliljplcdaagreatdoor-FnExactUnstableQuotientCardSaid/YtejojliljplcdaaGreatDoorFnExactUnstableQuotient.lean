/-
  Proved: for every input the program's UnstableQuotient returns what the reference's returns, leaves its arguments as they were, and shares no memory (Rows.FnExactUnstableQuotientSaid).
  Conditions: none.
-/
import Derived.Test.YtejojliljplcdaaGreatDoorCards
import Derived.Test.YtejojliljplcdaaGreatDoorTie
import Derived.Test.YtejojliljplcdaaGreatDoorDebL
import Derived.SevenTiedAt
import Derived.Test.YtejojliljplcdaaGreatDoorLwUnstableQuotient
import Derived.Test.YtejojliljplcdaaGreatDoorPutP
import Derived.Test.YtejojliljplcdaaGreatDoorQuoP
import Derived.Test.YtejojliljplcdaaGreatDoorOpen
import Derived.WalkKit
import Derived.ProofKit
import Derived.OpenShut
import Derived.ShutString
namespace Go.Proofs.YtejojliljplcdaaGreatDoor.fnExactUnstableQuotient
open Go.ChangeShapes Go.WideShapes Go.ChangeAt Go.RowKit Go.Lib
open Go.ChangeMaps (open_string shut_string)
set_option linter.unusedVariables false

theorem own : ownKnob Tryz.prog.godebug = none := by kernel_rfl
theorem laidOut : laidOutB Tryz.prog = true := by kernel_rfl

theorem uq_bounds (ds : List Int) (act : List (List Int)) : (uqD ds act).length ≤ 1000 ∧ (uqA ds act).length ≤ 100000 ∧ totalL (uqA ds act) ≤ 10000000 ∧ (uqI ds act).length ≤ 1000 ∧ totalL (uqI ds act) ≤ 10000000 := by
  unfold uqD uqA uqI
  by_cases h : modB ds act = true
  · rw [if_pos h, if_pos h, if_pos h]
    have hl := (modB_tabF h).len
    have h1 := quD_len (uqS ds act) ds
    have h2 := quA_len (uqS ds act) ds act hl
    have h3 : totalL (quA (uqS ds act) ds act) ≤ 100 * (quA (uqS ds act) ds act).length := totalL_three fun x hx => by rw [quA_mem hx]; decide
    have h4 := quI_len (uqS ds act) ds
    have h5 : totalL (quI (uqS ds act) ds) ≤ 100 * (quI (uqS ds act) ds).length := totalL_three fun x hx => Nat.le_trans (quI_mem hx hl) (by decide)
    omega
  · rw [if_neg h, if_neg h, if_neg h]
    simp [totalL]

/-! The walk of the law: it returns true and writes nothing that was there. -/
theorem walk (D0 : Option Addr) (d0 q0 : Nat) (ds0 : List Int) (A0 : Option Addr) (n0 c0 : Nat) (xss0 : List (List Int)) (w : World) (hT : Deb w) (g0 : RdS w w.heap.size D0 d0 q0 ds0) (y0 : d0 ≤ 9223372036854775807) (h0 : RdL w w.heap.size A0 n0 c0 xss0) (m0 : n0 ≤ 9223372036854775807) (e0 : ∀ x ∈ xss0, x.length ≤ 9223372036854775807) (f0 : ∀ x ∈ xss0, ∀ i ∈ x, (Lit.int .i64 i).wf = true) :
    Calls Tryz.prog 3 #[.agg #[.slice D0 d0 q0, .slice A0 n0 c0]] w fun e w' => e = .returned (.bool true) ∧ Below w.heap.size w w' := by
  have g : RdMd w w.heap.size D0 d0 q0 ds0 A0 n0 c0 xss0 := ⟨g0, h0⟩
  by_cases hs : d0 + (n0 + totalL xss0) ≤ 1048576
  · obtain ⟨b1, b2, b3, b4, b5⟩ := uq_bounds ds0 xss0
    exact coreUnstableQuotient D0 d0 q0 ds0 A0 n0 c0 xss0 _ _ _ (uqK ds0 xss0) b1 b2 b3 b4 b5 w hT g e0 hs
      (fun D0 A0 q0 c0 w r0 => (sUnstableQuotient_any D0 A0 d0 q0 n0 c0 ds0 xss0 w ⟨r0.ds, r0.act⟩ (by omega) (by omega) (by omega)).mono fun _ _ h => h.rd)
      (fun D0 A0 q0 c0 w hT r0 => (iUnstableQuotient_any D0 A0 d0 q0 n0 c0 ds0 xss0 w hT ⟨r0.ds, r0.act⟩ (by omega) (by omega) (by omega)).mono fun _ _ h => h.ow)
  · exact bigUnstableQuotient0 D0 d0 q0 ds0 A0 n0 c0 xss0 w g y0 m0 e0 hs

theorem door_met (os : Os) (args : Array Value) : laidMetH Tryz.prog Rows.fnExactUnstableQuotientRow.laid ((World.doorLaid Tryz.prog 14 os).forCall (fun _ _ => 0) ⟨#[], args, []⟩).memory :=
  laidMetH_of_parts3 (fuel := 8) (laidMet_of_run' 8 (by kernel_rfl) (by kernel_rfl)) (by kernel_rfl) (by kernel_rfl)

set_option maxRecDepth 100000 in
theorem lifted (os : Os) (started : os.Started) (H : Type) (enc : TypeId × Value → H) :
    ReturnsInHanded {} Tryz.checked os 3 .any (fun w args => (Rows.fnExactUnstableQuotientSpec.pre enc Tryz.prog Tryz.f3 [] false w args ∧ laidMetH Tryz.prog Rows.fnExactUnstableQuotientRow.laid w) ∧ sizedMet enc Tryz.prog Tryz.f3 (OpenSpec.ofChange Rows.fnExactUnstableQuotientSpec) false w args)
      (Rows.fnExactUnstableQuotientSpec.post enc Tryz.prog Tryz.f3 false true false false) := by
  refine returnsInHanded_of_change_and (C := Tryz.checked) (X := fun w _ => laidMetH Tryz.prog Rows.fnExactUnstableQuotientRow.laid w) (fun _ _ _ hh h => h.of_heap hh) own started (by kernel_rfl) Tryz.func3
    (ChangeSpec.witness_shaped (enc := enc) (C := Tryz.checked) (os := os) (X := fun w _ => laidMetH Tryz.prog Rows.fnExactUnstableQuotientRow.laid w) false (World.doorLaid Tryz.prog 14 os) #[.agg #[.slice none 0 0, .slice none 0 0]] 8 rfl (World.shaped_of_RefB (by kernel_rfl) (by kernel_rfl)) (by kernel_rfl) (by kernel_rfl) (by kernel_rfl) (door_met os _)) ?_
  intro W base args ds gs before hval0 hW _ _ hL _
  have hval : ∀ (j : Nat) t v, Tryz.f3.params[j]? = some t → args[j]? = some v → Value.okWide Tryz.prog W .any base t v := hval0
  have hW' := hW
  obtain ⟨p, q, hA0, hV, rfl, hfz, hnd⟩ := hW
  have hA : DataW.TrodAll enc Tryz.prog W 0 (fun _ => true) true Tryz.f3.params.toList args.toList ds p := hA0
  rw [Tryz.params3] at hA hval
  obtain ⟨v0, vs0, d0, ds0, p0, q0, hargs, rfl, rfl, g0, r0⟩ := trodAll_cons hA
  obtain ⟨rfl, rfl, rfl⟩ := trodAll_nil r0
  obtain rfl : args = #[v0] := by cases args; simp_all
  obtain ⟨rfl, rfl⟩ := trodVars_none hV
  have k0 := g0
  have lt0 : ∀ x ∈ p0, x.block < W.heap.size := by obtain ⟨m, hm⟩ := k0; exact DataW.trod_lt m _ _ _ hm
  obtain ⟨s0, u0, z0, y0, N0, hv0, _, _, tz0, t0⟩ := Go.Joins.open_agg2 Tryz.underlying25 (by kernel_rfl) (by kernel_rfl) (hval 0 25 v0 rfl rfl) g0
  obtain ⟨D0, d0, q0, ds0, hs0, k0d, k0y, _⟩ := open_row Tryz.underlying22 Tryz.underlying2 (by kernel_rfl) tz0
  obtain ⟨A0, n0, c0, xss0, hu0, h0, m0, e0, f0⟩ := open_lists Tryz.underlying23 Tryz.underlying22 Tryz.underlying2 (by kernel_rfl) (by kernel_rfl) t0
  subst hs0
  subst hu0
  subst hv0
  clear hA0 hval0
  have hT : Deb W := deb_of_laid hL
  refine (walk D0 d0 q0 ds0 A0 n0 c0 xss0 W hT k0d k0y h0 m0 e0 f0).mono fun e W' ⟨he, bel⟩ => ?_
  subst he
  exact ⟨_, rfl, _, _, _, [], _, [], hW', trodAll_mk1 (shut_bool Tryz.underlying4 _), (trodAll_cons_mk (Below.trod laidOut (by kernel_rfl) (of_decide_eq_true (by kernel_rfl)) k0 bel lt0) trodAll_mk0), rfl, bel.frame _, fun h => by cases h⟩

theorem over : Rows.fnExactUnstableQuotientRow.holds Tryz.pinned (OpenSpec.ofChange Rows.fnExactUnstableQuotientSpec) :=
  OpenClaim.holds_of_wide 3 Tryz.f3 rfl rfl rfl rfl rfl rfl rfl ⟨rfl, rfl, rfl, rfl, rfl⟩ rfl rfl rfl rfl rfl (by kernel_rfl) Tryz.func3 (by kernel_rfl)
    (of_decide_eq_true (by kernel_rfl)) (by unfold Func.isWrapper; first | (rw [if_pos (by decide +kernel)]; kernel_rfl) | (rw [if_neg (by decide +kernel)]; exact ⟨rfl, rfl⟩))
    (fun os started H enc _ => lifted os started H enc)

theorem proved : Rows.FnExactUnstableQuotientCardSaid :=
  Claim7.holds_tied_plain_at .later [] [.data] true (true, "629d49d1885bd1143862e2e263adde85b1c2bd2fd681fb89c2693ec49d9133ab") false
    over (fun _ h => by cases h) (by kernel_rfl) (fun _ h => by cases h) fnExactUnstableQuotient_row_tie rfl ⟨rfl, rfl⟩ (by kernel_rfl) rfl
    (fun f fn hf hfn => by
      obtain rfl : f = 3 := Option.some.inj ((show Tryz.prog.funcNamed "loop.example/g01154/laws.FnExactUnstableQuotient" = some 3 by kernel_rfl).symm.trans hf) |>.symm
      obtain rfl : fn = Tryz.f3 := (Option.some.inj (Tryz.func3.symm.trans hfn)).symm
      exact ⟨by kernel_rfl, fun j t ht => by
        rw [Tryz.params3] at ht
        have hm : t ∈ [25] := by simpa using Array.mem_of_getElem? ht
        have hall : ([25].all fun u => !Tryz.prog.wantsStandIn u) = true := by kernel_rfl
        exact (show Tryz.prog.wantsStandIn t = false by simpa using List.all_eq_true.1 hall t hm)⟩)
    (by kernel_rfl)
#print axioms proved
end Go.Proofs.YtejojliljplcdaaGreatDoor.fnExactUnstableQuotient
