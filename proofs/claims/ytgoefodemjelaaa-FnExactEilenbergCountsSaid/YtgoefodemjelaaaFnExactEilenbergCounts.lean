/-
  Proved: for every input the program's EilenbergCounts returns what the reference's returns, leaves its arguments as they were, and shares no memory (Rows.FnExactEilenbergCountsSaid).
  Conditions: none.
-/
import Derived.Test.YtgoefodemjelaaaRows
import Derived.Test.YtgoefodemjelaaaEil
import Derived.WalkKit
import Derived.ProofKit
import Derived.OpenShut
import Derived.ShutString
namespace Go.Proofs.Ytgoefodemjelaaa.fnExactEilenbergCounts
open Go.ChangeShapes Go.WideShapes Go.ChangeAt Go.RowKit
open Go.ChangeMaps (open_string shut_string)
set_option linter.unusedVariables false      -- a walk need not use every 'w<i>' (that an integer argument fits its kind)

theorem own : ownKnob Try.prog.godebug = none := by kernel_rfl

/-- The law, over whatever both sides answer alike. -/
theorem core (a0 : Int) (a1 : Int) (n : Nat) (xs : List Int) (k : Int) (hn : n ≤ 1000000) (hS : ∀ w, Calls Try.prog 42 #[.int .i64 a0, .int .i64 a1] w (RetSC n xs k w))
    (hI : ∀ w, Calls Try.prog 43 #[.int .i64 a0, .int .i64 a1] w (RetSC n xs k w)) (w : World) :
    Calls Try.prog 13 #[.int .i64 a0, .int .i64 a1] w fun e w' => e = .returned (.bool true) ∧ Below w.heap.size w w' := by
  have HS := Lib.hid hS; clear hS
  have HI := Lib.hid hI; clear hI
  go_enter Try.func13, Try.ntmps13
  go_wp2_with fail
  refine (HS.out _).mono ?_
  rintro e w1 ⟨A1, c1, rfl, ho1, hb1⟩
  have R1 := Lib.hid ho1.rd; clear ho1
  have B1 := Lib.hid hb1; clear hb1
  go_wp2_with fail
  refine (HI.out _).mono ?_
  rintro e w2 ⟨A2, c2, rfl, ho2, hb2⟩
  have R2 := Lib.hid (R1.out.below hb2)
  have O2 := Lib.hid ho2; clear ho2
  have S2 := Lib.hid hb2.size
  have B2 := Lib.hid (B1.out.trans (hb2.mono B1.out.size)); clear hb2
  go_wp2_with fail
  refine (eqS_any A2 A1 c2 c1 n n xs xs _ _ _ O2.out.rd R2.out (by omega) (by omega)).mono ?_
  rintro e w3 ⟨rfl, q3, rfl⟩
  rw [decide_eq_true (rfl : xs = xs)]
  go_wp2_with fail
  refine (markS_any A2 c2 n xs _ w1.heap.size 1 (O2.out.drewN q3) (by omega) (by omega) (by omega)).mono ?_
  rintro e w4 ⟨rfl, ho4, hg4⟩
  have O4 := Lib.hid ho4; clear ho4
  have R4 := Lib.hid ((R2.out.drewN q3).grown hg4 S2.out O2.out.row)
  have B4 := Lib.hid ((below_drewN B2.out q3).grown hg4 B2.out.size (fun g hg => Nat.le_trans B1.out.size (O2.out.row g hg)))
  have S4 := Lib.hid (show w1.heap.size ≤ w4.heap.size from Nat.le_trans S2.out hg4.size); clear hg4
  go_wp2_with fail
  refine (heldS_any A2 c2 n _ _ 1 O4.out.rd (by omega) (by omega) (by omega)).mono ?_
  rintro e w5 ⟨rfl, rfl⟩
  go_wp2_with fail
  refine (HI.out _).mono ?_
  rintro e w6 ⟨A6, c6, rfl, ho6, hb6⟩
  have R6 := Lib.hid (R4.out.below (hb6.mono S4.out))
  have Q6 := Lib.hid (O4.out.below hb6)
  have O6 := Lib.hid ho6; clear ho6
  have B6 := Lib.hid (B4.out.trans (hb6.mono B4.out.size)); clear hb6
  go_wp2_with fail
  refine (eqS_any A6 A1 c6 c1 n n xs xs _ _ _ O6.out.rd R6.out (by omega) (by omega)).mono ?_
  rintro e w7 ⟨rfl, q7, rfl⟩
  rw [decide_eq_true (rfl : xs = xs)]
  go_wp2_with fail
  refine (heldS_any A2 c2 n _ _ 1 (Q6.out.drewN q7).rd (by omega) (by omega) (by omega)).mono ?_
  rintro e w8 ⟨rfl, rfl⟩
  go_wp2_with fail
  go_ret
  exact ⟨rfl, below_drewN B6.out _⟩

/-! The walk of the law: it returns true and writes nothing that was there. -/
theorem walk (a0 : Int) (a1 : Int) (w0 : (Lit.int .i64 a0).wf = true) (w1 : (Lit.int .i64 a1).wf = true) (w : World) :
    Calls Try.prog 13 #[.int .i64 a0, .int .i64 a1] w fun e w' => e = .returned (.bool true) ∧ Below w.heap.size w w' := by
  obtain ⟨n, xs, k, hn, hS, hI⟩ := EilenbergCounts_both a0 a1 w0 w1
  exact core a0 a1 n xs k hn hS hI w
  -- go_enter Try.func13, Try.ntmps13
  -- go_wp2
  -- go_ret
  -- exact ⟨rfl, by repeat (first | exact Grown.refl _ | apply Grown.drew | apply Grown.alloc)⟩

set_option maxRecDepth 100000 in
theorem lifted (os : Os) (started : os.Started) (H : Type) (enc : TypeId × Value → H) :
    ReturnsInHanded {} Try.checked os 13 .any (Rows.fnExactEilenbergCountsSpec.pre6 enc Try.prog Try.f13 Rows.fnExactEilenbergCountsRow.domain false) (Rows.fnExactEilenbergCountsSpec.post enc Try.prog Try.f13 false true false false) := by
  refine returnsInHanded_of_change (C := Try.checked) own started (by kernel_rfl) Try.func13
    (ChangeSpec.witness6 (enc := enc) (C := Try.checked) false ⟨#[], #[.int .i64 0, .int .i64 0], []⟩ 8 (by kernel_rfl) (by kernel_rfl) (by kernel_rfl) (by kernel_rfl)) ?_
  intro W base args ds gs before hval0 hW hcnd _
  have hval : ∀ (j : Nat) t v, Try.f13.params[j]? = some t → args[j]? = some v → Value.okWide Try.prog W .any base t v := hval0
  have hW' := hW
  obtain ⟨p, q, hA0, hV, rfl, hfz, hnd⟩ := hW
  have hA : DataW.TrodAll enc Try.prog W 0 (fun _ => true) true Try.f13.params.toList args.toList ds p := hA0
  rw [Try.params13] at hA hval
  obtain ⟨v0, vs0, d0, ds0, p0, q0, hargs, rfl, rfl, h0, r0⟩ := trodAll_cons hA
  obtain ⟨v1, vs1, d1, ds1, p1, q1, rfl, rfl, rfl, h1, r1⟩ := trodAll_cons r0
  obtain ⟨rfl, rfl, rfl⟩ := trodAll_nil r1
  obtain rfl : args = #[v0, v1] := by cases args; simp_all
  obtain ⟨rfl, rfl⟩ := trodVars_none hV
  obtain ⟨a0, rfl, rfl, rfl, w0⟩ := open_int Try.underlying2 (hval 0 2 v0 rfl rfl) h0
  obtain ⟨a1, rfl, rfl, rfl, w1⟩ := open_int Try.underlying2 (hval 1 2 v1 rfl rfl) h1
  clear hA0 hval0
  simp only [List.append_nil] at hW'
  refine (walk a0 a1 w0 w1 W).mono fun e W' ⟨he, hg⟩ => ?_
  subst he
  exact ⟨_, rfl, _, _, _, [], [], [], hW', trodAll_mk1 (shut_bool Try.underlying4 _), (trodAll_cons_mk (shut_int Try.underlying2 w0) (trodAll_cons_mk (shut_int Try.underlying2 w1) trodAll_mk0)), rfl, hg.frame _, fun h => by cases h⟩

theorem over : Rows.fnExactEilenbergCountsRow.holds Try.pinned (OpenSpec.ofChange Rows.fnExactEilenbergCountsSpec) :=
  OpenClaim.holds_of_wide 13 Try.f13 rfl rfl rfl rfl rfl rfl rfl ⟨rfl, rfl, rfl, rfl, rfl⟩ rfl rfl rfl rfl rfl (by kernel_rfl) Try.func13 (by kernel_rfl)
    (of_decide_eq_true (by kernel_rfl)) (by unfold Func.isWrapper; first | (rw [if_pos (by decide +kernel)]; kernel_rfl) | (rw [if_neg (by decide +kernel)]; exact ⟨rfl, rfl⟩))
    (fun os started H enc _ => lifted os started H enc)

theorem proved : Rows.FnExactEilenbergCountsSaid :=
  over
#print axioms proved
end Go.Proofs.Ytgoefodemjelaaa.fnExactEilenbergCounts
