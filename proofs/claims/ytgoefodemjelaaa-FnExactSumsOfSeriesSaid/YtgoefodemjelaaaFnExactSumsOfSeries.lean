/-
  Proved: for every input the program's SumsOfSeries returns what the reference's returns, leaves its arguments as they were, and shares no memory (Rows.FnExactSumsOfSeriesSaid).
  Conditions: none.
-/
import Derived.Test.YtgoefodemjelaaaRows
import Derived.Test.YtgoefodemjelaaaSums
import Derived.WalkKit
import Derived.ProofKit
import Derived.OpenShut
import Derived.ShutString
import Derived.ChangeOld
import Derived.Below
namespace Go.Proofs.Ytgoefodemjelaaa.fnExactSumsOfSeries
open Go.ChangeShapes Go.WideShapes Go.ChangeAt Go.RowKit
open Go.ChangeMaps (open_string shut_string)
set_option linter.unusedVariables false

theorem own : ownKnob Try.prog.godebug = none := by kernel_rfl
theorem laidOut : laidOutB Try.prog = true := by kernel_rfl


/-- The law, over whatever both sides answer alike. -/
theorem core  (A : Option Addr) (l c : Nat) (zs : List Int) (n : Nat) (xs : List Int) (k : Int) (hl : l ≤ 1048576) (hn : n ≤ 1100000)
    (hS : ∀ A c w, RdS w w.heap.size A l c zs → Calls Try.prog 32 #[.slice A l c] w (RetSC n xs k w))
    (hI : ∀ A c w, RdS w w.heap.size A l c zs → Calls Try.prog 33 #[.slice A l c] w (RetSC n xs k w)) (w : World) (h : RdS w w.heap.size A l c zs) :
    Calls Try.prog 8 #[.slice A l c] w fun e w' => e = .returned (.bool true) ∧ Below w.heap.size w w' := by
  have HS := Lib.hid hS; clear hS
  have HI := Lib.hid hI; clear hI
  have H := Lib.hid h; clear h
  go_enter Try.func8, Try.ntmps8
  go_wp2_with fail
  refine (toS_any A c l zs _ H.out (by omega)).mono ?_
  rintro e w1 ⟨A1, c1, rfl, ho1, hb1⟩
  have R1 := Lib.hid ho1.rd; clear ho1
  have B1 := Lib.hid hb1; clear hb1
  go_wp2_with fail
  refine (HS.out A1 c1 _ R1.out).mono ?_
  rintro e w2 ⟨A2, c2, rfl, ho2, hb2⟩
  have W2 := Lib.hid ho2.rd; clear ho2
  have B2 := Lib.hid (B1.out.trans (hb2.mono B1.out.size)); clear hb2
  go_wp2_with fail
  refine (toS_any A c l zs _ ((H.out.below B2.out).mono B2.out.size) (by omega)).mono ?_
  rintro e w3 ⟨A3, c3, rfl, ho3, hb3⟩
  have X3 := Lib.hid ho3; clear ho3
  have W3 := Lib.hid (W2.out.below hb3)
  have S3 := Lib.hid hb3.size
  have B3 := Lib.hid (B2.out.trans (hb3.mono B2.out.size)); clear hb3
  go_wp2_with fail
  refine (HI.out A3 c3 _ X3.out.rd).mono ?_
  rintro e w4 ⟨A4, c4, rfl, ho4, hb4⟩
  have G4 := Lib.hid ho4; clear ho4
  have X4 := Lib.hid (X3.out.below hb4)
  have W4 := Lib.hid (W3.out.below (hb4.mono S3.out))
  have S4 := Lib.hid hb4.size
  have L3 := Lib.hid (fun g hg => (X3.out.own.lt g hg).2)
  have B4 := Lib.hid (B3.out.trans (hb4.mono B3.out.size)); clear hb4
  go_wp2_with fail
  refine (eqS_any A4 A2 c4 c2 n n xs xs _ _ _ G4.out.rd W4.out (by omega) (by omega)).mono ?_
  rintro e w5 ⟨rfl, q5, rfl⟩
  rw [decide_eq_true (rfl : xs = xs)]
  go_wp2_with fail
  refine (toS_any A c l zs _ ((H.out.below (below_drewN B4.out q5)).mono (below_drewN B4.out q5).size) (by omega)).mono ?_
  rintro e w6 ⟨A6, c6, rfl, ho6, hb6⟩
  have R6 := Lib.hid ho6.rd; clear ho6
  have G6 := Lib.hid ((G4.out.drewN q5).below hb6)
  have X6 := Lib.hid ((X4.out.drewN q5).below hb6)
  have W6 := Lib.hid ((W4.out.drewN q5).below (hb6.mono (Nat.le_trans S3.out S4.out)))
  have S6 := Lib.hid (show w4.heap.size ≤ w6.heap.size from hb6.size)
  have B6 := Lib.hid ((below_drewN B4.out q5).trans (hb6.mono B4.out.size)); clear hb6
  go_wp2_with fail
  refine (eqS_any A3 A6 c3 c6 l l zs zs _ _ _ X6.out.rd R6.out (by omega) (by omega)).mono ?_
  rintro e w7 ⟨rfl, q7, rfl⟩
  rw [decide_eq_true (rfl : zs = zs)]
  go_wp2_with fail
  refine (markS_any A3 c3 l zs _ _ 1 (X6.out.drewN q7) (by omega) (by omega) (by omega)).mono ?_
  rintro e w8 ⟨rfl, ho8, hg8⟩
  clear ho8
  have G8 := Lib.hid ((G6.out.drewN q7).grown hg8 (fun ad had e => by have h1 := (G6.out.lt had).1; have h2 := L3.out _ e.symm; omega))
  have W8 := Lib.hid ((W6.out.drewN q7).grown hg8 (by have := S3.out; have := S4.out; have := S6.out; show w2.heap.size ≤ w6.heap.size; omega) X6.out.row)
  have S8 := Lib.hid (show w6.heap.size ≤ w8.heap.size from hg8.size)
  have B8 := Lib.hid ((below_drewN B6.out q7).grown hg8 B6.out.size (fun g hg => Nat.le_trans B2.out.size (X6.out.row g hg))); clear hg8
  go_wp2_with fail
  refine (eqS_any A4 A2 c4 c2 n n xs xs _ _ _ G8.out.rd W8.out (by omega) (by omega)).mono ?_
  rintro e w9 ⟨rfl, q9, rfl⟩
  rw [decide_eq_true (rfl : xs = xs)]
  go_wp2_with fail
  refine (markS_any A4 c4 n xs _ _ 1 (G8.out.drewN q9) (by omega) (by omega) (by omega)).mono ?_
  rintro e w10 ⟨rfl, ho10, hg10⟩
  have O10 := Lib.hid ho10; clear ho10
  have W10 := Lib.hid ((W8.out.drewN q9).grown hg10 (by have := S3.out; have := S4.out; have := S6.out; have := S8.out; show w2.heap.size ≤ w8.heap.size; omega) (fun g hg => Nat.le_trans S3.out (G8.out.row g hg)))
  have S10 := Lib.hid (show w8.heap.size ≤ w10.heap.size from hg10.size)
  have B10 := Lib.hid ((below_drewN B8.out q9).grown hg10 B8.out.size (fun g hg => Nat.le_trans B3.out.size (G8.out.row g hg))); clear hg10
  go_wp2_with fail
  refine (heldS_any A4 c4 n _ _ 1 O10.out.rd (by omega) (by omega) (by omega)).mono ?_
  rintro e w11 ⟨rfl, rfl⟩
  go_wp2_with fail
  refine (toS_any A c l zs _ ((H.out.below B10.out).mono B10.out.size) (by omega)).mono ?_
  rintro e w12 ⟨A12, c12, rfl, ho12, hb12⟩
  have R12 := Lib.hid ho12.rd; clear ho12
  have O12 := Lib.hid (O10.out.below hb12)
  have W12 := Lib.hid (W10.out.below (hb12.mono (by have := S3.out; have := S4.out; have := S6.out; have := S8.out; have := S10.out; omega)))
  have S12 := Lib.hid hb12.size
  have B12 := Lib.hid (B10.out.trans (hb12.mono B10.out.size)); clear hb12
  go_wp2_with fail
  refine (HI.out A12 c12 _ R12.out).mono ?_
  rintro e w13 ⟨A13, c13, rfl, ho13, hb13⟩
  have R13 := Lib.hid ho13.rd; clear ho13
  have O13 := Lib.hid (O12.out.below hb13)
  have W13 := Lib.hid (W12.out.below (hb13.mono (by have := S3.out; have := S4.out; have := S6.out; have := S8.out; have := S10.out; have := S12.out; omega)))
  have B13 := Lib.hid (B12.out.trans (hb13.mono B12.out.size)); clear hb13
  go_wp2_with fail
  refine (eqS_any A13 A2 c13 c2 n n xs xs _ _ _ R13.out W13.out (by omega) (by omega)).mono ?_
  rintro e w14 ⟨rfl, q14, rfl⟩
  rw [decide_eq_true (rfl : xs = xs)]
  go_wp2_with fail
  refine (heldS_any A4 c4 n _ _ 1 (O13.out.drewN q14).rd (by omega) (by omega) (by omega)).mono ?_
  rintro e w15 ⟨rfl, rfl⟩
  go_wp2_with fail
  go_ret
  exact ⟨rfl, below_drewN B13.out _⟩
theorem big  (A : Option Addr) (l c : Nat) (hbig : ¬ l ≤ 1048576) (hmx : l ≤ 9223372036854775807) (w : World) :
    Calls Try.prog 8 #[.slice A l c] w fun e w' => e = .returned (.bool true) ∧ Below w.heap.size w w' := by
  go_enter Try.func8, Try.ntmps8
  go_wp2_with fail
  go_ret
  exact ⟨rfl, Below.refl _ _⟩

/-! The walk of the law: it returns true and writes nothing that was there. -/
theorem walk (a0 : Option Addr) (len0 cap0 : Nat) (z0 : List Int) (w : World) (w0 : IsRow .i64 w a0 len0 cap0 z0) :
    Calls Try.prog 8 #[.slice a0 len0 cap0] w fun e w' => e = .returned (.bool true) ∧ Below w.heap.size w w' := by
  have hw0 := Lib.hid w0; clear w0
  by_cases hbig : len0 ≤ 1048576
  · obtain ⟨n, xs, k, hn, hS, hI⟩ := SumsOfSeries_both len0 (z0.take len0) (by rw [(isRow_rd hw0.out).len]) hbig (isRow_wf hw0.out)  
    exact core  a0 len0 cap0 _ n xs k hbig hn hS hI w (isRow_rd hw0.out)
  · exact big  a0 len0 cap0 hbig (by
      rcases hw0.out with ⟨_, rfl, _⟩ | ⟨_, _, h1, h2, _⟩
      · omega
      · unfold maxLen at h2; omega) w

set_option maxRecDepth 100000 in
theorem lifted (os : Os) (started : os.Started) (H : Type) (enc : TypeId × Value → H) :
    ReturnsInHanded {} Try.checked os 8 .any (Rows.fnExactSumsOfSeriesSpec.pre6 enc Try.prog Try.f8 Rows.fnExactSumsOfSeriesRow.domain false) (Rows.fnExactSumsOfSeriesSpec.post enc Try.prog Try.f8 false true false false) := by
  refine returnsInHanded_of_change (C := Try.checked) own started (by kernel_rfl) Try.func8
    (ChangeSpec.witness6 (enc := enc) (C := Try.checked) false ⟨#[], #[.slice none 0 0], []⟩ 8 (by kernel_rfl) (by kernel_rfl) (by kernel_rfl) (by kernel_rfl)) ?_
  intro W base args ds gs before hval0 hW hcnd _
  have hval : ∀ (j : Nat) t v, Try.f8.params[j]? = some t → args[j]? = some v → Value.okWide Try.prog W .any base t v := hval0
  have hW' := hW
  obtain ⟨p, q, hA0, hV, rfl, hfz, hnd⟩ := hW
  have hA : DataW.TrodAll enc Try.prog W 0 (fun _ => true) true Try.f8.params.toList args.toList ds p := hA0
  rw [Try.params8] at hA hval
  obtain ⟨v0, vs0, d0, ds0, p0, q0, hargs, rfl, rfl, h0, r0⟩ := trodAll_cons hA
  obtain ⟨rfl, rfl, rfl⟩ := trodAll_nil r0
  obtain rfl : args = #[v0] := by cases args; simp_all
  obtain ⟨rfl, rfl⟩ := trodVars_none hV
  obtain ⟨a0, len0, cap0, rfl⟩ := okWide_slice Try.underlying22 (hval 0 22 v0 rfl rfl)
  have k0 := h0
  have lt0 : ∀ x ∈ p0, x.block < W.heap.size := by obtain ⟨m, hm⟩ := k0; exact DataW.trod_lt m _ _ _ hm
  obtain ⟨z0, w0⟩ : ∃ zs, IsRow .i64 W a0 len0 cap0 zs := by
    obtain ⟨fuel, hf⟩ := h0
    rcases open_ints Try.underlying22 Try.underlying2 (by kernel_rfl) hf with ⟨hcs, _⟩ | ⟨x, l, c, zs, hcs, _, hl, hm, hz, _, hcell, hwz⟩
    · simp [Value.cells] at hcs
      obtain ⟨rfl, rfl, rfl⟩ := hcs
      exact ⟨[], .inl ⟨rfl, rfl, rfl, rfl⟩⟩
    · simp [Value.cells] at hcs
      obtain ⟨rfl, rfl, rfl⟩ := hcs
      exact ⟨zs, .inr ⟨_, rfl, hl, hm, by simpa using hz, hcell, hwz⟩⟩
  clear hA0 hval0
  refine (walk a0 len0 cap0 z0 W w0).mono fun e W' ⟨he, bel⟩ => ?_
  subst he
  exact ⟨_, rfl, _, _, _, [], _, [], hW', trodAll_mk1 (shut_bool Try.underlying4 _), (trodAll_cons_mk (Below.trod laidOut (by kernel_rfl) (of_decide_eq_true (by kernel_rfl)) k0 bel lt0) trodAll_mk0), rfl, bel.frame _, fun h => by cases h⟩

theorem over : Rows.fnExactSumsOfSeriesRow.holds Try.pinned (OpenSpec.ofChange Rows.fnExactSumsOfSeriesSpec) :=
  OpenClaim.holds_of_wide 8 Try.f8 rfl rfl rfl rfl rfl rfl rfl ⟨rfl, rfl, rfl, rfl, rfl⟩ rfl rfl rfl rfl rfl (by kernel_rfl) Try.func8 (by kernel_rfl)
    (of_decide_eq_true (by kernel_rfl)) (by unfold Func.isWrapper; first | (rw [if_pos (by decide +kernel)]; kernel_rfl) | (rw [if_neg (by decide +kernel)]; exact ⟨rfl, rfl⟩))
    (fun os started H enc _ => lifted os started H enc)

theorem proved : Rows.FnExactSumsOfSeriesSaid := over
#print axioms proved
end Go.Proofs.Ytgoefodemjelaaa.fnExactSumsOfSeries
