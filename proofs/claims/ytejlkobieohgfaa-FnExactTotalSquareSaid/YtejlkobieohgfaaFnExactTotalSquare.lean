/-
  Proved: for every input the program's TotalSquare returns what the reference's returns, leaves its arguments as they were, and shares no memory (Rows.FnExactTotalSquareSaid).
  Conditions: none.
-/
import Derived.Test.YtejlkobieohgfaaRows
import Derived.Test.YtejlkobieohgfaaLwTotalSquare
import Derived.Test.YtejlkobieohgfaaOpen
import Derived.WalkKit
import Derived.ProofKit
import Derived.OpenShut
import Derived.ShutString
namespace Go.Proofs.Ytejlkobieohgfaa.fnExactTotalSquare
open Go.ChangeShapes Go.WideShapes Go.ChangeAt Go.RowKit Go.Lib
open Go.ChangeMaps (open_string shut_string)
set_option linter.unusedVariables false

theorem own : ownKnob Try.prog.godebug = none := by kernel_rfl
theorem laidOut : laidOutB Try.prog = true := by kernel_rfl

theorem toldV_total (v : Int) (s : List (List Int)) (c : Nat) (h : ∀ x ∈ s, x.length ≤ c) : (toldV v s).2.1.length ≤ 2000 ∧ totalL (toldV v s).2.1 ≤ 2000 * c := by
  unfold toldV
  split
  · simp [totalL]
  · rename_i h2
    have h3 := totalL_le s c h
    refine ⟨by show s.length ≤ 2000; omega, Nat.le_trans h3 ?_⟩
    exact Nat.mul_le_mul (by omega) (Nat.le_refl _)
theorem squO_bounds (v i : Int) (f : List (List Int)) : (squO v f i).2.1.length ≤ 2000 ∧ totalL (squO v f i).2.1 ≤ 8000 := by
  unfold squO
  split
  · rename_i hp
    split
    · split
      · simp [totalL]
      · have hf := polF_of hp
        exact toldV_total v _ 4 fun x hx => by
          obtain ⟨p, hp1, hz⟩ := List.mem_flatMap.1 (oddL_mem hx)
          have h1 := hf.each p hp1
          have := (sqW_deg (fun a ha => (h1.2.1 a ha).1) x hz).2.2
          have := hf.hi
          omega
    · simp [totalL]
  · simp [totalL]
theorem totalQ_le (ps : Pls) (b : Nat) (h : ∀ p ∈ ps, 1 + totalL p.2 ≤ b) : totalQ ps ≤ ps.length * b := by
  induction ps with
  | nil => simp [totalQ]
  | cons p ps ih =>
    have h1 := h p (by simp)
    have h2 := ih fun q hq => h q (List.mem_cons_of_mem _ hq)
    rw [totalQ_cons, List.length_cons, Nat.add_mul, Nat.one_mul]
    omega
theorem totP_bounds (v : Int) (f : List (List Int)) (n : Nat) (hn : n ≤ 41) : (totP v f n).length ≤ 41 ∧ totalQ (totP v f n) ≤ 1000000 ∧ ∀ p ∈ totP v f n, p.2.length ≤ 2000 := by
  have hm : ∀ p ∈ totP v f n, ∃ i : Nat, p = ((squO v f (i : Nat)).1, (squO v f (i : Nat)).2.1) := fun p hp => by
    unfold totP at hp
    obtain ⟨i, _, rfl⟩ := List.mem_map.1 hp
    exact ⟨i, rfl⟩
  refine ⟨by rw [totP_length]; exact hn, ?_, fun p hp => ?_⟩
  · refine Nat.le_trans (totalQ_le _ 8001 fun p hp => ?_) ?_
    · obtain ⟨i, rfl⟩ := hm p hp
      have := (squO_bounds v i f).2
      show 1 + totalL (squO v f i).2.1 ≤ 8001
      omega
    · rw [totP_length]
      exact Nat.le_trans (Nat.mul_le_mul_right 8001 hn) (by decide)
  · obtain ⟨i, rfl⟩ := hm p hp
    exact (squO_bounds v i f).1
theorem totO_bounds (v : Int) (f : List (List Int)) : (totO v f).1.length ≤ 1000000 ∧ totalQ (totO v f).1 ≤ 100000000 ∧ ∀ p ∈ (totO v f).1, p.2.length ≤ 1000000000000 := by
  have h0 : ([] : Pls).length ≤ 1000000 ∧ totalQ [] ≤ 100000000 ∧ ∀ p ∈ ([] : Pls), p.2.length ≤ 1000000000000 := ⟨by simp, by simp [totalQ], fun p hp => by cases hp⟩
  unfold totO
  split
  · split
    · exact h0
    · split
      · exact h0
      · rename_i h _ _ _
        obtain ⟨h1, h2, h3⟩ := totP_bounds v f ((degL f).toNat + 1) (by omega)
        exact ⟨by show (totP v f ((degL f).toNat + 1)).length ≤ 1000000; omega, by show totalQ (totP v f ((degL f).toNat + 1)) ≤ 100000000; omega, fun p hp => by have := h3 p hp; omega⟩
  · exact h0

/-! The walk of the law: it returns true and writes nothing that was there. -/
theorem walk (a0 : Int) (A0 : Option Addr) (n0 c0 : Nat) (xss0 : List (List Int)) (w : World) (i0 : (Lit.int .i64 a0).wf = true) (h0 : RdL w w.heap.size A0 n0 c0 xss0) (m0 : n0 ≤ 9223372036854775807) (e0 : ∀ x ∈ xss0, x.length ≤ 9223372036854775807) (f0 : ∀ x ∈ xss0, ∀ i ∈ x, (Lit.int .i64 i).wf = true) :
    Calls Try.prog 9 #[.agg #[.int .i64 a0, .slice A0 n0 c0]] w fun e w' => e = .returned (.bool true) ∧ Below w.heap.size w w' := by
  by_cases hs : n0 + totalL xss0 ≤ 1048576
  · exact coreTotalSquare a0 A0 n0 c0 xss0 _ _ _ (totO_bounds a0 xss0).1 (totO_bounds a0 xss0).2.1 (totO_bounds a0 xss0).2.2 w h0 e0 hs
      (fun A0 c0 w r0 => sTotalSquare a0 A0 n0 c0 xss0 w r0 (by omega) (by omega))
      (fun A0 c0 w r0 => iTotalSquare a0 A0 n0 c0 xss0 w r0 (by omega) (by omega))
  · exact bigTotalSquare0 a0 A0 n0 c0 xss0 w h0 m0 e0 hs

set_option maxRecDepth 100000 in
theorem lifted (os : Os) (started : os.Started) (H : Type) (enc : TypeId × Value → H) :
    ReturnsInHanded {} Try.checked os 9 .any (Rows.fnExactTotalSquareSpec.pre6 enc Try.prog Try.f9 Rows.fnExactTotalSquareRow.domain false) (Rows.fnExactTotalSquareSpec.post enc Try.prog Try.f9 false true false false) := by
  refine returnsInHanded_of_change (C := Try.checked) own started (by kernel_rfl) Try.func9
    (ChangeSpec.witness6 (enc := enc) (C := Try.checked) false ⟨#[], #[.agg #[.int .i64 0, .slice none 0 0]], []⟩ 8 (by kernel_rfl) (by kernel_rfl) (by kernel_rfl) (by kernel_rfl)) ?_
  intro W base args ds gs before hval0 hW hcnd _
  have hval : ∀ (j : Nat) t v, Try.f9.params[j]? = some t → args[j]? = some v → Value.okWide Try.prog W .any base t v := hval0
  have hW' := hW
  obtain ⟨p, q, hA0, hV, rfl, hfz, hnd⟩ := hW
  have hA : DataW.TrodAll enc Try.prog W 0 (fun _ => true) true Try.f9.params.toList args.toList ds p := hA0
  rw [Try.params9] at hA hval
  obtain ⟨v0, vs0, d0, ds0, p0, q0, hargs, rfl, rfl, g0, r0⟩ := trodAll_cons hA
  obtain ⟨rfl, rfl, rfl⟩ := trodAll_nil r0
  obtain rfl : args = #[v0] := by cases args; simp_all
  obtain ⟨rfl, rfl⟩ := trodVars_none hV
  have k0 := g0
  have lt0 : ∀ x ∈ p0, x.block < W.heap.size := by obtain ⟨m, hm⟩ := k0; exact DataW.trod_lt m _ _ _ hm
  obtain ⟨s0, u0, z0, y0, N0, hv0, _, _, tz0, t0⟩ := Go.Joins.open_agg2 Try.underlying39 (by kernel_rfl) (by kernel_rfl) (hval 0 39 v0 rfl rfl) g0
  obtain ⟨a0, hs0, _, i0⟩ := DataW.trod_int Try.underlying2 tz0
  obtain ⟨A0, n0, c0, xss0, hu0, h0, m0, e0, f0⟩ := open_lists Try.underlying22 Try.underlying29 Try.underlying2 (by kernel_rfl) (by kernel_rfl) t0
  simp only [List.cons.injEq, and_true] at hs0
  subst hs0
  subst hu0
  subst hv0
  clear hA0 hval0
  refine (walk a0 A0 n0 c0 xss0 W i0 h0 m0 e0 f0).mono fun e W' ⟨he, bel⟩ => ?_
  subst he
  exact ⟨_, rfl, _, _, _, [], _, [], hW', trodAll_mk1 (shut_bool Try.underlying4 _), (trodAll_cons_mk (Below.trod laidOut (by kernel_rfl) (of_decide_eq_true (by kernel_rfl)) k0 bel lt0) trodAll_mk0), rfl, bel.frame _, fun h => by cases h⟩

theorem over : Rows.fnExactTotalSquareRow.holds Try.pinned (OpenSpec.ofChange Rows.fnExactTotalSquareSpec) :=
  OpenClaim.holds_of_wide 9 Try.f9 rfl rfl rfl rfl rfl rfl rfl ⟨rfl, rfl, rfl, rfl, rfl⟩ rfl rfl rfl rfl rfl (by kernel_rfl) Try.func9 (by kernel_rfl)
    (of_decide_eq_true (by kernel_rfl)) (by unfold Func.isWrapper; first | (rw [if_pos (by decide +kernel)]; kernel_rfl) | (rw [if_neg (by decide +kernel)]; exact ⟨rfl, rfl⟩))
    (fun os started H enc _ => lifted os started H enc)

theorem proved : Rows.FnExactTotalSquareSaid := over
#print axioms proved
end Go.Proofs.Ytejlkobieohgfaa.fnExactTotalSquare
