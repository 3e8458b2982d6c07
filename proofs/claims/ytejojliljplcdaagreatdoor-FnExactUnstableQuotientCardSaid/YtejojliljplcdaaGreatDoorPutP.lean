/- l02Put in plain words: a row put into reduced rows that stand by their pivots. -/
import Derived.Test.YtejojliljplcdaaGreatDoorRref
import Derived.Test.YtejojliljplcdaaGreatDoorDblP
import Derived.Test.YtejojliljplcdaaGreatDoorSpA
import Derived.Test.YtejojliljplcdaaGreatDoorDblI
import Derived.Test.YtejojliljplcdaaGreatDoorQuoP
namespace Go.Proofs.YtejojliljplcdaaGreatDoor
open Go.RowKit
set_option linter.unusedVariables false

def insQ (u : Nat) : List Nat → List Nat
  | [] => [u]
  | r :: R => if lowB u < lowB r then u :: cutB u r :: R.map (cutB u) else cutB u r :: insQ u R
theorem insQ_mem (u x : Nat) : ∀ R : List Nat, x ∈ insQ u R ↔ x ∈ R.map (cutB u) ++ [u]
  | [] => by simp [insQ]
  | r :: R => by
    unfold insQ
    split
    · simp only [List.mem_cons, List.map_cons, List.cons_append, List.mem_append, List.not_mem_nil, or_false]
      constructor
      · rintro (h | h | h)
        · exact .inr (.inr h)
        · exact .inl h
        · exact .inr (.inl h)
      · rintro (h | h | h)
        · exact .inr (.inl h)
        · exact .inr (.inr h)
        · exact .inl h
    · rw [List.mem_cons, insQ_mem u x R]
      simp
theorem insQ_asc {u : Nat} : ∀ {R : List Nat}, (∀ r ∈ R, lowB (cutB u r) = lowB r ∧ lowB u ≠ lowB r) → R.Pairwise (fun a b => lowB a < lowB b) → (insQ u R).Pairwise fun a b => lowB a < lowB b
  | [], _, _ => by simp [insQ]
  | r :: R, h, hp => by
    rw [List.pairwise_cons] at hp
    have hr := h r (by simp)
    have hR : ∀ x ∈ R, lowB (cutB u x) = lowB x ∧ lowB u ≠ lowB x := fun x hx => h x (List.mem_cons_of_mem _ hx)
    unfold insQ
    split
    · rename_i hlt
      rw [List.pairwise_cons, List.pairwise_cons, List.pairwise_map]
      refine ⟨fun x hx => ?_, fun x hx => ?_, hp.2.imp_of_mem fun {a b} ha hb hab => by rw [(hR a ha).1, (hR b hb).1]; exact hab⟩
      · rcases List.mem_cons.1 hx with rfl | hx
        · rw [hr.1]; exact hlt
        · obtain ⟨y, hy, rfl⟩ := List.mem_map.1 hx
          rw [(hR y hy).1]
          exact Nat.lt_trans hlt (hp.1 y hy)
      · obtain ⟨y, hy, rfl⟩ := List.mem_map.1 hx
        rw [hr.1, (hR y hy).1]
        exact hp.1 y hy
    · rename_i hlt
      rw [List.pairwise_cons]
      refine ⟨fun x hx => ?_, insQ_asc hR hp.2⟩
      rw [hr.1]
      rcases List.mem_append.1 ((insQ_mem u x R).1 hx) with hx | hx
      · obtain ⟨y, hy, rfl⟩ := List.mem_map.1 hx
        rw [(hR y hy).1]
        exact hp.1 y hy
      · rw [List.mem_singleton.1 hx]
        have := hr.2
        omega
def putQ (R : List Nat) (x : Nat) : List Nat := if red lowB R x = 0 then R else insQ (red lowB R x) R
theorem putQ_red {R : List Nat} (h : RedS R) (x : Nat) : RedS (putQ R x) ∧ ∀ t, Sp (putQ R x) t ↔ Sp (R ++ [x]) t := by
  have hsp := fun t => sp_addB (R := R) (g := x) (t := t) h.good
  unfold putQ
  by_cases h0 : red lowB R x = 0
  · rw [if_pos h0]
    refine ⟨h, fun t => ?_⟩
    have := hsp t
    unfold addB at this
    rw [if_pos h0] at this
    exact this
  · rw [if_neg h0]
    have hf : ∀ r ∈ R, (red lowB R x).testBit (lowB r) = false := red_free h.good.good
    have hu := lowB_bit h0
    have ha : (insQ (red lowB R x) R).Pairwise fun a b => lowB a < lowB b := insQ_asc (fun r hr => ⟨(cutB_low (h.good.pos r hr) h0 (hf r hr)).2.1, fun e => by
      have h1 := hf r hr
      rw [← e, hu.1] at h1
      cases h1⟩) h.asc
    have hA : addB R x = R.map (cutB (red lowB R x)) ++ [red lowB R x] := by unfold addB; rw [if_neg h0]
    have hg : GoodB (R.map (cutB (red lowB R x)) ++ [red lowB R x]) := by rw [← hA]; exact h.good.add
    have := hg.sorted (fun y => insQ_mem (red lowB R x) y R) ha
    exact ⟨this.1, fun t => (this.2 t).trans (by rw [← hA]; exact hsp t)⟩
theorem putQ_lt {R : List Nat} {x : Nat} (hR : ∀ r ∈ R, r < 65536) (hx : x < 65536) : ∀ r ∈ putQ R x, r < 65536 := by
  intro r hr
  unfold putQ at hr
  split at hr
  · exact hR r hr
  · rename_i h0
    have hA : addB R x = R.map (cutB (red lowB R x)) ++ [red lowB R x] := by unfold addB; rw [if_neg h0]
    exact addB_width (n := 16) hR hx r (by rw [hA]; exact (insQ_mem _ _ _).1 hr)
theorem insQ_past {u : Nat} {Q : List Nat} : ∀ {P : List Nat}, (∀ s ∈ P, ¬ lowB u < lowB s) → insQ u (P ++ Q) = P.map (cutB u) ++ insQ u Q
  | [], _ => rfl
  | s :: P, h => by
    rw [List.cons_append, insQ, if_neg (h s (by simp)), insQ_past fun x hx => h x (List.mem_cons_of_mem _ hx)]
    rfl
theorem insQ_snoc {u r : Nat} : ∀ {P : List Nat}, (∃ s ∈ P, lowB u < lowB s) → insQ u (P ++ [r]) = insQ u P ++ [cutB u r]
  | [], h => by obtain ⟨s, hs, _⟩ := h; cases hs
  | s :: P, h => by
    rw [List.cons_append, insQ, insQ]
    by_cases h1 : lowB u < lowB s
    · rw [if_pos h1, if_pos h1]; simp
    · rw [if_neg h1, if_neg h1, insQ_snoc (by
        obtain ⟨x, hx, h2⟩ := h
        rcases List.mem_cons.1 hx with rfl | hx
        · exact absurd h2 h1
        · exact ⟨x, hx, h2⟩)]
      rfl
/-- the reference's list under way: the first k rows, and whether the new row stands -/
def insK (u : Nat) (P : List Nat) (b : Bool) : List Nat := if b = true then insQ u P else P.map (cutB u)
theorem insK_done {u r : Nat} {P : List Nat} (h : ∃ s ∈ P, lowB u < lowB s) : insK u P true ++ [cutB u r] = insK u (P ++ [r]) true := by
  unfold insK; rw [if_pos rfl, if_pos rfl, insQ_snoc h]
theorem insK_now {u r : Nat} {P : List Nat} (h : ∀ s ∈ P, ¬ lowB u < lowB s) (hr : lowB u < lowB r) : (insK u P false ++ [u]) ++ [cutB u r] = insK u (P ++ [r]) true := by
  unfold insK
  rw [if_pos rfl, insQ_past h, insQ, if_pos hr]
  simp
theorem insK_not {u r : Nat} {P : List Nat} : insK u P false ++ [cutB u r] = insK u (P ++ [r]) false := by
  unfold insK
  simp
theorem insK_end {u : Nat} {P : List Nat} (h : ∀ s ∈ P, ¬ lowB u < lowB s) : insK u P false ++ [u] = insQ u P := by
  have := insQ_past (Q := []) h
  rw [List.append_nil] at this
  rw [this]
  unfold insK
  simp [insQ]
end Go.Proofs.YtejojliljplcdaaGreatDoor

/- the reduced rows of the least part that holds some rows and is closed under operations -/
namespace Go.Proofs.YtejojliljplcdaaGreatDoor
set_option linter.unusedVariables false

/-- the reduced rows of the least part that holds M and is closed under f 1 .. f N -/
noncomputable def partP (P : List Nat → Prop) : List Nat := @dite _ (∃ S, P S) (Classical.propDecidable _) (fun h => Classical.choose h) (fun _ => [])
noncomputable def partS (f : Nat → Nat → Nat) (N : Nat) (M : List Nat) : List Nat := partP fun S => RedS S ∧ ∀ t, Sp S t ↔ Clo f N M t
theorem partS_eq {f : Nat → Nat → Nat} {N : Nat} {M S : List Nat} (h1 : RedS S) (h2 : ∀ t, Sp S t ↔ Clo f N M t) : partS f N M = S := by
  have h : ∃ S, RedS S ∧ ∀ t, Sp S t ↔ Clo f N M t := ⟨S, h1, h2⟩
  unfold partS partP
  rw [dif_pos h]
  exact RedS.unique (Classical.choose_spec h).1 h1 fun t => ((Classical.choose_spec h).2 t).trans (h2 t).symm
theorem partS_same {f : Nat → Nat → Nat} {N : Nat} {M M' : List Nat} (h1 : ∀ m ∈ M, m ∈ M' ∨ m = 0) (h2 : ∀ m ∈ M', m ∈ M ∨ m = 0) : partS f N M = partS f N M' := by
  have e : (fun S => RedS S ∧ ∀ t, Sp S t ↔ Clo f N M t) = fun S => RedS S ∧ ∀ t, Sp S t ↔ Clo f N M' t := by
    funext S
    simp only [Clo.same h1 h2]
  unfold partS
  rw [e]
end Go.Proofs.YtejojliljplcdaaGreatDoor

/- l12Basis in plain words: reduced rows, degree by degree. -/
namespace Go.Proofs.YtejojliljplcdaaGreatDoor
open Go.RowKit
set_option linter.unusedVariables false

def rowsQ (M : List Nat) : List Nat := M.foldl putQ []
theorem rowsQ_snoc (M : List Nat) (x : Nat) : rowsQ (M ++ [x]) = putQ (rowsQ M) x := by unfold rowsQ; rw [List.foldl_append]; rfl
theorem rowsQ_rev : ∀ L : List Nat, RedS (rowsQ L.reverse) ∧ ∀ t, Sp (rowsQ L.reverse) t ↔ Sp L.reverse t
  | [] => ⟨RedS.nil, fun t => Iff.rfl⟩
  | x :: L => by
    have h := rowsQ_rev L
    rw [List.reverse_cons, rowsQ_snoc]
    have h2 := putQ_red h.1 x
    refine ⟨h2.1, fun t => (h2.2 t).trans ?_⟩
    rw [Sp.app, Sp.app, h.2, h.2]
theorem rowsQ_red (M : List Nat) : RedS (rowsQ M) ∧ ∀ t, Sp (rowsQ M) t ↔ Sp M t := by
  have := rowsQ_rev M.reverse
  rwa [List.reverse_reverse] at this
theorem RedS.append {R S : List Nat} (hR : RedS R) (hS : RedS S) (h : ∀ a ∈ R, ∀ b ∈ S, lowB a < lowB b ∧ b.testBit (lowB a) = false ∧ a.testBit (lowB b) = false) : RedS (R ++ S) := by
  refine ⟨⟨fun r hr => ?_, ?_⟩, ?_⟩
  · rcases List.mem_append.1 hr with hr | hr
    · exact hR.good.pos r hr
    · exact hS.good.pos r hr
  · rw [List.pairwise_append]
    exact ⟨hR.good.apart, hS.good.apart, fun a ha b hb => (h a ha b hb).2⟩
  · rw [List.pairwise_append]
    exact ⟨hR.asc, hS.asc, fun a ha b hb => (h a ha b hb).1⟩
/-- whether a mask stands in a degree -/
def fitB (ds : List Int) (d m : Nat) : Bool := anN m (degM ds (d : Int) ds.length) == 0
def basTo (ds : List Int) (M : List Nat) (D : Nat) : List Nat := (List.range D).flatMap fun d => rowsQ (M.filter (fitB ds d))
theorem basTo_succ (ds : List Int) (M : List Nat) (D : Nat) : basTo ds M (D + 1) = basTo ds M D ++ rowsQ (M.filter (fitB ds D)) := by
  unfold basTo
  rw [List.range_succ, List.flatMap_append]
  simp
/-- all digits of a mask stand at elements of a degree -/
def HomN (ds : List Int) (d m : Nat) : Prop := ∀ i, m.testBit i = true → i < ds.length ∧ ds[i]? = some (d : Int)
theorem fitB_hom {ds : List Int} {d m : Nat} : fitB ds d m = true ↔ HomN ds d m := by
  unfold fitB HomN
  rw [beq_iff_eq]
  constructor
  · intro h i hi
    have h1 : (anN m (degM ds (d : Int) ds.length)).testBit i = false := by rw [h]; simp
    unfold anN at h1
    rw [Nat.testBit_xor, Nat.testBit_and, hi, degM_bit] at h1
    by_cases hc : i < ds.length ∧ ds[i]? = some (d : Int)
    · exact hc
    · rw [decide_eq_false hc] at h1; cases h1
  · intro h
    apply Nat.eq_of_testBit_eq
    intro i
    unfold anN
    rw [Nat.testBit_xor, Nat.testBit_and, degM_bit, Nat.zero_testBit]
    cases hi : m.testBit i
    · rfl
    · rw [decide_eq_true (h i hi)]; rfl
theorem HomN.add {ds : List Int} {d a b : Nat} (ha : HomN ds d a) (hb : HomN ds d b) : HomN ds d (a ^^^ b) := fun i hi => by
  rw [Nat.testBit_xor] at hi
  cases h : a.testBit i
  · rw [h] at hi; exact hb i (by simpa using hi)
  · exact ha i h
theorem HomN.sp {ds : List Int} {d : Nat} : ∀ {R : List Nat} {t : Nat}, (∀ r ∈ R, HomN ds d r) → Sp R t → HomN ds d t
  | [], t, _, ht => by have ht : t = 0 := ht; subst ht; intro i hi; simp at hi
  | g :: gs, t, h, ht => by
    have h1 : ∀ r ∈ gs, HomN ds d r := fun x hx => h x (List.mem_cons_of_mem _ hx)
    rcases ht with ht | ht
    · exact HomN.sp h1 ht
    · have := (HomN.sp h1 ht).add (h g (by simp)); rwa [xx] at this
theorem HomN.hom {ds : List Int} {d m : Nat} (h : HomN ds d m) : Hom ds (d : Int) m := fun i hi => by
  obtain ⟨h1, h2⟩ := h i hi
  exact ⟨h1, by rw [h2]; rfl⟩
theorem HomN.of {ds : List Int} {d m : Nat} (h : Hom ds (d : Int) m) : HomN ds d m := fun i hi => by
  obtain ⟨h1, h2⟩ := h i hi
  refine ⟨h1, ?_⟩
  rw [List.getElem?_eq_getElem h1] at h2 ⊢
  exact congrArg some h2
/-- a mask all of whose digits stand in one degree -/
def HomE (ds : List Int) (m : Nat) : Prop := ∃ d, d ≤ 20 ∧ HomN ds d m
theorem HomE.of {ds : List Int} {D : Int} {m : Nat} (hst : ∀ d ∈ ds, 0 ≤ d ∧ d ≤ 20) (h : Hom ds D m) : HomE ds m := by
  by_cases h0 : m = 0
  · subst h0; exact ⟨0, by omega, fun i hi => by simp at hi⟩
  · obtain ⟨h1, h2⟩ := h _ (lowB_bit h0).1
    rw [List.getElem?_eq_getElem h1] at h2
    have h3 := hst _ (List.getElem_mem h1)
    have h2 : ds[lowB m] = D := h2
    rw [h2] at h3
    refine ⟨D.toNat, by omega, HomN.of ?_⟩
    have e : ((D.toNat : Nat) : Int) = D := by omega
    rw [e]; exact h
theorem HomE.lt {ds : List Int} {m : Nat} (h : HomE ds m) : m < 2 ^ ds.length := by
  obtain ⟨d, _, h⟩ := h
  apply Nat.lt_pow_two_of_testBit
  intro i hi
  cases e : m.testBit i
  · rfl
  · have := (h i e).1; omega
theorem HomE.two {ds : List Int} (hst : ∀ d ∈ ds, 0 ≤ d ∧ d ≤ 20) {v : Nat} (hv : v < ds.length) : HomE ds (2 ^ v) := HomE.of hst (Hom.two hv)
theorem HomE.spA {ds : List Int} {T : List Tri} (h : TriF ds T) (hst : ∀ d ∈ ds, 0 ≤ d ∧ d ≤ 20) {k m : Nat} (hm : HomE ds m) : HomE ds (spA T k m) := by
  obtain ⟨d, _, hm⟩ := hm
  exact HomE.of hst (h.hom hm.hom)
theorem HomE.sq {ds : List Int} {T : List Tri} (h : TriF ds T) (hst : ∀ d ∈ ds, 0 ≤ d ∧ d ≤ 20) {k m : Nat} (hm : HomE ds m) : HomE ds (sqF T ds.length k m) := by
  rw [h.sq hm.lt]
  exact HomE.spA h hst hm
theorem basTo_mem {ds : List Int} {M : List Nat} {D r : Nat} (h : r ∈ basTo ds M D) : ∃ d, d < D ∧ HomN ds d r ∧ r ≠ 0 ∧ Sp M r := by
  unfold basTo at h
  obtain ⟨d, hd, hr⟩ := List.mem_flatMap.1 h
  obtain ⟨h1, h2⟩ := rowsQ_red (M.filter (fitB ds d))
  have h3 := (h2 r).1 (Sp.mem hr)
  refine ⟨d, List.mem_range.1 hd, HomN.sp (fun m hm => fitB_hom.1 (List.mem_filter.1 hm).2) h3, h1.good.pos r hr, Sp.of_gen (fun g hg => Sp.mem (List.mem_filter.1 hg).1) h3⟩
theorem basTo_red {ds : List Int} (hs : sortB ds = true) (M : List Nat) : ∀ D, RedS (basTo ds M D)
  | 0 => RedS.nil
  | D + 1 => by
    rw [basTo_succ]
    refine (basTo_red hs M D).append (rowsQ_red _).1 fun a ha b hb => ?_
    obtain ⟨d, hd, hda, ha0, _⟩ := basTo_mem ha
    have hdb : HomN ds D b := HomN.sp (fun m hm => fitB_hom.1 (List.mem_filter.1 hm).2) (((rowsQ_red (M.filter (fitB ds D))).2 b).1 (Sp.mem hb))
    have hb0 := (rowsQ_red (M.filter (fitB ds D))).1.good.pos b hb
    obtain ⟨a1, a2⟩ := hda _ (lowB_bit ha0).1
    obtain ⟨b1, b2⟩ := hdb _ (lowB_bit hb0).1
    refine ⟨?_, ?_, ?_⟩
    · rcases Nat.lt_or_ge (lowB a) (lowB b) with h | h
      · exact h
      · have := sort_le hs _ _ _ _ h b2 a2
        omega
    · cases e : b.testBit (lowB a)
      · rfl
      · have := (hdb _ e).2
        rw [a2] at this
        have := Option.some.inj this
        omega
    · cases e : a.testBit (lowB b)
      · rfl
      · have := (hda _ e).2
        rw [b2] at this
        have := Option.some.inj this
        omega
theorem basTo_sp {ds : List Int} {M : List Nat} (hM : ∀ m ∈ M, HomE ds m) (t : Nat) : Sp (basTo ds M 21) t ↔ Sp M t := by
  constructor
  · exact Sp.of_gen fun g hg => by
      obtain ⟨_, _, _, _, h⟩ := basTo_mem hg
      exact h
  · refine Sp.of_gen fun m hm => ?_
    obtain ⟨d, hd, hm2⟩ := hM m hm
    have h1 : Sp (rowsQ (M.filter (fitB ds d))) m := ((rowsQ_red _).2 m).2 (Sp.mem (List.mem_filter.2 ⟨hm, fitB_hom.2 hm2⟩))
    exact Sp.of_gen (fun g hg => Sp.mem (List.mem_flatMap.2 ⟨d, List.mem_range.2 (by omega), hg⟩)) h1
theorem basTo_hom {ds : List Int} {M : List Nat} {D r : Nat} (hD : D ≤ 21) (h : r ∈ basTo ds M D) : HomE ds r := by
  obtain ⟨d, h1, h2, _⟩ := basTo_mem h
  exact ⟨d, by omega, h2⟩
theorem HomE.lt16 {ds : List Int} (hl : ds.length ≤ 16) {m : Nat} (h : HomE ds m) : m < 65536 := by
  have := h.lt
  have h2 : (2 : Nat) ^ ds.length ≤ 2 ^ 16 := Nat.pow_le_pow_right (by decide) hl
  have e : (2 : Nat) ^ 16 = 65536 := by decide
  omega
theorem rowsQ_lt {M : List Nat} (h : ∀ m ∈ M, m < 65536) : ∀ r ∈ rowsQ M, r < 65536 := by
  have key : ∀ (L R : List Nat), (∀ r ∈ R, r < 65536) → (∀ m ∈ L, m < 65536) → ∀ r ∈ L.foldl putQ R, r < 65536 := by
    intro L
    induction L with
    | nil => intro R hR _; exact hR
    | cons x L ih => intro R hR hL; exact ih _ (putQ_lt hR (hL x (by simp))) fun m hm => hL m (List.mem_cons_of_mem _ hm)
  exact key M [] (fun r hr => by cases hr) h
theorem rowsQ_len {M : List Nat} (h : ∀ m ∈ M, m < 65536) : (rowsQ M).length ≤ 16 := (rowsQ_red M).1.good.len (n := 16) (rowsQ_lt h)
theorem basTo_len {ds : List Int} {M : List Nat} (h : ∀ m ∈ M, m < 65536) : ∀ D, (basTo ds M D).length ≤ 16 * D
  | 0 => by simp [basTo]
  | D + 1 => by
    rw [basTo_succ, List.length_append]
    have h1 := basTo_len (ds := ds) h D
    have h2 : (rowsQ (M.filter (fitB ds D))).length ≤ 16 := rowsQ_len fun m hm => h m (List.mem_filter.1 hm).1
    omega
theorem filt_yes {ds : List Int} {d k m : Nat} {M : List Nat} (h : M[k]? = some m) (hf : fitB ds d m = true) : rowsQ ((M.take (k + 1)).filter (fitB ds d)) = putQ (rowsQ ((M.take k).filter (fitB ds d))) m := by
  rw [List.take_add_one, h, Option.toList_some, List.filter_append, List.filter_cons, if_pos hf, List.filter_nil, rowsQ_snoc]
theorem filt_no {ds : List Int} {d k m : Nat} {M : List Nat} (h : M[k]? = some m) (hf : ¬ fitB ds d m = true) : rowsQ ((M.take (k + 1)).filter (fitB ds d)) = rowsQ ((M.take k).filter (fitB ds d)) := by
  rw [List.take_add_one, h, Option.toList_some, List.filter_append, List.filter_cons, if_neg hf, List.filter_nil, List.append_nil]
/-! ### the least part, by the reference's way -/
def moreR (f : Nat → Nat → Nat) (N : Nat) (r : Nat) : List Nat := (List.range N).map fun i => f (i + 1) r
def moreF (f : Nat → Nat → Nat) (N : Nat) (R : List Nat) : List Nat := R ++ R.flatMap (moreR f N)
structure PartI (ds : List Int) (f : Nat → Nat → Nat) (M R : List Nat) : Prop where
  red : RedS R
  clo : ∀ r ∈ R, Clo f 20 M r
  has : ∀ m ∈ M, Sp R m
  hom : ∀ r ∈ R, HomE ds r
theorem PartI.start {ds : List Int} {f : Nat → Nat → Nat} {M : List Nat} (hs : sortB ds = true) (hM : ∀ m ∈ M, HomE ds m) : PartI ds f M (basTo ds M 21) :=
  ⟨basTo_red hs M 21, fun r hr => (by
    obtain ⟨_, _, _, _, h⟩ := basTo_mem hr
    exact Clo.sp (fun m hm => Clo.mem hm) h), fun m hm => (basTo_sp hM m).2 (Sp.mem hm), fun r hr => basTo_hom (Nat.le_refl _) hr⟩
theorem PartI.more {ds : List Int} {f : Nat → Nat → Nat} {M R : List Nat} (h : PartI ds f M R) (hf : ∀ j m, HomE ds m → HomE ds (f j m)) : ∀ m ∈ moreF f 20 R, HomE ds m := fun m hm => by
  rcases List.mem_append.1 hm with hm | hm
  · exact h.hom m hm
  · obtain ⟨r, hr, hm⟩ := List.mem_flatMap.1 hm
    obtain ⟨i, _, rfl⟩ := List.mem_map.1 hm
    exact hf _ _ (h.hom r hr)
theorem PartI.step {ds : List Int} {f : Nat → Nat → Nat} {M R : List Nat} (h : PartI ds f M R) (hl : Lin f) (hs : sortB ds = true) (hf : ∀ j m, HomE ds m → HomE ds (f j m)) :
    PartI ds f M (basTo ds (moreF f 20 R) 21) ∧ ((basTo ds (moreF f 20 R) 21).length = R.length → partS f 20 M = R) ∧ R.length ≤ (basTo ds (moreF f 20 R) 21).length := by
  have h1 := basTo_red hs (moreF f 20 R) 21
  obtain ⟨k1, k2, k3, k4⟩ := part_step hl h.red.good h1.good h.clo h.has fun t => basTo_sp (h.more hf) t
  exact ⟨⟨h1, k1, k2, fun r hr => basTo_hom (Nat.le_refl _) hr⟩, fun e => partS_eq h.red (k3 e), k4⟩
theorem PartI.len {ds : List Int} {f : Nat → Nat → Nat} {M R : List Nat} (h : PartI ds f M R) (hd : ds.length ≤ 16) : R.length ≤ 16 := h.red.good.len (n := 16) fun r hr => (h.hom r hr).lt16 hd
--W
end Go.Proofs.YtejojliljplcdaaGreatDoor

/- l02Low, l02Without on the reference's side. -/
namespace Go.Proofs.YtejojliljplcdaaGreatDoor
open Go.RowKit
set_option linter.unusedVariables false

theorem ofInt_neg64 {x : Nat} (h0 : x ≠ 0) (h : x < 9223372036854775808) : (BitVec.ofInt 64 (-(x : Int))).toNat = 18446744073709551616 - x := by
  rw [BitVec.toNat_ofInt]
  have e : ((2 ^ 64 : Nat) : Int) = 18446744073709551616 := by decide
  rw [e]
  omega
theorem bits_low {x : Nat} (h0 : x ≠ 0) (h : x < 65536) : bits .and .i64 (x : Int) (-(x : Int)) = ((2 ^ lowB x : Nat) : Int) := by
  have h1 := (Lib.lowest_bit 64 x h0 (by omega)).1
  rw [ctz_low h0 (by omega)] at h1
  have hb : lowB x < 16 := bit_lt (n := 16) (x := x) h (lowB_bit h0).1
  have hp : 2 ^ lowB x < 65536 := by have := Nat.pow_lt_pow_right (a := 2) (by decide) hb; simpa using this
  show IntKind.i64.wrap ((BitVec.ofInt 64 (x : Int) &&& BitVec.ofInt 64 (-(x : Int))).toNat : Int) = _
  rw [BitVec.toNat_and, ofInt_nat (by omega), ofInt_neg64 h0 (by omega)]
  have e : (2 : Nat) ^ 64 = 18446744073709551616 := by decide
  rw [e] at h1
  rw [h1, IntKind.wrap_i64]
  omega
theorem l02Low_any (x : Nat) (h0 : x ≠ 0) (h : x < 65536) (w : World) : Calls Tryz.prog 77 #[.int .i64 (x : Nat)] w (RetI (2 ^ lowB x : Nat) w) := by
  have hw : IntKind.i64.wrap (-(x : Int)) = -(x : Int) := by rw [IntKind.wrap_i64]; omega
  have hb := bits_low h0 h
  obtain ⟨p, hp⟩ : ∃ p, p = 2 ^ lowB x := ⟨_, rfl⟩
  rw [← hp] at hb ⊢
  clear hp
  go_enter Tryz.func77, Tryz.ntmps77
  go_wp2_with fail
  go_ret
  exact RetI.mk rfl
theorem and_two {x p : Nat} : x &&& 2 ^ p = if x.testBit p = true then 2 ^ p else 0 := by
  refine Nat.eq_of_testBit_eq fun i => ?_
  rw [Nat.testBit_and, Nat.testBit_two_pow]
  by_cases h : p = i
  · subst h
    by_cases hx : x.testBit p = true
    · rw [if_pos hx, hx]; simp
    · rw [if_neg hx, Bool.eq_false_iff.2 hx]; simp
  · split
    · simp [h]
    · simp [h]
set_option maxRecDepth 100000 in
theorem l02Without_any (A : Option Addr) (n c x : Nat) (R : List Nat) (w : World) (h : RdS w w.heap.size A n c (intsN R)) (hR : ∀ r ∈ R, r ≠ 0 ∧ r < 65536) (hx : x < 65536) (hn : n ≤ 1000000) :
    Calls Tryz.prog 79 #[.slice A n c, .int .i64 (x : Nat)] w (RetI (red lowB R x : Nat) w) := by
  have H := Lib.hid h
  have HR := Lib.hid hR
  have HL := Lib.hid (show R.length = n from by have := h.len; simpa [intsN] using this)
  obtain ⟨X, hX⟩ : ∃ X, X = RetI ((red lowB R x : Nat) : Int) w := ⟨_, rfl⟩
  have HX := Lib.hid hX
  rw [← hX]
  clear h hR hX
  go_enter Tryz.func79, Tryz.ntmps79
  go_wp2_with fail
  go_loop [1, 5] (fun v i => ∃ (k u : Nat), k ≤ n ∧ i = .int .i64 k ∧ v = .int .i64 u ∧ u < 65536 ∧ Hid (u = red lowB (R.take k) x)) (fun _ i => n - (intOf i).toNat)
  case atStart => exact ⟨0, x, Nat.zero_le _, rfl, rfl, hx, Lib.hid rfl⟩
  case round =>
    obtain ⟨k, u, hk, rfl, rfl, hu, HU⟩ := hrel
    by_cases hlt : k < n
    · obtain ⟨ad, y, rfl, _, hy, hc⟩ := H.out.at_ hlt
      obtain ⟨r, hr⟩ : ∃ r, R[k]? = some r := ⟨_, List.getElem?_eq_getElem (by rw [HL.out]; exact hlt)⟩
      obtain rfl : y = (r : Int) := by
        have h1 := hy.out
        rw [intsN, List.getElem?_map, hr] at h1
        exact (Option.some.inj h1).symm
      obtain ⟨hr0, hrw⟩ := HR.out r (List.mem_of_getElem? hr)
      have HTK := Lib.hid (red_take (v := x) hr)
      have C := Lib.hid (fun w => l02Low_any r hr0 hrw w)
      have hb : lowB r < 16 := bit_lt (n := 16) (x := r) hrw (lowB_bit hr0).1
      have hp : 2 ^ lowB r < 65536 := by have := Nat.pow_lt_pow_right (a := 2) (by decide) hb; simpa using this
      have hp0 : 2 ^ lowB r ≠ 0 := Nat.ne_of_gt (Nat.two_pow_pos _)
      have had := and_two (x := u) (p := lowB r)
      have hbi := bits_andN (a := u) (b := 2 ^ lowB r) (by omega) (by omega)
      rw [had] at hbi
      obtain ⟨q, hq⟩ : ∃ q, q = lowB r := ⟨_, rfl⟩
      rw [← hq] at hbi HTK C hp hp0
      obtain ⟨p, hpe⟩ : ∃ p, p = 2 ^ q := ⟨_, rfl⟩
      rw [← hpe] at hbi C hp hp0
      have hpz : ((p : Int) == 0) = false := by simp; omega
      clear hy hr had hq hpe
      by_cases hbit : u.testBit q = true
      · rw [if_pos hbit] at hbi
        have hxo := bits_xorN (a := u) (b := r) (by omega) (by omega)
        have HU2 := Lib.hid (show u ^^^ r = red lowB (R.take (k + 1)) x from by rw [HTK.out, ← HU.out, if_pos hbit])
        have hu2 : u ^^^ r < 65536 := Nat.xor_lt_two_pow (n := 16) hu hrw
        clear hbit
        go_wp2_with fail
        refine (C.out _).mono ?_
        rintro e w2 ⟨rfl, rfl⟩
        go_wp2_with fail
        go_round
        case rel => exact ⟨k + 1, u ^^^ r, by omega, by go_num, rfl, hu2, HU2⟩
        case measure => simp [intOf]; omega
      · rw [if_neg hbit] at hbi
        have HU2 := Lib.hid (show u = red lowB (R.take (k + 1)) x from by rw [HTK.out, ← HU.out, if_neg hbit])
        clear hbit
        go_wp2_with fail
        refine (C.out _).mono ?_
        rintro e w2 ⟨rfl, rfl⟩
        go_wp2_with fail
        go_round
        case rel => exact ⟨k + 1, u, by omega, by go_num, rfl, hu, HU2⟩
        case measure => simp [intOf]; omega
    · obtain rfl : k = n := by omega
      have HE := Lib.hid (show u = red lowB R x from by rw [HU.out, List.take_of_length_le (by rw [HL.out]; exact Nat.le_refl _)])
      go_wp2_with fail
      rw [HX.out, ← HE.out]
      exact ⟨rfl, rfl⟩
/-- a list that is only read -/
def RetRq (R : List Nat) (w : World) (e : Ending) (w' : World) : Prop := ∃ A n c, e = .returned (.slice A n c) ∧ RdS w' w'.heap.size A n c (intsN R) ∧ Below w.heap.size w w'
set_option maxRecDepth 100000 in
set_option maxHeartbeats 2000000 in
theorem l02Put_any (A : Option Addr) (n c x : Nat) (R : List Nat) (w : World) (h : RdS w w.heap.size A n c (intsN R)) (hg : GoodB R) (hR : ∀ r ∈ R, r < 65536) (hx : x < 65536) :
    Calls Tryz.prog 114 #[.slice A n c, .int .i64 (x : Nat)] w (RetRq (putQ R x) w) := by
  have hln : R.length = n := by have := h.len; simpa [intsN] using this
  have hl16 : R.length ≤ 16 := hg.len (n := 16) hR
  have C0 := Lib.hid (l02Without_any A n c x R w h (fun r hr => ⟨hg.pos r hr, hR r hr⟩) hx (by omega))
  have huw := red_lt (R := R) (v := x) hR hx
  have hf : ∀ r ∈ R, (red lowB R x).testBit (lowB r) = false := red_free hg.good
  have HPQ := Lib.hid (show putQ R x = if red lowB R x = 0 then R else insQ (red lowB R x) R from rfl)
  obtain ⟨u, hu⟩ : ∃ u, u = red lowB R x := ⟨_, rfl⟩
  rw [← hu] at C0 huw hf HPQ
  have H := Lib.hid h
  have HR := Lib.hid hR
  have HG := Lib.hid hg
  have HL := Lib.hid hln
  have HF := Lib.hid hf
  obtain ⟨X, hX⟩ : ∃ X, X = RetRq (putQ R x) w := ⟨_, rfl⟩
  have HX := Lib.hid hX
  rw [← hX]
  have hn16 : n ≤ 16 := by omega
  clear h hg hR hx hu hX hf hln hl16
  go_enter Tryz.func114, Tryz.ntmps114
  go_wp2_with fail
  refine C0.out.mono ?_
  rintro e w1 ⟨rfl, rfl⟩
  by_cases hu0 : u = 0
  · have hz : ((u : Int) == 0) = true := by simp [hu0]
    have HFIN := Lib.hid (show X (.returned (.slice A n c)) w1 from by
      rw [HX.out, HPQ.out, if_pos hu0]
      exact ⟨A, n, c, rfl, H.out, Below.refl _ _⟩)
    clear hu0
    go_wp2_with fail
    exact HFIN.out
  · have hz : ((u : Int) == 0) = false := by simpa using hu0
    have HXe := Lib.hid (show X = RetRq (insQ u R) w1 from by rw [HX.out, HPQ.out, if_neg hu0])
    have CL := Lib.hid (fun w => l02Low_any u hu0 huw w)
    have S0 := Lib.hid (StS.start (w0 := w1) (w := w1) (B := w1.heap.size) (Below.refl _ _) (Nat.le_refl _))
    have HC0 := Lib.hid (show cutB u = fun r => if r.testBit (lowB u) = true then r ^^^ u else r from by funext r; rfl)
    have hq16 : lowB u < 16 := bit_lt (n := 16) (x := u) huw (lowB_bit hu0).1
    have hpp : 2 ^ lowB u < 65536 := by have := Nat.pow_lt_pow_right (a := 2) (by decide) hq16; simpa using this
    have HAT := Lib.hid (fun r : Nat => and_two (x := r) (p := lowB u))
    have HLT := Lib.hid (fun r : Nat => (Nat.pow_lt_pow_iff_right (a := 2) (by decide) : 2 ^ lowB u < 2 ^ lowB r ↔ lowB u < lowB r))
    have hp0 : 2 ^ lowB u ≠ 0 := Nat.ne_of_gt (Nat.two_pow_pos _)
    obtain ⟨p, hpe⟩ : ∃ p, p = 2 ^ lowB u := ⟨_, rfl⟩
    rw [← hpe] at hpp hp0 CL
    simp only [← hpe] at HAT HLT
    clear hu0 hpe
    go_wp2_with fail
    refine (CL.out _).mono ?_
    rintro e w2 ⟨rfl, rfl⟩
    go_wp2_with fail
    go_loopw [6, 7, 8] (fun o d i wr => ∃ (k l c' : Nat) (A' : Option Addr) (b : Bool), k ≤ n ∧ i = .int .i64 k ∧ d = .bool b ∧ o = .slice A' l c' ∧ Hid (l ≤ k + b.toNat) ∧ Hid (b = (R.take k).any (fun s => decide (lowB u < lowB s))) ∧ Hid (StS w2 w2.heap.size wr A' l c' (intsN (insK u (R.take k) b)))) (fun _ _ i _ => n - (intOf i).toNat)
    case atStart => exact ⟨0, 0, 0, _, false, by omega, rfl, rfl, rfl, Lib.hid (by simp), Lib.hid rfl, by simpa [insK, intsN] using S0⟩
    case round =>
      clear S0
      obtain ⟨k, l, c', A', b, hk, rfl, rfl, rfl, HLl, HB, HS⟩ := hrel
      have hl : l ≤ k + 1 := by have := HLl.out; have := b.toNat_le; omega
      by_cases hlt : k < n
      · obtain ⟨ad, y, rfl, _, hy, hc⟩ := (H.out.below HS.out.bel).at_ hlt
        obtain ⟨r, hr⟩ : ∃ r, R[k]? = some r := ⟨_, List.getElem?_eq_getElem (by rw [HL.out]; exact hlt)⟩
        obtain rfl : y = (r : Int) := by
          have h1 := hy.out
          rw [intsN, List.getElem?_map, hr] at h1
          exact (Option.some.inj h1).symm
        have hrm := List.mem_of_getElem? hr
        have hr0 := HG.out.pos r hrm
        have hrw := HR.out r hrm
        have HTK := Lib.hid (show R.take (k + 1) = R.take k ++ [r] from by rw [List.take_add_one, hr]; rfl)
        have CR := Lib.hid (fun w => l02Low_any r hr0 hrw w)
        have hpz : ((p : Int) == 0) = false := by simp; omega
        clear hy hr hrm
        by_cases hbit : r.testBit (lowB u) = true
        · skip
          have hbi := bits_andN (a := r) (b := p) (by omega) (by omega)
          rw [HAT.out r, if_pos hbit] at hbi
          have hxo := bits_xorN (a := r) (b := u) (by omega) (by omega)
          have hyc : cutB u r = r ^^^ u := by rw [HC0.out]; simp only; rw [if_pos hbit]
          clear hbit
          cases b
          · have hno := Lib.hid (show ∀ s ∈ R.take k, ¬ lowB u < lowB s from by
              have := HB.out
              intro s hs h1
              have h2 : (R.take k).any (fun s => decide (lowB u < lowB s)) = true := List.any_eq_true.2 ⟨s, hs, by simpa using h1⟩
              rw [h2] at this; cases this)
            by_cases hgt : lowB u < lowB r
            · have hpl : p < 2 ^ lowB r := (HLT.out r).2 hgt
              have hIK := Lib.hid (insK_now hno.out hgt)
              rw [hyc, ← HTK.out] at hIK
              have hB2 := Lib.hid (show true = (R.take (k + 1)).any (fun s => decide (lowB u < lowB s)) from by rw [HTK.out, List.any_append]; simp [hgt])
              obtain ⟨z, hz2⟩ : ∃ z, z = 2 ^ lowB r := ⟨_, rfl⟩
              rw [← hz2] at CR hpl
              have hpi : (p : Int) < (z : Int) := by omega
              clear hgt hz2 hyc
              go_wp2_with fail
              refine (CR.out _).mono ?_
              rintro e w3 ⟨rfl, rfl⟩
              go_wp2_with (at_builtin; refine wpList_pushI rfl (.tmp 47) (.tmp 49) rfl rfl rfl HS.out (by omega) ?_)
              intro A6 c6 w6 hs6 _
              have HS6 := Lib.hid hs6
              clear hs6
              go_wp2_with (at_builtin; refine wpList_pushI rfl (.tmp 51) (.tmp 53) rfl rfl rfl HS6.out (by omega) ?_)
              intro A7 c7 w7 hs7 _
              have HS7 := Lib.hid (show StS w2 w2.heap.size w7 A7 (l + 1 + 1) c7 (intsN (insK u (R.take (k + 1)) true)) from by rw [← hIK.out]; simpa [intsN] using hs7)
              clear hs7
              go_wp2_with fail
              go_roundw
              case rel => exact ⟨k + 1, l + 1 + 1, c7, A7, true, by omega, by go_num, rfl, rfl, Lib.hid (by have := HLl.out; simp only [Bool.toNat_false, Bool.toNat_true] at *; omega), hB2, HS7⟩
              case measure => simp [intOf]; omega
            · have hpl : ¬ p < 2 ^ lowB r := fun e => hgt ((HLT.out r).1 e)
              have hIK := Lib.hid (insK_not (u := u) (r := r) (P := R.take k))
              rw [hyc, ← HTK.out] at hIK
              have hB2 := Lib.hid (show false = (R.take (k + 1)).any (fun s => decide (lowB u < lowB s)) from by rw [HTK.out, List.any_append, ← HB.out]; simp [hgt])
              obtain ⟨z, hz2⟩ : ∃ z, z = 2 ^ lowB r := ⟨_, rfl⟩
              rw [← hz2] at CR hpl
              have hpi : ¬ (p : Int) < (z : Int) := by omega
              clear hgt hz2 hyc
              go_wp2_with fail
              refine (CR.out _).mono ?_
              rintro e w3 ⟨rfl, rfl⟩
              go_wp2_with (at_builtin; refine wpList_pushI rfl (.tmp 51) (.tmp 53) rfl rfl rfl HS.out (by omega) ?_)
              intro A7 c7 w7 hs7 _
              have HS7 := Lib.hid (show StS w2 w2.heap.size w7 A7 (l + 1) c7 (intsN (insK u (R.take (k + 1)) false)) from by rw [← hIK.out]; simpa [intsN] using hs7)
              clear hs7
              go_wp2_with fail
              go_roundw
              case rel => exact ⟨k + 1, l + 1, c7, A7, false, by omega, by go_num, rfl, rfl, Lib.hid (by have := HLl.out; simp only [Bool.toNat_false] at *; omega), hB2, HS7⟩
              case measure => simp [intOf]; omega
          · have hyes := Lib.hid (show ∃ s ∈ R.take k, lowB u < lowB s from by
              obtain ⟨s, hs, h1⟩ := List.any_eq_true.1 HB.out.symm
              exact ⟨s, hs, by simpa using h1⟩)
            have hIK := Lib.hid (insK_done (r := r) hyes.out)
            rw [hyc, ← HTK.out] at hIK
            have hB2 := Lib.hid (show true = (R.take (k + 1)).any (fun s => decide (lowB u < lowB s)) from by rw [HTK.out, List.any_append, ← HB.out]; rfl)
            clear hyc
            go_wp2_with (at_builtin; refine wpList_pushI rfl (.tmp 51) (.tmp 53) rfl rfl rfl HS.out (by omega) ?_)
            intro A7 c7 w7 hs7 _
            have HS7 := Lib.hid (show StS w2 w2.heap.size w7 A7 (l + 1) c7 (intsN (insK u (R.take (k + 1)) true)) from by rw [← hIK.out]; simpa [intsN] using hs7)
            clear hs7
            go_wp2_with fail
            go_roundw
            case rel => exact ⟨k + 1, l + 1, c7, A7, true, by omega, by go_num, rfl, rfl, Lib.hid (by have := HLl.out; simp only [Bool.toNat_true] at *; omega), hB2, HS7⟩
            case measure => simp [intOf]; omega
        · skip
          have hbi := bits_andN (a := r) (b := p) (by omega) (by omega)
          rw [HAT.out r, if_neg hbit] at hbi
          have hyc : cutB u r = r := by rw [HC0.out]; simp only; rw [if_neg hbit]
          clear hbit
          cases b
          · have hno := Lib.hid (show ∀ s ∈ R.take k, ¬ lowB u < lowB s from by
              have := HB.out
              intro s hs h1
              have h2 : (R.take k).any (fun s => decide (lowB u < lowB s)) = true := List.any_eq_true.2 ⟨s, hs, by simpa using h1⟩
              rw [h2] at this; cases this)
            by_cases hgt : lowB u < lowB r
            · have hpl : p < 2 ^ lowB r := (HLT.out r).2 hgt
              have hIK := Lib.hid (insK_now hno.out hgt)
              rw [hyc, ← HTK.out] at hIK
              have hB2 := Lib.hid (show true = (R.take (k + 1)).any (fun s => decide (lowB u < lowB s)) from by rw [HTK.out, List.any_append]; simp [hgt])
              obtain ⟨z, hz2⟩ : ∃ z, z = 2 ^ lowB r := ⟨_, rfl⟩
              rw [← hz2] at CR hpl
              have hpi : (p : Int) < (z : Int) := by omega
              clear hgt hz2 hyc
              go_wp2_with fail
              refine (CR.out _).mono ?_
              rintro e w3 ⟨rfl, rfl⟩
              go_wp2_with (at_builtin; refine wpList_pushI rfl (.tmp 47) (.tmp 49) rfl rfl rfl HS.out (by omega) ?_)
              intro A6 c6 w6 hs6 _
              have HS6 := Lib.hid hs6
              clear hs6
              go_wp2_with (at_builtin; refine wpList_pushI rfl (.tmp 51) (.tmp 53) rfl rfl rfl HS6.out (by omega) ?_)
              intro A7 c7 w7 hs7 _
              have HS7 := Lib.hid (show StS w2 w2.heap.size w7 A7 (l + 1 + 1) c7 (intsN (insK u (R.take (k + 1)) true)) from by rw [← hIK.out]; simpa [intsN] using hs7)
              clear hs7
              go_wp2_with fail
              go_roundw
              case rel => exact ⟨k + 1, l + 1 + 1, c7, A7, true, by omega, by go_num, rfl, rfl, Lib.hid (by have := HLl.out; simp only [Bool.toNat_false, Bool.toNat_true] at *; omega), hB2, HS7⟩
              case measure => simp [intOf]; omega
            · have hpl : ¬ p < 2 ^ lowB r := fun e => hgt ((HLT.out r).1 e)
              have hIK := Lib.hid (insK_not (u := u) (r := r) (P := R.take k))
              rw [hyc, ← HTK.out] at hIK
              have hB2 := Lib.hid (show false = (R.take (k + 1)).any (fun s => decide (lowB u < lowB s)) from by rw [HTK.out, List.any_append, ← HB.out]; simp [hgt])
              obtain ⟨z, hz2⟩ : ∃ z, z = 2 ^ lowB r := ⟨_, rfl⟩
              rw [← hz2] at CR hpl
              have hpi : ¬ (p : Int) < (z : Int) := by omega
              clear hgt hz2 hyc
              go_wp2_with fail
              refine (CR.out _).mono ?_
              rintro e w3 ⟨rfl, rfl⟩
              go_wp2_with (at_builtin; refine wpList_pushI rfl (.tmp 51) (.tmp 53) rfl rfl rfl HS.out (by omega) ?_)
              intro A7 c7 w7 hs7 _
              have HS7 := Lib.hid (show StS w2 w2.heap.size w7 A7 (l + 1) c7 (intsN (insK u (R.take (k + 1)) false)) from by rw [← hIK.out]; simpa [intsN] using hs7)
              clear hs7
              go_wp2_with fail
              go_roundw
              case rel => exact ⟨k + 1, l + 1, c7, A7, false, by omega, by go_num, rfl, rfl, Lib.hid (by have := HLl.out; simp only [Bool.toNat_false] at *; omega), hB2, HS7⟩
              case measure => simp [intOf]; omega
          · have hyes := Lib.hid (show ∃ s ∈ R.take k, lowB u < lowB s from by
              obtain ⟨s, hs, h1⟩ := List.any_eq_true.1 HB.out.symm
              exact ⟨s, hs, by simpa using h1⟩)
            have hIK := Lib.hid (insK_done (r := r) hyes.out)
            rw [hyc, ← HTK.out] at hIK
            have hB2 := Lib.hid (show true = (R.take (k + 1)).any (fun s => decide (lowB u < lowB s)) from by rw [HTK.out, List.any_append, ← HB.out]; rfl)
            clear hyc
            go_wp2_with (at_builtin; refine wpList_pushI rfl (.tmp 51) (.tmp 53) rfl rfl rfl HS.out (by omega) ?_)
            intro A7 c7 w7 hs7 _
            have HS7 := Lib.hid (show StS w2 w2.heap.size w7 A7 (l + 1) c7 (intsN (insK u (R.take (k + 1)) true)) from by rw [← hIK.out]; simpa [intsN] using hs7)
            clear hs7
            go_wp2_with fail
            go_roundw
            case rel => exact ⟨k + 1, l + 1, c7, A7, true, by omega, by go_num, rfl, rfl, Lib.hid (by have := HLl.out; simp only [Bool.toNat_true] at *; omega), hB2, HS7⟩
            case measure => simp [intOf]; omega
      · obtain rfl : k = n := by omega
        have htk : R.take k = R := List.take_of_length_le (by rw [HL.out]; exact Nat.le_refl _)
        cases b
        · have hno := Lib.hid (show ∀ s ∈ R, ¬ lowB u < lowB s from by
            have := HB.out
            rw [htk] at this
            intro s hs h1
            have h2 : R.any (fun s => decide (lowB u < lowB s)) = true := List.any_eq_true.2 ⟨s, hs, by simpa using h1⟩
            rw [h2] at this; cases this)
          have HTK := Lib.hid htk
          clear htk
          go_wp2_with (at_builtin; refine wpList_pushI rfl (.tmp 57) (.tmp 59) rfl rfl rfl HS.out (by omega) ?_)
          intro A7 c7 w7 hs7 _
          have HFIN := Lib.hid (show X (.returned (.slice A7 (l + 1) c7)) w7 from by
            rw [HXe.out]
            have h1 : StS w2 w2.heap.size w7 A7 (l + 1) c7 (intsN (insQ u R)) := by
              rw [← insK_end hno.out]
              have h2 := hs7
              rw [HTK.out] at h2
              simpa [intsN] using h2
            exact ⟨A7, l + 1, c7, rfl, h1.own.rd, h1.bel⟩)
          clear hs7
          go_wp2_with fail
          exact HFIN.out
        · have HFIN := Lib.hid (show X (.returned (.slice A' l c')) wr from by
            rw [HXe.out]
            have h1 := HS.out
            rw [htk] at h1
            exact ⟨A', l, c', rfl, h1.own.rd, h1.bel⟩)
          clear htk
          go_wp2_with fail
          exact HFIN.out
end Go.Proofs.YtejojliljplcdaaGreatDoor

/- l12Basis on the reference's side. -/
namespace Go.Proofs.YtejojliljplcdaaGreatDoor
open Go.RowKit
set_option linter.unusedVariables false

theorem two16b {x n : Nat} (hx : x < 2 ^ n) (hn : n ≤ 16) : x < 65536 := by
  have h2 : (2 : Nat) ^ n ≤ 2 ^ 16 := Nat.pow_le_pow_right (by decide) hn
  have e : (2 : Nat) ^ 16 = 65536 := by decide
  omega
set_option maxRecDepth 100000 in
set_option maxHeartbeats 4000000 in
theorem l12Basis_any (A1 A2 A : Option Addr) (n1 c1 n2 c2 n c : Nat) (ds : List Int) (M : List Nat) (w : World) (h : RdS w w.heap.size A1 n1 c1 ds) (hn : n1 ≤ 16) (hr : RdS w w.heap.size A n c (intsN M)) (hM : ∀ m ∈ M, m < 65536) (hnn : n ≤ 1000000) :
    Calls Tryz.prog 80 #[.agg #[.slice A1 n1 c1, .slice A2 n2 c2], .slice A n c] w (RetO (basTo ds M 21).length (intsN (basTo ds M 21)) w) := by
  obtain ⟨w0, b, hw0, hbe, hb0, hz0', hF⟩ := start1 w (.slice A1 n1 c1) (.slice A2 n2 c2) 27
  have HL1 := Lib.hid h.len
  have HL2 := Lib.hid (show M.length = n from by have := hr.len; simpa [intsN] using this)
  have H := Lib.hid (h.below hb0)
  have Hr := Lib.hid ((hr.below hb0).mono hb0.size)
  have HM := Lib.hid hM
  have Hw := Lib.hid hw0
  have Hbe := Lib.hid hbe
  have Hb0 := Lib.hid hb0
  have F0 := Lib.hid hF
  have HD := Lib.hid (fun (d : Int) (W : World) (hb : Below w0.heap.size w0 W) => spec.l12Degree_any A1 A2 n1 c1 n2 c2 d ds W ((((h.below hb0).mono hb0.size).below hb).mono hb.size) hn)
  obtain ⟨R, hR⟩ : ∃ R, R = RetO (basTo ds M 21).length (intsN (basTo ds M 21)) w := ⟨_, rfl⟩
  have HR := Lib.hid hR
  rw [← hR]
  have S0 := Lib.hid (show StS w0 w0.heap.size (w0.alloc (.cells #[] 2)) (some ⟨b + 1, 0, none⟩) 0 0 [] from by rw [← hz0']; exact StS.start (Below.refl _ _) (Nat.le_refl _))
  clear h hr hM hw0 hbe hb0 hF hR hz0'
  go_enter Tryz.func80, Tryz.ntmps80
  go_wp2_with fail
  rw [← Hw.out, ← Hbe.out]
  go_loopw [5, 6] (fun x i wr => ∃ (k l c' : Nat) (A' : Option Addr), k ≤ 21 ∧ i = .int .i64 k ∧ x = .slice A' l c' ∧ Hid (l ≤ 16 * k) ∧ Hid (StS w0 w0.heap.size wr A' l c' (intsN (basTo ds M k)))) (fun _ i _ => 22 - (intOf i).toNat)
  case atStart => exact ⟨0, 0, 0, _, by omega, rfl, rfl, Lib.hid (by omega), by simpa [basTo, intsN] using S0⟩
  case round =>
    clear S0
    obtain ⟨k, l, c', A', hk, rfl, rfl, HLl, HS⟩ := hrel
    by_cases hlt : k ≤ 20
    · have hlt' : (k : Int) ≤ 20 := by omega
      have hl : l ≤ 1000 := by have := HLl.out; omega
      have C1 := Lib.hid (HD.out (k : Int) wr HS.out.bel)
      have k0 := (F0.out.below HS.out.bel).at_ (b := b) (o := 0) (V := .slice A1 n1 c1) (by simp)
      have k1 := (F0.out.below HS.out.bel).at_ (b := b) (o := 1) (V := .slice A2 n2 c2) (by simp)
      obtain ⟨m0, hm0⟩ : ∃ m0, m0 = degM ds (k : Int) n1 := ⟨_, rfl⟩
      have hm06 : m0 < 65536 := by rw [hm0]; exact two16b degM_lt hn
      have HFB := Lib.hid (show ∀ m, fitB ds k m = (anN m m0 == 0) from fun m => by unfold fitB; rw [hm0, HL1.out])
      rw [← hm0] at C1
      clear hm0
      go_wp2_with fail
      refine C1.out.mono ?_
      rintro e w2 ⟨rfl, hb2⟩
      have S2 := Lib.hid (HS.out.call hb2)
      have HB2 := Lib.hid hb2
      clear hb2 k0 k1 HS
      go_wp2_with fail
      have I0 := Lib.hid ((Below.refl w2.heap.size w2).alloc (Nat.le_refl _) (.cells #[] 2))
      go_loopw [8, 9] (fun x i wr => ∃ (j l2 c2' : Nat) (A2' : Option Addr), j ≤ n ∧ i = .int .i64 j ∧ x = .slice A2' l2 c2' ∧ Hid (RdS wr wr.heap.size A2' l2 c2' (intsN (rowsQ ((M.take j).filter (fitB ds k))))) ∧ Hid (Below w2.heap.size w2 wr)) (fun _ i _ => n - (intOf i).toNat)
      case atStart => exact ⟨0, 0, 0, _, by omega, rfl, rfl, Lib.hid (by simpa [rowsQ, intsN] using (rdS_nil (A := some ⟨w2.heap.size, 0, none⟩) (c := 0))), I0⟩
      case round =>
        clear I0
        obtain ⟨j, l2, c2', A2', hj, rfl, rfl, HI, HB⟩ := hrel
        by_cases hjn : j < n
        · obtain ⟨ad, y, rfl, _, hy, hc⟩ := (((Hr.out.below S2.out.bel).mono S2.out.bel.size).below HB.out).at_ hjn
          obtain ⟨r, hr⟩ : ∃ r, M[j]? = some r := ⟨_, List.getElem?_eq_getElem (by rw [HL2.out]; exact hjn)⟩
          obtain rfl : y = (r : Int) := by
            have h1 := hy.out
            rw [intsN, List.getElem?_map, hr] at h1
            exact (Option.some.inj h1).symm
          have hrw := HM.out r (List.mem_of_getElem? hr)
          have han := bits_anN (a := r) (b := m0) (by omega) (by omega)
          obtain ⟨z, hz⟩ : ∃ z, z = anN r m0 := ⟨_, rfl⟩
          rw [← hz] at han
          have HF := Lib.hid (show fitB ds k r = (z == 0) from by rw [HFB.out, hz])
          have HRr := Lib.hid hr
          clear hy hr hz
          by_cases hz0 : z = 0
          · have hs1 : ((z : Int) == 0) = true := by simp [hz0]
            have HY := Lib.hid (filt_yes HRr.out (show fitB ds k r = true from by rw [HF.out]; simpa using hz0))
            obtain ⟨RR, hRR⟩ : ∃ RR, RR = rowsQ ((M.take j).filter (fitB ds k)) := ⟨_, rfl⟩
            have hlt6 : ∀ x ∈ (M.take j).filter (fitB ds k), x < 65536 := fun x hx => HM.out x (List.mem_of_mem_take (List.mem_filter.1 hx).1)
            have CP := Lib.hid (l02Put_any A2' l2 c2' r (rowsQ ((M.take j).filter (fitB ds k))) wr HI.out (rowsQ_red _).1.good (rowsQ_lt hlt6) hrw)
            clear hlt6 hz0 hRR
            go_wp2_with fail
            refine CP.out.mono ?_
            rintro e w3 ⟨A3, l3, c3, rfl, hr3, hb3⟩
            have HI3 := Lib.hid (show RdS w3 w3.heap.size A3 l3 c3 (intsN (rowsQ ((M.take (j + 1)).filter (fitB ds k)))) from by rw [HY.out]; exact hr3)
            have HB3 := Lib.hid (HB.out.trans (hb3.mono HB.out.size))
            clear hr3 hb3
            go_wp2_with fail
            go_roundw
            case rel => exact ⟨j + 1, l3, c3, A3, by omega, by go_num, rfl, HI3, HB3⟩
            case measure => simp [intOf]; omega
          · have hs1 : ((z : Int) == 0) = false := by simp; omega
            have HY := Lib.hid (filt_no HRr.out (show ¬ fitB ds k r = true from by rw [HF.out]; simpa using hz0))
            have HI3 := Lib.hid (show RdS wr wr.heap.size A2' l2 c2' (intsN (rowsQ ((M.take (j + 1)).filter (fitB ds k)))) from by rw [HY.out]; exact HI.out)
            clear hz0
            go_wp2_with fail
            go_roundw
            case rel => exact ⟨j + 1, l2, c2', A2', by omega, by go_num, rfl, HI3, HB⟩
            case measure => simp [intOf]; omega
        · obtain rfl : j = n := by omega
          have HT := Lib.hid (show M.take j = M from List.take_of_length_le (by rw [HL2.out]; exact Nat.le_refl _))
          have hlt6 : ∀ x ∈ M.filter (fitB ds k), x < 65536 := fun x hx => HM.out x (List.mem_filter.1 hx).1
          have hl2 : l2 ≤ 16 := by
            have := HI.out.len
            rw [HT.out] at this
            have h2 := rowsQ_len hlt6
            simp [intsN] at this
            omega
          have HSuc := Lib.hid (basTo_succ ds M k)
          have S3 := Lib.hid (S2.out.call HB.out)
          clear hlt6
          go_wp2_with (at_builtin; refine wpList_joinI rfl (.tmp 38) (.tmp 39) rfl rfl rfl S3.out HI.out (by omega) ?_)
          intro A6 c6 w6 hs6 _
          have HS6 := Lib.hid (show StS w0 w0.heap.size w6 A6 (l + l2) c6 (intsN (basTo ds M (k + 1))) from by
            rw [HSuc.out]
            rw [HT.out] at hs6
            simpa [intsN] using hs6)
          clear hs6
          go_wp2_with fail
          go_roundw
          case rel => exact ⟨k + 1, l + l2, c6, A6, by omega, by go_num, rfl, Lib.hid (by have := HLl.out; omega), HS6⟩
          case measure => simp [intOf]; omega
    · obtain rfl : k = 21 := by omega
      have HE := Lib.hid (show l = (basTo ds M 21).length from by have := HS.out.own.len; simpa [intsN] using this.symm)
      go_wp2_with fail
      rw [HR.out]
      exact RetO.mk2 HE.out rfl ⟨HS.out.own.mono Hb0.out.size, Hb0.out.trans (HS.out.bel.mono Hb0.out.size), Nat.le_trans Hb0.out.size HS.out.hi⟩
end Go.Proofs.YtejojliljplcdaaGreatDoor

/- l12Quotient's places and kept digits, in plain words. -/
namespace Go.Proofs.YtejojliljplcdaaGreatDoor
open Go.RowKit
set_option linter.unusedVariables false

/-- the pivots as one mask -/
def pvN (S : List Nat) : Nat := S.foldl (fun u r => u ||| 2 ^ lowB r) 0
theorem pvN_snoc (S : List Nat) (r : Nat) : pvN (S ++ [r]) = pvN S ||| 2 ^ lowB r := by unfold pvN; rw [List.foldl_append]; rfl
theorem pvN_bits (i : Nat) : ∀ (S : List Nat) (u : Nat), (S.foldl (fun u r => u ||| 2 ^ lowB r) u).testBit i = (u.testBit i || pivB S i)
  | [], u => by simp [pivB]
  | r :: S, u => by
    rw [List.foldl_cons, pvN_bits i S, Nat.testBit_or, Nat.testBit_two_pow]
    unfold pivB
    rw [List.any_cons, Bool.or_assoc]
    congr 1
theorem pvN_bit (S : List Nat) (i : Nat) : (pvN S).testBit i = pivB S i := by unfold pvN; rw [pvN_bits]; simp
theorem pvN_lt {S : List Nat} (h : ∀ r ∈ S, r ≠ 0 ∧ r < 65536) : pvN S < 65536 := by
  have e : (2 : Nat) ^ 16 = 65536 := by decide
  rw [← e]
  apply Nat.lt_pow_two_of_testBit
  intro i hi
  rw [pvN_bit]
  unfold pivB
  rw [List.any_eq_false]
  intro r hr hc
  have h1 := bit_lt (n := 16) (x := r) (h r hr).2 (lowB_bit (h r hr).1).1
  have h2 : lowB r = i := by simpa using hc
  omega
/-- the place of a digit that is kept -/
def plc (S : List Nat) (i : Nat) : Nat := if pivB S i = false then (keptL S i).length else 0
def plF (S : List Nat) (n k : Nat) : List Int := (List.range n).map fun i => if i < k then ((plc S i : Nat) : Int) else 0
theorem plF_zero (S : List Nat) (n : Nat) : plF S n 0 = List.replicate n 0 := by
  unfold plF
  refine List.ext_getElem? fun i => ?_
  rw [List.getElem?_map, List.getElem?_replicate]
  by_cases h : i < n
  · rw [List.getElem?_range h, if_pos h]; simp
  · rw [if_neg h, List.getElem?_eq_none (by simpa using h)]; rfl
theorem plF_at {S : List Nat} {n k i : Nat} (h : i < n) : (plF S n k)[i]? = some (if i < k then ((plc S i : Nat) : Int) else 0) := by
  unfold plF
  rw [List.getElem?_map, List.getElem?_range h]; rfl
theorem plF_yes {S : List Nat} {n k : Nat} (h : pivB S k = true) : plF S n (k + 1) = plF S n k := by
  refine List.ext_getElem? fun i => ?_
  by_cases hi : i < n
  · rw [plF_at hi, plF_at hi]
    by_cases e : i = k
    · subst e
      rw [if_pos (by omega), if_neg (by omega)]
      unfold plc; rw [if_neg (by rw [h]; decide)]; rfl
    · by_cases h1 : i < k
      · rw [if_pos h1, if_pos (by omega)]
      · rw [if_neg h1, if_neg (by omega)]
  · rw [List.getElem?_eq_none (by simp [plF]; omega), List.getElem?_eq_none (by simp [plF]; omega)]
theorem plF_no {S : List Nat} {n k : Nat} (h : pivB S k = false) (hk : k < n) : (plF S n k).set k ((keptL S k).length : Int) = plF S n (k + 1) := by
  refine List.ext_getElem? fun i => ?_
  rw [List.getElem?_set]
  by_cases hi : i < n
  · rw [plF_at hi, plF_at hi]
    by_cases e : k = i
    · subst e
      rw [if_pos rfl, if_pos (by simp [plF]; omega), if_pos (by omega)]
      unfold plc; rw [if_pos h]
    · rw [if_neg e]
      by_cases h1 : i < k
      · rw [if_pos h1, if_pos (by omega)]
      · rw [if_neg h1, if_neg (by omega)]
  · rw [if_neg (by omega), List.getElem?_eq_none (by simp [plF]; omega), List.getElem?_eq_none (by simp [plF]; omega)]
/-- l12Kept's mask after i places -/
def kpF (S : List Nat) (x : Nat) : Nat → Nat
  | 0 => 0
  | i + 1 => kpF S x i ||| (if x.testBit i = true then 2 ^ plc S i else 0)
theorem kpF_pack {S : List Nat} {x : Nat} (h : ∀ i, pivB S i = true → x.testBit i = false) : ∀ i, kpF S x i = packF (keptL S i) x 0
  | 0 => by simp [kpF, keptL, packF]
  | i + 1 => by
    rw [kpF, kpF_pack h i]
    cases hp : pivB S i
    · rw [keptL_no hp, packF_snoc]
      unfold plc
      rw [if_pos hp, Nat.zero_add]
    · rw [keptL_yes hp, h i hp]; simp
theorem red_piv {S : List Nat} (h : GoodB S) (x : Nat) : ∀ i, pivB S i = true → (red lowB S x).testBit i = false := by
  intro i hi
  unfold pivB at hi
  obtain ⟨r, hr, h1⟩ := List.any_eq_true.1 hi
  have h2 : lowB r = i := by simpa using h1
  rw [← h2]
  exact red_free h.good r hr
theorem plc_lt {S : List Nat} {n i : Nat} (hn : n ≤ 16) (hi : i < n) : plc S i < 16 := by
  unfold plc
  split
  · have := keptL_len S i; omega
  · omega
theorem kpF_lt {S : List Nat} {x n : Nat} (hn : n ≤ 16) : ∀ i, i ≤ n → kpF S x i < 65536
  | 0, _ => by simp [kpF]
  | i + 1, h => by
    rw [kpF]
    have e : (2 : Nat) ^ 16 = 65536 := by decide
    rw [← e]
    refine Nat.or_lt_two_pow (by rw [e]; exact kpF_lt hn i (by omega)) ?_
    split
    · exact Nat.pow_lt_pow_right (by decide) (plc_lt hn (by omega))
    · decide
end Go.Proofs.YtejojliljplcdaaGreatDoor

/- l12Kept, l17Part on the reference's side. -/
namespace Go.Proofs.YtejojliljplcdaaGreatDoor
open Go.RowKit
set_option linter.unusedVariables false

set_option maxHeartbeats 2000000 in
theorem l12Kept_any (x n : Nat) (A : Option Addr) (c B : Nat) (S : List Nat) (w : World) (h : RdS w B A n c (plF S n n)) (hx : x < 65536) (hf : ∀ i, pivB S i = true → x.testBit i = false) (hn : n ≤ 16) :
    Calls Tryz.prog 78 #[.int .i64 (x : Nat), .slice A n c] w (RetI (packF (keptL S n) x 0 : Nat) w) := by
  obtain ⟨R, hR⟩ : ∃ R, R = RetI ((packF (keptL S n) x 0 : Nat) : Int) w := ⟨_, rfl⟩
  have HR := Lib.hid hR
  rw [← hR]
  have H := Lib.hid h
  have HF := Lib.hid (kpF_pack hf)
  clear hR h hf
  go_enter Tryz.func78, Tryz.ntmps78
  go_wp2_with fail
  go_loop [5, 6] (fun v i => ∃ (k u : Nat), k ≤ n ∧ i = .int .i64 k ∧ v = .int .i64 u ∧ Hid (u = kpF S x k)) (fun _ i => n - (intOf i).toNat)
  case atStart => exact ⟨0, 0, Nat.zero_le _, rfl, rfl, Lib.hid rfl⟩
  case round =>
    obtain ⟨k, u, hk, rfl, rfl, HU⟩ := hrel
    by_cases hlt : k < n
    · obtain ⟨ad, y, rfl, _, hy, hcy⟩ := H.out.at_ hlt
      have hy' : y = ((plc S k : Nat) : Int) := by have := hy.out; rw [plF_at hlt, if_pos hlt] at this; exact (Option.some.inj this).symm
      have hq := plc_lt (S := S) hn hlt
      have hu : u < 65536 := by rw [HU.out]; exact kpF_lt hn k hk
      have HK := Lib.hid (show kpF S x (k + 1) = u ||| (if x.testBit k = true then 2 ^ plc S k else 0) from by rw [kpF, ← HU.out])
      obtain ⟨q, hqe⟩ : ∃ q, q = plc S k := ⟨_, rfl⟩
      rw [← hqe] at hy' hq HK
      subst hy'
      have hk64 : (k : Int) < 64 := by omega
      have hk0 : (0 : Int) ≤ (k : Int) := by omega
      have hq64 : (q : Int) < 64 := by omega
      have hq0 : (0 : Int) ≤ (q : Int) := by omega
      have hbit := bit_at (x := x) (i := k) (by omega)
      obtain ⟨p, hp⟩ : ∃ p : Nat, p = 2 ^ q := ⟨_, rfl⟩
      have hpb : p < 131072 := by
        have h2 : (2 : Nat) ^ q ≤ 2 ^ 16 := Nat.pow_le_pow_right (by decide) (by omega)
        have e : (2 : Nat) ^ 16 = 65536 := by decide
        rw [e, ← hp] at h2
        omega
      have hpi : (2 : Int) ^ q = (p : Int) := by rw [hp]; push_cast; rfl
      have hw2 : wrap64 ((2 : Int) ^ q) = (p : Int) := by rw [hp]; exact wrap_two (by omega)
      have hb0 : bits .or .i64 (u : Int) (p : Int) = ((u ||| p : Nat) : Int) := or_small hu hpb
      have hb2 : bits .or .i64 (u : Int) (wrap64 ((2 : Int) ^ q)) = ((u ||| p : Nat) : Int) := by rw [hw2]; exact hb0
      have hb3 : bits .or .i64 (u : Int) ((2 : Int) ^ q) = ((u ||| p : Nat) : Int) := by rw [hpi]; exact hb0
      rw [← hp] at HK
      clear hp hpb hpi hy HU hqe
      by_cases hb : x.testBit k = true
      · rw [if_pos hb] at hbit HK
        obtain ⟨u2, hu2⟩ : ∃ u2, u2 = u ||| p := ⟨_, rfl⟩
        rw [← hu2] at HK hb0 hb2 hb3
        have HU2 := Lib.hid HK.out.symm
        clear hb hu2 HK
        go_wp2_with fail
        go_round
        case rel => exact ⟨k + 1, u2, by omega, by go_num, by first | rfl | rw [hb3] | rw [hb2] | rw [hb0], HU2⟩
        case measure => simp [intOf]; omega
      · rw [if_neg hb] at hbit HK
        rw [Nat.or_zero] at HK
        have HU2 := Lib.hid HK.out.symm
        clear hb HK
        go_wp2_with fail
        go_round
        case rel => exact ⟨k + 1, u, by omega, by go_num, rfl, HU2⟩
        case measure => simp [intOf]; omega
    · obtain rfl : k = n := by omega
      go_wp2_with fail
      rw [HR.out]
      exact RetI.mk (y := (u : Int)) (by rw [HU.out, HF.out])
theorem moreR_succ (f : Nat → Nat → Nat) (j m : Nat) : moreR f (j + 1) m = moreR f j m ++ [f (j + 1) m] := by
  unfold moreR
  rw [List.range_succ, List.map_append]
  rfl
theorem step_fn3 {ops : Array Oper} {o : Oper} {a : Act} {w : World} {K : Act → World → Prop} {Q : Exit → Act → World → Prop} {E : Prop} {R : Ending → World → Prop} (f : FuncId) (x y z : Operand) (ts : Array TypeId) {vx vy vz : Value}
    (hg : o.guard = none) (ho : o.op = .call { callee := .value (.func f), args := #[x, y, z], argTypes := ts }) (hent : ∀ args w, (callFunc f args).run Tryz.prog w = .ok (.enter f args) w) (hx : a.eval x = vx) (hy : a.eval y = vy) (hz : a.eval z = vz)
    (hc : Calls Tryz.prog f #[vx, vy, vz] w R) (hK : ∀ e w', R e w' → ∃ v, e = .returned v ∧ K (a.put o.dst v) w') :
    if Region.wanted o (yielded ops a.tmps) = true then Oper.wp Tryz.prog o a w K Q else E := by
  refine step_fn hg ?_ hc hK
  subst hx; subst hy; subst hz
  simp [execOp, ho, resolve, invoke, hent, go_sem]
/-- the reduced rows of the least part, in a new block -/
def RetPt (ds : List Int) (f : Nat → Nat → Nat) (M : List Nat) (w : World) (e : Ending) (w' : World) : Prop :=
  ∃ S A c, RedS S ∧ (∀ r ∈ S, HomE ds r) ∧ partS f 20 M = S ∧ e = .returned (.slice A S.length c) ∧ OwnS w' w.heap.size A S.length c (intsN S) ∧ Below w.heap.size w w'
set_option maxRecDepth 100000 in
set_option maxHeartbeats 8000000 in
theorem l17Part_any (A1 A2 A : Option Addr) (n1 c1 n2 c2 n c : Nat) (ds : List Int) (act : List (List Int)) (M : List Nat) (w : World) (h : RdMod w A1 n1 c1 ds A2 n2 c2 act) (ht : TabF ds act) (hn2 : n2 ≤ 2000000)
    (hr : RdS w w.heap.size A n c (intsN M)) (hM : ∀ m ∈ M, HomE ds m) (hnn : n ≤ 1000000) :
    Calls Tryz.prog 39 #[.agg #[.slice A1 n1 c1, .slice A2 n2 c2], .slice A n c] w (RetPt ds (fun j x => sqF (act.map toT) ds.length j x) M w) := by
  obtain ⟨w0, b, hw0, hbe, hb0, hz0', hF⟩ := start1 w (.slice A1 n1 c1) (.slice A2 n2 c2) 27
  obtain ⟨f, hf⟩ : ∃ f : Nat → Nat → Nat, f = fun j x => sqF (act.map toT) ds.length j x := ⟨_, rfl⟩
  rw [← hf]
  have hn : n1 ≤ 16 := by rw [← h.ds.len]; exact ht.len
  have HL1 := Lib.hid h.ds.len
  have HFE := Lib.hid (show ∀ j x, HomE ds x → f j x = spA (act.map toT) j x from fun j x hx => by rw [hf]; exact ht.tri.sq hx.lt)
  have HFH := Lib.hid (show ∀ j m, HomE ds m → HomE ds (f j m) from fun j m hm => by rw [hf]; exact HomE.sq ht.tri ht.stem hm)
  have HLin := Lib.hid (show Lin f from by rw [hf]; exact sqF_lin _ _)
  have HSo := Lib.hid ht.sort
  have HT := Lib.hid ht
  have H := Lib.hid (h.below hb0)
  have HM := Lib.hid hM
  have Hw := Lib.hid hw0
  have Hbe := Lib.hid hbe
  have Hb0 := Lib.hid hb0
  have F0 := Lib.hid hF
  have C0 := Lib.hid (l12Basis_any A1 A2 A n1 c1 n2 c2 n c ds M w0 ((h.below hb0).ds) hn ((hr.below hb0).mono hb0.size) (fun m hm => (hM m hm).lt16 ht.len) hnn)
  obtain ⟨R, hR⟩ : ∃ R, R = RetPt ds f M w := ⟨_, rfl⟩
  have HR := Lib.hid hR
  rw [← hR]
  have k0 := hF.at_ (b := b) (o := 0) (V := .slice A1 n1 c1) (by simp)
  have k1 := hF.at_ (b := b) (o := 1) (V := .slice A2 n2 c2) (by simp)
  have HEn := Lib.hid (enters_of Tryz.func37 (by kernel_rfl) rfl)
  clear h ht hr hM hw0 hbe hb0 hF hR hz0' hf
  go_enter Tryz.func39, Tryz.ntmps39
  go_wp2_with fail
  rw [← Hw.out, ← Hbe.out]
  refine C0.out.mono ?_
  rintro e w1 ⟨A3, c3, rfl, ho1, hb1⟩
  have P0 := Lib.hid (show PartI ds f M (basTo ds M 21) from PartI.start HSo.out HM.out)
  have S0 := Lib.hid (show StS w0 w0.heap.size w1 A3 (basTo ds M 21).length c3 (intsN (basTo ds M 21)) from ⟨ho1, hb1, hb1.size⟩)
  clear k0 k1 ho1 hb1 C0
  go_wp2_with fail
  go_loopw [5] (fun x wr => ∃ (RR : List Nat) (l c' : Nat) (A' : Option Addr), x = .slice A' l c' ∧ l ≤ 16 ∧ Hid (l = RR.length) ∧ Hid (PartI ds f M RR) ∧ Hid (StS w0 w0.heap.size wr A' l c' (intsN RR))) (fun x _ => 17 - lenV x)
  case atStart => exact ⟨basTo ds M 21, _, c3, A3, rfl, P0.out.len HT.out.len, Lib.hid rfl, P0, S0⟩
  case round =>
    clear S0 P0
    obtain ⟨RR, l, c', A', rfl, hl16, HL, HP, HS⟩ := hrel
    have Z0 := Lib.hid (StS.start (w0 := wr) (w := wr) (B := wr.heap.size) (Below.refl _ _) (Nat.le_refl _))
    have HRd := Lib.hid (HS.out.own.rd)
    have HSt := Lib.hid (PartI.step HP.out HLin.out HSo.out HFH.out)
    have HMo := Lib.hid (HP.out.more HFH.out)
    obtain ⟨ws, hws⟩ : ∃ W : World, W = wr := ⟨_, rfl⟩
    subst hws
    go_wp2_with (at_builtin; refine wpList_joinI rfl (.tmp 13) (.tmp 14) rfl rfl rfl Z0.out ((HRd.out.below ((Below.refl ws.heap.size ws).alloc (Nat.le_refl _) (.cells #[] 2)))) (by omega) ?_)
    intro A6 c6 w6 hs6 _
    have HS6 := Lib.hid (show StS ws ws.heap.size w6 A6 l c6 (intsN (RR ++ (RR.take 0).flatMap (moreR f 20))) from by simpa [intsN] using hs6)
    clear hs6
    go_wp2_with fail
    go_loopw [6, 7] (fun x i wr => ∃ (k l2 c2' : Nat) (A2' : Option Addr), k ≤ l ∧ i = .int .i64 k ∧ x = .slice A2' l2 c2' ∧ Hid (l2 = l + 20 * k) ∧ Hid (StS ws ws.heap.size wr A2' l2 c2' (intsN (RR ++ (RR.take k).flatMap (moreR f 20))))) (fun _ i _ => l - (intOf i).toNat)
    case atStart => exact ⟨0, l, c6, A6, by omega, rfl, rfl, Lib.hid (by omega), HS6⟩
    case round =>
      clear HS6
      obtain ⟨k, l2, c2', A2', hk, rfl, rfl, HL2, HI⟩ := hrel
      by_cases hkl : k < l
      · obtain ⟨m, hm⟩ : ∃ m, RR[k]? = some m := ⟨_, List.getElem?_eq_getElem (by rw [← HL.out]; exact hkl)⟩
        have HTK := Lib.hid (show (RR.take (k + 1)).flatMap (moreR f 20) = (RR.take k).flatMap (moreR f 20) ++ moreR f 20 m from by
          rw [List.take_add_one, hm, Option.toList_some, List.flatMap_append]
          simp)
        have Hm := Lib.hid hm
        have HmE := Lib.hid (HP.out.hom m (List.mem_of_getElem? hm))
        clear hm
        go_wp2_with fail
        go_loopw [6, 8] (fun x i wr => ∃ (j l3 c3' : Nat) (A3' : Option Addr), j ≤ 20 ∧ i = .int .i64 ((j : Int) + 1) ∧ x = .slice A3' l3 c3' ∧ Hid (l3 = l2 + j) ∧ Hid (StS ws ws.heap.size wr A3' l3 c3' (intsN (RR ++ (RR.take k).flatMap (moreR f 20) ++ moreR f j m)))) (fun _ i _ => 21 - (intOf i).toNat)
        case atStart => exact ⟨0, l2, c2', A2', by omega, rfl, rfl, Lib.hid (by omega), by simpa [moreR] using HI⟩
        case round =>
          clear HI
          obtain ⟨j, l3, c3', A3', hj, rfl, rfl, HL3, HI⟩ := hrel
          by_cases hj20 : j < 20
          · have hj' : ((j : Int) + 1) ≤ 20 := by omega
            have hl3 : l3 ≤ 1000 := by have := HL3.out; have := HL2.out; omega
            obtain ⟨adx, y, rfl, _, hy, hc⟩ := (((HRd.out.below HI.out.bel)).mono HI.out.bel.size).at_ (k := k) hkl
            obtain rfl : y = (m : Int) := by
              have h1 := hy.out
              rw [intsN, List.getElem?_map, Hm.out] at h1
              exact (Option.some.inj h1).symm
            obtain ⟨u, hu⟩ : ∃ u, u = f (j + 1) m := ⟨_, rfl⟩
            have HU := Lib.hid (show spA (act.map toT) (j + 1) m = u from by rw [hu, HFE.out _ _ HmE.out])
            have HY := Lib.hid (show RR ++ (RR.take k).flatMap (moreR f 20) ++ moreR f (j + 1) m = RR ++ (RR.take k).flatMap (moreR f 20) ++ moreR f j m ++ [u] from by
              rw [hu, moreR_succ, ← List.append_assoc])
            have hmlt := Lib.hid (show m < 2 ^ n1 from by rw [← HL1.out]; exact HmE.out.lt)
            have HBW := Lib.hid (show Below w0.heap.size w0 wr from HS.out.bel.trans (HI.out.bel.mono HS.out.hi))
            have CA := Lib.hid (show ∀ (z : Int) (W : World), z = ((j : Int) + 1) → Below wr.heap.size wr W → Calls Tryz.prog 37 #[.agg #[.slice A1 n1 c1, .slice A2 n2 c2], .int .i64 z, .int .i64 (m : Nat)] W (RetIb (u : Nat) W) from fun z W hz hb => by
              subst hz
              have := act12_any A1 A2 n1 c1 n2 c2 (j + 1) m ds act W (H.out.below (HBW.out.trans (hb.mono HBW.out.size))) HT.out hn2 hmlt.out
              rw [HU.out, Int.natCast_add, Int.natCast_one] at this
              exact this)
            have kd0 := (F0.out.below HBW.out).at_ (b := b) (o := 0) (V := .slice A1 n1 c1) (by simp)
            have kd1 := (F0.out.below HBW.out).at_ (b := b) (o := 1) (V := .slice A2 n2 c2) (by simp)
            have HB1 := Lib.hid (Below.refl wr.heap.size wr)
            have HB2 := Lib.hid (below_dr (Below.refl wr.heap.size wr))
            clear hu hy
            go_upto_region 9 with fail
            go_region_law
              (first
                | (refine step_fn3 37 (.tmp 27) (.tmp 28) (.tmp 32) #[27, 2, 2] rfl rfl HEn.out rfl rfl rfl (CA.out _ _ (by first | rfl | omega) (by first | exact HB1.out | exact HB2.out)) ?_
                   rintro e w8 ⟨rfl, hb8⟩
                   refine ⟨_, rfl, ?_⟩
                   have HS9 := Lib.hid (show StS ws ws.heap.size w8 A3' l3 c3' (intsN (RR ++ (RR.take k).flatMap (moreR f 20) ++ moreR f j m)) from HI.out.call (by
                     first
                       | exact hb8
                       | exact (below_dr (Below.refl _ _)).trans hb8))
                   clear hb8)
                | (refine step_pushI rfl (.tmp 26) (.tmp 34) rfl rfl rfl rfl HS9.out (by omega) ?_
                   intro A9 c9 w9 hs9
                   have HS10 := Lib.hid (show StS ws ws.heap.size w9 A9 (l3 + 1) c9 (intsN (RR ++ (RR.take k).flatMap (moreR f 20) ++ moreR f (j + 1) m)) from by
                     rw [HY.out]
                     simpa [intsN] using hs9)
                   clear hs9))
            all_goals
              clear kd0 kd1
              go_wp2_with fail
              go_roundw
              case rel => exact ⟨j + 1, l3 + 1, _, _, by omega, by go_num, rfl, Lib.hid (by have := HL3.out; omega), HS10⟩
              case measure => simp [intOf]; omega
          · obtain rfl : j = 20 := by omega
            have HI3 := Lib.hid (show StS ws ws.heap.size wr A3' l3 c3' (intsN (RR ++ (RR.take (k + 1)).flatMap (moreR f 20))) from by rw [HTK.out, ← List.append_assoc]; exact HI.out)
            go_wp2_with fail
            go_roundw
            case rel => exact ⟨k + 1, l3, c3', A3', by omega, by go_num, rfl, Lib.hid (by have := HL3.out; have := HL2.out; omega), HI3⟩
            case measure => simp [intOf]; omega
      · obtain rfl : k = l := by omega
        have HTa := Lib.hid (show RR ++ (RR.take k).flatMap (moreR f 20) = moreF f 20 RR from by unfold moreF; rw [List.take_of_length_le (by rw [HL.out]; exact Nat.le_refl _)])
        have HBW := Lib.hid (show Below w0.heap.size w0 wr from HS.out.bel.trans (HI.out.bel.mono HS.out.hi))
        have HSk := Lib.hid (show StS w0 w0.heap.size wr A' k c' (intsN RR) from HS.out.call HI.out.bel)
        have hl2 : l2 ≤ 1000 := by have := HL2.out; omega
        have CB := Lib.hid (l12Basis_any A1 A2 A2' n1 c1 n2 c2 l2 c2' ds (moreF f 20 RR) wr (H.out.below HBW.out).ds hn (by rw [← HTa.out]; exact HI.out.own.rd) (fun m hm => (HMo.out m hm).lt16 HT.out.len) (by omega))
        have kd0 := (F0.out.below HBW.out).at_ (b := b) (o := 0) (V := .slice A1 n1 c1) (by simp)
        have kd1 := (F0.out.below HBW.out).at_ (b := b) (o := 1) (V := .slice A2 n2 c2) (by simp)
        obtain ⟨Q, hQ⟩ : ∃ Q, Q = basTo ds (moreF f 20 RR) 21 := ⟨_, rfl⟩
        rw [← hQ] at CB HSt
        clear hQ
        go_wp2_with fail
        refine CB.out.mono ?_
        rintro e w7 ⟨A7, c7, rfl, ho7, hb7⟩
        obtain ⟨q, hq⟩ : ∃ q, q = Q.length := ⟨_, rfl⟩
        have HQ := Lib.hid hq
        have S7 := Lib.hid (show StS w0 w0.heap.size w7 A7 q c7 (intsN Q) from by rw [hq]; exact ⟨ho7.mono HSk.out.hi, HSk.out.bel.trans (hb7.mono HSk.out.hi), Nat.le_trans HSk.out.hi hb7.size⟩)
        have S7k := Lib.hid (show StS w0 w0.heap.size w7 A' k c' (intsN RR) from HSk.out.call hb7)
        rw [← hq]
        clear ho7 hb7 kd0 kd1 hq CB
        by_cases hql : q = k
        · have HE := Lib.hid (show partS f 20 M = RR from HSt.out.2.1 (by rw [← HQ.out, ← HL.out, hql]))
          have hs1 : ((q : Int) == (k : Int)) = true := by simp [hql]
          clear hql
          go_wp2_with fail
          rw [HR.out]
          refine ⟨RR, A', c', HP.out.red, HP.out.hom, HE.out, by rw [← HL.out]; rfl, ?_, Hb0.out.trans (S7k.out.bel.mono Hb0.out.size)⟩
          rw [← HL.out]
          exact S7k.out.own.mono Hb0.out.size
        · have hs1 : ((q : Int) == (k : Int)) = false := by simp; omega
          have hgt : k < q := by have := HSt.out.2.2; rw [← HQ.out, ← HL.out] at this; omega
          have hq16 : q ≤ 16 := by have := HSt.out.1.len HT.out.len; rw [← HQ.out] at this; exact this
          clear hql
          go_wp2_with fail
          go_roundw
          case rel => exact ⟨Q, q, c7, A7, rfl, hq16, HQ, Lib.hid HSt.out.1, S7⟩
          case measure => simp [lenV]; omega
end Go.Proofs.YtejojliljplcdaaGreatDoor

/- What l12Quotient of the reference holds under way. -/
namespace Go.Proofs.YtejojliljplcdaaGreatDoor
open Go.RowKit
set_option linter.unusedVariables false

theorem RdS.frG {G : Nat → Prop} {w w' : World} {B n c : Nat} {A : Option Addr} {xs : List Int} (h : RdS w B A n c xs) (hB : B ≤ w.heap.size) (hf : FrG G w w') (hn : ∀ j, j < B → ¬ G j) : RdS w' B A n c xs :=
  ⟨h.len, h.cap, fun j hj => by
    obtain ⟨ad, e, hlt, hc⟩ := h.cell j hj
    refine ⟨ad, e, hlt, (World.cell?_of_block (a := ad.add j) ?_).trans hc⟩
    rw [block_of_add]
    exact hf.block _ (by omega) (hn _ hlt)⟩
theorem RdS.frA {G : Nat → Prop} {w w' : World} {B n c : Nat} {A : Option Addr} {xs : List Int} (h : RdS w B A n c xs) (hB : B ≤ w.heap.size) (hf : FrG G w w') (hn : ∀ ad, A = some ad → ¬ G ad.block) : RdS w' B A n c xs :=
  ⟨h.len, h.cap, fun j hj => by
    obtain ⟨ad, e, hlt, hc⟩ := h.cell j hj
    refine ⟨ad, e, hlt, (World.cell?_of_block (a := ad.add j) ?_).trans hc⟩
    rw [block_of_add]
    exact hf.block _ (by omega) (hn ad e)⟩
/-- the places that are kept, their numbers and degrees, under way -/
structure QSI (ws wr : World) (V g8 b5 n1 : Nat) (A7 : Option Addr) (m7 c7 : Nat) (A9 : Option Addr) (m9 c9 : Nat) (K : List Nat) (P D : List Int) : Prop where
  o7 : OwnS wr V A7 m7 c7 (intsN K)
  o8 : OwnS wr V (some ⟨g8, 0, none⟩) n1 n1 P
  o9 : OwnS wr (b5 + 1) A9 m9 c9 D
  e78 : Value.ownBlock (.slice A7 m7 c7) ≠ some g8
  e75 : Value.ownBlock (.slice A7 m7 c7) ≠ some b5
  e79 : ∀ g, Value.ownBlock (.slice A7 m7 c7) = some g → Value.ownBlock (.slice A9 m9 c9) ≠ some g
  cs : Cells [(b5, 0, .slice A9 m9 c9), (b5, 1, .slice none 0 0)] wr
  kd : ∃ cs, wr.heap[b5]? = some (.cells cs 27 (0, 0))
  bel : Below V ws wr
  lt : V ≤ ws.heap.size ∧ V ≤ g8 ∧ g8 < b5 ∧ b5 < ws.heap.size
section
variable {ws wr w' : World} {V g8 b5 n1 m7 c7 m9 c9 : Nat} {A7 A9 : Option Addr} {K : List Nat} {P D : List Int}
theorem QSI.size (h : QSI ws wr V g8 b5 n1 A7 m7 c7 A9 m9 c9 K P D) : V ≤ wr.heap.size := Nat.le_trans h.lt.1 h.bel.size
theorem QSI.below (h : QSI ws wr V g8 b5 n1 A7 m7 c7 A9 m9 c9 K P D) (hb : Below wr.heap.size wr w') : QSI ws w' V g8 b5 n1 A7 m7 c7 A9 m9 c9 K P D :=
  ⟨h.o7.below hb, h.o8.below hb, h.o9.below hb, h.e78, h.e75, h.e79, h.cs.below hb, by obtain ⟨cs, hk⟩ := h.kd; exact ⟨cs, by rw [hb.block b5 (h.cs.lt (b5, 0, .slice A9 m9 c9) (by simp))]; exact hk⟩, h.bel.trans (hb.mono h.size), h.lt⟩
theorem kind_keep {w w' : World} {b E : Nat} (h : ∃ cs, w.heap[b]? = some (.cells cs E (0, 0))) {r : Option Nat} (hg : w.grownBy w' r) (hl : b < w.heap.size) (hr : r ≠ some b) : ∃ cs, w'.heap[b]? = some (.cells cs E (0, 0)) := by
  obtain ⟨cs, hk⟩ := h
  exact ⟨cs, by rw [hg.block b hl fun e => hr e.symm]; exact hk⟩
theorem QSI.store (h : QSI ws wr V g8 b5 n1 A7 m7 c7 A9 m9 c9 K P D) {k : Nat} (hk : k < n1) : ∃ u, wr.cell? ⟨g8, k, none⟩ = some (.int .i64 u) ∧ wr.frozen? ⟨g8, k, none⟩ = false ∧ ∀ x, QSI ws (wr.setCell ⟨g8, k, none⟩ (.int .i64 x)) V g8 b5 n1 A7 m7 c7 A9 m9 c9 K (P.set k x) D := by
  obtain ⟨g, u, e, hb, hl, hx, hc, hf, hset⟩ := h.o8.at_ hk
  obtain rfl : g8 = g := by simpa using e
  refine ⟨u, hc, hf, fun x => ?_⟩
  obtain ⟨h1, hg⟩ := hset x
  obtain ⟨l1, l2, l3, l4⟩ := h.lt
  have l5 := h.cs.lt (b5, 0, .slice A9 m9 c9) (by simp)
  refine ⟨h.o7.grown hg fun ad e1 e2 => ?_, h1, h.o9.grown hg fun ad e1 e2 => ?_, h.e78, h.e75, h.e79, h.cs.grown hg ?_, kind_keep h.kd hg l5 (by simp; omega), h.bel.setCell (p := ⟨g8, k, none⟩) l2 _, h.lt⟩
  · subst e1; exact h.e78 e2
  · subst e1
    have := (h.o9.lt rfl).1
    injection e2 with e2
    omega
  · intro x hx e1
    injection e1 with e1
    simp only [List.mem_cons, List.not_mem_nil, or_false] at hx
    rcases hx with rfl | rfl <;> · dsimp only at e1; omega
theorem QSI.app7 (h : QSI ws wr V g8 b5 n1 A7 m7 c7 A9 m9 c9 K P D) {wb : World} (hb : Below wr.heap.size wr wb) {A' : Option Addr} {m' c' : Nat} {K' : List Nat} (ho : OwnS w' V A' m' c' (intsN K')) (hg : wb.grownBy w' (Value.ownBlock (.slice A7 m7 c7)))
    (hn : Value.ownBlock (.slice A' m' c') = Value.ownBlock (.slice A7 m7 c7) ∨ Value.ownBlock (.slice A' m' c') = some wb.heap.size) : QSI ws w' V g8 b5 n1 A' m' c' A9 m9 c9 K' P D := by
  have hB := h.below hb
  obtain ⟨l1, l2, l3, l4⟩ := h.lt
  have l5 := h.cs.lt (b5, 0, .slice A9 m9 c9) (by simp)
  have l6 := hb.size
  have l7 := hB.bel.size
  refine ⟨ho, hB.o8.grown hg fun ad e1 e2 => ?_, hB.o9.grown hg fun ad e1 e2 => ?_, fun e => ?_, fun e => ?_, fun g e1 e2 => ?_, hB.cs.grown hg fun x hx e1 => ?_, kind_keep hB.kd hg (by omega) h.e75, hB.bel.grown hg (by omega) fun g e => h.o7.row g e, h.lt⟩
  · injection e1 with e1; subst e1; exact h.e78 e2.symm
  · subst e1; exact h.e79 _ e2.symm rfl
  · rcases hn with hn | hn
    · exact h.e78 (hn.symm.trans e)
    · rw [hn] at e; injection e with e; omega
  · rcases hn with hn | hn
    · exact h.e75 (hn.symm.trans e)
    · rw [hn] at e; injection e with e; omega
  · rcases hn with hn | hn
    · exact h.e79 g (hn.symm.trans e1) e2
    · rw [hn] at e1; injection e1 with e1
      have := h.o9.own.lt g e2
      omega
  · simp only [List.mem_cons, List.not_mem_nil, or_false] at hx
    rcases hx with rfl | rfl <;> exact h.e75 e1.symm
theorem QSI.app9 (h : QSI ws wr V g8 b5 n1 A7 m7 c7 A9 m9 c9 K P D) {wb : World} (hb : Below wr.heap.size wr wb) {A' : Option Addr} {m' c' : Nat} {D' : List Int} (ho : OwnS w' (b5 + 1) A' m' c' D') (hg : wb.grownBy w' (Value.ownBlock (.slice A9 m9 c9)))
    (hn : Value.ownBlock (.slice A' m' c') = Value.ownBlock (.slice A9 m9 c9) ∨ Value.ownBlock (.slice A' m' c') = some wb.heap.size) :
    Cells [(b5, 0, .slice A9 m9 c9), (b5, 1, .slice none 0 0)] w' ∧ QSI ws (w'.setCell ⟨b5, 0, none⟩ (.slice A' m' c')) V g8 b5 n1 A7 m7 c7 A' m' c' K P D' := by
  have hB := h.below hb
  obtain ⟨l1, l2, l3, l4⟩ := h.lt
  have l5 := h.cs.lt (b5, 0, .slice A9 m9 c9) (by simp)
  have l6 := hb.size
  have l7 := hB.bel.size
  have e95 : Value.ownBlock (.slice A9 m9 c9) ≠ some b5 := fun e => by have := (h.o9.own.lt _ e).1; omega
  have hcs : Cells [(b5, 0, .slice A9 m9 c9), (b5, 1, .slice none 0 0)] w' := hB.cs.grown hg fun x hx e1 => by
    simp only [List.mem_cons, List.not_mem_nil, or_false] at hx
    rcases hx with rfl | rfl <;> exact e95 e1.symm
  have hkd := kind_keep hB.kd hg (by omega) e95
  have g5 : w'.grownBy (w'.setCell ⟨b5, 0, none⟩ (.slice A' m' c')) (some b5) := ⟨rfl, rfl, rfl, by simp [World.setCell], fun k hk e => Below.heap_setCell _ _ _ _ (fun e' => e (by rw [e']))⟩
  refine ⟨hcs, ?_⟩
  refine ⟨(hB.o7.grown hg fun ad e1 e2 => ?_).grown g5 fun ad e1 e2 => ?_, (hB.o8.grown hg fun ad e1 e2 => ?_).grown g5 fun ad e1 e2 => ?_, ho.grown g5 fun ad e1 e2 => ?_, h.e78, h.e75, fun g e1 e2 => ?_, ?_, kind_set hkd, (hB.bel.grown hg (by omega) fun g e => by have := (h.o9.own.lt g e).1; omega).setCell (p := ⟨b5, 0, none⟩) (by simp only; omega) _, h.lt⟩
  · subst e1; exact h.e79 _ rfl e2.symm
  · subst e1; exact h.e75 e2
  · injection e1 with e1; subst e1
    have := (h.o9.own.lt _ e2.symm).1
    dsimp only at this
    omega
  · injection e1 with e1; subst e1; injection e2 with e2; dsimp only at e2; omega
  · subst e1
    have := (ho.lt rfl).1
    injection e2 with e2
    omega
  · rcases hn with hn | hn
    · exact h.e79 g e1 (hn.symm.trans e2)
    · rw [hn] at e2; injection e2 with e2
      have := h.o7.own.lt g e1
      omega
  · exact Cells.set (U := .slice A9 m9 c9) (L := [(b5, 1, .slice none 0 0)]) (hcs.sub (by intro x hx; simp only [List.mem_cons, List.not_mem_nil, or_false] at hx ⊢; rcases hx with rfl | rfl <;> simp)) (by simp) _ |>.sub (by intro x hx; simp only [List.mem_cons, List.not_mem_nil, or_false] at hx ⊢; rcases hx with rfl | rfl <;> simp)
end
/-- the action under way: rows above the world it began in -/
structure ASI (w3 wr : World) (b5 : Nat) (S1 : Value) (A2 : Option Addr) (l c2 : Nat) (acc : List (List Int)) : Prop where
  cs : Cells [(b5, 0, S1), (b5, 1, .slice A2 l c2)] wr
  kd : ∃ cs, wr.heap[b5]? = some (.cells cs 27 (0, 0))
  act : OwnL wr w3.heap.size wr.heap.size A2 l c2 acc
  fr : FrG (fun j => j = b5) w3 wr
  lt : b5 < w3.heap.size
theorem ASI.below {w3 wr w' : World} {b5 l c2 : Nat} {S1 : Value} {A2 : Option Addr} {acc : List (List Int)} (h : ASI w3 wr b5 S1 A2 l c2 acc) (hb : Below wr.heap.size wr w') : ASI w3 w' b5 S1 A2 l c2 acc :=
  ⟨h.cs.below hb, by obtain ⟨cs, hk⟩ := h.kd; exact ⟨cs, by rw [hb.block b5 (h.cs.lt (b5, 0, S1) (by simp))]; exact hk⟩, (h.act.below hb).mono (Nat.le_refl _) hb.size, h.fr.trans (FrG.of_below hb), h.lt⟩
theorem ASI.put {w3 wr wb w' : World} {b5 l c2 c' : Nat} {S1 : Value} {A2 A' : Option Addr} {acc : List (List Int)} {x : List Int} (h : ASI w3 wr b5 S1 A2 l c2 acc) (hb : Below wr.heap.size wr wb) (ho : OwnL w' w3.heap.size w'.heap.size A' (l + 1) c' (acc ++ [x])) (hg : wb.grownBy w' (Value.ownBlock (.slice A2 l c2))) :
    Cells [(b5, 0, S1), (b5, 1, .slice A2 l c2)] w' ∧ ASI w3 (w'.setCell ⟨b5, 1, none⟩ (.slice A' (l + 1) c')) b5 S1 A' (l + 1) c' (acc ++ [x]) := by
  have hB := h.below hb
  have l1 := h.lt
  have hlow : ∀ g, Value.ownBlock (.slice A2 l c2) = some g → w3.heap.size ≤ g := fun g e => h.act.row g e
  have hne : Value.ownBlock (.slice A2 l c2) ≠ some b5 := fun e => by have := hlow _ e; omega
  have hcs : Cells [(b5, 0, S1), (b5, 1, .slice A2 l c2)] w' := hB.cs.grown hg fun x hx e => by
    simp only [List.mem_cons, List.not_mem_nil, or_false] at hx
    rcases hx with rfl | rfl <;> exact hne e.symm
  have l5 := hB.cs.lt (b5, 0, S1) (by simp)
  have hkd := kind_keep hB.kd hg l5 hne
  have hg5 : w'.grownBy (w'.setCell ⟨b5, 1, none⟩ (.slice A' (l + 1) c')) (some b5) := ⟨rfl, rfl, rfl, by simp [World.setCell], fun k hk e => Below.heap_setCell _ _ _ _ (fun e' => e (by rw [e']))⟩
  refine ⟨hcs, ?_, kind_set hkd, ?_, ?_, l1⟩
  · refine Cells.sub (Cells.set (U := .slice A2 l c2) (L := [(b5, 0, S1)]) (hcs.sub ?_) (by simp) (.slice A' (l + 1) c')) ?_
    · intro x hx
      simp only [List.mem_cons, List.not_mem_nil, or_false] at hx ⊢
      rcases hx with rfl | rfl <;> simp
    · intro x hx
      simp only [List.mem_cons, List.not_mem_nil, or_false] at hx ⊢
      rcases hx with rfl | rfl <;> simp
  · exact (ho.grownE hg5 hkd (by decide) (by decide)).mono (Nat.le_refl _) (by simp [World.setCell])
  · refine (hB.fr.later (FrG.of_grown (G := fun j => w3.heap.size ≤ j) hg hlow) fun j hj => .inr hj).trans (FrG.setCell _ _ _ rfl)
/-- what l12Quotient hands back: a module and a list of vectors, in new blocks -/
def RetQs (ds : List Int) (act imgs : List (List Int)) (w : World) (e : Ending) (w' : World) : Prop :=
  ∃ A1 c1 A2 c2 A3 c3 K, e = .returned (.tuple #[.agg #[.slice A1 ds.length c1, .slice A2 act.length c2], .slice A3 imgs.length c3]) ∧ w.heap.size ≤ K ∧ K ≤ w'.heap.size ∧ OwnS w' w.heap.size A1 ds.length c1 ds ∧ (∀ g, Value.ownBlock (.slice A1 ds.length c1) = some g → g < K) ∧
    OwnL w' K w'.heap.size A2 act.length c2 act ∧ OwnL w' w.heap.size w'.heap.size A3 imgs.length c3 imgs ∧ Below w.heap.size w w'
end Go.Proofs.YtejojliljplcdaaGreatDoor

/- UnstableQuotient on the program's side. -/
namespace Go.Proofs.YtejojliljplcdaaGreatDoor
open Go.RowKit
set_option linter.unusedVariables false

/-- the squares that have to be 0 in an unstable module -/
def mRow (T : List Tri) (ds : List Int) (i m : Nat) : List Nat := ((List.range m).filter fun v => decide (ds[v]?.getD 0 < (i : Int))).map fun v => rowF T i v
def mAll (T : List Tri) (ds : List Int) (n k : Nat) : List Nat := (List.range k).flatMap fun i => mRow T ds (i + 1) n
theorem mRow_yes {T : List Tri} {ds : List Int} {i m : Nat} (h : ds[m]?.getD 0 < (i : Int)) : mRow T ds i (m + 1) = mRow T ds i m ++ [rowF T i m] := by
  unfold mRow
  rw [List.range_succ, List.filter_append, List.map_append]
  simp [h]
theorem mRow_no {T : List Tri} {ds : List Int} {i m : Nat} (h : ¬ ds[m]?.getD 0 < (i : Int)) : mRow T ds i (m + 1) = mRow T ds i m := by
  unfold mRow
  rw [List.range_succ, List.filter_append, List.map_append]
  simp [h]
theorem mAll_succ (T : List Tri) (ds : List Int) (n k : Nat) : mAll T ds n (k + 1) = mAll T ds n k ++ mRow T ds (k + 1) n := by
  unfold mAll
  rw [List.range_succ, List.flatMap_append]
  simp
theorem mRow_len (T : List Tri) (ds : List Int) (i m : Nat) : (mRow T ds i m).length ≤ m := by
  unfold mRow
  rw [List.length_map]
  have := List.length_filter_le (fun v => decide (ds[v]?.getD 0 < (i : Int))) (List.range m)
  rw [List.length_range] at this
  exact this
theorem mAll_len (T : List Tri) (ds : List Int) (n : Nat) : ∀ k, (mAll T ds n k).length ≤ k * n
  | 0 => by simp [mAll]
  | k + 1 => by
    rw [mAll_succ, List.length_append, Nat.add_mul, Nat.one_mul]
    have := mAll_len T ds n k
    have := mRow_len T ds (k + 1) n
    omega
theorem mAll_lt {ds : List Int} {T : List Tri} (h : TriF ds T) (k : Nat) : ∀ m ∈ mAll T ds ds.length k, m < 65536 := by
  intro m hm
  obtain ⟨i, _, hm⟩ := List.mem_flatMap.1 hm
  obtain ⟨v, hv, rfl⟩ := List.mem_map.1 hm
  exact h.row_lt (List.mem_range.1 (List.mem_filter.1 hv).1)
/-- the quotient by a part with the basis S -/
def quD (S : List Nat) (ds : List Int) : List Int := (keptL S ds.length).map fun i => ds[i]?.getD 0
def quA (S : List Nat) (ds : List Int) (act : List (List Int)) : List (List Int) := actM (fun j b => toldF S ds.length (sqF (act.map toT) ds.length j (2 ^ ((keptL S ds.length)[b]?.getD 0)))) (keptL S ds.length).length 20
def quI (S : List Nat) (ds : List Int) : List (List Int) := (List.range ds.length).map fun i => vecF (toldF S ds.length (2 ^ i)) (keptL S ds.length).length
noncomputable def uqS (ds : List Int) (act : List (List Int)) : List Nat := partS (fun j x => sqF (act.map toT) ds.length j x) 20 (mAll (act.map toT) ds ds.length 20)
noncomputable def uqD (ds : List Int) (act : List (List Int)) : List Int := if modB ds act = true then quD (uqS ds act) ds else []
noncomputable def uqA (ds : List Int) (act : List (List Int)) : List (List Int) := if modB ds act = true then quA (uqS ds act) ds act else []
noncomputable def uqI (ds : List Int) (act : List (List Int)) : List (List Int) := if modB ds act = true then quI (uqS ds act) ds else []
noncomputable def uqK (ds : List Int) (act : List (List Int)) : Int := if modB ds act = true then 0 else 1
theorem sqF_row {ds : List Int} {T : List Tri} (h : TriF ds T) (j k : Nat) (hk : k < ds.length) : sqF T ds.length j (2 ^ k) = rowF T j k := by
  rw [h.sq (Nat.pow_lt_pow_right (by decide) hk), h.row hk]
theorem RdMod.belowB {w w1 : World} {B n1 c1 n2 c2 : Nat} {A1 A2 : Option Addr} {ds : List Int} {act : List (List Int)} (h : RdMod w A1 n1 c1 ds A2 n2 c2 act) (hb : Below w.heap.size w w1) : RdMod w1 A1 n1 c1 ds A2 n2 c2 act := h.below hb
theorem RetQu.void (k : Int) {w wn : World} {r : Nat} {V0 V1 : Value} (Bw : Below w.heap.size w wn) (hr : w.heap.size ≤ r) :
    RetQu [] [] [] k w (.returned (.tuple #[.agg #[.slice none 0 0, .slice none 0 0], .slice none 0 0, .int .i64 k])) ((wn.setCell ⟨r, 0, Option.none⟩ V0).setCell ⟨r, 1, Option.none⟩ V1) :=
  ⟨none, 0, none, 0, none, 0, w.heap.size, w.heap.size, rfl, Nat.le_refl _, Nat.le_refl _, OwnS.nil, (by intro g e; cases e), ⟨OwnL.nil, by intro g e; cases e⟩, OwnL.nil, (Bw.setCell (p := ⟨r, 0, Option.none⟩) hr V0).setCell (p := ⟨r, 1, Option.none⟩) hr V1⟩
theorem RetQu.put {w w8 : World} {r B c1 c2 c3 K1 K2 : Nat} {A1 A2 A3 : Option Addr} {ds : List Int} {act imgs : List (List Int)} {k : Int} (hk1 : B ≤ K1) (hk2 : K1 ≤ K2) (p1 : OwnS w8 B A1 ds.length c1 ds) (p2 : ∀ g, Value.ownBlock (.slice A1 ds.length c1) = some g → g < K1)
    (p3 : OwnM w8 K1 K2 A2 act.length c2 act) (p4 : OwnL w8 K2 w8.heap.size A3 imgs.length c3 imgs) (hr : r + 1 ≤ B) (hwr : w.heap.size ≤ r) (hb : Below w.heap.size w w8) (hwB : w.heap.size ≤ B) {V0 V1 : Value} :
    RetQu ds act imgs k w (.returned (.tuple #[.agg #[.slice A1 ds.length c1, .slice A2 act.length c2], .slice A3 imgs.length c3, .int .i64 k])) ((w8.setCell ⟨r, 0, none⟩ V0).setCell ⟨r, 1, none⟩ V1) := by
  have md : ∀ v1 v2, Mid r (r + 1) w8 ((w8.setCell ⟨r, 0, none⟩ v1).setCell ⟨r, 1, none⟩ v2) := fun v1 v2 => (mid_setCell (p := ⟨r, 0, none⟩) v1 ⟨Nat.le_refl _, Nat.lt_succ_self _⟩).trans (mid_setCell (p := ⟨r, 1, none⟩) v2 ⟨Nat.le_refl _, Nat.lt_succ_self _⟩)
  refine ⟨A1, c1, A2, c2, A3, c3, K1, K2, rfl, by omega, hk2, (p1.mid (md _ _) hr).mono hwB, p2, p3.mid (md _ _) (by omega), (p4.mid (md _ _) (by omega)).mono (Nat.le_refl _) (by simp [World.setCell]), (hb.setCell (p := ⟨r, 0, none⟩) hwr _).setCell (p := ⟨r, 1, none⟩) hwr _⟩
set_option maxRecDepth 100000 in
set_option maxHeartbeats 8000000 in
theorem iUnstableQuotient_any (A1 A2 : Option Addr) (n1 c1 n2 c2 : Nat) (ds : List Int) (act : List (List Int)) (w : World) (hT : Deb w) (h : RdMod w A1 n1 c1 ds A2 n2 c2 act) (hn1 : n1 ≤ 2000000) (hn2 : n2 ≤ 2000000) (ht : totalL act ≤ 2000000) :
    Calls Tryz.prog 9 #[.agg #[.slice A1 n1 c1, .slice A2 n2 c2]] w (RetQu (uqD ds act) (uqA ds act) (uqI ds act) (uqK ds act) w) := by
  obtain ⟨w0, b, hw0, hbe, hb0, hz0, hF⟩ := start22 w (.slice A1 n1 c1) (.slice A2 n2 c2) (.slice none 0 0) (.slice none 0 0) 27 27
  have hl1 : ds.length = n1 := h.ds.len
  have C0 := Lib.hid (isModule_any A1 A2 n1 c1 n2 c2 ds act w0 (h.below hb0) hn1 hn2 ht)
  have F0 := Lib.hid hF
  have Hw := Lib.hid hw0
  have Hbe := Lib.hid hbe
  have Bw0 := Lib.hid hb0
  have HZ0 := Lib.hid hz0
  have HM0 := Lib.hid (h.below hb0)
  have HT0 := Lib.hid (hT.below hb0)
  have HL1 := Lib.hid hl1
  obtain ⟨X, hX⟩ : ∃ X, X = RetQu (uqD ds act) (uqA ds act) (uqI ds act) (uqK ds act) w := ⟨_, rfl⟩
  have HX := Lib.hid hX
  rw [← hX]
  have k0 := hF.at_ (b := b) (o := 0) (V := .slice A1 n1 c1) (by simp)
  have k1 := hF.at_ (b := b) (o := 1) (V := .slice A2 n2 c2) (by simp)
  obtain ⟨m, hm⟩ : ∃ m, m = modB ds act := ⟨_, rfl⟩
  rw [← hm] at C0
  clear h hX hF hw0 hbe hb0 hz0 hT hl1
  cases m
  · have HV := Lib.hid (show X = RetQu [] [] [] 1 w from by rw [HX.out]; unfold uqD uqA uqI uqK; rw [← hm]; simp)
    clear hm
    go_enter Tryz.func9, Tryz.ntmps9
    go_wp2_with fail
    rw [← Hw.out, ← Hbe.out]
    refine C0.out.mono ?_
    rintro e w1 ⟨rfl, hb1⟩
    have F1 := Lib.hid (F0.out.below hb1)
    have q0 := F1.out.at_ (b := b + 1) (o := 0) (V := .slice none 0 0) (by simp)
    have q1 := F1.out.at_ (b := b + 1) (o := 1) (V := .slice none 0 0) (by simp)
    have f0 := F1.out.fr (b := b + 1) (o := 0) (V := .slice none 0 0) (by simp)
    have f1 := F1.out.fr (b := b + 1) (o := 1) (V := .slice none 0 0) (by simp)
    have hres := cells_end q0 q1 (.slice none 0 0) (.slice none 0 0)
    have B1 := Lib.hid (Bw0.out.trans (hb1.mono Bw0.out.size))
    clear k0 k1 hb1
    go_wp2_with fail
    refine bodyPost_ret (v := .tuple #[.agg #[.slice none 0 0, .slice none 0 0], .slice none 0 0, .int .i64 1]) (by simp [results, Tryz.results9, go_sem, hres.1, hres.2]) rfl ?_
    rw [HV.out]
    exact RetQu.void 1 B1.out (by rw [Hbe.out]; omega)
  · have HV := Lib.hid (show X = RetQu (quD (uqS ds act) ds) (quA (uqS ds act) ds act) (quI (uqS ds act) ds) 0 w from by rw [HX.out]; unfold uqD uqA uqI uqK; rw [← hm]; simp)
    have hmb : modB ds act = true := hm.symm
    have hTF : TabF ds act := tabF_of (by unfold modB at hmb; rw [Bool.and_eq_true] at hmb; exact hmb.1)
    have HTF := Lib.hid hTF
    have hn16 : n1 ≤ 16 := by rw [← HL1.out]; exact hTF.len
    clear hm hmb hTF
    go_enter Tryz.func9, Tryz.ntmps9
    go_wp2_with fail
    rw [← Hw.out, ← Hbe.out]
    refine C0.out.mono ?_
    rintro e w1 ⟨rfl, hb1⟩
    have F1 := Lib.hid (F0.out.below hb1)
    have B1 := Lib.hid hb1
    have M1 := Lib.hid (HM0.out.below hb1)
    have T1 := Lib.hid (HT0.out.below hb1)
    have C1 := Lib.hid (tableOf_any A1 A2 n1 c1 n2 c2 ds act w1 M1.out HTF.out hn2)
    clear k0 k1 hb1
    have k0 := F1.out.at_ (b := b) (o := 0) (V := .slice A1 n1 c1) (by simp)
    have k1 := F1.out.at_ (b := b) (o := 1) (V := .slice A2 n2 c2) (by simp)
    go_wp2_with fail
    refine C1.out.mono ?_
    rintro e wt ⟨t, rfl, htab, hbt⟩
    have TB := Lib.hid htab
    have FT := Lib.hid (F1.out.below hbt)
    have MT := Lib.hid (M1.out.below hbt)
    have TT := Lib.hid (T1.out.below hbt)
    have BT := Lib.hid (show Below w.heap.size w wt from Bw0.out.trans ((B1.out.trans (hbt.mono B1.out.size)).mono Bw0.out.size))
    have S0 := Lib.hid (StS.start (w0 := wt) (w := wt) (B := wt.heap.size) (Below.refl _ _) (Nat.le_refl _))
    have zb := Lib.hid (show b + 1 + 1 ≤ wt.heap.size from by have := HZ0.out; have := B1.out.size; have := hbt.size; omega)
    clear k0 k1 htab hbt
    go_wp2_with fail
    go_loopw [6, 7] (fun x i wr => ∃ (k l c : Nat) (A : Option Addr), k ≤ 20 ∧ i = .int .i64 ((k : Int) + 1) ∧ x = .slice A l c ∧ Hid (l ≤ k * n1) ∧ Hid (StS wt wt.heap.size wr A l c (intsN (mAll (act.map toT) ds n1 k)))) (fun _ i _ => 21 - (intOf i).toNat)
    case atStart => exact ⟨0, 0, 0, _, by omega, rfl, rfl, Lib.hid (by omega), by simpa [mAll, intsN] using S0⟩
    case round =>
      clear S0
      obtain ⟨k, l, c, A, hk, rfl, rfl, HLl, HS⟩ := hrel
      have kn : k * n1 ≤ 20 * 16 := Nat.mul_le_mul hk hn16
      have KN := Lib.hid kn
      clear kn
      by_cases hlt : k < 20
      · have hk20 : ((k : Int) + 1) ≤ 20 := by omega
        have k0 := (FT.out.below HS.out.bel).at_ (b := b) (o := 0) (V := .slice A1 n1 c1) (by simp)
        go_wp2_with fail
        clear k0
        go_loopw [6, 24] (fun x i wr => ∃ (v l3 c3 : Nat) (A3 : Option Addr), v ≤ n1 ∧ i = .int .i64 v ∧ x = .slice A3 l3 c3 ∧ Hid (l3 ≤ k * n1 + v) ∧ Hid (StS wt wt.heap.size wr A3 l3 c3 (intsN (mAll (act.map toT) ds n1 k ++ mRow (act.map toT) ds (k + 1) v)))) (fun _ i _ => n1 - (intOf i).toNat)
        case atStart => exact ⟨0, l, c, A, by omega, rfl, rfl, Lib.hid (by have := HLl.out; omega), by simpa [mRow] using HS⟩
        case round =>
          clear HS
          obtain ⟨v, l3, c3, A3, hv, rfl, rfl, HL3, HS⟩ := hrel
          have HTB := Lib.hid (TB.out.below HS.out.bel)
          have HD := Lib.hid (MT.out.below HS.out.bel).ds
          by_cases hvl : v < n1
          · obtain ⟨adx, d, rfl, _, hd, hcd⟩ := HD.out.at_ (k := v) hvl
            have hde : ds[v]?.getD 0 = d := by rw [hd.out]; rfl
            have hl3 : l3 ≤ 1000 := by have := HL3.out; have := KN.out; omega
            by_cases hgt : d < (k : Int) + 1
            · obtain ⟨g, _, hg, hrow⟩ := HTB.out.row (k + 1) (by omega)
              obtain ⟨adr, z, had, _, hz, hcz⟩ := hrow.at_ (k := v) hvl
              obtain rfl : ⟨g, 0, none⟩ = adr := by simpa using had
              obtain ⟨y, hy⟩ : ∃ y, y = rowF (act.map toT) (k + 1) v := ⟨_, rfl⟩
              obtain rfl : z = (y : Int) := by
                have := hz.out
                rw [List.getElem?_map, List.getElem?_range hvl] at this
                rw [hy]
                exact (Option.some.inj this).symm
              have hga : wr.cell? (⟨t, 1 + (k + 1), none⟩ : Addr) = some (.slice (some ⟨g, 0, none⟩) n1 n1) := hg
              have hcz2 : wr.cell? (⟨g, v, none⟩ : Addr) = some (.int .i64 (y : Int)) := by by_cases e : v = 0 <;> simpa [Addr.add, e] using hcz
              have HK := Lib.hid (show mAll (act.map toT) ds n1 k ++ mRow (act.map toT) ds (k + 1) (v + 1) = (mAll (act.map toT) ds n1 k ++ mRow (act.map toT) ds (k + 1) v) ++ [y] from by
                rw [mRow_yes (by rw [hde]; omega), ← hy, List.append_assoc])
              have hk21 : ((k : Int) + 1) < 21 := by omega
              have hk0 : (0 : Int) ≤ (k : Int) + 1 := by omega
              have hkn : ((k : Int) + 1).toNat = k + 1 := by omega
              clear hd hrow had hz hy hg hcz hde
              go_wp2_with (at_builtin; refine wpList_pushI rfl (.tmp 32) (.tmp 42) rfl rfl rfl HS.out (by omega) ?_)
              intro A6 c6 w6 hs6 _
              have HS6 := Lib.hid (show StS wt wt.heap.size w6 A6 (l3 + 1) c6 (intsN (mAll (act.map toT) ds n1 k ++ mRow (act.map toT) ds (k + 1) (v + 1))) from by rw [HK.out]; simpa [intsN] using hs6)
              clear hs6
              go_wp2_with fail
              go_roundw
              case rel => exact ⟨v + 1, l3 + 1, c6, A6, by omega, by go_num, rfl, Lib.hid (by have := HL3.out; omega), HS6⟩
              case measure => simp [intOf]; omega
            · have HS6 := Lib.hid (show StS wt wt.heap.size wr A3 l3 c3 (intsN (mAll (act.map toT) ds n1 k ++ mRow (act.map toT) ds (k + 1) (v + 1))) from by rw [mRow_no (by rw [hde]; omega)]; exact HS.out)
              clear hd hde
              go_wp2_with fail
              go_roundw
              case rel => exact ⟨v + 1, l3, c3, A3, by omega, by go_num, rfl, Lib.hid (by have := HL3.out; omega), HS6⟩
              case measure => simp [intOf]; omega
          · obtain rfl : v = n1 := by omega
            have HS6 := Lib.hid (show StS wt wt.heap.size wr A3 l3 c3 (intsN (mAll (act.map toT) ds v (k + 1))) from by rw [mAll_succ]; exact HS.out)
            go_wp2_with fail
            go_roundw
            case rel => exact ⟨k + 1, l3, c3, A3, by omega, by simp, rfl, Lib.hid (by have := HL3.out; rw [Nat.add_mul, Nat.one_mul]; omega), HS6⟩
            case measure => simp [intOf]; omega
      · obtain rfl : k = 20 := by omega
        have hll : l ≤ 1000 := by have := HLl.out; have := KN.out; omega
        obtain ⟨f, hf⟩ : ∃ f : Nat → Nat → Nat, f = fun j x => sqF (act.map toT) n1 j x := ⟨_, rfl⟩
        have HMl := Lib.hid (show ∀ m ∈ mAll (act.map toT) ds n1 20, m < 65536 from by rw [← HL1.out]; exact mAll_lt HTF.out.tri 20)
        have htl : 1 ≤ wt.heap.size := TT.out.pos
        have CG := Lib.hid (show ∀ W, Below wr.heap.size wr W → Calls Tryz.prog 45 #[.agg #[.slice A1 n1 c1, .slice A2 n2 c2], .slice A l c] W (RetGen f (mAll (act.map toT) ds n1 20) A W) from fun W hb => by
          have hbW := HS.out.bel.trans (hb.mono HS.out.hi)
          rw [hf]
          exact generated_any A1 A2 A n1 c1 n2 c2 l c wt.heap.size ds act _ W (MT.out.below hbW) HTF.out hn2 (HS.out.own.below hb) htl HMl.out hll (TT.out.below hbW))
        have HBG := Lib.hid (show ∀ W W', Below wr.heap.size wr W → FrG (qB A) W W' → Below wt.heap.size wt W' from fun W W' hb hf' => by
          have hbW := HS.out.bel.trans (hb.mono HS.out.hi)
          refine hbW.trans (hf'.below hbW.size fun j ⟨ad, e, hj⟩ => ?_)
          have := (HS.out.own.below hb).lt e
          omega)
        have HUS := Lib.hid (show uqS ds act = partS f 20 (mAll (act.map toT) ds n1 20) from by unfold uqS; rw [HL1.out, hf])
        have HFR := Lib.hid (show ∀ j k, k < n1 → f j (2 ^ k) = rowF (act.map toT) j k from fun j k hk => by
          rw [hf, ← HL1.out]
          exact sqF_row HTF.out.tri j k (by rw [HL1.out]; exact hk))
        have HQA := Lib.hid (show ∀ S, quA S ds act = actM (fun j b => toldF S n1 (f j (2 ^ ((keptL S n1)[b]?.getD 0)))) (keptL S n1).length 20 from fun S => by unfold quA; rw [HL1.out, hf])
        have HQD := Lib.hid (show ∀ S, quD S ds = (keptL S n1).map fun i => ds[i]?.getD 0 from fun S => by unfold quD; rw [HL1.out])
        have HQI := Lib.hid (show ∀ S, quI S ds = (List.range n1).map fun i => vecF (toldF S n1 (2 ^ i)) (keptL S n1).length from fun S => by unfold quI; rw [HL1.out])
        have hEntG := enters_of Tryz.func45 (by kernel_rfl) rfl
        have hEntQ := enters_of Tryz.func44 (by kernel_rfl) rfl
        have CELL := Lib.hid (show ∀ W, Below wt.heap.size wt W → W.cell? ⟨b, 0, none⟩ = some (.slice A1 n1 c1) ∧ W.cell? ⟨b, 1, none⟩ = some (.slice A2 n2 c2) ∧ W.cell? ⟨b + 1, 0, none⟩ = some (.slice none 0 0) ∧ W.cell? ⟨b + 1, 1, none⟩ = some (.slice none 0 0) ∧ W.frozen? ⟨b + 1, 0, none⟩ = false ∧ W.frozen? ⟨b + 1, 1, none⟩ = false from fun W hb => by
          have hF := FT.out.below hb
          exact ⟨hF.at_ (by simp), hF.at_ (by simp), hF.at_ (by simp), hF.at_ (by simp), hF.fr (V := .slice none 0 0) (by simp), hF.fr (V := .slice none 0 0) (by simp)⟩)
        obtain ⟨kb0, kb1, _, _, _, _⟩ := CELL.out _ HS.out.bel
        have HB1 := Lib.hid (Below.refl wr.heap.size wr)
        have HB2 := Lib.hid (below_dr (Below.refl wr.heap.size wr))
        clear hf
        go_upto_region 13 with fail
        go_region_law
          (first
            | (first
                | (refine step_fn2 45 (.tmp 46) (.tmp 47) #[27, 22] rfl rfl hEntG rfl rfl (CG.out _ HB1.out) ?_
                   rintro e w7 ⟨S, n7, A7, c7, rfl, hr7, hs7, hl7, ho7, hf7⟩
                   have B7 := Lib.hid (HBG.out _ _ HB1.out hf7))
                | (refine step_fn2 45 (.tmp 46) (.tmp 47) #[27, 22] rfl rfl hEntG rfl rfl (CG.out _ HB2.out) ?_
                   rintro e w7 ⟨S, n7, A7, c7, rfl, hr7, hs7, hl7, ho7, hf7⟩
                   have B7 := Lib.hid (HBG.out _ _ HB2.out hf7))
               refine ⟨_, rfl, ?_⟩
               have HSe := Lib.hid (show uqS ds act = S from by rw [HUS.out]; exact partS_eq hr7 hs7)
               have CQ := Lib.hid (show ∀ W, Below w7.heap.size w7 W → Calls Tryz.prog 44 #[.agg #[.slice A1 n1 c1, .slice A2 n2 c2], .slice A7 n7 c7] W (RetQu (quD (uqS ds act) ds) (quA (uqS ds act) ds act) (quI (uqS ds act) ds) 0 W) from fun W hb => by
                 have hbW := B7.out.trans (hb.mono B7.out.size)
                 rw [HSe.out, HQA.out, HQD.out, HQI.out]
                 exact quotientOf_any A1 A2 A7 n1 c1 n2 c2 n7 c7 ds act S W (MT.out.below hbW) HTF.out hn2 (ho7.below hb).rd hr7.good hl7 (TT.out.below hbW) f HFR.out)
               obtain ⟨kc0, kc1, _, _, _, _⟩ := CELL.out _ B7.out
               have HC1 := Lib.hid (Below.refl w7.heap.size w7)
               have HC2 := Lib.hid (below_dr (Below.refl w7.heap.size w7))
               clear hr7 hs7 hl7 ho7 hf7)
            | (first
                | refine step_fn2 44 (.tmp 45) (.tmp 48) #[27, 22] rfl rfl hEntQ rfl rfl (CQ.out _ HC1.out) ?_
                | refine step_fn2 44 (.tmp 45) (.tmp 48) #[27, 22] rfl rfl hEntQ rfl rfl (CQ.out _ HC2.out) ?_
               rintro e w8 ⟨B1', d1, B2', d2, B3', d3, K1, K2, rfl, hk1, hk2, p1, p2, p3, p4, pb⟩
               refine ⟨_, rfl, ?_⟩
               have P8 := Lib.hid (And.intro hk1 (And.intro hk2 (And.intro p1 (And.intro p2 (And.intro p3 p4)))))
               have B8 := Lib.hid (show Below wt.heap.size wt w8 from by
                 first
                   | exact B7.out.trans (pb.mono B7.out.size)
                   | exact (B7.out.trans (HC2.out.mono B7.out.size)).trans (pb.mono (Nat.le_trans B7.out.size HC2.out.size)))
               obtain ⟨kd0, kd1, kr0, kr1, kf0, kf1⟩ := CELL.out _ B8.out
               clear hk1 hk2 p1 p2 p3 p4 pb))
        all_goals
          have FX := Lib.hid (show X (.returned (.tuple #[.agg #[.slice B1' (quD (uqS ds act) ds).length d1, .slice B2' (quA (uqS ds act) ds act).length d2], .slice B3' (quI (uqS ds act) ds).length d3, .int .i64 0])) ((w8.setCell ⟨b + 1, 0, none⟩ (.slice B1' (quD (uqS ds act) ds).length d1)).setCell ⟨b + 1, 1, none⟩ (.slice B2' (quA (uqS ds act) ds act).length d2)) from by
            rw [HV.out]
            obtain ⟨hk1, hk2, p1, p2, p3, p4⟩ := P8.out
            have z7 := B7.out.size
            have zbb := zb.out
            have hbw : w.heap.size = b := Hbe.out.symm
            try simp only [World.drew] at hk1 p1
            exact RetQu.put hk1 hk2 p1 p2 p3 p4 (by omega) (by omega) (BT.out.trans (B8.out.mono BT.out.size)) (by omega))
          have hres := cells_end kr0 kr1 (.slice B1' (quD (uqS ds act) ds).length d1) (.slice B2' (quA (uqS ds act) ds act).length d2)
          clear kb0 kb1 kc0 kc1 kd0 kd1 kr0 kr1 kf0 kf1
          go_wp2_with fail
          refine bodyPost_ret (v := .tuple #[.agg #[.slice B1' (quD (uqS ds act) ds).length d1, .slice B2' (quA (uqS ds act) ds act).length d2], .slice B3' (quI (uqS ds act) ds).length d3, .int .i64 0]) (by simp [results, Tryz.results9, go_sem, hres.1, hres.2]) rfl ?_
          exact FX.out
--W
end Go.Proofs.YtejojliljplcdaaGreatDoor

/- l12Quotient on the reference's side. -/
namespace Go.Proofs.YtejojliljplcdaaGreatDoor
open Go.RowKit
set_option linter.unusedVariables false

theorem made_at (w : World) (B n : Nat) (hB : B ≤ w.heap.size) (hn : n ≤ maxLen) {g : Nat} (hg : g = w.heap.size) : OwnS (w.alloc (.cells (madeCells #[.int .i64 0] n) 2)) B (some ⟨g, 0, none⟩) n n (List.replicate n 0) := by
  subst hg; exact (own_made w n hn).mono hB
theorem empty_at (w : World) (B : Nat) (hB : B ≤ w.heap.size) {g : Nat} (hg : g = w.heap.size) : OwnS (w.alloc (.cells #[] 2)) B (some ⟨g, 0, none⟩) 0 0 [] := by
  subst hg; exact own_empty w B hB
theorem pow_facts {q : Nat} (h : q < 16) : ∃ p : Nat, p < 65536 ∧ Hid (p = 2 ^ q) ∧ Hid ((2 : Int) ^ q = (p : Int) ∧ wrap64 ((2 : Int) ^ q) = (p : Int) ∧ IntKind.i64.wrap (p : Int) = (p : Int)) := by
  have h1 : 2 ^ q < 65536 := by have := Nat.pow_lt_pow_right (a := 2) (by decide) h; simpa using this
  refine ⟨2 ^ q, h1, Lib.hid rfl, Lib.hid ⟨by push_cast; rfl, wrap_two (by omega), ?_⟩⟩
  generalize 2 ^ q = p at h1
  rw [IntKind.wrap_i64]; omega
theorem shl_wrap {q p : Nat} (h : q < 16) (hp : p = 2 ^ q) : IntKind.i64.wrap (2 ^ min (IntKind.u64.wrap (q : Int)).toNat 64) = (p : Int) := by
  have e1 : (IntKind.u64.wrap (q : Int)).toNat = q := by clear hp; simp [IntKind.wrap, IntKind.bits, IntKind.signed]; omega
  have e2 : min q 64 = q := by omega
  have hb : 2 ^ q < 65536 := by have := Nat.pow_lt_pow_right (a := 2) (by decide) h; simpa using this
  have e3 : (2 : Int) ^ q = ((2 ^ q : Nat) : Int) := by push_cast; rfl
  rw [e1, e2, hp, e3]
  clear e1 e2 e3 hp
  generalize 2 ^ q = r at hb ⊢
  rw [IntKind.wrap_i64]
  omega
theorem pv_step {S : List Nat} {k r : Nat} (h : S[k]? = some r) : pvN (S.take (k + 1)) = pvN (S.take k) ||| 2 ^ lowB r := by
  rw [List.take_add_one, h, Option.toList_some, pvN_snoc]
set_option maxRecDepth 100000 in
set_option maxHeartbeats 16000000 in
theorem l12Quotient_any (A1 A2 A : Option Addr) (n1 c1 n2 c2 n c : Nat) (ds : List Int) (act : List (List Int)) (S : List Nat) (w : World) (h : RdMod w A1 n1 c1 ds A2 n2 c2 act) (ht : TabF ds act) (hn2 : n2 ≤ 2000000)
    (hr : RdS w w.heap.size A n c (intsN S)) (hg : GoodB S) (hS : ∀ r ∈ S, r < 65536) :
    Calls Tryz.prog 38 #[.agg #[.slice A1 n1 c1, .slice A2 n2 c2], .slice A n c] w (RetQs (quD S ds) (quA S ds act) (quI S ds) w) := by
  obtain ⟨w0, b, hw0, hbe, hb0, hz0, hF⟩ := start22 w (.slice A1 n1 c1) (.slice A2 n2 c2) (.slice none 0 0) (.slice none 0 0) 27 27
  have hl1 : ds.length = n1 := h.ds.len
  have hn16 : n1 ≤ 16 := by rw [← hl1]; exact ht.len
  have hSl : S.length = n := by have := hr.len; simpa [intsN] using this
  have hn : n ≤ 16 := by rw [← hSl]; exact hg.len (n := 16) hS
  have F0 := Lib.hid hF
  have Hw := Lib.hid hw0
  have Hbe := Lib.hid hbe
  have Bw0 := Lib.hid hb0
  have HZ0 := Lib.hid hz0
  have HM0 := Lib.hid (h.below hb0)
  have HR0 := Lib.hid ((hr.below hb0).mono hb0.size)
  have HTF := Lib.hid ht
  have HL1 := Lib.hid hl1
  have HSl := Lib.hid hSl
  have HG := Lib.hid hg
  have HSw := Lib.hid hS
  obtain ⟨X, hX⟩ : ∃ X, X = RetQs (quD S ds) (quA S ds act) (quI S ds) w := ⟨_, rfl⟩
  have HX := Lib.hid hX
  rw [← hX]
  have k0 := hF.at_ (b := b) (o := 0) (V := .slice A1 n1 c1) (by simp)
  have k1 := hF.at_ (b := b) (o := 1) (V := .slice A2 n2 c2) (by simp)
  have k0a := (F0.out.below ((Below.refl w0.heap.size w0).alloc (Nat.le_refl _) (.cells #[] 2))).at_ (b := b) (o := 0) (V := .slice A1 n1 c1) (by simp)
  have hmk := make_i64 n1 (by omega)
  clear h hX hF hw0 hbe hb0 hz0 hl1 ht hr hg hS hSl
  go_enter Tryz.func38, Tryz.ntmps38
  go_wp2_with fail
  rw [← Hw.out, ← Hbe.out]
  go_upto_region 1 with fail
  go_cut [6, 7, 8] (fun o p q wc => ∃ g7 g8 : Nat, o = .int .i64 0 ∧ p = .slice (some ⟨g7, 0, none⟩) 0 0 ∧ q = .slice (some ⟨g8, 0, none⟩) n1 n1 ∧ Hid (g7 ≠ g8 ∧ w0.heap.size ≤ g8 ∧ OwnS wc w0.heap.size (some ⟨g7, 0, none⟩) 0 0 [] ∧ OwnS wc w0.heap.size (some ⟨g8, 0, none⟩) n1 n1 (List.replicate n1 0) ∧ Below w0.heap.size w0 wc))
  case first =>
    go_region
    all_goals
      go_wp2_with fail
      go_meet
      have hml : n1 ≤ maxLen := by unfold maxLen; omega
      first
        | exact ⟨w0.heap.size, w0.heap.size + 1, rfl, rfl, rfl, Lib.hid ⟨by omega, by omega, ((empty_at w0 w0.heap.size (Nat.le_refl _) rfl).alloc _).drew, (made_at _ w0.heap.size n1 (by simp) hml (by simp)).drew, below_dr (((Below.refl _ _).alloc (Nat.le_refl _) _).alloc (by simp) _)⟩⟩
        | exact ⟨w0.heap.size + 1, w0.heap.size, rfl, rfl, rfl, Lib.hid ⟨by omega, by omega, (empty_at _ w0.heap.size (by simp) (by simp)).drew, ((made_at w0 w0.heap.size n1 (Nat.le_refl _) hml rfl).alloc _).drew, below_dr (((Below.refl _ _).alloc (Nat.le_refl _) _).alloc (by simp) _)⟩⟩
  case rest =>
    obtain ⟨g7, g8, rfl, rfl, rfl, hc⟩ := hcut
    clear hmk k0a k0 k1
    go_wp2_with fail
    go_loop [6, 9] (fun v i => ∃ (k u : Nat), k ≤ n ∧ i = .int .i64 k ∧ v = .int .i64 u ∧ u < 65536 ∧ Hid (u = pvN (S.take k))) (fun _ i => n - (intOf i).toNat)
    case atStart => exact ⟨0, 0, Nat.zero_le _, rfl, rfl, by omega, Lib.hid rfl⟩
    case round =>
      obtain ⟨k, u, hk, rfl, rfl, hu, HU⟩ := hrel
      by_cases hlt : k < n
      · obtain ⟨ad, y, rfl, _, hy, hcy⟩ := (HR0.out.below hc.out.2.2.2.2).at_ hlt
        obtain ⟨r, hr⟩ : ∃ r, S[k]? = some r := ⟨_, List.getElem?_eq_getElem (by rw [HSl.out]; exact hlt)⟩
        obtain rfl : y = (r : Int) := by
          have h1 := hy.out
          rw [intsN, List.getElem?_map, hr] at h1
          exact (Option.some.inj h1).symm
        have hrm := List.mem_of_getElem? hr
        have hr0 := HG.out.pos r hrm
        have hrw := HSw.out r hrm
        have CL := Lib.hid (fun w => l02Low_any r hr0 hrw w)
        have hb : lowB r < 16 := bit_lt (n := 16) (x := r) hrw (lowB_bit hr0).1
        have hp : 2 ^ lowB r < 65536 := by have := Nat.pow_lt_pow_right (a := 2) (by decide) hb; simpa using this
        have HP := Lib.hid (pv_step hr)
        obtain ⟨p, hpe⟩ : ∃ p, p = 2 ^ lowB r := ⟨_, rfl⟩
        rw [← hpe] at CL hp HP
        have hor := or_small (p := p) hu (by omega)
        have hu2 : u ||| p < 65536 := Nat.or_lt_two_pow (n := 16) hu hp
        have HU2 := Lib.hid (show u ||| p = pvN (S.take (k + 1)) from by rw [HP.out, HU.out])
        obtain ⟨u2, hu2e⟩ : ∃ u2, u2 = u ||| p := ⟨_, rfl⟩
        rw [← hu2e] at hor hu2 HU2
        clear hy hr hrm hpe hu2e
        go_wp2_with fail
        refine (CL.out _).mono ?_
        rintro e w2 ⟨rfl, rfl⟩
        go_wp2_with fail
        go_round
        case rel => exact ⟨k + 1, u2, by omega, by go_num, rfl, hu2, HU2⟩
        case measure => simp [intOf]; omega
      · obtain rfl : n = k := by omega
        have HUp := Lib.hid (show u = pvN S from by rw [HU.out, List.take_of_length_le (by rw [HSl.out]; exact Nat.le_refl _)])
        clear HU hlt hk
        obtain ⟨b5, hb5⟩ : ∃ b5, b5 = wc.heap.size := ⟨_, rfl⟩
        obtain ⟨ws, hws⟩ : ∃ ws, ws = wc.alloc (.cells #[.slice none 0 0, .slice none 0 0] 27) := ⟨_, rfl⟩
        have HB5 := Lib.hid hb5
        have HWS := Lib.hid hws
        have BC := Lib.hid hc.out.2.2.2.2
        have Q0 := Lib.hid (show QSI ws ws w0.heap.size g8 b5 n1 (some ⟨g7, 0, none⟩) 0 0 none 0 0 [] (plF S n1 0) [] from by
          obtain ⟨e1, e2, e3, e4, e5⟩ := hc.out
          have l7 := (e3.lt rfl).2
          have l8 := (e4.lt rfl).2
          have l9 := e5.size
          dsimp only at l7 l8
          have hsz : ws.heap.size = wc.heap.size + 1 := by rw [hws]; simp
          refine ⟨?_, ?_, OwnS.nil, fun e => e1 (Option.some.inj e), fun e => ?_, fun g _ e => (by cases e), ?_, ?_, Below.refl _ _, ?_, e2, ?_, ?_⟩
          · rw [hws]; exact e3.alloc _
          · rw [hws, plF_zero]; exact e4.alloc _
          · have e := Option.some.inj e
            dsimp only at e
            omega
          · rw [hws, hb5]; exact (Cells.nil.alloc2 _ _ _ rfl).sub (by intro x hx; simp only [List.mem_cons, List.not_mem_nil, or_false] at hx ⊢; rcases hx with rfl | rfl <;> simp)
          · rw [hws, hb5]; exact ⟨_, heap_alloc_new _ _⟩
          · omega
          · omega
          · omega)
        have BWS := Lib.hid (show Below w0.heap.size w0 ws from by rw [hws]; exact BC.out.alloc BC.out.size _)
        clear hc hb5 hws
        go_wp2_with fail
        rw [← HB5.out, ← HWS.out]
        go_loopw [7, 11] (fun x i wr => ∃ (j m7 c7 m9 c9 : Nat) (A7 A9 : Option Addr), j ≤ n1 ∧ i = .int .i64 j ∧ x = .slice A7 m7 c7 ∧ Hid (m7 = (keptL S j).length) ∧ Hid (m9 = (keptL S j).length) ∧ Hid (QSI ws wr w0.heap.size g8 b5 n1 A7 m7 c7 A9 m9 c9 (keptL S j) (plF S n1 j) ((keptL S j).map fun i => ds[i]?.getD 0))) (fun _ i _ => n1 - (intOf i).toNat)
        case atStart => exact ⟨0, 0, 0, 0, 0, _, none, Nat.zero_le _, rfl, rfl, Lib.hid (by simp [keptL]), Lib.hid (by simp [keptL]), by simpa [keptL] using Q0⟩
        case round =>
          clear Q0
          obtain ⟨j, m7, c7, m9, c9, A7, A9, hj, rfl, rfl, HL7, HL9, HQ⟩ := hrel
          have BW := Lib.hid (BWS.out.trans HQ.out.bel)
          have k0 := (F0.out.below BW.out).at_ (b := b) (o := 0) (V := .slice A1 n1 c1) (by simp)
          by_cases hjl : j < n1
          · have hbit := bit_at (x := u) (i := j) (by omega)
            have hpv : u.testBit j = pivB S j := by rw [HUp.out, pvN_bit]
            have hj64 : (j : Int) < 64 := by omega
            have hj0 : (0 : Int) ≤ (j : Int) := by omega
            have hm7 : m7 ≤ 16 := by have := HL7.out; have := keptL_len S j; omega
            have hm9 : m9 ≤ 16 := by have := HL9.out; have := keptL_len S j; omega
            cases hp : pivB S j
            · rw [hp] at hpv
              rw [if_neg (by rw [hpv]; decide)] at hbit
              have HK1 := Lib.hid (keptL_no hp)
              have HPL := Lib.hid (plF_no hp hjl)
              obtain ⟨uu, hcu, hfu, hset⟩ := HQ.out.store hjl
              have QA := Lib.hid (show QSI ws (wr.setCell ⟨g8, j, none⟩ (.int .i64 (m7 : Nat))) w0.heap.size g8 b5 n1 A7 m7 c7 A9 m9 c9 (keptL S j) (plF S n1 (j + 1)) ((keptL S j).map fun i => ds[i]?.getD 0) from by
                have := hset (m7 : Nat)
                rw [HL7.out, HPL.out, ← HL7.out] at this
                exact this)
              clear hset hp hpv
              have OA := Lib.hid (QA.out.o7.alloc (.cells #[.int .i64 (j : Nat)] 2))
              have RD1 := Lib.hid (show RdS ((wr.setCell ⟨g8, j, none⟩ (.int .i64 (m7 : Nat))).alloc (.cells #[.int .i64 (j : Nat)] 2)) (wr.heap.size + 1) (some ⟨wr.heap.size, 0, none⟩) 1 1 [(j : Int)] from by
                have h1 := rd_new (wr.setCell ⟨g8, j, none⟩ (.int .i64 (m7 : Nat))) (j : Nat) 2
                have h2 : (wr.setCell ⟨g8, j, none⟩ (.int .i64 (m7 : Nat))).heap.size = wr.heap.size := by simp [World.setCell]
                rwa [h2] at h1)
              have ZA := Lib.hid (show w0.heap.size ≤ ((wr.setCell ⟨g8, j, none⟩ (.int .i64 (m7 : Nat))).alloc (.cells #[.int .i64 (j : Nat)] 2)).heap.size from Nat.le_trans QA.out.size (by simp))
              go_wp2_with (at_builtin; refine wpList_appI rfl (.tmp 55) (.tmp 57) rfl rfl rfl OA.out RD1.out (by omega) ZA.out ?_)
              intro A7' c7' w5 h1 hg1 hr1
              have QB := Lib.hid (show QSI ws w5 w0.heap.size g8 b5 n1 A7' (m7 + 1) c7' A9 m9 c9 (keptL S (j + 1)) (plF S n1 (j + 1)) ((keptL S j).map fun i => ds[i]?.getD 0) from by
                refine QA.out.app7 ((Below.refl _ _).alloc (Nat.le_refl _) (.cells #[.int .i64 (j : Nat)] 2)) ?_ hg1 (by
                  rcases hr1 with e | e
                  · exact .inl e
                  · exact .inr (by rw [e]; simp [World.setCell]))
                rw [HK1.out]
                simpa [intsN] using h1)
              clear h1 hg1 hr1 k0 hcu hfu
              have BW5 := Lib.hid (BWS.out.trans QB.out.bel)
              obtain ⟨adx, d, rfl, _, hd, hcd⟩ := ((HM0.out.ds).below BW5.out).at_ (k := j) hjl
              have HD := Lib.hid (show ds[j]?.getD 0 = d from by rw [hd.out]; rfl)
              have HDS := Lib.hid (show (keptL S (j + 1)).map (fun i => ds[i]?.getD 0) = (keptL S j).map (fun i => ds[i]?.getD 0) ++ [d] from by rw [HK1.out, List.map_append, ← HD.out]; rfl)
              have kk := Lib.hid (show ∀ W, Below w5.heap.size w5 W → W.cell? ⟨b, 0, none⟩ = some (.slice (some adx) n1 c1) ∧ W.cell? ⟨b5, 0, none⟩ = some (.slice A9 m9 c9) ∧ W.frozen? ⟨b5, 0, none⟩ = false ∧ W.cell? (adx.add j) = some (.int .i64 d) from fun W hb => by
                refine ⟨((F0.out.below BW5.out).below hb).at_ (by simp), (QB.out.below hb).cs.at_ (by simp), (QB.out.below hb).cs.fr (V := .slice A9 m9 c9) (by simp), ?_⟩
                obtain ⟨ad', d', e1, _, hd', hcd'⟩ := ((HM0.out.ds).below (BW5.out.trans (hb.mono BW5.out.size))).at_ (k := j) hjl
                obtain rfl : adx = ad' := Option.some.inj e1
                obtain rfl : d = d' := by rw [hd.out] at hd'; exact Option.some.inj hd'.out
                exact hcd')
              have HB1 := Lib.hid (Below.refl w5.heap.size w5)
              have HB2 := Lib.hid (below_al (Below.refl w5.heap.size w5) (Nat.le_refl _) (.cells #[.int .i64 d] 2))
              have HB3 := Lib.hid (below_dr HB2.out)
              obtain ⟨ka0, ka1, ka2, ka3⟩ := kk.out _ HB1.out
              obtain ⟨kb0, kb1, kb2, kb3⟩ := kk.out _ HB2.out
              have O3 := Lib.hid ((QB.out.below HB3.out).o9.v)
              have O2 := Lib.hid ((QB.out.below HB2.out).o9.v)
              have RD3 := Lib.hid (rdv_cl (cl_dr (cl_new w5 (.int .i64 d) 2)))
              have RD2 := Lib.hid (rdv_cl (cl_new w5 (.int .i64 d) 2))
              have ONE1 := Lib.hid (show ∀ x ∈ [Value.int .i64 d], x.oneCell' = true from fun x hx => by rw [List.mem_singleton.1 hx]; rfl)
              have l59 := Lib.hid (show b5 + 1 ≤ w5.heap.size from by have := QB.out.lt.2.2.2; have := QB.out.bel.size; omega)
              have hm9' : m9 + 1 ≤ 4000000000000 := by omega
              have bb : (8 : Nat) ≤ 24 := by decide
              clear hd hcd
              go_upto_region 13 with fail
              go_region_law
                (first
                  | (refine step_appV eltI (by rfl) (.tmp 60) (.tmp 66) (by rfl) (by rfl) (by rfl) O3.out RD3.out ONE1.out hm9' bb (Nat.le_trans l59.out HB3.out.size) ?_
                     intro A9' c9' w6 h1 hg1 hr1
                     have N6 := Lib.hid (QB.out.app9 (K := keptL S (j + 1)) (D' := (keptL S (j + 1)).map fun i => ds[i]?.getD 0) HB3.out (OwnV.s (by rw [HDS.out, List.map_append]; exact h1)) hg1 hr1)
                     have k60 := N6.out.1.at_ (b := b5) (o := 0) (V := .slice A9 m9 c9) (by simp)
                     have f60 := N6.out.1.fr (b := b5) (o := 0) (V := .slice A9 m9 c9) (by simp)
                     clear h1 hg1 hr1))
              all_goals
                have N7 := Lib.hid N6.out.2
                clear ka0 ka1 ka2 ka3 kb0 kb1 kb2 kb3 k60 f60
                go_wp2_with fail
                go_roundw
                case rel => exact ⟨j + 1, m7 + 1, c7', m9 + 1, _, A7', _, by omega, by go_num, rfl, Lib.hid (by rw [HK1.out, List.length_append, ← HL7.out]; rfl), Lib.hid (by rw [HK1.out, List.length_append, ← HL9.out]; rfl), N7⟩
                case measure => simp [intOf]; omega
            · rw [hp] at hpv
              rw [if_pos hpv] at hbit
              have HK1 := Lib.hid (keptL_yes hp)
              have HPL := Lib.hid (plF_yes (n := n1) hp)
              have N7 := Lib.hid (show QSI ws wr w0.heap.size g8 b5 n1 A7 m7 c7 A9 m9 c9 (keptL S (j + 1)) (plF S n1 (j + 1)) ((keptL S (j + 1)).map fun i => ds[i]?.getD 0) from by rw [HK1.out, HPL.out]; exact HQ.out)
              clear hp hpv
              go_wp2_with fail
              go_roundw
              case rel => exact ⟨j + 1, m7, c7, m9, c9, A7, A9, by omega, by go_num, rfl, Lib.hid (by rw [HK1.out]; exact HL7.out), Lib.hid (by rw [HK1.out]; exact HL9.out), N7⟩
              case measure => simp [intOf]; omega
          · obtain rfl : n1 = j := by omega
            have hm7 : m7 ≤ 16 := by have := HL7.out; have := keptL_len S n1; omega
            have W0 := Lib.hid (StL.start (Below.refl wr.heap.size wr) (Nat.le_refl _)).here
            obtain ⟨w3, hw3⟩ : ∃ W : World, W = wr := ⟨_, rfl⟩
            subst hw3
            go_wp2_with fail
            clear k0
            go_loopw [12, 13] (fun x i wr => ∃ (k l : Nat) (A3 : Option Addr), k ≤ n1 ∧ i = .int .i64 k ∧ x = .slice A3 k l ∧ Hid (StL w3 w3.heap.size wr wr.heap.size A3 k l ((List.range k).map fun i => vecF (toldF S n1 (2 ^ i)) m7))) (fun _ i _ => n1 - (intOf i).toNat)
            case atStart => exact ⟨0, 0, _, Nat.zero_le _, rfl, rfl, W0⟩
            case round =>
              clear W0
              obtain ⟨k, l, A3, hk, rfl, rfl, HI⟩ := hrel
              have QK := Lib.hid (HQ.out.below HI.out.bel)
              have BW := Lib.hid (BWS.out.trans QK.out.bel)
              have k0 := (F0.out.below BW.out).at_ (b := b) (o := 0) (V := .slice A1 n1 c1) (by simp)
              by_cases hkl : k < n1
              · have hk64 : (k : Int) < 64 := by omega
                have hk0 : (0 : Int) ≤ (k : Int) := by omega
                obtain ⟨p, hp⟩ : ∃ p : Nat, p = 2 ^ k := ⟨_, rfl⟩
                have hpw : p < 65536 := by rw [hp]; have := Nat.pow_lt_pow_right (a := 2) (by decide) (show k < 16 by omega); simpa using this
                have hpi : (2 : Int) ^ k = (p : Int) := by rw [hp]; push_cast; rfl
                have hw2 : wrap64 ((2 : Int) ^ k) = (p : Int) := by rw [hp]; exact wrap_two (by omega)
                have hwp : IntKind.i64.wrap (p : Int) = (p : Int) := by rw [IntKind.wrap_i64]; omega
                have CA := Lib.hid (l02Without_any A n c p S wr (((HR0.out.below BW.out)).mono BW.out.size) (fun r hr => ⟨HG.out.pos r hr, HSw.out r hr⟩) hpw (by omega))
                have hyw : red lowB S p < 65536 := red_lt HSw.out hpw
                obtain ⟨y, hy⟩ : ∃ y, y = red lowB S p := ⟨_, rfl⟩
                have CB := Lib.hid (l12Kept_any y n1 (some ⟨g8, 0, none⟩) n1 _ S wr QK.out.o8.rd (by rw [hy]; exact hyw) (by rw [hy]; exact red_piv HG.out p) hn16)
                obtain ⟨z, hz⟩ : ∃ z, z = packF (keptL S n1) y 0 := ⟨_, rfl⟩
                have hzt : z = toldF S n1 p := by rw [hz, hy]; rfl
                have hzw : z < 65536 := by rw [hzt]; exact toldF_lt hn16 p
                rw [← hz] at CB
                rw [← hy] at CA
                have CV := Lib.hid (vector12_any z m7 wr hzw hm7)
                have HY := Lib.hid (show (List.range (k + 1)).map (fun i => vecF (toldF S n1 (2 ^ i)) m7) = (List.range k).map (fun i => vecF (toldF S n1 (2 ^ i)) m7) ++ [vecF z m7] from by rw [List.range_succ, List.map_append, hzt, hp]; rfl)
                clear hp hpw hy hyw hz hzt hzw
                go_wp2_with (first
                  | (go_at_call 79
                     refine CA.out.mono ?_
                     rintro e w5 ⟨rfl, rfl⟩)
                  | (go_at_call 78
                     refine CB.out.mono ?_
                     rintro e w5 ⟨rfl, rfl⟩)
                  | (go_at_call 60
                     refine CV.out.mono ?_
                     rintro e w5 ⟨A5, c5, rfl, ho5, hb5⟩
                     have N5 := Lib.hid ho5
                     have HS5 := Lib.hid (HI.out.call hb5)
                     clear ho5 hb5)
                  | (at_builtin
                     refine wpList_pushL rfl (.tmp 77) (.tmp 88) rfl rfl rfl HS5.out N5.out (by omega) ?_
                     intro A6 c6 w6 hs6 _ _
                     have HS6 := Lib.hid hs6
                     clear hs6))
                go_roundw
                case rel => exact ⟨k + 1, c6, A6, by omega, by go_num, rfl, Lib.hid (by rw [HY.out]; exact HS6.out)⟩
                case measure => simp [intOf]; omega
              · obtain rfl : n1 = k := by omega
                obtain ⟨w4, hw4⟩ : ∃ W : World, W = wr := ⟨_, rfl⟩
                subst hw4
                have A0 := Lib.hid (show ASI w4 w4 b5 (.slice A9 m9 c9) none 0 0 [] from ⟨QK.out.cs, QK.out.kd, OwnL.nil, FrG.refl _ _, QK.out.cs.lt (b5, 0, .slice A9 m9 c9) (by simp)⟩)
                have FRM := Lib.hid (show ∀ W, FrG (fun j => j = b5) w4 W → Below w0.heap.size w0 W ∧ OwnS W w0.heap.size A7 m7 c7 (intsN (keptL S n1)) ∧ OwnS W w0.heap.size (some ⟨g8, 0, none⟩) n1 n1 (plF S n1 n1) from fun W hf => by
                  have l5 := QK.out.lt
                  refine ⟨BW.out.trans (hf.below BW.out.size fun j e => by subst e; omega), QK.out.o7.frG hf fun ad e1 e2 => ?_, QK.out.o8.frG hf fun ad e1 e2 => ?_⟩
                  · subst e1; exact QK.out.e75 (congrArg some e2)
                  · injection e1 with e1; subst e1; dsimp only at e2; omega)
                obtain ⟨sq, hsq⟩ : ∃ sq : Nat → Nat → Nat, sq = fun j b => toldF S n1 (sqF (act.map toT) n1 j (2 ^ ((keptL S n1)[b]?.getD 0))) := ⟨_, rfl⟩
                have HSQ := Lib.hid hsq
                have EnA := Lib.hid (enters_of Tryz.func37 (by kernel_rfl) rfl)
                have EnW := Lib.hid (enters_of Tryz.func79 (by kernel_rfl) rfl)
                have EnK := Lib.hid (enters_of Tryz.func78 (by kernel_rfl) rfl)
                clear hsq
                go_wp2_with fail
                go_loopw [14] (fun i wr => ∃ (jj l2 c2' : Nat) (A2' : Option Addr), jj ≤ 20 ∧ i = .int .i64 ((jj : Int) + 1) ∧ Hid (l2 ≤ jj * (m7 * m7)) ∧ Hid (ASI w4 wr b5 (.slice A9 m9 c9) A2' l2 c2' (actM sq m7 jj))) (fun i _ => 21 - (intOf i).toNat)
                case atStart => exact ⟨0, 0, 0, none, by omega, rfl, Lib.hid (by omega), A0⟩
                case round =>
                  clear A0
                  obtain ⟨jj, l2, c2', A2', hjj, rfl, hl2, HA⟩ := hrel
                  by_cases hlt : jj < 20
                  · have hj20 : ((jj : Int) + 1) ≤ 20 := by omega
                    have HJN := Lib.hid (show jj * (m7 * m7) ≤ 19 * (16 * 16) from Nat.mul_le_mul (by omega) (Nat.mul_le_mul hm7 hm7))
                    go_wp2_with fail
                    go_loopw [15] (fun i wr => ∃ (bb l3 c3 : Nat) (A3' : Option Addr), bb ≤ m7 ∧ i = .int .i64 bb ∧ Hid (l3 ≤ jj * (m7 * m7) + bb * m7) ∧ Hid (ASI w4 wr b5 (.slice A9 m9 c9) A3' l3 c3 (actM sq m7 jj ++ actB sq m7 (jj + 1) bb))) (fun i _ => m7 - (intOf i).toNat)
                    case atStart => exact ⟨0, l2, c2', A2', by omega, rfl, Lib.hid (by have := hl2.out; omega), by simpa [actB] using HA⟩
                    case round =>
                      clear HA
                      obtain ⟨bb, l3, c3, A3', hbb, rfl, HL3, HA⟩ := hrel
                      have FW := Lib.hid (FRM.out wr HA.out.fr)
                      by_cases hbl : bb < m7
                      · obtain ⟨ad7, qv, rfl, _, hq, hcq⟩ := FW.out.2.1.rd.at_ hbl
                        obtain ⟨q, hqk⟩ : ∃ q, (keptL S n1)[bb]? = some q := ⟨_, List.getElem?_eq_getElem (by rw [← HL7.out]; exact hbl)⟩
                        obtain rfl : qv = (q : Int) := by
                          have h1 := hq.out
                          rw [intsN, List.getElem?_map, hqk] at h1
                          exact (Option.some.inj h1).symm
                        have hqn : q < n1 := (keptL_lt (List.mem_of_getElem? hqk)).1
                        have hq64 : (q : Int) < 64 := by omega
                        have hq0 : (0 : Int) ≤ (q : Int) := by omega
                        obtain ⟨p, hpw, HP, HPW⟩ := pow_facts (show q < 16 by omega)
                        have HPN := Lib.hid (show p < 2 ^ n1 from by rw [HP.out]; exact Nat.pow_lt_pow_right (by decide) hqn)
                        obtain ⟨u1, hu1⟩ : ∃ u1, u1 = spA (act.map toT) (jj + 1) p := ⟨_, rfl⟩
                        have hu1s : u1 = sqF (act.map toT) n1 (jj + 1) p := by rw [hu1, ← HL1.out]; exact (HTF.out.tri.sq (by rw [HL1.out]; exact HPN.out)).symm
                        have hu1w : u1 < 65536 := by rw [hu1s, ← HL1.out]; exact HTF.out.tri.sq16 _ _
                        obtain ⟨y, hy⟩ : ∃ y, y = red lowB S u1 := ⟨_, rfl⟩
                        have hyw : y < 65536 := by rw [hy]; exact red_lt HSw.out hu1w
                        obtain ⟨x, hx⟩ : ∃ x, x = packF (keptL S n1) y 0 := ⟨_, rfl⟩
                        have HXe := Lib.hid (show x = sq (jj + 1) bb from by
                          rw [hx, hy, hu1s, HSQ.out]
                          simp only [hqk, Option.getD_some, ← HP.out]
                          rfl)
                        have hxw : x < 65536 := by rw [hx, hy]; exact toldF_lt (S := S) hn16 u1
                        have CA := Lib.hid (show ∀ (z v : Int) (W : World), z = ((jj : Int) + 1) → v = (p : Int) → Below wr.heap.size wr W → Calls Tryz.prog 37 #[.agg #[.slice A1 n1 c1, .slice A2 n2 c2], .int .i64 z, .int .i64 v] W (RetIb (u1 : Nat) W) from fun z v W hz hv hb => by
                          subst hz; subst hv
                          have := act12_any A1 A2 n1 c1 n2 c2 (jj + 1) p ds act W (HM0.out.below (FRM.out W (HA.out.fr.trans (FrG.of_below hb))).1) HTF.out hn2 HPN.out
                          rw [← hu1, Int.natCast_add, Int.natCast_one] at this
                          exact this)
                        have CB := Lib.hid (show ∀ W, Below wr.heap.size wr W → Calls Tryz.prog 79 #[.slice A n c, .int .i64 (u1 : Nat)] W (RetI (y : Nat) W) from fun W hb => by
                          have hB := (FRM.out W (HA.out.fr.trans (FrG.of_below hb))).1
                          rw [hy]
                          exact l02Without_any A n c u1 S W ((HR0.out.below hB).mono hB.size) (fun r hr => ⟨HG.out.pos r hr, HSw.out r hr⟩) hu1w (by omega))
                        have CC := Lib.hid (show ∀ W, Below wr.heap.size wr W → Calls Tryz.prog 78 #[.int .i64 (y : Nat), .slice (some ⟨g8, 0, none⟩) n1 n1] W (RetI (x : Nat) W) from fun W hb => by
                          have hB := (FRM.out W (HA.out.fr.trans (FrG.of_below hb))).2.2
                          rw [hx]
                          exact l12Kept_any y n1 (some ⟨g8, 0, none⟩) n1 _ S W hB.rd hyw (by rw [hy]; exact red_piv HG.out u1) hn16)
                        have kf0 := (F0.out.below FW.out.1).at_ (b := b) (o := 0) (V := .slice A1 n1 c1) (by simp)
                        have kf1 := (F0.out.below FW.out.1).at_ (b := b) (o := 1) (V := .slice A2 n2 c2) (by simp)
                        have HB1 := Lib.hid (Below.refl wr.heap.size wr)
                        have HB2 := Lib.hid (below_dr (Below.refl wr.heap.size wr))
                        have hpi := HPW.out.1
                        have hw2 := HPW.out.2.1
                        have hwp := HPW.out.2.2
                        have hwx := shl_wrap (show q < 16 by omega) HP.out
                        clear HP HPN hq hqk hqn hu1 hu1s hu1w hy hyw hx
                        go_upto_region 25 with fail
                        go_region_law
                          (first
                            | (refine step_fn3 37 (.tmp 101) (.tmp 102) (.tmp 108) #[27, 2, 2] rfl rfl EnA.out rfl rfl rfl (CA.out _ _ _ (by first | rfl | omega) (by rfl) (by first | exact HB1.out | exact HB2.out)) ?_
                               rintro e w8 ⟨rfl, hb8⟩
                               refine ⟨_, rfl, ?_⟩
                               have B8 := Lib.hid (show Below wr.heap.size wr w8 from by
                                 first
                                   | exact hb8
                                   | exact (below_dr (Below.refl _ _)).trans hb8)
                               have B8d := Lib.hid (below_dr B8.out)
                               clear hb8)
                            | (refine step_fn2 79 (.tmp 100) (.tmp 109) #[22, 2] rfl rfl EnW.out rfl rfl (CB.out _ (by first | exact B8.out | exact B8d.out)) ?_
                               rintro e w9 ⟨rfl, rfl⟩
                               refine ⟨_, rfl, ?_⟩)
                            | (refine step_fn2 78 (.tmp 110) (.tmp 111) #[2, 22] rfl rfl EnK.out rfl rfl (CC.out _ (by first | exact B8.out | exact B8d.out)) ?_
                               rintro e w9 ⟨rfl, rfl⟩
                               refine ⟨_, rfl, ?_⟩))
                        all_goals
                          have I4 := Lib.hid (HA.out.below B8.out)
                          clear kf0 kf1 hpi hw2 hwp hwx
                          go_wp2_with fail
                          go_loopw [17] (fun i wr => ∃ (cc l5 c5 : Nat) (A5 : Option Addr), cc ≤ m7 ∧ i = .int .i64 cc ∧ Hid (l5 ≤ jj * (m7 * m7) + bb * m7 + cc) ∧ Hid (ASI w4 wr b5 (.slice A9 m9 c9) A5 l5 c5 ((actM sq m7 jj ++ actB sq m7 (jj + 1) bb) ++ actC sq (jj + 1) bb cc))) (fun i _ => m7 - (intOf i).toNat)
                          case atStart => exact ⟨0, l3, c3, A3', by omega, rfl, Lib.hid (by have := HL3.out; omega), by simpa [actC] using I4⟩
                          case round =>
                            clear HA I4
                            obtain ⟨cc, l5, c5, A5, hcc, rfl, HL5, HA⟩ := hrel
                            by_cases hcl : cc < m7
                            · have hb := bit_at (x := x) (i := cc) (by omega)
                              have hcc64 : (cc : Int) < 64 := by omega
                              have hcc0 : (0 : Int) ≤ (cc : Int) := by omega
                              by_cases hbit : x.testBit cc = true
                              · rw [if_pos hbit] at hb
                                have kk0 := HA.out.cs.at_ (b := b5) (o := 0) (V := .slice A9 m9 c9) (by simp)
                                have kk1 := HA.out.cs.at_ (b := b5) (o := 1) (V := .slice A5 l5 c5) (by simp)
                                have ba := Lib.hid (show Below wr.heap.size wr (wr.alloc (.cells #[.int .i64 ((jj : Int) + 1), .int .i64 (bb : Nat), .int .i64 (cc : Nat)] 2)) from (Below.refl _ _).alloc (Nat.le_refl _) _)
                                have Hwas := Lib.hid (show (wr.alloc (.cells #[.int .i64 ((jj : Int) + 1), .int .i64 (bb : Nat), .int .i64 (cc : Nat)] 2)).heap.size = wr.heap.size + 1 from by simp)
                                have bb2 := Lib.hid (show Below (wr.alloc (.cells #[.int .i64 ((jj : Int) + 1), .int .i64 (bb : Nat), .int .i64 (cc : Nat)] 2)).heap.size (wr.alloc (.cells #[.int .i64 ((jj : Int) + 1), .int .i64 (bb : Nat), .int .i64 (cc : Nat)] 2)) ((wr.alloc (.cells #[.int .i64 ((jj : Int) + 1), .int .i64 (bb : Nat), .int .i64 (cc : Nat)] 2)).alloc (.cells #[.slice (some ⟨wr.heap.size, 0, none⟩) 3 3] 22)) from (Below.refl _ _).alloc (Nat.le_refl _) _)
                                have bab := Lib.hid (ba.out.trans (bb2.out.mono ba.out.size))
                                have NW := Lib.hid (show OwnS ((wr.alloc (.cells #[.int .i64 ((jj : Int) + 1), .int .i64 (bb : Nat), .int .i64 (cc : Nat)] 2)).alloc (.cells #[.slice (some ⟨wr.heap.size, 0, none⟩) 3 3] 22)) wr.heap.size (some ⟨wr.heap.size, 0, none⟩) 3 3 [((jj : Int) + 1), (bb : Int), (cc : Int)] from (own_three wr ((jj : Int) + 1) (bb : Nat) (cc : Nat) wr.heap.size (Nat.le_refl _)).below bb2.out)
                                have OH := Lib.hid (show OwnL ((wr.alloc (.cells #[.int .i64 ((jj : Int) + 1), .int .i64 (bb : Nat), .int .i64 (cc : Nat)] 2)).alloc (.cells #[.slice (some ⟨wr.heap.size, 0, none⟩) 3 3] 22)) w4.heap.size wr.heap.size A5 l5 c5 ((actM sq m7 jj ++ actB sq m7 (jj + 1) bb) ++ actC sq (jj + 1) bb cc) from HA.out.act.below bab.out)
                                have RV := Lib.hid (show RdV ((wr.alloc (.cells #[.int .i64 ((jj : Int) + 1), .int .i64 (bb : Nat), .int .i64 (cc : Nat)] 2)).alloc (.cells #[.slice (some ⟨wr.heap.size, 0, none⟩) 3 3] 22)) (wr.heap.size + 1 + 1) (some ⟨wr.heap.size + 1, 0, none⟩) 1 1 [.slice (some ⟨wr.heap.size, 0, none⟩) 3 3] from by
                                  have := rdV_newP (wr.alloc (.cells #[.int .i64 ((jj : Int) + 1), .int .i64 (bb : Nat), .int .i64 (cc : Nat)] 2)) (.slice (some ⟨wr.heap.size, 0, none⟩) 3 3) 22
                                  rwa [Hwas.out] at this)
                                have zV := Lib.hid HA.out.fr.size
                                have hl5 : l5 ≤ 10000 := by have := HL5.out; have := HJN.out; have : bb * m7 ≤ 16 * 16 := Nat.mul_le_mul (by omega) hm7; omega
                                have HXb := Lib.hid (show (sq (jj + 1) bb).testBit cc = true from by rw [← HXe.out]; exact hbit)
                                clear hbit
                                go_wp2_with (first
                                  | (at_builtin
                                     refine wpList_appL rfl (.tmp 126) (.tmp 131) rfl rfl rfl OH.out NW.out RV.out (by omega) zV.out bab.out.size ?_
                                     intro A6 c6 w6 ho6 hg6 _
                                     have CI := Lib.hid (HA.out.put bab.out ho6 hg6)
                                     have kk0 := CI.out.1.at_ (b := b5) (o := 0) (V := .slice A9 m9 c9) (by simp)
                                     have kk1 := CI.out.1.at_ (b := b5) (o := 1) (V := .slice A5 l5 c5) (by simp)
                                     have ff1 := CI.out.1.fr (b := b5) (o := 1) (V := .slice A5 l5 c5) (by simp)
                                     clear ho6 hg6))
                                have HI2 := Lib.hid (show ASI w4 (w6.setCell ⟨b5, 1, none⟩ (.slice A6 (l5 + 1) c6)) b5 (.slice A9 m9 c9) A6 (l5 + 1) c6 ((actM sq m7 jj ++ actB sq m7 (jj + 1) bb) ++ actC sq (jj + 1) bb (cc + 1)) from by
                                  rw [actC_yes HXb.out, ← List.append_assoc]
                                  have := CI.out.2
                                  rw [Int.natCast_add, Int.natCast_one]
                                  exact this)
                                go_roundw
                                case rel => exact ⟨cc + 1, l5 + 1, c6, A6, by omega, by go_num, Lib.hid (by have := HL5.out; omega), HI2⟩
                                case measure => simp [intOf]; omega
                              · rw [if_neg hbit] at hb
                                have HI2 := Lib.hid (show ASI w4 wr b5 (.slice A9 m9 c9) A5 l5 c5 ((actM sq m7 jj ++ actB sq m7 (jj + 1) bb) ++ actC sq (jj + 1) bb (cc + 1)) from by rw [actC_no (by rw [← HXe.out]; exact hbit)]; exact HA.out)
                                clear hbit
                                go_wp2_with fail
                                go_roundw
                                case rel => exact ⟨cc + 1, l5, c5, A5, by omega, by go_num, Lib.hid (by have := HL5.out; omega), HI2⟩
                                case measure => simp [intOf]; omega
                            · obtain rfl : m7 = cc := by omega
                              have HI2 := Lib.hid (show ASI w4 wr b5 (.slice A9 m9 c9) A5 l5 c5 (actM sq m7 jj ++ actB sq m7 (jj + 1) (bb + 1)) from by rw [actB_succ, ← List.append_assoc]; exact HA.out)
                              go_wp2_with fail
                              go_roundw
                              case rel => exact ⟨bb + 1, l5, c5, A5, by omega, by go_num, Lib.hid (by have := HL5.out; rw [Nat.add_mul, Nat.one_mul]; omega), HI2⟩
                              case measure => simp [intOf]; omega
                      · obtain rfl : m7 = bb := by omega
                        have HI2 := Lib.hid (show ASI w4 wr b5 (.slice A9 m9 c9) A3' l3 c3 (actM sq m7 (jj + 1)) from by rw [actM_succ]; exact HA.out)
                        go_wp2_with fail
                        go_roundw
                        case rel => exact ⟨jj + 1, l3, c3, A3', by omega, by simp, Lib.hid (by have := HL3.out; rw [Nat.add_mul, Nat.one_mul]; omega), HI2⟩
                        case measure => simp [intOf]; omega
                  · obtain rfl : jj = 20 := by omega
                    have kf0 := ((F0.out.below (FRM.out wr HA.out.fr).1)).at_ (b := b + 1) (o := 0) (V := .slice none 0 0) (by simp)
                    have kf1 := ((F0.out.below (FRM.out wr HA.out.fr).1)).at_ (b := b + 1) (o := 1) (V := .slice none 0 0) (by simp)
                    have ff0 := ((F0.out.below (FRM.out wr HA.out.fr).1)).fr (b := b + 1) (o := 0) (V := .slice none 0 0) (by simp)
                    have ff1 := ((F0.out.below (FRM.out wr HA.out.fr).1)).fr (b := b + 1) (o := 1) (V := .slice none 0 0) (by simp)
                    have kk0 := HA.out.cs.at_ (b := b5) (o := 0) (V := .slice A9 m9 c9) (by simp)
                    have kk1 := HA.out.cs.at_ (b := b5) (o := 1) (V := .slice A2' l2 c2') (by simp)
                    have hres := cells_end kf0 kf1 (.slice A9 m9 c9) (.slice A2' l2 c2')
                    have FX := Lib.hid (show X (.returned (.tuple #[.agg #[.slice A9 m9 c9, .slice A2' l2 c2'], .slice A3 n1 l])) ((wr.setCell ⟨b + 1, 0, none⟩ (.slice A9 m9 c9)).setCell ⟨b + 1, 1, none⟩ (.slice A2' l2 c2')) from by
                      rw [HX.out]
                      have z0 := HZ0.out
                      have z5 := QK.out.lt
                      have z3 := HQ.out.bel.size
                      have z34 := HI.out.bel.size
                      have z4 := HA.out.fr.size
                      have hbw : w.heap.size = b := Hbe.out.symm
                      have zw := BWS.out.size
                      have md : Mid (b + 1) (b + 1 + 1) wr ((wr.setCell ⟨b + 1, 0, none⟩ (.slice A9 m9 c9)).setCell ⟨b + 1, 1, none⟩ (.slice A2' l2 c2')) := (mid_setCell (p := ⟨b + 1, 0, none⟩) _ ⟨Nat.le_refl _, Nat.lt_succ_self _⟩).trans (mid_setCell (p := ⟨b + 1, 1, none⟩) _ ⟨Nat.le_refl _, Nat.lt_succ_self _⟩)
                      have m5 : Mid b5 (b5 + 1) w4 wr := ⟨HA.out.fr.os, HA.out.fr.tape, HA.out.fr.output, HA.out.fr.size, fun i hi hr => HA.out.fr.block i hi (by omega)⟩
                      have o9 : OwnS wr (b5 + 1) A9 m9 c9 _ := QK.out.o9.mid m5 (Nat.le_refl _)
                      have oP : OwnL wr w3.heap.size w4.heap.size A3 n1 l _ := HI.out.own.mid m5 (by omega)
                      have p1 := o9.mid md (by omega)
                      have p2 := HA.out.act.mid md (by omega)
                      have p3 := oP.mid md (by omega)
                      have ed : quD S ds = (keptL S n1).map fun i => ds[i]?.getD 0 := by unfold quD; rw [HL1.out]
                      have ea : quA S ds act = actM sq m7 20 := by unfold quA; rw [HL1.out, HSQ.out, HL7.out]
                      have ei : quI S ds = (List.range n1).map fun i => vecF (toldF S n1 (2 ^ i)) m7 := by unfold quI; rw [HL1.out, HL7.out]
                      have l1 : (quD S ds).length = m9 := by rw [ed]; exact p1.len
                      have l2' : (quA S ds act).length = l2 := by rw [ea]; exact p2.len
                      have l3 : (quI S ds).length = n1 := by rw [ei]; simp
                      refine ⟨A9, c9, A2', c2', A3, l, w4.heap.size, by rw [l1, l2', l3], by omega, by simp [World.setCell]; omega, ?_, ?_, ?_, ?_, ?_⟩
                      · rw [l1, ed]; exact p1.mono (by omega)
                      · rw [l1]; exact fun g e => (QK.out.o9.own.lt g e).2
                      · rw [l2', ea]; exact p2.mono (Nat.le_refl _) (by simp [World.setCell])
                      · rw [l3, ei]; exact p3.mono (by omega) (by simp [World.setCell]; omega)
                      · exact ((Bw0.out.trans ((FRM.out wr HA.out.fr).1.mono Bw0.out.size)).setCell (p := ⟨b + 1, 0, none⟩) (by simp only; omega) _).setCell (p := ⟨b + 1, 1, none⟩) (by simp only; omega) _)
                    go_wp2_with fail
                    refine bodyPost_ret (v := .tuple #[.agg #[.slice A9 m9 c9, .slice A2' l2 c2'], .slice A3 n1 l]) (by simp [results, Tryz.results38, go_sem, hres.1, hres.2]) rfl ?_
                    exact FX.out
end Go.Proofs.YtejojliljplcdaaGreatDoor

/- UnstableQuotient on the reference's side. -/
namespace Go.Proofs.YtejojliljplcdaaGreatDoor
open Go.RowKit
set_option linter.unusedVariables false

/-- the squares that have to be 0, element by element -/
def mV (T : List Tri) (ds : List Int) (v t : Nat) : List Nat := (List.range t).map fun s => spA T ((ds[v]?.getD 0).toNat + 1 + s) (2 ^ v)
def mRef (T : List Tri) (ds : List Int) (k : Nat) : List Nat := (List.range k).flatMap fun v => mV T ds v (20 - (ds[v]?.getD 0).toNat)
theorem mV_succ (T : List Tri) (ds : List Int) (v t : Nat) : mV T ds v (t + 1) = mV T ds v t ++ [spA T ((ds[v]?.getD 0).toNat + 1 + t) (2 ^ v)] := by
  unfold mV
  rw [List.range_succ, List.map_append]
  rfl
theorem mRef_succ (T : List Tri) (ds : List Int) (k : Nat) : mRef T ds (k + 1) = mRef T ds k ++ mV T ds k (20 - (ds[k]?.getD 0).toNat) := by
  unfold mRef
  rw [List.range_succ, List.flatMap_append]
  simp
theorem mRef_hom {ds : List Int} {T : List Tri} (h : TriF ds T) (hst : ∀ d ∈ ds, 0 ≤ d ∧ d ≤ 20) : ∀ m ∈ mRef T ds ds.length, HomE ds m := by
  intro m hm
  obtain ⟨v, hv, hm⟩ := List.mem_flatMap.1 hm
  obtain ⟨s, _, rfl⟩ := List.mem_map.1 hm
  exact HomE.spA h hst (HomE.two hst (List.mem_range.1 hv))
theorem mRef_part {ds : List Int} {T : List Tri} (h : TriF ds T) (hst : ∀ d ∈ ds, 0 ≤ d ∧ d ≤ 20) (f : Nat → Nat → Nat) : partS f 20 (mAll T ds ds.length 20) = partS f 20 (mRef T ds ds.length) := by
  have hd : ∀ v, v < ds.length → 0 ≤ ds[v]?.getD 0 ∧ ds[v]?.getD 0 ≤ 20 := fun v hv => by
    rw [List.getElem?_eq_getElem hv]
    exact hst _ (List.getElem_mem hv)
  apply partS_same
  · intro m hm
    refine .inl ?_
    obtain ⟨i, hi, hm⟩ := List.mem_flatMap.1 hm
    obtain ⟨v, hv, rfl⟩ := List.mem_map.1 hm
    obtain ⟨hv1, hv2⟩ := List.mem_filter.1 hv
    have hi := List.mem_range.1 hi
    have hv1 := List.mem_range.1 hv1
    have hv2 := of_decide_eq_true hv2
    obtain ⟨h0, h1⟩ := hd v hv1
    refine List.mem_flatMap.2 ⟨v, List.mem_range.2 hv1, List.mem_map.2 ⟨i - (ds[v]?.getD 0).toNat, List.mem_range.2 (by omega), ?_⟩⟩
    rw [show (ds[v]?.getD 0).toNat + 1 + (i - (ds[v]?.getD 0).toNat) = i + 1 from by omega]
    exact h.row hv1
  · intro m hm
    refine .inl ?_
    obtain ⟨v, hv, hm⟩ := List.mem_flatMap.1 hm
    obtain ⟨s, hs, rfl⟩ := List.mem_map.1 hm
    have hv := List.mem_range.1 hv
    have hs := List.mem_range.1 hs
    obtain ⟨h0, h1⟩ := hd v hv
    refine List.mem_flatMap.2 ⟨(ds[v]?.getD 0).toNat + s, List.mem_range.2 (by omega), List.mem_map.2 ⟨v, List.mem_filter.2 ⟨List.mem_range.2 hv, decide_eq_true (by omega)⟩, ?_⟩⟩
    rw [show (ds[v]?.getD 0).toNat + s + 1 = (ds[v]?.getD 0).toNat + 1 + s from by omega]
    exact (h.row hv).symm
/-- a module, images of the basis elements and a code, in new blocks -/
def RetQr (ds : List Int) (act imgs : List (List Int)) (k : Int) (w : World) (e : Ending) (w' : World) : Prop :=
  ∃ A1 c1 A2 c2 A3 c3, e = .returned (.tuple #[.agg #[.slice A1 ds.length c1, .slice A2 act.length c2], .slice A3 imgs.length c3, .int .i64 k]) ∧ RdS w' w'.heap.size A1 ds.length c1 ds ∧ RdL w' w'.heap.size A2 act.length c2 act ∧ RdL w' w'.heap.size A3 imgs.length c3 imgs ∧ Below w.heap.size w w'
theorem rdL_nil {w : World} {B c : Nat} {A : Option Addr} : RdL w B A 0 c [] := ⟨rfl, [], ⟨rfl, Nat.zero_le _, fun j h => absurd h (by simp)⟩, fun j v xs hv => by simp at hv⟩
theorem RetQr.void (k : Int) {w wn : World} {r : Nat} {V0 V1 : Value} (Bw : Below w.heap.size w wn) (hr : w.heap.size ≤ r) :
    RetQr [] [] [] k w (.returned (.tuple #[.agg #[.slice none 0 0, .slice none 0 0], .slice none 0 0, .int .i64 k])) ((wn.setCell ⟨r, 0, Option.none⟩ V0).setCell ⟨r, 1, Option.none⟩ V1) :=
  ⟨none, 0, none, 0, none, 0, rfl, rdS_nil, rdL_nil, rdL_nil, (Bw.setCell (p := ⟨r, 0, Option.none⟩) hr V0).setCell (p := ⟨r, 1, Option.none⟩) hr V1⟩
/-- the quotient in a variable's block -/
def QFin (D : List Int) (AA II : List (List Int)) (wr wc : World) (H : Nat) (A1 A2 A3 : Option Addr) (d1 d2 d3 : Nat) : Prop :=
  Cells [(H, 0, .slice A1 D.length d1), (H, 1, .slice A2 AA.length d2)] wc ∧ OwnS wc wr.heap.size A1 D.length d1 D ∧ OwnL wc wr.heap.size wc.heap.size A2 AA.length d2 AA ∧ OwnL wc wr.heap.size wc.heap.size A3 II.length d3 II ∧ Below wr.heap.size wr wc ∧ wr.heap.size ≤ H
theorem qfin_new {D : List Int} {AA II : List (List Int)} {wr w8 : World} {B d1 d2 d3 : Nat} {A1 A2 A3 : Option Addr} (hB : wr.heap.size ≤ B) (p1 : OwnS w8 B A1 D.length d1 D) (p2 : OwnL w8 B w8.heap.size A2 AA.length d2 AA) (p3 : OwnL w8 B w8.heap.size A3 II.length d3 II) (hb : Below wr.heap.size wr w8) :
    QFin D AA II wr (w8.alloc (.cells #[.slice A1 D.length d1, .slice A2 AA.length d2] 27)) w8.heap.size A1 A2 A3 d1 d2 d3 :=
  ⟨(Cells.nil.alloc2 _ _ _ rfl).sub (by intro x hx; simp only [List.mem_cons, List.not_mem_nil, or_false] at hx ⊢; rcases hx with rfl | rfl <;> simp), (p1.alloc _).mono hB, (p2.alloc _).mono hB (by simp), (p3.alloc _).mono hB (by simp), hb.alloc hb.size _, hb.size⟩
theorem qfin_set {D : List Int} {AA II : List (List Int)} {wr w8 : World} {B H d1 d2 d3 : Nat} {A1 A2 A3 : Option Addr} (hH : wr.heap.size ≤ H) (hB : H < B) (U : Cells [(H, 0, .slice none 0 0), (H, 1, .slice none 0 0)] w8) (p1 : OwnS w8 B A1 D.length d1 D) (p2 : OwnL w8 B w8.heap.size A2 AA.length d2 AA) (p3 : OwnL w8 B w8.heap.size A3 II.length d3 II) (hb : Below wr.heap.size wr w8) :
    QFin D AA II wr ((w8.setCell ⟨H, 0, none⟩ (.slice A1 D.length d1)).setCell ⟨H, 1, none⟩ (.slice A2 AA.length d2)) H A1 A2 A3 d1 d2 d3 := by
  have md : Mid H (H + 1) w8 ((w8.setCell ⟨H, 0, none⟩ (.slice A1 D.length d1)).setCell ⟨H, 1, none⟩ (.slice A2 AA.length d2)) := (mid_setCell (p := ⟨H, 0, none⟩) _ ⟨Nat.le_refl _, Nat.lt_succ_self _⟩).trans (mid_setCell (p := ⟨H, 1, none⟩) _ ⟨Nat.le_refl _, Nat.lt_succ_self _⟩)
  have c1 : Cells [(H, 0, .slice A1 D.length d1), (H, 1, .slice none 0 0)] (w8.setCell ⟨H, 0, none⟩ (.slice A1 D.length d1)) := Cells.set (U := .slice none 0 0) (L := [(H, 1, .slice none 0 0)]) U (by simp) _
  have c2 : Cells [(H, 1, .slice A2 AA.length d2), (H, 0, .slice A1 D.length d1)] ((w8.setCell ⟨H, 0, none⟩ (.slice A1 D.length d1)).setCell ⟨H, 1, none⟩ (.slice A2 AA.length d2)) := Cells.set (U := .slice none 0 0) (L := [(H, 0, .slice A1 D.length d1)]) (c1.sub (by intro x hx; simp only [List.mem_cons, List.not_mem_nil, or_false] at hx ⊢; rcases hx with rfl | rfl <;> simp)) (by simp) _
  exact ⟨c2.sub (by intro x hx; simp only [List.mem_cons, List.not_mem_nil, or_false] at hx ⊢; rcases hx with rfl | rfl <;> simp), (p1.mid md hB).mono (by omega), (p2.mid md hB).mono (by omega) (by simp [World.setCell]), (p3.mid md hB).mono (by omega) (by simp [World.setCell]), (hb.setCell (p := ⟨H, 0, none⟩) hH _).setCell (p := ⟨H, 1, none⟩) hH _, hH⟩
set_option maxRecDepth 100000 in
set_option maxHeartbeats 8000000 in
theorem sUnstableQuotient_any (A1 A2 : Option Addr) (n1 c1 n2 c2 : Nat) (ds : List Int) (act : List (List Int)) (w : World) (h : RdMod w A1 n1 c1 ds A2 n2 c2 act) (hn1 : n1 ≤ 2000000) (hn2 : n2 ≤ 2000000) (ht : totalL act ≤ 2000000) :
    Calls Tryz.prog 7 #[.agg #[.slice A1 n1 c1, .slice A2 n2 c2]] w (RetQr (uqD ds act) (uqA ds act) (uqI ds act) (uqK ds act) w) := by
  obtain ⟨w0, b, hw0, hbe, hb0, hz0, hF⟩ := start22 w (.slice A1 n1 c1) (.slice A2 n2 c2) (.slice none 0 0) (.slice none 0 0) 27 27
  have hl1 : ds.length = n1 := h.ds.len
  have C0 := Lib.hid (l11Is_any A1 A2 n1 c1 n2 c2 ds act w0 (h.below hb0) hn1 hn2 ht)
  have F0 := Lib.hid hF
  have Hw := Lib.hid hw0
  have Hbe := Lib.hid hbe
  have Bw0 := Lib.hid hb0
  have HZ0 := Lib.hid hz0
  have HM0 := Lib.hid (h.below hb0)
  have HL1 := Lib.hid hl1
  obtain ⟨X, hX⟩ : ∃ X, X = RetQr (uqD ds act) (uqA ds act) (uqI ds act) (uqK ds act) w := ⟨_, rfl⟩
  have HX := Lib.hid hX
  rw [← hX]
  have k0 := hF.at_ (b := b) (o := 0) (V := .slice A1 n1 c1) (by simp)
  have k1 := hF.at_ (b := b) (o := 1) (V := .slice A2 n2 c2) (by simp)
  obtain ⟨m, hm⟩ : ∃ m, m = modB ds act := ⟨_, rfl⟩
  rw [← hm] at C0
  clear h hX hF hw0 hbe hb0 hz0 hl1
  cases m
  · have HV := Lib.hid (show X = RetQr [] [] [] 1 w from by rw [HX.out]; unfold uqD uqA uqI uqK; rw [← hm]; simp)
    clear hm
    go_enter Tryz.func7, Tryz.ntmps7
    go_wp2_with fail
    rw [← Hw.out, ← Hbe.out]
    refine C0.out.mono ?_
    rintro e w1 ⟨rfl, hb1⟩
    have F1 := Lib.hid (F0.out.below hb1)
    have q0 := F1.out.at_ (b := b + 1) (o := 0) (V := .slice none 0 0) (by simp)
    have q1 := F1.out.at_ (b := b + 1) (o := 1) (V := .slice none 0 0) (by simp)
    have f0 := F1.out.fr (b := b + 1) (o := 0) (V := .slice none 0 0) (by simp)
    have f1 := F1.out.fr (b := b + 1) (o := 1) (V := .slice none 0 0) (by simp)
    have hres := cells_end q0 q1 (.slice none 0 0) (.slice none 0 0)
    have B1 := Lib.hid (Bw0.out.trans (hb1.mono Bw0.out.size))
    clear k0 k1 hb1
    go_wp2_with fail
    refine bodyPost_ret (v := .tuple #[.agg #[.slice none 0 0, .slice none 0 0], .slice none 0 0, .int .i64 1]) (by simp [results, Tryz.results7, go_sem, hres.1, hres.2]) rfl ?_
    rw [HV.out]
    exact RetQr.void 1 B1.out (by rw [Hbe.out]; omega)
  · have HV := Lib.hid (show X = RetQr (quD (uqS ds act) ds) (quA (uqS ds act) ds act) (quI (uqS ds act) ds) 0 w from by rw [HX.out]; unfold uqD uqA uqI uqK; rw [← hm]; simp)
    have hmb : modB ds act = true := hm.symm
    have hTF : TabF ds act := tabF_of (by unfold modB at hmb; rw [Bool.and_eq_true] at hmb; exact hmb.1)
    have HTF := Lib.hid hTF
    have hn16 : n1 ≤ 16 := by rw [← HL1.out]; exact hTF.len
    clear hm hmb hTF
    go_enter Tryz.func7, Tryz.ntmps7
    go_wp2_with fail
    rw [← Hw.out, ← Hbe.out]
    refine C0.out.mono ?_
    rintro e w1 ⟨rfl, hb1⟩
    have F1 := Lib.hid (F0.out.below hb1)
    have B1 := Lib.hid hb1
    have M1 := Lib.hid (HM0.out.below hb1)
    have z1 := Lib.hid (show b + 1 + 1 ≤ w1.heap.size from by have := HZ0.out; have := hb1.size; omega)
    have S0 := Lib.hid (StS.start (w0 := w1) (w := w1) (B := w1.heap.size) (Below.refl _ _) (Nat.le_refl _))
    clear k0 k1 hb1
    go_wp2_with fail
    go_loopw [5, 6] (fun x i wr => ∃ (v l c : Nat) (A : Option Addr), v ≤ n1 ∧ i = .int .i64 v ∧ x = .slice A l c ∧ Hid (l ≤ 20 * v) ∧ Hid (StS w1 w1.heap.size wr A l c (intsN (mRef (act.map toT) ds v)))) (fun _ i _ => n1 - (intOf i).toNat)
    case atStart => exact ⟨0, 0, 0, _, by omega, rfl, rfl, Lib.hid (by omega), by simpa [mRef, intsN] using S0⟩
    case round =>
      clear S0
      obtain ⟨v, l, c, A, hv, rfl, rfl, HLl, HS⟩ := hrel
      have k0 := (F1.out.below HS.out.bel).at_ (b := b) (o := 0) (V := .slice A1 n1 c1) (by simp)
      by_cases hvn : v < n1
      · obtain ⟨adx, d, rfl, _, hd, hcd⟩ := (M1.out.below HS.out.bel).ds.at_ (k := v) hvn
        have hd2 : ds[v]?.getD 0 = d := by rw [hd.out]; rfl
        obtain ⟨hd0, hd20⟩ := HTF.out.stem d (List.mem_of_getElem? hd.out)
        obtain ⟨D, rfl⟩ : ∃ D : Nat, d = (D : Int) := ⟨d.toNat, by omega⟩
        have HD := Lib.hid (show (ds[v]?.getD 0).toNat = D from by rw [hd2]; omega)
        have hwD : IntKind.i64.wrap ((D : Int) + 1) = (D : Int) + 1 := by rw [IntKind.wrap_i64]; omega
        obtain ⟨p, hpw, HP, HPW⟩ := pow_facts (show v < 16 by omega)
        have hv0 : (0 : Int) ≤ (v : Int) := by omega
        have hv64 : (v : Int) < 64 := by omega
        clear hd hd2
        go_wp2_with fail
        clear k0 hcd
        go_loopw [5, 7] (fun x i wr => ∃ (t l3 c3 : Nat) (A3 : Option Addr), t ≤ 20 - D ∧ i = .int .i64 ((D : Int) + 1 + t) ∧ x = .slice A3 l3 c3 ∧ Hid (l3 = l + t) ∧ Hid (StS w1 w1.heap.size wr A3 l3 c3 (intsN (mRef (act.map toT) ds v ++ mV (act.map toT) ds v t)))) (fun _ i _ => 21 - (intOf i).toNat)
        case atStart => exact ⟨0, l, c, A, by omega, by simp, rfl, Lib.hid (by omega), by simpa [mV] using HS⟩
        case round =>
          clear HS
          obtain ⟨t, l3, c3, A3, htt, rfl, rfl, HL3, HS⟩ := hrel
          have hl3 : l3 ≤ 1000 := by have := HL3.out; have := HLl.out; omega
          by_cases htl : t < 20 - D
          · have hle : (D : Int) + 1 + t ≤ 20 := by omega
            have hwt : IntKind.i64.wrap ((D : Int) + 1 + t + 1) = (D : Int) + 1 + ((t + 1 : Nat) : Int) := by rw [IntKind.wrap_i64]; omega
            have CA := Lib.hid (act12_any (some adx) A2 n1 c1 n2 c2 (D + 1 + t) p ds act wr (M1.out.below HS.out.bel) HTF.out hn2 (by rw [HP.out]; exact Nat.pow_lt_pow_right (by decide) hvn))
            rw [show (((D + 1 + t : Nat) : Int)) = (D : Int) + 1 + t from by push_cast; rfl] at CA
            obtain ⟨y, hy⟩ : ∃ y, y = spA (act.map toT) (D + 1 + t) p := ⟨_, rfl⟩
            rw [← hy] at CA
            have HY := Lib.hid (show mRef (act.map toT) ds v ++ mV (act.map toT) ds v (t + 1) = (mRef (act.map toT) ds v ++ mV (act.map toT) ds v t) ++ [y] from by rw [mV_succ, HD.out, hy, HP.out, List.append_assoc])
            have hw2 := HPW.out.2.1
            have kf0 := (F1.out.below HS.out.bel).at_ (b := b) (o := 0) (V := .slice (some adx) n1 c1) (by simp)
            have kf1 := (F1.out.below HS.out.bel).at_ (b := b) (o := 1) (V := .slice A2 n2 c2) (by simp)
            clear hy
            go_wp2_with (first
              | (go_at_call 37
                 refine CA.out.mono ?_
                 rintro e w3 ⟨rfl, hb3⟩
                 have S3 := Lib.hid (HS.out.call hb3)
                 clear hb3)
              | (at_builtin
                 refine wpList_pushI rfl (.tmp 32) (.tmp 39) rfl rfl rfl S3.out (by omega) ?_
                 intro A6 c6 w6 hs6 _
                 have HS6 := Lib.hid (show StS w1 w1.heap.size w6 A6 (l3 + 1) c6 (intsN (mRef (act.map toT) ds v ++ mV (act.map toT) ds v (t + 1))) from by rw [HY.out]; simpa [intsN] using hs6)
                 clear hs6))
            go_roundw
            case rel => exact ⟨t + 1, l3 + 1, c6, A6, by omega, by first | rfl | (rw [hwt]) | (congr 1), rfl, Lib.hid (by have := HL3.out; omega), HS6⟩
            case measure => simp [intOf]; omega
          · obtain rfl : t = 20 - D := by omega
            have hle : ¬ (D : Int) + 1 + ((20 - D : Nat) : Int) ≤ 20 := by omega
            have HS6 := Lib.hid (show StS w1 w1.heap.size wr A3 l3 c3 (intsN (mRef (act.map toT) ds (v + 1))) from by rw [mRef_succ, HD.out]; exact HS.out)
            go_wp2_with fail
            go_roundw
            case rel => exact ⟨v + 1, l3, c3, A3, by omega, by go_num, rfl, Lib.hid (by have := HL3.out; have := HLl.out; omega), HS6⟩
            case measure => simp [intOf]; omega
      · obtain rfl : n1 = v := by omega
        obtain ⟨MR, hMR⟩ : ∃ MR, MR = mRef (act.map toT) ds n1 := ⟨_, rfl⟩
        have HMh := Lib.hid (show ∀ m ∈ MR, HomE ds m from by rw [hMR, ← HL1.out]; exact mRef_hom HTF.out.tri HTF.out.stem)
        have HUS := Lib.hid (show uqS ds act = partS (fun j x => sqF (act.map toT) ds.length j x) 20 MR from by rw [hMR, ← HL1.out]; exact mRef_part HTF.out.tri HTF.out.stem _)
        rw [← hMR] at HS
        have hl320 : l ≤ 320 := by have := HLl.out; omega
        have CP := Lib.hid (show ∀ W, Below wr.heap.size wr W → Calls Tryz.prog 39 #[.agg #[.slice A1 n1 c1, .slice A2 n2 c2], .slice A l c] W (RetPt ds (fun j x => sqF (act.map toT) ds.length j x) MR W) from fun W hb => by
          have hbW := HS.out.bel.trans (hb.mono HS.out.hi)
          exact l17Part_any A1 A2 A n1 c1 n2 c2 l c ds act MR W (M1.out.below hbW) HTF.out hn2 (HS.out.own.below hb).rd HMh.out (by omega))
        have CQ := Lib.hid (show ∀ V W (S : List Nat) A' c', Below wr.heap.size wr V → OwnS V wr.heap.size A' S.length c' (intsN S) → Below V.heap.size V W → RedS S → (∀ r ∈ S, HomE ds r) → Calls Tryz.prog 38 #[.agg #[.slice A1 n1 c1, .slice A2 n2 c2], .slice A' S.length c'] W (RetQs (quD S ds) (quA S ds act) (quI S ds) W) from fun V W S A' c' hV ho hb hr hm => by
          have hbV := HS.out.bel.trans (hV.mono HS.out.hi)
          have hbW := hbV.trans (hb.mono (Nat.le_trans HS.out.hi hV.size))
          exact l12Quotient_any A1 A2 A' n1 c1 n2 c2 S.length c' ds act S W (M1.out.below hbW) HTF.out hn2 (ho.below hb).rd hr.good (fun r hr' => (hm r hr').lt16 HTF.out.len))
        have CELL := Lib.hid (show ∀ W, Below wr.heap.size wr W → W.cell? ⟨b, 0, none⟩ = some (.slice A1 n1 c1) ∧ W.cell? ⟨b, 1, none⟩ = some (.slice A2 n2 c2) from fun W hb => by
          have hF := F1.out.below (HS.out.bel.trans (hb.mono HS.out.hi))
          exact ⟨hF.at_ (by simp), hF.at_ (by simp)⟩)
        have OUTC := Lib.hid (show ∀ W : World, Cells [(W.heap.size, 0, .slice none 0 0), (W.heap.size, 1, .slice none 0 0)] (W.alloc (.cells #[.slice none 0 0, .slice none 0 0] 27)) from fun W => (Cells.nil.alloc2 _ _ _ rfl).sub (by intro x hx; simp only [List.mem_cons, List.not_mem_nil, or_false] at hx ⊢; rcases hx with rfl | rfl <;> simp))
        have hEntP := enters_of Tryz.func39 (by kernel_rfl) rfl
        have hEntQ := enters_of Tryz.func38 (by kernel_rfl) rfl
        have HB1 := Lib.hid (Below.refl wr.heap.size wr)
        have HB2 := Lib.hid (below_dr (Below.refl wr.heap.size wr))
        have HB3 := Lib.hid (below_al (Below.refl wr.heap.size wr) (Nat.le_refl _) (.cells #[.slice none 0 0, .slice none 0 0] 27))
        have HB4 := Lib.hid (below_dr (below_al (Below.refl wr.heap.size wr) (Nat.le_refl _) (.cells #[.slice none 0 0, .slice none 0 0] 27)))
        obtain ⟨kz0, kz1⟩ := CELL.out _ HB3.out
        obtain ⟨ky0, ky1⟩ := CELL.out _ HB4.out
        obtain ⟨kb0, kb1⟩ := CELL.out _ HB1.out
        clear hMR
        go_upto_region 11 with fail
        go_cut [8, 9] (fun p q wc => ∃ (H : Nat) (A1' A2' A3' : Option Addr) (d1 d2 d3 : Nat), p = .pointer (some ⟨H, 0, none⟩) ∧ q = .slice A3' (quI (uqS ds act) ds).length d3 ∧
          Hid (QFin (quD (uqS ds act) ds) (quA (uqS ds act) ds act) (quI (uqS ds act) ds) wr wc H A1' A2' A3' d1 d2 d3))
        case first =>
          go_region_law
            (first
              | (first
                  | (refine step_fn2 39 (.tmp 43) (.tmp 44) #[27, 22] rfl rfl hEntP rfl rfl (CP.out _ HB1.out) ?_
                     rintro e w6 ⟨S, A6, c6, hr6, hm6, hs6, rfl, ho6, hb6⟩
                     have B6 := Lib.hid hb6)
                  | (refine step_fn2 39 (.tmp 43) (.tmp 44) #[27, 22] rfl rfl hEntP rfl rfl (CP.out _ HB2.out) ?_
                     rintro e w6 ⟨S, A6, c6, hr6, hm6, hs6, rfl, ho6, hb6⟩
                     have B6 := Lib.hid (HB2.out.trans hb6))
                  | (refine step_fn2 39 (.tmp 43) (.tmp 44) #[27, 22] rfl rfl hEntP rfl rfl (CP.out _ HB3.out) ?_
                     rintro e w6 ⟨S, A6, c6, hr6, hm6, hs6, rfl, ho6, hb6⟩
                     have B6 := Lib.hid (HB3.out.trans (hb6.mono HB3.out.size))
                     have U6 := Lib.hid ((OUTC.out wr).below hb6))
                  | (refine step_fn2 39 (.tmp 43) (.tmp 44) #[27, 22] rfl rfl hEntP rfl rfl (CP.out _ HB4.out) ?_
                     rintro e w6 ⟨S, A6, c6, hr6, hm6, hs6, rfl, ho6, hb6⟩
                     have B6 := Lib.hid (HB4.out.trans (hb6.mono HB4.out.size))
                     have U6 := Lib.hid (((OUTC.out wr).below (below_dr (Below.refl _ _))).below hb6))
                 refine ⟨_, rfl, ?_⟩
                 have O6 := Lib.hid (show OwnS w6 wr.heap.size A6 S.length c6 (intsN S) from ho6.mono (by first | exact Nat.le_refl _ | exact HB2.out.size | exact HB3.out.size | exact HB4.out.size))
                 have HSe := Lib.hid (show uqS ds act = S from by rw [HUS.out]; exact hs6)
                 have R6 := Lib.hid hr6
                 have M6 := Lib.hid hm6
                 obtain ⟨kc0, kc1⟩ := CELL.out _ B6.out
                 have HC1 := Lib.hid (Below.refl w6.heap.size w6)
                 have HC2 := Lib.hid (below_al (Below.refl w6.heap.size w6) (Nat.le_refl _) (.cells #[.slice none 0 0, .slice none 0 0] 27))
                 obtain ⟨kx0, kx1⟩ := CELL.out _ (B6.out.trans (HC2.out.mono B6.out.size))
                 clear ho6 hb6 hr6 hm6 hs6)
              | (first
                  | refine step_fn2 38 (.tmp 42) (.tmp 45) #[27, 22] rfl rfl hEntQ rfl rfl (CQ.out _ _ _ _ _ B6.out O6.out HC1.out R6.out M6.out) ?_
                  | refine step_fn2 38 (.tmp 42) (.tmp 45) #[27, 22] rfl rfl hEntQ rfl rfl (CQ.out _ _ _ _ _ B6.out O6.out HC2.out R6.out M6.out) ?_
                 rintro e w8 ⟨A1', d1, A2', d2, A3', d3, K8, rfl, hk8, _, p1, _, p2', p3, pb⟩
                 have p2 := p2'.mono hk8 (Nat.le_refl _)
                 clear p2' hk8
                 refine ⟨_, rfl, ?_⟩
                 first
                   | (have U8 := Lib.hid (U6.out.below pb)
                      have ku0 := U8.out.c _ (List.mem_cons_self ..)
                      have ku1 := U8.out.c _ (List.mem_cons_of_mem _ (List.mem_cons_self ..))
                      have fu0 := U8.out.f _ (List.mem_cons_self ..)
                      have fu1 := U8.out.f _ (List.mem_cons_of_mem _ (List.mem_cons_self ..)))
                   | (have U8 := Lib.hid ((OUTC.out w6).below pb)
                      have ku0 := U8.out.c _ (List.mem_cons_self ..)
                      have ku1 := U8.out.c _ (List.mem_cons_of_mem _ (List.mem_cons_self ..))
                      have fu0 := U8.out.f _ (List.mem_cons_self ..)
                      have fu1 := U8.out.f _ (List.mem_cons_of_mem _ (List.mem_cons_self ..)))
                   | skip
                 have P8 := Lib.hid (And.intro p1 (And.intro p2 p3))
                 have PB := Lib.hid pb
                 have B8 := Lib.hid (show Below wr.heap.size wr w8 from by
                   first
                     | exact B6.out.trans (pb.mono B6.out.size)
                     | exact (B6.out.trans (HC2.out.mono B6.out.size)).trans (pb.mono (Nat.le_trans B6.out.size HC2.out.size)))
                 clear p1 p2 p3 pb))
          all_goals
            go_wp2_with fail
            go_meet
            obtain rfl : S = uqS ds act := HSe.out.symm
            first
              | exact ⟨_, _, _, _, _, _, _, rfl, rfl, Lib.hid (qfin_new (by first | exact B6.out.size | exact Nat.le_trans B6.out.size HC2.out.size) P8.out.1 P8.out.2.1 P8.out.2.2 B8.out)⟩
              | exact ⟨_, _, _, _, _, _, _, rfl, rfl, Lib.hid (qfin_set (Nat.le_refl _) (U6.out.lt (_, 0, .slice none 0 0) (by simp)) U8.out P8.out.1 P8.out.2.1 P8.out.2.2 B8.out)⟩
              | exact ⟨_, _, _, _, _, _, _, rfl, rfl, Lib.hid (qfin_set B6.out.size (by simp) U8.out P8.out.1 P8.out.2.1 P8.out.2.2 B8.out)⟩
        case rest =>
          obtain ⟨H, A1', A2', A3', d1, d2, d3, rfl, rfl, hq⟩ := hcut
          have hbw := Lib.hid (show Below w1.heap.size w1 wc from by
            obtain ⟨_, _, _, _, h5, _⟩ := hq.out
            exact HS.out.bel.trans (h5.mono HS.out.hi))
          have kh0 := hq.out.1.at_ (b := H) (o := 0) (V := .slice A1' (quD (uqS ds act) ds).length d1) (by simp)
          have kh1 := hq.out.1.at_ (b := H) (o := 1) (V := .slice A2' (quA (uqS ds act) ds act).length d2) (by simp)
          have q0 := (F1.out.below hbw.out).at_ (b := b + 1) (o := 0) (V := .slice none 0 0) (by simp)
          have q1 := (F1.out.below hbw.out).at_ (b := b + 1) (o := 1) (V := .slice none 0 0) (by simp)
          have f0 := (F1.out.below hbw.out).fr (b := b + 1) (o := 0) (V := .slice none 0 0) (by simp)
          have f1 := (F1.out.below hbw.out).fr (b := b + 1) (o := 1) (V := .slice none 0 0) (by simp)
          have hres := cells_end q0 q1 (.slice A1' (quD (uqS ds act) ds).length d1) (.slice A2' (quA (uqS ds act) ds act).length d2)
          have FX := Lib.hid (show X (.returned (.tuple #[.agg #[.slice A1' (quD (uqS ds act) ds).length d1, .slice A2' (quA (uqS ds act) ds act).length d2], .slice A3' (quI (uqS ds act) ds).length d3, .int .i64 0])) ((wc.setCell ⟨b + 1, 0, none⟩ (.slice A1' (quD (uqS ds act) ds).length d1)).setCell ⟨b + 1, 1, none⟩ (.slice A2' (quA (uqS ds act) ds act).length d2)) from by
            rw [HV.out]
            obtain ⟨h1, p1, p2, p3, h5, h6⟩ := hq.out
            have zz := z1.out
            have zs := HS.out.hi
            have hbb : w.heap.size = b := Hbe.out.symm
            have md : Mid (b + 1) (b + 1 + 1) wc ((wc.setCell ⟨b + 1, 0, none⟩ (.slice A1' (quD (uqS ds act) ds).length d1)).setCell ⟨b + 1, 1, none⟩ (.slice A2' (quA (uqS ds act) ds act).length d2)) := (mid_setCell (p := ⟨b + 1, 0, none⟩) _ ⟨Nat.le_refl _, Nat.lt_succ_self _⟩).trans (mid_setCell (p := ⟨b + 1, 1, none⟩) _ ⟨Nat.le_refl _, Nat.lt_succ_self _⟩)
            refine ⟨A1', d1, A2', d2, A3', d3, rfl, (p1.mid md (by omega)).rd, (p2.mid md (by omega)).rd, (p3.mid md (by omega)).rd, ?_⟩
            exact (((Bw0.out.trans (B1.out.mono Bw0.out.size)).trans (hbw.out.mono (by have := Bw0.out.size; have := B1.out.size; omega))).setCell (p := ⟨b + 1, 0, none⟩) (by simp only; omega) _).setCell (p := ⟨b + 1, 1, none⟩) (by simp only; omega) _)
          go_wp2_with fail
          refine bodyPost_ret (v := .tuple #[.agg #[.slice A1' (quD (uqS ds act) ds).length d1, .slice A2' (quA (uqS ds act) ds act).length d2], .slice A3' (quI (uqS ds act) ds).length d3, .int .i64 0]) (by simp [results, Tryz.results7, go_sem, hres.1, hres.2]) rfl ?_
          exact FX.out
end Go.Proofs.YtejojliljplcdaaGreatDoor
