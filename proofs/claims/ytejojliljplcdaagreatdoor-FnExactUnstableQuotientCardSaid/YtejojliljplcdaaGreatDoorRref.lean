/- Plain: reduced rows by ascending pivots are told by their span; the least part that is closed under operations. -/
import Derived.Test.YtejojliljplcdaaGreatDoorHitP
import Derived.Test.YtejojliljplcdaaGreatDoorDblI
import Derived.Test.YtejojliljplcdaaGreatDoorFrC
import Derived.BigRegion
import Derived.Deep.RegionLaw
namespace Go.Proofs.YtejojliljplcdaaGreatDoor
set_option linter.unusedVariables false

/-- the rows at whose pivots t has a 1 make t -/
theorem Sp.pick : ∀ {R : List Nat} {t : Nat}, GoodB R → Sp R t → Sp (R.filter fun r => t.testBit (lowB r)) t
  | [], t, h, ht => ht
  | r :: R, t, h, ht => by
    have hp := List.pairwise_cons.1 h.apart
    have hg : GoodB R := ⟨fun x hx => h.pos x (List.mem_cons_of_mem _ hx), hp.2⟩
    have hr := (lowB_bit (h.pos r (by simp))).1
    rcases ht with ht | ht
    · have h0 : t.testBit (lowB r) = false := Sp.bit (fun g hg => (hp.1 g hg).1) ht
      rw [List.filter_cons, if_neg (by rw [h0]; decide)]
      exact Sp.pick hg ht
    · have h0 : (t ^^^ r).testBit (lowB r) = false := Sp.bit (fun g hg => (hp.1 g hg).1) ht
      have h1 : t.testBit (lowB r) = true := by
        rw [Nat.testBit_xor, hr] at h0
        cases e : t.testBit (lowB r)
        · rw [e] at h0; cases h0
        · rfl
      rw [List.filter_cons, if_pos h1]
      have h2 := Sp.pick hg ht
      rw [show (R.filter fun s => (t ^^^ r).testBit (lowB s)) = R.filter fun s => t.testBit (lowB s) from List.filter_congr fun s hs => by rw [Nat.testBit_xor, (hp.1 s hs).2, Bool.xor_false]] at h2
      exact .inr h2
/-- the pivot of what the rows make is one of theirs -/
theorem Sp.pivot {R : List Nat} {t : Nat} (h : GoodB R) (ht : Sp R t) (h0 : t ≠ 0) : ∃ r ∈ R, lowB r = lowB t := by
  obtain ⟨b1, b2⟩ := lowB_bit h0
  rcases Classical.em (∃ r ∈ R, lowB r = lowB t) with hx | hx
  · exact hx
  · have h1 := Sp.bit (i := lowB t) (gs := R.filter fun r => t.testBit (lowB r)) (fun r hr => by
      obtain ⟨hr, hb⟩ := List.mem_filter.1 hr
      have hne : lowB r ≠ lowB t := fun e => hx ⟨r, hr, e⟩
      have hlt : lowB t < lowB r := by
        rcases Nat.lt_trichotomy (lowB r) (lowB t) with h1 | h1 | h1
        · rw [b2 _ h1] at hb; cases hb
        · exact absurd h1 hne
        · exact h1
      exact (lowB_bit (h.pos r hr)).2 _ hlt) (Sp.pick h ht)
    rw [b1] at h1; cases h1
/-- at the pivot of one row no other row has a 1 -/
theorem GoodB.other : ∀ {R : List Nat}, GoodB R → ∀ {r s : Nat}, r ∈ R → s ∈ R → r ≠ s → r.testBit (lowB s) = false
  | [], h, r, s, hr, _, _ => by cases hr
  | x :: R, h, r, s, hr, hs, hne => by
    have hp := List.pairwise_cons.1 h.apart
    have hg : GoodB R := ⟨fun y hy => h.pos y (List.mem_cons_of_mem _ hy), hp.2⟩
    rcases List.mem_cons.1 hr with e | hr <;> rcases List.mem_cons.1 hs with e' | hs
    · exact absurd (e.trans e'.symm) hne
    · rw [e]; exact (hp.1 s hs).2
    · rw [e']; exact (hp.1 r hr).1
    · exact GoodB.other hg hr hs hne
/-- two reduced lists with the same span have the same rows -/
theorem rows_mem {R S : List Nat} (hR : GoodB R) (hS : GoodB S) (h : ∀ t, Sp R t ↔ Sp S t) {r : Nat} (hr : r ∈ R) : r ∈ S := by
  have r0 := hR.pos r hr
  obtain ⟨s, hs, e⟩ := Sp.pivot hS ((h r).1 (Sp.mem hr)) r0
  rcases Classical.em (r = s) with e1 | hne
  · rw [e1]; exact hs
  · exfalso
    have hsp : Sp R (r ^^^ s) := (Sp.mem hr).add ((h s).2 (Sp.mem hs))
    have hz : r ^^^ s ≠ 0 := fun e2 => hne (by have := xx r s; rw [e2, Nat.zero_xor] at this; exact this.symm)
    obtain ⟨q1, q2⟩ := lowB_bit hz
    obtain ⟨a, ha, ea⟩ := Sp.pivot hR hsp hz
    obtain ⟨b, hb, eb⟩ := Sp.pivot hS ((h _).1 hsp) hz
    have hpr := (lowB_bit r0).1
    have hps := (lowB_bit (hS.pos s hs)).1
    have hq : lowB (r ^^^ s) ≠ lowB r := fun e2 => by
      rw [e2, Nat.testBit_xor, hpr, ← e, hps] at q1; cases q1
    have h1 : r.testBit (lowB (r ^^^ s)) = false := by
      rw [← ea]
      exact hR.other hr ha fun e2 => hq (by rw [← ea, e2])
    have h2 : s.testBit (lowB (r ^^^ s)) = false := by
      rw [← eb]
      exact hS.other hs hb fun e2 => hq (by rw [← eb, ← e2, e])
    rw [Nat.testBit_xor, h1, h2] at q1; cases q1
/-- reduced rows in order -/
structure RedS (R : List Nat) : Prop where
  good : GoodB R
  asc : R.Pairwise fun a b => lowB a < lowB b
theorem low_same : ∀ {R S : List Nat}, R.Pairwise (fun a b => lowB a < lowB b) → S.Pairwise (fun a b => lowB a < lowB b) → (∀ x, x ∈ R ↔ x ∈ S) → R = S
  | [], [], _, _, _ => rfl
  | [], s :: S, _, _, h => by have := (h s).2 (by simp); cases this
  | r :: R, [], _, _, h => by have := (h r).1 (by simp); cases this
  | r :: R, s :: S, hR, hS, h => by
    have pR := List.pairwise_cons.1 hR
    have pS := List.pairwise_cons.1 hS
    have e : r = s := by
      rcases List.mem_cons.1 ((h r).1 (by simp)) with e | h1
      · exact e
      · rcases List.mem_cons.1 ((h s).2 (by simp)) with e | h2
        · exact e.symm
        · have := pS.1 r h1; have := pR.1 s h2; omega
    subst e
    rw [low_same pR.2 pS.2 fun x => ?_]
    constructor
    · intro hx
      rcases List.mem_cons.1 ((h x).1 (List.mem_cons_of_mem _ hx)) with e | h1
      · subst e; have := pR.1 x hx; omega
      · exact h1
    · intro hx
      rcases List.mem_cons.1 ((h x).2 (List.mem_cons_of_mem _ hx)) with e | h1
      · subst e; have := pS.1 x hx; omega
      · exact h1
theorem RedS.unique {R S : List Nat} (hR : RedS R) (hS : RedS S) (h : ∀ t, Sp R t ↔ Sp S t) : R = S :=
  low_same hR.asc hS.asc fun x => ⟨rows_mem hR.good hS.good h, rows_mem hS.good hR.good fun t => (h t).symm⟩
theorem RedS.nil : RedS [] := ⟨⟨fun r hr => (by cases hr), .nil⟩, .nil⟩
/-- rows in order out of reduced ones -/
theorem GoodB.sorted {R S : List Nat} (h : GoodB R) (hm : ∀ x, x ∈ S ↔ x ∈ R) (ha : S.Pairwise fun a b => lowB a < lowB b) : RedS S ∧ ∀ t, Sp S t ↔ Sp R t := by
  refine ⟨⟨⟨fun r hr => h.pos r ((hm r).1 hr), List.Pairwise.imp_of_mem (fun {a b} ha hb hlt => ?_) ha⟩, ha⟩, fun t => ⟨Sp.of_gen fun g hg => Sp.mem ((hm g).1 hg), Sp.of_gen fun g hg => Sp.mem ((hm g).2 hg)⟩⟩
  have hne : a ≠ b := fun e => by subst e; omega
  exact ⟨h.other ((hm b).1 hb) ((hm a).1 ha) fun e => hne e.symm, h.other ((hm a).1 ha) ((hm b).1 hb) hne⟩
/-- pivots of a smaller span; spans with as many rows are the same -/
theorem span_eq {R S : List Nat} (hR : GoodB R) (hS : GoodB S) (h : ∀ t, Sp R t → Sp S t) (hl : S.length ≤ R.length) : ∀ t, Sp R t ↔ Sp S t := by
  have nd : ∀ {R : List Nat}, GoodB R → (R.map lowB).Nodup := fun {R} hR => List.pairwise_map.2 (List.Pairwise.imp_of_mem (fun {a b} ha hb hab e => by
    have := (lowB_bit (hR.pos b hb)).1
    rw [← e, hab.1] at this; cases this) hR.apart)
  have hsub : ∀ p ∈ R.map lowB, p ∈ S.map lowB := fun p hp => by
    obtain ⟨r, hr, rfl⟩ := List.mem_map.1 hp
    obtain ⟨s, hs, e⟩ := Sp.pivot hS (h r (Sp.mem hr)) (hR.pos r hr)
    exact List.mem_map.2 ⟨s, hs, e⟩
  have hback : ∀ (L M : List Nat), L.Nodup → M.Nodup → (∀ p ∈ L, p ∈ M) → M.length ≤ L.length → ∀ p ∈ M, p ∈ L := by
    intro L
    induction L with
    | nil =>
      intro M _ _ _ hl p hp
      have : M = [] := List.eq_nil_of_length_eq_zero (Nat.le_zero.1 hl)
      subst this; cases hp
    | cons a L ih =>
      intro M hL hM hs hl p hp
      have pL := List.nodup_cons.1 hL
      rcases Classical.em (p = a) with e | hne
      · rw [e]; simp
      · refine List.mem_cons_of_mem _ (ih (M.erase a) pL.2 (hM.erase a) (fun q hq => (List.mem_erase_of_ne (fun e => by subst e; exact pL.1 hq)).2 (hs q (List.mem_cons_of_mem _ hq))) ?_ p ((List.mem_erase_of_ne hne).2 hp))
        rw [List.length_erase_of_mem (hs a (by simp))]
        simp only [List.length_cons] at hl
        omega
  have hb := hback _ _ (nd hR) (nd hS) hsub (by simpa using hl)
  refine fun t => ⟨h t, Sp.of_gen fun s hs => ?_⟩
  rcases Classical.em (red lowB R s = 0) with h0 | h0
  · exact (red_zero hR.good).1 h0
  · exfalso
    have hsp : Sp S (red lowB R s) := by
      have h1 := h _ (red_sp (pv := lowB) (R := R) (t := s))
      have h2 := (Sp.mem hs).add h1
      rwa [← Nat.xor_assoc, Nat.xor_self, Nat.zero_xor] at h2
    obtain ⟨u, hu, e⟩ := Sp.pivot hS hsp h0
    obtain ⟨r, hr, e2⟩ := List.mem_map.1 (hb _ (List.mem_map.2 ⟨u, hu, rfl⟩))
    have h3 := red_free (t := s) hR.good r hr
    rw [e2, e, (lowB_bit h0).1] at h3; cases h3
theorem GoodB.len {R : List Nat} {n : Nat} (h : GoodB R) (hw : ∀ r ∈ R, r < 2 ^ n) : R.length ≤ n := by
  have nd : (R.map lowB).Nodup := List.pairwise_map.2 (List.Pairwise.imp_of_mem (fun {a b} ha hb hab e => by
    have := (lowB_bit (h.pos b hb)).1
    rw [← e, hab.1] at this; cases this) h.apart)
  have hb : ∀ p ∈ R.map lowB, p ∈ List.range n := fun p hp => by
    obtain ⟨r, hr, rfl⟩ := List.mem_map.1 hp
    have h1 := (lowB_bit (h.pos r hr)).1
    have h2 := hw r hr
    refine List.mem_range.2 (Nat.lt_of_not_le fun h3 => ?_)
    have := Nat.testBit_lt_two_pow (Nat.lt_of_lt_of_le h2 (Nat.pow_le_pow_right (by decide) h3))
    rw [h1] at this; cases this
  have key : ∀ (L M : List Nat), L.Nodup → (∀ p ∈ L, p ∈ M) → L.length ≤ M.length := by
    intro L
    induction L with
    | nil => intro M _ _; simp
    | cons a L ih =>
      intro M hL hs
      have pL := List.nodup_cons.1 hL
      have h1 := ih (M.erase a) pL.2 fun q hq => (List.mem_erase_of_ne (fun e => by subst e; exact pL.1 hq)).2 (hs q (List.mem_cons_of_mem _ hq))
      have hm := hs a (by simp)
      rw [List.length_erase_of_mem hm] at h1
      have := List.length_pos_of_mem hm
      simp only [List.length_cons]; omega
  simpa using key _ _ nd hb

/-! ### the least part that holds some rows and is closed under linear operations -/
/-- operations f 1 .. f N on numbers, linear -/
structure Lin (f : Nat → Nat → Nat) : Prop where
  zero : ∀ j, f j 0 = 0
  add : ∀ j a b, f j (a ^^^ b) = f j a ^^^ f j b
theorem Lin.span {f : Nat → Nat → Nat} (hf : Lin f) {j : Nat} {P : Nat → Prop} (hz : P 0) (ha : ∀ a b, P a → P b → P (a ^^^ b)) : ∀ {R : List Nat} {t : Nat}, (∀ r ∈ R, P (f j r)) → Sp R t → P (f j t)
  | [], t, h, ht => by
    have ht : t = 0 := ht
    subst ht; rw [hf.zero]; exact hz
  | g :: gs, t, h, ht => by
    have h1 : ∀ r ∈ gs, P (f j r) := fun x hx => h x (List.mem_cons_of_mem _ hx)
    rcases ht with ht | ht
    · exact Lin.span hf hz ha h1 ht
    · have h2 := ha _ _ (Lin.span hf hz ha h1 ht) (h g (by simp))
      rwa [hf.add, xx] at h2
/-- what belongs to every space that holds the rows M and is closed under f 1 .. f N -/
def Clo (f : Nat → Nat → Nat) (N : Nat) (M : List Nat) (x : Nat) : Prop :=
  ∀ S : Nat → Prop, S 0 → (∀ a b, S a → S b → S (a ^^^ b)) → (∀ m ∈ M, S m) → (∀ j a, 1 ≤ j → j ≤ N → S a → S (f j a)) → S x
theorem Clo.zero {f N M} : Clo f N M 0 := fun S h0 _ _ _ => h0
theorem Clo.add {f N M} {a b : Nat} (ha : Clo f N M a) (hb : Clo f N M b) : Clo f N M (a ^^^ b) := fun S h0 h1 h2 h3 => h1 a b (ha S h0 h1 h2 h3) (hb S h0 h1 h2 h3)
theorem Clo.mem {f N M} {m : Nat} (h : m ∈ M) : Clo f N M m := fun S h0 h1 h2 h3 => h2 m h
theorem Clo.op {f N M} {j a : Nat} (h1 : 1 ≤ j) (h2 : j ≤ N) (h : Clo f N M a) : Clo f N M (f j a) := fun S k0 k1 k2 k3 => k3 j a h1 h2 (h S k0 k1 k2 k3)
theorem Clo.sp {f N M} {R : List Nat} {t : Nat} (h : ∀ r ∈ R, Clo f N M r) (ht : Sp R t) : Clo f N M t := by
  induction R generalizing t with
  | nil => have ht : t = 0 := ht; subst ht; exact Clo.zero
  | cons g gs ih =>
    have h1 : ∀ r ∈ gs, Clo f N M r := fun x hx => h x (List.mem_cons_of_mem _ hx)
    rcases ht with ht | ht
    · exact ih h1 ht
    · have := (ih h1 ht).add (h g (by simp)); rwa [xx] at this
/-- a list of rows of that part that holds M and is closed spans it -/
theorem clo_span {f N M} {R : List Nat} (hr : ∀ r ∈ R, Clo f N M r) (hm : ∀ m ∈ M, Sp R m) (hc : ∀ j t, 1 ≤ j → j ≤ N → Sp R t → Sp R (f j t)) (t : Nat) : Sp R t ↔ Clo f N M t :=
  ⟨Clo.sp hr, fun h => h (Sp R) (Sp.zero R) (fun a b => Sp.add) hm hc⟩
theorem Clo.same {f N M M'} (h1 : ∀ m ∈ M, m ∈ M' ∨ m = 0) (h2 : ∀ m ∈ M', m ∈ M ∨ m = 0) (x : Nat) : Clo f N M x ↔ Clo f N M' x := by
  constructor
  · intro h S k0 k1 k2 k3
    exact h S k0 k1 (fun m hm => (h1 m hm).elim (k2 m) fun e => by rw [e]; exact k0) k3
  · intro h S k0 k1 k2 k3
    exact h S k0 k1 (fun m hm => (h2 m hm).elim (k2 m) fun e => by rw [e]; exact k0) k3

/-! ### the program's way: a list of rows to be taken in, one after the other -/
/-- P: what is there, q: what waits -/
structure GenI (f : Nat → Nat → Nat) (N : Nat) (M : List Nat) (P q : List Nat) : Prop where
  good : GoodB P
  inP : ∀ r ∈ P, Clo f N M r
  inq : ∀ r ∈ q, Clo f N M r
  has : ∀ m ∈ M, Sp (P ++ q) m
  ops : ∀ j r, 1 ≤ j → j ≤ N → Sp P r → Sp (P ++ q) (f j r)
theorem Sp.appL {P q : List Nat} {t : Nat} (h : Sp P t) : Sp (P ++ q) t := Sp.of_gen (fun g hg => Sp.mem (List.mem_append_left _ hg)) h
theorem GenI.start {f N M} (hf : Lin f) : GenI f N M [] M := ⟨RedS.nil.good, fun r hr => (by cases hr), fun r hr => Clo.mem hr, fun m hm => Sp.mem (by simpa using hm), fun j r _ _ hr => by
  have hr : r = 0 := hr
  rw [hr, hf.zero]; exact Sp.zero _⟩
theorem GenI.skip {f N M P q} {v : Nat} (h : GenI f N M P (v :: q)) (hv : red lowB P v = 0) : GenI f N M P q := by
  have hsv : Sp P v := (red_zero h.good.good).1 hv
  have key : ∀ t, Sp (P ++ v :: q) t → Sp (P ++ q) t := fun t => Sp.of_gen fun g hg => by
    rcases List.mem_append.1 hg with hg | hg
    · exact Sp.mem (List.mem_append_left _ hg)
    · rcases List.mem_cons.1 hg with rfl | hg
      · exact hsv.appL
      · exact Sp.mem (List.mem_append_right _ hg)
  exact ⟨h.good, h.inP, fun r hr => h.inq r (List.mem_cons_of_mem _ hr), fun m hm => key m (h.has m hm), fun j r h1 h2 hr => key _ (h.ops j r h1 h2 hr)⟩
theorem GenI.take {f N M P q} {v : Nat} (hf : Lin f) (h : GenI f N M P (v :: q)) (hv : red lowB P v ≠ 0) : GenI f N M (addB P v) (q ++ (List.range N).map fun i => f (i + 1) v) := by
  have hsp : ∀ t, Sp (addB P v) t ↔ Sp (P ++ [v]) t := fun t => sp_addB h.good
  have up : ∀ t, Sp P t → Sp (addB P v) t := fun t ht => (hsp t).2 ht.appL
  have hvv : Sp (addB P v) v := (hsp v).2 (Sp.mem (by simp))
  have key : ∀ t, Sp (P ++ v :: q) t → Sp (addB P v ++ (q ++ (List.range N).map fun i => f (i + 1) v)) t := fun t => Sp.of_gen fun g hg => by
    rcases List.mem_append.1 hg with hg | hg
    · exact (up g (Sp.mem hg)).appL
    · rcases List.mem_cons.1 hg with rfl | hg
      · exact hvv.appL
      · exact Sp.mem (List.mem_append_right _ (List.mem_append_left _ hg))
  have hcv : Clo f N M v := h.inq v (by simp)
  refine ⟨h.good.add, fun r hr => ?_, fun r hr => ?_, fun m hm => key m (h.has m hm), fun j r h1 h2 hr => ?_⟩
  · exact Clo.sp (R := P ++ [v]) (fun s hs => by
      rcases List.mem_append.1 hs with hs | hs
      · exact h.inP s hs
      · rw [List.mem_singleton.1 hs]; exact hcv) ((hsp r).1 (Sp.mem hr))
  · rcases List.mem_append.1 hr with hr | hr
    · exact h.inq r (List.mem_cons_of_mem _ hr)
    · obtain ⟨i, hi, rfl⟩ := List.mem_map.1 hr
      exact Clo.op (by omega) (by have := List.mem_range.1 hi; omega) hcv
  · have hjv : Sp (addB P v ++ (q ++ (List.range N).map fun i => f (i + 1) v)) (f j v) :=
      Sp.mem (List.mem_append_right _ (List.mem_append_right _ (List.mem_map.2 ⟨j - 1, List.mem_range.2 (by omega), by rw [show j - 1 + 1 = j from by omega]⟩)))
    rcases Sp.app.1 ((hsp r).1 hr) with h3 | h3
    · exact key _ (h.ops j r h1 h2 h3)
    · have h4 := (key _ (h.ops j _ h1 h2 h3)).add hjv
      rwa [hf.add, xx] at h4
theorem GenI.done {f N M P} (h : GenI f N M P []) (t : Nat) : Sp P t ↔ Clo f N M t :=
  clo_span h.inP (fun m hm => by simpa using h.has m hm) (fun j t h1 h2 ht => by simpa using h.ops j t h1 h2 ht) t

/-! ### the reference's way: again and again all operations on a basis, until nothing new comes -/
theorem part_step {f N M} {R S : List Nat} (hf : Lin f) (hR : GoodB R) (hS : GoodB S) (hc : ∀ r ∈ R, Clo f N M r) (hm : ∀ m ∈ M, Sp R m)
    (hS2 : ∀ t, Sp S t ↔ Sp (R ++ R.flatMap fun r => (List.range N).map fun i => f (i + 1) r) t) :
    (∀ r ∈ S, Clo f N M r) ∧ (∀ m ∈ M, Sp S m) ∧ (S.length = R.length → ∀ t, Sp R t ↔ Clo f N M t) ∧ R.length ≤ S.length := by
  have hsub : ∀ t, Sp R t → Sp S t := fun t ht => (hS2 t).2 ht.appL
  have hcS : ∀ r ∈ S, Clo f N M r := fun r hr => Clo.sp (fun g hg => by
    rcases List.mem_append.1 hg with hg | hg
    · exact hc g hg
    · obtain ⟨x, hx, hg⟩ := List.mem_flatMap.1 hg
      obtain ⟨i, hi, rfl⟩ := List.mem_map.1 hg
      exact Clo.op (by omega) (by have := List.mem_range.1 hi; omega) (hc x hx)) ((hS2 r).1 (Sp.mem hr))
  refine ⟨hcS, fun m hm' => hsub m (hm m hm'), fun hl t => ?_, ?_⟩
  · have e := span_eq hR hS hsub (Nat.le_of_eq hl)
    refine clo_span hc hm (fun j t h1 h2 ht => ?_) t
    refine hf.span (P := Sp R) (Sp.zero R) (fun a b => Sp.add) (fun r hr => ?_) ht
    exact (e _).2 ((hS2 _).2 (Sp.mem (List.mem_append_right _ (List.mem_flatMap.2 ⟨r, hr, List.mem_map.2 ⟨j - 1, List.mem_range.2 (by omega), by rw [show j - 1 + 1 = j from by omega]⟩⟩))))
  · rcases Nat.lt_or_ge S.length R.length with h1 | h1
    · exfalso
      have e := span_eq hR hS hsub (Nat.le_of_lt h1)
      have e2 : ∀ x, x ∈ R ↔ x ∈ S := fun x => ⟨rows_mem hR hS e, rows_mem hS hR fun t => (e t).symm⟩
      have nd : ∀ {R : List Nat}, GoodB R → R.Nodup := fun {R} hR => List.Pairwise.imp_of_mem (fun {a b} ha hb hab e => by
        have := (lowB_bit (hR.pos b hb)).1
        rw [← e, e] at this
        rw [e, this] at hab; cases hab.1) hR.apart
      have key : ∀ (L M : List Nat), L.Nodup → (∀ p ∈ L, p ∈ M) → L.length ≤ M.length := by
        intro L
        induction L with
        | nil => intro M _ _; simp
        | cons a L ih =>
          intro M hL hs
          have pL := List.nodup_cons.1 hL
          have h1 := ih (M.erase a) pL.2 fun q hq => (List.mem_erase_of_ne (fun e => by subst e; exact pL.1 hq)).2 (hs q (List.mem_cons_of_mem _ hq))
          have hm := hs a (by simp)
          rw [List.length_erase_of_mem hm] at h1
          have := List.length_pos_of_mem hm
          simp only [List.length_cons]; omega
      have := key R S (nd hR) fun p hp => (e2 p).1 hp
      omega
    · exact h1
end Go.Proofs.YtejojliljplcdaaGreatDoor

/- Spans: (*span).left, (*span).add. -/
namespace Go.Proofs.YtejojliljplcdaaGreatDoor
open Go.RowKit
set_option linter.unusedVariables false

theorem ctz_low {x : Nat} (h0 : x ≠ 0) (h : x < 18446744073709551616) : Lib.ctz 64 x = lowB x := by
  obtain ⟨m, hm, hk⟩ := Lib.ctzFrom_spec 64 x (by omega) h
  have e : Lib.ctz 64 x = Lib.ctzFrom 64 x := by unfold Lib.ctz; rw [if_neg h0]
  rw [e]
  obtain ⟨k, hkk⟩ : ∃ k, k = Lib.ctzFrom 64 x := ⟨_, rfl⟩
  rw [← hkk] at hm hk ⊢
  refine (lowB_of ?_ fun j hj => ?_).symm
  · rw [hm, Nat.testBit_two_pow_mul]
    simp
  · rw [hm, Nat.testBit_two_pow_mul]
    simp; omega
/-- the struct span: its rows and their companions (all 0) -/
structure Spn (w : World) (E : Nat) (A : Option Addr) (n c : Nat) (A2 : Option Addr) (c2 : Nat) (R : List Nat) : Prop where
  cs : Cells [(E, 0, .slice A n c), (E, 1, .slice A2 n c2)] w
  o1 : OwnS w (E + 1) A n c (R.map fun (r : Nat) => (r : Int))
  o2 : OwnS w (E + 1) A2 n c2 (List.replicate n 0)
  ne : ∀ a b, A = some a → A2 = some b → a.block ≠ b.block
theorem Spn.len {w E A n c A2 c2 R} (h : Spn w E A n c A2 c2 R) : R.length = n := by simpa using h.o1.len
theorem red_take {R : List Nat} {k r v : Nat} (h : R[k]? = some r) : red lowB (R.take (k + 1)) v = if (red lowB (R.take k) v).testBit (lowB r) = true then red lowB (R.take k) v ^^^ r else red lowB (R.take k) v := by
  rw [List.take_add_one, h]
  unfold red
  rw [List.foldl_append]
  rfl
theorem red_lt {R : List Nat} {v : Nat} (hR : ∀ r ∈ R, r < 65536) (hv : v < 65536) : red lowB R v < 65536 := red_width (n := 16) hR hv
set_option maxRecDepth 100000 in
theorem left_any (E : Nat) (A A2 : Option Addr) (n c c2 v : Nat) (R : List Nat) (w : World) (h : Spn w E A n c A2 c2 R) (hR : ∀ r ∈ R, r ≠ 0 ∧ r < 65536) (hv : v < 65536) (hn : n ≤ 1000) (hT : Deb w) :
    Calls Tryz.prog 87 #[.pointer (some ⟨E, 0, none⟩), .int .i64 (v : Nat), .int .i64 0] w (fun e w' => e = .returned (.tuple #[.int .i64 (red lowB R v : Nat), .int .i64 0]) ∧ ∃ q, w' = w.drewN q) := by
  have H := Lib.hid h
  have HL := Lib.hid h.len
  have HR := Lib.hid hR
  have HD := Lib.hid hT
  obtain ⟨X, hX⟩ : ∃ X : Ending → World → Prop, X = (fun e w' => e = .returned (.tuple #[.int .i64 (red lowB R v : Nat), .int .i64 0]) ∧ ∃ q, w' = w.drewN q) := ⟨_, rfl⟩
  have HX := Lib.hid hX
  rw [← hX]
  have k0 := h.cs.at_ (b := E) (o := 0) (V := .slice A n c) (by simp)
  have k1 := h.cs.at_ (b := E) (o := 1) (V := .slice A2 n c2) (by simp)
  clear h hR hT hX
  go_enter Tryz.func87, Tryz.ntmps87
  go_wp2_with fail
  clear k0 k1
  go_loopw [1, 2, 15] (fun x y i wr => ∃ (k u : Nat), k ≤ n ∧ i = .int .i64 k ∧ x = .int .i64 (u : Nat) ∧ y = .int .i64 0 ∧ u < 65536 ∧ Hid (u = red lowB (R.take k) v) ∧ Hid (∃ q, wr = w.drewN q)) (fun _ _ i _ => n - (intOf i).toNat)
  case atStart => exact ⟨0, v, Nat.zero_le _, rfl, rfl, rfl, hv, Lib.hid rfl, Lib.hid ⟨0, rfl⟩⟩
  case round =>
    obtain ⟨k, u, hk, rfl, rfl, rfl, hu, HU, HW⟩ := hrel
    have hq := HW.out
    clear HW
    have HBW := Lib.hid (show Below w.heap.size w wr from by obtain ⟨q, hq⟩ := hq; rw [hq]; exact below_drewN (Below.refl _ _) q)
    have HQ := Lib.hid hq
    clear hq
    by_cases hlt : k < n
    · obtain ⟨ad, x, rfl, _, hx, hc⟩ := (H.out.o1.rd.below HBW.out).at_ hlt
      obtain ⟨r, hr⟩ : ∃ r, R[k]? = some r := ⟨_, List.getElem?_eq_getElem (by rw [HL.out]; exact hlt)⟩
      obtain rfl : x = (r : Int) := by
        have h1 := hx.out
        rw [List.getElem?_map, hr] at h1
        exact (Option.some.inj h1).symm
      obtain ⟨ad2, y, rfl, _, hy, hc2⟩ := (H.out.o2.rd.below HBW.out).at_ hlt
      obtain rfl : y = 0 := by
        have h1 := hy.out
        rw [List.getElem?_replicate, if_pos hlt] at h1
        exact (Option.some.inj h1).symm
      obtain ⟨hr0, hr1⟩ := HR.out r (List.mem_of_getElem? hr)
      have HTK := Lib.hid (red_take (v := v) hr)
      have CP := Lib.hid (pivot_any r (by omega) hr0 wr (HD.out.below HBW.out))
      rw [ctz_low hr0 (by omega)] at CP
      have HLB := Lib.hid (show lowB r < 16 from by
        have h1 := (lowB_bit hr0).1
        exact bit_lt (n := 16) (x := r) hr1 h1)
      obtain ⟨p, hp⟩ : ∃ p, p = lowB r := ⟨_, rfl⟩
      rw [← hp] at CP HTK HLB
      have hp16 : p < 16 := HLB.out
      have hb := bit_at (x := u) (i := p) (by omega)
      have k1 := (H.out.cs.below HBW.out).at_ (b := E) (o := 1) (V := .slice (some ad2) n c2) (by simp)
      clear hx hy hr hp
      by_cases hbit : u.testBit p = true
      · rw [if_pos hbit] at hb
        have hxo := bits_xorN (a := u) (b := r) (by omega) (by omega)
        have HU2 := Lib.hid (show u ^^^ r = red lowB (R.take (k + 1)) v from by rw [HTK.out, ← HU.out, if_pos hbit])
        have hu2 : u ^^^ r < 65536 := Nat.xor_lt_two_pow (n := 16) hu hr1
        have hx0 : bits .xor .i64 (0 : Int) 0 = 0 := by rfl
        clear hbit
        go_wp2_with fail
        refine CP.out.mono ?_
        rintro e w2 ⟨rfl, rfl⟩
        go_wp2_with fail
        go_quiet (fail)
        go_wp2_with fail
        go_roundw
        case rel => exact ⟨k + 1, u ^^^ r, by omega, by go_num, rfl, rfl, hu2, HU2, Lib.hid (by obtain ⟨q, hq⟩ := HQ.out; rw [hq]; exact ⟨_, World.drewN_drewN _ _ _⟩)⟩
        case measure => simp [intOf]; omega
      · rw [if_neg hbit] at hb
        have HU2 := Lib.hid (show u = red lowB (R.take (k + 1)) v from by rw [HTK.out, ← HU.out, if_neg hbit])
        clear hbit
        go_wp2_with fail
        refine CP.out.mono ?_
        rintro e w2 ⟨rfl, rfl⟩
        go_wp2_with fail
        go_roundw
        case rel => exact ⟨k + 1, u, by omega, by go_num, rfl, rfl, hu, HU2, HQ⟩
        case measure => simp [intOf]; omega
    · obtain rfl : k = n := by omega
      have HE := Lib.hid (show u = red lowB R v from by rw [HU.out, List.take_of_length_le (by rw [HL.out]; exact Nat.le_refl _)])
      go_wp2_with fail
      rw [HX.out, ← HE.out]
      exact ⟨rfl, HQ.out⟩
end Go.Proofs.YtejojliljplcdaaGreatDoor

/- Frames (FrG), spans under stores and appends (Spn.set, SpN, SpM, SpG). -/
namespace Go.Proofs.YtejojliljplcdaaGreatDoor
open Go.RowKit
set_option linter.unusedVariables false

theorem Cells.grown {L : List (Nat × Nat × Value)} {w w' : World} {r : Option Nat} (h : Cells L w) (hg : w.grownBy w' r) (hn : ∀ x ∈ L, some x.1 ≠ r) : Cells L w' :=
  ⟨fun x hx => (World.cell?_of_block (a := ⟨x.1, x.2.1, none⟩) (hg.block _ (h.lt x hx) (hn x hx))).trans (h.c x hx), fun x hx => (World.frozen?_of_block (a := ⟨x.1, x.2.1, none⟩) (hg.block _ (h.lt x hx) (hn x hx))).trans (h.f x hx), fun x hx => Nat.lt_of_lt_of_le (h.lt x hx) hg.size⟩
/-- outside the blocks G nothing has turned -/
structure FrG (G : Nat → Prop) (w w' : World) : Prop where
  os : w'.os = w.os
  tape : w'.tape = w.tape
  output : w'.output = w.output
  size : w.heap.size ≤ w'.heap.size
  block : ∀ j, j < w.heap.size → ¬ G j → w'.heap[j]? = w.heap[j]?
theorem FrG.refl (G : Nat → Prop) (w : World) : FrG G w w := ⟨rfl, rfl, rfl, Nat.le_refl _, fun _ _ _ => rfl⟩
theorem FrG.trans {G : Nat → Prop} {a b c : World} (h : FrG G a b) (k : FrG G b c) : FrG G a c :=
  ⟨k.os.trans h.os, k.tape.trans h.tape, k.output.trans h.output, Nat.le_trans h.size k.size, fun j hj hg => (k.block j (Nat.lt_of_lt_of_le hj h.size) hg).trans (h.block j hj hg)⟩
theorem FrG.of_below {G : Nat → Prop} {w w' : World} (h : Below w.heap.size w w') : FrG G w w' := ⟨h.os, h.tape, h.output, h.size, fun j hj _ => h.block j hj⟩
theorem FrG.of_grown {G : Nat → Prop} {w w' : World} {r : Option Nat} (h : w.grownBy w' r) (hr : ∀ g, r = some g → G g) : FrG G w w' := ⟨h.os, h.tape, h.output, h.size, fun j hj hg => h.block j hj fun e => hg (hr j e.symm)⟩
theorem FrG.setCell {G : Nat → Prop} (w : World) (p : Addr) (v : Value) (hp : G p.block) : FrG G w (w.setCell p v) :=
  ⟨rfl, rfl, rfl, by simp [World.setCell], fun j hj hg => Below.heap_setCell _ _ _ _ (fun e => hg (by rw [e]; exact hp))⟩
theorem FrG.below {G : Nat → Prop} {w w' : World} {B : Nat} (h : FrG G w w') (hB : B ≤ w.heap.size) (hG : ∀ j, G j → B ≤ j) : Below B w w' :=
  ⟨h.os, h.tape, h.output, h.size, fun j hj => h.block j (by omega) (fun hg => by have := hG j hg; omega)⟩
theorem FrG.later {G G' : Nat → Prop} {a b c : World} (h : FrG G a b) (k : FrG G' b c) (hG : ∀ j, G' j → G j ∨ a.heap.size ≤ j) : FrG G a c :=
  ⟨k.os.trans h.os, k.tape.trans h.tape, k.output.trans h.output, Nat.le_trans h.size k.size, fun j hj hg => (k.block j (Nat.lt_of_lt_of_le hj h.size) (fun h2 => by rcases hG j h2 with h3 | h3; exact hg h3; omega)).trans (h.block j hj hg)⟩
theorem OwnV.frG {G : Nat → Prop} {w w' : World} {B E n c : Nat} {A : Option Addr} {vs : List Value} (h : OwnV w B E A n c vs) (hf : FrG G w w') (hn : ∀ ad, A = some ad → ¬ G ad.block) : OwnV w' B E A n c vs :=
  ⟨h.len, ownsRow_same h.own fun g hg => by
    cases A with
    | none => cases hg
    | some ad =>
      obtain rfl : ad.block = g := Option.some.inj hg
      exact hf.block _ (h.own.lt _ rfl).2 (hn ad rfl)⟩
theorem OwnS.frG {G : Nat → Prop} {w w' : World} {B n c : Nat} {A : Option Addr} {xs : List Int} (h : OwnS w B A n c xs) (hf : FrG G w w') (hn : ∀ ad, A = some ad → ¬ G ad.block) : OwnS w' B A n c xs := (h.v.frG hf hn).s
theorem Cells.frG {G : Nat → Prop} {L : List (Nat × Nat × Value)} {w w' : World} (h : Cells L w) (hf : FrG G w w') (hn : ∀ x ∈ L, ¬ G x.1) : Cells L w' :=
  ⟨fun x hx => (World.cell?_of_block (a := ⟨x.1, x.2.1, none⟩) (hf.block _ (h.lt x hx) (hn x hx))).trans (h.c x hx), fun x hx => (World.frozen?_of_block (a := ⟨x.1, x.2.1, none⟩) (hf.block _ (h.lt x hx) (hn x hx))).trans (h.f x hx), fun x hx => Nat.lt_of_lt_of_le (h.lt x hx) hf.size⟩
theorem Spn.below {w w' : World} {E n c c2 : Nat} {A A2 : Option Addr} {R : List Nat} (h : Spn w E A n c A2 c2 R) (hb : Below w.heap.size w w') : Spn w' E A n c A2 c2 R := ⟨h.cs.below hb, h.o1.below hb, h.o2.below hb, h.ne⟩

/-- both stores of a round, in either order -/
theorem Spn.set {w : World} {E n c c2 k : Nat} {A A2 : Option Addr} {R : List Nat} (h : Spn w E A n c A2 c2 R) (hk : k < n) :
    ∃ g g2 r, A = some ⟨g, 0, none⟩ ∧ A2 = some ⟨g2, 0, none⟩ ∧ E < g ∧ E < g2 ∧ g ≠ g2 ∧ g < w.heap.size ∧ g2 < w.heap.size ∧ R[k]? = some r ∧
      w.cell? ⟨g, k, none⟩ = some (.int .i64 (r : Nat)) ∧ w.cell? ⟨g2, k, none⟩ = some (.int .i64 0) ∧ w.frozen? ⟨g, k, none⟩ = false ∧ w.frozen? ⟨g2, k, none⟩ = false ∧
      ∀ y : Nat, Spn ((w.setCell ⟨g, k, none⟩ (.int .i64 (y : Nat))).setCell ⟨g2, k, none⟩ (.int .i64 0)) E A n c A2 c2 (R.set k y) ∧ Spn ((w.setCell ⟨g2, k, none⟩ (.int .i64 0)).setCell ⟨g, k, none⟩ (.int .i64 (y : Nat))) E A n c A2 c2 (R.set k y) := by
  obtain ⟨g, x, rfl, hb, hl, hx, hc, hf, hset⟩ := h.o1.at_ hk
  obtain ⟨g2, x2, rfl, hb2, hl2, hx2, hc2, hf2, hset2⟩ := h.o2.at_ hk
  obtain ⟨r, hr⟩ : ∃ r, R[k]? = some r := ⟨_, List.getElem?_eq_getElem (by rw [h.len]; exact hk)⟩
  obtain rfl : x = (r : Int) := by
    have h1 := hx.out
    rw [List.getElem?_map, hr] at h1
    exact (Option.some.inj h1).symm
  obtain rfl : x2 = 0 := by
    have h1 := hx2.out
    rw [List.getElem?_replicate, if_pos hk] at h1
    exact (Option.some.inj h1).symm
  have hne : g ≠ g2 := h.ne _ _ rfl rfl
  refine ⟨g, g2, r, rfl, rfl, by omega, by omega, hne, hl, hl2, hr, hc, hc2, hf, hf2, fun y => ?_⟩
  have e1 : (R.map fun (r : Nat) => (r : Int)).set k (y : Nat) = (R.set k y).map fun (r : Nat) => (r : Int) := by rw [List.map_set]
  have e2 : (List.replicate n (0 : Int)).set k 0 = List.replicate n 0 := by
    apply List.ext_getElem?
    intro j
    rw [List.getElem?_set]
    split
    · rename_i e; subst e; simp [hk]
    · rfl
  have a1 := (hset (y : Nat)).1
  have g1 := (hset (y : Nat)).2
  have a2 := (hset2 0).1
  have g2' := (hset2 0).2
  rw [e1] at a1
  rw [e2] at a2
  have b2 : OwnS (w.setCell ⟨g, k, none⟩ (.int .i64 (y : Nat))) (E + 1) (some ⟨g2, 0, none⟩) n c2 (List.replicate n 0) := h.o2.grown g1 fun ad e e' => by injection e with e; subst e; injection e' with e'; exact hne e'.symm
  have b1 : OwnS (w.setCell ⟨g2, k, none⟩ (.int .i64 0)) (E + 1) (some ⟨g, 0, none⟩) n c (R.map fun (r : Nat) => (r : Int)) := h.o1.grown g2' fun ad e e' => by injection e with e; subst e; injection e' with e'; exact hne e'
  have C1 : Cells [(E, 0, .slice (some ⟨g, 0, none⟩) n c), (E, 1, .slice (some ⟨g2, 0, none⟩) n c2)] (w.setCell ⟨g, k, none⟩ (.int .i64 (y : Nat))) := h.cs.grown g1 (by
    intro x hx e
    injection e with e
    simp only [List.mem_cons, List.not_mem_nil, or_false] at hx
    rcases hx with rfl | rfl <;> · dsimp only at e; omega)
  have C2 : Cells [(E, 0, .slice (some ⟨g, 0, none⟩) n c), (E, 1, .slice (some ⟨g2, 0, none⟩) n c2)] (w.setCell ⟨g2, k, none⟩ (.int .i64 0)) := h.cs.grown g2' (by
    intro x hx e
    injection e with e
    simp only [List.mem_cons, List.not_mem_nil, or_false] at hx
    rcases hx with rfl | rfl <;> · dsimp only at e; omega)
  constructor
  · obtain ⟨q, _, hq, _, _, _, _, _, hs⟩ := b2.at_ hk
    obtain rfl : g2 = q := by simpa using hq
    have hs1 := (hs 0).1
    have hs2 := (hs 0).2
    rw [e2] at hs1
    refine ⟨C1.grown hs2 ?_, a1.grown hs2 ?_, hs1, h.ne⟩
    · intro x hx e
      injection e with e
      simp only [List.mem_cons, List.not_mem_nil, or_false] at hx
      rcases hx with rfl | rfl <;> · dsimp only at e; omega
    · intro ad e e'
      injection e with e; subst e; injection e' with e'; exact hne e'
  · obtain ⟨q, _, hq, _, _, _, _, _, hs⟩ := b1.at_ hk
    obtain rfl : g = q := by simpa using hq
    have hs1 := (hs (y : Nat)).1
    have hs2 := (hs (y : Nat)).2
    rw [e1] at hs1
    refine ⟨C2.grown hs2 ?_, hs1, a2.grown hs2 ?_, h.ne⟩
    · intro x hx e
      injection e with e
      simp only [List.mem_cons, List.not_mem_nil, or_false] at hx
      rcases hx with rfl | rfl <;> · dsimp only at e; omega
    · intro ad e e'
      injection e with e; subst e; injection e' with e'; exact hne e'.symm
theorem step_appV {T E bytes : Nat} (ht : Elt T E bytes) {w : World} {ops : Array Oper} {o : Oper} {a : Act} {K : Act → World → Prop} {Q : Exit → Act → World → Prop} {F : Prop} (hgd : o.guard = none) (s x : Operand)
    (ho : o.op = .call { callee := .builtin .append, args := #[s, x], argTypes := #[T, T] }) {B n c m d Bx : Nat} {A Ax : Option Addr} {vs us : List Value}
    (hs : a.eval s = .slice A n c) (hx : a.eval x = .slice Ax m d) (hown : OwnV w B E A n c vs) (hr : RdV w Bx Ax m d us) (h1 : ∀ u ∈ us, u.oneCell' = true)
    (hb : n + m ≤ 4000000000000) (hbytes : bytes ≤ 24) (hB : B ≤ w.heap.size)
    (h : ∀ A' c' w', OwnV w' B E A' (n + m) c' (vs ++ us) → w.grownBy w' (Value.ownBlock (.slice A n c)) → (Value.ownBlock (.slice A' (n + m) c') = Value.ownBlock (.slice A n c) ∨ Value.ownBlock (.slice A' (n + m) c') = some w.heap.size) →
      K (a.put o.dst (.slice A' (n + m) c')) w') : if Region.wanted o (yielded ops a.tmps) = true then Oper.wp Tryz.prog o a w K Q else F := by
  have hw : Region.wanted o (yielded ops a.tmps) = true := by simp [Region.wanted, hgd]
  rw [if_pos hw]
  exact wp_appV ht s x ho hs hx hown hr h1 hb hbytes hB h
/-- the cell of a literal of one value -/
def Cl (W : World) (H : Nat) (v : Value) : Prop := H < W.heap.size ∧ W.cell? ⟨H, 0, none⟩ = some v
theorem cl_new (W : World) (v : Value) (T : TypeId) : Cl (W.alloc (.cells #[v] T)) W.heap.size v := ⟨by simp, by simp⟩
theorem cl_below {W u : World} {H : Nat} {v : Value} (h : Cl W H v) (hb : Below W.heap.size W u) : Cl u H v := ⟨Nat.lt_of_lt_of_le h.1 hb.size, (hb.cell (p := ⟨H, 0, none⟩) h.1).trans h.2⟩
theorem cl_dr {W : World} {H : Nat} {v : Value} (h : Cl W H v) : Cl W.drew H v := h
theorem cl_al {W : World} {H : Nat} {v : Value} (h : Cl W H v) (o : Obj) : Cl (W.alloc o) H v := cl_below h ((Below.refl _ _).alloc (Nat.le_refl _) _)
theorem cl_new2 (W : World) (o : Obj) (v : Value) (T : TypeId) : Cl ((W.alloc o).alloc (.cells #[v] T)) (W.heap.size + 1) v := by
  have := cl_new (W.alloc o) v T
  simpa using this
theorem cl_grown {W w' : World} {H : Nat} {v : Value} {row : Option Nat} (hg : W.grownBy w' row) (h : Cl W H v) (hne : row ≠ some H) : Cl w' H v := by
  refine ⟨Nat.lt_of_lt_of_le h.1 hg.size, ?_⟩
  have := hg.block H h.1 (fun e => hne e.symm)
  rw [← h.2]
  simp only [World.cell?, this]
theorem rdv_cl {W : World} {H : Nat} {v : Value} (h : Cl W H v) : RdV W (H + 1) (some ⟨H, 0, none⟩) 1 1 [v] :=
  ⟨rfl, Nat.le_refl _, fun j hj => ⟨_, rfl, Nat.lt_succ_self _, by
    have : j = 0 := by simpa using hj
    subst this
    simpa [Addr.add] using h.2⟩⟩
theorem below_al {B : Nat} {wz W : World} (h : Below B wz W) (hB : B ≤ wz.heap.size) (o : Obj) : Below B wz (W.alloc o) := h.alloc (Nat.le_trans hB h.size) o
theorem below_dr {B : Nat} {wz W : World} (h : Below B wz W) : Below B wz W.drew := below_drewN h 1
theorem grown_of_bw {wr W : World} (h : Below wr.heap.size wr W) (r : Option Nat) : wr.grownBy W r := ⟨h.os, h.tape, h.output, h.size, fun j hj _ => h.block j hj⟩
theorem cut_at {R : List Nat} {v k x : Nat} (h : R[k]? = some x) : ((R.take k).map (cutB v) ++ R.drop k)[k]? = some x := by
  have hk := (List.getElem?_eq_some_iff.1 h).1
  have hl : ((R.take k).map (cutB v)).length = k := by rw [List.length_map, List.length_take]; omega
  rw [List.getElem?_append_right (by omega), hl, Nat.sub_self, List.getElem?_drop, Nat.add_zero, h]
theorem cut_set {R : List Nat} {v k x : Nat} (h : R[k]? = some x) : ((R.take k).map (cutB v) ++ R.drop k).set k (cutB v x) = (R.take (k + 1)).map (cutB v) ++ R.drop (k + 1) := by
  obtain ⟨hk, he⟩ := List.getElem?_eq_some_iff.1 h
  have hl : ((R.take k).map (cutB v)).length = k := by rw [List.length_map, List.length_take]; omega
  rw [List.set_append_right _ _ (by omega), hl, Nat.sub_self, List.drop_eq_getElem_cons hk, he, List.set_cons_zero, List.take_add_one, h, List.map_append]
  simp
theorem cut_keep {R : List Nat} {v k x : Nat} (h : R[k]? = some x) (hx : cutB v x = x) : (R.take k).map (cutB v) ++ R.drop k = (R.take (k + 1)).map (cutB v) ++ R.drop (k + 1) := by
  have := cut_set (v := v) h
  rw [hx] at this
  rw [← this]
  have hc := cut_at (v := v) h
  apply List.ext_getElem?
  intro j
  by_cases hj : j = k
  · subst hj
    rw [hc, List.getElem?_set_self (List.getElem?_eq_some_iff.1 hc).1]
  · rw [List.getElem?_set_ne (fun e => hj e.symm)]
/-- a span whose blocks are among G -/
structure SpG (w : World) (E : Nat) (G : Nat → Prop) (R : List Nat) : Prop where
  at_ : ∃ A n c A2 c2, Spn w E A n c A2 c2 R ∧ (∀ ad : Addr, A = some ad → G ad.block) ∧ (∀ ad : Addr, A2 = some ad → G ad.block)
  e : G E
  lt : ∀ j, G j → j < w.heap.size ∧ E ≤ j
/-- the blocks of a span behind a call -/
def Gw (G : Nat → Prop) (w w' : World) (j : Nat) : Prop := G j ∨ w.heap.size ≤ j ∧ j < w'.heap.size
def RetAd (E : Nat) (G : Nat → Prop) (R : List Nat) (b : Bool) (w : World) (e : Ending) (w' : World) : Prop := e = .returned (.tuple #[.int .i64 0, .bool b]) ∧ SpG w' E (Gw G w w') R ∧ FrG G w w'
/-- behind the first append -/
structure SpN (wr W : World) (E : Nat) (A A2 A' : Option Addr) (n c c2 c' : Nat) (vs us : List Value) : Prop where
  cs : Cells [(E, 0, .slice A n c), (E, 1, .slice A2 n c2)] W
  o1 : OwnV W (E + 1) 2 A' (n + 1) c' (vs)
  o2 : OwnV W (E + 1) 2 A2 n c2 us
  own : Value.ownBlock (.slice A' (n + 1) c') = Value.ownBlock (.slice A n c) ∨ ∀ b, Value.ownBlock (.slice A' (n + 1) c') = some b → wr.heap.size ≤ b
  gr : wr.grownBy W (Value.ownBlock (.slice A n c))
theorem SpN.mk' {wr W0 W : World} {E n c c2 c' : Nat} {A A2 A' : Option Addr} {R : List Nat} {vs : List Value} (hr : Spn wr E A n c A2 c2 R) (h0 : Below wr.heap.size wr W0) (h1 : OwnV W (E + 1) 2 A' (n + 1) c' vs) (hg : W0.grownBy W (Value.ownBlock (.slice A n c)))
    (ho : Value.ownBlock (.slice A' (n + 1) c') = Value.ownBlock (.slice A n c) ∨ Value.ownBlock (.slice A' (n + 1) c') = some W0.heap.size) : SpN wr W E A A2 A' n c c2 c' vs ((List.replicate n (0 : Int)).map (.int .i64)) := by
  have hG := grownBy_trans (grown_of_bw h0 (Value.ownBlock (.slice A n c))) hg
  refine ⟨hr.cs.grown hG ?_, h1, hr.o2.v.grown hG ?_, ?_, hG⟩
  · intro x hx e
    have := hr.o1.row x.1 e.symm
    simp only [List.mem_cons, List.not_mem_nil, or_false] at hx
    rcases hx with rfl | rfl <;> · dsimp only at this; omega
  · intro ad e e'
    cases A with
    | none => cases e'
    | some a1 =>
      have e' : some ad.block = some a1.block := e'
      injection e' with e'
      exact hr.ne a1 ad rfl e e'.symm
  · rcases ho with h | h
    · exact .inl h
    · exact .inr fun b hb => by rw [h] at hb; injection hb with hb; have := h0.size; omega
theorem SpN.below {wr W W' : World} {E n c c2 c' : Nat} {A A2 A' : Option Addr} {vs us : List Value} (h : SpN wr W E A A2 A' n c c2 c' vs us) (hb : Below W.heap.size W W') : SpN wr W' E A A2 A' n c c2 c' vs us :=
  ⟨h.cs.below hb, h.o1.below hb, h.o2.below hb, h.own, grownBy_trans h.gr (grown_of_bw hb _)⟩
/-- behind both appends, ahead of the two stores -/
structure SpM (wr W : World) (E : Nat) (A A2 A' A2' : Option Addr) (n c c2 c' c2' : Nat) (vs us : List Value) : Prop where
  cs : Cells [(E, 0, .slice A n c), (E, 1, .slice A2 n c2)] W
  o1 : OwnV W (E + 1) 2 A' (n + 1) c' vs
  o2 : OwnV W (E + 1) 2 A2' (n + 1) c2' us
  ne : ∀ ad ad2, A' = some ad → A2' = some ad2 → ad.block ≠ ad2.block
  h1 : ∀ ad, A' = some ad → (Value.ownBlock (.slice A n c) = some ad.block ∨ wr.heap.size ≤ ad.block) ∧ ad.block < W.heap.size
  h2 : ∀ ad, A2' = some ad → (Value.ownBlock (.slice A2 n c2) = some ad.block ∨ wr.heap.size ≤ ad.block) ∧ ad.block < W.heap.size
  fr : FrG (fun j => Value.ownBlock (.slice A n c) = some j ∨ Value.ownBlock (.slice A2 n c2) = some j) wr W
theorem SpM.mk' {wr W1 W : World} {E n c c2 c' c2' : Nat} {A A2 A' A2' : Option Addr} {R : List Nat} {vs us us' : List Value} (h : SpN wr W1 E A A2 A' n c c2 c' vs us) (hr : Spn wr E A n c A2 c2 R)
    (h2 : OwnV W (E + 1) 2 A2' (n + 1) c2' us') (hgr : W1.grownBy W (Value.ownBlock (.slice A2 n c2)))
    (ho : Value.ownBlock (.slice A2' (n + 1) c2') = Value.ownBlock (.slice A2 n c2) ∨ Value.ownBlock (.slice A2' (n + 1) c2') = some W1.heap.size) : SpM wr W E A A2 A' A2' n c c2 c' c2' vs us' := by
  have bA2 : ∀ b, Value.ownBlock (.slice A2 n c2) = some b → b < wr.heap.size ∧ E < b := fun b e => by
    have := hr.o2.own.lt b e
    omega
  have bA : ∀ b, Value.ownBlock (.slice A n c) = some b → b < wr.heap.size ∧ E < b := fun b e => by
    have := hr.o1.own.lt b e
    omega
  have b1 : ∀ ad, A' = some ad → (Value.ownBlock (.slice A n c) = some ad.block ∨ wr.heap.size ≤ ad.block) ∧ ad.block < W1.heap.size := fun ad e => by
    subst e
    refine ⟨?_, (h.o1.lt rfl).2⟩
    rcases h.own with h | h
    · exact .inl h.symm
    · exact .inr (h ad.block rfl)
  have b2 : ∀ ad, A2' = some ad → (Value.ownBlock (.slice A2 n c2) = some ad.block ∨ ad.block = W1.heap.size) := fun ad e => by
    subst e
    rcases ho with h | h
    · exact .inl h.symm
    · exact .inr (Option.some.inj h)
  have hws : wr.heap.size ≤ W1.heap.size := h.gr.size
  have hne12 : ∀ b, Value.ownBlock (.slice A n c) = some b → Value.ownBlock (.slice A2 n c2) = some b → False := fun b h4 h5 => by
    cases A with
    | none => cases h4
    | some a1 =>
      cases A2 with
      | none => cases h5
      | some a2 => exact hr.ne a1 a2 rfl rfl ((Option.some.inj h4).trans (Option.some.inj h5).symm)
  refine ⟨h.cs.grown hgr ?_, h.o1.grown hgr ?_, h2, ?_, ?_, ?_, ?_⟩
  · intro x hx e
    have := (bA2 x.1 e.symm).2
    simp only [List.mem_cons, List.not_mem_nil, or_false] at hx
    rcases hx with rfl | rfl <;> · dsimp only at this; omega
  · intro ad e e'
    have h3 := bA2 ad.block e'.symm
    rcases (b1 ad e).1 with h4 | h4
    · exact hne12 _ h4 e'.symm
    · omega
  · intro ad ad2 e e2 he
    rcases b2 ad2 e2 with h4 | h4
    · have h3 := bA2 ad2.block h4
      rcases (b1 ad e).1 with h5 | h5
      · exact hne12 _ h5 (by rw [he]; exact h4)
      · omega
    · have := (b1 ad e).2
      omega
  · intro ad e
    exact ⟨(b1 ad e).1, Nat.lt_of_lt_of_le (b1 ad e).2 hgr.size⟩
  · intro ad e
    refine ⟨?_, (h2.lt e).2⟩
    rcases b2 ad e with h5 | h5
    · exact .inl h5
    · exact .inr (by omega)
  · refine ⟨hgr.os.trans h.gr.os, hgr.tape.trans h.gr.tape, hgr.output.trans h.gr.output, Nat.le_trans hws hgr.size, fun i hi hn => ?_⟩
    rw [hgr.block i (by omega) (fun e => hn (.inr e.symm)), h.gr.block i hi (fun e => hn (.inl e.symm))]
theorem SpM.two {w wr W : World} {E n c c2 c' c2' v : Nat} {A A2 A' A2' : Option Addr} {R : List Nat} {vs us : List Value} {G : Nat → Prop} (h : SpM wr W E A A2 A' A2' n c c2 c' c2' vs us) (hv : vs = (R ++ [v]).map fun (r : Nat) => Value.int .i64 (r : Int)) (hu : us = (List.replicate (n + 1) (0 : Int)).map (.int .i64))
    (hr : Spn wr E A n c A2 c2 R) (hE : E < wr.heap.size) (hG1 : ∀ ad : Addr, A = some ad → G ad.block) (hG2 : ∀ ad : Addr, A2 = some ad → G ad.block) (hGE : G E) (hl : ∀ j, G j → j < w.heap.size ∧ E ≤ j) (hfr : FrG G w wr) :
    RetAd E G (R ++ [v]) true w (.returned (.tuple #[.int .i64 0, .bool true])) ((W.setCell ⟨E, 0, none⟩ (.slice A' (n + 1) c')).setCell ⟨E, 1, none⟩ (.slice A2' (n + 1) c2')) ∧
    RetAd E G (R ++ [v]) true w (.returned (.tuple #[.int .i64 0, .bool true])) ((W.setCell ⟨E, 1, none⟩ (.slice A2' (n + 1) c2')).setCell ⟨E, 0, none⟩ (.slice A' (n + 1) c')) := by
  have hwW := h.fr.size
  have hww := hfr.size
  have gA : ∀ j, Value.ownBlock (.slice A n c) = some j → G j := fun j e => by
    cases A with
    | none => cases e
    | some ad => obtain rfl : ad.block = j := Option.some.inj e; exact hG1 ad rfl
  have gA2 : ∀ j, Value.ownBlock (.slice A2 n c2) = some j → G j := fun j e => by
    cases A2 with
    | none => cases e
    | some ad => obtain rfl : ad.block = j := Option.some.inj e; exact hG2 ad rfl
  have F1 : FrG G w W := hfr.trans ⟨h.fr.os, h.fr.tape, h.fr.output, h.fr.size, fun j hj hg => h.fr.block j hj fun e => by rcases e with e | e; exact hg (gA j e); exact hg (gA2 j e)⟩
  have key : ∀ X : World, X.heap.size = W.heap.size → (∀ i, i ≠ E → X.heap[i]? = W.heap[i]?) → FrG G W X → Cells [(E, 0, .slice A' (n + 1) c'), (E, 1, .slice A2' (n + 1) c2')] X → RetAd E G (R ++ [v]) true w (.returned (.tuple #[.int .i64 0, .bool true])) X := by
    intro X hsz hbo hX hcs
    have hsame : ∀ {m d : Nat} {A0 : Option Addr} {zs : List Value}, OwnV W (E + 1) 2 A0 m d zs → OwnV X (E + 1) 2 A0 m d zs := fun h0 => ⟨h0.len, ownsRow_same h0.own fun b e => hbo _ (by have := (h0.own.lt b e).1; omega)⟩
    have q1 := hsame h.o1
    have q2 := hsame h.o2
    rw [hv] at q1
    rw [hu] at q2
    refine ⟨rfl, ⟨⟨A', n + 1, c', A2', c2', ⟨hcs, OwnV.s (by rw [List.map_map]; exact q1), q2.s, h.ne⟩, ?_, ?_⟩, .inl hGE, ?_⟩, F1.trans hX⟩
    · intro ad e
      rcases h.h1 ad e with ⟨h3 | h3, h4⟩
      · exact .inl (gA _ h3)
      · exact .inr ⟨by omega, by omega⟩
    · intro ad e
      rcases h.h2 ad e with ⟨h3 | h3, h4⟩
      · exact .inl (gA2 _ h3)
      · exact .inr ⟨by omega, by omega⟩
    · intro j hj
      rcases hj with hj | ⟨h3, h4⟩
      · have := hl j hj
        exact ⟨by omega, this.2⟩
      · exact ⟨h4, by have := (hl E hGE).1; omega⟩
  have s0 : ∀ (W : World) (p : Addr) (v : Value), (W.setCell p v).heap.size = W.heap.size := fun W p v => by simp [World.setCell]
  refine ⟨key _ ((s0 _ _ _).trans (s0 _ _ _)) (fun i hi => by rw [Below.heap_setCell _ _ _ _ (by exact hi), Below.heap_setCell _ _ _ _ (by exact hi)]) ((FrG.setCell W ⟨E, 0, none⟩ _ hGE).trans (FrG.setCell _ ⟨E, 1, none⟩ _ hGE)) ?_,
    key _ ((s0 _ _ _).trans (s0 _ _ _)) (fun i hi => by rw [Below.heap_setCell _ _ _ _ (by exact hi), Below.heap_setCell _ _ _ _ (by exact hi)]) ((FrG.setCell W ⟨E, 1, none⟩ _ hGE).trans (FrG.setCell _ ⟨E, 0, none⟩ _ hGE)) ?_⟩
  · refine Cells.sub (Cells.set (U := .slice A2 n c2) (L := [(E, 0, .slice A' (n + 1) c')]) (Cells.sub (Cells.set (U := .slice A n c) (L := [(E, 1, .slice A2 n c2)]) h.cs (by simp) (.slice A' (n + 1) c')) ?_) (by simp) _) ?_
    · intro x hx
      simp only [List.mem_cons, List.not_mem_nil, or_false] at hx ⊢
      rcases hx with rfl | rfl <;> simp
    · intro x hx
      simp only [List.mem_cons, List.not_mem_nil, or_false] at hx ⊢
      rcases hx with rfl | rfl <;> simp
  · refine Cells.sub (Cells.set (U := .slice A n c) (L := [(E, 1, .slice A2' (n + 1) c2')]) (Cells.sub (Cells.set (U := .slice A2 n c2) (L := [(E, 0, .slice A n c)]) (h.cs.sub ?_) (by simp) (.slice A2' (n + 1) c2')) ?_) (by simp) (.slice A' (n + 1) c')) ?_
    · intro x hx
      simp only [List.mem_cons, List.not_mem_nil, or_false] at hx ⊢
      rcases hx with rfl | rfl <;> simp
    · intro x hx
      simp only [List.mem_cons, List.not_mem_nil, or_false] at hx ⊢
      rcases hx with rfl | rfl <;> simp
    · intro x hx
      simp only [List.mem_cons, List.not_mem_nil, or_false] at hx ⊢
      rcases hx with rfl | rfl <;> simp
end Go.Proofs.YtejojliljplcdaaGreatDoor
