/- Plain: what the law of polynomials says: products turned, Cartan, squares with the degree, substitutions. -/
import Derived.Test.YtoodhbafleemjaaGreatSbi
import Derived.Test.YtoodhbafleemjaaGreatLuc
import Derived.Test.YtoodhbafleemjaaGreatSquO
import Derived.Test.YtoodhbafleemjaaGreatTot
namespace Go.Proofs.YtoodhbafleemjaaGreat
open Go.RowKit
set_option linter.unusedVariables false

/-! ### what is made by substituted is a substitution -/
theorem plusW_zeros : ∀ x : List Int, plusW x (List.replicate x.length 0) = x
  | [] => rfl
  | a :: x => by
    rw [List.length_cons, List.replicate_succ, plusW_cons, plusW_zeros x]
    simp
theorem prods_unitR {k : Nat} {P : Pol} (h : ∀ x ∈ P, x.length = k) : prodsP P [List.replicate k 0] = P := by
  unfold prodsP
  induction P with
  | nil => rfl
  | cons x P ih =>
    rw [List.flatMap_cons, ih fun y hy => h y (List.mem_cons_of_mem _ hy)]
    have e := h x (by simp)
    subst e
    rw [List.map_cons, List.map_nil, plusW_zeros]
    rfl
theorem prods_unitL {k : Nat} {P : Pol} (h : ∀ x ∈ P, x.length = k) : prodsP [List.replicate k 0] P = P := by
  unfold prodsP
  rw [List.flatMap_cons, List.flatMap_nil, List.append_nil]
  conv => rhs; rw [← List.map_id P]
  apply List.map_congr_left
  intro x hx
  have e := h x hx
  subst e
  rw [plusW_comm, plusW_zeros]
  rfl
theorem hom_lens {k : Nat} {d : Int} {P : Pol} (h : Hom k d P) : ∀ x ∈ P, x.length = k := fun x hx => (h x hx).2.2
theorem ipw_add {k : Nat} {l : Pol} (h : LinF k l) (a : Nat) : ∀ b : Nat, ipw k l (a + b) = prodsP (ipw k l a) (ipw k l b)
  | 0 => (prods_unitR (hom_lens (ipw_hom h a))).symm
  | b + 1 => by
    show prodsP (ipw k l (a + b)) l = prodsP (ipw k l a) (prodsP (ipw k l b) l)
    rw [ipw_add h a b, prodsP_assoc]
theorem subW_snoc {k : Nat} (l : Pol) (n : Int) (hl : LinF k l) : ∀ (ls : List Pol) (t : List Int), ls.length = t.length → subW k (ls ++ [l]) (t ++ [n]) = prodsP (subW k ls t) (ipw k l n.toNat)
  | [], [], _ => by
    show prodsP (ipw k l n.toNat) [List.replicate k 0] = prodsP [List.replicate k 0] (ipw k l n.toNat)
    have h := hom_lens (ipw_hom hl n.toNat)
    rw [prods_unitR h, prods_unitL h]
  | m :: ls, a :: t, h => by
    show prodsP (ipw k m a.toNat) (subW k (ls ++ [l]) (t ++ [n])) = prodsP (prodsP (ipw k m a.toNat) (subW k ls t)) (ipw k l n.toNat)
    rw [subW_snoc l n hl ls t (by simpa using h), prodsP_assoc]
theorem mulP_dbl (c : Int) (P : Pol) : (mulP c P).map (fun x => plusW x x) = mulP (c * 2) P := by
  unfold mulP
  rw [List.map_map]
  have key : ∀ x : List Int, plusW (x.map (· * c)) (x.map (· * c)) = x.map (· * (c * 2)) := fun x => by
    induction x with
    | nil => rfl
    | cons a x ih =>
      rw [List.map_cons, List.map_cons, plusW_cons, ih]
      congr 1
      rw [← Int.mul_assoc]; omega
  apply List.map_congr_left
  intro x _
  exact key x
theorem mulP_id (P : Pol) : mulP 1 P = P := by
  unfold mulP
  conv => rhs; rw [← List.map_id P]
  apply List.map_congr_left
  intro x _
  unfold mulW
  show x.map (· * 1) = x
  conv => rhs; rw [← List.map_id x]
  apply List.map_congr_left
  intro a _
  show a * 1 = a
  omega
theorem frob {k : Nat} {l : Pol} (h : LinF k l) : ∀ t : Nat, SameSum (ipw k l (2 ^ t)) (mulP ((2 ^ t : Nat) : Int) l)
  | 0 => by
    rw [Nat.pow_zero]
    show SameSum (prodsP [List.replicate k 0] l) _
    rw [prods_unitL (hom_lens h.deg)]
    have e : (((1 : Nat)) : Int) = 1 := rfl
    rw [e, mulP_id]
    exact SameSum.refl _
  | t + 1 => by
    have e : 2 ^ (t + 1) = 2 ^ t + 2 ^ t := by rw [Nat.pow_succ]; omega
    have e2 : ((2 ^ (t + 1) : Nat) : Int) = ((2 ^ t : Nat) : Int) * 2 := by rw [Nat.pow_succ]; push_cast; rfl
    rw [e2, ← mulP_dbl, e, ipw_add h]
    exact (prodsP_congr (frob h t) (frob h t)).trans (square_self _)
theorem mod_bit (n t : Nat) : n % 2 ^ (t + 1) = n % 2 ^ t + (if n.testBit t = true then 2 ^ t else 0) := by
  rw [Nat.pow_succ, Nat.mod_mul, Nat.testBit_eq_decide_div_mod_eq]
  congr 1
  rcases Nat.mod_two_eq_zero_or_one (n / 2 ^ t) with e | e <;> simp [e]
theorem pwT_ipw {k : Nat} {l : Pol} (h : LinF k l) (n : Nat) : ∀ t : Nat, SameSum (pwT k l n t) (ipw k l (n % 2 ^ t))
  | 0 => by
    rw [Nat.pow_zero, Nat.mod_one]
    exact SameSum.refl _
  | t + 1 => by
    have ih := pwT_ipw h n t
    rw [pwT, mod_bit]
    split
    · rw [ipw_add h]
      exact prodsP_congr ih (frob h t).symm
    · exact ih
theorem pwB_ipw {k : Nat} {l : Pol} (h : LinF k l) {n : Nat} (hn : n < 64) : SameSum (pwB k l n) (ipw k l n) := by
  have h1 := pwT_ipw h n 6
  rw [show n % 2 ^ 6 = n from Nat.mod_eq_of_lt (by have e : (2 : Nat) ^ 6 = 64 := by decide
                                                   omega)] at h1
  exact h1
theorem tot_cons_zero (t : List Int) : tot (0 :: t) = (tot t).map (0 :: ·) := by
  rw [tot]
  show consP (pwI 0) (tot t) = _
  rw [pwI_zero]
  unfold consP
  simp
theorem tot_unit (r : Nat) : ∀ j : Nat, tot (List.replicate j 0 ++ 1 :: List.replicate r 0) = [List.replicate j 0 ++ 1 :: List.replicate r 0, List.replicate j 0 ++ 2 :: List.replicate r 0]
  | 0 => by
    rw [List.replicate_zero, List.nil_append, List.nil_append, tot, tot_zero]
    have e : pwI (Int.toNat 1) = [1, 2] := by decide
    rw [e]
    rfl
  | j + 1 => by
    rw [List.replicate_succ, List.cons_append, List.cons_append, tot_cons_zero, tot_unit r j]
    rfl
theorem unit_dbl (r : Nat) : ∀ j : Nat, plusW (List.replicate j 0 ++ 1 :: List.replicate r 0) (List.replicate j 0 ++ 1 :: List.replicate r 0) = List.replicate j 0 ++ (2 : Int) :: List.replicate r 0
  | 0 => by
    rw [List.replicate_zero, List.nil_append, List.nil_append, plusW_cons]
    have h := plusW_zeros (List.replicate r 0)
    rw [List.length_replicate] at h
    rw [h]
    rfl
  | j + 1 => by
    rw [List.replicate_succ, List.cons_append, List.cons_append, plusW_cons, unit_dbl r j]
    rfl
theorem formP_lin {k m : Nat} (h : m < 2 ^ k) : LinF k (formP k m) :=
  ⟨formP_hom h, fun x hx => by
    obtain ⟨i, hi, rfl, hb⟩ := formT_mem hx
    unfold unitW
    rw [tot_unit, unit_dbl]⟩
def lins (k : Nat) (fs : List Int) : List Pol := fs.map fun m => formP k m.toNat
theorem partF_sub {k : Nat} {fs x : List Int} (h : SubK k fs x) : ∀ i : Nat, i ≤ k → SameSum (partF k fs x i) (subW k ((lins k fs).take i) (x.take i))
  | 0, _ => by
    rw [List.take_zero, List.take_zero]
    exact SameSum.refl _
  | i + 1, hi => by
    have ih := partF_sub h i (by omega)
    obtain ⟨a, ea⟩ : ∃ a, x[i]? = some a := ⟨_, List.getElem?_eq_getElem (show i < x.length by rw [h.xl]; omega)⟩
    obtain ⟨m, em⟩ : ∃ m, fs[i]? = some m := ⟨_, List.getElem?_eq_getElem (show i < fs.length by rw [h.fl]; omega)⟩
    have hm : m.toNat < 2 ^ k := (h.fr m (List.mem_of_getElem? em)).2
    have hl : LinF k (formP k m.toNat) := formP_lin hm
    have ha : a.toNat < 64 := by have := h.exp i; rw [ea] at this; simp only [Option.getD_some] at this; omega
    have el : (lins k fs).take (i + 1) = (lins k fs).take i ++ [formP k m.toNat] := by
      rw [List.take_add_one]
      unfold lins
      rw [List.getElem?_map, em]
      rfl
    have ex : x.take (i + 1) = x.take i ++ [a] := by rw [List.take_add_one, ea]; rfl
    rw [el, ex, subW_snoc _ _ hl _ _ (by
      unfold lins
      rw [List.length_take, List.length_take, List.length_map, h.fl, h.xl]), partF, em, ea]
    simp only [Option.getD_some]
    exact (oddL_same _).trans (prodsP_congr ih (pwB_ipw hl ha))
theorem outF_sub {k : Nat} {fs : List Int} {f : Pol} (h : ∀ x ∈ f, SubK k fs x) : SameSum (outF k fs f) (subP k (lins k fs) f) := by
  unfold outF subP
  refine ss_each fun x hx => ?_
  have h1 := partF_sub (h x hx) k (Nat.le_refl _)
  rw [List.take_of_length_le (by unfold lins; rw [List.length_map, (h x hx).fl]; exact Nat.le_refl _), List.take_of_length_le (by rw [(h x hx).xl]; exact Nat.le_refl _)] at h1
  exact h1
theorem lins_lin {k : Nat} {fs : List Int} (h : ∀ m ∈ fs, m.toNat < 2 ^ k) : ∀ l ∈ lins k fs, LinF k l := fun l hl => by
  obtain ⟨m, hm, rfl⟩ := List.mem_map.1 hl
  exact formP_lin (h m hm)

/-! ### answers with the code 0 -/
theorem told_zero {v : Int} {s : Pol} (h : (toldV v s).2.2 = 0) : s.length ≤ 2000 ∧ toldV v s = (v, s, 0) := by
  by_cases h2 : 2000 < s.length
  · rw [toldV_no h2] at h; exact absurd h (by decide)
  · exact ⟨by omega, toldV_yes h2⟩
theorem mlp_zero {v u : Int} {f g : Pol} (h : (mlpO v f u g).2.2 = 0) : polB v f = true ∧ polB u g = true ∧ v = u ∧ (f.length = 0 ∨ g.length = 0 ∨ ¬ 40 < degL f + degL g) ∧ (oddL (prodsP f g)).length ≤ 2000 ∧ mlpO v f u g = (v, oddL (prodsP f g), 0) := by
  by_cases h1 : polB v f = true
  · by_cases h2 : polB u g = true
    · by_cases h3 : v = u
      · by_cases h4 : 0 < f.length ∧ 0 < g.length ∧ 40 < degL f + degL g
        · rw [mlpO_lim h1 h2 h3 h4.1 h4.2.1 h4.2.2] at h; exact absurd h (by decide)
        · have h5 : f.length = 0 ∨ g.length = 0 ∨ ¬ 40 < degL f + degL g := by omega
          have e := mlpO_ok h1 h2 h3 h5
          rw [e] at h ⊢
          obtain ⟨a, b⟩ := told_zero h
          exact ⟨h1, h2, h3, h5, a, b⟩
      · rw [mlpO_range h1 h2 h3] at h; exact absurd h (by decide)
    · rw [mlpO_bad2 (by simpa using h2)] at h; exact absurd h (by decide)
  · rw [mlpO_bad1 (by simpa using h1)] at h; exact absurd h (by decide)
theorem squ_zero {v i : Int} {f : Pol} (h : (squO v f i).2.2 = 0) : polB v f = true ∧ inB i 0 40 = true ∧ (f.length = 0 ∨ degL f + i ≤ 40) ∧ (oddL (sqP f i)).length ≤ 2000 ∧ squO v f i = (v, oddL (sqP f i), 0) := by
  by_cases h1 : polB v f = true
  · by_cases h2 : inB i 0 40 = true
    · by_cases h4 : 0 < f.length ∧ 40 < degL f + i
      · rw [squO_lim h1 h2 h4.1 h4.2] at h; exact absurd h (by decide)
      · have h5 : f.length = 0 ∨ degL f + i ≤ 40 := by omega
        have e := squO_ok h1 h2 h5
        rw [e] at h ⊢
        obtain ⟨a, b⟩ := told_zero h
        exact ⟨h1, h2, h5, a, b⟩
    · rw [squO_range h1 (by simpa using h2)] at h; exact absurd h (by decide)
  · rw [squO_bad (by simpa using h1)] at h; exact absurd h (by decide)
theorem adp_zero {v u : Int} {f g : Pol} (h : (adpO v f u g).2.2 = 0) : polB v f = true ∧ polB u g = true ∧ v = u ∧ (oddL (f ++ g)).length ≤ 2000 ∧ adpO v f u g = (v, oddL (f ++ g), 0) := by
  by_cases h1 : polB v f = true
  · by_cases h2 : polB u g = true
    · by_cases h3 : v ≠ u ∨ 0 < f.length ∧ 0 < g.length ∧ degL f ≠ degL g
      · rw [adpO_range h1 h2 h3] at h; exact absurd h (by decide)
      · have h5 : v = u := by
          apply Classical.byContradiction
          intro e
          exact h3 (.inl e)
        have h6 : f.length = 0 ∨ g.length = 0 ∨ degL f = degL g := by
          by_cases a : f.length = 0
          · exact .inl a
          · by_cases b : g.length = 0
            · exact .inr (.inl b)
            · refine .inr (.inr (Classical.byContradiction fun e => h3 (.inr ⟨by omega, by omega, e⟩)))
        have e := adpO_ok h1 h2 h5 h6
        rw [e] at h ⊢
        obtain ⟨a, b⟩ := told_zero h
        exact ⟨h1, h2, h5, a, b⟩
    · rw [adpO_bad2 (by simpa using h2)] at h; exact absurd h (by decide)
  · rw [adpO_bad1 (by simpa using h1)] at h; exact absurd h (by decide)
theorem sub_zero {v : Int} {f : Pol} {fs : List Int} (h : (subO v f fs).2.2 = 0) : polB v f = true ∧ (fs.length : Int) = v ∧ frmB v fs = true ∧ (oddL (outF v.toNat fs f)).length ≤ 2000 ∧ subO v f fs = (v, oddL (outF v.toNat fs f), 0) := by
  by_cases h1 : polB v f = true
  · by_cases h2 : (fs.length : Int) = v ∧ frmB v fs = true
    · have e := subO_ok h1 h2.1 h2.2
      rw [e] at h ⊢
      obtain ⟨a, b⟩ := told_zero h
      exact ⟨h1, h2.1, h2.2, a, b⟩
    · rw [subO_range h1 h2] at h; exact absurd h (by decide)
  · rw [subO_bad (by simpa using h1)] at h; exact absurd h (by decide)
theorem polF_hom {v : Int} {k : Nat} {f : Pol} (h : polB v f = true) (hk : v = k) : Hom k (degL f) f := (polF_of h).degs hk

/-! ### the law's parts -/
/-- products are commutative -/
theorem mlp_turn {v u : Int} {f g : Pol} (h : (mlpO v f u g).2.2 = 0) : mlpO u g v f = mlpO v f u g := by
  obtain ⟨h1, h2, h3, h4, h5, h6⟩ := mlp_zero h
  subst h3
  rw [mlpO_ok h1 h2 rfl h4, mlpO_ok h2 h1 rfl (by omega), oddL_congr (prodsP_comm g f)]
/-- Cartan's sum, up to a place -/
def carS (f g : Pol) (i : Int) (j : Nat) : Pol := (List.range j).flatMap fun (n : Nat) => prodsP (sqP f n) (sqP g (i - n))
theorem carS_zero (f g : Pol) (i : Int) : oddL (carS f g i 0) = [] := rfl
theorem car_step (f g : Pol) (i : Int) (j : Nat) : oddL (oddL (carS f g i j) ++ oddL (prodsP (oddL (sqP f j)) (oddL (sqP g (i - j))))) = oddL (carS f g i (j + 1)) := by
  unfold carS
  rw [flat_succL]
  exact oddL_congr ((oddL_same _).append ((oddL_same _).trans (prodsP_congr (oddL_same _) (oddL_same _))))
/-- Cartan's rule -/
theorem car_end {v : Int} {f g : Pol} (h1 : polB v f = true) (h2 : polB v g = true) (i : Nat) : oddL (carS f g i (i + 1)) = oddL (sqP (oddL (prodsP f g)) i) := by
  obtain ⟨k, hk⟩ : ∃ k : Nat, v = k := ⟨v.toNat, by have := (polF_of h1).lo; omega⟩
  have h3 := cartan (polF_hom h1 hk) (polF_hom h2 hk) i
  refine oddL_congr ?_
  exact h3.symm.trans (ss_flat (fun x => sqW x i) (oddL_same (prodsP f g))).symm
/-- a step of Cartan's sum, by the answers -/
theorem car_next {v : Int} {f g : Pol} {i : Int} {j : Nat} (h5 : (squO v f j).2.2 = 0) (h6 : (squO v g (i - j)).2.2 = 0)
    (h7 : (mlpO (squO v f j).1 (squO v f j).2.1 (squO v g (i - j)).1 (squO v g (i - j)).2.1).2.2 = 0)
    (h8 : (adpO v (oddL (carS f g i j)) (mlpO (squO v f j).1 (squO v f j).2.1 (squO v g (i - j)).1 (squO v g (i - j)).2.1).1 (mlpO (squO v f j).1 (squO v f j).2.1 (squO v g (i - j)).1 (squO v g (i - j)).2.1).2.1).2.2 = 0) :
    adpO v (oddL (carS f g i j)) (mlpO (squO v f j).1 (squO v f j).2.1 (squO v g (i - j)).1 (squO v g (i - j)).2.1).1 (mlpO (squO v f j).1 (squO v f j).2.1 (squO v g (i - j)).1 (squO v g (i - j)).2.1).2.1 = (v, oddL (carS f g i (j + 1)), 0) := by
  obtain ⟨_, _, _, _, e5⟩ := squ_zero h5
  obtain ⟨_, _, _, _, e6⟩ := squ_zero h6
  obtain ⟨_, _, _, _, _, e7⟩ := mlp_zero h7
  obtain ⟨_, _, _, _, e8⟩ := adp_zero h8
  rw [e8, e7, e5, e6]
  show (v, oddL (oddL (carS f g i j) ++ oddL (prodsP (oddL (sqP f j)) (oddL (sqP g (i - j))))), (0 : Int)) = _
  rw [car_step]
/-- squares above the degree -/
theorem squ_above {v n : Int} {h : Pol} (h1 : (squO v h n).2.2 = 0) (h2 : degL h < n) : (squO v h n).2.1 = [] := by
  obtain ⟨a, _, _, _, e⟩ := squ_zero h1
  obtain ⟨k, hk⟩ : ∃ k : Nat, v = k := ⟨v.toNat, by have := (polF_of a).lo; omega⟩
  rw [e, sqP_above (polF_hom a hk) h2]
  rfl
/-- the square with the degree -/
theorem squ_own {v n : Int} {h : Pol} (h1 : (squO v h n).2.2 = 0) (h2 : 0 < h.length) (h3 : n = degL h) : mlpO v h v h = squO v h n := by
  obtain ⟨a, _, c, d, e⟩ := squ_zero h1
  obtain ⟨k, hk⟩ : ∃ k : Nat, v = k := ⟨v.toNat, by have := (polF_of a).lo; omega⟩
  have e2 : oddL (prodsP h h) = oddL (sqP h n) := by rw [h3]; exact oddL_congr (sq_own (polF_hom a hk))
  rw [mlpO_ok a a rfl (by omega), e2, e]
  exact toldV_yes (by omega)
/-- substitutions go through squares -/
theorem sub_squ {v : Int} {f : Pol} {fs : List Int} {i : Int} (h1 : (subO v f fs).2.2 = 0) (h2 : (squO (subO v f fs).1 (subO v f fs).2.1 i).2.2 = 0) (h3 : (squO v f i).2.2 = 0) (h4 : (subO (squO v f i).1 (squO v f i).2.1 fs).2.2 = 0) :
    squO (subO v f fs).1 (subO v f fs).2.1 i = subO (squO v f i).1 (squO v f i).2.1 fs := by
  obtain ⟨a1, a2, a3, _, a5⟩ := sub_zero h1
  rw [a5] at h2 ⊢
  obtain ⟨_, b2, _, _, b5⟩ := squ_zero h2
  obtain ⟨_, _, _, _, c5⟩ := squ_zero h3
  rw [c5] at h4 ⊢
  obtain ⟨d1, d2, d3, _, d5⟩ := sub_zero h4
  obtain ⟨k, hk⟩ : ∃ k : Nat, v = k := ⟨v.toNat, by have := (polF_of a1).lo; omega⟩
  show squO v (oddL (outF v.toNat fs f)) i = subO v (oddL (sqP f i)) fs
  rw [b5, d5]
  have hS1 : ∀ x ∈ f, SubK k fs x := by
    have h := subK_of (polF_of a1) a2 a3
    rw [hk, Int.toNat_natCast] at h
    exact h
  have hS2 : ∀ x ∈ oddL (sqP f i), SubK k fs x := by
    have h := subK_of (polF_of d1) d2 d3
    rw [hk, Int.toNat_natCast] at h
    exact h
  have hl : ∀ l ∈ lins k fs, LinF k l := lins_lin fun m hm => by
    have := (frm_each a3 m hm).2
    rw [hk, Int.toNat_natCast] at this
    exact this
  have hn : (lins k fs).length = k := by unfold lins; rw [List.length_map]; omega
  have hi := (inB_iff.1 b2).1
  have e : oddL (sqP (oddL (outF v.toNat fs f)) i) = oddL (outF v.toNat fs (oddL (sqP f i))) := by
    rw [hk, Int.toNat_natCast]
    refine oddL_congr ?_
    refine (ss_flat (fun x => sqW x i) ((oddL_same _).trans (outF_sub hS1))).trans ?_
    refine (sub_sq hl hn (polF_hom a1 hk) hi).trans ?_
    refine SameSum.trans ?_ (outF_sub hS2).symm
    exact ss_flat (subW k (lins k fs)) (oddL_same (sqP f i)).symm
  rw [e]
end Go.Proofs.YtoodhbafleemjaaGreat

/- Plain: bounds of the answers of polynomials. -/
namespace Go.Proofs.YtoodhbafleemjaaGreat
open Go.RowKit
set_option linter.unusedVariables false

def PlB (o : Int × Pol × Int) : Prop := o.2.1.length ≤ 2000 ∧ totalL o.2.1 ≤ 8000
theorem PlB.bad (c : Int) : PlB (0, [], c) := ⟨by simp, by simp [totalL]⟩
theorem told_b {v : Int} {s : Pol} {k : Nat} (hk : k ≤ 4) (h : ∀ x ∈ s, x.length = k) : PlB (toldV v s) := by
  by_cases h2 : 2000 < s.length
  · rw [toldV_no h2]; exact PlB.bad 3
  · rw [toldV_yes h2]
    have h3 := totalL_le s 4 fun r hr => by rw [h r hr]; exact hk
    exact ⟨by show s.length ≤ 2000; omega, by show totalL s ≤ 8000; omega⟩
theorem polF_k {v : Int} {f : Pol} (h : polB v f = true) : ∃ k : Nat, v = k ∧ 1 ≤ k ∧ k ≤ 4 ∧ Hom k (degL f) f := by
  have h1 := polF_of h
  have := h1.lo
  have := h1.hi
  exact ⟨v.toNat, by omega, by omega, by omega, polF_hom h (by omega)⟩
theorem mlpO_b (v : Int) (f : Pol) (u : Int) (g : Pol) : PlB (mlpO v f u g) := by
  unfold mlpO
  split
  · rename_i h
    split
    · rename_i e
      subst e
      split
      · exact PlB.bad 3
      · obtain ⟨k, hk, h1, h4, hf⟩ := polF_k h.1
        have hg := polF_hom h.2 hk
        exact told_b h4 (hom_lens (oddL_hom (prodsP_deg hf hg)))
    · exact PlB.bad 2
  · exact PlB.bad 1
theorem squO_b (v : Int) (f : Pol) (i : Int) : PlB (squO v f i) := by
  unfold squO
  split
  · rename_i h
    split
    · rename_i hi
      split
      · exact PlB.bad 3
      · obtain ⟨k, hk, h1, h4, hf⟩ := polF_k h
        refine told_b h4 fun x hx => ?_
        have hx2 := oddL_mem hx
        rw [sqP_tot hf (inB_iff.1 hi).1] at hx2
        exact (tsqP_mem hf x (List.mem_filter.1 hx2).1).1.1
    · exact PlB.bad 2
  · exact PlB.bad 1
theorem adpO_b (v : Int) (f : Pol) (u : Int) (g : Pol) : PlB (adpO v f u g) := by
  unfold adpO
  split
  · rename_i h
    split
    · rename_i e
      obtain ⟨rfl, _⟩ := e
      obtain ⟨k, hk, h1, h4, hf⟩ := polF_k h.1
      have hg := polF_hom h.2 hk
      refine told_b h4 fun x hx => ?_
      rcases List.mem_append.1 (oddL_mem hx) with h | h
      · exact hom_lens hf x h
      · exact hom_lens hg x h
    · exact PlB.bad 2
  · exact PlB.bad 1
theorem subO_b (v : Int) (f : Pol) (fs : List Int) : PlB (subO v f fs) := by
  unfold subO
  split
  · rename_i h
    split
    · rename_i e
      obtain ⟨k, hk, h1, h4, hf⟩ := polF_k h
      refine told_b h4 fun x hx => ?_
      have hS := subK_of (polF_of h) e.1 e.2
      rw [hk, Int.toNat_natCast] at hS
      have hx2 := oddL_mem hx
      rw [hk, Int.toNat_natCast] at hx2
      obtain ⟨y, hy, hz⟩ := List.mem_flatMap.1 hx2
      exact hom_lens (partF_hom (hS y hy) k (Nat.le_refl _)) x hz
    · exact PlB.bad 2
  · exact PlB.bad 1
theorem totP_b {v : Int} {f : Pol} {n : Nat} : ∀ p ∈ totP v f n, p.2.length ≤ 2000 ∧ totalL p.2 ≤ 8000 := fun p hp => by
  obtain ⟨i, _, rfl⟩ := List.mem_map.1 hp
  exact squO_b v f i
theorem totO_b (v : Int) (f : Pol) : (totO v f).1.length ≤ 1000000 ∧ ∀ p ∈ (totO v f).1, p.2.length ≤ 2000 ∧ totalL p.2 ≤ 8000 := by
  unfold totO
  split
  · rename_i h
    split
    · exact ⟨by simp, fun p hp => by cases hp⟩
    · rename_i h2
      split
      · exact ⟨by simp, fun p hp => by cases hp⟩
      · refine ⟨?_, totP_b⟩
        show (totP v f ((degL f).toNat + 1)).length ≤ 1000000
        rw [totP_length]
        have := (polF_of h).deg
        omega
  · exact ⟨by simp, fun p hp => by cases hp⟩
end Go.Proofs.YtoodhbafleemjaaGreat
