/- Plain: products in the lambda algebra: the form of a product of forms is the form of the product. -/
import Derived.Test.YthaokhjkibbplaaLam2
namespace Go.Proofs.Ythaokhjkibbplaa
open Go.RowKit
set_option linter.unusedVariables false

theorem SameSum.swapL {s t : List (List Int)} (f : List Int → List Int → List (List Int)) : SameSum (s.flatMap fun x => t.flatMap fun p => f x p) (t.flatMap fun p => s.flatMap fun x => f x p) := by
  induction s with
  | nil =>
    simp only [List.flatMap_nil]
    have : (t.flatMap fun _ => ([] : List (List Int))) = [] := by induction t <;> simp_all
    rw [this]
    exact SameSum.refl _
  | cons x s ih =>
    simp only [List.flatMap_cons]
    refine ((SameSum.refl _).append ih).trans ?_
    clear ih
    induction t with
    | nil => exact SameSum.refl _
    | cons p t ih =>
      simp only [List.flatMap_cons]
      have h1 : SameSum ((f x p ++ t.flatMap fun p => f x p) ++ ((s.flatMap fun x => f x p) ++ t.flatMap fun p => s.flatMap fun x => f x p)) ((f x p ++ s.flatMap fun x => f x p) ++ ((t.flatMap fun p => f x p) ++ t.flatMap fun p => s.flatMap fun x => f x p)) := by
        intro z
        simp only [List.count_append]
        omega
      exact h1.trans ((SameSum.refl _).append ih)

theorem nonN_app {u v : List Int} (h : nonN (u ++ v)) : nonN u ∧ nonN v := ⟨fun z hz => h z (List.mem_append_left _ hz), fun z hz => h z (List.mem_append_right _ hz)⟩
theorem nonN_cons {a : Int} {v : List Int} (h : 0 ≤ a) (h2 : nonN v) : nonN (a :: v) := fun z hz => (List.mem_cons.1 hz).elim (fun e => e ▸ h) (h2 z)
theorem nonN_mk {u v : List Int} (h1 : nonN u) (h2 : nonN v) : nonN (u ++ v) := fun z hz => (List.mem_append.1 hz).elim (h1 z) (h2 z)
theorem okW_app {u v : List Int} (hu : nonN u) (hv : nonN v) (hl : u.length + v.length ≤ 7) (hs : sumZ u + sumZ v ≤ 11) : okW (u ++ v) := ⟨by rw [List.length_append]; exact hl, nonN_mk hu hv, by rw [sumZ_append]; exact hs⟩

theorem bef_left {f : Nat} {i : Int} {z v : List Int} (hf : meas i z < f) (h : okW (i :: z ++ v)) : SameSum (nf (i :: z ++ v)) ((bef f i z).flatMap fun t => nf (t ++ v)) := by
  induction f generalizing i z v with
  | zero => omega
  | succ f ih =>
    cases z with
    | nil => simp only [bef, List.flatMap_cons, List.flatMap_nil, List.append_nil]; exact SameSum.refl _
    | cons b r =>
      rw [bef]
      split
      · simp only [List.flatMap_cons, List.flatMap_nil, List.append_nil]; exact SameSum.refl _
      · rename_i hb
        simp only [List.cons_append] at h ⊢
        have hi := h.2.1 i (by simp)
        have hbn := h.2.1 b (by simp)
        have hrv : nonN (r ++ v) := fun z hz => h.2.1 z (List.mem_cons_of_mem _ (List.mem_cons_of_mem _ hz))
        obtain ⟨hr, hv⟩ := nonN_app hrv
        have hs := h.2.2
        have hl := h.1
        simp only [sumZ, sumZ_append, List.length_cons, List.length_append] at hs hl
        have h1 := nf_step (u := []) (v := r ++ v) (a := i) (b := b) h.2.1 h.2.2 h.1 (by omega)
        refine h1.trans ?_
        simp only [List.nil_append]
        rw [List.flatMap_assoc]
        refine SameSum.eachP fun p hp => ?_
        obtain ⟨e1, e2, e3, e4, _⟩ := relP_mem hp hi
        have hp2 : okW (p.2 :: r ++ v) := okW_app (u := p.2 :: r) (nonN_cons (by omega) hr) hv (by simp only [List.length_cons]; omega) (by simp only [sumZ]; omega)
        have h2 := befS_same (a := p.1) (ih (i := p.2) (z := r) (v := v) (by unfold meas at hf ⊢; simp only [List.length_cons] at hf; omega) hp2)
        simp only [List.cons_append] at h2
        show SameSum (befS F p.1 (nf (p.2 :: (r ++ v)))) _
        refine h2.trans ?_
        rw [List.flatMap_assoc]
        simp only [befS, List.flatMap_assoc]
        refine SameSum.each fun u hu => ?_
        obtain ⟨l1, s1, n1⟩ := bef_word hu (by omega) hr
        have hu2 : okW (p.1 :: u ++ v) := okW_app (u := p.1 :: u) (nonN_cons (by omega) n1) hv (by simp only [List.length_cons]; omega) (by simp only [sumZ]; omega)
        have hv0 := sumZ_nonneg hv
        have hr0 := sumZ_nonneg hr
        exact ih (by unfold meas at hf ⊢; simp only [List.length_cons] at hf; rw [l1]; omega) hu2
theorem nf_left {u v : List Int} (h : okW (u ++ v)) : SameSum (nf (u ++ v)) ((nf u).flatMap fun t => nf (t ++ v)) := by
  induction u with
  | nil => simp [nf]; exact SameSum.refl _
  | cons i x ih =>
    simp only [List.cons_append] at h ⊢
    have hi := h.2.1 i (by simp)
    have hxv : nonN (x ++ v) := fun z hz => h.2.1 z (List.mem_cons_of_mem _ hz)
    obtain ⟨hx, hv⟩ := nonN_app hxv
    have hs := h.2.2
    have hl := h.1
    simp only [sumZ, sumZ_append, List.length_cons, List.length_append] at hs hl
    have h2 := befS_same (a := i) (ih (okW_app hx hv (by omega) (by omega)))
    show SameSum (befS F i (nf (x ++ v))) ((befS F i (nf x)).flatMap _)
    refine h2.trans ?_
    simp only [befS, List.flatMap_assoc]
    refine SameSum.each fun t ht => ?_
    obtain ⟨l1, s1, n1, _⟩ := nf_word ht hx
    have ht2 : okW (i :: t ++ v) := okW_app (u := i :: t) (nonN_cons (by omega) n1) hv (by simp only [List.length_cons]; omega) (by simp only [sumZ]; omega)
    exact bef_left (by unfold meas F; omega) ht2
theorem nf_right {u v : List Int} (hv : nonN v) : SameSum (nf (u ++ v)) ((nf v).flatMap fun t => nf (u ++ t)) := by
  induction u with
  | nil =>
    simp only [List.nil_append]
    rw [show ((nf v).flatMap fun t => nf t) = nf v from nfS_adm fun x hx => (nf_word hx hv).2.2.2]
    exact SameSum.refl _
  | cons i x ih =>
    have h2 := befS_same (a := i) ih
    simp only [List.cons_append]
    show SameSum (befS F i (nf (x ++ v))) _
    refine h2.trans ?_
    simp only [befS, List.flatMap_assoc]
    exact SameSum.refl _

/-- all words of one list followed by words of another one -/
def prods (a b : List (List Int)) : List (List Int) := a.flatMap fun x => b.flatMap fun y => [x ++ y]
theorem prods_same {a a' b b' : List (List Int)} (ha : SameSum a a') (hb : SameSum b b') : SameSum (prods a b) (prods a' b') :=
  (ha.flat _).trans (SameSum.each fun x _ => hb.flat _)
theorem nfS_prods (a b : List (List Int)) : nfS (prods a b) = a.flatMap fun x => b.flatMap fun y => nf (x ++ y) := by
  simp only [nfS, prods, List.flatMap_assoc, List.flatMap_cons, List.flatMap_nil, List.append_nil]
theorem mem_prods {a b : List (List Int)} {z : List Int} (h : z ∈ prods a b) : ∃ x ∈ a, ∃ y ∈ b, z = x ++ y := by
  obtain ⟨x, hx, h⟩ := List.mem_flatMap.1 h
  obtain ⟨y, hy, h⟩ := List.mem_flatMap.1 h
  exact ⟨x, hx, y, hy, by simpa using h⟩
theorem nfS_mem {a : List (List Int)} {u : List Int} (h : u ∈ nfS a) (hn : ∀ x ∈ a, nonN x) : nonN u ∧ ∃ x ∈ a, u.length = x.length ∧ sumZ u = sumZ x := by
  obtain ⟨x, hx, h⟩ := List.mem_flatMap.1 h
  obtain ⟨h1, h2, h3, _⟩ := nf_word h (hn x hx)
  exact ⟨h3, x, hx, h1, h2⟩
/-- the form of the product of forms -/
theorem form_prods {a b : List (List Int)} (hab : ∀ x ∈ a, ∀ y ∈ b, okW (x ++ y)) (hb : ∀ y ∈ b, nonN y) : formL (prods (formL a) (formL b)) = formL (prods a b) := by
  have h1 : SameSum (nfS (prods (formL a) (formL b))) (nfS (prods (nfS a) (nfS b))) := nfS_same (prods_same (oddL_same _) (oddL_same _))
  have h2 : SameSum (nfS (prods (nfS a) (nfS b))) (nfS (prods a (nfS b))) := by
    rw [nfS_prods, nfS_prods, show nfS a = a.flatMap nf from rfl, List.flatMap_assoc]
    refine SameSum.each fun x hx => ?_
    refine (SameSum.swapL fun s y => nf (s ++ y)).trans ?_
    refine SameSum.each fun y hy => ?_
    obtain ⟨n1, y', hy', l1, s1⟩ := nfS_mem hy hb
    have ho := hab x hx y' hy'
    have hs := ho.2.2
    have hl := ho.1
    rw [sumZ_append] at hs
    rw [List.length_append] at hl
    exact (nf_left (okW_app (nonN_app ho.2.1).1 n1 (by omega) (by omega))).symm
  have h3 : SameSum (nfS (prods a (nfS b))) (nfS (prods a b)) := by
    rw [nfS_prods, nfS_prods]
    refine SameSum.each fun x hx => ?_
    rw [nfS, List.flatMap_assoc]
    exact SameSum.each fun y hy => (nf_right (hb y hy)).symm
  exact oddL_congr (h1.trans (h2.trans h3))
theorem flat_one (x : List Int) (b : List (List Int)) : (b.flatMap fun y => [x ++ y]) = b.map fun y => x ++ y := by
  induction b with
  | nil => rfl
  | cons y b ih => simp only [List.flatMap_cons, List.map_cons, List.singleton_append]; rw [ih]
/-- words of one length, each once, followed by words, each once -/
theorem prods_nodup {a b : List (List Int)} (ha : a.Nodup) (hb : b.Nodup) {l : Nat} (hl : ∀ x ∈ a, x.length = l) : (prods a b).Nodup := by
  induction a with
  | nil => exact List.nodup_nil
  | cons x a ih =>
    obtain ⟨h1, h2⟩ := List.nodup_cons.1 ha
    have ih := ih h2 fun y hy => hl y (List.mem_cons_of_mem _ hy)
    rw [prods, List.flatMap_cons]
    refine List.nodup_append.2 ⟨?_, ih, ?_⟩
    · rw [flat_one]
      exact List.Pairwise.map _ (fun _ _ h e => h (List.append_cancel_left e)) hb
    · intro u hu v hv e
      subst e
      obtain ⟨y, hy, hu⟩ := List.mem_flatMap.1 hu
      obtain ⟨x', hx', y', hy', e⟩ := mem_prods hv
      have hu : u = x ++ y := by simpa using hu
      rw [hu] at e
      have h3 := (List.append_inj e (by rw [hl x (by simp), hl x' (List.mem_cons_of_mem _ hx')])).1
      exact h1 (h3 ▸ hx')
theorem prods_len {a b : List (List Int)} (ha : a.Nodup) (hb : b.Nodup) {l : Nat} (hl : ∀ x ∈ a, x.length = l) (hab : ∀ x ∈ a, ∀ y ∈ b, okW (x ++ y)) : (prods a b).length ≤ 75582 := by
  refine Nat.le_trans (nodup_le (prods_nodup ha hb hl) (u := wordsU 7 11) fun z hz => ?_) wordsU_le
  obtain ⟨x, hx, y, hy, rfl⟩ := mem_prods hz
  have h := hab x hx y hy
  exact mem_wordsU h.1 h.2.1 (by have := h.2.2; omega)
end Go.Proofs.Ythaokhjkibbplaa
