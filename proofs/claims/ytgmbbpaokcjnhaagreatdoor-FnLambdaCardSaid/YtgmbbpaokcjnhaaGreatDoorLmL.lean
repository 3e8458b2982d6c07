/- Plain: the lambda algebra: products are associative, the differential goes over to forms, its square is nothing, products' differentials. -/
import Derived.Test.YtgmbbpaokcjnhaaGreatDoorMulL
import Derived.Test.YtgmbbpaokcjnhaaGreatDoorWords
namespace Go.Proofs.YtgmbbpaokcjnhaaGreatDoor
open Go.RowKit
set_option linter.unusedVariables false

theorem same_split {α : Type} (f g : α → List (List Int)) : ∀ s : List α, SameSum (s.flatMap fun x => f x ++ g x) (s.flatMap f ++ s.flatMap g)
  | [] => SameSum.refl _
  | x :: s => by
    have ih := same_split f g s
    intro z
    have := ih z
    simp only [List.flatMap_cons, List.count_append] at this ⊢
    omega
theorem flat_none {α : Type} : ∀ s : List α, (s.flatMap fun _ => ([] : List (List Int))) = []
  | [] => rfl
  | x :: s => by rw [List.flatMap_cons, flat_none s]; rfl
theorem same_twice (s : List (List Int)) : SameSum (s ++ s) [] := fun z => by simp only [List.count_append, List.count_nil]; omega
theorem map_flat (f : List Int → List Int) : ∀ s : List (List Int), s.map f = s.flatMap fun x => [f x]
  | [] => rfl
  | x :: s => by rw [List.map_cons, List.flatMap_cons, map_flat f s]; rfl
theorem nfS_map (f : List Int → List Int) (s : List (List Int)) : nfS (s.map f) = s.flatMap fun x => nf (f x) := by
  unfold nfS
  rw [map_flat, List.flatMap_assoc]
  congr 1
  funext x
  simp
theorem nfS_app (s t : List (List Int)) : nfS (s ++ t) = nfS s ++ nfS t := by unfold nfS; rw [List.flatMap_append]
theorem dAll_app (s t : List (List Int)) : dAll (s ++ t) = dAll s ++ dAll t := by unfold dAll; rw [List.flatMap_append]

/-! ### the differential of a word, from its first factor on -/
theorem dAt_z (n : Int) (r : List Int) : dAt (n :: r) 0 = (genW n).map (· ++ r) := by
  unfold dAt putAt
  simp only [List.getElem?_cons_zero, Option.getD_some, List.take_zero, List.nil_append, List.drop_succ_cons, List.drop_zero]
  rw [map_flat]
theorem dAt_s (n : Int) (r : List Int) (k : Nat) : dAt (n :: r) (k + 1) = (dAt r k).map (n :: ·) := by
  unfold dAt putAt
  simp only [List.getElem?_cons_succ, List.take_succ_cons, List.drop_succ_cons]
  rw [map_flat, List.flatMap_assoc]
  congr 1
theorem dWord_nil : dWord [] = [] := rfl
theorem dWord_cons (n : Int) (r : List Int) : dWord (n :: r) = (genW n).map (· ++ r) ++ (dWord r).map (n :: ·) := by
  unfold dWord dTo
  rw [List.length_cons, List.range_succ_eq_map, List.flatMap_cons, dAt_z, List.flatMap_map]
  congr 1
  rw [map_flat, List.flatMap_assoc]
  congr 1
  funext k
  rw [Nat.succ_eq_add_one, dAt_s, map_flat]
theorem dWord_app : ∀ x y : List Int, dWord (x ++ y) = (dWord x).map (· ++ y) ++ (dWord y).map (x ++ ·)
  | [], y => by simp [dWord_nil]
  | n :: x, y => by
    rw [List.cons_append, dWord_cons, dWord_app x y, dWord_cons]
    simp only [List.map_append, List.map_map, Function.comp_def, List.append_assoc, List.cons_append]
theorem dWord_ok : ∀ {x w : List Int}, nonN x → w ∈ dWord x → w.length = x.length + 1 ∧ sumZ w = sumZ x - 1 ∧ nonN w
  | [], w, _, h => by rw [dWord_nil] at h; cases h
  | n :: r, w, hn, h => by
    rw [dWord_cons] at h
    have hn0 := hn n (by simp)
    have hr : nonN r := fun z hz => hn z (List.mem_cons_of_mem _ hz)
    rcases List.mem_append.1 h with h | h
    · obtain ⟨l, hl, rfl⟩ := List.mem_map.1 h
      obtain ⟨h1, h2, h3⟩ := genW_mem hl hn0
      refine ⟨?_, ?_, nonN_mk h2 hr⟩
      · simp only [List.length_append, List.length_cons, h1]; omega
      · simp only [sumZ_append, sumZ, h3]; omega
    · obtain ⟨z, hz, rfl⟩ := List.mem_map.1 h
      obtain ⟨h1, h2, h3⟩ := dWord_ok hr hz
      refine ⟨?_, ?_, nonN_cons hn0 h3⟩
      · simp only [List.length_cons, h1]
      · simp only [sumZ, h2]; omega
theorem dWord_okW {x w : List Int} (hx : okW x) (hl : x.length ≤ 6) (h : w ∈ dWord x) : okW w := by
  obtain ⟨h1, h2, h3⟩ := dWord_ok hx.2.1 h
  exact ⟨by omega, h3, by have := hx.2.2; omega⟩

/-! ### what respects the relations respects forms -/
def Resp (L : Nat) (P : List Int → List (List Int)) : Prop := ∀ (u v : List Int) (a b : Int), okW (u ++ a :: b :: v) → (u ++ a :: b :: v).length ≤ L → 2 * a < b → SameSum (P (u ++ a :: b :: v)) ((relP a b).flatMap fun p => P (u ++ p.1 :: p.2 :: v))
theorem bef_resp {L : Nat} {P : List Int → List (List Int)} (hP : Resp L P) : ∀ (f : Nat) (i : Int) (z u : List Int), meas i z < f → okW (u ++ i :: z) → (u ++ i :: z).length ≤ L → SameSum (P (u ++ i :: z)) ((bef f i z).flatMap fun t => P (u ++ t))
  | 0, i, z, u, hf, _, _ => by omega
  | f + 1, i, [], u, _, _, _ => by simp only [bef, List.flatMap_cons, List.flatMap_nil, List.append_nil]; exact SameSum.refl _
  | f + 1, i, b :: r, u, hf, h, hl => by
    rw [bef]
    split
    · simp only [List.flatMap_cons, List.flatMap_nil, List.append_nil]; exact SameSum.refl _
    · rename_i hb
      obtain ⟨hu, hibr⟩ := nonN_app h.2.1
      have hi := hibr i (by simp)
      have hbn := hibr b (by simp)
      have hr : nonN r := fun z hz => hibr z (by simp [hz])
      have hr0 := sumZ_nonneg hr
      have hs := h.2.2
      have hl7 := h.1
      simp only [sumZ, sumZ_append, List.length_cons, List.length_append] at hs hl7 hl
      refine (hP u r i b h (by simp only [List.length_cons, List.length_append]; omega) (by omega)).trans ?_
      rw [List.flatMap_assoc]
      refine SameSum.eachP fun p hp => ?_
      obtain ⟨e1, e2, e3, e4, _⟩ := relP_mem hp hi
      have hu0 := sumZ_nonneg hu
      have ho : okW ((u ++ [p.1]) ++ p.2 :: r) := okW_app (nonN_mk hu (nonN_cons (by omega) fun z hz => by cases hz)) (nonN_cons (by omega) hr) (by simp only [List.length_append, List.length_cons, List.length_nil]; omega) (by simp only [sumZ_append, sumZ]; omega)
      have h1 := bef_resp hP f p.2 r (u ++ [p.1]) (by unfold meas at hf ⊢; simp only [List.length_cons] at hf; omega) ho (by simp only [List.length_append, List.length_cons, List.length_nil]; omega)
      rw [List.flatMap_assoc]
      rw [show u ++ [p.1] ++ p.2 :: r = u ++ p.1 :: p.2 :: r by simp] at h1
      refine h1.trans (SameSum.each fun t ht => ?_)
      obtain ⟨l1, s1, n1⟩ := bef_word ht (by omega) hr
      rw [show u ++ [p.1] ++ t = u ++ p.1 :: t by simp]
      exact bef_resp hP f p.1 t u (by unfold meas at hf ⊢; simp only [List.length_cons] at hf; rw [l1]; omega) (okW_app hu (nonN_cons (by omega) n1) (by simp only [List.length_cons]; omega) (by simp only [sumZ]; omega)) (by simp only [List.length_append, List.length_cons]; omega)
theorem nf_resp {L : Nat} {P : List Int → List (List Int)} (hP : Resp L P) : ∀ (x u : List Int), okW (u ++ x) → (u ++ x).length ≤ L → SameSum (P (u ++ x)) ((nf x).flatMap fun t => P (u ++ t))
  | [], u, _, _ => by simp only [nf, List.flatMap_cons, List.flatMap_nil, List.append_nil]; exact SameSum.refl _
  | i :: z, u, h, hl => by
    obtain ⟨hu, hiz⟩ := nonN_app h.2.1
    have hi := hiz i (by simp)
    have hz : nonN z := fun y hy => hiz y (List.mem_cons_of_mem _ hy)
    have e : u ++ i :: z = (u ++ [i]) ++ z := by simp
    have h1 := nf_resp hP z (u ++ [i]) (by rw [← e]; exact h) (by rw [← e]; exact hl)
    rw [← e] at h1
    refine h1.trans ?_
    simp only [nf, befS, List.flatMap_assoc]
    refine SameSum.each fun t ht => ?_
    obtain ⟨l1, s1, n1, _⟩ := nf_word ht hz
    have hs := h.2.2
    have hl7 := h.1
    simp only [sumZ, sumZ_append, List.length_cons, List.length_append] at hs hl7 hl
    rw [show u ++ [i] ++ t = u ++ i :: t by simp]
    exact bef_resp hP F i t u (by unfold meas F; omega) (okW_app hu (nonN_cons hi n1) (by simp only [List.length_cons]; omega) (by simp only [sumZ]; omega)) (by simp only [List.length_append, List.length_cons]; omega)

/-! ### the middle of a word -/
theorem nf_mid {u w v : List Int} (h : okW (u ++ (w ++ v))) : SameSum (nf (u ++ (w ++ v))) ((nf w).flatMap fun t => nf (u ++ (t ++ v))) := by
  obtain ⟨hu, hwv⟩ := nonN_app h.2.1
  obtain ⟨hw, hv⟩ := nonN_app hwv
  have hs := h.2.2
  have hl := h.1
  have hu0 := sumZ_nonneg hu
  simp only [sumZ_append, List.length_append] at hs hl
  have h1 := nf_right (u := u) hwv
  have h2 := (nf_left (u := w) (v := v) (okW_app hw hv (by omega) (by omega))).flat fun s => nf (u ++ s)
  refine h1.trans (h2.trans ?_)
  rw [List.flatMap_assoc]
  exact SameSum.each fun t ht => (nf_right (nonN_mk (nf_word ht hw).2.2.1 hv)).symm

/-! ### finite checks -/
def chkD : Bool := (List.range 12).all fun a => (List.range 12).all fun b => !(decide (2 * a < b) && decide (a + b ≤ 11)) ||
  decide (oddL (nfS (dWord [(a : Int), (b : Int)])) = oddL (nfS ((relP a b).flatMap fun p => dWord [p.1, p.2])))
set_option maxRecDepth 100000 in
theorem chkD_all : chkD = true := by decide +kernel
def chkE : Bool := (List.range 12).all fun n => decide (oddL (nfS (dAll (genW (n : Int)))) = [])
set_option maxRecDepth 100000 in
theorem chkE_all : chkE = true := by decide +kernel
theorem rel_dif {a b : Int} (ha : 0 ≤ a) (hab : 2 * a < b) (hs : a + b ≤ 11) : SameSum (nfS (dWord [a, b])) (nfS ((relP a b).flatMap fun p => dWord [p.1, p.2])) := by
  have h := chkD_all
  unfold chkD at h
  rw [List.all_eq_true] at h
  have h1 := h a.toNat (List.mem_range.2 (by omega))
  rw [List.all_eq_true] at h1
  have h2 := h1 b.toNat (List.mem_range.2 (by omega))
  rw [decide_eq_true (show 2 * a.toNat < b.toNat by omega), decide_eq_true (show a.toNat + b.toNat ≤ 11 by omega), Int.toNat_of_nonneg ha, Int.toNat_of_nonneg (show 0 ≤ b by omega)] at h2
  simp only [Bool.and_self, Bool.not_true, Bool.false_or, decide_eq_true_eq] at h2
  exact (oddL_same _).symm.trans (h2 ▸ oddL_same _)
theorem gen_dif {n : Int} (h0 : 0 ≤ n) (h1 : n ≤ 11) : SameSum (nfS (dAll (genW n))) [] := by
  have h := chkE_all
  unfold chkE at h
  rw [List.all_eq_true] at h
  have h2 := h n.toNat (List.mem_range.2 (by omega))
  rw [Int.toNat_of_nonneg h0, decide_eq_true_eq] at h2
  exact (oddL_same _).symm.trans (h2 ▸ SameSum.refl _)

/-! ### the differential goes over to forms -/
set_option maxHeartbeats 2000000 in
theorem resp_dif : Resp 6 fun x => nfS (dWord x) := by
  intro u v a b h hl hab
  obtain ⟨hu, habv⟩ := nonN_app h.2.1
  have ha := habv a (by simp)
  have hb := habv b (by simp)
  have hv : nonN v := fun z hz => habv z (by simp [hz])
  have hu0 := sumZ_nonneg hu
  have hv0 := sumZ_nonneg hv
  have hs := h.2.2
  simp only [sumZ, sumZ_append, List.length_cons, List.length_append] at hs hl
  have key : ∀ c d : Int, nfS (dWord (u ++ c :: d :: v)) = ((dWord u).flatMap fun w => nf (w ++ c :: d :: v)) ++ (((dWord [c, d]).flatMap fun w => nf (u ++ (w ++ v))) ++ ((dWord v).flatMap fun w => nf (u ++ c :: d :: w))) := by
    intro c d
    have e : c :: d :: v = [c, d] ++ v := rfl
    rw [e, dWord_app u, dWord_app [c, d] v, nfS_app, nfS_map, List.map_append, nfS_app, List.map_map, List.map_map, nfS_map, nfS_map]
    simp only [Function.comp_def, List.cons_append, List.nil_append]
  show SameSum (nfS (dWord (u ++ a :: b :: v))) ((relP a b).flatMap fun p => nfS (dWord (u ++ p.1 :: p.2 :: v)))
  rw [key a b]
  have e2 : ((relP a b).flatMap fun p => nfS (dWord (u ++ p.1 :: p.2 :: v))) = (relP a b).flatMap fun p => ((dWord u).flatMap fun w => nf (w ++ p.1 :: p.2 :: v)) ++ (((dWord [p.1, p.2]).flatMap fun w => nf (u ++ (w ++ v))) ++ ((dWord v).flatMap fun w => nf (u ++ p.1 :: p.2 :: w))) := by
    congr 1
    funext p
    exact key p.1 p.2
  rw [e2]
  refine SameSum.trans ?_ ((same_split _ _ (relP a b)).trans ((SameSum.refl _).append (same_split _ _ (relP a b)))).symm
  refine SameSum.append ?_ (SameSum.append ?_ ?_)
  · refine (SameSum.each (g := fun w => (relP a b).flatMap fun p => nf (w ++ p.1 :: p.2 :: v)) fun w hw => ?_).trans (SameSum.swapP fun w p => nf (w ++ p.1 :: p.2 :: v))
    obtain ⟨l1, s1, n1⟩ := dWord_ok hu hw
    have ho : okW (w ++ a :: b :: v) := okW_app n1 (nonN_cons ha (nonN_cons hb hv)) (by simp only [List.length_cons]; omega) (by simp only [sumZ]; omega)
    exact nf_step ho.2.1 ho.2.2 ho.1 hab
  · have mid : ∀ c d : Int, 0 ≤ c → 0 ≤ d → c + d = a + b → SameSum ((dWord [c, d]).flatMap fun w => nf (u ++ (w ++ v))) ((nfS (dWord [c, d])).flatMap fun t => nf (u ++ (t ++ v))) := by
      intro c d hc hd hcd
      rw [nfS, List.flatMap_assoc]
      refine SameSum.each fun w hw => ?_
      obtain ⟨l1, s1, n1⟩ := dWord_ok (nonN_cons hc (nonN_cons hd fun z hz => by cases hz)) hw
      simp only [List.length_cons, List.length_nil, sumZ] at l1 s1
      exact nf_mid (okW_app hu (nonN_mk n1 hv) (by simp only [List.length_append]; omega) (by simp only [sumZ_append]; omega))
    refine (mid a b ha hb rfl).trans (((rel_dif ha hab (by omega)).flat _).trans ?_)
    rw [nfS, List.flatMap_assoc, List.flatMap_assoc]
    refine SameSum.eachP fun p hp => ?_
    obtain ⟨e1, e2, e3, e4, _⟩ := relP_mem hp ha
    have := (mid p.1 p.2 (by omega) (by omega) (by omega)).symm
    rw [nfS, List.flatMap_assoc] at this
    simpa only [List.flatMap_assoc] using this
  · refine (SameSum.each (g := fun w => (relP a b).flatMap fun p => nf (u ++ p.1 :: p.2 :: w)) fun w hw => ?_).trans (SameSum.swapP fun w p => nf (u ++ p.1 :: p.2 :: w))
    obtain ⟨l1, s1, n1⟩ := dWord_ok hv hw
    have ho : okW (u ++ a :: b :: w) := okW_app hu (nonN_cons ha (nonN_cons hb n1)) (by simp only [List.length_cons]; omega) (by simp only [sumZ]; omega)
    exact nf_step ho.2.1 ho.2.2 ho.1 hab
theorem dif_nf {x : List Int} (h : okW x) (hl : x.length ≤ 6) : SameSum (nfS (dWord x)) (nfS (dAll (nf x))) := by
  have h1 := nf_resp resp_dif x [] h hl
  simp only [List.nil_append] at h1
  refine h1.trans ?_
  unfold nfS dAll
  rw [List.flatMap_assoc]
  exact SameSum.refl _
/-- the differential of a sum's form is that of the sum -/
theorem form_dif {s : List (List Int)} (h : ∀ x ∈ s, okW x ∧ x.length ≤ 6) : formL (dAll (formL s)) = formL (dAll s) := by
  refine oddL_congr ?_
  have h1 : SameSum (dAll (formL s)) (dAll (nfS s)) := (oddL_same _).flat _
  refine (nfS_same h1).trans ?_
  have e : nfS (dAll (nfS s)) = s.flatMap fun x => nfS (dAll (nf x)) := by
    unfold nfS dAll
    simp only [List.flatMap_assoc]
  have e2 : nfS (dAll s) = s.flatMap fun x => nfS (dWord x) := by
    unfold nfS dAll
    simp only [List.flatMap_assoc]
  rw [e, e2]
  exact SameSum.each fun x hx => (dif_nf (h x hx).1 (h x hx).2).symm

/-! ### differentials of differentials -/
theorem dd_nf : ∀ {x : List Int}, okW x → x.length ≤ 5 → SameSum (nfS (dAll (dWord x))) []
  | [], _, _ => by rw [dWord_nil]; exact SameSum.refl _
  | n :: r, h, hl => by
    have hn := h.2.1 n (by simp)
    have hr : nonN r := fun z hz => h.2.1 z (List.mem_cons_of_mem _ hz)
    have hr0 := sumZ_nonneg hr
    have hs := h.2.2
    simp only [sumZ, List.length_cons] at hs hl
    have ih := dd_nf (x := r) ⟨by omega, hr, by omega⟩ (by omega)
    have e1 : dAll ((genW n).map (· ++ r)) = (genW n).flatMap fun l => (dWord l).map (· ++ r) ++ (dWord r).map (l ++ ·) := by
      unfold dAll
      rw [List.flatMap_map]
      congr 1
      funext l
      exact dWord_app l r
    have e2 : dAll ((dWord r).map (n :: ·)) = (dWord r).flatMap fun w => (genW n).map (· ++ w) ++ (dWord w).map (n :: ·) := by
      unfold dAll
      rw [List.flatMap_map]
      congr 1
      funext w
      exact dWord_cons n w
    rw [dWord_cons, dAll_app, e1, e2]
    have h1 := same_split (fun l => (dWord l).map (· ++ r)) (fun l => (dWord r).map (l ++ ·)) (genW n)
    have h2 := same_split (fun w => (genW n).map (· ++ w)) (fun w => (dWord w).map (n :: ·)) (dWord r)
    have hsw : SameSum ((genW n).flatMap fun l => (dWord r).map (l ++ ·)) ((dWord r).flatMap fun w => (genW n).map (· ++ w)) := by
      have := SameSum.swapL (s := genW n) (t := dWord r) fun l w => [l ++ w]
      have f1 : ((genW n).flatMap fun l => (dWord r).map (l ++ ·)) = (genW n).flatMap fun l => (dWord r).flatMap fun w => [l ++ w] := by
        congr 1; funext l; exact map_flat _ _
      have f2 : ((dWord r).flatMap fun w => (genW n).map (· ++ w)) = (dWord r).flatMap fun w => (genW n).flatMap fun l => [l ++ w] := by
        congr 1; funext w; exact map_flat _ _
      rw [f1, f2]
      exact this
    have h3 := nfS_same (h1.append h2)
    have hA : SameSum (nfS ((genW n).flatMap fun l => (dWord l).map (· ++ r))) [] := by
      have f : nfS ((genW n).flatMap fun l => (dWord l).map (· ++ r)) = (dAll (genW n)).flatMap fun w => nf (w ++ r) := by
        unfold dAll
        rw [nfS, List.flatMap_assoc, List.flatMap_assoc]
        congr 1
        funext l
        exact nfS_map _ _
      rw [f]
      have g := (gen_dif hn (by omega)).flat fun t => nf (t ++ r)
      rw [List.flatMap_nil, nfS, List.flatMap_assoc] at g
      refine (SameSum.each fun w hw => ?_).trans g
      obtain ⟨l, hl2, hw⟩ := List.mem_flatMap.1 hw
      obtain ⟨k1, k2, k3⟩ := genW_mem hl2 hn
      obtain ⟨l1, s1, n1⟩ := dWord_ok k2 hw
      exact nf_left (okW_app n1 hr (by omega) (by omega))
    have hB : SameSum (nfS ((dWord r).flatMap fun w => (dWord w).map (n :: ·))) [] := by
      have f : nfS ((dWord r).flatMap fun w => (dWord w).map (n :: ·)) = befS F n (nfS (dAll (dWord r))) := by
        have g : ∀ w, nfS ((dWord w).map (n :: ·)) = befS F n (nfS (dWord w)) := fun w => by
          rw [nfS_map]
          unfold befS nfS
          rw [List.flatMap_assoc]
          rfl
        have g2 : nfS ((dWord r).flatMap fun w => (dWord w).map (n :: ·)) = (dWord r).flatMap fun w => nfS ((dWord w).map (n :: ·)) := by
          unfold nfS
          rw [List.flatMap_assoc]
        have g3 : befS F n (nfS (dAll (dWord r))) = (dWord r).flatMap fun w => befS F n (nfS (dWord w)) := by
          unfold befS nfS dAll
          simp only [List.flatMap_assoc]
        rw [g2, g3]
        congr 1
        funext w
        exact g w
      rw [f]
      exact befS_same ih
    simp only [nfS_app] at h3 ⊢
    have h4 : SameSum (nfS ((genW n).flatMap fun l => (dWord r).map (l ++ ·)) ++ nfS ((dWord r).flatMap fun w => (genW n).map (· ++ w))) [] :=
      ((nfS_same hsw).append (SameSum.refl _)).trans (same_twice _)
    intro z
    have a1 := h3 z
    have a2 := hA z
    have a3 := hB z
    have a4 := h4 z
    simp only [List.count_append, List.count_nil] at a1 a2 a3 a4 ⊢
    omega
theorem form_dd {s : List (List Int)} (h : ∀ x ∈ s, okW x ∧ x.length ≤ 5) : formL (dAll (formL (dAll s))) = [] := by
  rw [form_dif fun w hw => by
    obtain ⟨x, hx, hw⟩ := List.mem_flatMap.1 hw
    have h1 := dWord_ok (h x hx).1.2.1 hw
    exact ⟨dWord_okW (h x hx).1 (by have := (h x hx).2; omega) hw, by have := (h x hx).2; omega⟩]
  have e : nfS (dAll (dAll s)) = s.flatMap fun x => nfS (dAll (dWord x)) := by
    unfold nfS dAll
    simp only [List.flatMap_assoc]
  have : SameSum (nfS (dAll (dAll s))) [] := by
    rw [e]
    have := SameSum.each (s := s) (f := fun x => nfS (dAll (dWord x))) (g := fun _ => []) fun x hx => dd_nf (h x hx).1 (h x hx).2
    rwa [flat_none] at this
  exact oddL_congr this

/-! ### products -/
theorem prods_assoc (a b c : List (List Int)) : prods (prods a b) c = prods a (prods b c) := by
  unfold prods
  simp only [List.flatMap_assoc, List.flatMap_cons, List.flatMap_nil, List.append_nil, List.append_assoc]
theorem dif_prods (a b : List (List Int)) : SameSum (dAll (prods a b)) (prods (dAll a) b ++ prods a (dAll b)) := by
  have e : dAll (prods a b) = a.flatMap fun x => b.flatMap fun y => (dWord x).map (· ++ y) ++ (dWord y).map (x ++ ·) := by
    unfold dAll prods
    simp only [List.flatMap_assoc, List.flatMap_cons, List.flatMap_nil, List.append_nil]
    congr 1
    funext x
    congr 1
    funext y
    exact dWord_app x y
  rw [e]
  have h1 : SameSum (a.flatMap fun x => b.flatMap fun y => (dWord x).map (· ++ y) ++ (dWord y).map (x ++ ·)) (a.flatMap fun x => (b.flatMap fun y => (dWord x).map (· ++ y)) ++ (b.flatMap fun y => (dWord y).map (x ++ ·))) :=
    SameSum.each fun x _ => same_split _ _ b
  refine h1.trans ((same_split _ _ a).trans (SameSum.append ?_ ?_))
  · unfold prods dAll
    rw [List.flatMap_assoc]
    refine SameSum.each fun x _ => ?_
    have f : (b.flatMap fun y => (dWord x).map (· ++ y)) = b.flatMap fun y => (dWord x).flatMap fun w => [w ++ y] := by
      congr 1; funext y; exact map_flat _ _
    rw [f]
    exact SameSum.swapL fun y w => [w ++ y]
  · unfold prods dAll
    refine SameSum.each fun x _ => ?_
    rw [List.flatMap_assoc]
    have f : (b.flatMap fun y => (dWord y).map (x ++ ·)) = b.flatMap fun y => (dWord y).flatMap fun w => [x ++ w] := by
      congr 1; funext y; exact map_flat _ _
    rw [f]
    exact SameSum.refl _
theorem formL_app (s t : List (List Int)) : formL (s ++ t) = oddL (formL s ++ formL t) := by
  unfold formL
  rw [nfS_app]
  exact oddL_congr ((oddL_same _).append (oddL_same _)).symm
theorem form_form {s : List (List Int)} (h : ∀ x ∈ s, nonN x) : formL (formL s) = formL s := by
  have : nfS (formL s) = formL s := nfS_adm fun x hx => by
    obtain ⟨y, hy, hx⟩ := List.mem_flatMap.1 (oddL_mem hx)
    exact (nf_word hx (h y hy)).2.2.2
  show oddL (nfS (formL s)) = formL s
  rw [this]
  exact oddL_of_asc (oddL_asc _)

/-! ### few admissible words -/
theorem adm_head2 {b c : Int} {r : List Int} (h : admB (b :: c :: r) = true) : c ≤ 2 * b := by
  simp only [admB, Bool.and_eq_true, decide_eq_true_eq] at h
  exact h.1
theorem lw_mem : ∀ (s n m : Nat) (z : List Int), z.length = s → nonN z → sumZ z = (n : Int) → admB z = true → (∀ a r, z = a :: r → a ≤ (m : Int)) → z ∈ lw s n m
  | 0, n, m, z, hl, _, hs, _, _ => by
    have : z = [] := List.eq_nil_of_length_eq_zero hl
    subst this
    have : n = 0 := by simp [sumZ] at hs; omega
    subst this
    simp [lw]
  | s + 1, n, m, z, hl, hn, hs, hadm, hm => by
    match z, hl with
    | a :: r, hl =>
      have ha := hn a (by simp)
      have hr : nonN r := fun y hy => hn y (List.mem_cons_of_mem _ hy)
      have h0 := sumZ_nonneg hr
      have hs' : a + sumZ r = n := hs
      have hma := hm a r rfl
      rw [lw]
      refine List.mem_flatMap.2 ⟨a.toNat, List.mem_range.2 (by omega), List.mem_map.2 ⟨r, ?_, by rw [Int.toNat_of_nonneg ha]⟩⟩
      refine lw_mem s (n - a.toNat) (2 * a.toNat) r (by simpa using hl) hr (by omega) (adm_tail hadm) fun b t e => ?_
      subst e
      have := adm_head2 hadm
      omega
def chkF : Bool := (List.range 8).all fun s => (List.range 12).all fun n => decide ((lw s n 11).length ≤ 2000)
set_option maxRecDepth 100000 in
theorem chkF_all : chkF = true := by decide +kernel
theorem sumZ_mem : ∀ {x : List Int}, nonN x → ∀ z ∈ x, z ≤ sumZ x
  | a :: x, h, z, hz => by
    have ha := h a (by simp)
    have hx : nonN x := fun y hy => h y (List.mem_cons_of_mem _ hy)
    have h0 := sumZ_nonneg hx
    show z ≤ a + sumZ x
    rcases List.mem_cons.1 hz with rfl | hz
    · omega
    · have := sumZ_mem hx z hz; omega
theorem few_adm {s : List (List Int)} {L : Nat} {N : Int} (hs : Asc s) (h : ∀ x ∈ s, okW x ∧ x.length = L ∧ sumZ x = N ∧ admB x = true) : s.length ≤ 2000 := by
  match s, hs, h with
  | [], _, _ => simp
  | x0 :: r, hs, h =>
    obtain ⟨h1, h2, h3, _⟩ := h x0 (by simp)
    have hN0 := sumZ_nonneg h1.2.1
    have hN := h1.2.2
    have hL := h1.1
    have hf := chkF_all
    unfold chkF at hf
    rw [List.all_eq_true] at hf
    have hf1 := hf L (List.mem_range.2 (by omega))
    rw [List.all_eq_true] at hf1
    have hf2 := of_decide_eq_true (hf1 N.toNat (List.mem_range.2 (by omega)))
    refine Nat.le_trans (nodup_le (asc_nodup hs) fun x hx => ?_) hf2
    obtain ⟨k1, k2, k3, k4⟩ := h x hx
    refine lw_mem L N.toNat 11 x k2 k1.2.1 (by omega) k4 fun a r e => ?_
    have := sumZ_mem k1.2.1 a (by rw [e]; simp)
    have := k1.2.2
    omega
theorem wordB_of {x : List Int} (h : okW x) : wordB x = true ∧ psT 0 x = sumZ x := by
  have hf : facB x = true := by
    unfold facB
    rw [List.all_eq_true]
    intro z hz
    have h1 := h.2.1 z hz
    have h2 := sumZ_mem h.2.1 z hz
    have := h.2.2
    exact inB_iff.2 (by omega)
  have h5 := psT_sumZ x 0 (by simpa [facB, inB] using hf) (by omega) (by have := h.1; omega)
  have h0 := sumZ_nonneg h.2.1
  have e : psT 0 x = sumZ x := by omega
  refine ⟨?_, e⟩
  unfold wordB
  rw [Bool.and_eq_true, Bool.and_eq_true]
  exact ⟨⟨decide_eq_true h.1, hf⟩, inB_iff.2 (by have := h.2.2; omega)⟩
theorem isLB_of {s : List (List Int)} {L : Nat} {N : Int} (hs : Asc s) (h : ∀ x ∈ s, okW x ∧ x.length = L ∧ sumZ x = N) (hl : s.length ≤ 2000) : isLB s = true := by
  rw [isLB_eq]
  simp only [Bool.and_eq_true, List.all_eq_true]
  refine ⟨⟨decide_eq_true hl, asc_risB.2 hs⟩, fun x hx => ?_⟩
  have hh : s.headD [] ∈ s := by
    match s, hx with
    | y :: r, _ => simp
  obtain ⟨a1, a2, a3⟩ := h x hx
  obtain ⟨b1, b2, b3⟩ := h _ hh
  obtain ⟨c1, c2⟩ := wordB_of a1
  obtain ⟨d1, d2⟩ := wordB_of b1
  unfold okx
  rw [Bool.and_eq_true, Bool.and_eq_true]
  exact ⟨⟨c1, decide_eq_true (by unfold lenI; rw [a2, b2])⟩, decide_eq_true (by rw [c2, d2, a3, b3])⟩
theorem form_all {s : List (List Int)} {L : Nat} {N : Int} (h : ∀ x ∈ s, okW x ∧ x.length = L ∧ sumZ x = N) : ∀ x ∈ formL s, okW x ∧ x.length = L ∧ sumZ x = N ∧ admB x = true := fun x hx => by
  obtain ⟨y, hy, hx⟩ := List.mem_flatMap.1 (oddL_mem hx)
  obtain ⟨k1, k2, k3⟩ := h y hy
  obtain ⟨h1, h2, h3, h4⟩ := nf_word hx k1.2.1
  exact ⟨⟨by rw [h1]; exact k1.1, h3, by rw [h2]; exact k1.2.2⟩, by omega, by omega, h4⟩
theorem isLB_form {s : List (List Int)} {L : Nat} {N : Int} (h : ∀ x ∈ s, okW x ∧ x.length = L ∧ sumZ x = N) : isLB (formL s) = true :=
  isLB_of (formL_asc _) (fun x hx => ⟨(form_all h x hx).1, (form_all h x hx).2.1, (form_all h x hx).2.2.1⟩) (few_adm (formL_asc _) (form_all h))

/-! ### what the law asks -/
theorem dAll_all {s : List (List Int)} {L : Nat} {N : Int} (h : ∀ x ∈ s, okW x ∧ x.length = L ∧ sumZ x = N) (hL : L ≤ 6) : ∀ w ∈ dAll s, okW w ∧ w.length = L + 1 ∧ sumZ w = N - 1 := fun w hw => by
  obtain ⟨x, hx, hw⟩ := List.mem_flatMap.1 hw
  obtain ⟨k1, k2, k3⟩ := h x hx
  obtain ⟨l1, l2, l3⟩ := dWord_ok k1.2.1 hw
  exact ⟨dWord_okW k1 (by omega) hw, by omega, by omega⟩
theorem dif_inv {g d : List (List Int)} (h : difO g = (0, d)) : isLB g = true ∧ (g.isEmpty = true ∨ (g.headD []).length ≠ 7) ∧ d = formL (dAll g) := by
  cases hg : isLB g
  · rw [difO_bad hg] at h; simp at h
  · by_cases h2 : g.isEmpty = true ∨ (g.headD []).length ≠ 7
    · rw [difO_ok hg h2] at h
      injection h with _ h
      exact ⟨rfl, h2, h.symm⟩
    · have h3 : g.isEmpty = false := by cases e : g.isEmpty with | false => rfl | true => exact absurd (.inl e) h2
      have h4 : (g.headD []).length = 7 := by
        by_cases e : (g.headD []).length = 7
        · exact e
        · exact absurd (.inr e) h2
      rw [difO_lim hg h3 h4] at h; simp at h
theorem head_in {s : List (List Int)} (h : s.isEmpty = false) : s.headD [] ∈ s := by
  match s, h with
  | x :: r, _ => simp
/-- the differential of a differential is nothing, or is refused -/
theorem dd_law {g d : List (List Int)} (h : difO g = (0, d)) : difO d = (0, []) ∨ difO d = (3, []) := by
  obtain ⟨hg, h2, rfl⟩ := dif_inv h
  have ha := isLB_all hg
  have h6 : g.isEmpty = true ∨ (g.headD []).length ≤ 6 := by
    rcases h2 with h2 | h2
    · exact .inl h2
    · exact .inr (by have := (isLB_head hg).1; omega)
  have hal : ∀ w ∈ dAll g, okW w ∧ w.length = (g.headD []).length + 1 ∧ sumZ w = psT 0 (g.headD []) - 1 := by
    rcases h6 with h6 | h6
    · rw [List.isEmpty_iff.1 h6]; intro w hw; cases hw
    · exact dAll_all ha h6
  have hd := isLB_form hal
  cases he : (formL (dAll g)).isEmpty
  · have hh := form_all hal _ (head_in he)
    by_cases h7 : ((formL (dAll g)).headD []).length = 7
    · exact .inr (difO_lim hd he h7)
    · refine .inl ?_
      rw [difO_ok hd (.inr h7), form_dd fun x hx => ⟨(ha x hx).1, by have := (ha x hx).2.1; have := hh.2.1; have := hh.1.1; omega⟩]
  · refine .inl ?_
    rw [difO_ok hd (.inl he), List.isEmpty_iff.1 he]
    rfl
theorem mul_inv {a b p : List (List Int)} (h : mulO a b = (0, p)) : isLB a = true ∧ isLB b = true ∧ p = formL (prods a b) ∧
    (a.isEmpty = true ∨ b.isEmpty = true ∨ ((a.headD []).length + (b.headD []).length ≤ 7 ∧ psT 0 (a.headD []) + psT 0 (b.headD []) ≤ 11)) := by
  cases ha : isLB a
  · rw [mulO_bad1 ha] at h; simp at h
  · cases hb : isLB b
    · rw [mulO_bad2 hb] at h; simp at h
    · cases he : (a.isEmpty || b.isEmpty)
      · by_cases hl : (a.headD []).length + (b.headD []).length ≤ 7 ∧ psT 0 (a.headD []) + psT 0 (b.headD []) ≤ 11
        · rw [mulO_ok ha hb he hl] at h
          injection h with _ h
          exact ⟨rfl, rfl, h.symm, .inr (.inr hl)⟩
        · rw [mulO_lim ha hb he hl] at h; simp at h
      · rw [mulO_zero ha hb he] at h
        injection h with _ h
        rw [Bool.or_eq_true] at he
        refine ⟨rfl, rfl, ?_, ?_⟩
        · rcases he with he | he
          · rw [List.isEmpty_iff.1 he, ← h]; rfl
          · rw [List.isEmpty_iff.1 he, ← h]
            have : prods a [] = [] := by unfold prods; induction a with | nil => rfl | cons x r ih => simp
            rw [this]; rfl
        · rcases he with he | he
          · exact .inl he
          · exact .inr (.inl he)
theorem prods_all {a b : List (List Int)} {L M : Nat} {N K : Int} (ha : ∀ x ∈ a, okW x ∧ x.length = L ∧ sumZ x = N) (hb : ∀ x ∈ b, okW x ∧ x.length = M ∧ sumZ x = K) (hl : L + M ≤ 7) (hs : N + K ≤ 11) :
    ∀ z ∈ prods a b, okW z ∧ z.length = L + M ∧ sumZ z = N + K := fun z hz => by
  obtain ⟨x, hx, y, hy, rfl⟩ := mem_prods hz
  obtain ⟨a1, a2, a3⟩ := ha x hx
  obtain ⟨b1, b2, b3⟩ := hb y hy
  exact ⟨okW_app a1.2.1 b1.2.1 (by omega) (by omega), by rw [List.length_append]; omega, by rw [sumZ_append]; omega⟩
theorem form_one {r : Int} (h : 0 ≤ r) : formL [[r]] = [[r]] := by
  have : nfS [[r]] = [[r]] := nfS_adm fun x hx => by rw [List.mem_singleton.1 hx]; rfl
  show oddL (nfS [[r]]) = _
  rw [this]
  exact oddL_of_asc (by simp [Asc])
theorem prods_none (a : List (List Int)) : prods a [] = [] := by unfold prods; induction a with | nil => rfl | cons x r ih => simp
/-- products are associative -/
theorem assoc_law {a b c p l bc ri : List (List Int)} {r : Int} (hr : 0 ≤ r) (hc : c = [[r]]) (h1 : mulO a b = (0, p)) (h2 : mulO p c = (0, l)) (h3 : mulO b c = (0, bc)) (h4 : mulO a bc = (0, ri))
    (hl : (a.headD []).length + (b.headD []).length ≤ 6) (ha0 : a.isEmpty = false) (hb0 : b.isEmpty = false) : l = ri := by
  obtain ⟨ha, hb, rfl, k1⟩ := mul_inv h1
  obtain ⟨_, hcB, rfl, k2⟩ := mul_inv h2
  obtain ⟨_, _, rfl, k3⟩ := mul_inv h3
  obtain ⟨_, _, rfl, k4⟩ := mul_inv h4
  have aa := isLB_all ha
  have bb := isLB_all hb
  have k1 : (a.headD []).length + (b.headD []).length ≤ 7 ∧ psT 0 (a.headD []) + psT 0 (b.headD []) ≤ 11 := by
    rcases k1 with k | k | k
    · rw [ha0] at k; cases k
    · rw [hb0] at k; cases k
    · exact k
  have cc := isLB_all hcB
  have hc1 : (c.headD []).length = 1 := by rw [hc]; rfl
  have hcr : psT 0 (c.headD []) = r := by
    have := (cc (c.headD []) (by rw [hc]; simp)).2.2
    rw [hc] at this ⊢
    simp only [List.headD_cons, sumZ] at this ⊢
    omega
  have hc0 : c.isEmpty = false := by rw [hc]; rfl
  have ab := prods_all aa bb k1.1 k1.2
  have k3 : psT 0 (b.headD []) + r ≤ 11 := by
    rcases k3 with k | k | k
    · rw [hb0] at k; cases k
    · rw [hc0] at k; cases k
    · rw [hcr] at k; exact k.2
  have bc := prods_all bb cc (by omega) (by rw [hcr]; exact k3)
  by_cases hall : psT 0 (a.headD []) + psT 0 (b.headD []) + r ≤ 11
  · have e1 : formL (prods (formL (prods a b)) c) = formL (prods (prods a b) c) := by
      have := form_prods (a := prods a b) (b := c) (fun x hx y hy => by
        obtain ⟨x1, x2, x3⟩ := ab x hx
        obtain ⟨y1, y2, y3⟩ := cc y hy
        exact okW_app x1.2.1 y1.2.1 (by omega) (by omega)) (fun y hy => (cc y hy).1.2.1)
      rw [hc] at this ⊢
      rwa [form_one hr] at this
    have e2 : formL (prods a (formL (prods b c))) = formL (prods a (prods b c)) := by
      have g1 := form_prods (a := a) (b := formL (prods b c)) (fun x hx y hy => by
        obtain ⟨x1, x2, x3⟩ := aa x hx
        obtain ⟨y1, y2, y3, _⟩ := form_all bc y hy
        exact okW_app x1.2.1 y1.2.1 (by omega) (by omega)) (fun y hy => (form_all bc y hy).1.2.1)
      have g2 := form_prods (a := a) (b := prods b c) (fun x hx y hy => by
        obtain ⟨x1, x2, x3⟩ := aa x hx
        obtain ⟨y1, y2, y3⟩ := bc y hy
        exact okW_app x1.2.1 y1.2.1 (by omega) (by omega)) (fun y hy => (bc y hy).1.2.1)
      rw [form_form fun y hy => (bc y hy).1.2.1] at g1
      rw [← g1, g2]
    rw [e1, e2, prods_assoc]
  · have p0 : (formL (prods a b)).isEmpty = true := by
      rcases k2 with k | k | k
      · exact k
      · rw [hc0] at k; cases k
      · cases he : (formL (prods a b)).isEmpty
        · have := form_all ab _ (head_in he)
          obtain ⟨_, d2⟩ := wordB_of this.1
          rw [d2, this.2.2.1, hcr] at k
          omega
        · rfl
    have b0 : (formL (prods b c)).isEmpty = true := by
      rcases k4 with k | k | k
      · rw [ha0] at k; cases k
      · exact k
      · cases he : (formL (prods b c)).isEmpty
        · have := form_all bc _ (head_in he)
          obtain ⟨_, d2⟩ := wordB_of this.1
          rw [d2, this.2.2.1, hcr] at k
          omega
        · rfl
    rw [List.isEmpty_iff.1 p0, List.isEmpty_iff.1 b0, prods_none]
    rfl
theorem mul_run {a b : List (List Int)} (ha : isLB a = true) (hb : isLB b = true) (h : a.isEmpty = true ∨ b.isEmpty = true ∨ ((a.headD []).length + (b.headD []).length ≤ 7 ∧ psT 0 (a.headD []) + psT 0 (b.headD []) ≤ 11)) : mulO a b = (0, formL (prods a b)) := by
  rcases h with h | h | h
  · rw [mulO_zero ha hb (by rw [h]; rfl), List.isEmpty_iff.1 h]; rfl
  · rw [mulO_zero ha hb (by rw [h]; simp), List.isEmpty_iff.1 h, prods_none]; rfl
  · cases he : (a.isEmpty || b.isEmpty)
    · exact mulO_ok ha hb he h
    · rw [mulO_zero ha hb he]
      rw [Bool.or_eq_true] at he
      rcases he with he | he
      · rw [List.isEmpty_iff.1 he]; rfl
      · rw [List.isEmpty_iff.1 he, prods_none]; rfl
/-- the differential of a product -/
theorem leib_law {a b p : List (List Int)} (h1 : mulO a b = (0, p)) (ha0 : a.isEmpty = false) (hb0 : b.isEmpty = false) (hl : (a.headD []).length + (b.headD []).length ≤ 6) :
    ∃ da db f s u, difO p = (0, u) ∧ difO a = (0, da) ∧ difO b = (0, db) ∧ mulO da b = (0, f) ∧ mulO a db = (0, s) ∧ addO f s = (0, u) := by
  obtain ⟨ha, hb, rfl, k1⟩ := mul_inv h1
  have aa := isLB_all ha
  have bb := isLB_all hb
  have k1 : (a.headD []).length + (b.headD []).length ≤ 7 ∧ psT 0 (a.headD []) + psT 0 (b.headD []) ≤ 11 := by
    rcases k1 with k | k | k
    · rw [ha0] at k; cases k
    · rw [hb0] at k; cases k
    · exact k
  have ab := prods_all aa bb k1.1 k1.2
  have a6 : (a.headD []).length ≤ 6 := by omega
  have b6 : (b.headD []).length ≤ 6 := by omega
  have dA := dAll_all aa a6
  have dB := dAll_all bb b6
  have fA := isLB_form dA
  have fB := isLB_form dB
  have hsA := (isLB_head ha).2
  have hsB := (isLB_head hb).2
  have m1 : mulO (formL (dAll a)) b = (0, formL (prods (formL (dAll a)) b)) := mul_run fA hb (by
    cases he : (formL (dAll a)).isEmpty
    · right; right
      have := form_all dA _ (head_in he)
      obtain ⟨_, d2⟩ := wordB_of this.1
      rw [d2, this.2.1, this.2.2.1]
      omega
    · exact .inl rfl)
  have m2 : mulO a (formL (dAll b)) = (0, formL (prods a (formL (dAll b)))) := mul_run ha fB (by
    cases he : (formL (dAll b)).isEmpty
    · right; right
      have := form_all dB _ (head_in he)
      obtain ⟨_, d2⟩ := wordB_of this.1
      rw [d2, this.2.1, this.2.2.1]
      omega
    · exact .inr (.inl rfl))
  have P1 : ∀ z ∈ prods (dAll a) b, okW z ∧ z.length = (a.headD []).length + (b.headD []).length + 1 ∧ sumZ z = psT 0 (a.headD []) + psT 0 (b.headD []) - 1 := fun z hz => by
    obtain ⟨z1, z2, z3⟩ := prods_all dA bb (by omega) (by omega) z hz
    exact ⟨z1, by omega, by omega⟩
  have P2 : ∀ z ∈ prods a (dAll b), okW z ∧ z.length = (a.headD []).length + (b.headD []).length + 1 ∧ sumZ z = psT 0 (a.headD []) + psT 0 (b.headD []) - 1 := fun z hz => by
    obtain ⟨z1, z2, z3⟩ := prods_all aa dB (by omega) (by omega) z hz
    exact ⟨z1, by omega, by omega⟩
  have e1 : formL (prods (formL (dAll a)) b) = formL (prods (dAll a) b) := by
    have g1 := form_prods (a := dAll a) (b := b) (fun x hx y hy => (P1 (x ++ y) (List.mem_flatMap.2 ⟨x, hx, List.mem_flatMap.2 ⟨y, hy, by simp⟩⟩)).1) (fun y hy => (bb y hy).1.2.1)
    have g2 := form_prods (a := formL (dAll a)) (b := b) (fun x hx y hy => by
      obtain ⟨x1, x2, x3, _⟩ := form_all dA x hx
      obtain ⟨y1, y2, y3⟩ := bb y hy
      exact okW_app x1.2.1 y1.2.1 (by omega) (by omega)) (fun y hy => (bb y hy).1.2.1)
    rw [form_form fun y hy => (dA y hy).1.2.1] at g2
    rw [← g2, g1]
  have e2 : formL (prods a (formL (dAll b))) = formL (prods a (dAll b)) := by
    have g1 := form_prods (a := a) (b := dAll b) (fun x hx y hy => (P2 (x ++ y) (List.mem_flatMap.2 ⟨x, hx, List.mem_flatMap.2 ⟨y, hy, by simp⟩⟩)).1) (fun y hy => (dB y hy).1.2.1)
    have g2 := form_prods (a := a) (b := formL (dAll b)) (fun x hx y hy => by
      obtain ⟨x1, x2, x3⟩ := aa x hx
      obtain ⟨y1, y2, y3, _⟩ := form_all dB y hy
      exact okW_app x1.2.1 y1.2.1 (by omega) (by omega)) (fun y hy => (form_all dB y hy).1.2.1)
    rw [form_form fun y hy => (dB y hy).1.2.1] at g2
    rw [← g2, g1]
  have f1 := form_all P1
  have f2 := form_all P2
  have u1 : ∀ x ∈ oddL (formL (prods (dAll a) b) ++ formL (prods a (dAll b))), okW x ∧ x.length = (a.headD []).length + (b.headD []).length + 1 ∧ sumZ x = psT 0 (a.headD []) + psT 0 (b.headD []) - 1 ∧ admB x = true := fun x hx => by
    rcases List.mem_append.1 (oddL_mem hx) with h | h
    · exact f1 x h
    · exact f2 x h
  have ab7 : ∀ x ∈ prods a b, okW x ∧ x.length ≤ 6 := fun x hx => ⟨(ab x hx).1, by have := (ab x hx).2.1; omega⟩
  have hw : formL (dAll (formL (prods a b))) = oddL (formL (prods (dAll a) b) ++ formL (prods a (dAll b))) := by
    rw [form_dif ab7, ← formL_app]
    exact oddL_congr (nfS_same (dif_prods a b))
  refine ⟨_, _, _, _, oddL (formL (prods (dAll a) b) ++ formL (prods a (dAll b))), ?_, difO_ok ha (.inr (by omega)), difO_ok hb (.inr (by omega)), m1, m2, ?_⟩
  · rw [difO_ok (isLB_form ab) ?_, hw]
    cases he : (formL (prods a b)).isEmpty
    · right
      have := (form_all ab _ (head_in he)).2.1
      omega
    · exact .inl rfl
  · rw [e1, e2]
    refine addO_ok (isLB_form P1) (isLB_form P2) ?_ (few_adm (oddL_asc _) u1)
    unfold fits
    cases hx : (formL (prods (dAll a) b)).isEmpty
    · cases hy : (formL (prods a (dAll b))).isEmpty
      · have x1 := f1 _ (head_in hx)
        have y1 := f2 _ (head_in hy)
        obtain ⟨_, dx⟩ := wordB_of x1.1
        obtain ⟨_, dy⟩ := wordB_of y1.1
        have : sizeEq (formL (prods (dAll a) b)) (formL (prods a (dAll b))) = true := by
          unfold sizeEq
          rw [dx, dy, x1.2.1, y1.2.1, x1.2.2.1, y1.2.2.1]
          simp
        rw [this]; rfl
      · rfl
    · rfl
theorem adm_at : ∀ {x : List Int} {k : Nat} {y z : Int}, admB x = true → x[k]? = some y → x[k + 1]? = some z → z ≤ 2 * y
  | a :: b :: r, 0, y, z, h, h1, h2 => by
    simp only [List.getElem?_cons_zero, List.getElem?_cons_succ, Option.some.injEq] at h1 h2
    subst h1; subst h2
    exact adm_head2 h
  | a :: r, k + 1, y, z, h, h1, h2 => by
    simp only [List.getElem?_cons_succ] at h1 h2
    exact adm_at (adm_tail h) h1 h2
  | [_], 0, y, z, _, _, h2 => by simp at h2
  | [], _, y, z, _, h1, _ => by simp at h1
end Go.Proofs.YtgmbbpaokcjnhaaGreatDoor
