/- Plain: the reference's way to the admissible form: the first word with a fault is replaced by the words of the relation, until none has one. -/
import Derived.Test.YthaokhjkibbplaaLam2
namespace Go.Proofs.Ythaokhjkibbplaa
open Go.RowKit
set_option linter.unusedVariables false

def uni : List (List Int) := wordsU 7 11
/-- how much is still to come: the words from the one at this place on -/
def mu (T : List (List Int)) (i : Nat) : Nat := match T[i]? with
  | none => 0
  | some x => (uni.filter fun u => !ltL u x).length + 1
theorem filter_less {u : List (List Int)} {p q : List Int → Bool} (h : ∀ x, q x = true → p x = true) {x : List Int} (hx : x ∈ u) (hp : p x = true) (hq : q x = false) : (u.filter q).length < (u.filter p).length := by
  have le : ∀ u : List (List Int), (u.filter q).length ≤ (u.filter p).length := by
    intro u
    induction u with
    | nil => simp
    | cons a u ih =>
      cases h1 : q a
      · rw [List.filter_cons_of_neg (by simp [h1])]
        cases h2 : p a
        · rw [List.filter_cons_of_neg (by simp [h2])]; exact ih
        · rw [List.filter_cons_of_pos h2, List.length_cons]; omega
      · rw [List.filter_cons_of_pos h1, List.filter_cons_of_pos (h a h1), List.length_cons, List.length_cons]; omega
  induction u with
  | nil => simp at hx
  | cons a u ih =>
    rcases List.mem_cons.1 hx with rfl | hx
    · rw [List.filter_cons_of_neg (by simp [hq]), List.filter_cons_of_pos hp, List.length_cons]
      have := le u
      omega
    · have := ih hx
      cases h1 : q a
      · rw [List.filter_cons_of_neg (by simp [h1])]
        cases h2 : p a
        · rw [List.filter_cons_of_neg (by simp [h2])]; exact this
        · rw [List.filter_cons_of_pos h2, List.length_cons]; omega
      · rw [List.filter_cons_of_pos h1, List.filter_cons_of_pos (h a h1), List.length_cons, List.length_cons]; omega
theorem mu_lt {T T' : List (List Int)} {i j : Nat} {x : List Int} (hx : T[i]? = some x) (hok : okW x) (h : T'[j]? = none ∨ ∃ y, T'[j]? = some y ∧ ltL x y = true) : mu T' j < mu T i := by
  unfold mu
  rw [hx]
  rcases h with h | ⟨y, h, hlt⟩
  · rw [h]; simp
  · rw [h]
    simp only
    have := filter_less (u := uni) (p := fun u => !ltL u x) (q := fun u => !ltL u y) (fun z hz => by
      cases h1 : ltL z x
      · rfl
      · rw [ltL_trans h1 hlt] at hz; exact hz) (x := x) (mem_wordsU hok.1 hok.2.1 (by have := hok.2.2; omega)) (by simp [ltL_irrefl]) (by simp [hlt])
    omega
theorem asc_part {t : List (List Int)} (h : Asc t) (x : List Int) : t = (t.filter fun z => ltL z x) ++ t.filter fun z => !ltL z x := by
  induction t with
  | nil => rfl
  | cons a t ih =>
    obtain ⟨h1, h2⟩ := List.pairwise_cons.1 h
    cases ha : ltL a x
    · have e : t.filter (fun z => ltL z x) = [] := by
        rw [List.filter_eq_nil_iff]
        intro z hz hzx
        have := ltL_trans (h1 z hz) hzx
        rw [this] at ha; cases ha
      rw [List.filter_cons_of_neg (by simp [ha]), e, List.filter_cons_of_pos (by simp [ha]), List.nil_append]
      congr 1
      have := ih h2
      rw [e, List.nil_append] at this
      exact this
    · rw [List.filter_cons_of_pos (p := fun z => ltL z x) ha, List.filter_cons_of_neg (p := fun z => !ltL z x) (by simp [ha]), List.cons_append]
      congr 1
      exact ih h2
theorem asc_take {s : List (List Int)} (h : Asc s) {i : Nat} {x : List Int} (hx : s[i]? = some x) : s.take i = s.filter fun z => ltL z x := by
  obtain ⟨hi, e⟩ := List.getElem?_eq_some_iff.1 hx
  have e1 : s = s.take i ++ s.drop i := (List.take_append_drop i s).symm
  have hp := List.pairwise_iff_getElem.1 h
  have f1 : (s.take i).filter (fun z => ltL z x) = s.take i := by
    rw [List.filter_eq_self]
    intro z hz
    obtain ⟨j, hj, rfl⟩ := List.getElem_of_mem hz
    rw [List.length_take] at hj
    rw [List.getElem_take, ← e]
    exact hp j i (by omega) hi (by omega)
  have f2 : (s.drop i).filter (fun z => ltL z x) = [] := by
    rw [List.filter_eq_nil_iff]
    intro z hz hzx
    obtain ⟨j, hj, rfl⟩ := List.getElem_of_mem hz
    rw [List.length_drop] at hj
    rw [List.getElem_drop] at hzx
    rcases Nat.eq_zero_or_pos j with rfl | hj0
    · simp only [Nat.add_zero, e] at hzx
      rw [ltL_irrefl] at hzx; cases hzx
    · have := hp i (i + j) hi (by omega) (by omega)
      rw [e] at this
      have := ltL_trans this hzx
      rw [ltL_irrefl] at this; cases this
  conv => rhs; rw [e1]
  rw [List.filter_append, f1, f2, List.append_nil]
theorem asc_front {s t : List (List Int)} (hs : Asc s) (ht : Asc t) {i : Nat} {x : List Int} (hx : s[i]? = some x) (hm : ∀ z, ltL z x = true → (z ∈ t ↔ z ∈ s)) (hn : x ∉ t) :
    (∀ j, j < i → t[j]? = s[j]?) ∧ (t[i]? = none ∨ ∃ y, t[i]? = some y ∧ ltL x y = true) := by
  have hi := (List.getElem?_eq_some_iff.1 hx).1
  have e1 := asc_take hs hx
  have e2 : t.filter (fun z => ltL z x) = s.take i := by
    rw [e1]
    refine asc_ext (ht.filter _) (hs.filter _) fun z => ?_
    rw [List.mem_filter, List.mem_filter]
    exact ⟨fun h => ⟨(hm z h.2).1 h.1, h.2⟩, fun h => ⟨(hm z h.2).2 h.1, h.2⟩⟩
  have e3 := asc_part ht x
  rw [e2] at e3
  have hl : (s.take i).length = i := by rw [List.length_take]; omega
  refine ⟨fun j hj => ?_, ?_⟩
  · rw [e3, List.getElem?_append_left (by omega), List.getElem?_take_of_lt hj]
  · rw [e3, List.getElem?_append_right (by omega), hl, Nat.sub_self]
    match hr : t.filter (fun z => !ltL z x) with
    | [] => exact .inl rfl
    | y :: r =>
      refine .inr ⟨y, rfl, ?_⟩
      have hy : y ∈ t.filter (fun z => !ltL z x) := by rw [hr]; simp
      obtain ⟨h1, h2⟩ := List.mem_filter.1 hy
      rcases ltL_tri x y with h | h | h
      · exact h
      · exact absurd (h ▸ h1) hn
      · rw [h] at h2; cases h2

theorem cmp_prefix (u : List Int) {a c : Int} (v v' : List Int) (h : a < c) : ltL (u ++ a :: v) (u ++ c :: v') = true := by
  rw [ltL_iff]
  induction u with
  | nil => simp [cmpL, h]
  | cons x u ih => simp only [List.cons_append, cmpL, Int.lt_irrefl, if_false]; exact ih

structure RedInv (xss T : List (List Int)) (i : Nat) : Prop where
  asc : Asc T
  ok : ∀ x ∈ T, okW x
  same : SameSum (nfS T) (nfS xss)
  adm : ∀ j, j < i → ∀ x, T[j]? = some x → admB x = true
theorem RedInv.next {xss T : List (List Int)} {i : Nat} {x : List Int} (h : RedInv xss T i) (hx : T[i]? = some x) (ha : admB x = true) : RedInv xss T (i + 1) ∧ mu T (i + 1) < mu T i := by
  refine ⟨⟨h.asc, h.ok, h.same, fun j hj y hy => ?_⟩, mu_lt hx (h.ok x (List.mem_of_getElem? hx)) ?_⟩
  · by_cases e : j = i
    · subst e; rw [hx] at hy; injection hy with hy; exact hy ▸ ha
    · exact h.adm j (by omega) y hy
  · cases hy : T[i + 1]? with
    | none => exact .inl rfl
    | some y =>
      refine .inr ⟨y, rfl, ?_⟩
      obtain ⟨h1, e1⟩ := List.getElem?_eq_some_iff.1 hx
      obtain ⟨h2, e2⟩ := List.getElem?_eq_some_iff.1 hy
      have := (List.pairwise_iff_getElem.1 h.asc) i (i + 1) h1 h2 (by omega)
      rwa [e1, e2] at this
theorem RedInv.end_ {xss T : List (List Int)} {i : Nat} (h : RedInv xss T i) (hi : T.length ≤ i) : T = formL xss :=
  form_eq h.asc (fun x hx => by
    obtain ⟨j, hj, rfl⟩ := List.getElem_of_mem hx
    exact h.adm j (by omega) _ (List.getElem?_eq_getElem hj)) h.same
/-- the words that stand for a word with a fault -/
def repl (u v : List Int) (a b : Int) : List (List Int) := (relP a b).map fun p => u ++ p.1 :: p.2 :: v
theorem repl_ok {u v : List Int} {a b : Int} (h : okW (u ++ a :: b :: v)) : ∀ y ∈ repl u v a b, okW y ∧ ltL (u ++ a :: b :: v) y = true := by
  intro y hy
  obtain ⟨p, hp, rfl⟩ := List.mem_map.1 hy
  have ha : 0 ≤ a := h.2.1 a (by simp)
  have hp' := relP_mem hp ha
  obtain ⟨h1, h2, h3⟩ := h
  refine ⟨⟨by simpa using h1, fun z hz => ?_, ?_⟩, cmp_prefix u (b :: v) (p.2 :: v) hp'.2.1⟩
  · rcases List.mem_append.1 hz with hz | hz
    · exact h2 z (List.mem_append_left _ hz)
    · rcases List.mem_cons.1 hz with rfl | hz
      · omega
      · rcases List.mem_cons.1 hz with rfl | hz
        · omega
        · exact h2 z (by simp [hz])
  · rw [sumZ_append] at h3 ⊢
    simp only [sumZ] at h3 ⊢
    omega
theorem RedInv.step {xss T more : List (List Int)} {i : Nat} {u v : List Int} {a b : Int} (h : RedInv xss T i) (hx : T[i]? = some (u ++ a :: b :: v)) (hab : 2 * a < b) (hma : Asc more) (hm : SameSum more ((u ++ a :: b :: v) :: repl u v a b))
    (hmm : ∀ y ∈ more, y = u ++ a :: b :: v ∨ y ∈ repl u v a b) : RedInv xss (oddL (T ++ more)) i ∧ mu (oddL (T ++ more)) i < mu T i ∧ i ≤ (oddL (T ++ more)).length := by
  have hok := h.ok _ (List.mem_of_getElem? hx)
  have hr := repl_ok hok
  obtain ⟨x, hxe⟩ : ∃ x, x = u ++ a :: b :: v := ⟨_, rfl⟩
  have cnt : ∀ z, ltL z x = true → more.count z = 0 := fun z hz => by
    rw [List.count_eq_zero]
    intro hzm
    rcases hmm z hzm with e | hzr
    · rw [e, ← hxe, ltL_irrefl] at hz; cases hz
    · have := (hr z hzr).2
      rw [← hxe] at this
      have := ltL_trans this hz
      rw [ltL_irrefl] at this; cases this
  have odd : ∀ z, z ∈ oddL (T ++ more) ↔ (T.count z + more.count z) % 2 = 1 := fun z => by
    have h1 := oddL_same (T ++ more) z
    rw [asc_count (oddL_asc _), List.count_append] at h1
    by_cases hz : z ∈ oddL (T ++ more)
    · rw [if_pos hz] at h1; exact ⟨fun _ => by omega, fun _ => hz⟩
    · rw [if_neg hz] at h1; exact ⟨fun hz' => absurd hz' hz, fun h2 => by omega⟩
  have hf := asc_front h.asc (oddL_asc (T ++ more)) hx (fun z hz => by
    rw [← hxe] at hz
    rw [odd z, cnt z hz, Nat.add_zero, asc_count h.asc]
    by_cases hzT : z ∈ T <;> simp [hzT]) (by
    rw [odd, asc_count h.asc, if_pos (List.mem_of_getElem? hx)]
    have h1 := hm (u ++ a :: b :: v)
    have h2 : (repl u v a b).count (u ++ a :: b :: v) = 0 := by
      rw [List.count_eq_zero]
      intro hz
      have := (hr _ hz).2
      rw [ltL_irrefl] at this; cases this
    rw [List.count_cons_self, h2] at h1
    omega)
  refine ⟨⟨oddL_asc _, fun y hy => ?_, ?_, fun j hj y hy => ?_⟩, mu_lt hx hok hf.2, ?_⟩
  · rcases List.mem_append.1 (oddL_mem hy) with hy | hy
    · exact h.ok y hy
    · rcases hmm y hy with e | hy
      · rw [e]; exact hok
      · exact (hr y hy).1
  · refine (nfS_same (oddL_same _)).trans ?_
    have e : nfS (T ++ more) = nfS T ++ nfS more := by simp [nfS]
    rw [e]
    have h1 : SameSum (nfS more) (nf (u ++ a :: b :: v) ++ (relP a b).flatMap fun p => nf (u ++ p.1 :: p.2 :: v)) := by
      refine (nfS_same hm).trans ?_
      have : nfS ((u ++ a :: b :: v) :: repl u v a b) = nf (u ++ a :: b :: v) ++ (relP a b).flatMap fun p => nf (u ++ p.1 :: p.2 :: v) := by
        simp [nfS, repl, List.flatMap_map]
      rw [this]
      exact SameSum.refl _
    have h2 := nf_step hok.2.1 hok.2.2 hok.1 hab
    have h3 : SameSum (nfS T ++ nfS more) (nfS T) := fun z => by
      have := h1 z
      have := h2 z
      rw [List.count_append] at *
      omega
    exact h3.trans h.same
  · rw [hf.1 j hj] at hy
    exact h.adm j hj y hy
  · rcases Nat.eq_zero_or_pos i with rfl | hi
    · exact Nat.zero_le _
    · have hi2 := (List.getElem?_eq_some_iff.1 hx).1
      have h1 := hf.1 (i - 1) (by omega)
      rw [List.getElem?_eq_getElem (show i - 1 < T.length by omega)] at h1
      have := (List.getElem?_eq_some_iff.1 h1).1
      omega
end Go.Proofs.Ythaokhjkibbplaa
