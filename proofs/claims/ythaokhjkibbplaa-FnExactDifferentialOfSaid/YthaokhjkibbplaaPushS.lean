/- The steps of regions that draw their order: a list pushed. -/
import Derived.Test.YthaokhjkibbplaaLamR
namespace Go.Proofs.Ythaokhjkibbplaa
open Go.RowKit
set_option linter.unusedVariables false

theorem wp_appL {w : World} {o : Oper} {a : Act} {K9 : Act → World → Prop} {Q : Exit → Act → World → Prop} (s x : Operand)
    (ho : o.op = .call { callee := .builtin .append, args := #[s, x], argTypes := #[22, 22] }) {B K n c n' c' d Bx : Nat} {A A' Ax : Option Addr} {xss : List (List Int)} {xs : List Int}
    (hs : a.eval s = .slice A n c) (hx : a.eval x = .slice Ax 1 d) (hown : OwnL w B K A n c xss) (hnew : OwnS w K A' n' c' xs) (hr : RdV w Bx Ax 1 d [.slice A' n' c'])
    (hb : n + 1 ≤ 4000000000000) (hBK : B ≤ K) (hK : K ≤ w.heap.size)
    (h : ∀ A2 c2 w', OwnL w' B w'.heap.size A2 (n + 1) c2 (xss ++ [xs]) → w.grownBy w' (Value.ownBlock (.slice A n c)) → (Value.ownBlock (.slice A2 (n + 1) c2) = Value.ownBlock (.slice A n c) ∨ Value.ownBlock (.slice A2 (n + 1) c2) = some w.heap.size) →
      K9 (a.put o.dst (.slice A2 (n + 1) c2)) w') : Oper.wp Try.prog o a w K9 Q := by
  obtain ⟨vs, h1, h2, h3⟩ := hown.rows
  refine wp_appV eltL s x ho hs hx h1 hr (by intro u hu; rw [List.mem_singleton.1 hu]; rfl) hb (by decide) (Nat.le_trans hBK hK) fun A2 c2 w' h4 hg h5 => h A2 c2 w' ?_ hg h5
  have hnk : ∀ g, Value.ownBlock (.slice A' n' c') = some g → K ≤ g ∧ g < w.heap.size := fun g hg => hnew.own.lt g hg
  refine ⟨by rw [List.length_append, hown.len]; rfl, vs ++ [.slice A' n' c'], h4, fun j v ys hv hy => ?_, fun i j u v g hij hu hv hgu hgv => ?_⟩
  · by_cases hj : j < vs.length
    · rw [List.getElem?_append_left hj] at hv
      rw [List.getElem?_append_left (by rw [hown.len, ← h1.len]; exact hj)] at hy
      refine ((h2 j v ys hv hy).grown hg fun g hgb e => ?_).mono (Nat.le_refl _) (Nat.le_trans hK hg.size)
      exact kinds_ne (by decide) ((h2 j v ys hv hy).kind g hgb) (h1.kind g e.symm) rfl
    · have hj' : j = vs.length := by
        have := (List.getElem?_eq_some_iff.1 hv).1
        simp at this; omega
      subst hj'
      rw [List.getElem?_append_right (Nat.le_refl _), Nat.sub_self] at hv
      rw [h1.len, ← hown.len, List.getElem?_append_right (Nat.le_refl _), Nat.sub_self] at hy
      simp only [List.getElem?_cons_zero, Option.some.injEq] at hv hy
      subst hv; subst hy
      refine ⟨A', n', c', rfl, (hnew.mono hBK).grown hg (fun ad had e => ?_), fun g hg' => Nat.lt_of_lt_of_le (hnk g hg').2 hg.size⟩
      exact kinds_ne (by decide) (hnew.kind ad.block (by subst had; rfl)) (h1.kind ad.block e.symm) rfl
  · by_cases hj : j < vs.length
    · rw [List.getElem?_append_left hj] at hv
      rw [List.getElem?_append_left (by omega)] at hu
      exact h3 i j u v g hij hu hv hgu hgv
    · have hj' : j = vs.length := by
        have := (List.getElem?_eq_some_iff.1 hv).1
        simp at this; omega
      subst hj'
      rw [List.getElem?_append_right (Nat.le_refl _), Nat.sub_self] at hv
      rw [List.getElem?_append_left hij] at hu
      simp only [List.getElem?_cons_zero, Option.some.injEq] at hv
      subst hv
      have hi : i < xss.length := by rw [hown.len, ← h1.len]; exact hij
      obtain ⟨_, _, _, _, _, hk⟩ := h2 i u xss[i] hu (List.getElem?_eq_getElem hi)
      have := hk g hgu
      have := (hnk g hgv).1
      omega


theorem wp_pushL {w0 w : World} {o : Oper} {a : Act} {K9 : Act → World → Prop} {Q : Exit → Act → World → Prop} (s x : Operand)
    (ho : o.op = .call { callee := .builtin .append, args := #[s, x], argTypes := #[22, 22] }) {B K n c n' c' : Nat} {A A' : Option Addr} {xss : List (List Int)} {xs : List Int}
    (hs : a.eval s = .slice A n c) (hx : a.eval x = .slice (some ⟨w.heap.size, 0, Option.none⟩) 1 1) (hst : StL w0 B w K A n c xss) (hnew : OwnS w K A' n' c' xs) (hn : n ≤ 3000000000000)
    (h : ∀ A2 c2 w', StL w0 B w' w'.heap.size A2 (n + 1) c2 (xss ++ [xs]) → w.grownBy w' (Value.ownBlock (.slice A n c)) → (Value.ownBlock (.slice A2 (n + 1) c2) = Value.ownBlock (.slice A n c) ∨ ∀ g, Value.ownBlock (.slice A2 (n + 1) c2) = some g → w.heap.size ≤ g) →
      K9 (a.put o.dst (.slice A2 (n + 1) c2)) w') : Oper.wp Try.prog o a (w.alloc (.cells #[.slice A' n' c'] 40)) K9 Q := by
  have hb : Below w.heap.size w (w.alloc (.cells #[.slice A' n' c'] 40)) := (Below.refl _ _).alloc (Nat.le_refl _) _
  refine wp_appL s x ho hs hx (hst.own.below hb) (hnew.below hb) (rdV_newP w (.slice A' n' c') 40) (by omega) hst.lo (Nat.le_trans hst.hi hb.size) fun A2 c2 w' h1 hg hr => h A2 c2 w' ⟨h1, (hst.bel.trans (hb.mono hst.size)).grown hg (Nat.le_trans hst.size hb.size) (hst.own.row), Nat.le_trans hst.size (Nat.le_trans hb.size hg.size), Nat.le_refl _⟩ (grownBy_trans (World.grownBy_alloc w _ _) hg) ?_
  rcases hr with h | h
  · exact .inl h
  · exact .inr fun g hg => by rw [h] at hg; injection hg with hg; simp at hg; omega

theorem step_pushL {w0 w : World} {ops : Array Oper} {o : Oper} {a : Act} {K9 : Act → World → Prop} {Q : Exit → Act → World → Prop} {E : Prop} (hgd : o.guard = none) (s x : Operand)
    (ho : o.op = .call { callee := .builtin .append, args := #[s, x], argTypes := #[22, 22] }) {B K n c n' c' : Nat} {A A' : Option Addr} {xss : List (List Int)} {xs : List Int} {H : Nat}
    (hs : a.eval s = .slice A n c) (hH : w.heap.size = H) (hx : a.eval x = .slice (some ⟨H, 0, Option.none⟩) 1 1) (hst : StL w0 B w K A n c xss) (hnew : OwnS w K A' n' c' xs) (hn : n ≤ 3000000000000)
    (h : ∀ A2 c2 w', StL w0 B w' w'.heap.size A2 (n + 1) c2 (xss ++ [xs]) → w.grownBy w' (Value.ownBlock (.slice A n c)) → (Value.ownBlock (.slice A2 (n + 1) c2) = Value.ownBlock (.slice A n c) ∨ ∀ g, Value.ownBlock (.slice A2 (n + 1) c2) = some g → w.heap.size ≤ g) →
      K9 (a.put o.dst (.slice A2 (n + 1) c2)) w') :
    if Region.wanted o (yielded ops a.tmps) = true then Oper.wp Try.prog o a (w.alloc (.cells #[.slice A' n' c'] 40)) K9 Q else E := by
  have hw : Region.wanted o (yielded ops a.tmps) = true := by simp [Region.wanted, hgd]
  rw [if_pos hw]
  subst hH
  exact wp_pushL s x ho hs hx hst hnew hn h
end Go.Proofs.Ythaokhjkibbplaa
