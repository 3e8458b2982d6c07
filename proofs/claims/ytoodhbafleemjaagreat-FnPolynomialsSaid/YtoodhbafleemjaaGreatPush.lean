/- Lists that a function makes and appends to, followed from its start: StL (lists of lists), StS (integers); appends of one element and of whole lists. -/
import Derived.Test.YtoodhbafleemjaaGreatMid
import Derived.Test.YtoodhbafleemjaaGreatOwnR
namespace Go.Proofs.YtoodhbafleemjaaGreat
open Go.RowKit
set_option linter.unusedVariables false

/-- From w0 to w nothing below B has turned; the slice at A owns lists from B on, the lists' blocks below K. -/
structure StL (w0 : World) (B : Nat) (w : World) (K : Nat) (A : Option Addr) (n c : Nat) (xss : List (List Int)) : Prop where
  own : OwnL w B K A n c xss
  bel : Below B w0 w
  lo : B ≤ K
  hi : K ≤ w.heap.size
theorem StL.call {w0 w w1 : World} {B K n c : Nat} {A : Option Addr} {xss : List (List Int)} (h : StL w0 B w K A n c xss) (hb : Below w.heap.size w w1) : StL w0 B w1 K A n c xss :=
  ⟨h.own.below hb, h.bel.trans (hb.mono (Nat.le_trans h.lo h.hi)), h.lo, Nat.le_trans h.hi hb.size⟩
theorem StL.here {w0 w : World} {B K n c : Nat} {A : Option Addr} {xss : List (List Int)} (h : StL w0 B w K A n c xss) : StL w0 B w w.heap.size A n c xss :=
  ⟨h.own.mono (Nat.le_refl _) h.hi, h.bel, Nat.le_trans h.lo h.hi, Nat.le_refl _⟩
theorem StL.size {w0 w : World} {B K n c : Nat} {A : Option Addr} {xss : List (List Int)} (h : StL w0 B w K A n c xss) : B ≤ w.heap.size := Nat.le_trans h.lo h.hi
theorem StL.drewN {w0 w : World} {B K n c : Nat} {A : Option Addr} {xss : List (List Int)} (h : StL w0 B w K A n c xss) (k : Nat) : StL w0 B (w.drewN k) K A n c xss := h.call (below_drewN (Below.refl _ _) k)
theorem StL.start {w0 w : World} {B : Nat} (hb : Below B w0 w) (hB : B ≤ w.heap.size) : StL w0 B (w.alloc (.cells #[] 41)) (w.heap.size + 1) (some ⟨w.heap.size, 0, none⟩) 0 0 [] :=
  ⟨ownL_empty w B _ hB, hb.alloc hB _, Nat.le_succ_of_le hB, by simp⟩
theorem StL.none {w0 w : World} {B : Nat} (hb : Below B w0 w) (hB : B ≤ w.heap.size) : StL w0 B w w.heap.size none 0 0 [] := ⟨OwnL.nil, hb, hB, Nat.le_refl _⟩
theorem StL.ret {w w' : World} {K n c : Nat} {A : Option Addr} {xss : List (List Int)} (h : StL w w.heap.size w' K A n c xss) : RetL n xss w (.returned (.slice A n c)) w' := ⟨A, c, rfl, h.own.mono (Nat.le_refl _) h.hi, h.bel⟩
theorem RetL.mk {w w' : World} {K n m c : Nat} {A : Option Addr} {xss yss : List (List Int)} (hm : m = n) (hx : yss = xss) (h : StL w w.heap.size w' K A m c yss) : RetL n xss w (.returned (.slice A m c)) w' := by subst hm; subst hx; exact h.ret
theorem StL.rd {w0 w : World} {B K n c : Nat} {A : Option Addr} {xss : List (List Int)} (h : StL w0 B w K A n c xss) : RdL w w.heap.size A n c xss := h.own.rd

theorem rdV_newP (w : World) (v : Value) (E : TypeId) : RdV (w.alloc (.cells #[v] E)) (w.heap.size + 1) (some ⟨w.heap.size, 0, Option.none⟩) 1 1 [v] :=
  ⟨rfl, Nat.le_refl _, fun j hj => ⟨_, rfl, Nat.lt_succ_self _, by
    have : j = 0 := by simpa using hj
    subst this
    simp [Addr.add]⟩⟩
/-- append of one list of one's own that lies from K on; the element stands in the block that was laid last. -/
theorem wpList_pushL {w0 w : World} {ops : Array Oper} {rest : List Oper} {o : Oper} {a : Act} {Q : Exit → Act → World → Prop} (hgd : o.guard = none) (s x : Operand)
    (ho : o.op = .call { callee := .builtin .append, args := #[s, x], argTypes := #[24, 24] }) {B K n c n' c' : Nat} {A A' : Option Addr} {xss : List (List Int)} {xs : List Int}
    (hs : a.eval s = .slice A n c) (hx : a.eval x = .slice (some ⟨w.heap.size, 0, Option.none⟩) 1 1) (hst : StL w0 B w K A n c xss) (hnew : OwnS w K A' n' c' xs) (hn : n ≤ 3000000000000)
    (h : ∀ A2 c2 w', StL w0 B w' w'.heap.size A2 (n + 1) c2 (xss ++ [xs]) → w.grownBy w' (Value.ownBlock (.slice A n c)) → (Value.ownBlock (.slice A2 (n + 1) c2) = Value.ownBlock (.slice A n c) ∨ ∀ g, Value.ownBlock (.slice A2 (n + 1) c2) = some g → w.heap.size ≤ g) →
      wpList Tryz.prog ops Q rest (a.put o.dst (.slice A2 (n + 1) c2)) w') : wpList Tryz.prog ops Q (o :: rest) a (w.alloc (.cells #[.slice A' n' c'] 41)) := by
  have hb : Below w.heap.size w (w.alloc (.cells #[.slice A' n' c'] 41)) := (Below.refl _ _).alloc (Nat.le_refl _) _
  refine wpList_appL hgd s x ho hs hx (hst.own.below hb) (hnew.below hb) (rdV_newP w (.slice A' n' c') 41) (by omega) hst.lo (Nat.le_trans hst.hi hb.size) fun A2 c2 w' h1 hg hr => h A2 c2 w' ⟨h1, (hst.bel.trans (hb.mono hst.size)).grown hg (Nat.le_trans hst.size hb.size) (hst.own.row), Nat.le_trans hst.size (Nat.le_trans hb.size hg.size), Nat.le_refl _⟩ (grownBy_trans (World.grownBy_alloc w _ _) hg) ?_
  rcases hr with h | h
  · exact .inl h
  · exact .inr fun g hg => by rw [h] at hg; injection hg with hg; simp at hg; omega

/-- append of a whole owned list that lies from K on: it goes over. -/
theorem wpList_joinL {w0 w : World} {ops : Array Oper} {rest : List Oper} {o : Oper} {a : Act} {Q : Exit → Act → World → Prop} (hgd : o.guard = none) (s x : Operand)
    (ho : o.op = .call { callee := .builtin .append, args := #[s, x], argTypes := #[24, 24] }) {B K K2 n c m d : Nat} {A Ax : Option Addr} {xss yss : List (List Int)}
    (hs : a.eval s = .slice A n c) (hx : a.eval x = .slice Ax m d) (hst : StL w0 B w K A n c xss) (hnew : OwnL w K K2 Ax m d yss) (hK2 : K2 ≤ w.heap.size) (hn : n + m ≤ 3000000000000)
    (h : ∀ A2 c2 w', StL w0 B w' w'.heap.size A2 (n + m) c2 (xss ++ yss) → w.grownBy w' (Value.ownBlock (.slice A n c)) → (Value.ownBlock (.slice A2 (n + m) c2) = Value.ownBlock (.slice A n c) ∨ ∀ g, Value.ownBlock (.slice A2 (n + m) c2) = some g → w.heap.size ≤ g) →
      wpList Tryz.prog ops Q rest (a.put o.dst (.slice A2 (n + m) c2)) w') : wpList Tryz.prog ops Q (o :: rest) a w := by
  obtain ⟨vs, h1, h2, h3⟩ := hst.own.rows
  obtain ⟨us, k1, k2, k3⟩ := hnew.rows
  have one : ∀ u ∈ us, u.oneCell' = true := by
    intro u hu
    obtain ⟨j, hj, rfl⟩ := List.getElem_of_mem hu
    obtain ⟨_, _, _, e, _⟩ := k2 j us[j] (yss[j]'(by rw [hnew.len, ← k1.len]; exact hj)) (List.getElem?_eq_getElem hj) (List.getElem?_eq_getElem _)
    rw [e]; rfl
  refine wpList_appV eltL hgd s x ho hs hx h1 k1.rd one (by omega) (by decide) hst.size fun A2 c2 w' h4 hg h5 => h A2 c2 w' ⟨?_, hst.bel.grown hg hst.size h1.row, Nat.le_trans hst.size hg.size, Nat.le_refl _⟩ hg ?_
  · have hvl : ∀ (j : Nat) (v : Value) (g : Nat), vs[j]? = some v → v.ownBlock = some g → g < K := fun j v g hv hg' => by
      have hj := (List.getElem?_eq_some_iff.1 hv).1
      obtain ⟨_, _, _, _, _, hk⟩ := h2 j v (xss[j]'(by rw [hst.own.len, ← h1.len]; exact hj)) hv (List.getElem?_eq_getElem _)
      exact hk g hg'
    have hul : ∀ (j : Nat) (v : Value) (g : Nat), us[j]? = some v → v.ownBlock = some g → K ≤ g := fun j v g hv hg' => by
      have hj := (List.getElem?_eq_some_iff.1 hv).1
      obtain ⟨_, _, _, e, ho', _⟩ := k2 j v (yss[j]'(by rw [hnew.len, ← k1.len]; exact hj)) hv (List.getElem?_eq_getElem _)
      subst e
      exact (ho'.own.lt g hg').1
    refine ⟨by rw [List.length_append, hst.own.len, hnew.len], vs ++ us, h4, fun j v ys hv hy => ?_, fun i j u v g hij hu hv hgu hgv => ?_⟩
    · by_cases hj : j < vs.length
      · rw [List.getElem?_append_left hj] at hv
        rw [List.getElem?_append_left (by rw [hst.own.len, ← h1.len]; exact hj)] at hy
        refine ((h2 j v ys hv hy).grown hg fun g hgb e => ?_).mono (Nat.le_refl _) (Nat.le_trans hst.hi hg.size)
        exact kinds_ne (by decide) ((h2 j v ys hv hy).kind g hgb) (h1.kind g e.symm) rfl
      · rw [List.getElem?_append_right (by omega)] at hv
        rw [List.getElem?_append_right (by rw [hst.own.len, ← h1.len]; omega), hst.own.len, ← h1.len] at hy
        refine ((k2 _ v ys hv hy).grown hg fun g hgb e => ?_).mono hst.lo (Nat.le_trans hK2 hg.size)
        exact kinds_ne (by decide) ((k2 _ v ys hv hy).kind g hgb) (h1.kind g e.symm) rfl
    · by_cases hj : j < vs.length
      · rw [List.getElem?_append_left hj] at hv
        rw [List.getElem?_append_left (by omega)] at hu
        exact h3 i j u v g hij hu hv hgu hgv
      · rw [List.getElem?_append_right (by omega)] at hv
        by_cases hi : i < vs.length
        · rw [List.getElem?_append_left hi] at hu
          have := hvl i u g hu hgu
          have := hul _ v g hv hgv
          omega
        · rw [List.getElem?_append_right (by omega)] at hu
          exact k3 _ _ u v g (by omega) hu hv hgu hgv
  · rcases h5 with h | h
    · exact .inl h
    · exact .inr fun g hg' => by rw [h] at hg'; injection hg' with hg'; omega

/-- The slice at A owns integers from B on; from w0 to w nothing below B has turned. -/
structure StS (w0 : World) (B : Nat) (w : World) (A : Option Addr) (n c : Nat) (xs : List Int) : Prop where
  own : OwnS w B A n c xs
  bel : Below B w0 w
  hi : B ≤ w.heap.size
theorem StS.call {w0 w w1 : World} {B n c : Nat} {A : Option Addr} {xs : List Int} (h : StS w0 B w A n c xs) (hb : Below w.heap.size w w1) : StS w0 B w1 A n c xs :=
  ⟨h.own.below hb, h.bel.trans (hb.mono h.hi), Nat.le_trans h.hi hb.size⟩
theorem StS.drewN {w0 w : World} {B n c : Nat} {A : Option Addr} {xs : List Int} (h : StS w0 B w A n c xs) (k : Nat) : StS w0 B (w.drewN k) A n c xs := h.call (below_drewN (Below.refl _ _) k)
theorem StS.start {w0 w : World} {B : Nat} (hb : Below B w0 w) (hB : B ≤ w.heap.size) : StS w0 B (w.alloc (.cells #[] 2)) (some ⟨w.heap.size, 0, none⟩) 0 0 [] := ⟨own_empty w B hB, hb.alloc hB _, Nat.le_trans hB (by simp)⟩
theorem StS.none {w0 w : World} {B : Nat} (hb : Below B w0 w) (hB : B ≤ w.heap.size) : StS w0 B w none 0 0 [] := ⟨OwnS.nil, hb, hB⟩
theorem StS.ret {w w' : World} {n c : Nat} {A : Option Addr} {xs : List Int} (h : StS w w.heap.size w' A n c xs) : RetO n xs w (.returned (.slice A n c)) w' := ⟨A, c, rfl, h.own, h.bel⟩
theorem RetO.mk2 {w w' : World} {n m c : Nat} {A : Option Addr} {xs ys : List Int} (hm : m = n) (hx : ys = xs) (h : StS w w.heap.size w' A m c ys) : RetO n xs w (.returned (.slice A m c)) w' := by subst hm; subst hx; exact h.ret
/-- append of integers from whatever reads -/
theorem wpList_joinI {w0 w : World} {ops : Array Oper} {rest : List Oper} {o : Oper} {a : Act} {Q : Exit → Act → World → Prop} (hgd : o.guard = none) (s x : Operand)
    (ho : o.op = .call { callee := .builtin .append, args := #[s, x], argTypes := #[41, 41] }) {B n c m d Bx : Nat} {A Ax : Option Addr} {xs ys : List Int}
    (hs : a.eval s = .slice A n c) (hx : a.eval x = .slice Ax m d) (hst : StS w0 B w A n c xs) (hr : RdS w Bx Ax m d ys) (hn : n + m ≤ 3000000000000)
    (h : ∀ A2 c2 w', StS w0 B w' A2 (n + m) c2 (xs ++ ys) → w.grownBy w' (Value.ownBlock (.slice A n c)) → wpList Tryz.prog ops Q rest (a.put o.dst (.slice A2 (n + m) c2)) w') : wpList Tryz.prog ops Q (o :: rest) a w :=
  wpList_appI hgd s x ho hs hx hst.own hr (by omega) hst.hi fun A2 c2 w' h1 hg _ => h A2 c2 w' ⟨h1, hst.bel.grown hg hst.hi hst.own.row, Nat.le_trans hst.hi hg.size⟩ hg
/-- append of one integer, which stands in the block that was laid last -/
theorem wpList_pushI {w0 w : World} {ops : Array Oper} {rest : List Oper} {o : Oper} {a : Act} {Q : Exit → Act → World → Prop} (hgd : o.guard = none) (s x : Operand)
    (ho : o.op = .call { callee := .builtin .append, args := #[s, x], argTypes := #[41, 41] }) {B n c : Nat} {A : Option Addr} {xs : List Int} {y : Int}
    (hs : a.eval s = .slice A n c) (hx : a.eval x = .slice (some ⟨w.heap.size, 0, Option.none⟩) 1 1) (hst : StS w0 B w A n c xs) (hn : n ≤ 2000000000000)
    (h : ∀ A2 c2 w', StS w0 B w' A2 (n + 1) c2 (xs ++ [y]) → w.grownBy w' (Value.ownBlock (.slice A n c)) → wpList Tryz.prog ops Q rest (a.put o.dst (.slice A2 (n + 1) c2)) w') : wpList Tryz.prog ops Q (o :: rest) a (w.alloc (.cells #[.int .i64 y] 2)) :=
  wpList_joinI hgd s x ho hs hx (hst.call ((Below.refl _ _).alloc (Nat.le_refl _) _)) (rd_new w y 2) (by omega) fun A2 c2 w' h1 hg => h A2 c2 w' h1 (grownBy_trans (World.grownBy_alloc w _ _) hg)
end Go.Proofs.YtoodhbafleemjaaGreat
