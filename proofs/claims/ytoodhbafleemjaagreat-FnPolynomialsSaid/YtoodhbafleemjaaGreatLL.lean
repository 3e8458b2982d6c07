/- Slices of slices of integers: read (RdL) and owned with all that lies in them (OwnL); the law package's helpers on them. -/
import Derived.Test.YtoodhbafleemjaaGreatApp
namespace Go.Proofs.YtoodhbafleemjaaGreat
open Go.RowKit
set_option linter.unusedVariables false

theorem Tryz.info_s64 : (Tryz.prog.info? 41).map (fun i => (i.zero, i.size, i.bytes)) = some (some (.slice none 0 0), 1, 24) := by kernel_rfl
theorem eltL : Elt 24 41 24 := elt_of Tryz.underlying24 Tryz.info_s64 rfl

/-- A slice value reads as integers, below block B. -/
def RdVal (w : World) (B : Nat) (v : Value) (xs : List Int) : Prop := ∃ A n c, v = .slice A n c ∧ RdS w B A n c xs
theorem RdVal.below {w w' : World} {B : Nat} {v : Value} {xs : List Int} (h : RdVal w B v xs) (hb : Below B w w') : RdVal w' B v xs := by
  obtain ⟨A, n, c, rfl, h⟩ := h; exact ⟨A, n, c, rfl, h.below hb⟩
theorem RdVal.mono {w : World} {B B' : Nat} {v : Value} {xs : List Int} (h : RdVal w B v xs) (hb : B ≤ B') : RdVal w B' v xs := by
  obtain ⟨A, n, c, rfl, h⟩ := h; exact ⟨A, n, c, rfl, h.mono hb⟩

/-- The slice at A reads as the lists xss, all below block B. -/
structure RdL (w : World) (B : Nat) (A : Option Addr) (n c : Nat) (xss : List (List Int)) : Prop where
  len : xss.length = n
  rows : ∃ vs, RdV w B A n c vs ∧ ∀ (j : Nat) (v : Value) (xs : List Int), vs[j]? = some v → xss[j]? = some xs → RdVal w B v xs
theorem RdL.below {w w' : World} {B : Nat} {A : Option Addr} {n c : Nat} {xss : List (List Int)} (h : RdL w B A n c xss) (hb : Below B w w') : RdL w' B A n c xss := by
  obtain ⟨vs, h1, h2⟩ := h.rows
  exact ⟨h.len, vs, h1.below hb, fun j v xs hv hx => (h2 j v xs hv hx).below hb⟩
theorem RdL.mono {w : World} {B B' : Nat} {A : Option Addr} {n c : Nat} {xss : List (List Int)} (h : RdL w B A n c xss) (hb : B ≤ B') : RdL w B' A n c xss := by
  obtain ⟨vs, h1, h2⟩ := h.rows
  exact ⟨h.len, vs, h1.mono hb, fun j v xs hv hx => (h2 j v xs hv hx).mono hb⟩
theorem RdL.drewN {w : World} {B : Nat} {A : Option Addr} {n c : Nat} {xss : List (List Int)} (h : RdL w B A n c xss) (k : Nat) : RdL (w.drewN k) B A n c xss := by
  obtain ⟨vs, h1, h2⟩ := h.rows
  exact ⟨h.len, vs, h1.drewN k, fun j v xs hv hx => by
    obtain ⟨A, n, c, rfl, h3⟩ := h2 j v xs hv hx; exact ⟨A, n, c, rfl, h3.drewN k⟩⟩
theorem RdL.grown {w w' : World} {B : Nat} {A : Option Addr} {n c : Nat} {xss : List (List Int)} {row : Option Nat} (h : RdL w B A n c xss) (hg : w.grownBy w' row) (hB : B ≤ w.heap.size) (hr : ∀ g, row = some g → B ≤ g) : RdL w' B A n c xss :=
  h.below ((Below.refl _ _).grown hg hB hr)
theorem RdL.nil {w : World} {B : Nat} : RdL w B none 0 0 [] := ⟨rfl, [], RdV.nil, fun j v xs hv => by simp at hv⟩
theorem RdL.at_ {w : World} {B : Nat} {A : Option Addr} {n c : Nat} {xss : List (List Int)} (h : RdL w B A n c xss) {k : Nat} (hk : k < n) :
    ∃ ad A' n' c' xs, A = some ad ∧ ad.block < B ∧ Hid (xss[k]? = some xs) ∧ w.cell? (ad.add k) = some (.slice A' n' c') ∧ RdS w B A' n' c' xs := by
  obtain ⟨vs, h1, h2⟩ := h.rows
  obtain ⟨ad, v, rfl, hb, hv, hc⟩ := h1.at_ hk
  have hk' : k < xss.length := by rw [h.len]; exact hk
  obtain ⟨A', n', c', rfl, hr⟩ := h2 k v xss[k] hv.out (List.getElem?_eq_getElem hk')
  exact ⟨ad, A', n', c', xss[k], rfl, hb, Lib.hid (List.getElem?_eq_getElem hk'), hc, hr⟩
theorem RdL.cap {w : World} {B : Nat} {A : Option Addr} {n c : Nat} {xss : List (List Int)} (h : RdL w B A n c xss) : n ≤ c := by
  obtain ⟨vs, h1, _⟩ := h.rows; exact h1.cap

/-- A slice value owns integers in a block of its own, from B on and below K. -/
def OwnVal (w : World) (B K : Nat) (v : Value) (xs : List Int) : Prop := ∃ A n c, v = .slice A n c ∧ OwnS w B A n c xs ∧ ∀ g, v.ownBlock = some g → g < K
theorem OwnVal.grown {w w' : World} {B K : Nat} {v : Value} {xs : List Int} {row : Option Nat} (h : OwnVal w B K v xs) (hg : w.grownBy w' row) (hne : ∀ g, v.ownBlock = some g → some g ≠ row) : OwnVal w' B K v xs := by
  obtain ⟨A, n, c, rfl, h, hk⟩ := h
  exact ⟨A, n, c, rfl, h.grown hg (fun ad had => hne ad.block (by subst had; rfl)), hk⟩
theorem OwnVal.mono {w : World} {B B' K K' : Nat} {v : Value} {xs : List Int} (h : OwnVal w B K v xs) (hb : B' ≤ B) (hk : K ≤ K') : OwnVal w B' K' v xs := by
  obtain ⟨A, n, c, rfl, h, hk'⟩ := h
  exact ⟨A, n, c, rfl, h.mono hb, fun g hg => Nat.lt_of_lt_of_le (hk' g hg) hk⟩
theorem OwnVal.rd {w : World} {B K : Nat} {v : Value} {xs : List Int} (h : OwnVal w B K v xs) : RdVal w w.heap.size v xs := by
  obtain ⟨A, n, c, rfl, h, _⟩ := h; exact ⟨A, n, c, rfl, h.rd⟩
theorem OwnVal.kind {w : World} {B K : Nat} {v : Value} {xs : List Int} (h : OwnVal w B K v xs) : ∀ g, v.ownBlock = some g → ∃ cs, w.heap[g]? = some (.cells cs 2 (0, 0)) := by
  obtain ⟨A, n, c, rfl, h, _⟩ := h
  intro g hg
  rcases h.own.2 with ⟨e, _⟩ | ⟨g', cap, cur, e, _, hh, _⟩
  · injection e with e1; subst e1; cases hg
  · injection e with e1; subst e1
    have : g' = g := by simpa [Value.ownBlock] using hg
    subst this
    exact ⟨cur, hh⟩

/-- The slice at A owns the lists xss: its own row and each list's, all of them apart, from block B on; the lists' blocks below K. -/
structure OwnL (w : World) (B K : Nat) (A : Option Addr) (n c : Nat) (xss : List (List Int)) : Prop where
  len : xss.length = n
  rows : ∃ vs, OwnV w B 41 A n c vs ∧ (∀ (j : Nat) (v : Value) (xs : List Int), vs[j]? = some v → xss[j]? = some xs → OwnVal w B K v xs) ∧
    ∀ (i j : Nat) (u v : Value) (g : Nat), i < j → vs[i]? = some u → vs[j]? = some v → u.ownBlock = some g → v.ownBlock ≠ some g
theorem OwnL.cap {w : World} {B K : Nat} {A : Option Addr} {n c : Nat} {xss : List (List Int)} (h : OwnL w B K A n c xss) : n ≤ c := by
  obtain ⟨vs, h1, _⟩ := h.rows; exact h1.cap.1
theorem OwnL.rd {w : World} {B K : Nat} {A : Option Addr} {n c : Nat} {xss : List (List Int)} (h : OwnL w B K A n c xss) : RdL w w.heap.size A n c xss := by
  obtain ⟨vs, h1, h2, _⟩ := h.rows
  exact ⟨h.len, vs, h1.rd, fun j v xs hv hx => (h2 j v xs hv hx).rd⟩
theorem OwnL.mono {w : World} {B B' K K' : Nat} {A : Option Addr} {n c : Nat} {xss : List (List Int)} (h : OwnL w B K A n c xss) (hb : B' ≤ B) (hk : K ≤ K') : OwnL w B' K' A n c xss := by
  obtain ⟨vs, h1, h2, h3⟩ := h.rows
  exact ⟨h.len, vs, h1.mono hb, fun j v xs hv hx => (h2 j v xs hv hx).mono hb hk, h3⟩
theorem OwnL.nil {w : World} {B K : Nat} : OwnL w B K none 0 0 [] := ⟨rfl, [], OwnV.nil, fun j v xs hv => by simp at hv, fun i j u v g _ hu => by simp at hu⟩
theorem OwnV.kind {w : World} {B E : Nat} {A : Option Addr} {n c : Nat} {vs : List Value} (h : OwnV w B E A n c vs) : ∀ g, Value.ownBlock (.slice A n c) = some g → ∃ cs, w.heap[g]? = some (.cells cs E (0, 0)) := by
  intro g hg
  rcases h.own.2 with ⟨e, _⟩ | ⟨g', cap, cur, e, _, hh, _⟩
  · injection e with e1; subst e1; cases hg
  · injection e with e1; subst e1
    have : g' = g := by simpa [Value.ownBlock] using hg
    subst this
    exact ⟨cur, hh⟩
theorem kinds_ne {w : World} {g g' E E' : Nat} (hne : E ≠ E') (h : ∃ cs, w.heap[g]? = some (.cells cs E (0, 0))) (h' : ∃ cs, w.heap[g']? = some (.cells cs E' (0, 0))) : g ≠ g' := by
  rintro rfl
  obtain ⟨cs, h⟩ := h
  obtain ⟨cs', h'⟩ := h'
  rw [h] at h'
  injection h' with h'
  injection h' with _ ht
  exact hne ht
/-- a write to a row that is none of those owned (an outer row, or a row elsewhere) -/
theorem OwnL.grown {w w' : World} {B K : Nat} {A : Option Addr} {n c : Nat} {xss : List (List Int)} {row : Option Nat} (h : OwnL w B K A n c xss) (hg : w.grownBy w' row) (hK : K ≤ w.heap.size) (hr : ∀ g, row = some g → w.heap.size ≤ g ∨ g < B) : OwnL w' B K A n c xss := by
  obtain ⟨vs, h1, h2, h3⟩ := h.rows
  refine ⟨h.len, vs, h1.grown hg (fun ad had e => ?_), fun j v xs hv hx => (h2 j v xs hv hx).grown hg (fun g hgb e => ?_), h3⟩
  · have := h1.lt had
    rcases hr _ e.symm with h | h <;> omega
  · obtain ⟨A', n', c', rfl, ho, hk⟩ := h2 j v xs hv hx
    have h4 := (ho.own.lt g hgb).1
    have h5 := hk g hgb
    rcases hr _ e.symm with h | h <;> omega
theorem OwnL.below {w w' : World} {B K : Nat} {A : Option Addr} {n c : Nat} {xss : List (List Int)} (h : OwnL w B K A n c xss) (hb : Below w.heap.size w w') : OwnL w' B K A n c xss := by
  obtain ⟨vs, h1, h2, h3⟩ := h.rows
  exact ⟨h.len, vs, h1.below hb, fun j v xs hv hx => (h2 j v xs hv hx).grown (row := none) (grown_of_below hb none) (by simp), h3⟩
/-- a write to another outer row -/
theorem OwnL.grownL {w w' : World} {B K : Nat} {A : Option Addr} {n c : Nat} {xss : List (List Int)} {row : Option Nat} (h : OwnL w B K A n c xss) (hg : w.grownBy w' row)
    (hne : ∀ g, row = some g → Value.ownBlock (.slice A n c) ≠ some g) (hk : ∀ g, row = some g → ∃ cs, w.heap[g]? = some (.cells cs 41 (0, 0))) : OwnL w' B K A n c xss := by
  obtain ⟨vs, h1, h2, h3⟩ := h.rows
  refine ⟨h.len, vs, h1.grown hg (fun ad had e => hne _ e.symm (by subst had; rfl)), fun j v xs hv hx => (h2 j v xs hv hx).grown hg (fun g hgb e => ?_), h3⟩
  exact kinds_ne (by decide) ((h2 j v xs hv hx).kind g hgb) (hk g e.symm) rfl
/-- where the new row of an append lies: apart from another row that lay apart from the old one -/
theorem ne_row {v v' u : Value} {k : Nat} (h : v'.ownBlock = v.ownBlock ∨ v'.ownBlock = some k) (hne : ∀ g, v.ownBlock = some g → u.ownBlock ≠ some g) (hu : ∀ g, u.ownBlock = some g → g < k) : ∀ g, v'.ownBlock = some g → u.ownBlock ≠ some g := by
  intro g hg hug
  rcases h with h | h
  · exact hne g (h ▸ hg) hug
  · have := hu g hug
    rw [h] at hg
    injection hg with hg
    omega
theorem OwnL.drewN {w : World} {B K : Nat} {A : Option Addr} {n c : Nat} {xss : List (List Int)} (h : OwnL w B K A n c xss) (k : Nat) : OwnL (w.drewN k) B K A n c xss :=
  h.below (below_drewN (Below.refl _ _) k)
theorem OwnL.alloc {w : World} {B K : Nat} {A : Option Addr} {n c : Nat} {xss : List (List Int)} (h : OwnL w B K A n c xss) (o : Obj) : OwnL (w.alloc o) B K A n c xss :=
  h.below ((Below.refl _ _).alloc (Nat.le_refl _) o)
theorem OwnL.row {w : World} {B K : Nat} {A : Option Addr} {n c : Nat} {xss : List (List Int)} (h : OwnL w B K A n c xss) : ∀ g, Value.ownBlock (.slice A n c) = some g → B ≤ g := by
  obtain ⟨vs, h1, _⟩ := h.rows; exact h1.row
theorem OwnL.lt {w : World} {B K : Nat} {A : Option Addr} {n c : Nat} {xss : List (List Int)} (h : OwnL w B K A n c xss) : ∀ g, Value.ownBlock (.slice A n c) = some g → g < w.heap.size := by
  obtain ⟨vs, h1, _⟩ := h.rows; exact fun g hg => (h1.own.lt g hg).2
theorem OwnL.kind {w : World} {B K : Nat} {A : Option Addr} {n c : Nat} {xss : List (List Int)} (h : OwnL w B K A n c xss) : ∀ g, Value.ownBlock (.slice A n c) = some g → ∃ cs, w.heap[g]? = some (.cells cs 41 (0, 0)) := by
  obtain ⟨vs, h1, _⟩ := h.rows; exact h1.kind
theorem OwnS.kind {w : World} {B : Nat} {A : Option Addr} {n c : Nat} {xs : List Int} (h : OwnS w B A n c xs) : ∀ g, Value.ownBlock (.slice A n c) = some g → ∃ cs, w.heap[g]? = some (.cells cs 2 (0, 0)) := h.v.kind
theorem ownL_empty (w : World) (B K : Nat) (hB : B ≤ w.heap.size) : OwnL (w.alloc (.cells #[] 41)) B K (some ⟨w.heap.size, 0, none⟩) 0 0 [] :=
  ⟨rfl, [], ownV_empty w B _ hB, fun j v xs hv => by simp at hv, fun i j u v g _ hu => by simp at hu⟩

/-- append of one owned list that lies from K on: it goes over into the whole. -/
theorem wpList_appL {w : World} {ops : Array Oper} {rest : List Oper} {o : Oper} {a : Act} {Q : Exit → Act → World → Prop} (hgd : o.guard = none) (s x : Operand)
    (ho : o.op = .call { callee := .builtin .append, args := #[s, x], argTypes := #[24, 24] }) {B K n c n' c' d Bx : Nat} {A A' Ax : Option Addr} {xss : List (List Int)} {xs : List Int}
    (hs : a.eval s = .slice A n c) (hx : a.eval x = .slice Ax 1 d) (hown : OwnL w B K A n c xss) (hnew : OwnS w K A' n' c' xs) (hr : RdV w Bx Ax 1 d [.slice A' n' c'])
    (hb : n + 1 ≤ 4000000000000) (hBK : B ≤ K) (hK : K ≤ w.heap.size)
    (h : ∀ A2 c2 w', OwnL w' B w'.heap.size A2 (n + 1) c2 (xss ++ [xs]) → w.grownBy w' (Value.ownBlock (.slice A n c)) → (Value.ownBlock (.slice A2 (n + 1) c2) = Value.ownBlock (.slice A n c) ∨ Value.ownBlock (.slice A2 (n + 1) c2) = some w.heap.size) →
      wpList Tryz.prog ops Q rest (a.put o.dst (.slice A2 (n + 1) c2)) w') : wpList Tryz.prog ops Q (o :: rest) a w := by
  obtain ⟨vs, h1, h2, h3⟩ := hown.rows
  refine wpList_appV eltL hgd s x ho hs hx h1 hr (by intro u hu; rw [List.mem_singleton.1 hu]; rfl) hb (by decide) (Nat.le_trans hBK hK) fun A2 c2 w' h4 hg h5 => h A2 c2 w' ?_ hg h5
  have hnk : ∀ g, Value.ownBlock (.slice A' n' c') = some g → K ≤ g ∧ g < w.heap.size := fun g hg => hnew.own.lt g hg
  refine ⟨by rw [List.length_append, hown.len]; rfl, vs ++ [.slice A' n' c'], h4, fun j v ys hv hy => ?_, fun i j u v g hij hu hv hgu hgv => ?_⟩
  · by_cases hj : j < vs.length
    · rw [List.getElem?_append_left hj] at hv
      rw [List.getElem?_append_left (by rw [hown.len, ← h1.len]; exact hj)] at hy
      refine ((h2 j v ys hv hy).grown hg fun g hgb e => ?_).mono (Nat.le_refl _) (Nat.le_trans hK hg.size)
      exact kinds_ne (by decide) ((h2 j v ys hv hy).kind g hgb) (h1.kind g e.symm) rfl
    · have hj' : j = vs.length := by
        have := (List.getElem?_eq_some_iff.1 hv).1
        simp at this; omega
      subst hj'
      rw [List.getElem?_append_right (Nat.le_refl _), Nat.sub_self] at hv
      rw [h1.len, ← hown.len, List.getElem?_append_right (Nat.le_refl _), Nat.sub_self] at hy
      simp only [List.getElem?_cons_zero, Option.some.injEq] at hv hy
      subst hv; subst hy
      refine ⟨A', n', c', rfl, (hnew.mono hBK).grown hg (fun ad had e => ?_), fun g hg' => Nat.lt_of_lt_of_le (hnk g hg').2 hg.size⟩
      exact kinds_ne (by decide) (hnew.kind ad.block (by subst had; rfl)) (h1.kind ad.block e.symm) rfl
  · by_cases hj : j < vs.length
    · rw [List.getElem?_append_left hj] at hv
      rw [List.getElem?_append_left (by omega)] at hu
      exact h3 i j u v g hij hu hv hgu hgv
    · have hj' : j = vs.length := by
        have := (List.getElem?_eq_some_iff.1 hv).1
        simp at this; omega
      subst hj'
      rw [List.getElem?_append_right (Nat.le_refl _), Nat.sub_self] at hv
      rw [List.getElem?_append_left hij] at hu
      simp only [List.getElem?_cons_zero, Option.some.injEq] at hv
      subst hv
      have hi : i < xss.length := by rw [hown.len, ← h1.len]; exact hij
      obtain ⟨_, _, _, _, _, hk⟩ := h2 i u xss[i] hu (List.getElem?_eq_getElem hi)
      have := hk g hgu
      have := (hnk g hgv).1
      omega

theorem OwnL.at_ {w : World} {B K : Nat} {A : Option Addr} {n c : Nat} {xss : List (List Int)} (h : OwnL w B K A n c xss) {k : Nat} (hk : k < n) :
    ∃ ad A' n' c' xs, A = some ad ∧ Hid (xss[k]? = some xs) ∧ w.cell? (ad.add k) = some (.slice A' n' c') ∧ OwnS w B A' n' c' xs ∧
      ∀ w' ys, OwnS w' B A' n' c' ys → w.grownBy w' (Value.ownBlock (.slice A' n' c')) → OwnL w' B K A n c (xss.set k ys) := by
  obtain ⟨vs, h1, h2, h3⟩ := h.rows
  obtain ⟨ad, v, rfl, _, hv, hc⟩ := h1.rd.at_ hk
  have hk' : k < xss.length := by rw [h.len]; exact hk
  obtain ⟨A', n', c', rfl, ho, hK⟩ := h2 k v xss[k] hv.out (List.getElem?_eq_getElem hk')
  refine ⟨ad, A', n', c', xss[k], rfl, Lib.hid (List.getElem?_eq_getElem hk'), hc, ho, fun w' ys hy hg => ⟨by simpa using h.len, vs, ?_, fun j u zs hu hz => ?_, h3⟩⟩
  · exact h1.grown hg fun ad' had e => kinds_ne (by decide) (h1.kind ad'.block (by rw [had]; rfl)) (ho.kind ad'.block e.symm) rfl
  · by_cases hj : j = k
    · subst hj
      rw [hv.out] at hu
      injection hu with hu
      subst hu
      rw [List.getElem?_set_self hk'] at hz
      injection hz with hz
      subst hz
      exact ⟨A', n', c', rfl, hy, hK⟩
    · rw [List.getElem?_set_ne (fun e => hj e.symm)] at hz
      refine (h2 j u zs hu hz).grown hg fun g hgu e => ?_
      rcases Nat.lt_or_gt_of_ne hj with hlt | hlt
      · exact h3 j k u _ g hlt hu hv.out hgu e.symm
      · exact h3 k j _ u g hlt hv.out hu e.symm hgu

/-! ### eqInt64SS, markInt64SS, heldInt64SS -/
def totalL (xss : List (List Int)) : Nat := (xss.map List.length).sum
def marksL (k : Int) : List (List Int) → List (List Int)
  | [] => []
  | xs :: r => marks k xs.length :: marksL (k + xs.length) r
theorem marksL_length (k : Int) (xss : List (List Int)) : (marksL k xss).length = xss.length := by
  induction xss generalizing k with
  | nil => rfl
  | cons xs r ih => simp [marksL, ih]
theorem totalL_take_succ {xss : List (List Int)} {k : Nat} {xs : List Int} (h : Hid (xss[k]? = some xs)) : totalL (xss.take (k + 1)) = totalL (xss.take k) + xs.length := by
  unfold totalL
  rw [List.take_add_one, h.out]; simp
theorem totalL_take_le (xss : List (List Int)) (k : Nat) : totalL (xss.take k) ≤ totalL xss := by
  have h : totalL (xss.take k ++ xss.drop k) = totalL (xss.take k) + totalL (xss.drop k) := by unfold totalL; rw [List.map_append, List.sum_append]
  rw [List.take_append_drop] at h
  omega
theorem len_le_total {xss : List (List Int)} {k : Nat} {xs : List Int} (h : Hid (xss[k]? = some xs)) : xs.length ≤ totalL xss := by
  have h1 := totalL_take_succ h
  have h2 := totalL_take_le xss (k + 1)
  omega
theorem marksL_snoc (m : Int) (xss : List (List Int)) (xs : List Int) : marksL m (xss ++ [xs]) = marksL m xss ++ [marks (m + totalL xss) xs.length] := by
  induction xss generalizing m with
  | nil => simp [marksL, totalL]
  | cons y r ih => simp [marksL, ih, totalL, Int.add_assoc]
theorem marksL_append (m : Int) (a b : List (List Int)) : marksL m (a ++ b) = marksL m a ++ marksL (m + totalL a) b := by
  induction a generalizing m with
  | nil => simp [marksL, totalL]
  | cons y r ih => simp [marksL, ih, totalL, Int.add_assoc]
theorem marksL_set {m : Int} {xss : List (List Int)} {k : Nat} {xs : List Int} (h : Hid (xss[k]? = some xs)) :
    (marksL m (xss.take k) ++ xss.drop k).set k (marks (m + totalL (xss.take k)) xs.length) = marksL m (xss.take (k + 1)) ++ xss.drop (k + 1) := by
  obtain ⟨hk, hx⟩ := List.getElem?_eq_some_iff.1 h.out
  have hl : (marksL m (xss.take k)).length = k := by rw [marksL_length, List.length_take]; omega
  rw [List.set_append_right _ _ (by omega), hl, Nat.sub_self, List.drop_eq_getElem_cons hk, List.set_cons_zero, List.take_succ_eq_append_getElem hk, marksL_snoc, hx]
  simp
theorem marksL_drop {m : Int} {xss : List (List Int)} {k : Nat} : (marksL m (xss.take k) ++ xss.drop k)[k]? = xss[k]? := by
  by_cases hk : k ≤ xss.length
  · have hl : (marksL m (xss.take k)).length = k := by rw [marksL_length, List.length_take]; omega
    rw [List.getElem?_append_right (by omega), hl, Nat.sub_self, List.getElem?_drop]; simp
  · have hl : (marksL m (xss.take k)).length = xss.length := by rw [marksL_length, List.length_take]; omega
    rw [List.getElem?_append_right (by omega), List.getElem?_drop, List.getElem?_eq_none (by omega), List.getElem?_eq_none (by omega)]
theorem marksL_get {m : Int} {xss : List (List Int)} {k : Nat} {ys : List Int} (h : Hid ((marksL m xss)[k]? = some ys)) : ∃ xs, Hid (xss[k]? = some xs) ∧ ys = marks (m + totalL (xss.take k)) xs.length := by
  have hk : k < xss.length := by have := (List.getElem?_eq_some_iff.1 h.out).1; rwa [marksL_length] at this
  refine ⟨xss[k], Lib.hid (List.getElem?_eq_getElem hk), ?_⟩
  have h1 : marksL m xss = marksL m (xss.take k) ++ marksL (m + totalL (xss.take k)) (xss.drop k) := by
    rw [← marksL_append, List.take_append_drop]
  have hl : (marksL m (xss.take k)).length = k := by rw [marksL_length, List.length_take]; omega
  have h2 := h.out
  rw [h1, List.getElem?_append_right (by omega), hl, Nat.sub_self, List.drop_eq_getElem_cons hk] at h2
  simp only [marksL, List.getElem?_cons_zero, Option.some.injEq] at h2
  exact h2.symm

theorem take_succ_eqL {xs ys : List (List Int)} {k : Nat} {x : List Int} (h : Hid (xs.take k = ys.take k)) (hx : Hid (xs[k]? = some x)) (hy : Hid (ys[k]? = some x)) : xs.take (k+1) = ys.take (k+1) := by
  rw [List.take_add_one, List.take_add_one, hx.out, hy.out, h.out]

def RetMarkL (B K : Nat) (A : Option Addr) (n c : Nat) (xss : List (List Int)) (x : Int) (w : World) (e : Ending) (w' : World) : Prop :=
  e = .returned (.int .i64 x) ∧ OwnL w' B K A n c xss ∧ Below B w w'
theorem RetMarkL.mk {B K : Nat} {A : Option Addr} {n c : Nat} {xss : List (List Int)} {x y : Int} {w w' : World} (h : y = x) (ho : OwnL w' B K A n c xss) (hg : Below B w w') :
    RetMarkL B K A n c xss x w (.returned (.int .i64 y)) w' := ⟨by rw [h], ho, hg⟩

/-- A call that hands back a slice of lists of its own, and a code. -/
def RetLC (n : Nat) (xss : List (List Int)) (k : Int) (w : World) (e : Ending) (w' : World) : Prop :=
  ∃ A c, e = .returned (.tuple #[.slice A n c, .int .i64 k]) ∧ OwnL w' w.heap.size w'.heap.size A n c xss ∧ Below w.heap.size w w'
theorem RetLC.mk {n m c : Nat} {A : Option Addr} {xs ys : List (List Int)} {k k' : Int} {w w' : World} (hk : k' = k) (hm : m = n) (ho : OwnL w' w.heap.size w'.heap.size A m c ys) (hxs : ys = xs) (hb : Below w.heap.size w w') :
    RetLC n xs k w (.returned (.tuple #[.slice A m c, .int .i64 k'])) w' := by subst hk; subst hm; subst hxs; exact ⟨A, c, rfl, ho, hb⟩
def RetL (n : Nat) (xss : List (List Int)) (w : World) (e : Ending) (w' : World) : Prop :=
  ∃ A c, e = .returned (.slice A n c) ∧ OwnL w' w.heap.size w'.heap.size A n c xss ∧ Below w.heap.size w w'
end Go.Proofs.YtoodhbafleemjaaGreat
