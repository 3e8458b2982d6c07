/- Slices of polynomials: reading, owning; the law package's eqPolyS, markPolyS, heldPolyS. -/
import Derived.Test.YtoodhbafleemjaaGreatLawK
import Derived.Test.YtoodhbafleemjaaGreatFrC
import Derived.Lib.QuietBelow
namespace Go.Proofs.YtoodhbafleemjaaGreat
open Go.RowKit
set_option linter.unusedVariables false

/-- a slice that reads as polynomials: pairs of a number and a list of lists -/
structure RdQ (w : World) (B : Nat) (A : Option Addr) (n c : Nat) (ps : List (Int × List (List Int))) : Prop where
  len : ps.length = n
  cap : n ≤ c
  each : ∀ j p, ps[j]? = some p → ∃ g A' n' c', A = some ⟨g, 0, none⟩ ∧ g < B ∧ w.cell? ⟨g, j * 2, none⟩ = some (.int .i64 p.1) ∧ w.cell? ⟨g, j * 2 + 1, none⟩ = some (.slice A' n' c') ∧ RdL w B A' n' c' p.2
theorem RdQ.below {w w' : World} {B n c : Nat} {A : Option Addr} {ps : List (Int × List (List Int))} (h : RdQ w B A n c ps) (hb : Below B w w') : RdQ w' B A n c ps :=
  ⟨h.len, h.cap, fun j p hp => by
    obtain ⟨g, A', n', c', h1, h2, h3, h4, h5⟩ := h.each j p hp
    exact ⟨g, A', n', c', h1, h2, (hb.cell (p := ⟨g, j * 2, none⟩) h2).trans h3, (hb.cell (p := ⟨g, j * 2 + 1, none⟩) h2).trans h4, h5.below hb⟩⟩
theorem RdQ.mono {w : World} {B B' n c : Nat} {A : Option Addr} {ps : List (Int × List (List Int))} (h : RdQ w B A n c ps) (hb : B ≤ B') : RdQ w B' A n c ps :=
  ⟨h.len, h.cap, fun j p hp => by
    obtain ⟨g, A', n', c', h1, h2, h3, h4, h5⟩ := h.each j p hp
    exact ⟨g, A', n', c', h1, by omega, h3, h4, h5.mono hb⟩⟩
theorem RdQ.at_ {w : World} {B n c k : Nat} {A : Option Addr} {ps : List (Int × List (List Int))} (h : RdQ w B A n c ps) (hk : k < n) :
    ∃ g v A' n' c' xss, A = some ⟨g, 0, none⟩ ∧ g < B ∧ Hid (ps[k]? = some (v, xss)) ∧ w.cell? ⟨g, k * 2, none⟩ = some (.int .i64 v) ∧ w.cell? ⟨g, k * 2 + 1, none⟩ = some (.slice A' n' c') ∧ RdL w B A' n' c' xss := by
  have hk' : k < ps.length := by rw [h.len]; exact hk
  obtain ⟨g, A', n', c', h1, h2, h3, h4, h5⟩ := h.each k ps[k] (List.getElem?_eq_getElem hk')
  exact ⟨g, ps[k].1, A', n', c', ps[k].2, h1, h2, Lib.hid (List.getElem?_eq_getElem hk'), h3, h4, h5⟩
/-- how many cells and numbers polynomials hold -/
def totalQ (ps : List (Int × List (List Int))) : Nat := (ps.map fun p => 1 + totalL p.2).sum

theorem ownsRow_same2 {w w' : World} {B E size : Nat} {v : Value} {n : Nat} {xs : List Value} (h : w.ownsRow B E size v n xs) (hs : ∀ g, v.ownBlock = some g → w'.heap[g]? = w.heap[g]?) : w'.ownsRow B E size v n xs := by
  refine ⟨h.1, ?_⟩
  rcases h.2 with hn | ⟨g, cap, cur, rfl, hb, hgg, rest⟩
  · exact .inl hn
  · exact .inr ⟨g, cap, cur, rfl, hb, by rw [hs g rfl]; exact hgg, rest⟩
abbrev Pls := List (Int × List (List Int))
/-- polynomials of one's own: the cells in a block, each list of lists in a stretch of blocks of its own, all blocks from B on and below K -/
structure OwnQ (w : World) (B K : Nat) (A : Option Addr) (n c : Nat) (ps : Pls) : Prop where
  len : ps.length = n
  ex : ∃ (cs : List Value) (lo hi : Nat → Nat), w.ownsRow B 26 2 (.slice A n c) n cs ∧ (∀ g, Value.ownBlock (.slice A n c) = some g → g < K) ∧
    (∀ j v xss, ps[j]? = some (v, xss) → ∃ A' n' c', cs[j * 2]? = some (.int .i64 v) ∧ cs[j * 2 + 1]? = some (.slice A' n' c') ∧ OwnM w (lo j) (hi j) A' n' c' xss) ∧
    (∀ j, j < n → B ≤ lo j ∧ lo j ≤ hi j ∧ hi j ≤ K ∧ ∀ g, Value.ownBlock (.slice A n c) = some g → g < lo j ∨ hi j ≤ g) ∧
    (∀ i j, i < j → j < n → hi i ≤ lo j)
section
variable {w w' : World} {B K n c : Nat} {A : Option Addr} {ps : Pls}
theorem OwnQ.same (h : OwnQ w B K A n c ps) (hs : ∀ g, B ≤ g → g < K → w'.heap[g]? = w.heap[g]?) : OwnQ w' B K A n c ps := by
  obtain ⟨cs, lo, hi, h1, h2, h3, h4, h5⟩ := h.ex
  refine ⟨h.len, cs, lo, hi, ownsRow_same2 h1 fun g hg => hs g (h1.lt g hg).1 (h2 g hg), h2, fun j v xss hj => ?_, h4, h5⟩
  obtain ⟨A', n', c', k1, k2, k3⟩ := h3 j v xss hj
  have hjn : j < n := by rw [← h.len]; exact (List.getElem?_eq_some_iff.1 hj).1
  exact ⟨A', n', c', k1, k2, k3.same fun g hg1 hg2 => hs g (Nat.le_trans (h4 j hjn).1 hg1) (Nat.lt_of_lt_of_le hg2 (h4 j hjn).2.2.1)⟩
theorem OwnQ.below (h : OwnQ w B K A n c ps) (hK : K ≤ w.heap.size) (hb : Below w.heap.size w w') : OwnQ w' B K A n c ps := h.same fun g _ hg => hb.block g (Nat.lt_of_lt_of_le hg hK)
theorem OwnQ.up {K' : Nat} (h : OwnQ w B K A n c ps) (hK : K ≤ K') : OwnQ w B K' A n c ps := by
  obtain ⟨cs, lo, hi, h1, h2, h3, h4, h5⟩ := h.ex
  exact ⟨h.len, cs, lo, hi, h1, fun g hg => Nat.lt_of_lt_of_le (h2 g hg) hK, h3, fun j hj => ⟨(h4 j hj).1, (h4 j hj).2.1, Nat.le_trans (h4 j hj).2.2.1 hK, (h4 j hj).2.2.2⟩, h5⟩
theorem OwnQ.down {B' : Nat} (h : OwnQ w B K A n c ps) (hB : B' ≤ B) : OwnQ w B' K A n c ps := by
  obtain ⟨cs, lo, hi, h1, h2, h3, h4, h5⟩ := h.ex
  exact ⟨h.len, cs, lo, hi, h1.mono hB, h2, h3, fun j hj => ⟨Nat.le_trans hB (h4 j hj).1, (h4 j hj).2⟩, h5⟩
theorem OwnQ.none : OwnQ w B K none 0 0 [] := ⟨rfl, [], fun _ => 0, fun _ => 0, World.ownsRow_nil w B _ 2, fun g hg => (by cases hg), fun j v xss hj => (by simp at hj), fun j hj => (by omega), fun i j _ hj => (by omega)⟩
theorem OwnQ.cap (h : OwnQ w B K A n c ps) : n ≤ c := by
  obtain ⟨cs, lo, hi, h1, _⟩ := h.ex
  rcases h1.2 with ⟨e, h0⟩ | ⟨g, cap, cur, e, _, _, k1, _⟩
  · omega
  · injection e with _ _ e3; subst e3; exact k1
/-- what a store to an element, and marks in an element's lists, need to know -/
theorem OwnQ.at2 (h : OwnQ w B K A n c ps) (hK : K ≤ w.heap.size) {k : Nat} (hk : k < n) :
    ∃ g v A' n' c' xss lo hi, A = some ⟨g, 0, Option.none⟩ ∧ B ≤ g ∧ g < K ∧ Hid (ps[k]? = some (v, xss)) ∧ w.cell? ⟨g, k * 2, Option.none⟩ = some (.int .i64 v) ∧ w.cell? ⟨g, k * 2 + 1, Option.none⟩ = some (.slice A' n' c') ∧ w.frozen? ⟨g, k * 2, Option.none⟩ = false ∧
      OwnM w lo hi A' n' c' xss ∧ B ≤ lo ∧ lo ≤ hi ∧ hi ≤ K ∧ (∀ u : Int, OwnQ (w.setCell ⟨g, k * 2, Option.none⟩ (.int .i64 u)) B K A n c (ps.set k (u, xss))) ∧
      (∀ (w2 : World) yss, OwnM w2 lo hi A' n' c' yss → Mid lo hi w w2 → OwnQ w2 B K A n c (ps.set k (v, yss))) := by
  obtain ⟨cs, lo, hi, h1, h2, h3, h4, h5⟩ := h.ex
  have hk' : k < ps.length := by rw [h.len]; exact hk
  obtain ⟨v, xss, hp⟩ : ∃ v xss, ps[k]? = some (v, xss) := ⟨ps[k].1, ps[k].2, List.getElem?_eq_getElem hk'⟩
  obtain ⟨A', n', c', k1, k2, k3⟩ := h3 k v xss hp
  obtain ⟨g, cap, hv, hb, hlt⟩ := h1.form (by omega)
  injection hv with hA _ hc
  subst hA; subst hc
  have hgK := h2 g rfl
  obtain ⟨q1, q2, q3, q4⟩ := h4 k hk
  refine ⟨g, v, A', n', c', xss, lo k, hi k, rfl, hb, hgK, Lib.hid hp, ?_, ?_, h1.frozenAt _, k3, q1, q2, q3, fun u => ?_, fun w2 yss ho hm => ?_⟩
  · rw [h1.cellAt (k * 2) (by omega)]; exact k1
  · rw [h1.cellAt (k * 2 + 1) (by omega)]; exact k2
  · have hst := h1.stored (k * 2) (.int .i64 u)
    refine ⟨by rw [List.length_set]; exact h.len, cs.set (k * 2) (.int .i64 u), lo, hi, hst.1, h2, fun j v' xss' hj => ?_, h4, h5⟩
    have hjn : j < n := by
      have := (List.getElem?_eq_some_iff.1 hj).1
      rw [List.length_set, h.len] at this; exact this
    have hgj := (h4 j hjn).2.2.2 g rfl
    have hsame : ∀ b, lo j ≤ b → b < hi j → (w.setCell ⟨g, k * 2, Option.none⟩ (.int .i64 u)).heap[b]? = w.heap[b]? := fun b hb1 hb2 => Below.heap_setCell w _ _ b (by show b ≠ g; omega)
    by_cases e : j = k
    · subst e
      rw [List.getElem?_set_self (by omega)] at hj
      injection hj with hj
      injection hj with e1 e2
      subst e1; subst e2
      refine ⟨A', n', c', ?_, ?_, k3.same hsame⟩
      · rw [List.getElem?_set_self (List.getElem?_eq_some_iff.1 k1).1]
      · rw [List.getElem?_set_ne (by omega)]; exact k2
    · rw [List.getElem?_set_ne (fun x => e x.symm)] at hj
      obtain ⟨A2, n2, c2, r1, r2, r3⟩ := h3 j v' xss' hj
      exact ⟨A2, n2, c2, by rw [List.getElem?_set_ne (by omega)]; exact r1, by rw [List.getElem?_set_ne (by omega)]; exact r2, r3.same hsame⟩
  · have hout : ∀ b, b < K → (b < lo k ∨ hi k ≤ b) → w2.heap[b]? = w.heap[b]? := fun b hb1 hb2 => hm.block b (Nat.lt_of_lt_of_le hb1 hK) hb2
    refine ⟨by rw [List.length_set]; exact h.len, cs, lo, hi, ownsRow_same2 h1 fun b hb1 => hout b (h2 b hb1) (q4 b hb1), h2, fun j v' xss' hj => ?_, h4, h5⟩
    have hjn : j < n := by
      have := (List.getElem?_eq_some_iff.1 hj).1
      rw [List.length_set, h.len] at this; exact this
    by_cases e : j = k
    · subst e
      rw [List.getElem?_set_self (by omega)] at hj
      injection hj with hj
      injection hj with e1 e2
      subst e1; subst e2
      exact ⟨A', n', c', k1, k2, ho⟩
    · rw [List.getElem?_set_ne (fun x => e x.symm)] at hj
      obtain ⟨A2, n2, c2, r1, r2, r3⟩ := h3 j v' xss' hj
      refine ⟨A2, n2, c2, r1, r2, r3.same fun b hb1 hb2 => hout b (Nat.lt_of_lt_of_le hb2 (h4 j hjn).2.2.1) ?_⟩
      rcases Nat.lt_or_gt_of_ne e with hl | hl
      · exact .inl (Nat.lt_of_lt_of_le hb2 (h5 j k hl hk))
      · exact .inr (Nat.le_trans (h5 k j hl hjn) hb1)
theorem OwnQ.rd (h : OwnQ w B K A n c ps) (hK : K ≤ w.heap.size) : RdQ w w.heap.size A n c ps :=
  ⟨h.len, h.cap, fun j p hp => by
    have hj : j < n := by rw [← h.len]; exact (List.getElem?_eq_some_iff.1 hp).1
    obtain ⟨g, v, A', n', c', xss, lo, hi, hA, hg, hgK, hp2, hc1, hc2, _, ho, _⟩ := h.at2 hK hj
    obtain rfl : (v, xss) = p := Option.some.inj (hp2.out.symm.trans hp)
    exact ⟨g, A', n', c', hA, Nat.lt_of_lt_of_le hgK hK, hc1, hc2, ho.own.rd⟩⟩
end
theorem It.rdQ {w : World} {B n c : Nat} {A : Option Addr} {ps : Pls} (h : RdQ w B A n c ps) (hB : B ≤ w.heap.size) : It 0 B (fun W => RdQ W B A n c ps) w :=
  ⟨h, hB, fun w' h1 h2 h3 h4 h5 => h.below ⟨h2, h3, h4, h1, fun k hk => h5 k (Nat.zero_le _) hk⟩⟩
theorem It.ownQ {w : World} {B K n c : Nat} {A : Option Addr} {ps : Pls} (h : OwnQ w B K A n c ps) (hK : K ≤ w.heap.size) : It B K (fun W => OwnQ W B K A n c ps) w :=
  ⟨h, hK, fun w' h1 h2 h3 h4 h5 => h.same h5⟩
end Go.Proofs.YtoodhbafleemjaaGreat
