/- Lists of lists of lists: owning, append; all ways to part an exponent list. -/
import Derived.Test.YtejlkobieohgfaaLawK
import Derived.Test.YtejlkobieohgfaaStep
import Derived.Test.YtejlkobieohgfaaPls
import Derived.Maps.AppendAt
import Derived.Test.YtejlkobieohgfaaIsMi
import Derived.Test.YtejlkobieohgfaaActP
namespace Go.Proofs.Ytejlkobieohgfaa
open Go.RowKit
set_option linter.unusedVariables false

abbrev Lls := List (List (List Int))
theorem Try.info_lls : (Try.prog.info? 22).map (fun i => (i.zero, i.size, i.bytes)) = some (some (.slice none 0 0), 1, 24) := by kernel_rfl
/-- a slice that reads as lists of lists -/
structure RdT (w : World) (B : Nat) (A : Option Addr) (n c : Nat) (ps : Lls) : Prop where
  len : ps.length = n
  cap : n ≤ c
  each : ∀ j p, ps[j]? = some p → ∃ g A' n' c', A = some ⟨g, 0, none⟩ ∧ g < B ∧ w.cell? ⟨g, j, none⟩ = some (.slice A' n' c') ∧ RdL w B A' n' c' p
theorem RdT.below {w w' : World} {B n c : Nat} {A : Option Addr} {ps : Lls} (h : RdT w B A n c ps) (hb : Below B w w') : RdT w' B A n c ps :=
  ⟨h.len, h.cap, fun j p hp => by
    obtain ⟨g, A', n', c', h1, h2, h3, h4⟩ := h.each j p hp
    exact ⟨g, A', n', c', h1, h2, (hb.cell (p := ⟨g, j, none⟩) h2).trans h3, h4.below hb⟩⟩
theorem RdT.mono {w : World} {B B' n c : Nat} {A : Option Addr} {ps : Lls} (h : RdT w B A n c ps) (hb : B ≤ B') : RdT w B' A n c ps :=
  ⟨h.len, h.cap, fun j p hp => by
    obtain ⟨g, A', n', c', h1, h2, h3, h4⟩ := h.each j p hp
    exact ⟨g, A', n', c', h1, by omega, h3, h4.mono hb⟩⟩
theorem RdT.at_ {w : World} {B n c k : Nat} {A : Option Addr} {ps : Lls} (h : RdT w B A n c ps) (hk : k < n) :
    ∃ g A' n' c' xss, A = some ⟨g, 0, none⟩ ∧ g < B ∧ Hid (ps[k]? = some xss) ∧ w.cell? ⟨g, k, none⟩ = some (.slice A' n' c') ∧ RdL w B A' n' c' xss := by
  have hk' : k < ps.length := by rw [h.len]; exact hk
  obtain ⟨g, A', n', c', h1, h2, h3, h4⟩ := h.each k ps[k] (List.getElem?_eq_getElem hk')
  exact ⟨g, A', n', c', ps[k], h1, h2, Lib.hid (List.getElem?_eq_getElem hk'), h3, h4⟩
/-- lists of lists of one's own: the cells in a block, each list of lists in a stretch of blocks of its own, all blocks from B on and below K -/
structure OwnT (w : World) (B K : Nat) (A : Option Addr) (n c : Nat) (ps : Lls) : Prop where
  len : ps.length = n
  ex : ∃ (cs : List Value) (lo hi : Nat → Nat), w.ownsRow B 22 1 (.slice A n c) n cs ∧ (∀ g, Value.ownBlock (.slice A n c) = some g → g < K) ∧
    (∀ j xss, ps[j]? = some xss → ∃ A' n' c', cs[j]? = some (.slice A' n' c') ∧ OwnM w (lo j) (hi j) A' n' c' xss) ∧
    (∀ j, j < n → B ≤ lo j ∧ lo j ≤ hi j ∧ hi j ≤ K ∧ ∀ g, Value.ownBlock (.slice A n c) = some g → g < lo j ∨ hi j ≤ g) ∧
    (∀ i j, i < j → j < n → hi i ≤ lo j)
section
variable {w w' : World} {B K n c : Nat} {A : Option Addr} {ps : Lls}
theorem OwnT.same (h : OwnT w B K A n c ps) (hs : ∀ g, B ≤ g → g < K → w'.heap[g]? = w.heap[g]?) : OwnT w' B K A n c ps := by
  obtain ⟨cs, lo, hi, h1, h2, h3, h4, h5⟩ := h.ex
  refine ⟨h.len, cs, lo, hi, ownsRow_same2 h1 fun g hg => hs g (h1.lt g hg).1 (h2 g hg), h2, fun j xss hj => ?_, h4, h5⟩
  obtain ⟨A', n', c', k1, k3⟩ := h3 j xss hj
  have hjn : j < n := by rw [← h.len]; exact (List.getElem?_eq_some_iff.1 hj).1
  exact ⟨A', n', c', k1, k3.same fun g hg1 hg2 => hs g (Nat.le_trans (h4 j hjn).1 hg1) (Nat.lt_of_lt_of_le hg2 (h4 j hjn).2.2.1)⟩
theorem OwnT.below (h : OwnT w B K A n c ps) (hK : K ≤ w.heap.size) (hb : Below w.heap.size w w') : OwnT w' B K A n c ps := h.same fun g _ hg => hb.block g (Nat.lt_of_lt_of_le hg hK)
theorem OwnT.up {K' : Nat} (h : OwnT w B K A n c ps) (hK : K ≤ K') : OwnT w B K' A n c ps := by
  obtain ⟨cs, lo, hi, h1, h2, h3, h4, h5⟩ := h.ex
  exact ⟨h.len, cs, lo, hi, h1, fun g hg => Nat.lt_of_lt_of_le (h2 g hg) hK, h3, fun j hj => ⟨(h4 j hj).1, (h4 j hj).2.1, Nat.le_trans (h4 j hj).2.2.1 hK, (h4 j hj).2.2.2⟩, h5⟩
theorem OwnT.down {B' : Nat} (h : OwnT w B K A n c ps) (hB : B' ≤ B) : OwnT w B' K A n c ps := by
  obtain ⟨cs, lo, hi, h1, h2, h3, h4, h5⟩ := h.ex
  exact ⟨h.len, cs, lo, hi, h1.mono hB, h2, h3, fun j hj => ⟨Nat.le_trans hB (h4 j hj).1, (h4 j hj).2⟩, h5⟩
theorem OwnT.cap (h : OwnT w B K A n c ps) : n ≤ c := by
  obtain ⟨cs, lo, hi, h1, _⟩ := h.ex
  rcases h1.2 with ⟨e, h0⟩ | ⟨g, cap, cur, e, _, _, k1, _⟩
  · omega
  · injection e with _ _ e3; subst e3; exact k1
/-- what changes in an element's lists need to know -/
theorem OwnT.at2 (h : OwnT w B K A n c ps) (hK : K ≤ w.heap.size) {k : Nat} (hk : k < n) :
    ∃ g A' n' c' xss lo hi, A = some ⟨g, 0, Option.none⟩ ∧ B ≤ g ∧ g < K ∧ Hid (ps[k]? = some xss) ∧ w.cell? ⟨g, k, Option.none⟩ = some (.slice A' n' c') ∧
      OwnM w lo hi A' n' c' xss ∧ B ≤ lo ∧ lo ≤ hi ∧ hi ≤ K ∧
      (∀ (w2 : World) yss, OwnM w2 lo hi A' n' c' yss → Mid lo hi w w2 → OwnT w2 B K A n c (ps.set k yss)) := by
  obtain ⟨cs, lo, hi, h1, h2, h3, h4, h5⟩ := h.ex
  have hk' : k < ps.length := by rw [h.len]; exact hk
  obtain ⟨xss, hp⟩ : ∃ xss, ps[k]? = some xss := ⟨ps[k], List.getElem?_eq_getElem hk'⟩
  obtain ⟨A', n', c', k1, k3⟩ := h3 k xss hp
  obtain ⟨g, cap, hv, hb, hlt⟩ := h1.form (by omega)
  injection hv with hA _ hc
  subst hA; subst hc
  have hgK := h2 g rfl
  obtain ⟨q1, q2, q3, q4⟩ := h4 k hk
  refine ⟨g, A', n', c', xss, lo k, hi k, rfl, hb, hgK, Lib.hid hp, ?_, k3, q1, q2, q3, fun w2 yss ho hm => ?_⟩
  · rw [h1.cellAt k (by omega)]; exact k1
  · have hout : ∀ b, b < K → (b < lo k ∨ hi k ≤ b) → w2.heap[b]? = w.heap[b]? := fun b hb1 hb2 => hm.block b (Nat.lt_of_lt_of_le hb1 hK) hb2
    refine ⟨by rw [List.length_set]; exact h.len, cs, lo, hi, ownsRow_same2 h1 fun b hb1 => hout b (h2 b hb1) (q4 b hb1), h2, fun j xss' hj => ?_, h4, h5⟩
    have hjn : j < n := by
      have := (List.getElem?_eq_some_iff.1 hj).1
      rw [List.length_set, h.len] at this; exact this
    by_cases e : j = k
    · subst e
      rw [List.getElem?_set_self (by omega)] at hj
      injection hj with hj
      subst hj
      exact ⟨A', n', c', k1, ho⟩
    · rw [List.getElem?_set_ne (fun x => e x.symm)] at hj
      obtain ⟨A2, n2, c2, r1, r3⟩ := h3 j xss' hj
      refine ⟨A2, n2, c2, r1, r3.same fun b hb1 hb2 => hout b (Nat.lt_of_lt_of_le hb2 (h4 j hjn).2.2.1) ?_⟩
      rcases Nat.lt_or_gt_of_ne e with hl | hl
      · exact .inl (Nat.lt_of_lt_of_le hb2 (h5 j k hl hk))
      · exact .inr (Nat.le_trans (h5 k j hl hjn) hb1)
theorem OwnT.rd (h : OwnT w B K A n c ps) (hK : K ≤ w.heap.size) : RdT w w.heap.size A n c ps :=
  ⟨h.len, h.cap, fun j p hp => by
    have hj : j < n := by rw [← h.len]; exact (List.getElem?_eq_some_iff.1 hp).1
    obtain ⟨g, A', n', c', xss, lo, hi, hA, hg, hgK, hp2, hc1, ho, _⟩ := h.at2 hK hj
    obtain rfl : xss = p := Option.some.inj (hp2.out.symm.trans hp)
    exact ⟨g, A', n', c', hA, Nat.lt_of_lt_of_le hgK hK, hc1, ho.own.rd⟩⟩
end
/-- lists of lists of one's own, from a function's start -/
structure StT (w0 : World) (B : Nat) (w : World) (K : Nat) (A : Option Addr) (n c : Nat) (ps : Lls) : Prop where
  own : OwnT w B K A n c ps
  bel : Below B w0 w
  lo : B ≤ K
  hi : K ≤ w.heap.size
theorem StT.call {w0 w w1 : World} {B K n c : Nat} {A : Option Addr} {ps : Lls} (h : StT w0 B w K A n c ps) (hb : Below w.heap.size w w1) : StT w0 B w1 K A n c ps :=
  ⟨h.own.below h.hi hb, h.bel.trans (hb.mono (Nat.le_trans h.lo h.hi)), h.lo, Nat.le_trans h.hi hb.size⟩
theorem StT.size {w0 w : World} {B K n c : Nat} {A : Option Addr} {ps : Lls} (h : StT w0 B w K A n c ps) : B ≤ w.heap.size := Nat.le_trans h.lo h.hi
theorem StT.start {w0 w : World} {B : Nat} (hb : Below B w0 w) (hB : B ≤ w.heap.size) : StT w0 B (w.alloc (.cells #[] 22)) (w.alloc (.cells #[] 22)).heap.size (some ⟨w.heap.size, 0, none⟩) 0 0 [] :=
  ⟨⟨rfl, [], fun _ => 0, fun _ => 0, World.ownsRow_made w #[] 0 hB (Nat.zero_le _) rfl, fun g hg => by
      have e : some w.heap.size = some g := hg
      injection e with e; simp; omega, fun j xss hj => (by simp at hj), fun j hj => (by omega), fun i j _ hj => (by omega)⟩, hb.alloc hB _, Nat.le_trans hB (by simp), Nat.le_refl _⟩
/-- what appending one list of lists that stands in the block laid last makes, over any form of the append's law -/
theorem stT_pushed {w0 w w' : World} {B K K2 n c n' c' : Nat} {A A' : Option Addr} {ps : Lls} {xss : List (List Int)} (hst : StT w0 B w K A n c ps) (hnew : OwnM w K K2 A' n' c' xss) (hK : K ≤ K2) (hK2 : K2 ≤ w.heap.size) (v' : Value) (cs : List Value)
    (h1 : (w.alloc (.cells #[.slice A' n' c'] 22)).ownsRow B 22 1 (.slice A n c) n cs) (h2 : ∀ g, Value.ownBlock (.slice A n c) = some g → g < K) (lo hi' : Nat → Nat)
    (h3 : ∀ j xss, ps[j]? = some xss → ∃ A' n' c', cs[j]? = some (.slice A' n' c') ∧ OwnM w (lo j) (hi' j) A' n' c' xss)
    (h4 : ∀ j, j < n → B ≤ lo j ∧ lo j ≤ hi' j ∧ hi' j ≤ K ∧ ∀ g, Value.ownBlock (.slice A n c) = some g → g < lo j ∨ hi' j ≤ g) (h5 : ∀ i j, i < j → j < n → hi' i ≤ lo j)
    (k1 : w'.ownsRow B 22 1 v' (n + 1) (cs ++ [.slice A' n' c'])) (k2 : (w.alloc (.cells #[.slice A' n' c'] 22)).grownBy w' (Value.ownBlock (.slice A n c)))
    (k4 : v'.ownBlock = Value.ownBlock (.slice A n c) ∨ v'.ownBlock = some (w.alloc (.cells #[.slice A' n' c'] 22)).heap.size) :
    ∃ A2 c2, v' = .slice A2 (n + 1) c2 ∧ StT w0 B w' w'.heap.size A2 (n + 1) c2 (ps ++ [xss]) := by
  obtain ⟨w1, hw1⟩ : ∃ W, W = w.alloc (.cells #[.slice A' n' c'] 22) := ⟨_, rfl⟩
  have hb : Below w.heap.size w w1 := by rw [hw1]; exact (Below.refl _ _).alloc (Nat.le_refl _) _
  have hz1 : w1.heap.size = w.heap.size + 1 := by rw [hw1]; simp
  rw [← hw1] at h1 k2 k4
  have hlen : cs.length = n := by have := h1.1; omega
  have hn2 := hnew.below hb
  obtain ⟨g2, cap2, rfl, hg2, hlt2⟩ := k1.form (by omega)
  have hrow : ∀ g, B ≤ g → g < K2 → (∀ b, Value.ownBlock (.slice A n c) = some b → b ≠ g) → w'.heap[g]? = w.heap[g]? := fun g hgB hgK hne => by
    refine (k2.block g (by rw [hz1]; omega) ?_).trans (hb.block g (by omega))
    intro e
    exact hne g e.symm rfl
  have hrow1 : ∀ g, B ≤ g → g < K2 → (∀ b, Value.ownBlock (.slice A n c) = some b → b ≠ g) → w'.heap[g]? = w1.heap[g]? := fun g hgB hgK hne => by
    rw [hrow g hgB hgK hne, hb.block g (by omega)]
  have hsame2 : g2 < K → Value.ownBlock (.slice A n c) = some g2 := fun hlt => by
    rcases k4 with e | e
    · exact e.symm.trans rfl
    · have e2 : some g2 = some w1.heap.size := e
      injection e2 with e2
      have := hst.hi
      omega
  have hg2K : g2 < K ∨ w.heap.size ≤ g2 := by
    rcases k4 with e | e
    · left
      have e2 : Value.ownBlock (.slice A n c) = some g2 := e.symm.trans rfl
      exact h2 g2 e2
    · right
      have e2 : some g2 = some w1.heap.size := e
      injection e2 with e2
      omega
  have hsz' : w1.heap.size ≤ w'.heap.size := k2.size
  refine ⟨_, _, rfl, ⟨by rw [List.length_append, hst.own.len]; rfl, cs ++ [.slice A' n' c'], fun j => if j < n then lo j else K, fun j => if j < n then hi' j else K2, k1, fun g hg => ?_, fun j xss' hj => ?_, fun j hj => ?_, fun i' j hij hj => ?_⟩,
      (hst.bel.trans (hb.mono hst.size)).grown k2 (Nat.le_trans hst.size hb.size) (fun g hg => (h1.lt g hg).1), Nat.le_trans hst.size (Nat.le_trans hb.size hsz'), Nat.le_refl _⟩
  · have e : some g2 = some g := hg
    injection e with e
    omega
  · by_cases hjn : j < n
    · rw [List.getElem?_append_left (by rw [hst.own.len]; exact hjn)] at hj
      obtain ⟨A3, n3, c3, r1, r3⟩ := h3 j xss' hj
      refine ⟨A3, n3, c3, by rw [List.getElem?_append_left (by omega)]; exact r1, ?_⟩
      dsimp only
      rw [if_pos hjn, if_pos hjn]
      obtain ⟨q1, q2, q3, q4⟩ := h4 j hjn
      exact r3.same fun g hg1 hg3 => hrow g (by omega) (by omega) fun b hb e => by
        subst e
        rcases q4 b hb with x | x <;> omega
    · have hjn2 : j = n := by
        have := (List.getElem?_eq_some_iff.1 hj).1
        rw [List.length_append, hst.own.len] at this
        simp at this; omega
      subst hjn2
      rw [List.getElem?_append_right (by rw [hst.own.len]; exact Nat.le_refl _), hst.own.len, Nat.sub_self] at hj
      simp only [List.getElem?_cons_zero, Option.some.injEq] at hj
      subst hj
      refine ⟨A', n', c', by rw [List.getElem?_append_right (by omega), hlen, Nat.sub_self]; rfl, ?_⟩
      dsimp only
      rw [if_neg hjn, if_neg hjn]
      exact hn2.same fun g hg1 hg3 => hrow1 g (Nat.le_trans hst.lo hg1) hg3 fun b hb e => by
        subst e
        have := h2 b hb
        omega
  · by_cases hjn : j < n
    · dsimp only
      rw [if_pos hjn, if_pos hjn]
      obtain ⟨q1, q2, q3, q4⟩ := h4 j hjn
      refine ⟨q1, q2, by have := hst.hi; omega, fun g hg => ?_⟩
      have e : some g2 = some g := hg
      injection e with e
      subst e
      rcases hg2K with hlt | hge
      · exact q4 g2 (hsame2 hlt)
      · right; have := hst.hi; omega
    · dsimp only
      rw [if_neg hjn, if_neg hjn]
      refine ⟨hst.lo, hK, by omega, fun g hg => ?_⟩
      have e : some g2 = some g := hg
      injection e with e
      subst e
      rcases hg2K with hlt | hge
      · exact .inl hlt
      · right; omega
  · by_cases hjn : j < n
    · dsimp only
      rw [if_pos hjn, if_pos (by omega)]
      exact h5 i' j hij hjn
    · dsimp only
      rw [if_neg hjn, if_pos (by omega)]
      exact (h4 i' (by omega)).2.2.1
theorem eltT : Elt 135 22 24 := ⟨Try.underlying135, by obtain ⟨i, hi, hz, hs, hb⟩ := info_parts Try.info_lls; exact ⟨i, _, hi, hz, hs, hb, rfl⟩⟩
theorem step_pushT {w0 w : World} {ops : Array Oper} {o : Oper} {a : Act} {K9 : Act → World → Prop} {Q : Exit → Act → World → Prop} {E : Prop} (hgd : o.guard = none) (s x : Operand)
    (ho : o.op = .call { callee := .builtin .append, args := #[s, x], argTypes := #[135, 135] }) {B K K2 n c n' c' H : Nat} {A A' : Option Addr} {ps : Lls} {xss : List (List Int)}
    (hs : a.eval s = .slice A n c) (hH : w.heap.size = H) (hx : a.eval x = .slice (some ⟨H, 0, Option.none⟩) 1 1) (hst : StT w0 B w K A n c ps) (hnew : OwnM w K K2 A' n' c' xss) (hK : K ≤ K2) (hK2 : K2 ≤ w.heap.size) (hn : n ≤ 3000000000000)
    (h : ∀ A2 c2 w', StT w0 B w' w'.heap.size A2 (n + 1) c2 (ps ++ [xss]) → K9 (a.put o.dst (.slice A2 (n + 1) c2)) w') :
    if Region.wanted o (yielded ops a.tmps) = true then Oper.wp Try.prog o a (w.alloc (.cells #[.slice A' n' c'] 22)) K9 Q else E := by
  have hw : Region.wanted o (yielded ops a.tmps) = true := by simp [Region.wanted, hgd]
  rw [if_pos hw]
  subst hH
  have hb : Below w.heap.size w (w.alloc (.cells #[.slice A' n' c'] 22)) := (Below.refl _ _).alloc (Nat.le_refl _) _
  obtain ⟨cs, lo, hi', h1, h2, h3, h4, h5⟩ := (hst.call hb).own.ex
  obtain ⟨cs', lo', hi'', g1, g2, g3, g4, g5⟩ := hst.own.ex
  have hcs : (w.alloc (.cells #[.slice A' n' c'] 22)).ownsRow B 22 1 (.slice A n c) n cs' := ownsRow_same2 g1 fun g hg => hb.block g (g1.lt g hg).2
  refine wp_appV eltT s x ho hs hx (⟨by have := hcs.1; omega, hcs⟩ : OwnV _ B 22 A n c cs') (rdV_newP w (.slice A' n' c') 22) (by intro u hu; rw [List.mem_singleton.1 hu]; rfl) (by omega) (by decide) (Nat.le_trans hst.size hb.size) fun A2 c2 w' k1 k2 k4 => ?_
  obtain ⟨A3, c3, e, hS⟩ := stT_pushed hst hnew hK hK2 _ cs' hcs g2 lo' hi'' g3 g4 g5 k1.own k2 k4
  injection e with e1 _ e3
  subst e1; subst e3
  exact h _ _ _ hS
theorem StT.down {w0 w1 w : World} {B K n c : Nat} {A : Option Addr} {ps : Lls} {V : Nat} (h : StT w1 w1.heap.size w K A n c ps) (hb : Below V w0 w1) (hV : V ≤ w1.heap.size) : StT w0 V w K A n c ps :=
  ⟨h.own.down hV, hb.trans (h.bel.mono hV), Nat.le_trans hV h.lo, h.hi⟩
/-- two rows of one's own in a list -/
theorem ownM_pair {w : World} {K M n1 c1 n2 c2 : Nat} {A1 A2 : Option Addr} {x y : List Int} (h1 : OwnS w K A1 n1 c1 x) (hM : ∀ g, Value.ownBlock (.slice A1 n1 c1) = some g → g < M) (h2 : OwnS w M A2 n2 c2 y) (hK : K ≤ M) (hw : K ≤ w.heap.size) :
    OwnM (w.alloc (.cells #[.slice A1 n1 c1, .slice A2 n2 c2] 29)) K (w.heap.size + 1) (some ⟨w.heap.size, 0, none⟩) 2 2 [x, y] := by
  have hb : Below w.heap.size w (w.alloc (.cells #[.slice A1 n1 c1, .slice A2 n2 c2] 29)) := (Below.refl _ _).alloc (Nat.le_refl _) _
  refine ⟨⟨rfl, [.slice A1 n1 c1, .slice A2 n2 c2], ⟨rfl, by simp, .inr ⟨w.heap.size, 2, _, rfl, hw, heap_alloc_new w _, Nat.le_refl _, by unfold maxLen; omega, rfl, rfl⟩⟩, fun j v ys hv hy => ?_, fun i j u v g hij hu hv hgu hgv => ?_⟩, fun g hg => ?_⟩
  · match j, hv, hy with
    | 0, hv, hy =>
      simp only [List.getElem?_cons_zero, Option.some.injEq] at hv hy
      subst hv; subst hy
      exact ⟨A1, n1, c1, rfl, h1.below hb, fun g hg => by have := (h1.own.lt g hg).2; omega⟩
    | 1, hv, hy =>
      simp only [List.getElem?_cons_succ, List.getElem?_cons_zero, Option.some.injEq] at hv hy
      subst hv; subst hy
      exact ⟨A2, n2, c2, rfl, (h2.mono hK).below hb, fun g hg => by have := (h2.own.lt g hg).2; omega⟩
    | j + 2, hv, _ => simp at hv
  · have hj := (List.getElem?_eq_some_iff.1 hv).1
    simp only [List.length_cons, List.length_nil] at hj
    obtain rfl : i = 0 := by omega
    obtain rfl : j = 1 := by omega
    simp only [List.getElem?_cons_succ, List.getElem?_cons_zero, Option.some.injEq] at hu hv
    subst hu; subst hv
    have := hM g hgu
    have := (h2.own.lt g hgv).1
    omega
  · have e : some w.heap.size = some g := hg
    injection e with e
    omega
/-- a row's prefix -/
theorem OwnS.cut {w : World} {B n c m : Nat} {A : Option Addr} {xs : List Int} (h : OwnS w B A n c xs) (hm : m ≤ n) (hA : A = none → m = 0 ∧ c = 0) : OwnS w B A m c (xs.take m) := by
  refine ⟨by rw [List.length_take, h.len]; omega, by rw [List.length_map, List.length_take, h.len]; omega, ?_⟩
  rcases h.own.2 with ⟨e, h0⟩ | ⟨g, cap, cur, e, hb, hh, k1, k2, k3, k4⟩
  · injection e with e1 e2 e3
    subst e1
    obtain ⟨rfl, rfl⟩ := hA rfl
    exact .inl ⟨rfl, rfl⟩
  · injection e with e1 e2 e3
    subst e1; subst e3
    refine .inr ⟨g, c, cur, rfl, hb, hh, by omega, k2, k3, ?_⟩
    rw [List.map_take, ← k4, List.take_take]
    congr 1
    omega
end Go.Proofs.Ytejlkobieohgfaa

/- Plain: what Milnor's basis elements make of monomials. -/
namespace Go.Proofs.Ytejlkobieohgfaa
open Go.RowKit
set_option linter.unusedVariables false

theorem snoc_ind {P : List Int → Prop} (h0 : P []) (h1 : ∀ s n, P s → P (s ++ [n])) : ∀ r, P r := by
  intro r
  rw [← List.reverse_reverse r]
  induction r.reverse with
  | nil => exact h0
  | cons a t ih => rw [List.reverse_cons]; exact h1 _ _ ih
/-- the degree of an exponent list's first k places -/
def dN (xs : List Int) : Nat → Int
  | 0 => 0
  | k + 1 => dN xs k + xs[k]?.getD 0 * (2 ^ (k + 1) - 1)
def deg (xs : List Int) : Int := dN xs xs.length
theorem dN_past (xs : List Int) : ∀ j, dN xs (xs.length + j) = deg xs
  | 0 => rfl
  | j + 1 => by
    rw [show xs.length + (j + 1) = xs.length + j + 1 from rfl, dN, dN_past xs j, List.getElem?_eq_none (by omega)]
    simp
theorem dN_eq {xs ys : List Int} (h : ∀ k : Nat, xs[k]?.getD 0 = ys[k]?.getD 0) : ∀ j, dN xs j = dN ys j
  | 0 => rfl
  | j + 1 => by rw [dN, dN, dN_eq h j, h j]
theorem getD_zero (p : List Int) (k : Nat) : (p ++ [0])[k]?.getD 0 = p[k]?.getD 0 := by
  by_cases h : k < p.length
  · rw [List.getElem?_append_left h]
  · rw [List.getElem?_append_right (by omega), List.getElem?_eq_none (by omega : p.length ≤ k)]
    by_cases h2 : k - p.length = 0
    · rw [h2]; rfl
    · rw [List.getElem?_eq_none (by simp; omega)]
theorem deg_zero (p : List Int) : deg (p ++ [0]) = deg p := by
  unfold deg
  rw [dN_eq (getD_zero p), List.length_append]
  exact dN_past p 1
theorem dN_nonneg {xs : List Int} (h : ∀ z ∈ xs, (0 : Int) ≤ z) : ∀ j, 0 ≤ dN xs j
  | 0 => Int.le_refl _
  | j + 1 => by
    have h1 := dN_nonneg h j
    have h2 : (0 : Int) ≤ xs[j]?.getD 0 := by
      cases e : xs[j]? with
      | none => simp
      | some z => exact h z (List.mem_of_getElem? e)
    have h3 : (0 : Int) ≤ 2 ^ (j + 1) - 1 := by
      have : (1 : Int) ≤ 2 ^ (j + 1) := by exact_mod_cast Nat.one_le_two_pow
      omega
    have := Int.mul_nonneg h2 h3
    rw [dN]; omega
theorem dN_le {xs : List Int} (h : ∀ z ∈ xs, (0 : Int) ≤ z) (j k : Nat) : dN xs j ≤ dN xs (j + k) := by
  induction k with
  | zero => exact Int.le_refl _
  | succ k ih =>
    have h2 : (0 : Int) ≤ xs[j + k]?.getD 0 := by
      cases e : xs[j + k]? with
      | none => simp
      | some z => exact h z (List.mem_of_getElem? e)
    have h3 : (0 : Int) ≤ 2 ^ (j + k + 1) - 1 := by
      have : (1 : Int) ≤ 2 ^ (j + k + 1) := by exact_mod_cast Nat.one_le_two_pow
      omega
    have := Int.mul_nonneg h2 h3
    rw [show j + (k + 1) = j + k + 1 from rfl, dN]; omega
/-- every entry is bounded by the degree -/
theorem entry_le {xs : List Int} (h : ∀ z ∈ xs, (0 : Int) ≤ z) {k : Nat} {z : Int} (hz : xs[k]? = some z) : z * (2 ^ (k + 1) - 1) ≤ deg xs := by
  have hk := (List.getElem?_eq_some_iff.1 hz).1
  have h1 := dN_le h (k + 1) (xs.length - (k + 1))
  rw [show k + 1 + (xs.length - (k + 1)) = xs.length by omega] at h1
  have h2 := dN_nonneg h k
  have h3 : dN xs (k + 1) = dN xs k + z * (2 ^ (k + 1) - 1) := by rw [dN, hz]; rfl
  unfold deg; omega
theorem entry_le1 {xs : List Int} (h : ∀ z ∈ xs, (0 : Int) ≤ z) : ∀ z ∈ xs, z ≤ deg xs := fun z hz => by
  obtain ⟨k, hk⟩ := List.mem_iff_getElem?.1 hz
  have h1 := entry_le h hk
  have h3 : (1 : Int) ≤ 2 ^ (k + 1) - 1 := by
    have : (2 : Int) ≤ 2 ^ (k + 1) := by
      have := Nat.one_le_two_pow (n := k)
      rw [Int.pow_succ]
      have : (1 : Int) ≤ 2 ^ k := by exact_mod_cast this
      omega
    omega
  have := Int.mul_le_mul_of_nonneg_left h3 (h z hz)
  omega
theorem sum_le_deg {xs : List Int} (h : ∀ z ∈ xs, (0 : Int) ≤ z) : xs.sum ≤ deg xs := by
  have key : ∀ k, k ≤ xs.length → (xs.take k).sum ≤ dN xs k := by
    intro k hk
    induction k with
    | zero => simp [dN]
    | succ k ih =>
      have hlt : k < xs.length := by omega
      have h1 := ih (by omega)
      rw [List.take_add_one, List.getElem?_eq_getElem hlt, List.sum_append, dN, List.getElem?_eq_getElem hlt]
      have h2 := h xs[k] (List.getElem_mem hlt)
      have h3 : (1 : Int) ≤ 2 ^ (k + 1) - 1 := by
        have : (1 : Int) ≤ 2 ^ k := by exact_mod_cast Nat.one_le_two_pow
        rw [Int.pow_succ]; omega
      have := Int.mul_le_mul_of_nonneg_left h3 h2
      simp only [Option.toList_some, List.sum_cons, List.sum_nil, Option.getD_some]
      omega
  have := key xs.length (Nat.le_refl _)
  rwa [List.take_length] at this
/-- both sides' reckoning of a degree, without the wraps -/
theorem dxT_eq {xs : List Int} (h : ∀ z ∈ xs, (0 : Int) ≤ z ∧ z ≤ 1000000000000) : ∀ k : Nat, k ≤ 10 → dxT xs k = dN xs k ∧ 0 ≤ dN xs k ∧ dN xs k ≤ k * 1023000000000000
  | 0, _ => ⟨rfl, Int.le_refl _, by simp [dN]⟩
  | k + 1, hk => by
    obtain ⟨h1, h2, h3⟩ := dxT_eq h k (by omega)
    have hz : (0 : Int) ≤ xs[k]?.getD 0 ∧ xs[k]?.getD 0 ≤ 1000000000000 := by
      cases e : xs[k]? with
      | none => simp
      | some z => exact h z (List.mem_of_getElem? e)
    have hp : (0 : Int) ≤ 2 ^ (k + 1) - 1 ∧ (2 : Int) ^ (k + 1) - 1 ≤ 1023 := by
      have a1 : (1 : Int) ≤ 2 ^ (k + 1) := by exact_mod_cast Nat.one_le_two_pow
      have a2 : (2 : Int) ^ (k + 1) ≤ 1024 := by
        have h1 : 2 ^ (k + 1) ≤ 2 ^ 10 := Nat.pow_le_pow_right (by decide) hk
        have h2 : ((2 ^ (k + 1) : Nat) : Int) ≤ ((2 ^ 10 : Nat) : Int) := Int.ofNat_le.2 h1
        rw [Int.natCast_pow] at h2
        exact h2
      omega
    have hm0 := Int.mul_nonneg hz.1 hp.1
    have hm1 : xs[k]?.getD 0 * (2 ^ (k + 1) - 1) ≤ 1000000000000 * 1023 := by
      refine Int.le_trans (Int.mul_le_mul_of_nonneg_left hp.2 hz.1) ?_
      exact Int.mul_le_mul_of_nonneg_right hz.2 (by decide)
    obtain ⟨m, hm⟩ : ∃ m, m = xs[k]?.getD 0 * ((2 : Int) ^ (k + 1) - 1) := ⟨_, rfl⟩
    rw [dxT, dN, h1]
    rw [← hm] at hm0 hm1 ⊢
    refine ⟨?_, by omega, by push_cast; omega⟩
    rw [show wrap64 m = m from by unfold wrap64; omega]
    unfold wrap64
    have : (k : Int) ≤ 10 := by omega
    omega
theorem degX_eq {xs : List Int} (hl : xs.length ≤ 10) (h : ∀ z ∈ xs, (0 : Int) ≤ z ∧ z ≤ 1000000000000) : degX xs = deg xs := (dxT_eq h xs.length hl).1
/-- a list without the noughts at its end -/
def trimL (xs : List Int) : List Int := (xs.reverse.dropWhile (fun z => z == 0)).reverse
theorem trimL_zero (xs : List Int) : trimL (xs ++ [0]) = trimL xs := by simp [trimL]
theorem trimL_keep {xs : List Int} {n : Int} (h : n ≠ 0) : trimL (xs ++ [n]) = xs ++ [n] := by simp [trimL, h]
theorem trimL_nil : trimL [] = [] := rfl
/-- what does not see noughts at the end does not see trimming -/
theorem trim_blind {α : Type} (F : List Int → α) (h : ∀ p, F (p ++ [0]) = F p) : ∀ xs, F (trimL xs) = F xs := by
  refine snoc_ind rfl fun s n ih => ?_
  by_cases hn : n = 0
  · subst hn; rw [trimL_zero, ih, h]
  · rw [trimL_keep hn]
theorem trimL_trim (xs : List Int) : trimL (trimL xs) = trimL xs := trim_blind trimL trimL_zero xs
theorem trimL_mem : ∀ xs : List Int, ∀ z ∈ trimL xs, z ∈ xs := by
  refine snoc_ind (fun z hz => by cases hz) fun s n ih => ?_
  by_cases hn : n = 0
  · subst hn; rw [trimL_zero]; exact fun z hz => List.mem_append_left _ (ih z hz)
  · rw [trimL_keep hn]; exact fun z hz => hz
theorem trimL_len : ∀ xs : List Int, (trimL xs).length ≤ xs.length := by
  refine snoc_ind (Nat.le_refl _) fun s n ih => ?_
  by_cases hn : n = 0
  · subst hn; rw [trimL_zero, List.length_append]; omega
  · rw [trimL_keep hn]; exact Nat.le_refl _
theorem all_zero_trim : ∀ xs : List Int, xs.all (· == 0) = true ↔ trimL xs = [] := by
  refine snoc_ind (by simp [trimL]) fun s n ih => ?_
  by_cases hn : n = 0
  · subst hn; rw [trimL_zero, ← ih]; simp
  · rw [trimL_keep hn]; simp [hn]
theorem trimL_end : ∀ xs : List Int, endB xs = true → trimL xs = xs := by
  refine snoc_ind (fun _ => rfl) fun s n _ h => ?_
  have : n ≠ 0 := by
    unfold endB at h
    simpa using h
  exact trimL_keep this
/-- no binary digit is 1 in two of the numbers -/
def apS : Nat → List Int → Bool
  | _, [] => true
  | s, a :: t => if s &&& a.toNat = 0 then apS (s ||| a.toNat) t else false
theorem apS_iff : ∀ (xs : List Int) (s : Nat), apS s xs = true ↔ (∀ a ∈ xs, s &&& a.toNat = 0) ∧ xs.Pairwise (fun a b => a.toNat &&& b.toNat = 0)
  | [], s => by simp [apS]
  | a :: t, s => by
    rw [apS]
    by_cases h : s &&& a.toNat = 0
    · rw [if_pos h, apS_iff t, List.pairwise_cons]
      have e : ∀ b : Nat, ((s ||| a.toNat) &&& b = 0) ↔ (s &&& b = 0 ∧ a.toNat &&& b = 0) := fun b => by
        rw [Nat.and_or_distrib_right]
        exact Nat.or_eq_zero_iff
      constructor
      · rintro ⟨h1, h2⟩
        refine ⟨fun b hb => ?_, fun b hb => ((e _).1 (h1 b hb)).2, h2⟩
        rcases List.mem_cons.1 hb with rfl | hb
        · exact h
        · exact ((e _).1 (h1 b hb)).1
      · rintro ⟨h1, h2, h3⟩
        exact ⟨fun b hb => (e _).2 ⟨h1 b (List.mem_cons_of_mem _ hb), h2 b hb⟩, h3⟩
    · rw [if_neg h]
      simp [h]
theorem apS_perm {xs ys : List Int} (h : xs.Perm ys) : apS 0 xs = apS 0 ys := by
  rw [Bool.eq_iff_iff, apS_iff, apS_iff]
  have e := h.pairwise_iff (R := fun a b : Int => a.toNat &&& b.toNat = 0) (fun {x y} hxy => by rw [Nat.and_comm]; exact hxy)
  simp only [Nat.zero_and, implies_true, true_and]
  exact e
theorem apS_zero (a : Int) (p : List Int) : apS 0 (a :: (p ++ [0])) = apS 0 (a :: p) := by
  rw [Bool.eq_iff_iff, apS_iff, apS_iff]
  simp only [Nat.zero_and, implies_true, true_and]
  rw [← List.cons_append, List.pairwise_append]
  simp
/-- a part of a basis element makes something other than 0 of a power -/
def okP (p : List Int) (n : Int) : Bool := decide (0 ≤ n - p.sum) && apS 0 ((n - p.sum) :: p)
theorem okP_zero (p : List Int) (n : Int) : okP (p ++ [0]) n = okP p n := by
  unfold okP
  rw [List.sum_append, List.sum_cons, List.sum_nil, Int.add_zero, Int.add_zero, apS_zero]
theorem okP_back (p : List Int) (n : Int) : okP p n = (decide (0 ≤ n - p.sum) && apS 0 (p ++ [n - p.sum])) := by
  unfold okP
  rw [apS_perm (List.perm_append_singleton (n - p.sum) p)]
/-- all ways to part an exponent list -/
def prtS (out : List (List Int × List Int)) (n : Int) : List (List Int × List Int) := out.flatMap fun e => (List.range (n.toNat + 1)).map fun (x : Nat) => (e.1 ++ [(x : Int)], e.2 ++ [n - (x : Int)])
def prt (r : List Int) : List (List Int × List Int) := r.foldl prtS [([], [])]
theorem prt_snoc (s : List Int) (n : Int) : prt (s ++ [n]) = prtS (prt s) n := by unfold prt; rw [List.foldl_append]; rfl
theorem prtS_length (out : List (List Int × List Int)) (n : Int) : (prtS out n).length = out.length * (n.toNat + 1) := by
  unfold prtS
  rw [List.length_flatMap]
  induction out with
  | nil => simp
  | cons a l ih =>
    simp only [List.map_cons, List.sum_cons, List.length_cons, List.length_map, List.length_range] at ih ⊢
    rw [ih, Nat.add_mul, Nat.one_mul, Nat.add_comm]
structure PartOf (r : List Int) (e : List Int × List Int) : Prop where
  l1 : e.1.length = r.length
  l2 : e.2.length = r.length
  n1 : ∀ z ∈ e.1, (0 : Int) ≤ z
  n2 : ∀ z ∈ e.2, (0 : Int) ≤ z
  sum : ∀ k : Nat, e.1[k]?.getD 0 + e.2[k]?.getD 0 = r[k]?.getD 0
theorem getD_snoc (p : List Int) (n : Int) (k : Nat) : (p ++ [n])[k]?.getD 0 = if k < p.length then p[k]?.getD 0 else if k = p.length then n else 0 := by
  by_cases h : k < p.length
  · rw [List.getElem?_append_left h, if_pos h]
  · rw [if_neg h, List.getElem?_append_right (by omega)]
    by_cases h2 : k = p.length
    · subst h2; simp
    · rw [if_neg h2, List.getElem?_eq_none (by simp; omega)]; rfl
theorem prt_mem : ∀ r : List Int, (∀ z ∈ r, (0 : Int) ≤ z) → ∀ e ∈ prt r, PartOf r e := by
  refine snoc_ind (fun _ e he => ?_) fun s n ih h0 e he => ?_
  · obtain rfl : e = ([], []) := by simpa [prt] using he
    exact ⟨rfl, rfl, fun z hz => (by cases hz), fun z hz => (by cases hz), fun k => (by simp)⟩
  · rw [prt_snoc] at he
    obtain ⟨e0, he0, hx⟩ := List.mem_flatMap.1 he
    obtain ⟨x, hxr, rfl⟩ := List.mem_map.1 hx
    have hn := h0 n (by simp)
    have hx := List.mem_range.1 hxr
    obtain ⟨a1, a2, a3, a4, a5⟩ := ih (fun z hz => h0 z (List.mem_append_left _ hz)) e0 he0
    refine ⟨by simp [a1], by simp [a2], fun z hz => ?_, fun z hz => ?_, fun k => ?_⟩
    · rcases List.mem_append.1 hz with hz | hz
      · exact a3 z hz
      · rw [List.mem_singleton.1 hz]; omega
    · rcases List.mem_append.1 hz with hz | hz
      · exact a4 z hz
      · rw [List.mem_singleton.1 hz]; omega
    · have := a5 k
      rw [getD_snoc, getD_snoc, getD_snoc, a1, a2]
      split
      · exact this
      · split <;> omega
theorem PartOf.deg {r : List Int} {e : List Int × List Int} (h : PartOf r e) : deg e.1 + deg e.2 = deg r := by
  have key : ∀ j, dN e.1 j + dN e.2 j = dN r j := by
    intro j
    induction j with
    | zero => rfl
    | succ j ih =>
      rw [dN, dN, dN, ← h.sum j, Int.add_mul]
      omega
  have := key r.length
  unfold Proofs.Ytejlkobieohgfaa.deg
  rw [h.l1, h.l2]; exact this
theorem prt_zero (r : List Int) : prt (r ++ [0]) = (prt r).map fun e => (e.1 ++ [0], e.2 ++ [0]) := by
  rw [prt_snoc]
  unfold prtS
  rw [List.map_eq_flatMap]
  rfl
def milW : List Int → List Int → List (List Int)
  | [], r => if r.all (· == 0) = true then [[]] else []
  | n :: x, r => (prt r).flatMap fun e => if okP e.1 n = true then (milW x e.2).map (fun z => (n + deg e.1) :: z) else []
theorem milW_zero : ∀ (x r : List Int), milW x (r ++ [0]) = milW x r
  | [], r => by simp [milW]
  | n :: x, r => by
    rw [milW, milW, prt_zero, List.flatMap_map]
    congr 1
    funext e
    rw [okP_zero, deg_zero, milW_zero x]
theorem milW_trim (x r : List Int) : milW x (trimL r) = milW x r := trim_blind (milW x) (milW_zero x) r
/-- only what takes all away leaves nothing -/
theorem prt_all : ∀ (r : List Int), (∀ z ∈ r, (0 : Int) ≤ z) → ∀ G : List Int → List (List Int), (prt r).flatMap (fun e => if e.2.all (· == 0) = true then G e.1 else []) = G r := by
  refine snoc_ind (fun _ G => by simp [prt]) fun s n ih h0 G => ?_
  rw [prt_snoc, prtS, List.flatMap_assoc]
  have hn := h0 n (by simp)
  rw [show (prt s).flatMap (fun e => ((List.range (n.toNat + 1)).map fun (x : Nat) => (e.1 ++ [(x : Int)], e.2 ++ [n - (x : Int)])).flatMap (fun e => if e.2.all (· == 0) = true then G e.1 else [])) = (prt s).flatMap (fun e => if e.2.all (· == 0) = true then G (e.1 ++ [n]) else []) from ?_]
  · exact ih (fun z hz => h0 z (List.mem_append_left _ hz)) (fun p => G (p ++ [n]))
  · congr 1
    funext e
    rw [List.flatMap_map]
    by_cases hz : e.2.all (· == 0) = true
    · rw [if_pos hz, List.range_succ, List.flatMap_append]
      have h1 : (List.range n.toNat).flatMap (fun (x : Nat) => if (e.2 ++ [n - (x : Int)]).all (· == 0) = true then G (e.1 ++ [(x : Int)]) else []) = [] := by
        rw [List.flatMap_eq_nil_iff]
        intro x hx
        have := List.mem_range.1 hx
        rw [if_neg]
        simp only [List.all_append, List.all_cons, List.all_nil, Bool.and_true, Bool.and_eq_true, beq_iff_eq, not_and]
        intro _; omega
      rw [h1, List.nil_append, List.flatMap_cons, List.flatMap_nil, List.append_nil, Int.toNat_of_nonneg hn, if_pos]
      simp only [List.all_append, hz, List.all_cons, List.all_nil, Bool.and_true, Bool.true_and, beq_iff_eq]
      omega
    · rw [if_neg hz, List.flatMap_eq_nil_iff]
      intro x hx
      rw [if_neg]
      simp only [List.all_append, Bool.and_eq_true, not_and]
      intro h; exact absurd h hz
theorem milW_one {n : Int} {r : List Int} (h : ∀ z ∈ r, (0 : Int) ≤ z) : milW [n] r = if okP r n = true then [[n + deg r]] else [] := by
  rw [← prt_all r h (fun p => if okP p n = true then [[n + deg p]] else [])]
  rw [milW]
  congr 1
  funext e
  rw [milW]
  by_cases h1 : okP e.1 n = true <;> by_cases h2 : e.2.all (· == 0) = true <;> simp [h1, h2]
/-- rows as they come here -/
structure Row5 (r : List Int) : Prop where
  len : r.length ≤ 5
  nn : ∀ z ∈ r, (0 : Int) ≤ z
  deg : deg r ≤ 40
theorem deg_nonneg {r : List Int} (h : ∀ z ∈ r, (0 : Int) ≤ z) : 0 ≤ deg r := dN_nonneg h _
theorem Row5.part {r : List Int} (h : Row5 r) {e : List Int × List Int} (he : e ∈ prt r) : Row5 e.1 ∧ Row5 e.2 ∧ PartOf r e := by
  have hp := prt_mem r h.nn e he
  have h1 := deg_nonneg hp.n1
  have h2 := deg_nonneg hp.n2
  have h3 := hp.deg
  have h4 := h.deg
  exact ⟨⟨by rw [hp.l1]; exact h.len, hp.n1, by omega⟩, ⟨by rw [hp.l2]; exact h.len, hp.n2, by omega⟩, hp⟩
theorem Row5.trim {r : List Int} (h : Row5 r) : Row5 (trimL r) := by
  refine ⟨Nat.le_trans (trimL_len r) h.len, fun z hz => h.nn z (trimL_mem r z hz), ?_⟩
  rw [trim_blind Proofs.Ytejlkobieohgfaa.deg deg_zero r]
  exact h.deg
theorem bound5 : ∀ b < 14, ∀ c < 6, ∀ d < 3, ∀ e < 2, 3 * b + 7 * c + 15 * d + 31 * e ≤ 40 → (41 - (3 * b + 7 * c + 15 * d + 31 * e)) * (b + 1) * (c + 1) * (d + 1) * (e + 1) ≤ 256 := by decide
theorem Row5.count {r : List Int} (h : Row5 r) : (prt r).length ≤ 256 := by
  have key : ∀ a b c d e : Nat, a + 3 * b + 7 * c + 15 * d + 31 * e ≤ 40 → (a + 1) * (b + 1) * (c + 1) * (d + 1) * (e + 1) ≤ 256 := by
    intro a b c d e hs
    refine Nat.le_trans ?_ (bound5 b (by omega) c (by omega) d (by omega) e (by omega) (by omega))
    refine Nat.mul_le_mul_right _ (Nat.mul_le_mul_right _ (Nat.mul_le_mul_right _ (Nat.mul_le_mul_right _ (by omega))))
  have hl := h.len
  have hn := h.nn
  have hd := h.deg
  match r, hl, hn, hd with
  | [], _, _, _ => simp [prt]
  | [a], _, hn, hd =>
    have h1 := hn a (by simp)
    simp [Proofs.Ytejlkobieohgfaa.deg, dN] at hd
    have := key a.toNat 0 0 0 0 (by omega)
    simp only [prt, List.foldl, prtS_length, List.length_cons, List.length_nil]
    omega
  | [a, b], _, hn, hd =>
    have h1 := hn a (by simp)
    have h2 := hn b (by simp)
    simp [Proofs.Ytejlkobieohgfaa.deg, dN] at hd
    have := key a.toNat b.toNat 0 0 0 (by omega)
    simp only [prt, List.foldl, prtS_length, List.length_cons, List.length_nil]
    simpa using this
  | [a, b, c], _, hn, hd =>
    have h1 := hn a (by simp)
    have h2 := hn b (by simp)
    have h3 := hn c (by simp)
    simp [Proofs.Ytejlkobieohgfaa.deg, dN] at hd
    have := key a.toNat b.toNat c.toNat 0 0 (by omega)
    simp only [prt, List.foldl, prtS_length, List.length_cons, List.length_nil]
    simpa using this
  | [a, b, c, d], _, hn, hd =>
    have h1 := hn a (by simp)
    have h2 := hn b (by simp)
    have h3 := hn c (by simp)
    have h4 := hn d (by simp)
    simp [Proofs.Ytejlkobieohgfaa.deg, dN] at hd
    have := key a.toNat b.toNat c.toNat d.toNat 0 (by omega)
    simp only [prt, List.foldl, prtS_length, List.length_cons, List.length_nil]
    simpa using this
  | [a, b, c, d, e], _, hn, hd =>
    have h1 := hn a (by simp)
    have h2 := hn b (by simp)
    have h3 := hn c (by simp)
    have h4 := hn d (by simp)
    have h5 := hn e (by simp)
    simp [Proofs.Ytejlkobieohgfaa.deg, dN] at hd
    have := key a.toNat b.toNat c.toNat d.toNat e.toNat (by omega)
    simp only [prt, List.foldl, prtS_length, List.length_cons, List.length_nil]
    simpa using this
  | _ :: _ :: _ :: _ :: _ :: _ :: _, hl, _, _ => simp at hl
theorem flat_len {α β : Type} (l : List α) (F : α → List β) (b : Nat) (h : ∀ a ∈ l, (F a).length ≤ b) : (l.flatMap F).length ≤ l.length * b := by
  induction l with
  | nil => simp
  | cons a l ih =>
    have h1 := h a (by simp)
    have h2 := ih fun a ha => h a (List.mem_cons_of_mem _ ha)
    rw [List.flatMap_cons, List.length_append, List.length_cons, Nat.add_mul, Nat.one_mul]
    omega
theorem milW_len : ∀ (x : List Int) (n : Int) (r : List Int), Row5 r → (milW (n :: x) r).length ≤ 256 ^ x.length
  | [], n, r, h => by
    rw [milW_one h.nn]
    split <;> simp
  | m :: x, n, r, h => by
    rw [milW]
    refine Nat.le_trans (flat_len _ _ (256 ^ x.length) fun e he => ?_) ?_
    · split
      · rw [List.length_map]; exact milW_len x m e.2 (h.part he).2.1
      · exact Nat.zero_le _
    · rw [List.length_cons, Nat.pow_succ, Nat.mul_comm (256 ^ x.length)]
      exact Nat.mul_le_mul_right _ h.count
theorem milW_deg : ∀ (x r : List Int) (k : Nat) (d : Int), Deg k d x → (∀ z ∈ r, (0 : Int) ≤ z) → ∀ z ∈ milW x r, Deg k (d + deg r) z
  | [], r, k, d, hx, h0, z, hz => by
    rw [milW] at hz
    split at hz
    · rename_i ha
      obtain rfl := List.mem_singleton.1 hz
      have : deg r = 0 := by
        rw [← trim_blind deg deg_zero r, (all_zero_trim r).1 ha]; rfl
      rw [this, Int.add_zero]; exact hx
    · cases hz
  | n :: x, r, k, d, hx, h0, z, hz => by
    rw [milW] at hz
    obtain ⟨e, he, hz⟩ := List.mem_flatMap.1 hz
    split at hz
    · obtain ⟨y, hy, rfl⟩ := List.mem_map.1 hz
      have hp := prt_mem r h0 e he
      obtain ⟨a1, a2, a3⟩ := hx
      have hk : k = x.length + 1 := by rw [← a3]; rfl
      rw [List.sum_cons] at a2
      have hy2 := milW_deg x e.2 x.length x.sum ⟨fun a ha => a1 a (List.mem_cons_of_mem _ ha), rfl, rfl⟩ hp.n2 y hy
      have hn := a1 n (by simp)
      have h1 := deg_nonneg hp.n1
      have h3 := hp.deg
      refine ⟨fun a ha => ?_, ?_, ?_⟩
      · rcases List.mem_cons.1 ha with rfl | ha
        · omega
        · exact hy2.1 a ha
      · rw [List.sum_cons, hy2.2.1]; omega
      · rw [List.length_cons, hy2.2.2, hk]
    · cases hz
end Go.Proofs.Ytejlkobieohgfaa

/- apart, l01Apart, trimmed, l08Power. -/
namespace Go.Proofs.Ytejlkobieohgfaa
open Go.RowKit
set_option linter.unusedVariables false

theorem apS_drop {xs : List Int} {k t y : Nat} (h : Hid (xs[k]? = some (y : Int))) : apS t (xs.drop k) = if t &&& y = 0 then apS (t ||| y) (xs.drop (k + 1)) else false := by
  obtain ⟨hp, e⟩ := List.getElem?_eq_some_iff.1 h.out
  rw [List.drop_eq_getElem_cons hp, e, apS, Int.toNat_natCast]
set_option maxRecDepth 100000 in
theorem apart_any (A : Option Addr) (n c B : Nat) (xs : List Int) (w : World) (h : RdS w B A n c xs) (hx : ∀ z ∈ xs, (0 : Int) ≤ z ∧ z ≤ 1000) (hn : n ≤ 1000000) :
    Calls Try.prog 149 #[.slice A n c] w (RetP (apS 0 xs) w) := by
  have H := Lib.hid h
  have HX := Lib.hid hx
  have HL := Lib.hid h.len
  obtain ⟨R, hR⟩ : ∃ R, R = RetP (apS 0 xs) w := ⟨_, rfl⟩
  have HR := Lib.hid hR
  rw [← hR]
  clear h hx hR
  go_enter Try.func149, Try.ntmps149
  go_wp2_with fail
  go_loop [3, 8] (fun s i => ∃ (k t : Nat), k ≤ n ∧ t < 1024 ∧ i = .int .i64 k ∧ s = .int .i64 t ∧ Hid (apS 0 xs = apS t (xs.drop k))) (fun _ i => n - (intOf i).toNat)
  case atStart => exact ⟨0, 0, Nat.zero_le _, by omega, rfl, rfl, Lib.hid (by rw [List.drop_zero])⟩
  case round =>
    obtain ⟨k, t, hk, ht, rfl, rfl, HS⟩ := hrel
    by_cases hlt : k < n
    · obtain ⟨ad, x, rfl, _, hx, hc⟩ := H.out.at_ hlt
      have hxb := HX.out x (mem_of hx)
      obtain ⟨y, rfl⟩ : ∃ y : Nat, x = y := ⟨x.toNat, by omega⟩
      have hy : y < 1024 := by omega
      have HE := Lib.hid (apS_drop (t := t) hx)
      have hand := bits_andN (a := t) (b := y) (by omega) (by omega)
      have hor := bits_orN (a := t) (b := y) (by omega) (by omega)
      have hob : t ||| y < 1024 := Nat.or_lt_two_pow (n := 10) ht hy
      have hlt' : (k : Int) < (n : Int) := by omega
      have hk0 : (0 : Int) ≤ (k : Int) := by omega
      clear hx hxb
      by_cases hz : t &&& y = 0
      · have HE2 := Lib.hid (HE.out.trans (if_pos hz))
        have hb : (bits .and .i64 (t : Int) (y : Int) != 0) = false := by rw [hand, hz]; rfl
        obtain ⟨o, ho⟩ : ∃ o, o = t ||| y := ⟨_, rfl⟩
        rw [← ho] at hor hob
        have HO := Lib.hid ho
        clear hz hand ho
        go_wp2_with fail
        go_round
        case rel => exact ⟨k + 1, o, by omega, hob, by go_num, rfl, Lib.hid (by rw [HS.out, HE2.out, HO.out])⟩
        case measure => simp [intOf]; omega
      · have HE2 := Lib.hid (HE.out.trans (if_neg hz))
        have hb : (bits .and .i64 (t : Int) (y : Int) != 0) = true := by rw [hand]; simpa using hz
        clear hz hand hor
        go_wp2_with fail
        rw [HR.out]
        exact RetP.mk (b' := false) (by rw [HS.out, HE2.out])
    · obtain rfl : k = n := by omega
      go_wp2_with fail
      rw [HR.out]
      exact RetP.mk (b' := true) (by rw [HS.out, List.drop_of_length_le (by rw [HL.out]; exact Nat.le_refl _)]; rfl)
set_option maxRecDepth 100000 in
theorem ap01_any (A : Option Addr) (n c B : Nat) (xs : List Int) (w : World) (h : RdS w B A n c xs) (hx : ∀ z ∈ xs, (0 : Int) ≤ z ∧ z ≤ 1000) (hn : n ≤ 1000000) :
    Calls Try.prog 190 #[.slice A n c] w (RetP (apS 0 xs) w) := by
  have H := Lib.hid h
  have HX := Lib.hid hx
  have HL := Lib.hid h.len
  obtain ⟨R, hR⟩ : ∃ R, R = RetP (apS 0 xs) w := ⟨_, rfl⟩
  have HR := Lib.hid hR
  rw [← hR]
  clear h hx hR
  go_enter Try.func190, Try.ntmps190
  go_wp2_with fail
  go_loop [3, 4] (fun s i => ∃ (k t : Nat), k ≤ n ∧ t < 1024 ∧ i = .int .i64 k ∧ s = .int .i64 t ∧ Hid (apS 0 xs = apS t (xs.drop k))) (fun _ i => n - (intOf i).toNat)
  case atStart => exact ⟨0, 0, Nat.zero_le _, by omega, rfl, rfl, Lib.hid (by rw [List.drop_zero])⟩
  case round =>
    obtain ⟨k, t, hk, ht, rfl, rfl, HS⟩ := hrel
    by_cases hlt : k < n
    · obtain ⟨ad, x, rfl, _, hx, hc⟩ := H.out.at_ hlt
      have hxb := HX.out x (mem_of hx)
      obtain ⟨y, rfl⟩ : ∃ y : Nat, x = y := ⟨x.toNat, by omega⟩
      have hy : y < 1024 := by omega
      have HE := Lib.hid (apS_drop (t := t) hx)
      have hand := bits_andN (a := t) (b := y) (by omega) (by omega)
      have hor := bits_orN (a := t) (b := y) (by omega) (by omega)
      have hob : t ||| y < 1024 := Nat.or_lt_two_pow (n := 10) ht hy
      have hlt' : (k : Int) < (n : Int) := by omega
      have hk0 : (0 : Int) ≤ (k : Int) := by omega
      clear hx hxb
      by_cases hz : t &&& y = 0
      · have HE2 := Lib.hid (HE.out.trans (if_pos hz))
        have hb : (bits .and .i64 (t : Int) (y : Int) != 0) = false := by rw [hand, hz]; rfl
        obtain ⟨o, ho⟩ : ∃ o, o = t ||| y := ⟨_, rfl⟩
        rw [← ho] at hor hob
        have HO := Lib.hid ho
        clear hz hand ho
        go_wp2_with fail
        go_round
        case rel => exact ⟨k + 1, o, by omega, hob, by go_num, rfl, Lib.hid (by rw [HS.out, HE2.out, HO.out])⟩
        case measure => simp [intOf]; omega
      · have HE2 := Lib.hid (HE.out.trans (if_neg hz))
        have hb : (bits .and .i64 (t : Int) (y : Int) != 0) = true := by rw [hand]; simpa using hz
        clear hz hand hor
        go_wp2_with fail
        rw [HR.out]
        exact RetP.mk (b' := false) (by rw [HS.out, HE2.out])
    · obtain rfl : k = n := by omega
      go_wp2_with fail
      rw [HR.out]
      exact RetP.mk (b' := true) (by rw [HS.out, List.drop_of_length_le (by rw [HL.out]; exact Nat.le_refl _)]; rfl)

def RetTrim (A : Option Addr) (n c : Nat) (xs : List Int) (w : World) (e : Ending) (w' : World) : Prop := ∃ m, m ≤ n ∧ trimL xs = xs.take m ∧ e = .returned (.slice A m c) ∧ w' = w
theorem take_snoc {xs : List Int} {k m : Nat} {x : Int} (h : Hid (xs[k]? = some x)) (hm : m = k + 1) : xs.take m = xs.take k ++ [x] := by
  rw [hm, List.take_add_one, h.out]; rfl
set_option maxRecDepth 100000 in
theorem trimmed_any (A : Option Addr) (n c B : Nat) (xs : List Int) (w : World) (h : RdS w B A n c xs) (hn : n ≤ 1000000) :
    Calls Try.prog 119 #[.slice A n c] w (RetTrim A n c xs w) := by
  have H := Lib.hid h
  have HL := Lib.hid h.len
  have hcap := h.cap
  obtain ⟨R, hR⟩ : ∃ R, R = RetTrim A n c xs w := ⟨_, rfl⟩
  have HR := Lib.hid hR
  rw [← hR]
  clear h hR
  go_enter Try.func119, Try.ntmps119
  go_wp2_with fail
  go_loop [0] (fun v => ∃ m : Nat, m ≤ n ∧ v = .slice A m c ∧ Hid (trimL xs = trimL (xs.take m))) (fun v => match v with | .slice _ m _ => m | _ => 0)
  case atStart => exact ⟨n, Nat.le_refl _, rfl, Lib.hid (by rw [List.take_of_length_le (by rw [HL.out]; exact Nat.le_refl _)])⟩
  case round =>
    obtain ⟨m, hm, rfl, HS⟩ := hrel
    by_cases hm0 : m = 0
    · subst hm0
      go_wp2_with fail
      rw [HR.out]
      exact ⟨0, Nat.zero_le _, by rw [HS.out]; rfl, rfl, rfl⟩
    · obtain ⟨k, hk⟩ : ∃ k, m = k + 1 := ⟨m - 1, by omega⟩
      obtain ⟨ad, x, rfl, _, hx, hc⟩ := H.out.at_ (k := k) (by omega)
      have HX := Lib.hid (take_snoc hx hk)
      have hpos : (0 : Int) < (m : Int) := by omega
      have hwk : IntKind.i64.wrap ((m : Int) - 1) = (k : Int) := by rw [IntKind.wrap_i64]; omega
      have hk0 : (0 : Int) ≤ (k : Int) := by omega
      have hkm : (k : Int) < (m : Int) := by omega
      have hsl := fun W => run_pre (some ad) m c k (by omega) W
      clear hx
      by_cases hz : x = 0
      · subst hz
        go_wp2_with fail
        go_round
        case rel => exact ⟨k, by omega, rfl, Lib.hid (by rw [HS.out, HX.out, trimL_zero])⟩
        case measure => simp only; omega
      · have hz1 : (x == 0) = false := by simpa using hz
        have HT := Lib.hid (show trimL xs = xs.take m from by rw [HS.out, HX.out, trimL_keep hz])
        clear hz
        go_wp2_with fail
        rw [HR.out]
        exact ⟨m, hm, HT.out, by rw [hk], rfl⟩

/-- append of one integer at a guarded operation that is wanted -/
theorem wpList_pushIg {w0 w : World} {ops : Array Oper} {rest : List Oper} {o : Oper} {a : Act} {Q : Exit → Act → World → Prop} (hw : Region.wanted o (yielded ops a.tmps) = true) (s x : Operand)
    (ho : o.op = .call { callee := .builtin .append, args := #[s, x], argTypes := #[29, 29] }) {B n c H : Nat} {A : Option Addr} {xs : List Int} {y : Int}
    (hs : a.eval s = .slice A n c) (hH : w.heap.size = H) (hx : a.eval x = .slice (some ⟨H, 0, Option.none⟩) 1 1) (hst : StS w0 B w A n c xs) (hn : n ≤ 2000000000000)
    (h : ∀ A2 c2 w', StS w0 B w' A2 (n + 1) c2 (xs ++ [y]) → wpList Try.prog ops Q rest (a.put o.dst (.slice A2 (n + 1) c2)) w') : wpList Try.prog ops Q (o :: rest) a (w.alloc (.cells #[.int .i64 y] 2)) := by
  subst hH
  refine wpList_step fun K hK => ?_
  rw [if_pos hw]
  have hst2 := hst.call ((Below.refl _ _).alloc (Nat.le_refl _) (.cells #[.int .i64 y] 2))
  refine wp_appV eltI s x ho hs hx hst2.own.v (rd_new w y 2).v (ints_one [y]) (by omega) (by decide) hst2.hi fun A' c' w' h1 hg _ => hK _ _ ?_
  have h2 : OwnS w' B A' (n + 1) c' (xs ++ [y]) := OwnV.s (by simpa using h1)
  exact h A' c' w' ⟨h2, hst2.bel.grown hg hst2.hi hst2.own.row, Nat.le_trans hst2.hi hg.size⟩
/-- a power's exponent, and whether it is other than 0 -/
def RetPow (p : List Int) (n : Int) (w : World) (e : Ending) (w' : World) : Prop := e = .returned (.tuple #[.int .i64 (if okP p n = true then n + deg p else 0), .bool (okP p n)]) ∧ Below w.heap.size w w'
theorem Row5.small {r : List Int} (h : Row5 r) : ∀ z ∈ r, (0 : Int) ≤ z ∧ z ≤ 40 := fun z hz => ⟨h.nn z hz, by have := entry_le1 h.nn z hz; have := h.deg; omega⟩
theorem Row5.degX {r : List Int} (h : Row5 r) : degX r = Proofs.Ytejlkobieohgfaa.deg r := degX_eq (by have := h.len; omega) fun z hz => ⟨(h.small z hz).1, by have := (h.small z hz).2; omega⟩
theorem sum_take_le {r : List Int} (h : ∀ z ∈ r, (0 : Int) ≤ z) (k : Nat) : 0 ≤ (r.take k).sum ∧ (r.take k).sum ≤ r.sum := by
  have h1 := sum_nonneg' (x := r.take k) fun z hz => h z (List.mem_of_mem_take hz)
  have h2 := sum_nonneg' (x := r.drop k) fun z hz => h z (List.mem_of_mem_drop hz)
  have h3 : r.sum = (r.take k).sum + (r.drop k).sum := by rw [← List.sum_append, List.take_append_drop]
  omega
set_option maxRecDepth 100000 in
set_option maxHeartbeats 1000000 in
theorem power08_any (A : Option Addr) (m c B : Nat) (r : List Int) (n : Int) (w : World) (h : RdS w B A m c r) (hr : Row5 r) (h0 : 0 ≤ n) (h1 : n ≤ 63) (hB : B ≤ w.heap.size) :
    Calls Try.prog 166 #[.slice A m c, .int .i64 n] w (RetPow r n w) := by
  have H := Lib.hid h
  have HL := Lib.hid h.len
  have HS0 := Lib.hid (StS.start (Below.refl w.heap.size w) (Nat.le_refl _))
  have hm5 : m ≤ 5 := by rw [← h.len]; exact hr.len
  have HSm := Lib.hid hr.small
  have hsd := sum_le_deg hr.nn
  have hd40 := hr.deg
  have hs0 := (sum_take_le hr.nn r.length).1
  rw [List.take_length] at hs0
  have HTk := Lib.hid (fun k => sum_take_le hr.nn k)
  have HDX := Lib.hid hr.degX
  obtain ⟨R, hR⟩ : ∃ R, R = RetPow r n w := ⟨_, rfl⟩
  have HR := Lib.hid hR
  rw [← hR]
  clear h hR hr
  go_enter Try.func166, Try.ntmps166
  go_wp2_with fail
  go_loopw [6, 7, 8] (fun s v i wr => ∃ (k c' : Nat) (t : Int) (A' : Option Addr), k ≤ m ∧ i = .int .i64 k ∧ s = .int .i64 t ∧ v = .slice A' k c' ∧ t ≤ 63 ∧ -40 ≤ t ∧ Hid (t = n - (r.take k).sum) ∧ Hid (StS w w.heap.size wr A' k c' (r.take k))) (fun _ _ i _ => m - (intOf i).toNat)
  case atStart => exact ⟨0, 0, n, _, Nat.zero_le _, rfl, rfl, rfl, h1, by omega, Lib.hid (by simp), HS0⟩
  case round =>
    clear HS0
    obtain ⟨k, c', t, A', hk, rfl, rfl, rfl, ht1, ht2, HT, HS⟩ := hrel
    by_cases hlt : k < m
    · obtain ⟨ad, x, rfl, _, hx, hc⟩ := ((H.out.mono hB).below HS.out.bel).at_ hlt
      have hxb := HSm.out x (mem_of hx)
      have hTS := Lib.hid (take_snoc hx rfl)
      have hb := HTk.out (k + 1)
      have HT2 := Lib.hid (show t - x = n - (r.take (k + 1)).sum from by rw [hTS.out, List.sum_append, HT.out]; simp; omega)
      have hb2 : t - x ≤ 63 ∧ -40 ≤ t - x := by rw [HT2.out]; omega
      have hwt : IntKind.i64.wrap (t - x) = t - x := by rw [IntKind.wrap_i64]; omega
      have hlt' : (k : Int) < (m : Int) := by omega
      have hk0 : (0 : Int) ≤ (k : Int) := by omega
      clear hx hb
      go_wp2_with (at_builtin; refine wpList_pushI rfl (.tmp 23) (.tmp 28) rfl rfl rfl HS.out (by omega) ?_)
      intro A2 c2 w2 hst _
      rw [← hTS.out] at hst
      have HS2 := Lib.hid hst
      clear hst
      go_wp2_with fail
      go_roundw
      case rel => exact ⟨k + 1, c2, t - x, A2, by omega, by go_num, rfl, rfl, hb2.1, hb2.2, HT2, HS2⟩
      case measure => simp [intOf]; omega
    · obtain rfl : k = m := by omega
      have HTT := Lib.hid (show t = n - r.sum from by rw [HT.out, List.take_of_length_le (by rw [HL.out]; exact Nat.le_refl _)])
      have hS3 := HS.out
      rw [List.take_of_length_le (by rw [HL.out]; exact Nat.le_refl _)] at hS3
      have HS3 := Lib.hid hS3
      clear hS3 HS hlt
      by_cases ht0 : t < 0
      · have HE := Lib.hid (show okP r n = false from by unfold okP; rw [decide_eq_false (by rw [← HTT.out]; omega)]; rfl)
        have hl : decide (t < 0) = true := decide_eq_true ht0
        go_wp2_with fail
        rw [HR.out]
        exact ⟨by rw [HE.out]; rfl, HS3.out.bel⟩
      · have hl : decide (t < 0) = false := decide_eq_false ht0
        have HE := Lib.hid (show okP r n = apS 0 (r ++ [t]) from by rw [okP_back, ← HTT.out, decide_eq_true (by omega)]; rfl)
        obtain ⟨o, ho⟩ : ∃ o, o = okP r n := ⟨_, rfl⟩
        have HO := Lib.hid ho
        clear ho
        go_wp2_with (at_builtin; refine wpList_pushIg (by simp [Region.wanted, yielded]) (.tmp 33) (.tmp 35) rfl rfl rfl rfl HS3.out (by omega) ?_)
        intro A2 c2 w2 hst
        have C1 := ap01_any A2 (k + 1) c2 _ (r ++ [t]) w2 hst.own.rd (fun z hz => by
          rcases List.mem_append.1 hz with hz | hz
          · have := HSm.out z hz; omega
          · rw [List.mem_singleton.1 hz]; omega) (by omega)
        rw [← HE.out, ← HO.out] at C1
        have C1 := Lib.hid C1
        have HS4 := Lib.hid hst
        clear hst
        go_wp2_with fail
        refine C1.out.mono ?_
        rintro e w3 ⟨rfl, h3⟩
        rw [h3]
        clear h3 C1
        cases o
        · go_wp2_with fail
          rw [HR.out]
          exact ⟨by rw [← HO.out]; rfl, HS4.out.bel⟩
        · have C2 := spec.l01Degree_any A k c _ r w2 ((H.out.mono hB).below HS4.out.bel) (by omega)
          rw [HDX.out] at C2
          have C2 := Lib.hid C2
          have hdn : 0 ≤ deg r := by omega
          have hwd : IntKind.i64.wrap (n + deg r) = n + deg r := by rw [IntKind.wrap_i64]; omega
          go_wp2_with fail
          refine C2.out.mono ?_
          rintro e w4 ⟨rfl, h4⟩
          rw [h4]
          clear h4 C2
          go_wp2_with fail
          rw [HR.out]
          exact ⟨by rw [← HO.out]; rfl, HS4.out.bel⟩
end Go.Proofs.Ytejlkobieohgfaa

/- impl.splits, spec.l08Parts: helpers. -/
namespace Go.Proofs.Ytejlkobieohgfaa
open Go.RowKit
set_option linter.unusedVariables false

theorem ownBlock_len {A : Option Addr} {n m c : Nat} : Value.ownBlock (.slice A n c) = Value.ownBlock (.slice A m c) := by cases A <;> rfl
theorem OwnS.capless {w : World} {B n c : Nat} {xs : List Int} (h : OwnS w B none n c xs) : n = 0 ∧ c = 0 := by
  rcases h.own.2 with ⟨e, h0⟩ | ⟨g, cap, cur, e, _⟩
  · injection e with _ _ e3
    exact ⟨h0, e3⟩
  · injection e with e1; cases e1
theorem OwnVal.cut {w : World} {B K n c m : Nat} {A : Option Addr} {xs : List Int} (h : OwnVal w B K (.slice A n c) xs) (hm : m ≤ n) : OwnVal w B K (.slice A m c) (xs.take m) := by
  obtain ⟨A', n', c', e, ho, hk⟩ := h
  injection e with e1 e2 e3
  subst e1; subst e2; subst e3
  exact ⟨A, m, c, rfl, ho.cut hm (fun hA => by subst hA; have := ho.capless; omega), fun g hg => hk g (by rw [ownBlock_len (m := m)]; exact hg)⟩
/-- two rows of one's own whose ends are cut off -/
theorem OwnM.cut2 {w : World} {lo hi c' : Nat} {A' : Option Addr} {x y : List Int} (h : OwnM w lo hi A' 2 c' [x, y]) :
    ∃ g A1 n1 c1 A2 n2 c2, A' = some ⟨g, 0, Option.none⟩ ∧ lo ≤ g ∧ g < hi ∧ w.cell? ⟨g, 0, Option.none⟩ = some (.slice A1 n1 c1) ∧ w.cell? ⟨g, 1, Option.none⟩ = some (.slice A2 n2 c2) ∧ w.frozen? ⟨g, 0, Option.none⟩ = false ∧ w.frozen? ⟨g, 1, Option.none⟩ = false ∧
      RdS w w.heap.size A1 n1 c1 x ∧ RdS w w.heap.size A2 n2 c2 y ∧
      ∀ m1 m2, m1 ≤ n1 → m2 ≤ n2 → OwnM ((w.setCell ⟨g, 0, Option.none⟩ (.slice A1 m1 c1)).setCell ⟨g, 1, Option.none⟩ (.slice A2 m2 c2)) lo hi A' 2 c' [x.take m1, y.take m2] ∧ Mid lo hi w ((w.setCell ⟨g, 0, Option.none⟩ (.slice A1 m1 c1)).setCell ⟨g, 1, Option.none⟩ (.slice A2 m2 c2)) := by
  obtain ⟨vs, h1, h2, h3⟩ := h.own.rows
  obtain ⟨g, cap, hv, hb, hlt⟩ := h1.own.form (by omega)
  injection hv with hA _ hc
  subst hA; subst hc
  have hghi := h.out g rfl
  match vs, h1, h2, h3 with
  | [v1, v2], h1, h2, h3 =>
    have o1 := h2 0 v1 x rfl rfl
    have o2 := h2 1 v2 y rfl rfl
    obtain ⟨A1, n1, c1, rfl, s1, k1⟩ := o1
    obtain ⟨A2, n2, c2, rfl, s2, k2⟩ := o2
    have o1 : OwnVal w lo hi (.slice A1 n1 c1) x := ⟨A1, n1, c1, rfl, s1, k1⟩
    have o2 : OwnVal w lo hi (.slice A2 n2 c2) y := ⟨A2, n2, c2, rfl, s2, k2⟩
    have hgk : ∃ cs, w.heap[g]? = some (.cells cs 29 (0, 0)) := h1.kind g rfl
    refine ⟨g, A1, n1, c1, A2, n2, c2, rfl, hb, hghi, by rw [h1.own.cellAt 0 (by omega)]; rfl, by rw [h1.own.cellAt 1 (by omega)]; rfl, h1.own.frozenAt 0, h1.own.frozenAt 1, s1.rd, s2.rd, fun m1 m2 hm1 hm2 => ⟨?_, ?_⟩⟩
    · obtain ⟨r1, g1⟩ := h1.own.stored 0 (.slice A1 m1 c1)
      obtain ⟨r2, g2⟩ := r1.stored 1 (.slice A2 m2 c2)
      have ne1 : ∀ b, Value.ownBlock (.slice A1 m1 c1) = some b → some b ≠ some g := fun b hb1 e => by
        injection e with e
        rw [ownBlock_len (m := n1)] at hb1
        exact kinds_ne (by decide) (o1.kind b hb1) hgk e
      have ne2 : ∀ b, Value.ownBlock (.slice A2 m2 c2) = some b → some b ≠ some g := fun b hb1 e => by
        injection e with e
        rw [ownBlock_len (m := n2)] at hb1
        exact kinds_ne (by decide) (o2.kind b hb1) hgk e
      have p1 := ((o1.cut hm1).grown g1 ne1).grown g2 ne1
      have p2 := ((o2.cut hm2).grown g1 ne2).grown g2 ne2
      refine ⟨⟨rfl, [.slice A1 m1 c1, .slice A2 m2 c2], ⟨rfl, r2⟩, fun j v xs hv hx => ?_, fun i j u v b hij hu hv hgu hgv => ?_⟩, h.out⟩
      · match j, hv, hx with
        | 0, hv, hx =>
          simp only [List.getElem?_cons_zero, Option.some.injEq] at hv hx
          subst hv; subst hx; exact p1
        | 1, hv, hx =>
          simp only [List.getElem?_cons_succ, List.getElem?_cons_zero, Option.some.injEq] at hv hx
          subst hv; subst hx; exact p2
        | j + 2, hv, _ => simp at hv
      · have hj := (List.getElem?_eq_some_iff.1 hv).1
        simp only [List.length_cons, List.length_nil] at hj
        obtain rfl : i = 0 := by omega
        obtain rfl : j = 1 := by omega
        simp only [List.getElem?_cons_succ, List.getElem?_cons_zero, Option.some.injEq] at hu hv
        subst hu; subst hv
        exact h3 0 1 _ _ b (by omega) rfl rfl (by rw [ownBlock_len (m := m1)]; exact hgu) (by rw [ownBlock_len (m := m2)]; exact hgv)
    · exact (mid_setCell (p := ⟨g, 0, none⟩) _ ⟨hb, hghi⟩).trans (mid_setCell (p := ⟨g, 1, none⟩) _ ⟨hb, hghi⟩)
/-- one list of lists of one's own in the block that is laid last -/
theorem stT_one {w0 w : World} {B K K2 n c : Nat} {A : Option Addr} {xss : List (List Int)} (hb : Below B w0 w) (hBK : B ≤ K) (h : OwnM w K K2 A n c xss) (hK2 : K2 ≤ w.heap.size) (hKK : K ≤ K2) :
    StT w0 B (w.alloc (.cells #[.slice A n c] 22)) (w.heap.size + 1) (some ⟨w.heap.size, 0, none⟩) 1 1 [xss] := by
  have hx : Below w.heap.size w (w.alloc (.cells #[.slice A n c] 22)) := (Below.refl _ _).alloc (Nat.le_refl _) _
  have hw : B ≤ w.heap.size := by omega
  refine ⟨⟨rfl, [.slice A n c], fun _ => K, fun _ => K2, ⟨rfl, .inr ⟨w.heap.size, 1, _, rfl, hw, heap_alloc_new w _, Nat.le_refl _, by unfold maxLen; omega, rfl, rfl⟩⟩, fun g hg => ?_, fun j p hj => ?_, fun j hj => ⟨hBK, hKK, (show K2 ≤ w.heap.size + 1 by omega), fun g hg => ?_⟩, fun i j hij hj => by omega⟩, hb.alloc hw _, by omega, by simp⟩
  · have e : some w.heap.size = some g := hg
    injection e with e
    omega
  · have : j = 0 := by
      have := (List.getElem?_eq_some_iff.1 hj).1
      simpa using this
    subst this
    simp only [List.getElem?_cons_zero, Option.some.injEq] at hj
    subst hj
    exact ⟨A, n, c, rfl, h.below hx⟩
  · have e : some w.heap.size = some g := hg
    injection e with e
    exact .inr (show K2 ≤ g by omega)
def pr (e : List Int × List Int) : List (List Int) := [e.1, e.2]
def prT (e : List Int × List Int) : List (List Int) := [trimL e.1, trimL e.2]
/-- the pairs that one pair makes -/
def prX (e : List Int × List Int) (n : Int) (x : Nat) : List Int × List Int := (e.1 ++ [(x : Int)], e.2 ++ [n - (x : Int)])
theorem prtS_take {ps : List (List Int × List Int)} {n : Int} {j : Nat} {e : List Int × List Int} (h : Hid (ps[j]? = some e)) : prtS (ps.take (j + 1)) n = prtS (ps.take j) n ++ (List.range (n.toNat + 1)).map (prX e n) := by
  unfold prtS
  rw [List.take_add_one, h.out, List.flatMap_append]
  simp [prX]
theorem prt_take {r : List Int} {k : Nat} {n : Int} (h : Hid (r[k]? = some n)) : prt (r.take (k + 1)) = prtS (prt (r.take k)) n := by
  rw [List.take_add_one, h.out]; exact prt_snoc _ _
theorem range_snoc {e : List Int × List Int} {n : Int} (x : Nat) : ((List.range (x + 1)).map (prX e n)).map pr = ((List.range x).map (prX e n)).map pr ++ [[e.1 ++ [(x : Int)], e.2 ++ [n - (x : Int)]]] := by
  rw [List.range_succ, List.map_append, List.map_append]; rfl
/-- lists of lists that were made and stand -/
def RetPT (ps : Lls) (w : World) (e : Ending) (w' : World) : Prop := ∃ A c, e = .returned (.slice A ps.length c) ∧ RdT w' w'.heap.size A ps.length c ps ∧ Below w.heap.size w w'
theorem RetPT.mk {w w' : World} {A : Option Addr} {n c K : Nat} {ps qs : Lls} (h : StT w w.heap.size w' K A n c qs) (e : qs = ps) : RetPT ps w (.returned (.slice A n c)) w' := by
  subst e
  obtain rfl := h.own.len
  exact ⟨A, c, rfl, h.own.rd h.hi, h.bel⟩
theorem deg_pre {r : List Int} (h : ∀ z ∈ r, (0 : Int) ≤ z) (k : Nat) : deg (r.take k) ≤ deg r := by
  have h1 := dN_le h (min k r.length) (r.length - min k r.length)
  rw [show min k r.length + (r.length - min k r.length) = r.length by omega] at h1
  have h2 : deg (r.take k) = dN r (min k r.length) := by
    unfold deg
    rw [List.length_take]
    have key : ∀ j, j ≤ min k r.length → dN (r.take k) j = dN r j := by
      intro j hj
      induction j with
      | zero => rfl
      | succ j ih => rw [dN, dN, ih (by omega), List.getElem?_take, if_pos (by omega)]
    exact key _ (Nat.le_refl _)
  rw [h2]; exact h1
theorem Row5.pre {r : List Int} (h : Row5 r) (k : Nat) : Row5 (r.take k) := by
  refine ⟨by rw [List.length_take]; have := h.len; omega, fun z hz => h.nn z (List.mem_of_mem_take hz), Int.le_trans (deg_pre h.nn k) h.deg⟩
end Go.Proofs.Ytejlkobieohgfaa
