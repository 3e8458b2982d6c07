/- append of a polynomial; markPolyS, heldPolyS. -/
import Derived.Test.YtoodhbafleemjaaGreatPls
import Derived.Maps.AppendAt
import Derived.Test.YtoodhbafleemjaaGreatModT
namespace Go.Proofs.YtoodhbafleemjaaGreat
open Go.RowKit
set_option linter.unusedVariables false

theorem Tryz.info_pol : (Tryz.prog.info? 26).map (fun i => (i.zero, i.size, i.bytes)) = some (some (.agg #[.int .i64 0, .slice none 0 0]), 2, 32) := by kernel_rfl
/-- polynomials of one's own, from a function's start -/
structure StQ (w0 : World) (B : Nat) (w : World) (K : Nat) (A : Option Addr) (n c : Nat) (ps : Pls) : Prop where
  own : OwnQ w B K A n c ps
  bel : Below B w0 w
  lo : B ≤ K
  hi : K ≤ w.heap.size
theorem StQ.call {w0 w w1 : World} {B K n c : Nat} {A : Option Addr} {ps : Pls} (h : StQ w0 B w K A n c ps) (hb : Below w.heap.size w w1) : StQ w0 B w1 K A n c ps :=
  ⟨h.own.below h.hi hb, h.bel.trans (hb.mono (Nat.le_trans h.lo h.hi)), h.lo, Nat.le_trans h.hi hb.size⟩
theorem StQ.size {w0 w : World} {B K n c : Nat} {A : Option Addr} {ps : Pls} (h : StQ w0 B w K A n c ps) : B ≤ w.heap.size := Nat.le_trans h.lo h.hi
theorem StQ.start {w0 w : World} {B : Nat} (hb : Below B w0 w) (hB : B ≤ w.heap.size) : StQ w0 B (w.alloc (.cells #[] 26)) (w.alloc (.cells #[] 26)).heap.size (some ⟨w.heap.size, 0, none⟩) 0 0 [] :=
  ⟨⟨rfl, [], fun _ => 0, fun _ => 0, World.ownsRow_made w #[] 0 hB (Nat.zero_le _) rfl, fun g hg => by
      have e : some w.heap.size = some g := hg
      injection e with e; simp; omega, fun j v xss hj => (by simp at hj), fun j hj => (by omega), fun i j _ hj => (by omega)⟩, hb.alloc hB _, Nat.le_trans hB (by simp), Nat.le_refl _⟩
set_option maxRecDepth 100000 in
/-- append of one polynomial, which stands in the block that was laid last -/
theorem wpList_pushQ {w0 w : World} {ops : Array Oper} {rest : List Oper} {o : Oper} {a : Act} {Q : Exit → Act → World → Prop} (hgd : o.guard = none) (s x : Operand)
    (ho : o.op = .call { callee := .builtin .append, args := #[s, x], argTypes := #[46, 46] }) {B K K2 n c n' c' : Nat} {A A' : Option Addr} {ps : Pls} {v : Int} {xss : List (List Int)}
    (hs : a.eval s = .slice A n c) (hx : a.eval x = .slice (some ⟨w.heap.size, 0, Option.none⟩) 1 1) (hst : StQ w0 B w K A n c ps) (hnew : OwnM w K K2 A' n' c' xss) (hK : K ≤ K2) (hK2 : K2 ≤ w.heap.size) (hn : n ≤ 1000000)
    (h : ∀ A2 c2 w', StQ w0 B w' w'.heap.size A2 (n + 1) c2 (ps ++ [(v, xss)]) → wpList Tryz.prog ops Q rest (a.put o.dst (.slice A2 (n + 1) c2)) w') :
    wpList Tryz.prog ops Q (o :: rest) a (w.alloc (.cells #[.int .i64 v, .slice A' n' c'] 26)) := by
  obtain ⟨i, hi, hz, hsz, hby⟩ := info_parts Tryz.info_pol
  obtain ⟨w1, hw1⟩ : ∃ W, W = w.alloc (.cells #[.int .i64 v, .slice A' n' c'] 26) := ⟨_, rfl⟩
  have hb : Below w.heap.size w w1 := by rw [hw1]; exact (Below.refl _ _).alloc (Nat.le_refl _) _
  have hz1 : w1.heap.size = w.heap.size + 1 := by rw [hw1]; simp
  obtain ⟨cs, lo, hi', h1, h2, h3, h4, h5⟩ := (hst.call hb).own.ex
  have hlen : cs.length = n * 2 := h1.1
  have hn2 := hnew.below hb
  rw [← hw1]
  refine wpList_append_own_at w1 hgd s x 46 ho B 26 i _ 2 32 Tryz.underlying46 hi hz hsz hby rfl (by decide) (.slice A n c) n cs hs h1
    ⟨w.heap.size, 0, Option.none⟩ 1 1 [.int .i64 v, .slice A' n' c'] hx rfl (fun j u hu => ?_) (fun u hu => ?_) (by unfold maxLen; omega) (by omega) (Nat.le_trans hst.size hb.size) fun v' w' k1 k2 _ k4 => ?_
  · rw [hw1]
    match j, hu with
    | 0, hu => rw [← Option.some.inj hu]; simp [Addr.add]
    | 1, hu => rw [← Option.some.inj hu]; simp [Addr.add]
  · simp only [List.mem_cons, List.not_mem_nil, or_false] at hu
    rcases hu with rfl | rfl <;> rfl
  · obtain ⟨g2, cap2, rfl, hg2, hlt2⟩ := k1.form (by omega)
    have hrow : ∀ g, B ≤ g → g < K2 → (∀ b, Value.ownBlock (.slice A n c) = some b → b ≠ g) → w'.heap[g]? = w1.heap[g]? := fun g hgB hgK hne => by
      refine k2.block g (by rw [hz1]; omega) ?_
      intro e
      exact hne g e.symm rfl
    have hg2K : g2 < K ∨ w.heap.size ≤ g2 := by
      rcases k4 with e | e
      · left
        have e2 : Value.ownBlock (.slice A n c) = some g2 := e.symm.trans rfl
        exact h2 g2 e2
      · right
        have e2 : some g2 = some w1.heap.size := e
        injection e2 with e2
        omega
    have hsame2 : g2 < K → Value.ownBlock (.slice A n c) = some g2 := fun hlt => by
      rcases k4 with e | e
      · exact e.symm.trans rfl
      · have e2 : some g2 = some w1.heap.size := e
        injection e2 with e2
        have := hst.hi
        omega
    have hsz' : w1.heap.size ≤ w'.heap.size := k2.size
    refine h _ _ w' ⟨⟨by rw [List.length_append, hst.own.len]; rfl, cs ++ [.int .i64 v, .slice A' n' c'], fun j => if j < n then lo j else K, fun j => if j < n then hi' j else K2, k1, fun g hg => ?_, fun j v' xss' hj => ?_, fun j hj => ?_, fun i' j hij hj => ?_⟩,
      (hst.bel.trans (hb.mono hst.size)).grown k2 (Nat.le_trans hst.size hb.size) (fun g hg => (h1.lt g hg).1), Nat.le_trans hst.size (Nat.le_trans hb.size hsz'), Nat.le_refl _⟩
    · have e : some g2 = some g := hg
      injection e with e
      omega
    · by_cases hjn : j < n
      · rw [List.getElem?_append_left (by rw [hst.own.len]; exact hjn)] at hj
        obtain ⟨A3, n3, c3, r1, r2, r3⟩ := h3 j v' xss' hj
        refine ⟨A3, n3, c3, by rw [List.getElem?_append_left (by omega)]; exact r1, by rw [List.getElem?_append_left (by omega)]; exact r2, ?_⟩
        dsimp only
        rw [if_pos hjn, if_pos hjn]
        obtain ⟨q1, q2, q3, q4⟩ := h4 j hjn
        exact r3.same fun g hg1 hg3 => hrow g (by omega) (by omega) fun b hb e => by
          subst e
          rcases q4 b hb with x | x <;> omega
      · have hjn2 : j = n := by
          have := (List.getElem?_eq_some_iff.1 hj).1
          rw [List.length_append, hst.own.len] at this
          simp at this; omega
        subst hjn2
        rw [List.getElem?_append_right (by rw [hst.own.len]; exact Nat.le_refl _), hst.own.len, Nat.sub_self] at hj
        simp only [List.getElem?_cons_zero, Option.some.injEq, Prod.mk.injEq] at hj
        obtain ⟨rfl, rfl⟩ := hj
        refine ⟨A', n', c', by rw [List.getElem?_append_right (by omega), hlen, Nat.sub_self]; rfl, by rw [List.getElem?_append_right (by omega), hlen, show j * 2 + 1 - j * 2 = 1 from by omega]; rfl, ?_⟩
        dsimp only
        rw [if_neg hjn, if_neg hjn]
        exact hn2.same fun g hg1 hg3 => hrow g (Nat.le_trans hst.lo hg1) hg3 fun b hb e => by
          subst e
          have := h2 b hb
          omega
    · by_cases hjn : j < n
      · dsimp only
        rw [if_pos hjn, if_pos hjn]
        obtain ⟨q1, q2, q3, q4⟩ := h4 j hjn
        refine ⟨q1, q2, by have := hst.hi; omega, fun g hg => ?_⟩
        have e : some g2 = some g := hg
        injection e with e
        subst e
        rcases hg2K with hlt | hge
        · exact q4 g2 (hsame2 hlt)
        · right; have := hst.hi; omega
      · dsimp only
        rw [if_neg hjn, if_neg hjn]
        refine ⟨hst.lo, hK, by omega, fun g hg => ?_⟩
        have e : some g2 = some g := hg
        injection e with e
        subst e
        rcases hg2K with hlt | hge
        · exact .inl hlt
        · right; omega
    · by_cases hjn : j < n
      · dsimp only
        rw [if_pos hjn, if_pos (by omega)]
        exact h5 i' j hij hjn
      · dsimp only
        rw [if_neg hjn, if_pos (by omega)]
        exact (h4 i' (by omega)).2.2.1
end Go.Proofs.YtoodhbafleemjaaGreat

/- markPolyS, heldPolyS. -/
namespace Go.Proofs.YtoodhbafleemjaaGreat
open Go.RowKit
set_option linter.unusedVariables false

theorem wpList_pushQH {w0 w : World} {ops : Array Oper} {rest : List Oper} {o : Oper} {a : Act} {Q : Exit → Act → World → Prop} (hgd : o.guard = none) (s x : Operand)
    (ho : o.op = .call { callee := .builtin .append, args := #[s, x], argTypes := #[46, 46] }) {B K K2 n c n' c' H : Nat} {A A' : Option Addr} {ps : Pls} {v : Int} {xss : List (List Int)}
    (hs : a.eval s = .slice A n c) (hH : w.heap.size = H) (hx : a.eval x = .slice (some ⟨H, 0, Option.none⟩) 1 1) (hst : StQ w0 B w K A n c ps) (hnew : OwnM w K K2 A' n' c' xss) (hK : K ≤ K2) (hK2 : K2 ≤ w.heap.size) (hn : n ≤ 1000000)
    (h : ∀ A2 c2 w', StQ w0 B w' w'.heap.size A2 (n + 1) c2 (ps ++ [(v, xss)]) → wpList Tryz.prog ops Q rest (a.put o.dst (.slice A2 (n + 1) c2)) w') :
    wpList Tryz.prog ops Q (o :: rest) a (w.alloc (.cells #[.int .i64 v, .slice A' n' c'] 26)) := by
  subst hH
  exact wpList_pushQ hgd s x ho hs hx hst hnew hK hK2 hn h
def marksQ : Int → Pls → Pls
  | _, [] => []
  | m, (_, x) :: ps => (m, marksL (m + 1) x) :: marksQ (m + 1 + totalL x) ps
theorem totalQ_cons (p : Int × List (List Int)) (ps : Pls) : totalQ (p :: ps) = 1 + totalL p.2 + totalQ ps := by simp [totalQ]
theorem marksQ_append : ∀ (ps qs : Pls) (m : Int), marksQ m (ps ++ qs) = marksQ m ps ++ marksQ (m + totalQ ps) qs
  | [], qs, m => by simp [marksQ, totalQ]
  | (v, x) :: ps, qs, m => by
    rw [List.cons_append, marksQ, marksQ, marksQ_append ps qs, totalQ_cons, List.cons_append]
    congr 3
    push_cast
    omega
theorem marksQ_length : ∀ (ps : Pls) (m : Int), (marksQ m ps).length = ps.length
  | [], m => rfl
  | (v, x) :: ps, m => by rw [marksQ, List.length_cons, List.length_cons, marksQ_length ps]
theorem totalQ_append (ps qs : Pls) : totalQ (ps ++ qs) = totalQ ps + totalQ qs := by simp [totalQ]
theorem totalQ_take_succ {ps : Pls} {k : Nat} {v : Int} {x : List (List Int)} (h : Hid (ps[k]? = some (v, x))) : totalQ (ps.take (k + 1)) = totalQ (ps.take k) + (1 + totalL x) := by
  rw [List.take_add_one, h.out, totalQ_append]; simp [totalQ]
theorem totalQ_len : ∀ ps : Pls, ps.length ≤ totalQ ps
  | [] => Nat.zero_le _
  | p :: ps => by have := totalQ_len ps; rw [totalQ_cons, List.length_cons]; omega
theorem totalQ_take_le (ps : Pls) (k : Nat) : totalQ (ps.take k) ≤ totalQ ps := by
  have h : totalQ (ps.take k ++ ps.drop k) = totalQ ps := by rw [List.take_append_drop]
  rw [totalQ_append] at h
  omega
theorem totalQ_mem {ps : Pls} {p : Int × List (List Int)} (h : p ∈ ps) : 1 + totalL p.2 ≤ totalQ ps := by
  obtain ⟨a, b, rfl⟩ := List.append_of_mem h
  rw [totalQ_append, totalQ_cons]
  omega
theorem marksQ_take_succ {ps : Pls} {k : Nat} {v m : Int} {x : List (List Int)} (h : Hid (ps[k]? = some (v, x))) : marksQ m (ps.take (k + 1)) = marksQ m (ps.take k) ++ [(m + totalQ (ps.take k), marksL (m + totalQ (ps.take k) + 1) x)] := by
  rw [List.take_add_one, h.out, Option.toList_some, marksQ_append]; rfl
theorem marksQ_get {ps : Pls} {k : Nat} {v m : Int} {x : List (List Int)} (h : Hid (ps[k]? = some (v, x))) : (marksQ m ps)[k]? = some (m + totalQ (ps.take k), marksL (m + totalQ (ps.take k) + 1) x) := by
  have hk : k < ps.length := (List.getElem?_eq_some_iff.1 h.out).1
  have e : ps = ps.take (k + 1) ++ ps.drop (k + 1) := (List.take_append_drop _ _).symm
  have hl : (marksQ m (ps.take k)).length = k := by rw [marksQ_length, List.length_take]; omega
  have : marksQ m ps = marksQ m (ps.take k) ++ ([(m + totalQ (ps.take k), marksL (m + totalQ (ps.take k) + 1) x)] ++ marksQ (m + totalQ (ps.take (k + 1))) (ps.drop (k + 1))) := by
    conv => lhs; rw [e]
    rw [marksQ_append, marksQ_take_succ h, List.append_assoc]
  rw [this, List.getElem?_append_right (by omega), hl, Nat.sub_self]
  rfl
theorem marksQ_set {ps : Pls} {k : Nat} {v m : Int} {x y : List (List Int)} {u : Int} (h : Hid (ps[k]? = some (v, x))) : (marksQ m (ps.take k) ++ ps.drop k).set k (u, y) = marksQ m (ps.take k) ++ (u, y) :: ps.drop (k + 1) := by
  have hk : k < ps.length := (List.getElem?_eq_some_iff.1 h.out).1
  have hl : (marksQ m (ps.take k)).length = k := by rw [marksQ_length, List.length_take]; omega
  rw [List.set_append_right _ _ (by omega), hl, Nat.sub_self, List.drop_eq_getElem_cons hk]
  rfl

def RetMarkQ (B K : Nat) (A : Option Addr) (n c : Nat) (ps : Pls) (x : Int) (w : World) (e : Ending) (w' : World) : Prop := e = .returned (.int .i64 x) ∧ OwnQ w' B K A n c ps ∧ Mid B K w w'
theorem RetMarkQ.mk {B K n c : Nat} {A : Option Addr} {ps : Pls} {x y : Int} {w w' : World} (h : y = x) (ho : OwnQ w' B K A n c ps) (hm : Mid B K w w') : RetMarkQ B K A n c ps x w (.returned (.int .i64 y)) w' := ⟨by rw [h], ho, hm⟩
end Go.Proofs.YtoodhbafleemjaaGreat
