/- Polynomials as maps from numbers to true: which numbers are there, modulo 2; look-up, store, delete and range, at the operations. -/
import Derived.Test.YtoodhbafleemjaaGreatPar
import Derived.Test.YtoodhbafleemjaaGreatMid
import Derived.Maps.OwnSet
import Derived.Maps.OwnOps
import Derived.Maps.RangeWalk
import Derived.Test.YtoodhbafleemjaaGreatExc
namespace Go.Proofs.YtoodhbafleemjaaGreat
open Go.RowKit
open Go.ChangeMaps Go.MapKept Go.WideShapes
open Go.WideElems (Fit rd rg pl rd_val)
set_option linter.unusedVariables false

abbrev litI (x : Int) : Lit := Lit.int .i64 x
theorem keyI : Maps.Keyed Tryz.prog 2 := Maps.int_keyed Tryz.underlying2
theorem zeroB (w : World) : (zeroValue 4).run Tryz.prog w = .ok (.bool false) w := by kernel_rfl
noncomputable abbrev rdB : Value → Option (DataW Unit × List MemPlace) := plainElem (H := Unit) Tryz.prog 4
noncomputable abbrev mapP (w : World) (b n : Nat) (D : DataW Unit) : Prop := w.ownsMap Tryz.prog 2 rdB b n D
def tt : DataW Unit := .lit (.bool true)
theorem rdB_mk (x : Bool) : rdB (.bool x) = some (.lit (.bool x), []) := plainElem_bool Tryz.underlying4 x
theorem rdB_inv {v : Value} {z : DataW Unit × List MemPlace} (h : rdB v = some z) : ∃ x, v = .bool x ∧ z = (.lit (.bool x), []) := by
  unfold rdB plainElem at h
  revert h
  rw [Tryz.underlying4]
  intro h
  cases v <;> simp at h
  exact ⟨_, rfl, h.symm⟩

def wfI (x : Int) : Prop := (litI x).wf = true
theorem wfI_mk {x : Int} (h0 : -9223372036854775808 ≤ x) (h1 : x ≤ 9223372036854775807) : wfI x := by
  unfold wfI litI
  have e0 : IntKind.i64.min = -9223372036854775808 := by decide
  have e1 : IntKind.i64.max = 9223372036854775807 := by decide
  show (decide (IntKind.i64.min ≤ x) && decide (x ≤ IntKind.i64.max)) = true
  rw [e0, e1]
  simp [h0, h1]
theorem keyI_of {x : Int} (h : wfI x) : keyOf Tryz.prog 2 (.int .i64 x) = some (litI x) := Maps.keyOf_int_mk Tryz.underlying2 h
theorem litI_key (x : Int) : WideAt.IsKeyLit (litI x) := trivial
theorem litI_same (x y : Int) : (litI x).sameKey (litI y) = decide (x = y) := by
  by_cases h : x = y
  · subst h; rw [WideAt.sameKey_self (litI_key x)]; simp
  · cases hs : (litI x).sameKey (litI y)
    · simp [h]
    · have := WideAt.sameKey_eq hs
      injection this with _ e
      exact absurd e h
/-- the numbers that are there an odd number of times -/
abbrev odd? (L : List Int) (x : Int) : Bool := decide (L.count x % 2 = 1)
theorem odd?_oddI (L : List Int) (x : Int) : odd? L x = decide (x ∈ oddI L) := by
  unfold odd?
  by_cases h : L.count x % 2 = 1
  · simp [h, oddI_mem.2 h]
  · simp [h, mt oddI_mem.1 h]

theorem sizeP {w : World} {b n : Nat} {D : DataW Unit} {L : List Int} (h : mapP w b n D) (hh : ∀ x, Maps.has D (litI x) = odd? L x) : Maps.size D = (oddI L).length := by
  have hap : ∃ l, D = .map l ∧ l.Pairwise (fun p q => p.1 ≠ q.1) ∧ ∀ p ∈ l, ∃ x, p.1 = litI x := by
    obtain ⟨es, clock, _, F, _, rfl⟩ := h
    refine ⟨_, rfl, ((sorted_perm _).pairwise_iff (fun {_ _} hne => Ne.symm hne)).2 (Maps.fit_apart keyI F), fun p hp => ?_⟩
    obtain ⟨v, hv⟩ := Maps.fit_keys F p (mem_sorted.1 hp)
    obtain ⟨x, _, e, _⟩ := Maps.keyOf_int_inv Tryz.underlying2 hv
    exact ⟨x, e⟩
  obtain ⟨l, rfl, hd, hk⟩ := hap
  let num : Lit → Int := fun k => match k with | .int _ x => x | _ => 0
  have hnd : (l.map fun p => num p.1).Nodup := by
    unfold List.Nodup
    rw [List.pairwise_map]
    refine List.Pairwise.imp_of_mem ?_ hd
    intro p q hp hq hne e
    obtain ⟨x, hx⟩ := hk p hp
    obtain ⟨y, hy⟩ := hk q hq
    rw [hx, hy] at e
    apply hne
    rw [hx, hy, show x = y from e]
  have hm : ∀ z, z ∈ (l.map fun p => num p.1) ↔ z ∈ oddI L := by
    intro z
    have h1 := hh z
    rw [odd?_oddI, Maps.has_eq] at h1
    have h2 : (l.any fun p => p.1.sameKey (litI z)) = true ↔ z ∈ oddI L := by rw [h1]; simp
    rw [← h2, List.any_eq_true, List.mem_map]
    constructor
    · rintro ⟨p, hp, rfl⟩
      obtain ⟨x, hx⟩ := hk p hp
      refine ⟨p, hp, ?_⟩
      rw [hx, litI_same]
      simp [num]
    · rintro ⟨p, hp, hs⟩
      obtain ⟨x, hx⟩ := hk p hp
      rw [hx, litI_same] at hs
      exact ⟨p, hp, by rw [hx]; simpa [num] using hs⟩
  have := (nodup_perm hnd (oddI_nodup L) hm).length_eq
  rw [List.length_map] at this
  exact this

/-- block b is a map that holds just those numbers that are in L an odd number of times, each with true -/
structure OwnP (w : World) (b : Nat) (L : List Int) : Prop where
  map : ∃ D, mapP w b (Maps.size D) D ∧ (∀ x, Maps.has D (litI x) = odd? L x) ∧ ∀ x z, Maps.has D (litI x) = true → D.atKey (litI x) z = tt
theorem OwnP.lt {w : World} {b : Nat} {L : List Int} (h : OwnP w b L) : b < w.heap.size := by
  obtain ⟨D, h1, _⟩ := h.map
  exact h1.lt
theorem OwnP.congr {w : World} {b : Nat} {L M : List Int} (h : OwnP w b L) (hp : Par L M) : OwnP w b M := by
  obtain ⟨D, h1, h2, h3⟩ := h.map
  exact ⟨D, h1, fun x => by rw [h2 x]; unfold odd?; rw [hp x], h3⟩
theorem OwnP.kept {w w' : World} {b : Nat} {L : List Int} {row : Option Nat} (h : OwnP w b L) (hg : w.grownBy w' row) (hr : some b ≠ row) : OwnP w' b L := by
  obtain ⟨D, h1, h2, h3⟩ := h.map
  exact ⟨D, h1.kept hg hr, h2, h3⟩
theorem grownBy_below {w w' : World} (h : Below w.heap.size w w') : w.grownBy w' none := ⟨h.os, h.tape, h.output, h.size, fun k hk _ => h.block k hk⟩
theorem below_grownBy {w w' : World} {B b : Nat} (h : w.grownBy w' (some b)) (hb : B ≤ b) (hB : B ≤ w.heap.size) : Below B w w' :=
  ⟨h.os, h.tape, h.output, h.size, fun k hk => h.block k (Nat.lt_of_lt_of_le hk hB) (by intro e; injection e with e; omega)⟩
theorem OwnP.below {w w' : World} {b : Nat} {L : List Int} (h : OwnP w b L) (hb : Below w.heap.size w w') : OwnP w' b L := h.kept (grownBy_below hb) (by simp)
theorem OwnP.new (w : World) : OwnP (w.alloc (.map #[] 0)) w.heap.size [] := by
  refine ⟨.map [], World.ownsMap_made w _ _ _, fun x => ?_, fun x z hx => ?_⟩
  · rw [Maps.has_eq]; simp
  · rw [Maps.has_eq] at hx; simp at hx
theorem OwnP.wfOf {w : World} {b : Nat} {L : List Int} (h : OwnP w b L) {x : Int} (hx : L.count x % 2 = 1) : wfI x := by
  obtain ⟨D, h1, h2, h3⟩ := h.map
  have hh := h2 x
  rw [show odd? L x = true from by simp [odd?, hx]] at hh
  obtain ⟨es, clock, _, F, _, rfl⟩ := h1
  rw [Maps.has_eq, List.any_eq_true] at hh
  obtain ⟨p, hp, hs⟩ := hh
  obtain ⟨v, hv⟩ := Maps.fit_keys F p (mem_sorted.1 hp)
  obtain ⟨y, _, e, hw⟩ := Maps.keyOf_int_inv Tryz.underlying2 hv
  rw [e, litI_same] at hs
  have : y = x := by simpa using hs
  subst this
  exact hw

section
variable (w : World) {ops : Array Oper} {rest : List Oper} {o : Oper} {a : Act} {Q : Exit → Act → World → Prop}
theorem wpList_lookP (hg : o.guard = none) (m x : Operand) {t : TypeId} (hop : o.op = Op.lookup t m x false) (ht : Tryz.prog.underlying t = some (.map 2 4)) {b : Nat} {L : List Int} {k : Int} (hm : a.eval m = .map (some b)) (hx : a.eval x = .int .i64 k) (h : OwnP w b L) (hw : wfI k)
    (hK : wpList Tryz.prog ops Q rest (a.put o.dst (.bool (odd? L k))) w) : wpList Tryz.prog ops Q (o :: rest) a w := by
  refine wpList_plain hg fun K' hK' => ?_
  obtain ⟨D, h1, h2, h3⟩ := h.map
  obtain ⟨v, ps, hrun, hv⟩ := h1.lookup keyI ht (zeroB w) (rdB_mk false) (keyI_of hw)
  obtain ⟨y, rfl, hy⟩ := rdB_inv hv
  have hyk : y = odd? L k := by
    have e := congrArg Prod.fst hy
    simp only at e
    rw [← h2 k]
    cases hh : Maps.has D (litI k)
    · rw [Maps.atKey_of_not_has hh] at e
      exact (Lit.bool.inj (DataW.lit.inj e)).symm
    · rw [h3 k _ hh] at e
      unfold tt at e
      exact (Lit.bool.inj (DataW.lit.inj e)).symm
  subst hyk
  unfold Oper.wp
  simp [execOp, hop, hm, hx, hrun, Result.andThen]
  exact hK' _ _ (by simpa using hK)

theorem wpList_putP (hg : o.guard = none) (m x v : Operand) {t : TypeId} (hop : o.op = Op.mapUpdate t m x v) (ht : Tryz.prog.underlying t = some (.map 2 4)) {b : Nat} {L : List Int} {k : Int} (hm : a.eval m = .map (some b)) (hx : a.eval x = .int .i64 k) (hv : a.eval v = .bool true) (h : OwnP w b L) (hw : wfI k)
    (hk : L.count k % 2 = 0) (hn : L.length < 1000000000000)
    (hK : ∀ w', OwnP w' b (L ++ [k]) → w.grownBy w' (some b) → w'.heap.size = w.heap.size → wpList Tryz.prog ops Q rest (a.put o.dst undef) w') : wpList Tryz.prog ops Q (o :: rest) a w := by
  obtain ⟨D, h1, h2, h3⟩ := h.map
  have hsz := sizeP h1 h2
  have hlen : (oddI L).length ≤ L.length := by
    have hp := (oddI_nodup L)
    exact hp.length_le_of_subset fun z hz => oddI_sub hz
  have hhk : Maps.has D (litI k) = false := by rw [h2 k]; simp [odd?, hk]
  refine wpList_mapUpdate_in w hg m x v t hop 2 4 keyI ht rdB b (Maps.size D) D hm h1 ?_ (.int .i64 k) (.bool true) (litI k) hx hv (keyI_of hw) tt [] (rdB_mk true) ?_
  · rw [hsz]; exact Nat.lt_of_le_of_lt hlen (Nat.lt_trans hn (by decide))
  · intro w' h4 hturn
    have hg' := hturn.grown
    have hs' : w'.heap.size = w.heap.size := by obtain ⟨es, c, es', c', hb, rfl⟩ := hturn; simp [setBlock]
    refine hK w' ⟨D.put (litI k) tt, ?_, fun z => ?_, fun z zd hz => ?_⟩ hg' hs'
    · rw [Maps.size_put (h1.tidy keyI), hhk]; exact h4
    · by_cases hz : z = k
      · subst hz
        rw [Maps.has_put_same h1.isMap (litI_key z)]
        simp [odd?, List.count_append]; omega
      · rw [Maps.has_put_other (fun e => hz (by injection e)), h2 z]
        have : (k == z) = false := by simpa using fun e => hz e.symm
        simp [odd?, List.count_append, List.count_cons, this]
    · by_cases hzk : z = k
      · subst hzk
        exact Maps.atKey_put_same h1.isMap (litI_key z) _ _
      · rw [Maps.atKey_put_other (fun e => hzk (by injection e))]
        rw [Maps.has_put_other (fun e => hzk (by injection e))] at hz
        exact h3 z zd hz

theorem wpList_dropP (hg : o.guard = none) (m x : Operand) {t : TypeId} (hop : o.op = Op.call { callee := Callee.builtin Builtin.delete, args := #[m, x], argTypes := #[t, 2] }) (ht : Tryz.prog.underlying t = some (.map 2 4)) {b : Nat} {L : List Int} {k : Int} (hm : a.eval m = .map (some b)) (hx : a.eval x = .int .i64 k) (h : OwnP w b L) (hw : wfI k)
    (hk : L.count k % 2 = 1)
    (hK : ∀ w', OwnP w' b (L ++ [k]) → w.grownBy w' (some b) → w'.heap.size = w.heap.size → wpList Tryz.prog ops Q rest (a.put o.dst (.tuple #[])) w') : wpList Tryz.prog ops Q (o :: rest) a w := by
  obtain ⟨D, h1, h2, h3⟩ := h.map
  have hhk : Maps.has D (litI k) = true := by rw [h2 k]; simp [odd?, hk]
  refine wpList_delete_own w hg m x t 2 hop 4 keyI ht rdB b (Maps.size D) D hm h1 (.int .i64 k) (litI k) hx (keyI_of hw) ?_
  intro w' h4 hturn
  have hg' := hturn.grown
  have hs' : w'.heap.size = w.heap.size := by obtain ⟨es, c, es', c', hb, rfl⟩ := hturn; simp [setBlock]
  have hhas : ∀ z, Maps.has (D.del (litI k)) (litI z) = odd? (L ++ [k]) z := by
    intro z
    by_cases hz : z = k
    · subst hz
      rw [Maps.has_del_same]
      simp [odd?, List.count_append]; omega
    · rw [Maps.has_del_other (fun e => hz (by injection e)), h2 z]
      have : (k == z) = false := by simpa using fun e => hz e.symm
      simp [odd?, List.count_append, List.count_cons, this]
  refine hK w' ⟨D.del (litI k), ?_, hhas, fun z zd hz => ?_⟩ hg' hs'
  · obtain ⟨es, clock, e1, e2, e3, e4⟩ := h4
    refine ⟨es, clock, e1, e2, ?_, e4⟩
    rw [e4]
    simp [Maps.size, length_sorted]
  · by_cases hzk : z = k
    · subst hzk; rw [Maps.has_del_same] at hz; cases hz
    · rw [Maps.atKey_del_other (fun e => hzk (by injection e))]
      rw [Maps.has_del_other (fun e => hzk (by injection e))] at hz
      exact h3 z zd hz
theorem wpList_lenP (hg : o.guard = none) (m : Operand) {t : TypeId} (hop : o.op = Op.call { callee := Callee.builtin Builtin.len, args := #[m], argTypes := #[t] }) (ht : Tryz.prog.underlying t = some (.map 2 4)) {b : Nat} {L : List Int} (hm : a.eval m = .map (some b)) (h : OwnP w b L)
    (hK : wpList Tryz.prog ops Q rest (a.put o.dst (.int .i64 (oddI L).length)) w) : wpList Tryz.prog ops Q (o :: rest) a w := by
  obtain ⟨D, h1, h2, h3⟩ := h.map
  refine wpList_len_own w hg m t hop 2 4 ht rdB b (Maps.size D) D hm h1 ?_
  rw [sizeP h1 h2]
  exact hK
end

/-- the range at r over the map b has met V so far -/
structure RanP (w : World) (b r : Nat) (L V : List Int) : Prop where
  r : ∃ D left cnt, w.ranges Tryz.prog 2 rdB b r (Maps.size D) D left cnt ∧ (∀ x, Maps.has D (litI x) = odd? L x) ∧ (∀ x z, Maps.has D (litI x) = true → D.atKey (litI x) z = tt) ∧ ∀ x, left (litI x) = (odd? L x && !decide (x ∈ V))
  nodup : V.Nodup
  sub : ∀ x ∈ V, L.count x % 2 = 1
theorem RanP.own {w : World} {b r : Nat} {L V : List Int} (h : RanP w b r L V) : OwnP w b L := by
  obtain ⟨D, left, cnt, h1, h2, h3, h4⟩ := h.r
  exact ⟨D, h1.owns, h2, h3⟩
theorem RanP.lt {w : World} {b r : Nat} {L V : List Int} (h : RanP w b r L V) : r < w.heap.size := by
  obtain ⟨D, left, cnt, h1, h2, h3, h4⟩ := h.r
  exact h1.lt
theorem RanP.kept {w w' : World} {b r : Nat} {L V : List Int} {row : Option Nat} (h : RanP w b r L V) (hg : w.grownBy w' row) (hb : some b ≠ row) (hr : some r ≠ row) : RanP w' b r L V ∧ w'.rangeLeft b r = w.rangeLeft b r := by
  obtain ⟨D, left, cnt, h1, h2, h3, h4⟩ := h.r
  have h5 := h1.kept hg hb hr
  exact ⟨⟨⟨D, left, cnt, h5, h2, h3, h4⟩, h.nodup, h.sub⟩, by rw [h5.left_eq, h1.left_eq]⟩
theorem RanP.below {w w' : World} {b r : Nat} {L V : List Int} (h : RanP w b r L V) (hg : Below w.heap.size w w') : RanP w' b r L V ∧ w'.rangeLeft b r = w.rangeLeft b r := h.kept (grownBy_below hg) (by simp) (by simp)

section
variable (w : World) {ops : Array Oper} {rest : List Oper} {o : Oper} {a : Act} {Q : Exit → Act → World → Prop}
theorem wpList_rangeP (hg : o.guard = none) (m : Operand) {t : TypeId} (hop : o.op = Op.range t m) (ht : Tryz.prog.underlying t = some (.map 2 4)) {b : Nat} {L : List Int} (hm : a.eval m = .map (some b)) (h : OwnP w b L)
    (hK : ∀ w', RanP w' b w.heap.size L [] → Below w.heap.size w w' → w'.heap.size = w.heap.size + 1 → wpList Tryz.prog ops Q rest (a.put o.dst (.pointer (some ⟨w.heap.size, 0, none⟩))) w') : wpList Tryz.prog ops Q (o :: rest) a w := by
  obtain ⟨D, h1, h2, h3⟩ := h.map
  refine wpList_range_own w hg m t hop 2 4 keyI ht rdB b (Maps.size D) D hm h1 ?_
  intro w' h4 h5 h6
  exact hK w' ⟨⟨D, _, _, h4, h2, h3, fun x => by rw [h2 x]; simp⟩, List.nodup_nil, fun x hx => by cases hx⟩ ⟨h5.os, h5.tape, h5.output, h5.size, fun k hk => h5.block k hk (by simp)⟩ h6
theorem wpList_nextP (hg : o.guard = none) (it : Operand) (hop : o.op = Op.next it false) {b r : Nat} {L V : List Int} (hit : a.eval it = .pointer (some ⟨r, 0, none⟩)) (h : RanP w b r L V)
    (hDone : V.Perm (oddI L) → wpList Tryz.prog ops Q rest (a.put o.dst (.tuple #[.bool false])) w)
    (hMore : ∀ (x : Int) (w' : World), wfI x → L.count x % 2 = 1 → RanP w' b r L (V ++ [x]) → w'.rangeLeft b r < w.rangeLeft b r → w.grownBy w' (some r) → w'.heap.size = w.heap.size →
      (Instr.entry (.pointer (some ⟨r, 0, none⟩))).run Tryz.prog w' = .ok (.tuple #[.int .i64 x, .bool true]) w' → wpList Tryz.prog ops Q rest (a.put o.dst (.tuple #[.bool true, .int .i64 x, .bool true])) w') :
    wpList Tryz.prog ops Q (o :: rest) a w := by
  obtain ⟨D, left, cnt, h1, h2, h3, h4⟩ := h.r
  refine wpList_next_ranges w hg it hop 2 keyI rdB (Value.int .i64) Value.bool (fun key kl hk => by obtain ⟨x, e, _⟩ := Maps.keyOf_int_inv Tryz.underlying2 hk; exact ⟨x, e⟩) (fun v y hv => by obtain ⟨x, e, _⟩ := rdB_inv hv; exact ⟨x, e⟩)
    b r (Maps.size D) D left cnt hit h1 ?_ ?_
  · intro _ hl
    refine hDone (nodup_perm h.nodup (oddI_nodup L) fun z => ⟨fun hz => oddI_mem.2 (h.sub z hz), fun hz => ?_⟩)
    have := h4 z
    rw [hl, show odd? L z = true from by simp [odd?, oddI_mem.1 hz]] at this
    simpa using this
  · intro x c kl y w' cnt' hkey hlk hv hat hrg hlt hgr hsz hen
    obtain ⟨x', ex, rfl, hwx⟩ := Maps.keyOf_int_inv Tryz.underlying2 hkey
    cases ex
    have hl := h4 x
    rw [hlk] at hl
    have hl' : odd? L x = true ∧ x ∉ V := by
      have := hl.symm
      simpa using this
    have hodd : L.count x % 2 = 1 := by simpa [odd?] using hl'.1
    obtain ⟨c', ec, hc⟩ := rdB_inv hv
    have hct : c = true := by
      have ec := Value.bool.inj ec
      subst ec
      have h5 := hat tt
      rw [h3 x _ (by rw [h2 x]; exact hl'.1), hc] at h5
      unfold tt at h5
      exact (Lit.bool.inj (DataW.lit.inj h5)).symm
    subst hct
    refine hMore x w' hwx hodd ⟨⟨D, _, _, hrg, h2, h3, fun z => ?_⟩, ?_, ?_⟩ ?_ hgr hsz hen
    · rw [h4 z, litI_same]
      by_cases hz : z = x
      · subst hz; simp
      · simp [hz]
    · rw [List.nodup_append]
      exact ⟨h.nodup, by simp, fun p hp q hq e => by simp only [List.mem_singleton] at hq; subst hq; subst e; exact hl'.2 hp⟩
    · intro z hz
      rcases List.mem_append.1 hz with hz | hz
      · exact h.sub z hz
      · simp only [List.mem_singleton] at hz; subst hz; exact hodd
    · rw [hrg.left_eq, h1.left_eq]; exact hlt
end
theorem RanP.noMap {w : World} {b r : Nat} {L V : List Int} (h : RanP w b r L V) {b' : Nat} {L' : List Int} (h' : OwnP w b' L') : b' ≠ r := by
  obtain ⟨D, left, cnt, ⟨es, clock, since, seen, c0, _, _, _, _, hr, _⟩, _⟩ := h.r
  obtain ⟨D', ⟨es', clock', hb, _⟩, _⟩ := h'.map
  intro e
  subst e
  rw [hr] at hb; cases hb
end Go.Proofs.YtoodhbafleemjaaGreat

/- The walks of toggle, codeOf. -/
namespace Go.Proofs.YtoodhbafleemjaaGreat
open Go.RowKit
set_option linter.unusedVariables false

def RetTg (b : Nat) (L : List Int) (w : World) (e : Ending) (w' : World) : Prop := e = .returned (.tuple #[]) ∧ OwnP w' b L ∧ w.grownBy w' (some b) ∧ w'.heap.size = w.heap.size
theorem RetTg.mk {b : Nat} {L : List Int} {w w' : World} (h : OwnP w' b L) (hg : w.grownBy w' (some b)) (hs : w'.heap.size = w.heap.size) : RetTg b L w (.returned (.tuple #[])) w' := ⟨rfl, h, hg, hs⟩
set_option maxRecDepth 100000 in
theorem toggle_any (b : Nat) (k : Int) (L : List Int) (w : World) (h : OwnP w b L) (hk : wfI k) (hn : L.length < 1000000000000) : Calls Tryz.prog 103 #[.map (some b), .int .i64 k] w (RetTg b (L ++ [k]) w) := by
  have H := Lib.hid h
  have HK := Lib.hid hk
  have HN := Lib.hid hn
  clear h hk hn
  obtain ⟨L2, hL2⟩ : ∃ L2, L2 = L ++ [k] := ⟨_, rfl⟩
  have HL2 := Lib.hid hL2
  rw [← hL2]
  clear hL2
  obtain ⟨o, hod⟩ : ∃ o, o = odd? L k := ⟨_, rfl⟩
  have HO := Lib.hid hod
  clear hod
  cases o
  · have H0 := Lib.hid (show L.count k % 2 = 0 by have := HO.out; simp [odd?] at this; exact this)
    go_enter Tryz.func103, Tryz.ntmps103
    go_wp2_with (first
      | (at_lookup; refine wpList_lookP _ rfl (.tmp 4) (.tmp 5) rfl Tryz.underlying64 rfl rfl H.out HK.out ?_; rw [← HO.out])
      | (at_mapUpdate; refine wpList_putP _ rfl (.tmp 9) (.tmp 10) (.const (.bool true)) rfl Tryz.underlying64 rfl rfl rfl H.out HK.out H0.out HN.out ?_; rw [← HL2.out]; intro w1 h1 hg hs; have H1 := Lib.hid h1; have HG := Lib.hid hg; have HS := Lib.hid hs; clear h1 hg hs))
    go_end0
    exact RetTg.mk H1.out HG.out HS.out
  · have H0 := Lib.hid (show L.count k % 2 = 1 by have := HO.out; simpa [odd?] using this.symm)
    go_enter Tryz.func103, Tryz.ntmps103
    go_wp2_with (first
      | (at_lookup; refine wpList_lookP _ rfl (.tmp 4) (.tmp 5) rfl Tryz.underlying64 rfl rfl H.out HK.out ?_; rw [← HO.out])
      | (at_delete; refine wpList_dropP _ rfl (.tmp 7) (.tmp 8) rfl Tryz.underlying64 rfl rfl H.out HK.out H0.out ?_; rw [← HL2.out]; intro w1 h1 hg hs; have H1 := Lib.hid h1; have HG := Lib.hid hg; have HS := Lib.hid hs; clear h1 hg hs))
    go_end0
    exact RetTg.mk H1.out HG.out HS.out

theorem fit_take {xs : List Int} (h : fitP xs) (k : Nat) : fitP (xs.take k) := fun z hz => h z (List.mem_of_mem_take hz)
theorem code_step {xs : List Int} {k : Nat} {x : Int} (hx : Hid (xs[k]? = some x)) (hf : fitP xs) (hk : k ≤ 9) : bits .or .i64 (encP (xs.take k)) (wrap64 (x * 2 ^ (6 * k))) = encP (xs.take (k + 1)) := by
  have h1 := hf x (mem_of hx)
  have hl : (xs.take k).length = k := by
    have := (List.getElem?_eq_some_iff.1 hx.out).1
    rw [List.length_take]; omega
  have e64 : (2 : Int) ^ (6 * k) = 64 ^ k := by
    rw [Int.pow_mul]; rfl
  have h3 := encP_lt (fit_take hf k)
  rw [hl] at h3
  have hp : (64 : Int) ^ k ≤ 18014398509481984 := by
    have h9 : (64 : Nat) ^ k ≤ 64 ^ 9 := Nat.pow_le_pow_right (by decide) hk
    have e9 : (64 : Nat) ^ 9 = 18014398509481984 := by decide
    rw [show (64 : Int) ^ k = ((64 ^ k : Nat) : Int) from by rw [Int.natCast_pow]; rfl]
    omega
  have hpos : (0 : Int) < 64 ^ k := Int.pow_pos (by decide)
  have hb : x * 64 ^ k ≤ 63 * 18014398509481984 := Int.mul_le_mul (by omega) hp (by omega) (by decide)
  have hb0 : 0 ≤ x * 64 ^ k := Int.mul_nonneg (by omega) (by omega)
  have ew : wrap64 (x * 64 ^ k) = x * 64 ^ k := by unfold wrap64; omega
  rw [e64, ew]
  rw [or_above hk (encP_nonneg (fit_take hf k)) h3 h1.1 h1.2, take_succ_of hx, encP_snoc, hl]
set_option maxRecDepth 100000 in
theorem codeOf_any (A : Option Addr) (n c B : Nat) (xs : List Int) (w : World) (h : RdS w B A n c xs) (hf : fitP xs) (hn : n ≤ 10) :
    Calls Tryz.prog 104 #[.slice A n c] w (RetI (encP xs) w) := by
  have Hl := Lib.hid h.len
  have HF := Lib.hid hf
  clear hf
  go_enter Tryz.func104, Tryz.ntmps104
  go_wp2_with fail
  go_loop [3, 8] (fun s i => ∃ k : Nat, k ≤ n ∧ i = .int .i64 k ∧ ∃ y, s = .int .i64 y ∧ Hid (y = encP (xs.take k))) (fun _ i => n - (intOf i).toNat)
  case atStart => exact ⟨0, Nat.zero_le _, rfl, 0, rfl, Lib.hid rfl⟩
  case round =>
    obtain ⟨k, hk, rfl, y, rfl, HY⟩ := hrel
    by_cases hlt : k < n
    · obtain ⟨ad, x, rfl, _, hx, hc⟩ := h.at_ hlt
      go_wp2_with fail
      go_round
      case rel => exact ⟨k+1, by omega, by go_num, _, rfl, Lib.hid (by rw [HY.out, code_step hx HF.out (by omega)])⟩
      case measure => simp [intOf]; omega
    · go_wp2_with fail
      go_ret
      obtain rfl : k = n := by omega
      exact RetI.mk (y := y) (by rw [HY.out, List.take_of_length_le (by rw [Hl.out]; omega)])
end Go.Proofs.YtoodhbafleemjaaGreat

/- The walks of polyOf, plus, times. -/
namespace Go.Proofs.YtoodhbafleemjaaGreat
open Go.RowKit
set_option linter.unusedVariables false

/-- a new map -/
def RetMp (L : List Int) (w : World) (e : Ending) (w' : World) : Prop := ∃ b, e = .returned (.map (some b)) ∧ w.heap.size ≤ b ∧ OwnP w' b L ∧ Below w.heap.size w w'
theorem RetMp.mk {b : Nat} {L M : List Int} {w w' : World} (hb : w.heap.size ≤ b) (h : OwnP w' b M) (hl : M = L) (hw : Below w.heap.size w w') : RetMp L w (.returned (.map (some b))) w' := by subst hl; exact ⟨b, rfl, hb, h, hw⟩
theorem RetMp.par {L M : List Int} {w w' : World} {e : Ending} (h : RetMp L w e w') (hp : Par L M) : RetMp M w e w' := by
  obtain ⟨b, e, h1, h2, h3⟩ := h
  exact ⟨b, e, h1, h2.congr hp, h3⟩
theorem wfI_enc {x : List Int} (hf : fitP x) (hl : x.length ≤ 10) : wfI (encP x) := by
  have h1 := encP_lt hf
  have hp : (64 : Nat) ^ x.length ≤ 64 ^ 10 := Nat.pow_le_pow_right (by decide) hl
  have e9 : (64 : Nat) ^ 10 = 1152921504606846976 := by decide
  have h2 : (64 : Int) ^ x.length ≤ 1152921504606846976 := by
    rw [show (64 : Int) ^ x.length = ((64 ^ x.length : Nat) : Int) from by rw [Int.natCast_pow]; rfl]
    omega
  exact wfI_mk (by have := encP_nonneg hf; omega) (by omega)
theorem map_take_succ {xss : List (List Int)} {k : Nat} {x : List Int} (h : Hid (xss[k]? = some x)) : (xss.take (k+1)).map encP = (xss.take k).map encP ++ [encP x] := by
  rw [List.take_add_one, h.out, List.map_append]; rfl

set_option maxRecDepth 100000 in
theorem polyOf_any (A : Option Addr) (n c : Nat) (xss : List (List Int)) (w : World) (h : RdL w w.heap.size A n c xss) (hf : ∀ x ∈ xss, fitP x ∧ x.length ≤ 10) (hn : n ≤ 100000000) :
    Calls Tryz.prog 49 #[.slice A n c] w (RetMp (xss.map encP) w) := by
  have Hl := Lib.hid h.len
  have H := Lib.hid h
  have HF := Lib.hid hf
  obtain ⟨R, hR⟩ : ∃ R, R = RetMp (xss.map encP) w := ⟨_, rfl⟩
  have HR := Lib.hid hR
  rw [← hR]
  clear hf h hR
  obtain ⟨b, hb⟩ : ∃ b, b = w.heap.size := ⟨_, rfl⟩
  obtain ⟨w0, hw0⟩ : ∃ w0, w0 = w.alloc (.map #[] 0) := ⟨_, rfl⟩
  have O0 : Hid (OwnP w0 b []) := Lib.hid (by rw [hw0, hb]; exact OwnP.new w)
  have B0 : Hid (Below b w w0) := Lib.hid (by rw [hw0, hb]; exact (Below.refl _ _).alloc (Nat.le_refl _) _)
  have HB := Lib.hid hb
  have hmm : ∀ t, (Instr.makeMap t none).run Tryz.prog w = .ok (.map (some b)) w0 := fun t => by rw [hb, hw0]; exact run_makeMap t w
  clear hb hw0
  go_enter Tryz.func49, Tryz.ntmps49
  go_wp2_with fail
  go_loopw [9] (fun i wr => ∃ k : Nat, k ≤ n ∧ i = .int .i64 k ∧ Hid (OwnP wr b ((xss.take k).map encP)) ∧ Hid (Below b w wr)) (fun i _ => n - (intOf i).toNat)
  case atStart => exact ⟨0, Nat.zero_le _, rfl, O0, B0⟩
  case round =>
    obtain ⟨k, hk, rfl, HP, HW⟩ := hrel
    by_cases hlt : k < n
    · obtain ⟨ad, A', n', c', x, rfl, _, hx, hc, hr⟩ := (H.out.below (by rw [← HB.out]; exact HW.out)).at_ hlt
      have hc1 := codeOf_any A' n' c' _ x wr hr (HF.out x (List.mem_of_getElem? hx.out)).1 (by rw [← hr.len]; exact (HF.out x (List.mem_of_getElem? hx.out)).2)
      have HC1 := Lib.hid hc1
      have hw := HF.out x (List.mem_of_getElem? hx.out)
      have hc2 := toggle_any b (encP x) _ wr HP.out (wfI_enc hw.1 hw.2) (by rw [List.length_map, List.length_take]; omega)
      have HC2 := Lib.hid hc2
      clear hc1 hc2 hw hr
      go_wp2_with fail
      refine HC1.out.mono ?_
      rintro e w1 ⟨rfl, rfl⟩
      go_wp2_with fail
      refine HC2.out.mono ?_
      rintro e w1 ⟨rfl, hp1, hg1, hs1⟩
      have HP1 := Lib.hid hp1
      have HG1 := Lib.hid hg1
      clear hp1 hg1
      go_wp2_with fail
      go_roundw
      case rel => exact ⟨k+1, by omega, by go_num, Lib.hid (by rw [map_take_succ hx]; exact HP1.out), Lib.hid (HW.out.trans (below_grownBy HG1.out (Nat.le_refl _) (Nat.le_of_lt HP.out.lt)))⟩
      case measure => simp [intOf]; omega
    · go_wp2_with fail
      obtain rfl : k = n := by omega
      rw [HR.out]
      exact RetMp.mk (b := b) (by rw [HB.out]; exact Nat.le_refl _) HP.out (by rw [List.take_of_length_le (by rw [Hl.out]; omega)]) (by rw [← HB.out]; exact HW.out)

def RetTw (b : Nat) (L : List Int) (w : World) (e : Ending) (w' : World) : Prop := e = .returned (.tuple #[]) ∧ OwnP w' b L ∧ w.grownBy w' (some b)
theorem RetTw.mk {b : Nat} {L M : List Int} {w w' : World} (h : OwnP w' b M) (hp : Par M L) (hg : w.grownBy w' (some b)) : RetTw b L w (.returned (.tuple #[])) w' := ⟨rfl, h.congr hp, hg⟩
theorem grownBy_to {a b c : World} {B r : Nat} (h : a.grownBy b (some B)) (k : b.grownBy c (some r)) (hr : a.heap.size ≤ r) : a.grownBy c (some B) := h.andThen k fun j hj => by injection hj with hj; subst hj; exact .inl hr
theorem par_perm {V L M : List Int} (hp : V.Perm (oddI M)) : Par (L ++ V) (L ++ M) := (Par.refl L).append ((Par.of_perm hp).trans (oddI_par M))
theorem oddI_len (M : List Int) : (oddI M).length ≤ M.length := (oddI_nodup M).length_le_of_subset fun z hz => oddI_sub hz
theorem RanP.len {w : World} {b r : Nat} {L V : List Int} (h : RanP w b r L V) : V.length ≤ L.length :=
  Nat.le_trans (h.nodup.length_le_of_subset (l₂ := oddI L) fun z hz => oddI_mem.2 (h.sub z hz)) (oddI_len L)
set_option maxRecDepth 100000 in
theorem plus_any (b b2 : Nat) (L M : List Int) (w : World) (hL : OwnP w b L) (hM : OwnP w b2 M) (hne : b ≠ b2) (hn : L.length + M.length < 1000000000) :
    Calls Tryz.prog 66 #[.map (some b), .map (some b2)] w (RetTw b (L ++ M) w) := by
  obtain ⟨R, hR⟩ : ∃ R, R = RetTw b (L ++ M) w := ⟨_, rfl⟩
  have HR := Lib.hid hR
  rw [← hR]
  have HL := Lib.hid hL
  have HM := Lib.hid hM
  clear hL hM hR
  go_enter Tryz.func66, Tryz.ntmps66
  go_wp2_with (at_range; refine wpList_rangeP _ rfl (.tmp 5) rfl Tryz.underlying64 rfl HM.out ?_; intro w0 h0 h1 h2; have H0 := Lib.hid h0; have H1 := Lib.hid h1; clear h0 h1 h2)
  go_frame
  obtain ⟨r, hr⟩ : ∃ r, r = w.heap.size := ⟨_, rfl⟩
  have HS := Lib.hid hr
  rw [← hr] at H0
  rw [← hr]
  clear hr
  have G0 : Hid (w.grownBy w0 (some b)) := Lib.hid ((grownBy_below H1.out).but _)
  have HP0 : Hid (OwnP w0 b (L ++ [])) := Lib.hid (by rw [List.append_nil]; exact HL.out.below H1.out)
  go_loopw [7] (fun _ wr => ∃ V : List Int, Hid (RanP wr b2 r M V) ∧ Hid (OwnP wr b (L ++ V)) ∧ Hid (w.grownBy wr (some b))) (fun _ wr => wr.rangeLeft b2 r)
  case atStart => exact ⟨[], H0, HP0, G0⟩
  case round =>
    obtain ⟨V, HR1, HP, HG⟩ := hrel
    go_wp2_with (at_next; refine wpList_nextP _ rfl (.tmp 6) rfl rfl HR1.out ?_ ?_)
    · intro hd
      have HD := Lib.hid hd
      clear hd
      go_wp2_with fail
      go_end0
      rw [HR.out]
      exact RetTw.mk HP.out (par_perm HD.out) HG.out
    · intro x w1 hx ho h1 h2 h3 h4 h5
      have hbr : b ≠ r := HR1.out.noMap HP.out
      have P1 : OwnP w1 b (L ++ V) := HP.out.kept h3 (by simpa using hbr)
      have hlen : (L ++ V).length < 1000000000000 := by rw [List.length_append]; have := HR1.out.len; omega
      have HC := Lib.hid (toggle_any b x _ w1 P1 hx hlen)
      have N1 := Lib.hid h1
      have N2 := Lib.hid h2
      have N3 := Lib.hid h3
      have Hbr := Lib.hid hbr
      clear h1 h2 h3 h4 P1 hx hlen hbr
      go_wp2_with fail
      refine HC.out.mono ?_
      rintro e w2 ⟨rfl, hp2, hg2, hs2⟩
      have P2 := Lib.hid hp2
      have G2 := Lib.hid hg2
      clear hp2 hg2 hs2
      have K2 := Lib.hid (N1.out.kept G2.out (by simpa using hne.symm) (by simpa using Hbr.out.symm))
      go_wp2_with fail
      go_roundw
      case rel => exact ⟨V ++ [x], Lib.hid K2.out.1, Lib.hid (by rw [← List.append_assoc]; exact P2.out), Lib.hid ((grownBy_to HG.out N3.out (by rw [HS.out]; exact Nat.le_refl _)).trans G2.out)⟩
      case measure => rw [K2.out.2]; exact N2.out
end Go.Proofs.YtoodhbafleemjaaGreat

/- The walk of times: the product of two polynomials that stand in maps. -/
namespace Go.Proofs.YtoodhbafleemjaaGreat
open Go.RowKit
set_option linter.unusedVariables false

def prodI (L M : List Int) : List Int := L.flatMap fun a => M.map (a + ·)
theorem prodI_snoc (V M : List Int) (x : Int) : prodI (V ++ [x]) M = prodI V M ++ M.map (x + ·) := by simp [prodI, List.flatMap_append]
theorem prodI_par {V L M : List Int} (h : Par V L) : Par (prodI V M) (prodI L M) := fun z => h.flat (fun a => M.map (a + ·)) z
theorem mem_of_odd {L : List Int} {x : Int} (h : L.count x % 2 = 1) : x ∈ L := List.count_pos_iff.1 (by omega)
theorem wfI_sum {a b : Int} (h1 : 0 ≤ a ∧ a < 1099511627776) (h2 : 0 ≤ b ∧ b < 1099511627776) : wfI (a + b) := wfI_mk (by omega) (by omega)

set_option maxRecDepth 100000 in
theorem times_any (b1 b2 : Nat) (L M : List Int) (w : World) (hL : OwnP w b1 L) (hM : OwnP w b2 M) (fL : ∀ a ∈ L, 0 ≤ a ∧ a < 1099511627776) (fM : ∀ a ∈ M, 0 ≤ a ∧ a < 1099511627776) (nL : L.length ≤ 20000) (nM : M.length ≤ 20000) :
    Calls Tryz.prog 50 #[.map (some b1), .map (some b2)] w (RetMp (prodI L M) w) := by
  obtain ⟨R, hR⟩ : ∃ R, R = RetMp (prodI L M) w := ⟨_, rfl⟩
  have HR := Lib.hid hR
  rw [← hR]
  have HL := Lib.hid hL
  have HM := Lib.hid hM
  have FL := Lib.hid fL
  have FM := Lib.hid fM
  have NL := Lib.hid nL
  have NM := Lib.hid nM
  obtain ⟨b, hb⟩ : ∃ b, b = w.heap.size := ⟨_, rfl⟩
  have lt1 := hL.lt
  have lt2 := hM.lt
  rw [← hb] at lt1 lt2
  obtain ⟨w0, hw0⟩ : ∃ w0, w0 = w.alloc (.map #[] 0) := ⟨_, rfl⟩
  have hmm : ∀ t, (Instr.makeMap t none).run Tryz.prog w = .ok (.map (some b)) w0 := fun t => by rw [hb, hw0]; exact run_makeMap t w
  have B0 : Hid (Below b w w0) := Lib.hid (by rw [hw0, hb]; exact (Below.refl _ _).alloc (Nat.le_refl _) _)
  have O0 : Hid (OwnP w0 b []) := Lib.hid (by rw [hw0, hb]; exact OwnP.new w)
  have Z0 : Hid (w0.heap.size = b + 1) := Lib.hid (by rw [hw0, hb]; simp)
  have L0 : Hid (OwnP w0 b1 L) := Lib.hid (hL.below (by rw [← hb]; exact B0.out))
  have M0 : Hid (OwnP w0 b2 M) := Lib.hid (hM.below (by rw [← hb]; exact B0.out))
  have HB := Lib.hid hb
  have LT1 := Lib.hid lt1
  have LT2 := Lib.hid lt2
  clear hL hM hR fL fM nL nM lt1 lt2 hb hw0
  go_enter Tryz.func50, Tryz.ntmps50
  go_wp2_with (at_range; refine wpList_rangeP _ rfl (.tmp 9) rfl Tryz.underlying64 rfl L0.out ?_; intro w1 h0 h1 h2; have R1 := Lib.hid h0; have B1 := Lib.hid h1; have S1 := Lib.hid h2; clear h0 h1 h2)
  go_frame
  obtain ⟨r, hr⟩ : ∃ r, r = w0.heap.size := ⟨_, rfl⟩
  have HS : Hid (r = b + 1) := Lib.hid (hr.trans Z0.out)
  rw [← hr] at R1
  rw [← hr]
  clear hr
  have BW1 : Hid (Below b w w1) := Lib.hid (B0.out.trans (B1.out.mono (by rw [Z0.out]; omega)))
  have O1 := Lib.hid (O0.out.below B1.out)
  have M1 := Lib.hid (M0.out.below B1.out)
  go_loopw [11] (fun _ wr => ∃ V P : List Int, Hid (RanP wr b1 r L V) ∧ Hid (OwnP wr b P) ∧ Hid (Par P (prodI V M)) ∧ Hid (P.length ≤ V.length * 20000) ∧ Hid (OwnP wr b2 M) ∧ Hid (Below b w wr)) (fun _ wr => wr.rangeLeft b1 r)
  case atStart => exact ⟨[], [], R1, O1, Lib.hid (Par.refl _), Lib.hid (by simp), M1, BW1⟩
  case round =>
    obtain ⟨V, P, HR1, HP, HQ, HN, HM1, HW⟩ := hrel
    go_wp2_with (at_next; refine wpList_nextP _ rfl (.tmp 10) rfl rfl HR1.out ?_ ?_)
    · intro hd
      have HD := Lib.hid hd
      clear hd
      go_wp2_with fail
      rw [HR.out]
      exact RetMp.mk (b := b) (by rw [HB.out]; exact Nat.le_refl _) (HP.out.congr (HQ.out.trans (prodI_par ((Par.of_perm HD.out).trans (oddI_par L))))) rfl (by rw [← HB.out]; exact HW.out)
    · intro x w2 hx ho h1 h2 h3 h4 h5
      have hbr : b ≠ r := by rw [HS.out]; omega
      have P2 := Lib.hid (HP.out.kept h3 (by simpa using hbr))
      have M2 := Lib.hid (HM1.out.kept h3 (by have := LT2.out; have := HS.out; simp; omega))
      have N1 := Lib.hid h1
      have N2 := Lib.hid h2
      have W2 := Lib.hid (HW.out.grown h3 (Nat.le_of_lt HP.out.lt) (by intro k hk; injection hk with hk; have := HS.out; omega))
      have FX := Lib.hid (FL.out x (mem_of_odd ho))
      have LR : Hid (r < w2.heap.size) := Lib.hid h1.lt
      clear h1 h2 h3 h4 hbr ho
      go_wp2_with (at_range; refine wpList_rangeP _ rfl (.tmp 15) rfl Tryz.underlying64 rfl M2.out ?_; intro w3 h0 h1 h2; have R3 := Lib.hid h0; have B3 := Lib.hid h1; have S3 := Lib.hid h2; clear h0 h1 h2)
      go_frame
      obtain ⟨r2, hr2⟩ : ∃ r2, r2 = w2.heap.size := ⟨_, rfl⟩
      rw [← hr2] at R3 LR
      rw [← hr2]
      have W3 : Hid (Below b w w3) := Lib.hid (W2.out.trans (B3.out.mono (by rw [← hr2]; have := LR.out; have := HS.out; omega)))
      clear hr2
      have P3 : Hid (OwnP w3 b (P ++ [].map (x + ·))) := Lib.hid (by rw [List.map_nil, List.append_nil]; exact P2.out.below B3.out)
      have K3 := Lib.hid (N1.out.below B3.out)
      obtain ⟨wz0, hwz0⟩ : ∃ W : World, W = wr := ⟨_, rfl⟩
      rw [← hwz0] at N2
      have HWZ := Lib.hid hwz0
      clear hwz0
      go_loopw [17] (fun _ wi => ∃ U : List Int, Hid (RanP wi b2 r2 M U) ∧ Hid (OwnP wi b (P ++ U.map (x + ·))) ∧ Hid (RanP wi b1 r L (V ++ [x])) ∧ Hid (wi.rangeLeft b1 r < wz0.rangeLeft b1 r) ∧ Hid (Below b w wi)) (fun _ wi => wi.rangeLeft b2 r2)
      case atStart => exact ⟨[], R3, P3, Lib.hid K3.out.1, Lib.hid (by rw [K3.out.2]; exact N2.out), W3⟩
      case round =>
        obtain ⟨U, I1, I2, I3, I4, I5⟩ := hrel
        go_wp2_with (at_next; refine wpList_nextP _ rfl (.tmp 16) rfl rfl I1.out ?_ ?_)
        · intro hd
          have HD := Lib.hid hd
          clear hd
          go_wp2_with fail
          go_roundw
          case rel =>
            refine ⟨V ++ [x], P ++ U.map (x + ·), I3, I2, Lib.hid ?_, Lib.hid ?_, Lib.hid I1.out.own, I5⟩
            · rw [prodI_snoc]
              exact HQ.out.append (((Par.of_perm HD.out).trans (oddI_par M)).map (x + ·))
            · have := I1.out.len; have := HN.out; have := NM.out
              rw [List.length_append, List.length_append, List.length_map, List.length_singleton]; omega
          case measure => rw [← HWZ.out]; exact I4.out
        · intro y w4 hy ho h1 h2 h3 h4 h6
          have a1 : b ≠ r2 := by have := LR.out; have := HS.out; omega
          have a2 : b1 ≠ r2 := I1.out.noMap I3.out.own
          have a3 : r ≠ r2 := by have := LR.out; omega
          have a4 : b1 ≠ b := by have := LT1.out; omega
          have a5 : b2 ≠ b := by have := LT2.out; omega
          have a6 : r ≠ b := by have := HS.out; omega
          have J2 := I2.out.kept h3 (by simpa using a1)
          have J3 := I3.out.kept h3 (by simpa using a2) (by simpa using a3)
          have J5 := I5.out.grown h3 (Nat.le_of_lt I2.out.lt) (by intro k hk; injection hk with hk; have := LR.out; have := HS.out; omega)
          have FY := FM.out y (mem_of_odd ho)
          have hw64 : wrap64 (x + y) = x + y := by have := FX.out; unfold wrap64; omega
          have hlen : (P ++ U.map (x + ·)).length < 1000000000000 := by
            have := I1.out.len; have := HN.out; have := NM.out; have := NL.out
            have := (I3.out).len
            rw [List.length_append, List.length_singleton] at this
            rw [List.length_append, List.length_map]; omega
          have HC := Lib.hid (toggle_any b (x + y) _ w4 J2 (wfI_sum FX.out FY) hlen)
          have HJ2 := Lib.hid J2
          have HJ3 := Lib.hid J3
          have HJ5 := Lib.hid J5
          have N4 := Lib.hid h1
          have N5 := Lib.hid h2
          have A1 := Lib.hid a1
          have A4 := Lib.hid a4
          have A5 := Lib.hid a5
          have A6 := Lib.hid a6
          clear h1 h2 h3 h4 ho a1 a2 a3 a4 a5 a6 J2 J3 J5 FY hlen
          go_wp2_with fail
          refine HC.out.mono ?_
          rintro e w5 ⟨rfl, hp5, hg5, hs5⟩
          have P5 := Lib.hid hp5
          have G5 := Lib.hid hg5
          clear hp5 hg5 hs5
          have E1 := Lib.hid (N4.out.kept G5.out (by simpa using A5.out) (by simpa using A1.out.symm))
          have E3 := Lib.hid (HJ3.out.1.kept G5.out (by simpa using A4.out) (by simpa using A6.out))
          have E5 : Hid (Below b w w5) := Lib.hid (HJ5.out.trans (below_grownBy G5.out (Nat.le_refl _) (Nat.le_of_lt (by have := LR.out; have := HS.out; have := N4.out.lt; omega))))
          go_wp2_with fail
          go_roundw
          case rel => exact ⟨U ++ [y], Lib.hid E1.out.1, Lib.hid (by rw [List.map_append, ← List.append_assoc]; exact P5.out), Lib.hid E3.out.1, Lib.hid (by rw [E3.out.2, HJ3.out.2]; exact I4.out), E5⟩
          case measure => rw [E1.out.2]; exact N5.out
end Go.Proofs.YtoodhbafleemjaaGreat
