/- append on a slice of the call's own, from whatever source reads; as laws for the walk. -/
import Derived.Test.YtoodhbafleemjaaGreatLaw
import Derived.Maps.AppendAt
namespace Go.Proofs.YtoodhbafleemjaaGreat
open Go.RowKit
set_option linter.unusedVariables false

/-- The slice at A reads as the one-cell values vs, below block B. -/
structure RdV (w : World) (B : Nat) (A : Option Addr) (n c : Nat) (vs : List Value) : Prop where
  len : vs.length = n
  cap : n ≤ c
  cell : ∀ j (h : j < vs.length), ∃ ad, A = some ad ∧ ad.block < B ∧ w.cell? (ad.add j) = some vs[j]
theorem RdS.v {w : World} {B : Nat} {A : Option Addr} {n c : Nat} {xs : List Int} (h : RdS w B A n c xs) : RdV w B A n c (xs.map (.int .i64)) :=
  ⟨by simpa using h.len, h.cap, fun j hj => by
    obtain ⟨ad, e, hb, hc⟩ := h.cell j (by simpa using hj)
    exact ⟨ad, e, hb, by simpa using hc⟩⟩
theorem RdV.below {w w' : World} {B : Nat} {A : Option Addr} {n c : Nat} {xs : List Value} (h : RdV w B A n c xs) (hb : Below B w w') : RdV w' B A n c xs :=
  ⟨h.len, h.cap, fun j hj => by
    obtain ⟨ad, e, hlt, hc⟩ := h.cell j hj
    exact ⟨ad, e, hlt, (hb.cell (by rw [block_of_add]; exact hlt)).trans hc⟩⟩
theorem RdV.mono {w : World} {B B' : Nat} {A : Option Addr} {n c : Nat} {xs : List Value} (h : RdV w B A n c xs) (hb : B ≤ B') : RdV w B' A n c xs :=
  ⟨h.len, h.cap, fun j hj => by
    obtain ⟨ad, e, hlt, hc⟩ := h.cell j hj
    exact ⟨ad, e, by omega, hc⟩⟩
theorem RdV.drewN {w : World} {B : Nat} {A : Option Addr} {n c : Nat} {xs : List Value} (h : RdV w B A n c xs) (k : Nat) : RdV (w.drewN k) B A n c xs := ⟨h.len, h.cap, h.cell⟩
theorem RdV.drew {w : World} {B : Nat} {A : Option Addr} {n c : Nat} {xs : List Value} (h : RdV w B A n c xs) : RdV w.drew B A n c xs := ⟨h.len, h.cap, h.cell⟩
theorem RdV.nil {w : World} {B : Nat} : RdV w B none 0 0 [] := ⟨rfl, Nat.le_refl _, fun j h => absurd h (by simp)⟩
theorem RdV.at_ {w : World} {B : Nat} {A : Option Addr} {n c : Nat} {xs : List Value} (h : RdV w B A n c xs) {k : Nat} (hk : k < n) :
    ∃ ad x, A = some ad ∧ ad.block < B ∧ Hid (xs[k]? = some x) ∧ w.cell? (ad.add k) = some x := by
  have hk' : k < xs.length := by rw [h.len]; exact hk
  obtain ⟨ad, e, hlt, hc⟩ := h.cell k hk'
  exact ⟨ad, xs[k], e, hlt, Lib.hid (List.getElem?_eq_getElem hk'), hc⟩

/-- The slice at A owns the one-cell values vs of type E in a block of its own from B on. -/
structure OwnV (w : World) (B E : Nat) (A : Option Addr) (n c : Nat) (vs : List Value) : Prop where
  len : vs.length = n
  own : w.ownsRow B E 1 (.slice A n c) n vs
theorem OwnS.v {w : World} {B : Nat} {A : Option Addr} {n c : Nat} {xs : List Int} (h : OwnS w B A n c xs) : OwnV w B 2 A n c (xs.map (.int .i64)) := ⟨by simpa using h.len, h.own⟩
theorem OwnV.s {w : World} {B : Nat} {A : Option Addr} {n c : Nat} {xs : List Int} (h : OwnV w B 2 A n c (xs.map (.int .i64))) : OwnS w B A n c xs := ⟨by simpa using h.len, h.own⟩
theorem OwnV.cap {w : World} {B E : Nat} {A : Option Addr} {n c : Nat} {xs : List Value} (h : OwnV w B E A n c xs) : n ≤ c ∧ c ≤ maxLen := by
  rcases h.own.2 with ⟨e, rfl⟩ | ⟨g, cap, cur, e, _, _, h1, h2, _⟩
  · injection e with _ _ e3; subst e3; exact ⟨Nat.le_refl _, Nat.zero_le _⟩
  · injection e with _ _ e3; subst e3; exact ⟨h1, h2⟩
theorem OwnV.rd {w : World} {B E : Nat} {A : Option Addr} {n c : Nat} {xs : List Value} (h : OwnV w B E A n c xs) : RdV w w.heap.size A n c xs := by
  refine ⟨h.len, h.cap.1, fun j hj => ?_⟩
  have hn : 0 < n := by have := h.len; omega
  obtain ⟨g, cap, hv, _, hlt⟩ := h.own.form hn
  injection hv with hA
  subst hA
  exact ⟨_, rfl, hlt, h.own.cells (g := g) rfl j _ (by simp)⟩
theorem OwnV.lt {w : World} {B E : Nat} {A : Option Addr} {n c : Nat} {xs : List Value} (h : OwnV w B E A n c xs) {ad : Addr} (hA : A = some ad) : B ≤ ad.block ∧ ad.block < w.heap.size := by
  subst hA; exact h.own.lt _ rfl
theorem OwnV.grown {w w' : World} {B E : Nat} {A : Option Addr} {n c : Nat} {xs : List Value} {row : Option Nat} (h : OwnV w B E A n c xs) (hg : w.grownBy w' row) (hne : ∀ ad, A = some ad → some ad.block ≠ row) : OwnV w' B E A n c xs :=
  ⟨h.len, h.own.kept hg (by cases A with | none => exact .inl rfl | some ad => exact .inr (hne ad rfl))⟩
theorem OwnV.below {w w' : World} {B E : Nat} {A : Option Addr} {n c : Nat} {xs : List Value} (h : OwnV w B E A n c xs) (hb : Below w.heap.size w w') : OwnV w' B E A n c xs := h.grown (row := none) (grown_of_below hb none) (by simp)
theorem OwnV.mono {w : World} {B B' E : Nat} {A : Option Addr} {n c : Nat} {xs : List Value} (h : OwnV w B E A n c xs) (hb : B' ≤ B) : OwnV w B' E A n c xs := ⟨h.len, h.own.mono hb⟩
theorem OwnV.alloc {w : World} {B E : Nat} {A : Option Addr} {n c : Nat} {xs : List Value} (h : OwnV w B E A n c xs) (o : Obj) : OwnV (w.alloc o) B E A n c xs := ⟨h.len, h.own.alloc o⟩
theorem OwnV.drewN {w : World} {B E : Nat} {A : Option Addr} {n c : Nat} {xs : List Value} (h : OwnV w B E A n c xs) (k : Nat) : OwnV (w.drewN k) B E A n c xs := ⟨h.len, h.own⟩
theorem OwnV.drew {w : World} {B E : Nat} {A : Option Addr} {n c : Nat} {xs : List Value} (h : OwnV w B E A n c xs) : OwnV w.drew B E A n c xs := ⟨h.len, h.own⟩
theorem OwnV.nil {w : World} {B E : Nat} : OwnV w B E none 0 0 [] := ⟨rfl, World.ownsRow_nil w B _ 1⟩
theorem OwnV.row {w : World} {B E : Nat} {A : Option Addr} {n c : Nat} {xs : List Value} (h : OwnV w B E A n c xs) : ∀ g, Value.ownBlock (.slice A n c) = some g → B ≤ g := fun g hg => (h.own.lt g hg).1

/-- What the table of types says of a slice type T and its element type E, of one cell. -/
structure Elt (T E bytes : Nat) : Prop where
  under : Tryz.prog.underlying T = some (.slice E)
  info : ∃ i z, Tryz.prog.info? E = some i ∧ i.zero = some z ∧ i.size = 1 ∧ i.bytes = bytes ∧ z.cells.size = 1
theorem elt_of {T E bytes : Nat} {z : Value} (h1 : Tryz.prog.underlying T = some (.slice E)) (h2 : (Tryz.prog.info? E).map (fun i => (i.zero, i.size, i.bytes)) = some (some z, 1, bytes)) (h3 : z.cells.size = 1) : Elt T E bytes := by
  obtain ⟨i, hi, h4, h5, h6⟩ := info_parts h2
  exact ⟨h1, i, z, hi, h4, h5, h6, h3⟩
theorem eltI : Elt 41 2 8 := elt_of Tryz.underlying41 Tryz.info_i64 rfl

theorem run_append_of_nil {w : World} {T E bytes B : Nat} (ht : Elt T E bytes) {v : Value} {n : Nat} {xs : List Value} (ty : TypeId) (hown : w.ownsRow B E 1 v n xs) (c : Nat) : (Builtin.append_ #[T, T] ty #[v, .slice none 0 c]).run Tryz.prog w = .ok v w := by
  obtain ⟨i, z, hi, _, _⟩ := ht.info
  rcases hown.2 with ⟨rfl, rfl⟩ | ⟨g, cap, cur, rfl, _, _, hnc, _⟩
  · simp [Builtin.append_, run_underlying ht.under, sizeOf, typeInfo, hi, Builtin.lenOf, Builtin.firstCells]
  · simp [Builtin.append_, run_underlying ht.under, sizeOf, typeInfo, hi, Builtin.lenOf, Builtin.firstCells, hnc, storeCells]

/-- append: what was owned and what the source reads stand one behind the other, owned; only the old row may have been written. -/
theorem wpList_appV {T E bytes : Nat} (ht : Elt T E bytes) {w : World} {ops : Array Oper} {rest : List Oper} {o : Oper} {a : Act} {Q : Exit → Act → World → Prop} (hgd : o.guard = none) (s x : Operand)
    (ho : o.op = .call { callee := .builtin .append, args := #[s, x], argTypes := #[T, T] }) {B n c m d Bx : Nat} {A Ax : Option Addr} {vs us : List Value}
    (hs : a.eval s = .slice A n c) (hx : a.eval x = .slice Ax m d) (hown : OwnV w B E A n c vs) (hr : RdV w Bx Ax m d us) (h1 : ∀ u ∈ us, u.oneCell' = true)
    (hb : n + m ≤ 4000000000000) (hbytes : bytes ≤ 24) (hB : B ≤ w.heap.size)
    (h : ∀ A' c' w', OwnV w' B E A' (n + m) c' (vs ++ us) → w.grownBy w' (Value.ownBlock (.slice A n c)) → (Value.ownBlock (.slice A' (n + m) c') = Value.ownBlock (.slice A n c) ∨ Value.ownBlock (.slice A' (n + m) c') = some w.heap.size) →
      wpList Tryz.prog ops Q rest (a.put o.dst (.slice A' (n + m) c')) w') : wpList Tryz.prog ops Q (o :: rest) a w := by
  refine wpList_plain hgd fun K hK => ?_
  have key : ∃ A' c' w', (Builtin.append_ #[T, T] o.type #[.slice A n c, .slice Ax m d]).run Tryz.prog w = .ok (.slice A' (n + m) c') w' ∧ OwnV w' B E A' (n + m) c' (vs ++ us) ∧ w.grownBy w' (Value.ownBlock (.slice A n c)) ∧
      (Value.ownBlock (.slice A' (n + m) c') = Value.ownBlock (.slice A n c) ∨ Value.ownBlock (.slice A' (n + m) c') = some w.heap.size) := by
    have hlen : (vs ++ us).length = n + m := by rw [List.length_append, hown.len, hr.len]
    rcases Ax with _ | ad
    · have hm : m = 0 := by
        rcases Nat.eq_zero_or_pos m with h0 | h0
        · exact h0
        · obtain ⟨ad, _, e, _⟩ := hr.at_ h0
          cases e
      subst hm
      have hus : us = [] := List.eq_nil_of_length_eq_zero hr.len
      subst hus
      exact ⟨A, c, w, by simpa using run_append_of_nil ht o.type hown.own d, by simpa using hown, World.grownBy.refl _ _, .inl rfl⟩
    · obtain ⟨i, z, hi, hz, hsz, hby, hzs⟩ := ht.info
      have hcells : ∀ j u, us[j]? = some u → w.cell? (ad.add j) = some u := by
        intro j u hu
        obtain ⟨hj, hju⟩ := List.getElem?_eq_some_iff.1 hu
        obtain ⟨ad', e, _, hc⟩ := hr.cell j hj
        have e := Option.some.inj e
        subst e
        rw [hc, hju]
      obtain ⟨v', w', hrun, h2, h3, _, h5⟩ := run_append_own_at (P := Tryz.prog) w B T o.type E i z 1 bytes ht.under hi hz hsz hby hzs (by decide) (.slice A n c) n vs hown.own ad m d us (by rw [hr.len]; omega) hcells h1 (by unfold maxLen; omega)
        (Nat.le_trans (Nat.mul_le_mul hb hbytes) (by omega)) hB
      have hv : ∃ A' c', v' = .slice A' (n + m) c' := by
        rcases h2.2 with ⟨rfl, h0⟩ | ⟨g, cap, _, rfl, _⟩
        · exact ⟨none, 0, by rw [h0]⟩
        · exact ⟨_, _, rfl⟩
      obtain ⟨A', c', rfl⟩ := hv
      exact ⟨A', c', w', hrun, ⟨hlen, h2⟩, h3, h5⟩
  obtain ⟨A', c', w', hrun, h2, h3, h4⟩ := key
  unfold Oper.wp execOp
  simp only [ho, resolve, invoke, builtin, Sem.run_bind, Sem.run_pure, Result.andThen_ok, List.map_toArray, List.map_cons, List.map_nil, hs, hx, hrun]
  exact hK _ _ (h A' c' w' h2 h3 h4)

theorem ints_one (xs : List Int) : ∀ u ∈ xs.map (Value.int .i64), u.oneCell' = true := by
  intro u hu
  obtain ⟨_, _, rfl⟩ := List.mem_map.1 hu
  rfl
/-- append of integers. -/
theorem wpList_appI {w : World} {ops : Array Oper} {rest : List Oper} {o : Oper} {a : Act} {Q : Exit → Act → World → Prop} (hgd : o.guard = none) (s x : Operand)
    (ho : o.op = .call { callee := .builtin .append, args := #[s, x], argTypes := #[41, 41] }) {B n c m d Bx : Nat} {A Ax : Option Addr} {xs ys : List Int}
    (hs : a.eval s = .slice A n c) (hx : a.eval x = .slice Ax m d) (hown : OwnS w B A n c xs) (hr : RdS w Bx Ax m d ys)
    (hb : n + m ≤ 4000000000000) (hB : B ≤ w.heap.size)
    (h : ∀ A' c' w', OwnS w' B A' (n + m) c' (xs ++ ys) → w.grownBy w' (Value.ownBlock (.slice A n c)) → (Value.ownBlock (.slice A' (n + m) c') = Value.ownBlock (.slice A n c) ∨ Value.ownBlock (.slice A' (n + m) c') = some w.heap.size) →
      wpList Tryz.prog ops Q rest (a.put o.dst (.slice A' (n + m) c')) w') : wpList Tryz.prog ops Q (o :: rest) a w :=
  wpList_appV eltI hgd s x ho hs hx hown.v hr.v (ints_one ys) hb (by decide) hB fun A' c' w' h1 h2 h3 => h A' c' w' (OwnV.s (by simpa using h1)) h2 h3
/-- the one-cell block that 'append(xs, x)' lays first -/
theorem rd_new (w : World) (x : Int) (E : TypeId) : RdS (w.alloc (.cells #[.int .i64 x] E)) (w.heap.size + 1) (some ⟨w.heap.size, 0, none⟩) 1 1 [x] :=
  ⟨rfl, Nat.le_refl _, fun j hj => ⟨_, rfl, Nat.lt_succ_self _, by
    have : j = 0 := by simpa using hj
    subst this
    simp [Addr.add]⟩⟩
theorem own_empty (w : World) (B : Nat) (hB : B ≤ w.heap.size) : OwnS (w.alloc (.cells #[] 2)) B (some ⟨w.heap.size, 0, none⟩) 0 0 [] :=
  ⟨rfl, by simpa using World.ownsRow_made (e := 2) (size := 1) w #[] 0 hB (Nat.zero_le _) rfl⟩
theorem ownV_empty (w : World) (B E : Nat) (hB : B ≤ w.heap.size) : OwnV (w.alloc (.cells #[] E)) B E (some ⟨w.heap.size, 0, none⟩) 0 0 [] :=
  ⟨rfl, World.ownsRow_made (e := E) (size := 1) w #[] 0 hB (Nat.zero_le _) rfl⟩
end Go.Proofs.YtoodhbafleemjaaGreat
