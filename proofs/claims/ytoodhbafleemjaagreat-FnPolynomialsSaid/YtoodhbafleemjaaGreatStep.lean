/- The steps of regions that draw their order: appends; slices of slices. -/
import Derived.Test.YtoodhbafleemjaaGreatLawK
import Derived.Deep.RegionHeld3
import Derived.Deep.Upon
namespace Go.Proofs.YtoodhbafleemjaaGreat
open Go.RowKit
set_option linter.unusedVariables false

/-- append: what was owned and what the source reads stand one behind the other, owned; only the old row may have been written. -/
theorem wp_appV {T E bytes : Nat} (ht : Elt T E bytes) {w : World} {o : Oper} {a : Act} {K : Act → World → Prop} {Q : Exit → Act → World → Prop} (s x : Operand)
    (ho : o.op = .call { callee := .builtin .append, args := #[s, x], argTypes := #[T, T] }) {B n c m d Bx : Nat} {A Ax : Option Addr} {vs us : List Value}
    (hs : a.eval s = .slice A n c) (hx : a.eval x = .slice Ax m d) (hown : OwnV w B E A n c vs) (hr : RdV w Bx Ax m d us) (h1 : ∀ u ∈ us, u.oneCell' = true)
    (hb : n + m ≤ 4000000000000) (hbytes : bytes ≤ 24) (hB : B ≤ w.heap.size)
    (h : ∀ A' c' w', OwnV w' B E A' (n + m) c' (vs ++ us) → w.grownBy w' (Value.ownBlock (.slice A n c)) → (Value.ownBlock (.slice A' (n + m) c') = Value.ownBlock (.slice A n c) ∨ Value.ownBlock (.slice A' (n + m) c') = some w.heap.size) →
      K (a.put o.dst (.slice A' (n + m) c')) w') : Oper.wp Tryz.prog o a w K Q := by
  have key : ∃ A' c' w', (Builtin.append_ #[T, T] o.type #[.slice A n c, .slice Ax m d]).run Tryz.prog w = .ok (.slice A' (n + m) c') w' ∧ OwnV w' B E A' (n + m) c' (vs ++ us) ∧ w.grownBy w' (Value.ownBlock (.slice A n c)) ∧
      (Value.ownBlock (.slice A' (n + m) c') = Value.ownBlock (.slice A n c) ∨ Value.ownBlock (.slice A' (n + m) c') = some w.heap.size) := by
    have hlen : (vs ++ us).length = n + m := by rw [List.length_append, hown.len, hr.len]
    rcases Ax with _ | ad
    · have hm : m = 0 := by
        rcases Nat.eq_zero_or_pos m with h0 | h0
        · exact h0
        · obtain ⟨ad, _, e, _⟩ := hr.at_ h0
          cases e
      subst hm
      have hus : us = [] := List.eq_nil_of_length_eq_zero hr.len
      subst hus
      exact ⟨A, c, w, by simpa using run_append_of_nil ht o.type hown.own d, by simpa using hown, World.grownBy.refl _ _, .inl rfl⟩
    · obtain ⟨i, z, hi, hz, hsz, hby, hzs⟩ := ht.info
      have hcells : ∀ j u, us[j]? = some u → w.cell? (ad.add j) = some u := by
        intro j u hu
        obtain ⟨hj, hju⟩ := List.getElem?_eq_some_iff.1 hu
        obtain ⟨ad', e, _, hc⟩ := hr.cell j hj
        have e := Option.some.inj e
        subst e
        rw [hc, hju]
      obtain ⟨v', w', hrun, h2, h3, _, h5⟩ := run_append_own_at (P := Tryz.prog) w B T o.type E i z 1 bytes ht.under hi hz hsz hby hzs (by decide) (.slice A n c) n vs hown.own ad m d us (by rw [hr.len]; omega) hcells h1 (by unfold maxLen; omega)
        (Nat.le_trans (Nat.mul_le_mul hb hbytes) (by omega)) hB
      have hv : ∃ A' c', v' = .slice A' (n + m) c' := by
        rcases h2.2 with ⟨rfl, h0⟩ | ⟨g, cap, _, rfl, _⟩
        · exact ⟨none, 0, by rw [h0]⟩
        · exact ⟨_, _, rfl⟩
      obtain ⟨A', c', rfl⟩ := hv
      exact ⟨A', c', w', hrun, ⟨hlen, h2⟩, h3, h5⟩
  obtain ⟨A', c', w', hrun, h2, h3, h4⟩ := key
  unfold Oper.wp execOp
  simp only [ho, resolve, invoke, builtin, Sem.run_bind, Sem.run_pure, Result.andThen_ok, List.map_toArray, List.map_cons, List.map_nil, hs, hx, hrun]
  exact h A' c' w' h2 h3 h4


/-- append of integers at a step of a region that draws its order -/
theorem step_joinI {w0 w : World} {ops : Array Oper} {o : Oper} {a : Act} {K : Act → World → Prop} {Q : Exit → Act → World → Prop} {E : Prop} (hgd : o.guard = none) (s x : Operand)
    (ho : o.op = .call { callee := .builtin .append, args := #[s, x], argTypes := #[41, 41] }) {B n c m d Bx : Nat} {A Ax : Option Addr} {xs ys : List Int}
    (hs : a.eval s = .slice A n c) (hx : a.eval x = .slice Ax m d) (hst : StS w0 B w A n c xs) (hr : RdS w Bx Ax m d ys) (hn : n + m ≤ 3000000000000)
    (h : ∀ A2 c2 w', StS w0 B w' A2 (n + m) c2 (xs ++ ys) → w.grownBy w' (Value.ownBlock (.slice A n c)) → K (a.put o.dst (.slice A2 (n + m) c2)) w') :
    if Region.wanted o (yielded ops a.tmps) = true then Oper.wp Tryz.prog o a w K Q else E := by
  have hw : Region.wanted o (yielded ops a.tmps) = true := by simp [Region.wanted, hgd]
  rw [if_pos hw]
  refine wp_appV eltI s x ho hs hx hst.own.v hr.v (ints_one ys) (by omega) (by decide) hst.hi fun A' c' w' h1 hg _ => ?_
  have h2 : OwnS w' B A' (n + m) c' (xs ++ ys) := OwnV.s (by simpa using h1)
  exact h A' c' w' ⟨h2, hst.bel.grown hg hst.hi hst.own.row, Nat.le_trans hst.hi hg.size⟩ hg

theorem bcellA {W w1 : World} (hb : Below W.heap.size W w1) {a : Addr} {v : Value} (h : a.block < W.heap.size) (hc : W.cell? a = some v) : w1.cell? a = some v := (hb.cell (p := a) h).trans hc
theorem old_atA {w : World} {o : Obj} {a : Addr} {v : Value} (hb : a.block < w.heap.size) (hv : w.cell? a = some v) : (w.alloc o).cell? a = some v := bcellA ((Below.refl _ _).alloc (Nat.le_refl _) _) hb hv
theorem rdL_one {w : World} {B n c : Nat} {A : Option Addr} {x : List Int} (h : RdS w B A n c x) (hB : B ≤ w.heap.size) : RdL (w.alloc (.cells #[.slice A n c] 41)) (w.alloc (.cells #[.slice A n c] 41)).heap.size (some ⟨w.heap.size, 0, none⟩) 1 1 [x] := by
  have hb : Below w.heap.size w (w.alloc (.cells #[.slice A n c] 41)) := (Below.refl _ _).alloc (Nat.le_refl _) _
  refine ⟨rfl, [.slice A n c], (rdV_newP w _ _).mono (by simp), fun j v xs hv hx => ?_⟩
  have : j = 0 := by
    have := (List.getElem?_eq_some_iff.1 hv).1
    simpa using this
  subst this
  simp only [List.getElem?_cons_zero, Option.some.injEq] at hv hx
  subst hv; subst hx
  exact ⟨A, n, c, rfl, ((h.mono hB).below hb).mono hb.size⟩

theorem take_pref {u v : List Int} {a b : Int} : (u ++ a :: b :: v).take u.length = u := by simp
theorem drop_suf {u v : List Int} {a b : Int} {k : Nat} (h : u.length = k) : (u ++ a :: b :: v).drop (k + 2) = v := by
  subst h
  rw [← List.drop_drop, List.drop_left]
  rfl

theorem RdS.pre {w : World} {B n c k : Nat} {A : Option Addr} {xs : List Int} (h : RdS w B A n c xs) (hk : k ≤ n) : RdS w B A k c (xs.take k) := by
  have hl := h.len
  have hc := h.cap
  refine ⟨by rw [List.length_take]; omega, by omega, fun j hj => ?_⟩
  rw [List.length_take] at hj
  obtain ⟨ad, e, hb, h1⟩ := h.cell j (by omega)
  exact ⟨ad, e, hb, by rw [h1, List.getElem_take]⟩
def sufA (A : Option Addr) (c m : Nat) : Option Addr := match A with
  | none => none
  | some ad => if c = m then some ad else some (ad.add m)
theorem RdS.suf {w : World} {B n c m : Nat} {A : Option Addr} {xs : List Int} (h : RdS w B A n c xs) (hm : m ≤ n) : RdS w B (sufA A c m) (n - m) (c - m) (xs.drop m) := by
  have hl := h.len
  have hc := h.cap
  refine ⟨by rw [List.length_drop]; omega, by omega, fun j hj => ?_⟩
  rw [List.length_drop] at hj
  obtain ⟨ad, rfl, hb, h1⟩ := h.cell (m + j) (by omega)
  refine ⟨ad.add m, ?_, by rw [block_of_add]; exact hb, ?_⟩
  · simp only [sufA]; rw [if_neg (by omega)]
  · rw [add_of_add, h1, List.getElem_drop]
theorem addr_add_zero (a : Addr) : a.add 0 = a := by simp [Addr.add]
theorem run_pre (A : Option Addr) (n c k : Nat) (hk : k ≤ c) (W : World) : (Instr.sliceAt 41 (.slice A n c) Option.none (some (.int .i64 (k : Int))) Option.none).run Tryz.prog W = .ok (.slice A k c) W := by
  have h : (k : Int) ≤ (c : Int) := by omega
  have e : A.map (·.add 0) = A := by cases A <;> simp [addr_add_zero]
  simp [go_sem, Tryz.underlying41, h, sliced]
theorem run_suf (A : Option Addr) (n c k m : Nat) (hm : m = k + 2) (hn : m ≤ n) (W : World) : (Instr.sliceAt 41 (.slice A n c) (some (.int .i64 ((k : Int) + 2))) Option.none Option.none).run Tryz.prog W = .ok (.slice (sufA A c m) (n - m) (c - m)) W := by
  subst hm
  have h : (k : Int) + 2 ≤ (n : Int) := by omega
  have h0 : (0 : Int) ≤ (k : Int) + 2 := by omega
  have e : ((k : Int) + 2).toNat = k + 2 := by omega
  simp only [sufA]
  cases A with
  | none => simp [go_sem, Tryz.underlying41, h, h0, e, sliced]
  | some ad =>
    by_cases hc : c = k + 2
    · simp [go_sem, Tryz.underlying41, h, h0, e, sliced, hc]
    · simp [go_sem, Tryz.underlying41, h, h0, e, sliced, hc]

theorem lt_allocA {w : World} {o : Obj} {a : Addr} (h : a.block < w.heap.size) : a.block < (w.alloc o).heap.size := by simp; omega
theorem wp_appL {w : World} {o : Oper} {a : Act} {K9 : Act → World → Prop} {Q : Exit → Act → World → Prop} (s x : Operand)
    (ho : o.op = .call { callee := .builtin .append, args := #[s, x], argTypes := #[24, 24] }) {B K n c n' c' d Bx : Nat} {A A' Ax : Option Addr} {xss : List (List Int)} {xs : List Int}
    (hs : a.eval s = .slice A n c) (hx : a.eval x = .slice Ax 1 d) (hown : OwnL w B K A n c xss) (hnew : OwnS w K A' n' c' xs) (hr : RdV w Bx Ax 1 d [.slice A' n' c'])
    (hb : n + 1 ≤ 4000000000000) (hBK : B ≤ K) (hK : K ≤ w.heap.size)
    (h : ∀ A2 c2 w', OwnL w' B w'.heap.size A2 (n + 1) c2 (xss ++ [xs]) → w.grownBy w' (Value.ownBlock (.slice A n c)) → (Value.ownBlock (.slice A2 (n + 1) c2) = Value.ownBlock (.slice A n c) ∨ Value.ownBlock (.slice A2 (n + 1) c2) = some w.heap.size) →
      K9 (a.put o.dst (.slice A2 (n + 1) c2)) w') : Oper.wp Tryz.prog o a w K9 Q := by
  obtain ⟨vs, h1, h2, h3⟩ := hown.rows
  refine wp_appV eltL s x ho hs hx h1 hr (by intro u hu; rw [List.mem_singleton.1 hu]; rfl) hb (by decide) (Nat.le_trans hBK hK) fun A2 c2 w' h4 hg h5 => h A2 c2 w' ?_ hg h5
  have hnk : ∀ g, Value.ownBlock (.slice A' n' c') = some g → K ≤ g ∧ g < w.heap.size := fun g hg => hnew.own.lt g hg
  refine ⟨by rw [List.length_append, hown.len]; rfl, vs ++ [.slice A' n' c'], h4, fun j v ys hv hy => ?_, fun i j u v g hij hu hv hgu hgv => ?_⟩
  · by_cases hj : j < vs.length
    · rw [List.getElem?_append_left hj] at hv
      rw [List.getElem?_append_left (by rw [hown.len, ← h1.len]; exact hj)] at hy
      refine ((h2 j v ys hv hy).grown hg fun g hgb e => ?_).mono (Nat.le_refl _) (Nat.le_trans hK hg.size)
      exact kinds_ne (by decide) ((h2 j v ys hv hy).kind g hgb) (h1.kind g e.symm) rfl
    · have hj' : j = vs.length := by
        have := (List.getElem?_eq_some_iff.1 hv).1
        simp at this; omega
      subst hj'
      rw [List.getElem?_append_right (Nat.le_refl _), Nat.sub_self] at hv
      rw [h1.len, ← hown.len, List.getElem?_append_right (Nat.le_refl _), Nat.sub_self] at hy
      simp only [List.getElem?_cons_zero, Option.some.injEq] at hv hy
      subst hv; subst hy
      refine ⟨A', n', c', rfl, (hnew.mono hBK).grown hg (fun ad had e => ?_), fun g hg' => Nat.lt_of_lt_of_le (hnk g hg').2 hg.size⟩
      exact kinds_ne (by decide) (hnew.kind ad.block (by subst had; rfl)) (h1.kind ad.block e.symm) rfl
  · by_cases hj : j < vs.length
    · rw [List.getElem?_append_left hj] at hv
      rw [List.getElem?_append_left (by omega)] at hu
      exact h3 i j u v g hij hu hv hgu hgv
    · have hj' : j = vs.length := by
        have := (List.getElem?_eq_some_iff.1 hv).1
        simp at this; omega
      subst hj'
      rw [List.getElem?_append_right (Nat.le_refl _), Nat.sub_self] at hv
      rw [List.getElem?_append_left hij] at hu
      simp only [List.getElem?_cons_zero, Option.some.injEq] at hv
      subst hv
      have hi : i < xss.length := by rw [hown.len, ← h1.len]; exact hij
      obtain ⟨_, _, _, _, _, hk⟩ := h2 i u xss[i] hu (List.getElem?_eq_getElem hi)
      have := hk g hgu
      have := (hnk g hgv).1
      omega


theorem wp_pushL {w0 w : World} {o : Oper} {a : Act} {K9 : Act → World → Prop} {Q : Exit → Act → World → Prop} (s x : Operand)
    (ho : o.op = .call { callee := .builtin .append, args := #[s, x], argTypes := #[24, 24] }) {B K n c n' c' : Nat} {A A' : Option Addr} {xss : List (List Int)} {xs : List Int}
    (hs : a.eval s = .slice A n c) (hx : a.eval x = .slice (some ⟨w.heap.size, 0, Option.none⟩) 1 1) (hst : StL w0 B w K A n c xss) (hnew : OwnS w K A' n' c' xs) (hn : n ≤ 3000000000000)
    (h : ∀ A2 c2 w', StL w0 B w' w'.heap.size A2 (n + 1) c2 (xss ++ [xs]) → w.grownBy w' (Value.ownBlock (.slice A n c)) → (Value.ownBlock (.slice A2 (n + 1) c2) = Value.ownBlock (.slice A n c) ∨ ∀ g, Value.ownBlock (.slice A2 (n + 1) c2) = some g → w.heap.size ≤ g) →
      K9 (a.put o.dst (.slice A2 (n + 1) c2)) w') : Oper.wp Tryz.prog o a (w.alloc (.cells #[.slice A' n' c'] 41)) K9 Q := by
  have hb : Below w.heap.size w (w.alloc (.cells #[.slice A' n' c'] 41)) := (Below.refl _ _).alloc (Nat.le_refl _) _
  refine wp_appL s x ho hs hx (hst.own.below hb) (hnew.below hb) (rdV_newP w (.slice A' n' c') 41) (by omega) hst.lo (Nat.le_trans hst.hi hb.size) fun A2 c2 w' h1 hg hr => h A2 c2 w' ⟨h1, (hst.bel.trans (hb.mono hst.size)).grown hg (Nat.le_trans hst.size hb.size) (hst.own.row), Nat.le_trans hst.size (Nat.le_trans hb.size hg.size), Nat.le_refl _⟩ (grownBy_trans (World.grownBy_alloc w _ _) hg) ?_
  rcases hr with h | h
  · exact .inl h
  · exact .inr fun g hg => by rw [h] at hg; injection hg with hg; simp at hg; omega

theorem step_pushL {w0 w : World} {ops : Array Oper} {o : Oper} {a : Act} {K9 : Act → World → Prop} {Q : Exit → Act → World → Prop} {E : Prop} (hgd : o.guard = none) (s x : Operand)
    (ho : o.op = .call { callee := .builtin .append, args := #[s, x], argTypes := #[24, 24] }) {B K n c n' c' : Nat} {A A' : Option Addr} {xss : List (List Int)} {xs : List Int} {H : Nat}
    (hs : a.eval s = .slice A n c) (hH : w.heap.size = H) (hx : a.eval x = .slice (some ⟨H, 0, Option.none⟩) 1 1) (hst : StL w0 B w K A n c xss) (hnew : OwnS w K A' n' c' xs) (hn : n ≤ 3000000000000)
    (h : ∀ A2 c2 w', StL w0 B w' w'.heap.size A2 (n + 1) c2 (xss ++ [xs]) → w.grownBy w' (Value.ownBlock (.slice A n c)) → (Value.ownBlock (.slice A2 (n + 1) c2) = Value.ownBlock (.slice A n c) ∨ ∀ g, Value.ownBlock (.slice A2 (n + 1) c2) = some g → w.heap.size ≤ g) →
      K9 (a.put o.dst (.slice A2 (n + 1) c2)) w') :
    if Region.wanted o (yielded ops a.tmps) = true then Oper.wp Tryz.prog o a (w.alloc (.cells #[.slice A' n' c'] 41)) K9 Q else E := by
  have hw : Region.wanted o (yielded ops a.tmps) = true := by simp [Region.wanted, hgd]
  rw [if_pos hw]
  subst hH
  exact wp_pushL s x ho hs hx hst hnew hn h
end Go.Proofs.YtoodhbafleemjaaGreat
