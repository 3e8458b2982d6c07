/- spec.l01Same, spec.l01Put: a list put into an ascending list of lists, or taken out. -/
import Derived.Test.YtgmbbpaokcjnhaaGreatDoorStep
import Derived.Test.YtgmbbpaokcjnhaaGreatDoorOdd
import Derived.Test.YtgmbbpaokcjnhaaGreatDoorOwnR
import Derived.Test.YtgmbbpaokcjnhaaGreatDoorLex
namespace Go.Proofs.YtgmbbpaokcjnhaaGreatDoor
open Go.RowKit
set_option linter.unusedVariables false

/-! ### rows of one's own, as pairs of a value and the list that it owns -/
structure Rows (w : World) (B K : Nat) (ps : List (Value × List Int)) : Prop where
  each : ∀ p ∈ ps, OwnVal w B K p.1 p.2
  apart : apartV (ps.map (·.1))
theorem OwnL.pairs {w : World} {B K n c : Nat} {A : Option Addr} {xss : List (List Int)} (h : OwnL w B K A n c xss) : ∃ ps : List (Value × List Int), OwnV w B 35 A n c (ps.map (·.1)) ∧ ps.map (·.2) = xss ∧ Rows w B K ps := by
  obtain ⟨vs, h1, h2, h3⟩ := h.rows
  have hl : vs.length = xss.length := by rw [h1.len, h.len]
  refine ⟨vs.zip xss, by rw [List.map_fst_zip (by omega)]; exact h1, List.map_snd_zip (by omega), fun p hp => ?_, by rw [List.map_fst_zip (by omega)]; exact apartV_iff.2 h3⟩
  obtain ⟨j, hj, rfl⟩ := List.getElem_of_mem hp
  rw [List.length_zip] at hj
  rw [List.getElem_zip]
  exact h2 j _ _ (List.getElem?_eq_getElem (by omega)) (List.getElem?_eq_getElem (by omega))
theorem Rows.ownL {w : World} {B K n c : Nat} {A : Option Addr} {ps : List (Value × List Int)} (h : Rows w B K ps) (hv : OwnV w B 35 A n c (ps.map (·.1))) : OwnL w B K A n c (ps.map (·.2)) := by
  refine ⟨by have := hv.len; simpa using this, ps.map (·.1), hv, fun j v xs hj hx => ?_, apartV_iff.1 h.apart⟩
  rw [List.getElem?_map, Option.map_eq_some_iff] at hj hx
  obtain ⟨p, hp, rfl⟩ := hj
  obtain ⟨q, hq, rfl⟩ := hx
  rw [hp] at hq
  obtain rfl := Option.some.inj hq
  exact h.each p (List.mem_of_getElem? hp)
theorem Rows.sub {w : World} {B K : Nat} {ps qs : List (Value × List Int)} (h : Rows w B K ps) (hs : qs.Sublist ps) : Rows w B K qs := ⟨fun p hp => h.each p (hs.subset hp), h.apart.sublist (hs.map _)⟩
theorem Rows.perm {w : World} {B K : Nat} {ps qs : List (Value × List Int)} (h : Rows w B K ps) (hp : qs.Perm ps) : Rows w B K qs := ⟨fun p hh => h.each p (hp.subset hh), apartV_perm (hp.map _) h.apart⟩
theorem Rows.below {w w' : World} {B K : Nat} {ps : List (Value × List Int)} (h : Rows w B K ps) (hb : Below w.heap.size w w') : Rows w' B K ps :=
  ⟨fun p hp => (h.each p hp).grown (grown_of_below hb none) (by simp), h.apart⟩
theorem Rows.mono {w : World} {B B' K K' : Nat} {ps : List (Value × List Int)} (h : Rows w B K ps) (hb : B' ≤ B) (hk : K ≤ K') : Rows w B' K' ps := ⟨fun p hp => (h.each p hp).mono hb hk, h.apart⟩
/-- a row of lists is written: the lists stay -/
theorem Rows.row {w w' : World} {B K B2 n c : Nat} {A : Option Addr} {vs : List Value} {ps : List (Value × List Int)} (h : Rows w B K ps) (hv : OwnV w B2 35 A n c vs) (hg : w.grownBy w' (Value.ownBlock (.slice A n c))) : Rows w' B K ps :=
  ⟨fun p hp => (h.each p hp).grown hg fun g hgb e => kinds_ne (by decide) ((h.each p hp).kind g hgb) (hv.kind g e.symm) rfl, h.apart⟩
theorem Rows.cons {w : World} {B K n c : Nat} {A : Option Addr} {x : List Int} {ps : List (Value × List Int)} (h : Rows w B K ps) (hx : OwnS w K A n c x) (hBK : B ≤ K) : Rows w B w.heap.size ((.slice A n c, x) :: ps) := by
  have hk : ∀ g, Value.ownBlock (.slice A n c) = some g → K ≤ g ∧ g < w.heap.size := fun g hg => hx.own.lt g hg
  refine ⟨fun p hp => ?_, ?_⟩
  · rcases List.mem_cons.1 hp with rfl | hp
    · exact ⟨A, n, c, rfl, hx.mono hBK, fun g hg => (hk g hg).2⟩
    · obtain ⟨A', n', c', e, ho, hl⟩ := h.each p hp
      refine ⟨A', n', c', e, ho, fun g hg => ?_⟩
      have hl2 := ho.own.lt g (by rw [e] at hg; exact hg)
      exact hl2.2
  · refine List.pairwise_cons.2 ⟨fun v hv g hg hgv => ?_, h.apart⟩
    obtain ⟨p, hp, rfl⟩ := List.mem_map.1 hv
    obtain ⟨A', n', c', e, ho, hl⟩ := h.each p hp
    have := hl g hgv
    have := (hk g hg).1
    omega
theorem RdV.pre {w : World} {B n c k : Nat} {A : Option Addr} {vs : List Value} (h : RdV w B A n c vs) (hk : k ≤ n) : RdV w B A k c (vs.take k) := by
  refine ⟨by rw [List.length_take, h.len]; omega, Nat.le_trans hk h.cap, fun j hj => ?_⟩
  rw [List.length_take] at hj
  obtain ⟨ad, e, hb, hc⟩ := h.cell j (by omega)
  exact ⟨ad, e, hb, by rw [List.getElem_take]; exact hc⟩
theorem RdV.suf {w : World} {B n c m : Nat} {A : Option Addr} {vs : List Value} (h : RdV w B A n c vs) (hm : m ≤ n) : RdV w B (sufA A c m) (n - m) (c - m) (vs.drop m) := by
  refine ⟨by rw [List.length_drop, h.len], by have := h.cap; omega, fun j hj => ?_⟩
  rw [List.length_drop] at hj
  obtain ⟨ad, e, hb, hc⟩ := h.cell (m + j) (by omega)
  subst e
  have hcm : c ≠ m := by have := h.cap; have := h.len; omega
  refine ⟨ad.add m, by simp [sufA, hcm], by rw [block_of_add]; exact hb, ?_⟩
  rw [add_of_add, List.getElem_drop]
  exact hc

/-- where a list is put: behind all that are less -/
theorem insX_at {x : List Int} : ∀ {xss : List (List Int)} {k : Nat}, k ≤ xss.length → (∀ j, j < k → ∀ y, xss[j]? = some y → ltL y x = true) → (∀ y, xss[k]? = some y → ltL y x = false) →
    insX x xss = if xss[k]? = some x then xss.take k ++ xss.drop (k + 1) else xss.take k ++ x :: xss.drop k
  | [], k, hk, h1, h2 => by
    have : k = 0 := by simpa using hk
    subst this; simp [insX]
  | y :: s, 0, hk, h1, h2 => by
    have := h2 y rfl
    simp only [List.getElem?_cons_zero, Option.some.injEq, List.take_zero, List.nil_append, List.drop_zero, List.drop_succ_cons]
    rw [insX]
    rcases ltL_tri x y with h | h | h
    · rw [if_pos h, if_neg (fun e => by subst e; rw [ltL_irrefl] at h; cases h)]
    · subst h
      rw [ltL_irrefl, if_neg (by simp), if_neg (by simp), if_pos rfl]
    · rw [this] at h; cases h
  | y :: s, k + 1, hk, h1, h2 => by
    have hy := h1 0 (Nat.succ_pos _) y rfl
    have ih := insX_at (x := x) (xss := s) (k := k) (by simpa using hk) (fun j hj z hz => h1 (j + 1) (by omega) z (by simpa using hz)) (fun z hz => h2 z (by simpa using hz))
    rw [insX, if_neg (by rw [ltL_asymm hy]; simp), if_pos hy, ih]
    simp only [List.getElem?_cons_succ, List.take_succ_cons, List.drop_succ_cons, List.cons_append]
    split <;> rfl
end Go.Proofs.YtgmbbpaokcjnhaaGreatDoor

/- The walk of spec.l01Put. -/
namespace Go.Proofs.YtgmbbpaokcjnhaaGreatDoor
open Go.RowKit
set_option linter.unusedVariables false

theorem run_preL (A : Option Addr) (n c k : Nat) (hk : k ≤ c) (W : World) : (Instr.sliceAt 24 (.slice A n c) Option.none (some (.int .i64 (k : Int))) Option.none).run Tryz.prog W = .ok (.slice A k c) W := by
  have h : (k : Int) ≤ (c : Int) := by omega
  have e : A.map (·.add 0) = A := by cases A <;> simp [addr_add_zero]
  simp [go_sem, Tryz.underlying24, h, sliced]
theorem run_sufL (A : Option Addr) (n c m : Nat) (hm : m ≤ n) (W : World) : (Instr.sliceAt 24 (.slice A n c) (some (.int .i64 (m : Int))) Option.none Option.none).run Tryz.prog W = .ok (.slice (sufA A c m) (n - m) (c - m)) W := by
  have h : (m : Int) ≤ (n : Int) := by omega
  simp only [sufA]
  cases A with
  | none => simp [go_sem, Tryz.underlying24, h, sliced]
  | some ad =>
    by_cases hc : c = m
    · simp [go_sem, Tryz.underlying24, h, sliced, hc]
    · simp [go_sem, Tryz.underlying24, h, sliced, hc]
theorem run_sufL' (A : Option Addr) (n c k : Nat) (hm : k + 1 ≤ n) (W : World) : (Instr.sliceAt 24 (.slice A n c) (some (.int .i64 ((k : Int) + 1))) Option.none Option.none).run Tryz.prog W = .ok (.slice (sufA A c (k + 1)) (n - (k + 1)) (c - (k + 1))) W := by
  have h := run_sufL A n c (k + 1) hm W
  have e : ((k + 1 : Nat) : Int) = (k : Int) + 1 := by omega
  rw [e] at h
  exact h
theorem OwnV.heap {w w' : World} {B E n c : Nat} {A : Option Addr} {vs : List Value} (h : OwnV w B E A n c vs) (e : w'.heap = w.heap) : OwnV w' B E A n c vs := ⟨h.len, by have := h.own; unfold World.ownsRow at this ⊢; rw [e]; exact this⟩
theorem RdV.heap {w w' : World} {B n c : Nat} {A : Option Addr} {vs : List Value} (h : RdV w B A n c vs) (e : w'.heap = w.heap) : RdV w' B A n c vs := ⟨h.len, h.cap, fun j hj => by
  obtain ⟨ad, h1, h2, h3⟩ := h.cell j hj
  exact ⟨ad, h1, h2, by rw [World.cell?_of_block (w := w) (by rw [e])]; exact h3⟩⟩
theorem step_of_wp {w : World} {ops : Array Oper} {o : Oper} {a : Act} {K : Act → World → Prop} {Q : Exit → Act → World → Prop} {E9 : Prop} (hgd : o.guard = none) (h : Oper.wp Tryz.prog o a w K Q) :
    if Region.wanted o (yielded ops a.tmps) = true then Oper.wp Tryz.prog o a w K Q else E9 := by
  have hw : Region.wanted o (yielded ops a.tmps) = true := by simp [Region.wanted, hgd]
  rw [if_pos hw]
  exact h

/-- the lists ys, of one's own from B on -/
def RetOL (B : Nat) (ys : List (List Int)) (w : World) (e : Ending) (w' : World) : Prop := ∃ A c, e = .returned (.slice A ys.length c) ∧ OwnL w' B w'.heap.size A ys.length c ys ∧ Below w.heap.size w w'
theorem RetOL.mk {B m n c : Nat} {A : Option Addr} {ys zs : List (List Int)} {w w' : World} (h : OwnL w' B w'.heap.size A m c zs) (hz : zs = ys) (hb : Below w.heap.size w w') (hm : n = m) : RetOL B ys w (.returned (.slice A n c)) w' := by
  subst hz; subst hm
  obtain rfl := h.len
  exact ⟨A, c, rfl, h, hb⟩
theorem one_of {v : Value} {x : List Int} {w : World} {B K : Nat} (h : OwnVal w B K v x) : v.oneCell' = true := by obtain ⟨A, n, c, rfl, _⟩ := h; rfl

theorem ownV_one (w : World) (v : Value) (E : TypeId) : OwnV (w.alloc (.cells #[v] E)) w.heap.size E (some ⟨w.heap.size, 0, none⟩) 1 1 [v] :=
  ⟨rfl, ⟨by simp, .inr ⟨w.heap.size, 1, #[v], rfl, Nat.le_refl _, heap_alloc_new w _, Nat.le_refl _, by decide, by simp, by simp⟩⟩⟩
end Go.Proofs.YtgmbbpaokcjnhaaGreatDoor
