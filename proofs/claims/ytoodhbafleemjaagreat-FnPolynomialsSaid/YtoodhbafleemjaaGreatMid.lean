/- What a write to owned memory leaves as it was (Mid); slices of lists made and filled; sizes and copies: szInt64S, szInt64SS, toInt64SS, markInt64SS. -/
import Derived.Test.YtoodhbafleemjaaGreatLL
namespace Go.Proofs.YtoodhbafleemjaaGreat
open Go.RowKit
set_option linter.unusedVariables false

/-- only blocks from B on and below K, and new ones, have turned -/
structure Mid (B K : Nat) (w w' : World) : Prop where
  os : w'.os = w.os
  tape : w'.tape = w.tape
  output : w'.output = w.output
  size : w.heap.size ≤ w'.heap.size
  block : ∀ i, i < w.heap.size → (i < B ∨ K ≤ i) → w'.heap[i]? = w.heap[i]?
theorem Mid.refl (B K : Nat) (w : World) : Mid B K w w := ⟨rfl, rfl, rfl, Nat.le_refl _, fun _ _ _ => rfl⟩
theorem Mid.trans {B K : Nat} {a b c : World} (h : Mid B K a b) (k : Mid B K b c) : Mid B K a c :=
  ⟨k.os.trans h.os, k.tape.trans h.tape, k.output.trans h.output, Nat.le_trans h.size k.size, fun i hi hr => (k.block i (Nat.lt_of_lt_of_le hi h.size) hr).trans (h.block i hi hr)⟩
theorem Mid.grown {B K : Nat} {a b c : World} {row : Option Nat} (h : Mid B K a b) (k : b.grownBy c row) (hr : ∀ g, row = some g → B ≤ g ∧ g < K) : Mid B K a c :=
  h.trans ⟨k.os, k.tape, k.output, k.size, fun i hi ho => k.block i hi fun e => by have := hr i e.symm; omega⟩
theorem Mid.below {B K : Nat} {w w' : World} (h : Mid B K w w') (hB : B ≤ w.heap.size) : Below B w w' := ⟨h.os, h.tape, h.output, h.size, fun i hi => h.block i (Nat.lt_of_lt_of_le hi hB) (.inl hi)⟩
theorem Mid.of_below {B K : Nat} {w w' : World} (h : Below w.heap.size w w') : Mid B K w w' := ⟨h.os, h.tape, h.output, h.size, fun i hi _ => h.block i hi⟩
/-- what lies in the blocks of one stretch -/
theorem Mid.grownAt {B K g : Nat} {w w' : World} (h : Mid B K w w') (hg : g < B ∨ K ≤ g) : ∀ {r : Nat}, r = g → r < w.heap.size → w'.heap[r]? = w.heap[r]? := fun e hr => h.block _ hr (by subst e; exact hg)

theorem ownsRow_same {w w' : World} {B E : Nat} {v : Value} {n : Nat} {xs : List Value} (h : w.ownsRow B E 1 v n xs) (hs : ∀ g, v.ownBlock = some g → w'.heap[g]? = w.heap[g]?) : w'.ownsRow B E 1 v n xs := by
  refine ⟨h.1, ?_⟩
  rcases h.2 with hn | ⟨g, cap, cur, rfl, hb, hgg, rest⟩
  · exact .inl hn
  · exact .inr ⟨g, cap, cur, rfl, hb, by rw [hs g rfl]; exact hgg, rest⟩
theorem OwnS.mid {w w' : World} {B B' K : Nat} {A : Option Addr} {n c : Nat} {xs : List Int} (h : OwnS w B' A n c xs) (m : Mid B K w w') (hK : K ≤ B') : OwnS w' B' A n c xs :=
  ⟨h.len, ownsRow_same h.own fun g hg => m.block g (h.own.lt g hg).2 (.inr (Nat.le_trans hK (h.own.lt g hg).1))⟩
theorem OwnV.mid {w w' : World} {B B' K E : Nat} {A : Option Addr} {n c : Nat} {xs : List Value} (h : OwnV w B' E A n c xs) (m : Mid B K w w') (hK : K ≤ B') : OwnV w' B' E A n c xs :=
  ⟨h.len, ownsRow_same h.own fun g hg => m.block g (h.own.lt g hg).2 (.inr (Nat.le_trans hK (h.own.lt g hg).1))⟩
theorem OwnL.mid {w w' : World} {B B' K K' : Nat} {A : Option Addr} {n c : Nat} {xss : List (List Int)} (h : OwnL w B' K' A n c xss) (m : Mid B K w w') (hK : K ≤ B') : OwnL w' B' K' A n c xss := by
  obtain ⟨vs, h1, h2, h3⟩ := h.rows
  refine ⟨h.len, vs, h1.mid m hK, fun j v xs hv hx => ?_, h3⟩
  obtain ⟨A', n', c', rfl, ho, hk⟩ := h2 j v xs hv hx
  exact ⟨A', n', c', rfl, ho.mid m hK, hk⟩

/-- all that an owned list of lists holds lies below K -/
structure OwnM (w : World) (B K : Nat) (A : Option Addr) (n c : Nat) (xss : List (List Int)) : Prop where
  own : OwnL w B K A n c xss
  out : ∀ g, Value.ownBlock (.slice A n c) = some g → g < K
theorem OwnL.m {w : World} {B K : Nat} {A : Option Addr} {n c : Nat} {xss : List (List Int)} (h : OwnL w B K A n c xss) (hK : K ≤ w.heap.size) : OwnM w B w.heap.size A n c xss := ⟨h.mono (Nat.le_refl _) hK, h.lt⟩
theorem OwnM.below {w w' : World} {B K : Nat} {A : Option Addr} {n c : Nat} {xss : List (List Int)} (h : OwnM w B K A n c xss) (hb : Below w.heap.size w w') : OwnM w' B K A n c xss := ⟨h.own.below hb, h.out⟩
theorem OwnM.mid {w w' : World} {B B' K K' : Nat} {A : Option Addr} {n c : Nat} {xss : List (List Int)} (h : OwnM w B' K' A n c xss) (m : Mid B K w w') (hK : K ≤ B') : OwnM w' B' K' A n c xss := ⟨h.own.mid m hK, h.out⟩
theorem OwnM.drewN {w : World} {B K : Nat} {A : Option Addr} {n c : Nat} {xss : List (List Int)} (h : OwnM w B K A n c xss) (k : Nat) : OwnM (w.drewN k) B K A n c xss := ⟨h.own.drewN k, h.out⟩
theorem OwnM.mono {w : World} {B B' K K' : Nat} {A : Option Addr} {n c : Nat} {xss : List (List Int)} (h : OwnM w B K A n c xss) (hb : B' ≤ B) (hk : K ≤ K') : OwnM w B' K' A n c xss := ⟨h.own.mono hb hk, fun g hg => Nat.lt_of_lt_of_le (h.out g hg) hk⟩

theorem OwnL.at2 {w : World} {B K : Nat} {A : Option Addr} {n c : Nat} {xss : List (List Int)} (h : OwnL w B K A n c xss) {k : Nat} (hk : k < n) :
    ∃ ad A' n' c' xs, A = some ad ∧ Hid (xss[k]? = some xs) ∧ w.cell? (ad.add k) = some (.slice A' n' c') ∧ OwnS w B A' n' c' xs ∧ (∀ g, Value.ownBlock (.slice A' n' c') = some g → B ≤ g ∧ g < K) ∧
      ∀ w' ys, OwnS w' B A' n' c' ys → w.grownBy w' (Value.ownBlock (.slice A' n' c')) → OwnL w' B K A n c (xss.set k ys) := by
  obtain ⟨ad, A', n', c', xs, rfl, hx, hc, ho, hset⟩ := h.at_ hk
  refine ⟨ad, A', n', c', xs, rfl, hx, hc, ho, ?_, hset⟩
  obtain ⟨vs, h1, h2, _⟩ := h.rows
  obtain ⟨ad', v, e, _, hv, hc'⟩ := h1.rd.at_ hk
  obtain rfl : ad = ad' := by simpa using e
  rw [hc] at hc'
  obtain rfl : Value.slice A' n' c' = v := by simpa using hc'
  obtain ⟨A2, n2, c2, e2, ho2, hK⟩ := h2 k _ xs hv.out hx.out
  injection e2 with e3 e4 e5
  subst e3; subst e4; subst e5
  exact fun g hg => ⟨(ho2.own.lt g hg).1, hK g hg⟩

def RetMarkM (B K : Nat) (A : Option Addr) (n c : Nat) (xss : List (List Int)) (x : Int) (w : World) (e : Ending) (w' : World) : Prop :=
  e = .returned (.int .i64 x) ∧ OwnM w' B K A n c xss ∧ Mid B K w w'
theorem RetMarkM.mk {B K : Nat} {A : Option Addr} {n c : Nat} {xss : List (List Int)} {x y : Int} {w w' : World} (h : y = x) (ho : OwnM w' B K A n c xss) (hg : Mid B K w w') :
    RetMarkM B K A n c xss x w (.returned (.int .i64 y)) w' := ⟨by rw [h], ho, hg⟩
/-- what a store of a list into an owned outer row needs and gives: the list lies from K on -/
theorem OwnL.store {w : World} {B K : Nat} {A : Option Addr} {n c : Nat} {xss : List (List Int)} (h : OwnL w B K A n c xss) {k : Nat} (hk : k < n) :
    ∃ g v, A = some ⟨g, 0, none⟩ ∧ B ≤ g ∧ g < w.heap.size ∧ w.cell? ⟨g, k, none⟩ = some v ∧ w.frozen? ⟨g, k, none⟩ = false ∧
      ∀ A' n' c' xs, OwnS w K A' n' c' xs → B ≤ K → K ≤ w.heap.size → OwnL (w.setCell ⟨g, k, none⟩ (.slice A' n' c')) B w.heap.size A n c (xss.set k xs) ∧ w.grownBy (w.setCell ⟨g, k, none⟩ (.slice A' n' c')) (some g) := by
  obtain ⟨vs, h1, h2, h3⟩ := h.rows
  obtain ⟨g, cap, hv, hb, hlt⟩ := h1.own.form (by have := h1.len; omega)
  injection hv with hA _ hc
  subst hA; subst hc
  have hkv : k < vs.length := by rw [h1.len]; exact hk
  refine ⟨g, vs[k], rfl, hb, hlt, ?_, h1.own.frozenAt k, fun A' n' c' xs ho hBK hK => ?_⟩
  · rw [h1.own.cellAt k (by omega)]; simp [hkv]
  · have hst := h1.own.stored k (.slice A' n' c')
    have hgk : ∃ cs, w.heap[g]? = some (.cells cs 41 (0, 0)) := h1.kind g rfl
    refine ⟨⟨by simpa using h.len, vs.set k (.slice A' n' c'), ⟨by simpa using h1.len, hst.1⟩, fun j v ys hv hy => ?_, fun i j u v g' hij hu hv hgu hgv => ?_⟩, hst.2⟩
    · by_cases hj : j = k
      · subst hj
        rw [List.getElem?_set_self hkv] at hv
        rw [List.getElem?_set_self (by rw [h.len]; exact hk)] at hy
        injection hv with hv; injection hy with hy
        subst hv; subst hy
        exact ⟨A', n', c', rfl, (ho.mono hBK).grown hst.2 (fun ad had e => by subst had; exact kinds_ne (by decide) (ho.kind ad.block rfl) hgk (by simpa using e)), fun g' hg' => (ho.own.lt g' hg').2⟩
      · rw [List.getElem?_set_ne (fun e => hj e.symm)] at hv hy
        exact ((h2 j v ys hv hy).grown hst.2 (fun g' hg' e => kinds_ne (by decide) ((h2 j v ys hv hy).kind g' hg') hgk (by simpa using e))).mono (Nat.le_refl _) hK
    · have hold : ∀ (i : Nat) (u : Value) (g' : Nat), vs[i]? = some u → u.ownBlock = some g' → g' < K := by
        intro i u g' hu hgu
        have hi : i < xss.length := by rw [h.len, ← h1.len]; exact (List.getElem?_eq_some_iff.1 hu).1
        obtain ⟨_, _, _, _, _, hk'⟩ := h2 i u xss[i] hu (List.getElem?_eq_getElem hi)
        exact hk' g' hgu
      by_cases hi : i = k
      · subst hi
        rw [List.getElem?_set_self hkv] at hu
        rw [List.getElem?_set_ne (by omega)] at hv
        injection hu with hu; subst hu
        have := (ho.own.lt g' hgu).1
        have := hold j v g' hv hgv
        omega
      · rw [List.getElem?_set_ne (fun e => hi e.symm)] at hu
        by_cases hj : j = k
        · subst hj
          rw [List.getElem?_set_self hkv] at hv
          injection hv with hv; subst hv
          have := (ho.own.lt g' hgv).1
          have := hold i u g' hu hgu
          omega
        · rw [List.getElem?_set_ne (fun e => hj e.symm)] at hv
          exact h3 i j u v g' hij hu hv hgu hgv

theorem ownL_made {w : World} {B K g n : Nat} (h : w.ownsRow B 41 1 (.slice (some ⟨g, 0, none⟩) n n) n (List.replicate n (.slice none 0 0))) : OwnL w B K (some ⟨g, 0, none⟩) n n (List.replicate n []) := by
  refine ⟨by simp, List.replicate n (.slice none 0 0), ⟨by simp, h⟩, fun j v xs hv hx => ?_, fun i j u v g _ hu _ hgu => ?_⟩
  · rw [List.getElem?_replicate] at hv hx
    split at hv
    · rename_i hj
      simp only [hj, if_true, Option.some.injEq] at hv hx
      subst hv; subst hx
      exact ⟨none, 0, 0, rfl, OwnS.nil, fun g hg => by cases hg⟩
    · cases hv
  · rw [List.getElem?_replicate] at hu
    split at hu
    · simp only [Option.some.injEq] at hu
      subst hu; cases hgu
    · cases hu
theorem fillL_step {xss : List (List Int)} {k n : Nat} {x : List Int} (hx : Hid (xss[k]? = some x)) (hk : k < n) : (xss.take k ++ List.replicate (n - k) []).set k x = xss.take (k+1) ++ List.replicate (n - (k+1)) [] := by
  have hlt : k < xss.length := (List.getElem?_eq_some_iff.1 hx.out).1
  rw [List.take_add_one, hx.out, List.set_append_right _ _ (by rw [List.length_take]; omega), List.length_take, show k - min k xss.length = 0 from by omega, show n - k = (n - (k+1)) + 1 from by omega, List.replicate_succ]
  simp

/-! ### sizes -/
def szR (left : Int) (s : Nat) : Int := if left < s then -1 else left - s
end Go.Proofs.YtoodhbafleemjaaGreat
