/- Plain: Adem's relations on a module, as both sides ask them. -/
import Derived.Test.YtdpkhgkoeoiemaaTabP
namespace Go.Proofs.Ytdpkhgkoeoiemaa
open Go.RowKit
set_option linter.unusedVariables false

/-- the entries of a module's action -/
structure TriF (ds : List Int) (T : List Tri) : Prop where
  len : ds.length ≤ 16
  nodup : T.Nodup
  each : ∀ t ∈ T, 1 ≤ t.1 ∧ t.1 ≤ 20 ∧ t.2.1 < ds.length ∧ t.2.2 < ds.length ∧ ds[t.2.2]?.getD 0 = ds[t.2.1]?.getD 0 + t.1
theorem TabF.tri {ds : List Int} {act : List (List Int)} (h : TabF ds act) : TriF ds (act.map toT) :=
  ⟨h.len, h.nodup, fun t ht => by obtain ⟨x, hx, rfl⟩ := List.mem_map.1 ht; exact (h.each x hx).2⟩

def relF (a b : Nat) : List Nat := (List.range (a / 2 + 1)).filter fun j => (b - 1 - j) &&& (a - 2 * j) == a - 2 * j
def spA (T : List Tri) (k v : Nat) : Nat := if k = 0 then v else actF T k v
def spW (T : List Tri) (w : List Int) (v : Nat) : Nat := w.foldr (fun k u => spA T k.toNat u) v
def wrd (a b j : Nat) : List Int := if j = 0 then [(a : Int) + b] else [(a : Int) + b - j, (j : Int)]
def formF (a b : Nat) : List (List Int) := oddL ((relF a b).map (wrd a b))
def badX (T : List Tri) (n a b v : Nat) : Nat := sqF T n a (sqF T n b (2 ^ v)) ^^^ xorL (fun j => sqF T n (a + b - j) (sqF T n j (2 ^ v))) (relF a b)
def noF (T : List Tri) (n N : Nat) : Prop := ∀ a b v, 1 ≤ a → a / 2 + 1 ≤ b → a + b ≤ N → v < n → badX T n a b v = 0

section
variable {ds : List Int} {T : List Tri}
theorem TriF.sq (h : TriF ds T) {k v : Nat} (hv : v < 2 ^ ds.length) : sqF T ds.length k v = spA T k v := by
  unfold spA
  split
  · rename_i hk
    subst hk
    exact sq_zero (fun t ht => (h.each t ht).1) hv
  · exact sq_act (by omega) h.nodup fun t ht => (h.each t ht).2.2.1
theorem TriF.spA_lt (h : TriF ds T) {k v : Nat} (hv : v < 2 ^ ds.length) : spA T k v < 2 ^ ds.length := by
  unfold spA
  split
  · exact hv
  · exact actF_lt fun t ht => (h.each t ht).2.2.2.1
theorem TriF.spW_lt (h : TriF ds T) {v : Nat} (hv : v < 2 ^ ds.length) : ∀ w : List Int, spW T w v < 2 ^ ds.length
  | [] => hv
  | k :: w => h.spA_lt (h.spW_lt hv w)
theorem TriF.sq_lt (h : TriF ds T) {k v : Nat} (hv : v < 2 ^ ds.length) : sqF T ds.length k v < 2 ^ ds.length := by rw [h.sq hv]; exact h.spA_lt hv
theorem spW_wrd (T : List Tri) {a b j : Nat} (hj : j ≤ a) (u : Nat) : spW T (wrd a b j) u = spA T (a + b - j) (spA T j u) := by
  unfold wrd
  split
  · rename_i h
    subst h
    show spA T ((a : Int) + b).toNat u = _
    rw [show ((a : Int) + b).toNat = a + b - 0 by omega, show spA T 0 u = u from if_pos rfl]
  · show spA T ((a : Int) + b - j).toNat (spA T (j : Int).toNat u) = _
    rw [show ((a : Int) + b - j).toNat = a + b - j by omega, Int.toNat_natCast]
theorem relF_mem {a b j : Nat} (h : j ∈ relF a b) : 2 * j ≤ a := by
  have := (List.mem_filter.1 h).1
  rw [List.mem_range] at this
  omega
theorem xor_zero_iff {x y : Nat} : x ^^^ y = 0 ↔ x = y := by
  constructor
  · intro h
    have := congrArg (· ^^^ y) h
    simpa [Nat.xor_assoc] using this
  · rintro rfl; exact Nat.xor_self _
theorem two_pow_lt {n v : Nat} (h : v < n) : 2 ^ v < 2 ^ n := Nat.pow_lt_pow_right (by decide) h
theorem TriF.bad (h : TriF ds T) {a b v : Nat} (hv : v < ds.length) : badX T ds.length a b v = 0 ↔ spW T [(a : Int), (b : Int)] (2 ^ v) = xorL (fun w => spW T w (2 ^ v)) (formF a b) := by
  have h2 := two_pow_lt hv
  unfold badX formF
  rw [xor_zero_iff, xorL_odd, xorL_map, h.sq (h.sq_lt h2), h.sq h2]
  rw [show spW T [(a : Int), (b : Int)] (2 ^ v) = spA T a (spA T b (2 ^ v)) from by simp [spW]]
  rw [xorL_congr fun j hj => show sqF T ds.length (a + b - j) (sqF T ds.length j (2 ^ v)) = spW T (wrd a b j) (2 ^ v) from by
    have := relF_mem hj
    rw [spW_wrd T (by omega), h.sq (h.sq_lt h2), h.sq h2]]

/-- all places of a mask have one degree -/
def Hom (ds : List Int) (D : Int) (m : Nat) : Prop := ∀ i, m.testBit i = true → i < ds.length ∧ ds[i]?.getD 0 = D
theorem Hom.xor {D : Int} {m p : Nat} (h : Hom ds D m) (k : Hom ds D p) : Hom ds D (m ^^^ p) := fun i hi => by
  rw [Nat.testBit_xor] at hi
  cases hm : m.testBit i
  · rw [hm] at hi; exact k i (by simpa using hi)
  · exact h i hm
theorem Hom.zero {D : Int} : Hom ds D 0 := fun i hi => by simp at hi
theorem Hom.two {v : Nat} (hv : v < ds.length) : Hom ds (ds[v]?.getD 0) (2 ^ v) := fun i hi => by
  rw [Nat.testBit_two_pow] at hi
  have := of_decide_eq_true hi
  subst this
  exact ⟨hv, rfl⟩
theorem Hom.act_aux {D : Int} {k v : Nat} (hv : Hom ds D v) : ∀ {S : List Tri} (m : Nat), (∀ t ∈ S, t.2.2 < ds.length ∧ ds[t.2.2]?.getD 0 = ds[t.2.1]?.getD 0 + t.1) → Hom ds (D + k) m → Hom ds (D + k) (S.foldl (actS k v) m)
  | [], m, _, hm => hm
  | t :: S, m, h, hm => by
    rw [List.foldl_cons]
    refine Hom.act_aux hv _ (fun s hs => h s (List.mem_cons_of_mem _ hs)) ?_
    unfold actS
    split
    · rename_i hc
      obtain ⟨h1, h2⟩ := h t (by simp)
      refine hm.xor ?_
      have := Hom.two h1
      rw [h2, (hv _ hc.2).2, hc.1] at this
      exact this
    · exact hm
theorem TriF.hom (h : TriF ds T) {D : Int} {k v : Nat} (hv : Hom ds D v) : Hom ds (D + k) (spA T k v) := by
  unfold spA
  split
  · rename_i hk; subst hk; simpa using hv
  · exact Hom.act_aux hv 0 (fun t ht => ⟨(h.each t ht).2.2.2.1, (h.each t ht).2.2.2.2⟩) Hom.zero
theorem sort_le : ∀ {xs : List Int}, sortB xs = true → ∀ (i j : Nat) (a b : Int), i ≤ j → xs[i]? = some a → xs[j]? = some b → a ≤ b := by
  intro xs h i j a b hij ha hb
  have h1 := sortB_iff.1 h
  induction j generalizing b with
  | zero =>
    obtain rfl : i = 0 := by omega
    rw [ha] at hb; injection hb with hb; omega
  | succ j ih =>
    by_cases e : i = j + 1
    · subst e; rw [ha] at hb; injection hb with hb; omega
    · have hj : j < xs.length := by have := (List.getElem?_eq_some_iff.1 hb).1; omega
      have h2 := ih (xs[j]) (by omega) (List.getElem?_eq_getElem hj)
      have h3 := h1 j _ b (List.getElem?_eq_getElem hj) hb
      omega
/-- above the span all is 0 -/
theorem Hom.none (hs : sortB ds = true) {D : Int} {m : Nat} {l : Int} (hl : ds[ds.length - 1]? = some l) (hD : l < D) (h : Hom ds D m) : m = 0 := by
  refine Nat.eq_of_testBit_eq fun i => ?_
  rw [Nat.zero_testBit]
  cases hi : m.testBit i
  · rfl
  · obtain ⟨h1, h2⟩ := h i hi
    have := sort_le hs i (ds.length - 1) _ l (by omega) (List.getElem?_eq_getElem h1) hl
    rw [List.getElem?_eq_getElem h1] at h2
    simp at h2
    omega
theorem Hom.xorL' {α : Type} {D : Int} {f : α → Nat} : ∀ {l : List α}, (∀ x ∈ l, Hom ds D (f x)) → Hom ds D (xorL f l)
  | [], _ => Hom.zero
  | x :: l, h => by rw [xorL_cons]; exact (h x (by simp)).xor (Hom.xorL' fun y hy => h y (List.mem_cons_of_mem _ hy))
theorem TriF.far (h : TriF ds T) (hs : sortB ds = true) {a b v : Nat} {f l : Int} (hf : ds[0]? = some f) (hl : ds[ds.length - 1]? = some l) (hab : l - f < (a : Int) + b) (hv : v < ds.length) : badX T ds.length a b v = 0 := by
  have h2 := two_pow_lt hv
  have hd : f ≤ ds[v]?.getD 0 := by
    have := sort_le hs 0 v f _ (by omega) hf (List.getElem?_eq_getElem hv)
    rw [List.getElem?_eq_getElem hv]
    exact this
  have hh := Hom.two hv
  refine Hom.none hs hl (D := ds[v]?.getD 0 + a + b) (by omega) ?_
  unfold badX
  refine Hom.xor ?_ (Hom.xorL' fun j hj => ?_)
  · rw [h.sq (h.sq_lt h2), h.sq h2]
    have := h.hom (k := a) (h.hom (k := b) hh)
    rw [show ds[v]?.getD 0 + (b : Int) + a = ds[v]?.getD 0 + a + b by omega] at this
    exact this
  · have hj2 := relF_mem hj
    rw [h.sq (h.sq_lt h2), h.sq h2]
    have := h.hom (k := a + b - j) (h.hom (k := j) hh)
    rw [show ds[v]?.getD 0 + (j : Int) + ((a + b - j : Nat) : Int) = ds[v]?.getD 0 + a + b by omega] at this
    exact this
theorem TriF.span (h : TriF ds T) (hs : sortB ds = true) {s : Nat} {f l : Int} (hf : ds[0]? = some f) (hl : ds[ds.length - 1]? = some l) (he : (s : Int) = l - f) (hs20 : s ≤ 20) : noF T ds.length s ↔ noF T ds.length 20 := by
  constructor
  · intro k a b v ha hb hab hv
    by_cases hc : a + b ≤ s
    · exact k a b v ha hb hc hv
    · exact h.far hs hf hl (by omega) hv
  · intro k a b v ha hb hab hv
    exact k a b v ha hb (by omega) hv
end

open Classical in
/-- is it a module? -/
noncomputable def modB (ds : List Int) (act : List (List Int)) : Bool := tabB ds act && decide (noF (act.map toT) ds.length 20)
end Go.Proofs.Ytdpkhgkoeoiemaa
