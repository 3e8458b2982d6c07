/- Plain: the terms of a polynomial that stands in a map; products; squares of monomials. -/
import Derived.Test.YtejlkobieohgfaaPar
namespace Go.Proofs.Ytejlkobieohgfaa
open Go.RowKit
set_option linter.unusedVariables false

theorem nodup_odd {α : Type} [BEq α] [LawfulBEq α] {l : List α} (h : l.Nodup) (z : α) : z ∈ l ↔ l.count z % 2 = 1 := by
  have h1 := List.nodup_iff_count.1 h z
  rw [← List.count_pos_iff]
  omega
/-- a monomial of k variables whose exponents fit -/
def Mono (k : Nat) (x : List Int) : Prop := fitP x ∧ x.length = k
theorem mono_dec {k : Nat} {xss : List (List Int)} (hx : ∀ x ∈ xss, Mono k x) : (xss.map encP).map (decP k) = xss := by
  rw [List.map_map]
  refine (List.map_congr_left fun x h => ?_).trans (List.map_id _)
  obtain ⟨h1, h2⟩ := hx x h
  show decP k (encP x) = x
  rw [← h2]; exact dec_enc h1
theorem dec_nodup {k : Nat} {xss : List (List Int)} (hx : ∀ x ∈ xss, Mono k x) : ((oddI (xss.map encP)).map (decP k)).Nodup := by
  unfold List.Nodup
  rw [List.pairwise_map]
  refine List.Pairwise.imp_of_mem ?_ (oddI_nodup (xss.map encP))
  intro a b ha hb hne e
  obtain ⟨x, hx1, rfl⟩ := List.mem_map.1 (oddI_sub ha)
  obtain ⟨y, hy1, rfl⟩ := List.mem_map.1 (oddI_sub hb)
  obtain ⟨fx, lx⟩ := hx x hx1
  obtain ⟨fy, ly⟩ := hx y hy1
  apply hne
  rw [show decP k (encP x) = x from by rw [← lx]; exact dec_enc fx, show decP k (encP y) = y from by rw [← ly]; exact dec_enc fy] at e
  rw [e]
theorem dec_same {k : Nat} {xss : List (List Int)} (hx : ∀ x ∈ xss, Mono k x) : SameSum ((oddI (xss.map encP)).map (decP k)) xss := by
  have := (oddI_par (xss.map encP)).lists (decP k)
  rwa [mono_dec hx] at this
theorem oddL_perm {k : Nat} {xss : List (List Int)} (hx : ∀ x ∈ xss, Mono k x) : (oddL xss).Perm ((oddI (xss.map encP)).map (decP k)) := by
  have h1 := asc_nodup (oddL_asc xss)
  have h2 := dec_nodup hx
  refine (List.perm_ext_iff_of_nodup h1 h2).2 fun z => ?_
  rw [nodup_odd h1, nodup_odd h2, (oddL_same xss) z, (dec_same hx) z]
theorem oddL_size {k : Nat} {xss : List (List Int)} (hx : ∀ x ∈ xss, Mono k x) : (oddI (xss.map encP)).length = (oddL xss).length := by
  rw [(oddL_perm hx).length_eq, List.length_map]
theorem terms_eq {k : Nat} {xss yss : List (List Int)} (hx : ∀ x ∈ xss, Mono k x) (hp : yss.Perm ((oddI (xss.map encP)).map (decP k))) (hs : yss.Pairwise fun a b => ltL b a = false) : yss = oddL xss := by
  refine oddL_eq ?_ ((SameSum.of_perm hp).trans (dec_same hx))
  have hn : yss.Nodup := hp.nodup_iff.2 (dec_nodup hx)
  exact (hs.and hn).imp fun ⟨h1, h2⟩ => lt_of_le_ne h1 h2
theorem oddL_mono {k : Nat} {xss : List (List Int)} (hx : ∀ x ∈ xss, Mono k x) : ∀ x ∈ oddL xss, Mono k x := fun x h => hx x (oddL_mem h)

/-- all products of a monomial of f and one of g -/
def prodsP (f g : List (List Int)) : List (List Int) := f.flatMap fun x => g.map (plusW x)
theorem flatMap_congr' {α β : Type} {l : List α} {f g : α → List β} (h : ∀ x ∈ l, f x = g x) : l.flatMap f = l.flatMap g := by
  induction l with
  | nil => rfl
  | cons a l ih => rw [List.flatMap_cons, List.flatMap_cons, h a (by simp), ih fun x hx => h x (List.mem_cons_of_mem _ hx)]
theorem prodsP_enc {k : Nat} {f g : List (List Int)} (hf : ∀ x ∈ f, x.length = k) (hg : ∀ x ∈ g, x.length = k) : (prodsP f g).map encP = (f.map encP).flatMap fun a => (g.map encP).map (a + ·) := by
  unfold prodsP
  rw [List.map_flatMap, List.flatMap_map]
  refine flatMap_congr' fun x hx => ?_
  rw [List.map_map, List.map_map]
  refine List.map_congr_left fun y hy => ?_
  exact encP_plus x y (by rw [hf x hx, hg y hy])
theorem plusW_len {x y : List Int} (h : x.length = y.length) : (plusW x y).length = x.length := by
  unfold plusW
  rw [List.length_zipWith, h, Nat.min_self]
theorem plusW_nonneg : ∀ {x y : List Int}, (∀ a ∈ x, (0 : Int) ≤ a) → (∀ a ∈ y, (0 : Int) ≤ a) → ∀ a ∈ plusW x y, (0 : Int) ≤ a
  | [], y, _, _, a, h => by cases y <;> cases h
  | _ :: _, [], _, _, a, h => by cases h
  | p :: x, q :: y, hx, hy, a, h => by
    rcases List.mem_cons.1 h with rfl | h
    · have := hx p (by simp); have := hy q (by simp); show (0 : Int) ≤ p + q; omega
    · exact plusW_nonneg (fun b hb => hx b (List.mem_cons_of_mem _ hb)) (fun b hb => hy b (List.mem_cons_of_mem _ hb)) a h
theorem plusW_sum : ∀ {x y : List Int}, x.length = y.length → (plusW x y).sum = x.sum + y.sum
  | [], [], _ => rfl
  | [], _ :: _, h => by simp at h
  | _ :: _, [], h => by simp at h
  | p :: x, q :: y, h => by
    have := plusW_sum (x := x) (y := y) (by simpa using h)
    simp only [plusW] at this ⊢
    simp only [List.zipWith_cons_cons, List.sum_cons, this]; omega
theorem sum_nonneg' : ∀ {x : List Int}, (∀ a ∈ x, (0 : Int) ≤ a) → 0 ≤ x.sum
  | [], _ => Int.le_refl _
  | p :: x, hx => by
    have h1 := hx p (by simp)
    have := sum_nonneg' (x := x) fun b hb => hx b (List.mem_cons_of_mem _ hb)
    rw [List.sum_cons]; omega
theorem sum_ge_mem : ∀ {x : List Int}, (∀ a ∈ x, (0 : Int) ≤ a) → ∀ a ∈ x, a ≤ x.sum
  | [], _, a, h => by cases h
  | p :: x, hx, a, h => by
    have h0 : (0 : Int) ≤ x.sum := sum_nonneg' fun b hb => hx b (List.mem_cons_of_mem _ hb)
    have h1 := hx p (by simp)
    rw [List.sum_cons]
    rcases List.mem_cons.1 h with rfl | h
    · omega
    · have := sum_ge_mem (fun b hb => hx b (List.mem_cons_of_mem _ hb)) a h; omega
/-- exponents of at least 0 whose sum is d -/
def Deg (k : Nat) (d : Int) (x : List Int) : Prop := (∀ a ∈ x, (0 : Int) ≤ a) ∧ x.sum = d ∧ x.length = k
theorem Deg.mono {k : Nat} {d : Int} {x : List Int} (h : Deg k d x) (hd : d ≤ 63) : Mono k x := ⟨fun a ha => ⟨h.1 a ha, by have := sum_ge_mem h.1 a ha; have := h.2.1; omega⟩, h.2.2⟩
theorem Deg.plus {k : Nat} {d e : Int} {x y : List Int} (h : Deg k d x) (g : Deg k e y) : Deg k (d + e) (plusW x y) :=
  ⟨plusW_nonneg h.1 g.1, by rw [plusW_sum (by rw [h.2.2, g.2.2]), h.2.1, g.2.1], by rw [plusW_len (by rw [h.2.2, g.2.2]), h.2.2]⟩
theorem prodsP_deg {k : Nat} {d e : Int} {f g : List (List Int)} (hf : ∀ x ∈ f, Deg k d x) (hg : ∀ x ∈ g, Deg k e x) : ∀ x ∈ prodsP f g, Deg k (d + e) x := by
  intro z hz
  obtain ⟨x, hx, hz⟩ := List.mem_flatMap.1 hz
  obtain ⟨y, hy, rfl⟩ := List.mem_map.1 hz
  exact (hf x hx).plus (hg y hy)

/-- Sq^i of a monomial: its terms -/
def sqW : List Int → Int → List (List Int)
  | [], i => if i = 0 then [[]] else []
  | n :: t, i => (List.range (min n i + 1).toNat).flatMap fun j => if n.toNat &&& j = j then (sqW t (i - j)).map ((n + j) :: ·) else []
theorem sqW_deg : ∀ {x : List Int} {i : Int}, (∀ a ∈ x, (0 : Int) ≤ a) → ∀ z ∈ sqW x i, (∀ a ∈ z, (0 : Int) ≤ a) ∧ z.sum = x.sum + i ∧ z.length = x.length
  | [], i, _, z, hz => by
    simp only [sqW] at hz
    split at hz
    · rename_i h; simp only [List.mem_singleton] at hz; subst hz; subst h; simp
    · cases hz
  | n :: t, i, hx, z, hz => by
    have hn := hx n (by simp)
    simp only [sqW, List.mem_flatMap] at hz
    obtain ⟨j, hj, hz⟩ := hz
    split at hz
    · obtain ⟨y, hy, rfl⟩ := List.mem_map.1 hz
      obtain ⟨h1, h2, h3⟩ := sqW_deg (x := t) (i := i - j) (fun a ha => hx a (List.mem_cons_of_mem _ ha)) y hy
      refine ⟨fun a ha => ?_, by rw [List.sum_cons, h2, List.sum_cons]; omega, by simp [h3]⟩
      rcases List.mem_cons.1 ha with rfl | ha
      · omega
      · exact h1 a ha
    · cases hz
theorem Deg.sq {k : Nat} {d i : Int} {x : List Int} (h : Deg k d x) : ∀ z ∈ sqW x i, Deg k (d + i) z := fun z hz => by
  obtain ⟨h1, h2, h3⟩ := sqW_deg h.1 z hz
  exact ⟨h1, by rw [h2, h.2.1], by rw [h3, h.2.2]⟩
/-- Sq^i of a sum of monomials, as a sum -/
def sqP (xss : List (List Int)) (i : Int) : List (List Int) := xss.flatMap fun x => sqW x i
theorem sqP_deg {k : Nat} {d i : Int} {xss : List (List Int)} (h : ∀ x ∈ xss, Deg k d x) : ∀ z ∈ sqP xss i, Deg k (d + i) z := fun z hz => by
  obtain ⟨x, hx, hz⟩ := List.mem_flatMap.1 hz
  exact (h x hx).sq z hz
end Go.Proofs.Ytejlkobieohgfaa
