/- Plain: lists of numbers as sums over two elements; monomials as numbers. -/
import Derived.Test.YtoodhbafleemjaaGreatOrd
namespace Go.Proofs.YtoodhbafleemjaaGreat
open Go.RowKit
set_option linter.unusedVariables false

/-- every number is there equally often, modulo 2 -/
def Par (s t : List Int) : Prop := ∀ z, s.count z % 2 = t.count z % 2
theorem Par.refl (s : List Int) : Par s s := fun _ => rfl
theorem Par.symm {s t : List Int} (h : Par s t) : Par t s := fun z => (h z).symm
theorem Par.trans {s t u : List Int} (h : Par s t) (k : Par t u) : Par s u := fun z => (h z).trans (k z)
theorem Par.append {s t u v : List Int} (h : Par s t) (k : Par u v) : Par (s ++ u) (t ++ v) := fun z => by
  have := h z; have := k z
  rw [List.count_append, List.count_append]; omega
theorem Par.of_perm {s t : List Int} (h : s.Perm t) : Par s t := fun z => by rw [h.count_eq]
theorem Par.each {s : List Int} {f g : Int → List Int} (h : ∀ x ∈ s, Par (f x) (g x)) : Par (s.flatMap f) (s.flatMap g) := by
  induction s with
  | nil => exact Par.refl _
  | cons x s ih =>
    rw [List.flatMap_cons, List.flatMap_cons]
    exact (h x (by simp)).append (ih fun y hy => h y (List.mem_cons_of_mem _ hy))
/-- the numbers of s that are there an odd number of times, once each -/
def oddI (s : List Int) : List Int := s.foldr (fun x r => if x ∈ r then r.erase x else x :: r) []
theorem oddI_cons (x : Int) (s : List Int) : oddI (x :: s) = if x ∈ oddI s then (oddI s).erase x else x :: oddI s := rfl
theorem oddI_nodup (s : List Int) : (oddI s).Nodup := by
  induction s with
  | nil => simp [oddI]
  | cons x s ih =>
    rw [oddI_cons]
    split
    · exact ih.erase x
    · rename_i h; exact List.nodup_cons.2 ⟨h, ih⟩
theorem oddI_par (s : List Int) : Par (oddI s) s := by
  induction s with
  | nil => exact Par.refl _
  | cons x s ih =>
    rw [oddI_cons]
    intro z
    have h1 := ih z
    split
    · rename_i h
      rw [List.count_erase, List.count_cons]
      by_cases hz : x = z
      · subst hz
        have : 0 < (oddI s).count x := List.count_pos_iff.2 h
        simp; omega
      · have e1 : (z == x) = false := by simpa using fun e => hz e.symm
        have e2 : (x == z) = false := by simpa using hz
        simp [e2]; omega
    · rw [List.count_cons, List.count_cons]; omega
theorem oddI_mem {s : List Int} {z : Int} : z ∈ oddI s ↔ s.count z % 2 = 1 := by
  have h1 := oddI_par s z
  have h2 := List.nodup_iff_count.1 (oddI_nodup s) z
  rw [← List.count_pos_iff]
  omega
theorem oddI_sub {s : List Int} {z : Int} (h : z ∈ oddI s) : z ∈ s := by
  have := oddI_mem.1 h
  exact List.count_pos_iff.1 (by omega)
/-- a function of numbers takes sums to sums -/
theorem perm_flat {s t : List Int} {α : Type} (f : Int → List α) (h : s.Perm t) : (s.flatMap f).Perm (t.flatMap f) := h.flatMap_right f
theorem oddI_flat {α : Type} [BEq α] [LawfulBEq α] (f : Int → List α) (s : List Int) (z : α) : ((oddI s).flatMap f).count z % 2 = (s.flatMap f).count z % 2 := by
  induction s with
  | nil => rfl
  | cons x s ih =>
    rw [oddI_cons, List.flatMap_cons, List.count_append]
    split
    · rename_i h
      have hp := (List.perm_cons_erase h).flatMap_right f
      have := hp.count_eq z
      rw [List.flatMap_cons, List.count_append] at this
      omega
    · rw [List.flatMap_cons, List.count_append]; omega
theorem nodup_perm {s t : List Int} (hs : s.Nodup) (ht : t.Nodup) (h : ∀ z, z ∈ s ↔ z ∈ t) : s.Perm t := (List.perm_ext_iff_of_nodup hs ht).2 h
theorem oddI_congr {s t : List Int} (h : Par s t) : (oddI s).Perm (oddI t) := nodup_perm (oddI_nodup s) (oddI_nodup t) fun z => by rw [oddI_mem, oddI_mem, h z]
theorem Par.flat {α : Type} [BEq α] [LawfulBEq α] {s t : List Int} (f : Int → List α) (h : Par s t) (z : α) : (s.flatMap f).count z % 2 = (t.flatMap f).count z % 2 := by
  rw [← oddI_flat f s z, ← oddI_flat f t z, ((oddI_congr h).flatMap_right f).count_eq z]
theorem Par.map {s t : List Int} (f : Int → Int) (h : Par s t) : Par (s.map f) (t.map f) := fun z => by
  have := h.flat (fun x => [f x]) z
  rwa [← List.map_eq_flatMap, ← List.map_eq_flatMap] at this
theorem Par.lists {s t : List Int} (f : Int → List Int) (h : Par s t) : SameSum (s.map f) (t.map f) := fun z => by
  have := h.flat (fun x => [f x]) z
  rwa [← List.map_eq_flatMap, ← List.map_eq_flatMap] at this
/-- of lists: a function takes sums to sums -/
theorem SameSum.numbers {s t : List (List Int)} (f : List Int → Int) (h : SameSum s t) : Par (s.map f) (t.map f) := by
  have one : ∀ (x : List Int) (s : List (List Int)), Par ((insX x s).map f) (f x :: s.map f) := by
    intro x s
    induction s with
    | nil => exact Par.refl _
    | cons y r ih =>
      rw [insX]
      split
      · exact Par.refl _
      · split
        · intro z
          have := ih z
          simp only [List.map_cons, List.count_cons] at this ⊢
          omega
        · rename_i h1 h2
          have : x = y := by
            rcases ltL_tri x y with h | h | h
            · exact absurd h h1
            · exact h
            · exact absurd h h2
          subst this
          intro z
          simp only [List.map_cons, List.count_cons]
          omega
  have odd : ∀ s : List (List Int), Par ((oddL s).map f) (s.map f) := by
    intro s
    induction s with
    | nil => exact Par.refl _
    | cons x s ih =>
      show Par ((insX x (oddL s)).map f) _
      refine (one x (oddL s)).trans ?_
      intro z
      have := ih z
      simp only [List.map_cons, List.count_cons] at this ⊢
      omega
  refine (odd s).symm.trans ?_
  rw [oddL_congr h]
  exact odd t

/-- the number of a monomial -/
def encP : List Int → Int
  | [] => 0
  | n :: r => n + 64 * encP r
/-- the monomial of a number, of k variables -/
def decP : Nat → Int → List Int
  | 0, _ => []
  | k + 1, c => c % 64 :: decP k (c / 64)
/-- exponents that fit -/
def fitP (x : List Int) : Prop := ∀ z ∈ x, 0 ≤ z ∧ z < 64
theorem encP_nonneg : ∀ {x : List Int}, fitP x → 0 ≤ encP x
  | [], _ => Int.le_refl _
  | n :: r, h => by
    have h1 := h n (by simp)
    have := encP_nonneg (x := r) fun z hz => h z (List.mem_cons_of_mem _ hz)
    simp only [encP]; omega
theorem encP_lt : ∀ {x : List Int}, fitP x → encP x < 64 ^ x.length
  | [], _ => by simp [encP]
  | n :: r, h => by
    have h1 := h n (by simp)
    have := encP_lt (x := r) fun z hz => h z (List.mem_cons_of_mem _ hz)
    simp only [encP, List.length_cons, Int.pow_succ]; omega
theorem dec_enc : ∀ {x : List Int}, fitP x → decP x.length (encP x) = x
  | [], _ => rfl
  | n :: r, h => by
    have h1 := h n (by simp)
    have h2 := dec_enc (x := r) fun z hz => h z (List.mem_cons_of_mem _ hz)
    simp only [encP, List.length_cons, decP]
    have e1 : (n + 64 * encP r) % 64 = n := by omega
    have e2 : (n + 64 * encP r) / 64 = encP r := by omega
    rw [e1, e2, h2]
theorem decP_len : ∀ (k : Nat) (c : Int), (decP k c).length = k
  | 0, c => rfl
  | k + 1, c => by simp [decP, decP_len k]
theorem decP_fit : ∀ (k : Nat) (c : Int), fitP (decP k c)
  | 0, c => fun z hz => by cases hz
  | k + 1, c => fun z hz => by
    simp only [decP, List.mem_cons] at hz
    rcases hz with rfl | hz
    · omega
    · exact decP_fit k _ z hz
theorem enc_dec : ∀ (k : Nat) (c : Int), 0 ≤ c → c < 64 ^ k → encP (decP k c) = c
  | 0, c, h0, h1 => by simp at h1; simp [decP, encP]; omega
  | k + 1, c, h0, h1 => by
    simp only [decP, encP]
    rw [Int.pow_succ] at h1
    rw [enc_dec k (c / 64) (by omega) (by omega)]
    omega
theorem encP_inj {x y : List Int} (hx : fitP x) (hy : fitP y) (hl : x.length = y.length) (h : encP x = encP y) : x = y := by
  rw [← dec_enc hx, ← dec_enc hy, h, hl]
/-- the sum of two lists of exponents -/
def plusW (x y : List Int) : List Int := List.zipWith (· + ·) x y
theorem encP_plus : ∀ (x y : List Int), x.length = y.length → encP (plusW x y) = encP x + encP y
  | [], [], _ => rfl
  | [], _ :: _, h => by simp at h
  | _ :: _, [], h => by simp at h
  | a :: x, b :: y, h => by
    have := encP_plus x y (by simpa using h)
    simp only [plusW] at this ⊢
    simp only [List.zipWith_cons_cons, encP, this]
    omega
theorem encP_snoc : ∀ (x : List Int) (n : Int), encP (x ++ [n]) = encP x + n * 64 ^ x.length
  | [], n => by simp [encP]
  | a :: x, n => by
    simp only [List.cons_append, encP, encP_snoc x n, List.length_cons, Int.pow_succ]
    rw [Int.mul_add, Int.add_assoc]
    congr 2
    rw [← Int.mul_assoc, Int.mul_comm 64 n, Int.mul_assoc, Int.mul_comm 64]
end Go.Proofs.YtoodhbafleemjaaGreat

/- Plain: the terms of a polynomial that stands in a map; products; squares of monomials. -/
namespace Go.Proofs.YtoodhbafleemjaaGreat
open Go.RowKit
set_option linter.unusedVariables false

theorem nodup_odd {α : Type} [BEq α] [LawfulBEq α] {l : List α} (h : l.Nodup) (z : α) : z ∈ l ↔ l.count z % 2 = 1 := by
  have h1 := List.nodup_iff_count.1 h z
  rw [← List.count_pos_iff]
  omega
/-- a monomial of k variables whose exponents fit -/
def Mono (k : Nat) (x : List Int) : Prop := fitP x ∧ x.length = k
theorem mono_dec {k : Nat} {xss : List (List Int)} (hx : ∀ x ∈ xss, Mono k x) : (xss.map encP).map (decP k) = xss := by
  rw [List.map_map]
  refine (List.map_congr_left fun x h => ?_).trans (List.map_id _)
  obtain ⟨h1, h2⟩ := hx x h
  show decP k (encP x) = x
  rw [← h2]; exact dec_enc h1
theorem dec_nodup {k : Nat} {xss : List (List Int)} (hx : ∀ x ∈ xss, Mono k x) : ((oddI (xss.map encP)).map (decP k)).Nodup := by
  unfold List.Nodup
  rw [List.pairwise_map]
  refine List.Pairwise.imp_of_mem ?_ (oddI_nodup (xss.map encP))
  intro a b ha hb hne e
  obtain ⟨x, hx1, rfl⟩ := List.mem_map.1 (oddI_sub ha)
  obtain ⟨y, hy1, rfl⟩ := List.mem_map.1 (oddI_sub hb)
  obtain ⟨fx, lx⟩ := hx x hx1
  obtain ⟨fy, ly⟩ := hx y hy1
  apply hne
  rw [show decP k (encP x) = x from by rw [← lx]; exact dec_enc fx, show decP k (encP y) = y from by rw [← ly]; exact dec_enc fy] at e
  rw [e]
theorem dec_same {k : Nat} {xss : List (List Int)} (hx : ∀ x ∈ xss, Mono k x) : SameSum ((oddI (xss.map encP)).map (decP k)) xss := by
  have := (oddI_par (xss.map encP)).lists (decP k)
  rwa [mono_dec hx] at this
theorem oddL_perm {k : Nat} {xss : List (List Int)} (hx : ∀ x ∈ xss, Mono k x) : (oddL xss).Perm ((oddI (xss.map encP)).map (decP k)) := by
  have h1 := asc_nodup (oddL_asc xss)
  have h2 := dec_nodup hx
  refine (List.perm_ext_iff_of_nodup h1 h2).2 fun z => ?_
  rw [nodup_odd h1, nodup_odd h2, (oddL_same xss) z, (dec_same hx) z]
theorem oddL_size {k : Nat} {xss : List (List Int)} (hx : ∀ x ∈ xss, Mono k x) : (oddI (xss.map encP)).length = (oddL xss).length := by
  rw [(oddL_perm hx).length_eq, List.length_map]
theorem terms_eq {k : Nat} {xss yss : List (List Int)} (hx : ∀ x ∈ xss, Mono k x) (hp : yss.Perm ((oddI (xss.map encP)).map (decP k))) (hs : yss.Pairwise fun a b => ltL b a = false) : yss = oddL xss := by
  refine oddL_eq ?_ ((SameSum.of_perm hp).trans (dec_same hx))
  have hn : yss.Nodup := hp.nodup_iff.2 (dec_nodup hx)
  exact (hs.and hn).imp fun ⟨h1, h2⟩ => lt_of_le_ne h1 h2
theorem oddL_mono {k : Nat} {xss : List (List Int)} (hx : ∀ x ∈ xss, Mono k x) : ∀ x ∈ oddL xss, Mono k x := fun x h => hx x (oddL_mem h)

/-- all products of a monomial of f and one of g -/
def prodsP (f g : List (List Int)) : List (List Int) := f.flatMap fun x => g.map (plusW x)
theorem flatMap_congr' {α β : Type} {l : List α} {f g : α → List β} (h : ∀ x ∈ l, f x = g x) : l.flatMap f = l.flatMap g := by
  induction l with
  | nil => rfl
  | cons a l ih => rw [List.flatMap_cons, List.flatMap_cons, h a (by simp), ih fun x hx => h x (List.mem_cons_of_mem _ hx)]
theorem prodsP_enc {k : Nat} {f g : List (List Int)} (hf : ∀ x ∈ f, x.length = k) (hg : ∀ x ∈ g, x.length = k) : (prodsP f g).map encP = (f.map encP).flatMap fun a => (g.map encP).map (a + ·) := by
  unfold prodsP
  rw [List.map_flatMap, List.flatMap_map]
  refine flatMap_congr' fun x hx => ?_
  rw [List.map_map, List.map_map]
  refine List.map_congr_left fun y hy => ?_
  exact encP_plus x y (by rw [hf x hx, hg y hy])
theorem plusW_len {x y : List Int} (h : x.length = y.length) : (plusW x y).length = x.length := by
  unfold plusW
  rw [List.length_zipWith, h, Nat.min_self]
theorem plusW_nonneg : ∀ {x y : List Int}, (∀ a ∈ x, (0 : Int) ≤ a) → (∀ a ∈ y, (0 : Int) ≤ a) → ∀ a ∈ plusW x y, (0 : Int) ≤ a
  | [], y, _, _, a, h => by cases y <;> cases h
  | _ :: _, [], _, _, a, h => by cases h
  | p :: x, q :: y, hx, hy, a, h => by
    rcases List.mem_cons.1 h with rfl | h
    · have := hx p (by simp); have := hy q (by simp); show (0 : Int) ≤ p + q; omega
    · exact plusW_nonneg (fun b hb => hx b (List.mem_cons_of_mem _ hb)) (fun b hb => hy b (List.mem_cons_of_mem _ hb)) a h
theorem plusW_sum : ∀ {x y : List Int}, x.length = y.length → (plusW x y).sum = x.sum + y.sum
  | [], [], _ => rfl
  | [], _ :: _, h => by simp at h
  | _ :: _, [], h => by simp at h
  | p :: x, q :: y, h => by
    have := plusW_sum (x := x) (y := y) (by simpa using h)
    simp only [plusW] at this ⊢
    simp only [List.zipWith_cons_cons, List.sum_cons, this]; omega
theorem sum_nonneg' : ∀ {x : List Int}, (∀ a ∈ x, (0 : Int) ≤ a) → 0 ≤ x.sum
  | [], _ => Int.le_refl _
  | p :: x, hx => by
    have h1 := hx p (by simp)
    have := sum_nonneg' (x := x) fun b hb => hx b (List.mem_cons_of_mem _ hb)
    rw [List.sum_cons]; omega
theorem sum_ge_mem : ∀ {x : List Int}, (∀ a ∈ x, (0 : Int) ≤ a) → ∀ a ∈ x, a ≤ x.sum
  | [], _, a, h => by cases h
  | p :: x, hx, a, h => by
    have h0 : (0 : Int) ≤ x.sum := sum_nonneg' fun b hb => hx b (List.mem_cons_of_mem _ hb)
    have h1 := hx p (by simp)
    rw [List.sum_cons]
    rcases List.mem_cons.1 h with rfl | h
    · omega
    · have := sum_ge_mem (fun b hb => hx b (List.mem_cons_of_mem _ hb)) a h; omega
/-- exponents of at least 0 whose sum is d -/
def Deg (k : Nat) (d : Int) (x : List Int) : Prop := (∀ a ∈ x, (0 : Int) ≤ a) ∧ x.sum = d ∧ x.length = k
theorem Deg.mono {k : Nat} {d : Int} {x : List Int} (h : Deg k d x) (hd : d ≤ 63) : Mono k x := ⟨fun a ha => ⟨h.1 a ha, by have := sum_ge_mem h.1 a ha; have := h.2.1; omega⟩, h.2.2⟩
theorem Deg.plus {k : Nat} {d e : Int} {x y : List Int} (h : Deg k d x) (g : Deg k e y) : Deg k (d + e) (plusW x y) :=
  ⟨plusW_nonneg h.1 g.1, by rw [plusW_sum (by rw [h.2.2, g.2.2]), h.2.1, g.2.1], by rw [plusW_len (by rw [h.2.2, g.2.2]), h.2.2]⟩
theorem prodsP_deg {k : Nat} {d e : Int} {f g : List (List Int)} (hf : ∀ x ∈ f, Deg k d x) (hg : ∀ x ∈ g, Deg k e x) : ∀ x ∈ prodsP f g, Deg k (d + e) x := by
  intro z hz
  obtain ⟨x, hx, hz⟩ := List.mem_flatMap.1 hz
  obtain ⟨y, hy, rfl⟩ := List.mem_map.1 hz
  exact (hf x hx).plus (hg y hy)

/-- Sq^i of a monomial: its terms -/
def sqW : List Int → Int → List (List Int)
  | [], i => if i = 0 then [[]] else []
  | n :: t, i => (List.range (min n i + 1).toNat).flatMap fun j => if n.toNat &&& j = j then (sqW t (i - j)).map ((n + j) :: ·) else []
theorem sqW_deg : ∀ {x : List Int} {i : Int}, (∀ a ∈ x, (0 : Int) ≤ a) → ∀ z ∈ sqW x i, (∀ a ∈ z, (0 : Int) ≤ a) ∧ z.sum = x.sum + i ∧ z.length = x.length
  | [], i, _, z, hz => by
    simp only [sqW] at hz
    split at hz
    · rename_i h; simp only [List.mem_singleton] at hz; subst hz; subst h; simp
    · cases hz
  | n :: t, i, hx, z, hz => by
    have hn := hx n (by simp)
    simp only [sqW, List.mem_flatMap] at hz
    obtain ⟨j, hj, hz⟩ := hz
    split at hz
    · obtain ⟨y, hy, rfl⟩ := List.mem_map.1 hz
      obtain ⟨h1, h2, h3⟩ := sqW_deg (x := t) (i := i - j) (fun a ha => hx a (List.mem_cons_of_mem _ ha)) y hy
      refine ⟨fun a ha => ?_, by rw [List.sum_cons, h2, List.sum_cons]; omega, by simp [h3]⟩
      rcases List.mem_cons.1 ha with rfl | ha
      · omega
      · exact h1 a ha
    · cases hz
theorem Deg.sq {k : Nat} {d i : Int} {x : List Int} (h : Deg k d x) : ∀ z ∈ sqW x i, Deg k (d + i) z := fun z hz => by
  obtain ⟨h1, h2, h3⟩ := sqW_deg h.1 z hz
  exact ⟨h1, by rw [h2, h.2.1], by rw [h3, h.2.2]⟩
/-- Sq^i of a sum of monomials, as a sum -/
def sqP (xss : List (List Int)) (i : Int) : List (List Int) := xss.flatMap fun x => sqW x i
theorem sqP_deg {k : Nat} {d i : Int} {xss : List (List Int)} (h : ∀ x ∈ xss, Deg k d x) : ∀ z ∈ sqP xss i, Deg k (d + i) z := fun z hz => by
  obtain ⟨x, hx, hz⟩ := List.mem_flatMap.1 hz
  exact (h x hx).sq z hz
end Go.Proofs.YtoodhbafleemjaaGreat

/- Plain: bits of numbers, as the model writes them; the shift that lays an exponent into a monomial's number, and the one that takes it out. -/
namespace Go.Proofs.YtoodhbafleemjaaGreat
open Go.RowKit
set_option linter.unusedVariables false

theorem ofInt_nat {a : Nat} (ha : a < 9223372036854775808) : (BitVec.ofInt 64 (a : Int)).toNat = a := by
  rw [BitVec.ofInt_natCast, BitVec.toNat_ofNat]; exact Nat.mod_eq_of_lt (by omega)
theorem bits_andN {a b : Nat} (ha : a < 9223372036854775808) (hb : b < 9223372036854775808) : bits .and .i64 (a : Int) (b : Int) = ((a &&& b : Nat) : Int) := by
  have hx : a &&& b < 2 ^ 63 := Nat.and_lt_two_pow _ (by omega)
  show IntKind.i64.wrap ((BitVec.ofInt 64 (a : Int) &&& BitVec.ofInt 64 (b : Int)).toNat : Int) = _
  rw [BitVec.toNat_and, ofInt_nat ha, ofInt_nat hb, IntKind.wrap_i64]
  omega
theorem bits_orN {a b : Nat} (ha : a < 9223372036854775808) (hb : b < 9223372036854775808) : bits .or .i64 (a : Int) (b : Int) = ((a ||| b : Nat) : Int) := by
  have hx : a ||| b < 2 ^ 63 := Nat.or_lt_two_pow (by omega) (by omega)
  show IntKind.i64.wrap ((BitVec.ofInt 64 (a : Int) ||| BitVec.ofInt 64 (b : Int)).toNat : Int) = _
  rw [BitVec.toNat_or, ofInt_nat ha, ofInt_nat hb, IntKind.wrap_i64]
  omega
/-- an exponent is laid above what is there -/
theorem or_above {c n : Int} {i : Nat} (hi : i ≤ 9) (h0 : 0 ≤ c) (h1 : c < 64 ^ i) (hn : 0 ≤ n) (hn1 : n < 64) : bits .or .i64 c (n * 64 ^ i) = c + n * 64 ^ i := by
  obtain ⟨a, rfl⟩ := Int.eq_ofNat_of_zero_le h0
  obtain ⟨m, rfl⟩ := Int.eq_ofNat_of_zero_le hn
  have e64 : (64 : Nat) ^ i = 2 ^ (6 * i) := by rw [Nat.pow_mul]
  have ha : a < 64 ^ i := by exact_mod_cast h1
  have hm : m < 64 := by omega
  have hp : (64 : Nat) ^ i ≤ 64 ^ 9 := Nat.pow_le_pow_right (by decide) hi
  have hmp : m * 64 ^ i ≤ 63 * 64 ^ 9 := Nat.mul_le_mul (by omega) hp
  have hlt : m * 64 ^ i < 9223372036854775808 := Nat.lt_of_le_of_lt hmp (by decide)
  have hlt2 : a < 9223372036854775808 := Nat.lt_of_lt_of_le ha (Nat.le_trans hp (by decide))
  rw [show ((m : Int) * 64 ^ i) = ((m * 64 ^ i : Nat) : Int) from by push_cast; rfl, bits_orN hlt2 hlt]
  rw [Nat.or_comm, e64, ← Nat.shiftLeft_eq, ← Nat.shiftLeft_add_eq_or_of_lt (by rw [← e64]; exact ha)]
  push_cast; omega
theorem and63 {a : Int} (h0 : 0 ≤ a) (h1 : a < 9223372036854775808) : bits .and .i64 a 63 = a % 64 := by
  obtain ⟨m, rfl⟩ := Int.eq_ofNat_of_zero_le h0
  rw [show (63 : Int) = ((63 : Nat) : Int) from rfl, bits_andN (by omega) (by decide)]
  rw [show (63 : Nat) = 2 ^ 6 - 1 from rfl, Nat.and_two_pow_sub_one_eq_mod]
  omega
/-- n has all bits of j -/
theorem and_sub {n j : Int} (hn : 0 ≤ n) (hj : 0 ≤ j) (hn1 : n < 9223372036854775808) (hj1 : j < 9223372036854775808) : bits .and .i64 n j = j ↔ n.toNat &&& j.toNat = j.toNat := by
  obtain ⟨a, rfl⟩ := Int.eq_ofNat_of_zero_le hn
  obtain ⟨b, rfl⟩ := Int.eq_ofNat_of_zero_le hj
  rw [bits_andN (by omega) (by omega)]
  simp only [Int.toNat_natCast]
  omega
end Go.Proofs.YtoodhbafleemjaaGreat
