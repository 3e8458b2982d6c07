/- Series of numbers: running sums with a step (one factor 1/(1 - t^p)), the numbers of exponent lists; SeriesOfAlgebra on both sides. -/
import Derived.Test.YtgoefodemjelaaaSer
import Derived.StillTailTactics
namespace Go.Proofs.Ytgoefodemjelaaa
open Go.RowKit
set_option linter.unusedVariables false

/-- one store: xs[n] += xs[n - p] -/
def addP (p : Nat) (xs : List Int) (n : Nat) : List Int := xs.set n (wrap64 (xs.getD n 0 + xs.getD (n - p) 0))
/-- the stores from n up to e - 1 -/
def addFrom (p e : Nat) (xs : List Int) (n : Nat) : List Int := (List.range' n (e - n)).foldl (addP p) xs
theorem addP_length (p : Nat) (xs : List Int) (n : Nat) : (addP p xs n).length = xs.length := by simp [addP]
theorem addFold_length (p : Nat) (ns : List Nat) (xs : List Int) : (ns.foldl (addP p) xs).length = xs.length := by
  induction ns generalizing xs with
  | nil => rfl
  | cons n ns ih => rw [List.foldl_cons, ih, addP_length]
theorem addFrom_length (p e : Nat) (xs : List Int) (n : Nat) : (addFrom p e xs n).length = xs.length := addFold_length _ _ _
theorem addFrom_step {p e n : Nat} {xs : List Int} (h : n < e) : addFrom p e xs n = addFrom p e (addP p xs n) (n + 1) := by
  unfold addFrom
  rw [show e - n = (e - (n + 1)) + 1 from by omega, List.range'_succ, List.foldl_cons]
theorem addFrom_end {p e n : Nat} {xs : List Int} (h : e ≤ n) : addFrom p e xs n = xs := by
  unfold addFrom
  rw [show e - n = 0 from by omega]; rfl
theorem addP_of {p n : Nat} {xs : List Int} {x y : Int} (hx : Hid (xs[n]? = some x)) (hy : Hid (xs[n - p]? = some y)) : addP p xs n = xs.set n (wrap64 (x + y)) := by
  unfold addP
  rw [List.getD_eq_getElem?_getD, List.getD_eq_getElem?_getD, hx.out, hy.out]; rfl

/-- the list that begins with 1 and goes on with 0 -/
def oneL (n : Nat) : List Int := (List.replicate n 0).set 0 1
theorem oneL_length (n : Nat) : (oneL n).length = n := by simp [oneL]

/-- the parts 1, 3, 7, .. one after the other, as long as they are at most d -/
def cpAll : Nat → Nat → Nat → List Int → List Int
  | 0, _, _, xs => xs
  | f + 1, d, p, xs => if p ≤ d then cpAll f d (2 * p + 1) (addFrom p (d + 1) xs p) else xs
def countL (d : Nat) : List Int := cpAll (d + 1) d 1 (oneL (d + 1))
theorem cpAll_length (f d p : Nat) (xs : List Int) : (cpAll f d p xs).length = xs.length := by
  induction f generalizing p xs with
  | zero => rfl
  | succ f ih =>
    unfold cpAll
    split
    · rw [ih, addFrom_length]
    · rfl
theorem countL_length (d : Nat) : (countL d).length = d + 1 := by rw [countL, cpAll_length, oneL_length]

/-- Both cells that a store of addP reads, and what the store makes. -/
theorem OwnS.two {w : World} {B n c : Nat} {A : Option Addr} {xs : List Int} (h : OwnS w B A n c xs) {k p : Nat} (hk : k < n) :
    ∃ g x y, A = some ⟨g, 0, none⟩ ∧ B ≤ g ∧ w.cell? ⟨g, k, none⟩ = some (.int .i64 x) ∧ w.cell? ⟨g, k - p, none⟩ = some (.int .i64 y) ∧ w.frozen? ⟨g, k, none⟩ = false ∧
      Hid (xs[k]? = some x) ∧ Hid (xs[k - p]? = some y) ∧ ∀ u, OwnS (w.setCell ⟨g, k, none⟩ (.int .i64 u)) B (some ⟨g, 0, none⟩) n c (xs.set k u) := by
  obtain ⟨g, x, rfl, hB, _, hx, hc, hf, hset⟩ := h.at_ hk
  obtain ⟨g', y, hg', _, _, hy, hc', _, _⟩ := h.at_ (show k - p < n by omega)
  obtain rfl : g = g' := by simpa using hg'
  exact ⟨g, x, y, rfl, hB, hc, hc', hf, hx, hy, fun u => (hset u).1⟩

def RetO (n : Nat) (xs : List Int) (w : World) (e : Ending) (w' : World) : Prop := ∃ A c, e = .returned (.slice A n c) ∧ OwnS w' w.heap.size A n c xs ∧ Below w.heap.size w w'

theorem made_own {w1 : World} {B g n : Nat} (hown : w1.ownsRow B 2 1 (.slice (some ⟨g, 0, none⟩) n n) n (madeCells #[.int .i64 0] n).toList) : OwnS w1 B (some ⟨g, 0, none⟩) n n (List.replicate n 0) :=
  ⟨by simp, by simpa [toList_madeCells_one] using hown⟩

/-- the rounds of the inner loop, as the walk meets them: the cells n and n - p are read, the sum is stored -/
theorem cpAll_step {f d p : Nat} {xs : List Int} (h : p ≤ d) : cpAll (f + 1) d p xs = cpAll f d (2 * p + 1) (addFrom p (d + 1) xs p) := by rw [cpAll, if_pos h]
theorem cpAll_end {f d p : Nat} {xs : List Int} (h : ¬ p ≤ d) : cpAll f d p xs = xs := by
  cases f with
  | zero => rfl
  | succ f => rw [cpAll, if_neg h]

theorem l01Count_any (d : Nat) (w : World) (hd : d ≤ 300) : Calls Try.prog 51 #[.int .i64 d] w (RetO (d + 1) (countL d) w) := by
  obtain ⟨i0, hi, hz0, hz1, hz2⟩ := info_parts Try.info_i64
  obtain ⟨B, hB⟩ : ∃ B, B = w.heap.size := ⟨_, rfl⟩
  have hBle : w.heap.size ≤ B := by omega
  have hBge : B ≤ w.heap.size := by omega
  have HB := Lib.hid hB; clear hB
  go_enter Try.func51, Try.ntmps51
  go_wp2_with (at_make; refine wpList_make_full _ rfl _ _ 22 rfl B 2 i0 (.int .i64 0) 1 Try.underlying22 hi hz0 hz1 .i64 .i64 _ _ (d+1) rfl rfl (by omega) (by omega) ?b2 ?b3 hBge ?_)
  case b2 => rw [hz2]; omega
  case b3 => unfold maxLen; omega
  intro w1 hown hgr
  have HBe : Below B w w1 := (Below.refl _ _).grown hgr hBge (by simp)
  obtain ⟨g, x, hg, hBg, _, _, hc, hf, hset⟩ := (made_own hown).at_ (show 0 < d + 1 by omega)
  obtain ⟨HO, _⟩ := hset 1
  have HBe := HBe.setCell (p := ⟨g, 0, none⟩) hBg (.int .i64 1)
  rw [hg] at hown ⊢
  clear hown hgr hset hg hBle hBge hi hz0 hz1 hz2 i0
  go_wp2
  go_loopw [4] (fun p wr => ∃ (f q : Nat) (xs : List Int), 1 ≤ q ∧ d + 1 ≤ q + f ∧ q ≤ 1000 ∧ p = .int .i64 q ∧ OwnS wr B (some ⟨g, 0, none⟩) (d + 1) (d + 1) xs ∧ Below B w wr ∧ Hid (cpAll f d q xs = countL d)) (fun p _ => 1000 - (intOf p).toNat)
  case atStart => exact ⟨d + 1, 1, _, by omega, by omega, by omega, rfl, HO, HBe, Lib.hid rfl⟩
  case round =>
    obtain ⟨f, q, xs, hq1, hqf, hq2, rfl, HO, HBe, HC⟩ := hrel
    by_cases hqd : q ≤ d
    · obtain ⟨f, rfl⟩ : ∃ f', f = f' + 1 := ⟨f - 1, by omega⟩
      go_wp2
      obtain ⟨w0, hw0⟩ : ∃ w0 : World, w0 = wr := ⟨_, rfl⟩
      clear hw0
      go_loopw [5] (fun m wr => ∃ (k : Nat) (ys : List Int), q ≤ k ∧ k ≤ d + 1 ∧ m = .int .i64 k ∧ OwnS wr B (some ⟨g, 0, none⟩) (d + 1) (d + 1) ys ∧ Below B w wr ∧ Hid (addFrom q (d + 1) ys k = addFrom q (d + 1) xs q)) (fun m _ => d + 1 - (intOf m).toNat)
      case atStart => exact ⟨q, xs, by omega, by omega, rfl, HO, HBe, Lib.hid rfl⟩
      case round =>
        clear HO HBe
        obtain ⟨k, ys, hqk, hkd, rfl, HO, HBe, HA⟩ := hrel
        by_cases hlt : k < d + 1
        · obtain ⟨g', x, y, hg', hBg', hcx, hcy, hfx, hx, hy, hset⟩ := HO.two (p := q) hlt
          obtain rfl : g = g' := by simpa using hg'
          have HO2 := hset (wrap64 (x + y))
          rw [← addP_of hx hy] at HO2
          have HA2 := Lib.hid ((addFrom_step hlt).symm.trans HA.out)
          clear hset HO HA hg'
          go_wp2
          go_region
          go_wp2
          go_roundw
          case rel => exact ⟨k + 1, _, by omega, by omega, by go_num, HO2.drew, (HBe.setCell hBg' _).drew, HA2⟩
          case measure => simp [intOf]; omega
        · go_wp2
          obtain rfl : k = d + 1 := by omega
          have h3 := HA.out
          rw [addFrom_end (Nat.le_refl _)] at h3
          subst h3
          go_roundw
          case rel => exact ⟨f, 2 * q + 1, _, by omega, by omega, by omega, by go_num, HO, HBe, Lib.hid ((cpAll_step hqd).symm.trans HC.out)⟩
          case measure => simp [intOf]; omega
    · go_wp2
      go_ret
      exact ⟨_, _, rfl, by rw [← HC.out, cpAll_end hqd, ← HB.out]; exact HO, HB.out ▸ HBe⟩
theorem countPartitions_any (d : Nat) (w : World) (hd : d ≤ 300) : Calls Try.prog 54 #[.int .i64 d] w (RetO (d + 1) (countL d) w) := by
  obtain ⟨i0, hi, hz0, hz1, hz2⟩ := info_parts Try.info_i64
  obtain ⟨B, hB⟩ : ∃ B, B = w.heap.size := ⟨_, rfl⟩
  have hBle : w.heap.size ≤ B := by omega
  have hBge : B ≤ w.heap.size := by omega
  have HB := Lib.hid hB; clear hB
  go_enter Try.func54, Try.ntmps54
  go_wp2_with (at_make; refine wpList_make_full _ rfl _ _ 22 rfl B 2 i0 (.int .i64 0) 1 Try.underlying22 hi hz0 hz1 .i64 .i64 _ _ (d+1) rfl rfl (by omega) (by omega) ?b2 ?b3 hBge ?_)
  case b2 => rw [hz2]; omega
  case b3 => unfold maxLen; omega
  intro w1 hown hgr
  have HBe : Below B w w1 := (Below.refl _ _).grown hgr hBge (by simp)
  obtain ⟨g, x, hg, hBg, _, _, hc, hf, hset⟩ := (made_own hown).at_ (show 0 < d + 1 by omega)
  obtain ⟨HO, _⟩ := hset 1
  have HBe := HBe.setCell (p := ⟨g, 0, none⟩) hBg (.int .i64 1)
  rw [hg] at hown ⊢
  clear hown hgr hset hg hBle hBge hi hz0 hz1 hz2 i0
  go_wp2
  go_loopw [4] (fun p wr => ∃ (f q : Nat) (xs : List Int), 1 ≤ q ∧ d + 1 ≤ q + f ∧ q ≤ 1000 ∧ p = .int .i64 q ∧ OwnS wr B (some ⟨g, 0, none⟩) (d + 1) (d + 1) xs ∧ Below B w wr ∧ Hid (cpAll f d q xs = countL d)) (fun p _ => 1000 - (intOf p).toNat)
  case atStart => exact ⟨d + 1, 1, _, by omega, by omega, by omega, rfl, HO, HBe, Lib.hid rfl⟩
  case round =>
    obtain ⟨f, q, xs, hq1, hqf, hq2, rfl, HO, HBe, HC⟩ := hrel
    by_cases hqd : q ≤ d
    · obtain ⟨f, rfl⟩ : ∃ f', f = f' + 1 := ⟨f - 1, by omega⟩
      go_wp2
      obtain ⟨w0, hw0⟩ : ∃ w0 : World, w0 = wr := ⟨_, rfl⟩
      clear hw0
      go_loopw [5] (fun m wr => ∃ (k : Nat) (ys : List Int), q ≤ k ∧ k ≤ d + 1 ∧ m = .int .i64 k ∧ OwnS wr B (some ⟨g, 0, none⟩) (d + 1) (d + 1) ys ∧ Below B w wr ∧ Hid (addFrom q (d + 1) ys k = addFrom q (d + 1) xs q)) (fun m _ => d + 1 - (intOf m).toNat)
      case atStart => exact ⟨q, xs, by omega, by omega, rfl, HO, HBe, Lib.hid rfl⟩
      case round =>
        clear HO HBe
        obtain ⟨k, ys, hqk, hkd, rfl, HO, HBe, HA⟩ := hrel
        by_cases hlt : k < d + 1
        · obtain ⟨g', x, y, hg', hBg', hcx, hcy, hfx, hx, hy, hset⟩ := HO.two (p := q) hlt
          obtain rfl : g = g' := by simpa using hg'
          have HO2 := hset (wrap64 (x + y))
          rw [← addP_of hx hy] at HO2
          have HA2 := Lib.hid ((addFrom_step hlt).symm.trans HA.out)
          clear hset HO HA hg'
          go_wp2
          go_region
          go_wp2
          go_roundw
          case rel => exact ⟨k + 1, _, by omega, by omega, by go_num, HO2.drew, (HBe.setCell hBg' _).drew, HA2⟩
          case measure => simp [intOf]; omega
        · go_wp2
          obtain rfl : k = d + 1 := by omega
          have h3 := HA.out
          rw [addFrom_end (Nat.le_refl _)] at h3
          subst h3
          go_roundw
          case rel => exact ⟨f, 2 * q + 1, _, by omega, by omega, by omega, by go_num, HO, HBe, Lib.hid ((cpAll_step hqd).symm.trans HC.out)⟩
          case measure => simp [intOf]; omega
    · go_wp2
      go_ret
      exact ⟨_, _, rfl, by rw [← HC.out, cpAll_end hqd, ← HB.out]; exact HO, HB.out ▸ HBe⟩

/-! ### SeriesOfAlgebra -/
def fitL (xs : List Int) : List Int := if xs.all smallB = true then xs else []
def fitC (xs : List Int) : Int := if xs.all smallB = true then 0 else 3

/-- limited: the slice itself goes through, if all its numbers are small. -/
def RetFit (A : Option Addr) (n c : Nat) (xs : List Int) (w : World) (e : Ending) (w' : World) : Prop :=
  ((Hid (xs.all smallB = true) ∧ e = .returned (.tuple #[.slice A n c, .int .i64 0])) ∨ (Hid (xs.all smallB = false) ∧ e = .returned (.tuple #[.slice none 0 0, .int .i64 3]))) ∧ Below w.heap.size w w'
theorem RetFit.yes {A : Option Addr} {n c : Nat} {xs : List Int} {w w' : World} (h : xs.all smallB = true) (hb : Below w.heap.size w w') : RetFit A n c xs w (.returned (.tuple #[.slice A n c, .int .i64 0])) w' := ⟨.inl ⟨Lib.hid h, rfl⟩, hb⟩
theorem RetFit.no {A : Option Addr} {n c : Nat} {xs : List Int} {w w' : World} (h : xs.all smallB = false) (hb : Below w.heap.size w w') : RetFit A n c xs w (.returned (.tuple #[.slice none 0 0, .int .i64 3])) w' := ⟨.inr ⟨Lib.hid h, rfl⟩, hb⟩
theorem limited_any (A : Option Addr) (n c : Nat) (xs : List Int) (w : World) (h : RdS w w.heap.size A n c xs) (hn : n ≤ 2000000) :
    Calls Try.prog 53 #[.slice A n c] w (RetFit A n c xs w) := by
  have Hl := Lib.hid h.len
  have H := Lib.hid h; clear h
  cases hp : xs.all smallB
  all_goals
    have Hp := Lib.hid hp; clear hp
    go_enter Try.func53, Try.ntmps53
    go_wp2_with fail
    refine (allI_any A n c xs _ _ _ _ H.out hn (small_cond xs _)).mono ?_
    rintro e w1 ⟨rfl, hb1⟩
    rw [all_getD xs smallB n Hl.out, Hp.out]
    go_wp2_with fail
    go_ret2
    first | exact RetFit.yes Hp.out hb1 | exact RetFit.no Hp.out hb1
theorem l18Fit_any (A : Option Addr) (n c : Nat) (xs : List Int) (w : World) (h : RdS w w.heap.size A n c xs) (h1 : 1 ≤ n) (hn : n ≤ 301) :
    Calls Try.prog 60 #[.slice A n c] w (RetFit A n c xs w) := by
  have Hl := Lib.hid h.len
  have H := Lib.hid h; clear h
  cases hp : xs.all smallB
  all_goals
    have Hp := Lib.hid hp; clear hp
    have Hs : Hid (seriesB xs = xs.all smallB) := Lib.hid (by unfold seriesB; rw [Hl.out]; simp [h1, hn])
    go_enter Try.func60, Try.ntmps60
    go_wp2_with fail
    refine (l18Is_any A n c _ xs _ H.out (by omega)).mono ?_
    rintro e w1 ⟨rfl, rfl⟩
    rw [Hs.out, Hp.out]
    go_wp2_with fail
    go_ret2
    first | exact RetFit.yes Hp.out (Below.refl _ _) | exact RetFit.no Hp.out (Below.refl _ _)
theorem one_le_cast (m : Nat) : (1 : Int) ≤ ((m + 1 : Nat) : Int) := by omega

theorem addFrom_bound (p e : Nat) (M : Int) (hp : 1 ≤ p) (hM0 : 0 ≤ M) (hM : M * ((e / p + 1 : Nat) : Int) ≤ 1000000000000) (m n : Nat) (hm : e - n = m) (hn : p ≤ n) (ys : List Int)
    (h1 : ∀ j x, j < n → ys[j]? = some x → 0 ≤ x ∧ x ≤ M * ((j / p + 1 : Nat) : Int)) (h2 : ∀ j x, n ≤ j → ys[j]? = some x → 0 ≤ x ∧ x ≤ M) :
    ∀ j x, (addFrom p e ys n)[j]? = some x → 0 ≤ x ∧ x ≤ M * ((j / p + 1 : Nat) : Int) := by
  induction m generalizing n ys with
  | zero =>
    intro j x hx
    rw [addFrom_end (by omega)] at hx
    by_cases hj : j < n
    · exact h1 j x hj hx
    · obtain ⟨h3, h4⟩ := h2 j x (by omega) hx
      refine ⟨h3, Int.le_trans h4 ?_⟩
      have := Int.mul_le_mul_of_nonneg_left (one_le_cast (j / p)) hM0
      simpa using this
  | succ m ih =>
    rw [addFrom_step (by omega)]
    have key : ∀ x y, ys[n]? = some x → ys[n - p]? = some y → wrap64 (x + y) = x + y ∧ 0 ≤ x + y ∧ x + y ≤ M * ((n / p + 1 : Nat) : Int) := by
      intro x y hx hy
      obtain ⟨a1, a2⟩ := h2 n x (Nat.le_refl _) hx
      obtain ⟨b1, b2⟩ := h1 (n - p) y (by omega) hy
      have hq : n / p = (n - p) / p + 1 := by rw [Nat.div_eq_sub_div (by omega) hn]
      have hmul : M * ((n / p + 1 : Nat) : Int) = M + M * (((n - p) / p + 1 : Nat) : Int) := by
        rw [hq]; push_cast; rw [Int.mul_add M, Int.mul_one, Int.add_comm]
      have hle : M * ((n / p + 1 : Nat) : Int) ≤ M * ((e / p + 1 : Nat) : Int) :=
        Int.mul_le_mul_of_nonneg_left (by have := Nat.div_le_div_right (c := p) (show n ≤ e by omega); omega) hM0
      refine ⟨?_, by omega, by omega⟩
      unfold wrap64; omega
    refine ih (n + 1) (by omega) (by omega) (addP p ys n) ?_ ?_
    · intro j x hj hx
      unfold addP at hx
      rw [List.getElem?_set] at hx
      split at hx
      · subst j
        split at hx
        · rename_i hlt
          simp only [Option.some.injEq] at hx
          subst hx
          have e1 : ys[n]? = some (ys.getD n 0) := by rw [List.getD_eq_getElem?_getD, List.getElem?_eq_getElem hlt]; rfl
          have e2 : ys[n - p]? = some (ys.getD (n - p) 0) := by rw [List.getD_eq_getElem?_getD, List.getElem?_eq_getElem (by omega)]; rfl
          obtain ⟨k1, k2, k3⟩ := key _ _ e1 e2
          rw [k1]; exact ⟨k2, k3⟩
        · cases hx
      · exact h1 j x (by omega) hx
    · intro j x hj hx
      unfold addP at hx
      rw [List.getElem?_set, if_neg (by omega)] at hx
      exact h2 j x (by omega) hx

theorem addFrom_le (p e : Nat) (M N : Int) (xs : List Int) (hp : 1 ≤ p) (hM0 : 0 ≤ M) (hN : M * ((e / p + 1 : Nat) : Int) ≤ N) (hN2 : N ≤ 1000000000000) (hl : xs.length = e) (h : ∀ x ∈ xs, 0 ≤ x ∧ x ≤ M) :
    ∀ x ∈ addFrom p e xs p, 0 ≤ x ∧ x ≤ N := by
  intro x hx
  obtain ⟨j, hj, rfl⟩ := List.getElem_of_mem hx
  have hj' : j < e := by rw [addFrom_length] at hj; omega
  have hall : ∀ j x, xs[j]? = some x → 0 ≤ x ∧ x ≤ M := fun j x hx => h x (List.mem_of_getElem? hx)
  obtain ⟨a, b⟩ := addFrom_bound p e M hp hM0 (by omega) _ p rfl (Nat.le_refl _) xs (fun j x _ hx => by
    obtain ⟨h3, h4⟩ := hall j x hx
    refine ⟨h3, Int.le_trans h4 ?_⟩
    have := Int.mul_le_mul_of_nonneg_left (one_le_cast (j / p)) hM0
    simpa using this) (fun j x _ hx => hall j x hx) j _ (List.getElem?_eq_getElem hj)
  refine ⟨a, Int.le_trans b (Int.le_trans ?_ hN)⟩
  exact Int.mul_le_mul_of_nonneg_left (by have := Nat.div_le_div_right (c := p) (show j ≤ e by omega); omega) hM0

/-- from the part p on, a list whose numbers are at most M stays small -/
def StaysSmall (d p : Nat) (M : Int) : Prop := ∀ (f : Nat) (xs : List Int), xs.length = d + 1 → (∀ x ∈ xs, 0 ≤ x ∧ x ≤ M) → ∀ x ∈ cpAll f d p xs, 0 ≤ x ∧ x ≤ 1000000000000
theorem staysSmall_end {d p : Nat} (h : d < p) : StaysSmall d p 1000000000000 := fun f xs _ hx => by rw [cpAll_end (by omega)]; exact hx
theorem staysSmall_step {d p : Nat} {M N : Int} (hd : d ≤ 300) (hp : 1 ≤ p) (hM0 : 0 ≤ M) (hM : M ≤ 1000000000000) (hN : M * ((301 / p + 1 : Nat) : Int) ≤ N) (hN2 : N ≤ 1000000000000) (h : StaysSmall d (2 * p + 1) N) : StaysSmall d p M := by
  intro f xs hl hx
  cases f with
  | zero => exact fun x h => ⟨(hx x h).1, Int.le_trans (hx x h).2 hM⟩
  | succ f =>
    by_cases hpd : p ≤ d
    · rw [cpAll_step hpd]
      refine h f _ (by rw [addFrom_length]; exact hl) (addFrom_le p (d + 1) M N xs hp hM0 (Int.le_trans ?_ hN) hN2 hl hx)
      refine Int.mul_le_mul_of_nonneg_left ?_ hM0
      have := Nat.div_le_div_right (c := p) (show d + 1 ≤ 301 by omega)
      exact Int.ofNat_le.2 (Nat.succ_le_succ this)
    · rw [cpAll_end hpd]
      exact fun x h => ⟨(hx x h).1, Int.le_trans (hx x h).2 hM⟩
theorem staysSmall_one {d : Nat} (hd : d ≤ 300) : StaysSmall d 1 1 :=
  staysSmall_step (N := 302) hd (by omega) (by omega) (by omega) (by decide) (by omega) <|
  staysSmall_step (N := 30502) hd (by omega) (by omega) (by omega) (by decide) (by omega) <|
  staysSmall_step (N := 1342088) hd (by omega) (by omega) (by omega) (by decide) (by omega) <|
  staysSmall_step (N := 28183848) hd (by omega) (by omega) (by omega) (by decide) (by omega) <|
  staysSmall_step (N := 281838480) hd (by omega) (by omega) (by omega) (by decide) (by omega) <|
  staysSmall_step (N := 1409192400) hd (by omega) (by omega) (by omega) (by decide) (by omega) <|
  staysSmall_step (N := 4227577200) hd (by omega) (by omega) (by omega) (by decide) (by omega) <|
  staysSmall_step (N := 1000000000000) hd (by omega) (by omega) (by omega) (by decide) (by omega) <|
  staysSmall_end (by omega)

theorem countL_small (d : Nat) (hd : d ≤ 300) : (countL d).all smallB = true := by
  have H : ∀ x ∈ countL d, 0 ≤ x ∧ x ≤ 1000000000000 := by
    refine staysSmall_one hd _ _ (oneL_length _) fun x hx => ?_
    unfold oneL at hx
    rcases List.mem_or_eq_of_mem_set hx with h | rfl
    · have := List.eq_of_mem_replicate h; omega
    · omega
  rw [List.all_eq_true]
  exact fun x hx => inB_iff.2 ⟨by have := (H x hx).1; omega, (H x hx).2⟩

def algL (d : Int) : List Int := if inB d 0 300 = true then countL d.toNat else []
def algC (d : Int) : Int := if inB d 0 300 = true then 0 else 2
def algN (d : Int) : Nat := if inB d 0 300 = true then d.toNat + 1 else 0

theorem isPlaces_any (d : Int) (w : World) : Calls Try.prog 52 #[.int .i64 d] w (RetP (inB d 0 300) w) := by
  go_enter Try.func52, Try.ntmps52
  go_wp2_with fail
  refine (in_any _ _ _ _).mono ?_
  rintro e w' ⟨rfl, rfl⟩
  go_wp2_with fail
  go_ret
  exact RetP.mk rfl

theorem sSeriesOfAlgebra (d : Int) (w : World) : Calls Try.prog 19 #[.int .i64 d] w (RetSC (algN d) (algL d) (algC d) w) := by
  cases hp : inB d 0 300
  · have Hp := Lib.hid hp; clear hp
    go_enter Try.func19, Try.ntmps19
    go_wp2_with fail
    refine (l01In_any _ _ _ _).mono ?_
    rintro e w' ⟨rfl, rfl⟩
    rw [Hp.out]
    go_wp2_with fail
    go_ret2
    refine RetSC.mk (k' := 2) (by simp [algC, Hp.out]) (by simp [algN, Hp.out]) OwnS.nil (by simp [algL, Hp.out]) (Below.refl _ _)
  · have hd := inB_iff.1 hp
    obtain ⟨d, rfl⟩ := Int.eq_ofNat_of_zero_le hd.1
    have Hp := Lib.hid hp; clear hp
    go_enter Try.func19, Try.ntmps19
    go_wp2_with fail
    refine (l01In_any _ _ _ _).mono ?_
    rintro e w' ⟨rfl, rfl⟩
    rw [Hp.out]
    go_wp2_with fail
    refine (l01Count_any d _ (by omega)).mono ?_
    rintro e w1 ⟨A, c, rfl, ho, hb⟩
    go_wp2_with fail
    go_ret2
    refine RetSC.mk (k' := 0) (by simp [algC, Hp.out]) (by simp [algN, Hp.out]) ho (by simp [algL, Hp.out]) hb

theorem iSeriesOfAlgebra (d : Int) (w : World) : Calls Try.prog 20 #[.int .i64 d] w (RetSC (algN d) (algL d) (algC d) w) := by
  cases hp : inB d 0 300
  · have Hp := Lib.hid hp; clear hp
    go_enter Try.func20, Try.ntmps20
    go_wp2_with fail
    refine (isPlaces_any _ _).mono ?_
    rintro e w' ⟨rfl, rfl⟩
    rw [Hp.out]
    go_wp2_with fail
    go_ret2
    refine RetSC.mk (k' := 2) (by simp [algC, Hp.out]) (by simp [algN, Hp.out]) OwnS.nil (by simp [algL, Hp.out]) (Below.refl _ _)
  · have hd := inB_iff.1 hp
    obtain ⟨d, rfl⟩ := Int.eq_ofNat_of_zero_le hd.1
    have Hp := Lib.hid hp; clear hp
    have Hs := Lib.hid (countL_small d (by omega))
    go_enter Try.func20, Try.ntmps20
    go_wp2_with fail
    refine (isPlaces_any _ _).mono ?_
    rintro e w' ⟨rfl, rfl⟩
    rw [Hp.out]
    go_wp2_with fail
    refine (countPartitions_any d _ (by omega)).mono ?_
    rintro e w1 ⟨A, c, rfl, ho, hb⟩
    have HO := Lib.hid ho; clear ho
    have HB := Lib.hid hb; clear hb
    go_wp2_with fail
    refine (limited_any A (d + 1) c _ _ HO.out.rd (by omega)).mono ?_
    rintro e w2 ⟨⟨_, rfl⟩ | ⟨hn, _⟩, hb2⟩
    · have HO2 := Lib.hid (HO.out.below hb2)
      have HB2 := Lib.hid (HB.out.trans (hb2.mono HB.out.size)); clear hb2
      go_wp2_with fail
      go_ret2
      refine RetSC.mk (k' := 0) (by simp [algC, Hp.out]) (by simp [algN, Hp.out]) HO2.out (by simp [algL, Hp.out]) HB2.out
    · have h3 := hn.out
      rw [Hs.out] at h3
      cases h3

theorem SeriesOfAlgebra_both (d : Int) (_wf : (Lit.int .i64 d).wf = true) : ∃ (n : Nat) (xs : List Int) (k : Int), n ≤ 1000000 ∧ (∀ w, Calls Try.prog 19 #[.int .i64 d] w (RetSC n xs k w)) ∧
    (∀ w, Calls Try.prog 20 #[.int .i64 d] w (RetSC n xs k w)) :=
  ⟨algN d, algL d, algC d, by
    unfold algN
    split
    · rename_i h; have := inB_iff.1 h; omega
    · omega, sSeriesOfAlgebra d, iSeriesOfAlgebra d⟩
end Go.Proofs.Ytgoefodemjelaaa
