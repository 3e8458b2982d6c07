/- Admissible words of the lambda algebra: lambdaWords (program) and l16Words (reference). -/
import Derived.Test.YtoodhbafleemjaaGreatLL
import Derived.Test.YtoodhbafleemjaaGreatShift
namespace Go.Proofs.YtoodhbafleemjaaGreat
open Go.RowKit
set_option linter.unusedVariables false

/-- the admissible words of s numbers with the sum n whose first number is at most m -/
def lw : Nat → Nat → Nat → List (List Int)
  | 0, n, _ => if n = 0 then [[]] else []
  | s + 1, n, m => (List.range (min n m + 1)).flatMap (fun i => (lw s (n - i) (2 * i)).map (fun r => (i : Int) :: r))
theorem flatMap_range_length (f : Nat → List (List Int)) (b k : Nat) (h : ∀ i, i < k → (f i).length ≤ b) : ((List.range k).flatMap f).length ≤ k * b := by
  induction k with
  | zero => simp
  | succ k ih =>
    rw [List.range_succ, List.flatMap_append, List.length_append, Nat.succ_mul]
    have h1 := ih (fun i hi => h i (by omega))
    have h2 := h k (by omega)
    have h3 : (List.flatMap f [k]).length = (f k).length := by simp
    omega
theorem lw_length (s n m : Nat) (hn : n ≤ 11) : (lw s n m).length ≤ 12 ^ s := by
  induction s generalizing n m with
  | zero => unfold lw; split <;> simp
  | succ s ih =>
    unfold lw
    refine Nat.le_trans (flatMap_range_length _ (12 ^ s) _ (fun i _ => ?_)) ?_
    · rw [List.length_map]; exact ih (n - i) (2 * i) (by omega)
    · rw [Nat.pow_succ, Nat.mul_comm]; exact Nat.mul_le_mul_left _ (by omega)
theorem lw_each (s n m : Nat) : ∀ r ∈ lw s n m, r.length = s := by
  induction s generalizing n m with
  | zero => intro r hr; unfold lw at hr; split at hr <;> simp_all
  | succ s ih =>
    intro r hr
    unfold lw at hr
    rw [List.mem_flatMap] at hr
    obtain ⟨i, _, hr⟩ := hr
    rw [List.mem_map] at hr
    obtain ⟨r', hr', rfl⟩ := hr
    simp [ih _ _ r' hr']
theorem totalL_le (xss : List (List Int)) (b : Nat) (h : ∀ r ∈ xss, r.length ≤ b) : totalL xss ≤ xss.length * b := by
  induction xss with
  | nil => simp [totalL]
  | cons x r ih =>
    have h1 := ih (fun r hr => h r (List.mem_cons_of_mem _ hr))
    have h2 := h x (List.mem_cons_self ..)
    have h3 : totalL (x :: r) = x.length + totalL r := by simp [totalL]
    rw [h3, List.length_cons, Nat.succ_mul]; omega
theorem lw_bound (s n m : Nat) (hs : s ≤ 7) (hn : n ≤ 11) : (lw s n m).length ≤ 35831808 :=
  Nat.le_trans (lw_length s n m hn) (Nat.le_trans (Nat.pow_le_pow_right (by omega) hs) (by decide))
theorem lw_total (s n m : Nat) (hs : s ≤ 7) (hn : n ≤ 11) : totalL (lw s n m) ≤ 1000000000 := by
  refine Nat.le_trans (totalL_le _ 7 (fun r hr => by rw [lw_each s n m r hr]; exact hs)) ?_
  have := lw_bound s n m hs hn
  omega
/-- a bound at least n changes nothing -/
theorem lw_wide (s n m : Nat) (h : n ≤ m) : lw s n m = lw s n n := by
  cases s with
  | zero => rfl
  | succ s => unfold lw; rw [Nat.min_eq_left h, Nat.min_self]

theorem own_one (w : World) (x : Int) (K : Nat) (hK : K ≤ w.heap.size) : OwnS (w.alloc (.cells #[.int .i64 x] 2)) K (some ⟨w.heap.size, 0, none⟩) 1 1 [x] :=
  ⟨rfl, rfl, .inr ⟨w.heap.size, 1, #[.int .i64 x], rfl, hK, heap_alloc_new w _, Nat.le_refl _, by unfold maxLen; omega, rfl, rfl⟩⟩
theorem rdV_new (w : World) (v : Value) (E : TypeId) : RdV (w.alloc (.cells #[v] E)) (w.heap.size + 1) (some ⟨w.heap.size, 0, none⟩) 1 1 [v] :=
  ⟨rfl, Nat.le_refl _, fun j hj => ⟨_, rfl, Nat.lt_succ_self _, by
    have : j = 0 := by simpa using hj
    subst this
    simp [Addr.add]⟩⟩
/-- a new slice of one owned list -/
theorem ownL_one {w : World} {B A n c xs} (h : OwnS w B A n c xs) (hB : B ≤ w.heap.size) : OwnL (w.alloc (.cells #[.slice A n c] 41)) B w.heap.size (some ⟨w.heap.size, 0, none⟩) 1 1 [xs] :=
  ⟨rfl, [.slice A n c], ⟨rfl, rfl, .inr ⟨w.heap.size, 1, #[.slice A n c], rfl, hB, heap_alloc_new w _, Nat.le_refl _, by unfold maxLen; omega, rfl, rfl⟩⟩,
    fun j v ys hv hy => by
      have hj : j = 0 := by have := (List.getElem?_eq_some_iff.1 hv).1; simpa using this
      subst hj
      simp only [List.getElem?_cons_zero, Option.some.injEq] at hv hy
      subst hv; subst hy
      exact ⟨A, n, c, rfl, h.alloc _, fun g hg => (h.own.lt g hg).2⟩,
    fun i j u v g hij hu hv => by
      have h1 := (List.getElem?_eq_some_iff.1 hu).1
      have h2 := (List.getElem?_eq_some_iff.1 hv).1
      simp at h1 h2; omega⟩

theorem lw_round {s n i : Nat} {acc : List (List Int)} (h : acc = (List.range i).flatMap (fun i => (lw s (n - i) (2 * i)).map (fun r => (i : Int) :: r))) :
    acc ++ (lw s (n - i) (2 * i)).map (fun r => (i : Int) :: r) = (List.range (i + 1)).flatMap (fun i => (lw s (n - i) (2 * i)).map (fun r => (i : Int) :: r)) := by
  rw [h, List.range_succ, List.flatMap_append]; simp

/-- What l16Words hands back: the lists with the words behind them; only the lists' own row may have been written. -/
def RetW (B l r : Nat) (A : Option Addr) (c : Nat) (xss : List (List Int)) (w : World) (e : Ending) (w' : World) : Prop :=
  ∃ A' c', e = .returned (.slice A' (l + r) c') ∧ OwnL w' B w'.heap.size A' (l + r) c' xss ∧ w.grownBy w' (Value.ownBlock (.slice A l c)) ∧
    Hid (∀ g, Value.ownBlock (.slice A' (l + r) c') = some g → Value.ownBlock (.slice A l c) = some g ∨ w.heap.size ≤ g)

end Go.Proofs.YtoodhbafleemjaaGreat
