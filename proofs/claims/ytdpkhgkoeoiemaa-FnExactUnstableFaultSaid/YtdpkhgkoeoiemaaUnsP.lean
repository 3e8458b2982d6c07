/- Faults of unstable modules: plain; spec.l12Vector, l12Mask, l12Act. -/
import Derived.Test.YtdpkhgkoeoiemaaModF
import Derived.Test.YtdpkhgkoeoiemaaModM
namespace Go.Proofs.Ytdpkhgkoeoiemaa
open Go.RowKit
set_option linter.unusedVariables false

theorem xorN_pick (f : Nat → Nat) (v : Nat) : ∀ n : Nat, xorN n (pickF (2 ^ v) f) = if v < n then f v else 0
  | 0 => rfl
  | n + 1 => by
    show xorN n (pickF (2 ^ v) f) ^^^ pickF (2 ^ v) f n = _
    rw [xorN_pick f v n]
    by_cases e : n = v
    · subst e
      rw [pickF_yes (by rw [Nat.testBit_two_pow_self]), if_neg (by omega), if_pos (by omega), Nat.zero_xor]
    · rw [pickF_no (by rw [Nat.testBit_two_pow, decide_eq_false (fun h => e h.symm)]; simp), Nat.xor_zero]
      by_cases h : v < n
      · rw [if_pos h, if_pos (by omega)]
      · rw [if_neg h, if_neg (by omega)]
theorem TriF.row {ds : List Int} {T : List Tri} (h : TriF ds T) {i v : Nat} (hv : v < ds.length) : spA T i (2 ^ v) = rowF T i v := by
  rw [← h.sq (two_pow_lt hv)]
  unfold sqF
  rw [xorN_pick, if_pos hv]

/-- a place at which a module is not unstable -/
def ufX (ds : List Int) (T : List Tri) (i v : Nat) : Prop := ds[v]?.getD 0 < (i : Int) ∧ spA T i (2 ^ v) ≠ 0
/-- the first place at which a module is not unstable, or none -/
def UF (ds : List Int) (T : List Tri) (xs : List Int) : Prop :=
  (xs = [] ∧ ∀ i v : Nat, 1 ≤ i → i ≤ 20 → v < ds.length → ¬ ufX ds T i v) ∨
  ∃ i v : Nat, xs = [(i : Int), (v : Int)] ∧ 1 ≤ i ∧ i ≤ 20 ∧ v < ds.length ∧ ufX ds T i v ∧ ∀ i' v' : Nat, 1 ≤ i' → i' ≤ 20 → v' < ds.length → (i' < i ∨ i' = i ∧ v' < v) → ¬ ufX ds T i' v'
theorem UF.unique {ds : List Int} {T : List Tri} {xs ys : List Int} (h : UF ds T xs) (k : UF ds T ys) : xs = ys := by
  rcases h with ⟨rfl, h⟩ | ⟨i, v, rfl, h1, h2, h3, h4, h5⟩
  · rcases k with ⟨rfl, _⟩ | ⟨j, u, rfl, k1, k2, k3, k4, k5⟩
    · rfl
    · exact absurd k4 (h j u k1 k2 k3)
  · rcases k with ⟨rfl, k⟩ | ⟨j, u, rfl, k1, k2, k3, k4, k5⟩
    · exact absurd h4 (k i v h1 h2 h3)
    · have e : i = j ∧ v = u := by
        by_cases a : i < j ∨ i = j ∧ v < u
        · exact absurd h4 (k5 i v h1 h2 h3 a)
        · by_cases b : j < i ∨ j = i ∧ u < v
          · exact absurd k4 (h5 j u k1 k2 k3 b)
          · omega
      rw [e.1, e.2]
open Classical in
noncomputable def ufL (ds : List Int) (T : List Tri) : List Int := if h : ∃ xs, UF ds T xs then Classical.choose h else []
theorem UF.eq {ds : List Int} {T : List Tri} {xs : List Int} (h : UF ds T xs) : ufL ds T = xs := by
  have hx : ∃ xs, UF ds T xs := ⟨xs, h⟩
  unfold ufL
  rw [dif_pos hx]
  exact UF.unique (Classical.choose_spec hx) h
/-- no such place ahead of a place -/
def nu (ds : List Int) (T : List Tri) (i v : Nat) : Prop := ∀ i' v' : Nat, 1 ≤ i' → i' ≤ 20 → v' < ds.length → (i' < i ∨ i' = i ∧ v' < v) → ¬ ufX ds T i' v'
section
variable {ds : List Int} {T : List Tri} {i v : Nat}
theorem nu.start : nu ds T 1 0 := fun i' v' h1 h2 h3 h4 => by omega
theorem nu.step (h : nu ds T i v) (hb : ¬ ufX ds T i v) : nu ds T i (v + 1) := fun i' v' h1 h2 h3 h4 => by
  by_cases e : i' = i ∧ v' = v
  · obtain ⟨rfl, rfl⟩ := e; exact hb
  · exact h i' v' h1 h2 h3 (by omega)
theorem nu.next {n : Nat} (h : nu ds T i n) (hn : ds.length = n) : nu ds T (i + 1) 0 := fun i' v' h1 h2 h3 h4 => h i' v' h1 h2 h3 (by omega)
theorem nu.all (h : nu ds T 21 0) : ufL ds T = [] := UF.eq (.inl ⟨rfl, fun i v h1 h2 h3 => h i v h1 h2 h3 (by omega)⟩)
theorem nu.hit {n : Nat} (h : nu ds T i v) (h1 : 1 ≤ i) (h2 : i ≤ 20) (hn : ds.length = n) (h3 : v < n) (hb : ufX ds T i v) : ufL ds T = [(i : Int), (v : Int)] := UF.eq (.inr ⟨i, v, rfl, h1, h2, by omega, hb, h⟩)
end

/-- the list xs, nil if it is empty -/
def RetU (xs : List Int) (w : World) (e : Ending) (w' : World) : Prop := ∃ A c, e = .returned (.slice A xs.length c) ∧ OwnS w' w.heap.size A xs.length c xs ∧ A.isNone = xs.isEmpty ∧ Below w.heap.size w w'

theorem or_two {m i : Nat} : (m % 2 ^ i) ||| (if m.testBit i = true then 2 ^ i else 0) = m % 2 ^ (i + 1) := by
  apply Nat.eq_of_testBit_eq
  intro j
  rw [Nat.testBit_or, Nat.testBit_mod_two_pow, Nat.testBit_mod_two_pow]
  by_cases e : j = i
  · subst e
    cases m.testBit j <;> simp
  · have h2 : (if m.testBit i = true then 2 ^ i else 0).testBit j = false := by
      split
      · rw [Nat.testBit_two_pow, decide_eq_false (fun h => e h.symm)]
      · simp
    rw [h2, Bool.or_false]
    congr 1
    rw [decide_eq_decide]
    omega

set_option maxHeartbeats 2000000 in
theorem vector12_any (x n : Nat) (w : World) (hx : x < 65536) (hn : n ≤ 16) : Calls Try.prog 41 #[.int .i64 (x : Nat), .int .i64 (n : Nat)] w (RetO n (vecF x n) w) := by
  obtain ⟨R, hR⟩ : ∃ R, R = RetO n (vecF x n) w := ⟨_, rfl⟩
  have HR := Lib.hid hR
  rw [← hR]
  clear hR
  have S0 := Lib.hid (StS.start (Below.refl w.heap.size w) (Nat.le_refl _))
  go_enter Try.func41, Try.ntmps41
  go_wp2_with fail
  go_loopw [5, 6] (fun v i wr => ∃ (k c : Nat) (A : Option Addr), k ≤ n ∧ i = .int .i64 k ∧ v = .slice A k c ∧ Hid (StS w w.heap.size wr A k c (vecF x k))) (fun _ i _ => n - (intOf i).toNat)
  case atStart => exact ⟨0, 0, _, Nat.zero_le _, rfl, rfl, S0⟩
  case round =>
    clear S0
    obtain ⟨k, c, A, hk, rfl, rfl, HS⟩ := hrel
    by_cases hlt : k < n
    · have hlt' : (k : Int) < (n : Int) := by omega
      have hbit := bit_at (x := x) (i := k) (by omega)
      have hb2 : (if x.testBit k = true then (1 : Int) else 0) = bitV x k := rfl
      rw [hb2] at hbit
      have hk64 : (k : Int) < 64 := by omega
      have hk0 : (0 : Int) ≤ (k : Int) := by omega
      go_wp2_with (at_builtin; refine wpList_pushI rfl (.tmp 13) (.tmp 19) rfl rfl rfl HS.out (by omega) ?_)
      intro A6 c6 w6 hs6 _
      rw [vecF_snoc] at hs6
      have HS6 := Lib.hid hs6
      clear hs6
      go_wp2_with fail
      go_roundw
      case rel => exact ⟨k + 1, c6, A6, by omega, by go_num, rfl, HS6⟩
      case measure => simp [intOf]; omega
    · obtain rfl : k = n := by omega
      go_wp2_with fail
      rw [HR.out]
      exact HS.out.ret

theorem or_small {u p : Nat} (hu : u < 65536) (hp : p < 131072) : bits .or .i64 (u : Int) (p : Int) = ((u ||| p : Nat) : Int) := bits_orN (by omega) (by omega)
set_option maxHeartbeats 2000000 in
theorem mask12_any (m n : Nat) (A : Option Addr) (c B : Nat) (w : World) (h : RdS w B A n c (vecF m n)) (hm : m < 2 ^ n) (hn : n ≤ 16) : Calls Try.prog 39 #[.slice A n c] w (RetI (m : Nat) w) := by
  obtain ⟨R, hR⟩ : ∃ R, R = RetI ((m : Nat) : Int) w := ⟨_, rfl⟩
  have HR := Lib.hid hR
  rw [← hR]
  clear hR
  have H := Lib.hid h
  clear h
  have hM := Lib.hid hm
  clear hm
  go_enter Try.func39, Try.ntmps39
  go_wp2_with fail
  go_loop [3, 4] (fun v i => ∃ (k u : Nat), k ≤ n ∧ i = .int .i64 k ∧ v = .int .i64 u ∧ Hid (u = m % 2 ^ k)) (fun _ i => n - (intOf i).toNat)
  case atStart => exact ⟨0, 0, Nat.zero_le _, rfl, rfl, Lib.hid (by simp [Nat.mod_one])⟩
  case round =>
    obtain ⟨k, u, hk, rfl, rfl, HU⟩ := hrel
    by_cases hlt : k < n
    · obtain ⟨ad, y, rfl, _, hy, hcy⟩ := H.out.at_ hlt
      have hy' : y = bitV m k := by have := hy.out; rw [vecF_at hlt] at this; exact (Option.some.inj this).symm
      have hlt' : (k : Int) < (n : Int) := by omega
      have hk64 : (k : Int) < 64 := by omega
      have hk0 : (0 : Int) ≤ (k : Int) := by omega
      have hu : u < 65536 := by
        have h1 : m % 2 ^ k < 2 ^ k := Nat.mod_lt _ (Nat.two_pow_pos k)
        have h2 : (2 : Nat) ^ k ≤ 2 ^ 16 := Nat.pow_le_pow_right (by decide) (by omega)
        have e : (2 : Nat) ^ 16 = 65536 := by decide
        have := HU.out
        omega
      obtain ⟨p, hp⟩ : ∃ p : Nat, p = 2 ^ k := ⟨_, rfl⟩
      have hpb : p < 131072 := by
        have h2 : (2 : Nat) ^ k ≤ 2 ^ 16 := Nat.pow_le_pow_right (by decide) (by omega)
        have e : (2 : Nat) ^ 16 = 65536 := by decide
        rw [e, ← hp] at h2
        omega
      have hpi : (2 : Int) ^ k = (p : Int) := by rw [hp]; push_cast; rfl
      have hw2 : wrap64 ((2 : Int) ^ k) = (p : Int) := by rw [hp]; exact wrap_two (by omega)
      have hb0 : bits .or .i64 (u : Int) (p : Int) = ((u ||| p : Nat) : Int) := or_small hu hpb
      have hb1 : bits .or .i64 (u : Int) 0 = (u : Int) := by have := or_small (p := 0) hu (by decide); simpa using this
      have hb2 : bits .or .i64 (u : Int) (wrap64 ((2 : Int) ^ k)) = ((u ||| p : Nat) : Int) := by rw [hw2]; exact hb0
      have hb3 : bits .or .i64 (u : Int) ((2 : Int) ^ k) = ((u ||| p : Nat) : Int) := by rw [hpi]; exact hb0
      have hor := or_two (m := m) (i := k)
      rw [← HU.out, ← hp] at hor
      clear hp hpb hpi
      clear hy HU
      by_cases hbit : m.testBit k = true
      · rw [if_pos hbit] at hor
        rw [bitV_yes hbit] at hy'
        subst hy'
        have HU2 := Lib.hid hor
        obtain ⟨u2, hu2⟩ : ∃ u2, u2 = u ||| p := ⟨_, rfl⟩
        rw [← hu2] at HU2 hb0 hb2 hb3
        clear hor hu2 hbit
        go_wp2_with fail
        go_round
        case rel => exact ⟨k + 1, u2, by omega, by go_num, by first | rfl | rw [hb3] | rw [hb2] | rw [hb0], HU2⟩
        case measure => simp [intOf]; omega
      · rw [if_neg hbit, Nat.or_zero] at hor
        rw [bitV_no hbit] at hy'
        subst hy'
        have HU2 := Lib.hid hor
        clear hor hbit
        go_wp2_with fail
        go_round
        case rel => exact ⟨k + 1, u, by omega, by go_num, by first | rfl | rw [hb1], HU2⟩
        case measure => simp [intOf]; omega
    · obtain rfl : k = n := by omega
      go_wp2_with fail
      rw [HR.out]
      exact RetI.mk (y := (u : Int)) (by rw [HU.out, Nat.mod_eq_of_lt hM.out])
end Go.Proofs.Ytdpkhgkoeoiemaa
