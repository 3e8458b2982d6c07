/- Faults of unstable modules: plain; spec.l12Vector, l12Mask, l12Act. -/
import Derived.Test.YtejojliljplcdaaGreatDoorModF
namespace Go.Proofs.YtejojliljplcdaaGreatDoor
open Go.RowKit
set_option linter.unusedVariables false

theorem xorN_pick (f : Nat → Nat) (v : Nat) : ∀ n : Nat, xorN n (pickF (2 ^ v) f) = if v < n then f v else 0
  | 0 => rfl
  | n + 1 => by
    show xorN n (pickF (2 ^ v) f) ^^^ pickF (2 ^ v) f n = _
    rw [xorN_pick f v n]
    by_cases e : n = v
    · subst e
      rw [pickF_yes (by rw [Nat.testBit_two_pow_self]), if_neg (by omega), if_pos (by omega), Nat.zero_xor]
    · rw [pickF_no (by rw [Nat.testBit_two_pow, decide_eq_false (fun h => e h.symm)]; simp), Nat.xor_zero]
      by_cases h : v < n
      · rw [if_pos h, if_pos (by omega)]
      · rw [if_neg h, if_neg (by omega)]
theorem TriF.row {ds : List Int} {T : List Tri} (h : TriF ds T) {i v : Nat} (hv : v < ds.length) : spA T i (2 ^ v) = rowF T i v := by
  rw [← h.sq (two_pow_lt hv)]
  unfold sqF
  rw [xorN_pick, if_pos hv]

/-- a place at which a module is not unstable -/
def ufX (ds : List Int) (T : List Tri) (i v : Nat) : Prop := ds[v]?.getD 0 < (i : Int) ∧ spA T i (2 ^ v) ≠ 0
/-- the first place at which a module is not unstable, or none -/
def UF (ds : List Int) (T : List Tri) (xs : List Int) : Prop :=
  (xs = [] ∧ ∀ i v : Nat, 1 ≤ i → i ≤ 20 → v < ds.length → ¬ ufX ds T i v) ∨
  ∃ i v : Nat, xs = [(i : Int), (v : Int)] ∧ 1 ≤ i ∧ i ≤ 20 ∧ v < ds.length ∧ ufX ds T i v ∧ ∀ i' v' : Nat, 1 ≤ i' → i' ≤ 20 → v' < ds.length → (i' < i ∨ i' = i ∧ v' < v) → ¬ ufX ds T i' v'
theorem UF.unique {ds : List Int} {T : List Tri} {xs ys : List Int} (h : UF ds T xs) (k : UF ds T ys) : xs = ys := by
  rcases h with ⟨rfl, h⟩ | ⟨i, v, rfl, h1, h2, h3, h4, h5⟩
  · rcases k with ⟨rfl, _⟩ | ⟨j, u, rfl, k1, k2, k3, k4, k5⟩
    · rfl
    · exact absurd k4 (h j u k1 k2 k3)
  · rcases k with ⟨rfl, k⟩ | ⟨j, u, rfl, k1, k2, k3, k4, k5⟩
    · exact absurd h4 (k i v h1 h2 h3)
    · have e : i = j ∧ v = u := by
        by_cases a : i < j ∨ i = j ∧ v < u
        · exact absurd h4 (k5 i v h1 h2 h3 a)
        · by_cases b : j < i ∨ j = i ∧ u < v
          · exact absurd k4 (h5 j u k1 k2 k3 b)
          · omega
      rw [e.1, e.2]
open Classical in
noncomputable def ufL (ds : List Int) (T : List Tri) : List Int := if h : ∃ xs, UF ds T xs then Classical.choose h else []
theorem UF.eq {ds : List Int} {T : List Tri} {xs : List Int} (h : UF ds T xs) : ufL ds T = xs := by
  have hx : ∃ xs, UF ds T xs := ⟨xs, h⟩
  unfold ufL
  rw [dif_pos hx]
  exact UF.unique (Classical.choose_spec hx) h
/-- no such place ahead of a place -/
def nu (ds : List Int) (T : List Tri) (i v : Nat) : Prop := ∀ i' v' : Nat, 1 ≤ i' → i' ≤ 20 → v' < ds.length → (i' < i ∨ i' = i ∧ v' < v) → ¬ ufX ds T i' v'
section
variable {ds : List Int} {T : List Tri} {i v : Nat}
theorem nu.start : nu ds T 1 0 := fun i' v' h1 h2 h3 h4 => by omega
theorem nu.step (h : nu ds T i v) (hb : ¬ ufX ds T i v) : nu ds T i (v + 1) := fun i' v' h1 h2 h3 h4 => by
  by_cases e : i' = i ∧ v' = v
  · obtain ⟨rfl, rfl⟩ := e; exact hb
  · exact h i' v' h1 h2 h3 (by omega)
theorem nu.next {n : Nat} (h : nu ds T i n) (hn : ds.length = n) : nu ds T (i + 1) 0 := fun i' v' h1 h2 h3 h4 => h i' v' h1 h2 h3 (by omega)
theorem nu.all (h : nu ds T 21 0) : ufL ds T = [] := UF.eq (.inl ⟨rfl, fun i v h1 h2 h3 => h i v h1 h2 h3 (by omega)⟩)
theorem nu.hit {n : Nat} (h : nu ds T i v) (h1 : 1 ≤ i) (h2 : i ≤ 20) (hn : ds.length = n) (h3 : v < n) (hb : ufX ds T i v) : ufL ds T = [(i : Int), (v : Int)] := UF.eq (.inr ⟨i, v, rfl, h1, h2, by omega, hb, h⟩)
end

/-- the list xs, nil if it is empty -/
def RetU (xs : List Int) (w : World) (e : Ending) (w' : World) : Prop := ∃ A c, e = .returned (.slice A xs.length c) ∧ OwnS w' w.heap.size A xs.length c xs ∧ A.isNone = xs.isEmpty ∧ Below w.heap.size w w'

theorem or_two {m i : Nat} : (m % 2 ^ i) ||| (if m.testBit i = true then 2 ^ i else 0) = m % 2 ^ (i + 1) := by
  apply Nat.eq_of_testBit_eq
  intro j
  rw [Nat.testBit_or, Nat.testBit_mod_two_pow, Nat.testBit_mod_two_pow]
  by_cases e : j = i
  · subst e
    cases m.testBit j <;> simp
  · have h2 : (if m.testBit i = true then 2 ^ i else 0).testBit j = false := by
      split
      · rw [Nat.testBit_two_pow, decide_eq_false (fun h => e h.symm)]
      · simp
    rw [h2, Bool.or_false]
    congr 1
    rw [decide_eq_decide]
    omega

set_option maxHeartbeats 2000000 in
theorem vector12_any (x n : Nat) (w : World) (hx : x < 65536) (hn : n ≤ 16) : Calls Tryz.prog 60 #[.int .i64 (x : Nat), .int .i64 (n : Nat)] w (RetO n (vecF x n) w) := by
  obtain ⟨R, hR⟩ : ∃ R, R = RetO n (vecF x n) w := ⟨_, rfl⟩
  have HR := Lib.hid hR
  rw [← hR]
  clear hR
  have S0 := Lib.hid (StS.start (Below.refl w.heap.size w) (Nat.le_refl _))
  go_enter Tryz.func60, Tryz.ntmps60
  go_wp2_with fail
  go_loopw [5, 6] (fun v i wr => ∃ (k c : Nat) (A : Option Addr), k ≤ n ∧ i = .int .i64 k ∧ v = .slice A k c ∧ Hid (StS w w.heap.size wr A k c (vecF x k))) (fun _ i _ => n - (intOf i).toNat)
  case atStart => exact ⟨0, 0, _, Nat.zero_le _, rfl, rfl, S0⟩
  case round =>
    clear S0
    obtain ⟨k, c, A, hk, rfl, rfl, HS⟩ := hrel
    by_cases hlt : k < n
    · have hlt' : (k : Int) < (n : Int) := by omega
      have hbit := bit_at (x := x) (i := k) (by omega)
      have hb2 : (if x.testBit k = true then (1 : Int) else 0) = bitV x k := rfl
      rw [hb2] at hbit
      have hk64 : (k : Int) < 64 := by omega
      have hk0 : (0 : Int) ≤ (k : Int) := by omega
      go_wp2_with (at_builtin; refine wpList_pushI rfl (.tmp 13) (.tmp 19) rfl rfl rfl HS.out (by omega) ?_)
      intro A6 c6 w6 hs6 _
      rw [vecF_snoc] at hs6
      have HS6 := Lib.hid hs6
      clear hs6
      go_wp2_with fail
      go_roundw
      case rel => exact ⟨k + 1, c6, A6, by omega, by go_num, rfl, HS6⟩
      case measure => simp [intOf]; omega
    · obtain rfl : k = n := by omega
      go_wp2_with fail
      rw [HR.out]
      exact HS.out.ret

theorem or_small {u p : Nat} (hu : u < 65536) (hp : p < 131072) : bits .or .i64 (u : Int) (p : Int) = ((u ||| p : Nat) : Int) := bits_orN (by omega) (by omega)
set_option maxHeartbeats 2000000 in
theorem mask12_any (m n : Nat) (A : Option Addr) (c B : Nat) (w : World) (h : RdS w B A n c (vecF m n)) (hm : m < 2 ^ n) (hn : n ≤ 16) : Calls Tryz.prog 69 #[.slice A n c] w (RetI (m : Nat) w) := by
  obtain ⟨R, hR⟩ : ∃ R, R = RetI ((m : Nat) : Int) w := ⟨_, rfl⟩
  have HR := Lib.hid hR
  rw [← hR]
  clear hR
  have H := Lib.hid h
  clear h
  have hM := Lib.hid hm
  clear hm
  go_enter Tryz.func69, Tryz.ntmps69
  go_wp2_with fail
  go_loop [3, 4] (fun v i => ∃ (k u : Nat), k ≤ n ∧ i = .int .i64 k ∧ v = .int .i64 u ∧ Hid (u = m % 2 ^ k)) (fun _ i => n - (intOf i).toNat)
  case atStart => exact ⟨0, 0, Nat.zero_le _, rfl, rfl, Lib.hid (by simp [Nat.mod_one])⟩
  case round =>
    obtain ⟨k, u, hk, rfl, rfl, HU⟩ := hrel
    by_cases hlt : k < n
    · obtain ⟨ad, y, rfl, _, hy, hcy⟩ := H.out.at_ hlt
      have hy' : y = bitV m k := by have := hy.out; rw [vecF_at hlt] at this; exact (Option.some.inj this).symm
      have hlt' : (k : Int) < (n : Int) := by omega
      have hk64 : (k : Int) < 64 := by omega
      have hk0 : (0 : Int) ≤ (k : Int) := by omega
      have hu : u < 65536 := by
        have h1 : m % 2 ^ k < 2 ^ k := Nat.mod_lt _ (Nat.two_pow_pos k)
        have h2 : (2 : Nat) ^ k ≤ 2 ^ 16 := Nat.pow_le_pow_right (by decide) (by omega)
        have e : (2 : Nat) ^ 16 = 65536 := by decide
        have := HU.out
        omega
      obtain ⟨p, hp⟩ : ∃ p : Nat, p = 2 ^ k := ⟨_, rfl⟩
      have hpb : p < 131072 := by
        have h2 : (2 : Nat) ^ k ≤ 2 ^ 16 := Nat.pow_le_pow_right (by decide) (by omega)
        have e : (2 : Nat) ^ 16 = 65536 := by decide
        rw [e, ← hp] at h2
        omega
      have hpi : (2 : Int) ^ k = (p : Int) := by rw [hp]; push_cast; rfl
      have hw2 : wrap64 ((2 : Int) ^ k) = (p : Int) := by rw [hp]; exact wrap_two (by omega)
      have hb0 : bits .or .i64 (u : Int) (p : Int) = ((u ||| p : Nat) : Int) := or_small hu hpb
      have hb1 : bits .or .i64 (u : Int) 0 = (u : Int) := by have := or_small (p := 0) hu (by decide); simpa using this
      have hb2 : bits .or .i64 (u : Int) (wrap64 ((2 : Int) ^ k)) = ((u ||| p : Nat) : Int) := by rw [hw2]; exact hb0
      have hb3 : bits .or .i64 (u : Int) ((2 : Int) ^ k) = ((u ||| p : Nat) : Int) := by rw [hpi]; exact hb0
      have hor := or_two (m := m) (i := k)
      rw [← HU.out, ← hp] at hor
      clear hp hpb hpi
      clear hy HU
      by_cases hbit : m.testBit k = true
      · rw [if_pos hbit] at hor
        rw [bitV_yes hbit] at hy'
        subst hy'
        have HU2 := Lib.hid hor
        obtain ⟨u2, hu2⟩ : ∃ u2, u2 = u ||| p := ⟨_, rfl⟩
        rw [← hu2] at HU2 hb0 hb2 hb3
        clear hor hu2 hbit
        go_wp2_with fail
        go_round
        case rel => exact ⟨k + 1, u2, by omega, by go_num, by first | rfl | rw [hb3] | rw [hb2] | rw [hb0], HU2⟩
        case measure => simp [intOf]; omega
      · rw [if_neg hbit, Nat.or_zero] at hor
        rw [bitV_no hbit] at hy'
        subst hy'
        have HU2 := Lib.hid hor
        clear hor hbit
        go_wp2_with fail
        go_round
        case rel => exact ⟨k + 1, u, by omega, by go_num, by first | rfl | rw [hb1], HU2⟩
        case measure => simp [intOf]; omega
    · obtain rfl : k = n := by omega
      go_wp2_with fail
      rw [HR.out]
      exact RetI.mk (y := (u : Int)) (by rw [HU.out, Nat.mod_eq_of_lt hM.out])
end Go.Proofs.YtejojliljplcdaaGreatDoor

/- spec.l12Act. -/
namespace Go.Proofs.YtejojliljplcdaaGreatDoor
open Go.RowKit
set_option linter.unusedVariables false

set_option maxRecDepth 100000 in
set_option maxHeartbeats 2000000 in
theorem act12_any (A1 A2 : Option Addr) (n1 c1 n2 c2 k x : Nat) (ds : List Int) (act : List (List Int)) (w : World) (h : RdMod w A1 n1 c1 ds A2 n2 c2 act) (ht : TabF ds act) (hn2 : n2 ≤ 2000000) (hx : x < 2 ^ n1) :
    Calls Tryz.prog 37 #[.agg #[.slice A1 n1 c1, .slice A2 n2 c2], .int .i64 (k : Nat), .int .i64 (x : Nat)] w (RetIb (spA (act.map toT) k x : Nat) w) := by
  obtain ⟨w0, b, hw0, hbe, hb0, hz0', hF⟩ := start1 w (.slice A1 n1 c1) (.slice A2 n2 c2) 27
  have hn : n1 ≤ 16 := by rw [← h.ds.len]; exact ht.len
  have hl : ds.length = n1 := h.ds.len
  have hx6 : x < 65536 := by
    have h2 : (2 : Nat) ^ n1 ≤ 2 ^ 16 := Nat.pow_le_pow_right (by decide) hn
    have e : (2 : Nat) ^ 16 = 65536 := by decide
    rw [e] at h2
    exact Nat.lt_of_lt_of_le hx h2
  have HA := Lib.hid (show spA (act.map toT) k x < 2 ^ n1 from by rw [← hl] at hx ⊢; exact ht.tri.spA_lt hx)
  have H := Lib.hid (h.below hb0)
  have HT := Lib.hid ht
  have Hw := Lib.hid hw0
  have Hbe := Lib.hid hbe
  have Hb0 := Lib.hid hb0
  have F0 := Lib.hid hF
  have HB0 := Lib.hid (show b < w0.heap.size from by rw [hz0']; omega)
  have k0 := F0.out.at_ (b := b) (o := 0) (V := .slice A1 n1 c1) (by simp)
  have k1 := F0.out.at_ (b := b) (o := 1) (V := .slice A2 n2 c2) (by simp)
  obtain ⟨y, hy⟩ : ∃ y, y = spA (act.map toT) k x := ⟨_, rfl⟩
  have HY := Lib.hid hy
  rw [← hy] at HA ⊢
  obtain ⟨R, hR⟩ : ∃ R, R = RetIb ((y : Nat) : Int) w := ⟨_, rfl⟩
  have HR := Lib.hid hR
  rw [← hR]
  clear h ht hw0 hbe hb0 hF hR hz0' hx hl hy
  have C1 := Lib.hid (vector12_any x n1 (w0.drewN 1) hx6 hn)
  go_enter Tryz.func37, Tryz.ntmps37
  go_wp2_with fail
  rw [← Hw.out, ← Hbe.out]
  go_wp2_with fail
  go_region_held3 (fun w' => w'.cell? ⟨b, 0, none⟩ = some (.slice A1 n1 c1) ∧ w'.cell? ⟨b, 1, none⟩ = some (.slice A2 n2 c2)) (first | exact ⟨k0, k1⟩ | exact ⟨ka0, ka1⟩ | exact ⟨kb0, kb1⟩ | exact ⟨kc0, kc1⟩)
    (first
      | (go_at_call 60
         refine C1.out.mono ?_
         rintro e w3 ⟨A7, c7, rfl, ho7, hb7⟩
         have E7 := Lib.hid (show Ext w0 w3 from Ext.trans (below_drewN (Ext.refl w0) 1) hb7)
         have ka0 := (F0.out.below E7.out).at_ (b := b) (o := 0) (V := .slice A1 n1 c1) (by simp)
         have ka1 := (F0.out.below E7.out).at_ (b := b) (o := 1) (V := .slice A2 n2 c2) (by simp)
         have H7 := Lib.hid ho7.rd
         clear ho7 hb7)
      | (go_at_call 76
         have C2 := act11_any A1 A2 A7 n1 c1 n2 c2 c7 k x ds act w3 (H.out.below E7.out) HT.out hn2 H7.out
         rw [← HY.out] at C2
         refine C2.mono ?_
         rintro e w4 ⟨A8, c8, rfl, ho8, hb8⟩
         have E8 := Lib.hid (Ext.trans E7.out hb8)
         have kb0 := (F0.out.below E8.out).at_ (b := b) (o := 0) (V := .slice A1 n1 c1) (by simp)
         have kb1 := (F0.out.below E8.out).at_ (b := b) (o := 1) (V := .slice A2 n2 c2) (by simp)
         have H8 := Lib.hid ho8.rd
         clear ho8 hb8 C2)
      | (go_at_call 69
         refine (mask12_any y n1 A8 c8 _ w4 H8.out HA.out hn).mono ?_
         rintro e w5 ⟨rfl, h5⟩
         rw [h5]
         clear h5))
  go_wp2_with fail
  rw [HR.out]
  exact ⟨rfl, Hb0.out.trans (E8.out.mono Hb0.out.size)⟩
end Go.Proofs.YtejojliljplcdaaGreatDoor

/- spec.l17Fault and impl.unstableFault. -/
namespace Go.Proofs.YtejojliljplcdaaGreatDoor
open Go.RowKit
set_option linter.unusedVariables false

theorem own_pair (w : World) (x y : Int) (K : Nat) (hK : K ≤ w.heap.size) : OwnS (w.alloc (.cells #[.int .i64 x, .int .i64 y] 2)) K (some ⟨w.heap.size, 0, none⟩) 2 2 [x, y] :=
  ⟨rfl, rfl, .inr ⟨w.heap.size, 2, _, rfl, hK, heap_alloc_new w _, Nat.le_refl _, by unfold maxLen; omega, rfl, rfl⟩⟩
theorem RetU.nil {xs : List Int} {w w' : World} (h : xs = []) (hb : Below w.heap.size w w') : RetU xs w (.returned (.slice none 0 0)) w' := by
  subst h; exact ⟨none, 0, rfl, OwnS.nil, rfl, hb⟩
theorem RetU.two {xs : List Int} {x y : Int} {w w1 : World} (h : xs = [x, y]) (hb : Below w.heap.size w w1) : RetU xs w (.returned (.slice (some ⟨w1.heap.size, 0, none⟩) 2 2)) (w1.alloc (.cells #[.int .i64 x, .int .i64 y] 2)) := by
  subst h; exact ⟨some ⟨w1.heap.size, 0, none⟩, 2, rfl, own_pair w1 x y _ hb.size, rfl, hb.alloc hb.size _⟩
theorem uf_no {ds : List Int} {T : List Tri} {i v : Nat} {f : Int} (hf : ds[v]?.getD 0 = f) (h : ¬ f < (i : Int)) : ¬ ufX ds T i v := fun k => h (by rw [← hf]; exact k.1)
theorem uf_no0 {ds : List Int} {T : List Tri} {i v y : Nat} (hy : y = spA T i (2 ^ v)) (h : y = 0) : ¬ ufX ds T i v := fun k => k.2 (by rw [← hy, h])
theorem uf_yes {ds : List Int} {T : List Tri} {i v y : Nat} {f : Int} (hf : ds[v]?.getD 0 = f) (h : f < (i : Int)) (hy : y = spA T i (2 ^ v)) (h0 : ¬ y = 0) : ufX ds T i v := ⟨by rw [hf]; exact h, by rw [← hy]; exact h0⟩

set_option maxRecDepth 100000 in
set_option maxHeartbeats 4000000 in
theorem fault17_any (A1 A2 : Option Addr) (n1 c1 n2 c2 : Nat) (ds : List Int) (act : List (List Int)) (w : World) (h : RdMod w A1 n1 c1 ds A2 n2 c2 act) (ht : TabF ds act) (hn2 : n2 ≤ 2000000) :
    Calls Tryz.prog 55 #[.agg #[.slice A1 n1 c1, .slice A2 n2 c2]] w (RetU (ufL ds (act.map toT)) w) := by
  obtain ⟨w0, b, hw0, hbe, hb0, hz0', hF⟩ := start1 w (.slice A1 n1 c1) (.slice A2 n2 c2) 27
  have hn : n1 ≤ 16 := by rw [← h.ds.len]; exact ht.len
  have HL1 := Lib.hid h.ds.len
  have H := Lib.hid (h.below hb0)
  have HT := Lib.hid ht
  have Hw := Lib.hid hw0
  have Hbe := Lib.hid hbe
  have Hb0 := Lib.hid hb0
  have F0 := Lib.hid hF
  obtain ⟨R, hR⟩ : ∃ R, R = RetU (ufL ds (act.map toT)) w := ⟨_, rfl⟩
  have HR := Lib.hid hR
  rw [← hR]
  clear h ht hw0 hbe hb0 hF hR hz0'
  go_enter Tryz.func55, Tryz.ntmps55
  go_wp2_with fail
  rw [← Hw.out, ← Hbe.out]
  have HX0 := Lib.hid (Below.refl w0.heap.size w0)
  go_loopw [3] (fun i wr => ∃ a : Nat, 1 ≤ a ∧ a ≤ 21 ∧ i = .int .i64 a ∧ Hid (nu ds (act.map toT) a 0) ∧ Hid (Below w0.heap.size w0 wr)) (fun i _ => 22 - (intOf i).toNat)
  case atStart => exact ⟨1, by omega, by omega, rfl, Lib.hid nu.start, HX0⟩
  case round =>
    clear HX0
    obtain ⟨a, ha1, ha2, rfl, HN, HX⟩ := hrel
    by_cases hlt : a ≤ 20
    · have hlt' : (a : Int) ≤ 20 := by omega
      go_wp2_with fail
      go_loopw [4] (fun i wr => ∃ v : Nat, v ≤ n1 ∧ i = .int .i64 v ∧ Hid (nu ds (act.map toT) a v) ∧ Hid (Below w0.heap.size w0 wr)) (fun i _ => n1 - (intOf i).toNat)
      case atStart => exact ⟨0, Nat.zero_le _, rfl, HN, HX⟩
      case round =>
        clear HN HX
        obtain ⟨v, hv, rfl, HN, HX⟩ := hrel
        have k0 := (F0.out.below HX.out).at_ (b := b) (o := 0) (V := .slice A1 n1 c1) (by simp)
        have k1 := (F0.out.below HX.out).at_ (b := b) (o := 1) (V := .slice A2 n2 c2) (by simp)
        by_cases hvn : v < n1
        · obtain ⟨adx, f, rfl, _, hf, hcf⟩ := (H.out.below HX.out).ds.at_ (k := v) hvn
          have HF := Lib.hid (show ds[v]?.getD 0 = f from by rw [hf.out]; rfl)
          have hv' : (v : Int) < (n1 : Int) := by omega
          have hv0 : (0 : Int) ≤ (v : Int) := by omega
          have hv64 : (v : Int) < 64 := by omega
          clear hf
          by_cases hgt : f < (a : Int)
          · obtain ⟨p2, hp2⟩ : ∃ p2, p2 = 2 ^ v := ⟨_, rfl⟩
            have hw2 : wrap64 ((2 : Int) ^ v) = (p2 : Int) := by rw [wrap_two (by omega), hp2]
            have C1 := Lib.hid (act12_any (some adx) A2 n1 c1 n2 c2 a p2 ds act wr (H.out.below HX.out) HT.out hn2 (by rw [hp2]; exact two_pow_lt hvn))
            obtain ⟨y, hy⟩ : ∃ y, y = spA (act.map toT) a p2 := ⟨_, rfl⟩
            rw [← hy] at C1
            have HY := Lib.hid (show y = spA (act.map toT) a (2 ^ v) from by rw [hy, hp2])
            clear hy hp2
            by_cases hy0 : y = 0
            · have HN2 := Lib.hid (HN.out.step (uf_no0 HY.out hy0))
              have hs1 : ((y : Int) == 0) = true := by simp [hy0]
              have hs2 : ((y : Int) != 0) = false := by simp [hy0]
              have hs3 : (y == 0) = true := by simp [hy0]
              clear hy0 HN HF
              go_wp2_with fail
              refine C1.out.mono ?_
              rintro e w1 ⟨rfl, hb1⟩
              have X1 := Lib.hid (HX.out.trans (hb1.mono HX.out.size))
              clear hb1
              go_wp2_with fail
              go_roundw
              case rel => exact ⟨v + 1, by omega, by go_num, HN2, X1⟩
              case measure => simp [intOf]; omega
            · have HU := Lib.hid (HN.out.hit ha1 hlt HL1.out hvn (uf_yes HF.out hgt HY.out hy0))
              have hs1 : ((y : Int) == 0) = false := by simp; omega
              have hs2 : ((y : Int) != 0) = true := by simp; omega
              have hs3 : (y == 0) = false := by simp; omega
              clear hy0 HN HF
              go_wp2_with fail
              refine C1.out.mono ?_
              rintro e w1 ⟨rfl, hb1⟩
              have X1 := Lib.hid (Hb0.out.trans ((HX.out.trans (hb1.mono HX.out.size)).mono Hb0.out.size))
              clear hb1
              go_wp2_with fail
              rw [HR.out]
              exact RetU.two HU.out X1.out
          · have HN2 := Lib.hid (HN.out.step (uf_no HF.out hgt))
            clear HN HF
            go_wp2_with fail
            go_roundw
            case rel => exact ⟨v + 1, by omega, by go_num, HN2, HX⟩
            case measure => simp [intOf]; omega
        · obtain rfl : v = n1 := by omega
          have HN2 := Lib.hid (HN.out.next HL1.out)
          clear HN hvn
          go_wp2_with fail
          go_roundw
          case rel => exact ⟨a + 1, by omega, by omega, by go_num, HN2, HX⟩
          case measure => simp [intOf]; omega
    · obtain rfl : a = 21 := by omega
      have HU := Lib.hid HN.out.all
      go_wp2_with fail
      rw [HR.out]
      exact RetU.nil HU.out (Hb0.out.trans (HX.out.mono Hb0.out.size))
end Go.Proofs.YtejojliljplcdaaGreatDoor

/- impl.unstableFault. -/
namespace Go.Proofs.YtejojliljplcdaaGreatDoor
open Go.RowKit
set_option linter.unusedVariables false

set_option maxRecDepth 100000 in
set_option maxHeartbeats 4000000 in
theorem unsFault_any (A1 A2 : Option Addr) (n1 c1 n2 c2 : Nat) (ds : List Int) (act : List (List Int)) (w : World) (h : RdMod w A1 n1 c1 ds A2 n2 c2 act) (ht : TabF ds act) (hn2 : n2 ≤ 2000000) :
    Calls Tryz.prog 54 #[.agg #[.slice A1 n1 c1, .slice A2 n2 c2]] w (RetU (ufL ds (act.map toT)) w) := by
  obtain ⟨w0, b, hw0, hbe, hb0, hz0', hF⟩ := start1 w (.slice A1 n1 c1) (.slice A2 n2 c2) 27
  have hn : n1 ≤ 16 := by rw [← h.ds.len]; exact ht.len
  have HL1 := Lib.hid h.ds.len
  have H := Lib.hid (h.below hb0)
  have HT := Lib.hid ht
  have Hw := Lib.hid hw0
  have Hbe := Lib.hid hbe
  have Hb0 := Lib.hid hb0
  have F0 := Lib.hid hF
  have HB0 := Lib.hid (show b < w0.heap.size from by rw [hz0']; omega)
  have C0 := Lib.hid (tableOf_any A1 A2 n1 c1 n2 c2 ds act w0 H.out ht hn2)
  have k0 := F0.out.at_ (b := b) (o := 0) (V := .slice A1 n1 c1) (by simp)
  have k1 := F0.out.at_ (b := b) (o := 1) (V := .slice A2 n2 c2) (by simp)
  obtain ⟨R, hR⟩ : ∃ R, R = RetU (ufL ds (act.map toT)) w := ⟨_, rfl⟩
  have HR := Lib.hid hR
  rw [← hR]
  clear h ht hw0 hbe hb0 hF hR hz0'
  go_enter Tryz.func54, Tryz.ntmps54
  go_wp2_with fail
  rw [← Hw.out, ← Hbe.out]
  go_wp2_with fail
  refine C0.out.mono ?_
  rintro e wt ⟨t, rfl, hT, hbt⟩
  have XT := Lib.hid (show Below w.heap.size w wt from Hb0.out.trans (hbt.mono Hb0.out.size))
  have FT := Lib.hid (F0.out.below hbt)
  have HD := Lib.hid (H.out.below hbt).ds
  have HTB := Lib.hid hT
  have k2 := FT.out.at_ (b := b) (o := 0) (V := .slice A1 n1 c1) (by simp)
  clear k0 k1 hbt hT C0
  go_wp2_with fail
  go_loop [4] (fun i => ∃ a : Nat, 1 ≤ a ∧ a ≤ 21 ∧ i = .int .i64 a ∧ Hid (nu ds (act.map toT) a 0)) (fun i => 22 - (intOf i).toNat)
  case atStart => exact ⟨1, by omega, by omega, rfl, Lib.hid nu.start⟩
  case round =>
    obtain ⟨a, ha1, ha2, rfl, HN⟩ := hrel
    by_cases hlt : a ≤ 20
    · have hlt' : (a : Int) ≤ 20 := by omega
      obtain ⟨g, _, hg, hrow⟩ := HTB.out.row a (by omega)
      have HRow := Lib.hid hrow
      have hga : wt.cell? (⟨t, 1 + a, none⟩ : Addr) = some (.slice (some ⟨g, 0, none⟩) n1 n1) := hg
      have ha21 : (a : Int) < 21 := by omega
      have ha0 : (0 : Int) ≤ (a : Int) := by omega
      clear hrow hg
      go_wp2_with fail
      go_loop [16] (fun i => ∃ v : Nat, v ≤ n1 ∧ i = .int .i64 v ∧ Hid (nu ds (act.map toT) a v)) (fun i => n1 - (intOf i).toNat)
      case atStart => exact ⟨0, Nat.zero_le _, rfl, HN⟩
      case round =>
        clear HN
        obtain ⟨v, hv, rfl, HN⟩ := hrel
        by_cases hvn : v < n1
        · obtain ⟨adx, f, rfl, _, hf, hcf⟩ := HD.out.at_ (k := v) hvn
          have HF := Lib.hid (show ds[v]?.getD 0 = f from by rw [hf.out]; rfl)
          obtain ⟨adr, z, had, _, hz, hcz⟩ := HRow.out.at_ (k := v) hvn
          obtain rfl : ⟨g, 0, none⟩ = adr := by simpa using had
          obtain ⟨y, hy⟩ : ∃ y, y = rowF (act.map toT) a v := ⟨_, rfl⟩
          have hzy : z = (y : Int) := by
            have := hz.out
            rw [List.getElem?_map, List.getElem?_range hvn] at this
            rw [hy]; exact (Option.some.inj this).symm
          subst hzy
          have HY := Lib.hid (show y = spA (act.map toT) a (2 ^ v) from by rw [hy]; exact (HT.out.tri.row (by rw [HL1.out]; exact hvn)).symm)
          have hcz2 : wt.cell? (⟨g, v, none⟩ : Addr) = some (.int .i64 (y : Int)) := by by_cases e : v = 0 <;> simpa [Addr.add, e] using hcz
          have hv' : (v : Int) < (n1 : Int) := by omega
          have hv0 : (0 : Int) ≤ (v : Int) := by omega
          clear hf had hz hy hcz
          by_cases hgt : f < (a : Int)
          · by_cases hy0 : y = 0
            · have HN2 := Lib.hid (HN.out.step (uf_no0 HY.out hy0))
              have hs1 : ((y : Int) == 0) = true := by simp [hy0]
              have hs2 : ((y : Int) != 0) = false := by simp [hy0]
              have hs3 : (y == 0) = true := by simp [hy0]
              clear hy0 HN HF
              go_wp2_with fail
              go_round
              case rel => exact ⟨v + 1, by omega, by go_num, HN2⟩
              case measure => simp [intOf]; omega
            · have HU := Lib.hid (HN.out.hit ha1 hlt HL1.out hvn (uf_yes HF.out hgt HY.out hy0))
              have hs1 : ((y : Int) == 0) = false := by simp; omega
              have hs2 : ((y : Int) != 0) = true := by simp; omega
              have hs3 : (y == 0) = false := by simp; omega
              clear hy0 HN HF
              go_wp2_with fail
              rw [HR.out]
              exact RetU.two HU.out XT.out
          · have HN2 := Lib.hid (HN.out.step (uf_no HF.out hgt))
            clear HN HF
            go_wp2_with fail
            go_round
            case rel => exact ⟨v + 1, by omega, by go_num, HN2⟩
            case measure => simp [intOf]; omega
        · obtain rfl : v = n1 := by omega
          have HN2 := Lib.hid (HN.out.next HL1.out)
          clear HN hvn
          go_wp2_with fail
          go_round
          case rel => exact ⟨a + 1, by omega, by omega, by go_num, HN2⟩
          case measure => simp [intOf]; omega
    · obtain rfl : a = 21 := by omega
      have HU := Lib.hid HN.out.all
      go_wp2_with fail
      rw [HR.out]
      exact RetU.nil HU.out XT.out
end Go.Proofs.YtejojliljplcdaaGreatDoor
