/- math/bits.TrailingZeros64, pivot, maskOf, digitsOf, vectorOf, inDegree, isVector, acted; l12Degree, l11Vector. -/
import Derived.Test.YtejojliljplcdaaGreatDoorDblP
import Derived.Test.YtejojliljplcdaaGreatDoorTzI
import Derived.Shelf.Spec.TrailingZeros
namespace Go.Proofs.YtejojliljplcdaaGreatDoor
open Go.RowKit
set_option linter.unusedVariables false

theorem pivot_any (x : Nat) (hx : x < 9223372036854775808) (hx0 : x ≠ 0) (w : World) (hT : Deb w) : Calls Tryz.prog 64 #[.int .i64 (x : Nat)] w (RetI (Lib.ctz 64 x : Nat) w) := by
  have C := Lib.hid (tz_any x (by omega) hx0 w hT)
  have hw : IntKind.u64.wrap (x : Int) = (x : Int) := by rw [IntKind.wrap_u64]; omega
  obtain ⟨k, hkk⟩ : ∃ k, k = Lib.ctz 64 x := ⟨_, rfl⟩
  rw [← hkk] at C ⊢
  clear hkk hT
  go_enter Tryz.func64, Tryz.ntmps64
  go_wp2_with fail
  refine C.out.mono ?_
  rintro e w1 ⟨rfl, h1⟩
  rw [h1]
  go_wp2_with fail
  go_ret
  exact ⟨rfl, rfl⟩

set_option maxHeartbeats 2000000 in
theorem maskOf_any (m n : Nat) (A : Option Addr) (c B : Nat) (w : World) (h : RdS w B A n c (vecF m n)) (hm : m < 2 ^ n) (hn : n ≤ 16) : Calls Tryz.prog 63 #[.slice A n c] w (RetI (m : Nat) w) := by
  obtain ⟨R, hR⟩ : ∃ R, R = RetI ((m : Nat) : Int) w := ⟨_, rfl⟩
  have HR := Lib.hid hR
  rw [← hR]
  clear hR
  have H := Lib.hid h
  clear h
  have hM := Lib.hid hm
  clear hm
  go_enter Tryz.func63, Tryz.ntmps63
  go_wp2_with fail
  go_loop [3, 8] (fun v i => ∃ (k u : Nat), k ≤ n ∧ i = .int .i64 k ∧ v = .int .i64 u ∧ Hid (u = m % 2 ^ k)) (fun _ i => n - (intOf i).toNat)
  case atStart => exact ⟨0, 0, Nat.zero_le _, rfl, rfl, Lib.hid (by simp [Nat.mod_one])⟩
  case round =>
    obtain ⟨k, u, hk, rfl, rfl, HU⟩ := hrel
    by_cases hlt : k < n
    · obtain ⟨ad, y, rfl, _, hy, hcy⟩ := H.out.at_ hlt
      have hy' : y = bitV m k := by have := hy.out; rw [vecF_at hlt] at this; exact (Option.some.inj this).symm
      have hlt' : (k : Int) < (n : Int) := by omega
      have hk64 : (k : Int) < 64 := by omega
      have hk0 : (0 : Int) ≤ (k : Int) := by omega
      have hu : u < 65536 := by
        have h1 : m % 2 ^ k < 2 ^ k := Nat.mod_lt _ (Nat.two_pow_pos k)
        have h2 : (2 : Nat) ^ k ≤ 2 ^ 16 := Nat.pow_le_pow_right (by decide) (by omega)
        have e : (2 : Nat) ^ 16 = 65536 := by decide
        have := HU.out
        omega
      obtain ⟨p, hp⟩ : ∃ p : Nat, p = 2 ^ k := ⟨_, rfl⟩
      have hpb : p < 131072 := by
        have h2 : (2 : Nat) ^ k ≤ 2 ^ 16 := Nat.pow_le_pow_right (by decide) (by omega)
        have e : (2 : Nat) ^ 16 = 65536 := by decide
        rw [e, ← hp] at h2
        omega
      have hpi : (2 : Int) ^ k = (p : Int) := by rw [hp]; push_cast; rfl
      have hw2 : wrap64 ((2 : Int) ^ k) = (p : Int) := by rw [hp]; exact wrap_two (by omega)
      have hb0 : bits .or .i64 (u : Int) (p : Int) = ((u ||| p : Nat) : Int) := or_small hu hpb
      have hb1 : bits .or .i64 (u : Int) 0 = (u : Int) := by have := or_small (p := 0) hu (by decide); simpa using this
      have hb2 : bits .or .i64 (u : Int) (wrap64 ((2 : Int) ^ k)) = ((u ||| p : Nat) : Int) := by rw [hw2]; exact hb0
      have hb3 : bits .or .i64 (u : Int) ((2 : Int) ^ k) = ((u ||| p : Nat) : Int) := by rw [hpi]; exact hb0
      have hor := or_two (m := m) (i := k)
      rw [← HU.out, ← hp] at hor
      clear hp hpb hpi
      clear hy HU
      by_cases hbit : m.testBit k = true
      · rw [if_pos hbit] at hor
        rw [bitV_yes hbit] at hy'
        subst hy'
        have HU2 := Lib.hid hor
        obtain ⟨u2, hu2⟩ : ∃ u2, u2 = u ||| p := ⟨_, rfl⟩
        rw [← hu2] at HU2 hb0 hb2 hb3
        clear hor hu2 hbit
        go_wp2_with fail
        go_round
        case rel => exact ⟨k + 1, u2, by omega, by go_num, by first | rfl | rw [hb3] | rw [hb2] | rw [hb0], HU2⟩
        case measure => simp [intOf]; omega
      · rw [if_neg hbit, Nat.or_zero] at hor
        rw [bitV_no hbit] at hy'
        subst hy'
        have HU2 := Lib.hid hor
        clear hor hbit
        go_wp2_with fail
        go_round
        case rel => exact ⟨k + 1, u, by omega, by go_num, by first | rfl | rw [hb1], HU2⟩
        case measure => simp [intOf]; omega
    · obtain rfl : k = n := by omega
      go_wp2_with fail
      rw [HR.out]
      exact RetI.mk (y := (u : Int)) (by rw [HU.out, Nat.mod_eq_of_lt hM.out])

set_option maxHeartbeats 2000000 in
theorem digitsOf_any (x n : Nat) (w : World) (hx : x < 65536) (hn : n ≤ 16) : Calls Tryz.prog 101 #[.int .i64 (x : Nat), .int .i64 (n : Nat)] w (RetO n (vecF x n) w) := by
  obtain ⟨R, hR⟩ : ∃ R, R = RetO n (vecF x n) w := ⟨_, rfl⟩
  have HR := Lib.hid hR
  rw [← hR]
  clear hR
  have S0 := Lib.hid (StS.start (Below.refl w.heap.size w) (Nat.le_refl _))
  go_enter Tryz.func101, Tryz.ntmps101
  go_wp2_with fail
  go_loopw [5, 9] (fun v i wr => ∃ (k c : Nat) (A : Option Addr), k ≤ n ∧ i = .int .i64 k ∧ v = .slice A k c ∧ Hid (StS w w.heap.size wr A k c (vecF x k))) (fun _ i _ => n - (intOf i).toNat)
  case atStart => exact ⟨0, 0, _, Nat.zero_le _, rfl, rfl, S0⟩
  case round =>
    clear S0
    obtain ⟨k, c, A, hk, rfl, rfl, HS⟩ := hrel
    by_cases hlt : k < n
    · have hlt' : (k : Int) < (n : Int) := by omega
      have hbit := bit_at (x := x) (i := k) (by omega)
      have hb2 : (if x.testBit k = true then (1 : Int) else 0) = bitV x k := rfl
      rw [hb2] at hbit
      have hk64 : (k : Int) < 64 := by omega
      have hk0 : (0 : Int) ≤ (k : Int) := by omega
      go_wp2_with (at_builtin; refine wpList_pushI rfl (.tmp 12) (.tmp 17) rfl rfl rfl HS.out (by omega) ?_)
      intro A6 c6 w6 hs6 _
      rw [vecF_snoc] at hs6
      have HS6 := Lib.hid hs6
      clear hs6
      go_wp2_with fail
      go_roundw
      case rel => exact ⟨k + 1, c6, A6, by omega, by go_num, rfl, HS6⟩
      case measure => simp [intOf]; omega
    · obtain rfl : k = n := by omega
      go_wp2_with fail
      rw [HR.out]
      exact HS.out.ret

theorem vectorOf_any (A1 A2 : Option Addr) (n1 c1 n2 c2 x : Nat) (w : World) (hx : x < 65536) (hn : n1 ≤ 16) :
    Calls Tryz.prog 66 #[.agg #[.slice A1 n1 c1, .slice A2 n2 c2], .int .i64 (x : Nat)] w (RetO n1 (vecF x n1) w) := by
  obtain ⟨w0, b, hw0, hbe, hb0, hz0', hF⟩ := start1 w (.slice A1 n1 c1) (.slice A2 n2 c2) 27
  have C := Lib.hid (digitsOf_any x n1 w0 hx hn)
  have hw : IntKind.i64.wrap (n1 : Int) = (n1 : Int) := by rw [IntKind.wrap_i64]; omega
  have k0 := hF.at_ (b := b) (o := 0) (V := .slice A1 n1 c1) (by simp)
  have Hw := Lib.hid hw0
  have Hbe := Lib.hid hbe
  have Hb0 := Lib.hid hb0
  clear hw0 hbe hb0 hF hz0'
  go_enter Tryz.func66, Tryz.ntmps66
  go_wp2_with fail
  rw [← Hw.out, ← Hbe.out]
  go_wp2_with fail
  refine C.out.mono ?_
  rintro e w1 ⟨A3, c3, rfl, ho, hb⟩
  have X := Lib.hid (Hb0.out.trans (hb.mono Hb0.out.size))
  have HO := Lib.hid (ho.mono Hb0.out.size)
  clear ho hb
  go_wp2_with fail
  go_ret
  exact ⟨_, _, rfl, HO.out, X.out⟩

set_option maxRecDepth 100000 in
set_option maxHeartbeats 2000000 in
theorem impl.inDegree_any (A1 A2 : Option Addr) (n1 c1 n2 c2 : Nat) (d : Int) (ds : List Int) (w : World) (h : RdS w w.heap.size A1 n1 c1 ds) (hn : n1 ≤ 16) :
    Calls Tryz.prog 65 #[.agg #[.slice A1 n1 c1, .slice A2 n2 c2], .int .i64 d] w (RetIb ((degM ds d n1 : Nat) : Int) w) := by
  obtain ⟨w0, b, hw0, hbe, hb0, hz0', hF⟩ := start1 w (.slice A1 n1 c1) (.slice A2 n2 c2) 27
  have H := Lib.hid ((h.below hb0).mono hb0.size)
  have Hw := Lib.hid hw0
  have Hbe := Lib.hid hbe
  have Hb0 := Lib.hid hb0
  have k0 := hF.at_ (b := b) (o := 0) (V := .slice A1 n1 c1) (by simp)
  obtain ⟨R, hR⟩ : ∃ R, R = RetIb ((degM ds d n1 : Nat) : Int) w := ⟨_, rfl⟩
  have HR := Lib.hid hR
  rw [← hR]
  clear h hw0 hbe hb0 hF hR hz0'
  go_enter Tryz.func65, Tryz.ntmps65
  go_wp2_with fail
  rw [← Hw.out, ← Hbe.out]
  go_wp2_with fail
  go_loop [5, 11] (fun v i => ∃ (k u : Nat), k ≤ n1 ∧ i = .int .i64 k ∧ v = .int .i64 u ∧ Hid (u = degM ds d k)) (fun _ i => n1 - (intOf i).toNat)
  case atStart => exact ⟨0, 0, Nat.zero_le _, rfl, rfl, Lib.hid rfl⟩
  case round =>
    obtain ⟨k, u, hk, rfl, rfl, HU⟩ := hrel
    by_cases hlt : k < n1
    · obtain ⟨ad, y, rfl, _, hy, hcy⟩ := H.out.at_ hlt
      have hlt' : (k : Int) < (n1 : Int) := by omega
      have hk64 : (k : Int) < 64 := by omega
      have hk0 : (0 : Int) ≤ (k : Int) := by omega
      have hu : u < 65536 := by
        have h1 : degM ds d k < 2 ^ k := degM_lt
        have h2 : (2 : Nat) ^ k ≤ 2 ^ 16 := Nat.pow_le_pow_right (by decide) (by omega)
        have e : (2 : Nat) ^ 16 = 65536 := by decide
        have := HU.out
        omega
      obtain ⟨p, hp⟩ : ∃ p : Nat, p = 2 ^ k := ⟨_, rfl⟩
      have hpb : p < 131072 := by
        have h2 : (2 : Nat) ^ k ≤ 2 ^ 16 := Nat.pow_le_pow_right (by decide) (by omega)
        have e : (2 : Nat) ^ 16 = 65536 := by decide
        rw [e, ← hp] at h2
        omega
      have hpi : (2 : Int) ^ k = (p : Int) := by rw [hp]; push_cast; rfl
      have hw2 : wrap64 ((2 : Int) ^ k) = (p : Int) := by rw [hp]; exact wrap_two (by omega)
      have hb0 : bits .or .i64 (u : Int) (p : Int) = ((u ||| p : Nat) : Int) := or_small hu hpb
      have hb2 : bits .or .i64 (u : Int) (wrap64 ((2 : Int) ^ k)) = ((u ||| p : Nat) : Int) := by rw [hw2]; exact hb0
      have hb3 : bits .or .i64 (u : Int) ((2 : Int) ^ k) = ((u ||| p : Nat) : Int) := by rw [hpi]; exact hb0
      have hor : u ||| (if ds[k]? = some d then p else 0) = degM ds d (k + 1) := by rw [degM, ← HU.out, hp]
      have hy2 := hy.out
      clear hp hpb hpi hy HU
      by_cases he : y = d
      · subst he
        rw [if_pos hy2] at hor
        have HU2 := Lib.hid hor
        obtain ⟨u2, hu2⟩ : ∃ u2, u2 = u ||| p := ⟨_, rfl⟩
        rw [← hu2] at HU2 hb0 hb2 hb3
        clear hor hu2 hy2
        go_wp2_with fail
        go_round
        case rel => exact ⟨k + 1, u2, by omega, by go_num, by first | rfl | rw [hb3] | rw [hb2] | rw [hb0], HU2⟩
        case measure => simp [intOf]; omega
      · rw [if_neg (by rw [hy2]; intro e; exact he (Option.some.inj e)), Nat.or_zero] at hor
        have HU2 := Lib.hid hor
        have he1 : (y == d) = false := by simpa using he
        clear hor hy2
        go_wp2_with fail
        go_round
        case rel => exact ⟨k + 1, u, by omega, by go_num, rfl, HU2⟩
        case measure => simp [intOf]; omega
    · obtain rfl : k = n1 := by omega
      go_wp2_with fail
      rw [HR.out]
      exact RetIb.mk (y := (u : Int)) (by rw [HU.out]) Hb0.out
set_option maxRecDepth 100000 in
set_option maxHeartbeats 2000000 in
theorem spec.l12Degree_any (A1 A2 : Option Addr) (n1 c1 n2 c2 : Nat) (d : Int) (ds : List Int) (w : World) (h : RdS w w.heap.size A1 n1 c1 ds) (hn : n1 ≤ 16) :
    Calls Tryz.prog 61 #[.agg #[.slice A1 n1 c1, .slice A2 n2 c2], .int .i64 d] w (RetIb ((degM ds d n1 : Nat) : Int) w) := by
  obtain ⟨w0, b, hw0, hbe, hb0, hz0', hF⟩ := start1 w (.slice A1 n1 c1) (.slice A2 n2 c2) 27
  have H := Lib.hid ((h.below hb0).mono hb0.size)
  have Hw := Lib.hid hw0
  have Hbe := Lib.hid hbe
  have Hb0 := Lib.hid hb0
  have k0 := hF.at_ (b := b) (o := 0) (V := .slice A1 n1 c1) (by simp)
  obtain ⟨R, hR⟩ : ∃ R, R = RetIb ((degM ds d n1 : Nat) : Int) w := ⟨_, rfl⟩
  have HR := Lib.hid hR
  rw [← hR]
  clear h hw0 hbe hb0 hF hR hz0'
  go_enter Tryz.func61, Tryz.ntmps61
  go_wp2_with fail
  rw [← Hw.out, ← Hbe.out]
  go_wp2_with fail
  go_loop [5, 6] (fun v i => ∃ (k u : Nat), k ≤ n1 ∧ i = .int .i64 k ∧ v = .int .i64 u ∧ Hid (u = degM ds d k)) (fun _ i => n1 - (intOf i).toNat)
  case atStart => exact ⟨0, 0, Nat.zero_le _, rfl, rfl, Lib.hid rfl⟩
  case round =>
    obtain ⟨k, u, hk, rfl, rfl, HU⟩ := hrel
    by_cases hlt : k < n1
    · obtain ⟨ad, y, rfl, _, hy, hcy⟩ := H.out.at_ hlt
      have hlt' : (k : Int) < (n1 : Int) := by omega
      have hk64 : (k : Int) < 64 := by omega
      have hk0 : (0 : Int) ≤ (k : Int) := by omega
      have hu : u < 65536 := by
        have h1 : degM ds d k < 2 ^ k := degM_lt
        have h2 : (2 : Nat) ^ k ≤ 2 ^ 16 := Nat.pow_le_pow_right (by decide) (by omega)
        have e : (2 : Nat) ^ 16 = 65536 := by decide
        have := HU.out
        omega
      obtain ⟨p, hp⟩ : ∃ p : Nat, p = 2 ^ k := ⟨_, rfl⟩
      have hpb : p < 131072 := by
        have h2 : (2 : Nat) ^ k ≤ 2 ^ 16 := Nat.pow_le_pow_right (by decide) (by omega)
        have e : (2 : Nat) ^ 16 = 65536 := by decide
        rw [e, ← hp] at h2
        omega
      have hpi : (2 : Int) ^ k = (p : Int) := by rw [hp]; push_cast; rfl
      have hw2 : wrap64 ((2 : Int) ^ k) = (p : Int) := by rw [hp]; exact wrap_two (by omega)
      have hb0 : bits .or .i64 (u : Int) (p : Int) = ((u ||| p : Nat) : Int) := or_small hu hpb
      have hb2 : bits .or .i64 (u : Int) (wrap64 ((2 : Int) ^ k)) = ((u ||| p : Nat) : Int) := by rw [hw2]; exact hb0
      have hb3 : bits .or .i64 (u : Int) ((2 : Int) ^ k) = ((u ||| p : Nat) : Int) := by rw [hpi]; exact hb0
      have hor : u ||| (if ds[k]? = some d then p else 0) = degM ds d (k + 1) := by rw [degM, ← HU.out, hp]
      have hy2 := hy.out
      clear hp hpb hpi hy HU
      by_cases he : y = d
      · subst he
        rw [if_pos hy2] at hor
        have HU2 := Lib.hid hor
        obtain ⟨u2, hu2⟩ : ∃ u2, u2 = u ||| p := ⟨_, rfl⟩
        rw [← hu2] at HU2 hb0 hb2 hb3
        clear hor hu2 hy2
        go_wp2_with fail
        go_round
        case rel => exact ⟨k + 1, u2, by omega, by go_num, by first | rfl | rw [hb3] | rw [hb2] | rw [hb0], HU2⟩
        case measure => simp [intOf]; omega
      · rw [if_neg (by rw [hy2]; intro e; exact he (Option.some.inj e)), Nat.or_zero] at hor
        have HU2 := Lib.hid hor
        have he1 : (y == d) = false := by simpa using he
        clear hor hy2
        go_wp2_with fail
        go_round
        case rel => exact ⟨k + 1, u, by omega, by go_num, rfl, HU2⟩
        case measure => simp [intOf]; omega
    · obtain rfl : k = n1 := by omega
      go_wp2_with fail
      rw [HR.out]
      exact RetIb.mk (y := (u : Int)) (by rw [HU.out]) Hb0.out

theorem isBit_any (n : Int) (w : World) : Calls Tryz.prog 133 #[.int .i64 n] w (RetP (inB n 0 1) w) := by
  go_enter Tryz.func133, Tryz.ntmps133
  go_wp2_with fail
  refine (in_any _ _ _ _).mono ?_
  rintro e w' ⟨rfl, rfl⟩
  go_wp2_with fail
  go_ret
  exact RetP.mk rfl
def bitsB (v : List Int) : Bool := v.all fun z => inB z 0 1
theorem bitAll_any (A : Option Addr) (n c : Nat) (xs : List Int) (w : World) (h : RdS w w.heap.size A n c xs) (hn : n ≤ 2000000) :
    Calls Tryz.prog 56 #[.slice A n c, .func (.func 133) #[] #[]] w (RetBb (bitsB xs) w) := by
  have hl := h.len
  refine (allI_any A n c xs _ _ _ w h hn (cond_of (fun x => inB x 0 1) (enters_of Tryz.func133 (by kernel_rfl) rfl) isBit_any xs w)).mono ?_
  intro e w' hw
  rw [all_range xs (fun x => inB x 0 1) _ n hl (fun j hj => by simp [List.getElem?_eq_getElem hj])] at hw
  exact hw
theorem isVector_any (A1 A2 A : Option Addr) (n1 c1 n2 c2 n c : Nat) (v : List Int) (w : World) (h : RdS w w.heap.size A n c v) (hn : n ≤ 2000000) (hn1 : n1 ≤ 2000000) :
    Calls Tryz.prog 99 #[.agg #[.slice A1 n1 c1, .slice A2 n2 c2], .slice A n c] w (RetBb (vecB n1 v) w) := by
  obtain ⟨w0, b, hw0, hbe, hb0, hz0', hF⟩ := start1 w (.slice A1 n1 c1) (.slice A2 n2 c2) 27
  have C := Lib.hid (bitAll_any A n c v w0 ((h.below hb0).mono hb0.size) hn)
  have k0 := hF.at_ (b := b) (o := 0) (V := .slice A1 n1 c1) (by simp)
  have Hw := Lib.hid hw0
  have Hbe := Lib.hid hbe
  have Hb0 := Lib.hid hb0
  have HV := Lib.hid (show vecB n1 v = (decide (n = n1) && bitsB v) from by unfold vecB; rw [h.len]; rfl)
  obtain ⟨R, hR⟩ : ∃ R, R = RetBb (vecB n1 v) w := ⟨_, rfl⟩
  have HR := Lib.hid hR
  rw [← hR]
  clear hw0 hbe hb0 hF hz0' h hR
  obtain ⟨q, hq⟩ : ∃ q, q = bitsB v := ⟨_, rfl⟩
  rw [← hq] at HV C
  clear hq
  by_cases he : n = n1
  · subst he
    go_enter Tryz.func99, Tryz.ntmps99
    go_wp2_with fail
    rw [← Hw.out, ← Hbe.out]
    go_wp2_with fail
    refine C.out.mono ?_
    rintro e w1 ⟨rfl, hb⟩
    have X := Lib.hid (Hb0.out.trans (hb.mono Hb0.out.size))
    clear hb
    go_wp2_with fail
    rw [HR.out]
    exact RetBb.mk (by rw [HV.out]; simp) X.out
  · have he1 : ((n : Int) == (n1 : Int)) = false := by simp; omega
    have he3 : (n == n1) = false := by simp; omega
    have HV2 := Lib.hid (show vecB n1 v = false from by rw [HV.out, decide_eq_false he]; rfl)
    clear he HV
    go_enter Tryz.func99, Tryz.ntmps99
    go_wp2_with fail
    rw [← Hw.out, ← Hbe.out]
    go_wp2_with fail
    rw [HR.out]
    exact RetBb.mk HV2.out.symm Hb0.out

set_option maxRecDepth 100000 in
theorem acted_any (A1 A2 A : Option Addr) (n1 c1 n2 c2 n c : Nat) (ds : List Int) (act : List (List Int)) (v : List Int) (w : World) (h : RdMod w A1 n1 c1 ds A2 n2 c2 act) (hv : RdS w w.heap.size A n c v) (hn1 : n1 ≤ 2000000) (hn2 : n2 ≤ 2000000) (ht : totalL act ≤ 2000000) (hn : n ≤ 2000000) :
    Calls Tryz.prog 62 #[.agg #[.slice A1 n1 c1, .slice A2 n2 c2], .slice A n c] w (RetIb (if modB ds act = true then (if vecB n1 v = true then 0 else 2) else 1) w) := by
  obtain ⟨w0, b, hw0, hbe, hb0, hz0', hF⟩ := start1 w (.slice A1 n1 c1) (.slice A2 n2 c2) 27
  have H := Lib.hid (h.below hb0)
  have HV := Lib.hid ((hv.below hb0).mono hb0.size)
  have Hw := Lib.hid hw0
  have Hbe := Lib.hid hbe
  have Hb0 := Lib.hid hb0
  have F0 := Lib.hid hF
  have k0 := hF.at_ (b := b) (o := 0) (V := .slice A1 n1 c1) (by simp)
  have k1 := hF.at_ (b := b) (o := 1) (V := .slice A2 n2 c2) (by simp)
  have C1 := Lib.hid (isModule_any A1 A2 n1 c1 n2 c2 ds act w0 H.out hn1 hn2 ht)
  have C2 := fun (W : World) (hB : Below w0.heap.size w0 W) => Lib.hid (isVector_any A1 A2 A n1 c1 n2 c2 n c v W ((HV.out.below hB).mono hB.size) hn hn1)
  obtain ⟨t, htt⟩ : ∃ t, t = modB ds act := ⟨_, rfl⟩
  obtain ⟨q, hq⟩ : ∃ q, q = vecB n1 v := ⟨_, rfl⟩
  rw [← htt] at C1 ⊢
  rw [← hq] at C2 ⊢
  clear h hv hw0 hbe hb0 hF hz0' htt hq ht
  cases t
  · go_enter Tryz.func62, Tryz.ntmps62
    go_wp2_with fail
    rw [← Hw.out, ← Hbe.out]
    go_wp2_with fail
    refine C1.out.mono ?_
    rintro e w1 ⟨rfl, hb1⟩
    have X1 := Lib.hid (Hb0.out.trans (hb1.mono Hb0.out.size))
    clear hb1
    go_wp2_with fail
    go_ret
    exact RetIb.mk (y := 1) rfl X1.out
  · cases q
    all_goals
      go_enter Tryz.func62, Tryz.ntmps62
      go_wp2_with fail
      rw [← Hw.out, ← Hbe.out]
      go_wp2_with fail
      refine C1.out.mono ?_
      rintro e w1 ⟨rfl, hb1⟩
      have X1 := Lib.hid hb1
      have k2 := (F0.out.below X1.out).at_ (b := b) (o := 0) (V := .slice A1 n1 c1) (by simp)
      have k3 := (F0.out.below X1.out).at_ (b := b) (o := 1) (V := .slice A2 n2 c2) (by simp)
      clear hb1 k0 k1
      go_wp2_with fail
      refine (C2 w1 X1.out).out.mono ?_
      rintro e w2 ⟨rfl, hb2⟩
      have X2 := Lib.hid (Hb0.out.trans ((X1.out.trans (hb2.mono X1.out.size)).mono Hb0.out.size))
      clear hb2
      go_wp2_with fail
      go_ret
      first
        | exact RetIb.mk (y := 2) rfl X2.out
        | exact RetIb.mk (y := 0) rfl X2.out

set_option maxHeartbeats 1000000 in
theorem vector11_any (A1 A2 A : Option Addr) (n1 c1 n2 c2 n c : Nat) (v : List Int) (w : World) (h : RdS w w.heap.size A n c v) (hn : n ≤ 2000000) (hn1 : n1 ≤ 2000000) :
    Calls Tryz.prog 68 #[.agg #[.slice A1 n1 c1, .slice A2 n2 c2], .slice A n c] w (RetBb (vecB n1 v) w) := by
  obtain ⟨w0, b, hw0, hbe, hb0, hz0', hF⟩ := start1 w (.slice A1 n1 c1) (.slice A2 n2 c2) 27
  have H := Lib.hid ((h.below hb0).mono hb0.size)
  have k0 := hF.at_ (b := b) (o := 0) (V := .slice A1 n1 c1) (by simp)
  have Hw := Lib.hid hw0
  have Hbe := Lib.hid hbe
  have Hb0 := Lib.hid hb0
  have HL := Lib.hid h.len
  obtain ⟨R, hR⟩ : ∃ R, R = RetBb (vecB n1 v) w := ⟨_, rfl⟩
  have HR := Lib.hid hR
  rw [← hR]
  clear hw0 hbe hb0 hF hz0' h hR
  go_enter Tryz.func68, Tryz.ntmps68
  go_wp2_with fail
  rw [← Hw.out, ← Hbe.out]
  go_loop [5] (fun i => ∃ k : Nat, k ≤ n ∧ i = .int .i64 k ∧ Hid (∀ j, j < k → inB (v[j]?.getD 0) 0 1 = true)) (fun i => n - (intOf i).toNat)
  case atStart => exact ⟨0, Nat.zero_le _, rfl, Lib.hid (fun j hj => by omega)⟩
  case round =>
    obtain ⟨k, hk, rfl, HN⟩ := hrel
    by_cases hlt : k < n
    · obtain ⟨ad, y, rfl, _, hy, hcy⟩ := H.out.at_ hlt
      have hlt' : (k : Int) < (n : Int) := by omega
      have hk0 : (0 : Int) ≤ (k : Int) := by omega
      have C := Lib.hid (l01In_any y 0 1 w0)
      have HY := Lib.hid (show v[k]?.getD 0 = y from by rw [hy.out]; rfl)
      have HM := Lib.hid (List.mem_of_getElem? hy.out)
      obtain ⟨q, hq⟩ : ∃ q, q = inB y 0 1 := ⟨_, rfl⟩
      rw [← hq] at C
      have HQ := Lib.hid hq
      clear hy hq
      cases q
      · have HV := Lib.hid (show vecB n1 v = false from by
          unfold vecB
          rw [show (v.all fun z => inB z 0 1) = false from by
            rw [List.all_eq_false]
            exact ⟨y, HM.out, by rw [← HQ.out]; decide⟩, Bool.and_false])
        go_wp2_with fail
        refine C.out.mono ?_
        rintro e w1 ⟨rfl, h1⟩
        rw [h1]
        clear h1
        go_wp2_with fail
        rw [HR.out]
        exact RetBb.mk HV.out.symm Hb0.out
      · have HN2 := Lib.hid (show ∀ j, j < k + 1 → inB (v[j]?.getD 0) 0 1 = true from fun j hj => by
          by_cases e : j = k
          · subst e; rw [HY.out]; exact HQ.out.symm
          · exact HN.out j (by omega))
        clear HN
        go_wp2_with fail
        refine C.out.mono ?_
        rintro e w1 ⟨rfl, h1⟩
        rw [h1]
        clear h1
        go_wp2_with fail
        go_round
        case rel => exact ⟨k + 1, by omega, by go_num, HN2⟩
        case measure => simp [intOf]; omega
    · obtain rfl : k = n := by omega
      have HV := Lib.hid (show vecB n1 v = decide (k = n1) from by
        unfold vecB
        rw [show (v.all fun z => inB z 0 1) = true from by
          rw [List.all_eq_true]
          intro z hz
          obtain ⟨j, hj⟩ := List.getElem?_of_mem hz
          have h1 := HN.out j (by rw [← HL.out]; exact (List.getElem?_eq_some_iff.1 hj).1)
          rw [hj] at h1
          exact h1, Bool.and_true, HL.out])
      by_cases he : k = n1
      · subst he
        go_wp2_with fail
        rw [HR.out]
        exact RetBb.mk (by rw [HV.out]; simp) Hb0.out
      · have he1 : ((k : Int) == (n1 : Int)) = false := by simp; omega
        have he3 : (k == n1) = false := by simp; omega
        have HV2 := Lib.hid (show vecB n1 v = false from by rw [HV.out, decide_eq_false he])
        clear he HV
        go_wp2_with fail
        rw [HR.out]
        exact RetBb.mk HV2.out.symm Hb0.out
end Go.Proofs.YtejojliljplcdaaGreatDoor
