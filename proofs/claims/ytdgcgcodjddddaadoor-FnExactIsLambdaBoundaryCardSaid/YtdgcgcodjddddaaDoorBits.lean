/- Rows of bits, packed: impl.row's methods, newRow. -/
import Derived.Test.YtdgcgcodjddddaaDoorHitP
import Derived.Test.YtdgcgcodjddddaaDoorTri
import Derived.Test.YtdgcgcodjddddaaDoorTzI
namespace Go.Proofs.YtdgcgcodjddddaaDoor
open Go.RowKit
set_option linter.unusedVariables false

theorem bits_andU {a b : Nat} (ha : a < 18446744073709551616) (hb : b < 18446744073709551616) : bits .and .u64 (a : Int) (b : Int) = ((a &&& b : Nat) : Int) := by
  have hx : a &&& b < 2 ^ 64 := Nat.and_lt_two_pow _ (by omega)
  have o : ∀ a : Nat, a < 18446744073709551616 → (BitVec.ofInt 64 (a : Int)).toNat = a := fun a ha => by
    rw [BitVec.ofInt_natCast, BitVec.toNat_ofNat]; exact Nat.mod_eq_of_lt (by omega)
  show IntKind.u64.wrap ((BitVec.ofInt 64 (a : Int) &&& BitVec.ofInt 64 (b : Int)).toNat : Int) = _
  rw [BitVec.toNat_and, o a ha, o b hb, IntKind.wrap_u64]
  omega
theorem bits_xorU {a b : Nat} (ha : a < 18446744073709551616) (hb : b < 18446744073709551616) : bits .xor .u64 (a : Int) (b : Int) = ((a ^^^ b : Nat) : Int) := by
  have hx : a ^^^ b < 2 ^ 64 := Nat.xor_lt_two_pow (by omega) (by omega)
  have o : ∀ a : Nat, a < 18446744073709551616 → (BitVec.ofInt 64 (a : Int)).toNat = a := fun a ha => by
    rw [BitVec.ofInt_natCast, BitVec.toNat_ofNat]; exact Nat.mod_eq_of_lt (by omega)
  show IntKind.u64.wrap ((BitVec.ofInt 64 (a : Int) ^^^ BitVec.ofInt 64 (b : Int)).toNat : Int) = _
  rw [BitVec.toNat_xor, o a ha, o b hb, IntKind.wrap_u64]
  omega
theorem bitU {x i : Nat} (hx : x < 18446744073709551616) : (bits .and .u64 ((x : Int) / 2 ^ i) 1 == 1) = x.testBit i := by
  have e : (x : Int) / 2 ^ i = ((x / 2 ^ i : Nat) : Int) := by push_cast; rfl
  have hl : x / 2 ^ i < 18446744073709551616 := Nat.lt_of_le_of_lt (Nat.div_le_self _ _) hx
  rw [e, show (1 : Int) = ((1 : Nat) : Int) from rfl, bits_andU hl (by decide), Nat.and_one_is_mod, Nat.testBit_eq_decide_div_mod_eq]
  have : x / 2 ^ i % 2 = 0 ∨ x / 2 ^ i % 2 = 1 := by omega
  rcases this with h | h <;> rw [h] <;> rfl
/-- the words of a row -/
def wq (v j : Nat) : Nat := v / 2 ^ (64 * j) % 2 ^ 64
theorem wq_lt (v j : Nat) : wq v j < 18446744073709551616 := Nat.mod_lt _ (by decide)
theorem wq_bit (v j i : Nat) : (wq v j).testBit i = (decide (i < 64) && v.testBit (64 * j + i)) := by
  unfold wq
  rw [Nat.testBit_mod_two_pow, Nat.testBit_div_two_pow, Nat.add_comm]
theorem wq_xor (a b j : Nat) : wq (a ^^^ b) j = wq a j ^^^ wq b j := by
  apply Nat.eq_of_testBit_eq; intro i
  rw [Nat.testBit_xor, wq_bit, wq_bit, wq_bit, Nat.testBit_xor]
  cases decide (i < 64) <;> simp
theorem wq_pow_same {q r : Nat} (h : r < 64) : wq (2 ^ (64 * q + r)) q = 2 ^ r := by
  apply Nat.eq_of_testBit_eq; intro i
  rw [wq_bit, Nat.testBit_two_pow, Nat.testBit_two_pow]
  by_cases hi : i < 64
  · rw [decide_eq_true hi, Bool.true_and]
    congr 1
    rw [eq_iff_iff]; omega
  · rw [decide_eq_false hi, Bool.false_and, eq_comm, decide_eq_false_iff_not]; omega
theorem wq_pow_other {q r j : Nat} (h : r < 64) (hj : j ≠ q) : wq (2 ^ (64 * q + r)) j = 0 := by
  apply Nat.eq_of_testBit_eq; intro i
  rw [wq_bit, Nat.testBit_two_pow, Nat.zero_testBit]
  by_cases hi : i < 64
  · rw [decide_eq_true hi, Bool.true_and, decide_eq_false_iff_not]; omega
  · rw [decide_eq_false hi, Bool.false_and]
def wordsV (nb v : Nat) : List Value := (List.range nb).map fun j => .int .u64 (wq v j : Nat)
theorem wordsV_len (nb v : Nat) : (wordsV nb v).length = nb := by simp [wordsV]
theorem wordsV_at {nb v k : Nat} (h : k < nb) : (wordsV nb v)[k]? = some (.int .u64 (wq v k : Nat)) := by
  unfold wordsV
  rw [List.getElem?_map, List.getElem?_range h]; rfl
theorem wordsV_set {nb v v' k : Nat} (hk : k < nb) (h : ∀ j, j ≠ k → wq v' j = wq v j) : (wordsV nb v).set k (.int .u64 (wq v' k : Nat)) = wordsV nb v' := by
  apply List.ext_getElem?
  intro j
  by_cases hj : j = k
  · subst hj
    rw [List.getElem?_set_self (by rw [wordsV_len]; exact hk), wordsV_at hk]
  · rw [List.getElem?_set_ne (fun e => hj e.symm)]
    by_cases hl : j < nb
    · rw [wordsV_at hl, wordsV_at hl, h j hj]
    · rw [List.getElem?_eq_none (by rw [wordsV_len]; omega), List.getElem?_eq_none (by rw [wordsV_len]; omega)]
/-- block g owns a row of nb words -/
abbrev OwnU (w : World) (B g nb v : Nat) : Prop := OwnV w B 87 (some ⟨g, 0, none⟩) nb nb (wordsV nb v)
abbrev RdU (w : World) (B g nb v : Nat) : Prop := RdV w B (some ⟨g, 0, none⟩) nb nb (wordsV nb v)
theorem RdU.cell {w : World} {B g nb v k : Nat} (h : RdU w B g nb v) (hk : k < nb) : w.cell? ⟨g, k, none⟩ = some (.int .u64 (wq v k : Nat)) ∧ g < B := by
  obtain ⟨ad, x, e, hb, hx, hc⟩ := h.at_ hk
  injection e with e
  subst e
  have := hx.out
  rw [wordsV_at hk] at this
  obtain rfl := Option.some.inj this
  refine ⟨?_, hb⟩
  rw [← hc]
  congr 1
  cases k <;> simp [Addr.add]
theorem OwnV.at2 {w : World} {B E g n : Nat} {vs : List Value} (h : OwnV w B E (some ⟨g, 0, none⟩) n n vs) {k : Nat} (hk : k < n) :
    B ≤ g ∧ g < w.heap.size ∧ w.cell? ⟨g, k, none⟩ = vs[k]? ∧ w.frozen? ⟨g, k, none⟩ = false ∧
      ∀ u, OwnV (w.setCell ⟨g, k, none⟩ u) B E (some ⟨g, 0, none⟩) n n (vs.set k u) ∧ w.grownBy (w.setCell ⟨g, k, none⟩ u) (some g) := by
  have hk' : k < vs.length := by rw [h.len]; exact hk
  obtain ⟨g', cap, hv, hb, hlt⟩ := h.own.form (by omega)
  injection hv with hA _ hc
  injection hA with hA
  injection hA with hA
  subst hA; subst hc
  refine ⟨hb, hlt, ?_, h.own.frozenAt k, fun u => ⟨⟨by simpa using h.len, (h.own.stored k u).1⟩, (h.own.stored k u).2⟩⟩
  rw [h.own.cellAt k (by omega)]
theorem tdivN {i : Nat} : Int.tdiv (i : Int) 64 = ((i / 64 : Nat) : Int) := by rw [Int.tdiv_eq_ediv_of_nonneg (by omega)]; omega
theorem tmodN {i : Nat} : Int.tmod (i : Int) 64 = ((i % 64 : Nat) : Int) := by rw [Int.tmod_eq_emod_of_nonneg (by omega)]; omega
theorem hasU_any (B g nb v i : Nat) (w : World) (h : RdU w B g nb v) (hi : i < 64 * nb) (hnb : nb ≤ 1000000) : Calls Tryd.prog 76 #[.slice (some ⟨g, 0, none⟩) nb nb, .int .i64 i] w (RetP (v.testBit i) w) := by
  have hq := tdivN (i := i)
  have hm := tmodN (i := i)
  obtain ⟨q, hqq⟩ : ∃ q, q = i / 64 := ⟨_, rfl⟩
  obtain ⟨r, hrr⟩ : ∃ r, r = i % 64 := ⟨_, rfl⟩
  rw [← hqq] at hq
  rw [← hrr] at hm
  have hqn : q < nb := by omega
  have hr64 : r < 64 := by omega
  have hwq : IntKind.i64.wrap (q : Int) = (q : Int) := by rw [IntKind.wrap_i64]; omega
  have hwr : IntKind.i64.wrap (r : Int) = (r : Int) := by rw [IntKind.wrap_i64]; omega
  have HI := Lib.hid (show i = 64 * q + r by omega)
  have hc := (h.cell hqn).1
  obtain ⟨x, hx⟩ : ∃ x, x = wq v q := ⟨_, rfl⟩
  rw [← hx] at hc
  have HX := Lib.hid hx
  clear hqq hrr hi h hx
  go_enter Tryd.func76, Tryd.ntmps76
  go_wp2_with fail
  go_ret
  exact RetP.mk (by rw [HX.out, bitU (wq_lt v q), wq_bit, decide_eq_true hr64, HI.out]; simp)
def RetFu (B g nb v : Nat) (w : World) (e : Ending) (w' : World) : Prop := e = .returned (.tuple #[]) ∧ OwnU w' B g nb v ∧ w.grownBy w' (some g) ∧ w'.heap.size = w.heap.size
set_option maxRecDepth 100000 in
theorem flipU_any (B g nb v i : Nat) (w : World) (h : OwnU w B g nb v) (hi : i < 64 * nb) (hnb : nb ≤ 1000000) : Calls Tryd.prog 41 #[.slice (some ⟨g, 0, none⟩) nb nb, .int .i64 i] w (RetFu B g nb (v ^^^ 2 ^ i) w) := by
  have hq := tdivN (i := i)
  have hm := tmodN (i := i)
  obtain ⟨q, hqq⟩ : ∃ q, q = i / 64 := ⟨_, rfl⟩
  obtain ⟨r, hrr⟩ : ∃ r, r = i % 64 := ⟨_, rfl⟩
  rw [← hqq] at hq
  rw [← hrr] at hm
  have hqn : q < nb := by omega
  have hr64 : r < 64 := by omega
  have hwq : IntKind.i64.wrap (q : Int) = (q : Int) := by rw [IntKind.wrap_i64]; omega
  have hwr : IntKind.i64.wrap (r : Int) = (r : Int) := by rw [IntKind.wrap_i64]; omega
  have hiq : i = 64 * q + r := by omega
  obtain ⟨hb, hlt, hc, hf, hset⟩ := h.at2 hqn
  rw [wordsV_at hqn] at hc
  obtain ⟨X, hX⟩ : ∃ X, X = v ^^^ 2 ^ i := ⟨_, rfl⟩
  rw [← hX]
  obtain ⟨P, hP⟩ : ∃ P, P = 2 ^ r := ⟨_, rfl⟩
  have hPl : P < 18446744073709551616 := by rw [hP]; exact Nat.pow_lt_pow_right (a := 2) (by decide) hr64
  have hwp : IntKind.u64.wrap ((2 : Int) ^ r) = (P : Int) := by
    have : ((2 : Int) ^ r) = ((P : Nat) : Int) := by rw [hP]; push_cast; rfl
    rw [this, IntKind.wrap_u64]; omega
  have hx : bits .xor .u64 ((wq v q : Nat) : Int) (P : Int) = ((wq X q : Nat) : Int) := by
    rw [bits_xorU (wq_lt v q) hPl, hX, wq_xor, hiq, wq_pow_same hr64, hP]
  have HS := hset (.int .u64 (wq X q : Nat))
  rw [wordsV_set hqn (v' := X) (fun j hj => by rw [hX, wq_xor, hiq, wq_pow_other hr64 hj, Nat.xor_zero])] at HS
  have HSV := Lib.hid (show OwnU ((w.setCell ⟨g, q, none⟩ (.int .u64 (wq X q : Nat))).drew) B g nb X from HS.1.drew)
  have HSG := Lib.hid (show w.grownBy ((w.setCell ⟨g, q, none⟩ (.int .u64 (wq X q : Nat))).drew) (some g) from ⟨HS.2.os, HS.2.tape, HS.2.output, HS.2.size, HS.2.block⟩)
  clear hqq hrr hi h hset hX hP hPl HS hiq
  go_enter Tryd.func41, Tryd.ntmps41
  go_wp2_with fail
  go_region
  go_end0
  exact ⟨rfl, HSV.out, HSG.out, by simp [World.setCell]⟩
theorem low_word {x : Nat} (h0 : x ≠ 0) (h : x < 18446744073709551616) : x.testBit (Lib.ctz 64 x) = true ∧ (∀ j, j < Lib.ctz 64 x → x.testBit j = false) ∧ Lib.ctz 64 x < 64 := by
  obtain ⟨m, hm, hk⟩ := Lib.ctzFrom_spec 64 x (by omega) h
  have e : Lib.ctz 64 x = Lib.ctzFrom 64 x := by unfold Lib.ctz; rw [if_neg h0]
  rw [e]
  obtain ⟨k, hkk⟩ : ∃ k, k = Lib.ctzFrom 64 x := ⟨_, rfl⟩
  rw [← hkk] at hm hk ⊢
  rw [hm]
  refine ⟨?_, fun j hj => ?_, hk⟩
  · rw [Nat.testBit_two_pow_mul, decide_eq_true (Nat.le_refl k), Nat.sub_self]
    simp [Nat.testBit_zero]
  · rw [Nat.testBit_two_pow_mul, decide_eq_false (by omega)]; rfl
/-- the place of a row's first digit that is 1, or -1 -/
def lowI (v : Nat) : Int := if v = 0 then -1 else (lowB v : Int)
theorem lowI_at {v j : Nat} (h0 : ∀ i, i < j → wq v i = 0) (h : wq v j ≠ 0) : lowI v = ((64 * j + Lib.ctz 64 (wq v j) : Nat) : Int) := by
  obtain ⟨h1, h2, h3⟩ := low_word h (wq_lt v j)
  rw [wq_bit, Bool.and_eq_true] at h1
  have hv : v ≠ 0 := by rintro rfl; simp at h1
  unfold lowI
  rw [if_neg hv, lowB_of h1.2 fun i hi => ?_]
  by_cases hij : i < 64 * j
  · have hz := h0 (i / 64) (by omega)
    have hb := wq_bit v (i / 64) (i % 64)
    rw [hz, Nat.zero_testBit, decide_eq_true (by omega), Bool.true_and, show 64 * (i / 64) + i % 64 = i by omega] at hb
    exact hb.symm
  · have hb := wq_bit v j (i - 64 * j)
    rw [h2 _ (by omega), decide_eq_true (by omega), Bool.true_and, show 64 * j + (i - 64 * j) = i by omega] at hb
    exact hb.symm
theorem lowI_none {v nb : Nat} (hv : v < 2 ^ (64 * nb)) (h0 : ∀ i, i < nb → wq v i = 0) : lowI v = -1 := by
  have : v = 0 := by
    apply Nat.eq_of_testBit_eq
    intro i
    rw [Nat.zero_testBit]
    by_cases hi : i < 64 * nb
    · have hb := wq_bit v (i / 64) (i % 64)
      rw [h0 _ (by omega), Nat.zero_testBit, decide_eq_true (by omega), Bool.true_and, show 64 * (i / 64) + i % 64 = i by omega] at hb
      exact hb.symm
    · exact Nat.testBit_lt_two_pow (Nat.lt_of_lt_of_le hv (Nat.pow_le_pow_right (by decide) (by omega)))
  subst this; rfl
set_option maxRecDepth 100000 in
theorem firstU_any (B g nb v : Nat) (w : World) (h : RdU w B g nb v) (hv : v < 2 ^ (64 * nb)) (hnb : nb ≤ 1000000) (hT : Deb w) : Calls Tryd.prog 45 #[.slice (some ⟨g, 0, none⟩) nb nb] w (RetI (lowI v) w) := by
  have H := Lib.hid h
  have HV := Lib.hid hv
  have HT := Lib.hid hT
  obtain ⟨R, hR⟩ : ∃ R, R = RetI (lowI v) w := ⟨_, rfl⟩
  have HR := Lib.hid hR
  rw [← hR]
  clear h hv hT hR
  go_enter Tryd.func45, Tryd.ntmps45
  go_wp2_with fail
  go_loop [7] (fun i => ∃ j : Nat, j ≤ nb ∧ i = .int .i64 j ∧ Hid (∀ k, k < j → wq v k = 0)) (fun i => nb - (intOf i).toNat)
  case atStart => exact ⟨0, Nat.zero_le _, rfl, Lib.hid (fun k hk => absurd hk (by omega))⟩
  case round =>
    obtain ⟨j, hj, rfl, H0⟩ := hrel
    by_cases hlt : j < nb
    · have hc := (H.out.cell hlt).1
      obtain ⟨x, hx⟩ : ∃ x, x = wq v j := ⟨_, rfl⟩
      rw [← hx] at hc
      have HX := Lib.hid hx
      by_cases hx0 : x = 0
      · have H1 := Lib.hid (show ∀ k, k < j + 1 → wq v k = 0 from fun k hk => by
          rcases Nat.lt_succ_iff_lt_or_eq.1 hk with h | rfl
          · exact H0.out k h
          · rw [← HX.out]; exact hx0)
        subst hx0
        clear hx
        go_wp2_with fail
        go_round
        case rel => exact ⟨j + 1, by omega, by go_num, H1⟩
        case measure => simp [intOf]; omega
      · have hne : ((x : Int) != 0) = true := by simp; omega
        have hxl : x < 18446744073709551616 := by rw [hx]; exact wq_lt v j
        have C1 := Lib.hid (tz_any x hxl hx0 w HT.out)
        have hk64 := (low_word hx0 hxl).2.2
        have HL := Lib.hid (show lowI v = ((64 * j + Lib.ctz 64 x : Nat) : Int) from by rw [hx]; exact lowI_at H0.out (by rw [← hx]; exact hx0))
        obtain ⟨k, hk⟩ : ∃ k, k = Lib.ctz 64 x := ⟨_, rfl⟩
        rw [← hk] at C1 HL hk64
        have hw1 : IntKind.i64.wrap (64 * (j : Int)) = 64 * (j : Int) := by rw [IntKind.wrap_i64]; omega
        have hw2 : IntKind.i64.wrap (64 * (j : Int) + (k : Int)) = 64 * (j : Int) + (k : Int) := by rw [IntKind.wrap_i64]; omega
        clear hx hk hx0
        go_wp2_with fail
        refine C1.out.mono ?_
        rintro e w1 ⟨rfl, h1⟩
        rw [h1]
        go_wp2_with fail
        rw [HR.out]
        exact RetI.mk (by rw [HL.out]; push_cast; rfl)
    · have hjn : j = nb := by omega
      have HJ := Lib.hid hjn
      clear hjn
      go_wp2_with fail
      rw [HR.out]
      exact RetI.mk (by rw [lowI_none HV.out (by rw [← HJ.out]; exact H0.out)])
/-- words of a sum, so far -/
def mixW (nb v u k : Nat) : List Value := (wordsV nb (v ^^^ u)).take k ++ (wordsV nb v).drop k
theorem mixW_step {nb v u k : Nat} (hk : k < nb) : (mixW nb v u k).set k (.int .u64 (wq (v ^^^ u) k : Nat)) = mixW nb v u (k + 1) := by
  unfold mixW
  have hl : ((wordsV nb (v ^^^ u)).take k).length = k := by rw [List.length_take, wordsV_len]; omega
  rw [List.set_append_right _ _ (by omega), hl, Nat.sub_self, List.drop_eq_getElem_cons (by rw [wordsV_len]; exact hk), List.set_cons_zero, List.take_add_one, wordsV_at hk]
  simp
theorem mixW_at {nb v u k : Nat} (hk : k < nb) : (mixW nb v u k)[k]? = some (.int .u64 (wq v k : Nat)) := by
  unfold mixW
  have hl : ((wordsV nb (v ^^^ u)).take k).length = k := by rw [List.length_take, wordsV_len]; omega
  rw [List.getElem?_append_right (by omega), hl, Nat.sub_self, List.getElem?_drop, Nat.add_zero, wordsV_at hk]
theorem mixW_end {nb v u : Nat} : mixW nb v u nb = wordsV nb (v ^^^ u) := by
  unfold mixW
  rw [List.take_of_length_le (by rw [wordsV_len]; exact Nat.le_refl _), List.drop_of_length_le (by rw [wordsV_len]; exact Nat.le_refl _), List.append_nil]
set_option maxRecDepth 100000 in
theorem plusU_any (B B2 g g2 nb v u : Nat) (w : World) (h : OwnU w B g nb v) (h2 : RdU w B2 g2 nb u) (hne : g ≠ g2) (hnb : nb ≤ 1000000) : Calls Tryd.prog 77 #[.slice (some ⟨g, 0, none⟩) nb nb, .slice (some ⟨g2, 0, none⟩) nb nb] w (RetFu B g nb (v ^^^ u) w) := by
  have H := Lib.hid h
  have H2 := Lib.hid h2
  have HNE := Lib.hid hne
  have HS := Lib.hid (show OwnV w B 87 (some ⟨g, 0, none⟩) nb nb (mixW nb v u 0) from by unfold mixW; simpa using h)
  clear h h2 hne
  go_enter Tryd.func77, Tryd.ntmps77
  go_wp2_with fail
  go_loopw [8] (fun i wr => ∃ k : Nat, k ≤ nb ∧ i = .int .i64 k ∧ Hid (OwnV wr B 87 (some ⟨g, 0, none⟩) nb nb (mixW nb v u k)) ∧ Hid (w.grownBy wr (some g)) ∧ Hid (wr.heap.size = w.heap.size)) (fun i _ => nb - (intOf i).toNat)
  case atStart => exact ⟨0, Nat.zero_le _, rfl, HS, Lib.hid (World.grownBy.refl _ _), Lib.hid rfl⟩
  case round =>
    obtain ⟨k, hk, rfl, HO, HG, HZ⟩ := hrel
    by_cases hlt : k < nb
    · have hc2 := (H2.out.cell hlt).1
      have hg2 : g2 < w.heap.size := World.block_lt_of_cell? w _ hc2
      have hcr : wr.cell? ⟨g2, k, none⟩ = some (.int .u64 (wq u k : Nat)) := by
        rw [← hc2]
        exact World.cell?_of_block (HG.out.block g2 hg2 (fun e => HNE.out (by injection e with e; exact e.symm)))
      obtain ⟨hb, hl, hc, hf, hset⟩ := HO.out.at2 hlt
      rw [mixW_at hlt] at hc
      have hx : bits .xor .u64 ((wq v k : Nat) : Int) ((wq u k : Nat) : Int) = ((wq (v ^^^ u) k : Nat) : Int) := by rw [bits_xorU (wq_lt v k) (wq_lt u k), wq_xor]
      have hs := hset (.int .u64 (wq (v ^^^ u) k : Nat))
      rw [mixW_step hlt] at hs
      have HS1 := Lib.hid hs.1
      have HS2 := Lib.hid (grownBy_trans HG.out hs.2)
      have HZ2 := Lib.hid (show (wr.setCell ⟨g, k, none⟩ (.int .u64 (wq (v ^^^ u) k : Nat))).heap.size = w.heap.size by rw [← HZ.out]; simp [World.setCell])
      clear hset hs hc2
      go_wp2_with fail
      go_roundw
      case rel => exact ⟨k + 1, by omega, by go_num, HS1, HS2, HZ2⟩
      case measure => simp [intOf]; omega
    · obtain rfl : k = nb := by omega
      go_wp2_with fail
      go_end0
      refine ⟨rfl, ?_, HG.out, HZ.out⟩
      have := HO.out
      rwa [mixW_end] at this
theorem plus0_any (A A2 : Option Addr) (n c c2 : Nat) (w : World) : Calls Tryd.prog 77 #[.slice A n c, .slice A2 0 c2] w (fun e w' => e = .returned (.tuple #[]) ∧ w' = w) := by
  go_enter Tryd.func77, Tryd.ntmps77
  go_wp2_with fail
  go_loop [8] (fun i => i = .int .i64 0) (fun i => 0)
  case atStart => rfl
  case round =>
    obtain rfl := hrel
    go_wp2_with fail
    go_end0
    exact ⟨rfl, rfl⟩
end Go.Proofs.YtdgcgcodjddddaaDoor
