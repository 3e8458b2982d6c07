/- Plain: the weights of a monomial are the numbers of its digits. -/
import Derived.Test.YtoigdiekkkkapaaPar
import Derived.Test.YtoigdiekkkkapaaTrm
import Derived.Test.YtoigdiekkkkapaaKam
import Derived.Deep.RegionLaw
namespace Go.Proofs.Ytoigdiekkkkapaa
set_option linter.unusedVariables false

/-- how many exponents have the digit i -/
def wgt (x : List Int) (i : Nat) : Int := (((x.filter fun n => n.toNat.testBit i).length : Nat) : Int)
def wgtL (x : List Int) (L : Nat) : List Int := (List.range L).map (wgt x)
theorem wgtL_succ (x : List Int) (L : Nat) : wgtL x (L + 1) = wgtL x L ++ [wgt x L] := by unfold wgtL; rw [List.range_succ, List.map_append]; rfl
theorem wgtL_len (x : List Int) (L : Nat) : (wgtL x L).length = L := by simp [wgtL]
/-- numbers weighted by 1, 2, 4 .. times s -/
def sc : List Int → Int → Int
  | [], _ => 0
  | a :: r, s => s * a + sc r (s * 2)
theorem sc_snoc (a : Int) : ∀ (w : List Int) (s : Int), sc (w ++ [a]) s = sc w s + s * 2 ^ w.length * a
  | [], s => by simp [sc]
  | b :: w, s => by
    rw [List.cons_append, sc, sc, sc_snoc a w, List.length_cons, Int.pow_succ]
    have : s * 2 * 2 ^ w.length * a = s * (2 ^ w.length * 2) * a := by
      rw [Int.mul_assoc s 2, Int.mul_comm 2 (2 ^ w.length)]
    omega
theorem mod_bit (n L : Nat) : n % 2 ^ (L + 1) = n % 2 ^ L + 2 ^ L * (if n.testBit L = true then 1 else 0) := by
  rw [Nat.pow_succ, Nat.mod_mul]
  congr 1
  congr 1
  rw [Nat.testBit_eq_decide_div_mod_eq]
  split
  · rename_i h; simpa using h
  · rename_i h
    have : ¬ n / 2 ^ L % 2 = 1 := by simpa using h
    omega
theorem sum_mod (x : List Int) (L : Nat) : (x.map fun n => ((n.toNat % 2 ^ (L + 1) : Nat) : Int)).sum = (x.map fun n => ((n.toNat % 2 ^ L : Nat) : Int)).sum + 2 ^ L * wgt x L := by
  induction x with
  | nil => simp [wgt]
  | cons n x ih =>
    rw [List.map_cons, List.sum_cons, ih, List.map_cons, List.sum_cons, mod_bit]
    unfold wgt
    rw [List.filter_cons]
    by_cases h : n.toNat.testBit L = true
    · rw [if_pos h, if_pos h, List.length_cons]
      push_cast
      rw [Int.mul_add]
      omega
    · rw [if_neg h, if_neg h]
      push_cast
      omega
theorem sc_wgt (x : List Int) : ∀ L : Nat, sc (wgtL x L) 1 = (x.map fun n => ((n.toNat % 2 ^ L : Nat) : Int)).sum
  | 0 => by
    have : ∀ y : List Int, (y.map fun n => ((n.toNat % 2 ^ 0 : Nat) : Int)).sum = 0 := fun y => by
      induction y with
      | nil => rfl
      | cons n y ih => rw [List.map_cons, List.sum_cons, ih]; simp [Nat.mod_one]
    rw [this]; rfl
  | L + 1 => by rw [wgtL_succ, sc_snoc, sc_wgt x L, sum_mod, wgtL_len, Int.one_mul]
theorem sc_sum {x : List Int} {L : Nat} (h : ∀ n ∈ x, 0 ≤ n ∧ n < 2 ^ L) : sc (wgtL x L) 1 = x.sum := by
  rw [sc_wgt]
  congr 1
  conv => rhs; rw [← List.map_id x]
  refine List.map_congr_left fun n hn => ?_
  obtain ⟨h0, h1⟩ := h n hn
  show ((n.toNat % 2 ^ L : Nat) : Int) = n
  have h2 : n.toNat < 2 ^ L := by
    have : ((n.toNat : Nat) : Int) < ((2 ^ L : Nat) : Int) := by push_cast; omega
    exact Int.ofNat_lt.1 this
  rw [Nat.mod_eq_of_lt h2]
  omega
theorem wgt_zero {x : List Int} {i : Nat} (h : ∀ n ∈ x, 0 ≤ n ∧ n < 2 ^ i) : wgt x i = 0 := by
  unfold wgt
  have : (x.filter fun n => n.toNat.testBit i) = [] := by
    rw [List.filter_eq_nil_iff]
    intro n hn hb
    obtain ⟨h0, h1⟩ := h n hn
    have h2 : n.toNat < 2 ^ i := by
      have : ((n.toNat : Nat) : Int) < ((2 ^ i : Nat) : Int) := by push_cast; omega
      exact Int.ofNat_lt.1 this
    have := Nat.testBit_lt_two_pow h2
    rw [this] at hb; cases hb
  rw [this]; rfl
end Go.Proofs.Ytoigdiekkkkapaa

/- The weights of monomials, as both sides make them: plain; impl.WeightsOf. -/
namespace Go.Proofs.Ytoigdiekkkkapaa
open Go.RowKit
set_option linter.unusedVariables false

/-- what WeightsOf answers -/
def wtB (x : List Int) : Bool := inB (x.length : Int) 1 4 && monB (x.length : Int) x
def wtO (x : List Int) : List Int × Int := if wtB x then (trimL (wgtL x 6), 0) else ([], 2)
theorem wtO_bad {x : List Int} (h : wtB x = false) : wtO x = ([], 2) := by simp [wtO, h]
theorem wtO_ok {x : List Int} (h : wtB x = true) : wtO x = (trimL (wgtL x 6), 0) := by simp [wtO, h]
structure WtF (x : List Int) : Prop where
  lo : 1 ≤ x.length
  hi : x.length ≤ 4
  each : ∀ z ∈ x, 0 ≤ z ∧ z ≤ 40
  sum : x.sum ≤ 40
  pos : 0 ≤ x.sum
theorem wtF_of {x : List Int} (h : wtB x = true) : WtF x := by
  unfold wtB at h
  rw [Bool.and_eq_true] at h
  obtain ⟨h1, h2⟩ := h
  have h3 := inB_iff.1 h1
  simp only [monB, degsB, Bool.and_eq_true, decide_eq_true_eq, List.all_eq_true] at h2
  obtain ⟨⟨_, k2⟩, k3⟩ := h2
  have k4 : ∀ z ∈ x, 0 ≤ z ∧ z ≤ 40 := fun z hz => inB_iff.1 (k2 z hz)
  have k5 := psT_bd x 0 (by omega) (by omega) k4
  exact ⟨by omega, by omega, k4, by omega, k5.2.1⟩
theorem wtB_of {x : List Int} (h : WtF x) : wtB x = true := by
  have h5 := psT_bd x 0 (by omega) (by have := h.hi; omega) h.each
  unfold wtB
  rw [Bool.and_eq_true]
  refine ⟨inB_iff.2 (by have := h.lo; have := h.hi; omega), ?_⟩
  simp only [monB, degsB, Bool.and_eq_true, decide_eq_true_eq, List.all_eq_true]
  exact ⟨⟨trivial, fun z hz => inB_iff.2 (h.each z hz)⟩, by have := h.sum; omega⟩

theorem wgt_nil (i : Nat) : wgt [] i = 0 := rfl
theorem wgt_take {x : List Int} {k : Nat} {z : Int} (h : x[k]? = some z) (i : Nat) : wgt (x.take (k + 1)) i = wgt (x.take k) i + (if z.toNat.testBit i = true then 1 else 0) := by
  unfold wgt
  rw [List.take_add_one, h, List.filter_append, List.length_append]
  simp only [Option.toList, List.filter_cons, List.filter_nil]
  split
  · push_cast; rfl
  · simp
theorem wgt_len (x : List Int) (i : Nat) : 0 ≤ wgt x i ∧ wgt x i ≤ x.length := by
  unfold wgt
  have := List.length_filter_le (fun n : Int => n.toNat.testBit i) x
  omega
/-- the weights while the exponent k is being reckoned in, up to digit i -/
def mixG (x : List Int) (k i : Nat) : List Int := (List.range 6).map fun j => if j < i then wgt (x.take (k + 1)) j else wgt (x.take k) j
theorem mixG_len (x : List Int) (k i : Nat) : (mixG x k i).length = 6 := by simp [mixG]
theorem mixG_zero (x : List Int) (k : Nat) : mixG x k 0 = wgtL (x.take k) 6 := by
  unfold mixG wgtL
  exact List.map_congr_left fun j _ => by rw [if_neg (Nat.not_lt_zero j)]
theorem mixG_six (x : List Int) (k : Nat) : mixG x k 6 = wgtL (x.take (k + 1)) 6 := by
  unfold mixG wgtL
  exact List.map_congr_left fun j hj => by rw [if_pos (List.mem_range.1 hj)]
theorem mixG_at (x : List Int) (k : Nat) {i : Nat} (hi : i < 6) : (mixG x k i)[i]? = some (wgt (x.take k) i) := by
  unfold mixG
  rw [List.getElem?_map, List.getElem?_range hi]
  simp
theorem mixG_set (x : List Int) (k : Nat) {i : Nat} (hi : i < 6) : (mixG x k i).set i (wgt (x.take (k + 1)) i) = mixG x k (i + 1) := by
  apply List.ext_getElem?
  intro j
  unfold mixG
  rw [List.getElem?_set, List.getElem?_map, List.getElem?_map]
  by_cases hj : i = j
  · subst hj
    rw [if_pos rfl, if_pos (by simp; exact hi), List.getElem?_range hi]
    simp
  · rw [if_neg hj]
    by_cases hj6 : j < 6
    · rw [List.getElem?_range hj6]
      simp only [Option.map_some, Option.some.injEq]
      by_cases h : j < i
      · rw [if_pos h, if_pos (by omega)]
      · rw [if_neg h, if_neg (by omega)]
    · rw [List.getElem?_eq_none (by simp; omega)]
      rfl
/-- the last weights are noughts -/
theorem wgtL_more {x : List Int} {L : Nat} (h : ∀ n ∈ x, 0 ≤ n ∧ n < 2 ^ L) : ∀ d, trimL (wgtL x (L + d)) = trimL (wgtL x L)
  | 0 => rfl
  | d + 1 => by
    have hz : wgt x (L + d) = 0 := wgt_zero fun n hn => by
      obtain ⟨h0, h1⟩ := h n hn
      refine ⟨h0, Int.lt_of_lt_of_le h1 ?_⟩
      exact_mod_cast Nat.pow_le_pow_right (by decide) (Nat.le_add_right L d)
    rw [← Nat.add_assoc, wgtL_succ, hz, trimL_zero, wgtL_more h d]
/-- a digit, as the program takes it -/
theorem digit {z : Int} {i : Nat} (h0 : 0 ≤ z) (h1 : z ≤ 40) : bits .and .i64 (z / 2 ^ i) 1 = if z.toNat.testBit i = true then 1 else 0 := by
  obtain ⟨n, rfl⟩ : ∃ n : Nat, z = n := ⟨z.toNat, by omega⟩
  have e : (n : Int) / 2 ^ i = ((n / 2 ^ i : Nat) : Int) := by push_cast; rfl
  have hle : n / 2 ^ i ≤ n := Nat.div_le_self _ _
  rw [e, show (1 : Int) = ((1 : Nat) : Int) from rfl, bits_andN (by omega) (by omega), Nat.and_one_is_mod, Int.toNat_natCast, Nat.testBit_eq_decide_div_mod_eq]
  have := Nat.mod_two_eq_zero_or_one (n / 2 ^ i)
  rcases this with h | h <;> rw [h] <;> simp

def RetW6 (x : List Int) (w : World) (e : Ending) (w' : World) : Prop :=
  ∃ A c, e = .returned (.tuple #[.slice A (wtO x).1.length c, .int .i64 (wtO x).2]) ∧ RdS w' w'.heap.size A (wtO x).1.length c (wtO x).1 ∧ Below w.heap.size w w'
theorem RetW6.mk {x ys : List Int} {k k' : Int} {A : Option Addr} {m c : Nat} {w w' : World} (h : wtO x = (ys, k)) (hk : k' = k) (hm : m = ys.length) (hr : RdS w' w'.heap.size A m c ys) (hb : Below w.heap.size w w') : RetW6 x w (.returned (.tuple #[.slice A m c, .int .i64 k'])) w' := by
  subst hk; subst hm
  refine ⟨A, c, ?_, ?_, hb⟩ <;> rw [h]
  exact hr

set_option maxRecDepth 100000 in
set_option maxHeartbeats 1000000 in
theorem iWeightsOf (A : Option Addr) (n c : Nat) (x : List Int) (w : World) (h : RdS w w.heap.size A n c x) (hn : n ≤ 2000000) :
    Calls Try.prog 13 #[.slice A n c] w (RetW6 x w) := by
  obtain ⟨i0, hi, hq0, hq1, hq2⟩ := info_parts Try.info_i64
  have HL := Lib.hid h.len
  have H := Lib.hid h; clear h
  obtain ⟨t1, ht1⟩ : ∃ t, t = inB (n : Int) 1 4 := ⟨_, rfl⟩
  obtain ⟨t2, ht2⟩ : ∃ t, t = monB (n : Int) x := ⟨_, rfl⟩
  have HV : Hid (wtB x = (t1 && t2)) := Lib.hid (by rw [ht1, ht2, ← HL.out]; rfl)
  have HT1 := Lib.hid ht1; clear ht1
  have HT2 := Lib.hid ht2; clear ht2
  go_enter Try.func13, Try.ntmps13
  go_wp2_with fail
  refine (isCount_any _ _).mono ?_
  rintro e w1 ⟨rfl, hw1⟩
  obtain rfl := hw1.symm
  rw [← HT1.out]
  cases t1
  · have HB := Lib.hid (wtO_bad (HV.out.trans rfl))
    go_wp2_with fail
    go_ret2
    exact RetW6.mk HB.out rfl rfl RdS.nil (Below.refl _ _)
  · go_wp2_with fail
    refine (isMonomial_any A n c x _ _ H.out hn).mono ?_
    rintro e w2 ⟨rfl, hb2⟩
    rw [← HT2.out]
    have HB2 := Lib.hid hb2; clear hb2
    cases t2
    · have HB := Lib.hid (wtO_bad (HV.out.trans rfl))
      go_wp2_with fail
      go_ret2
      exact RetW6.mk HB.out rfl rfl RdS.nil HB2.out
    · have HB := Lib.hid (wtO_ok (HV.out.trans rfl))
      have HF := Lib.hid (wtF_of (HV.out.trans rfl))
      obtain ⟨V, hV⟩ : ∃ V, V = w2.heap.size := ⟨_, rfl⟩
      have hVle : V ≤ w2.heap.size := Nat.le_of_eq hV
      have HVV := Lib.hid hV; clear hV
      go_wp2_with (at_make; refine wpList_make_full _ rfl _ _ 31 rfl V 2 i0 (.int .i64 0) 1 Try.underlying31 hi hq0 hq1 .i64 .i64 _ _ 6 rfl rfl rfl rfl ?b2 ?b3 hVle ?_)
      case b2 => rw [hq2]; omega
      case b3 => unfold maxLen; omega
      intro w4 hown hgr
      have HT : OwnS w4 V (some ⟨w2.heap.size, 0, none⟩) 6 6 (wgtL (x.take 0) 6) := ⟨by rw [wgtL_len], by
        have : wgtL (x.take 0) 6 = List.replicate 6 0 := rfl
        rw [this]
        simpa [toList_madeCells_one, Value.cells] using hown⟩
      have hB4 : Below V w2 w4 := (Below.refl _ _).grown hgr hVle (by simp)
      have HX := Lib.hid (HB2.out.trans (hB4.mono (by rw [HVV.out]; exact HB2.out.size)))
      have HR := Lib.hid ((H.out.below HB2.out).below (hB4.mono (by rw [HVV.out]; exact HB2.out.size)))
      obtain ⟨g, hg⟩ : ∃ g, g = w2.heap.size := ⟨_, rfl⟩
      rw [← hg] at HT ⊢
      have HT := Lib.hid HT
      have HVb := Lib.hid (show w.heap.size ≤ V by rw [HVV.out]; exact HB2.out.size)
      clear hown hgr hVle hi hq0 hq1 hq2 hB4 hg
      go_wp2_with fail
      go_loopw [23] (fun i wr => ∃ k : Nat, k ≤ n ∧ i = .int .i64 k ∧ Hid (OwnS wr V (some ⟨g, 0, none⟩) 6 6 (wgtL (x.take k) 6)) ∧ Hid (Below V w4 wr)) (fun i _ => n - (intOf i).toNat)
      case atStart => exact ⟨0, Nat.zero_le _, rfl, HT, Lib.hid (Below.refl _ _)⟩
      case round =>
        clear HT
        obtain ⟨k, hk, rfl, HT, HG⟩ := hrel
        have HRr := Lib.hid (HR.out.below (HG.out.mono HVb.out))
        by_cases hlt : k < n
        · obtain ⟨ad, z, rfl, _, hz, hcz⟩ := HRr.out.at_ hlt
          have hz40 := HF.out.each z (mem_of hz)
          have HZ := Lib.hid hz
          go_wp2_with fail
          go_loopw [29] (fun i wz => ∃ j : Nat, j ≤ 6 ∧ i = .int .i64 j ∧ Hid (OwnS wz V (some ⟨g, 0, none⟩) 6 6 (mixG x k j)) ∧ Hid (Below V w4 wz)) (fun i _ => 6 - (intOf i).toNat)
          case atStart => exact ⟨0, Nat.zero_le _, rfl, by rw [mixG_zero]; exact HT, HG⟩
          case round =>
            clear HT HG HRr
            obtain ⟨j, hj, rfl, HT, HG⟩ := hrel
            by_cases hjt : j < 6
            · obtain ⟨g', y, hg', hVg, hgl, hy, hc5, hf5, hset⟩ := HT.out.at_ hjt
              obtain ⟨rfl⟩ : g = g' := by simpa using hg'
              have hy2 := hy.out
              rw [mixG_at x k hjt] at hy2
              injection hy2 with hy2
              have hdg := digit (i := j) hz40.1 hz40.2
              go_wp2_with fail
              have hval : wrap64 (y + if z.toNat.testBit j = true then 1 else 0) = wgt (x.take (k + 1)) j := by
                have h1 := wgt_len (x.take (k + 1)) j
                have h2 : (x.take (k + 1)).length ≤ 4 := Nat.le_trans (List.length_take_le' ..) HF.out.hi
                have h3 := wgt_take HZ.out j
                rw [hy2] at h3
                rw [← h3]
                unfold wrap64
                omega
              obtain ⟨HT2, HG2⟩ := hset (wgt (x.take (k + 1)) j)
              rw [mixG_set x k hjt] at HT2
              have HT3 := Lib.hid HT2.drew
              have HG3 := Lib.hid (show Below V w4 (wr.setCell ⟨g, j, none⟩ (.int .i64 (wgt (x.take (k + 1)) j))).drew from below_drewN (HG.out.setCell (p := ⟨g, j, none⟩) hVg _) 1)
              clear hset HT2 HG2 hy2 hy
              go_region
              rw [hval]
              go_wp2_with fail
              go_roundw
              case rel => exact ⟨j + 1, by omega, by go_num, HT3, HG3⟩
              case measure => simp [intOf]; omega
            · obtain rfl : j = 6 := by omega
              have HT2 := Lib.hid (show OwnS wr V (some ⟨g, 0, none⟩) 6 6 (wgtL (x.take (k + 1)) 6) by rw [← mixG_six]; exact HT.out)
              go_wp2_with fail
              go_roundw
              case rel => exact ⟨k + 1, by omega, by go_num, HT2, HG⟩
              case measure => simp [intOf]; omega
        · obtain rfl : k = n := by omega
          have hxt : x.take k = x := List.take_of_length_le (by rw [HL.out]; exact Nat.le_refl _)
          have HT2 := Lib.hid (show OwnS wr V (some ⟨g, 0, none⟩) 6 6 (wgtL x 6) by have := HT.out; rwa [hxt] at this)
          clear hxt
          go_wp2_with fail
          refine (trimmed_any (some ⟨g, 0, none⟩) 6 6 wr.heap.size _ wr HT2.out.rd (by omega)).mono ?_
          rintro e w9 ⟨m, hm, htr, rfl, hw9⟩
          obtain rfl := hw9.symm
          go_wp2_with fail
          go_ret2
          exact RetW6.mk HB.out rfl (by rw [htr, List.length_take, wgtL_len]; omega) (by rw [htr]; exact HT2.out.rd.pre hm) (HX.out.trans (HG.out.mono HVb.out))
end Go.Proofs.Ytoigdiekkkkapaa

/- spec.WeightsOf. -/
namespace Go.Proofs.Ytoigdiekkkkapaa
open Go.RowKit
set_option linter.unusedVariables false

theorem bit_small : ∀ n, n < 41 → ∀ i, i < 7 → ((n &&& 2 ^ i != 0) = n.testBit i) := by decide
theorem bit_and {z : Int} {p i : Nat} (h0 : 0 ≤ z) (h1 : z ≤ 40) (hp : p = 2 ^ i) (hi : i ≤ 6) : (bits .and .i64 z (p : Int) != 0) = z.toNat.testBit i := by
  obtain ⟨n, rfl⟩ : ∃ n : Nat, z = n := ⟨z.toNat, by omega⟩
  have hpl : p ≤ 64 := by rw [hp]; exact Nat.pow_le_pow_right (by decide) hi
  have key := bit_small n (by omega) i (by omega)
  rw [bits_andN (by omega) (by omega), hp, Int.toNat_natCast, ← key]
  by_cases h : n &&& 2 ^ i = 0
  · rw [h]; rfl
  · have h1 : ((n &&& 2 ^ i != 0) = true) := by simpa using h
    rw [h1]
    simp only [bne_iff_ne, ne_eq]
    exact_mod_cast h
theorem sum_take {x : List Int} {k : Nat} {z : Int} (h : x[k]? = some z) : (x.take (k + 1)).sum = (x.take k).sum + z := by
  rw [List.take_add_one, h]; simp
theorem wtB_not {x : List Int} (h : ¬ WtF x) : wtB x = false := by
  cases e : wtB x
  · rfl
  · exact absurd (wtF_of e) h
theorem take_all {x : List Int} {k : Nat} {z : Int} (h : x[k]? = some z) (ha : ∀ y ∈ x.take k, 0 ≤ y ∧ y ≤ 40) (hz : 0 ≤ z ∧ z ≤ 40) : ∀ y ∈ x.take (k + 1), 0 ≤ y ∧ y ≤ 40 := by
  rw [List.take_add_one, h]
  intro y hy
  rcases List.mem_append.1 hy with h | h
  · exact ha y h
  · rw [show y = z from by simpa using h]; exact hz
theorem mem_le_sum : ∀ {x : List Int}, (∀ y ∈ x, 0 ≤ y) → ∀ z ∈ x, z ≤ x.sum
  | [], _, z, hz => by cases hz
  | a :: x, h, z, hz => by
    rw [List.sum_cons]
    have h0 : ∀ {l : List Int}, (∀ y ∈ l, 0 ≤ y) → 0 ≤ l.sum := fun {l} hl => by
      induction l with
      | nil => simp
      | cons b l ih => rw [List.sum_cons]; have := hl b (by simp); have := ih fun y hy => hl y (List.mem_cons_of_mem _ hy); omega
    have ha := h a (by simp)
    have hx := h0 fun y hy => h y (List.mem_cons_of_mem a hy)
    rcases List.mem_cons.1 hz with rfl | hz
    · omega
    · have := mem_le_sum (fun y hy => h y (List.mem_cons_of_mem a hy)) z hz
      omega
theorem wgt_end {x : List Int} {L : Nat} (h : WtF x) (hL : L ≤ 6) (hs : x.sum < ((2 ^ L : Nat) : Int)) : trimL (wgtL x L) = trimL (wgtL x 6) := by
  have h1 : ∀ n ∈ x, 0 ≤ n ∧ n < 2 ^ L := fun n hn => by
    have := mem_le_sum (fun y hy => (h.each y hy).1) n hn
    refine ⟨(h.each n hn).1, ?_⟩
    have e : ((2 ^ L : Nat) : Int) = (2 : Int) ^ L := by push_cast; rfl
    rw [← e]; omega
  have := wgtL_more h1 (6 - L)
  rw [show L + (6 - L) = 6 by omega] at this
  exact this.symm

set_option maxRecDepth 100000 in
set_option maxHeartbeats 1000000 in
theorem sWeightsOf (A : Option Addr) (n c : Nat) (x : List Int) (w : World) (h : RdS w w.heap.size A n c x) (hn : n ≤ 2000000) :
    Calls Try.prog 14 #[.slice A n c] w (RetW6 x w) := by
  have HL := Lib.hid h.len
  have H := Lib.hid h; clear h
  go_enter Try.func14, Try.ntmps14
  go_wp2_with fail
  go_loop [4, 5] (fun s i => ∃ (k : Nat) (t : Int), k ≤ n ∧ i = .int .i64 k ∧ s = .int .i64 t ∧ 0 ≤ t ∧ t ≤ 40 * (k : Int) ∧ Hid (t = (x.take k).sum) ∧ Hid (∀ y ∈ x.take k, 0 ≤ y ∧ y ≤ 40)) (fun _ i => n - (intOf i).toNat)
  case atStart => exact ⟨0, 0, Nat.zero_le _, rfl, rfl, by omega, by omega, Lib.hid (by simp), Lib.hid (by simp)⟩
  case round =>
    obtain ⟨k, t, hk, rfl, rfl, ht0, ht1, HT, HA⟩ := hrel
    by_cases hlt : k < n
    · obtain ⟨ad, z, rfl, _, hz, hcz⟩ := H.out.at_ hlt
      have HZ := Lib.hid hz.out
      go_wp2_with fail
      refine (l01In_any _ _ _ _).mono ?_
      rintro e w1 ⟨rfl, hw1⟩
      obtain rfl := hw1.symm
      obtain ⟨q, hq⟩ : ∃ q, q = inB z 0 40 := ⟨_, rfl⟩
      rw [← hq]
      cases q
      · have HB := Lib.hid (wtO_bad (wtB_not fun hf => by
          have := hf.each z (mem_of hz)
          have := inB_not.1 hq.symm
          omega))
        clear hq
        go_wp2_with fail
        go_ret2
        exact RetW6.mk HB.out rfl rfl RdS.nil (Below.refl _ _)
      · have hz40 := inB_iff.1 hq.symm
        have HS := Lib.hid (sum_take HZ.out)
        have HA2 := Lib.hid (take_all HZ.out HA.out hz40)
        clear hz hq
        go_wp2_with fail
        go_round
        case rel => exact ⟨k + 1, t + z, by omega, by go_num, by go_num, by omega, by push_cast; omega, Lib.hid (by rw [HS.out, HT.out]), HA2⟩
        case measure => simp [intOf]; omega
    · obtain rfl : k = n := by omega
      have hxt : x.take k = x := List.take_of_length_le (by rw [HL.out]; exact Nat.le_refl _)
      have HT2 := Lib.hid (show t = x.sum by have := HT.out; rwa [hxt] at this)
      have HA2 := Lib.hid (show ∀ y ∈ x, 0 ≤ y ∧ y ≤ 40 by have := HA.out; rwa [hxt] at this)
      clear hxt HT HA
      have hcase : (Hid (¬ (1 ≤ k ∧ k ≤ 4 ∧ t ≤ 40))) ∨ (1 ≤ k ∧ k ≤ 4 ∧ t ≤ 40) := by
        by_cases h : 1 ≤ k ∧ k ≤ 4 ∧ t ≤ 40
        · exact .inr h
        · exact .inl (Lib.hid h)
      rcases hcase with hno | ⟨hk1, hk4, ht40⟩
      · have HB := Lib.hid (wtO_bad (x := x) (wtB_not fun hf => hno.out ⟨by have := hf.lo; have := HL.out; omega, by have := hf.hi; have := HL.out; omega, by rw [HT2.out]; exact hf.sum⟩))
        have hno := hno.out
        by_cases hk0 : (k : Int) < 1
        · go_wp2_with fail
          go_ret2
          exact RetW6.mk HB.out rfl rfl RdS.nil (Below.refl _ _)
        · by_cases hk5 : (4 : Int) < (k : Int)
          · go_wp2_with fail
            go_ret2
            exact RetW6.mk HB.out rfl rfl RdS.nil (Below.refl _ _)
          · have ht40 : (40 : Int) < t := by omega
            clear hno
            go_wp2_with fail
            go_ret2
            exact RetW6.mk HB.out rfl rfl RdS.nil (Below.refl _ _)
      · have HF := Lib.hid (show WtF x from ⟨by have := HL.out; omega, by have := HL.out; omega, HA2.out, by rw [← HT2.out]; exact ht40, by rw [← HT2.out]; exact ht0⟩)
        have HB := Lib.hid (wtO_ok (wtB_of HF.out))
        have HS := Lib.hid (StS.start (Below.refl w.heap.size w) (Nat.le_refl _))
        clear ht1
        go_wp2_with fail
        go_loopw [6, 7] (fun o b wr => ∃ (L p c' : Nat) (A' : Option Addr), L ≤ 6 ∧ b = .int .i64 p ∧ o = .slice A' L c' ∧ Hid (p = 2 ^ L) ∧ 1 ≤ p ∧ p ≤ 64 ∧ Hid (StS w w.heap.size wr A' L c' (wgtL x L))) (fun _ b _ => (t + 1 - intOf b).toNat)
        case atStart => exact ⟨0, 1, _, _, by omega, rfl, rfl, Lib.hid rfl, by omega, by omega, HS⟩
        case round =>
          clear HS
          obtain ⟨L, p, c', A', hL, rfl, rfl, HPw, hp1, hp64, HS⟩ := hrel
          have HR := Lib.hid (H.out.below HS.out.bel)
          by_cases hpt : (p : Int) ≤ t
          · have hL5 : L ≤ 5 := by
              rcases Nat.lt_or_ge 5 L with h | h
              · have := Nat.pow_le_pow_right (n := 2) (by decide) (show 6 ≤ L from h)
                have := HPw.out
                omega
              · exact h
            have hp32 : p ≤ 32 := by
              have := Nat.pow_le_pow_right (n := 2) (by decide) hL5
              have := HPw.out
              omega
            go_wp2_with fail
            go_loop [8, 9] (fun cn i => ∃ (j : Nat) (u : Int), j ≤ k ∧ i = .int .i64 j ∧ cn = .int .i64 u ∧ 0 ≤ u ∧ u ≤ j ∧ Hid (u = wgt (x.take j) L)) (fun _ i => k - (intOf i).toNat)
            case atStart => exact ⟨0, 0, Nat.zero_le _, rfl, rfl, by omega, by omega, Lib.hid rfl⟩
            case round =>
              obtain ⟨j, u, hj, rfl, rfl, hu0, huj, HU⟩ := hrel
              by_cases hjt : j < k
              · obtain ⟨ad, z, rfl, _, hz, hcz⟩ := HR.out.at_ hjt
                have hz40 := HA2.out z (mem_of hz)
                have HW := Lib.hid (wgt_take hz.out L)
                obtain ⟨q, hq⟩ : ∃ q, q = z.toNat.testBit L := ⟨_, rfl⟩
                have hba := bit_and (p := p) (i := L) hz40.1 hz40.2 HPw.out hL
                rw [← hq] at hba HW
                clear hz hq
                cases q
                · go_wp2_with fail
                  go_round
                  case rel => exact ⟨j + 1, u, by omega, by go_num, rfl, hu0, by push_cast; omega, Lib.hid (by rw [HW.out, ← HU.out]; simp)⟩
                  case measure => simp [intOf]; omega
                · go_wp2_with fail
                  go_round
                  case rel => exact ⟨j + 1, u + 1, by omega, by go_num, by go_num, by omega, by push_cast; omega, Lib.hid (by rw [HW.out, ← HU.out]; simp)⟩
                  case measure => simp [intOf]; omega
              · obtain rfl : j = k := by omega
                have hxt : x.take j = x := List.take_of_length_le (by rw [HL.out]; exact Nat.le_refl _)
                have HU2 := Lib.hid (show u = wgt x L by have := HU.out; rwa [hxt] at this)
                have HW2 := Lib.hid (show wgtL x L ++ [u] = wgtL x (L + 1) by rw [wgtL_succ, HU2.out])
                have HP2 := Lib.hid (show p * 2 = 2 ^ (L + 1) by rw [HPw.out, Nat.pow_succ])
                clear hxt HU
                go_wp2_with (at_builtin; refine wpList_pushI rfl (.tmp 62) (.tmp 64) rfl rfl rfl HS.out (by omega) ?_)
                intro A6 c6 w6 hs6 _
                rw [HW2.out] at hs6
                have HS6 := Lib.hid hs6; clear hs6
                go_wp2_with fail
                go_roundw
                case rel => exact ⟨L + 1, p * 2, c6, A6, by omega, by go_num, rfl, HP2, by omega, by omega, HS6⟩
                case measure => simp [intOf]; omega
          · have HWe := Lib.hid (wgt_end HF.out hL (by rw [← HPw.out, ← HT2.out]; omega))
            have HRd := Lib.hid HS.out.own.rd
            go_wp2_with fail
            go_loop [10] (fun v => ∃ m : Nat, m ≤ L ∧ v = .int .i64 m ∧ Hid (trimL (wgtL x L) = trimL ((wgtL x L).take m))) (fun v => (intOf v).toNat)
            case atStart => exact ⟨L, Nat.le_refl _, rfl, Lib.hid (by rw [List.take_of_length_le (by rw [wgtL_len]; exact Nat.le_refl _)])⟩
            case round =>
              obtain ⟨m, hm, rfl, HM⟩ := hrel
              have fin : ∀ (m' : Nat), m' ≤ L → trimL (wgtL x L) = (wgtL x L).take m' → RetW6 x w (.returned (.tuple #[.slice A' m' c', .int .i64 0])) wr := fun m' hm' he =>
                RetW6.mk HB.out rfl (by rw [← HWe.out, he, List.length_take, wgtL_len]; omega) (by rw [← HWe.out, he]; exact HRd.out.pre hm') HS.out.bel
              have Hfin := Lib.hid fin
              clear fin
              have hcap := HRd.out.cap
              by_cases hm0 : m = 0
              · subst hm0
                have hsl := fun W => run_pre A' L c' 0 (by omega) W
                go_wp2_with fail
                go_ret2
                exact Hfin.out 0 (Nat.zero_le _) (by rw [HM.out]; rfl)
              · obtain ⟨r, hr⟩ : ∃ r, m = r + 1 := ⟨m - 1, by omega⟩
                obtain ⟨ad, y, rfl, _, hy, hcy⟩ := HRd.out.at_ (k := r) (by omega)
                have HX := Lib.hid (take_snoc hy hr)
                have hpos : (0 : Int) < (m : Int) := by omega
                have hwk : IntKind.i64.wrap ((m : Int) - 1) = (r : Int) := by rw [IntKind.wrap_i64]; omega
                have hr0 : (0 : Int) ≤ (r : Int) := by omega
                have hrm : (r : Int) < (L : Int) := by omega
                have hsl := fun W => run_pre (some ad) L c' m (by omega) W
                have hrm2 : r < m := by omega
                clear hy hr
                by_cases hz : y = 0
                · subst hz
                  go_wp2_with fail
                  go_round
                  case rel => exact ⟨r, by omega, by go_num, Lib.hid (by rw [HM.out, HX.out, trimL_zero])⟩
                  case measure => simp [intOf]; omega
                · have hz1 : (y == 0) = false := by simpa using hz
                  have HT3 := Lib.hid (show trimL (wgtL x L) = (wgtL x L).take m from by rw [HM.out, HX.out, trimL_keep hz])
                  clear hz
                  go_wp2_with fail
                  go_ret2
                  exact Hfin.out m hm HT3.out
end Go.Proofs.Ytoigdiekkkkapaa
