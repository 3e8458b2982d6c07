/- spec.l01Parity, spec.l08Monomial, spec.l08Square. -/
import Derived.Test.YtoodhbafleemjaaGreatSqm
import Derived.Test.YtoodhbafleemjaaGreatSumL
import Derived.Test.YtoodhbafleemjaaGreatWords
namespace Go.Proofs.YtoodhbafleemjaaGreat
open Go.RowKit
set_option linter.unusedVariables false

def parB (n k : Int) : Bool := decide (n.toNat &&& k.toNat = k.toNat)
set_option maxRecDepth 100000 in
theorem parity_any (n k : Int) (w : World) (h0 : 0 ≤ k) (h1 : k ≤ n) (h2 : n < 9223372036854775808) : Calls Tryz.prog 134 #[.int .i64 n, .int .i64 k] w (RetI (if parB n k then 1 else 0) w) := by
  have h := and_sub (n := n) (j := k) (by omega) h0 h2 (by omega)
  by_cases hp : n.toNat &&& k.toNat = k.toNat
  · have hb : (bits .and .i64 n k != k) = false := by simpa using h.2 hp
    have HE : Hid ((if parB n k then (1 : Int) else 0) = 1) := Lib.hid (by simp [parB, hp])
    rw [HE.out]
    clear h hp
    go_enter Tryz.func134, Tryz.ntmps134
    go_wp2_with fail
    go_ret
    exact RetI.mk (y := 1) rfl
  · have hb : (bits .and .i64 n k != k) = true := by
      have : ¬ bits .and .i64 n k = k := fun e => hp (h.1 e)
      simpa using this
    have HE : Hid ((if parB n k then (1 : Int) else 0) = 0) := Lib.hid (by simp [parB, hp])
    rw [HE.out]
    clear h hp
    go_enter Tryz.func134, Tryz.ntmps134
    go_wp2_with fail
    go_ret
    exact RetI.mk (y := 0) rfl

/-- what l08Monomial sums: Sq^i of the exponents from p on, those ahead as they are -/
def monT (term : List Int) (p : Nat) (i : Int) : List (List Int) := (sqW (term.drop p) i).map (term.take p ++ ·)
def monF (term : List Int) (p : Nat) (x i : Int) (j : Nat) : List (List Int) := if x.toNat &&& j = j then (sqW (term.drop (p + 1)) (i - j)).map (fun z => term.take p ++ (x + j) :: z) else []
theorem monT_flat {term : List Int} {p : Nat} {x i : Int} (h : term[p]? = some x) : monT term p i = (List.range (min x i + 1).toNat).flatMap (monF term p x i) := by
  obtain ⟨hp, e⟩ := List.getElem?_eq_some_iff.1 h
  unfold monT
  rw [List.drop_eq_getElem_cons hp, e]
  simp only [sqW]
  rw [List.map_flatMap]
  congr 1
  funext j
  unfold monF
  split
  · rw [List.map_map]
    congr 1
  · rfl
theorem monT_end {term : List Int} {p : Nat} {i : Int} (h : term.length = p) : monT term p i = if i = 0 then [term] else [] := by
  unfold monT
  rw [List.drop_of_length_le (by omega), List.take_of_length_le (by omega)]
  simp only [sqW]
  split <;> simp
theorem monT_len {term : List Int} {p : Nat} {i : Int} (hi : i ≤ 63) (hn : term.length ≤ 4) : (monT term p i).length ≤ 16777216 := by
  unfold monT
  rw [List.length_map]
  refine Nat.le_trans (sqW_len _ _ hi) ?_
  have e64 : (64 : Nat) ^ 4 = 16777216 := by decide
  rw [← e64]
  exact Nat.pow_le_pow_right (by decide) (by rw [List.length_drop]; omega)
theorem monT_each {term : List Int} {p : Nat} {i : Int} (h0 : ∀ a ∈ term, (0 : Int) ≤ a) : ∀ z ∈ monT term p i, z.length = term.length := by
  intro z hz
  obtain ⟨y, hy, rfl⟩ := List.mem_map.1 hz
  have := (sqW_deg (x := term.drop p) (fun a ha => h0 a (List.mem_of_mem_drop ha)) y hy).2.2
  rw [List.length_append, this, ← List.length_append, List.take_append_drop]
theorem monF_next {term : List Int} {p : Nat} {x i : Int} {j : Nat} (h : term[p]? = some x) (hj : x.toNat &&& j = j) : monF term p x i j = monT (term.set p (x + j)) (p + 1) (i - j) := by
  obtain ⟨hp, e⟩ := List.getElem?_eq_some_iff.1 h
  unfold monF monT
  rw [if_pos hj]
  have h1 : (term.set p (x + j)).drop (p + 1) = term.drop (p + 1) := by
    rw [List.drop_set]; simp
  have h2 : (term.set p (x + j)).take (p + 1) = term.take p ++ [x + (j : Int)] := by
    rw [List.take_add_one, List.take_set]
    rw [List.getElem?_set_self (by simpa using hp)]
    rw [List.set_eq_of_length_le (by rw [List.length_take]; omega)]
    rfl
  rw [h1, h2]
  congr 1
  funext z
  simp
theorem oddL_oddL (P Q : List (List Int)) : oddL (oddL P ++ oddL Q) = oddL (P ++ Q) := oddL_congr ((oddL_same P).append (oddL_same Q))
theorem flat_succL {F : Nat → List (List Int)} (j : Nat) : (List.range (j + 1)).flatMap F = (List.range j).flatMap F ++ F j := by
  rw [List.range_succ, List.flatMap_append]; simp
theorem totalL_oddL {L : List (List Int)} {c : Nat} (h : ∀ z ∈ L, z.length ≤ c) : totalL (oddL L) ≤ (oddL L).length * c := totalL_le _ c fun z hz => h z (oddL_mem hz)

set_option maxRecDepth 100000 in
set_option maxHeartbeats 1000000 in
theorem mon_any : ∀ (m : Nat) (A : Option Addr) (n c p : Nat) (term : List Int) (i : Int) (w : World), n - p = m → p ≤ n → RdS w w.heap.size A n c term → (∀ a ∈ term, 0 ≤ a ∧ a ≤ 1000) → (∀ a ∈ term.drop p, a ≤ 63) → 0 ≤ i → i ≤ 63 → n ≤ 4 →
    Calls Tryz.prog 116 #[.slice A n c, .int .i64 p, .int .i64 i] w (RetL (oddL (monT term p i)).length (oddL (monT term p i)) w)
  | 0, A, n, c, p, term, i, w, hm, hp, hr, h0, h1, hi, hi2, hn => by
    have hpn : p = n := by omega
    subst hpn
    have hT := monT_end (i := i) hr.len
    by_cases hi0 : i = 0
    · subst hi0
      rw [if_pos rfl] at hT
      have HT : Hid (oddL (monT term p 0) = [term]) := Lib.hid (by rw [hT]; simp [oddL, insX])
      have HO := Lib.hid (own_st A p c _ term w hr (Nat.le_refl _) (by omega))
      rw [HT.out]
      clear hT hr h0 h1 hm
      have hp1 : ((p : Int) == (p : Int)) = true := by simp
      go_enter Tryz.func116, Tryz.ntmps116
      go_wp2_with fail
      refine HO.out.mono ?_
      rintro e w1 ⟨A1, c1, rfl, ho1, hb1⟩
      have O1 := Lib.hid ho1
      have B1 := Lib.hid hb1
      clear ho1 hb1
      go_wp2_with fail
      go_ret
      exact ⟨_, _, rfl, (ownL_one O1.out B1.out.size).mono (Nat.le_refl _) (by simp), B1.out.alloc B1.out.size _⟩
    · rw [if_neg hi0] at hT
      have HT : Hid (oddL (monT term p i) = []) := Lib.hid (by rw [hT]; rfl)
      rw [HT.out]
      have hi1 : (i == 0) = false := by simpa using hi0
      clear hT hr h0 h1 hm hi0
      go_enter Tryz.func116, Tryz.ntmps116
      go_wp2_with fail
      go_ret
      exact ⟨none, 0, rfl, OwnL.nil, Below.refl _ _⟩
  | m + 1, A, n, c, p, term, i, w, hm, hp, hr, h0, h1, hi, hi2, hn => by
    have IH := Lib.hid (mon_any m)
    have hpn : p < n := by omega
    have hpl : p < term.length := by rw [hr.len]; exact hpn
    obtain ⟨ad, x, rfl, hbk, hx, hcx⟩ := hr.at_ hpn
    have hx0 := h0 x (mem_of hx)
    have hx63 : x ≤ 63 := h1 x (by rw [List.drop_eq_getElem_cons hpl]; have := get_of hx hpl; simp [this])
    have HT := Lib.hid (monT_flat (i := i) hx.out)
    obtain ⟨F, hF⟩ : ∃ F, F = monF term p x i := ⟨_, rfl⟩
    have HF := Lib.hid (show ∀ j, x.toNat &&& j = j → F j = monT (term.set p (x + j)) (p + 1) (i - j) from fun j hj => by rw [hF]; exact monF_next hx.out hj)
    have HF0 := Lib.hid (show ∀ j, ¬ x.toNat &&& j = j → F j = [] from fun j hj => by rw [hF]; unfold monF; rw [if_neg hj])
    have HFl := Lib.hid (show ∀ q : Nat, q ≤ 64 → ((List.range q).flatMap F).length ≤ 1073741824 from fun q hq => by
      refine Nat.le_trans (flat_range_len' (c := 16777216) q fun j hj => ?_) (Nat.mul_le_mul hq (Nat.le_refl _))
      by_cases hb : x.toNat &&& j = j
      · rw [hF, monF_next hx.out hb]
        exact monT_len (by omega) (by rw [List.length_set, hr.len]; exact hn)
      · rw [hF]; unfold monF; rw [if_neg hb]; simp)
    have HFe := Lib.hid (show ∀ q : Nat, ∀ z ∈ (List.range q).flatMap F, z.length ≤ 4 from fun q z hz => by
      obtain ⟨j, _, hz⟩ := List.mem_flatMap.1 hz
      by_cases hb : x.toNat &&& j = j
      · rw [hF, monF_next hx.out hb] at hz
        have := monT_each (p := p + 1) (i := i - j) (term := term.set p (x + j)) (fun a ha => by
          rcases List.mem_or_eq_of_mem_set ha with ha | ha
          · exact (h0 a ha).1
          · omega) z hz
        rw [this, List.length_set, hr.len]; exact hn
      · rw [hF] at hz; unfold monF at hz; rw [if_neg hb] at hz; cases hz)
    rw [← hF] at HT
    have H0 := Lib.hid h0
    have H1 := Lib.hid h1
    have HR := Lib.hid hr
    have HXI := Lib.hid hx
    obtain ⟨R, hR⟩ : ∃ R, R = RetL (oddL (monT term p i)).length (oddL (monT term p i)) w := ⟨_, rfl⟩
    have HRR := Lib.hid hR
    rw [← hR]
    obtain ⟨B, hB⟩ : ∃ B, B = w.heap.size := ⟨_, rfl⟩
    obtain ⟨w0, hw0⟩ : ∃ w0, w0 = w.alloc (.cells #[] 41) := ⟨_, rfl⟩
    have S0 := Lib.hid (show OwnL w0 B w0.heap.size (some ⟨B, 0, none⟩) 0 0 [] from by
      have := (StL.start (Below.refl w.heap.size w) (Nat.le_refl _)).own
      rw [hw0, hB]
      simpa using this)
    have B0 := Lib.hid (show Below B w w0 from by rw [hw0, hB]; exact (Below.refl _ _).alloc (Nat.le_refl _) _)
    have HB := Lib.hid hB
    have HW0 := Lib.hid hw0
    have hpne : ((p : Int) == (n : Int)) = false := by simp; omega
    have hpne2 : (p == n) = false := by simp; omega
    obtain ⟨hx0, _⟩ := hx0
    have HM := Lib.hid hm
    have hadb : ad.block < B := by rw [hB]; exact hbk
    clear h0 h1 hr hx hR hB hw0 hF hm hpl hbk
    go_enter Tryz.func116, Tryz.ntmps116
    go_wp2_with fail
    rw [← HW0.out, ← HB.out]
    go_loopw [7, 8] (fun v u wr => ∃ (j l c' : Nat) (A : Option Addr) (P : List (List Int)), (j : Int) ≤ i + 1 ∧ (j : Int) ≤ x + 1 ∧ u = .int .i64 j ∧ v = .slice A l c' ∧ Hid (P = (List.range j).flatMap F) ∧ Hid (OwnL wr B wr.heap.size A l c' (oddL P)) ∧ Hid (Below B w wr)) (fun _ u _ => 100 - (intOf u).toNat)
    case atStart => exact ⟨0, 0, 0, _, [], by omega, by omega, rfl, rfl, Lib.hid rfl, S0, B0⟩
    case round =>
      clear S0 B0
      obtain ⟨j, l, c', A, P, hj1, hj2, rfl, rfl, HP, HO, HW⟩ := hrel
      have hcw : wr.cell? (ad.add p) = some (.int .i64 x) := (HW.out.cell (p := ad.add p) (by rw [block_of_add]; exact hadb)).trans hcx
      by_cases hin1 : (j : Int) ≤ i
      · by_cases hin2 : (j : Int) ≤ x
        · obtain ⟨t, ht⟩ : ∃ t, t = parB x j := ⟨_, rfl⟩
          have HPT := Lib.hid ht
          have HC1 := Lib.hid (parity_any x j wr (by omega) hin2 (by omega))
          rw [← ht] at HC1
          clear ht
          cases t
          · have HFj := Lib.hid (HF0.out j (by
              have := HPT.out
              unfold parB at this
              have := of_decide_eq_false this.symm
              simpa using this))
            go_wp2_with fail
            refine HC1.out.mono ?_
            rintro e w1 ⟨rfl, rfl⟩
            go_wp2_with fail
            go_roundw
            case rel => exact ⟨j + 1, l, c', A, P, by omega, by omega, by go_num, rfl, Lib.hid (by rw [flat_succL, HFj.out, List.append_nil]; exact HP.out), HO, HW⟩
            case measure => simp [intOf]; omega
          · have HFj := Lib.hid (HF.out j (by
              have := HPT.out
              unfold parB at this
              have := of_decide_eq_true this.symm
              simpa using this))
            go_wp2_with fail
            refine HC1.out.mono ?_
            rintro e w1 ⟨rfl, rfl⟩
            go_wp2_with fail
            have RW := (HR.out.below (by rw [← HB.out]; exact HW.out)).mono (show w.heap.size ≤ w1.heap.size from HW.out.size)
            refine (own_st (some ad) n c _ term w1 RW (Nat.le_refl _) (by omega)).mono ?_
            rintro e w2 ⟨A2, c2, rfl, ho2, hb2⟩
            obtain ⟨g, x', rfl, hg0, hg1, hgx, hgc, hgf, hup⟩ := ho2.at_ (k := p) hpn
            have hxx : x' = x := by
              have h1 := HXI.out
              rw [hgx.out] at h1
              exact Option.some.inj h1
            subst hxx
            obtain ⟨ho3, hg3⟩ := hup (x' + (j : Int))
            obtain ⟨w3, hw3⟩ : ∃ W, W = w2.setCell ⟨g, p, none⟩ (.int .i64 (x' + (j : Int))) := ⟨_, rfl⟩
            rw [← hw3] at ho3 hg3
            have HW3 := Lib.hid hw3
            have O3 := Lib.hid ho3
            have B3 := Lib.hid (hb2.grown hg3 hb2.size (by intro k hk; injection hk with hk; omega))
            have hwj : IntKind.i64.wrap (x' + (j : Int)) = x' + (j : Int) := by rw [IntKind.wrap_i64]; omega
            have hwi : IntKind.i64.wrap (i - (j : Int)) = i - (j : Int) := by rw [IntKind.wrap_i64]; omega
            have hcp : (Addr.add ⟨g, 0, none⟩ p) = ⟨g, p, none⟩ := by simp [Addr.add]; intro h; exact h.symm
            have HI := IH.out (some ⟨g, 0, none⟩) n c2 (p + 1) (term.set p (x' + (j : Int))) (i - (j : Int)) w3 (by have := HM.out; omega) (by omega) O3.out.rd (fun a ha => by
              rcases List.mem_or_eq_of_mem_set ha with ha | ha
              · exact H0.out a ha
              · omega) (fun a ha => by
              rw [List.drop_set] at ha
              simp at ha
              exact H1.out a (by rw [← List.drop_drop] at ha; exact List.mem_of_mem_drop ha)) (by omega) (by omega) hn
            have e1 : ((p + 1 : Nat) : Int) = (p : Int) + 1 := by omega
            rw [e1] at HI
            obtain ⟨Q, hQ⟩ : ∃ Q, Q = monT (term.set p (x' + (j : Int))) (p + 1) (i - (j : Int)) := ⟨_, rfl⟩
            rw [← hQ] at HI HFj
            have HQl := Lib.hid (show Q.length ≤ 1073741824 from by
              have := HFl.out (j + 1) (by omega)
              rw [flat_succL, List.length_append, HFj.out] at this
              omega)
            have HQe := Lib.hid (show ∀ z ∈ Q, z.length ≤ 4 from fun z hz => HFe.out (j + 1) z (by rw [flat_succL, HFj.out]; exact List.mem_append_right _ hz))
            have HPl := Lib.hid (show P.length ≤ 1073741824 from by rw [HP.out]; exact HFl.out j (by omega))
            have HPe := Lib.hid (show ∀ z ∈ P, z.length ≤ 4 from by rw [HP.out]; exact HFe.out j)
            have HI := Lib.hid HI
            clear ho2 hb2 hgx hw3 ho3 hg3 e1 hQ RW hup
            go_wp2_with fail
            rw [← HW3.out]
            refine HI.out.mono ?_
            rintro e w4 ⟨A4, c4, rfl, ho4, hb4⟩
            obtain ⟨lq, hlq⟩ : ∃ lq, lq = (oddL Q).length := ⟨_, rfl⟩
            rw [← hlq] at ho4 ⊢
            have B4 := Lib.hid (B3.out.trans (hb4.mono B3.out.size))
            have O4 := Lib.hid ho4.rd
            have R4 := Lib.hid (HO.out.below B4.out).rd
            have hl := HO.out.len
            have HLP := Lib.hid hl
            have HS := Lib.hid (l01Sum_any A A4 l c' lq c4 (oddL P) (oddL Q) w4 R4.out O4.out (by rw [← HO.out.len]; have := oddL_len P; have := HPl.out; omega) (by rw [hlq]; have := oddL_len Q; have := HQl.out; omega)
              (by have h1 := totalL_oddL HPe.out; have := oddL_len P; have := HPl.out; omega) (by have h1 := totalL_oddL HQe.out; have := oddL_len Q; have := HQl.out; omega) (oddL_asc P) (oddL_asc Q))
            rw [oddL_oddL] at HS
            clear ho4 hb4 hlq hl
            go_wp2_with fail
            refine HS.out.mono ?_
            rintro e w5 ⟨A5, c5, rfl, ho5, hb5⟩
            obtain ⟨ls, hls⟩ : ∃ ls, ls = (oddL (P ++ Q)).length := ⟨_, rfl⟩
            rw [← hls] at ho5 ⊢
            have HBw := HW.out.size
            rw [← HB.out] at HBw
            have W5 := Lib.hid ((HW.out.trans (B4.out.mono HBw)).trans (hb5.mono (Nat.le_trans HBw B4.out.size)))
            have O5 := Lib.hid (show OwnL w5 B w5.heap.size A5 ls c5 (oddL (P ++ Q)) from ho5.mono (Nat.le_trans HBw B4.out.size) (Nat.le_refl _))
            clear ho5 hb5 hls HBw
            go_wp2_with fail
            go_roundw
            case rel => exact ⟨j + 1, ls, c5, A5, P ++ Q, by omega, by omega, by go_num, rfl, Lib.hid (by rw [flat_succL, HFj.out, ← HP.out]), O5, W5⟩
            case measure => simp [intOf]; omega
        · have HME := Lib.hid (show (min x i + 1).toNat = j by omega)
          go_wp2_with fail
          rw [HRR.out, HT.out, HME.out, ← HP.out]
          rw [HB.out] at HO HW
          obtain rfl := HO.out.len
          exact ⟨A, c', rfl, HO.out, HW.out⟩
      · have HME := Lib.hid (show (min x i + 1).toNat = j by omega)
        go_wp2_with fail
        rw [HRR.out, HT.out, HME.out, ← HP.out]
        rw [HB.out] at HO HW
        obtain rfl := HO.out.len
        exact ⟨A, c', rfl, HO.out, HW.out⟩

theorem monT_zero (x : List Int) (i : Int) : monT x 0 i = sqW x i := by
  unfold monT
  rw [List.drop_zero, List.take_zero]
  simp
theorem sqP_take_succ {xss : List (List Int)} {m : Nat} {x : List Int} {i : Int} (h : Hid (xss[m]? = some x)) : sqP (xss.take (m + 1)) i = sqP (xss.take m) i ++ sqW x i := by
  unfold sqP
  rw [List.take_add_one, h.out, List.flatMap_append]
  simp
set_option maxRecDepth 100000 in
set_option maxHeartbeats 1000000 in
theorem l08Square_any (A : Option Addr) (n c k : Nat) (d i : Int) (xss : List (List Int)) (w : World) (h : RdL w w.heap.size A n c xss) (hx : ∀ x ∈ xss, Deg k d x) (hi : 0 ≤ i) (hd : d + i ≤ 63) (hk : k ≤ 4) (hn : n ≤ 100000000) :
    Calls Tryz.prog 73 #[.slice A n c, .int .i64 i] w (RetL (oddL (sqP xss i)).length (oddL (sqP xss i)) w) := by
  have Hl := Lib.hid h.len
  have H := Lib.hid h
  have HX := Lib.hid hx
  have HMo := Lib.hid (show ∀ m : Nat, ∀ z ∈ sqP (xss.take m) i, Mono k z from fun m z hz => (sqP_deg (fun x hx1 => hx x (List.mem_of_mem_take hx1)) z hz).mono hd)
  have HSm := Lib.hid (show ∀ m : Nat, (oddL (sqP (xss.take m) i)).length ≤ 16777216 ∧ totalL (oddL (sqP (xss.take m) i)) ≤ 67108864 from fun m => by
    have h1 := oddL_small (HMo.out m) hk
    have h2 := totalL_oddL (c := 4) (fun z hz => by have := (HMo.out m z hz).2; omega)
    omega)
  obtain ⟨R, hR⟩ : ∃ R, R = RetL (oddL (sqP xss i)).length (oddL (sqP xss i)) w := ⟨_, rfl⟩
  have HR := Lib.hid hR
  rw [← hR]
  obtain ⟨B, hB⟩ : ∃ B, B = w.heap.size := ⟨_, rfl⟩
  obtain ⟨w0, hw0⟩ : ∃ w0, w0 = w.alloc (.cells #[] 41) := ⟨_, rfl⟩
  have S0 := Lib.hid (show OwnL w0 B w0.heap.size (some ⟨B, 0, none⟩) 0 0 [] from by
    have := (StL.start (Below.refl w.heap.size w) (Nat.le_refl _)).own
    rw [hw0, hB]
    simpa using this)
  have B0 := Lib.hid (show Below B w w0 from by rw [hw0, hB]; exact (Below.refl _ _).alloc (Nat.le_refl _) _)
  have HB := Lib.hid hB
  have HW0 := Lib.hid hw0
  clear hx h hR hB hw0
  go_enter Tryz.func73, Tryz.ntmps73
  go_wp2_with fail
  rw [← HW0.out, ← HB.out]
  go_loopw [5, 6] (fun v u wr => ∃ (m l c' : Nat) (A' : Option Addr) (P : List (List Int)), m ≤ n ∧ u = .int .i64 m ∧ v = .slice A' l c' ∧ Hid (P = oddL (sqP (xss.take m) i)) ∧ Hid (OwnL wr B wr.heap.size A' l c' P) ∧ Hid (Below B w wr)) (fun _ u _ => n - (intOf u).toNat)
  case atStart => exact ⟨0, 0, 0, _, [], Nat.zero_le _, rfl, rfl, Lib.hid rfl, S0, B0⟩
  case round =>
    clear S0 B0
    obtain ⟨m, l, c', A', P, hm, rfl, rfl, HP, HO, HW⟩ := hrel
    by_cases hlt : m < n
    · obtain ⟨ad, A3, n3, c3, x, rfl, _, hxk, hc, hr⟩ := (H.out.below (by rw [← HB.out]; exact HW.out)).at_ hlt
      have hdg := HX.out x (List.mem_of_getElem? hxk.out)
      have hn3 : n3 = k := by rw [← hr.len]; exact hdg.2.2
      have hD0 := sum_nonneg' hdg.1
      have hge : ∀ a ∈ x, a ≤ 63 := fun a ha => by have := sum_ge_mem hdg.1 a ha; have := hdg.2.1; omega
      have HC := mon_any n3 A3 n3 c3 0 x i wr (by omega) (Nat.zero_le _) (hr.mono HW.out.size) (fun a ha => ⟨hdg.1 a ha, by have := hge a ha; omega⟩) (by rw [List.drop_zero]; exact hge) hi (by have := hdg.2.1; omega) (by omega)
      rw [monT_zero] at HC
      have e1 : ((0 : Nat) : Int) = 0 := rfl
      rw [e1] at HC
      have HQm := Lib.hid (show ∀ z ∈ sqW x i, Mono k z from fun z hz => (hdg.sq z hz).mono hd)
      obtain ⟨Q, hQ⟩ : ∃ Q, Q = sqW x i := ⟨_, rfl⟩
      rw [← hQ] at HC HQm
      have HQ := Lib.hid hQ
      have HC := Lib.hid HC
      have HXK := Lib.hid hxk
      clear hdg hn3 hD0 hge e1 hQ hr
      go_wp2_with fail
      refine HC.out.mono ?_
      rintro e w4 ⟨A4, c4, rfl, ho4, hb4⟩
      obtain ⟨lq, hlq⟩ : ∃ lq, lq = (oddL Q).length := ⟨_, rfl⟩
      rw [← hlq] at ho4 ⊢
      have hs1 := HSm.out m
      rw [← HP.out] at hs1
      have hq1 := oddL_small HQm.out hk
      have hq2 := totalL_oddL (L := Q) (c := 4) (fun z hz => by have := (HQm.out z hz).2; omega)
      have HS := l01Sum_any A' A4 l c' lq c4 P (oddL Q) w4 (HO.out.below hb4).rd ho4.rd (by rw [← HO.out.len]; omega) (by rw [hlq]; omega) (by omega) (by omega) (by rw [HP.out]; exact oddL_asc _) (oddL_asc Q)
      rw [HP.out, oddL_oddL, HQ.out, ← sqP_take_succ HXK.out] at HS
      have HS := Lib.hid HS
      have HBw := HW.out.size
      rw [← HB.out] at HBw
      have W4 := Lib.hid (HW.out.trans (hb4.mono HBw))
      have Z4 := Lib.hid (show B ≤ w4.heap.size from Nat.le_trans HBw hb4.size)
      clear ho4 hb4 hlq hs1 hq1 hq2 HBw
      go_wp2_with fail
      refine HS.out.mono ?_
      rintro e w5 ⟨A5, c5, rfl, ho5, hb5⟩
      obtain ⟨ls, hls⟩ : ∃ ls, ls = (oddL (sqP (xss.take (m + 1)) i)).length := ⟨_, rfl⟩
      rw [← hls] at ho5 ⊢
      have W5 := Lib.hid (W4.out.trans (hb5.mono Z4.out))
      have O5 := Lib.hid (ho5.mono Z4.out (Nat.le_refl _))
      clear ho5 hb5 hls
      go_wp2_with fail
      go_roundw
      case rel => exact ⟨m + 1, ls, c5, A5, _, by omega, by go_num, rfl, Lib.hid rfl, O5, W5⟩
      case measure => simp [intOf]; omega
    · obtain rfl : m = n := by omega
      have HE := Lib.hid (show P = oddL (sqP xss i) from by rw [HP.out, List.take_of_length_le (by rw [Hl.out]; exact Nat.le_refl _)])
      go_wp2_with fail
      rw [HR.out, ← HE.out]
      rw [HB.out] at HO HW
      obtain rfl := HO.out.len
      exact ⟨A', c', rfl, HO.out, HW.out⟩
end Go.Proofs.YtoodhbafleemjaaGreat
