/- IsLambdaBoundary on both sides. -/
import Derived.Test.YtdgcgcodjddddaaDoorHom
namespace Go.Proofs.YtdgcgcodjddddaaDoor
open Go.RowKit
set_option linter.unusedVariables false

theorem EchP.grownLow {w w' : World} {E K nb n c c2 g : Nat} {R gs : List Nat} {A A2 : Option Addr} {ws : List Value} (h : EchP w E K nb R A A2 n c c2 gs ws) (hg : w.grownBy w' (some g)) (hgE : g < E) : EchP w' E K nb R A A2 n c c2 gs ws :=
  ⟨h.cs.grown hg (fun x hx e => by
      injection e with e
      simp only [List.mem_cons, List.not_mem_nil, or_false] at hx
      rcases hx with rfl | rfl <;> · dsimp only at e; omega),
    ownV_grown (r := none) h.o1 hg (fun ad e e' => by have := (ownV_lt h.o1 e).1; injection e' with e'; omega),
    ownV_grown (r := none) h.o2 hg (fun ad e e' => by have := (ownV_lt h.o2 e).1; injection e' with e'; omega),
    h.em, h.len, fun i g' v hg' hv => ownV_grown (r := none) (h.row i g' v hg' hv) hg (fun ad e e' => by have := (ownV_lt (h.row i g' v hg' hv) e).1; injection e' with e'; omega),
    h.nod, h.k0, h.k1, h.k2, h.k3, h.ne, h.na, h.na2⟩
theorem deb_grown {w w' : World} {g : Nat} (h : Deb w) (hg : w.grownBy w' (some g)) (h1 : 1 ≤ g) : Deb w' := fun j hj => by
  have h2 := h j hj
  exact (World.cell?_of_block (a := ⟨0, j, none⟩) (hg.block 0 (World.block_lt_of_cell? w _ h2) (fun e => by injection e with e; omega))).trans h2
set_option maxRecDepth 100000 in
theorem reduceLow_any (E K nb g B t n9 c9 : Nat) (R : List Nat) (A9 : Option Addr) (w : World) {A A2 : Option Addr} {n c c2 : Nat} {gs : List Nat} {ws : List Value} (h : EchP w E K nb R A A2 n c c2 gs ws) (hr : OwnU w B g nb t) (hg : g < E) (hg1 : 1 ≤ g)
    (hpos : ∀ r ∈ R, r ≠ 0) (hR : ∀ r ∈ R, r < 2 ^ (64 * nb)) (ht : t < 2 ^ (64 * nb)) (hnb : nb ≤ 1000000) (hn : n ≤ 1000000) (hT : Deb w) (hE : 1 ≤ E) :
    Calls Tryd.prog 44 #[.pointer (some ⟨E, 0, none⟩), .slice (some ⟨g, 0, none⟩) nb nb, .slice A9 n9 c9] w (RetFu B g nb (red lowB R t) w) := by
  have HH := Lib.hid h
  have HR0 := Lib.hid hr
  have HP := Lib.hid hpos
  have HRW := Lib.hid hR
  have HTW := Lib.hid ht
  have HT := Lib.hid hT
  have k0 := h.cs.at_ (b := E) (o := 0) (V := .slice A n c) (by simp)
  have k1 := h.cs.at_ (b := E) (o := 1) (V := .slice A2 n c2) (by simp)
  have hlen : gs.length = n := by have := h.o1.len; simpa using this
  have HLn := Lib.hid hlen
  clear h hr hpos hR ht hT
  go_enter Tryd.func44, Tryd.ntmps44
  go_wp2_with fail
  clear k0 k1
  go_loopw [13] (fun i wr => ∃ k : Nat, k ≤ n ∧ i = .int .i64 k ∧ Hid (OwnU wr B g nb (red lowB (R.take k) t)) ∧ Hid (w.grownBy wr (some g)) ∧ Hid (wr.heap.size = w.heap.size)) (fun i _ => n - (intOf i).toNat)
  case atStart => exact ⟨0, Nat.zero_le _, rfl, by rw [List.take_zero]; exact HR0, Lib.hid (World.grownBy.refl _ _), Lib.hid rfl⟩
  case round =>
    obtain ⟨k, hk, rfl, HO, HG, HZ⟩ := hrel
    by_cases hlt : k < n
    · have HHr := Lib.hid (HH.out.grownLow HG.out hg)
      have HTr := Lib.hid (deb_grown HT.out HG.out hg1)
      obtain ⟨ad, v1, rfl, hbl, hv1, hcx⟩ := HHr.out.o1.rd.at_ hlt
      obtain ⟨gk, hgk⟩ : ∃ gk, gs[k]? = some gk := ⟨_, List.getElem?_eq_getElem (by rw [hlen]; exact hlt)⟩
      have hv1' := hv1.out
      rw [List.getElem?_map, hgk] at hv1'
      obtain rfl := Option.some.inj hv1'
      obtain ⟨x, hx⟩ : ∃ x, R[k]? = some x := ⟨_, List.getElem?_eq_getElem (by rw [← HH.out.len, hlen]; exact hlt)⟩
      have hxm : x ∈ R := List.mem_of_getElem? hx
      have hx0 := HP.out x hxm
      have hxw := HRW.out x hxm
      have HX := Lib.hid (HHr.out.row k gk x hgk hx)
      have hgne : g ≠ gk := by have := (HX.out.lt rfl).1; have : E + 1 ≤ gk := this; omega
      obtain ⟨ad2, v2, rfl, hb2, hv2, hcw⟩ := HHr.out.o2.rd.at_ hlt
      obtain ⟨a9, d9, he9⟩ := HHr.out.em v2 (List.mem_of_getElem? hv2.out)
      subst he9
      obtain ⟨u, hu⟩ : ∃ u, u = red lowB (R.take k) t := ⟨_, rfl⟩
      rw [← hu] at HO
      have huw : u < 2 ^ (64 * nb) := by rw [hu]; exact red_width (fun r hr => HRW.out r (List.mem_of_mem_take hr)) HTW.out
      have HRT := Lib.hid (show red lowB (R.take (k + 1)) t = (if u.testBit (lowB x) = true then u ^^^ x else u) from by rw [hu]; exact red_take hx)
      have hlow : lowB x < 64 * nb := by
        have h1 := (lowB_bit hx0).1
        rcases Nat.lt_or_ge (lowB x) (64 * nb) with h | h
        · exact h
        · rw [Nat.testBit_lt_two_pow (Nat.lt_of_lt_of_le hxw (Nat.pow_le_pow_right (by decide) h))] at h1; cases h1
      have C1 := Lib.hid (firstU_any _ gk nb x wr HX.out.rd hxw hnb HTr.out)
      have hli : lowI x = ((lowB x : Nat) : Int) := by unfold lowI; rw [if_neg hx0]
      rw [hli] at C1
      obtain ⟨p, hp⟩ : ∃ p, p = lowB x := ⟨_, rfl⟩
      rw [← hp] at C1 HRT hlow
      have C2 := Lib.hid (hasU_any _ g nb u p wr HO.out.rd hlow hnb)
      have C3 := Lib.hid (plusU_any B _ g gk nb u x wr HO.out HX.out.rd hgne hnb)
      have k0 := HHr.out.cs.at_ (b := E) (o := 0) (V := .slice (some ad) n c) (by simp)
      have k1 := HHr.out.cs.at_ (b := E) (o := 1) (V := .slice (some ad2) n c2) (by simp)
      obtain ⟨q, hq⟩ : ∃ q, q = u.testBit p := ⟨_, rfl⟩
      rw [← hq] at C2 HRT
      clear hu hli hp hxm hx0 hxw hgk hx hv1' hq
      cases q
      · have HO2 := Lib.hid (show OwnU wr B g nb (red lowB (R.take (k + 1)) t) from by rw [HRT.out]; exact HO.out)
        go_wp2_with fail
        refine C1.out.mono ?_
        rintro e w1 ⟨rfl, rfl⟩
        go_wp2_with fail
        refine C2.out.mono ?_
        rintro e w2 ⟨rfl, rfl⟩
        go_wp2_with fail
        go_roundw
        case rel => exact ⟨k + 1, by omega, by go_num, HO2, HG, HZ⟩
        case measure => simp [intOf]; omega
      · go_wp2_with fail
        refine C1.out.mono ?_
        rintro e w1 ⟨rfl, rfl⟩
        go_wp2_with fail
        refine C2.out.mono ?_
        rintro e w2 ⟨rfl, rfl⟩
        go_wp2_with fail
        refine C3.out.mono ?_
        rintro e w3 ⟨rfl, ho3, hg3, hz3⟩
        have HG3 := Lib.hid (grownBy_trans HG.out hg3)
        have HZ3 := Lib.hid (hz3.trans HZ.out)
        have HO3 := Lib.hid (show OwnU w3 B g nb (red lowB (R.take (k + 1)) t) from by rw [HRT.out]; exact ho3)
        have HH3 := Lib.hid (HH.out.grownLow HG3.out hg)
        have k03 := HH3.out.cs.at_ (b := E) (o := 1) (V := .slice (some ad2) n c2) (by simp)
        have hcw3 : w3.cell? (ad2.add k) = some (.slice a9 0 d9) := by
          rw [← hcw]
          exact World.cell?_of_block (hg3.block _ (by rw [block_of_add]; exact hb2) (fun e => by
            have h1 := (HHr.out.o2.lt rfl).1
            rw [block_of_add] at e
            injection e with e
            omega))
        have C4 := Lib.hid (plus0_any A9 a9 n9 c9 d9 w3)
        clear ho3 hg3 hz3
        go_wp2_with fail
        refine C4.out.mono ?_
        rintro e w4 ⟨rfl, rfl⟩
        go_wp2_with fail
        go_roundw
        case rel => exact ⟨k + 1, by omega, by go_num, HO3, HG3, HZ3⟩
        case measure => simp [intOf]; omega
    · obtain rfl : k = n := by omega
      go_wp2_with fail
      go_end0
      refine ⟨rfl, ?_, HG.out, HZ.out⟩
      have := HO.out
      rwa [List.take_of_length_le (by rw [← HH.out.len, HLn.out]; exact Nat.le_refl _)] at this
set_option maxRecDepth 100000 in
theorem row16R_any (B : Nat) (M : Pol) (A At : Option Addr) (n c nt ct : Nat) (rows : List Pol) (t : Pol) (w : World) (hM : Small M) (h : RdC w w.heap.size A n c rows) (ht : RdL w w.heap.size At nt ct t) (hn : n ≤ 1000000)
    (hR : ∀ r ∈ rows, Within M r ∧ r ≠ []) (hT : Within M t) (hBw : B ≤ w.heap.size) : Calls Tryd.prog 33 #[.slice A n c, .slice At nt ct] w (RetRL (redF rows t) w) := by
  have HRD := Lib.hid h
  have HL := Lib.hid h.len
  have HT0 := Lib.hid ht
  have HM := Lib.hid hM
  have HRW := Lib.hid hR
  have HTW := Lib.hid hT
  have HTl := Lib.hid ht.len
  have HBW := Lib.hid hBw
  obtain ⟨R, hRR⟩ : ∃ R, R = RetRL (redF rows t) w := ⟨_, rfl⟩
  have HRR := Lib.hid hRR
  rw [← hRR]
  clear h ht hM hR hT hRR
  go_enter Tryd.func33, Tryd.ntmps33
  go_wp2_with fail
  go_loopw [1, 5] (fun o i wr => ∃ (k l c' : Nat) (A' : Option Addr) (u : Pol), k ≤ n ∧ i = .int .i64 k ∧ o = .slice A' l c' ∧ Hid (u = redF (rows.take k) t) ∧ Hid (RdL wr wr.heap.size A' l c' u) ∧ Hid (Below w.heap.size w wr)) (fun _ i _ => n - (intOf i).toNat)
  case atStart => exact ⟨0, nt, ct, At, t, Nat.zero_le _, rfl, rfl, Lib.hid (by rw [List.take_zero]; rfl), HT0, Lib.hid (Below.refl _ _)⟩
  case round =>
    obtain ⟨k, l, c', A', u, hk, rfl, rfl, HU, HO, HB⟩ := hrel
    by_cases hlt : k < n
    · obtain ⟨ad, A3, n3, c3, r, rfl, hbk, hr, hcr, hr3⟩ := (HRD.out.here HB.out).at_ hlt
      have hW := HRW.out r (List.mem_of_getElem? hr.out)
      have HW := Lib.hid hW
      have hUW : Within M u := by rw [HU.out]; exact HTW.out.redF fun q hq => (HRW.out q (List.mem_of_mem_take hq)).1
      have HUW := Lib.hid hUW
      have hrl : r.length = n3 := hr3.len
      have hn0 : 0 < n3 := by
        have : r.length ≠ 0 := fun e => hW.2 (List.eq_nil_of_length_eq_zero e)
        omega
      have hn3 : n3 ≤ 1000000 := by rw [← hrl]; exact hW.1.len HM.out
      have hul : l ≤ 1000000 := by rw [← HO.out.len]; exact hUW.len HM.out
      obtain ⟨ad2, A4, n4, c4, z, rfl, hbz, hz, hcz, hr4⟩ := hr3.at_ hn0
      have hc0 : wr.cell? ad2 = some (.slice A4 n4 c4) := by rw [← hcz, addr_add_zero]
      have hzl : z = firstT r := by
        have := firstT_at hW.2
        rw [hz.out] at this
        exact Option.some.inj this
      have HZ := Lib.hid hzl
      have hn4 : n4 ≤ 8 := by rw [← hr4.len]; exact HM.out.each z (hW.1.sub z (List.mem_of_getElem? hz.out))
      have C1 := Lib.hid (place_any A' A4 l c' n4 c4 _ _ u z wr HO.out hr4 (by omega) (by omega) (fun y hy => Nat.le_trans (HM.out.each y (hUW.sub y hy)) (by omega)))
      have HR3 := Lib.hid hr3
      have HTK := Lib.hid (redF_take (t := t) hr.out)
      have HHB := Lib.hid hbk
      clear hW hUW hr3 hr4 hzl hrl hcz
      by_cases hin : z ∈ u
      · have HIN := Lib.hid hin
        rw [decide_eq_true hin] at C1
        clear hin
        go_wp2_with fail
        refine C1.out.mono ?_
        rintro e w1 ⟨p, rfl, hp, q, hq⟩
        have hb1 : Below wr.heap.size wr w1 := by rw [hq]; exact below_drewN (Below.refl _ _) q
        have hp0 : 0 ≤ p := by have := hp.out; simpa using this
        have hcr1 : w1.cell? (ad.add k) = some (.slice (some ad2) n3 c3) := (hb1.cell (by rw [block_of_add]; exact hbk)).trans hcr
        have C2 := Lib.hid (l01Sum_any A' (some ad2) l c' n3 c3 u r w1 (rdL_stay HO.out hb1) (rdL_stay HR3.out hb1) (by omega) (by omega)
          (by have := HUW.out.total HM.out; omega) (by have := HW.out.1.total HM.out; omega) HUW.out.asc HW.out.1.asc)
        have HB1 := Lib.hid (HB.out.trans (hb1.mono HB.out.size))
        clear hq hb1
        go_wp2_with fail
        refine C2.out.mono ?_
        rintro e w2 ⟨A5, c5, rfl, ho5, hb5⟩
        have HB2 := Lib.hid (HB1.out.trans (hb5.mono HB1.out.size))
        have HO5 := Lib.hid ho5.rd
        have HU5 := Lib.hid (show oddL (u ++ r) = redF (rows.take (k + 1)) t by rw [HTK.out, ← HU.out, ← HZ.out, if_pos HIN.out])
        clear ho5 hb5
        go_wp2_with fail
        go_roundw
        case rel => exact ⟨k + 1, _, _, _, _, by omega, by go_num, rfl, HU5, HO5, HB2⟩
        case measure => simp [intOf]; omega
      · have HIN := Lib.hid hin
        rw [decide_eq_false hin] at C1
        clear hin
        go_wp2_with fail
        refine C1.out.mono ?_
        rintro e w1 ⟨p, rfl, hp, q, hq⟩
        have hb1 : Below wr.heap.size wr w1 := by rw [hq]; exact below_drewN (Below.refl _ _) q
        have hp0 : ¬ 0 ≤ p := by have := hp.out; simpa using this
        have HB1 := Lib.hid (HB.out.trans (hb1.mono HB.out.size))
        have HO1 := Lib.hid ((HO.out.below hb1).mono hb1.size)
        have HU5 := Lib.hid (show u = redF (rows.take (k + 1)) t by rw [HTK.out, ← HU.out, ← HZ.out, if_neg HIN.out])
        clear hq hb1
        go_wp2_with fail
        go_roundw
        case rel => exact ⟨k + 1, _, _, _, _, by omega, by go_num, rfl, HU5, HO1, HB1⟩
        case measure => simp [intOf]; omega
    · have hkn : k = n := by omega
      have HKN := Lib.hid hkn
      clear hkn
      go_wp2_with fail
      rw [HRR.out]
      exact RetRL.mk HO.out (by rw [HU.out, List.take_of_length_le (by rw [HL.out, HKN.out]; exact Nat.le_refl _)]) HB.out

/-- words of a boundary's kind -/
theorem formL_within {xss : Pol} (h : isLB xss = true) : Within (lw (xss.headD []).length (psT 0 (xss.headD [])).toNat (psT 0 (xss.headD [])).toNat) (formL xss) := by
  refine ⟨formL_asc xss, fun z hz => ?_⟩
  obtain ⟨h1, h2, h3⟩ := formL_mem h z hz
  have hh := isLB_head h
  obtain ⟨x, hx, hzx⟩ := List.mem_flatMap.1 (oddL_mem hz)
  have hw := nf_word hzx (isLB_all h x hx).1.2.1
  have hn : sumZ z = ((psT 0 (xss.headD [])).toNat : Int) := by rw [h3]; omega
  refine lw_in _ _ _ z h2 hw.2.2.1 hn hw.2.2.2 fun a r e => ?_
  subst e
  have h0 := sumZ_nonneg (w := r) fun y hy => hw.2.2.1 y (List.mem_cons_of_mem _ hy)
  have : sumZ (a :: r) = a + sumZ r := by simp [sumZ]
  omega
def bdW (s n : Nat) : Pol := if s = 0 then [] else lw (s - 1) (n + 1) (n + 1)
def bdB (xss : Pol) : Bool := decide (redF (rowsF ((bdW (xss.headD []).length (psT 0 (xss.headD [])).toNat).map dW)) (formL xss) = [])
def bdV (xss : Pol) : Bool := if isLB xss = true then (if xss.isEmpty = true then true else if psT 0 (xss.headD []) = 11 then false else bdB xss) else false
def bdC (xss : Pol) : Int := if isLB xss = true then (if xss.isEmpty = true then 0 else if psT 0 (xss.headD []) = 11 then 3 else 0) else 1
theorem bd_bad {xss : Pol} (h : isLB xss = false) : bdV xss = false ∧ bdC xss = 1 := by simp [bdV, bdC, h]
theorem bd_nil {xss : Pol} (h : isLB xss = true) (h2 : xss.isEmpty = true) : bdV xss = true ∧ bdC xss = 0 := by simp [bdV, bdC, h, h2]
theorem bd_lim {xss : Pol} (h : isLB xss = true) (h2 : xss.isEmpty = false) (h3 : psT 0 (xss.headD []) = 11) : bdV xss = false ∧ bdC xss = 3 :=
  ⟨by unfold bdV; rw [if_pos h, if_neg (by rw [h2]; simp), if_pos h3], by unfold bdC; rw [if_pos h, if_neg (by rw [h2]; simp), if_pos h3]⟩
theorem bd_ok {xss : Pol} (h : isLB xss = true) (h2 : xss.isEmpty = false) (h3 : psT 0 (xss.headD []) ≠ 11) : bdV xss = bdB xss ∧ bdC xss = 0 :=
  ⟨by unfold bdV; rw [if_pos h, if_neg (by rw [h2]; simp), if_neg h3], by unfold bdC; rw [if_pos h, if_neg (by rw [h2]; simp), if_neg h3]⟩
theorem bdW_within {s n : Nat} (hs : s ≤ 7) (hn : n ≤ 10) {x : List Int} (hx : x ∈ bdW s n) : okW x ∧ x.length ≤ 6 ∧ Within (lw s n n) (dW x) := by
  unfold bdW at hx
  by_cases hz : s = 0
  · rw [if_pos hz] at hx; cases hx
  · rw [if_neg hz] at hx
    have h1 := lw_each _ _ _ x hx
    have h2 := dW_within (s := s - 1) (n := n) (m := n + 1) (x := x) (by omega) (by omega) hx
    rw [Nat.sub_add_cancel (by omega), lw_wide s n (n + 1) (by omega)] at h2
    exact ⟨lw_okW (by omega) (by omega) hx, by rw [h1]; omega, h2⟩
theorem bdW_len {s n : Nat} (hs : s ≤ 7) (hn : n ≤ 10) : (bdW s n).length ≤ 75582 := by
  unfold bdW
  split
  · simp
  · exact lw_len (by omega) (by omega)
theorem bdB_mask {xss : Pol} (h : isLB xss = true) (h3 : psT 0 (xss.headD []) ≠ 11) :
    bdB xss = decide (red lowB (rowsB (((bdW (xss.headD []).length (psT 0 (xss.headD [])).toNat).map dW).map (maskF (lw (xss.headD []).length (psT 0 (xss.headD [])).toNat (psT 0 (xss.headD [])).toNat)))) (maskF (lw (xss.headD []).length (psT 0 (xss.headD [])).toNat (psT 0 (xss.headD [])).toNat) (formL xss)) = 0) := by
  have hh := isLB_head h
  have hw := formL_within h
  unfold bdB
  rw [decide_eq_decide]
  exact rows_in (lw_asc _ _ _) (fun g hg => by
    obtain ⟨x, hx, rfl⟩ := List.mem_map.1 hg
    have := bdW_within (by omega) (by omega) hx
    exact ⟨this.2.2.asc, this.2.2.sub⟩) hw.asc hw.sub
set_option maxRecDepth 100000 in
set_option maxHeartbeats 2000000 in
theorem iIsLambdaBoundary (A1 : Option Addr) (n1 c1 : Nat) (xss : Pol) (w : World) (hT : Deb w) (h1 : RdL w w.heap.size A1 n1 c1 xss) (hn1 : n1 ≤ 2000000) (ht1 : totalL xss ≤ 2000000) :
    Calls Tryd.prog 17 #[.agg #[.slice A1 n1 c1]] w (RetBIC (bdV xss) (bdC xss) w) := by
  obtain ⟨w0, hw0⟩ : ∃ w0, w0 = w.alloc (.cells #[.slice A1 n1 c1] 28) := ⟨_, rfl⟩
  have hb0 : Below w.heap.size w w0 := by rw [hw0]; exact (Below.refl _ _).alloc (Nat.le_refl _) _
  have F0 := Lib.hid (show Cells [(w.heap.size, 0, .slice A1 n1 c1)] w0 from by rw [hw0]; exact Cells.nil.alloc1 _ _ rfl)
  have B0 := Lib.hid hb0
  have HL1 := Lib.hid h1.len
  have HE1 := Lib.hid (emp_of h1.len)
  have H1 := Lib.hid h1
  have HT := Lib.hid hT
  have hp := hT.pos
  have Hw := Lib.hid hw0
  have Z0 := Lib.hid (show w.heap.size < w0.heap.size from by rw [hw0]; simp)
  have HX1 := Lib.hid (fun (x : List Int) (hx : x ∈ xss) => Nat.le_trans (len_le_of_total hx) ht1)
  obtain ⟨r1, hr1⟩ : ∃ r, r = isLB xss := ⟨_, rfl⟩
  have HR1 := Lib.hid hr1
  obtain ⟨X, hX⟩ : ∃ X, X = RetBIC (bdV xss) (bdC xss) w := ⟨_, rfl⟩
  have HX := Lib.hid hX
  rw [← hX]
  clear h1 hw0 hb0 hT hr1 hX
  go_enter Tryd.func17, Tryd.ntmps17
  go_wp2_with fail
  rw [← Hw.out]
  have k0 := F0.out.at_ (b := w.heap.size) (o := 0) (V := .slice A1 n1 c1) (by simp)
  refine (iIsLambda A1 n1 c1 xss w0 ((H1.out.below B0.out).mono B0.out.size) hn1 ht1).mono ?_
  rintro e w1 ⟨rfl, hb1⟩
  have B1 := Lib.hid (B0.out.trans (hb1.mono B0.out.size))
  have F1 := Lib.hid (F0.out.below hb1)
  have Z1 := Lib.hid (Nat.lt_of_lt_of_le Z0.out hb1.size)
  clear hb1 k0
  have k0 := F1.out.at_ (b := w.heap.size) (o := 0) (V := .slice A1 n1 c1) (by simp)
  rw [← HR1.out]
  cases r1
  · have HV := Lib.hid (bd_bad HR1.out.symm)
    go_wp2_with fail
    rw [HX.out]
    exact RetBIC.mk (v' := false) (k' := 1) HV.out.1.symm HV.out.2.symm B1.out
  · have hn := isLB_len HR1.out.symm
    rw [HL1.out] at hn
    have hd7 := isLB_head HR1.out.symm
    go_wp2_with fail
    refine (isZeroL_any A1 n1 c1 _ hn1).mono ?_
    rintro e w2 ⟨rfl, hb2⟩
    have B2 := Lib.hid (B1.out.trans (hb2.mono B1.out.size))
    have F2 := Lib.hid (F1.out.below hb2)
    have Z2 := Lib.hid (Nat.lt_of_lt_of_le Z1.out hb2.size)
    clear hb2 k0
    have k0 := F2.out.at_ (b := w.heap.size) (o := 0) (V := .slice A1 n1 c1) (by simp)
    rcases Nat.eq_zero_or_pos n1 with hz1 | hz1
    · rw [decide_eq_true hz1]
      have HV := Lib.hid (bd_nil HR1.out.symm (by rw [HE1.out, decide_eq_true hz1]))
      clear hz1
      go_wp2_with fail
      rw [HX.out]
      exact RetBIC.mk (v' := true) (k' := 0) HV.out.1.symm HV.out.2.symm B2.out
    · rw [decide_eq_false (show ¬ n1 = 0 by omega)]
      have HN : Hid (xss.isEmpty = false) := Lib.hid (by rw [HE1.out]; simp; omega)
      have C3 := Lib.hid (sizeL_any A1 n1 c1 _ xss w2 ((H1.out.below B2.out).mono B2.out.size) (Nat.le_refl _) hz1 HX1.out)
      unfold RetSz at C3
      have HOK := Lib.hid (fun h => bd_ok HR1.out.symm HN.out h)
      have HLM := Lib.hid (fun h => bd_lim HR1.out.symm HN.out h)
      have HFW := Lib.hid (formL_within HR1.out.symm)
      have HBM := Lib.hid (fun h => bdB_mask HR1.out.symm h)
      obtain ⟨S, hS⟩ : ∃ S, S = (xss.headD []).length := ⟨_, rfl⟩
      obtain ⟨q, hq⟩ : ∃ q, q = psT 0 (xss.headD []) := ⟨_, rfl⟩
      rw [← hS, ← hq] at hd7 C3 HFW HBM
      rw [← hq] at HOK HLM
      obtain ⟨N, rfl⟩ : ∃ N : Nat, q = (N : Int) := ⟨q.toNat, by omega⟩
      rw [Int.toNat_natCast] at HFW HBM
      have hN11 : N ≤ 11 := by omega
      have hS7 := hd7.1
      clear hS hq hd7
      go_wp2_with fail
      refine C3.out.mono ?_
      rintro e w3 ⟨rfl, hb3⟩
      have B3 := Lib.hid (B2.out.trans (hb3.mono B2.out.size))
      have F3 := Lib.hid (F2.out.below hb3)
      have Z3 := Lib.hid (Nat.lt_of_lt_of_le Z2.out hb3.size)
      clear hb3 k0
      have k0 := F3.out.at_ (b := w.heap.size) (o := 0) (V := .slice A1 n1 c1) (by simp)
      by_cases h11 : N = 11
      · have HV := Lib.hid (HLM.out (by omega))
        subst h11
        go_wp2_with fail
        rw [HX.out]
        exact RetBIC.mk (v' := false) (k' := 3) HV.out.1.symm HV.out.2.symm B3.out
      · have hne : (((N : Int)) == 11) = false := by simp; omega
        have HV := Lib.hid (HOK.out (by omega))
        have HBV := Lib.hid (HBM.out (by omega))
        have hN10 : N ≤ 10 := by omega
        clear h11
        have e0 : lwZ (S : Int) (N : Int) (N : Int) = lw S N N := by unfold lwZ; rw [if_neg (by omega)]; rfl
        have e2 : lwZ ((S : Int) - 1) ((N : Int) + 1) ((N : Int) + 1) = bdW S N := by
          unfold lwZ bdW
          by_cases hz : S = 0
          · rw [if_pos (by omega), if_pos hz]
          · rw [if_neg (by omega), if_neg hz, show ((S : Int) - 1).toNat = S - 1 from by omega, show ((N : Int) + 1).toNat = N + 1 from by omega]
        have C4 := Lib.hid (lambdaWords_all (S : Int) (N : Int) (N : Int) w3 (by omega) (by omega) (by omega) (by omega) (by omega) (by omega))
        have C8 := Lib.hid (fun W => lambdaWords_all ((S : Int) - 1) ((N : Int) + 1) ((N : Int) + 1) W (by omega) (by omega) (by omega) (by omega) (by omega) (by omega))
        rw [e0] at C4
        rw [e2] at C8
        have wA : IntKind.i64.wrap ((S : Int) - 1) = (S : Int) - 1 := by rw [IntKind.wrap_i64]; omega
        have wB : IntKind.i64.wrap ((N : Int) + 1) = (N : Int) + 1 := by rw [IntKind.wrap_i64]; omega
        have HMA := Lib.hid (lw_asc S N N)
        have HMS := Lib.hid (lw_small (s := S) (n := N) (m := N) hS7 (by omega))
        have HWW := Lib.hid (fun (x : List Int) (hx : x ∈ bdW S N) => bdW_within hS7 hN10 hx)
        have hWl : (bdW S N).length ≤ 75582 := bdW_len hS7 hN10
        obtain ⟨M, hM⟩ : ∃ M, M = lw S N N := ⟨_, rfl⟩
        obtain ⟨W2, hW2⟩ : ∃ W, W = bdW S N := ⟨_, rfl⟩
        obtain ⟨D, hD⟩ : ∃ D, D = formL xss := ⟨_, rfl⟩
        have HDD := Lib.hid hD
        rw [← hM] at C4 HMA HMS HWW HFW HBV
        rw [← hW2] at C8 HWW hWl HBV
        rw [← hD] at HFW HBV
        obtain ⟨n2, hn2e⟩ : ∃ n, n = M.length := ⟨_, rfl⟩
        obtain ⟨nW, hnWe⟩ : ∃ n, n = W2.length := ⟨_, rfl⟩
        rw [← hn2e] at C4
        rw [← hnWe] at C8 hWl
        have hn2 : n2 ≤ 1000000 := by rw [hn2e]; exact HMS.out.len
        have HLm := Lib.hid hn2e.symm
        have HMx := Lib.hid (fun (y : List Int) (hy : y ∈ M) => show y.length ≤ 1000000000 from Nat.le_trans (HMS.out.each y hy) (by decide))
        obtain ⟨nb, hnb⟩ : ∃ nb, nb = (n2 + 63) / 64 := ⟨_, rfl⟩
        have HNB := Lib.hid hnb
        have hnb1 : nb ≤ 1000000 := by omega
        obtain ⟨lD, hlD⟩ : ∃ l, l = D.length := ⟨_, rfl⟩
        have HLD := Lib.hid hlD
        have hlD6 : lD ≤ 1000000 := by rw [hlD]; exact Nat.le_trans (asc_le HFW.out.asc HFW.out.sub) (by rw [HLm.out]; exact hn2)
        have C6 := Lib.hid (fun (W : World) (h : RdL W W.heap.size A1 n1 c1 xss) => lamForm_any A1 n1 c1 _ xss W h (Nat.le_refl _) (by omega) (isLB_okW HR1.out.symm))
        rw [← hD, ← hlD] at C6
        have D9 := Lib.hid (fun (a a2 : Option Addr) (c c2 : Nat) (W : World) (q1 : RdL W W.heap.size a nW c W2) (q2 : RdL W W.heap.size a2 n2 c2 M) (hd : Deb W) =>
          differentials_any a a2 nW c n2 c2 nb W2 M W q1 q2 HMA.out (by omega) hn2 HMx.out (fun x hx => ⟨(HWW.out x hx).1, (HWW.out x hx).2.1⟩) (fun x hx => (HWW.out x hx).2.2) hnb hd)
        have HWd := Lib.hid (show ∀ v ∈ rowsB ((W2.map dW).map (maskF M)), v < 2 ^ (64 * nb) from fun v hv => by
          refine Nat.lt_of_lt_of_le (rowsB_width HMA.out (fun g hg => ?_) v hv) (Nat.pow_le_pow_right (by decide) (by rw [HLm.out, hnb]; omega))
          obtain ⟨x, hx, rfl⟩ := List.mem_map.1 hg
          have := (HWW.out x hx).2.2
          exact ⟨this.asc, this.sub⟩)
        have HPs := Lib.hid (show ∀ v ∈ rowsB ((W2.map dW).map (maskF M)), v ≠ 0 from (both_rows _).b.pos)
        have HRl : Hid ((rowsB ((W2.map dW).map (maskF M))).length ≤ 75582) := Lib.hid (Nat.le_trans (rowsB_len_le _) (by rw [List.length_map, List.length_map, ← hnWe]; exact hWl))
        obtain ⟨RR, hRR⟩ : ∃ RR, RR = rowsB ((W2.map dW).map (maskF M)) := ⟨_, rfl⟩
        rw [← hRR] at D9 HWd HPs HBV HRl
        clear hM hW2 hD hn2e hnWe hlD hnb hRR e0 e2
        go_wp2_with fail
        refine C4.out.mono ?_
        rintro e w4 ⟨A4, c4, rfl, ho4, hb4⟩
        have B4 := Lib.hid (B3.out.trans (hb4.mono B3.out.size))
        have R4 := Lib.hid ho4.rd
        have F4 := Lib.hid (F3.out.below hb4)
        have Z4 := Lib.hid (Nat.lt_of_lt_of_le Z3.out hb4.size)
        clear hb4 ho4 k0
        have C5 := Lib.hid (newRow_any n2 nb w4 HNB.out (by omega))
        go_wp2_with fail
        refine C5.out.mono ?_
        rintro e w5 ⟨rfl, ho5, hb5, hz5⟩
        obtain ⟨g, hg⟩ : ∃ g, g = w4.heap.size := ⟨_, rfl⟩
        have HG := Lib.hid hg
        have B5 := Lib.hid (B4.out.trans (hb5.mono B4.out.size))
        have R5 := Lib.hid (R4.out.below hb5)
        have F5 := Lib.hid (F4.out.below hb5)
        have Z5 := Lib.hid (show w.heap.size < g from by rw [hg]; exact Z4.out)
        rw [← hg] at ho5 hz5 R5 ⊢
        have O5 := Lib.hid ho5
        have G5 := Lib.hid hz5
        clear ho5 hb5 hz5 hg
        have k0 := F5.out.at_ (b := w.heap.size) (o := 0) (V := .slice A1 n1 c1) (by simp)
        have C6' := Lib.hid (C6.out w5 ((H1.out.below B5.out).mono B5.out.size))
        go_wp2_with fail
        refine C6'.out.mono ?_
        rintro e w6 ⟨A6, c6, rfl, ho6, hb6⟩
        have HO4 := Lib.hid ho6
        have B6 := Lib.hid (B5.out.trans (hb6.mono B5.out.size))
        have O6 := Lib.hid (O5.out.below hb6)
        have R6 := Lib.hid (R5.out.below (hb6.mono (Nat.le_of_lt G5.out)))
        have S3 := Lib.hid (show g < w6.heap.size from Nat.lt_of_lt_of_le G5.out hb6.size)
        have hgw2 := Lib.hid (show g + 1 ≤ w5.heap.size from G5.out)
        clear ho6 hb6 k0
        have M0 := Lib.hid (show IsMask M (D.take 0) 0 from by rw [List.take_zero]; exact IsMask.nil)
        go_wp2_with fail
        obtain ⟨wz, hwz⟩ : ∃ wz : World, wz = w6 := ⟨_, rfl⟩
        subst hwz
        go_loopw [37] (fun i wr => ∃ (j v : Nat), j ≤ lD ∧ i = .int .i64 j ∧ Hid (OwnU wr g g nb v) ∧ Hid (IsMask M (D.take j) v) ∧ Hid (wz.grownBy wr (some g)) ∧ Hid (wr.heap.size = wz.heap.size)) (fun i _ => lD - (intOf i).toNat)
        case atStart => exact ⟨0, 0, Nat.zero_le _, rfl, O6, M0, Lib.hid (World.grownBy.refl _ _), Lib.hid rfl⟩
        case round =>
          clear O6 M0
          obtain ⟨j, v, hj, rfl, HO, HM, HG2, HZ⟩ := hrel
          have hMid := Lib.hid ((Mid.refl g (g + 1) wz).grown HG2.out (fun b hb => by injection hb with hb; omega))
          have HL4 := Lib.hid (HO4.out.mid hMid.out hgw2.out)
          have BL := Lib.hid (hMid.out.below (Nat.le_of_lt S3.out))
          have BWr := Lib.hid (show Below w.heap.size w wr from B6.out.trans (BL.out.mono (Nat.le_of_lt Z5.out)))
          have RM := Lib.hid (R6.out.below BL.out)
          by_cases hjl : j < lD
          · obtain ⟨ad5, A5, n5, c5, y, rfl, hb5, hy, hcy, hr5⟩ := HL4.out.rd.at_ hjl
            have hyM := HFW.out.sub y (List.mem_of_getElem? hy.out)
            obtain ⟨p, hp⟩ := List.mem_iff_getElem?.1 hyM
            have hpl := (List.getElem?_eq_some_iff.1 hp).1
            have hn5 : n5 ≤ 1000000000 := by rw [← hr5.len]; exact HMx.out y hyM
            have C7 := Lib.hid (placeIn_any A4 A5 n2 c4 n5 c5 _ _ p M y wr RM.out hr5 HMA.out hp (by omega) hn5 HMx.out)
            have C7b := fun q => Lib.hid (flipU_any g g nb v p (wr.drewN q) (HO.out.drewN q) (by rw [HLm.out] at hpl; rw [HNB.out]; omega) hnb1)
            have HM2 := Lib.hid (IsMask.step HMA.out HFW.out.asc HM.out hy.out hp)
            clear hyM hp hpl hr5
            go_wp2_with fail
            refine C7.out.mono ?_
            rintro e w8 ⟨rfl, q, rfl⟩
            go_wp2_with fail
            refine (C7b q).out.mono ?_
            rintro e w9 ⟨rfl, ho6, hg6, hz6⟩
            have HO6 := Lib.hid ho6
            have HG6 := Lib.hid (show wz.grownBy w9 (some g) from grownBy_trans HG2.out ⟨hg6.os, hg6.tape, hg6.output, hg6.size, hg6.block⟩)
            have HZ6 := Lib.hid (show w9.heap.size = wz.heap.size from by rw [hz6]; exact HZ.out)
            clear ho6 hg6 hz6
            go_wp2_with fail
            go_roundw
            case rel => exact ⟨j + 1, _, by omega, by go_num, HO6, HM2, HG6, HZ6⟩
            case measure => simp [intOf]; omega
          · have HMv := Lib.hid (show v = maskF M D from by
              have := HM.out
              rw [List.take_of_length_le (by rw [← HLD.out]; omega)] at this
              exact (maskF_eq this).symm)
            have hvw : v < 2 ^ (64 * nb) := Nat.lt_of_lt_of_le (mask_lt (M := M) (t := D) (by rw [HMv.out]; exact mask_of HMA.out HFW.out.asc HFW.out.sub)) (Nat.pow_le_pow_right (by decide) (by rw [HLm.out, HNB.out]; omega))
            have HVW := Lib.hid hvw
            have hgr : g < wr.heap.size := by rw [HZ.out]; exact S3.out
            have RM2 := Lib.hid (RM.out.mono (Nat.le_of_lt hgr))
            have hjd : ¬ ((j : Int) < (lD : Int)) := by omega
            clear hvw
            go_wp2_with fail
            refine (C8.out _).mono ?_
            rintro e w10 ⟨A10, c10, rfl, ho10, hb10⟩
            have BX := Lib.hid (BWr.out.trans (hb10.mono BWr.out.size))
            have R10 := Lib.hid ho10.rd
            have RM3 := Lib.hid ((RM2.out.below hb10).mono hb10.size)
            have O10 := Lib.hid (HO.out.below hb10)
            have G10 := Lib.hid (Nat.lt_of_lt_of_le hgr hb10.size)
            clear ho10 hb10
            go_wp2_with fail
            refine (D9.out _ _ _ _ _ R10.out RM3.out (HT.out.belowB BX.out hp)).mono ?_
            rintro e w11 ⟨rfl, hE, hb11⟩
            obtain ⟨K, a7, a8, n7, c7, c8, gs, wv, hE7, hK7⟩ := hE
            have BY := Lib.hid (BX.out.trans (hb11.mono BX.out.size))
            have O11 := Lib.hid (O10.out.below hb11)
            have hn7 : n7 ≤ 1000000 := by rw [echP_len hE7]; have := HRl.out; omega
            have E11 := Lib.hid (hE7.below (K := K) ((Below.refl w11.heap.size w11).alloc (Nat.le_refl _) (.cells #[] 87) |>.mono hK7))
            have O12 := Lib.hid (O11.out.alloc (.cells #[] 87))
            have BZ := Lib.hid (BY.out.alloc BY.out.size (.cells #[] 87))
            have C12 := Lib.hid (reduceLow_any w10.heap.size K nb g g v 0 0 RR (some ⟨w11.heap.size, 0, none⟩) (w11.alloc (.cells #[] 87)) E11.out O12.out G10.out (by have := Z5.out; omega) HPs.out HWd.out HVW.out hnb1 hn7 (HT.out.belowB BZ.out hp) (by have := BX.out.size; omega))
            clear hE7 hb11 hK7
            go_wp2_with fail
            refine C12.out.mono ?_
            rintro e w13 ⟨rfl, ho13, hg13, hz13⟩
            obtain ⟨u, hu⟩ : ∃ u, u = red lowB RR v := ⟨_, rfl⟩
            have HU := Lib.hid (show bdB xss = decide (u = 0) from by rw [HBV.out, hu, HMv.out])
            have hvu : u < 2 ^ (64 * nb) := by rw [hu]; exact red_width HWd.out HVW.out
            rw [← hu] at ho13
            have T13 := Lib.hid (deb_grown (HT.out.belowB BZ.out hp) hg13 (by have := Z5.out; omega))
            have C13 := Lib.hid (firstU_any _ g nb u w13 ho13.rd hvu hnb1 T13.out)
            have B13 := Lib.hid (show Below w.heap.size w w13 from BZ.out.trans ⟨hg13.os, hg13.tape, hg13.output, hg13.size, fun i hi => hg13.block i (by have := BZ.out.size; omega) (fun e => by injection e with e; have := Z5.out; omega)⟩)
            clear ho13 hg13 hz13 hu
            go_wp2_with fail
            refine C13.out.mono ?_
            rintro e w14 ⟨rfl, h14⟩
            rw [h14]
            by_cases hu0 : u = 0
            · have hli : lowI u = -1 := by unfold lowI; rw [if_pos hu0]
              rw [hli]
              have HVt := Lib.hid (show bdV xss = true from by rw [HV.out.1, HU.out, decide_eq_true hu0])
              clear hu0 hli
              go_wp2_with fail
              rw [HX.out]
              exact RetBIC.mk (v' := true) (k' := 0) HVt.out.symm HV.out.2.symm B13.out
            · have hli : lowI u = ((lowB u : Nat) : Int) := by unfold lowI; rw [if_neg hu0]
              rw [hli]
              have HVt := Lib.hid (show bdV xss = false from by rw [HV.out.1, HU.out, decide_eq_false hu0])
              obtain ⟨pp, hpp⟩ : ∃ p, p = lowB u := ⟨_, rfl⟩
              rw [← hpp]
              have hpz : ¬ ((pp : Int) < 0) := by omega
              have hpd : decide ((pp : Int) < 0) = false := decide_eq_false hpz
              clear hu0 hli hpp
              go_wp2_with fail
              rw [HX.out]
              exact RetBIC.mk (v' := false) (k' := 0) HVt.out.symm HV.out.2.symm B13.out
set_option maxRecDepth 100000 in
set_option maxHeartbeats 2000000 in
theorem sIsLambdaBoundary (A1 : Option Addr) (n1 c1 : Nat) (xss : Pol) (w : World) (h1 : RdL w w.heap.size A1 n1 c1 xss) (hn1 : n1 ≤ 2000000) (ht1 : totalL xss ≤ 2000000) :
    Calls Tryd.prog 16 #[.agg #[.slice A1 n1 c1]] w (RetBIC (bdV xss) (bdC xss) w) := by
  obtain ⟨w0, hw0⟩ : ∃ w0, w0 = w.alloc (.cells #[.slice A1 n1 c1] 28) := ⟨_, rfl⟩
  have hb0 : Below w.heap.size w w0 := by rw [hw0]; exact (Below.refl _ _).alloc (Nat.le_refl _) _
  have F0 := Lib.hid (show Cells [(w.heap.size, 0, .slice A1 n1 c1)] w0 from by rw [hw0]; exact Cells.nil.alloc1 _ _ rfl)
  have B0 := Lib.hid hb0
  have HL1 := Lib.hid h1.len
  have HE1 := Lib.hid (emp_of h1.len)
  have H1 := Lib.hid h1
  have Hw := Lib.hid hw0
  have HX1 := Lib.hid (fun (x : List Int) (hx : x ∈ xss) => Nat.le_trans (len_le_of_total hx) ht1)
  obtain ⟨r1, hr1⟩ : ∃ r, r = isLB xss := ⟨_, rfl⟩
  have HR1 := Lib.hid hr1
  obtain ⟨X, hX⟩ : ∃ X, X = RetBIC (bdV xss) (bdC xss) w := ⟨_, rfl⟩
  have HX := Lib.hid hX
  rw [← hX]
  clear h1 hw0 hb0 hr1 hX
  go_enter Tryd.func16, Tryd.ntmps16
  go_wp2_with fail
  rw [← Hw.out]
  have k0 := F0.out.at_ (b := w.heap.size) (o := 0) (V := .slice A1 n1 c1) (by simp)
  refine (l16Is_any A1 n1 c1 _ xss w0 (H1.out.below B0.out) hn1 ht1).mono ?_
  rintro e w1 ⟨rfl, q1, hq1⟩
  have hb1 : Below w0.heap.size w0 w1 := by rw [hq1]; exact below_drewN (Below.refl _ _) q1
  have B1 := Lib.hid (B0.out.trans (hb1.mono B0.out.size))
  have F1 := Lib.hid (F0.out.below hb1)
  clear hb1 k0 hq1
  have k0 := F1.out.at_ (b := w.heap.size) (o := 0) (V := .slice A1 n1 c1) (by simp)
  rw [← HR1.out]
  cases r1
  · have HV := Lib.hid (bd_bad HR1.out.symm)
    go_wp2_with fail
    rw [HX.out]
    exact RetBIC.mk (v' := false) (k' := 1) HV.out.1.symm HV.out.2.symm B1.out
  · have hn := isLB_len HR1.out.symm
    rw [HL1.out] at hn
    have hd7 := isLB_head HR1.out.symm
    rcases Nat.eq_zero_or_pos n1 with hz1 | hz1
    · have HV := Lib.hid (bd_nil HR1.out.symm (by rw [HE1.out, decide_eq_true hz1]))
      subst hz1
      go_wp2_with fail
      rw [HX.out]
      exact RetBIC.mk (v' := true) (k' := 0) HV.out.1.symm HV.out.2.symm B1.out
    · have HN : Hid (xss.isEmpty = false) := Lib.hid (by rw [HE1.out]; simp; omega)
      have H2 := Lib.hid ((H1.out.below B1.out).mono B1.out.size)
      obtain ⟨ad3, A3, n3, c3, x0, rfl, hb3, hx0, hc3, hr3⟩ := H2.out.at_ hz1
      have hh3 : xss.headD [] = x0 := by
        have := hx0.out
        cases xss with
        | nil => simp at this
        | cons y ys => simpa using this
      have hc33 : w1.cell? ad3 = some (.slice A3 n3 c3) := by simpa [Addr.add] using hc3
      have hq1 : (0 : Int) < (n1 : Int) := by omega
      have hnz : ((n1 : Int) == 0) = false := by simp; omega
      have hl3 := hr3.len
      have HST := fun W : Nat => Lib.hid (show Calls Tryd.prog 31 #[.slice A3 n3 c3] (w1.drewN W) (fun e w'' => e = .returned (.int .i64 (psT 0 x0)) ∧ ∃ m, w'' = (w1.drewN W).drewN m) from (stem_any A3 n3 c3 _ x0 (w1.drewN W) (hr3.drewN W) (by have := HX1.out x0 (List.mem_of_getElem? hx0.out); omega)).mono fun e w' h => ⟨h.1, 0, h.2⟩)
      have HOK := Lib.hid (fun h => bd_ok HR1.out.symm HN.out h)
      have HLM := Lib.hid (fun h => bd_lim HR1.out.symm HN.out h)
      have HFW := Lib.hid (formL_within HR1.out.symm)
      have HBB := Lib.hid (show bdB xss = decide (redF (rowsF ((bdW (xss.headD []).length (psT 0 (xss.headD [])).toNat).map dW)) (formL xss) = []) from rfl)
      rw [hh3] at hd7 HOK HLM HFW HBB
      rw [hl3] at hd7 HFW HBB
      obtain ⟨q, hq⟩ : ∃ q, q = psT 0 x0 := ⟨_, rfl⟩
      rw [← hq] at hd7 HOK HLM HFW HBB HST
      obtain ⟨N, rfl⟩ : ∃ N : Nat, q = (N : Int) := ⟨q.toNat, by omega⟩
      rw [Int.toNat_natCast] at HFW HBB
      have hN11 : N ≤ 11 := by omega
      have hS7 := hd7.1
      clear hq hd7 hl3 hh3 hx0 hr3 hc3
      clear F0
      go_upto_region 5 with fail
      go_quiet (first | (go_at_call_of 31 A3; first | exact Calls.quiet_of ((HST _).out) | exact quiet_add ((HST _).out)))
      rename_i nq
      obtain ⟨W, hW⟩ : ∃ W, W = w1.drewN nq := ⟨_, rfl⟩
      have hbW : Below w1.heap.size w1 W := by rw [hW]; exact below_drewN (Below.refl _ _) nq
      have B2 := Lib.hid (B1.out.trans (hbW.mono B1.out.size))
      have F2 := Lib.hid (F1.out.below hbW)
      rw [← hW]
      clear k0 hc33 hbW hW
      have k0 := F2.out.at_ (b := w.heap.size) (o := 0) (V := .slice (some ad3) n1 c1) (by simp)
      by_cases h11 : N = 11
      · have HV := Lib.hid (HLM.out (by omega))
        subst h11
        go_wp2_with fail
        rw [HX.out]
        exact RetBIC.mk (v' := false) (k' := 3) HV.out.1.symm HV.out.2.symm B2.out
      · have hne : (((N : Int)) == 11) = false := by simp; omega
        have HV := Lib.hid (HOK.out (by omega))
        have hN10 : N ≤ 10 := by omega
        clear h11
        have C4 := Lib.hid (reduce_any (some ad3) n1 c1 _ xss W ((H1.out.below B2.out).mono B2.out.size) (Nat.le_refl _) (isLB_asc HR1.out.symm) (isLB_okW HR1.out.symm))
        unfold RetRed at C4
        obtain ⟨D, hD⟩ : ∃ D, D = formL xss := ⟨_, rfl⟩
        rw [← hD] at C4 HFW HBB
        obtain ⟨lD, hlD⟩ : ∃ l, l = D.length := ⟨_, rfl⟩
        rw [← hlD] at C4
        have HLD := Lib.hid hlD
        have HMS := Lib.hid (lw_small (s := n3) (n := N) (m := N) hS7 (by omega))
        have hlD6 : lD ≤ 1000000 := by rw [hlD]; exact HFW.out.len HMS.out
        clear hD hlD
        go_wp2_with fail
        refine C4.out.mono ?_
        rintro e w3 ⟨A4, c4, rfl, hr4, _, hb4⟩
        have R4 := Lib.hid hr4
        have B4 := Lib.hid (B2.out.trans (hb4.mono B2.out.size))
        clear hr4 hb4 k0
        by_cases hn3 : n3 = 0
        · have HBB2 := Lib.hid (show bdB xss = decide (D = []) from by rw [HBB.out, hn3]; rfl)
          have hs0 : ((n3 : Int) == 0) = true := by simp; omega
          by_cases hl0 : lD = 0
          · have hlz : ((lD : Int) == 0) = true := by simp; omega
            have HVt := Lib.hid (show bdV xss = true from by rw [HV.out.1, HBB2.out, decide_eq_true (List.eq_nil_of_length_eq_zero (by rw [← HLD.out]; exact hl0))])
            clear hn3 hl0
            go_wp2_with fail
            rw [HX.out]
            exact RetBIC.mk (v' := true) (k' := 0) HVt.out.symm HV.out.2.symm B4.out
          · have hlz : ((lD : Int) == 0) = false := by simp; omega
            have HVt := Lib.hid (show bdV xss = false from by rw [HV.out.1, HBB2.out, decide_eq_false (fun e => hl0 (by rw [HLD.out, e]; rfl))])
            clear hn3 hl0
            go_wp2_with fail
            rw [HX.out]
            exact RetBIC.mk (v' := false) (k' := 0) HVt.out.symm HV.out.2.symm B4.out
        · have hs0 : ((n3 : Int) == 0) = false := by simp; omega
          have C5 := Lib.hid (fun V => l16Basis_any 40 ((n3 : Int) - 1) ((N : Int) + 1) V (by omega) (by omega) (by omega) (by omega) (by omega) (by omega))
          rw [show ((n3 : Int) - 1).toNat = n3 - 1 from by omega, show ((N : Int) + 1).toNat = N + 1 from by omega, show ((40 : Int) - 1).toNat = 39 from rfl] at C5
          have eW : lw (n3 - 1) (N + 1) 39 = bdW n3 N := by
            unfold bdW
            rw [if_neg hn3, lw_wide (n3 - 1) (N + 1) 39 (by omega), lw_wide (n3 - 1) (N + 1) (N + 1) (Nat.le_refl _)]
          rw [eW] at C5
          have HWW := Lib.hid (fun (x : List Int) (hx : x ∈ bdW n3 N) => bdW_within hS7 hN10 hx)
          have hWl : (bdW n3 N).length ≤ 75582 := bdW_len hS7 hN10
          obtain ⟨W2, hW2⟩ : ∃ W, W = bdW n3 N := ⟨_, rfl⟩
          rw [← hW2] at C5 HWW hWl HBB
          obtain ⟨nW, hnWe⟩ : ∃ n, n = W2.length := ⟨_, rfl⟩
          rw [← hnWe] at C5 hWl
          have CR := Lib.hid (fun (A : Option Addr) (c : Nat) (V : World) (h : RdL V V.heap.size A nW c W2) => rows16_any (lw n3 N N) A nW c W2 V HMS.out h (by omega) (fun x hx => ⟨(HWW.out x hx).1, (HWW.out x hx).2.1⟩) (fun x hx => (HWW.out x hx).2.2))
          have HRW := Lib.hid (rowsF_within (M := lw n3 N N) (ws := W2) (fun x hx => (HWW.out x hx).2.2))
          have hRl : (rowsF (W2.map dW)).length ≤ 75582 := Nat.le_trans (rowsF_len_le _) (by rw [List.length_map, ← hnWe]; exact hWl)
          obtain ⟨RR, hRR⟩ : ∃ R, R = rowsF (W2.map dW) := ⟨_, rfl⟩
          rw [← hRR] at CR HRW hRl HBB
          obtain ⟨nR, hnR⟩ : ∃ n, n = RR.length := ⟨_, rfl⟩
          unfold RetRw at CR
          rw [← hnR] at CR hRl
          have CQ := Lib.hid (fun (A At : Option Addr) (c ct : Nat) (V : World) (h : RdC V V.heap.size A nR c RR) (ht : RdL V V.heap.size At lD ct D) => row16R_any V.heap.size (lw n3 N N) A At nR c lD ct RR D V HMS.out h ht (by omega) HRW.out HFW.out (Nat.le_refl _))
          unfold RetRL at CQ
          obtain ⟨Q, hQ⟩ : ∃ Q, Q = redF RR D := ⟨_, rfl⟩
          rw [← hQ] at CQ HBB
          obtain ⟨lQ, hlQ⟩ : ∃ n, n = Q.length := ⟨_, rfl⟩
          rw [← hlQ] at CQ
          have HLQ := Lib.hid hlQ
          have wA : IntKind.i64.wrap ((n3 : Int) - 1) = (n3 : Int) - 1 := by rw [IntKind.wrap_i64]; omega
          have wB : IntKind.i64.wrap ((N : Int) + 1) = (N : Int) + 1 := by rw [IntKind.wrap_i64]; omega
          clear eW hW2 hnWe hRR hnR hQ hlQ hn3
          go_wp2_with fail
          refine (C5.out _).mono ?_
          rintro e w5 ⟨A5, c5, rfl, ho5, hb5⟩
          have R5 := Lib.hid ho5.rd
          have R45 := Lib.hid ((R4.out.below hb5).mono hb5.size)
          have B5 := Lib.hid (B4.out.trans (hb5.mono B4.out.size))
          clear ho5 hb5
          go_wp2_with fail
          refine (CR.out _ _ _ R5.out).mono ?_
          rintro e w6 ⟨A6, c6, rfl, hr6, hb6⟩
          have R6 := Lib.hid hr6
          have R46 := Lib.hid ((R45.out.below hb6).mono hb6.size)
          have B6 := Lib.hid (B5.out.trans (hb6.mono B5.out.size))
          clear hr6 hb6
          go_wp2_with fail
          refine (CQ.out _ _ _ _ _ R6.out R46.out).mono ?_
          rintro e w7 ⟨A7, c7, rfl, hr7, hb7⟩
          have B7 := Lib.hid (B6.out.trans (hb7.mono B6.out.size))
          clear hr7 hb7
          by_cases hl0 : lQ = 0
          · have hlz : ((lQ : Int) == 0) = true := by simp; omega
            have HVt := Lib.hid (show bdV xss = true from by rw [HV.out.1, HBB.out, decide_eq_true (List.eq_nil_of_length_eq_zero (by rw [← HLQ.out]; exact hl0))])
            clear hl0
            go_wp2_with fail
            rw [HX.out]
            exact RetBIC.mk (v' := true) (k' := 0) HVt.out.symm HV.out.2.symm B7.out
          · have hlz : ((lQ : Int) == 0) = false := by simp; omega
            have HVt := Lib.hid (show bdV xss = false from by rw [HV.out.1, HBB.out, decide_eq_false (fun e => hl0 (by rw [HLQ.out, e]; rfl))])
            clear hl0
            go_wp2_with fail
            rw [HX.out]
            exact RetBIC.mk (v' := false) (k' := 0) HVt.out.symm HV.out.2.symm B7.out
theorem It.deb {w : World} {B : Nat} (h : Deb w) (hB : B ≤ w.heap.size) (h1 : 1 ≤ B) : It 0 B (fun V => Deb V) w :=
  ⟨h, hB, fun w' k1 k2 k3 k4 k5 => h.belowB ⟨k2, k3, k4, k1, fun g hg => k5 g (Nat.zero_le _) hg⟩ h1⟩
end Go.Proofs.YtdgcgcodjddddaaDoor
