/- slices.BinarySearchFunc over an ascending list of lists, at a list that is there. -/
import Derived.Test.YtdgcgcodjddddaaDoorHitP
import Derived.Test.YtdgcgcodjddddaaDoorLawK
import Derived.Test.YtdgcgcodjddddaaDoorEchA
import Derived.Test.YtdgcgcodjddddaaDoorLamD
import Derived.Test.YtdgcgcodjddddaaDoorPushS
namespace Go.Proofs.YtdgcgcodjddddaaDoor
open Go.RowKit
set_option linter.unusedVariables false

def RetSe (p : Nat) (w : World) (e : Ending) (w' : World) : Prop := e = .returned (.tuple #[.int .i64 p, .bool true]) ∧ ∃ q, w' = w.drewN q
theorem half_lt {i j p : Nat} (h1 : i ≤ p) (h2 : p ≤ j) (h : i < j) : i ≤ (i + j) / 2 ∧ (i + j) / 2 < j := by omega
set_option maxRecDepth 100000 in
theorem search_any (A A2 : Option Addr) (n c n2 c2 B1 B2 p : Nat) (xss : Pol) (x : List Int) (w : World) (h : RdL w B1 A n c xss) (hr : RdS w B2 A2 n2 c2 x) (ha : Asc xss) (hp : xss[p]? = some x) (hn : n ≤ 1000000000) (hn2 : n2 ≤ 1000000000) (hx : ∀ y ∈ xss, y.length ≤ 1000000000) :
    Calls Tryd.prog 72 #[.slice A n c, .slice A2 n2 c2, .func (.func 73) #[] #[]] w (RetSe p w) := by
  have HRD := Lib.hid h
  have HL := Lib.hid h.len
  have HR := Lib.hid hr
  have HX := Lib.hid hx
  have HA := Lib.hid ha
  have HPp := Lib.hid hp
  have hpn : p < n := by rw [← h.len]; exact (List.getElem?_eq_some_iff.1 hp).1
  have hent := enters_of Tryd.func73 (by kernel_rfl) rfl
  obtain ⟨R, hR⟩ : ∃ R, R = RetSe p w := ⟨_, rfl⟩
  have HRR := Lib.hid hR
  rw [← hR]
  clear h hr hx ha hp hR
  go_enter Tryd.func72, Tryd.ntmps72
  go_wp2_with fail
  go_loopw [9, 10] (fun a b wr => ∃ i j : Nat, i ≤ p ∧ p ≤ j ∧ j ≤ n ∧ a = .int .i64 i ∧ b = .int .i64 j ∧ ∃ q, wr = w.drewN q) (fun a b _ => (intOf b).toNat - (intOf a).toNat)
  case atStart => exact ⟨0, n, Nat.zero_le _, by omega, Nat.le_refl _, rfl, rfl, 0, rfl⟩
  case round =>
    obtain ⟨i, j, hip, hpj, hjn, rfl, rfl, q, rfl⟩ := hrel
    by_cases hlt : i < j
    · obtain ⟨m, hm⟩ : ∃ m, m = (i + j) / 2 := ⟨_, rfl⟩
      have hm1 : i ≤ m := by omega
      have hm2 : m < j := by omega
      have hw0 : IntKind.i64.wrap ((i : Int) + (j : Int)) = ((i + j : Nat) : Int) := by rw [IntKind.wrap_i64]; omega
      have hwm : ((i : Int) + (j : Int)) / 2 = (m : Int) := by omega
      have hmn : m < n := by omega
      obtain ⟨ad, A3, n3, c3, y, rfl, hb, hy, hcy, hr3⟩ := HRD.out.at_ hmn
      have hcy' : (w.drewN q).cell? (ad.add m) = some (.slice A3 n3 c3) := hcy
      have hn3 : n3 ≤ 1000000000 := by rw [← hr3.len]; exact HX.out y (List.mem_of_getElem? hy.out)
      have C1 := Lib.hid (compare_any A3 A2 c3 c2 n3 n2 _ _ y x (w.drewN q) (hr3.drewN q) (HR.out.drewN q) (by omega) (by omega))
      obtain ⟨z, hz⟩ : ∃ z, z = cmpL y x := ⟨_, rfl⟩
      rw [← hz] at C1
      clear hr3 hcy hm
      by_cases hmp : m < p
      · have hneg : z < 0 := by rw [hz]; exact ltL_iff.1 ((place_lt HA.out hy.out HPp.out).1 hmp)
        clear hz
        go_wp2_with fail
        refine C1.out.mono ?_
        rintro e w1 ⟨rfl, rfl⟩
        go_wp2_with fail
        go_roundw
        case rel => exact ⟨m + 1, j, by omega, by omega, by omega, by go_num, rfl, (by first | exact ⟨_, rfl⟩ | exact ⟨_, World.drewN_drewN _ _ _⟩ | (simp only [World.drewN_drewN]; exact ⟨_, rfl⟩))⟩
        case measure => simp [intOf]; omega
      · have hneg : ¬ z < 0 := by rw [hz]; exact fun h => hmp ((place_lt HA.out hy.out HPp.out).2 (ltL_iff.2 h))
        clear hz
        go_wp2_with fail
        refine C1.out.mono ?_
        rintro e w1 ⟨rfl, rfl⟩
        go_wp2_with fail
        go_roundw
        case rel => exact ⟨i, m, by omega, by omega, by omega, rfl, by go_num, (by first | exact ⟨_, rfl⟩ | exact ⟨_, World.drewN_drewN _ _ _⟩ | (simp only [World.drewN_drewN]; exact ⟨_, rfl⟩))⟩
        case measure => simp [intOf]; omega
    · obtain rfl : i = p := by omega
      obtain rfl : j = i := by omega
      obtain ⟨ad, A3, n3, c3, y, rfl, hb, hy, hcy, hr3⟩ := HRD.out.at_ hpn
      have hcy' : (w.drewN q).cell? (ad.add j) = some (.slice A3 n3 c3) := hcy
      have hn3 : n3 ≤ 1000000000 := by rw [← hr3.len]; exact HX.out y (List.mem_of_getElem? hy.out)
      have C1 := Lib.hid (compare_any A3 A2 c3 c2 n3 n2 _ _ y x (w.drewN q) (hr3.drewN q) (HR.out.drewN q) (by omega) (by omega))
      have hyx : y = x := by
        have := hy.out
        rw [HPp.out] at this
        exact (Option.some.inj this).symm
      rw [hyx, cmpL_self] at C1
      clear hr3 hcy hyx
      go_wp2_with fail
      refine C1.out.mono ?_
      rintro e w1 ⟨rfl, rfl⟩
      go_wp2_with fail
      rw [HRR.out]
      exact ⟨rfl, (by first | exact ⟨_, rfl⟩ | exact ⟨_, World.drewN_drewN _ _ _⟩ | (simp only [World.drewN_drewN]; exact ⟨_, rfl⟩))⟩
end Go.Proofs.YtdgcgcodjddddaaDoor

/- placeIn, differentials: the span of differentials of words, as an echelon. -/
namespace Go.Proofs.YtdgcgcodjddddaaDoor
open Go.RowKit
set_option linter.unusedVariables false

def RetPn (p : Nat) (w : World) (e : Ending) (w' : World) : Prop := e = .returned (.int .i64 p) ∧ ∃ q, w' = w.drewN q
set_option maxRecDepth 100000 in
theorem placeIn_any (A A2 : Option Addr) (n c n2 c2 B1 B2 p : Nat) (xss : Pol) (x : List Int) (w : World) (h : RdL w B1 A n c xss) (hr : RdS w B2 A2 n2 c2 x) (ha : Asc xss) (hp : xss[p]? = some x) (hn : n ≤ 1000000000) (hn2 : n2 ≤ 1000000000) (hx : ∀ y ∈ xss, y.length ≤ 1000000000) :
    Calls Tryd.prog 42 #[.slice A n c, .slice A2 n2 c2] w (RetPn p w) := by
  have C1 := Lib.hid (search_any A A2 n c n2 c2 B1 B2 p xss x w h hr ha hp hn hn2 hx)
  clear h hr ha hp hx
  go_enter Tryd.func42, Tryd.ntmps42
  go_wp2_with fail
  refine C1.out.mono ?_
  rintro e w1 ⟨rfl, q, rfl⟩
  go_wp2_with fail
  go_ret
  exact ⟨rfl, q, rfl⟩
theorem rowsB_len_le (gs : List Nat) : (rowsB gs).length ≤ gs.length := by
  have h : ∀ (gs R : List Nat), (gs.foldl addB R).length ≤ R.length + gs.length := by
    intro gs
    induction gs with
    | nil => intro R; exact Nat.le_refl _
    | cons g gs ih =>
      intro R
      have h1 := ih (addB R g)
      have h2 : (addB R g).length ≤ R.length + 1 := by
        unfold addB
        split
        · omega
        · simp
      simp only [List.foldl_cons, List.length_cons]
      omega
  have := h gs []
  simpa [rowsB] using this
theorem echP_start (w : World) (nb : Nat) : EchP (w.alloc (.cells #[.slice none 0 0, .slice none 0 0] 80)) w.heap.size (w.heap.size + 1) nb [] none none 0 0 0 [] [] :=
  ⟨(Cells.nil).alloc2 _ _ _ rfl, OwnV.nil, OwnV.nil, fun v h => (by cases h), rfl, fun i g v h => (by cases h), List.nodup_nil, Nat.lt_succ_self _, fun ad h => (by cases h), fun ad h => (by cases h), fun g h => (by cases h), fun ad ad2 h => (by cases h), fun ad h => (by cases h), fun ad h => (by cases h)⟩
/-- the answer of differentials: an echelon at E with the rows R -/
def RetEc (nb : Nat) (R : List Nat) (w : World) (e : Ending) (w' : World) : Prop := e = .returned (.pointer (some ⟨w.heap.size, 0, none⟩)) ∧ (∃ K A A2 n c c2 gs ws, EchP w' w.heap.size K nb R A A2 n c c2 gs ws ∧ K ≤ w'.heap.size) ∧ Below w.heap.size w w'
set_option maxRecDepth 100000 in
theorem differentials_any (A A2 : Option Addr) (n c n2 c2 nb : Nat) (ws M : Pol) (w : World) (h : RdL w w.heap.size A n c ws) (h2 : RdL w w.heap.size A2 n2 c2 M) (hM : Asc M) (hn : n ≤ 1000000) (hn2 : n2 ≤ 1000000) (hMx : ∀ y ∈ M, y.length ≤ 1000000000)
    (hw : ∀ x ∈ ws, okW x ∧ x.length ≤ 6) (hd : ∀ x ∈ ws, Within M (dW x)) (hnb : nb = (n2 + 63) / 64) (hT : Deb w) :
    Calls Tryd.prog 43 #[.slice A n c, .slice A2 n2 c2] w (RetEc nb (rowsB ((ws.map dW).map (maskF M))) w) := by
  have HRD := Lib.hid h
  have HMD := Lib.hid h2
  have HMA := Lib.hid hM
  have HMx := Lib.hid hMx
  have HW := Lib.hid hw
  have HD := Lib.hid hd
  have HLw := Lib.hid h.len
  have HLm := Lib.hid h2.len
  have HNB := Lib.hid hnb
  have hnb1 : nb ≤ 1000000 := by omega
  have hE := hT.pos
  have HT := Lib.hid hT
  obtain ⟨gsF, hgsF⟩ : ∃ F : Nat → List Nat, F = fun k => (((ws.take k).map dW).map (maskF M)) := ⟨_, rfl⟩
  have HF := Lib.hid hgsF
  have HS := Lib.hid (echP_start w nb)
  have HB0 := Lib.hid ((Below.refl w.heap.size w).alloc (Nat.le_refl _) (.cells #[.slice none 0 0, .slice none 0 0] 80))
  obtain ⟨X, hX⟩ : ∃ X, X = RetEc nb (rowsB ((ws.map dW).map (maskF M))) w := ⟨_, rfl⟩
  have HX := Lib.hid (show X = RetEc nb (rowsB (gsF n)) w from by rw [hX, hgsF, ← h.len]; simp only [List.take_length])
  rw [← hX]
  have HWd := Lib.hid (show ∀ k, ∀ v ∈ rowsB (gsF k), v < 2 ^ (64 * nb) from fun k v hv => by
    rw [hgsF] at hv
    refine Nat.lt_of_lt_of_le (rowsB_width hM (gs := (ws.take k).map dW) (fun g hg => ?_) v hv) (Nat.pow_le_pow_right (by decide) (by rw [h2.len, hnb]; omega))
    obtain ⟨x, hx, rfl⟩ := List.mem_map.1 hg
    have := hd x (List.mem_of_mem_take hx)
    exact ⟨this.asc, this.sub⟩)
  have HPs := Lib.hid (show ∀ k, ∀ v ∈ rowsB (gsF k), v ≠ 0 from fun k => (both_rows (gsF k)).b.pos)
  have HLn := Lib.hid (show ∀ k, (rowsB (gsF k)).length ≤ n from fun k => by
    refine Nat.le_trans (rowsB_len_le _) ?_
    rw [hgsF]
    simp only [List.length_map, List.length_take]
    rw [h.len]; omega)
  clear h h2 hM hMx hw hd hnb hT hgsF hX
  go_enter Tryd.func43, Tryd.ntmps43
  go_wp2_with fail
  go_loopw [15] (fun i wr => ∃ k : Nat, k ≤ n ∧ i = .int .i64 k ∧ Hid (∃ K A A2 n c c2 gs wv, EchP wr w.heap.size K nb (rowsB (gsF k)) A A2 n c c2 gs wv ∧ K ≤ wr.heap.size) ∧ Hid (Below w.heap.size w wr)) (fun i _ => n - (intOf i).toNat)
  case atStart => exact ⟨0, Nat.zero_le _, rfl, Lib.hid ⟨_, _, _, _, _, _, _, _, by have := HS.out; rw [HF.out]; exact this, by simp⟩, HB0⟩
  case round =>
    clear HS HB0
    obtain ⟨k, hk, rfl, HE, HB⟩ := hrel
    obtain ⟨W, hW⟩ : ∃ W : World, W = wr := ⟨_, rfl⟩
    subst hW
    by_cases hlt : k < n
    · have HRr := Lib.hid (HRD.out.below HB.out)
      obtain ⟨ad, A3, n3, c3, x, rfl, hb, hx, hcx, hr3⟩ := HRr.out.at_ hlt
      have hxm := List.mem_of_getElem? hx.out
      have hokx := (HW.out x hxm).1
      have hx6 := (HW.out x hxm).2
      have hxd := HD.out x hxm
      have HGk := Lib.hid (show gsF (k + 1) = gsF k ++ [maskF M (dW x)] from by rw [HF.out]; simp only [List.take_add_one, hx.out]; simp)
      have C1 := Lib.hid (newRow_any n2 nb W HNB.out (by omega))
      have h1b : ad.block < W.heap.size := by rw [← block_of_add (a := ad) (n := k)]; exact World.block_lt_of_cell? _ _ hcx
      have HR3 := Lib.hid (hr3.mono HB.out.size)
      clear hr3
      go_wp2_with fail
      refine C1.out.mono ?_
      rintro e w1 ⟨rfl, ho1, hb1, hz1⟩
      have HO1 := Lib.hid ho1
      have HB1 := Lib.hid hb1
      obtain ⟨g, hg⟩ : ∃ g, g = W.heap.size := ⟨_, rfl⟩
      rw [← hg] at HO1 HB1 hz1 ⊢
      have HG := Lib.hid hg
      have hgw := Lib.hid hz1
      have B1 := Lib.hid (HB.out.trans (hb1.mono HB.out.size))
      have R3 := Lib.hid ((HR3.out.below hb1).mono hb1.size)
      have h3 := Lib.hid (rdL_single R3.out (Nat.le_refl _))
      obtain ⟨w2, hw2⟩ : ∃ w2, w2 = w1.alloc (.cells #[.slice A3 n3 c3] 49) := ⟨_, rfl⟩
      rw [← hw2] at h3
      have HW2 := Lib.hid hw2
      have B12 := Lib.hid (show Below w1.heap.size w1 w2 from by rw [hw2]; exact (Below.refl _ _).alloc (Nat.le_refl _) _)
      have C2 := Lib.hid (iDif_any (some ⟨w1.heap.size, 0, none⟩) 1 1 w2.heap.size [x] w2 h3.out (Nat.le_refl _) (by omega) (fun y hy => by rw [List.mem_singleton.1 hy]; exact ⟨hokx, hx6⟩))
      rw [show formL (dAll [x]) = dW x from rfl] at C2
      obtain ⟨D, hD⟩ : ∃ D, D = dW x := ⟨_, rfl⟩
      rw [← hD] at C2 hxd HGk
      have HXd := Lib.hid hxd
      obtain ⟨lD, hlD⟩ : ∃ lD, lD = D.length := ⟨_, rfl⟩
      rw [← hlD] at C2
      have HLD := Lib.hid hlD
      have hlD6 : lD ≤ 1000000 := by rw [hlD]; exact Nat.le_trans (asc_le hxd.asc hxd.sub) (by rw [HLm.out]; exact hn2)
      clear ho1 hb1 hz1 hg hcx hokx hx6 hxm hx hw2 hD hlD hxd
      go_wp2_with fail
      rw [← HW2.out]
      refine C2.out.mono ?_
      rintro e w3 ⟨A4, c4, rfl, ho4, hb4⟩
      have HO4 := Lib.hid ho4
      have HB4 := Lib.hid hb4
      clear ho4 hb4
      have B3 := Lib.hid (show Below w1.heap.size w1 w3 from B12.out.trans (HB4.out.mono B12.out.size))
      have O3 := Lib.hid (HO1.out.below B3.out)
      have M0 := Lib.hid (show IsMask M (D.take 0) 0 from by rw [List.take_zero]; exact IsMask.nil)
      have S3 := Lib.hid (show g < w3.heap.size from Nat.lt_of_lt_of_le hgw.out B3.out.size)
      have hgw2 := Lib.hid (show g + 1 ≤ w2.heap.size from by have := B12.out.size; have := hgw.out; omega)
      have BW := Lib.hid (show Below w.heap.size w w3 from B1.out.trans (B3.out.mono B1.out.size))
      go_wp2_with fail
      obtain ⟨wz, hwz⟩ : ∃ wz : World, wz = w3 := ⟨_, rfl⟩
      subst hwz
      go_loopw [26] (fun i wr => ∃ (j v : Nat), j ≤ lD ∧ i = .int .i64 j ∧ Hid (OwnU wr g g nb v) ∧ Hid (IsMask M (D.take j) v) ∧ Hid (wz.grownBy wr (some g)) ∧ Hid (wr.heap.size = wz.heap.size)) (fun i _ => lD - (intOf i).toNat)
      case atStart => exact ⟨0, 0, Nat.zero_le _, rfl, O3, M0, Lib.hid (World.grownBy.refl _ _), Lib.hid rfl⟩
      case round =>
        clear O3 M0
        obtain ⟨j, v, hj, rfl, HO, HM, HG2, HZ⟩ := hrel
        have hMid := Lib.hid ((Mid.refl g (g + 1) wz).grown HG2.out (fun b hb => by injection hb with hb; omega))
        have HL4 := Lib.hid (HO4.out.mid hMid.out hgw2.out)
        have BWr := Lib.hid (show Below w.heap.size w wr from BW.out.trans (hMid.out.below (Nat.le_of_lt S3.out) |>.mono (by rw [HG.out]; exact HB.out.size)))
        have hgW : W.heap.size ≤ g := Nat.le_of_eq HG.out.symm
        by_cases hjl : j < lD
        · obtain ⟨ad5, A5, n5, c5, y, rfl, hb5, hy, hcy, hr5⟩ := HL4.out.rd.at_ hjl
          have hyM := HXd.out.sub y (List.mem_of_getElem? hy.out)
          obtain ⟨p, hp⟩ := List.mem_iff_getElem?.1 hyM
          have hpl := (List.getElem?_eq_some_iff.1 hp).1
          have hn5 : n5 ≤ 1000000000 := by rw [← hr5.len]; exact HMx.out y hyM
          have C5 := Lib.hid (placeIn_any A2 A5 n2 c2 n5 c5 _ _ p M y wr (HMD.out.below BWr.out) hr5 HMA.out hp (by omega) hn5 HMx.out)
          have C6 := fun q => Lib.hid (flipU_any g g nb v p (wr.drewN q) (HO.out.drewN q) (by rw [HLm.out] at hpl; rw [HNB.out]; omega) hnb1)
          have HM2 := Lib.hid (IsMask.step HMA.out HXd.out.asc HM.out hy.out hp)
          clear hyM hp hpl hr5
          go_wp2_with fail
          refine C5.out.mono ?_
          rintro e w5 ⟨rfl, q, rfl⟩
          go_wp2_with fail
          refine (C6 q).out.mono ?_
          rintro e w6 ⟨rfl, ho6, hg6, hz6⟩
          have HO6 := Lib.hid ho6
          have HG6 := Lib.hid (show wz.grownBy w6 (some g) from grownBy_trans HG2.out ⟨hg6.os, hg6.tape, hg6.output, hg6.size, hg6.block⟩)
          have HZ6 := Lib.hid (show w6.heap.size = wz.heap.size from by rw [hz6]; exact HZ.out)
          clear ho6 hg6 hz6
          go_wp2_with fail
          go_roundw
          case rel => exact ⟨j + 1, _, by omega, by go_num, HO6, HM2, HG6, HZ6⟩
          case measure => simp [intOf]; omega
        · have HMv := Lib.hid (show v = maskF M D from by
            have := HM.out
            rw [List.take_of_length_le (by rw [← HLD.out]; omega)] at this
            exact (maskF_eq this).symm)
          obtain ⟨K, A7, A8, n7, c7, c8, gs, wv, hE7, hK7⟩ := HE.out
          have BWW := Lib.hid (show Below W.heap.size W wr from by rw [← HG.out]; exact (HB1.out.trans (B3.out.mono (Nat.le_of_lt hgw.out))).trans (hMid.out.below (Nat.le_of_lt S3.out)))
          have hkg : K ≤ g := by rw [HG.out]; exact hK7
          have hEK := hE7.k0
          have BA := Lib.hid (BWW.out.alloc BWW.out.size (.cells #[] 87))
          have hn7 : n7 ≤ 1000000 := by
            have h1 := hE7.o1.len
            have h2 := hE7.len
            have h3 := HLn.out k
            rw [List.length_map] at h1
            omega
          have hgr : g < wr.heap.size := by rw [HZ.out]; exact S3.out
          have C7 := Lib.hid (addU_any w.heap.size K nb g v 0 (rowsB (gsF k)) (some ⟨wr.heap.size, 0, none⟩) (wr.alloc (.cells #[] 87)) (hE7.below (BA.out.mono hK7)) ((HO.out.alloc _).mono (by omega)) hkg (by simp; omega) (HPs.out k) (HWd.out k)
            (Nat.lt_of_lt_of_le (mask_lt (M := M) (t := D) (by rw [HMv.out]; exact mask_of HMA.out HXd.out.asc HXd.out.sub)) (Nat.pow_le_pow_right (by decide) (by rw [HLm.out, HNB.out]; omega))) hnb1 hn7 (HT.out.belowB ((HB.out.trans (BA.out.mono HB.out.size))) hE) hE)
          rw [show addB (rowsB (gsF k)) v = rowsB (gsF (k + 1)) from by rw [HGk.out, rowsB_snoc, ← HMv.out]] at C7
          have BA2 := Lib.hid (HB.out.trans (BA.out.mono HB.out.size))
          have hjd : ¬ ((j : Int) < (lD : Int)) := by omega
          clear hE7 hn7
          go_wp2_with fail
          refine C7.out.mono ?_
          rintro e w7 ⟨rfl, hX7, hb7⟩
          have HE8 := Lib.hid hX7
          have HB8 := Lib.hid (BA2.out.trans hb7)
          clear hX7 hb7
          go_wp2_with fail
          go_roundw
          case rel => exact ⟨k + 1, by omega, by go_num, HE8, HB8⟩
          case measure => simp [intOf]; omega
    · obtain rfl : k = n := by omega
      go_wp2_with fail
      rw [HX.out]
      exact ⟨rfl, HE.out, HB.out⟩
end Go.Proofs.YtdgcgcodjddddaaDoor
