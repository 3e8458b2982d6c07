/- spec.l08Plus, spec.l08Times. -/
import Derived.Test.YtoodhbafleemjaaGreatPut
import Derived.Test.YtoodhbafleemjaaGreatMlp
import Derived.Test.YtoodhbafleemjaaGreatPlyA
import Derived.Lib.QuietBelow
import Derived.Deep.RegionHeld3
namespace Go.Proofs.YtoodhbafleemjaaGreat
open Go.RowKit
set_option linter.unusedVariables false

theorem plusW_take_succ {x y : List Int} {k : Nat} {a b : Int} (hx : Hid (x[k]? = some a)) (hy : Hid (y[k]? = some b)) : (plusW x y).take (k + 1) = (plusW x y).take k ++ [a + b] := by
  rw [List.take_add_one]
  congr 1
  unfold plusW
  rw [List.getElem?_zipWith, hx.out, hy.out]
  rfl
set_option maxRecDepth 100000 in
theorem plus08_any (A1 A2 : Option Addr) (n c1 c2 : Nat) (x y : List Int) (w : World) (h1 : RdS w w.heap.size A1 n c1 x) (h2 : RdS w w.heap.size A2 n c2 y) (hn : n ≤ 1000000) (hx : ∀ a ∈ x, 0 ≤ a ∧ a ≤ 1000000) (hy : ∀ a ∈ y, 0 ≤ a ∧ a ≤ 1000000) :
    Calls Tryz.prog 107 #[.slice A1 n c1, .slice A2 n c2] w (RetO n (plusW x y) w) := by
  have H1 := Lib.hid h1
  have H2 := Lib.hid h2
  have HX := Lib.hid hx
  have HY := Lib.hid hy
  have HL := Lib.hid (show (plusW x y).length = n by rw [plusW_len (by rw [h1.len, h2.len]), h1.len])
  have S0 := Lib.hid (StS.start (Below.refl w.heap.size w) (Nat.le_refl _))
  clear h1 h2 hx hy
  go_enter Tryz.func107, Tryz.ntmps107
  go_wp2_with fail
  go_loopw [5, 6] (fun v i wr => ∃ (k c : Nat) (A : Option Addr), k ≤ n ∧ i = .int .i64 k ∧ v = .slice A k c ∧ Hid (StS w w.heap.size wr A k c ((plusW x y).take k))) (fun _ i _ => n - (intOf i).toNat)
  case atStart => exact ⟨0, _, _, Nat.zero_le _, rfl, rfl, S0⟩
  case round =>
    obtain ⟨k, c, A, hk, rfl, rfl, HS⟩ := hrel
    by_cases hlt : k < n
    · obtain ⟨ad1, a, rfl, hb1, ha, hc1⟩ := (H1.out.below HS.out.bel).at_ hlt
      obtain ⟨ad2, b, rfl, hb2, hb, hc2⟩ := (H2.out.below HS.out.bel).at_ hlt
      have ga := HX.out a (mem_of ha)
      have gb := HY.out b (mem_of hb)
      have hw64 : wrap64 (a + b) = a + b := by unfold wrap64; omega
      have hwi : IntKind.i64.wrap (a + b) = a + b := by rw [IntKind.wrap_i64]; omega
      clear ga gb
      have h10 : w.cell? (ad1.add k) = some (.int .i64 a) := (HS.out.bel.cell (p := ad1.add k) (by rw [block_of_add]; exact hb1)).symm.trans hc1
      have h20 : w.cell? (ad2.add k) = some (.int .i64 b) := (HS.out.bel.cell (p := ad2.add k) (by rw [block_of_add]; exact hb2)).symm.trans hc2
      have kd1 : wr.drew.cell? (ad1.add k) = some (.int .i64 a) := hc1
      have kd2 : wr.drew.cell? (ad2.add k) = some (.int .i64 b) := hc2
      have hz := HS.out.hi
      have bal := (Below.refl wr.heap.size wr).alloc (Nat.le_refl _) (.cells #[.int .i64 (a + b)] 2)
      have lt1 : (ad1.add k).block < wr.heap.size := by rw [block_of_add]; omega
      have lt2 : (ad2.add k).block < wr.heap.size := by rw [block_of_add]; omega
      have ke1 : ((wr.alloc (.cells #[.int .i64 (a + b)] 2)).drew).cell? (ad1.add k) = some (.int .i64 a) := bcellA bal lt1 hc1
      have ke2 : ((wr.alloc (.cells #[.int .i64 (a + b)] 2)).drew).cell? (ad2.add k) = some (.int .i64 b) := bcellA bal lt2 hc2
      have HS1 := Lib.hid (show StS w w.heap.size (wr.alloc (.cells #[.int .i64 (a + b)] 2)).drew A k c ((plusW x y).take k) from (HS.out.call bal).drewN 1)
      have RD1 := Lib.hid (show RdS (wr.alloc (.cells #[.int .i64 (a + b)] 2)).drew (wr.heap.size + 1) (some ⟨wr.heap.size, 0, none⟩) 1 1 [a + b] from (rd_new wr (a + b) _).drewN 1)
      have HT := Lib.hid (plusW_take_succ ha hb)
      clear bal lt1 lt2
      go_wp2_with fail
      go_region_held3 (fun w' => w'.cell? (ad1.add k) = some (.int .i64 a) ∧ w'.cell? (ad2.add k) = some (.int .i64 b)) (first | (with_reducible exact ⟨kd1, kd2⟩) | (with_reducible exact ⟨ke1, ke2⟩) | (with_reducible exact ⟨kf1, kf2⟩))
        (first
          | (rw [if_pos]
             rotate_left
             · rfl
             refine wp_appV eltI (.tmp 14) (.tmp 24) rfl rfl rfl HS1.out.own.v RD1.out.v (ints_one [a + b]) (by omega) (by decide) HS1.out.hi ?_
             intro A7 c7 w7 hv7 hg7 _
             have V7 := Lib.hid (show StS w w.heap.size w7 A7 (k + 1) c7 ((plusW x y).take (k + 1)) from by
               rw [HT.out]
               exact ⟨OwnV.s (by simpa using hv7), HS1.out.bel.grown hg7 HS1.out.hi HS1.out.own.row, Nat.le_trans HS1.out.hi hg7.size⟩)
             have kf1 := (V7.out.bel.cell (p := ad1.add k) (by rw [block_of_add]; omega)).trans h10
             have kf2 := (V7.out.bel.cell (p := ad2.add k) (by rw [block_of_add]; omega)).trans h20
             clear hv7 hg7))
      go_wp2_with fail
      go_roundw
      case rel => exact ⟨k + 1, c7, A7, by omega, by go_num, rfl, V7⟩
      case measure => simp [intOf]; omega
    · obtain rfl : k = n := by omega
      go_wp2_with fail
      go_ret
      exact RetO.mk2 rfl (by rw [List.take_of_length_le (by rw [HL.out]; exact Nat.le_refl _)]) HS.out

theorem oddL_snoc (L : List (List Int)) (z : List Int) : insX z (oddL L) = oddL (L ++ [z]) :=
  (show oddL (z :: L) = oddL (L ++ [z]) from oddL_congr (SameSum.of_perm (by simpa using (List.perm_append_comm (l₁ := [z]) (l₂ := L)))))
theorem prodsP_take_succ {f g : List (List Int)} {i : Nat} {x : List Int} (h : Hid (f[i]? = some x)) : prodsP (f.take (i + 1)) g = prodsP (f.take i) g ++ g.map (plusW x) := by
  unfold prodsP
  rw [List.take_add_one, h.out, List.flatMap_append]
  simp
theorem map_take_succ' {g : List (List Int)} {j : Nat} {x y : List Int} (h : Hid (g[j]? = some y)) : (g.take (j + 1)).map (plusW x) = (g.take j).map (plusW x) ++ [plusW x y] := by
  rw [List.take_add_one, h.out, List.map_append]; rfl
theorem prods_part_len {f g : List (List Int)} {i j : Nat} {x : List Int} (hf : f.length ≤ 20000) (hg : g.length ≤ 20000) : (prodsP (f.take i) g ++ (g.take j).map (plusW x)).length ≤ 500000000 := by
  rw [List.length_append, prodsP_len, List.length_map, List.length_take, List.length_take]
  have h1 : min i f.length * g.length ≤ 20000 * 20000 := Nat.mul_le_mul (by omega) hg
  omega
/-- exponents of k variables that are not too large -/
def Sml (k : Nat) (x : List Int) : Prop := x.length = k ∧ ∀ a ∈ x, 0 ≤ a ∧ a ≤ 1000000
theorem prods_part_mem {f g : List (List Int)} {i j k : Nat} {x : List Int} (hf : ∀ z ∈ f, Sml k z) (hg : ∀ z ∈ g, Sml k z) (hx : Sml k x) : ∀ z ∈ prodsP (f.take i) g ++ (g.take j).map (plusW x), z.length = k := by
  intro z hz
  rcases List.mem_append.1 hz with hz | hz
  · obtain ⟨p, hp, hz⟩ := List.mem_flatMap.1 hz
    obtain ⟨q, hq, rfl⟩ := List.mem_map.1 hz
    have h1 := (hf p (List.mem_of_mem_take hp)).1
    have h2 := (hg q hq).1
    rw [plusW_len (by rw [h1, h2]), h1]
  · obtain ⟨q, hq, rfl⟩ := List.mem_map.1 hz
    have h2 := (hg q (List.mem_of_mem_take hq)).1
    rw [plusW_len (by rw [hx.1, h2]), hx.1]

set_option maxRecDepth 100000 in
set_option maxHeartbeats 1000000 in
theorem l08Times_any (A1 A2 : Option Addr) (n1 c1 n2 c2 k : Nat) (xss yss : List (List Int)) (w : World) (h1 : RdL w w.heap.size A1 n1 c1 xss) (h2 : RdL w w.heap.size A2 n2 c2 yss) (hn1 : n1 ≤ 20000) (hn2 : n2 ≤ 20000) (hx : ∀ x ∈ xss, Sml k x) (hy : ∀ y ∈ yss, Sml k y) (hk : k ≤ 10) :
    Calls Tryz.prog 54 #[.slice A1 n1 c1, .slice A2 n2 c2] w (RetL (oddL (prodsP xss yss)).length (oddL (prodsP xss yss)) w) := by
  have HL1 := Lib.hid h1.len
  have HL2 := Lib.hid h2.len
  have H1 := Lib.hid h1
  have H2 := Lib.hid h2
  have HX := Lib.hid hx
  have HY := Lib.hid hy
  obtain ⟨R, hR⟩ : ∃ R, R = RetL (oddL (prodsP xss yss)).length (oddL (prodsP xss yss)) w := ⟨_, rfl⟩
  have HR := Lib.hid hR
  rw [← hR]
  obtain ⟨B, hB⟩ : ∃ B, B = w.heap.size := ⟨_, rfl⟩
  obtain ⟨w0, hw0⟩ : ∃ w0, w0 = w.alloc (.cells #[] 41) := ⟨_, rfl⟩
  have S0 := Lib.hid (show OwnL w0 B w0.heap.size (some ⟨B, 0, none⟩) 0 0 [] from by
    have := (StL.start (Below.refl w.heap.size w) (Nat.le_refl _)).own
    rw [hw0, hB]
    simpa using this)
  have B0 := Lib.hid (show Below B w w0 from by rw [hw0, hB]; exact (Below.refl _ _).alloc (Nat.le_refl _) _)
  have HB := Lib.hid hB
  have HW0 := Lib.hid hw0
  clear h1 h2 hx hy hR hB hw0
  go_enter Tryz.func54, Tryz.ntmps54
  go_wp2_with fail
  rw [← HW0.out, ← HB.out]
  go_loopw [5, 6] (fun v i wr => ∃ (p c l : Nat) (A : Option Addr) (L : List (List Int)), p ≤ n1 ∧ i = .int .i64 p ∧ v = .slice A l c ∧ Hid (L = prodsP (xss.take p) yss) ∧ Hid (OwnL wr B wr.heap.size A l c (oddL L)) ∧ Hid (Below B w wr)) (fun _ i _ => n1 - (intOf i).toNat)
  case atStart => exact ⟨0, 0, 0, _, [], Nat.zero_le _, rfl, rfl, Lib.hid (by simp [prodsP]), S0, B0⟩
  case round =>
    obtain ⟨p, c, l, A, L, hp, rfl, rfl, HL, HO, HW⟩ := hrel
    by_cases hlt : p < n1
    · obtain ⟨ad1, A3, n3, c3, x, rfl, hb1, hx, hc1, hr3⟩ := H1.out.at_ hlt
      have SX := Lib.hid (HX.out x (List.mem_of_getElem? hx.out))
      have n3k : n3 = k := by rw [← hr3.len]; exact SX.out.1
      subst n3k
      have HR3 := Lib.hid hr3
      have HC1 := Lib.hid hc1
      have HB1 := Lib.hid hb1
      clear hr3 hc1 hb1
      go_wp2_with fail
      go_loopw [5, 7] (fun v i wi => ∃ (q c l : Nat) (A : Option Addr) (M : List (List Int)), q ≤ n2 ∧ i = .int .i64 q ∧ v = .slice A l c ∧ Hid (M = prodsP (xss.take p) yss ++ (yss.take q).map (plusW x)) ∧ Hid (OwnL wi B wi.heap.size A l c (oddL M)) ∧ Hid (Below B w wi)) (fun _ i _ => n2 - (intOf i).toNat)
      case atStart => exact ⟨0, _, _, _, L, Nat.zero_le _, rfl, rfl, Lib.hid (by rw [HL.out]; simp), HO, HW⟩
      case round =>
        clear HO HW
        obtain ⟨q, c, l, A, M, hq, rfl, rfl, HM, HO, HW⟩ := hrel
        by_cases hlq : q < n2
        · obtain ⟨ad2, A4, n4, c4, y, rfl, hb2, hy, hc2, hr4⟩ := H2.out.at_ hlq
          have SY := Lib.hid (HY.out y (List.mem_of_getElem? hy.out))
          have n4k : n4 = n3 := by rw [← hr4.len]; exact SY.out.1
          subst n4k
          have HR4 := Lib.hid hr4
          have HC2 := Lib.hid hc2
          have HB2 := Lib.hid hb2
          clear hr4 hc2 hb2
          have kk1 : wr.cell? (ad1.add p) = some (.slice A3 n4 c3) := (HW.out.cell (p := ad1.add p) (by rw [block_of_add, HB.out]; exact HB1.out)).trans HC1.out
          have kk2 : wr.cell? (ad2.add q) = some (.slice A4 n4 c4) := (HW.out.cell (p := ad2.add q) (by rw [block_of_add, HB.out]; exact HB2.out)).trans HC2.out
          have kd1 : wr.drew.cell? (ad1.add p) = some (.slice A3 n4 c3) := kk1
          have kd2 : wr.drew.cell? (ad2.add q) = some (.slice A4 n4 c4) := kk2
          have Wd := Lib.hid (show Below B w wr.drew from below_drewN HW.out 1)
          have Od := Lib.hid (show OwnL wr.drew B wr.heap.size A l c (oddL M) from HO.out.drewN 1)
          have hMl : M.length ≤ 500000000 := by rw [HM.out]; exact prods_part_len (by rw [HL1.out]; exact hn1) (by rw [HL2.out]; exact hn2)
          have hol : l ≤ 500000000 := by rw [← HO.out.len]; exact Nat.le_trans (oddL_len M) hMl
          have HMm := Lib.hid (show ∀ z ∈ oddL M, z.length ≤ 1000000000 from fun z hz => by
            have := prods_part_mem HX.out HY.out SX.out z (by rw [← HM.out]; exact oddL_mem hz)
            omega)
          have WdW : Below w.heap.size w wr.drew := by
            have := Wd.out
            rwa [HB.out] at this
          have HP := Lib.hid (plus08_any A3 A4 n4 c3 c4 x y wr.drew ((HR3.out.below WdW).mono WdW.size) ((HR4.out.below WdW).mono WdW.size) (by omega) SX.out.2 SY.out.2)
          clear WdW
          clear hMl
          have hBw := Wd.out.size
          rw [← HB.out] at hBw
          have HBW := Lib.hid (show B ≤ wr.heap.size from hBw)
          have HHO := Lib.hid hol
          clear hBw hol
          go_wp2_with fail
          go_region_held3 (fun w' => w'.cell? (ad1.add p) = some (.slice A3 n4 c3) ∧ w'.cell? (ad2.add q) = some (.slice A4 n4 c4)) (first | (with_reducible exact ⟨kd1, kd2⟩) | (with_reducible exact ⟨ka1, ka2⟩) | (with_reducible exact ⟨kb1, kb2⟩))
            (first
              | (go_at_call 107
                 refine HP.out.mono ?_
                 rintro e w4 ⟨A5, c5, rfl, ho5, hb5⟩
                 have W4 := Lib.hid (Wd.out.trans (hb5.mono HBW.out))
                 have O4 := Lib.hid (Od.out.below hb5)
                 have P4 := Lib.hid ho5.rd
                 have Z4 := Lib.hid (show wr.heap.size ≤ w4.heap.size from hb5.size)
                 have ka1 : w4.cell? (ad1.add p) = some (.slice A3 n4 c3) := (W4.out.cell (p := ad1.add p) (by rw [block_of_add, HB.out]; exact HB1.out)).trans HC1.out
                 have ka2 : w4.cell? (ad2.add q) = some (.slice A4 n4 c4) := (W4.out.cell (p := ad2.add q) (by rw [block_of_add, HB.out]; exact HB2.out)).trans HC2.out
                 clear ho5 hb5)
              | (go_at_call 106
                 refine (put_any A A5 l c n4 c5 B wr.heap.size (oddL M) (plusW x y) _ O4.out HBW.out Z4.out P4.out (by have := HHO.out; omega) (by omega) HMm.out).mono ?_
                 rintro e w5 ⟨A6, c6, rfl, ho6, hb6⟩
                 obtain ⟨l6, hl6⟩ : ∃ l6, l6 = (insX (plusW x y) (oddL M)).length := ⟨_, rfl⟩
                 rw [← hl6] at ho6 ⊢
                 have O5 := Lib.hid (show OwnL w5 B w5.heap.size A6 l6 c6 (oddL (M ++ [plusW x y])) from by rw [← oddL_snoc]; exact ho6)
                 have W5 := Lib.hid (W4.out.trans (hb6.mono (Nat.le_trans HBW.out Z4.out)))
                 have kb1 : w5.cell? (ad1.add p) = some (.slice A3 n4 c3) := (W5.out.cell (p := ad1.add p) (by rw [block_of_add, HB.out]; exact HB1.out)).trans HC1.out
                 have kb2 : w5.cell? (ad2.add q) = some (.slice A4 n4 c4) := (W5.out.cell (p := ad2.add q) (by rw [block_of_add, HB.out]; exact HB2.out)).trans HC2.out
                 clear ho6 hb6 hl6))
          go_wp2_with fail
          go_roundw
          case rel => exact ⟨q + 1, c6, l6, A6, _, by omega, by go_num, rfl, Lib.hid (by rw [map_take_succ' hy, ← List.append_assoc, ← HM.out]), O5, W5⟩
          case measure => simp [intOf]; omega
        · obtain rfl : q = n2 := by omega
          have HM2 := Lib.hid (show M = prodsP (xss.take (p + 1)) yss from by
            rw [HM.out, prodsP_take_succ hx, List.take_of_length_le (l := yss) (by rw [HL2.out]; exact Nat.le_refl _)])
          go_wp2_with fail
          go_roundw
          case rel => exact ⟨p + 1, c, l, A, M, by omega, by go_num, rfl, HM2, HO, HW⟩
          case measure => simp [intOf]; omega
    · obtain rfl : p = n1 := by omega
      have HM2 := Lib.hid (show L = prodsP xss yss from by
        rw [HL.out, List.take_of_length_le (by rw [HL1.out]; exact Nat.le_refl _)])
      go_wp2_with fail
      rw [HR.out, ← HM2.out]
      rw [HB.out] at HO HW
      obtain rfl := HO.out.len
      exact ⟨A, c, rfl, HO.out, HW.out⟩
end Go.Proofs.YtoodhbafleemjaaGreat

/- spec.MultiplyPolys. -/
namespace Go.Proofs.YtoodhbafleemjaaGreat
open Go.RowKit
set_option linter.unusedVariables false

set_option maxRecDepth 100000 in
set_option maxHeartbeats 1000000 in
theorem sMultiplyPolys (v u : Int) (A1 A2 : Option Addr) (n1 c1 n2 c2 : Nat) (xss yss : List (List Int)) (w : World) (h1 : RdL w w.heap.size A1 n1 c1 xss) (h2 : RdL w w.heap.size A2 n2 c2 yss) (hn1 : n1 ≤ 2000000) (hn2 : n2 ≤ 2000000) (ht1 : totalL xss ≤ 2000000) (ht2 : totalL yss ≤ 2000000) :
    Calls Tryz.prog 8 #[.agg #[.int .i64 v, .slice A1 n1 c1], .agg #[.int .i64 u, .slice A2 n2 c2]] w (RetPl (mlpO v xss u yss) w) := by
  obtain ⟨w0, b, hw0, hbe, hb0, hz0, hF⟩ := start222 w (.int .i64 v) (.slice A1 n1 c1) (.int .i64 u) (.slice A2 n2 c2) (.int .i64 0) (.slice none 0 0) 26 26 26
  have HL1 := Lib.hid h1.len
  have HL2 := Lib.hid h2.len
  have H1 := Lib.hid (rdL_here h1 hb0); clear h1
  have H2 := Lib.hid (rdL_here h2 hb0); clear h2
  have Hw := Lib.hid hw0; clear hw0
  have Hbe := Lib.hid hbe; clear hbe
  have Hb0 := Lib.hid hb0; clear hb0
  have HZ := Lib.hid hz0; clear hz0
  have F0 := Lib.hid hF; clear hF
  have X0 := Lib.hid (Below.refl w0.heap.size w0)
  obtain ⟨o, ho⟩ : ∃ o, o = mlpO v xss u yss := ⟨_, rfl⟩
  have HO := Lib.hid ho
  rw [← ho]
  clear ho
  obtain ⟨a, ha⟩ : ∃ a, a = bothO v xss u yss := ⟨_, rfl⟩
  have HA := Lib.hid ha
  clear ha
  go_enter Tryz.func8, Tryz.ntmps8
  go_wp2_with fail
  rw [← Hw.out, ← Hbe.out]
  have k0 := (F0.out.below X0.out).at_ (b := b) (o := 0) (V := .int .i64 v) (by simp)
  have k1 := (F0.out.below X0.out).at_ (b := b) (o := 1) (V := .slice A1 n1 c1) (by simp)
  have k2 := (F0.out.below X0.out).at_ (b := b + 1) (o := 0) (V := .int .i64 u) (by simp)
  have k3 := (F0.out.below X0.out).at_ (b := b + 1) (o := 1) (V := .slice A2 n2 c2) (by simp)
  refine (l08Both_any v u A1 A2 n1 c1 n2 c2 xss yss _ H1.out H2.out hn1 hn2 ht1 ht2).mono ?_
  rintro e w1 ⟨rfl, hb1⟩
  rw [← HA.out]
  have X1 := Lib.hid hb1; clear hb1 k0 k1 k2 k3
  have k0 := (F0.out.below X1.out).at_ (b := b) (o := 0) (V := .int .i64 v) (by simp)
  have k1 := (F0.out.below X1.out).at_ (b := b) (o := 1) (V := .slice A1 n1 c1) (by simp)
  have k2 := (F0.out.below X1.out).at_ (b := b + 1) (o := 0) (V := .int .i64 u) (by simp)
  have k3 := (F0.out.below X1.out).at_ (b := b + 1) (o := 1) (V := .slice A2 n2 c2) (by simp)
  have hcase : (Hid (a ≠ 0) ∧ Hid (o = (0, [], a))) ∨ (Hid (a = 0) ∧ Hid (polB v xss = true) ∧ Hid (polB u yss = true) ∧ Hid (v = u)) := by
    have ha := HA.out
    have hov := HO.out
    unfold bothO at ha
    split at ha
    · rename_i hp
      split at ha
      · rename_i hv
        exact .inr ⟨Lib.hid ha, Lib.hid hp.1, Lib.hid hp.2, Lib.hid hv⟩
      · rename_i hv
        refine .inl ⟨Lib.hid (by omega), Lib.hid ?_⟩
        rw [hov, ha]
        exact mlpO_range hp.1 hp.2 hv
    · rename_i hp
      refine .inl ⟨Lib.hid (by omega), Lib.hid ?_⟩
      rw [hov, ha]
      unfold mlpO
      rw [if_neg hp]
  rcases hcase with ⟨hA, HV⟩ | ⟨hA, hp1, hp2, hvu⟩
  · have ha := hA.out
    have hne1 : (a == 0) = false := by simpa using ha
    have hne2 : (a != 0) = true := by simpa using ha
    clear ha
    go_wp2_with fail
    have g0 := cell_regrown k0
    have g1 := cell_regrown k1
    have g2 := cell_regrown k2
    have g3 := cell_regrown k3
    refine wp_region_quiet_below (by kernel_rfl) (by kernel_rfl) ?_
    repeat (go_big_quiet_step (fail))
    refine wpQuiet_nil ?_
    intro _ hw'
    obtain ⟨⟨dq, osq⟩, hw''⟩ := hw'
    subst hw''
    have hb2 := below_regrown w1 dq osq
    obtain ⟨w2, hwq⟩ : ∃ W, W = Sort.grow (redrawn w1 dq) osq := ⟨_, rfl⟩
    rw [← hwq] at hb2 ⊢
    clear hwq
    have X2 := Lib.hid (X1.out.trans (hb2.mono X1.out.size))
    clear g0 g1 g2 g3 k0 k1 k2 k3 hb2
    have q0 := (F0.out.below X2.out).at_ (b := b + 1 + 1) (o := 0) (V := .int .i64 0) (by simp)
    have q1 := (F0.out.below X2.out).at_ (b := b + 1 + 1) (o := 1) (V := .slice none 0 0) (by simp)
    have f0 := (F0.out.below X2.out).fr (b := b + 1 + 1) (o := 0) (V := .int .i64 0) (by simp)
    have f1 := (F0.out.below X2.out).fr (b := b + 1 + 1) (o := 1) (V := .slice none 0 0) (by simp)
    have hres := cells_end q0 q1 (.int .i64 0) (.slice none 0 0)
    go_wp2_with fail
    refine bodyPost_ret (v := .tuple #[.agg #[.int .i64 0, .slice none 0 0], .int .i64 a]) (by simp [results, Tryz.results8, go_sem, hres.1, hres.2]) rfl ?_
    exact RetNC.bad (by rw [HV.out]) (by rw [HV.out]) (by rw [HV.out]) (Hb0.out.trans (X2.out.mono Hb0.out.size)) (by rw [Hbe.out]; omega)
  · have ha := hA.out
    subst ha
    have HP1 := Lib.hid (polF_of hp1.out)
    have HP2 := Lib.hid (polF_of hp2.out)
    have HL1' := Lib.hid (show xss.length ≤ 2000 from HP1.out.len)
    have HL2' := Lib.hid (show yss.length ≤ 2000 from HP2.out.len)
    obtain ⟨d1, hd1⟩ : ∃ d, d = degL xss := ⟨_, rfl⟩
    obtain ⟨d2, hd2⟩ : ∃ d, d = degL yss := ⟨_, rfl⟩
    have E1 := Lib.hid hd1
    have E2 := Lib.hid hd2
    have b1 := HP1.out.deg.2
    have b2 := HP2.out.deg.2
    rw [← hd1] at b1
    rw [← hd2] at b2
    have BD1 := Lib.hid b1
    have BD2 := Lib.hid b2
    clear hd1 hd2 b1 b2
    have hwd : IntKind.i64.wrap (d1 + d2) = d1 + d2 := by have := BD1.out; have := BD2.out; rw [IntKind.wrap_i64]; omega
    have D1 := fun (W : World) (hB : Below w1.heap.size w1 W) => Lib.hid (show Calls Tryz.prog 52 #[.slice A1 n1 c1] W (RetIb d1 W) from by
      rw [E1.out]
      exact (l08Degree_any A1 n1 c1 _ xss W (rdL_here H1.out (X1.out.trans (hB.mono X1.out.size))) hn1 ht1).mono fun e w' h => ⟨h.1, by rw [h.2]; exact Below.refl _ _⟩)
    have D2 := fun (W : World) (hB : Below w1.heap.size w1 W) => Lib.hid (show Calls Tryz.prog 52 #[.slice A2 n2 c2] W (RetIb d2 W) from by
      rw [E2.out]
      exact (l08Degree_any A2 n2 c2 _ yss W (rdL_here H2.out (X1.out.trans (hB.mono X1.out.size))) hn2 ht2).mono fun e w' h => ⟨h.1, by rw [h.2]; exact Below.refl _ _⟩)
    have hcase : (Hid (0 < n1) ∧ Hid (0 < n2) ∧ Hid (40 < d1 + d2)) ∨ Hid (n1 = 0) ∨ (Hid (0 < n1) ∧ Hid (n2 = 0)) ∨ (Hid (0 < n1) ∧ Hid (0 < n2) ∧ Hid (d1 + d2 ≤ 40)) := by
      by_cases a2 : n1 = 0
      · exact .inr (.inl (Lib.hid a2))
      · by_cases a3 : n2 = 0
        · exact .inr (.inr (.inl ⟨Lib.hid (by omega), Lib.hid a3⟩))
        · by_cases a4 : 40 < d1 + d2
          · exact .inl ⟨Lib.hid (by omega), Lib.hid (by omega), Lib.hid a4⟩
          · exact .inr (.inr (.inr ⟨Lib.hid (by omega), Lib.hid (by omega), Lib.hid (Int.not_lt.1 a4)⟩))
    go_wp2_with fail
    have g0 := cell_regrown k0
    have g1 := cell_regrown k1
    have g2 := cell_regrown k2
    have g3 := cell_regrown k3
    rcases hcase with ⟨a2, a3, a4⟩ | hcase
    · have t1 : decide ((0 : Int) < n1) = true := decide_eq_true (by have := a2.out; omega)
      have t2 : decide ((0 : Int) < n2) = true := decide_eq_true (by have := a3.out; omega)
      have t3 : decide (0 < n1) = true := decide_eq_true a2.out
      have t4 : decide (0 < n2) = true := decide_eq_true a3.out
      have hne3 : decide (40 < d1 + d2) = true := decide_eq_true a4.out
      have HV := Lib.hid (HO.out.trans (mlpO_lim hp1.out hp2.out hvu.out (by rw [HL1.out]; exact a2.out) (by rw [HL2.out]; exact a3.out) (by rw [← E1.out, ← E2.out]; exact a4.out)))
      refine wp_region_quiet_below (by kernel_rfl) (by kernel_rfl) ?_
      repeat (go_big_quiet_step ((first | (go_at_call_of 52 A1; exact Calls.regrown_of ((D1 _ (below_regrown _ _ _)).out)) | (go_at_call_of 52 A2; exact Calls.regrown_of ((D2 _ (below_regrown _ _ _)).out)))))
      refine wpQuiet_nil ?_
      intro _ hw'
      obtain ⟨⟨dq, osq⟩, hw''⟩ := hw'
      subst hw''
      have hb2 := below_regrown w1 dq osq
      obtain ⟨w2, hwq⟩ : ∃ W, W = Sort.grow (redrawn w1 dq) osq := ⟨_, rfl⟩
      rw [← hwq] at hb2 ⊢
      clear hwq
      have X2 := Lib.hid (X1.out.trans (hb2.mono X1.out.size))
      clear g0 g1 g2 g3 k0 k1 k2 k3 hb2 D1 D2 t1 t2 t3 t4 hne3
      have q0 := (F0.out.below X2.out).at_ (b := b + 1 + 1) (o := 0) (V := .int .i64 0) (by simp)
      have q1 := (F0.out.below X2.out).at_ (b := b + 1 + 1) (o := 1) (V := .slice none 0 0) (by simp)
      have f0 := (F0.out.below X2.out).fr (b := b + 1 + 1) (o := 0) (V := .int .i64 0) (by simp)
      have f1 := (F0.out.below X2.out).fr (b := b + 1 + 1) (o := 1) (V := .slice none 0 0) (by simp)
      have hres := cells_end q0 q1 (.int .i64 0) (.slice none 0 0)
      go_wp2_with fail
      refine bodyPost_ret (v := .tuple #[.agg #[.int .i64 0, .slice none 0 0], .int .i64 3]) (by simp [results, Tryz.results8, go_sem, hres.1, hres.2]) rfl ?_
      exact RetNC.bad (by rw [HV.out]) (by rw [HV.out]) (by rw [HV.out]) (Hb0.out.trans (X2.out.mono Hb0.out.size)) (by rw [Hbe.out]; omega)
    · have HV := Lib.hid (HO.out.trans (mlpO_ok hp1.out hp2.out hvu.out (by
        rcases hcase with a | ⟨_, a⟩ | ⟨_, _, a⟩
        · exact .inl (by rw [HL1.out]; exact a.out)
        · exact .inr (.inl (by rw [HL2.out]; exact a.out))
        · exact .inr (.inr (by rw [← E1.out, ← E2.out]; exact Int.not_lt.2 a.out)))))
      rcases hcase with a2 | ⟨a2, a3⟩ | ⟨a2, a3, a4⟩
      have t1 : decide ((0 : Int) < n1) = false := decide_eq_false (by have := a2.out; omega)
      have t3 : decide (0 < n1) = false := decide_eq_false (by have := a2.out; omega)
      refine wp_region_quiet_below (by kernel_rfl) (by kernel_rfl) ?_
      repeat (go_big_quiet_step (fail))
      refine wpQuiet_nil ?_
      intro _ hw'
      obtain ⟨⟨dq, osq⟩, hw''⟩ := hw'
      subst hw''
      have hb2 := below_regrown w1 dq osq
      obtain ⟨w2, hwq⟩ : ∃ W, W = Sort.grow (redrawn w1 dq) osq := ⟨_, rfl⟩
      rw [← hwq] at hb2 ⊢
      clear hwq
      clear t1 t3
      rotate_left
      have t1 : decide ((0 : Int) < n1) = true := decide_eq_true (by have := a2.out; omega)
      have t2 : decide ((0 : Int) < n2) = false := decide_eq_false (by have := a3.out; omega)
      have t3 : decide (0 < n1) = true := decide_eq_true a2.out
      have t4 : decide (0 < n2) = false := decide_eq_false (by have := a3.out; omega)
      refine wp_region_quiet_below (by kernel_rfl) (by kernel_rfl) ?_
      repeat (go_big_quiet_step (fail))
      refine wpQuiet_nil ?_
      intro _ hw'
      obtain ⟨⟨dq, osq⟩, hw''⟩ := hw'
      subst hw''
      have hb2 := below_regrown w1 dq osq
      obtain ⟨w2, hwq⟩ : ∃ W, W = Sort.grow (redrawn w1 dq) osq := ⟨_, rfl⟩
      rw [← hwq] at hb2 ⊢
      clear hwq
      clear t1 t2 t3 t4
      rotate_left
      have t1 : decide ((0 : Int) < n1) = true := decide_eq_true (by have := a2.out; omega)
      have t2 : decide ((0 : Int) < n2) = true := decide_eq_true (by have := a3.out; omega)
      have t3 : decide (0 < n1) = true := decide_eq_true a2.out
      have t4 : decide (0 < n2) = true := decide_eq_true a3.out
      have hne3 : decide (40 < d1 + d2) = false := decide_eq_false (Int.not_lt.2 a4.out)
      refine wp_region_quiet_below (by kernel_rfl) (by kernel_rfl) ?_
      repeat (go_big_quiet_step ((first | (go_at_call_of 52 A1; exact Calls.regrown_of ((D1 _ (below_regrown _ _ _)).out)) | (go_at_call_of 52 A2; exact Calls.regrown_of ((D2 _ (below_regrown _ _ _)).out)))))
      refine wpQuiet_nil ?_
      intro _ hw'
      obtain ⟨⟨dq, osq⟩, hw''⟩ := hw'
      subst hw''
      have hb2 := below_regrown w1 dq osq
      obtain ⟨w2, hwq⟩ : ∃ W, W = Sort.grow (redrawn w1 dq) osq := ⟨_, rfl⟩
      rw [← hwq] at hb2 ⊢
      clear hwq
      clear t1 t2 t3 t4 hne3
      all_goals
        have X2 := Lib.hid (X1.out.trans (hb2.mono X1.out.size))
        clear g0 g1 g2 g3 k0 k1 k2 k3 hb2 D1 D2
        have HNL := Lib.hid (show xss.length = 0 ∨ yss.length = 0 ∨ ¬ 40 < degL xss + degL yss from by
          first
            | exact .inl (by rw [HL1.out]; exact a2.out)
            | exact .inr (.inl (by rw [HL2.out]; exact a3.out))
            | exact .inr (.inr (by rw [← E1.out, ← E2.out]; exact Int.not_lt.2 a4.out)))
        obtain ⟨k, hk⟩ : ∃ k : Nat, v = k := ⟨v.toNat, by have := HP1.out.lo; omega⟩
        have hk4 : k ≤ 4 := by have := HP1.out.hi; omega
        have SX := Lib.hid (show ∀ x ∈ xss, Sml k x from fun x hx => by have h := HP1.out.each x hx; exact ⟨by omega, fun a ha => by have := h.2.1 a ha; omega⟩)
        have SY := Lib.hid (show ∀ x ∈ yss, Sml k x from fun x hx => by have h := HP2.out.each x hx; have := hvu.out; exact ⟨by omega, fun a ha => by have := h.2.1 a ha; omega⟩)
        clear hk
        obtain ⟨s, hs⟩ : ∃ s, s = oddL (prodsP xss yss) := ⟨_, rfl⟩
        have hsl : s.length ≤ 4000000 := by
          rw [hs]
          have h1 := oddL_len (prodsP xss yss)
          rw [prodsP_len] at h1
          exact Nat.le_trans h1 (Nat.mul_le_mul HL1'.out HL2'.out)
        have HS := fun (W : World) (hB : Below w0.heap.size w0 W) => Lib.hid (l08Times_any A1 A2 n1 c1 n2 c2 k xss yss W (rdL_here H1.out hB) (rdL_here H2.out hB) (by have := HL1'.out; have := HL1.out; omega) (by have := HL2'.out; have := HL2.out; omega) SX.out SY.out (by omega))
        rw [← hs] at HS HV
        obtain ⟨l, hl⟩ : ∃ l, l = s.length := ⟨_, rfl⟩
        rw [← hl] at HS hsl
        have HLs := Lib.hid hl
        clear hs hl hwd
        have k0 := (F0.out.below X2.out).at_ (b := b) (o := 0) (V := .int .i64 v) (by simp)
        have k1 := (F0.out.below X2.out).at_ (b := b) (o := 1) (V := .slice A1 n1 c1) (by simp)
        have k2 := (F0.out.below X2.out).at_ (b := b + 1) (o := 0) (V := .int .i64 u) (by simp)
        have k3 := (F0.out.below X2.out).at_ (b := b + 1) (o := 1) (V := .slice A2 n2 c2) (by simp)
        clear k0 k1 k2 k3
        obtain ⟨xr, fA, nr, fc, kr, HF, HR1x, HR2x, HR3x, HR4x⟩ := fit_cases (v := v) HV.out HLs.out (by omega)
        have Bd := Lib.hid (show Below w0.heap.size w0 w2.drew from below_drewN X2.out 1)
        have C2 := Lib.hid (F0.out.below X2.out)
        have Cd := Lib.hid (show Cells _ w2.drew from C2.out.drewN 1)
        have BdA := Lib.hid (show Below w0.heap.size w0 (w2.alloc (.cells #[.int .i64 0, .slice none 0 0] 26)).drew from below_drewN (X2.out.alloc X2.out.size _) 1)
        have CdA := Lib.hid (show Cells _ (w2.alloc (.cells #[.int .i64 0, .slice none 0 0] 26)).drew from (C2.out.below ((Below.refl _ _).alloc (Nat.le_refl _) (.cells #[.int .i64 0, .slice none 0 0] 26))).drewN 1)
        have NdA := Lib.hid (show Cells [(w2.heap.size, 0, .int .i64 0), (w2.heap.size, 1, .slice none 0 0)] (w2.alloc (.cells #[.int .i64 0, .slice none 0 0] 26)).drew from (Cells.nil.alloc2 (.int .i64 0) (.slice none 0 0) 26 (w := w2) rfl).drewN 1)
        have zl2 : b + 1 < w2.heap.size := by have := X2.out.size; have := HZ.out; omega
        have zA : (w2.alloc (.cells #[.int .i64 0, .slice none 0 0] 26)).drew.heap.size = w2.heap.size + 1 := by show (w2.alloc (.cells #[.int .i64 0, .slice none 0 0] 26)).heap.size = _; simp
        have kd0 := Cd.out.at_ (b := b) (o := 0) (V := .int .i64 v) (by simp)
        have kd1 := Cd.out.at_ (b := b) (o := 1) (V := .slice A1 n1 c1) (by simp)
        have kd2 := Cd.out.at_ (b := b + 1) (o := 1) (V := .slice A2 n2 c2) (by simp)
        have ke0 := CdA.out.at_ (b := b) (o := 0) (V := .int .i64 v) (by simp)
        have ke1 := CdA.out.at_ (b := b) (o := 1) (V := .slice A1 n1 c1) (by simp)
        have ke2 := CdA.out.at_ (b := b + 1) (o := 1) (V := .slice A2 n2 c2) (by simp)
        go_wp2_with fail
        go_region_held3 (fun w' => w'.cell? ⟨b, 0, none⟩ = some (.int .i64 v) ∧ w'.cell? ⟨b, 1, none⟩ = some (.slice A1 n1 c1) ∧ w'.cell? ⟨b + 1, 1, none⟩ = some (.slice A2 n2 c2)) (first | (with_reducible exact ⟨kd0, kd1, kd2⟩) | (with_reducible exact ⟨ke0, ke1, ke2⟩) | (with_reducible exact ⟨ka0, ka1, ka2⟩) | (with_reducible exact ⟨kf0, kf1, kf2⟩) | (with_reducible exact ⟨kb0, kb1, kb2⟩) | (with_reducible exact ⟨kg0, kg1, kg2⟩) | (with_reducible exact ⟨kh0, kh1, kh2⟩) | (with_reducible exact ⟨two_far mm0 kb0, two_far mm0 kb1, two_far mm1 kb2⟩))
          (first
            | (go_at_call 54
               refine (HS _ (by first | exact Bd.out | exact BdA.out)).out.mono ?_
               rintro e w4 ⟨A5, c5, rfl, ho5, hb5⟩
               have B4 : Hid (Below w0.heap.size w0 w4) := by
                 first
                   | exact Lib.hid (Bd.out.trans (hb5.mono Bd.out.size))
                   | exact Lib.hid (BdA.out.trans (hb5.mono BdA.out.size))
               have M4 : Hid (OwnM w4 w2.heap.size w4.heap.size A5 l c5 s) := by
                 first
                   | exact Lib.hid (ho5.m (Nat.le_refl _))
                   | exact Lib.hid ((ho5.m (Nat.le_refl _)).mono (Nat.le_trans (Nat.le_succ _) (Nat.le_of_eq zA.symm)) (Nat.le_refl _))
               first
                 | have M4s : Hid (OwnM w4 (w2.heap.size + 1) w4.heap.size A5 l c5 s) := Lib.hid ((ho5.m (Nat.le_refl _)).mono (Nat.le_of_eq zA.symm) (Nat.le_refl _))
                 | skip
               have C4 := Lib.hid (F0.out.below B4.out)
               have B4A := Lib.hid (show Below w0.heap.size w0 (w4.alloc (.cells #[.int .i64 0, .slice none 0 0] 26)) from B4.out.alloc B4.out.size _)
               have C4A := Lib.hid (C4.out.below ((Below.refl _ _).alloc (Nat.le_refl _) (.cells #[.int .i64 0, .slice none 0 0] 26)))
               have M4A := Lib.hid (M4.out.below ((Below.refl _ _).alloc (Nat.le_refl _) (.cells #[.int .i64 0, .slice none 0 0] 26)))
               have N4A := Lib.hid (Cells.nil.alloc2 (.int .i64 0) (.slice none 0 0) 26 (w := w4) rfl)
               first
                 | have N4 := Lib.hid (NdA.out.below hb5)
                 | skip
               have ka0 := C4.out.at_ (b := b) (o := 0) (V := .int .i64 v) (by simp)
               have ka1 := C4.out.at_ (b := b) (o := 1) (V := .slice A1 n1 c1) (by simp)
               have ka2 := C4.out.at_ (b := b + 1) (o := 1) (V := .slice A2 n2 c2) (by simp)
               have kf0 := C4A.out.at_ (b := b) (o := 0) (V := .int .i64 v) (by simp)
               have kf1 := C4A.out.at_ (b := b) (o := 1) (V := .slice A1 n1 c1) (by simp)
               have kf2 := C4A.out.at_ (b := b + 1) (o := 1) (V := .slice A2 n2 c2) (by simp)
               clear ho5 hb5)
            | (go_at_call 53
               refine (HF _ _ _).out.mono ?_
               rintro e w5 ⟨rfl, hb6⟩
               have B5 : Hid (Below w0.heap.size w0 w5) := by
                 first
                   | exact Lib.hid (B4.out.trans (hb6.mono B4.out.size))
                   | exact Lib.hid (B4A.out.trans (hb6.mono B4A.out.size))
               have M5 : Hid (OwnM w5 w2.heap.size w4.heap.size A5 l c5 s) := by
                 first
                   | exact Lib.hid (M4.out.below hb6)
                   | exact Lib.hid (M4A.out.below hb6)
               have Z5 : w4.heap.size ≤ w5.heap.size := by
                 first
                   | exact hb6.size
                   | exact Nat.le_trans (by simp) hb6.size
               first
                 | (have N5 := Lib.hid (N4.out.below hb6)
                    have M5s : Hid (OwnM w5 (w2.heap.size + 1) w4.heap.size A5 l c5 s) := Lib.hid (M4s.out.below hb6)
                    have n0 := N5.out.at_ (b := w2.heap.size) (o := 0) (V := .int .i64 0) (by simp)
                    have n1' := N5.out.at_ (b := w2.heap.size) (o := 1) (V := .slice none 0 0) (by simp)
                    have nf0 := N5.out.fr (b := w2.heap.size) (o := 0) (V := .int .i64 0) (by simp)
                    have nf1 := N5.out.fr (b := w2.heap.size) (o := 1) (V := .slice none 0 0) (by simp)
                    have mm0 : w2.heap.size ≠ b := by have := B4.out.size; have := HZ.out; omega
                    have mm1 : w2.heap.size ≠ b + 1 := by have := B4.out.size; have := HZ.out; omega)
                 | (have N5 := Lib.hid (N4A.out.below hb6)
                    have n0 := N5.out.at_ (b := w4.heap.size) (o := 0) (V := .int .i64 0) (by simp)
                    have n1' := N5.out.at_ (b := w4.heap.size) (o := 1) (V := .slice none 0 0) (by simp)
                    have nf0 := N5.out.fr (b := w4.heap.size) (o := 0) (V := .int .i64 0) (by simp)
                    have nf1 := N5.out.fr (b := w4.heap.size) (o := 1) (V := .slice none 0 0) (by simp)
                    have mm0 : w4.heap.size ≠ b := by have := B4.out.size; have := HZ.out; omega
                    have mm1 : w4.heap.size ≠ b + 1 := by have := B4.out.size; have := HZ.out; omega)
                 | skip
               have C5 := Lib.hid (F0.out.below B5.out)
               have C5A := Lib.hid (C5.out.below ((Below.refl _ _).alloc (Nat.le_refl _) (.cells #[.int .i64 0, .slice none 0 0] 26)))
               have C5B := Lib.hid (C5.out.below ((Below.refl _ _).alloc (Nat.le_refl _) (.cells #[.int .i64 xr, .slice (fA A5) nr (fc c5)] 26)))
               have kb0 := C5.out.at_ (b := b) (o := 0) (V := .int .i64 v) (by simp)
               have kb1 := C5.out.at_ (b := b) (o := 1) (V := .slice A1 n1 c1) (by simp)
               have kb2 := C5.out.at_ (b := b + 1) (o := 1) (V := .slice A2 n2 c2) (by simp)
               have kg0 := C5A.out.at_ (b := b) (o := 0) (V := .int .i64 v) (by simp)
               have kg1 := C5A.out.at_ (b := b) (o := 1) (V := .slice A1 n1 c1) (by simp)
               have kg2 := C5A.out.at_ (b := b + 1) (o := 1) (V := .slice A2 n2 c2) (by simp)
               have kh0 := C5B.out.at_ (b := b) (o := 0) (V := .int .i64 v) (by simp)
               have kh1 := C5B.out.at_ (b := b) (o := 1) (V := .slice A1 n1 c1) (by simp)
               have kh2 := C5B.out.at_ (b := b + 1) (o := 1) (V := .slice A2 n2 c2) (by simp)
               clear hb6))
        all_goals
          first
            | (obtain ⟨wz, hwz⟩ : ∃ W, W = w5.alloc (.cells #[.int .i64 xr, .slice (fA A5) nr (fc c5)] 26) := ⟨_, rfl⟩
               rw [← hwz]
               have XZ := Lib.hid (show Below w0.heap.size w0 wz from by rw [hwz]; exact B5.out.alloc B5.out.size _)
               have MZ := Lib.hid (show OwnM wz w0.heap.size w4.heap.size A5 l c5 s from by rw [hwz]; exact (M5.out.below ((Below.refl _ _).alloc (Nat.le_refl _) _)).mono X2.out.size (Nat.le_refl _))
               have hz4 : w4.heap.size ≤ wz.heap.size := by rw [hwz]; simp; omega
               have y0 : wz.cell? ⟨w5.heap.size, 0, none⟩ = some (.int .i64 xr) := by rw [hwz]; exact new_at rfl rfl
               have y1 : wz.cell? ⟨w5.heap.size, 1, none⟩ = some (.slice (fA A5) nr (fc c5)) := by rw [hwz]; exact new_at rfl rfl
               clear hwz)
            | (obtain ⟨wz, hwz⟩ : ∃ W, W = (w5.setCell ⟨w4.heap.size, 0, none⟩ (.int .i64 xr)).setCell ⟨w4.heap.size, 1, none⟩ (.slice (fA A5) nr (fc c5)) := ⟨_, rfl⟩
               rw [← hwz]
               have XZ := Lib.hid (show Below w0.heap.size w0 wz from by rw [hwz]; exact (B5.out.setCell (p := ⟨w4.heap.size, 0, none⟩) B4.out.size _).setCell (p := ⟨w4.heap.size, 1, none⟩) B4.out.size _)
               have MZ := Lib.hid (show OwnM wz w0.heap.size w4.heap.size A5 l c5 s from by rw [hwz]; exact (M5.out.two Z5 (.inr (Nat.le_refl _))).mono X2.out.size (Nat.le_refl _))
               have hz4 : w4.heap.size ≤ wz.heap.size := by rw [hwz]; simp [World.setCell]; omega
               have y0 : wz.cell? ⟨w4.heap.size, 0, none⟩ = some (.int .i64 xr) := by rw [hwz]; exact (cells_end n0 n1' (.int .i64 xr) (.slice (fA A5) nr (fc c5))).1
               have y1 : wz.cell? ⟨w4.heap.size, 1, none⟩ = some (.slice (fA A5) nr (fc c5)) := by rw [hwz]; exact (cells_end n0 n1' (.int .i64 xr) (.slice (fA A5) nr (fc c5))).2
               clear hwz)
            | (obtain ⟨wz, hwz⟩ : ∃ W, W = (w5.setCell ⟨w2.heap.size, 0, none⟩ (.int .i64 xr)).setCell ⟨w2.heap.size, 1, none⟩ (.slice (fA A5) nr (fc c5)) := ⟨_, rfl⟩
               rw [← hwz]
               have XZ := Lib.hid (show Below w0.heap.size w0 wz from by rw [hwz]; exact (B5.out.setCell (p := ⟨w2.heap.size, 0, none⟩) X2.out.size _).setCell (p := ⟨w2.heap.size, 1, none⟩) X2.out.size _)
               have MZ := Lib.hid (show OwnM wz w0.heap.size w4.heap.size A5 l c5 s from by rw [hwz]; exact (M5s.out.two Z5 (.inl (Nat.lt_succ_self _))).mono (Nat.le_succ_of_le X2.out.size) (Nat.le_refl _))
               have hz4 : w4.heap.size ≤ wz.heap.size := by rw [hwz]; simp [World.setCell]; omega
               have y0 : wz.cell? ⟨w2.heap.size, 0, none⟩ = some (.int .i64 xr) := by rw [hwz]; exact (cells_end n0 n1' (.int .i64 xr) (.slice (fA A5) nr (fc c5))).1
               have y1 : wz.cell? ⟨w2.heap.size, 1, none⟩ = some (.slice (fA A5) nr (fc c5)) := by rw [hwz]; exact (cells_end n0 n1' (.int .i64 xr) (.slice (fA A5) nr (fc c5))).2
               clear hwz)
          have q0 := (F0.out.below XZ.out).at_ (b := b + 1 + 1) (o := 0) (V := .int .i64 0) (by simp)
          have q1 := (F0.out.below XZ.out).at_ (b := b + 1 + 1) (o := 1) (V := .slice none 0 0) (by simp)
          have f0 := (F0.out.below XZ.out).fr (b := b + 1 + 1) (o := 0) (V := .int .i64 0) (by simp)
          have f1 := (F0.out.below XZ.out).fr (b := b + 1 + 1) (o := 1) (V := .slice none 0 0) (by simp)
          have hres := cells_end q0 q1 (.int .i64 xr) (.slice (fA A5) nr (fc c5))
          go_wp2_with fail
          refine bodyPost_ret (v := .tuple #[.agg #[.int .i64 xr, .slice (fA A5) nr (fc c5)], .int .i64 kr]) (by simp [results, Tryz.results8, go_sem, hres.1, hres.2]) rfl ?_
          exact RetNC.mk (V := w0.heap.size) HR1x.out HR2x.out rfl HR3x.out (Hb0.out.trans (XZ.out.mono Hb0.out.size)) (by rw [Hbe.out]; omega) (by rw [HZ.out]; omega) (HR4x.out _ _ _ _ _ MZ.out) hz4
end Go.Proofs.YtoodhbafleemjaaGreat
