/- spec.l08Plus, spec.l08Times. -/
import Derived.Test.YtejlkobieohgfaaPut
import Derived.Test.YtejlkobieohgfaaMlp
namespace Go.Proofs.Ytejlkobieohgfaa
open Go.RowKit
set_option linter.unusedVariables false

theorem plusW_take_succ {x y : List Int} {k : Nat} {a b : Int} (hx : Hid (x[k]? = some a)) (hy : Hid (y[k]? = some b)) : (plusW x y).take (k + 1) = (plusW x y).take k ++ [a + b] := by
  rw [List.take_add_one]
  congr 1
  unfold plusW
  rw [List.getElem?_zipWith, hx.out, hy.out]
  rfl
set_option maxRecDepth 100000 in
theorem plus08_any (A1 A2 : Option Addr) (n c1 c2 : Nat) (x y : List Int) (w : World) (h1 : RdS w w.heap.size A1 n c1 x) (h2 : RdS w w.heap.size A2 n c2 y) (hn : n ≤ 1000000) (hx : ∀ a ∈ x, 0 ≤ a ∧ a ≤ 1000000) (hy : ∀ a ∈ y, 0 ≤ a ∧ a ≤ 1000000) :
    Calls Try.prog 136 #[.slice A1 n c1, .slice A2 n c2] w (RetO n (plusW x y) w) := by
  have H1 := Lib.hid h1
  have H2 := Lib.hid h2
  have HX := Lib.hid hx
  have HY := Lib.hid hy
  have HL := Lib.hid (show (plusW x y).length = n by rw [plusW_len (by rw [h1.len, h2.len]), h1.len])
  have S0 := Lib.hid (StS.start (Below.refl w.heap.size w) (Nat.le_refl _))
  clear h1 h2 hx hy
  go_enter Try.func136, Try.ntmps136
  go_wp2_with fail
  go_loopw [5, 6] (fun v i wr => ∃ (k c : Nat) (A : Option Addr), k ≤ n ∧ i = .int .i64 k ∧ v = .slice A k c ∧ Hid (StS w w.heap.size wr A k c ((plusW x y).take k))) (fun _ i _ => n - (intOf i).toNat)
  case atStart => exact ⟨0, _, _, Nat.zero_le _, rfl, rfl, S0⟩
  case round =>
    obtain ⟨k, c, A, hk, rfl, rfl, HS⟩ := hrel
    by_cases hlt : k < n
    · obtain ⟨ad1, a, rfl, hb1, ha, hc1⟩ := (H1.out.below HS.out.bel).at_ hlt
      obtain ⟨ad2, b, rfl, hb2, hb, hc2⟩ := (H2.out.below HS.out.bel).at_ hlt
      have ga := HX.out a (mem_of ha)
      have gb := HY.out b (mem_of hb)
      have hw64 : wrap64 (a + b) = a + b := by unfold wrap64; omega
      have hwi : IntKind.i64.wrap (a + b) = a + b := by rw [IntKind.wrap_i64]; omega
      clear ga gb
      have h10 : w.cell? (ad1.add k) = some (.int .i64 a) := (HS.out.bel.cell (p := ad1.add k) (by rw [block_of_add]; exact hb1)).symm.trans hc1
      have h20 : w.cell? (ad2.add k) = some (.int .i64 b) := (HS.out.bel.cell (p := ad2.add k) (by rw [block_of_add]; exact hb2)).symm.trans hc2
      have kd1 : wr.drew.cell? (ad1.add k) = some (.int .i64 a) := hc1
      have kd2 : wr.drew.cell? (ad2.add k) = some (.int .i64 b) := hc2
      have hz := HS.out.hi
      have bal := (Below.refl wr.heap.size wr).alloc (Nat.le_refl _) (.cells #[.int .i64 (a + b)] 2)
      have lt1 : (ad1.add k).block < wr.heap.size := by rw [block_of_add]; omega
      have lt2 : (ad2.add k).block < wr.heap.size := by rw [block_of_add]; omega
      have ke1 : ((wr.alloc (.cells #[.int .i64 (a + b)] 2)).drew).cell? (ad1.add k) = some (.int .i64 a) := bcellA bal lt1 hc1
      have ke2 : ((wr.alloc (.cells #[.int .i64 (a + b)] 2)).drew).cell? (ad2.add k) = some (.int .i64 b) := bcellA bal lt2 hc2
      have HS1 := Lib.hid (show StS w w.heap.size (wr.alloc (.cells #[.int .i64 (a + b)] 2)).drew A k c ((plusW x y).take k) from (HS.out.call bal).drewN 1)
      have RD1 := Lib.hid (show RdS (wr.alloc (.cells #[.int .i64 (a + b)] 2)).drew (wr.heap.size + 1) (some ⟨wr.heap.size, 0, none⟩) 1 1 [a + b] from (rd_new wr (a + b) _).drewN 1)
      have HT := Lib.hid (plusW_take_succ ha hb)
      clear bal lt1 lt2
      go_wp2_with fail
      go_region_held3 (fun w' => w'.cell? (ad1.add k) = some (.int .i64 a) ∧ w'.cell? (ad2.add k) = some (.int .i64 b)) (first | (with_reducible exact ⟨kd1, kd2⟩) | (with_reducible exact ⟨ke1, ke2⟩) | (with_reducible exact ⟨kf1, kf2⟩))
        (first
          | (rw [if_pos]
             rotate_left
             · rfl
             refine wp_appV eltI (.tmp 14) (.tmp 24) rfl rfl rfl HS1.out.own.v RD1.out.v (ints_one [a + b]) (by omega) (by decide) HS1.out.hi ?_
             intro A7 c7 w7 hv7 hg7 _
             have V7 := Lib.hid (show StS w w.heap.size w7 A7 (k + 1) c7 ((plusW x y).take (k + 1)) from by
               rw [HT.out]
               exact ⟨OwnV.s (by simpa using hv7), HS1.out.bel.grown hg7 HS1.out.hi HS1.out.own.row, Nat.le_trans HS1.out.hi hg7.size⟩)
             have kf1 := (V7.out.bel.cell (p := ad1.add k) (by rw [block_of_add]; omega)).trans h10
             have kf2 := (V7.out.bel.cell (p := ad2.add k) (by rw [block_of_add]; omega)).trans h20
             clear hv7 hg7))
      go_wp2_with fail
      go_roundw
      case rel => exact ⟨k + 1, c7, A7, by omega, by go_num, rfl, V7⟩
      case measure => simp [intOf]; omega
    · obtain rfl : k = n := by omega
      go_wp2_with fail
      go_ret
      exact RetO.mk2 rfl (by rw [List.take_of_length_le (by rw [HL.out]; exact Nat.le_refl _)]) HS.out

theorem oddL_snoc (L : List (List Int)) (z : List Int) : insX z (oddL L) = oddL (L ++ [z]) :=
  (show oddL (z :: L) = oddL (L ++ [z]) from oddL_congr (SameSum.of_perm (by simpa using (List.perm_append_comm (l₁ := [z]) (l₂ := L)))))
theorem prodsP_take_succ {f g : List (List Int)} {i : Nat} {x : List Int} (h : Hid (f[i]? = some x)) : prodsP (f.take (i + 1)) g = prodsP (f.take i) g ++ g.map (plusW x) := by
  unfold prodsP
  rw [List.take_add_one, h.out, List.flatMap_append]
  simp
theorem map_take_succ' {g : List (List Int)} {j : Nat} {x y : List Int} (h : Hid (g[j]? = some y)) : (g.take (j + 1)).map (plusW x) = (g.take j).map (plusW x) ++ [plusW x y] := by
  rw [List.take_add_one, h.out, List.map_append]; rfl
theorem prods_part_len {f g : List (List Int)} {i j : Nat} {x : List Int} (hf : f.length ≤ 20000) (hg : g.length ≤ 20000) : (prodsP (f.take i) g ++ (g.take j).map (plusW x)).length ≤ 500000000 := by
  rw [List.length_append, prodsP_len, List.length_map, List.length_take, List.length_take]
  have h1 : min i f.length * g.length ≤ 20000 * 20000 := Nat.mul_le_mul (by omega) hg
  omega
/-- exponents of k variables that are not too large -/
def Sml (k : Nat) (x : List Int) : Prop := x.length = k ∧ ∀ a ∈ x, 0 ≤ a ∧ a ≤ 1000000
theorem prods_part_mem {f g : List (List Int)} {i j k : Nat} {x : List Int} (hf : ∀ z ∈ f, Sml k z) (hg : ∀ z ∈ g, Sml k z) (hx : Sml k x) : ∀ z ∈ prodsP (f.take i) g ++ (g.take j).map (plusW x), z.length = k := by
  intro z hz
  rcases List.mem_append.1 hz with hz | hz
  · obtain ⟨p, hp, hz⟩ := List.mem_flatMap.1 hz
    obtain ⟨q, hq, rfl⟩ := List.mem_map.1 hz
    have h1 := (hf p (List.mem_of_mem_take hp)).1
    have h2 := (hg q hq).1
    rw [plusW_len (by rw [h1, h2]), h1]
  · obtain ⟨q, hq, rfl⟩ := List.mem_map.1 hz
    have h2 := (hg q (List.mem_of_mem_take hq)).1
    rw [plusW_len (by rw [hx.1, h2]), hx.1]

set_option maxRecDepth 100000 in
set_option maxHeartbeats 1000000 in
theorem l08Times_any (A1 A2 : Option Addr) (n1 c1 n2 c2 k : Nat) (xss yss : List (List Int)) (w : World) (h1 : RdL w w.heap.size A1 n1 c1 xss) (h2 : RdL w w.heap.size A2 n2 c2 yss) (hn1 : n1 ≤ 20000) (hn2 : n2 ≤ 20000) (hx : ∀ x ∈ xss, Sml k x) (hy : ∀ y ∈ yss, Sml k y) (hk : k ≤ 10) :
    Calls Try.prog 92 #[.slice A1 n1 c1, .slice A2 n2 c2] w (RetL (oddL (prodsP xss yss)).length (oddL (prodsP xss yss)) w) := by
  have HL1 := Lib.hid h1.len
  have HL2 := Lib.hid h2.len
  have H1 := Lib.hid h1
  have H2 := Lib.hid h2
  have HX := Lib.hid hx
  have HY := Lib.hid hy
  obtain ⟨R, hR⟩ : ∃ R, R = RetL (oddL (prodsP xss yss)).length (oddL (prodsP xss yss)) w := ⟨_, rfl⟩
  have HR := Lib.hid hR
  rw [← hR]
  obtain ⟨B, hB⟩ : ∃ B, B = w.heap.size := ⟨_, rfl⟩
  obtain ⟨w0, hw0⟩ : ∃ w0, w0 = w.alloc (.cells #[] 29) := ⟨_, rfl⟩
  have S0 := Lib.hid (show OwnL w0 B w0.heap.size (some ⟨B, 0, none⟩) 0 0 [] from by
    have := (StL.start (Below.refl w.heap.size w) (Nat.le_refl _)).own
    rw [hw0, hB]
    simpa using this)
  have B0 := Lib.hid (show Below B w w0 from by rw [hw0, hB]; exact (Below.refl _ _).alloc (Nat.le_refl _) _)
  have HB := Lib.hid hB
  have HW0 := Lib.hid hw0
  clear h1 h2 hx hy hR hB hw0
  go_enter Try.func92, Try.ntmps92
  go_wp2_with fail
  rw [← HW0.out, ← HB.out]
  go_loopw [5, 6] (fun v i wr => ∃ (p c l : Nat) (A : Option Addr) (L : List (List Int)), p ≤ n1 ∧ i = .int .i64 p ∧ v = .slice A l c ∧ Hid (L = prodsP (xss.take p) yss) ∧ Hid (OwnL wr B wr.heap.size A l c (oddL L)) ∧ Hid (Below B w wr)) (fun _ i _ => n1 - (intOf i).toNat)
  case atStart => exact ⟨0, 0, 0, _, [], Nat.zero_le _, rfl, rfl, Lib.hid (by simp [prodsP]), S0, B0⟩
  case round =>
    obtain ⟨p, c, l, A, L, hp, rfl, rfl, HL, HO, HW⟩ := hrel
    by_cases hlt : p < n1
    · obtain ⟨ad1, A3, n3, c3, x, rfl, hb1, hx, hc1, hr3⟩ := H1.out.at_ hlt
      have SX := Lib.hid (HX.out x (List.mem_of_getElem? hx.out))
      have n3k : n3 = k := by rw [← hr3.len]; exact SX.out.1
      subst n3k
      have HR3 := Lib.hid hr3
      have HC1 := Lib.hid hc1
      have HB1 := Lib.hid hb1
      clear hr3 hc1 hb1
      go_wp2_with fail
      go_loopw [5, 7] (fun v i wi => ∃ (q c l : Nat) (A : Option Addr) (M : List (List Int)), q ≤ n2 ∧ i = .int .i64 q ∧ v = .slice A l c ∧ Hid (M = prodsP (xss.take p) yss ++ (yss.take q).map (plusW x)) ∧ Hid (OwnL wi B wi.heap.size A l c (oddL M)) ∧ Hid (Below B w wi)) (fun _ i _ => n2 - (intOf i).toNat)
      case atStart => exact ⟨0, _, _, _, L, Nat.zero_le _, rfl, rfl, Lib.hid (by rw [HL.out]; simp), HO, HW⟩
      case round =>
        clear HO HW
        obtain ⟨q, c, l, A, M, hq, rfl, rfl, HM, HO, HW⟩ := hrel
        by_cases hlq : q < n2
        · obtain ⟨ad2, A4, n4, c4, y, rfl, hb2, hy, hc2, hr4⟩ := H2.out.at_ hlq
          have SY := Lib.hid (HY.out y (List.mem_of_getElem? hy.out))
          have n4k : n4 = n3 := by rw [← hr4.len]; exact SY.out.1
          subst n4k
          have HR4 := Lib.hid hr4
          have HC2 := Lib.hid hc2
          have HB2 := Lib.hid hb2
          clear hr4 hc2 hb2
          have kk1 : wr.cell? (ad1.add p) = some (.slice A3 n4 c3) := (HW.out.cell (p := ad1.add p) (by rw [block_of_add, HB.out]; exact HB1.out)).trans HC1.out
          have kk2 : wr.cell? (ad2.add q) = some (.slice A4 n4 c4) := (HW.out.cell (p := ad2.add q) (by rw [block_of_add, HB.out]; exact HB2.out)).trans HC2.out
          have kd1 : wr.drew.cell? (ad1.add p) = some (.slice A3 n4 c3) := kk1
          have kd2 : wr.drew.cell? (ad2.add q) = some (.slice A4 n4 c4) := kk2
          have Wd := Lib.hid (show Below B w wr.drew from below_drewN HW.out 1)
          have Od := Lib.hid (show OwnL wr.drew B wr.heap.size A l c (oddL M) from HO.out.drewN 1)
          have hMl : M.length ≤ 500000000 := by rw [HM.out]; exact prods_part_len (by rw [HL1.out]; exact hn1) (by rw [HL2.out]; exact hn2)
          have hol : l ≤ 500000000 := by rw [← HO.out.len]; exact Nat.le_trans (oddL_len M) hMl
          have HMm := Lib.hid (show ∀ z ∈ oddL M, z.length ≤ 1000000000 from fun z hz => by
            have := prods_part_mem HX.out HY.out SX.out z (by rw [← HM.out]; exact oddL_mem hz)
            omega)
          have WdW : Below w.heap.size w wr.drew := by
            have := Wd.out
            rwa [HB.out] at this
          have HP := Lib.hid (plus08_any A3 A4 n4 c3 c4 x y wr.drew ((HR3.out.below WdW).mono WdW.size) ((HR4.out.below WdW).mono WdW.size) (by omega) SX.out.2 SY.out.2)
          clear WdW
          clear hMl
          have hBw := Wd.out.size
          rw [← HB.out] at hBw
          have HBW := Lib.hid (show B ≤ wr.heap.size from hBw)
          have HHO := Lib.hid hol
          clear hBw hol
          go_wp2_with fail
          go_region_held3 (fun w' => w'.cell? (ad1.add p) = some (.slice A3 n4 c3) ∧ w'.cell? (ad2.add q) = some (.slice A4 n4 c4)) (first | (with_reducible exact ⟨kd1, kd2⟩) | (with_reducible exact ⟨ka1, ka2⟩) | (with_reducible exact ⟨kb1, kb2⟩))
            (first
              | (go_at_call 136
                 refine HP.out.mono ?_
                 rintro e w4 ⟨A5, c5, rfl, ho5, hb5⟩
                 have W4 := Lib.hid (Wd.out.trans (hb5.mono HBW.out))
                 have O4 := Lib.hid (Od.out.below hb5)
                 have P4 := Lib.hid ho5.rd
                 have Z4 := Lib.hid (show wr.heap.size ≤ w4.heap.size from hb5.size)
                 have ka1 : w4.cell? (ad1.add p) = some (.slice A3 n4 c3) := (W4.out.cell (p := ad1.add p) (by rw [block_of_add, HB.out]; exact HB1.out)).trans HC1.out
                 have ka2 : w4.cell? (ad2.add q) = some (.slice A4 n4 c4) := (W4.out.cell (p := ad2.add q) (by rw [block_of_add, HB.out]; exact HB2.out)).trans HC2.out
                 clear ho5 hb5)
              | (go_at_call 135
                 refine (put_any A A5 l c n4 c5 B wr.heap.size (oddL M) (plusW x y) _ O4.out HBW.out Z4.out P4.out (by have := HHO.out; omega) (by omega) HMm.out).mono ?_
                 rintro e w5 ⟨A6, c6, rfl, ho6, hb6⟩
                 obtain ⟨l6, hl6⟩ : ∃ l6, l6 = (insX (plusW x y) (oddL M)).length := ⟨_, rfl⟩
                 rw [← hl6] at ho6 ⊢
                 have O5 := Lib.hid (show OwnL w5 B w5.heap.size A6 l6 c6 (oddL (M ++ [plusW x y])) from by rw [← oddL_snoc]; exact ho6)
                 have W5 := Lib.hid (W4.out.trans (hb6.mono (Nat.le_trans HBW.out Z4.out)))
                 have kb1 : w5.cell? (ad1.add p) = some (.slice A3 n4 c3) := (W5.out.cell (p := ad1.add p) (by rw [block_of_add, HB.out]; exact HB1.out)).trans HC1.out
                 have kb2 : w5.cell? (ad2.add q) = some (.slice A4 n4 c4) := (W5.out.cell (p := ad2.add q) (by rw [block_of_add, HB.out]; exact HB2.out)).trans HC2.out
                 clear ho6 hb6 hl6))
          go_wp2_with fail
          go_roundw
          case rel => exact ⟨q + 1, c6, l6, A6, _, by omega, by go_num, rfl, Lib.hid (by rw [map_take_succ' hy, ← List.append_assoc, ← HM.out]), O5, W5⟩
          case measure => simp [intOf]; omega
        · obtain rfl : q = n2 := by omega
          have HM2 := Lib.hid (show M = prodsP (xss.take (p + 1)) yss from by
            rw [HM.out, prodsP_take_succ hx, List.take_of_length_le (l := yss) (by rw [HL2.out]; exact Nat.le_refl _)])
          go_wp2_with fail
          go_roundw
          case rel => exact ⟨p + 1, c, l, A, M, by omega, by go_num, rfl, HM2, HO, HW⟩
          case measure => simp [intOf]; omega
    · obtain rfl : p = n1 := by omega
      have HM2 := Lib.hid (show L = prodsP xss yss from by
        rw [HL.out, List.take_of_length_le (by rw [HL1.out]; exact Nat.le_refl _)])
      go_wp2_with fail
      rw [HR.out, ← HM2.out]
      rw [HB.out] at HO HW
      obtain rfl := HO.out.len
      exact ⟨A, c, rfl, HO.out, HW.out⟩
end Go.Proofs.Ytejlkobieohgfaa
