/- Draws of lambda sums. -/
import Derived.Test.YtgmbbpaokcjnhaaGreatDoorDrb
import Derived.Test.YtgmbbpaokcjnhaaGreatDoorPush
import Derived.Test.YtgmbbpaokcjnhaaGreatDoorPut
import Derived.Test.YtgmbbpaokcjnhaaGreatDoorSumL
import Derived.Test.YtgmbbpaokcjnhaaGreatDoorLmL
import Derived.Deep.RegionLaw
namespace Go.Proofs.YtgmbbpaokcjnhaaGreatDoor
open Go.RowKit
set_option linter.unusedVariables false

/-- a drawn lambda sum -/
def RetLd (s l : Nat) (w : World) (e : Ending) (w' : World) : Prop :=
  ∃ A n c xss, e = .returned (.agg #[.slice A n c]) ∧ OwnL w' w.heap.size w'.heap.size A n c xss ∧ n ≤ l ∧ (∀ x ∈ xss, x.length ≤ 7) ∧ Src w' s ∧ Mid s (s + 1) w w'
theorem Cells.alloc1' {w : World} (V : Value) (T : TypeId) {b : Nat} (hb : b = w.heap.size) : Cells [(b, 0, V)] (w.alloc (.cells #[V] T)) := Cells.nil.alloc1 V T hb

theorem OwnM.belowV {w w' : World} {B V n c : Nat} {A : Option Addr} {xss : List (List Int)} (h : OwnM w B V A n c xss) (hb : Below V w w') : OwnM w' B V A n c xss := h.same fun g _ h2 => hb.block g h2

theorem cell_end1 {w : World} {r : Nat} {U : Value} (h : w.cell? ⟨r, 0, none⟩ = some U) (V : Value) : (w.setCell ⟨r, 0, none⟩ V).cell? ⟨r, 0, none⟩ = some V := by
  rw [World.cell?_setCell_same (u := U)]; exact h
theorem RetLd.fin {s l b : Nat} {w wr : World} {A : Option Addr} {n c : Nat} {xss : List (List Int)} {X : Value} (hsb : s < b) (hbe : b = w.heap.size) (hz : b + 1 ≤ wr.heap.size)
    (O : OwnL wr (b + 1) wr.heap.size A n c xss) (hP : ∀ x ∈ xss, x.length ≤ 7) (hn : n ≤ l) (hS : Src wr s) (hM : Mid s (s + 1) w wr) :
    RetLd s l w (.returned (.agg #[.slice A n c])) (wr.setCell ⟨b, 0, none⟩ X) := by
  have hm2 : Mid b (b + 1) wr (wr.setCell ⟨b, 0, none⟩ X) := mid_setCell (p := ⟨b, 0, none⟩) _ ⟨Nat.le_refl _, Nat.lt_succ_self _⟩
  have hbl := hm2.below (by omega)
  refine ⟨A, n, c, xss, rfl, ?_, hn, hP, hS.below (hbl.mono (by omega)), hM.on (hbl.mono (by rw [hbe]; exact Nat.le_refl _))⟩
  exact (O.mid hm2 (Nat.le_refl _)).mono (by rw [← hbe]; omega) hm2.size

set_option maxRecDepth 100000 in
set_option maxHeartbeats 1000000 in
theorem draw16_any (s : Nat) (len : Nat) (stem : Int) (w : World) (h : Src w s) (hl : len ≤ 7) (h0 : 0 ≤ stem) (h1 : stem ≤ 1000) :
    Calls Tryz.prog 43 #[.pointer (some ⟨s, 0, none⟩), .int .i64 len, .int .i64 stem] w (RetLd s 4 w) := by
  obtain ⟨b, hbe⟩ : ∃ b, b = w.heap.size := ⟨_, rfl⟩
  obtain ⟨w0, hw0⟩ : ∃ w0, w0 = w.alloc (.cells #[.slice none 0 0] 26) := ⟨_, rfl⟩
  have hF : Cells [(b, 0, .slice none 0 0)] w0 := by rw [hw0]; exact Cells.alloc1' _ _ hbe
  have hb0 : Below w.heap.size w w0 := by rw [hw0]; exact (Below.refl _ _).alloc (Nat.le_refl _) _
  have hz0 : w0.heap.size = b + 1 := by rw [hw0, hbe]; simp
  have hsb : s < b := by rw [hbe]; exact h.lt
  obtain ⟨w00, hw00⟩ : ∃ w00, w00 = w0.alloc (.cells #[] 35) := ⟨_, rfl⟩
  have hb00 : Below w0.heap.size w0 w00 := by rw [hw00]; exact (Below.refl _ _).alloc (Nat.le_refl _) _
  have HO := Lib.hid (show OwnL w00 (b + 1) w00.heap.size (some ⟨w0.heap.size, 0, none⟩) 0 0 [] by
    have := (StL.start (Below.refl w0.heap.size w0) (Nat.le_refl _)).own
    rw [hw00]
    simpa [hz0] using this)
  have HS := Lib.hid ((h.ext hb0).ext hb00)
  have HM := Lib.hid ((Mid.of_below (B := s) (K := s + 1) hb0).trans (Mid.of_below hb00))
  have F0 := Lib.hid (hF.below hb00)
  have HZ := Lib.hid (show b + 1 ≤ w00.heap.size by rw [hw00, ← hz0]; simp)
  have Hw := Lib.hid hw0
  have Hw0 := Lib.hid hw00
  have Hbe := Lib.hid hbe
  clear h hF hb0 hw0 hw00 hb00 hz0 hbe
  go_enter Tryz.func43, Tryz.ntmps43
  go_wp2_with fail
  rw [← Hw.out, ← Hbe.out]
  have hz00 : w0.heap.size = b + 1 := by rw [Hw.out, Hbe.out]; simp
  rw [hz00] at HO
  rw [← Hw0.out]
  clear hz00
  refine (next_any s 4 w00 HS.out (by omega)).mono ?_
  rintro e w1 ⟨x, rfl, hx0, hx1, hs1, hm1, hz1⟩
  replace HS := Lib.hid hs1
  replace F0 := Lib.hid (F0.out.mid hm1 (by simp; omega))
  replace HO := Lib.hid ((HO.out.mid hm1 (by omega)).mono (Nat.le_refl _) hm1.size)
  replace HM := Lib.hid (HM.out.trans hm1)
  replace HZ := Lib.hid (Nat.le_trans HZ.out hm1.size)
  obtain ⟨m0, hm0⟩ : ∃ m : Nat, 1 + x = m := ⟨(1 + x).toNat, by omega⟩
  have hwk : IntKind.i64.wrap (1 + x) = m0 := by rw [IntKind.wrap_i64]; omega
  have hm4 : m0 ≤ 4 := by omega
  have HN : Hid (∀ y ∈ ([] : List (List Int)), y.length ≤ 7) := Lib.hid (by simp)
  have HA0 : Hid (Asc []) := Lib.hid (by simp [Asc])
  clear hs1 hm1 hz1 hx0 hx1 hm0
  go_wp2_with fail
  go_loopw [7, 8] (fun o i wr => ∃ (m n c : Nat) (A : Option Addr) (acc : List (List Int)), i = .int .i64 m ∧ o = .slice A n c ∧ m + n ≤ 4 ∧ Hid (Asc acc) ∧ Hid (∀ y ∈ acc, y.length ≤ 7) ∧ Hid (Src wr s) ∧ Hid (Mid s (s + 1) w wr) ∧ Hid (Cells [(b, 0, .slice none 0 0)] wr) ∧ Hid (OwnL wr (b + 1) wr.heap.size A n c acc) ∧ Hid (b + 1 ≤ wr.heap.size)) (fun _ i _ => (intOf i).toNat)
  case atStart => exact ⟨m0, 0, _, _, [], rfl, rfl, by omega, HA0, HN, HS, HM, F0, HO, HZ⟩
  case round =>
    clear HA0 HN HS HM F0 HO HZ
    obtain ⟨m, n, c, A, acc, rfl, rfl, hmn, HA, HX, HS, HM, F0, HO, HZ⟩ := hrel
    by_cases hlt : 0 < m
    · obtain ⟨V, hV⟩ : ∃ V, V = wr.heap.size := ⟨_, rfl⟩
      obtain ⟨w2, hw2⟩ : ∃ W, W = wr.alloc (.cells #[] 2) := ⟨_, rfl⟩
      have hb2 : Below wr.heap.size wr w2 := by rw [hw2]; exact (Below.refl _ _).alloc (Nat.le_refl _) _
      have HT := Lib.hid (show OwnS w2 V (some ⟨V, 0, none⟩) 0 0 [] by
        rw [hw2, hV]
        exact (StS.start (Below.refl wr.heap.size wr) (Nat.le_refl _)).own)
      replace HO := Lib.hid (((HO.out.m (Nat.le_refl _)).below hb2).mono (Nat.le_refl _) (Nat.le_of_eq hV.symm))
      replace HS := Lib.hid (HS.out.ext hb2)
      replace HM := Lib.hid (HM.out.trans (Mid.of_below hb2))
      replace F0 := Lib.hid (F0.out.below hb2)
      have HVb := Lib.hid (show b + 1 ≤ V by rw [hV]; exact HZ.out)
      replace HZ := Lib.hid (show V ≤ w2.heap.size by rw [hV]; exact hb2.size)
      have hVb := HVb.out
      have Hw2 := Lib.hid hw2
      have HV := Lib.hid hV
      clear hw2 hb2 hV
      go_wp2_with fail
      rw [← HV.out, ← Hw2.out]
      go_loopw [9, 10, 11] (fun o t i wz => ∃ (j n5 c5 : Nat) (A5 : Option Addr) (ys : List Int) (r : Int), i = .int .i64 j ∧ t = .int .i64 r ∧ o = .slice A5 n5 c5 ∧ j = n5 + 1 ∧ (j ≤ len ∨ n5 = 0) ∧ 0 ≤ r ∧ r ≤ stem ∧ Hid (Src wz s) ∧ Hid (Mid s (s + 1) w wz) ∧ Hid (Cells [(b, 0, .slice none 0 0)] wz) ∧ Hid (OwnM wz (b + 1) V A n c acc) ∧ Hid (OwnS wz V A5 n5 c5 ys) ∧ Hid (V ≤ wz.heap.size)) (fun _ _ i _ => len - (intOf i).toNat)
      case atStart => exact ⟨1, 0, _, _, [], stem, rfl, rfl, rfl, rfl, .inr rfl, h0, Int.le_refl _, HS, HM, F0, HO, HT, HZ⟩
      case round =>
        clear HS HM F0 HO HT HZ
        obtain ⟨j, n5, c5, A5, ys, r, rfl, rfl, rfl, hj5, hjl, hr0, hr1, HS, HM, F0, HO, HT, HZ⟩ := hrel
        by_cases hjt : j < len
        · go_wp2_with fail
          refine (next_any s (r + 1) wr HS.out (by omega)).mono ?_
          rintro e w5 ⟨y, rfl, hy0, hy1, hs5, hm5, hz5⟩
          replace HS := Lib.hid hs5
          replace F0 := Lib.hid (F0.out.mid hm5 (by simp; omega))
          replace HO := Lib.hid (HO.out.mid hm5 (by omega))
          replace HT := Lib.hid (HT.out.mid hm5 (by omega))
          replace HM := Lib.hid (HM.out.trans hm5)
          replace HZ := Lib.hid (Nat.le_trans HZ.out hm5.size)
          have HSt := Lib.hid (show StS w5 V w5 A5 n5 c5 ys from ⟨HT.out, Below.refl _ _, HZ.out⟩)
          clear hs5 hm5 hz5
          go_wp2_with (at_builtin; refine wpList_pushI rfl (.tmp 32) (.tmp 34) rfl rfl rfl HSt.out (by omega) ?_)
          intro A6 c6 w6 hs6 _
          replace HS := Lib.hid (HS.out.below (hs6.bel.mono (by omega)))
          replace F0 := Lib.hid (F0.out.belowB hs6.bel (by simp; omega))
          replace HO := Lib.hid (HO.out.belowV hs6.bel)
          replace HM := Lib.hid (HM.out.on (hs6.bel.mono (by have := Hbe.out; omega)))
          replace HZ := Lib.hid (Nat.le_trans HZ.out hs6.bel.size)
          replace HT := Lib.hid hs6.own
          clear hs6 HSt
          go_wp2_with fail
          go_roundw
          case rel => exact ⟨j + 1, n5 + 1, c6, A6, _, r - y, by go_num, by go_num, rfl, by omega, by omega, by omega, by omega, HS, HM, F0, HO, HT, HZ⟩
          case measure => simp [intOf]; omega
        · by_cases hl0 : 0 < len
          · have HSt := Lib.hid (show StS wr V wr A5 n5 c5 ys from ⟨HT.out, Below.refl _ _, HZ.out⟩)
            go_wp2_with (at_builtin; refine wpList_pushI rfl (.tmp 41) (.tmp 43) rfl rfl rfl HSt.out (by omega) ?_)
            intro A6 c6 w6 hs6 _
            replace HS := Lib.hid (HS.out.below (hs6.bel.mono (by omega)))
            replace F0 := Lib.hid (F0.out.belowB hs6.bel (by simp; omega))
            replace HO := Lib.hid (HO.out.belowV hs6.bel)
            replace HM := Lib.hid (HM.out.on (hs6.bel.mono (by have := Hbe.out; omega)))
            replace HZ := Lib.hid (Nat.le_trans HZ.out hs6.bel.size)
            replace HT := Lib.hid hs6.own
            clear hs6 HSt
            replace HZ := Lib.hid (show b + 1 ≤ w6.heap.size from Nat.le_trans HVb.out HZ.out)
            obtain ⟨n5, hn5⟩ : ∃ k, k = n5 + 1 := ⟨_, rfl⟩
            rw [← hn5] at HT ⊢
            obtain ⟨ys, hys⟩ : ∃ k, k = ys ++ [r] := ⟨_, rfl⟩
            rw [← hys] at HT
            have hn57 : n5 ≤ 7 := by omega
            clear hn5 hys hj5 hjl
            obtain ⟨c5, hc5⟩ : ∃ k, k = c6 := ⟨_, rfl⟩
            obtain ⟨A5, hA5⟩ : ∃ k, k = A6 := ⟨_, rfl⟩
            subst hc5; subst hA5
            have hasc := HA.out
            have htot : totalL acc ≤ 28 := Nat.le_trans (totalL_le acc 7 HX.out) (by have := HO.out.own.len; omega)
            have HT4 := HT.out.len
            have Hsum := Lib.hid (l01Sum_any A _ n c 1 1 acc [ys] _ ((HO.out.own.rd).alloc _) (rdL_single HT.out.rd (Nat.le_refl _)) (by omega) (by omega) (by omega) (by simp [totalL]; omega) hasc (by simp [Asc]))
            have hbx := (Below.refl w6.heap.size w6).alloc (Nat.le_refl _) (.cells #[.slice A5 n5 c5] 35)
            have HBx := Lib.hid hbx
            clear hbx hasc htot
            go_wp2_with fail
            refine Hsum.out.mono ?_
            rintro e w9 ⟨A9, c9, rfl, ho9, hb9⟩
            have hz9 := HBx.out.size
            have hbz := HZ.out
            replace HBx := Lib.hid (HBx.out.trans (hb9.mono HBx.out.size))
            have hl9 : (oddL (acc ++ [ys])).length ≤ n + 1 := Nat.le_trans (oddL_len _) (by rw [List.length_append, HO.out.own.len]; simp)
            have HX9 : Hid (∀ x ∈ oddL (acc ++ [ys]), x.length ≤ 7) := Lib.hid fun x hx => by
              rcases List.mem_append.1 (oddL_mem hx) with h | h
              · exact HX.out x h
              · rw [List.mem_singleton.1 h]; omega
            have HA9 := Lib.hid (oddL_asc (acc ++ [ys]))
            obtain ⟨zs, hzs⟩ : ∃ zs, zs = oddL (acc ++ [ys]) := ⟨_, rfl⟩
            rw [← hzs] at ho9 hl9 HX9 HA9 ⊢
            have HO9 := Lib.hid (show OwnL w9 (b + 1) w9.heap.size A9 zs.length c9 zs from ho9.mono (by omega) (Nat.le_refl _))
            replace HS := Lib.hid (HS.out.ext HBx.out)
            replace HM := Lib.hid (HM.out.trans (Mid.of_below HBx.out))
            replace F0 := Lib.hid (F0.out.below HBx.out)
            replace HZ := Lib.hid (Nat.le_trans hbz HBx.out.size)
            clear hzs ho9 hb9 hz9 hbz HBx
            go_wp2_with fail
            go_roundw
            case rel => exact ⟨m - 1, zs.length, c9, A9, zs, by go_num, rfl, by omega, HA9, HX9, HS, HM, F0, HO9, HZ⟩
            case measure => simp [intOf]; omega
          · have hn57 : n5 ≤ 7 := by omega
            replace HZ := Lib.hid (show b + 1 ≤ wr.heap.size from Nat.le_trans HVb.out HZ.out)
            have hasc := HA.out
            have htot : totalL acc ≤ 28 := Nat.le_trans (totalL_le acc 7 HX.out) (by have := HO.out.own.len; omega)
            have HT4 := HT.out.len
            have Hsum := Lib.hid (l01Sum_any A _ n c 1 1 acc [ys] _ ((HO.out.own.rd).alloc _) (rdL_single HT.out.rd (Nat.le_refl _)) (by omega) (by omega) (by omega) (by simp [totalL]; omega) hasc (by simp [Asc]))
            have hbx := (Below.refl wr.heap.size wr).alloc (Nat.le_refl _) (.cells #[.slice A5 n5 c5] 35)
            have HBx := Lib.hid hbx
            clear hbx hasc htot
            go_wp2_with fail
            refine Hsum.out.mono ?_
            rintro e w9 ⟨A9, c9, rfl, ho9, hb9⟩
            have hz9 := HBx.out.size
            have hbz := HZ.out
            replace HBx := Lib.hid (HBx.out.trans (hb9.mono HBx.out.size))
            have hl9 : (oddL (acc ++ [ys])).length ≤ n + 1 := Nat.le_trans (oddL_len _) (by rw [List.length_append, HO.out.own.len]; simp)
            have HX9 : Hid (∀ x ∈ oddL (acc ++ [ys]), x.length ≤ 7) := Lib.hid fun x hx => by
              rcases List.mem_append.1 (oddL_mem hx) with h | h
              · exact HX.out x h
              · rw [List.mem_singleton.1 h]; omega
            have HA9 := Lib.hid (oddL_asc (acc ++ [ys]))
            obtain ⟨zs, hzs⟩ : ∃ zs, zs = oddL (acc ++ [ys]) := ⟨_, rfl⟩
            rw [← hzs] at ho9 hl9 HX9 HA9 ⊢
            have HO9 := Lib.hid (show OwnL w9 (b + 1) w9.heap.size A9 zs.length c9 zs from ho9.mono (by omega) (Nat.le_refl _))
            replace HS := Lib.hid (HS.out.ext HBx.out)
            replace HM := Lib.hid (HM.out.trans (Mid.of_below HBx.out))
            replace F0 := Lib.hid (F0.out.below HBx.out)
            replace HZ := Lib.hid (Nat.le_trans hbz HBx.out.size)
            clear hzs ho9 hb9 hz9 hbz HBx
            go_wp2_with fail
            go_roundw
            case rel => exact ⟨m - 1, zs.length, c9, A9, zs, by go_num, rfl, by omega, HA9, HX9, HS, HM, F0, HO9, HZ⟩
            case measure => simp [intOf]; omega
    · have q0 := F0.out.at_ (b := b) (o := 0) (V := .slice none 0 0) (by simp)
      have f0 := F0.out.fr (b := b) (o := 0) (V := .slice none 0 0) (by simp)
      have hres := cell_end1 q0 (.slice A n c)
      go_wp2_with fail
      refine bodyPost_ret (v := .agg #[.slice A n c]) (by simp [results, Tryz.results43, go_sem, hres]) rfl ?_
      exact RetLd.fin hsb Hbe.out HZ.out HO.out HX.out (by omega) HS.out HM.out

set_option maxRecDepth 100000 in
set_option maxHeartbeats 2000000 in
theorem some16_any (s : Nat) (w : World) (h : Src w s) : Calls Tryz.prog 25 #[.pointer (some ⟨s, 0, none⟩)] w (RetLd s 5 w) := by
  obtain ⟨b, hbe⟩ : ∃ b, b = w.heap.size := ⟨_, rfl⟩
  obtain ⟨w0, hw0⟩ : ∃ w0, w0 = w.alloc (.cells #[.slice none 0 0] 26) := ⟨_, rfl⟩
  have hF : Cells [(b, 0, .slice none 0 0)] w0 := by rw [hw0]; exact Cells.alloc1' _ _ hbe
  have hb0 : Below w.heap.size w w0 := by rw [hw0]; exact (Below.refl _ _).alloc (Nat.le_refl _) _
  have HZ := Lib.hid (show b + 1 ≤ w0.heap.size by rw [hw0, hbe]; simp)
  have hsb : s < b := by rw [hbe]; exact h.lt
  have HS := Lib.hid (h.ext hb0)
  have HM := Lib.hid (Mid.of_below (B := s) (K := s + 1) hb0)
  have F0 := Lib.hid hF
  have Hw := Lib.hid hw0
  have Hbe := Lib.hid hbe
  clear h hF hb0 hw0 hbe
  go_enter Tryz.func25, Tryz.ntmps25
  go_wp2_with fail
  rw [← Hw.out, ← Hbe.out]
  rw [show b + 1 = w0.heap.size by rw [Hw.out, Hbe.out]; simp]
  refine (pickLit_any s [1, 1, 2, 2, 3, 4, 0] w0 HS.out (by simp) (by simp)).mono ?_
  rintro e w1 ⟨y, rfl, hy, hs1, hm1⟩
  have hy5 : 0 ≤ y ∧ y ≤ 4 := by
    simp only [List.mem_cons, List.not_mem_nil, or_false] at hy
    omega
  obtain ⟨len, rfl⟩ : ∃ m : Nat, y = m := ⟨y.toNat, by omega⟩
  replace HS := Lib.hid hs1
  replace F0 := Lib.hid (F0.out.mid hm1 (by simp; omega))
  replace HM := Lib.hid (HM.out.trans hm1)
  replace HZ := Lib.hid (Nat.le_trans HZ.out hm1.size)
  have hlen : len ≤ 4 := by omega
  clear hs1 hm1 hy hy5
  go_wp2_with fail
  refine (next_any s 10 w1 HS.out (by omega)).mono ?_
  rintro e w2 ⟨x, rfl, hx0, hx1, hs1, hm1, hz1⟩
  replace HS := Lib.hid hs1
  replace F0 := Lib.hid (F0.out.mid hm1 (by simp; omega))
  replace HM := Lib.hid (HM.out.trans hm1)
  replace HZ := Lib.hid (Nat.le_trans HZ.out hm1.size)
  clear hs1 hm1 hz1
  obtain ⟨st, hst⟩ : ∃ st, wrap64 (x * min (len : Int) 1) = st := ⟨_, rfl⟩
  have hst0 : 0 ≤ st ∧ st ≤ 9 := by
    rw [← hst]
    rcases Nat.eq_zero_or_pos len with h | h
    · rw [show min (len : Int) 1 = 0 by omega, Int.mul_zero]; unfold wrap64; omega
    · rw [show min (len : Int) 1 = 1 by omega, Int.mul_one]; unfold wrap64; omega
  go_wp2_with fail
  rw [hst]
  refine (draw16_any s len st w2 HS.out (by omega) hst0.1 (by omega)).mono ?_
  rintro e w3 ⟨A, n, c, xss, rfl, ho, hn, hx, hs1, hm1⟩
  replace HS := Lib.hid hs1
  replace F0 := Lib.hid (F0.out.mid hm1 (by simp; omega))
  replace HM := Lib.hid (HM.out.trans hm1)
  have HO := Lib.hid (ho.mono HZ.out (Nat.le_refl _))
  replace HZ := Lib.hid (Nat.le_trans HZ.out hm1.size)
  have HX := Lib.hid hx
  clear ho hs1 hm1 hx hst hst0 hx0 hx1
  obtain ⟨w4, hw4⟩ : ∃ W, W = w3.alloc (.cells #[.slice A n c] 26) := ⟨_, rfl⟩
  obtain ⟨q, hq⟩ : ∃ q, q = w3.heap.size := ⟨_, rfl⟩
  have hb4 : Below w3.heap.size w3 w4 := by rw [hw4]; exact (Below.refl _ _).alloc (Nat.le_refl _) _
  have G0 := Lib.hid (show Cells [(q, 0, .slice A n c)] w4 by rw [hw4]; exact Cells.alloc1' _ _ hq)
  have HK := Lib.hid (show KindOf w4 q 26 by rw [hw4]; exact kind_new hq)
  replace HO := Lib.hid (((HO.out.m (Nat.le_refl _)).below hb4).mono (Nat.le_refl _) (Nat.le_of_eq hq.symm))
  have hqb : b + 1 ≤ q := by rw [hq]; exact HZ.out
  replace HS := Lib.hid (HS.out.ext hb4)
  replace F0 := Lib.hid (F0.out.below hb4)
  replace HM := Lib.hid (HM.out.trans (Mid.of_below hb4))
  replace HZ := Lib.hid (show q + 1 ≤ w4.heap.size by rw [hw4, hq]; simp)
  have Hw4 := Lib.hid hw4
  have Hq := Lib.hid hq
  clear hw4 hb4 hq
  go_wp2_with fail
  rw [← Hw4.out, ← Hq.out]
  refine (next_any s 20 w4 HS.out (by omega)).mono ?_
  rintro e w5 ⟨x, rfl, hx0, hx1, hs1, hm1, hz1⟩
  replace HS := Lib.hid hs1
  replace F0 := Lib.hid (F0.out.mid hm1 (by simp; omega))
  replace G0 := Lib.hid (G0.out.mid hm1 (by simp; omega))
  replace HO := Lib.hid (HO.out.mid hm1 (by omega))
  replace HK := Lib.hid (HK.out.mid hm1 (by omega))
  replace HM := Lib.hid (HM.out.trans hm1)
  replace HZ := Lib.hid (Nat.le_trans HZ.out hm1.size)
  clear hs1 hm1 hz1
  have g0 := G0.out.at_ (b := q) (o := 0) (V := .slice A n c) (by simp)
  have gf := G0.out.fr (b := q) (o := 0) (V := .slice A n c) (by simp)
  have hql : q < w5.heap.size := G0.out.lt (q, 0, .slice A n c) (by simp)
  by_cases hx : x = 0
  · subst hx
    clear hx0 hx1
    have hent : ∀ args w, (callFunc 53 args).run Tryz.prog w = .ok (.enter 53 args) w := enters_of Tryz.func53 (by kernel_rfl) rfl
    have HSd := Lib.hid (HS.out.ext (below_drewN (Below.refl w5.heap.size w5) 1))
    have HMd := Lib.hid (Mid.of_below (B := s) (K := s + 1) (below_drewN (Below.refl w5.heap.size w5) 1))
    have hsq : s < q := by omega
    go_wp2_with fail
    go_region_law
      (first
        | (refine stepD2 53 (.tmp 23) (.tmp 24) #[42, 35] rfl rfl hent rfl rfl (pickLit_any s [12, -1, 3] (w5.drewN 1) HSd.out (by simp) (by simp)) ?_
           rintro e u ⟨v, rfl, hv, hs1, hm1⟩
           refine ⟨_, rfl, ?_⟩
           have HMu := Lib.hid (HMd.out.trans hm1)
           have Gu := Lib.hid (G0.out.mid HMu.out (by simp; omega))
           have gu0 := Gu.out.at_ (b := q) (o := 0) (V := .slice A n c) (by simp)
           have hqlu : q < u.heap.size := Gu.out.lt (q, 0, .slice A n c) (by simp)
           have HSu := Lib.hid hs1
           have Fu := Lib.hid (F0.out.mid HMu.out (by simp; omega))
           have Ou := Lib.hid (HO.out.mid HMu.out (by omega))
           have Ku := Lib.hid (HK.out.mid HMu.out (by omega))
           obtain ⟨wm, hwm⟩ : ∃ W, W = u.alloc (.cells #[.int .i64 v] 2) := ⟨_, rfl⟩
           have hbm : Below u.heap.size u wm := by rw [hwm]; exact (Below.refl _ _).alloc (Nat.le_refl _) _
           have hzm : wm.heap.size = u.heap.size + 1 := by rw [hwm]; simp
           have ST := Lib.hid (show StL u (b + 1) wm q A n c xss from ⟨(Ou.out.below hbm).own, hbm.mono (by omega), hqb, by rw [hzm]; omega⟩)
           have NW := Lib.hid (show OwnS wm q (some ⟨u.heap.size, 0, none⟩) 1 1 [v] by rw [hwm]; exact ⟨rfl, ⟨by simp, .inr ⟨u.heap.size, 1, #[.int .i64 v], rfl, by omega, heap_alloc_new u _, Nat.le_refl _, by decide, by simp, by simp⟩⟩⟩)
           have GM := Lib.hid (Gu.out.below hbm)
           have KM := Lib.hid (Ku.out.below hbm)
           have gm0 := GM.out.at_ (b := q) (o := 0) (V := .slice A n c) (by simp)
           rw [hwm] at hzm ST NW gm0
           have HZm := Lib.hid hzm
           clear hzm hbm hs1 hm1 hv)
        | (refine step_pushL (w := u.alloc (.cells #[.int .i64 v] 2)) (by rfl) (.tmp 22) (.tmp 27) (by rfl) (by rfl) HZm.out (by rfl) ST.out NW.out (by omega) ?_
           intro A2 c2 w6 hst hg6 _
           have hm6 : Mid (b + 1) q wm w6 := by rw [hwm]; exact (Mid.refl (b + 1) q _).grown hg6 fun g hg => ⟨Ou.out.own.row g hg, Ou.out.out g hg⟩
           have G6 := Lib.hid (GM.out.mid hm6 (by simp))
           have K6 := Lib.hid (KM.out.mid hm6 (.inr (Nat.le_refl _)))
           have g60 := G6.out.at_ (b := q) (o := 0) (V := .slice A n c) (by simp)
           have g6f := G6.out.fr (b := q) (o := 0) (V := .slice A n c) (by simp)
           have HST := Lib.hid hst
           clear hst hg6 hm6))
    all_goals
      have hqw : q < w6.heap.size := G6.out.lt (q, 0, .slice A n c) (by simp)
      obtain ⟨w7, hw7⟩ : ∃ W, W = w6.setCell ⟨q, 0, none⟩ (.slice A2 (n + 1) c2) := ⟨_, rfl⟩
      have hm7 : Mid q (q + 1) w6 w7 := by rw [hw7]; exact mid_setCell (p := ⟨q, 0, none⟩) _ ⟨Nat.le_refl _, Nat.lt_succ_self _⟩
      have hb7 : Below (b + 1) u w7 := HST.out.bel.trans ((hm7.below (by omega)).mono hqb)
      have HO7 := Lib.hid (show OwnL w7 (b + 1) w7.heap.size A2 (n + 1) c2 (xss ++ [[v]]) by
        rw [hw7]
        have := HST.out.own.offKind (grown_set w6 q 0 (.slice A2 (n + 1) c2)) K6.out (by decide) (by decide)
        simpa [World.setCell] using this)
      have G7 := Lib.hid (show Cells [(q, 0, .slice A2 (n + 1) c2)] w7 by rw [hw7]; exact G6.out.set (by simp) _)
      have F7 := Lib.hid (Fu.out.belowB hb7 (by simp))
      have HS7 := Lib.hid (HSu.out.below (hb7.mono (by omega)))
      have HM7 := Lib.hid ((HM.out.trans HMu.out).on (hb7.mono (by rw [← Hbe.out]; omega)))
      have HZ7 := Lib.hid (show b + 1 ≤ w7.heap.size by have := hm7.size; omega)
      have HX7 : Hid (∀ y ∈ xss ++ [[v]], y.length ≤ 7) := Lib.hid fun y hy => by
        rcases List.mem_append.1 hy with h | h
        · exact HX.out y h
        · rw [List.mem_singleton.1 h]; simp
      have q0 := F7.out.at_ (b := b) (o := 0) (V := .slice none 0 0) (by simp)
      have f0 := F7.out.fr (b := b) (o := 0) (V := .slice none 0 0) (by simp)
      have g7 := G7.out.at_ (b := q) (o := 0) (V := .slice A2 (n + 1) c2) (by simp)
      have hres := cell_end1 q0 (.slice A2 (n + 1) c2)
      have Hw7 := Lib.hid hw7
      clear hw7 hm7 hb7 gu0 gm0 g60 g6f g0 gf
      rw [← Hw7.out]
      go_wp2_with fail
      refine bodyPost_ret (v := .agg #[.slice A2 (n + 1) c2]) (by simp [results, Tryz.results25, go_sem, hres]) rfl ?_
      exact RetLd.fin hsb Hbe.out HZ7.out HO7.out HX7.out (by omega) HS7.out HM7.out
  · have hx2 : (x == 0) = false := by simpa using hx
    by_cases hx3 : x = 1
    · subst hx3
      clear hx0 hx1
      have hqb2 : q ≠ b := by omega
      by_cases hn1 : 1 < n
      · have HO5 := Lib.hid (HO.out.own.mono (Nat.le_refl _) (show q ≤ w5.heap.size by omega))
        obtain ⟨ps, hv, hps, hrow⟩ := HO.out.own.pairs
        have hlp : ps.length = n := by have := hv.len; simpa using this
        obtain ⟨p0, p1, rest, rfl⟩ : ∃ p0 p1 rest, ps = p0 :: p1 :: rest := by
          match ps, hlp with
          | p0 :: p1 :: rest, _ => exact ⟨p0, p1, rest, rfl⟩
          | [_], h => simp at h; omega
          | [], h => simp at h; omega
        obtain ⟨va, xa⟩ := p0
        obtain ⟨vb, xb⟩ := p1
        obtain ⟨Aa, na, ca, rfl, _, _⟩ := hrow.each (va, xa) (by simp)
        obtain ⟨Ab, nb, cb, rfl, _, _⟩ := hrow.each (vb, xb) (by simp)
        have hn0 : 0 < n := by omega
        obtain ⟨g, cap, hvv, hbg, hgl⟩ := hv.own.form (by omega)
        injection hvv with hA _ hc
        subst hA; subst hc
        have hgq : g < q := HO.out.out g rfl
        have z0 : w5.cell? ⟨g, 0, none⟩ = some (.slice Aa na ca) := by rw [hv.own.cellAt 0 (by omega)]; simp
        have z1 : w5.cell? ⟨g, 1, none⟩ = some (.slice Ab nb cb) := by rw [hv.own.cellAt 1 (by omega)]; simp
        have y0 := hv.own.frozenAt 0
        have y1 := hv.own.frozenAt 1
        have s1 := hv.own.stored 0 (.slice Ab nb cb)
        obtain ⟨w6, hw6⟩ : ∃ W, W = (w5.setCell ⟨g, 0, none⟩ (.slice Ab nb cb)).drew := ⟨_, rfl⟩
        have hv6 : OwnV w6 (b + 1) 35 (some ⟨g, 0, none⟩) n c ([(.slice Ab nb cb), (.slice Ab nb cb)] ++ rest.map (·.1)) := by
          rw [hw6]; exact ⟨by have := hv.len; simpa using this, s1.1⟩
        have hg6 : w5.grownBy w6 (some g) := by rw [hw6]; exact ⟨s1.2.os, s1.2.tape, s1.2.output, s1.2.size, s1.2.block⟩
        have s2 := hv6.own.stored 1 (.slice Aa na ca)
        obtain ⟨w7, hw7⟩ : ∃ W, W = w6.setCell ⟨g, 1, none⟩ (.slice Aa na ca) := ⟨_, rfl⟩
        have hv7 : OwnV w7 (b + 1) 35 (some ⟨g, 0, none⟩) n c (((.slice Ab nb cb, xb) :: (.slice Aa na ca, xa) :: rest).map (·.1)) := by
          rw [hw7]; exact ⟨by have := hv.len; simpa using this, s2.1⟩
        have hg7 : w6.grownBy w7 (some g) := by rw [hw7]; exact s2.2
        have hr7 : Rows w7 (b + 1) q ((.slice Ab nb cb, xb) :: (.slice Aa na ca, xa) :: rest) := ((hrow.row hv hg6).row hv6 hg7).perm (List.Perm.swap _ _ rest)
        have hm7 : Mid g (g + 1) w5 w7 := ((Mid.refl g (g + 1) w5).grown hg6 fun g' e => by injection e with e; omega).grown hg7 fun g' e => by injection e with e; omega
        have hb7 : Below g w5 w7 := hm7.below (by omega)
        have HO7 := Lib.hid ((hr7.ownL hv7).mono (Nat.le_refl _) (show q ≤ w7.heap.size by have := hm7.size; omega))
        have HX7 : Hid (∀ y ∈ ((.slice Ab nb cb, xb) :: (.slice Aa na ca, xa) :: rest).map (·.2), y.length ≤ 7) := Lib.hid fun y hy => HX.out y (by
          rw [← hps]
          simp only [List.map_cons, List.mem_cons] at hy ⊢
          rcases hy with h | h | h
          · exact .inr (.inl h)
          · exact .inl h
          · exact .inr (.inr h))
        have F7 := Lib.hid (F0.out.belowB hb7 (by simp; omega))
        have G7 := Lib.hid (G0.out.mid hm7 (by simp; omega))
        have HS7 := Lib.hid (HS.out.below (hb7.mono (by omega)))
        have HM7 := Lib.hid (HM.out.on (hb7.mono (by rw [← Hbe.out]; omega)))
        have HZ7 := Lib.hid (show b + 1 ≤ w7.heap.size by have := hm7.size; omega)
        have q0 := F7.out.at_ (b := b) (o := 0) (V := .slice none 0 0) (by simp)
        have f0 := F7.out.fr (b := b) (o := 0) (V := .slice none 0 0) (by simp)
        have g7 := G7.out.at_ (b := q) (o := 0) (V := .slice (some ⟨g, 0, none⟩) n c) (by simp)
        have hres := cell_end1 q0 (.slice (some ⟨g, 0, none⟩) n c)
        have G6 := Lib.hid (G0.out.mid ((Mid.refl g (g + 1) w5).grown hg6 fun g' e => by injection e with e; omega) (by simp; omega))
        have g60 := G6.out.at_ (b := q) (o := 0) (V := .slice (some ⟨g, 0, none⟩) n c) (by simp)
        have z6 : w6.cell? ⟨g, 1, none⟩ = some (.slice Ab nb cb) := by rw [hv6.own.cellAt 1 (by omega)]; simp
        have y6 := hv6.own.frozenAt 1
        have Hw6 := Lib.hid hw6
        have Hw7 := Lib.hid hw7
        rw [hw7] at q0 f0 g7
        have hgb : g ≠ b := by omega
        clear hw6 hw7 hm7 hb7 hr7 hv7 hv6 hg6 hg7 s1 s2 hrow hv hps HO
        go_wp2_with fail
        go_region
        rw [← Hw6.out]
        go_wp2_with fail
        rw [← Hw7.out]
        refine bodyPost_ret (v := .agg #[.slice (some ⟨g, 0, none⟩) n c]) (by simp [results, Tryz.results25, go_sem, hres]) rfl ?_
        exact RetLd.fin hsb Hbe.out HZ7.out HO7.out HX7.out (by omega) HS7.out HM7.out
      · have HO5 := Lib.hid (HO.out.own.mono (Nat.le_refl _) (show q ≤ w5.heap.size by omega))
        replace HZ := Lib.hid (show b + 1 ≤ w5.heap.size by omega)
        have q0 := F0.out.at_ (b := b) (o := 0) (V := .slice none 0 0) (by simp)
        have f0 := F0.out.fr (b := b) (o := 0) (V := .slice none 0 0) (by simp)
        have hres := cell_end1 q0 (.slice A n c)
        go_wp2_with fail
        refine bodyPost_ret (v := .agg #[.slice A n c]) (by simp [results, Tryz.results25, go_sem, hres]) rfl ?_
        exact RetLd.fin hsb Hbe.out HZ.out HO5.out HX.out (by omega) HS.out HM.out
    · have hx4 : (x == 1) = false := by simpa using hx3
      by_cases hx5 : x = 2
      · subst hx5
        clear hx0 hx1
        have q0 := F0.out.at_ (b := b) (o := 0) (V := .slice none 0 0) (by simp)
        have f0 := F0.out.fr (b := b) (o := 0) (V := .slice none 0 0) (by simp)
        have hqb2 : q ≠ b := by omega
        obtain ⟨w6, hw6⟩ : ∃ W, W = w5.setCell ⟨q, 0, none⟩ (.slice none 0 0) := ⟨_, rfl⟩
        have hm6 : Mid q (q + 1) w5 w6 := by rw [hw6]; exact mid_setCell (p := ⟨q, 0, none⟩) _ ⟨Nat.le_refl _, Nat.lt_succ_self _⟩
        have hqz := HZ.out
        have hb6 : Below q w5 w6 := hm6.below (by omega)
        replace F0 := Lib.hid (F0.out.belowB hb6 (by simp; omega))
        replace HS := Lib.hid (HS.out.below (hb6.mono (by omega)))
        replace HM := Lib.hid (HM.out.on (hb6.mono (by rw [← Hbe.out]; omega)))
        replace HZ := Lib.hid (Nat.le_trans (show b + 1 ≤ w5.heap.size by omega) hb6.size)
        have HN : Hid (OwnL w6 (b + 1) w6.heap.size none 0 0 []) := Lib.hid OwnL.nil
        have hres := cell_end1 (F0.out.at_ (b := b) (o := 0) (V := .slice none 0 0) (by simp)) (.slice none 0 0)
        have Hw6 := Lib.hid hw6
        clear hw6 hm6 hb6 hqz
        go_wp2_with fail
        rw [← Hw6.out]
        refine bodyPost_ret (v := .agg #[.slice none 0 0]) (by simp [results, Tryz.results25, go_sem, hres]) rfl ?_
        exact RetLd.fin hsb Hbe.out HZ.out HN.out (by simp) (by omega) HS.out HM.out
      · have hx6 : (x == 2) = false := by simpa using hx5
        have HO5 := Lib.hid (HO.out.own.mono (Nat.le_refl _) (show q ≤ w5.heap.size by omega))
        replace HZ := Lib.hid (show b + 1 ≤ w5.heap.size by omega)
        have q0 := F0.out.at_ (b := b) (o := 0) (V := .slice none 0 0) (by simp)
        have f0 := F0.out.fr (b := b) (o := 0) (V := .slice none 0 0) (by simp)
        have hres := cell_end1 q0 (.slice A n c)
        go_wp2_with fail
        refine bodyPost_ret (v := .agg #[.slice A n c]) (by simp [results, Tryz.results25, go_sem, hres]) rfl ?_
        exact RetLd.fin hsb Hbe.out HZ.out HO5.out HX.out (by omega) HS.out HM.out

/-- a drawn sum, of one's own -/
def RetDL (w : World) (e : Ending) (w' : World) : Prop :=
  ∃ (A : Option Addr) (n c : Nat) (xss : List (List Int)), e = .returned (.agg #[.slice A n c]) ∧ OwnL w' w.heap.size w'.heap.size A n c xss ∧ n ≤ 5 ∧ totalL xss ≤ 35 ∧ Below w.heap.size w w'
theorem RetLd.dl {w w0 w' : World} {s l : Nat} {e : Ending} (h : RetLd s l w e w') (hl : l ≤ 5) (hs : w0.heap.size ≤ s) (hb : Below w0.heap.size w0 w) (hsw : s < w.heap.size) :
    ∃ (A : Option Addr) (n c : Nat) (xss : List (List Int)), e = .returned (.agg #[.slice A n c]) ∧ OwnL w' w.heap.size w'.heap.size A n c xss ∧ n ≤ 5 ∧ totalL xss ≤ 35 ∧ Below w0.heap.size w0 w' ∧ Src w' s ∧ Mid s (s + 1) w w' := by
  obtain ⟨A, n, c, xss, rfl, ho, hn, hx, hs2, hm⟩ := h
  refine ⟨A, n, c, xss, rfl, ho, by omega, ?_, hb.trans ((hm.below (Nat.le_of_lt hsw)).mono hs), hs2, hm⟩
  have := totalL_le xss 7 hx
  rw [ho.len] at this
  omega
theorem RetDL.fin {w wr : World} {b n c : Nat} {A : Option Addr} {xss : List (List Int)} {X : Value} (hbe : b = w.heap.size) (hz : b + 1 ≤ wr.heap.size) (O : OwnL wr (b + 1) wr.heap.size A n c xss) (hn : n ≤ 5) (ht : totalL xss ≤ 35) (hb : Below w.heap.size w wr) :
    RetDL w (.returned (.agg #[.slice A n c])) (wr.setCell ⟨b, 0, none⟩ X) := by
  have hm2 : Mid b (b + 1) wr (wr.setCell ⟨b, 0, none⟩ X) := mid_setCell (p := ⟨b, 0, none⟩) _ ⟨Nat.le_refl _, Nat.lt_succ_self _⟩
  exact ⟨A, n, c, xss, rfl, (O.mid hm2 (Nat.le_refl _)).mono (by rw [← hbe]; omega) hm2.size, hn, ht, hb.trans ((hm2.below (by omega)).mono (Nat.le_of_eq hbe.symm))⟩

set_option maxRecDepth 100000 in
theorem drawIsLambda_any (A : Option Addr) (n c : Nat) (w : World) (h : RdB w w.heap.size A n c) (hn : n ≤ 4096) : Calls Tryz.prog 47 #[.slice A n c] w (RetDL w) := by
  obtain ⟨b, hbe⟩ : ∃ b, b = w.heap.size := ⟨_, rfl⟩
  obtain ⟨w0, hw0⟩ : ∃ w0, w0 = w.alloc (.cells #[.slice none 0 0] 26) := ⟨_, rfl⟩
  have F0 := Lib.hid (show Cells [(b, 0, .slice none 0 0)] w0 by rw [hw0]; exact Cells.alloc1' _ _ hbe)
  have hb0 : Below w.heap.size w w0 := by rw [hw0]; exact (Below.refl _ _).alloc (Nat.le_refl _) _
  have HZ := Lib.hid (show w0.heap.size = b + 1 by rw [hw0, hbe]; simp)
  have Hw := Lib.hid hw0
  have Hbe := Lib.hid hbe
  clear hw0 hbe
  go_enter Tryz.func47, Tryz.ntmps47
  go_wp2_with fail
  rw [← Hw.out, ← Hbe.out]
  refine (from_any A n c w0 ((h.below hb0).mono hb0.size) hn).mono ?_
  rintro e w1 ⟨rfl, hs1, hb1⟩
  go_wp2_with fail
  refine (some16_any _ w1 hs1).mono ?_
  rintro e w2 h2
  obtain ⟨A2, n2, c2, xss, rfl, hr, hn2, ht2, hb2, _, _⟩ := h2.dl (Nat.le_refl _) (Nat.le_refl _) hb1 hs1.lt
  have F2 := Lib.hid (F0.out.below hb2)
  have q0 := F2.out.at_ (b := b) (o := 0) (V := .slice none 0 0) (by simp)
  have f0 := F2.out.fr (b := b) (o := 0) (V := .slice none 0 0) (by simp)
  have hres := cell_end1 q0 (.slice A2 n2 c2)
  go_wp2_with fail
  refine bodyPost_ret (v := .agg #[.slice A2 n2 c2]) (by simp [results, Tryz.results47, go_sem, hres]) rfl ?_
  exact RetDL.fin Hbe.out (by have := hb2.size; rw [HZ.out] at this; exact this) (hr.mono (by have := hb1.size; rw [HZ.out] at this; exact this) (Nat.le_refl _)) hn2 ht2 (hb0.trans (hb2.mono hb0.size))
set_option maxRecDepth 100000 in
theorem drawLambdaForm_any (A : Option Addr) (n c : Nat) (w : World) (h : RdB w w.heap.size A n c) (hn : n ≤ 4096) : Calls Tryz.prog 14 #[.slice A n c] w (RetDL w) := by
  obtain ⟨b, hbe⟩ : ∃ b, b = w.heap.size := ⟨_, rfl⟩
  obtain ⟨w0, hw0⟩ : ∃ w0, w0 = w.alloc (.cells #[.slice none 0 0] 26) := ⟨_, rfl⟩
  have F0 := Lib.hid (show Cells [(b, 0, .slice none 0 0)] w0 by rw [hw0]; exact Cells.alloc1' _ _ hbe)
  have hb0 : Below w.heap.size w w0 := by rw [hw0]; exact (Below.refl _ _).alloc (Nat.le_refl _) _
  have HZ := Lib.hid (show w0.heap.size = b + 1 by rw [hw0, hbe]; simp)
  have Hw := Lib.hid hw0
  have Hbe := Lib.hid hbe
  clear hw0 hbe
  go_enter Tryz.func14, Tryz.ntmps14
  go_wp2_with fail
  rw [← Hw.out, ← Hbe.out]
  refine (drawIsLambda_any A n c w0 ((h.below hb0).mono hb0.size) hn).mono ?_
  rintro e w2 ⟨A2, n2, c2, xss, rfl, hr, hn2, ht2, hb2⟩
  have F2 := Lib.hid (F0.out.below hb2)
  have q0 := F2.out.at_ (b := b) (o := 0) (V := .slice none 0 0) (by simp)
  have f0 := F2.out.fr (b := b) (o := 0) (V := .slice none 0 0) (by simp)
  have hres := cell_end1 q0 (.slice A2 n2 c2)
  go_wp2_with fail
  refine bodyPost_ret (v := .agg #[.slice A2 n2 c2]) (by simp [results, Tryz.results14, go_sem, hres]) rfl ?_
  exact RetDL.fin Hbe.out (by have := hb2.size; rw [HZ.out] at this; exact this) (hr.mono (by rw [HZ.out]; exact Nat.le_refl _) (Nat.le_refl _)) hn2 ht2 (hb0.trans (hb2.mono hb0.size))
set_option maxRecDepth 100000 in
theorem drawDifferentialOf_any (A : Option Addr) (n c : Nat) (w : World) (h : RdB w w.heap.size A n c) (hn : n ≤ 4096) : Calls Tryz.prog 17 #[.slice A n c] w (RetDL w) := by
  obtain ⟨b, hbe⟩ : ∃ b, b = w.heap.size := ⟨_, rfl⟩
  obtain ⟨w0, hw0⟩ : ∃ w0, w0 = w.alloc (.cells #[.slice none 0 0] 26) := ⟨_, rfl⟩
  have F0 := Lib.hid (show Cells [(b, 0, .slice none 0 0)] w0 by rw [hw0]; exact Cells.alloc1' _ _ hbe)
  have hb0 : Below w.heap.size w w0 := by rw [hw0]; exact (Below.refl _ _).alloc (Nat.le_refl _) _
  have HZ := Lib.hid (show w0.heap.size = b + 1 by rw [hw0, hbe]; simp)
  have Hw := Lib.hid hw0
  have Hbe := Lib.hid hbe
  clear hw0 hbe
  go_enter Tryz.func17, Tryz.ntmps17
  go_wp2_with fail
  rw [← Hw.out, ← Hbe.out]
  refine (from_any A n c w0 ((h.below hb0).mono hb0.size) hn).mono ?_
  rintro e w1 ⟨rfl, hs1, hb1⟩
  have hz0 : w0.heap.size = b + 1 := HZ.out
  rw [hz0] at hs1 ⊢
  have HB1 := Lib.hid hb1
  have HS1 := Lib.hid hs1
  have hl1 := hs1.lt
  clear hs1 hb1 hz0
  go_wp2_with fail
  refine (next_any (b + 1) 24 w1 HS1.out (by omega)).mono ?_
  rintro e w3 ⟨x, rfl, hx0, hx1, hs3, hm3, hz3⟩
  have hb3 : Below w0.heap.size w0 w3 := HB1.out.trans ((hm3.below (Nat.le_of_lt hl1)).mono (Nat.le_of_eq HZ.out))
  have HS3 := Lib.hid hs3
  have HB3 := Lib.hid hb3
  have hl3 := hs3.lt
  clear hm3 hz3 hs3 hb3
  have key : ∀ (l : Nat) (e : Ending) (w2 : World), l ≤ 5 → RetLd (b + 1) l w3 e w2 → ∃ (A : Option Addr) (n c : Nat) (xss : List (List Int)), e = .returned (.agg #[.slice A n c]) ∧ Cells [(b, 0, .slice none 0 0)] w2 ∧ RetDL w (.returned (.agg #[.slice A n c])) (w2.setCell ⟨b, 0, none⟩ (.slice A n c)) := by
    intro l e w2 hl5 h2
    obtain ⟨A2, n2, c2, xss, rfl, hr, hn2, ht2, hb2, _, _⟩ := h2.dl hl5 (Nat.le_of_eq HZ.out) HB3.out hl3
    exact ⟨A2, n2, c2, xss, rfl, F0.out.below hb2, RetDL.fin Hbe.out (by have := hb2.size; rw [HZ.out] at this; exact this) (hr.mono (by omega) (Nat.le_refl _)) hn2 ht2 (hb0.trans (hb2.mono hb0.size))⟩
  have Key := Lib.hid key
  clear key
  by_cases hx : x = 0
  · subst hx
    go_wp2_with fail
    refine (draw16_any (b + 1) 7 3 w3 HS3.out (by decide) (by decide) (by decide)).mono ?_
    rintro e w2 h2
    obtain ⟨A2, n2, c2, xss, rfl, hF, hR⟩ := Key.out 4 e w2 (by decide) h2
    have q0 := hF.at_ (b := b) (o := 0) (V := .slice none 0 0) (by simp)
    have f0 := hF.fr (b := b) (o := 0) (V := .slice none 0 0) (by simp)
    have hres := cell_end1 q0 (.slice A2 n2 c2)
    have HR := Lib.hid hR
    clear hR h2 hF
    go_wp2_with fail
    refine bodyPost_ret (v := .agg #[.slice A2 n2 c2]) (by simp [results, Tryz.results17, go_sem, hres]) rfl ?_
    exact HR.out
  · have hx2 : (x == 0) = false := by simpa using hx
    go_wp2_with fail
    refine (some16_any (b + 1) w3 HS3.out).mono ?_
    rintro e w2 h2
    obtain ⟨A2, n2, c2, xss, rfl, hF, hR⟩ := Key.out 5 e w2 (by decide) h2
    have q0 := hF.at_ (b := b) (o := 0) (V := .slice none 0 0) (by simp)
    have f0 := hF.fr (b := b) (o := 0) (V := .slice none 0 0) (by simp)
    have hres := cell_end1 q0 (.slice A2 n2 c2)
    have HR := Lib.hid hR
    clear hR h2 hF
    go_wp2_with fail
    refine bodyPost_ret (v := .agg #[.slice A2 n2 c2]) (by simp [results, Tryz.results17, go_sem, hres]) rfl ?_
    exact HR.out
end Go.Proofs.YtgmbbpaokcjnhaaGreatDoor
