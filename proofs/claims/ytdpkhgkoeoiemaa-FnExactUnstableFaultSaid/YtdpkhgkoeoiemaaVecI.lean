/- spec.l11Act, l11Unit, l11Plus. -/
import Derived.Test.YtdpkhgkoeoiemaaVec
namespace Go.Proofs.Ytdpkhgkoeoiemaa
open Go.RowKit
set_option linter.unusedVariables false

theorem step_pushI {w0 w : World} {ops : Array Oper} {o : Oper} {a : Act} {K : Act → World → Prop} {Q : Exit → Act → World → Prop} {E : Prop} (hgd : o.guard = none) (s x : Operand)
    (ho : o.op = .call { callee := .builtin .append, args := #[s, x], argTypes := #[22, 22] }) {B n c : Nat} {A : Option Addr} {xs : List Int} {y : Int} {H : Nat}
    (hs : a.eval s = .slice A n c) (hH : w.heap.size = H) (hx : a.eval x = .slice (some ⟨H, 0, Option.none⟩) 1 1) (hst : StS w0 B w A n c xs) (hn : n ≤ 2000000000000)
    (h : ∀ A2 c2 w', StS w0 B w' A2 (n + 1) c2 (xs ++ [y]) → K (a.put o.dst (.slice A2 (n + 1) c2)) w') :
    if Region.wanted o (yielded ops a.tmps) = true then Oper.wp Try.prog o a (w.alloc (.cells #[.int .i64 y] 2)) K Q else E := by
  subst hH
  exact step_joinI hgd s x ho hs hx (hst.call ((Below.refl _ _).alloc (Nat.le_refl _) _)) (rd_new w y 2) (by omega) fun A2 c2 w' h1 _ => h A2 c2 w' h1

theorem make_i64 (n : Nat) (hn : n ≤ 1000000) (w : World) : (Instr.makeSlice 22 (.int .i64 (n : Int)) (.int .i64 (n : Int))).run Try.prog w = .ok (.slice (some ⟨w.heap.size, 0, none⟩) n n) (w.alloc (.cells (madeCells #[.int .i64 0] n) 2)) := by
  obtain ⟨i0, hi, hz0, hz1, hz2⟩ := info_parts Try.info_i64
  have h1 := run_make (P := Try.prog) (w := w) 22 2 i0 (.int .i64 0) Try.underlying22 hi hz0 .i64 .i64 (n : Int) (n : Int) (by omega) (Int.le_refl _) (by rw [hz2]; omega) (by omega)
  rw [h1, hz1, show ((n : Int)).toNat = n from by omega, Nat.mul_one]
  rfl
theorem own_made (w : World) (n : Nat) (hn : n ≤ maxLen) : OwnS (w.alloc (.cells (madeCells #[.int .i64 0] n) 2)) w.heap.size (some ⟨w.heap.size, 0, none⟩) n n (List.replicate n 0) :=
  made_own ⟨by simp [toList_madeCells_one], .inr ⟨w.heap.size, n, madeCells #[.int .i64 0] n, rfl, Nat.le_refl _, heap_alloc_new w _, Nat.le_refl _, hn, by simp [madeCells], by rw [toList_madeCells_one]; simp⟩⟩
theorem StS.made {w0 w : World} {B : Nat} (n : Nat) (hn : n ≤ maxLen) (hb : Below B w0 w) (hB : B ≤ w.heap.size) : StS w0 B (w.alloc (.cells (madeCells #[.int .i64 0] n) 2)) (some ⟨w.heap.size, 0, Option.none⟩) n n (vecF 0 n) :=
  ⟨by rw [← vecF_zero]; exact (own_made w n hn).mono hB, hb.alloc hB _, Nat.le_trans hB (by simp)⟩
theorem unit_any (n v : Nat) (w : World) (hv : v < n) (hn : n ≤ 16) : Calls Try.prog 48 #[.int .i64 (n : Nat), .int .i64 (v : Nat)] w (RetO n (vecF (2 ^ v) n) w) := by
  have hmk := make_i64 n (by omega)
  have HO := Lib.hid (StS.made n (by unfold maxLen; omega) (Below.refl w.heap.size w) (Nat.le_refl _))
  obtain ⟨g, x, hg, hgB, hgl, _, hc, hf, hset⟩ := HO.out.own.at_ hv
  have HS := Lib.hid (hset 1).1
  have HX := Lib.hid (HO.out.bel.setCell (p := ⟨g, v, none⟩) hgB (.int .i64 1))
  obtain rfl : w.heap.size = g := by simpa using hg
  rw [World.setCell_alloc_new] at HS HX
  obtain ⟨R, hR⟩ : ∃ R, R = RetO n (vecF (2 ^ v) n) w := ⟨_, rfl⟩
  have HR := Lib.hid hR
  rw [← hR]
  clear hR hset hg hgB hgl
  go_enter Try.func48, Try.ntmps48
  go_wp2_with fail
  rw [HR.out]
  exact ⟨_, _, rfl, by rw [← vecF_unit hv]; exact HS.out, HX.out⟩

set_option maxRecDepth 100000 in
set_option maxHeartbeats 2000000 in
theorem act11_any (A1 A2 AV : Option Addr) (n1 c1 n2 c2 cv k m : Nat) (ds : List Int) (act : List (List Int)) (w : World) (h : RdMod w A1 n1 c1 ds A2 n2 c2 act) (ht : TabF ds act) (hn2 : n2 ≤ 2000000) (hv : RdS w w.heap.size AV n1 cv (vecF m n1)) :
    Calls Try.prog 40 #[.agg #[.slice A1 n1 c1, .slice A2 n2 c2], .int .i64 (k : Nat), .slice AV n1 cv] w (RetO n1 (vecF (spA (act.map toT) k m) n1) w) := by
  obtain ⟨w0, b, hw0, hbe, hb0, hz0', hF⟩ := start1 w (.slice A1 n1 c1) (.slice A2 n2 c2) 29
  have hn : n1 ≤ 16 := by rw [← h.ds.len]; exact ht.len
  have HL1 := Lib.hid h.ds.len
  have HL2 := Lib.hid h.act.len
  have H := Lib.hid (h.below hb0)
  have HV := Lib.hid ((hv.below hb0).mono hb0.size)
  have HT := Lib.hid ht
  have Hw := Lib.hid hw0
  have Hbe := Lib.hid hbe
  have Hb0 := Lib.hid hb0
  have F0 := Lib.hid hF
  have HZ0 := Lib.hid hz0'
  have k0 := F0.out.at_ (b := b) (o := 0) (V := .slice A1 n1 c1) (by simp)
  obtain ⟨R, hR⟩ : ∃ R, R = RetO n1 (vecF (spA (act.map toT) k m) n1) w := ⟨_, rfl⟩
  have HR := Lib.hid hR
  rw [← hR]
  clear h ht hv hw0 hbe hb0 hF hR hz0'
  by_cases hk : k = 0
  · subst hk
    clear k0
    go_enter Try.func40, Try.ntmps40
    go_wp2_with fail
    rw [← Hw.out]
    refine (l01Own_any AV n1 cv _ _ HV.out (by omega)).mono ?_
    rintro e w1 ⟨A3, c3, rfl, ho, hb⟩
    have HO := Lib.hid (ho.mono Hb0.out.size)
    have HX := Lib.hid (Hb0.out.trans (hb.mono Hb0.out.size))
    clear ho hb
    go_wp2_with fail
    rw [HR.out]
    exact ⟨_, _, rfl, HO.out, HX.out⟩
  · have hk1 : ((k : Int) == 0) = false := by simp; omega
    have hk2 : ¬ ((k : Int) = 0) := by omega
    have hk3 : (k == 0) = false := by simp; omega
    have HA := Lib.hid (spA_pos (act.map toT) m hk)
    have hmk := make_i64 n1 (by omega)
    have HO := Lib.hid (StS.made n1 (by unfold maxLen; omega) (Below.refl w0.heap.size w0) (Nat.le_refl _))
    obtain ⟨w1, hw1⟩ : ∃ W, W = w0.alloc (.cells (madeCells #[.int .i64 0] n1) 2) := ⟨_, rfl⟩
    have HW1 := Lib.hid hw1
    rw [← hw1, show some (⟨w0.heap.size, 0, none⟩ : Addr) = some ⟨b + 1, 0, none⟩ from by rw [HZ0.out]] at HO
    clear hk hw1
    go_enter Try.func40, Try.ntmps40
    go_wp2_with fail
    rw [← Hw.out, ← Hbe.out]
    go_wp2_with fail
    rw [← HW1.out]
    generalize hA0 : some (⟨b + 1, 0, none⟩ : Addr) = A0 at HO ⊢
    clear hk1 hk2 hk3 hmk k0
    go_loopw [8] (fun i wr => ∃ j u : Nat, j ≤ n2 ∧ i = .int .i64 j ∧ Hid (u = actF ((act.take j).map toT) k m) ∧ Hid (StS w0 w0.heap.size wr A0 n1 n1 (vecF u n1))) (fun i _ => n2 - (intOf i).toNat)
    case atStart => exact ⟨0, 0, Nat.zero_le _, rfl, Lib.hid rfl, HO⟩
    case round =>
      clear HO hA0
      obtain ⟨j, u, hj, rfl, HU, HO⟩ := hrel
      have k1 := (F0.out.below HO.out.bel).at_ (b := b) (o := 1) (V := .slice A2 n2 c2) (by simp)
      by_cases hlt : j < n2
      · obtain ⟨ad, A', n', c', x, rfl, _, hx, hcx, hrx⟩ := (H.out.below HO.out.bel).act.at_ hlt
        have hxm := List.mem_of_getElem? hx.out
        obtain ⟨hx1, hx2, hx3, hx4, hx5, _⟩ := HT.out.each x hxm
        obtain ⟨a0, a1, a2, htx⟩ : ∃ a0 a1 a2 : Nat, toT x = (a0, a1, a2) := ⟨_, _, _, rfl⟩
        rw [htx] at hx2 hx3 hx4 hx5
        simp only at hx2 hx3 hx4 hx5
        have hxe : x = [(a0 : Int), (a1 : Int), (a2 : Int)] := by rw [hx1, htx]; rfl
        have hn' : n' = 3 := by rw [← hrx.len, hxe]; rfl
        subst hn'
        obtain ⟨ax, y0, rfl, _, hy0, hc0⟩ := hrx.at_ (k := 0) (by omega)
        obtain ⟨ad', y1, had, _, hy1, hc1⟩ := hrx.at_ (k := 1) (by omega)
        obtain rfl : ax = ad' := by simpa using had
        clear had
        obtain ⟨ad', y2, had, _, hy2, hc2⟩ := hrx.at_ (k := 2) (by omega)
        obtain rfl : ax = ad' := by simpa using had
        clear had
        have e0 : y0 = (a0 : Int) := by have := hy0.out; rw [hxe] at this; simpa using this.symm
        have e1 : y1 = (a1 : Int) := by have := hy1.out; rw [hxe] at this; simpa using this.symm
        have e2 : y2 = (a2 : Int) := by have := hy2.out; rw [hxe] at this; simpa using this.symm
        subst e0 e1 e2
        have hc00 : wr.cell? ax = some (.int .i64 (a0 : Int)) := by simpa [Addr.add] using hc0
        simp [Addr.add] at hc1 hc2
        have hl := HL1.out
        have ha1 : a1 < n1 := by omega
        have ha2 : a2 < n1 := by omega
        have HS1 := Lib.hid (show actF ((act.take (j + 1)).map toT) k m = actS k m u (a0, a1, a2) from by rw [map_take_succT hx, actF_snoc, htx, ← HU.out])
        have i1 : (a1 : Int) < (n1 : Int) := by omega
        have i2 : (a2 : Int) < (n1 : Int) := by omega
        clear hx1 hx2 hx3 hx4 hx5 hxe hrx hy0 hy1 hy2 hc0 hl htx hxm hx
        by_cases hak : a0 = k
        · subst hak
          have he1 : ((a0 : Int) == (a0 : Int)) = true := by simp
          have he2 : (a0 == a0) = true := by simp
          obtain ⟨av, y, rfl, _, hy, hcy⟩ := (HV.out.below HO.out.bel).at_ ha1
          have hy' : y = bitV m a1 := by have := hy.out; rw [vecF_at ha1] at this; exact (Option.some.inj this).symm
          by_cases hb : m.testBit a1 = true
          · rw [bitV_yes hb] at hy'
            subst hy'
            obtain ⟨g, z, hg, hgB, hgl, hz, hcz, hfz, hset⟩ := HO.out.own.at_ ha2
            have hz' : z = bitV u a2 := by have := hz.out; rw [vecF_at ha2] at this; exact (Option.some.inj this).symm
            have HS2 := Lib.hid (show StS w0 w0.heap.size (wr.setCell ⟨g, a2, none⟩ (.int .i64 (1 - z))) (some ⟨g, 0, none⟩) n1 n1 (vecF (u ^^^ 2 ^ a2) n1) from
              ⟨by rw [← vecF_tog ha2, ← hz']; exact (hset _).1, HO.out.bel.setCell (p := ⟨g, a2, none⟩) hgB _, by have := HO.out.hi; simpa [World.setCell] using this⟩)
            have HS3 := Lib.hid (show actF ((act.take (j + 1)).map toT) a0 m = u ^^^ 2 ^ a2 from by rw [HS1.out]; exact actS_yes (t := (a0, a1, a2)) rfl hb)
            have hz01 : z = 0 ∨ z = 1 := by rw [hz']; exact bitV_cases u a2
            subst hg
            clear hset hy hgB hgl hz hz' hb HS1 HO HU
            rcases hz01 with rfl | rfl
            · have HS4 := Lib.hid (HS2.out.drewN 1)
              clear HS2
              go_wp2_with fail
              go_region
              go_wp2_with fail
              go_roundw
              case rel => exact ⟨j + 1, _, by omega, by go_num, Lib.hid HS3.out.symm, HS4⟩
              case measure => simp [intOf]; omega
            · have HS4 := Lib.hid (HS2.out.drewN 1)
              clear HS2
              go_wp2_with fail
              go_region
              go_wp2_with fail
              go_roundw
              case rel => exact ⟨j + 1, _, by omega, by go_num, Lib.hid HS3.out.symm, HS4⟩
              case measure => simp [intOf]; omega
          · rw [bitV_no hb] at hy'
            subst hy'
            have HS3 := Lib.hid (show u = actF ((act.take (j + 1)).map toT) a0 m from by rw [HS1.out]; exact (actS_no (t := (a0, a1, a2)) (fun h => hb h.2)).symm)
            clear hy HS1 hb
            go_wp2_with fail
            go_roundw
            case rel => exact ⟨j + 1, u, by omega, by go_num, HS3, HO⟩
            case measure => simp [intOf]; omega
        · have HS3 := Lib.hid (show u = actF ((act.take (j + 1)).map toT) k m from by rw [HS1.out]; exact (actS_no (t := (a0, a1, a2)) (fun h => hak h.1)).symm)
          have hne1 : ((a0 : Int) == (k : Int)) = false := by simp; omega
          have hne2 : ((a0 : Int) != (k : Int)) = true := by simp; omega
          have hne3 : (a0 == k) = false := by simp; omega
          clear HS1
          go_wp2_with fail
          go_roundw
          case rel => exact ⟨j + 1, u, by omega, by go_num, HS3, HO⟩
          case measure => simp [intOf]; omega
      · obtain rfl : j = n2 := by omega
        have HS3 := Lib.hid (show u = spA (act.map toT) k m from by
          rw [HA.out, HU.out, List.take_of_length_le (by rw [HL2.out]; exact Nat.le_refl _)])
        have HS4 := Lib.hid (HO.out.own.mono Hb0.out.size)
        have HX := Lib.hid (Hb0.out.trans (HO.out.bel.mono Hb0.out.size))
        rw [HS3.out] at HS4
        go_wp2_with fail
        rw [HR.out]
        exact ⟨_, _, rfl, HS4.out, HX.out⟩
end Go.Proofs.Ytdpkhgkoeoiemaa
