/- The walk of tableOf. -/
import Derived.Test.YtdpkhgkoeoiemaaTab
namespace Go.Proofs.Ytdpkhgkoeoiemaa
open Go.RowKit
set_option linter.unusedVariables false

theorem rowF_snoc (T : List Tri) (t : Tri) (k i : Nat) : rowF (T ++ [t]) k i = rowS k i (rowF T k i) t := by
  unfold rowF
  rw [List.foldl_append]
  rfl
theorem rowF_lt {n k i : Nat} {T : List Tri} (h : ∀ t ∈ T, t.2.2 < n) (hi : i < n) : rowF T k i < 2 ^ n := by
  unfold rowF
  have h0 : (if k = 0 then 2 ^ i else 0) < 2 ^ n := by
    split
    · exact Nat.pow_lt_pow_right (by decide) hi
    · exact Nat.two_pow_pos n
  generalize (if k = 0 then 2 ^ i else 0) = m at h0
  induction T generalizing m with
  | nil => exact h0
  | cons t T ih =>
    rw [List.foldl_cons]
    refine ih (fun s hs => h s (List.mem_cons_of_mem _ hs)) _ ?_
    unfold rowS
    split
    · exact Nat.or_lt_two_pow h0 (Nat.pow_lt_pow_right (by decide) (h t (by simp)))
    · exact h0
theorem TriF.row_lt {ds : List Int} {T : List Tri} (h : TriF ds T) {k i : Nat} (hi : i < ds.length) : rowF T k i < 65536 := by
  have h1 := rowF_lt (k := k) (fun t ht => (h.each t ht).2.2.2.1) hi
  have h2 : (2 : Nat) ^ ds.length ≤ 2 ^ 16 := Nat.pow_le_pow_right (by decide) h.len
  have e : (2 : Nat) ^ 16 = 65536 := by decide
  omega
theorem Tab.rd {w : World} {t n : Nat} {DS : Value} {g : Nat → Nat} {M : Nat → Nat → Nat} (h : Tab w t n DS 21 g M) : TabR w t n DS M :=
  ⟨h.deg, fun k hk => ⟨g k, h.rows k hk, by simp, Nat.le_refl _, fun j hj => ⟨⟨g k, 0, none⟩, rfl, (h.glt k hk).2, by
    have hj' : j < n := by simpa using hj
    have := h.at_ k j hk hj'
    have e : Addr.add ⟨g k, 0, none⟩ j = ⟨g k, j, none⟩ := by
      unfold Addr.add
      split
      · rename_i h0; subst h0; rfl
      · simp
    rw [e, this]
    simp⟩⟩, h.lt⟩
/-- row 0 while it is laid: the first j places -/
def rowZ (j k i : Nat) : Nat := if k = 0 ∧ i < j then 2 ^ i else 0
theorem rowZ_step {j k i : Nat} : (if k = 0 ∧ i = j then 2 ^ j else rowZ j k i) = rowZ (j + 1) k i := by
  unfold rowZ
  by_cases e1 : k = 0 ∧ i = j
  · obtain ⟨rfl, rfl⟩ := e1; simp
  · rw [if_neg e1]
    by_cases e2 : k = 0 ∧ i < j
    · rw [if_pos e2, if_pos ⟨e2.1, by omega⟩]
    · rw [if_neg e2, if_neg]; omega
theorem wrap_two {j : Nat} (h : j ≤ 16) : wrap64 ((2 : Int) ^ j) = ((2 ^ j : Nat) : Int) := by
  have hp : (2 : Nat) ^ j ≤ 2 ^ 16 := Nat.pow_le_pow_right (by decide) h
  have e : (2 : Nat) ^ 16 = 65536 := by decide
  have e2 : ((2 : Int) ^ j) = ((2 ^ j : Nat) : Int) := by push_cast; rfl
  have hpos := Nat.two_pow_pos j
  rw [e2]
  generalize 2 ^ j = m at *
  unfold wrap64
  omega
theorem map_take_succT {act : List (List Int)} {m : Nat} {x : List Int} (h : Hid (act[m]? = some x)) : (act.take (m + 1)).map toT = (act.take m).map toT ++ [toT x] := by
  rw [List.take_add_one, h.out, List.map_append]; rfl
def RetTab (n : Nat) (DS : Value) (M : Nat → Nat → Nat) (w : World) (e : Ending) (w' : World) : Prop := ∃ t, e = .returned (.pointer (some ⟨t, 0, none⟩)) ∧ TabR w' t n DS M ∧ Below w.heap.size w w'
theorem RetTab.mk {n t : Nat} {DS : Value} {M M' : Nat → Nat → Nat} {w w' : World} (h : TabR w' t n DS M') (hm : M' = M) (hb : Below w.heap.size w w') : RetTab n DS M w (.returned (.pointer (some ⟨t, 0, none⟩))) w' := ⟨t, rfl, hm ▸ h, hb⟩

set_option maxRecDepth 100000 in
set_option maxHeartbeats 2000000 in
theorem tableOf_any (A1 A2 : Option Addr) (n1 c1 n2 c2 : Nat) (ds : List Int) (act : List (List Int)) (w : World) (h : RdMod w A1 n1 c1 ds A2 n2 c2 act) (ht : TabF ds act) (hn2 : n2 ≤ 2000000) :
    Calls Try.prog 37 #[.agg #[.slice A1 n1 c1, .slice A2 n2 c2]] w (RetTab n1 (.slice A1 n1 c1) (rowF (act.map toT)) w) := by
  obtain ⟨i0, hi, hz0, hz1, hz2⟩ := info_parts Try.info_i64
  obtain ⟨w0, b, hw0, hbe, hb0, hz0', hF⟩ := start1 w (.slice A1 n1 c1) (.slice A2 n2 c2) 29
  have HL1 := Lib.hid h.ds.len
  have HL2 := Lib.hid h.act.len
  have H := Lib.hid (h.below hb0)
  have HT := Lib.hid ht
  have HTri := Lib.hid ht.tri
  have Hw := Lib.hid hw0
  have Hbe := Lib.hid hbe
  have Hb0 := Lib.hid hb0
  have F0 := Lib.hid hF
  have HZ := Lib.hid hz0'
  have hn : n1 ≤ 16 := by rw [← h.ds.len]; exact ht.len
  have hmk : ∀ w : World, (Instr.makeSlice 22 (.int .i64 (n1 : Int)) (.int .i64 (n1 : Int))).run Try.prog w = .ok (.slice (some ⟨w.heap.size, 0, none⟩) n1 n1) (w.alloc (.cells (madeCells #[.int .i64 0] n1) 2)) := fun w => by
    have h1 := run_make (P := Try.prog) (w := w) 22 2 i0 (.int .i64 0) Try.underlying22 hi hz0 .i64 .i64 (n1 : Int) (n1 : Int) (by omega) (Int.le_refl _) (by rw [hz2]; omega) (by omega)
    rw [h1, hz1, show ((n1 : Int)).toNat = n1 from by omega, Nat.mul_one]
    rfl
  obtain ⟨R, hR⟩ : ∃ R, R = RetTab n1 (.slice A1 n1 c1) (rowF (act.map toT)) w := ⟨_, rfl⟩
  have HR := Lib.hid hR
  rw [← hR]
  have k0 := F0.out.at_ (b := b) (o := 0) (V := .slice A1 n1 c1) (by simp)
  obtain ⟨w1, hw1⟩ : ∃ W, W = w0.alloc (.cells #[.slice A1 n1 c1, .slice none 0 0, .slice none 0 0, .slice none 0 0, .slice none 0 0, .slice none 0 0, .slice none 0 0, .slice none 0 0, .slice none 0 0, .slice none 0 0, .slice none 0 0, .slice none 0 0, .slice none 0 0, .slice none 0 0, .slice none 0 0, .slice none 0 0, .slice none 0 0, .slice none 0 0, .slice none 0 0, .slice none 0 0, .slice none 0 0, .slice none 0 0] 53) := ⟨_, rfl⟩
  have X1 := Lib.hid (show Below w0.heap.size w0 w1 from by rw [hw1]; exact (Below.refl _ _).alloc (Nat.le_refl _) _)
  have T1 := Lib.hid (show Tab w1 (b + 1) n1 (.slice A1 n1 c1) 0 (fun _ => 0) (fun _ _ => 0) from by
    rw [hw1]
    refine ⟨new_at hz0'.symm rfl, fun k hk => absurd hk (by omega), fun k _ hk => new_at hz0'.symm ?_, fun k hk => new_free hz0'.symm, by simp; omega, fun k i hk => absurd hk (by omega), fun k i hk => absurd hk (by omega), fun k hk => absurd hk (by omega), fun k l hk => absurd hk (by omega)⟩
    have : ∀ k, k < 21 → (#[Value.slice A1 n1 c1, .slice none 0 0, .slice none 0 0, .slice none 0 0, .slice none 0 0, .slice none 0 0, .slice none 0 0, .slice none 0 0, .slice none 0 0, .slice none 0 0, .slice none 0 0, .slice none 0 0, .slice none 0 0, .slice none 0 0, .slice none 0 0, .slice none 0 0, .slice none 0 0, .slice none 0 0, .slice none 0 0, .slice none 0 0, .slice none 0 0, .slice none 0 0] : Array Value)[1 + k]? = some (.slice none 0 0) := by
      intro k hk
      rcases k with _ | _ | _ | _ | _ | _ | _ | _ | _ | _ | _ | _ | _ | _ | _ | _ | _ | _ | _ | _ | _ | k
      all_goals first | rfl | omega
    exact this k hk)
  have HW1 := Lib.hid hw1
  clear h ht hw0 hbe hb0 hF hR hw1 hz0' hi hz0 hz1 hz2 i0
  go_enter Try.func37, Try.ntmps37
  go_wp2_with fail
  rw [← Hw.out, ← Hbe.out]
  go_wp2_with fail
  rw [← HW1.out]
  go_loopw [12] (fun i wr => ∃ (K : Nat) (g : Nat → Nat), K ≤ 21 ∧ i = .int .i64 K ∧ Hid (Tab wr (b + 1) n1 (.slice A1 n1 c1) K g (fun _ _ => 0)) ∧ Hid (Below w0.heap.size w0 wr)) (fun i _ => 21 - (intOf i).toNat)
  case atStart => exact ⟨0, _, by omega, rfl, T1, X1⟩
  case round =>
    clear T1 X1 k0
    obtain ⟨K, g, hK, rfl, HTb, HX⟩ := hrel
    have C := Lib.hid (F0.out.below HX.out)
    have k0 := C.out.at_ (b := b) (o := 0) (V := .slice A1 n1 c1) (by simp)
    by_cases hlt : K < 21
    · have bal := (Below.refl wr.heap.size wr).alloc (Nat.le_refl _) (.cells (madeCells #[.int .i64 0] n1) 2)
      have cK := bcell bal HTb.out.lt (HTb.out.more K (Nat.le_refl _) hlt)
      have fK := bfree bal HTb.out.lt (HTb.out.fr (1 + K) (by omega))
      have HT2 := Lib.hid ((HTb.out.row (T := 2) hlt).below (below_drewN (Below.refl _ _) 1))
      have X2 := Lib.hid (show Below w0.heap.size w0 ((wr.alloc (.cells (madeCells #[.int .i64 0] n1) 2)).setCell ⟨b + 1, 1 + K, none⟩ (.slice (some ⟨wr.heap.size, 0, none⟩) n1 n1)).drew from
        below_drewN ((HX.out.alloc HX.out.size _).setCell (p := ⟨b + 1, 1 + K, none⟩) (by have := HZ.out; simp; omega) _) 1)
      clear bal
      go_wp2_with fail
      go_region
      go_wp2_with fail
      go_roundw
      case rel => exact ⟨K + 1, _, by omega, by go_num, Lib.hid (HT2.out.congr fun k i _ _ => by simp), X2⟩
      case measure => simp [intOf]; omega
    · obtain rfl : K = 21 := by omega
      clear hlt hmk
      go_wp2_with fail
      go_loopw [28] (fun i wr => ∃ j : Nat, j ≤ n1 ∧ i = .int .i64 j ∧ Hid (Tab wr (b + 1) n1 (.slice A1 n1 c1) 21 g (rowZ j)) ∧ Hid (Below w0.heap.size w0 wr)) (fun i _ => n1 - (intOf i).toNat)
      case atStart => exact ⟨0, by omega, rfl, Lib.hid (HTb.out.congr fun k i _ _ => by simp [rowZ]), HX⟩
      case round =>
        clear HTb HX k0
        obtain ⟨j, hj, rfl, HTb, HX⟩ := hrel
        have C := Lib.hid (F0.out.below HX.out)
        have k0 := C.out.at_ (b := b) (o := 0) (V := .slice A1 n1 c1) (by simp)
        by_cases hlt : j < n1
        · have r0 := HTb.out.rows 0 (by omega)
          have c0 := HTb.out.at_ 0 j (by omega) hlt
          have f0 := HTb.out.afr 0 j (by omega) hlt
          have HT2 := Lib.hid ((HTb.out.set (k := 0) (m := 2 ^ j) (by omega) hlt).below (below_drewN (Below.refl _ _) 1))
          have hj' : (j : Int) < (n1 : Int) := by omega
          have hp : (2 : Nat) ^ j ≤ 2 ^ 16 := Nat.pow_le_pow_right (by decide) (by omega)
          have X2 := Lib.hid (show Below w0.heap.size w0 (wr.setCell ⟨g 0, j, none⟩ (.int .i64 ((2 ^ j : Nat) : Int))).drew from
            below_drewN (HX.out.setCell (p := ⟨g 0, j, none⟩) (by have := (HTb.out.glt 0 (by omega)).1; have := HZ.out; simp; omega) _) 1)
          rw [← wrap_two (by omega)] at HT2 X2
          clear hp
          go_wp2_with fail
          go_region
          go_wp2_with fail
          go_roundw
          case rel => exact ⟨j + 1, by omega, by go_num, Lib.hid (HT2.out.congr fun k i _ _ => rowZ_step), X2⟩
          case measure => simp [intOf]; omega
        · obtain rfl : j = n1 := by omega
          have HTb0 := Lib.hid (show Tab wr (b + 1) j (.slice A1 j c1) 21 g (rowF []) from HTb.out.congr fun k i _ hi => by
            unfold rowF rowZ
            by_cases e : k = 0
            · rw [if_pos ⟨e, hi⟩]; simp [e]
            · rw [if_neg (fun h => e h.1)]; simp [e])
          have k1 := C.out.at_ (b := b) (o := 1) (V := .slice A2 n2 c2) (by simp)
          clear hlt HTb
          go_wp2_with fail
          go_loopw [44] (fun i wr => ∃ m : Nat, m ≤ n2 ∧ i = .int .i64 m ∧ Hid (Tab wr (b + 1) j (.slice A1 j c1) 21 g (rowF ((act.take m).map toT))) ∧ Hid (Below w0.heap.size w0 wr)) (fun i _ => n2 - (intOf i).toNat)
          case atStart => exact ⟨0, by omega, rfl, HTb0, HX⟩
          case round =>
            clear HTb0 HX k0 k1
            obtain ⟨m, hm, rfl, HTb, HX⟩ := hrel
            by_cases hlt : m < n2
            · obtain ⟨ad, A', n', c', x, rfl, _, hx, hcx, hrx⟩ := (H.out.below HX.out).act.at_ hlt
              have hxm := List.mem_of_getElem? hx.out
              obtain ⟨hx1, hx2, hx3, hx4, hx5, _⟩ := HT.out.each x hxm
              obtain ⟨a0, a1, a2, htx⟩ : ∃ a0 a1 a2 : Nat, toT x = (a0, a1, a2) := ⟨_, _, _, rfl⟩
              rw [htx] at hx2 hx3 hx4 hx5
              simp only at hx2 hx3 hx4 hx5
              have hxe : x = [(a0 : Int), (a1 : Int), (a2 : Int)] := by rw [hx1, htx]; rfl
              have hn' : n' = 3 := by rw [← hrx.len, hxe]; rfl
              subst hn'
              obtain ⟨ax, y0, rfl, _, hy0, hc0⟩ := hrx.at_ (k := 0) (by omega)
              obtain ⟨ad', y1, had, _, hy1, hc1⟩ := hrx.at_ (k := 1) (by omega)
              obtain rfl : ax = ad' := by simpa using had
              clear had
              obtain ⟨ad', y2, had, _, hy2, hc2⟩ := hrx.at_ (k := 2) (by omega)
              obtain rfl : ax = ad' := by simpa using had
              clear had
              have e0 : y0 = (a0 : Int) := by have := hy0.out; rw [hxe] at this; simpa using this.symm
              have e1 : y1 = (a1 : Int) := by have := hy1.out; rw [hxe] at this; simpa using this.symm
              have e2 : y2 = (a2 : Int) := by have := hy2.out; rw [hxe] at this; simpa using this.symm
              subst e0 e1 e2
              have hc00 : wr.cell? ax = some (.int .i64 (a0 : Int)) := by simpa [Addr.add] using hc0
              simp [Addr.add] at hc1 hc2
              have hl := HL1.out
              have ha1 : a1 < j := by omega
              have ha2 : a2 < j := by omega
              have ha0 : a0 < 21 := by omega
              have r0 := HTb.out.rows a0 ha0
              have c0 := HTb.out.at_ a0 a1 ha0 ha1
              have f0 := HTb.out.afr a0 a1 ha0 ha1
              have hp : (2 : Nat) ^ a2 ≤ 2 ^ 16 := Nat.pow_le_pow_right (by decide) (by omega)
              have e16 : (2 : Nat) ^ 16 = 65536 := by decide
              have hTs : TriF ds ((act.take m).map toT) := by
                have h1 := HTri.out
                have hs : List.Sublist ((act.take m).map toT) (act.map toT) := (List.take_sublist _ _).map _
                exact ⟨h1.len, h1.nodup.sublist hs, fun t ht => h1.each t (hs.subset ht)⟩
              have hrl := hTs.row_lt (k := a0) (i := a1) (by omega)
              have hor : bits .or .i64 ((rowF ((act.take m).map toT) a0 a1 : Nat) : Int) ((2 ^ a2 : Nat) : Int) = ((rowF ((act.take m).map toT) a0 a1 ||| 2 ^ a2 : Nat) : Int) := bits_orN (by omega) (by omega)
              have hor2 : bits .or .i64 ((rowF ((act.take m).map toT) a0 a1 : Nat) : Int) (wrap64 ((2 : Int) ^ a2)) = ((rowF ((act.take m).map toT) a0 a1 ||| 2 ^ a2 : Nat) : Int) := by rw [wrap_two (by omega)]; exact hor
              have HT2 := Lib.hid ((HTb.out.set (k := a0) (i := a1) (m := rowF ((act.take m).map toT) a0 a1 ||| 2 ^ a2) ha0 ha1).below (below_drewN (Below.refl _ _) 1))
              have X2 := Lib.hid (show Below w0.heap.size w0 (wr.setCell ⟨g a0, a1, none⟩ (.int .i64 ((rowF ((act.take m).map toT) a0 a1 ||| 2 ^ a2 : Nat) : Int))).drew from
                below_drewN (HX.out.setCell (p := ⟨g a0, a1, none⟩) (by have := (HTb.out.glt a0 (by omega)).1; have := HZ.out; simp; omega) _) 1)
              have HTX := Lib.hid htx
              have i1 : (a1 : Int) < (j : Int) := by omega
              have i0 : (a0 : Int) < 21 := by omega
              obtain ⟨v, hv⟩ : ∃ v, v = rowF ((act.take m).map toT) a0 a1 := ⟨_, rfl⟩
              rw [← hv] at c0 hor hor2 HT2 X2
              have HVv := Lib.hid hv
              clear hx1 hx2 hx3 hx4 hx5 hxe hrx hy0 hy1 hy2 hc0 hl hp e16 hTs hrl htx hxm hv
              go_wp2_with fail
              go_region
              go_wp2_with fail
              go_roundw
              case rel => exact ⟨m + 1, by omega, by go_num, Lib.hid (HT2.out.congr fun k i _ _ => by
                rw [map_take_succT hx, rowF_snoc, HTX.out]
                unfold rowS
                by_cases e1 : k = a0 ∧ i = a1
                · obtain ⟨rfl, rfl⟩ := e1; simp [HVv.out]
                · rw [if_neg e1, if_neg]; rintro ⟨h1, h2⟩; exact e1 ⟨h1.symm, h2.symm⟩), X2⟩
              case measure => simp [intOf]; omega
            · obtain rfl : m = n2 := by omega
              have HTe := Lib.hid (show TabR wr (b + 1) j (.slice A1 j c1) (rowF (act.map toT)) from by
                have := HTb.out.rd
                rwa [List.take_of_length_le (by rw [HL2.out]; exact Nat.le_refl _)] at this)
              go_wp2_with fail
              rw [HR.out]
              exact RetTab.mk HTe.out rfl (Hb0.out.trans (HX.out.mono Hb0.out.size))
end Go.Proofs.Ytdpkhgkoeoiemaa
