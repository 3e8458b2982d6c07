/- Products of words on both sides: impl.products, spec.l16Times. -/
import Derived.Test.YtgmbbpaokcjnhaaGreatDoorLam
import Derived.Test.YtgmbbpaokcjnhaaGreatDoorFormL
import Derived.Test.YtgmbbpaokcjnhaaGreatDoorLwIsLam
import Derived.Lib.AppendZeros
namespace Go.Proofs.YtgmbbpaokcjnhaaGreatDoor
open Go.RowKit
set_option linter.unusedVariables false

theorem joinI_st (A1 A2 : Option Addr) (n1 c1 n2 c2 B1 B2 : Nat) (xs ys : List Int) (w : World) (h1 : RdS w B1 A1 n1 c1 xs) (h2 : RdS w B2 A2 n2 c2 ys) (hB1 : B1 ≤ w.heap.size) (hB2 : B2 ≤ w.heap.size) (hn1 : n1 ≤ 1000000000000) (hn2 : n2 ≤ 1000000000000) :
    Calls Tryz.prog 57 #[.slice A1 n1 c1, .slice A2 n2 c2] w (RetO (n1 + n2) (xs ++ ys) w) := by
  have H1 := Lib.hid h1; clear h1
  have H2 := Lib.hid h2; clear h2
  go_enter Tryz.func57, Tryz.ntmps57
  go_wp2_with fail
  refine (copyI_st A1 n1 c1 B1 xs _ H1.out hB1 hn1).mono ?_
  rintro e w1 ⟨A, c, rfl, ho, hb⟩
  have R2 := Lib.hid (H2.out.below (hb.mono hB2))
  have HS := Lib.hid (show StS w w.heap.size w1 A n1 c xs from ⟨ho, hb, hb.size⟩)
  clear ho hb
  go_wp2_with (at_builtin; refine wpList_joinI rfl (.tmp 6) (.tmp 7) rfl rfl rfl HS.out R2.out (by omega) ?_)
  intro A' c' w' hst hg
  have HS' := Lib.hid hst; clear hst hg
  go_wp2_with fail
  go_ret
  exact RetO.mk2 (by omega) rfl HS'.out

theorem prods_length (a b : List (List Int)) : (prods a b).length = a.length * b.length := by
  induction a with
  | nil => simp [prods]
  | cons x a ih =>
    rw [prods, List.flatMap_cons, List.length_append, flat_one, List.length_map, List.length_cons, Nat.add_mul, Nat.one_mul]
    rw [prods] at ih
    omega
theorem prods_succ {a b : List (List Int)} {k : Nat} {x : List Int} (h : a[k]? = some x) : prods (a.take (k + 1)) b = prods (a.take k) b ++ b.flatMap fun y => [x ++ y] := by
  rw [List.take_add_one, h]
  simp [prods]
theorem flat_succ {b : List (List Int)} {k : Nat} {x y : List Int} (h : b[k]? = some y) : ((b.take (k + 1)).flatMap fun y => [x ++ y]) = ((b.take k).flatMap fun y => [x ++ y]) ++ [x ++ y] := by
  rw [List.take_add_one, h]
  simp
theorem flat_len (b : List (List Int)) (x : List Int) (k : Nat) (h : k ≤ b.length) : ((b.take k).flatMap fun y => [x ++ y]).length = k := by
  rw [flat_one, List.length_map, List.length_take]
  omega

theorem products_any (A1 A2 : Option Addr) (n1 c1 n2 c2 B1 B2 : Nat) (xss yss : List (List Int)) (w : World) (h1 : RdL w B1 A1 n1 c1 xss) (h2 : RdL w B2 A2 n2 c2 yss) (hB1 : B1 ≤ w.heap.size) (hB2 : B2 ≤ w.heap.size) (hn1 : n1 ≤ 100000) (hn2 : n2 ≤ 100000) (hm : n1 * n2 ≤ 100000) (hx : ∀ x ∈ xss, x.length ≤ 7) (hy : ∀ x ∈ yss, x.length ≤ 7) :
    Calls Tryz.prog 30 #[.slice A1 n1 c1, .slice A2 n2 c2] w (RetL (prods xss yss).length (prods xss yss) w) := by
  have hst := StL.start (Below.refl w.heap.size w) (Nat.le_refl _)
  obtain ⟨V, hV⟩ : ∃ V, V = w.heap.size := ⟨_, rfl⟩
  rw [← hV] at hst
  have H1 := Lib.hid (h1.mono (show B1 ≤ V by rw [hV]; exact hB1))
  have H2 := Lib.hid (h2.mono (show B2 ≤ V by rw [hV]; exact hB2))
  have L1 := Lib.hid h1.len
  have L2 := Lib.hid h2.len
  clear h1 h2
  have X1 := Lib.hid hx
  have X2 := Lib.hid hy
  have HVe := Lib.hid hV; clear hV
  have HS := Lib.hid hst.here; clear hst hx hy
  have HM := Lib.hid hm; clear hm
  go_enter Tryz.func30, Tryz.ntmps30
  go_wp2_with fail
  rw [← HVe.out]
  go_loopw [5, 13] (fun o i wr => ∃ (k l' c' K : Nat) (A' : Option Addr) (acc : List (List Int)), k ≤ n1 ∧ i = .int .i64 k ∧ o = .slice A' l' c' ∧ Hid (acc.length = l') ∧ Hid (acc = prods (xss.take k) yss) ∧ Hid (StL w V wr K A' l' c' acc)) (fun _ i _ => n1 - (intOf i).toNat)
  case atStart => exact ⟨0, 0, 0, _, _, [], Nat.zero_le _, rfl, rfl, Lib.hid rfl, Lib.hid rfl, by rw [HVe.out]; rw [HVe.out] at HS; exact HS⟩
  case round =>
    clear HS
    obtain ⟨k, l', c', K, A', acc, hk, rfl, rfl, HL', HA, HS⟩ := hrel
    by_cases hlt : k < n1
    · obtain ⟨ad, A3, n3, c3, x, rfl, hbk, hx, hcw, hr⟩ := H1.out.at_ hlt
      have hc := (HS.out.bel.cell (p := ad.add k) (by rw [block_of_add]; exact hbk)).trans hcw
      clear hcw hbk
      have hn3 : n3 ≤ 7 := by rw [← hr.len]; exact X1.out x (List.mem_of_getElem? hx.out)
      have hlb : l' + n2 ≤ 100000 := by
        rw [← HL'.out, HA.out, prods_length, List.length_take, L1.out, L2.out, Nat.min_eq_left hk, ← Nat.succ_mul]
        exact Nat.le_trans (Nat.mul_le_mul_right _ hlt) HM.out
      have R3 := Lib.hid hr; clear hr
      go_wp2_with fail
      go_loopw [5, 19] (fun o i wr => ∃ (j l2 c2 K : Nat) (A2 : Option Addr) (acc2 : List (List Int)), j ≤ n2 ∧ i = .int .i64 j ∧ o = .slice A2 l2 c2 ∧ l2 = l' + j ∧ Hid (acc2 = acc ++ (yss.take j).flatMap fun y => [x ++ y]) ∧ Hid (StL w V wr K A2 l2 c2 acc2)) (fun _ i _ => n2 - (intOf i).toNat)
      case atStart => exact ⟨0, l', c', K, A', acc, Nat.zero_le _, rfl, rfl, rfl, Lib.hid (by simp), HS⟩
      case round =>
        clear HS
        obtain ⟨j, l2, c2', K2, A2', acc2, hj, rfl, rfl, rfl, HA2, HS⟩ := hrel
        by_cases hjl : j < n2
        · obtain ⟨ad4, A4, n4, c4, y, rfl, _, hy, hc4, hr4⟩ := (H2.out.below HS.out.bel).at_ hjl
          have hn4 : n4 ≤ 7 := by rw [← hr4.len]; exact X2.out y (List.mem_of_getElem? hy.out)
          have R4 := Lib.hid hr4; clear hr4
          go_wp2_with fail
          refine (joinI_st A3 A4 n3 c3 n4 c4 V V x y _ (R3.out.below HS.out.bel) R4.out HS.out.size HS.out.size (by omega) (by omega)).mono ?_
          rintro e w5 ⟨A5, c5, rfl, ho5, hb5⟩
          have N5 := Lib.hid (ho5.mono (B' := wr.heap.size) (Nat.le_refl _))
          have HS5 := Lib.hid (HS.out.here.call hb5)
          clear ho5 hb5
          go_wp2_with (at_builtin; refine wpList_pushL rfl (.tmp 23) (.tmp 27) rfl rfl rfl HS5.out N5.out (by omega) ?_)
          intro A6 c6 w6 hs6 _ _
          have HS6 := Lib.hid hs6; clear hs6
          have HA6 : Hid (acc2 ++ [x ++ y] = acc ++ (yss.take (j + 1)).flatMap fun y => [x ++ y]) := Lib.hid (by rw [flat_succ hy.out, HA2.out, List.append_assoc])
          go_wp2_with fail
          go_roundw
          case rel => exact ⟨j + 1, l' + (j + 1), c6, _, A6, _, by omega, by go_num, rfl, rfl, HA6, HS6⟩
          case measure => simp [intOf]; omega
        · obtain rfl : j = n2 := by omega
          have HA6 : Hid (acc2 = prods (xss.take (k + 1)) yss) := Lib.hid (by
            rw [prods_succ hx.out, HA2.out, ← HA.out, List.take_of_length_le (by rw [L2.out]; exact Nat.le_refl _)])
          have HL6 : Hid (acc2.length = l' + j) := Lib.hid HS.out.own.len
          go_wp2_with fail
          go_roundw
          case rel => exact ⟨k + 1, l' + j, c2', _, A2', _, by omega, by go_num, rfl, HL6, HA6, HS⟩
          case measure => simp [intOf]; omega
    · obtain rfl : k = n1 := by omega
      have HE : Hid (acc = prods xss yss) := Lib.hid (by rw [HA.out, List.take_of_length_le (by rw [L1.out]; exact Nat.le_refl _)])
      go_wp2_with fail
      go_ret
      have h8 := HS.out
      rw [HVe.out] at h8
      exact RetL.mk (by rw [← HE.out, HL'.out]) HE.out h8

/-- what stands in out while words are added: the words so far, modulo 2 -/
structure SumInv (L out : List (List Int)) : Prop where
  eq : out = oddL L
  ok : ∀ z ∈ L, okW z
theorem SumInv.asc {L out : List (List Int)} (h : SumInv L out) : Asc out := by rw [h.eq]; exact oddL_asc _
theorem SumInv.okO {L out : List (List Int)} (h : SumInv L out) : ∀ z ∈ out, okW z := by rw [h.eq]; exact fun z hz => h.ok z (oddL_mem hz)
theorem SumInv.len {L out : List (List Int)} (h : SumInv L out) : out.length ≤ 75582 := asc_len h.asc h.okO
theorem SumInv.tot {L out : List (List Int)} (h : SumInv L out) : totalL out ≤ 529074 := by
  have h1 := tot_le out 7 fun z hz => (h.okO z hz).1
  have := h.len
  omega
theorem SumInv.start : SumInv [] [] := ⟨rfl, fun z hz => by cases hz⟩
theorem SumInv.step {L out : List (List Int)} {z : List Int} (h : SumInv L out) (hz : okW z) : SumInv (L ++ [z]) (oddL (out ++ [z])) := by
  refine ⟨oddL_congr ?_, fun y hy => (List.mem_append.1 hy).elim (h.ok y) fun e => by rw [List.mem_singleton.1 e]; exact hz⟩
  rw [h.eq]
  exact (oddL_same _).append (SameSum.refl _)

def RetSum (L : List (List Int)) (w : World) (e : Ending) (w' : World) : Prop := RetL (oddL L).length (oddL L) w e w'

set_option maxRecDepth 100000 in
set_option maxHeartbeats 1000000 in
theorem times_any (A1 A2 : Option Addr) (n1 c1 n2 c2 B1 B2 : Nat) (xss yss : List (List Int)) (w : World) (h1 : RdL w B1 A1 n1 c1 xss) (h2 : RdL w B2 A2 n2 c2 yss) (hB1 : B1 ≤ w.heap.size) (hB2 : B2 ≤ w.heap.size) (hn1 : n1 ≤ 1000000000) (hn2 : n2 ≤ 1000000000) (hw : ∀ x ∈ xss, ∀ y ∈ yss, okW (x ++ y)) (hx : ∀ x ∈ xss, x.length ≤ 7) (hy : ∀ x ∈ yss, x.length ≤ 7) :
    Calls Tryz.prog 34 #[.slice A1 n1 c1, .slice A2 n2 c2] w (RetL (oddL (prods xss yss)).length (oddL (prods xss yss)) w) := by
  have hst := StL.start (Below.refl w.heap.size w) (Nat.le_refl _)
  obtain ⟨V, hV⟩ : ∃ V, V = w.heap.size := ⟨_, rfl⟩
  rw [← hV] at hst
  have H1 := Lib.hid (h1.mono (show B1 ≤ V by rw [hV]; exact hB1))
  have H2 := Lib.hid (h2.mono (show B2 ≤ V by rw [hV]; exact hB2))
  have L1 := Lib.hid h1.len
  have L2 := Lib.hid h2.len
  clear h1 h2
  have X1 := Lib.hid hx
  have X2 := Lib.hid hy
  have XW := Lib.hid hw
  have HVe := Lib.hid hV; clear hV
  have HS := Lib.hid hst.here; clear hst hx hy hw
  go_enter Tryz.func34, Tryz.ntmps34
  go_wp2_with fail
  rw [← HVe.out]
  go_loopw [5, 6] (fun o i wr => ∃ (k l' c' : Nat) (A' : Option Addr) (acc : List (List Int)), k ≤ n1 ∧ i = .int .i64 k ∧ o = .slice A' l' c' ∧ Hid (SumInv (prods (xss.take k) yss) acc) ∧ Hid (StL w V wr wr.heap.size A' l' c' acc)) (fun _ i _ => n1 - (intOf i).toNat)
  case atStart => exact ⟨0, 0, 0, _, [], Nat.zero_le _, rfl, rfl, Lib.hid SumInv.start, by rw [HVe.out]; rw [HVe.out] at HS; exact HS⟩
  case round =>
    clear HS
    obtain ⟨k, l', c', A', acc, hk, rfl, rfl, HA, HS⟩ := hrel
    by_cases hlt : k < n1
    · obtain ⟨ad, A3, n3, c3, x, rfl, hbk, hx, hcw, hr⟩ := H1.out.at_ hlt
      have hn3 : n3 ≤ 7 := by rw [← hr.len]; exact X1.out x (List.mem_of_getElem? hx.out)
      have R3 := Lib.hid hr; clear hr
      have hbx : (ad.add k).block < V := by rw [block_of_add]; exact hbk
      have Hcw := Lib.hid hcw
      clear hcw hbk
      go_wp2_with fail
      go_loopw [5, 7] (fun o i wr => ∃ (j l2 c2 : Nat) (A2 : Option Addr) (acc2 : List (List Int)), j ≤ n2 ∧ i = .int .i64 j ∧ o = .slice A2 l2 c2 ∧ Hid (SumInv (prods (xss.take k) yss ++ (yss.take j).flatMap fun y => [x ++ y]) acc2) ∧ Hid (StL w V wr wr.heap.size A2 l2 c2 acc2)) (fun _ i _ => n2 - (intOf i).toNat)
      case atStart => exact ⟨0, l', c', A', acc, Nat.zero_le _, rfl, rfl, Lib.hid (by simpa using HA.out), HS⟩
      case round =>
        clear HS HA
        obtain ⟨j, l2, c2', A2', acc2, hj, rfl, rfl, HA2, HS⟩ := hrel
        by_cases hjl : j < n2
        · obtain ⟨ad4, A4, n4, c4, y, rfl, hbk4, hy, hcw4, hr4⟩ := H2.out.at_ hjl
          have hn4 : n4 ≤ 7 := by rw [← hr4.len]; exact X2.out y (List.mem_of_getElem? hy.out)
          have hby : (ad4.add j).block < V := by rw [block_of_add]; exact hbk4
          have hc := (HS.out.bel.cell (p := ad.add k) hbx).trans Hcw.out
          have hcy := (HS.out.bel.cell (p := ad4.add j) hby).trans hcw4
          have Hcy := Lib.hid hcw4
          have R4 := Lib.hid hr4; clear hr4 hcw4 hbk4
          have Hok := Lib.hid (XW.out x (List.mem_of_getElem? hx.out) y (List.mem_of_getElem? hy.out))
          have hl2 := HA2.out.len
          rw [HS.out.own.len] at hl2
          have hzy : (ad4.add j).block < wr.heap.size := Nat.lt_of_lt_of_le hby HS.out.size
          obtain ⟨wz, hwz⟩ : ∃ W : World, W = wr := ⟨_, rfl⟩
          subst hwz
          have Ed := Lib.hid (Ext.drew (Ext.refl wz))
          have R3 := Lib.hid (R3.out.below HS.out.bel)
          have R4 := Lib.hid (R4.out.below HS.out.bel)
          have Hv := Lib.hid HS.out.size
          have Hacc := Lib.hid HA2.out.asc
          have Htot := Lib.hid HA2.out.tot
          have HA3 := Lib.hid (HA2.out.step Hok.out)
          obtain ⟨z, hz⟩ : ∃ z, z = x ++ y := ⟨_, rfl⟩
          have HZ := Lib.hid hz
          rw [← hz] at HA3
          have hzl : z.length ≤ 7 := by rw [hz]; exact Hok.out.1
          clear hz
          obtain ⟨M2, hM2⟩ : ∃ M2, M2 = oddL (acc2 ++ [z]) := ⟨_, rfl⟩
          rw [← hM2] at HA3
          obtain ⟨l3, hl3⟩ : ∃ l, l = M2.length := ⟨_, rfl⟩
          have Hl3 := Lib.hid hl3
          have Hsum := fun (W : World) (A c) (h1 : RdL W W.heap.size A2' l2 c2' acc2) (h2 : RdL W W.heap.size A 1 c [z]) => l01Sum_any A2' A l2 c2' 1 c acc2 [z] W h1 h2 (by omega) (by omega) (by have := Htot.out; omega) (by simp [totalL]; omega) Hacc.out (by simp [Asc])
          rw [← hM2, ← hl3] at Hsum
          have Hsum := Lib.hid Hsum
          have hl3b : l3 ≤ 75582 := by rw [hl3]; exact HA3.out.len
          clear hM2 hl3 Hacc Htot
          go_wp2_with fail
          go_region_held3 (fun w' => w'.cell? (ad.add k) = some (.slice A3 n3 c3) ∧ w'.cell? (ad4.add j) = some (.slice A4 n4 c4)) (first | exact ⟨hc, hcy⟩ | exact ⟨kc1, kcy1⟩ | exact ⟨kc2, kcy2⟩ | exact ⟨kc3, kcy3⟩ | exact ⟨kc4, kcy4⟩)
            (first
              | (go_at_call 62
                 refine (own_st A3 n3 c3 _ x _ (R3.out.below (Ed.out.mono Hv.out)) (by exact Hv.out) (by omega)).mono ?_
                 rintro e u1 ⟨A5, c5, rfl, ho5, hb5⟩
                 have kc1 := (hb5.cell (p := ad.add k) (Nat.lt_of_lt_of_le hbx Hv.out)).trans hc
                 have kcy1 := (hb5.cell (p := ad4.add j) (Nat.lt_of_lt_of_le hby Hv.out)).trans hcy
                 have HS5 := Lib.hid (show StS wz wz.heap.size u1 A5 n3 c5 x from ⟨ho5, Ext.trans Ed.out hb5, hb5.size⟩)
                 clear ho5 hb5)
              | ((refine step_joinI (by rfl) (.tmp 26) (.tmp 30) (by rfl) (by rfl) (by rfl) HS5.out (R4.out.below (HS5.out.bel.mono Hv.out)) (by omega) ?_
                  intro A6 c6 w6 hs6 hg6
                  have kc2 := (hs6.bel.cell (p := ad.add k) (Nat.lt_of_lt_of_le hbx Hv.out)).trans hc
                  have kcy2 := (hs6.bel.cell (p := ad4.add j) (Nat.lt_of_lt_of_le hby Hv.out)).trans hcy
                  have kc3 := (((Ext.alloc hs6.bel (.cells #[.slice A6 (n3 + n4) c6] 35)).cell (p := ad.add k) (Nat.lt_of_lt_of_le hbx Hv.out))).trans hc
                  have kcy3 := (((Ext.alloc hs6.bel (.cells #[.slice A6 (n3 + n4) c6] 35)).cell (p := ad4.add j) (Nat.lt_of_lt_of_le hby Hv.out))).trans hcy
                  have HS6 := Lib.hid hs6
                  rw [← HZ.out] at HS6
                  clear hs6 hg6))
              | (go_at_call 46
                 refine (Hsum.out _ _ _ (((HS.out.rd.below HS6.out.bel).mono HS6.out.bel.size).alloc _) (rdL_one HS6.out.own.rd (Nat.le_refl _))).mono ?_
                 rintro e w8 ⟨A8, c8, rfl, ho8, hb8⟩
                 have HX8 := Lib.hid (Ext.trans (Ext.alloc HS6.out.bel _) hb8)
                 have kc4 := (HX8.out.cell (p := ad.add k) (Nat.lt_of_lt_of_le hbx Hv.out)).trans hc
                 have kcy4 := (HX8.out.cell (p := ad4.add j) (Nat.lt_of_lt_of_le hby Hv.out)).trans hcy
                 have HO8 := Lib.hid (ho8.mono (Nat.le_trans Hv.out (Ext.alloc HS6.out.bel _).size) (Nat.le_refl _))
                 clear ho8 hb8))
          have HA4 : Hid (SumInv (prods (xss.take k) yss ++ (yss.take (j + 1)).flatMap fun y => [x ++ y]) M2) := Lib.hid (by
            rw [flat_succ hy.out, ← List.append_assoc, ← HZ.out]
            exact HA3.out)
          have HS8 := Lib.hid (show StL w V w8 w8.heap.size A8 l3 c8 M2 from ⟨HO8.out, HS.out.bel.trans (HX8.out.mono Hv.out), Nat.le_trans Hv.out HX8.out.size, Nat.le_refl _⟩)
          go_wp2_with fail
          go_roundw
          case rel => exact ⟨j + 1, l3, c8, A8, M2, by omega, by go_num, rfl, HA4, HS8⟩
          case measure => simp [intOf]; omega
        · obtain rfl : j = n2 := by omega
          have HA6 : Hid (SumInv (prods (xss.take (k + 1)) yss) acc2) := Lib.hid (by
            have := HA2.out
            rw [List.take_of_length_le (i := j) (l := yss) (by rw [L2.out]; exact Nat.le_refl _)] at this
            rw [prods_succ hx.out]
            exact this)
          go_wp2_with fail
          go_roundw
          case rel => exact ⟨k + 1, l2, c2', A2', acc2, by omega, by go_num, rfl, HA6, HS⟩
          case measure => simp [intOf]; omega
    · obtain rfl : k = n1 := by omega
      have HE : Hid (acc = oddL (prods xss yss)) := Lib.hid (by have := HA.out.eq; rw [List.take_of_length_le (by rw [L1.out]; exact Nat.le_refl _)] at this; exact this)
      go_wp2_with fail
      go_ret
      have h8 := HS.out
      rw [HVe.out] at h8
      exact RetL.mk (by rw [← HE.out, h8.own.len]) HE.out h8
end Go.Proofs.YtgmbbpaokcjnhaaGreatDoor

/- MultiplyLambda on both sides. -/
namespace Go.Proofs.YtgmbbpaokcjnhaaGreatDoor
open Go.RowKit
set_option linter.unusedVariables false

theorem isLB_all {xss : List (List Int)} (h : isLB xss = true) : ∀ x ∈ xss, okW x ∧ x.length = (xss.headD []).length ∧ sumZ x = psT 0 (xss.headD []) := by
  intro x hx
  have h0 := isLB_okW h x hx
  rw [isLB_eq] at h
  simp only [Bool.and_eq_true, List.all_eq_true] at h
  have h1 := h.2 x hx
  simp only [okx, Bool.and_eq_true, decide_eq_true_eq, lenI] at h1
  obtain ⟨⟨h2, h3⟩, h4⟩ := h1
  simp only [wordB, Bool.and_eq_true, decide_eq_true_eq, facB, List.all_eq_true, inB] at h2
  have h5 := psT_sumZ x 0 h2.1.2 (by omega) (by omega)
  have h3 := of_decide_eq_true h3
  exact ⟨h0, by omega, by omega⟩
theorem isLB_head {xss : List (List Int)} (h : isLB xss = true) : (xss.headD []).length ≤ 7 ∧ 0 ≤ psT 0 (xss.headD []) ∧ psT 0 (xss.headD []) ≤ 11 := by
  cases xss with
  | nil => simp [psT]
  | cons x r =>
    obtain ⟨h1, h2, h3⟩ := isLB_all h x (by simp)
    rw [← h2, ← h3]
    exact ⟨h1.1, sumZ_nonneg h1.2.1, h1.2.2⟩
theorem isLB_mul {xss yss : List (List Int)} (h1 : isLB xss = true) (h2 : isLB yss = true) (hl : (xss.headD []).length + (yss.headD []).length ≤ 7) (hs : psT 0 (xss.headD []) + psT 0 (yss.headD []) ≤ 11) : ∀ x ∈ xss, ∀ y ∈ yss, okW (x ++ y) := by
  intro x hx y hy
  obtain ⟨a1, a2, a3⟩ := isLB_all h1 x hx
  obtain ⟨b1, b2, b3⟩ := isLB_all h2 y hy
  exact okW_app a1.2.1 b1.2.1 (by omega) (by omega)
theorem formL_mem {xss : List (List Int)} (h : isLB xss = true) : ∀ x ∈ formL xss, okW x ∧ x.length = (xss.headD []).length ∧ sumZ x = psT 0 (xss.headD []) := by
  intro u hu
  obtain ⟨x, hx, hu⟩ := List.mem_flatMap.1 (oddL_mem hu)
  obtain ⟨a1, a2, a3⟩ := isLB_all h x hx
  obtain ⟨h1, h2, h3, _⟩ := nf_word hu a1.2.1
  exact ⟨⟨by rw [h1]; exact a1.1, h3, by rw [h2]; exact a1.2.2⟩, by omega, by omega⟩
theorem form_mul {xss yss : List (List Int)} (h1 : isLB xss = true) (h2 : isLB yss = true) (hl : (xss.headD []).length + (yss.headD []).length ≤ 7) (hs : psT 0 (xss.headD []) + psT 0 (yss.headD []) ≤ 11) : ∀ x ∈ formL xss, ∀ y ∈ formL yss, okW (x ++ y) := by
  intro x hx y hy
  obtain ⟨a1, a2, a3⟩ := formL_mem h1 x hx
  obtain ⟨b1, b2, b3⟩ := formL_mem h2 y hy
  exact okW_app a1.2.1 b1.2.1 (by omega) (by omega)
theorem form_mul_len {xss yss : List (List Int)} (h1 : isLB xss = true) (h2 : isLB yss = true) (hl : (xss.headD []).length + (yss.headD []).length ≤ 7) (hs : psT 0 (xss.headD []) + psT 0 (yss.headD []) ≤ 11) : (prods (formL xss) (formL yss)).length ≤ 75582 :=
  prods_len (asc_nodup (formL_asc _)) (asc_nodup (formL_asc _)) (fun x hx => (formL_mem h1 x hx).2.1) (form_mul h1 h2 hl hs)
theorem formL_odd (s : List (List Int)) : formL (oddL s) = formL s := oddL_congr (nfS_same (oddL_same s))

def mulO (a b : List (List Int)) : Int × List (List Int) :=
  if isLB a && isLB b then
    if a.isEmpty || b.isEmpty then (0, [])
    else if (a.headD []).length + (b.headD []).length ≤ 7 ∧ psT 0 (a.headD []) + psT 0 (b.headD []) ≤ 11 then (0, formL (prods a b)) else (3, [])
  else (1, [])
theorem mulO_bad1 {a b : List (List Int)} (h : isLB a = false) : mulO a b = (1, []) := by simp [mulO, h]
theorem mulO_bad2 {a b : List (List Int)} (h : isLB b = false) : mulO a b = (1, []) := by simp [mulO, h]
theorem mulO_zero {a b : List (List Int)} (h1 : isLB a = true) (h2 : isLB b = true) (h3 : (a.isEmpty || b.isEmpty) = true) : mulO a b = (0, []) := by unfold mulO; rw [h1, h2, h3]; simp
theorem mulO_lim {a b : List (List Int)} (h1 : isLB a = true) (h2 : isLB b = true) (h3 : (a.isEmpty || b.isEmpty) = false) (h4 : ¬ ((a.headD []).length + (b.headD []).length ≤ 7 ∧ psT 0 (a.headD []) + psT 0 (b.headD []) ≤ 11)) : mulO a b = (3, []) := by
  unfold mulO; rw [h1, h2, h3, if_pos (by simp), if_neg (by simp), if_neg h4]
theorem mulO_ok {a b : List (List Int)} (h1 : isLB a = true) (h2 : isLB b = true) (h3 : (a.isEmpty || b.isEmpty) = false) (h4 : (a.headD []).length + (b.headD []).length ≤ 7 ∧ psT 0 (a.headD []) + psT 0 (b.headD []) ≤ 11) : mulO a b = (0, formL (prods a b)) := by
  unfold mulO; rw [h1, h2, h3, if_pos (by simp), if_neg (by simp), if_pos h4]
theorem prods_okW {a b : List (List Int)} (h : ∀ x ∈ a, ∀ y ∈ b, okW (x ++ y)) : ∀ z ∈ prods a b, okW z := by
  intro z hz
  obtain ⟨x, hx, y, hy, rfl⟩ := mem_prods hz
  exact h x hx y hy
theorem mulO_bounds (a b : List (List Int)) : (mulO a b).2.length ≤ 75582 ∧ totalL (mulO a b).2 ≤ 529074 := by
  unfold mulO
  split
  · rename_i h
    rw [Bool.and_eq_true] at h
    split
    · simp [totalL]
    · split
      · rename_i h2
        exact formL_bounds (prods_okW (isLB_mul h.1 h.2 h2.1 h2.2))
      · simp [totalL]
  · simp [totalL]

set_option maxRecDepth 100000 in
set_option maxHeartbeats 1000000 in
theorem iMultiplyLambda (A1 A2 : Option Addr) (n1 c1 n2 c2 : Nat) (xss yss : List (List Int)) (w : World) (h1 : RdL w w.heap.size A1 n1 c1 xss) (h2 : RdL w w.heap.size A2 n2 c2 yss) (hn1 : n1 ≤ 2000000) (hn2 : n2 ≤ 2000000) (ht1 : totalL xss ≤ 2000000) (ht2 : totalL yss ≤ 2000000) :
    Calls Tryz.prog 6 #[.agg #[.slice A1 n1 c1], .agg #[.slice A2 n2 c2]] w (RetMC (mulO xss yss).2.length (mulO xss yss).2 (mulO xss yss).1 w) := by
  obtain ⟨w0, b, hw0, hbe, hb0, hz0, hF⟩ := alloc3 w (.slice A1 n1 c1) (.slice A2 n2 c2) (.slice none 0 0) 26 26 26
  have HE1 := Lib.hid (emp_of h1.len)
  have HE2 := Lib.hid (emp_of h2.len)
  have HX1 := Lib.hid (fun (x : List Int) (hx : x ∈ xss) => Nat.le_trans (len_le_tot hx) ht1)
  have HX2 := Lib.hid (fun (x : List Int) (hx : x ∈ yss) => Nat.le_trans (len_le_tot hx) ht2)
  have HL1 := Lib.hid h1.len
  have HL2 := Lib.hid h2.len
  have H1 := Lib.hid ((h1.below hb0).mono hb0.size); clear h1
  have H2 := Lib.hid ((h2.below hb0).mono hb0.size); clear h2
  have Hw := Lib.hid hw0; clear hw0
  have Hbe := Lib.hid hbe; clear hbe
  have Hb0 := Lib.hid hb0; clear hb0
  have HZ := Lib.hid hz0; clear hz0
  have F0 := Lib.hid hF; clear hF
  have B0 := Lib.hid (Below.refl w0.heap.size w0)
  obtain ⟨r1, hr1⟩ : ∃ r, r = isLB xss := ⟨_, rfl⟩
  have HR1 := Lib.hid hr1; clear hr1
  obtain ⟨r2, hr2⟩ : ∃ r, r = isLB yss := ⟨_, rfl⟩
  have HR2 := Lib.hid hr2; clear hr2
  go_enter Tryz.func6, Tryz.ntmps6
  go_wp2_with fail
  rw [← Hw.out, ← Hbe.out]
  obtain ⟨k1, k2, k3, f3, _⟩ := F0.out
  refine (iIsLambda A1 n1 c1 xss _ ((H1.out.below B0.out).mono B0.out.size) (by omega) (by omega)).mono ?_
  rintro e w1 ⟨rfl, hb1⟩
  have B1 := Lib.hid (B0.out.trans (hb1.mono B0.out.size)); clear hb1
  obtain ⟨k1, k2, k3, f3, _⟩ := F0.out.below B1.out
  rw [← HR1.out]
  cases r1
  · have HV := Lib.hid (mulO_bad1 (b := yss) HR1.out.symm)
    have hres := cell_set (v := .slice none 0 0) k3
    go_wp2_with fail
    refine bodyPost_ret (v := .tuple #[.agg #[.slice none 0 0], .int .i64 1]) (by simp [results, Tryz.results6, go_sem, hres]) rfl ?_
    exact RetMC.bad (by rw [HV.out]; rfl) (by rw [HV.out]) (by rw [HV.out]) Hb0.out B1.out (by rw [HZ.out, ← Hbe.out]; omega)
  · go_wp2_with fail
    refine (iIsLambda A2 n2 c2 yss _ ((H2.out.below B1.out).mono B1.out.size) (by omega) (by omega)).mono ?_
    rintro e w2 ⟨rfl, hb2⟩
    have B2 := Lib.hid (B1.out.trans (hb2.mono B1.out.size)); clear hb2
    obtain ⟨k1, k2, k3, f3, _⟩ := F0.out.below B2.out
    rw [← HR2.out]
    cases r2
    · have HV := Lib.hid (mulO_bad2 (a := xss) HR2.out.symm)
      have hres := cell_set (v := .slice none 0 0) k3
      go_wp2_with fail
      refine bodyPost_ret (v := .tuple #[.agg #[.slice none 0 0], .int .i64 1]) (by simp [results, Tryz.results6, go_sem, hres]) rfl ?_
      exact RetMC.bad (by rw [HV.out]; rfl) (by rw [HV.out]) (by rw [HV.out]) Hb0.out B2.out (by rw [HZ.out, ← Hbe.out]; omega)
    · go_wp2_with fail
      refine (isZeroL_any A1 n1 c1 _ (by omega)).mono ?_
      rintro e w3 ⟨rfl, hb3⟩
      have B3 := Lib.hid (B2.out.trans (hb3.mono B2.out.size)); clear hb3
      obtain ⟨k1, k2, k3, f3, _⟩ := F0.out.below B3.out
      rcases Nat.eq_zero_or_pos n1 with hz1 | hz1
      · rw [decide_eq_true hz1]
        have HV := Lib.hid (mulO_zero HR1.out.symm HR2.out.symm (by rw [HE1.out, decide_eq_true hz1]; rfl))
        clear hz1
        have hres := cell_set (v := .slice none 0 0) k3
        go_wp2_with fail
        refine bodyPost_ret (v := .tuple #[.agg #[.slice none 0 0], .int .i64 0]) (by simp [results, Tryz.results6, go_sem, hres]) rfl ?_
        exact RetMC.bad (by rw [HV.out]; rfl) (by rw [HV.out]) (by rw [HV.out]) Hb0.out B3.out (by rw [HZ.out, ← Hbe.out]; omega)
      · rw [decide_eq_false (show ¬ n1 = 0 by omega)]
        go_wp2_with fail
        refine (isZeroL_any A2 n2 c2 _ (by omega)).mono ?_
        rintro e w4 ⟨rfl, hb4⟩
        have B4 := Lib.hid (B3.out.trans (hb4.mono B3.out.size)); clear hb4
        obtain ⟨k1, k2, k3, f3, _⟩ := F0.out.below B4.out
        rcases Nat.eq_zero_or_pos n2 with hz2 | hz2
        · rw [decide_eq_true hz2]
          have HV := Lib.hid (mulO_zero HR1.out.symm HR2.out.symm (by rw [HE2.out, decide_eq_true hz2]; simp))
          clear hz2
          have hres := cell_set (v := .slice none 0 0) k3
          go_wp2_with fail
          refine bodyPost_ret (v := .tuple #[.agg #[.slice none 0 0], .int .i64 0]) (by simp [results, Tryz.results6, go_sem, hres]) rfl ?_
          exact RetMC.bad (by rw [HV.out]; rfl) (by rw [HV.out]) (by rw [HV.out]) Hb0.out B4.out (by rw [HZ.out, ← Hbe.out]; omega)
        · rw [decide_eq_false (show ¬ n2 = 0 by omega)]
          have HN : Hid ((xss.isEmpty || yss.isEmpty) = false) := Lib.hid (by rw [HE1.out, HE2.out]; simp; omega)
          have HB := Lib.hid (mulO_lim HR1.out.symm HR2.out.symm HN.out)
          have HG := Lib.hid (mulO_ok HR1.out.symm HR2.out.symm HN.out)
          have Hm1 := Lib.hid (isLB_mul HR1.out.symm HR2.out.symm)
          have Hm2 := Lib.hid (form_mul HR1.out.symm HR2.out.symm)
          have Hm3 := Lib.hid (form_mul_len HR1.out.symm HR2.out.symm)
          have hh1 := isLB_head HR1.out.symm
          have hh2 := isLB_head HR2.out.symm
          have hn1 := isLB_len HR1.out.symm
          have hn2 := isLB_len HR2.out.symm
          rw [HL1.out] at hn1
          rw [HL2.out] at hn2
          have HSx := fun (W : World) (Bx : Below w0.heap.size w0 W) => Lib.hid (sizeL_any A1 n1 c1 _ xss W (H1.out.below Bx) Bx.size hz1 HX1.out)
          have HSy := fun (W : World) (Bx : Below w0.heap.size w0 W) => Lib.hid (sizeL_any A2 n2 c2 _ yss W (H2.out.below Bx) Bx.size hz2 HX2.out)
          unfold RetSz at HSx HSy
          obtain ⟨v1, hv1⟩ : ∃ v, v = (xss.headD []).length := ⟨_, rfl⟩
          obtain ⟨v2, hv2⟩ : ∃ v, v = (yss.headD []).length := ⟨_, rfl⟩
          obtain ⟨u1, hu1⟩ : ∃ u, u = psT 0 (xss.headD []) := ⟨_, rfl⟩
          obtain ⟨u2, hu2⟩ : ∃ u, u = psT 0 (yss.headD []) := ⟨_, rfl⟩
          rw [← hv1, ← hu1] at HSx hh1
          rw [← hv2, ← hu2] at HSy hh2
          rw [← hv1, ← hu1, ← hv2, ← hu2] at HB HG Hm1 Hm2 Hm3
          clear hv1 hv2 hu1 hu2
          obtain ⟨hh1, hh3, hh4⟩ := hh1
          obtain ⟨hh2, hh5, hh6⟩ := hh2
          go_wp2_with fail
          refine ((HSx _ B4.out).out).mono ?_
          rintro e w5 ⟨rfl, hb5⟩
          have B5 := Lib.hid (B4.out.trans (hb5.mono B4.out.size)); clear hb5
          obtain ⟨k1, k2, k3, f3, _⟩ := F0.out.below B5.out
          go_wp2_with fail
          refine ((HSy _ B5.out).out).mono ?_
          rintro e w6 ⟨rfl, hb6⟩
          have B6 := Lib.hid (B5.out.trans (hb6.mono B5.out.size)); clear hb6
          obtain ⟨k1, k2, k3, f3, _⟩ := F0.out.below B6.out
          clear HSx HSy
          by_cases hlen : v1 + v2 ≤ 7
          · go_wp2_with fail
            refine (factor_any _ _).mono ?_
            rintro e w7 ⟨rfl, rfl⟩
            by_cases hsum : u1 + u2 ≤ 11
            · have hin : inB (u1 + u2) 0 11 = true := by simp [inB]; omega
              rw [hin]
              have HV := Lib.hid (HG.out ⟨hlen, hsum⟩)
              have Hm3 := Lib.hid (Hm3.out hlen hsum)
              have Hpo := Lib.hid (prods_okW (Hm2.out hlen hsum))
              have Hfx := Lib.hid (fun x hx => (formL_okW (isLB_okW HR1.out.symm) x hx).1)
              have Hfy := Lib.hid (fun x hx => (formL_okW (isLB_okW HR2.out.symm) x hx).1)
              have HFP : Hid (formL (prods (formL xss) (formL yss)) = formL (prods xss yss)) := Lib.hid (form_prods (Hm1.out hlen hsum) (fun y hy => (isLB_okW HR2.out.symm y hy).2.1))
              have HFb := Lib.hid (formL_bounds Hpo.out)
              have Hba := formL_bounds (isLB_okW HR1.out.symm)
              have Hbb := formL_bounds (isLB_okW HR2.out.symm)
              have HFa := fun (W : World) (hB : Below w0.heap.size w0 W) => Lib.hid (lamForm_any A1 n1 c1 _ xss W (H1.out.below hB) hB.size (by omega) (isLB_okW HR1.out.symm))
              have HFc := fun (W : World) (hB : Below w0.heap.size w0 W) => Lib.hid (lamForm_any A2 n2 c2 _ yss W (H2.out.below hB) hB.size (by omega) (isLB_okW HR2.out.symm))
              rw [← HFP.out] at HV
              clear HFP HB HG Hm1 Hm2 hin
              obtain ⟨fa, hfa⟩ : ∃ f, f = formL xss := ⟨_, rfl⟩
              obtain ⟨fb, hfb⟩ : ∃ f, f = formL yss := ⟨_, rfl⟩
              rw [← hfa] at HFa Hba Hfx Hm3 Hpo HFb HV
              rw [← hfb] at HFc Hbb Hfy Hm3 Hpo HFb HV
              clear hfa hfb
              obtain ⟨la, hla⟩ : ∃ l, l = fa.length := ⟨_, rfl⟩
              obtain ⟨lb, hlb⟩ : ∃ l, l = fb.length := ⟨_, rfl⟩
              have Hm3 := Hm3.out
              rw [prods_length] at Hm3
              rw [← hla] at HFa Hba Hm3
              rw [← hlb] at HFc Hbb Hm3
              have HLa := Lib.hid hla
              have HLb := Lib.hid hlb
              have Hba := Hba.1
              have Hbb := Hbb.1
              obtain ⟨fp, hfp⟩ : ∃ f, f = prods fa fb := ⟨_, rfl⟩
              have HP := fun (W : World) (A B : Option Addr) (c d : Nat) (ha : RdL W W.heap.size A la c fa) (hb : RdL W W.heap.size B lb d fb) => Lib.hid (products_any A B la c lb d _ _ fa fb W ha hb (Nat.le_refl _) (Nat.le_refl _) (by omega) (by omega) (by omega) Hfx.out Hfy.out)
              have HPl := Lib.hid (prods_length fa fb)
              rw [← hfp] at HP Hpo HFb HV HPl
              clear hfp
              obtain ⟨lp, hlp⟩ : ∃ l, l = fp.length := ⟨_, rfl⟩
              rw [← hlp] at HP HPl
              have hlpb : lp ≤ 75582 := by rw [HPl.out, ← HLa.out, ← HLb.out]; exact Hm3
              have HQ := fun (W : World) (A : Option Addr) (c : Nat) (ha : RdL W W.heap.size A lp c fp) => Lib.hid (lamForm_any A lp c _ fp W ha (Nat.le_refl _) (by omega) Hpo.out)
              clear hla hlb hlp Hm3 HPl
              obtain ⟨fq, hfq⟩ : ∃ f, f = formL fp := ⟨_, rfl⟩
              rw [← hfq] at HQ HFb HV
              clear hfq
              obtain ⟨lq, hlq⟩ : ∃ l, l = fq.length := ⟨_, rfl⟩
              rw [← hlq] at HQ HFb
              have HLq := Lib.hid hlq
              have hlqb := HFb.out.1
              clear hlq
              have Bd := Lib.hid (show Below w0.heap.size w0 w7.drew from below_drewN B6.out 1)
              go_wp2_with fail
              go_region_held3 (fun w' => w'.cell? ⟨b, 0, none⟩ = some (.slice A1 n1 c1) ∧ w'.cell? ⟨b + 1, 0, none⟩ = some (.slice A2 n2 c2)) (first | exact ⟨k1, k2⟩ | exact ⟨ka1, ka2⟩ | exact ⟨kb1, kb2⟩ | exact ⟨kc1, kc2⟩ | exact ⟨kd1, kd2⟩ | exact ⟨(World.cell?_setCell_far _ _ _ _ (by simp; omega)).trans kd1, (World.cell?_setCell_far _ _ _ _ (by simp)).trans kd2⟩)
                (first
                  | (go_at_call_of 29 A1
                     refine (HFa _ Bd.out).out.mono ?_
                     rintro e w8 ⟨A5, c5, rfl, ho5, hb5⟩
                     have B8 := Lib.hid (Bd.out.trans (hb5.mono Bd.out.size))
                     have R5 := Lib.hid ho5.rd
                     obtain ⟨ka1, ka2, _⟩ := F0.out.below B8.out
                     clear ho5 hb5)
                  | (go_at_call_of 29 A2
                     refine (HFc _ B8.out).out.mono ?_
                     rintro e w9 ⟨A6, c6, rfl, ho6, hb6⟩
                     have B9 := Lib.hid (B8.out.trans (hb6.mono B8.out.size))
                     have R6 := Lib.hid ho6.rd
                     have R55 := Lib.hid ((R5.out.below hb6).mono hb6.size)
                     obtain ⟨kb1, kb2, _⟩ := F0.out.below B9.out
                     clear ho6 hb6)
                  | (go_at_call 30
                     refine (HP _ _ _ _ _ R55.out R6.out).out.mono ?_
                     rintro e w10 ⟨A7, c7, rfl, ho7, hb7⟩
                     have B10 := Lib.hid (B9.out.trans (hb7.mono B9.out.size))
                     have R7 := Lib.hid ho7.rd
                     obtain ⟨kc1, kc2, _⟩ := F0.out.below B10.out
                     clear ho7 hb7)
                  | (go_at_call_of 29 A7
                     refine (HQ _ _ _ R7.out).out.mono ?_
                     rintro e w11 ⟨A8, c8, rfl, ho8, hb8⟩
                     have B11 := Lib.hid (B10.out.trans (hb8.mono B10.out.size))
                     have O8 := Lib.hid (ho8.mono B10.out.size (Nat.le_refl _))
                     obtain ⟨kd1, kd2, kd3, fd3, _⟩ := F0.out.below B11.out
                     clear ho8 hb8))
              have hres := cell_set (v := .slice A8 lq c8) kd3
              have M8 := Lib.hid (show OwnM w11 w0.heap.size w11.heap.size A8 lq c8 fq from ⟨O8.out, O8.out.lt⟩)
              go_wp2_with fail
              refine bodyPost_ret (v := .tuple #[.agg #[.slice A8 lq c8], .int .i64 0]) (by simp [results, Tryz.results6, go_sem, hres]) rfl ?_
              exact RetMC.mk (by rw [HV.out]; exact HLq.out) (by rw [HV.out]) (by rw [HV.out]) Hb0.out B11.out (by rw [HZ.out, ← Hbe.out]; omega) M8.out (Nat.le_refl _)
            · have hin : inB (u1 + u2) 0 11 = false := by simp [inB]; omega
              rw [hin]
              have HV := Lib.hid (HB.out (fun h => hsum h.2))
              have hres := cell_set (v := .slice none 0 0) k3
              clear hin
              go_wp2_with fail
              refine bodyPost_ret (v := .tuple #[.agg #[.slice none 0 0], .int .i64 3]) (by simp [results, Tryz.results6, go_sem, hres]) rfl ?_
              exact RetMC.bad (by rw [HV.out]; rfl) (by rw [HV.out]) (by rw [HV.out]) Hb0.out B6.out (by rw [HZ.out, ← Hbe.out]; omega)
          · have HV := Lib.hid (HB.out (fun h => hlen h.1))
            have hres := cell_set (v := .slice none 0 0) k3
            go_wp2_with fail
            refine bodyPost_ret (v := .tuple #[.agg #[.slice none 0 0], .int .i64 3]) (by simp [results, Tryz.results6, go_sem, hres]) rfl ?_
            exact RetMC.bad (by rw [HV.out]; rfl) (by rw [HV.out]) (by rw [HV.out]) Hb0.out B6.out (by rw [HZ.out, ← Hbe.out]; omega)

set_option maxRecDepth 100000 in
set_option maxHeartbeats 1000000 in
theorem sMultiplyLambda (A1 A2 : Option Addr) (n1 c1 n2 c2 : Nat) (xss yss : List (List Int)) (w : World) (h1 : RdL w w.heap.size A1 n1 c1 xss) (h2 : RdL w w.heap.size A2 n2 c2 yss) (hn1 : n1 ≤ 2000000) (hn2 : n2 ≤ 2000000) (ht1 : totalL xss ≤ 2000000) (ht2 : totalL yss ≤ 2000000) :
    Calls Tryz.prog 7 #[.agg #[.slice A1 n1 c1], .agg #[.slice A2 n2 c2]] w (RetMC (mulO xss yss).2.length (mulO xss yss).2 (mulO xss yss).1 w) := by
  obtain ⟨w0, b, hw0, hbe, hb0, hz0, hF⟩ := alloc3 w (.slice A1 n1 c1) (.slice A2 n2 c2) (.slice none 0 0) 26 26 26
  have HE1 := Lib.hid (emp_of h1.len)
  have HE2 := Lib.hid (emp_of h2.len)
  have HX1 := Lib.hid (fun (x : List Int) (hx : x ∈ xss) => Nat.le_trans (len_le_tot hx) ht1)
  have HX2 := Lib.hid (fun (x : List Int) (hx : x ∈ yss) => Nat.le_trans (len_le_tot hx) ht2)
  have HL1 := Lib.hid h1.len
  have HL2 := Lib.hid h2.len
  have H1 := Lib.hid ((h1.below hb0).mono hb0.size); clear h1
  have H2 := Lib.hid ((h2.below hb0).mono hb0.size); clear h2
  have Hw := Lib.hid hw0; clear hw0
  have Hbe := Lib.hid hbe; clear hbe
  have Hb0 := Lib.hid hb0; clear hb0
  have HZ := Lib.hid hz0; clear hz0
  have F0 := Lib.hid hF; clear hF
  have B0 := Lib.hid (Below.refl w0.heap.size w0)
  obtain ⟨r1, hr1⟩ : ∃ r, r = isLB xss := ⟨_, rfl⟩
  have HR1 := Lib.hid hr1; clear hr1
  obtain ⟨r2, hr2⟩ : ∃ r, r = isLB yss := ⟨_, rfl⟩
  have HR2 := Lib.hid hr2; clear hr2
  go_enter Tryz.func7, Tryz.ntmps7
  go_wp2_with fail
  rw [← Hw.out, ← Hbe.out]
  obtain ⟨k1, k2, k3, f3, _⟩ := F0.out
  refine (l16Is_any A1 n1 c1 _ xss _ (H1.out.below B0.out) (by omega) (by omega)).mono ?_
  rintro e w1 ⟨rfl, q1, hq1⟩
  have hb1 := below_drewN (Below.refl w0.heap.size w0) q1
  rw [← hq1] at hb1
  clear hq1
  have B1 := Lib.hid (B0.out.trans (hb1.mono B0.out.size)); clear hb1
  obtain ⟨k1, k2, k3, f3, _⟩ := F0.out.below B1.out
  rw [← HR1.out]
  cases r1
  · have HV := Lib.hid (mulO_bad1 (b := yss) HR1.out.symm)
    have hres := cell_set (v := .slice none 0 0) k3
    go_wp2_with fail
    refine bodyPost_ret (v := .tuple #[.agg #[.slice none 0 0], .int .i64 1]) (by simp [results, Tryz.results7, go_sem, hres]) rfl ?_
    exact RetMC.bad (by rw [HV.out]; rfl) (by rw [HV.out]) (by rw [HV.out]) Hb0.out B1.out (by rw [HZ.out, ← Hbe.out]; omega)
  · go_wp2_with fail
    refine (l16Is_any A2 n2 c2 _ yss _ (H2.out.below B1.out) (by omega) (by omega)).mono ?_
    rintro e w2 ⟨rfl, q2, hq2⟩
    have hb2 := below_drewN (Below.refl w1.heap.size w1) q2
    rw [← hq2] at hb2
    clear hq2
    have B2 := Lib.hid (B1.out.trans (hb2.mono B1.out.size)); clear hb2
    obtain ⟨k1, k2, k3, f3, _⟩ := F0.out.below B2.out
    rw [← HR2.out]
    cases r2
    · have HV := Lib.hid (mulO_bad2 (a := xss) HR2.out.symm)
      have hres := cell_set (v := .slice none 0 0) k3
      go_wp2_with fail
      refine bodyPost_ret (v := .tuple #[.agg #[.slice none 0 0], .int .i64 1]) (by simp [results, Tryz.results7, go_sem, hres]) rfl ?_
      exact RetMC.bad (by rw [HV.out]; rfl) (by rw [HV.out]) (by rw [HV.out]) Hb0.out B2.out (by rw [HZ.out, ← Hbe.out]; omega)
    · clear k1 k2 k3 f3
      obtain ⟨k1, k2, k3, f3, _⟩ := F0.out.below B2.out
      have hn1 := isLB_len HR1.out.symm
      have hn2 := isLB_len HR2.out.symm
      rw [HL1.out] at hn1
      rw [HL2.out] at hn2
      rcases Nat.eq_zero_or_pos n1 with rfl | hz1
      · have HV := Lib.hid (mulO_zero HR1.out.symm HR2.out.symm (by rw [HE1.out]; rfl))
        have hres := cell_set (v := .slice none 0 0) k3
        go_wp2_with fail
        refine bodyPost_ret (v := .tuple #[.agg #[.slice none 0 0], .int .i64 0]) (by simp [results, Tryz.results7, go_sem, hres]) rfl ?_
        exact RetMC.bad (by rw [HV.out]; rfl) (by rw [HV.out]) (by rw [HV.out]) Hb0.out B2.out (by rw [HZ.out, ← Hbe.out]; omega)
      · have hp1 : ((n1 : Int) == 0) = false := by simp; omega
        rcases Nat.eq_zero_or_pos n2 with rfl | hz2
        · have HV := Lib.hid (mulO_zero HR1.out.symm HR2.out.symm (by rw [HE2.out]; simp))
          have hres := cell_set (v := .slice none 0 0) k3
          go_wp2_with fail
          refine bodyPost_ret (v := .tuple #[.agg #[.slice none 0 0], .int .i64 0]) (by simp [results, Tryz.results7, go_sem, hres]) rfl ?_
          exact RetMC.bad (by rw [HV.out]; rfl) (by rw [HV.out]) (by rw [HV.out]) Hb0.out B2.out (by rw [HZ.out, ← Hbe.out]; omega)
        · have hp2 : ((n2 : Int) == 0) = false := by simp; omega
          have HN : Hid ((xss.isEmpty || yss.isEmpty) = false) := Lib.hid (by rw [HE1.out, HE2.out]; simp; omega)
          have HB := Lib.hid (mulO_lim HR1.out.symm HR2.out.symm HN.out)
          have HG := Lib.hid (mulO_ok HR1.out.symm HR2.out.symm HN.out)
          have Hm1 := Lib.hid (isLB_mul HR1.out.symm HR2.out.symm)
          have hh1 := isLB_head HR1.out.symm
          have hh2 := isLB_head HR2.out.symm
          obtain ⟨ad3, A3, n3, c3, x0, rfl, _, hx0, hc3, hr3⟩ := (H1.out.below B2.out).at_ hz1
          obtain ⟨ad4, A4, n4, c4, y0, rfl, _, hy0, hc4, hr4⟩ := (H2.out.below B2.out).at_ hz2
          have hh3 : xss.headD [] = x0 := by
            have := hx0.out
            cases xss with
            | nil => simp at this
            | cons y ys => simpa using this
          have hh4 : yss.headD [] = y0 := by
            have := hy0.out
            cases yss with
            | nil => simp at this
            | cons y ys => simpa using this
          rw [hh3, hh4, hr3.len, hr4.len] at HB HG Hm1
          rw [hh3, hr3.len] at hh1
          rw [hh4, hr4.len] at hh2
          have hc33 : w2.cell? ad3 = some (.slice A3 n3 c3) := by simpa [Addr.add] using hc3
          have hc44 : w2.cell? ad4 = some (.slice A4 n4 c4) := by simpa [Addr.add] using hc4
          have Hs3 := fun W : Nat => Lib.hid (show Calls Tryz.prog 32 #[.slice A3 n3 c3] (w2.drewN W) (fun e w'' => e = .returned (.int .i64 (psT 0 x0)) ∧ ∃ m, w'' = (w2.drewN W).drewN m) from (stem_any A3 n3 c3 _ x0 (w2.drewN W) (hr3.drewN W) (by omega)).mono fun e w' h => ⟨h.1, 0, h.2⟩)
          have Hs4 := fun W : Nat => Lib.hid (show Calls Tryz.prog 32 #[.slice A4 n4 c4] (w2.drewN W) (fun e w'' => e = .returned (.int .i64 (psT 0 y0)) ∧ ∃ m, w'' = (w2.drewN W).drewN m) from (stem_any A4 n4 c4 _ y0 (w2.drewN W) (hr4.drewN W) (by omega)).mono fun e w' h => ⟨h.1, 0, h.2⟩)
          obtain ⟨u1, hu1⟩ : ∃ u, u = psT 0 x0 := ⟨_, rfl⟩
          obtain ⟨u2, hu2⟩ : ∃ u, u = psT 0 y0 := ⟨_, rfl⟩
          rw [← hu1] at hh1 Hs3 HB HG Hm1
          rw [← hu2] at hh2 Hs4 HB HG Hm1
          obtain ⟨hg1, hg3, hg4⟩ := hh1
          obtain ⟨hg2, hg5, hg6⟩ := hh2
          have hq1 : (0 : Int) < (n1 : Int) := by omega
          have hq2 : (0 : Int) < (n2 : Int) := by omega
          clear hc3 hc4 hr3 hr4 hh3 hh4 hx0 hy0 hu1 hu2
          by_cases hlen : n3 + n4 ≤ 7
          · have hd : decide ((7 : Int) < (n3 : Int) + (n4 : Int)) = false := by simp; omega
            by_cases hst : u1 + u2 ≤ 11
            · have hd2 : decide ((11 : Int) < u1 + u2) = false := by simp; omega
              have HV := Lib.hid (HG.out ⟨hlen, hst⟩)
              have Hm := Lib.hid (Hm1.out hlen hst)
              have HFb := Lib.hid (formL_bounds (prods_okW Hm.out))
              clear HB HG Hm1
              go_wp2_with fail
              go_quiet (first | (go_at_call_of 32 A3; first | exact Calls.quiet_of ((Hs3 _).out) | exact quiet_add ((Hs3 _).out)) | (go_at_call_of 32 A4; first | exact Calls.quiet_of ((Hs4 _).out) | exact quiet_add ((Hs4 _).out)))
              rename_i nq
              clear k1 k2 k3 f3 Hs3 Hs4 hc33 hc44
              have B3 := Lib.hid (below_drewN B2.out nq)
              obtain ⟨k1, k2, k3, f3, _⟩ := F0.out.below B3.out
              go_wp2_with fail
              have hpl := Lib.hid (show (oddL (prods xss yss)).length ≤ 75582 from asc_len (oddL_asc _) fun z hz => prods_okW Hm.out z (oddL_mem hz))
              have hRd := fun (W : World) (A : Option Addr) (c : Nat) (h : RdL W W.heap.size A (oddL (prods xss yss)).length c (oddL (prods xss yss))) => Lib.hid (reduce_any A _ c _ _ W h (Nat.le_refl _) (oddL_asc _) (fun z hz => prods_okW Hm.out z (oddL_mem hz)))
              have HFO : Hid (formL (oddL (prods xss yss)) = formL (prods xss yss)) := Lib.hid (formL_odd _)
              rw [HFO.out] at hRd
              unfold RetRed at hRd
              obtain ⟨y, hy⟩ : ∃ y, y = formL (prods xss yss) := ⟨_, rfl⟩
              rw [← hy] at hRd HV HFb
              clear hy HFO
              obtain ⟨l, hl⟩ : ∃ l, l = y.length := ⟨_, rfl⟩
              have HL := Lib.hid hl
              rw [← hl] at hRd HFb
              clear hl
              have hlb := HFb.out.1
              refine (times_any (some ad3) (some ad4) n1 c1 n2 c2 _ _ xss yss _ (H1.out.below B3.out) (H2.out.below B3.out) B3.out.size B3.out.size (by omega) (by omega) Hm.out (fun x hx => (isLB_okW HR1.out.symm x hx).1) (fun x hx => (isLB_okW HR2.out.symm x hx).1)).mono ?_
              rintro e w4 ⟨A5, c5, rfl, ho5, hb5⟩
              have B4 := Lib.hid (B3.out.trans (hb5.mono B3.out.size))
              have O5 := Lib.hid (ho5.mono B3.out.size (Nat.le_refl _))
              have R5 := Lib.hid ho5.rd
              clear ho5 hb5
              obtain ⟨k1, k2, k3, f3, _⟩ := F0.out.below B4.out
              obtain ⟨p, hp⟩ : ∃ p, p = oddL (prods xss yss) := ⟨_, rfl⟩
              rw [← hp] at O5 R5 hRd hpl ⊢
              clear hp
              obtain ⟨lp, hlp⟩ : ∃ l, l = p.length := ⟨_, rfl⟩
              have HLp := Lib.hid hlp
              rw [← hlp] at O5 R5 hRd hpl ⊢
              have hlpb := hpl.out
              clear hlp
              go_wp2_with fail
              refine ((hRd _ _ _ R5.out).out).mono ?_
              rintro e w5 ⟨A6, c6, rfl, hr6, ho6, hb6⟩
              have B5 := Lib.hid (B4.out.trans (hb6.mono B4.out.size))
              have M6 : Hid (OwnM w5 w0.heap.size w5.heap.size A6 l c6 y) := Lib.hid (by
                rcases ho6 with ho6 | ⟨rfl, rfl, rfl, rfl⟩
                · have := ho6.mono B4.out.size (Nat.le_refl _)
                  exact ⟨this, this.lt⟩
                · have := (O5.out.below hb6).mono (Nat.le_refl _) hb6.size
                  exact ⟨this, this.lt⟩)
              clear ho6 hb6 hr6
              obtain ⟨k1, k2, k3, f3, _⟩ := F0.out.below B5.out
              have hres := cell_set (v := .slice A6 l c6) k3
              go_wp2_with fail
              refine bodyPost_ret (v := .tuple #[.agg #[.slice A6 l c6], .int .i64 0]) (by simp [results, Tryz.results7, go_sem, hres]) rfl ?_
              exact RetMC.mk (by rw [HV.out]; exact HL.out) (by rw [HV.out]) (by rw [HV.out]) Hb0.out B5.out (by rw [HZ.out, ← Hbe.out]; omega) M6.out (Nat.le_refl _)
            · have hd2 : decide ((11 : Int) < u1 + u2) = true := by simp; omega
              have HV := Lib.hid (HB.out (fun h => hst h.2))
              clear HB HG Hm1
              go_wp2_with fail
              go_quiet (first | (go_at_call_of 32 A3; first | exact Calls.quiet_of ((Hs3 _).out) | exact quiet_add ((Hs3 _).out)) | (go_at_call_of 32 A4; first | exact Calls.quiet_of ((Hs4 _).out) | exact quiet_add ((Hs4 _).out)))
              rename_i nq
              clear k1 k2 k3 f3 Hs3 Hs4 hc33 hc44
              have B3 := Lib.hid (below_drewN B2.out nq)
              obtain ⟨k1, k2, k3, f3, _⟩ := F0.out.below B3.out
              have hres := cell_set (v := .slice none 0 0) k3
              go_wp2_with fail
              refine bodyPost_ret (v := .tuple #[.agg #[.slice none 0 0], .int .i64 3]) (by simp [results, Tryz.results7, go_sem, hres]) rfl ?_
              exact RetMC.bad (by rw [HV.out]; rfl) (by rw [HV.out]) (by rw [HV.out]) Hb0.out B3.out (by rw [HZ.out, ← Hbe.out]; omega)
          · have hd : decide ((7 : Int) < (n3 : Int) + (n4 : Int)) = true := by simp; omega
            have HV := Lib.hid (HB.out (fun h => hlen h.1))
            clear HB HG Hm1
            go_wp2_with fail
            go_quiet (fail)
            rename_i nq
            clear k1 k2 k3 f3 Hs3 Hs4 hc33 hc44
            have B3 := Lib.hid (below_drewN B2.out nq)
            obtain ⟨k1, k2, k3, f3, _⟩ := F0.out.below B3.out
            have hres := cell_set (v := .slice none 0 0) k3
            go_wp2_with fail
            refine bodyPost_ret (v := .tuple #[.agg #[.slice none 0 0], .int .i64 3]) (by simp [results, Tryz.results7, go_sem, hres]) rfl ?_
            exact RetMC.bad (by rw [HV.out]; rfl) (by rw [HV.out]) (by rw [HV.out]) Hb0.out B3.out (by rw [HZ.out, ← Hbe.out]; omega)
end Go.Proofs.YtgmbbpaokcjnhaaGreatDoor

/- slices.Grow of nil, slices.Concat of three lists of integers. -/
namespace Go.Proofs.YtgmbbpaokcjnhaaGreatDoor
open Go.RowKit
set_option linter.unusedVariables false

set_option maxRecDepth 100000 in
theorem grow_any (n : Nat) (w : World) (hn : 1 ≤ n) (hb : n ≤ 1000000000) :
    Calls Tryz.prog 88 #[.slice none 0 0, .int .i64 n] w (RetO 0 [] w) := by
  obtain ⟨i, z, hi, hz, hsz, hby, hzs⟩ := eltI.info
  have happ := Lib.run_append_nil_zeros (P := Tryz.prog) w 35 3 35 2 i z .i64 .i64 Tryz.underlying35 Tryz.underlying3 hi hz n (by omega) (by omega) (by omega) (by rw [hby]; omega)
  obtain ⟨cap2, hcap⟩ : ∃ c, c = grownCap w n 0 2 := ⟨_, rfl⟩
  have hcapge : n ≤ cap2 := by rw [hcap]; exact grownCap_ge w _ 0 _
  have hcaple : cap2 ≤ maxLen := by rw [hcap]; exact grownCap_le_maxLen w _ 0 _ (by unfold maxLen; omega)
  rw [← hcap] at happ
  obtain ⟨Z, hZ⟩ : ∃ Z, Z = (Builtin.zeroCells z.cells n ++ Builtin.zeroCells z.cells (cap2 - n)) := ⟨_, rfl⟩
  have hZs : Z.size = cap2 := by rw [hZ]; simp [size_zeroCells, hzs]; omega
  rw [← hZ] at happ
  clear hcap hZ hi hz hsz hby hzs
  have Happ := Lib.hid happ; clear happ
  have hm : (cap2 : Int) ≤ 9223372036854775807 := by unfold maxLen at hcaple; omega
  have HO : Hid (OwnS (w.drew.alloc (.cells Z 2)) w.heap.size (some ⟨w.heap.size, 0, none⟩) 0 cap2 []) := Lib.hid
    ⟨rfl, by simp, .inr ⟨w.heap.size, cap2, Z, rfl, Nat.le_refl _, heap_alloc_new w.drew _, Nat.zero_le _, hcaple, by omega, by simp⟩⟩
  have HB : Hid (Below w.heap.size w (w.drew.alloc (.cells Z 2))) := Lib.hid (Below.alloc (below_drewN (Below.refl _ _) 1) (Nat.le_refl _) _)
  go_enter Tryz.func88, Tryz.ntmps88
  go_wp2_with (at_builtin; refine Lib.wpList_append_run _ rfl _ _ _ _ rfl _ _ rfl rfl _ _ Happ.out ?_)
  go_ret
  exact ⟨_, _, rfl, HO.out, HB.out⟩

theorem totalL_succ {xss : List (List Int)} {k : Nat} {x : List Int} (h : xss[k]? = some x) : totalL (xss.take (k + 1)) = totalL (xss.take k) + x.length := by
  rw [List.take_add_one, h]
  simp [totalL]
theorem totalL_take (xss : List (List Int)) (k : Nat) : totalL (xss.take k) ≤ totalL xss := by
  conv => rhs; rw [← List.take_append_drop k xss]
  unfold totalL
  rw [List.map_append, List.sum_append]
  omega
theorem flatten_succ {xss : List (List Int)} {k : Nat} {x : List Int} (h : xss[k]? = some x) : (xss.take (k + 1)).flatten = (xss.take k).flatten ++ x := by
  rw [List.take_add_one, h]
  simp

theorem concat_any (A : Option Addr) (n c B : Nat) (xss : List (List Int)) (w : World) (h : RdL w B A n c xss) (hB : B ≤ w.heap.size) (hn : n ≤ 1000000) (ht : totalL xss ≤ 1000000000) (hp : 1 ≤ totalL xss) :
    Calls Tryz.prog 72 #[.slice A n c] w (RetO (totalL xss) xss.flatten w) := by
  obtain ⟨V, hV⟩ : ∃ V, V = w.heap.size := ⟨_, rfl⟩
  have HVe := Lib.hid hV
  have H := Lib.hid (show RdL w V A n c xss from h.mono (by rw [hV]; exact hB))
  have HL := Lib.hid h.len
  clear h hV
  obtain ⟨T, hT⟩ : ∃ T, T = totalL xss := ⟨_, rfl⟩
  have HT := Lib.hid hT
  rw [← hT] at ht hp ⊢
  clear hT
  go_enter Tryz.func72, Tryz.ntmps72
  go_wp2_with fail
  go_loopw [3, 11] (fun s i wr => ∃ (k t : Nat), k ≤ n ∧ i = .int .i64 k ∧ s = .int .i64 t ∧ Hid (t = totalL (xss.take k)) ∧ wr = w) (fun _ i _ => n - (intOf i).toNat)
  case atStart => exact ⟨0, 0, Nat.zero_le _, rfl, rfl, Lib.hid (by simp [totalL]), rfl⟩
  case round =>
    obtain ⟨k, t, hk, rfl, rfl, HA, hwr⟩ := hrel
    subst hwr
    by_cases hlt : k < n
    · obtain ⟨ad, A3, n3, c3, x, rfl, hbk, hx, hc, hr⟩ := H.out.at_ hlt
      have hs := totalL_succ hx.out
      rw [← HA.out, hr.len] at hs
      have hle := totalL_take xss (k + 1)
      rw [hs, ← HT.out] at hle
      have HS := Lib.hid hs.symm
      clear hs hr
      go_wp2_with fail
      go_roundw
      case rel => exact ⟨k + 1, t + n3, by omega, by go_num, by go_num, HS, trivial⟩
      case measure => simp [intOf]; omega
    · have htT : t = T := by rw [HA.out, HT.out, List.take_of_length_le (by rw [HL.out]; omega)]
      subst htT
      go_wp2_with fail
      refine (grow_any t _ hp ht).mono ?_
      rintro e w1 ⟨A1, c1, rfl, ho, hb⟩
      have HS1 := Lib.hid (show StS wr V w1 A1 0 c1 [] from ⟨by rw [HVe.out]; exact ho, by rw [HVe.out]; exact hb, by rw [HVe.out]; exact hb.size⟩)
      clear ho hb
      go_wp2_with fail
      go_loopw [6, 27] (fun o i wz => ∃ (k l c' : Nat) (A' : Option Addr), k ≤ n ∧ i = .int .i64 k ∧ o = .slice A' l c' ∧ Hid (l = totalL (xss.take k)) ∧ Hid (StS wr V wz A' l c' (xss.take k).flatten)) (fun _ i _ => n - (intOf i).toNat)
      case atStart => exact ⟨0, 0, c1, A1, Nat.zero_le _, rfl, rfl, Lib.hid (by simp [totalL]), HS1⟩
      case round =>
        clear HS1
        obtain ⟨k, l, c', A', hk, rfl, rfl, HA2, HS⟩ := hrel
        by_cases hlt : k < n
        · obtain ⟨ad, A3, n3, c3, x, rfl, hbk, hx, hc, hr⟩ := (H.out.below HS.out.bel).at_ hlt
          have hs := totalL_succ hx.out
          rw [← HA2.out, hr.len] at hs
          have hle := totalL_take xss (k + 1)
          rw [hs, ← HT.out] at hle
          have HS3 := Lib.hid hs.symm
          have R3 := Lib.hid hr
          clear hs hr
          go_wp2_with (at_builtin; refine wpList_joinI rfl (.tmp 31) (.tmp 32) rfl rfl rfl HS.out R3.out (by omega) ?_)
          intro A6 c6 w6 hs6 _
          rw [← flatten_succ hx.out] at hs6
          have HS6 := Lib.hid hs6; clear hs6
          go_wp2_with fail
          go_roundw
          case rel => exact ⟨k + 1, l + n3, c6, A6, by omega, by go_num, rfl, HS3, HS6⟩
          case measure => simp [intOf]; omega
        · obtain rfl : k = n := by omega
          have hlT : l = t := by rw [HA2.out, HT.out, List.take_of_length_le (by rw [HL.out]; exact Nat.le_refl _)]
          have HF : Hid ((xss.take k).flatten = xss.flatten) := Lib.hid (by rw [List.take_of_length_le (by rw [HL.out]; exact Nat.le_refl _)])
          have h8 := HS.out
          rw [HF.out, HVe.out, hlT] at h8
          have H8 := Lib.hid h8
          clear h8
          subst hlT
          go_wp2_with fail
          go_ret
          exact RetO.mk2 rfl rfl H8.out
end Go.Proofs.YtgmbbpaokcjnhaaGreatDoor

/- Plain: the differential of the lambda algebra. -/
namespace Go.Proofs.YtgmbbpaokcjnhaaGreatDoor
open Go.RowKit
set_option linter.unusedVariables false

def genC (n : Int) (j : Nat) : Bool := parB (n - (j + 1)) (j + 1)
/-- the words of the differential of a generator, the first m places looked at -/
def genTo (n : Int) (m : Nat) : List (List Int) := ((List.range m).filter (genC n)).map fun (j : Nat) => [n - (j + 1), (j : Int)]
/-- the number of places of a generator -/
def genM (n : Int) : Nat := n.toNat / 2
def genW (n : Int) : List (List Int) := genTo n (genM n)
theorem genTo_yes {n : Int} {m : Nat} (h : genC n m = true) : genTo n (m + 1) = genTo n m ++ [[n - (m + 1), (m : Int)]] := by
  simp [genTo, List.range_succ, List.filter_append, h]
theorem genTo_no {n : Int} {m : Nat} (h : genC n m = false) : genTo n (m + 1) = genTo n m := by
  simp [genTo, List.range_succ, List.filter_append, h]
theorem genTo_len (n : Int) (m : Nat) : (genTo n m).length ≤ m := by
  rw [genTo, List.length_map]
  exact Nat.le_trans (List.length_filter_le _ _) (by rw [List.length_range]; exact Nat.le_refl _)
theorem genTo_mem {n : Int} {m : Nat} {l : List Int} (h : l ∈ genTo n m) (hm : m ≤ genM n) (hn : 0 ≤ n) : l.length = 2 ∧ nonN l ∧ sumZ l = n - 1 := by
  obtain ⟨j, hj, rfl⟩ := List.mem_map.1 h
  have h1 := List.mem_range.1 (List.mem_filter.1 hj).1
  unfold genM at hm
  refine ⟨rfl, ?_, by simp [sumZ]; omega⟩
  intro z hz
  simp only [List.mem_cons, List.not_mem_nil, or_false] at hz
  omega
theorem genW_mem {n : Int} {l : List Int} (h : l ∈ genW n) (hn : 0 ≤ n) : l.length = 2 ∧ nonN l ∧ sumZ l = n - 1 := genTo_mem h (Nat.le_refl _) hn

/-- a list of words in the place k of a word -/
def putAt (x : List Int) (k : Nat) (L : List (List Int)) : List (List Int) := L.flatMap fun l => [x.take k ++ l ++ x.drop (k + 1)]
theorem putAt_append (x : List Int) (k : Nat) (L M : List (List Int)) : putAt x k (L ++ M) = putAt x k L ++ putAt x k M := by simp [putAt]
theorem putAt_one (x : List Int) (k : Nat) (l : List Int) : putAt x k [l] = [x.take k ++ l ++ x.drop (k + 1)] := by simp [putAt]
theorem putAt_len (x : List Int) (k : Nat) (L : List (List Int)) : (putAt x k L).length = L.length := by
  unfold putAt
  induction L with
  | nil => rfl
  | cons l L ih => rw [List.flatMap_cons, List.length_append, ih]; simp; omega
def dAt (x : List Int) (k : Nat) : List (List Int) := putAt x k (genW (x[k]?.getD 0))
def dTo (x : List Int) (m : Nat) : List (List Int) := (List.range m).flatMap (dAt x)
def dWord (x : List Int) : List (List Int) := dTo x x.length
def dAll (s : List (List Int)) : List (List Int) := s.flatMap dWord
theorem dTo_succ {x : List Int} {k : Nat} {n : Int} (h : x[k]? = some n) : dTo x (k + 1) = dTo x k ++ putAt x k (genW n) := by
  simp [dTo, List.range_succ, dAt, h]
theorem dAll_succ {s : List (List Int)} {k : Nat} {x : List Int} (h : s[k]? = some x) : dAll (s.take (k + 1)) = dAll (s.take k) ++ dTo x x.length := by
  rw [List.take_add_one, h]
  simp [dAll, dWord]
theorem sumZ_at : ∀ {x : List Int} {k : Nat} {n : Int}, x[k]? = some n → sumZ (x.take k) + n + sumZ (x.drop (k + 1)) = sumZ x
  | [], k, n, h => by simp at h
  | a :: r, 0, n, h => by simp at h; subst h; simp [sumZ]
  | a :: r, k + 1, n, h => by
    have := sumZ_at (x := r) (k := k) (n := n) (by simpa using h)
    simp only [List.take_succ_cons, List.drop_succ_cons, sumZ]
    omega
/-- what a place of a word gives is a word -/
theorem put_okW {x : List Int} {k : Nat} {n : Int} (h : x[k]? = some n) (hx : okW x) (hl : x.length ≤ 6) {l : List Int} (h1 : l.length = 2) (h2 : nonN l) (h3 : sumZ l = n - 1) : okW (x.take k ++ l ++ x.drop (k + 1)) := by
  have hk := (List.getElem?_eq_some_iff.1 h).1
  have hs := sumZ_at h
  refine ⟨?_, ?_, ?_⟩
  · simp only [List.length_append, List.length_take, List.length_drop]; omega
  · exact nonN_mk (nonN_mk (fun z hz => hx.2.1 z (List.mem_of_mem_take hz)) h2) (fun z hz => hx.2.1 z (List.mem_of_mem_drop hz))
  · rw [sumZ_append, sumZ_append]
    have := hx.2.2
    omega
theorem at_nonN {x : List Int} {k : Nat} {n : Int} (h : x[k]? = some n) (hx : okW x) : 0 ≤ n ∧ n ≤ 11 := by
  have h0 := hx.2.1 n (List.mem_of_getElem? h)
  have hs := sumZ_at h
  have h1 := sumZ_nonneg (w := x.take k) fun z hz => hx.2.1 z (List.mem_of_mem_take hz)
  have h2 := sumZ_nonneg (w := x.drop (k + 1)) fun z hz => hx.2.1 z (List.mem_of_mem_drop hz)
  have := hx.2.2
  omega
theorem putAt_okW {x : List Int} {k : Nat} {n : Int} (h : x[k]? = some n) (hx : okW x) (hl : x.length ≤ 6) : ∀ z ∈ putAt x k (genW n), okW z := by
  intro z hz
  obtain ⟨l, hl2, hz⟩ := List.mem_flatMap.1 hz
  obtain ⟨h1, h2, h3⟩ := genW_mem hl2 (at_nonN h hx).1
  rw [List.mem_singleton.1 hz]
  exact put_okW h hx hl h1 h2 h3
theorem dTo_okW {x : List Int} (hx : okW x) (hl : x.length ≤ 6) {m : Nat} (hm : m ≤ x.length) : ∀ z ∈ dTo x m, okW z := by
  induction m with
  | zero => intro z hz; simp [dTo] at hz
  | succ m ih =>
    obtain ⟨n, hn⟩ : ∃ n, x[m]? = some n := ⟨_, List.getElem?_eq_getElem (by omega)⟩
    rw [dTo_succ hn]
    intro z hz
    rcases List.mem_append.1 hz with hz | hz
    · exact ih (by omega) z hz
    · exact putAt_okW hn hx hl z hz
theorem dTo_len {x : List Int} (hx : okW x) {m : Nat} (hm : m ≤ x.length) : (dTo x m).length ≤ m * 5 := by
  induction m with
  | zero => simp [dTo]
  | succ m ih =>
    obtain ⟨n, hn⟩ : ∃ n, x[m]? = some n := ⟨_, List.getElem?_eq_getElem (by omega)⟩
    rw [dTo_succ hn, List.length_append, putAt_len]
    have h1 := ih (by omega)
    have h2 := genTo_len n (genM n)
    have h3 := at_nonN hn hx
    unfold genW genM at *
    omega
theorem dAll_okW {s : List (List Int)} (hs : ∀ x ∈ s, okW x ∧ x.length ≤ 6) : ∀ z ∈ dAll s, okW z := by
  intro z hz
  obtain ⟨x, hx, hz⟩ := List.mem_flatMap.1 hz
  exact dTo_okW (hs x hx).1 (hs x hx).2 (Nat.le_refl _) z hz
theorem dAll_len {s : List (List Int)} (hs : ∀ x ∈ s, okW x ∧ x.length ≤ 6) : (dAll s).length ≤ s.length * 30 := by
  induction s with
  | nil => simp [dAll]
  | cons x s ih =>
    have h1 := ih fun y hy => hs y (List.mem_cons_of_mem _ hy)
    have h2 := dTo_len (hs x (by simp)).1 (Nat.le_refl _)
    have h3 := (hs x (by simp)).2
    rw [dAll, List.flatMap_cons, List.length_append, List.length_cons, dWord]
    rw [dAll] at h1
    omega

def difO (a : List (List Int)) : Int × List (List Int) :=
  if isLB a then if !a.isEmpty && decide ((a.headD []).length = 7) then (3, []) else (0, formL (dAll a)) else (1, [])
theorem difO_bad {a : List (List Int)} (h : isLB a = false) : difO a = (1, []) := by simp [difO, h]
theorem difO_lim {a : List (List Int)} (h : isLB a = true) (h2 : a.isEmpty = false) (h3 : (a.headD []).length = 7) : difO a = (3, []) := by simp only [difO, h, h2, h3]; rfl
theorem difO_ok {a : List (List Int)} (h : isLB a = true) (h2 : a.isEmpty = true ∨ (a.headD []).length ≠ 7) : difO a = (0, formL (dAll a)) := by
  unfold difO
  rw [if_pos h, if_neg]
  rcases h2 with h2 | h2
  · simp [h2]
  · rw [decide_eq_false h2]; simp
theorem isLB_dif {a : List (List Int)} (h : isLB a = true) (h2 : a.isEmpty = true ∨ (a.headD []).length ≠ 7) : ∀ x ∈ a, okW x ∧ x.length ≤ 6 := by
  intro x hx
  obtain ⟨h3, h4, _⟩ := isLB_all h x hx
  rcases h2 with h2 | h2
  · rw [List.isEmpty_iff.1 h2] at hx; cases hx
  · exact ⟨h3, by have := h3.1; omega⟩
theorem difO_bounds (a : List (List Int)) : (difO a).2.length ≤ 75582 ∧ totalL (difO a).2 ≤ 529074 := by
  unfold difO
  split
  · rename_i h
    split
    · simp [totalL]
    · rename_i h2
      refine formL_bounds (dAll_okW (isLB_dif h ?_))
      cases he : a.isEmpty
      · right; simpa [he] using h2
      · exact .inl rfl
  · simp [totalL]
end Go.Proofs.YtgmbbpaokcjnhaaGreatDoor

/- The differential on both sides. -/
namespace Go.Proofs.YtgmbbpaokcjnhaaGreatDoor
open Go.RowKit
set_option linter.unusedVariables false

theorem two_own {w : World} {a b : Int} : OwnS (w.alloc (.cells #[.int .i64 a, .int .i64 b] 2)) w.heap.size (some ⟨w.heap.size, 0, none⟩) 2 2 [a, b] :=
  ⟨rfl, by simp, .inr ⟨w.heap.size, 2, _, rfl, Nat.le_refl _, heap_alloc_new w _, Nat.le_refl _, by unfold maxLen; omega, by simp, by simp⟩⟩

theorem gen_okW {n : Int} (hn : 0 ≤ n) (h11 : n ≤ 11) {m : Nat} (hm : m ≤ genM n) : ∀ z ∈ genTo n m, okW z := by
  intro z hz
  obtain ⟨h1, h2, h3⟩ := genTo_mem hz hm hn
  exact ⟨by omega, h2, by omega⟩

set_option maxHeartbeats 1000000 in
theorem generator_any (n : Int) (w : World) (hn : 0 ≤ n) (h11 : n ≤ 11) :
    Calls Tryz.prog 73 #[.int .i64 n] w (RetL (oddL (genW n)).length (oddL (genW n)) w) := by
  have hst := StL.start (Below.refl w.heap.size w) (Nat.le_refl _)
  obtain ⟨V, hV⟩ : ∃ V, V = w.heap.size := ⟨_, rfl⟩
  rw [← hV] at hst
  have HVe := Lib.hid hV; clear hV
  have HS := Lib.hid hst.here; clear hst
  obtain ⟨M, hM⟩ : ∃ M, M = genM n := ⟨_, rfl⟩
  have hMn : 2 * (M : Int) ≤ n ∧ n < 2 * (M : Int) + 2 := by rw [hM]; unfold genM; omega
  have HW : Hid (genW n = genTo n M) := Lib.hid (by rw [hM]; rfl)
  have HO := Lib.hid (gen_okW hn h11 (m := M) (by omega))
  have HK := fun (m : Nat) (hm : m ≤ M) => Lib.hid (gen_okW hn h11 (m := m) (by omega))
  rw [HW.out]
  clear hM
  go_enter Tryz.func73, Tryz.ntmps73
  go_wp2_with fail
  rw [← HVe.out]
  go_loopw [3, 4] (fun o i wr => ∃ (m l' c' : Nat) (A' : Option Addr) (acc : List (List Int)), m ≤ M ∧ i = .int .i64 ((m : Int) + 1) ∧ o = .slice A' l' c' ∧ Hid (SumInv (genTo n m) acc) ∧ Hid (StL w V wr wr.heap.size A' l' c' acc)) (fun _ i _ => M + 1 - (intOf i).toNat)
  case atStart => exact ⟨0, 0, 0, _, [], Nat.zero_le _, rfl, rfl, Lib.hid SumInv.start, by rw [HVe.out]; rw [HVe.out] at HS; exact HS⟩
  case round =>
    clear HS
    obtain ⟨m, l', c', A', acc, hm, rfl, rfl, HA, HS⟩ := hrel
    by_cases hlt : m < M
    · have hle : decide (2 * ((m : Int) + 1) ≤ n) = true := by simp; omega
      have Hp := fun W : World => Lib.hid (parity_any (n - ((m : Int) + 1)) ((m : Int) + 1) W (by omega) (by omega) (by omega))
      cases hc : genC n m
      · have hc2 : parB (n - ((m : Int) + 1)) ((m : Int) + 1) = false := hc
        have HG := Lib.hid (genTo_no hc)
        rw [hc2] at Hp
        clear hc hc2
        go_wp2_with fail
        refine ((Hp _).out).mono ?_
        rintro e w1 ⟨rfl, rfl⟩
        go_wp2_with fail
        go_roundw
        case rel => exact ⟨m + 1, l', c', A', acc, by omega, by go_num, rfl, Lib.hid (by rw [HG.out]; exact HA.out), HS⟩
        case measure => simp [intOf]; omega
      · have hc2 : parB (n - ((m : Int) + 1)) ((m : Int) + 1) = true := hc
        have HG := Lib.hid (genTo_yes hc)
        rw [hc2] at Hp
        clear hc hc2
        obtain ⟨z, hz⟩ : ∃ z : List Int, z = [n - ((m : Int) + 1), (m : Int)] := ⟨_, rfl⟩
        have HZ := Lib.hid hz
        rw [← hz] at HG
        have HA3 := Lib.hid (HA.out.step (z := z) (by
          have := HK (m + 1) hlt
          exact this.out z (by rw [HG.out]; simp)))
        rw [← HG.out] at HA3
        have hl2 := HA.out.len
        rw [HS.out.own.len] at hl2
        have Hacc := Lib.hid HA.out.asc
        have Htot := Lib.hid HA.out.tot
        obtain ⟨M2, hM2⟩ : ∃ M2, M2 = oddL (acc ++ [z]) := ⟨_, rfl⟩
        rw [← hM2] at HA3
        obtain ⟨l3, hl3⟩ : ∃ l, l = M2.length := ⟨_, rfl⟩
        have hzl : z.length = 2 := by rw [hz]; rfl
        have Hsum := fun (W : World) (A c) (h1 : RdL W W.heap.size A' l' c' acc) (h2 : RdL W W.heap.size A 1 c [z]) => l01Sum_any A' A l' c' 1 c acc [z] W h1 h2 (by omega) (by omega) (by have := Htot.out; omega) (by simp [totalL]; omega) Hacc.out (by simp [Asc])
        rw [← hM2, ← hl3] at Hsum
        have Hsum := Lib.hid Hsum
        have hl3b : l3 ≤ 75582 := by rw [hl3]; exact HA3.out.len
        have hsub : (m : Int) + 1 - 1 = (m : Int) := by omega
        clear hM2 hl3 Hacc Htot hz
        go_wp2_with fail
        refine ((Hp _).out).mono ?_
        rintro e w1 ⟨rfl, rfl⟩
        go_wp2_with fail
        have h2 := rdL_one (two_own (w := w1) (a := n - ((m : Int) + 1)) (b := (m : Int))).rd (Nat.le_refl _)
        rw [show (w1.alloc (.cells #[.int .i64 (n - ((m : Int) + 1)), .int .i64 (m : Int)] 2)).heap.size = w1.heap.size + 1 from by simp, ← HZ.out] at h2
        have HX := Lib.hid (((Below.refl w1.heap.size w1).alloc (Nat.le_refl _) (.cells #[.int .i64 (n - ((m : Int) + 1)), .int .i64 (m : Int)] 2)).alloc (by simp) (.cells #[.slice (some ⟨w1.heap.size, 0, none⟩) 2 2] 35))
        refine (Hsum.out _ _ _ ((HS.out.rd.below HX.out).mono HX.out.size) h2).mono ?_
        rintro e w8 ⟨A8, c8, rfl, ho8, hb8⟩
        have HX8 := Lib.hid (Ext.trans HX.out hb8)
        have HO8 := Lib.hid (ho8.mono (B' := V) (Nat.le_trans HS.out.size HX.out.size) (Nat.le_refl _))
        have HS8 := Lib.hid (show StL w V w8 w8.heap.size A8 l3 c8 M2 from ⟨HO8.out, HS.out.bel.trans (HX8.out.mono HS.out.size), Nat.le_trans HS.out.size HX8.out.size, Nat.le_refl _⟩)
        clear ho8 hb8 h2
        go_wp2_with fail
        go_roundw
        case rel => exact ⟨m + 1, l3, c8, A8, M2, by omega, by go_num, rfl, HA3, HS8⟩
        case measure => simp [intOf]; omega
    · obtain rfl : m = M := by omega
      have hle : decide (2 * ((m : Int) + 1) ≤ n) = false := by simp; omega
      have HE := Lib.hid HA.out.eq
      go_wp2_with fail
      go_ret
      have h8 := HS.out
      rw [HVe.out] at h8
      exact RetL.mk (by rw [← HE.out, h8.own.len]) HE.out h8

theorem run_suf1 (A : Option Addr) (n c k m : Nat) (hm : m = k + 1) (hn : m ≤ n) (W : World) : (Instr.sliceAt 35 (.slice A n c) (some (.int .i64 ((k : Int) + 1))) Option.none Option.none).run Tryz.prog W = .ok (.slice (sufA A c m) (n - m) (c - m)) W := by
  subst hm
  have h : (k : Int) + 1 ≤ (n : Int) := by omega
  have h0 : (0 : Int) ≤ (k : Int) + 1 := by omega
  have e : ((k : Int) + 1).toNat = k + 1 := by omega
  simp only [sufA]
  cases A with
  | none => simp [go_sem, Tryz.underlying35, h, h0, e, sliced]
  | some ad =>
    by_cases hc : c = k + 1
    · simp [go_sem, Tryz.underlying35, h, h0, e, sliced, hc]
    · simp [go_sem, Tryz.underlying35, h, h0, e, sliced, hc]

/-- what stands in out: ascending words with the same sum -/
structure SumQ (L acc : List (List Int)) : Prop where
  asc : Asc acc
  ok : ∀ z ∈ acc, okW z
  same : SameSum acc L
theorem SumQ.len {L acc : List (List Int)} (h : SumQ L acc) : acc.length ≤ 75582 := asc_len h.asc h.ok
theorem SumQ.tot {L acc : List (List Int)} (h : SumQ L acc) : totalL acc ≤ 529074 := by
  have h1 := tot_le acc 7 fun z hz => (h.ok z hz).1
  have := h.len
  omega
theorem SumQ.start : SumQ [] [] := ⟨by simp [Asc], (fun z hz => by cases hz), SameSum.refl _⟩
theorem SumQ.step {L acc : List (List Int)} {z : List Int} (h : SumQ L acc) (hz : okW z) : SumQ (L ++ [z]) (oddL (acc ++ [z])) :=
  ⟨oddL_asc _, fun y hy => (List.mem_append.1 (oddL_mem hy)).elim (h.ok y) fun e => by rw [List.mem_singleton.1 e]; exact hz, (oddL_same _).trans (h.same.append (SameSum.refl _))⟩
theorem SumQ.congr {L M acc : List (List Int)} (h : SumQ L acc) (k : SameSum L M) : SumQ M acc := ⟨h.asc, h.ok, h.same.trans k⟩
theorem SumQ.form {L acc : List (List Int)} (h : SumQ L acc) : formL acc = formL L := oddL_congr (nfS_same h.same)
theorem putAt_same {x : List Int} {k : Nat} {L M : List (List Int)} (h : SameSum L M) : SameSum (putAt x k L) (putAt x k M) := h.flat _
theorem putAt_succ {x : List Int} {k : Nat} {L : List (List Int)} {j : Nat} {l : List Int} (h : L[j]? = some l) : putAt x k (L.take (j + 1)) = putAt x k (L.take j) ++ [x.take k ++ l ++ x.drop (k + 1)] := by
  rw [List.take_add_one, h]
  simp [putAt]
end Go.Proofs.YtgmbbpaokcjnhaaGreatDoor
