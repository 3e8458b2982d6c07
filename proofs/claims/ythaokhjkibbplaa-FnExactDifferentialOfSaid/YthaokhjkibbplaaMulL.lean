/- Products of words on both sides: impl.products, spec.l16Times. -/
import Derived.Test.YthaokhjkibbplaaLamM
import Derived.Test.YthaokhjkibbplaaFormL
namespace Go.Proofs.Ythaokhjkibbplaa
open Go.RowKit
set_option linter.unusedVariables false

theorem joinI_st (A1 A2 : Option Addr) (n1 c1 n2 c2 B1 B2 : Nat) (xs ys : List Int) (w : World) (h1 : RdS w B1 A1 n1 c1 xs) (h2 : RdS w B2 A2 n2 c2 ys) (hB1 : B1 ≤ w.heap.size) (hB2 : B2 ≤ w.heap.size) (hn1 : n1 ≤ 1000000000000) (hn2 : n2 ≤ 1000000000000) :
    Calls Try.prog 68 #[.slice A1 n1 c1, .slice A2 n2 c2] w (RetO (n1 + n2) (xs ++ ys) w) := by
  have H1 := Lib.hid h1; clear h1
  have H2 := Lib.hid h2; clear h2
  go_enter Try.func68, Try.ntmps68
  go_wp2_with fail
  refine (copyI_st A1 n1 c1 B1 xs _ H1.out hB1 hn1).mono ?_
  rintro e w1 ⟨A, c, rfl, ho, hb⟩
  have R2 := Lib.hid (H2.out.below (hb.mono hB2))
  have HS := Lib.hid (show StS w w.heap.size w1 A n1 c xs from ⟨ho, hb, hb.size⟩)
  clear ho hb
  go_wp2_with (at_builtin; refine wpList_joinI rfl (.tmp 6) (.tmp 7) rfl rfl rfl HS.out R2.out (by omega) ?_)
  intro A' c' w' hst hg
  have HS' := Lib.hid hst; clear hst hg
  go_wp2_with fail
  go_ret
  exact RetO.mk2 (by omega) rfl HS'.out

theorem prods_length (a b : List (List Int)) : (prods a b).length = a.length * b.length := by
  induction a with
  | nil => simp [prods]
  | cons x a ih =>
    rw [prods, List.flatMap_cons, List.length_append, flat_one, List.length_map, List.length_cons, Nat.add_mul, Nat.one_mul]
    rw [prods] at ih
    omega
theorem prods_succ {a b : List (List Int)} {k : Nat} {x : List Int} (h : a[k]? = some x) : prods (a.take (k + 1)) b = prods (a.take k) b ++ b.flatMap fun y => [x ++ y] := by
  rw [List.take_add_one, h]
  simp [prods]
theorem flat_succ {b : List (List Int)} {k : Nat} {x y : List Int} (h : b[k]? = some y) : ((b.take (k + 1)).flatMap fun y => [x ++ y]) = ((b.take k).flatMap fun y => [x ++ y]) ++ [x ++ y] := by
  rw [List.take_add_one, h]
  simp
theorem flat_len (b : List (List Int)) (x : List Int) (k : Nat) (h : k ≤ b.length) : ((b.take k).flatMap fun y => [x ++ y]).length = k := by
  rw [flat_one, List.length_map, List.length_take]
  omega

theorem products_any (A1 A2 : Option Addr) (n1 c1 n2 c2 B1 B2 : Nat) (xss yss : List (List Int)) (w : World) (h1 : RdL w B1 A1 n1 c1 xss) (h2 : RdL w B2 A2 n2 c2 yss) (hB1 : B1 ≤ w.heap.size) (hB2 : B2 ≤ w.heap.size) (hn1 : n1 ≤ 100000) (hn2 : n2 ≤ 100000) (hm : n1 * n2 ≤ 100000) (hx : ∀ x ∈ xss, x.length ≤ 7) (hy : ∀ x ∈ yss, x.length ≤ 7) :
    Calls Try.prog 45 #[.slice A1 n1 c1, .slice A2 n2 c2] w (RetL (prods xss yss).length (prods xss yss) w) := by
  have hst := StL.start (Below.refl w.heap.size w) (Nat.le_refl _)
  obtain ⟨V, hV⟩ : ∃ V, V = w.heap.size := ⟨_, rfl⟩
  rw [← hV] at hst
  have H1 := Lib.hid (h1.mono (show B1 ≤ V by rw [hV]; exact hB1))
  have H2 := Lib.hid (h2.mono (show B2 ≤ V by rw [hV]; exact hB2))
  have L1 := Lib.hid h1.len
  have L2 := Lib.hid h2.len
  clear h1 h2
  have X1 := Lib.hid hx
  have X2 := Lib.hid hy
  have HVe := Lib.hid hV; clear hV
  have HS := Lib.hid hst.here; clear hst hx hy
  have HM := Lib.hid hm; clear hm
  go_enter Try.func45, Try.ntmps45
  go_wp2_with fail
  rw [← HVe.out]
  go_loopw [5, 13] (fun o i wr => ∃ (k l' c' K : Nat) (A' : Option Addr) (acc : List (List Int)), k ≤ n1 ∧ i = .int .i64 k ∧ o = .slice A' l' c' ∧ Hid (acc.length = l') ∧ Hid (acc = prods (xss.take k) yss) ∧ Hid (StL w V wr K A' l' c' acc)) (fun _ i _ => n1 - (intOf i).toNat)
  case atStart => exact ⟨0, 0, 0, _, _, [], Nat.zero_le _, rfl, rfl, Lib.hid rfl, Lib.hid rfl, by rw [HVe.out]; rw [HVe.out] at HS; exact HS⟩
  case round =>
    clear HS
    obtain ⟨k, l', c', K, A', acc, hk, rfl, rfl, HL', HA, HS⟩ := hrel
    by_cases hlt : k < n1
    · obtain ⟨ad, A3, n3, c3, x, rfl, hbk, hx, hcw, hr⟩ := H1.out.at_ hlt
      have hc := (HS.out.bel.cell (p := ad.add k) (by rw [block_of_add]; exact hbk)).trans hcw
      clear hcw hbk
      have hn3 : n3 ≤ 7 := by rw [← hr.len]; exact X1.out x (List.mem_of_getElem? hx.out)
      have hlb : l' + n2 ≤ 100000 := by
        rw [← HL'.out, HA.out, prods_length, List.length_take, L1.out, L2.out, Nat.min_eq_left hk, ← Nat.succ_mul]
        exact Nat.le_trans (Nat.mul_le_mul_right _ hlt) HM.out
      have R3 := Lib.hid hr; clear hr
      go_wp2_with fail
      go_loopw [5, 19] (fun o i wr => ∃ (j l2 c2 K : Nat) (A2 : Option Addr) (acc2 : List (List Int)), j ≤ n2 ∧ i = .int .i64 j ∧ o = .slice A2 l2 c2 ∧ l2 = l' + j ∧ Hid (acc2 = acc ++ (yss.take j).flatMap fun y => [x ++ y]) ∧ Hid (StL w V wr K A2 l2 c2 acc2)) (fun _ i _ => n2 - (intOf i).toNat)
      case atStart => exact ⟨0, l', c', K, A', acc, Nat.zero_le _, rfl, rfl, rfl, Lib.hid (by simp), HS⟩
      case round =>
        clear HS
        obtain ⟨j, l2, c2', K2, A2', acc2, hj, rfl, rfl, rfl, HA2, HS⟩ := hrel
        by_cases hjl : j < n2
        · obtain ⟨ad4, A4, n4, c4, y, rfl, _, hy, hc4, hr4⟩ := (H2.out.below HS.out.bel).at_ hjl
          have hn4 : n4 ≤ 7 := by rw [← hr4.len]; exact X2.out y (List.mem_of_getElem? hy.out)
          have R4 := Lib.hid hr4; clear hr4
          go_wp2_with fail
          refine (joinI_st A3 A4 n3 c3 n4 c4 V V x y _ (R3.out.below HS.out.bel) R4.out HS.out.size HS.out.size (by omega) (by omega)).mono ?_
          rintro e w5 ⟨A5, c5, rfl, ho5, hb5⟩
          have N5 := Lib.hid (ho5.mono (B' := wr.heap.size) (Nat.le_refl _))
          have HS5 := Lib.hid (HS.out.here.call hb5)
          clear ho5 hb5
          go_wp2_with (at_builtin; refine wpList_pushL rfl (.tmp 23) (.tmp 27) rfl rfl rfl HS5.out N5.out (by omega) ?_)
          intro A6 c6 w6 hs6 _ _
          have HS6 := Lib.hid hs6; clear hs6
          have HA6 : Hid (acc2 ++ [x ++ y] = acc ++ (yss.take (j + 1)).flatMap fun y => [x ++ y]) := Lib.hid (by rw [flat_succ hy.out, HA2.out, List.append_assoc])
          go_wp2_with fail
          go_roundw
          case rel => exact ⟨j + 1, l' + (j + 1), c6, _, A6, _, by omega, by go_num, rfl, rfl, HA6, HS6⟩
          case measure => simp [intOf]; omega
        · obtain rfl : j = n2 := by omega
          have HA6 : Hid (acc2 = prods (xss.take (k + 1)) yss) := Lib.hid (by
            rw [prods_succ hx.out, HA2.out, ← HA.out, List.take_of_length_le (by rw [L2.out]; exact Nat.le_refl _)])
          have HL6 : Hid (acc2.length = l' + j) := Lib.hid HS.out.own.len
          go_wp2_with fail
          go_roundw
          case rel => exact ⟨k + 1, l' + j, c2', _, A2', _, by omega, by go_num, rfl, HL6, HA6, HS⟩
          case measure => simp [intOf]; omega
    · obtain rfl : k = n1 := by omega
      have HE : Hid (acc = prods xss yss) := Lib.hid (by rw [HA.out, List.take_of_length_le (by rw [L1.out]; exact Nat.le_refl _)])
      go_wp2_with fail
      go_ret
      have h8 := HS.out
      rw [HVe.out] at h8
      exact RetL.mk (by rw [← HE.out, HL'.out]) HE.out h8

/-- what stands in out while words are added: the words so far, modulo 2 -/
structure SumInv (L out : List (List Int)) : Prop where
  eq : out = oddL L
  ok : ∀ z ∈ L, okW z
theorem SumInv.asc {L out : List (List Int)} (h : SumInv L out) : Asc out := by rw [h.eq]; exact oddL_asc _
theorem SumInv.okO {L out : List (List Int)} (h : SumInv L out) : ∀ z ∈ out, okW z := by rw [h.eq]; exact fun z hz => h.ok z (oddL_mem hz)
theorem SumInv.len {L out : List (List Int)} (h : SumInv L out) : out.length ≤ 75582 := asc_len h.asc h.okO
theorem SumInv.tot {L out : List (List Int)} (h : SumInv L out) : totalL out ≤ 529074 := by
  have h1 := tot_le out 7 fun z hz => (h.okO z hz).1
  have := h.len
  omega
theorem SumInv.start : SumInv [] [] := ⟨rfl, fun z hz => by cases hz⟩
theorem SumInv.step {L out : List (List Int)} {z : List Int} (h : SumInv L out) (hz : okW z) : SumInv (L ++ [z]) (oddL (out ++ [z])) := by
  refine ⟨oddL_congr ?_, fun y hy => (List.mem_append.1 hy).elim (h.ok y) fun e => by rw [List.mem_singleton.1 e]; exact hz⟩
  rw [h.eq]
  exact (oddL_same _).append (SameSum.refl _)

def RetSum (L : List (List Int)) (w : World) (e : Ending) (w' : World) : Prop := RetL (oddL L).length (oddL L) w e w'

set_option maxRecDepth 100000 in
set_option maxHeartbeats 1000000 in
theorem times_any (A1 A2 : Option Addr) (n1 c1 n2 c2 B1 B2 : Nat) (xss yss : List (List Int)) (w : World) (h1 : RdL w B1 A1 n1 c1 xss) (h2 : RdL w B2 A2 n2 c2 yss) (hB1 : B1 ≤ w.heap.size) (hB2 : B2 ≤ w.heap.size) (hn1 : n1 ≤ 1000000000) (hn2 : n2 ≤ 1000000000) (hw : ∀ x ∈ xss, ∀ y ∈ yss, okW (x ++ y)) (hx : ∀ x ∈ xss, x.length ≤ 7) (hy : ∀ x ∈ yss, x.length ≤ 7) :
    Calls Try.prog 43 #[.slice A1 n1 c1, .slice A2 n2 c2] w (RetL (oddL (prods xss yss)).length (oddL (prods xss yss)) w) := by
  have hst := StL.start (Below.refl w.heap.size w) (Nat.le_refl _)
  obtain ⟨V, hV⟩ : ∃ V, V = w.heap.size := ⟨_, rfl⟩
  rw [← hV] at hst
  have H1 := Lib.hid (h1.mono (show B1 ≤ V by rw [hV]; exact hB1))
  have H2 := Lib.hid (h2.mono (show B2 ≤ V by rw [hV]; exact hB2))
  have L1 := Lib.hid h1.len
  have L2 := Lib.hid h2.len
  clear h1 h2
  have X1 := Lib.hid hx
  have X2 := Lib.hid hy
  have XW := Lib.hid hw
  have HVe := Lib.hid hV; clear hV
  have HS := Lib.hid hst.here; clear hst hx hy hw
  go_enter Try.func43, Try.ntmps43
  go_wp2_with fail
  rw [← HVe.out]
  go_loopw [5, 6] (fun o i wr => ∃ (k l' c' : Nat) (A' : Option Addr) (acc : List (List Int)), k ≤ n1 ∧ i = .int .i64 k ∧ o = .slice A' l' c' ∧ Hid (SumInv (prods (xss.take k) yss) acc) ∧ Hid (StL w V wr wr.heap.size A' l' c' acc)) (fun _ i _ => n1 - (intOf i).toNat)
  case atStart => exact ⟨0, 0, 0, _, [], Nat.zero_le _, rfl, rfl, Lib.hid SumInv.start, by rw [HVe.out]; rw [HVe.out] at HS; exact HS⟩
  case round =>
    clear HS
    obtain ⟨k, l', c', A', acc, hk, rfl, rfl, HA, HS⟩ := hrel
    by_cases hlt : k < n1
    · obtain ⟨ad, A3, n3, c3, x, rfl, hbk, hx, hcw, hr⟩ := H1.out.at_ hlt
      have hn3 : n3 ≤ 7 := by rw [← hr.len]; exact X1.out x (List.mem_of_getElem? hx.out)
      have R3 := Lib.hid hr; clear hr
      have hbx : (ad.add k).block < V := by rw [block_of_add]; exact hbk
      have Hcw := Lib.hid hcw
      clear hcw hbk
      go_wp2_with fail
      go_loopw [5, 7] (fun o i wr => ∃ (j l2 c2 : Nat) (A2 : Option Addr) (acc2 : List (List Int)), j ≤ n2 ∧ i = .int .i64 j ∧ o = .slice A2 l2 c2 ∧ Hid (SumInv (prods (xss.take k) yss ++ (yss.take j).flatMap fun y => [x ++ y]) acc2) ∧ Hid (StL w V wr wr.heap.size A2 l2 c2 acc2)) (fun _ i _ => n2 - (intOf i).toNat)
      case atStart => exact ⟨0, l', c', A', acc, Nat.zero_le _, rfl, rfl, Lib.hid (by simpa using HA.out), HS⟩
      case round =>
        clear HS HA
        obtain ⟨j, l2, c2', A2', acc2, hj, rfl, rfl, HA2, HS⟩ := hrel
        by_cases hjl : j < n2
        · obtain ⟨ad4, A4, n4, c4, y, rfl, hbk4, hy, hcw4, hr4⟩ := H2.out.at_ hjl
          have hn4 : n4 ≤ 7 := by rw [← hr4.len]; exact X2.out y (List.mem_of_getElem? hy.out)
          have hby : (ad4.add j).block < V := by rw [block_of_add]; exact hbk4
          have hc := (HS.out.bel.cell (p := ad.add k) hbx).trans Hcw.out
          have hcy := (HS.out.bel.cell (p := ad4.add j) hby).trans hcw4
          have Hcy := Lib.hid hcw4
          have R4 := Lib.hid hr4; clear hr4 hcw4 hbk4
          have Hok := Lib.hid (XW.out x (List.mem_of_getElem? hx.out) y (List.mem_of_getElem? hy.out))
          have hl2 := HA2.out.len
          rw [HS.out.own.len] at hl2
          have hzy : (ad4.add j).block < wr.heap.size := Nat.lt_of_lt_of_le hby HS.out.size
          obtain ⟨wz, hwz⟩ : ∃ W : World, W = wr := ⟨_, rfl⟩
          subst hwz
          have Ed := Lib.hid (Ext.drew (Ext.refl wz))
          have R3 := Lib.hid (R3.out.below HS.out.bel)
          have R4 := Lib.hid (R4.out.below HS.out.bel)
          have Hv := Lib.hid HS.out.size
          have Hacc := Lib.hid HA2.out.asc
          have Htot := Lib.hid HA2.out.tot
          have HA3 := Lib.hid (HA2.out.step Hok.out)
          obtain ⟨z, hz⟩ : ∃ z, z = x ++ y := ⟨_, rfl⟩
          have HZ := Lib.hid hz
          rw [← hz] at HA3
          have hzl : z.length ≤ 7 := by rw [hz]; exact Hok.out.1
          clear hz
          obtain ⟨M2, hM2⟩ : ∃ M2, M2 = oddL (acc2 ++ [z]) := ⟨_, rfl⟩
          rw [← hM2] at HA3
          obtain ⟨l3, hl3⟩ : ∃ l, l = M2.length := ⟨_, rfl⟩
          have Hl3 := Lib.hid hl3
          have Hsum := fun (W : World) (A c) (h1 : RdL W W.heap.size A2' l2 c2' acc2) (h2 : RdL W W.heap.size A 1 c [z]) => l01Sum_any A2' A l2 c2' 1 c acc2 [z] W h1 h2 (by omega) (by omega) (by have := Htot.out; omega) (by simp [totalL]; omega) Hacc.out (by simp [Asc])
          rw [← hM2, ← hl3] at Hsum
          have Hsum := Lib.hid Hsum
          have hl3b : l3 ≤ 75582 := by rw [hl3]; exact HA3.out.len
          clear hM2 hl3 Hacc Htot
          go_wp2_with fail
          go_region_held3 (fun w' => w'.cell? (ad.add k) = some (.slice A3 n3 c3) ∧ w'.cell? (ad4.add j) = some (.slice A4 n4 c4)) (first | exact ⟨hc, hcy⟩ | exact ⟨kc1, kcy1⟩ | exact ⟨kc2, kcy2⟩ | exact ⟨kc3, kcy3⟩ | exact ⟨kc4, kcy4⟩)
            (first
              | (go_at_call 58
                 refine (own_st A3 n3 c3 _ x _ (R3.out.below (Ed.out.mono Hv.out)) (by exact Hv.out) (by omega)).mono ?_
                 rintro e u1 ⟨A5, c5, rfl, ho5, hb5⟩
                 have kc1 := (hb5.cell (p := ad.add k) (Nat.lt_of_lt_of_le hbx Hv.out)).trans hc
                 have kcy1 := (hb5.cell (p := ad4.add j) (Nat.lt_of_lt_of_le hby Hv.out)).trans hcy
                 have HS5 := Lib.hid (show StS wz wz.heap.size u1 A5 n3 c5 x from ⟨ho5, Ext.trans Ed.out hb5, hb5.size⟩)
                 clear ho5 hb5)
              | ((refine step_joinI (by rfl) (.tmp 26) (.tmp 30) (by rfl) (by rfl) (by rfl) HS5.out (R4.out.below (HS5.out.bel.mono Hv.out)) (by omega) ?_
                  intro A6 c6 w6 hs6 hg6
                  have kc2 := (hs6.bel.cell (p := ad.add k) (Nat.lt_of_lt_of_le hbx Hv.out)).trans hc
                  have kcy2 := (hs6.bel.cell (p := ad4.add j) (Nat.lt_of_lt_of_le hby Hv.out)).trans hcy
                  have kc3 := (((Ext.alloc hs6.bel (.cells #[.slice A6 (n3 + n4) c6] 40)).cell (p := ad.add k) (Nat.lt_of_lt_of_le hbx Hv.out))).trans hc
                  have kcy3 := (((Ext.alloc hs6.bel (.cells #[.slice A6 (n3 + n4) c6] 40)).cell (p := ad4.add j) (Nat.lt_of_lt_of_le hby Hv.out))).trans hcy
                  have HS6 := Lib.hid hs6
                  rw [← HZ.out] at HS6
                  clear hs6 hg6))
              | (go_at_call 35
                 refine (Hsum.out _ _ _ (((HS.out.rd.below HS6.out.bel).mono HS6.out.bel.size).alloc _) (rdL_one HS6.out.own.rd (Nat.le_refl _))).mono ?_
                 rintro e w8 ⟨A8, c8, rfl, ho8, hb8⟩
                 have HX8 := Lib.hid (Ext.trans (Ext.alloc HS6.out.bel _) hb8)
                 have kc4 := (HX8.out.cell (p := ad.add k) (Nat.lt_of_lt_of_le hbx Hv.out)).trans hc
                 have kcy4 := (HX8.out.cell (p := ad4.add j) (Nat.lt_of_lt_of_le hby Hv.out)).trans hcy
                 have HO8 := Lib.hid (ho8.mono (Nat.le_trans Hv.out (Ext.alloc HS6.out.bel _).size) (Nat.le_refl _))
                 clear ho8 hb8))
          have HA4 : Hid (SumInv (prods (xss.take k) yss ++ (yss.take (j + 1)).flatMap fun y => [x ++ y]) M2) := Lib.hid (by
            rw [flat_succ hy.out, ← List.append_assoc, ← HZ.out]
            exact HA3.out)
          have HS8 := Lib.hid (show StL w V w8 w8.heap.size A8 l3 c8 M2 from ⟨HO8.out, HS.out.bel.trans (HX8.out.mono Hv.out), Nat.le_trans Hv.out HX8.out.size, Nat.le_refl _⟩)
          go_wp2_with fail
          go_roundw
          case rel => exact ⟨j + 1, l3, c8, A8, M2, by omega, by go_num, rfl, HA4, HS8⟩
          case measure => simp [intOf]; omega
        · obtain rfl : j = n2 := by omega
          have HA6 : Hid (SumInv (prods (xss.take (k + 1)) yss) acc2) := Lib.hid (by
            have := HA2.out
            rw [List.take_of_length_le (i := j) (l := yss) (by rw [L2.out]; exact Nat.le_refl _)] at this
            rw [prods_succ hx.out]
            exact this)
          go_wp2_with fail
          go_roundw
          case rel => exact ⟨k + 1, l2, c2', A2', acc2, by omega, by go_num, rfl, HA6, HS⟩
          case measure => simp [intOf]; omega
    · obtain rfl : k = n1 := by omega
      have HE : Hid (acc = oddL (prods xss yss)) := Lib.hid (by have := HA.out.eq; rw [List.take_of_length_le (by rw [L1.out]; exact Nat.le_refl _)] at this; exact this)
      go_wp2_with fail
      go_ret
      have h8 := HS.out
      rw [HVe.out] at h8
      exact RetL.mk (by rw [← HE.out, h8.own.len]) HE.out h8
end Go.Proofs.Ythaokhjkibbplaa
