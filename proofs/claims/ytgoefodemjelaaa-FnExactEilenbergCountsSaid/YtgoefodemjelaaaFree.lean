/- Numbers of admissible words by degree and excess: freeCounts (program), l18Free (reference). -/
import Derived.Test.YtgoefodemjelaaaAdm
import Derived.Test.YtgoefodemjelaaaExc
namespace Go.Proofs.Ytgoefodemjelaaa
open Go.RowKit
set_option linter.unusedVariables false

def excB (ex : Int) (r : List Int) : Bool := decide (excW r ≤ ex)
def cntW (ex : Int) (n : Nat) : Nat := ((aw 40 n n).filter (excB ex)).length
def freeAt (e : Nat) (ex : Int) (d m c : Nat) : List Int := (List.range (d + 1)).map (fun j => if j < m then (if e ≤ j then (cntW ex (j - e) : Int) else 0) else if j = m then (c : Int) else 0)
def freeL (e : Nat) (ex : Int) (d : Nat) : List Int := (List.range (d + 1)).map (fun j => if e ≤ j then (cntW ex (j - e) : Int) else 0)
theorem freeAt_length (e : Nat) (ex : Int) (d m c : Nat) : (freeAt e ex d m c).length = d + 1 := by simp [freeAt]
theorem freeL_length (e : Nat) (ex : Int) (d : Nat) : (freeL e ex d).length = d + 1 := by simp [freeL]
theorem freeAt_start (e : Nat) (ex : Int) (d : Nat) : freeAt e ex d e 0 = List.replicate (d + 1) 0 := by
  apply List.ext_getElem (by simp [freeAt])
  intro j h1 h2
  simp only [freeAt, List.getElem_map, List.getElem_range, List.getElem_replicate]
  split
  · rw [if_neg (by omega)]
  · split <;> rfl
theorem freeAt_get (e : Nat) (ex : Int) {d m : Nat} (c : Nat) (h : m ≤ d) : (freeAt e ex d m c)[m]? = some (c : Int) := by
  simp only [freeAt, List.getElem?_map, List.getElem?_range (show m < d + 1 by omega), Option.map_some]
  simp
theorem freeAt_inc (e : Nat) (ex : Int) {d m : Nat} (c : Nat) (h : m ≤ d) : (freeAt e ex d m c).set m ((c : Int) + 1) = freeAt e ex d m (c + 1) := by
  apply List.ext_getElem (by simp [freeAt])
  intro j h1 h2
  rw [List.getElem_set]
  split
  · subst j
    simp only [freeAt, List.getElem_map, List.getElem_range]
    simp
  · rename_i hne
    simp only [freeAt, List.getElem_map, List.getElem_range]
    have hne' : ¬ j = m := fun e => hne e.symm
    simp only [if_neg hne']
theorem freeAt_next (e : Nat) (ex : Int) {d m : Nat} (h : e ≤ m) : freeAt e ex d m (cntW ex (m - e)) = freeAt e ex d (m + 1) 0 := by
  apply List.ext_getElem (by simp [freeAt])
  intro j h1 h2
  simp only [freeAt, List.getElem_map, List.getElem_range]
  by_cases hj : j < m
  · rw [if_pos hj, if_pos (show j < m + 1 by omega)]
  · by_cases hjm : j = m
    · subst hjm
      simp [h]
    · rw [if_neg hj, if_neg hjm, if_neg (show ¬ j < m + 1 by omega)]
      split <;> rfl
theorem freeAt_end (e : Nat) (ex : Int) {d m c : Nat} (h : d < m) : freeAt e ex d m c = freeL e ex d := by
  apply List.ext_getElem (by simp [freeAt, freeL])
  intro j h1 h2
  simp only [freeAt, freeL, List.getElem_map, List.getElem_range]
  rw [freeAt_length] at h1
  rw [if_pos (by omega)]
theorem cntW_le (ex : Int) (n : Nat) (hn : n ≤ 40) : cntW ex n ≤ 1099511627776 :=
  Nat.le_trans (List.length_filter_le _ _) (Nat.le_trans (aw_length 40 n n) (Nat.le_trans (Nat.pow_le_pow_right (by omega) hn) (by decide)))
theorem freeL_mem (e : Nat) (ex : Int) (d : Nat) (hd : d ≤ 40) : ∀ x ∈ freeL e ex d, 0 ≤ x ∧ x ≤ 2000000000000 := by
  intro x hx
  simp only [freeL, List.mem_map, List.mem_range] at hx
  obtain ⟨j, hj, rfl⟩ := hx
  split
  · have := cntW_le ex (j - e) (by omega); omega
  · omega

theorem l03Basis_any (d : Int) (w : World) (h0 : 0 ≤ d) (h1 : d ≤ 40) :
    Calls Try.prog 74 #[.int .i64 d] w (RetL (aw 40 d.toNat d.toNat).length (aw 40 d.toNat d.toNat) w) := by
  have HO := Lib.hid (own_empty w w.heap.size (Nat.le_refl _))
  have HL : Hid (OwnL (w.alloc (.cells #[] 2)) w.heap.size w.heap.size none 0 0 []) := Lib.hid OwnL.nil
  have HB := Lib.hid ((Below.refl w.heap.size w).alloc (Nat.le_refl _) (.cells #[] 2))
  obtain ⟨ws, hws⟩ : ∃ ws, ws = aw 40 d.toNat d.toNat := ⟨_, rfl⟩
  obtain ⟨ln, hln⟩ : ∃ ln, ln = ws.length := ⟨_, rfl⟩
  have HW := Lib.hid hws
  rw [← hws, ← hln]
  have HLn := Lib.hid hln
  have hp := Lib.hid (show 2 ^ d.toNat ≤ 1099511627776 from Nat.le_trans (Nat.pow_le_pow_right (by omega) (show d.toNat ≤ 40 by omega)) (by decide))
  clear hws hln
  go_enter Try.func74, Try.ntmps74
  go_wp2_with fail
  refine (l03Words_any 40 d d _ none 0 0 0 0 w.heap.size w.heap.size [] [] _ (by omega) h0 h1 h0 (by omega) HO.out HL.out (Nat.le_refl _) (by simp) (by omega) (by have := hp.out; omega)).mono ?_
  rintro e w1 ⟨A1, c1, rfl, ho1, hg1, _⟩
  rw [← HW.out] at ho1 ⊢
  rw [← HLn.out] at ho1 ⊢
  have HO1 := Lib.hid ho1
  have HB1 := Lib.hid (HB.out.trans ((Below.refl w.heap.size _).grown hg1 (by simp) (by intro g hg; cases hg))); clear ho1 hg1
  go_wp2_with fail
  go_ret
  exact ⟨_, _, rfl, by simpa using HO1.out, HB1.out⟩

theorem filter_take_succ {ws : List (List Int)} {j : Nat} {r : List Int} {p : List Int → Bool} (hr : Hid (ws[j]? = some r)) : ((ws.take (j + 1)).filter p).length = ((ws.take j).filter p).length + (if p r = true then 1 else 0) := by
  rw [List.take_add_one, hr.out, List.filter_append, List.length_append]
  congr 1
  by_cases h : p r = true <;> simp [h]

theorem admW (q : Nat) (w : World) (h : q ≤ 40) : Calls Try.prog 76 #[.int .i64 q, .int .i64 q] w (RetL (aw 40 q q).length (aw 40 q q) w) := by
  have := admissibleWords_any 40 q q w (by omega) (by omega) (by omega) (by omega) (by omega)
  simpa only [Int.toNat_natCast] using this
theorem basW (q : Nat) (x : Int) (w : World) (h : q ≤ 40) (hx : x = q) : Calls Try.prog 74 #[.int .i64 x] w (RetL (aw 40 q q).length (aw 40 q q) w) := by
  subst hx
  have := l03Basis_any q w (by omega) (by omega)
  simpa only [Int.toNat_natCast] using this
theorem seq_q (e q : Nat) : ((e : Int) + (q : Int) - (e : Int)) = q := by omega
theorem aw40_le (q : Nat) (h : q ≤ 40) : (aw 40 q q).length ≤ 1099511627776 :=
  Nat.le_trans (aw_length 40 q q) (Nat.le_trans (Nat.pow_le_pow_right (by omega) h) (by decide))

theorem aw_len40 {q j : Nat} {r : List Int} (hq : q ≤ 40) (h : Hid ((aw 40 q q)[j]? = some r)) : r.length ≤ 40 :=
  Nat.le_trans (aw_each 40 q q r (List.mem_of_getElem? h.out)) hq

theorem freeCounts_any (e d : Nat) (ex : Int) (w : World) (he : e ≤ 40) (hd : d ≤ 40) :
    Calls Try.prog 66 #[.int .i64 e, .int .i64 ex, .int .i64 d] w (RetO (d + 1) (freeL e ex d) w) := by
  obtain ⟨i0, hi, hz0, hz1, hz2⟩ := info_parts Try.info_i64
  obtain ⟨R, hR⟩ : ∃ R, R = freeL e ex d := ⟨_, rfl⟩
  rw [← hR]
  have HR := Lib.hid hR
  clear hR
  obtain ⟨B, hB⟩ : ∃ B, B = w.heap.size := ⟨_, rfl⟩
  have hBge : B ≤ w.heap.size := by omega
  have HBe := Lib.hid hB; clear hB
  go_enter Try.func66, Try.ntmps66
  go_wp2_with (at_make; refine wpList_make_full _ rfl _ _ 22 rfl B 2 i0 (.int .i64 0) 1 Try.underlying22 hi hz0 hz1 .i64 .i64 _ _ (d+1) rfl rfl (by omega) (by omega) ?b2 ?b3 hBge ?_)
  case b2 => rw [hz2]; omega
  case b3 => unfold maxLen; omega
  intro w1 hown hgr
  have HB := Lib.hid (show Below B w w1 from (Below.refl _ _).grown hgr hBge (by simp))
  have ho := made_own hown
  rw [← freeAt_start e ex d] at ho
  have HO := Lib.hid ho
  obtain ⟨g, hg⟩ : ∃ g, g = w.heap.size := ⟨_, rfl⟩
  rw [← hg] at HO ⊢
  have HS := Lib.hid (show g < w1.heap.size by rw [hg]; have := ho.own.lt _ rfl; exact this.2)
  have HgB := Lib.hid (show B ≤ g by omega)
  clear hown hgr hg hBge hi hz0 hz1 hz2 i0 ho
  go_wp2_with fail
  go_loopw [8] (fun r wr => ∃ q : Nat, q ≤ 41 ∧ r = .int .i64 q ∧ OwnS wr B (some ⟨g, 0, none⟩) (d + 1) (d + 1) (freeAt e ex d (e + q) 0) ∧ Below B w wr ∧ Hid (g < wr.heap.size)) (fun r _ => 100 - (intOf r).toNat)
  case atStart => exact ⟨0, by omega, by go_num, HO.out, HB.out, HS⟩
  case round =>
    clear HO HB HS
    obtain ⟨q, hq41, rfl, HO, HB, HS⟩ := hrel
    have HO1 := Lib.hid HO; clear HO
    have HB1 := Lib.hid HB; clear HB
    by_cases hqd : e + q ≤ d
    · obtain ⟨ws, hws⟩ : ∃ ws, ws = aw 40 q q := ⟨_, rfl⟩
      have HW := Lib.hid hws
      have HCN := Lib.hid (show (ws.filter (excB ex)).length = cntW ex (e + q - e) by rw [hws, Nat.add_sub_cancel_left]; rfl)
      obtain ⟨ln, hln⟩ : ∃ ln, ln = ws.length := ⟨_, rfl⟩
      have HLn := Lib.hid hln
      have hlb : ln ≤ 1099511627776 := by rw [hln, hws]; exact aw40_le q (by omega)
      have HA := Lib.hid (fun w => admW q w (by omega))
      rw [← hws, ← hln] at HA
      clear hws hln
      go_wp2_with fail
      refine (HA.out wr).mono ?_
      rintro e1 w2 ⟨A1, c1, rfl, ho1, hb1⟩
      have HL := Lib.hid ho1
      have HO2 := Lib.hid (HO1.out.below hb1)
      have HB2 := Lib.hid (HB1.out.trans (hb1.mono (by have := HB1.out.size; have := HBe.out; omega)))
      obtain ⟨S0, hS0⟩ : ∃ S0, S0 = wr.heap.size := ⟨_, rfl⟩
      obtain ⟨K0, hK0⟩ : ∃ K0, K0 = w2.heap.size := ⟨_, rfl⟩
      have HgS := Lib.hid (show g < S0 by rw [hS0]; exact HS.out)
      rw [← hS0, ← hK0] at HL
      have HK := Lib.hid (show K0 ≤ w2.heap.size by omega)
      have HSK := Lib.hid (show S0 ≤ w2.heap.size by rw [hS0]; exact hb1.size)
      clear ho1 hb1 hS0 hK0 HO1 HB1 HS
      go_wp2_with fail
      go_loopw [25] (fun r wi => ∃ (j c : Nat), j ≤ ln ∧ r = .int .i64 j ∧ OwnS wi B (some ⟨g, 0, none⟩) (d + 1) (d + 1) (freeAt e ex d (e + q) c) ∧ Below B w wi ∧
        Hid (c = ((ws.take j).filter (excB ex)).length) ∧ Hid (OwnL wi S0 K0 A1 ln c1 ws) ∧ Hid (K0 ≤ wi.heap.size) ∧ Hid (S0 ≤ wi.heap.size)) (fun r _ => ln - (intOf r).toNat)
      case atStart => exact ⟨0, 0, by omega, by go_num, HO2.out, HB2.out, Lib.hid (by simp), HL, HK, HSK⟩
      case round =>
        clear HO2 HB2 HL HK HSK
        obtain ⟨j, c, hj, rfl, HO, HB, HC, HL, HK, HSK⟩ := hrel
        have HO1 := Lib.hid HO; clear HO
        have HB1 := Lib.hid HB; clear HB
        by_cases hjl : j < ln
        · obtain ⟨ad, A', n', c', r, rfl, hr, hc, hor, _⟩ := HL.out.at_ hjl
          have hcb : c ≤ 1099511627776 := by
            rw [HC.out]
            have := List.length_filter_le (excB ex) (ws.take j)
            rw [List.length_take] at this
            omega
          have hn' : n' ≤ 1000000000000 := by
            have := hor.len
            have := aw_len40 (q := q) (j := j) (r := r) (by omega) (by rw [← HW.out]; exact hr)
            omega
          have HE := Lib.hid (excess_any A' n' c' _ r _ hor.rd hn')
          clear hor
          by_cases hex : excW r ≤ ex
          · have HC2 : Hid (c + 1 = ((ws.take (j + 1)).filter (excB ex)).length) := Lib.hid (by rw [filter_take_succ hr, ← HC.out, if_pos (by simpa [excB] using hex)])
            go_wp2_with fail
            refine HE.out.mono ?_
            rintro e2 w3 ⟨rfl, k3, rfl⟩
            obtain ⟨g', x, hg', hBg, _, hx, hcx, hf, hset⟩ := (HO1.out.drewN k3).at_ (show e + q < d + 1 by omega)
            obtain rfl : g = g' := by simpa using hg'
            obtain rfl : x = (c : Int) := by
              have h1 := hx.out
              rw [freeAt_get e ex c (by omega)] at h1
              injection h1 with h1; exact h1.symm
            have HO2 := Lib.hid (hset (c + 1)).1
            rw [freeAt_inc e ex c (by omega)] at HO2
            have HL2 := Lib.hid ((HL.out.drewN k3).grown (hset (c + 1)).2 HK.out (fun g2 h2 => by injection h2 with h2; subst h2; exact .inr HgS.out))
            have HB2 := Lib.hid ((below_drewN HB1.out k3).setCell (p := ⟨g, e + q, none⟩) (u := .int .i64 (c + 1)) hBg)
            have hsz := (hset (c + 1)).2.size
            have HK2 := Lib.hid (Nat.le_trans HK.out hsz)
            have HSK2 := Lib.hid (Nat.le_trans HSK.out hsz)
            clear hset hg' HE HO1 HB1 HL hsz
            go_wp2_with fail
            go_roundw
            case rel => exact ⟨j + 1, c + 1, by omega, by go_num, HO2.out, HB2.out, HC2, HL2, HK2, HSK2⟩
            case measure => simp [intOf]; omega
          · have HC2 : Hid (c = ((ws.take (j + 1)).filter (excB ex)).length) := Lib.hid (by rw [filter_take_succ hr, ← HC.out, if_neg (by simpa [excB] using hex)]; rfl)
            go_wp2_with fail
            refine HE.out.mono ?_
            rintro e2 w3 ⟨rfl, k3, rfl⟩
            have HO2 := Lib.hid (HO1.out.drewN k3)
            have HL2 := Lib.hid (HL.out.drewN k3)
            have HB2 := Lib.hid (below_drewN HB1.out k3)
            clear HE HO1 HB1 HL
            go_wp2_with fail
            go_roundw
            case rel => exact ⟨j + 1, c, by omega, by go_num, HO2.out, HB2.out, HC2, HL2, HK, HSK⟩
            case measure => simp [intOf]; omega
        · have HX : Hid (freeAt e ex d (e + q) c = freeAt e ex d (e + (q + 1)) 0) := Lib.hid (by
            rw [HC.out, List.take_of_length_le (by rw [← HLn.out]; omega), HCN.out, freeAt_next e ex (by omega), Nat.add_assoc])
          rw [HX.out] at HO1
          have HgW := Lib.hid (Nat.lt_of_lt_of_le HgS.out HSK.out)
          go_wp2_with fail
          go_roundw
          case rel => exact ⟨q + 1, by omega, by go_num, HO1.out, HB1.out, HgW⟩
          case measure => simp [intOf]; omega
    · go_wp2_with fail
      go_ret
      have h1 := HO1.out
      rw [freeAt_end e ex (by omega), ← HR.out] at h1
      exact ⟨_, _, rfl, HBe.out ▸ h1, HBe.out ▸ HB1.out⟩
theorem l18Free_any (e d : Nat) (ex : Int) (w : World) (he : e ≤ 40) (hd : d ≤ 40) :
    Calls Try.prog 64 #[.int .i64 e, .int .i64 ex, .int .i64 d] w (RetO (d + 1) (freeL e ex d) w) := by
  obtain ⟨i0, hi, hz0, hz1, hz2⟩ := info_parts Try.info_i64
  obtain ⟨R, hR⟩ : ∃ R, R = freeL e ex d := ⟨_, rfl⟩
  rw [← hR]
  have HR := Lib.hid hR
  clear hR
  obtain ⟨B, hB⟩ : ∃ B, B = w.heap.size := ⟨_, rfl⟩
  have hBge : B ≤ w.heap.size := by omega
  have HBe := Lib.hid hB; clear hB
  go_enter Try.func64, Try.ntmps64
  go_wp2_with (at_make; refine wpList_make_full _ rfl _ _ 22 rfl B 2 i0 (.int .i64 0) 1 Try.underlying22 hi hz0 hz1 .i64 .i64 _ _ (d+1) rfl rfl (by omega) (by omega) ?b2 ?b3 hBge ?_)
  case b2 => rw [hz2]; omega
  case b3 => unfold maxLen; omega
  intro w1 hown hgr
  have HB := Lib.hid (show Below B w w1 from (Below.refl _ _).grown hgr hBge (by simp))
  have ho := made_own hown
  rw [← freeAt_start e ex d] at ho
  have HO := Lib.hid ho
  obtain ⟨g, hg⟩ : ∃ g, g = w.heap.size := ⟨_, rfl⟩
  rw [← hg] at HO ⊢
  have HS := Lib.hid (show g < w1.heap.size by rw [hg]; have := ho.own.lt _ rfl; exact this.2)
  have HgB := Lib.hid (show B ≤ g by omega)
  clear hown hgr hg hBge hi hz0 hz1 hz2 i0 ho
  go_wp2_with fail
  go_loopw [8] (fun r wr => ∃ q : Nat, q ≤ 41 ∧ r = .int .i64 (e + q : Int) ∧ OwnS wr B (some ⟨g, 0, none⟩) (d + 1) (d + 1) (freeAt e ex d (e + q) 0) ∧ Below B w wr ∧ Hid (g < wr.heap.size)) (fun r _ => 100 - (intOf r).toNat)
  case atStart => exact ⟨0, by omega, by go_num, HO.out, HB.out, HS⟩
  case round =>
    clear HO HB HS
    obtain ⟨q, hq41, rfl, HO, HB, HS⟩ := hrel
    have HO1 := Lib.hid HO; clear HO
    have HB1 := Lib.hid HB; clear HB
    by_cases hqd : e + q ≤ d
    · obtain ⟨ws, hws⟩ : ∃ ws, ws = aw 40 q q := ⟨_, rfl⟩
      have HW := Lib.hid hws
      have HCN := Lib.hid (show (ws.filter (excB ex)).length = cntW ex (e + q - e) by rw [hws, Nat.add_sub_cancel_left]; rfl)
      obtain ⟨ln, hln⟩ : ∃ ln, ln = ws.length := ⟨_, rfl⟩
      have HLn := Lib.hid hln
      have hlb : ln ≤ 1099511627776 := by rw [hln, hws]; exact aw40_le q (by omega)
      have HA := Lib.hid (fun w => basW q _ w (by omega) (seq_q e q))
      rw [← hws, ← hln] at HA
      clear hws hln
      go_wp2_with fail
      refine (HA.out wr).mono ?_
      rintro e1 w2 ⟨A1, c1, rfl, ho1, hb1⟩
      have HL := Lib.hid ho1
      have HO2 := Lib.hid (HO1.out.below hb1)
      have HB2 := Lib.hid (HB1.out.trans (hb1.mono (by have := HB1.out.size; have := HBe.out; omega)))
      obtain ⟨S0, hS0⟩ : ∃ S0, S0 = wr.heap.size := ⟨_, rfl⟩
      obtain ⟨K0, hK0⟩ : ∃ K0, K0 = w2.heap.size := ⟨_, rfl⟩
      have HgS := Lib.hid (show g < S0 by rw [hS0]; exact HS.out)
      rw [← hS0, ← hK0] at HL
      have HK := Lib.hid (show K0 ≤ w2.heap.size by omega)
      have HSK := Lib.hid (show S0 ≤ w2.heap.size by rw [hS0]; exact hb1.size)
      clear ho1 hb1 hS0 hK0 HO1 HB1 HS
      go_wp2_with fail
      go_loopw [10] (fun r wi => ∃ (j c : Nat), j ≤ ln ∧ r = .int .i64 j ∧ OwnS wi B (some ⟨g, 0, none⟩) (d + 1) (d + 1) (freeAt e ex d (e + q) c) ∧ Below B w wi ∧
        Hid (c = ((ws.take j).filter (excB ex)).length) ∧ Hid (OwnL wi S0 K0 A1 ln c1 ws) ∧ Hid (K0 ≤ wi.heap.size) ∧ Hid (S0 ≤ wi.heap.size)) (fun r _ => ln - (intOf r).toNat)
      case atStart => exact ⟨0, 0, by omega, by go_num, HO2.out, HB2.out, Lib.hid (by simp), HL, HK, HSK⟩
      case round =>
        clear HO2 HB2 HL HK HSK
        obtain ⟨j, c, hj, rfl, HO, HB, HC, HL, HK, HSK⟩ := hrel
        have HO1 := Lib.hid HO; clear HO
        have HB1 := Lib.hid HB; clear HB
        by_cases hjl : j < ln
        · obtain ⟨ad, A', n', c', r, rfl, hr, hc, hor, _⟩ := HL.out.at_ hjl
          have hcb : c ≤ 1099511627776 := by
            rw [HC.out]
            have := List.length_filter_le (excB ex) (ws.take j)
            rw [List.length_take] at this
            omega
          have hn' : n' ≤ 1000000000000 := by
            have := hor.len
            have := aw_len40 (q := q) (j := j) (r := r) (by omega) (by rw [← HW.out]; exact hr)
            omega
          have HE := Lib.hid (l03Excess_any A' n' c' _ r _ hor.rd hn')
          clear hor
          by_cases hex : excW r ≤ ex
          · have HC2 : Hid (c + 1 = ((ws.take (j + 1)).filter (excB ex)).length) := Lib.hid (by rw [filter_take_succ hr, ← HC.out, if_pos (by simpa [excB] using hex)])
            go_wp2_with fail
            refine HE.out.mono ?_
            rintro e2 w3 ⟨rfl, k3, rfl⟩
            obtain ⟨g', x, hg', hBg, _, hx, hcx, hf, hset⟩ := (HO1.out.drewN k3).at_ (show e + q < d + 1 by omega)
            obtain rfl : g = g' := by simpa using hg'
            obtain rfl : x = (c : Int) := by
              have h1 := hx.out
              rw [freeAt_get e ex c (by omega)] at h1
              injection h1 with h1; exact h1.symm
            have HO2 := Lib.hid (hset (c + 1)).1
            rw [freeAt_inc e ex c (by omega)] at HO2
            have HL2 := Lib.hid ((HL.out.drewN k3).grown (hset (c + 1)).2 HK.out (fun g2 h2 => by injection h2 with h2; subst h2; exact .inr HgS.out))
            have HB2 := Lib.hid ((below_drewN HB1.out k3).setCell (p := ⟨g, e + q, none⟩) (u := .int .i64 (c + 1)) hBg)
            have hsz := (hset (c + 1)).2.size
            have HK2 := Lib.hid (Nat.le_trans HK.out hsz)
            have HSK2 := Lib.hid (Nat.le_trans HSK.out hsz)
            clear hset hg' HE HO1 HB1 HL hsz
            go_wp2_with fail
            go_roundw
            case rel => exact ⟨j + 1, c + 1, by omega, by go_num, HO2.out, HB2.out, HC2, HL2, HK2, HSK2⟩
            case measure => simp [intOf]; omega
          · have HC2 : Hid (c = ((ws.take (j + 1)).filter (excB ex)).length) := Lib.hid (by rw [filter_take_succ hr, ← HC.out, if_neg (by simpa [excB] using hex)]; rfl)
            go_wp2_with fail
            refine HE.out.mono ?_
            rintro e2 w3 ⟨rfl, k3, rfl⟩
            have HO2 := Lib.hid (HO1.out.drewN k3)
            have HL2 := Lib.hid (HL.out.drewN k3)
            have HB2 := Lib.hid (below_drewN HB1.out k3)
            clear HE HO1 HB1 HL
            go_wp2_with fail
            go_roundw
            case rel => exact ⟨j + 1, c, by omega, by go_num, HO2.out, HB2.out, HC2, HL2, HK, HSK⟩
            case measure => simp [intOf]; omega
        · have HX : Hid (freeAt e ex d (e + q) c = freeAt e ex d (e + (q + 1)) 0) := Lib.hid (by
            rw [HC.out, List.take_of_length_le (by rw [← HLn.out]; omega), HCN.out, freeAt_next e ex (by omega), Nat.add_assoc])
          rw [HX.out] at HO1
          have HgW := Lib.hid (Nat.lt_of_lt_of_le HgS.out HSK.out)
          go_wp2_with fail
          go_roundw
          case rel => exact ⟨q + 1, by omega, by go_num, HO1.out, HB1.out, HgW⟩
          case measure => simp [intOf]; omega
    · go_wp2_with fail
      go_ret
      have h1 := HO1.out
      rw [freeAt_end e ex (by omega), ← HR.out] at h1
      exact ⟨_, _, rfl, HBe.out ▸ h1, HBe.out ▸ HB1.out⟩
end Go.Proofs.Ytgoefodemjelaaa
