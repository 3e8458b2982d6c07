/- Vectors of noughts and ones: plain. -/
import Derived.Test.YtejojliljplcdaaGreatDoorTabP
namespace Go.Proofs.YtejojliljplcdaaGreatDoor
open Go.RowKit
set_option linter.unusedVariables false

def bitV (m i : Nat) : Int := if m.testBit i = true then 1 else 0
def vecF (m n : Nat) : List Int := (List.range n).map (bitV m)
theorem bitV_yes {m i : Nat} (h : m.testBit i = true) : bitV m i = 1 := if_pos h
theorem bitV_no {m i : Nat} (h : ¬ m.testBit i = true) : bitV m i = 0 := if_neg h
theorem bitV_cases (m i : Nat) : bitV m i = 0 ∨ bitV m i = 1 := by unfold bitV; split <;> simp
theorem bitV_xor (m p i : Nat) : bitV (m ^^^ p) i = (bitV m i + bitV p i) % 2 := by
  unfold bitV
  rw [Nat.testBit_xor]
  cases m.testBit i <;> cases p.testBit i <;> rfl
theorem vecF_len (m n : Nat) : (vecF m n).length = n := by simp [vecF]
theorem vecF_at {m n i : Nat} (h : i < n) : (vecF m n)[i]? = some (bitV m i) := by simp [vecF, h]
theorem vecF_take {m n k : Nat} (h : k ≤ n) : (vecF m n).take k = vecF m k := by
  unfold vecF
  rw [← List.map_take, List.take_range, Nat.min_eq_left h]
theorem vecF_snoc (m k : Nat) : vecF m k ++ [bitV m k] = vecF m (k + 1) := by
  unfold vecF
  rw [List.range_succ, List.map_append]; rfl
theorem vecF_ext {xs : List Int} {m n : Nat} (hl : xs.length = n) (h : ∀ i, i < n → xs[i]? = some (bitV m i)) : xs = vecF m n := by
  apply List.ext_getElem?
  intro i
  by_cases hi : i < n
  · rw [h i hi, vecF_at hi]
  · rw [List.getElem?_eq_none (by omega), List.getElem?_eq_none (by rw [vecF_len]; omega)]
theorem vecF_zero (n : Nat) : List.replicate n (0 : Int) = vecF 0 n := vecF_ext (by simp) fun i hi => by
  rw [List.getElem?_replicate, if_pos hi, bitV_no (by simp)]
theorem vecF_tog {m n c : Nat} (hc : c < n) : (vecF m n).set c (1 - bitV m c) = vecF (m ^^^ 2 ^ c) n := vecF_ext (by rw [List.length_set, vecF_len]) fun i hi => by
  by_cases e : c = i
  · subst e
    rw [List.getElem?_set_self (by rw [vecF_len]; exact hi)]
    congr 1
    have : (m ^^^ 2 ^ c).testBit c = !m.testBit c := by rw [Nat.testBit_xor, Nat.testBit_two_pow_self]; cases m.testBit c <;> rfl
    unfold bitV
    rw [this]
    cases m.testBit c <;> rfl
  · rw [List.getElem?_set_ne e, vecF_at hi]
    congr 1
    unfold bitV
    rw [Nat.testBit_xor, Nat.testBit_two_pow, decide_eq_false e]
    simp
theorem vecF_unit {n c : Nat} (hc : c < n) : (vecF 0 n).set c 1 = vecF (2 ^ c) n := by
  have h := vecF_tog (m := 0) hc
  rw [bitV_no (by simp), Nat.zero_xor] at h
  exact h
theorem vecF_inj {m p n : Nat} (hm : m < 2 ^ n) (hp : p < 2 ^ n) (h : vecF m n = vecF p n) : m = p := by
  apply Nat.eq_of_testBit_eq
  intro i
  by_cases hi : i < n
  · have h1 := vecF_at (m := m) hi
    rw [h, vecF_at hi] at h1
    have h2 : bitV p i = bitV m i := Option.some.inj h1
    unfold bitV at h2
    cases hx : m.testBit i <;> cases hy : p.testBit i <;> simp [hx, hy] at h2 ⊢
  · have hpow : 2 ^ n ≤ 2 ^ i := Nat.pow_le_pow_right (by decide) (by omega)
    rw [Nat.testBit_lt_two_pow (by omega), Nat.testBit_lt_two_pow (by omega)]
theorem actF_snoc (T : List Tri) (k v : Nat) (t : Tri) : actF (T ++ [t]) k v = actS k v (actF T k v) t := by
  unfold actF
  rw [List.foldl_append]; rfl
theorem actS_yes {k v m : Nat} {t : Tri} (h1 : t.1 = k) (h2 : v.testBit t.2.1 = true) : actS k v m t = m ^^^ 2 ^ t.2.2 := if_pos ⟨h1, h2⟩
theorem actS_no {k v m : Nat} {t : Tri} (h : ¬ (t.1 = k ∧ v.testBit t.2.1 = true)) : actS k v m t = m := if_neg h
theorem spA_zero (T : List Tri) (v : Nat) : spA T 0 v = v := rfl
theorem spA_pos (T : List Tri) {k : Nat} (v : Nat) (h : k ≠ 0) : spA T k v = actF T k v := if_neg h
theorem spW_drop {T : List Tri} {w : List Int} {i : Nat} {x : Int} (h : w[i]? = some x) (v : Nat) : spW T (w.drop i) v = spA T x.toNat (spW T (w.drop (i + 1)) v) := by
  obtain ⟨hi, e⟩ := List.getElem?_eq_some_iff.1 h
  rw [List.drop_eq_getElem_cons hi, e]; rfl
theorem spW_end (T : List Tri) {w : List Int} {i : Nat} (h : w.length ≤ i) (v : Nat) : spW T (w.drop i) v = v := by
  rw [List.drop_of_length_le h]; rfl
theorem xorL_take {α : Type} {f : α → Nat} {l : List α} {i : Nat} {x : α} (h : l[i]? = some x) : xorL f (l.take (i + 1)) = xorL f (l.take i) ^^^ f x := by
  rw [List.take_add_one, h]
  exact xorL_snoc f _ _

/-- a word with a square in front -/
def frontW (i : Int) (xs : List Int) : List Int := if i = 0 then xs else i :: xs
theorem wrd_front {a b j : Nat} (h : 0 < a + b - j) (hj : j ≤ a) : frontW (((a + b - j : Nat) : Int)) (frontW (j : Int) []) = wrd a b j := by
  unfold frontW wrd
  by_cases e : j = 0
  · subst e
    simp
    omega
  · rw [if_neg (by omega), if_neg (by omega), if_neg e]
    congr 1
    omega
theorem relP_snoc {a b m : Nat} : relP a b (m + 1) = relP a b m ++ (if ((b - 1 - m) &&& (a - 2 * m) == a - 2 * m) = true then [m] else []) := by
  by_cases h : ((b - 1 - m) &&& (a - 2 * m) == a - 2 * m) = true
  · rw [relP_yes h, if_pos h]
  · rw [relP_no (by simpa using h), if_neg h, List.append_nil]
/-- what stands in out while the relation is summed -/
def leftP (a b m : Nat) : List (List Int) := oddL ((relP a b m).map (wrd a b))
theorem leftP_yes {a b m : Nat} (h : ((b - 1 - m) &&& (a - 2 * m) == a - 2 * m) = true) : oddL (leftP a b m ++ [wrd a b m]) = leftP a b (m + 1) := by
  unfold leftP
  rw [relP_yes h, List.map_append]
  exact oddL_congr ((oddL_same _).append (SameSum.refl _))
theorem leftP_no {a b m : Nat} (h : ((b - 1 - m) &&& (a - 2 * m) == a - 2 * m) = false) : leftP a b (m + 1) = leftP a b m := by
  unfold leftP
  rw [relP_no h]
theorem leftP_end (a b : Nat) : leftP a b (a / 2 + 1) = formF a b := rfl
theorem leftP_start (a b : Nat) : leftP a b 0 = [] := rfl
theorem leftP_asc (a b m : Nat) : Asc (leftP a b m) := oddL_asc _
theorem leftP_len (a b m : Nat) : (leftP a b m).length ≤ m := by
  refine Nat.le_trans (oddL_len _) ?_
  rw [List.length_map]
  exact relP_len a b m
theorem wrd_len (a b j : Nat) : (wrd a b j).length ≤ 2 := by unfold wrd; split <;> simp
theorem leftP_mem {a b m : Nat} {z : List Int} (h : z ∈ leftP a b m) : z.length ≤ 2 := by
  obtain ⟨j, _, rfl⟩ := List.mem_map.1 (oddL_mem h)
  exact wrd_len a b j
theorem totalL_leC {c : Nat} : ∀ {xss : List (List Int)}, (∀ x ∈ xss, x.length ≤ c) → totalL xss ≤ c * xss.length
  | [], _ => Nat.zero_le _
  | x :: xs, h => by
    have h1 := h x (by simp)
    have h2 := totalL_leC (fun y hy => h y (List.mem_cons_of_mem x hy))
    simp only [totalL, List.map_cons, List.sum_cons, List.length_cons] at h2 ⊢
    rw [Nat.mul_succ]
    omega
end Go.Proofs.YtejojliljplcdaaGreatDoor

/- spec.l11Act, l11Unit, l11Plus. -/
namespace Go.Proofs.YtejojliljplcdaaGreatDoor
open Go.RowKit
set_option linter.unusedVariables false

theorem step_pushI {w0 w : World} {ops : Array Oper} {o : Oper} {a : Act} {K : Act → World → Prop} {Q : Exit → Act → World → Prop} {E : Prop} (hgd : o.guard = none) (s x : Operand)
    (ho : o.op = .call { callee := .builtin .append, args := #[s, x], argTypes := #[22, 22] }) {B n c : Nat} {A : Option Addr} {xs : List Int} {y : Int} {H : Nat}
    (hs : a.eval s = .slice A n c) (hH : w.heap.size = H) (hx : a.eval x = .slice (some ⟨H, 0, Option.none⟩) 1 1) (hst : StS w0 B w A n c xs) (hn : n ≤ 2000000000000)
    (h : ∀ A2 c2 w', StS w0 B w' A2 (n + 1) c2 (xs ++ [y]) → K (a.put o.dst (.slice A2 (n + 1) c2)) w') :
    if Region.wanted o (yielded ops a.tmps) = true then Oper.wp Tryz.prog o a (w.alloc (.cells #[.int .i64 y] 2)) K Q else E := by
  subst hH
  exact step_joinI hgd s x ho hs hx (hst.call ((Below.refl _ _).alloc (Nat.le_refl _) _)) (rd_new w y 2) (by omega) fun A2 c2 w' h1 _ => h A2 c2 w' h1

theorem make_i64 (n : Nat) (hn : n ≤ 1000000) (w : World) : (Instr.makeSlice 22 (.int .i64 (n : Int)) (.int .i64 (n : Int))).run Tryz.prog w = .ok (.slice (some ⟨w.heap.size, 0, none⟩) n n) (w.alloc (.cells (madeCells #[.int .i64 0] n) 2)) := by
  obtain ⟨i0, hi, hz0, hz1, hz2⟩ := info_parts Tryz.info_i64
  have h1 := run_make (P := Tryz.prog) (w := w) 22 2 i0 (.int .i64 0) Tryz.underlying22 hi hz0 .i64 .i64 (n : Int) (n : Int) (by omega) (Int.le_refl _) (by rw [hz2]; omega) (by omega)
  rw [h1, hz1, show ((n : Int)).toNat = n from by omega, Nat.mul_one]
  rfl
theorem own_made (w : World) (n : Nat) (hn : n ≤ maxLen) : OwnS (w.alloc (.cells (madeCells #[.int .i64 0] n) 2)) w.heap.size (some ⟨w.heap.size, 0, none⟩) n n (List.replicate n 0) :=
  made_own ⟨by simp [toList_madeCells_one], .inr ⟨w.heap.size, n, madeCells #[.int .i64 0] n, rfl, Nat.le_refl _, heap_alloc_new w _, Nat.le_refl _, hn, by simp [madeCells], by rw [toList_madeCells_one]; simp⟩⟩
theorem StS.made {w0 w : World} {B : Nat} (n : Nat) (hn : n ≤ maxLen) (hb : Below B w0 w) (hB : B ≤ w.heap.size) : StS w0 B (w.alloc (.cells (madeCells #[.int .i64 0] n) 2)) (some ⟨w.heap.size, 0, Option.none⟩) n n (vecF 0 n) :=
  ⟨by rw [← vecF_zero]; exact (own_made w n hn).mono hB, hb.alloc hB _, Nat.le_trans hB (by simp)⟩
theorem unit_any (n v : Nat) (w : World) (hv : v < n) (hn : n ≤ 16) : Calls Tryz.prog 109 #[.int .i64 (n : Nat), .int .i64 (v : Nat)] w (RetO n (vecF (2 ^ v) n) w) := by
  have hmk := make_i64 n (by omega)
  have HO := Lib.hid (StS.made n (by unfold maxLen; omega) (Below.refl w.heap.size w) (Nat.le_refl _))
  obtain ⟨g, x, hg, hgB, hgl, _, hc, hf, hset⟩ := HO.out.own.at_ hv
  have HS := Lib.hid (hset 1).1
  have HX := Lib.hid (HO.out.bel.setCell (p := ⟨g, v, none⟩) hgB (.int .i64 1))
  obtain rfl : w.heap.size = g := by simpa using hg
  rw [World.setCell_alloc_new] at HS HX
  obtain ⟨R, hR⟩ : ∃ R, R = RetO n (vecF (2 ^ v) n) w := ⟨_, rfl⟩
  have HR := Lib.hid hR
  rw [← hR]
  clear hR hset hg hgB hgl
  go_enter Tryz.func109, Tryz.ntmps109
  go_wp2_with fail
  rw [HR.out]
  exact ⟨_, _, rfl, by rw [← vecF_unit hv]; exact HS.out, HX.out⟩

set_option maxRecDepth 100000 in
set_option maxHeartbeats 2000000 in
theorem act11_any (A1 A2 AV : Option Addr) (n1 c1 n2 c2 cv k m : Nat) (ds : List Int) (act : List (List Int)) (w : World) (h : RdMod w A1 n1 c1 ds A2 n2 c2 act) (ht : TabF ds act) (hn2 : n2 ≤ 2000000) (hv : RdS w w.heap.size AV n1 cv (vecF m n1)) :
    Calls Tryz.prog 76 #[.agg #[.slice A1 n1 c1, .slice A2 n2 c2], .int .i64 (k : Nat), .slice AV n1 cv] w (RetO n1 (vecF (spA (act.map toT) k m) n1) w) := by
  obtain ⟨w0, b, hw0, hbe, hb0, hz0', hF⟩ := start1 w (.slice A1 n1 c1) (.slice A2 n2 c2) 27
  have hn : n1 ≤ 16 := by rw [← h.ds.len]; exact ht.len
  have HL1 := Lib.hid h.ds.len
  have HL2 := Lib.hid h.act.len
  have H := Lib.hid (h.below hb0)
  have HV := Lib.hid ((hv.below hb0).mono hb0.size)
  have HT := Lib.hid ht
  have Hw := Lib.hid hw0
  have Hbe := Lib.hid hbe
  have Hb0 := Lib.hid hb0
  have F0 := Lib.hid hF
  have HZ0 := Lib.hid hz0'
  have k0 := F0.out.at_ (b := b) (o := 0) (V := .slice A1 n1 c1) (by simp)
  obtain ⟨R, hR⟩ : ∃ R, R = RetO n1 (vecF (spA (act.map toT) k m) n1) w := ⟨_, rfl⟩
  have HR := Lib.hid hR
  rw [← hR]
  clear h ht hv hw0 hbe hb0 hF hR hz0'
  by_cases hk : k = 0
  · subst hk
    clear k0
    go_enter Tryz.func76, Tryz.ntmps76
    go_wp2_with fail
    rw [← Hw.out]
    refine (l01Own_any AV n1 cv _ _ HV.out (by omega)).mono ?_
    rintro e w1 ⟨A3, c3, rfl, ho, hb⟩
    have HO := Lib.hid (ho.mono Hb0.out.size)
    have HX := Lib.hid (Hb0.out.trans (hb.mono Hb0.out.size))
    clear ho hb
    go_wp2_with fail
    rw [HR.out]
    exact ⟨_, _, rfl, HO.out, HX.out⟩
  · have hk1 : ((k : Int) == 0) = false := by simp; omega
    have hk2 : ¬ ((k : Int) = 0) := by omega
    have hk3 : (k == 0) = false := by simp; omega
    have HA := Lib.hid (spA_pos (act.map toT) m hk)
    have hmk := make_i64 n1 (by omega)
    have HO := Lib.hid (StS.made n1 (by unfold maxLen; omega) (Below.refl w0.heap.size w0) (Nat.le_refl _))
    obtain ⟨w1, hw1⟩ : ∃ W, W = w0.alloc (.cells (madeCells #[.int .i64 0] n1) 2) := ⟨_, rfl⟩
    have HW1 := Lib.hid hw1
    rw [← hw1, show some (⟨w0.heap.size, 0, none⟩ : Addr) = some ⟨b + 1, 0, none⟩ from by rw [HZ0.out]] at HO
    clear hk hw1
    go_enter Tryz.func76, Tryz.ntmps76
    go_wp2_with fail
    rw [← Hw.out, ← Hbe.out]
    go_wp2_with fail
    rw [← HW1.out]
    generalize hA0 : some (⟨b + 1, 0, none⟩ : Addr) = A0 at HO ⊢
    clear hk1 hk2 hk3 hmk k0
    go_loopw [8] (fun i wr => ∃ j u : Nat, j ≤ n2 ∧ i = .int .i64 j ∧ Hid (u = actF ((act.take j).map toT) k m) ∧ Hid (StS w0 w0.heap.size wr A0 n1 n1 (vecF u n1))) (fun i _ => n2 - (intOf i).toNat)
    case atStart => exact ⟨0, 0, Nat.zero_le _, rfl, Lib.hid rfl, HO⟩
    case round =>
      clear HO hA0
      obtain ⟨j, u, hj, rfl, HU, HO⟩ := hrel
      have k1 := (F0.out.below HO.out.bel).at_ (b := b) (o := 1) (V := .slice A2 n2 c2) (by simp)
      by_cases hlt : j < n2
      · obtain ⟨ad, A', n', c', x, rfl, _, hx, hcx, hrx⟩ := (H.out.below HO.out.bel).act.at_ hlt
        have hxm := List.mem_of_getElem? hx.out
        obtain ⟨hx1, hx2, hx3, hx4, hx5, _⟩ := HT.out.each x hxm
        obtain ⟨a0, a1, a2, htx⟩ : ∃ a0 a1 a2 : Nat, toT x = (a0, a1, a2) := ⟨_, _, _, rfl⟩
        rw [htx] at hx2 hx3 hx4 hx5
        simp only at hx2 hx3 hx4 hx5
        have hxe : x = [(a0 : Int), (a1 : Int), (a2 : Int)] := by rw [hx1, htx]; rfl
        have hn' : n' = 3 := by rw [← hrx.len, hxe]; rfl
        subst hn'
        obtain ⟨ax, y0, rfl, _, hy0, hc0⟩ := hrx.at_ (k := 0) (by omega)
        obtain ⟨ad', y1, had, _, hy1, hc1⟩ := hrx.at_ (k := 1) (by omega)
        obtain rfl : ax = ad' := by simpa using had
        clear had
        obtain ⟨ad', y2, had, _, hy2, hc2⟩ := hrx.at_ (k := 2) (by omega)
        obtain rfl : ax = ad' := by simpa using had
        clear had
        have e0 : y0 = (a0 : Int) := by have := hy0.out; rw [hxe] at this; simpa using this.symm
        have e1 : y1 = (a1 : Int) := by have := hy1.out; rw [hxe] at this; simpa using this.symm
        have e2 : y2 = (a2 : Int) := by have := hy2.out; rw [hxe] at this; simpa using this.symm
        subst e0 e1 e2
        have hc00 : wr.cell? ax = some (.int .i64 (a0 : Int)) := by simpa [Addr.add] using hc0
        simp [Addr.add] at hc1 hc2
        have hl := HL1.out
        have ha1 : a1 < n1 := by omega
        have ha2 : a2 < n1 := by omega
        have HS1 := Lib.hid (show actF ((act.take (j + 1)).map toT) k m = actS k m u (a0, a1, a2) from by rw [map_take_succT hx, actF_snoc, htx, ← HU.out])
        have i1 : (a1 : Int) < (n1 : Int) := by omega
        have i2 : (a2 : Int) < (n1 : Int) := by omega
        clear hx1 hx2 hx3 hx4 hx5 hxe hrx hy0 hy1 hy2 hc0 hl htx hxm hx
        by_cases hak : a0 = k
        · subst hak
          have he1 : ((a0 : Int) == (a0 : Int)) = true := by simp
          have he2 : (a0 == a0) = true := by simp
          obtain ⟨av, y, rfl, _, hy, hcy⟩ := (HV.out.below HO.out.bel).at_ ha1
          have hy' : y = bitV m a1 := by have := hy.out; rw [vecF_at ha1] at this; exact (Option.some.inj this).symm
          by_cases hb : m.testBit a1 = true
          · rw [bitV_yes hb] at hy'
            subst hy'
            obtain ⟨g, z, hg, hgB, hgl, hz, hcz, hfz, hset⟩ := HO.out.own.at_ ha2
            have hz' : z = bitV u a2 := by have := hz.out; rw [vecF_at ha2] at this; exact (Option.some.inj this).symm
            have HS2 := Lib.hid (show StS w0 w0.heap.size (wr.setCell ⟨g, a2, none⟩ (.int .i64 (1 - z))) (some ⟨g, 0, none⟩) n1 n1 (vecF (u ^^^ 2 ^ a2) n1) from
              ⟨by rw [← vecF_tog ha2, ← hz']; exact (hset _).1, HO.out.bel.setCell (p := ⟨g, a2, none⟩) hgB _, by have := HO.out.hi; simpa [World.setCell] using this⟩)
            have HS3 := Lib.hid (show actF ((act.take (j + 1)).map toT) a0 m = u ^^^ 2 ^ a2 from by rw [HS1.out]; exact actS_yes (t := (a0, a1, a2)) rfl hb)
            have hz01 : z = 0 ∨ z = 1 := by rw [hz']; exact bitV_cases u a2
            subst hg
            clear hset hy hgB hgl hz hz' hb HS1 HO HU
            rcases hz01 with rfl | rfl
            · have HS4 := Lib.hid (HS2.out.drewN 1)
              clear HS2
              go_wp2_with fail
              go_region
              go_wp2_with fail
              go_roundw
              case rel => exact ⟨j + 1, _, by omega, by go_num, Lib.hid HS3.out.symm, HS4⟩
              case measure => simp [intOf]; omega
            · have HS4 := Lib.hid (HS2.out.drewN 1)
              clear HS2
              go_wp2_with fail
              go_region
              go_wp2_with fail
              go_roundw
              case rel => exact ⟨j + 1, _, by omega, by go_num, Lib.hid HS3.out.symm, HS4⟩
              case measure => simp [intOf]; omega
          · rw [bitV_no hb] at hy'
            subst hy'
            have HS3 := Lib.hid (show u = actF ((act.take (j + 1)).map toT) a0 m from by rw [HS1.out]; exact (actS_no (t := (a0, a1, a2)) (fun h => hb h.2)).symm)
            clear hy HS1 hb
            go_wp2_with fail
            go_roundw
            case rel => exact ⟨j + 1, u, by omega, by go_num, HS3, HO⟩
            case measure => simp [intOf]; omega
        · have HS3 := Lib.hid (show u = actF ((act.take (j + 1)).map toT) k m from by rw [HS1.out]; exact (actS_no (t := (a0, a1, a2)) (fun h => hak h.1)).symm)
          have hne1 : ((a0 : Int) == (k : Int)) = false := by simp; omega
          have hne2 : ((a0 : Int) != (k : Int)) = true := by simp; omega
          have hne3 : (a0 == k) = false := by simp; omega
          clear HS1
          go_wp2_with fail
          go_roundw
          case rel => exact ⟨j + 1, u, by omega, by go_num, HS3, HO⟩
          case measure => simp [intOf]; omega
      · obtain rfl : j = n2 := by omega
        have HS3 := Lib.hid (show u = spA (act.map toT) k m from by
          rw [HA.out, HU.out, List.take_of_length_le (by rw [HL2.out]; exact Nat.le_refl _)])
        have HS4 := Lib.hid (HO.out.own.mono Hb0.out.size)
        have HX := Lib.hid (Hb0.out.trans (HO.out.bel.mono Hb0.out.size))
        rw [HS3.out] at HS4
        go_wp2_with fail
        rw [HR.out]
        exact ⟨_, _, rfl, HS4.out, HX.out⟩
end Go.Proofs.YtejojliljplcdaaGreatDoor

/- spec.l11Plus, l11Word, l11Words. -/
namespace Go.Proofs.YtejojliljplcdaaGreatDoor
open Go.RowKit
set_option linter.unusedVariables false

set_option maxHeartbeats 1000000 in
theorem plus11_any (A1 A2 : Option Addr) (n c1 c2 m p : Nat) (w : World) (h1 : RdS w w.heap.size A1 n c1 (vecF m n)) (h2 : RdS w w.heap.size A2 n c2 (vecF p n)) (hn : n ≤ 16) :
    Calls Tryz.prog 136 #[.slice A1 n c1, .slice A2 n c2] w (RetO n (vecF (m ^^^ p) n) w) := by
  have H1 := Lib.hid h1
  have H2 := Lib.hid h2
  have HS := Lib.hid (StS.start (Below.refl w.heap.size w) (Nat.le_refl _))
  obtain ⟨V, hV⟩ : ∃ V, V = w.heap.size := ⟨_, rfl⟩
  have HVe := Lib.hid hV
  rw [← hV] at HS H1 H2
  obtain ⟨R, hR⟩ : ∃ R, R = RetO n (vecF (m ^^^ p) n) w := ⟨_, rfl⟩
  have HR := Lib.hid hR
  rw [← hR]
  clear hR hV h1 h2
  go_enter Tryz.func136, Tryz.ntmps136
  go_wp2_with fail
  rw [← HVe.out]
  go_loopw [5, 6] (fun o i wr => ∃ (k c : Nat) (A : Option Addr), k ≤ n ∧ i = .int .i64 k ∧ o = .slice A k c ∧ Hid (StS w V wr A k c (vecF (m ^^^ p) k))) (fun _ i _ => n - (intOf i).toNat)
  case atStart => exact ⟨0, 0, _, Nat.zero_le _, rfl, rfl, HS⟩
  case round =>
    clear HS
    obtain ⟨k, c, A, hk, rfl, rfl, HS⟩ := hrel
    by_cases hlt : k < n
    · obtain ⟨ad1, x, rfl, hb1, hx, hc1⟩ := H1.out.at_ hlt
      obtain ⟨ad2, y, rfl, hb2, hy, hc2⟩ := H2.out.at_ hlt
      have hx' : x = bitV m k := by have := hx.out; rw [vecF_at hlt] at this; exact (Option.some.inj this).symm
      have hy' : y = bitV p k := by have := hy.out; rw [vecF_at hlt] at this; exact (Option.some.inj this).symm
      have hsum := bitV_xor m p k
      rw [← hx', ← hy'] at hsum
      have hx01 : x = 0 ∨ x = 1 := by rw [hx']; exact bitV_cases m k
      have hy01 : y = 0 ∨ y = 1 := by rw [hy']; exact bitV_cases p k
      have HS1 := Lib.hid (HS.out.drewN 1)
      have hv1 : (ad1.add k).block < V := by rw [block_of_add]; exact hb1
      have hv2 : (ad2.add k).block < V := by rw [block_of_add]; exact hb2
      have hza : (ad1.add k).block < wr.heap.size := Nat.lt_of_lt_of_le hv1 HS.out.hi
      have hzb : (ad2.add k).block < wr.heap.size := Nat.lt_of_lt_of_le hv2 HS.out.hi
      have hd1 : wr.drew.cell? (ad1.add k) = some (.int .i64 x) := (HS.out.bel.cell (p := ad1.add k) hv1).trans hc1
      have hd2 : wr.drew.cell? (ad2.add k) = some (.int .i64 y) := (HS.out.bel.cell (p := ad2.add k) hv2).trans hc2
      have C1 := Lib.hid hc1
      have C2 := Lib.hid hc2
      clear hx hy hx' hy' hb1 hb2 hc1 hc2
      have hw1 : IntKind.i64.wrap (x + y) = x + y := by rw [IntKind.wrap_i64]; omega
      have hw2 : wrap64 (x + y) = x + y := by unfold wrap64; omega
      have hw3 : (x + y).tmod 2 = (x + y) % 2 := Int.tmod_eq_emod_of_nonneg (by omega)
      have HB := Lib.hid (vecF_snoc (m ^^^ p) k)
      rw [hsum] at HB
      clear hsum hx01 hy01
      go_wp2_with fail
      go_region_held3 (fun w' => w'.cell? (ad1.add k) = some (.int .i64 x) ∧ w'.cell? (ad2.add k) = some (.int .i64 y)) (first | exact ⟨hd1, hd2⟩ | exact ⟨old_atA hza hd1, old_atA hzb hd2⟩ | exact ⟨ke1, ke2⟩)
        (first
          | (refine step_pushI (by rfl) (.tmp 14) (.tmp 25) (by rfl) rfl (by rfl) (by rfl) HS1.out (by omega) ?_
             intro A7 c7 w7 hs7
             have ke1 := (hs7.bel.cell (p := ad1.add k) hv1).trans C1.out
             have ke2 := (hs7.bel.cell (p := ad2.add k) hv2).trans C2.out
             have HS7 := Lib.hid hs7
             clear hs7))
      clear hd1 hd2 ke1 ke2 hw1 hw2 hw3 hv1 hv2 hza hzb
      rw [HB.out] at HS7
      go_wp2_with fail
      go_roundw
      case rel => exact ⟨k + 1, _, _, by omega, by go_num, rfl, HS7⟩
      case measure => simp [intOf]; omega
    · obtain rfl : k = n := by omega
      go_wp2_with fail
      rw [HR.out]
      have h := HS.out
      rw [HVe.out] at h
      exact h.ret

/-- a slice that reads as xs -/
def RetRd (n : Nat) (xs : List Int) (w : World) (e : Ending) (w' : World) : Prop := ∃ A c, e = .returned (.slice A n c) ∧ RdS w' w'.heap.size A n c xs ∧ Below w.heap.size w w'

set_option maxHeartbeats 2000000 in
theorem word11_any (A1 A2 AV AW : Option Addr) (n1 c1 n2 c2 cv l cw m : Nat) (ds : List Int) (act : List (List Int)) (xs : List Int) (w : World) (h : RdMod w A1 n1 c1 ds A2 n2 c2 act) (ht : TabF ds act) (hn2 : n2 ≤ 2000000)
    (hw : RdS w w.heap.size AW l cw xs) (hl : l ≤ 1000) (hx : ∀ z ∈ xs, 0 ≤ z) (hv : RdS w w.heap.size AV n1 cv (vecF m n1)) :
    Calls Tryz.prog 111 #[.agg #[.slice A1 n1 c1, .slice A2 n2 c2], .slice AW l cw, .slice AV n1 cv] w (RetRd n1 (vecF (spW (act.map toT) xs m) n1) w) := by
  obtain ⟨w0, b, hw0, hbe, hb0, hz0', hF⟩ := start1 w (.slice A1 n1 c1) (.slice A2 n2 c2) 27
  have HL := Lib.hid hw.len
  have H := Lib.hid (h.below hb0)
  have HV := Lib.hid ((hv.below hb0).mono hb0.size)
  have HX := Lib.hid ((hw.below hb0).mono hb0.size)
  have HP := Lib.hid hx
  have HT := Lib.hid ht
  have Hw := Lib.hid hw0
  have Hbe := Lib.hid hbe
  have Hb0 := Lib.hid hb0
  have F0 := Lib.hid hF
  have HZ0 := Lib.hid hz0'
  have hwl : IntKind.i64.wrap ((l : Int) - 1) = (l : Int) - 1 := by rw [IntKind.wrap_i64]; omega
  obtain ⟨R, hR⟩ : ∃ R, R = RetRd n1 (vecF (spW (act.map toT) xs m) n1) w := ⟨_, rfl⟩
  have HR := Lib.hid hR
  rw [← hR]
  clear h ht hv hw hx hw0 hbe hb0 hF hR hz0'
  go_enter Tryz.func111, Tryz.ntmps111
  go_wp2_with fail
  rw [← Hw.out, ← Hbe.out]
  go_loopw [2, 7] (fun v i wr => ∃ (j c : Nat) (A : Option Addr), j ≤ l ∧ i = .int .i64 ((j : Int) - 1) ∧ v = .slice A n1 c ∧ Hid (RdS wr wr.heap.size A n1 c (vecF (spW (act.map toT) (xs.drop j) m) n1)) ∧ Hid (Below w0.heap.size w0 wr)) (fun _ i _ => (intOf i + 1).toNat)
  case atStart => exact ⟨l, cv, AV, Nat.le_refl _, rfl, rfl, by rw [spW_end _ (by rw [HL.out]; exact Nat.le_refl _)]; exact HV, Lib.hid (Below.refl _ _)⟩
  case round =>
    clear hwl
    obtain ⟨j, c, A, hj, rfl, rfl, HS, HB⟩ := hrel
    by_cases hlt : 0 < j
    · obtain ⟨q, rfl⟩ : ∃ q, j = q + 1 := ⟨j - 1, by omega⟩
      have hql : q < l := by omega
      obtain ⟨ad, y, rfl, hb, hy, hc⟩ := HX.out.at_ hql
      obtain ⟨z, rfl⟩ : ∃ z : Nat, y = (z : Int) := ⟨y.toNat, by have := HP.out y (mem_of hy); omega⟩
      have hq1 : (((q + 1 : Nat) : Int) - 1) = (q : Int) := by omega
      have hql' : (q : Int) < (l : Int) := by omega
      have hq0 : (0 : Int) ≤ (q : Int) := by omega
      have hv1 : (ad.add q).block < w0.heap.size := by rw [block_of_add]; exact hb
      have hd1 : wr.drew.cell? (ad.add q) = some (.int .i64 (z : Int)) := (HB.out.cell (p := ad.add q) hv1).trans hc
      have FB := Lib.hid (F0.out.below HB.out)
      have k0 : wr.drew.cell? ⟨b, 0, none⟩ = some (.slice A1 n1 c1) := FB.out.at_ (b := b) (o := 0) (V := .slice A1 n1 c1) (by simp)
      have k1 : wr.drew.cell? ⟨b, 1, none⟩ = some (.slice A2 n2 c2) := FB.out.at_ (b := b) (o := 1) (V := .slice A2 n2 c2) (by simp)
      have HD := Lib.hid (below_drewN HB.out 1)
      have HC := Lib.hid (act11_any A1 A2 A n1 c1 n2 c2 c z (spW (act.map toT) (xs.drop (q + 1)) m) ds act wr.drew (H.out.below HD.out) HT.out hn2 (HS.out.drewN 1))
      have HE := Lib.hid (spW_drop (T := act.map toT) hy.out m)
      rw [Int.toNat_natCast] at HE
      rw [hq1]
      clear hy hb hc
      go_wp2_with fail
      go_region_held3 (fun w' => w'.cell? (ad.add q) = some (.int .i64 (z : Int)) ∧ w'.cell? ⟨b, 0, none⟩ = some (.slice A1 n1 c1) ∧ w'.cell? ⟨b, 1, none⟩ = some (.slice A2 n2 c2)) (first | exact ⟨hd1, k0, k1⟩ | exact ⟨hd2, k3, k4⟩)
        (first
          | (go_at_call 76
             refine HC.out.mono ?_
             rintro e w1 ⟨A3, c3, rfl, ho, hb2⟩
             have HB2 := Lib.hid (HD.out.trans (hb2.mono HD.out.size))
             have hd2 : w1.cell? (ad.add q) = some (.int .i64 (z : Int)) := (HB2.out.cell (p := ad.add q) hv1).trans ((HB.out.cell (p := ad.add q) hv1).symm.trans hd1)
             have k3 : w1.cell? ⟨b, 0, none⟩ = some (.slice A1 n1 c1) := (F0.out.below HB2.out).at_ (b := b) (o := 0) (V := .slice A1 n1 c1) (by simp)
             have k4 : w1.cell? ⟨b, 1, none⟩ = some (.slice A2 n2 c2) := (F0.out.below HB2.out).at_ (b := b) (o := 1) (V := .slice A2 n2 c2) (by simp)
             have HO := Lib.hid ho.rd
             clear ho hb2))
      rw [← HE.out] at HO
      clear hd1 hd2 k0 k1 k3 k4 hq1
      go_wp2_with fail
      go_roundw
      case rel => exact ⟨q, _, _, by omega, by go_num, rfl, HO, HB2⟩
      case measure => first | (simp [intOf]; done) | (simp [intOf]; omega)
    · obtain rfl : j = 0 := by omega
      go_wp2_with fail
      rw [HR.out]
      exact ⟨_, _, rfl, HS.out, Hb0.out.trans (HB.out.mono Hb0.out.size)⟩

set_option maxHeartbeats 2000000 in
theorem words11_any (A1 A2 AV AW : Option Addr) (n1 c1 n2 c2 cv l cw m : Nat) (ds : List Int) (act : List (List Int)) (xss : List (List Int)) (w : World) (h : RdMod w A1 n1 c1 ds A2 n2 c2 act) (ht : TabF ds act) (hn2 : n2 ≤ 2000000)
    (hw : RdL w w.heap.size AW l cw xss) (hl : l ≤ 1000) (hx : ∀ x ∈ xss, x.length ≤ 1000 ∧ ∀ z ∈ x, 0 ≤ z) (hv : RdS w w.heap.size AV n1 cv (vecF m n1)) :
    Calls Tryz.prog 112 #[.agg #[.slice A1 n1 c1, .slice A2 n2 c2], .slice AW l cw, .slice AV n1 cv] w (RetRd n1 (vecF (xorL (fun x => spW (act.map toT) x m) xss) n1) w) := by
  obtain ⟨w0, b, hw0, hbe, hb0, hz0', hF⟩ := start1 w (.slice A1 n1 c1) (.slice A2 n2 c2) 27
  have hn : n1 ≤ 16 := by rw [← h.ds.len]; exact ht.len
  have HL := Lib.hid hw.len
  have H := Lib.hid (h.below hb0)
  have HV := Lib.hid ((hv.below hb0).mono hb0.size)
  have HX := Lib.hid ((hw.below hb0).mono hb0.size)
  have HP := Lib.hid hx
  have HT := Lib.hid ht
  have Hw := Lib.hid hw0
  have Hbe := Lib.hid hbe
  have Hb0 := Lib.hid hb0
  have F0 := Lib.hid hF
  have HZ0 := Lib.hid hz0'
  have hmk := make_i64 n1 (by omega)
  have HO := Lib.hid (StS.made n1 (by unfold maxLen; omega) (Below.refl w0.heap.size w0) (Nat.le_refl _))
  obtain ⟨w1, hw1⟩ : ∃ W, W = w0.alloc (.cells (madeCells #[.int .i64 0] n1) 2) := ⟨_, rfl⟩
  have HW1 := Lib.hid hw1
  rw [← hw1, show some (⟨w0.heap.size, 0, none⟩ : Addr) = some ⟨b + 1, 0, none⟩ from by rw [HZ0.out]] at HO
  obtain ⟨R, hR⟩ : ∃ R, R = RetRd n1 (vecF (xorL (fun x => spW (act.map toT) x m) xss) n1) w := ⟨_, rfl⟩
  have HR := Lib.hid hR
  rw [← hR]
  clear h ht hv hw hx hw0 hbe hb0 hF hR hz0' hw1
  go_enter Tryz.func112, Tryz.ntmps112
  go_wp2_with fail
  rw [← Hw.out, ← Hbe.out]
  go_wp2_with fail
  rw [← HW1.out]
  generalize hA0 : some (⟨b + 1, 0, none⟩ : Addr) = A0 at HO ⊢
  clear hmk hA0
  go_loopw [7, 8] (fun v i wr => ∃ (j c : Nat) (A : Option Addr), j ≤ l ∧ i = .int .i64 j ∧ v = .slice A n1 c ∧ Hid (RdS wr wr.heap.size A n1 c (vecF (xorL (fun x => spW (act.map toT) x m) (xss.take j)) n1)) ∧ Hid (Below w0.heap.size w0 wr)) (fun _ i _ => l - (intOf i).toNat)
  case atStart => exact ⟨0, n1, A0, Nat.zero_le _, rfl, rfl, Lib.hid HO.out.own.rd, Lib.hid HO.out.bel⟩
  case round =>
    clear HO
    obtain ⟨j, c, A, hj, rfl, rfl, HS, HB⟩ := hrel
    by_cases hlt : j < l
    · obtain ⟨ad, A', n', c', x, rfl, hb, hx, hc, hr⟩ := HX.out.at_ hlt
      obtain ⟨hxl, hxp⟩ := HP.out x (List.mem_of_getElem? hx.out)
      have hn' : n' ≤ 1000 := by rw [← hr.len]; exact hxl
      have hv1 : (ad.add j).block < w0.heap.size := by rw [block_of_add]; exact hb
      have hd1 : wr.drew.cell? (ad.add j) = some (.slice A' n' c') := (HB.out.cell (p := ad.add j) hv1).trans hc
      have FB := Lib.hid (F0.out.below HB.out)
      have k0 : wr.drew.cell? ⟨b, 0, none⟩ = some (.slice A1 n1 c1) := FB.out.at_ (b := b) (o := 0) (V := .slice A1 n1 c1) (by simp)
      have k1 : wr.drew.cell? ⟨b, 1, none⟩ = some (.slice A2 n2 c2) := FB.out.at_ (b := b) (o := 1) (V := .slice A2 n2 c2) (by simp)
      have HD := Lib.hid (below_drewN HB.out 1)
      have HC := Lib.hid (word11_any A1 A2 AV A' n1 c1 n2 c2 cv n' c' m ds act x wr.drew (H.out.below HD.out) HT.out hn2 ((hr.below HD.out).mono HD.out.size) hn' hxp ((HV.out.below HD.out).mono HD.out.size))
      have HE := Lib.hid (xorL_take (f := fun x => spW (act.map toT) x m) hx.out)
      have HK := Lib.hid hc
      clear hx hb hc hxl hxp hr
      go_wp2_with fail
      go_region_held3 (fun w' => w'.cell? (ad.add j) = some (.slice A' n' c') ∧ w'.cell? ⟨b, 0, none⟩ = some (.slice A1 n1 c1) ∧ w'.cell? ⟨b, 1, none⟩ = some (.slice A2 n2 c2)) (first | exact ⟨hd1, k0, k1⟩ | exact ⟨hd2, k3, k4⟩ | exact ⟨hd5, k5, k6⟩)
        (first
          | (go_at_call 111
             refine HC.out.mono ?_
             rintro e w2 ⟨A3, c3, rfl, ho, hb2⟩
             have HB2 := Lib.hid (HD.out.trans (hb2.mono HD.out.size))
             have hd2 : w2.cell? (ad.add j) = some (.slice A' n' c') := (HB2.out.cell (p := ad.add j) hv1).trans HK.out
             have k3 : w2.cell? ⟨b, 0, none⟩ = some (.slice A1 n1 c1) := (F0.out.below HB2.out).at_ (b := b) (o := 0) (V := .slice A1 n1 c1) (by simp)
             have k4 : w2.cell? ⟨b, 1, none⟩ = some (.slice A2 n2 c2) := (F0.out.below HB2.out).at_ (b := b) (o := 1) (V := .slice A2 n2 c2) (by simp)
             have HO := Lib.hid ho
             have HS2 := Lib.hid (((HS.out.drewN 1).below hb2).mono hb2.size)
             clear ho hb2)
          | (go_at_call 136
             refine (plus11_any _ _ n1 _ _ _ _ _ HS2.out HO.out hn).mono ?_
             rintro e w3 ⟨A4, c4, rfl, ho4, hb4⟩
             have HB4 := Lib.hid (HB2.out.trans (hb4.mono HB2.out.size))
             have hd5 : w3.cell? (ad.add j) = some (.slice A' n' c') := (HB4.out.cell (p := ad.add j) hv1).trans HK.out
             have k5 : w3.cell? ⟨b, 0, none⟩ = some (.slice A1 n1 c1) := (F0.out.below HB4.out).at_ (b := b) (o := 0) (V := .slice A1 n1 c1) (by simp)
             have k6 : w3.cell? ⟨b, 1, none⟩ = some (.slice A2 n2 c2) := (F0.out.below HB4.out).at_ (b := b) (o := 1) (V := .slice A2 n2 c2) (by simp)
             have HO4 := Lib.hid ho4.rd
             clear ho4 hb4))
      rw [← HE.out] at HO4
      clear hd1 hd2 hd5 k0 k1 k3 k4 k5 k6
      go_wp2_with fail
      go_roundw
      case rel => exact ⟨j + 1, _, _, by omega, by go_num, rfl, HO4, HB4⟩
      case measure => simp [intOf]; omega
    · obtain rfl : j = l := by omega
      have hS := HS.out
      rw [List.take_of_length_le (by rw [HL.out]; exact Nat.le_refl _)] at hS
      have HS' := Lib.hid hS
      go_wp2_with fail
      rw [HR.out]
      exact ⟨_, _, rfl, HS'.out, Hb0.out.trans (HB.out.mono Hb0.out.size)⟩
end Go.Proofs.YtejojliljplcdaaGreatDoor
