/- Slices of lists of lists that are only read; spec.l01Place. -/
import Derived.Test.YtoodhbafleemjaaGreatPut
import Derived.Test.YtoodhbafleemjaaGreatHitP
import Derived.Test.YtoodhbafleemjaaGreatSumL
namespace Go.Proofs.YtoodhbafleemjaaGreat
open Go.RowKit
set_option linter.unusedVariables false

/-- cells that read as lists of lists below B -/
def RowsT (w : World) (B : Nat) (ps : List (Value × Pol)) : Prop := ∀ p ∈ ps, ∃ A n c, p.1 = .slice A n c ∧ RdL w B A n c p.2
theorem RowsT.below {w w' : World} {B : Nat} {ps : List (Value × Pol)} (h : RowsT w B ps) (hb : Below B w w') : RowsT w' B ps := fun p hp => by
  obtain ⟨A, n, c, e, hr⟩ := h p hp
  exact ⟨A, n, c, e, hr.below hb⟩
theorem RowsT.mono {w : World} {B B' : Nat} {ps : List (Value × Pol)} (h : RowsT w B ps) (hb : B ≤ B') : RowsT w B' ps := fun p hp => by
  obtain ⟨A, n, c, e, hr⟩ := h p hp
  exact ⟨A, n, c, e, hr.mono hb⟩
theorem RowsT.one {w : World} {B : Nat} {ps : List (Value × Pol)} (h : RowsT w B ps) : ∀ u ∈ ps.map (·.1), u.oneCell' = true := fun u hu => by
  obtain ⟨p, hp, rfl⟩ := List.mem_map.1 hu
  obtain ⟨A, n, c, e, _⟩ := h p hp
  rw [e]; rfl
/-- a slice that reads as lists of lists, below B -/
def RdC (w : World) (B : Nat) (A : Option Addr) (n c : Nat) (qs : List Pol) : Prop := ∃ ps : List (Value × Pol), ps.map (·.2) = qs ∧ RdV w B A n c (ps.map (·.1)) ∧ RowsT w B ps
theorem RdC.len {w : World} {B n c : Nat} {A : Option Addr} {qs : List Pol} (h : RdC w B A n c qs) : qs.length = n := by
  obtain ⟨ps, rfl, h1, h2⟩ := h
  have := h1.len
  simpa using this
theorem RdC.cap {w : World} {B n c : Nat} {A : Option Addr} {qs : List Pol} (h : RdC w B A n c qs) : n ≤ c := by
  obtain ⟨ps, rfl, h1, h2⟩ := h
  exact h1.cap
theorem RdC.below {w w' : World} {B n c : Nat} {A : Option Addr} {qs : List Pol} (h : RdC w B A n c qs) (hb : Below B w w') : RdC w' B A n c qs := by
  obtain ⟨ps, e, h1, h2⟩ := h
  exact ⟨ps, e, h1.below hb, h2.below hb⟩
theorem RdC.mono {w : World} {B B' n c : Nat} {A : Option Addr} {qs : List Pol} (h : RdC w B A n c qs) (hb : B ≤ B') : RdC w B' A n c qs := by
  obtain ⟨ps, e, h1, h2⟩ := h
  exact ⟨ps, e, h1.mono hb, h2.mono hb⟩
theorem RdC.here {w w' : World} {n c : Nat} {A : Option Addr} {qs : List Pol} (h : RdC w w.heap.size A n c qs) (hb : Below w.heap.size w w') : RdC w' w'.heap.size A n c qs := (h.below hb).mono hb.size
theorem RdC.at_ {w : World} {B n c k : Nat} {A : Option Addr} {qs : List Pol} (h : RdC w B A n c qs) (hk : k < n) :
    ∃ ad A' n' c' p, A = some ad ∧ ad.block < B ∧ Hid (qs[k]? = some p) ∧ w.cell? (ad.add k) = some (.slice A' n' c') ∧ RdL w B A' n' c' p := by
  obtain ⟨ps, rfl, h1, h2⟩ := h
  obtain ⟨ad, x, rfl, hb, hx, hc⟩ := h1.at_ hk
  have hx := hx.out
  rw [List.getElem?_map, Option.map_eq_some_iff] at hx
  obtain ⟨p, hp, rfl⟩ := hx
  obtain ⟨A', n', c', e, hr⟩ := h2 p (List.mem_of_getElem? hp)
  exact ⟨ad, A', n', c', p.2, rfl, hb, Lib.hid (by rw [List.getElem?_map, hp]; rfl), by rw [hc, e], hr⟩
theorem RdC.nil {w : World} {B n c : Nat} {A : Option Addr} (h : RdV w B A n c []) : RdC w B A n c [] := ⟨[], rfl, h, fun p hp => by cases hp⟩

/-- a call that answers lists that are only read, and writes nothing that was there -/
def RetRL (t : Pol) (w : World) (e : Ending) (w' : World) : Prop := ∃ A c, e = .returned (.slice A t.length c) ∧ RdL w' w'.heap.size A t.length c t ∧ Below w.heap.size w w'
theorem RetRL.mk {t u : Pol} {A : Option Addr} {n c : Nat} {w w' : World} (h : RdL w' w'.heap.size A n c u) (e : u = t) (hb : Below w.heap.size w w') : RetRL t w (.returned (.slice A n c)) w' := by
  subst e
  obtain rfl := h.len
  exact ⟨A, c, rfl, h, hb⟩

/-- a place, or -1 -/
def RetPlc (b : Bool) (w : World) (e : Ending) (w' : World) : Prop := ∃ p : Int, e = .returned (.int .i64 p) ∧ Hid (decide (0 ≤ p) = b) ∧ ∃ q, w' = w.drewN q
set_option maxRecDepth 100000 in
theorem place_any (A A2 : Option Addr) (n c n2 c2 B1 B2 : Nat) (xss : Pol) (x : List Int) (w : World) (h : RdL w B1 A n c xss) (hr : RdS w B2 A2 n2 c2 x) (hn : n ≤ 1000000000) (hn2 : n2 ≤ 1000000000) (hx : ∀ y ∈ xss, y.length ≤ 1000000000) :
    Calls Tryz.prog 138 #[.slice A n c, .slice A2 n2 c2] w (RetPlc (decide (x ∈ xss)) w) := by
  have HRD := Lib.hid h
  have HL := Lib.hid h.len
  have HR := Lib.hid hr
  have HX := Lib.hid hx
  obtain ⟨R, hR⟩ : ∃ R, R = RetPlc (decide (x ∈ xss)) w := ⟨_, rfl⟩
  have HRR := Lib.hid hR
  rw [← hR]
  clear h hr hx hR
  go_enter Tryz.func138, Tryz.ntmps138
  go_wp2_with fail
  go_loopw [5] (fun i wr => ∃ k : Nat, k ≤ n ∧ i = .int .i64 k ∧ Hid (∀ j, j < k → xss[j]? ≠ some x) ∧ ∃ q, wr = w.drewN q) (fun i _ => n - (intOf i).toNat)
  case atStart => exact ⟨0, Nat.zero_le _, rfl, Lib.hid (fun j hj => absurd hj (by omega)), 0, rfl⟩
  case round =>
    obtain ⟨k, hk, rfl, HP, q, rfl⟩ := hrel
    by_cases hlt : k < n
    · obtain ⟨ad, A3, n3, c3, y, rfl, hbk, hy, hcy, hr3⟩ := HRD.out.at_ hlt
      have hcy' : (w.drewN q).cell? (ad.add k) = some (.slice A3 n3 c3) := hcy
      have hn3 : n3 ≤ 1000000000 := by rw [← hr3.len]; exact HX.out y (List.mem_of_getElem? hy.out)
      have HC2 := Lib.hid (same_any A3 A2 c3 c2 n3 n2 _ _ y x (w.drewN q) (hr3.drewN q) (HR.out.drewN q) (by omega) (by omega))
      clear hr3 hcy
      by_cases hxy : y = x
      · have HXY := Lib.hid hxy
        rw [decide_eq_true hxy] at HC2
        clear hxy
        go_wp2_with fail
        refine HC2.out.mono ?_
        rintro e w1 ⟨rfl, q1, rfl⟩
        go_wp2_with fail
        rw [HRR.out]
        refine ⟨(k : Int), rfl, Lib.hid ?_, (by first | exact ⟨_, rfl⟩ | exact ⟨_, World.drewN_drewN _ _ _⟩ | (simp only [World.drewN_drewN]; exact ⟨_, rfl⟩))⟩
        rw [decide_eq_true (by omega : (0 : Int) ≤ k), decide_eq_true]
        rw [← HXY.out]
        exact List.mem_of_getElem? hy.out
      · have HXY := Lib.hid hxy
        rw [decide_eq_false hxy] at HC2
        clear hxy
        go_wp2_with fail
        refine HC2.out.mono ?_
        rintro e w1 ⟨rfl, q1, rfl⟩
        go_wp2_with fail
        go_roundw
        case rel => exact ⟨k + 1, by omega, by go_num, Lib.hid (fun j hj => by
          rcases Nat.lt_succ_iff_lt_or_eq.1 hj with h | rfl
          · exact HP.out j h
          · rw [hy.out]
            intro e
            exact HXY.out (Option.some.inj e)), (by first | exact ⟨_, rfl⟩ | exact ⟨_, World.drewN_drewN _ _ _⟩ | (simp only [World.drewN_drewN]; exact ⟨_, rfl⟩))⟩
        case measure => simp [intOf]; omega
    · have HKN := Lib.hid (show n ≤ k by omega)
      go_wp2_with fail
      rw [HRR.out]
      refine ⟨-1, rfl, Lib.hid ?_, (by first | exact ⟨_, rfl⟩ | exact ⟨_, World.drewN_drewN _ _ _⟩ | (simp only [World.drewN_drewN]; exact ⟨_, rfl⟩))⟩
      rw [decide_eq_false (by omega), decide_eq_false]
      intro hm
      obtain ⟨j, hj⟩ := List.mem_iff_getElem?.1 hm
      have hjl := (List.getElem?_eq_some_iff.1 hj).1
      exact HP.out j (by have := HL.out; have := HKN.out; omega) hj
end Go.Proofs.YtoodhbafleemjaaGreat

/- spec.l09Row: terms without the greatest terms of rows. -/
namespace Go.Proofs.YtoodhbafleemjaaGreat
open Go.RowKit
set_option linter.unusedVariables false

theorem redT_take {rows : List Pol} {t r : Pol} {k : Nat} (h : rows[k]? = some r) : redT (rows.take (k + 1)) t = (if lastL r ∈ redT (rows.take k) t then oddL (redT (rows.take k) t ++ r) else redT (rows.take k) t) := by
  rw [List.take_add_one, h]
  unfold redT
  rw [List.foldl_append]; rfl
theorem asc_le {t M : Pol} (h : Asc t) (hs : ∀ z ∈ t, z ∈ M) : t.length ≤ M.length := (asc_nodup h).length_le_of_subset hs
theorem total_le {t M : Pol} {b : Nat} (h : Asc t) (hs : ∀ z ∈ t, z ∈ M) (hb : ∀ z ∈ M, z.length ≤ b) : totalL t ≤ M.length * b := by
  have h1 : totalL t ≤ t.length * b := by
    clear h
    induction t with
    | nil => simp [totalL]
    | cons x t ih =>
      have := ih fun z hz => hs z (List.mem_cons_of_mem _ hz)
      have h2 := hb x (hs x (by simp))
      simp only [totalL, List.map_cons, List.sum_cons, List.length_cons] at this ⊢
      rw [Nat.add_mul]; omega
  exact Nat.le_trans h1 (Nat.mul_le_mul_right _ (asc_le h hs))
/-- terms and rows over a list of monomials that is not too long -/
structure Within (M t : Pol) : Prop where
  asc : Asc t
  sub : ∀ z ∈ t, z ∈ M
structure Small (M : Pol) : Prop where
  len : M.length ≤ 1000000
  each : ∀ z ∈ M, z.length ≤ 8
theorem Within.len {M t : Pol} (h : Within M t) (hM : Small M) : t.length ≤ 1000000 := Nat.le_trans (asc_le h.asc h.sub) hM.len
theorem Within.total {M t : Pol} (h : Within M t) (hM : Small M) : totalL t ≤ 8000000 := Nat.le_trans (total_le h.asc h.sub hM.each) (by have := hM.len; omega)
theorem Within.odd {M s t : Pol} (h : Within M s) (k : Within M t) : Within M (oddL (s ++ t)) := ⟨oddL_asc _, fun z hz => by
  rcases List.mem_append.1 (oddL_mem hz) with hz | hz
  · exact h.sub z hz
  · exact k.sub z hz⟩
theorem Within.redT {M t : Pol} {rows : List Pol} (h : Within M t) (hr : ∀ r ∈ rows, Within M r) : Within M (redT rows t) := by
  induction rows generalizing t with
  | nil => exact h
  | cons r rs ih =>
    show Within M (Go.Proofs.YtoodhbafleemjaaGreat.redT rs (if lastL r ∈ t then oddL (t ++ r) else t))
    refine ih ?_ fun q hq => hr q (List.mem_cons_of_mem _ hq)
    split
    · exact h.odd (hr r (by simp))
    · exact h
theorem lastL_at {r : Pol} {m : Nat} (h : r.length = m + 1) : r[m]? = some (lastL r) := by
  unfold lastL
  rw [List.getLast?_eq_getElem?, h, Nat.add_sub_cancel, List.getElem?_eq_getElem (by omega)]; rfl
theorem rdL_stay {w w' : World} {A : Option Addr} {n c : Nat} {t : Pol} (h : RdL w w.heap.size A n c t) (hb : Below w.heap.size w w') : RdL w' w'.heap.size A n c t := (h.below hb).mono hb.size
set_option maxRecDepth 100000 in
theorem row09_any (M : Pol) (A At : Option Addr) (n c nt ct : Nat) (rows : List Pol) (t : Pol) (w : World) (hM : Small M) (h : RdC w w.heap.size A n c rows) (ht : RdL w w.heap.size At nt ct t) (hn : n ≤ 1000000)
    (hR : ∀ r ∈ rows, Within M r ∧ r ≠ []) (hT : Within M t) : Calls Tryz.prog 122 #[.slice A n c, .slice At nt ct] w (RetRL (redT rows t) w) := by
  have HRD := Lib.hid h
  have HL := Lib.hid h.len
  have HT0 := Lib.hid ht
  have HM := Lib.hid hM
  have HRW := Lib.hid hR
  have HTW := Lib.hid hT
  have HTl := Lib.hid ht.len
  obtain ⟨R, hRR⟩ : ∃ R, R = RetRL (redT rows t) w := ⟨_, rfl⟩
  have HRR := Lib.hid hRR
  rw [← hRR]
  clear h ht hM hR hT hRR
  go_enter Tryz.func122, Tryz.ntmps122
  go_wp2_with fail
  go_loopw [1, 5] (fun o i wr => ∃ (k l c' : Nat) (A' : Option Addr) (u : Pol), k ≤ n ∧ i = .int .i64 k ∧ o = .slice A' l c' ∧ Hid (u = redT (rows.take k) t) ∧ Hid (RdL wr wr.heap.size A' l c' u) ∧ Hid (Below w.heap.size w wr)) (fun _ i _ => n - (intOf i).toNat)
  case atStart => exact ⟨0, nt, ct, At, t, Nat.zero_le _, rfl, rfl, Lib.hid (by rw [List.take_zero]; rfl), HT0, Lib.hid (Below.refl _ _)⟩
  case round =>
    obtain ⟨k, l, c', A', u, hk, rfl, rfl, HU, HO, HB⟩ := hrel
    by_cases hlt : k < n
    · obtain ⟨ad, A3, n3, c3, r, rfl, hbk, hr, hcr, hr3⟩ := (HRD.out.here HB.out).at_ hlt
      have hW := HRW.out r (List.mem_of_getElem? hr.out)
      have HW := Lib.hid hW
      have hUW : Within M u := by rw [HU.out]; exact HTW.out.redT fun q hq => (HRW.out q (List.mem_of_mem_take hq)).1
      have HUW := Lib.hid hUW
      have hrl : r.length = n3 := hr3.len
      obtain ⟨m, hm⟩ : ∃ m, n3 = m + 1 := ⟨n3 - 1, by
        have : r.length ≠ 0 := fun e => hW.2 (List.eq_nil_of_length_eq_zero e)
        omega⟩
      have hn3 : n3 ≤ 1000000 := by rw [← hrl]; exact hW.1.len HM.out
      have hul : l ≤ 1000000 := by rw [← HO.out.len]; exact hUW.len HM.out
      have hmn : m < n3 := by omega
      have hwk : IntKind.i64.wrap ((n3 : Int) - 1) = m := by rw [IntKind.wrap_i64]; omega
      obtain ⟨ad2, A4, n4, c4, z, rfl, hbz, hz, hcz, hr4⟩ := hr3.at_ hmn
      have hzl : z = lastL r := by
        have := lastL_at (r := r) (m := m) (by omega)
        rw [hz.out] at this
        exact Option.some.inj this
      have HZ := Lib.hid hzl
      have hn4 : n4 ≤ 8 := by rw [← hr4.len]; exact HM.out.each z (hW.1.sub z (List.mem_of_getElem? hz.out))
      have C1 := Lib.hid (place_any A' A4 l c' n4 c4 _ _ u z wr HO.out hr4 (by omega) (by omega) (fun y hy => Nat.le_trans (HM.out.each y (hUW.sub y hy)) (by omega)))
      have HR3 := Lib.hid hr3
      have HTK := Lib.hid (redT_take (t := t) hr.out)
      have HRl := Lib.hid hrl
      clear hW hUW hr3 hr4 hzl hrl
      by_cases hin : z ∈ u
      · have HIN := Lib.hid hin
        rw [decide_eq_true hin] at C1
        clear hin hm
        go_wp2_with fail
        refine C1.out.mono ?_
        rintro e w1 ⟨p, rfl, hp, q, hq⟩
        have hb1 : Below wr.heap.size wr w1 := by rw [hq]; exact below_drewN (Below.refl _ _) q
        have hp0 : 0 ≤ p := by have := hp.out; simpa using this
        have C2 := Lib.hid (l01Sum_any A' (some ad2) l c' n3 c3 u r w1 (rdL_stay HO.out hb1) (rdL_stay HR3.out hb1) (by omega) (by omega)
          (by have := HUW.out.total HM.out; omega) (by have := HW.out.1.total HM.out; omega) HUW.out.asc HW.out.1.asc)
        have HB1 := Lib.hid (HB.out.trans (hb1.mono HB.out.size))
        clear hq hb1
        go_wp2_with fail
        refine C2.out.mono ?_
        rintro e w2 ⟨A5, c5, rfl, ho5, hb5⟩
        have HB2 := Lib.hid (HB1.out.trans (hb5.mono HB1.out.size))
        have HO5 := Lib.hid ho5.rd
        have HU5 := Lib.hid (show oddL (u ++ r) = redT (rows.take (k + 1)) t by rw [HTK.out, ← HU.out, ← HZ.out, if_pos HIN.out])
        clear ho5 hb5
        go_wp2_with fail
        go_roundw
        case rel => exact ⟨k + 1, _, _, _, _, by omega, by go_num, rfl, HU5, HO5, HB2⟩
        case measure => simp [intOf]; omega
      · have HIN := Lib.hid hin
        rw [decide_eq_false hin] at C1
        clear hin hm
        go_wp2_with fail
        refine C1.out.mono ?_
        rintro e w1 ⟨p, rfl, hp, q, hq⟩
        have hb1 : Below wr.heap.size wr w1 := by rw [hq]; exact below_drewN (Below.refl _ _) q
        have hp0 : ¬ 0 ≤ p := by have := hp.out; simpa using this
        have HB1 := Lib.hid (HB.out.trans (hb1.mono HB.out.size))
        have HO1 := Lib.hid (rdL_stay HO.out hb1)
        have HU5 := Lib.hid (show u = redT (rows.take (k + 1)) t by rw [HTK.out, ← HU.out, ← HZ.out, if_neg HIN.out])
        clear hq hb1
        go_wp2_with fail
        go_roundw
        case rel => exact ⟨k + 1, _, _, _, _, by omega, by go_num, rfl, HU5, HO1, HB1⟩
        case measure => simp [intOf]; omega
    · have hkn : k = n := by omega
      have HKN := Lib.hid hkn
      clear hkn
      go_wp2_with fail
      rw [HRR.out]
      exact RetRL.mk HO.out (by rw [HU.out, List.take_of_length_le (by rw [HL.out, HKN.out]; exact Nat.le_refl _)]) HB.out
end Go.Proofs.YtoodhbafleemjaaGreat
