/- All monomials of a degree on both sides: impl.monomials; spec.l08Monomials, l08All, l09Count. -/
import Derived.Test.YtoigdiekkkkapaaHitC
import Derived.Test.YtoigdiekkkkapaaWords
import Derived.Test.YtoigdiekkkkapaaMon
import Derived.Test.YtoigdiekkkkapaaTri
namespace Go.Proofs.Ytoigdiekkkkapaa
open Go.RowKit
set_option linter.unusedVariables false

theorem mons_le {k d : Nat} (hk : k ≤ 3) (hd : d ≤ 40) : (mons k d).length ≤ 12341 := by
  match k, hk with
  | 0, _ => simp [mons]
  | 1, _ => rw [mons_len1]; omega
  | 2, _ =>
    have h1 := mons_len2 d
    have h2 : (d + 1) * (d + 2) ≤ 41 * 42 := Nat.mul_le_mul (by omega) (by omega)
    omega
  | 3, _ =>
    have h1 := mons_len3 d
    have h2 : (d + 1) * (d + 2) * (d + 3) ≤ 41 * 42 * 43 := Nat.mul_le_mul (Nat.mul_le_mul (by omega) (by omega)) (by omega)
    omega
theorem mons_each {k d : Nat} : ∀ z ∈ mons k d, z.length = k + 1 := fun z hz => ((mons_mem k d z).1 hz).2.2

theorem monomials_any (k : Nat) : ∀ (v dd : Int) (d : Nat) (w : World), v = (k : Int) + 1 → dd = (d : Int) → k ≤ 3 → d ≤ 40 →
    Calls Try.prog 60 #[.int .i64 v, .int .i64 dd] w (RetL (mons k d).length (mons k d) w) := by
  induction k with
  | zero =>
    intro v dd d w hv hdd _ hd
    obtain rfl : v = 1 := by omega
    have HO := Lib.hid ((ownL_one (own_one w dd w.heap.size (Nat.le_refl _)) (by simp)).mono (Nat.le_refl _) (Nat.le_succ _))
    have HB := Lib.hid (((Below.refl w.heap.size w).alloc (Nat.le_refl _) (.cells #[.int .i64 dd] 2)).alloc (by simp) (.cells #[.slice (some ⟨w.heap.size, 0, none⟩) 1 1] 31))
    have HD := Lib.hid hdd
    clear hv hdd
    go_enter Try.func60, Try.ntmps60
    go_wp2_with fail
    go_ret
    refine ⟨_, _, rfl, ?_, ?_⟩
    · have := HO.out; rw [HD.out] at this ⊢; simpa [mons] using this
    · have := HB.out; simpa using this
  | succ k ih =>
    intro v dd d w hv hdd hk3 hd
    have IH := Lib.hid ih; clear ih
    have hv1 : (v == 1) = false := by simp; omega
    have hwv : IntKind.i64.wrap (v - 1) = v - 1 := by rw [IntKind.wrap_i64]; omega
    have hwd : IntKind.i64.wrap (dd + 1) = dd + 1 := by rw [IntKind.wrap_i64]; omega
    have Hv := Lib.hid hv; have Hdd := Lib.hid hdd
    have hv4 : 2 ≤ v ∧ v ≤ 4 := by omega
    have hd40 : 0 ≤ dd ∧ dd ≤ 40 := by omega
    clear hv hdd
    obtain ⟨B, hB⟩ : ∃ B, B = w.heap.size := ⟨_, rfl⟩
    have HBe := Lib.hid hB
    have hBle : B ≤ w.heap.size := by omega
    clear hB
    obtain ⟨F, hF⟩ : ∃ F : Nat → List (List Int), F = fun i => (mons k (d - i)).map (fun r => (i : Int) :: r) := ⟨_, rfl⟩
    have hlw : mons (k + 1) d = (List.range (d + 1)).flatMap F := by rw [hF]; rfl
    have HF := Lib.hid hF
    rw [hlw]
    obtain ⟨R, hR⟩ : ∃ R, R = (List.range (d + 1)).flatMap F := ⟨_, rfl⟩
    rw [← hR]
    have HRR := Lib.hid hR
    obtain ⟨rl, hrl⟩ : ∃ rl, rl = R.length := ⟨_, rfl⟩
    rw [← hrl]
    have HRL := Lib.hid hrl
    clear hF hlw hR hrl
    have HO := Lib.hid (ownL_empty w B (w.heap.size + 1) hBle)
    have HB := Lib.hid ((Below.refl B w).alloc hBle (.cells #[] 31))
    go_enter Try.func60, Try.ntmps60
    go_wp2_with fail
    go_loopw [5, 17] (fun o r wr => ∃ (i l c : Nat) (A : Option Addr) (acc : List (List Int)), (i : Int) ≤ dd + 1 ∧ r = .int .i64 i ∧ o = .slice A l c ∧ l ≤ i * 12341 ∧ Hid (acc = (List.range i).flatMap F) ∧ OwnL wr B wr.heap.size A l c acc ∧ Below B w wr) (fun _ r _ => 100 - (intOf r).toNat)
    case atStart => exact ⟨0, 0, _, _, [], by omega, rfl, rfl, by omega, Lib.hid rfl, by simpa using HO.out, HB.out⟩
    case round =>
      clear HO HB
      obtain ⟨i, l, c, A, acc, hi2, rfl, rfl, hl, HA, HO, HB⟩ := hrel
      have HO1 := Lib.hid HO; clear HO
      have HB1 := Lib.hid HB; clear HB
      by_cases hin : (i : Int) ≤ dd
      · have hin' : (i : Int) < dd + 1 := by omega
        have hwi : IntKind.i64.wrap (dd - (i : Int)) = dd - (i : Int) := by rw [IntKind.wrap_i64]; omega
        have hi0 : (0 : Int) ≤ (i : Int) := by omega
        have C1 := Lib.hid (IH.out (v - 1) (dd - (i : Int)) (d - i) wr (by have := Hv.out; push_cast at this; omega) (by have := Hdd.out; omega) (by omega) (by omega))
        go_wp2_with fail
        refine C1.out.mono ?_
        rintro e w1 ⟨A1, c1, rfl, ho1, hb1⟩
        obtain ⟨ws, hws⟩ : ∃ ws, ws = mons k (d - i) := ⟨_, rfl⟩
        rw [← hws] at ho1 ⊢
        have hFi : F i = ws.map (fun r => (i : Int) :: r) := by rw [HF.out, hws]
        have hwl : ws.length ≤ 12341 := by rw [hws]; exact mons_le (by omega) (by omega)
        have HFi := Lib.hid hFi
        have Hwe : Hid (∀ r ∈ ws, r.length = k + 1) := Lib.hid (by rw [hws]; exact mons_each)
        clear hws hFi C1
        have hBr : B ≤ wr.heap.size := by have := HB1.out.size; omega
        have O1 := Lib.hid ((HO1.out.below hb1).mono (Nat.le_refl B) hb1.size)
        have N1 := Lib.hid (show ∀ g, Value.ownBlock (.slice A l c) = some g → Value.ownBlock (.slice A1 ws.length c1) ≠ some g from fun g hg hg' => by
          have h1 := HO1.out.lt g hg; have h2 := ho1.row g hg'; omega)
        have R1 := Lib.hid ho1
        have B1 := Lib.hid (HB1.out.trans (hb1.mono hBr)); clear ho1 hb1
        obtain ⟨ln, hln⟩ : ∃ ln, ln = ws.length := ⟨_, rfl⟩
        rw [← hln] at R1 N1 ⊢
        have Hln := Lib.hid hln
        have hln2 : ln ≤ 12341 := by omega
        clear hln hwl
        obtain ⟨S0, hS0⟩ : ∃ S0, S0 = wr.heap.size := ⟨_, rfl⟩
        rw [← hS0] at R1
        clear hS0
        go_wp2_with fail
        go_loopw [5, 27] (fun o r wr => ∃ (j l' c' : Nat) (A' : Option Addr) (acc' : List (List Int)), j ≤ ln ∧ r = .int .i64 j ∧ o = .slice A' l' c' ∧ l' ≤ i * 12341 + j ∧ Hid (acc' = acc ++ (ws.take j).map (fun r => (i : Int) :: r)) ∧
          OwnL wr B wr.heap.size A' l' c' acc' ∧ Below B w wr ∧ OwnL wr S0 w1.heap.size A1 ln c1 ws ∧ Hid (∀ g, Value.ownBlock (.slice A' l' c') = some g → Value.ownBlock (.slice A1 ln c1) ≠ some g) ∧ Hid (w1.heap.size ≤ wr.heap.size)) (fun _ r _ => ln - (intOf r).toNat)
        case atStart => exact ⟨0, l, c, A, acc, Nat.zero_le _, rfl, rfl, Nat.le_trans hl (Nat.le_add_right _ _), Lib.hid (by rw [List.take_zero, List.map_nil, List.append_nil]), O1.out, B1.out, R1.out, N1, Lib.hid (Nat.le_refl _)⟩
        case round =>
          clear HO1 HB1 O1 B1 R1 N1
          obtain ⟨j, l', c', A', acc', hj, rfl, rfl, hl', HA', HO, HB, HR, HN, HS⟩ := hrel
          have HO2 := Lib.hid HO; clear HO
          have HB2 := Lib.hid HB; clear HB
          have HR2 := Lib.hid HR; clear HR
          by_cases hlt : j < ln
          · obtain ⟨ad, A3, n3, c3, r, rfl, _, hr, hc, hrs⟩ := HR2.out.rd.at_ hlt
            have hb0 : Below wr.heap.size wr (wr.alloc (.cells #[.int .i64 i] 2)) := (Below.refl _ _).alloc (Nat.le_refl _) _
            have I1 := Lib.hid (own_one wr (i : Int) wr.heap.size (Nat.le_refl _))
            have I2 := Lib.hid (hrs.below hb0)
            have hBs : B ≤ wr.heap.size := by have := HB2.out.size; have := HBe.out; omega
            have hn3 : n3 ≤ 7 := by rw [← hrs.len, Hwe.out r (List.mem_of_getElem? hr.out)]; omega
            clear hrs
            go_wp2_with (at_builtin; refine wpList_appI rfl (.tmp 33) (.tmp 34) rfl rfl rfl I1.out I2.out (by omega) (by simp) ?_)
            intro A4 c4 w4 ho4 hg4 _
            have hb4 : Below wr.heap.size wr w4 := hb0.grown hg4 (by simp) I1.out.row
            have I4 := Lib.hid ho4; clear ho4
            have hb5 : Below w4.heap.size w4 (w4.alloc (.cells #[.slice A4 (1 + n3) c4] 31)) := (Below.refl _ _).alloc (Nat.le_refl _) _
            have I5 := Lib.hid (I4.out.below hb5)
            have HO5 := Lib.hid ((HO2.out.below hb4).below hb5)
            have HR5 := Lib.hid ((HR2.out.below hb4).below hb5)
            have HB5 := Lib.hid ((HB2.out.trans (hb4.mono hBs)).trans (hb5.mono (Nat.le_trans hBs hb4.size)))
            have V5 := Lib.hid (rdV_new w4 (.slice A4 (1 + n3) c4) 31)
            have S5 := Lib.hid (show wr.heap.size ≤ (w4.alloc (.cells #[.slice A4 (1 + n3) c4] 31)).heap.size from Nat.le_trans hb4.size hb5.size)
            clear hb0 hb4 hb5 hg4
            go_wp2_with (at_builtin; refine wpList_appL rfl (.tmp 31) (.tmp 36) rfl rfl rfl HO5.out I5.out V5.out (by omega) hBs S5.out ?_)
            intro A6 c6 w6 ho6 hg6 hrow6
            have hj' : ws.take (j + 1) = ws.take j ++ [r] := by rw [List.take_add_one, hr.out]; rfl
            have HA6 := Lib.hid (show acc' ++ [[(i : Int)] ++ r] = acc ++ (ws.take (j + 1)).map (fun r => (i : Int) :: r) by rw [HA'.out, hj', List.map_append]; simp)
            have HR6 := Lib.hid (HR5.out.grownL hg6 HN.out HO5.out.kind)
            have HN6 := Lib.hid (ne_row hrow6 HN.out (fun g hg => by have := HR5.out.lt g hg; simpa using this))
            have HB6 := Lib.hid (HB5.out.grown hg6 (Nat.le_trans hBs S5.out) HO5.out.row)
            have HS6 := Lib.hid (Nat.le_trans HS.out (Nat.le_trans S5.out hg6.size))
            have HO6 := Lib.hid ho6; clear ho6 hg6 hrow6 hj'
            go_wp2_with fail
            go_roundw
            case rel => exact ⟨j + 1, l' + 1, _, _, _, by omega, by go_num, rfl, by omega, HA6, HO6.out, HB6.out, HR6.out, HN6, HS6⟩
            case measure => simp [intOf]; omega
          · obtain rfl : j = ln := by omega
            rw [List.take_of_length_le (by rw [← Hln.out]; omega)] at HA'
            go_wp2_with fail
            go_roundw
            case rel => exact ⟨i + 1, l', _, _, _, by omega, by go_num, rfl, by omega, Lib.hid (by rw [HA'.out, ← HFi.out, HA.out, List.range_succ, List.flatMap_append]; simp), HO2.out, HB2.out⟩
            case measure => simp [intOf]; omega
      · have hend : i = d + 1 := by have := Hdd.out; omega
        have hni : ¬ (i : Int) < dd + 1 := by omega
        have hnd : decide ((i : Int) < dd + 1) = false := decide_eq_false hni
        have HEnd := Lib.hid hend
        clear hend
        go_wp2_with fail
        go_ret
        have h1 := HO1.out
        rw [HA.out, HEnd.out, ← HRR.out] at h1
        have hlen : l = rl := by rw [← h1.len, HRL.out]
        subst hlen
        exact ⟨_, _, rfl, HBe.out ▸ h1, HBe.out ▸ HB1.out⟩
theorem mons_step {j d : Nat} (hj : j + 1 ≤ 3) : (mons (j + 1) d).length * (j + 1) = (mons j d).length * (d + (j + 1)) := by
  match j, hj with
  | 0, _ => rw [mons_len1]; simp [mons]
  | 1, _ =>
    have h1 := mons_len2 d
    rw [mons_len1]
    rw [show 1 + 1 = 2 from rfl, Nat.mul_comm _ 2]; exact h1
  | 2, _ =>
    have h1 := mons_len3 d
    have h2 := mons_len2 d
    rw [← h2, Nat.mul_assoc] at h1
    rw [show 2 + 1 = 3 from rfl]
    omega
end Go.Proofs.Ytoigdiekkkkapaa

/- spec.l08Monomials, spec.l08All: all monomials of a degree. -/
namespace Go.Proofs.Ytoigdiekkkkapaa
open Go.RowKit
set_option linter.unusedVariables false

end Go.Proofs.Ytoigdiekkkkapaa

/- spec.l09Rows: the rows of hit polynomials. -/
namespace Go.Proofs.Ytoigdiekkkkapaa
open Go.RowKit
set_option linter.unusedVariables false

theorem Try.info_q3 : (Try.prog.info? 24).map (fun i => (i.zero, i.size, i.bytes)) = some (some (.slice none 0 0), 1, 24) := by kernel_rfl
theorem putR_at {x : Pol} : ∀ {rows : List Pol} {k : Nat}, k ≤ rows.length → (∀ j, j < k → ∀ y, rows[j]? = some y → ltL (lastL x) (lastL y) = true) → (∀ y, rows[k]? = some y → ltL (lastL x) (lastL y) = false) → putR x rows = rows.take k ++ x :: rows.drop k
  | [], k, hk, h1, h2 => by
    have : k = 0 := by simpa using hk
    subst this; simp [putR]
  | y :: s, 0, hk, h1, h2 => by
    have := h2 y rfl
    rw [putR, if_neg (by rw [this]; simp)]; simp
  | y :: s, k + 1, hk, h1, h2 => by
    have hy := h1 0 (Nat.succ_pos _) y rfl
    have ih := putR_at (x := x) (rows := s) (k := k) (by simpa using hk) (fun j hj z hz => h1 (j + 1) (by omega) z (by simpa using hz)) (fun z hz => h2 z (by simpa using hz))
    rw [putR, if_pos hy, ih]; simp
theorem rows_le {rows : List Pol} {M : Pol} (h : RowsOk rows) (hs : ∀ r ∈ rows, ∀ z ∈ r, z ∈ M) : rows.length ≤ M.length := by
  have hn : (rows.map lastL).Nodup := by
    unfold List.Nodup
    rw [List.pairwise_map]
    refine h.desc.imp fun {a b} hab e => ?_
    rw [e, ltL_irrefl] at hab; cases hab
  have := hn.length_le_of_subset (l₂ := M) fun z hz => by
    obtain ⟨r, hr, rfl⟩ := List.mem_map.1 hz
    exact hs r hr _ (lastL_mem (h.each r hr).2)
  simpa using this
theorem mons_small {k d : Nat} (hk : k ≤ 3) (hd : d ≤ 40) : Small (mons k d) := ⟨Nat.le_trans (mons_le hk hd) (by omega), fun z hz => by rw [mons_each z hz]; omega⟩
/-- a call that answers rows that are only read -/
def RetRC (qs : List Pol) (w : World) (e : Ending) (w' : World) : Prop := ∃ A c, e = .returned (.slice A qs.length c) ∧ RdC w' w'.heap.size A qs.length c qs ∧ Below w.heap.size w w'
theorem RetRC.mk {t u : List Pol} {A : Option Addr} {n c : Nat} {w w' : World} (h : RdC w' w'.heap.size A n c u) (e : u = t) (hb : Below w.heap.size w w') : RetRC t w (.returned (.slice A n c)) w' := by
  subst e
  obtain rfl := h.len
  exact ⟨A, c, rfl, h, hb⟩
theorem rdC_nil (w : World) : RdC (w.alloc (.cells #[] 24)) (w.alloc (.cells #[] 24)).heap.size (some ⟨w.heap.size, 0, none⟩) 0 0 [] := RdC.nil ⟨rfl, Nat.le_refl _, fun j h => absurd h (by simp)⟩
/-- the rows after some generators -/
structure Gens (M : Pol) (gs : List Pol) : Prop where
  all : ∀ g ∈ gs, Within M g
theorem Gens.rows {M : Pol} {gs : List Pol} (h : Gens M gs) : ∀ r ∈ rowsP gs, Within M r ∧ r ≠ [] := fun r hr => by
  have h1 := (rowsP_ok gs fun g hg => (h.all g hg).asc).each r hr
  exact ⟨⟨h1.1, rows_sub gs (fun g hg => (h.all g hg).sub) r hr⟩, h1.2⟩
theorem Gens.ok {M : Pol} {gs : List Pol} (h : Gens M gs) : RowsOk (rowsP gs) := rowsP_ok gs fun g hg => (h.all g hg).asc
theorem Gens.len {M : Pol} {gs : List Pol} (h : Gens M gs) : (rowsP gs).length ≤ M.length := rows_le h.ok fun r hr => (h.rows r hr).1.sub
theorem gens_mid {k d J m : Nat} (h : ∀ j < J + 1, 2 ^ j ≤ d) : Gens (mons k d) (gensTo k d J ++ (sqG k d J).take m) := ⟨fun g hg => by
  have h1 : g ∈ gensTo k d (J + 1) := by
    rw [gensTo_succ]
    rcases List.mem_append.1 hg with hg | hg
    · exact List.mem_append_left _ hg
    · exact List.mem_append_right _ (List.mem_of_mem_take hg)
  have := gensTo_sub h g h1
  exact ⟨this.1, this.2⟩⟩
theorem gens_J {k d J : Nat} (h : ∀ j < J, 2 ^ j ≤ d) : Gens (mons k d) (gensTo k d J) := ⟨fun g hg => by
  have := gensTo_sub h g hg
  exact ⟨this.1, this.2⟩⟩
theorem sqG_len (k d J : Nat) : (sqG k d J).length = (mons k (d - 2 ^ J)).length := by unfold sqG; rw [List.length_map]
theorem sqG_step {k d J m : Nat} {x : List Int} (hx : (mons k (d - 2 ^ J))[m]? = some x) : (sqG k d J).take (m + 1) = (sqG k d J).take m ++ [oddL (sqP [x] ((2 ^ J : Nat) : Int))] := by
  rw [List.take_add_one]
  unfold sqG
  rw [List.getElem?_map, hx]; rfl
end Go.Proofs.Ytoigdiekkkkapaa
