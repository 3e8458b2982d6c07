/- Admissible words of the lambda algebra: lambdaWords (program) and l16Words (reference). -/
import Derived.Test.YtdgcgcodjddddaaDoorLL
import Derived.Test.YtdgcgcodjddddaaDoorSums
namespace Go.Proofs.YtdgcgcodjddddaaDoor
open Go.RowKit
set_option linter.unusedVariables false

/-- the admissible words of s numbers with the sum n whose first number is at most m -/
def lw : Nat → Nat → Nat → List (List Int)
  | 0, n, _ => if n = 0 then [[]] else []
  | s + 1, n, m => (List.range (min n m + 1)).flatMap (fun i => (lw s (n - i) (2 * i)).map (fun r => (i : Int) :: r))
theorem flatMap_range_length (f : Nat → List (List Int)) (b k : Nat) (h : ∀ i, i < k → (f i).length ≤ b) : ((List.range k).flatMap f).length ≤ k * b := by
  induction k with
  | zero => simp
  | succ k ih =>
    rw [List.range_succ, List.flatMap_append, List.length_append, Nat.succ_mul]
    have h1 := ih (fun i hi => h i (by omega))
    have h2 := h k (by omega)
    have h3 : (List.flatMap f [k]).length = (f k).length := by simp
    omega
theorem lw_length (s n m : Nat) (hn : n ≤ 11) : (lw s n m).length ≤ 12 ^ s := by
  induction s generalizing n m with
  | zero => unfold lw; split <;> simp
  | succ s ih =>
    unfold lw
    refine Nat.le_trans (flatMap_range_length _ (12 ^ s) _ (fun i _ => ?_)) ?_
    · rw [List.length_map]; exact ih (n - i) (2 * i) (by omega)
    · rw [Nat.pow_succ, Nat.mul_comm]; exact Nat.mul_le_mul_left _ (by omega)
theorem lw_each (s n m : Nat) : ∀ r ∈ lw s n m, r.length = s := by
  induction s generalizing n m with
  | zero => intro r hr; unfold lw at hr; split at hr <;> simp_all
  | succ s ih =>
    intro r hr
    unfold lw at hr
    rw [List.mem_flatMap] at hr
    obtain ⟨i, _, hr⟩ := hr
    rw [List.mem_map] at hr
    obtain ⟨r', hr', rfl⟩ := hr
    simp [ih _ _ r' hr']
theorem totalL_le (xss : List (List Int)) (b : Nat) (h : ∀ r ∈ xss, r.length ≤ b) : totalL xss ≤ xss.length * b := by
  induction xss with
  | nil => simp [totalL]
  | cons x r ih =>
    have h1 := ih (fun r hr => h r (List.mem_cons_of_mem _ hr))
    have h2 := h x (List.mem_cons_self ..)
    have h3 : totalL (x :: r) = x.length + totalL r := by simp [totalL]
    rw [h3, List.length_cons, Nat.succ_mul]; omega
theorem lw_bound (s n m : Nat) (hs : s ≤ 7) (hn : n ≤ 11) : (lw s n m).length ≤ 35831808 :=
  Nat.le_trans (lw_length s n m hn) (Nat.le_trans (Nat.pow_le_pow_right (by omega) hs) (by decide))
theorem lw_total (s n m : Nat) (hs : s ≤ 7) (hn : n ≤ 11) : totalL (lw s n m) ≤ 1000000000 := by
  refine Nat.le_trans (totalL_le _ 7 (fun r hr => by rw [lw_each s n m r hr]; exact hs)) ?_
  have := lw_bound s n m hs hn
  omega
/-- a bound at least n changes nothing -/
theorem lw_wide (s n m : Nat) (h : n ≤ m) : lw s n m = lw s n n := by
  cases s with
  | zero => rfl
  | succ s => unfold lw; rw [Nat.min_eq_left h, Nat.min_self]

theorem own_one (w : World) (x : Int) (K : Nat) (hK : K ≤ w.heap.size) : OwnS (w.alloc (.cells #[.int .i64 x] 2)) K (some ⟨w.heap.size, 0, none⟩) 1 1 [x] :=
  ⟨rfl, rfl, .inr ⟨w.heap.size, 1, #[.int .i64 x], rfl, hK, heap_alloc_new w _, Nat.le_refl _, by unfold maxLen; omega, rfl, rfl⟩⟩
theorem rdV_new (w : World) (v : Value) (E : TypeId) : RdV (w.alloc (.cells #[v] E)) (w.heap.size + 1) (some ⟨w.heap.size, 0, none⟩) 1 1 [v] :=
  ⟨rfl, Nat.le_refl _, fun j hj => ⟨_, rfl, Nat.lt_succ_self _, by
    have : j = 0 := by simpa using hj
    subst this
    simp [Addr.add]⟩⟩
/-- a new slice of one owned list -/
theorem ownL_one {w : World} {B A n c xs} (h : OwnS w B A n c xs) (hB : B ≤ w.heap.size) : OwnL (w.alloc (.cells #[.slice A n c] 49)) B w.heap.size (some ⟨w.heap.size, 0, none⟩) 1 1 [xs] :=
  ⟨rfl, [.slice A n c], ⟨rfl, rfl, .inr ⟨w.heap.size, 1, #[.slice A n c], rfl, hB, heap_alloc_new w _, Nat.le_refl _, by unfold maxLen; omega, rfl, rfl⟩⟩,
    fun j v ys hv hy => by
      have hj : j = 0 := by have := (List.getElem?_eq_some_iff.1 hv).1; simpa using this
      subst hj
      simp only [List.getElem?_cons_zero, Option.some.injEq] at hv hy
      subst hv; subst hy
      exact ⟨A, n, c, rfl, h.alloc _, fun g hg => (h.own.lt g hg).2⟩,
    fun i j u v g hij hu hv => by
      have h1 := (List.getElem?_eq_some_iff.1 hu).1
      have h2 := (List.getElem?_eq_some_iff.1 hv).1
      simp at h1 h2; omega⟩

theorem lw_round {s n i : Nat} {acc : List (List Int)} (h : acc = (List.range i).flatMap (fun i => (lw s (n - i) (2 * i)).map (fun r => (i : Int) :: r))) :
    acc ++ (lw s (n - i) (2 * i)).map (fun r => (i : Int) :: r) = (List.range (i + 1)).flatMap (fun i => (lw s (n - i) (2 * i)).map (fun r => (i : Int) :: r)) := by
  rw [h, List.range_succ, List.flatMap_append]; simp

theorem lambdaWords_any (k : Nat) : ∀ (s n m : Int) (w : World), s.toNat = k → 0 ≤ s → s ≤ 7 → 0 ≤ n → n ≤ 11 → 0 ≤ m → m ≤ 100 →
    Calls Tryd.prog 38 #[.int .i64 s, .int .i64 n, .int .i64 m] w (RetL (lw k n.toNat m.toNat).length (lw k n.toNat m.toNat) w) := by
  induction k with
  | zero =>
    intro s n m w hk h0 h7 hn0 hn1 hm0 hm1
    obtain rfl : s = 0 := by omega
    clear hk h0 h7
    by_cases hn : n = 0
    · subst hn
      have HO := Lib.hid ((ownL_one (own_empty (w.alloc (.cells #[] 49)) w.heap.size (by simp)) (by simp; omega)).mono (Nat.le_refl _) (Nat.le_succ _))
      have HB := Lib.hid ((((Below.refl w.heap.size w).alloc (Nat.le_refl _) (.cells #[] 49)).alloc (by simp) (.cells #[] 2)).alloc (by simp; omega) (.cells #[.slice (some ⟨w.heap.size + 1, 0, none⟩) 0 0] 49))
      go_enter Tryd.func38, Tryd.ntmps38
      go_wp2_with fail
      go_ret
      refine ⟨_, _, rfl, ?_, ?_⟩
      · have := HO.out; simpa [lw] using this
      · have := HB.out; simpa using this
    · have hn' : (n == 0) = false := by simpa using hn
      have hl : lw 0 n.toNat m.toNat = [] := by unfold lw; rw [if_neg (by omega)]
      rw [hl]
      clear hl
      have HO := Lib.hid (ownL_empty w w.heap.size (w.heap.size + 1) (Nat.le_refl _))
      have HB := Lib.hid ((Below.refl w.heap.size w).alloc (Nat.le_refl _) (.cells #[] 49))
      go_enter Tryd.func38, Tryd.ntmps38
      go_wp2_with fail
      go_ret
      exact ⟨_, _, rfl, by simpa using HO.out, HB.out⟩
  | succ k ih =>
    intro s n m w hk h0 h7 hn0 hn1 hm0 hm1
    have IH := Lib.hid ih; clear ih
    have hs1 : (s == 0) = false := by simp; omega
    have hs2 : 1 ≤ s := by omega
    have hk6 : k ≤ 6 := by omega
    have hks : (s - 1).toNat = k := by omega
    have Hks := Lib.hid hks; clear hks hk
    obtain ⟨B, hB⟩ : ∃ B, B = w.heap.size := ⟨_, rfl⟩
    have HBe := Lib.hid hB
    have hBle : B ≤ w.heap.size := by omega
    clear hB
    obtain ⟨F, hF⟩ : ∃ F : Nat → List (List Int), F = fun i => (lw k (n.toNat - i) (2 * i)).map (fun r => (i : Int) :: r) := ⟨_, rfl⟩
    have hlw : lw (k + 1) n.toNat m.toNat = (List.range (min n.toNat m.toNat + 1)).flatMap F := by rw [hF]; rfl
    have hFl : ∀ i, i ≤ 11 → (F i).length ≤ 35831808 := by
      intro i _
      rw [hF]; simp only [List.length_map]
      exact lw_bound k _ _ (by omega) (by omega)
    have HF := Lib.hid hF
    have HFl := Lib.hid hFl
    rw [hlw]
    obtain ⟨R, hR⟩ : ∃ R, R = (List.range (min n.toNat m.toNat + 1)).flatMap F := ⟨_, rfl⟩
    rw [← hR]
    have HRR := Lib.hid hR
    obtain ⟨rl, hrl⟩ : ∃ rl, rl = R.length := ⟨_, rfl⟩
    rw [← hrl]
    have HRL := Lib.hid hrl
    clear hF hFl hlw hR hrl
    have HO := Lib.hid (ownL_empty w B (w.heap.size + 1) hBle)
    have HB := Lib.hid ((Below.refl B w).alloc hBle (.cells #[] 49))
    have hd1 : decide (s ≤ 0) = false := by simp; omega
    have hd2 : decide (n < 0) = false := by simp; omega
    go_enter Tryd.func38, Tryd.ntmps38
    go_wp2_with fail
    go_loopw [7, 8] (fun o r wr => ∃ (i l c : Nat) (A : Option Addr) (acc : List (List Int)), i ≤ 12 ∧ i ≤ n.toNat + 1 ∧ i ≤ m.toNat + 1 ∧ r = .int .i64 i ∧ o = .slice A l c ∧ l ≤ i * 35831808 ∧ Hid (acc = (List.range i).flatMap F) ∧ OwnL wr B wr.heap.size A l c acc ∧ Below B w wr) (fun _ r _ => 12 - (intOf r).toNat)
    case atStart => exact ⟨0, 0, _, _, [], by omega, by omega, by omega, rfl, rfl, by omega, Lib.hid rfl, by simpa using HO.out, HB.out⟩
    case round =>
      clear HO HB
      obtain ⟨i, l, c, A, acc, hi1, hi2, hi3, rfl, rfl, hl, HA, HO, HB⟩ := hrel
      have HO1 := Lib.hid HO; clear HO
      have HB1 := Lib.hid HB; clear HB
      by_cases hin : (i : Int) ≤ n ∧ (i : Int) ≤ m
      · obtain ⟨hin, him⟩ := hin
        by_cases hmn : m < n
        all_goals
          go_wp2_with fail
          refine (IH.out (s - 1) (n - i) (2 * i) _ Hks.out (by omega) (by omega) (by omega) (by omega) (by omega) (by omega)).mono ?_
          rintro e w1 ⟨A1, c1, rfl, ho1, hb1⟩
          obtain ⟨ws, hws⟩ : ∃ ws, ws = lw k (n - i).toNat (2 * i : Int).toNat := ⟨_, rfl⟩
          rw [← hws] at ho1 ⊢
          have hFi : F i = ws.map (fun r => (i : Int) :: r) := by
            rw [HF.out, hws, show (n - (i : Int)).toNat = n.toNat - i from by omega, show (2 * (i : Int)).toNat = 2 * i from by omega]
          have hwl : ws.length ≤ 35831808 := by
            rw [hws]; exact lw_bound k _ _ (by omega) (by omega)
          have HFi := Lib.hid hFi
          have Hwe : Hid (∀ r ∈ ws, r.length = k) := Lib.hid (by rw [hws]; exact lw_each k _ _)
          clear hws hFi
          have hBr : B ≤ wr.heap.size := by have := HB1.out.size; omega
          have O1 := Lib.hid ((HO1.out.below hb1).mono (Nat.le_refl B) hb1.size)
          have N1 := Lib.hid (show ∀ g, Value.ownBlock (.slice A l c) = some g → Value.ownBlock (.slice A1 ws.length c1) ≠ some g from fun g hg hg' => by
            have h1 := HO1.out.lt g hg; have h2 := ho1.row g hg'; omega)
          have R1 := Lib.hid ho1
          have B1 := Lib.hid (HB1.out.trans (hb1.mono hBr)); clear ho1 hb1
          obtain ⟨ln, hln⟩ : ∃ ln, ln = ws.length := ⟨_, rfl⟩
          rw [← hln] at R1 N1 ⊢
          have Hln := Lib.hid hln
          have hln2 : ln ≤ 35831808 := by omega
          clear hln hwl
          obtain ⟨S0, hS0⟩ : ∃ S0, S0 = wr.heap.size := ⟨_, rfl⟩
          rw [← hS0] at R1
          clear hS0
          go_wp2_with fail
          go_loopw [7, 45] (fun o r wr => ∃ (j l' c' : Nat) (A' : Option Addr) (acc' : List (List Int)), j ≤ ln ∧ r = .int .i64 j ∧ o = .slice A' l' c' ∧ l' ≤ i * 35831808 + j ∧ Hid (acc' = acc ++ (ws.take j).map (fun r => (i : Int) :: r)) ∧
            OwnL wr B wr.heap.size A' l' c' acc' ∧ Below B w wr ∧ OwnL wr S0 w1.heap.size A1 ln c1 ws ∧ Hid (∀ g, Value.ownBlock (.slice A' l' c') = some g → Value.ownBlock (.slice A1 ln c1) ≠ some g) ∧ Hid (w1.heap.size ≤ wr.heap.size)) (fun _ r _ => ln - (intOf r).toNat)
          case atStart => exact ⟨0, l, c, A, acc, Nat.zero_le _, rfl, rfl, Nat.le_trans hl (Nat.le_add_right _ _), Lib.hid (by rw [List.take_zero, List.map_nil, List.append_nil]), O1.out, B1.out, R1.out, N1, Lib.hid (Nat.le_refl _)⟩
          case round =>
            clear HO1 HB1 O1 B1 R1 N1
            obtain ⟨j, l', c', A', acc', hj, rfl, rfl, hl', HA', HO, HB, HR, HN, HS⟩ := hrel
            have HO2 := Lib.hid HO; clear HO
            have HB2 := Lib.hid HB; clear HB
            have HR2 := Lib.hid HR; clear HR
            by_cases hlt : j < ln
            · obtain ⟨ad, A3, n3, c3, r, rfl, _, hr, hc, hrs⟩ := HR2.out.rd.at_ hlt
              have hb0 : Below wr.heap.size wr (wr.alloc (.cells #[.int .i64 i] 2)) := (Below.refl _ _).alloc (Nat.le_refl _) _
              have I1 := Lib.hid (own_one wr (i : Int) wr.heap.size (Nat.le_refl _))
              have I2 := Lib.hid (hrs.below hb0)
              have hBs : B ≤ wr.heap.size := by have := HB2.out.size; have := HBe.out; omega
              have hn3 : n3 ≤ 7 := by rw [← hrs.len, Hwe.out r (List.mem_of_getElem? hr.out)]; omega
              clear hrs
              go_wp2_with (at_builtin; refine wpList_appI rfl (.tmp 51) (.tmp 52) rfl rfl rfl I1.out I2.out (by omega) (by simp) ?_)
              intro A4 c4 w4 ho4 hg4 _
              have hb4 : Below wr.heap.size wr w4 := hb0.grown hg4 (by simp) I1.out.row
              have I4 := Lib.hid ho4; clear ho4
              have hb5 : Below w4.heap.size w4 (w4.alloc (.cells #[.slice A4 (1 + n3) c4] 49)) := (Below.refl _ _).alloc (Nat.le_refl _) _
              have I5 := Lib.hid (I4.out.below hb5)
              have HO5 := Lib.hid ((HO2.out.below hb4).below hb5)
              have HR5 := Lib.hid ((HR2.out.below hb4).below hb5)
              have HB5 := Lib.hid ((HB2.out.trans (hb4.mono hBs)).trans (hb5.mono (Nat.le_trans hBs hb4.size)))
              have V5 := Lib.hid (rdV_new w4 (.slice A4 (1 + n3) c4) 49)
              have S5 := Lib.hid (show wr.heap.size ≤ (w4.alloc (.cells #[.slice A4 (1 + n3) c4] 49)).heap.size from Nat.le_trans hb4.size hb5.size)
              clear hb0 hb4 hb5 hg4
              go_wp2_with (at_builtin; refine wpList_appL rfl (.tmp 49) (.tmp 54) rfl rfl rfl HO5.out I5.out V5.out (by omega) hBs S5.out ?_)
              intro A6 c6 w6 ho6 hg6 hrow6
              have hj' : ws.take (j + 1) = ws.take j ++ [r] := by rw [List.take_add_one, hr.out]; rfl
              have HA6 := Lib.hid (show acc' ++ [[(i : Int)] ++ r] = acc ++ (ws.take (j + 1)).map (fun r => (i : Int) :: r) by rw [HA'.out, hj', List.map_append]; simp)
              have HR6 := Lib.hid (HR5.out.grownL hg6 HN.out HO5.out.kind)
              have HN6 := Lib.hid (ne_row hrow6 HN.out (fun g hg => by have := HR5.out.lt g hg; simpa using this))
              have HB6 := Lib.hid (HB5.out.grown hg6 (Nat.le_trans hBs S5.out) HO5.out.row)
              have HS6 := Lib.hid (Nat.le_trans HS.out (Nat.le_trans S5.out hg6.size))
              have HO6 := Lib.hid ho6; clear ho6 hg6 hrow6 hj'
              go_wp2_with fail
              go_roundw
              case rel => exact ⟨j + 1, l' + 1, _, _, _, by omega, by go_num, rfl, by omega, HA6, HO6.out, HB6.out, HR6.out, HN6, HS6⟩
              case measure => simp [intOf]; omega
            · obtain rfl : j = ln := by omega
              rw [List.take_of_length_le (by rw [← Hln.out]; omega)] at HA'
              go_wp2_with fail
              go_roundw
              case rel => exact ⟨i + 1, l', _, _, _, by omega, by omega, by omega, by go_num, rfl, by omega, Lib.hid (by rw [HA'.out, ← HFi.out, HA.out, List.range_succ, List.flatMap_append]; simp), HO2.out, HB2.out⟩
              case measure => simp [intOf]; omega
      · have hend : (List.range i).flatMap F = (List.range (min n.toNat m.toNat + 1)).flatMap F := by
          rw [show i = min n.toNat m.toNat + 1 from by omega]
        by_cases hmn : m < n
        all_goals
          have hni : ¬ (i : Int) ≤ (if m < n then m else n) := by split <;> omega
          go_wp2_with fail
          go_ret
          have h1 := HO1.out
          rw [HA.out, hend, ← HRR.out] at h1
          have hlen : l = rl := by rw [← h1.len, HRL.out]
          subst hlen
          exact ⟨_, _, rfl, HBe.out ▸ h1, HBe.out ▸ HB1.out⟩

/-- What l16Words hands back: the lists with the words behind them; only the lists' own row may have been written. -/
def RetW (B l r : Nat) (A : Option Addr) (c : Nat) (xss : List (List Int)) (w : World) (e : Ending) (w' : World) : Prop :=
  ∃ A' c', e = .returned (.slice A' (l + r) c') ∧ OwnL w' B w'.heap.size A' (l + r) c' xss ∧ w.grownBy w' (Value.ownBlock (.slice A l c)) ∧
    Hid (∀ g, Value.ownBlock (.slice A' (l + r) c') = some g → Value.ownBlock (.slice A l c) = some g ∨ w.heap.size ≤ g)

theorem l16Words_any (k : Nat) : ∀ (s n m : Int) (As A : Option Addr) (ns cs l c B K : Nat) (st : List Int) (xss : List (List Int)) (w : World), s.toNat = k → 0 ≤ s → s ≤ 7 → 0 ≤ n → n ≤ 11 → 0 ≤ m → m ≤ 100 →
    OwnS w K As ns cs st → OwnL w B K A l c xss → B ≤ K → K ≤ w.heap.size → ns + k ≤ 7 → l + 12 ^ k ≤ 1000000000 →
    Calls Tryd.prog 69 #[.int .i64 s, .int .i64 n, .int .i64 m, .slice As ns cs, .slice A l c] w (RetW B l (lw k n.toNat m.toNat).length A c (xss ++ (lw k n.toNat m.toNat).map (st ++ ·)) w) := by
  induction k with
  | zero =>
    intro s n m As A ns cs l c B K st xss w hk h0 h7 hn0 hn1 hm0 hm1 ho hL hBK hK hns hl
    obtain rfl : s = 0 := by omega
    clear hk h0 h7
    by_cases hn : n = 0
    · subst hn
      have HO := Lib.hid (ho.alloc (.cells #[.slice As ns cs] 49))
      have HL := Lib.hid (hL.alloc (.cells #[.slice As ns cs] 49))
      have HV := Lib.hid (rdV_new w (.slice As ns cs) 49)
      have HLt := Lib.hid hL.lt
      have hlw : lw 0 (0 : Int).toNat m.toNat = [[]] := by simp [lw]
      rw [hlw]
      clear hlw ho hL
      go_enter Tryd.func69, Tryd.ntmps69
      go_wp2_with (at_builtin; refine wpList_appL rfl (.tmp 16) (.tmp 18) rfl rfl rfl HL.out HO.out HV.out (by omega) hBK (by simp; omega) ?_)
      intro A2 c2 w2 ho2 hg2 hrow
      have HO2 := Lib.hid ho2
      have HG2 := Lib.hid (grownBy_trans (World.grownBy_alloc w (.cells #[.slice As ns cs] 49) _) hg2)
      have HR2 := Lib.hid (show ∀ g, Value.ownBlock (.slice A2 (l + 1) c2) = some g → Value.ownBlock (.slice A l c) = some g ∨ w.heap.size ≤ g from fun g hg => by
        rcases hrow with h | h
        · exact .inl (h ▸ hg)
        · rw [h] at hg; injection hg with hg; right; omega)
      clear ho2 hg2 hrow
      go_wp2_with fail
      go_ret
      exact ⟨_, _, rfl, by simpa using HO2.out, HG2.out, HR2⟩
    · have hn' : (n == 0) = false := by simpa using hn
      have hlw : lw 0 n.toNat m.toNat = [] := by unfold lw; rw [if_neg (by omega)]
      rw [hlw]
      clear hlw
      have HL := Lib.hid (hL.mono (Nat.le_refl _) hK); clear hL ho
      go_enter Tryd.func69, Tryd.ntmps69
      go_wp2_with fail
      go_ret
      exact ⟨_, _, rfl, by simpa using HL.out, World.grownBy.refl _ _, Lib.hid (fun g hg => .inl hg)⟩
  | succ k ih =>
    intro s n m As A ns cs l c B K st xss w hk h0 h7 hn0 hn1 hm0 hm1 ho hL hBK hK hns hl
    have IH := Lib.hid ih; clear ih
    have hs1 : (s == 0) = false := by simp; omega
    have hs2 : 1 ≤ s := by omega
    have hk6 : k ≤ 6 := by omega
    have hks : (s - 1).toNat = k := by omega
    have Hks := Lib.hid hks; clear hks hk
    obtain ⟨F, hF⟩ : ∃ F : Nat → List (List Int), F = fun i => (lw k (n.toNat - i) (2 * i)).map (fun r => (i : Int) :: r) := ⟨_, rfl⟩
    have hlw : lw (k + 1) n.toNat m.toNat = (List.range (min n.toNat m.toNat + 1)).flatMap F := by rw [hF]; rfl
    have HF := Lib.hid hF
    rw [hlw]
    obtain ⟨R, hR⟩ : ∃ R, R = (List.range (min n.toNat m.toNat + 1)).flatMap F := ⟨_, rfl⟩
    rw [← hR]
    have HRR := Lib.hid hR
    obtain ⟨rl, hrl⟩ : ∃ rl, rl = R.length := ⟨_, rfl⟩
    obtain ⟨Z, hZ⟩ : ∃ Z, Z = xss ++ R.map (st ++ ·) := ⟨_, rfl⟩
    rw [← hrl, ← hZ]
    have HRL := Lib.hid hrl
    have HZ := Lib.hid hZ
    have HO0 := Lib.hid ho
    have Hxl := Lib.hid hL.len
    obtain ⟨P, hP⟩ : ∃ P, P = 12 ^ k := ⟨_, rfl⟩
    rw [Nat.pow_succ, ← hP] at hl
    have HP := Lib.hid hP
    clear hP
    have HL0 := Lib.hid (hL.mono (Nat.le_refl _) hK)
    clear hF hlw hR hrl hZ ho hL
    go_enter Tryd.func69, Tryd.ntmps69
    go_wp2_with fail
    go_loopw [4, 11] (fun o r wr => ∃ (i l' c' : Nat) (A' : Option Addr) (acc : List (List Int)), i ≤ 12 ∧ i ≤ n.toNat + 1 ∧ i ≤ m.toNat + 1 ∧ r = .int .i64 i ∧ o = .slice A' l' c' ∧ l' ≤ l + i * P ∧ Hid (acc = xss ++ ((List.range i).flatMap F).map (st ++ ·)) ∧
      OwnL wr B wr.heap.size A' l' c' acc ∧ OwnS wr K As ns cs st ∧ w.grownBy wr (Value.ownBlock (.slice A l c)) ∧ Hid (∀ g, Value.ownBlock (.slice A' l' c') = some g → Value.ownBlock (.slice A l c) = some g ∨ w.heap.size ≤ g)) (fun _ r _ => 12 - (intOf r).toNat)
    case atStart => exact ⟨0, l, c, A, xss, by omega, by omega, by omega, rfl, rfl, Nat.le_add_right _ _, Lib.hid (by simp), HL0.out, HO0.out, World.grownBy.refl _ _, Lib.hid (fun g hg => .inl hg)⟩
    case round =>
      clear HL0 HO0
      obtain ⟨i, l', c', A', acc, hi1, hi2, hi3, rfl, rfl, hl', HA, HL, HO, HG, HN⟩ := hrel
      have HL1 := Lib.hid HL; clear HL
      have HO1 := Lib.hid HO; clear HO
      have HG1 := Lib.hid HG; clear HG
      have hBr : B ≤ wr.heap.size := by have := HG1.out.size; omega
      by_cases him : (i : Int) ≤ m
      · by_cases hin : (i : Int) ≤ n
        · have hiP : i * P + P ≤ 12 * P := by rw [← Nat.succ_mul]; exact Nat.mul_le_mul_right _ (by omega)
          go_wp2_with fail
          refine (l01Own_any As ns cs st _ HO1.out.rd (by omega)).mono ?_
          rintro e w1 ⟨A1, c1, rfl, ho1, hb1⟩
          have hb2 : Below w1.heap.size w1 (w1.alloc (.cells #[.int .i64 i] 2)) := (Below.refl _ _).alloc (Nat.le_refl _) _
          have O1 := Lib.hid (ho1.below hb2)
          have I1 := Lib.hid (rd_new w1 (i : Int) 2)
          have L2 := Lib.hid ((HL1.out.below hb1).below hb2)
          have S2 := Lib.hid ((HO1.out.below hb1).below hb2)
          have hb12 : Below wr.heap.size wr (w1.alloc (.cells #[.int .i64 i] 2)) := hb1.trans (hb2.mono hb1.size)
          have G2 := Lib.hid (grownBy_trans HG1.out (grown_of_below hb12 _))
          have Z2 := Lib.hid hb12.size
          clear ho1 hb1 hb2
          go_wp2_with (at_builtin; refine wpList_appI rfl (.tmp 39) (.tmp 41) rfl rfl rfl O1.out I1.out (by omega) Z2.out ?_)
          intro A3 c3 w3 ho3 hg3 _
          have hb3 : Below wr.heap.size wr w3 := hb12.grown hg3 Z2.out O1.out.row
          have O3 := Lib.hid ho3
          have L3 := Lib.hid (HL1.out.below hb3)
          have S3 := Lib.hid (HO1.out.below hb3)
          have G3 := Lib.hid (grownBy_trans HG1.out (grown_of_below hb3 _))
          have Z3 := Lib.hid hb3.size
          clear ho3 hg3 hb12 hb3 L2 S2 G2
          go_wp2_with fail
          refine (IH.out (s - 1) (n - i) (2 * i) A3 A' (ns + 1) c3 l' c' B wr.heap.size (st ++ [(i : Int)]) acc _ Hks.out (by omega) (by omega) (by omega) (by omega) (by omega) (by omega) O3.out L3.out hBr Z3.out (by omega) (by rw [← HP.out]; omega)).mono ?_
          rintro e w4 ⟨A4, c4, rfl, ho4, hg4, hn4⟩
          obtain ⟨ws, hws⟩ : ∃ ws, ws = lw k (n - i).toNat (2 * i : Int).toNat := ⟨_, rfl⟩
          rw [← hws] at ho4 hn4 ⊢
          have hFi : F i = ws.map (fun r => (i : Int) :: r) := by
            rw [HF.out, hws, show (n - (i : Int)).toNat = n.toNat - i from by omega, show (2 * (i : Int)).toNat = 2 * i from by omega]
          have hwl : ws.length ≤ P := by
            rw [hws, HP.out]; exact lw_length k _ _ (by omega)
          have hiP' : (i + 1) * P = i * P + P := Nat.succ_mul i P
          obtain ⟨ln, hln⟩ : ∃ ln, ln = ws.length := ⟨_, rfl⟩
          rw [← hln] at ho4 hn4 hwl ⊢
          have HA4 := Lib.hid (show acc ++ ws.map ((st ++ [(i : Int)]) ++ ·) = xss ++ ((List.range (i + 1)).flatMap F).map (st ++ ·) by
            rw [HA.out, List.range_succ, List.flatMap_append, List.map_append]
            simp [hFi])
          have L4 := Lib.hid ho4
          have S4 := Lib.hid (S3.out.grown hg4 (fun ad had e => kinds_ne (by decide) (S3.out.kind ad.block (by subst had; rfl)) (L3.out.kind ad.block e.symm) rfl))
          have G4 := Lib.hid (show w.grownBy w4 (Value.ownBlock (.slice A l c)) from
            ⟨hg4.os.trans G3.out.os, hg4.tape.trans G3.out.tape, hg4.output.trans G3.out.output, Nat.le_trans G3.out.size hg4.size, fun g hgw hgn =>
              (hg4.block g (Nat.lt_of_lt_of_le hgw G3.out.size) (fun e => by
                rcases HN.out g e.symm with h | h
                · exact hgn h.symm
                · omega)).trans (G3.out.block g hgw hgn)⟩)
          have N4 := Lib.hid (show ∀ g, Value.ownBlock (.slice A4 (l' + ln) c4) = some g → Value.ownBlock (.slice A l c) = some g ∨ w.heap.size ≤ g from fun g hg => by
            rcases hn4.out g hg with h | h
            · exact HN.out g h
            · right; exact Nat.le_trans G3.out.size h)
          clear ho4 hg4 hn4 hws hFi hln
          go_wp2_with fail
          go_roundw
          case rel => exact ⟨i + 1, l' + ln, _, _, _, by omega, by omega, by omega, by go_num, rfl, by omega, HA4, L4.out, S4.out, G4.out, N4⟩
          case measure => simp [intOf]; omega
        · have hend : i = min n.toNat m.toNat + 1 := by omega
          go_wp2_with fail
          go_ret
          have h1 := HL1.out
          rw [HA.out, hend, ← HRR.out, ← HZ.out] at h1
          have hlen : l' = l + rl := by rw [← h1.len, HZ.out, List.length_append, List.length_map, ← HRL.out, Hxl.out]
          subst hlen
          exact ⟨_, _, rfl, h1, HG1.out, HN⟩
      · have hend : i = min n.toNat m.toNat + 1 := by omega
        go_wp2_with fail
        go_ret
        have h1 := HL1.out
        rw [HA.out, hend, ← HRR.out, ← HZ.out] at h1
        have hlen : l' = l + rl := by rw [← h1.len, HZ.out, List.length_append, List.length_map, ← HRL.out, Hxl.out]
        subst hlen
        exact ⟨_, _, rfl, h1, HG1.out, HN⟩
end Go.Proofs.YtdgcgcodjddddaaDoor
