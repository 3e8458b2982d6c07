/- spec: l08Form, l08Raise, l08Substitute, SubstituteForms. -/
import Derived.Test.YtoodhbafleemjaaGreatSbi
import Derived.Test.YtoodhbafleemjaaGreatTms
import Derived.Test.YtoodhbafleemjaaGreatPut
import Derived.Test.YtoodhbafleemjaaGreatDrb
import Derived.Deep.RegionLaw
import Derived.Test.YtoodhbafleemjaaGreatSumL
import Derived.Test.YtoodhbafleemjaaGreatSquO
namespace Go.Proofs.YtoodhbafleemjaaGreat
open Go.RowKit
set_option linter.unusedVariables false

def formS (k m : Nat) : Nat → Pol
  | 0 => []
  | j + 1 => if m.testBit j = true then insX (unitW k j) (formS k m j) else formS k m j
theorem formS_hom {k m : Nat} (h : m < 2 ^ k) : ∀ j : Nat, Hom k 1 (formS k m j)
  | 0 => fun x hx => by cases hx
  | j + 1 => fun x hx => by
    rw [formS] at hx
    split at hx
    · rename_i hb
      rcases insX_mem hx with rfl | hx
      · exact unit_deg (bit_lt h hb)
      · exact formS_hom h j x hx
    · exact formS_hom h j x hx
theorem insX_len' {x : List Int} : ∀ {xss : List (List Int)}, (insX x xss).length ≤ xss.length + 1
  | [] => by simp [insX]
  | y :: r => by
    simp only [insX]
    split
    · simp
    · split
      · have := insX_len' (x := x) (xss := r); simp; omega
      · simp; omega
theorem formS_len (k m : Nat) : ∀ j : Nat, (formS k m j).length ≤ j
  | 0 => Nat.le_refl _
  | j + 1 => by
    have ih := formS_len k m j
    rw [formS]
    split
    · have := insX_len' (x := unitW k j) (xss := formS k m j); omega
    · omega
theorem unit_set {k j : Nat} (h : j < k) : (List.replicate k (0 : Int)).set j 1 = unitW k j := by
  unfold unitW
  apply List.ext_getElem
  · simp; omega
  · intro i h1 h2
    rw [List.getElem_set]
    by_cases e : j = i
    · subst e
      rw [if_pos rfl, List.getElem_append_right (by simp)]
      simp
    · rw [if_neg e]
      by_cases hl : i < j
      · rw [List.getElem_append_left (by simpa using hl)]
        simp
      · rw [List.getElem_append_right (by simp; omega)]
        rw [List.getElem_cons]
        simp
        omega
set_option maxRecDepth 100000 in
set_option maxHeartbeats 1000000 in
theorem l08Form_any (k m : Nat) (w : World) (hm : m < 16) (hk : m < 2 ^ k) (hk4 : k ≤ 4) :
    Calls Tryz.prog 137 #[.int .i64 k, .int .i64 m] w (RetL (formS k m k).length (formS k m k) w) := by
  obtain ⟨R, hR⟩ : ∃ R, R = RetL (formS k m k).length (formS k m k) w := ⟨_, rfl⟩
  have HR := Lib.hid hR
  rw [← hR]
  have HK := Lib.hid hk
  obtain ⟨i0, hi, hq0, hq1, hq2⟩ := info_parts Tryz.info_i64
  have HI := Lib.hid hi
  have HQ0 := Lib.hid hq0
  have HQ1 := Lib.hid hq1
  have HQ2 := Lib.hid hq2
  have HB0 : Hid (Below w.heap.size w (w.alloc (.cells #[] 41))) := Lib.hid ((Below.refl _ _).alloc (Nat.le_refl _) _)
  have HS0 : Hid (OwnL (w.alloc (.cells #[] 41)) w.heap.size (w.alloc (.cells #[] 41)).heap.size (some ⟨w.heap.size, 0, none⟩) 0 0 (formS k m 0)) := Lib.hid (by
    have h := (StL.start (Below.refl w.heap.size w) (Nat.le_refl _)).own
    exact h.mono (Nat.le_refl _) (by simp))
  clear hR hk hi hq0 hq1 hq2
  go_enter Tryz.func137, Tryz.ntmps137
  go_wp2_with fail
  go_loopw [5, 6] (fun o i wr => ∃ (j n c : Nat) (A : Option Addr), j ≤ k ∧ i = .int .i64 j ∧ o = .slice A n c ∧ n ≤ 4 ∧ Hid (OwnL wr w.heap.size wr.heap.size A n c (formS k m j)) ∧ Hid (Below w.heap.size w wr)) (fun _ i _ => 10 - (intOf i).toNat)
  case atStart => exact ⟨0, 0, 0, _, by omega, rfl, rfl, by omega, HS0, HB0⟩
  case round =>
    clear HS0 HB0
    obtain ⟨j, n, c, A, hj, rfl, rfl, hn4, HO, HB⟩ := hrel
    by_cases hlt : j < k
    · obtain rfl | rfl | rfl | rfl : j = 0 ∨ j = 1 ∨ j = 2 ∨ j = 3 := by omega
      · have hbt := form_bit m hm 0 (by decide)
        have e2 : ((2 ^ 0 : Nat) : Int) = 1 := by decide
        rw [e2, Int.ediv_one] at hbt
        cases hb : m.testBit 0 with
        | false =>
          rw [hb] at hbt
          have HQ2 := Lib.hid (show OwnL wr w.heap.size wr.heap.size A n c (formS k m 1) from by rw [show formS k m 1 = formS k m 0 from if_neg (by rw [hb]; decide)]; exact HO.out)
          clear hb
          go_wp2_with fail
          go_roundw
          case rel => exact ⟨1, n, c, A, by omega, by go_num, rfl, hn4, HQ2, HB⟩
          case measure => simp [intOf]
        | true =>
          rw [hb] at hbt
          have HFS := Lib.hid (show formS k m 1 = insX (unitW k 0) (formS k m 0) from if_pos hb)
          have HFL := Lib.hid (Nat.le_trans (formS_len k m 1) (show 1 ≤ 4 by decide))
          have HEL := Lib.hid (show ∀ y ∈ formS k m 0, y.length ≤ 1000000000 from fun y hy => by rw [(formS_hom HK.out 0 y hy).2.2]; omega)
          obtain ⟨V, hV⟩ : ∃ V, V = wr.heap.size := ⟨_, rfl⟩
          have hVle : V ≤ wr.heap.size := Nat.le_of_eq hV
          have HV := Lib.hid hV
          have hwV : w.heap.size ≤ V := by rw [hV]; exact HB.out.size
          have hi := HI.out
          have hq0 := HQ0.out
          have hq1 := HQ1.out
          have hq2 := HQ2.out
          have hk0 : (0 : Int) ≤ (k : Int) := by omega
          clear hV hb
          go_wp2_with (at_make; refine wpList_make_full _ rfl _ _ 41 rfl V 2 i0 (.int .i64 0) 1 Tryz.underlying41 hi hq0 hq1 .i64 .i64 _ _ k rfl rfl rfl rfl ?b2 ?b3 hVle ?_)
          case b2 => rw [hq2]; omega
          case b3 => unfold maxLen; omega
          intro w4 hown hgr
          have hT : OwnS w4 V (some ⟨wr.heap.size, 0, none⟩) k k (List.replicate k 0) := ⟨by simp, by simpa [toList_madeCells_one, Value.cells] using hown⟩
          have hB4 : Below wr.heap.size wr w4 := (Below.refl _ _).grown hgr (Nat.le_refl _) (by simp)
          obtain ⟨g, hg⟩ : ∃ g, g = wr.heap.size := ⟨_, rfl⟩
          rw [← hg] at hT ⊢
          obtain ⟨g', y, hg', hVg, hgl, _, hc5, hf5, hset⟩ := hT.at_ (k := 0) (by omega)
          obtain ⟨rfl⟩ : g = g' := by simpa using hg'
          obtain ⟨hT6, hG6⟩ := hset 1
          have hOB := (HO.out.m (Nat.le_refl _)).below hB4
          have hm6 : Mid g (g + 1) w4 (w4.setCell ⟨g, 0, none⟩ (.int .i64 1)) := mid_setCell (p := ⟨g, 0, none⟩) _ ⟨Nat.le_refl _, Nat.lt_succ_self _⟩
          obtain ⟨w6, hw6⟩ : ∃ W, W = w4.setCell ⟨g, 0, none⟩ (.int .i64 1) := ⟨_, rfl⟩
          rw [← hw6] at hT6 hm6
          rw [unit_set (show 0 < k by omega)] at hT6
          have hO6 := (hOB.same fun q q1 q2 => hm6.block q (by have := hB4.size; omega) (.inl (by omega))).own
          have hz6 : w6.heap.size = w4.heap.size := by rw [hw6]; simp [World.setCell]
          have HB6 := Lib.hid (show Below w.heap.size w w6 from (HB.out.trans (hB4.mono (by omega))).trans ((hm6.below (by omega)).mono (by omega)))
          have HPt := Lib.hid (put_any A (some ⟨g, 0, none⟩) n c k k w.heap.size wr.heap.size (formS k m 0) (unitW k 0) w6 hO6 (by omega) (by have := hB4.size; omega) hT6.rd (by omega) (by omega) HEL.out)
          rw [← HFS.out] at HPt
          have Hw6 := Lib.hid hw6
          have hwz6 : w.heap.size ≤ w6.heap.size := by have := hB4.size; omega
          clear hown hgr hVle hi hq0 hq1 hq2 hT hset hG6 hT6 hOB hm6 hO6 hw6 hB4 hg' hg
          go_wp2_with fail
          rw [← Hw6.out]
          refine HPt.out.mono ?_
          rintro e w7 ⟨A7, c7, rfl, ho7, hb7⟩
          have HO7 := Lib.hid ho7
          have HB7 := Lib.hid (HB6.out.trans (hb7.mono hwz6))
          have hl4 := HFL.out
          clear ho7 hb7
          go_wp2_with fail
          go_roundw
          case rel => exact ⟨1, _, c7, A7, by omega, by go_num, rfl, hl4, HO7, HB7⟩
          case measure => simp [intOf]
      · have hbt := form_bit m hm 1 (by decide)
        have e2 : ((2 ^ 1 : Nat) : Int) = 2 := by decide
        rw [e2] at hbt
        cases hb : m.testBit 1 with
        | false =>
          rw [hb] at hbt
          have HQ2 := Lib.hid (show OwnL wr w.heap.size wr.heap.size A n c (formS k m 2) from by rw [show formS k m 2 = formS k m 1 from if_neg (by rw [hb]; decide)]; exact HO.out)
          clear hb
          go_wp2_with fail
          go_roundw
          case rel => exact ⟨2, n, c, A, by omega, by go_num, rfl, hn4, HQ2, HB⟩
          case measure => simp [intOf]
        | true =>
          rw [hb] at hbt
          have HFS := Lib.hid (show formS k m 2 = insX (unitW k 1) (formS k m 1) from if_pos hb)
          have HFL := Lib.hid (Nat.le_trans (formS_len k m 2) (show 2 ≤ 4 by decide))
          have HEL := Lib.hid (show ∀ y ∈ formS k m 1, y.length ≤ 1000000000 from fun y hy => by rw [(formS_hom HK.out 1 y hy).2.2]; omega)
          obtain ⟨V, hV⟩ : ∃ V, V = wr.heap.size := ⟨_, rfl⟩
          have hVle : V ≤ wr.heap.size := Nat.le_of_eq hV
          have HV := Lib.hid hV
          have hwV : w.heap.size ≤ V := by rw [hV]; exact HB.out.size
          have hi := HI.out
          have hq0 := HQ0.out
          have hq1 := HQ1.out
          have hq2 := HQ2.out
          have hk0 : (0 : Int) ≤ (k : Int) := by omega
          clear hV hb
          go_wp2_with (at_make; refine wpList_make_full _ rfl _ _ 41 rfl V 2 i0 (.int .i64 0) 1 Tryz.underlying41 hi hq0 hq1 .i64 .i64 _ _ k rfl rfl rfl rfl ?b2 ?b3 hVle ?_)
          case b2 => rw [hq2]; omega
          case b3 => unfold maxLen; omega
          intro w4 hown hgr
          have hT : OwnS w4 V (some ⟨wr.heap.size, 0, none⟩) k k (List.replicate k 0) := ⟨by simp, by simpa [toList_madeCells_one, Value.cells] using hown⟩
          have hB4 : Below wr.heap.size wr w4 := (Below.refl _ _).grown hgr (Nat.le_refl _) (by simp)
          obtain ⟨g, hg⟩ : ∃ g, g = wr.heap.size := ⟨_, rfl⟩
          rw [← hg] at hT ⊢
          obtain ⟨g', y, hg', hVg, hgl, _, hc5, hf5, hset⟩ := hT.at_ (k := 1) (by omega)
          obtain ⟨rfl⟩ : g = g' := by simpa using hg'
          obtain ⟨hT6, hG6⟩ := hset 1
          have hOB := (HO.out.m (Nat.le_refl _)).below hB4
          have hm6 : Mid g (g + 1) w4 (w4.setCell ⟨g, 1, none⟩ (.int .i64 1)) := mid_setCell (p := ⟨g, 1, none⟩) _ ⟨Nat.le_refl _, Nat.lt_succ_self _⟩
          obtain ⟨w6, hw6⟩ : ∃ W, W = w4.setCell ⟨g, 1, none⟩ (.int .i64 1) := ⟨_, rfl⟩
          rw [← hw6] at hT6 hm6
          rw [unit_set (show 1 < k by omega)] at hT6
          have hO6 := (hOB.same fun q q1 q2 => hm6.block q (by have := hB4.size; omega) (.inl (by omega))).own
          have hz6 : w6.heap.size = w4.heap.size := by rw [hw6]; simp [World.setCell]
          have HB6 := Lib.hid (show Below w.heap.size w w6 from (HB.out.trans (hB4.mono (by omega))).trans ((hm6.below (by omega)).mono (by omega)))
          have HPt := Lib.hid (put_any A (some ⟨g, 0, none⟩) n c k k w.heap.size wr.heap.size (formS k m 1) (unitW k 1) w6 hO6 (by omega) (by have := hB4.size; omega) hT6.rd (by omega) (by omega) HEL.out)
          rw [← HFS.out] at HPt
          have Hw6 := Lib.hid hw6
          have hwz6 : w.heap.size ≤ w6.heap.size := by have := hB4.size; omega
          clear hown hgr hVle hi hq0 hq1 hq2 hT hset hG6 hT6 hOB hm6 hO6 hw6 hB4 hg' hg
          go_wp2_with fail
          rw [← Hw6.out]
          refine HPt.out.mono ?_
          rintro e w7 ⟨A7, c7, rfl, ho7, hb7⟩
          have HO7 := Lib.hid ho7
          have HB7 := Lib.hid (HB6.out.trans (hb7.mono hwz6))
          have hl4 := HFL.out
          clear ho7 hb7
          go_wp2_with fail
          go_roundw
          case rel => exact ⟨2, _, c7, A7, by omega, by go_num, rfl, hl4, HO7, HB7⟩
          case measure => simp [intOf]
      · have hbt := form_bit m hm 2 (by decide)
        have e2 : ((2 ^ 2 : Nat) : Int) = 4 := by decide
        rw [e2] at hbt
        cases hb : m.testBit 2 with
        | false =>
          rw [hb] at hbt
          have HQ2 := Lib.hid (show OwnL wr w.heap.size wr.heap.size A n c (formS k m 3) from by rw [show formS k m 3 = formS k m 2 from if_neg (by rw [hb]; decide)]; exact HO.out)
          clear hb
          go_wp2_with fail
          go_roundw
          case rel => exact ⟨3, n, c, A, by omega, by go_num, rfl, hn4, HQ2, HB⟩
          case measure => simp [intOf]
        | true =>
          rw [hb] at hbt
          have HFS := Lib.hid (show formS k m 3 = insX (unitW k 2) (formS k m 2) from if_pos hb)
          have HFL := Lib.hid (Nat.le_trans (formS_len k m 3) (show 3 ≤ 4 by decide))
          have HEL := Lib.hid (show ∀ y ∈ formS k m 2, y.length ≤ 1000000000 from fun y hy => by rw [(formS_hom HK.out 2 y hy).2.2]; omega)
          obtain ⟨V, hV⟩ : ∃ V, V = wr.heap.size := ⟨_, rfl⟩
          have hVle : V ≤ wr.heap.size := Nat.le_of_eq hV
          have HV := Lib.hid hV
          have hwV : w.heap.size ≤ V := by rw [hV]; exact HB.out.size
          have hi := HI.out
          have hq0 := HQ0.out
          have hq1 := HQ1.out
          have hq2 := HQ2.out
          have hk0 : (0 : Int) ≤ (k : Int) := by omega
          clear hV hb
          go_wp2_with (at_make; refine wpList_make_full _ rfl _ _ 41 rfl V 2 i0 (.int .i64 0) 1 Tryz.underlying41 hi hq0 hq1 .i64 .i64 _ _ k rfl rfl rfl rfl ?b2 ?b3 hVle ?_)
          case b2 => rw [hq2]; omega
          case b3 => unfold maxLen; omega
          intro w4 hown hgr
          have hT : OwnS w4 V (some ⟨wr.heap.size, 0, none⟩) k k (List.replicate k 0) := ⟨by simp, by simpa [toList_madeCells_one, Value.cells] using hown⟩
          have hB4 : Below wr.heap.size wr w4 := (Below.refl _ _).grown hgr (Nat.le_refl _) (by simp)
          obtain ⟨g, hg⟩ : ∃ g, g = wr.heap.size := ⟨_, rfl⟩
          rw [← hg] at hT ⊢
          obtain ⟨g', y, hg', hVg, hgl, _, hc5, hf5, hset⟩ := hT.at_ (k := 2) (by omega)
          obtain ⟨rfl⟩ : g = g' := by simpa using hg'
          obtain ⟨hT6, hG6⟩ := hset 1
          have hOB := (HO.out.m (Nat.le_refl _)).below hB4
          have hm6 : Mid g (g + 1) w4 (w4.setCell ⟨g, 2, none⟩ (.int .i64 1)) := mid_setCell (p := ⟨g, 2, none⟩) _ ⟨Nat.le_refl _, Nat.lt_succ_self _⟩
          obtain ⟨w6, hw6⟩ : ∃ W, W = w4.setCell ⟨g, 2, none⟩ (.int .i64 1) := ⟨_, rfl⟩
          rw [← hw6] at hT6 hm6
          rw [unit_set (show 2 < k by omega)] at hT6
          have hO6 := (hOB.same fun q q1 q2 => hm6.block q (by have := hB4.size; omega) (.inl (by omega))).own
          have hz6 : w6.heap.size = w4.heap.size := by rw [hw6]; simp [World.setCell]
          have HB6 := Lib.hid (show Below w.heap.size w w6 from (HB.out.trans (hB4.mono (by omega))).trans ((hm6.below (by omega)).mono (by omega)))
          have HPt := Lib.hid (put_any A (some ⟨g, 0, none⟩) n c k k w.heap.size wr.heap.size (formS k m 2) (unitW k 2) w6 hO6 (by omega) (by have := hB4.size; omega) hT6.rd (by omega) (by omega) HEL.out)
          rw [← HFS.out] at HPt
          have Hw6 := Lib.hid hw6
          have hwz6 : w.heap.size ≤ w6.heap.size := by have := hB4.size; omega
          clear hown hgr hVle hi hq0 hq1 hq2 hT hset hG6 hT6 hOB hm6 hO6 hw6 hB4 hg' hg
          go_wp2_with fail
          rw [← Hw6.out]
          refine HPt.out.mono ?_
          rintro e w7 ⟨A7, c7, rfl, ho7, hb7⟩
          have HO7 := Lib.hid ho7
          have HB7 := Lib.hid (HB6.out.trans (hb7.mono hwz6))
          have hl4 := HFL.out
          clear ho7 hb7
          go_wp2_with fail
          go_roundw
          case rel => exact ⟨3, _, c7, A7, by omega, by go_num, rfl, hl4, HO7, HB7⟩
          case measure => simp [intOf]
      · have hbt := form_bit m hm 3 (by decide)
        have e2 : ((2 ^ 3 : Nat) : Int) = 8 := by decide
        rw [e2] at hbt
        cases hb : m.testBit 3 with
        | false =>
          rw [hb] at hbt
          have HQ2 := Lib.hid (show OwnL wr w.heap.size wr.heap.size A n c (formS k m 4) from by rw [show formS k m 4 = formS k m 3 from if_neg (by rw [hb]; decide)]; exact HO.out)
          clear hb
          go_wp2_with fail
          go_roundw
          case rel => exact ⟨4, n, c, A, by omega, by go_num, rfl, hn4, HQ2, HB⟩
          case measure => simp [intOf]
        | true =>
          rw [hb] at hbt
          have HFS := Lib.hid (show formS k m 4 = insX (unitW k 3) (formS k m 3) from if_pos hb)
          have HFL := Lib.hid (Nat.le_trans (formS_len k m 4) (show 4 ≤ 4 by decide))
          have HEL := Lib.hid (show ∀ y ∈ formS k m 3, y.length ≤ 1000000000 from fun y hy => by rw [(formS_hom HK.out 3 y hy).2.2]; omega)
          obtain ⟨V, hV⟩ : ∃ V, V = wr.heap.size := ⟨_, rfl⟩
          have hVle : V ≤ wr.heap.size := Nat.le_of_eq hV
          have HV := Lib.hid hV
          have hwV : w.heap.size ≤ V := by rw [hV]; exact HB.out.size
          have hi := HI.out
          have hq0 := HQ0.out
          have hq1 := HQ1.out
          have hq2 := HQ2.out
          have hk0 : (0 : Int) ≤ (k : Int) := by omega
          clear hV hb
          go_wp2_with (at_make; refine wpList_make_full _ rfl _ _ 41 rfl V 2 i0 (.int .i64 0) 1 Tryz.underlying41 hi hq0 hq1 .i64 .i64 _ _ k rfl rfl rfl rfl ?b2 ?b3 hVle ?_)
          case b2 => rw [hq2]; omega
          case b3 => unfold maxLen; omega
          intro w4 hown hgr
          have hT : OwnS w4 V (some ⟨wr.heap.size, 0, none⟩) k k (List.replicate k 0) := ⟨by simp, by simpa [toList_madeCells_one, Value.cells] using hown⟩
          have hB4 : Below wr.heap.size wr w4 := (Below.refl _ _).grown hgr (Nat.le_refl _) (by simp)
          obtain ⟨g, hg⟩ : ∃ g, g = wr.heap.size := ⟨_, rfl⟩
          rw [← hg] at hT ⊢
          obtain ⟨g', y, hg', hVg, hgl, _, hc5, hf5, hset⟩ := hT.at_ (k := 3) (by omega)
          obtain ⟨rfl⟩ : g = g' := by simpa using hg'
          obtain ⟨hT6, hG6⟩ := hset 1
          have hOB := (HO.out.m (Nat.le_refl _)).below hB4
          have hm6 : Mid g (g + 1) w4 (w4.setCell ⟨g, 3, none⟩ (.int .i64 1)) := mid_setCell (p := ⟨g, 3, none⟩) _ ⟨Nat.le_refl _, Nat.lt_succ_self _⟩
          obtain ⟨w6, hw6⟩ : ∃ W, W = w4.setCell ⟨g, 3, none⟩ (.int .i64 1) := ⟨_, rfl⟩
          rw [← hw6] at hT6 hm6
          rw [unit_set (show 3 < k by omega)] at hT6
          have hO6 := (hOB.same fun q q1 q2 => hm6.block q (by have := hB4.size; omega) (.inl (by omega))).own
          have hz6 : w6.heap.size = w4.heap.size := by rw [hw6]; simp [World.setCell]
          have HB6 := Lib.hid (show Below w.heap.size w w6 from (HB.out.trans (hB4.mono (by omega))).trans ((hm6.below (by omega)).mono (by omega)))
          have HPt := Lib.hid (put_any A (some ⟨g, 0, none⟩) n c k k w.heap.size wr.heap.size (formS k m 3) (unitW k 3) w6 hO6 (by omega) (by have := hB4.size; omega) hT6.rd (by omega) (by omega) HEL.out)
          rw [← HFS.out] at HPt
          have Hw6 := Lib.hid hw6
          have hwz6 : w.heap.size ≤ w6.heap.size := by have := hB4.size; omega
          clear hown hgr hVle hi hq0 hq1 hq2 hT hset hG6 hT6 hOB hm6 hO6 hw6 hB4 hg' hg
          go_wp2_with fail
          rw [← Hw6.out]
          refine HPt.out.mono ?_
          rintro e w7 ⟨A7, c7, rfl, ho7, hb7⟩
          have HO7 := Lib.hid ho7
          have HB7 := Lib.hid (HB6.out.trans (hb7.mono hwz6))
          have hl4 := HFL.out
          clear ho7 hb7
          go_wp2_with fail
          go_roundw
          case rel => exact ⟨4, _, c7, A7, by omega, by go_num, rfl, hl4, HO7, HB7⟩
          case measure => simp [intOf]
    · obtain rfl : j = k := by omega
      have HLn := Lib.hid HO.out.len
      go_wp2_with fail
      rw [HR.out]
      have e := HLn.out
      subst e
      exact ⟨A, c, rfl, HO.out, HB.out⟩

/-! ### powers of forms -/
def rzT (k : Nat) (P : Pol) (n : Nat) : Nat → Pol
  | 0 => [List.replicate k 0]
  | t + 1 => if n.testBit t = true then oddL (prodsP (rzT k P n t) (mulP ((2 ^ t : Nat) : Int) P)) else rzT k P n t
def rzB (k : Nat) (P : Pol) (n : Nat) : Pol := rzT k P n 6
theorem oddL_le (s : Pol) : (oddL s).length ≤ s.length := (asc_nodup (oddL_asc s)).length_le_of_subset fun z hz => oddL_mem hz
theorem rzT_hom {k : Nat} {P : Pol} (h : Hom k 1 P) (n : Nat) : ∀ t : Nat, Hom k ((n % 2 ^ t : Nat) : Int) (rzT k P n t)
  | 0 => pwT_hom h n 0
  | t + 1 => by
    have ih := rzT_hom h n t
    have h0 := pwT_hom h n (t + 1)
    have hm : n % 2 ^ (t + 1) = n % 2 ^ t + 2 ^ t * (n.testBit t).toNat := by
      rw [Nat.pow_succ, Nat.mod_mul, Nat.testBit_eq_decide_div_mod_eq]
      congr 2
      rcases Nat.mod_two_eq_zero_or_one (n / 2 ^ t) with e | e <;> simp [e]
    rw [rzT]
    by_cases hb : n.testBit t = true
    · rw [if_pos hb]
      have h2 := mulP_hom (c := ((2 ^ t : Nat) : Int)) h (by omega)
      have h3 := oddL_hom (prodsP_deg ih h2)
      rw [hb] at hm
      have e : ((n % 2 ^ (t + 1) : Nat) : Int) = ((n % 2 ^ t : Nat) : Int) + 1 * ((2 ^ t : Nat) : Int) := by rw [hm]; simp
      rw [e]; exact h3
    · rw [if_neg hb]
      have hb' : n.testBit t = false := by simpa using hb
      rw [hb'] at hm
      have e : n % 2 ^ (t + 1) = n % 2 ^ t := by rw [hm]; simp
      rw [e]; exact ih
theorem rzT_len {k : Nat} {P : Pol} (h : P.length ≤ 4) (n : Nat) : ∀ t : Nat, (rzT k P n t).length ≤ 4 ^ t
  | 0 => by simp [rzT]
  | t + 1 => by
    have ih := rzT_len (k := k) h n t
    rw [rzT, Nat.pow_succ]
    split
    · refine Nat.le_trans (oddL_le _) ?_
      rw [prodsP_len]
      unfold mulP
      rw [List.length_map]
      exact Nat.mul_le_mul ih h
    · have : 0 < 4 ^ t := Nat.pow_pos (by decide)
      omega
theorem rzT_end {k : Nat} {P : Pol} {n t : Nat} (ht : n < 2 ^ t) : ∀ m : Nat, rzT k P n (t + m) = rzT k P n t
  | 0 => rfl
  | m + 1 => by
    have hb : n.testBit (t + m) = false := Nat.testBit_lt_two_pow (Nat.lt_of_lt_of_le ht (Nat.pow_le_pow_right (by decide) (by omega)))
    show rzT k P n (t + m + 1) = _
    rw [rzT, hb, if_neg (by decide)]
    exact rzT_end ht m
theorem mulP_two {c : Int} {P : Pol} : (mulP c P).map (fun x => plusW x x) = mulP (c * 2) P := by
  unfold mulP
  rw [List.map_map]
  have key : ∀ x : List Int, plusW (x.map (· * c)) (x.map (· * c)) = x.map (· * (c * 2)) := fun x => by
    induction x with
    | nil => rfl
    | cons a x ih =>
      rw [List.map_cons, List.map_cons, plusW_cons, ih]
      congr 1
      rw [← Int.mul_assoc]; omega
  apply List.map_congr_left
  intro x _
  exact key x
theorem mulP_one (P : Pol) : mulP 1 P = P := by
  unfold mulP
  conv => rhs; rw [← List.map_id P]
  apply List.map_congr_left
  intro x _
  unfold mulW
  show x.map (· * 1) = x
  conv => rhs; rw [← List.map_id x]
  apply List.map_congr_left
  intro a _
  show a * 1 = a
  omega
theorem sml_of {k : Nat} {d : Int} {P : Pol} (h : Hom k d P) (hd : d ≤ 1000000) : ∀ x ∈ P, Sml k x := fun x hx => by
  obtain ⟨a, b, c⟩ := h x hx
  exact ⟨c, fun z hz => ⟨a z hz, by have := sum_ge_mem a z hz; omega⟩⟩
theorem rd_one (V : World) (g k : Nat) (zs : List Int) (h : RdS V V.heap.size (some ⟨g, 0, none⟩) k k zs) : RdL (V.alloc (.cells #[.slice (some ⟨g, 0, none⟩) k k] 41)) (V.alloc (.cells #[.slice (some ⟨g, 0, none⟩) k k] 41)).heap.size (some ⟨V.heap.size, 0, none⟩) 1 1 [zs] := rdL_single h (Nat.le_refl _)
theorem made_zero (w : World) (B n : Nat) (hB : B ≤ w.heap.size) (hn : n ≤ maxLen) : OwnS (w.alloc (.cells (madeCells #[.int .i64 0] n) 2)) B (some ⟨w.heap.size, 0, none⟩) n n (List.replicate n 0) :=
  ⟨by simp, by simp, .inr ⟨w.heap.size, n, madeCells #[.int .i64 0] n, rfl, hB, heap_alloc_new w _, Nat.le_refl _, hn, by simp [size_madeCells], by simp [toList_madeCells_one]⟩⟩
theorem rd_two (V : World) (k q : Nat) (hq : q = V.heap.size + 1) (hkl : k ≤ maxLen) : RdL ((V.alloc (.cells (madeCells #[.int .i64 0] k) 2)).alloc (.cells #[.slice (some ⟨V.heap.size, 0, none⟩) k k] 41)) ((V.alloc (.cells (madeCells #[.int .i64 0] k) 2)).alloc (.cells #[.slice (some ⟨V.heap.size, 0, none⟩) k k] 41)).heap.size (some ⟨q, 0, none⟩) 1 1 [List.replicate k 0] := by
  have h := rd_one _ _ _ _ (made_zero V V.heap.size k (Nat.le_refl _) hkl).rd
  have e : q = (V.alloc (.cells (madeCells #[.int .i64 0] k) 2)).heap.size := by rw [hq]; simp
  rw [e]
  exact h
set_option maxRecDepth 100000 in
set_option maxHeartbeats 2000000 in
theorem l08Raise_any (k m n : Nat) (w : World) (hm : m < 16) (hk : m < 2 ^ k) (hk4 : k ≤ 4) (hn : n ≤ 40) :
    Calls Tryz.prog 121 #[.int .i64 k, .int .i64 m, .int .i64 n] w (RetRL (rzB k (formS k m k) n) w) := by
  obtain ⟨R, hR⟩ : ∃ R, R = RetRL (rzB k (formS k m k) n) w := ⟨_, rfl⟩
  have HR := Lib.hid hR
  rw [← hR]
  have HC := fun W : World => Lib.hid (l08Form_any k m W hm hk hk4)
  have HPH := Lib.hid (formS_hom hk k)
  have HPL := Lib.hid (Nat.le_trans (formS_len k m k) hk4)
  obtain ⟨P, hP⟩ : ∃ P, P = formS k m k := ⟨_, rfl⟩
  rw [← hP] at HC HPH HPL HR
  obtain ⟨pl, hpl⟩ : ∃ pl, pl = P.length := ⟨_, rfl⟩
  rw [← hpl] at HC HPL
  have HPl := Lib.hid hpl
  obtain ⟨i0, hi, hz0, hz1, hz2⟩ := info_parts Tryz.info_i64
  have hmk : ∀ W : World, (Instr.makeSlice 41 (.int .i64 (k : Int)) (.int .i64 (k : Int))).run Tryz.prog W = .ok (.slice (some ⟨W.heap.size, 0, none⟩) k k) (W.alloc (.cells (madeCells #[.int .i64 0] k) 2)) := fun W => by
    have h1 := run_make (P := Tryz.prog) (w := W) 41 2 i0 (.int .i64 0) Tryz.underlying41 hi hz0 .i64 .i64 (k : Int) (k : Int) (by omega) (Int.le_refl _) (by rw [hz2]; omega) (by omega)
    rw [h1, hz1, show ((k : Int)).toNat = k from by omega, Nat.mul_one]
    rfl
  have hkl : k ≤ maxLen := by unfold maxLen; omega
  clear hR hP hpl hi hz0 hz1 hz2 i0 hm hk
  go_enter Tryz.func121, Tryz.ntmps121
  go_upto_region 1 with fail
  go_cut [7, 8] from 11 to 16 (fun a b wc => ∃ (q c2 : Nat) (A2 : Option Addr), a = .slice (some ⟨q, 0, none⟩) 1 1 ∧ b = .slice A2 pl c2 ∧ Hid (RdL wc wc.heap.size (some ⟨q, 0, none⟩) 1 1 [List.replicate k 0]) ∧ Hid (RdL wc wc.heap.size A2 pl c2 P) ∧ Hid (Below w.heap.size w wc))
  case first =>
    go_region_with (go_at_call 137; refine (HC _).out.mono ?_; rintro e w1 ⟨A1, c1, rfl, ho1, hb1⟩)
    all_goals
      go_wp2_with fail
      go_meet
      first
        | exact ⟨_, c1, A1, rfl, rfl, Lib.hid (rdL_stay ((rd_two w k _ rfl hkl).drewN 1) hb1), Lib.hid ho1.rd, Lib.hid ((((Below.refl _ w).alloc (Nat.le_refl _) _).alloc (by simp) _).drew.trans (hb1.mono (by simp [World.drew]; omega)))⟩
        | exact ⟨_, c1, A1, rfl, rfl, Lib.hid (rd_one w1 _ k _ ((((made_zero w w.heap.size k (Nat.le_refl _) hkl).rd.drewN 1).below hb1).mono hb1.size)), Lib.hid (rdL_stay ho1.rd ((Below.refl _ _).alloc (Nat.le_refl _) _)), Lib.hid ((((Below.refl _ w).alloc (Nat.le_refl _) _).drew.trans (hb1.mono (by simp [World.drew]))).alloc (by have := hb1.size; simp [World.drew] at this; omega) _)⟩
        | exact ⟨_, c1, A1, rfl, rfl, Lib.hid (rd_two w1 k _ rfl hkl), Lib.hid (rdL_stay ho1.rd (((Below.refl _ _).alloc (Nat.le_refl _) _).alloc (by simp) _)), Lib.hid ((((Below.refl _ w).drew.trans hb1).alloc hb1.size _).alloc (Nat.le_trans (show w.heap.size ≤ w1.heap.size from hb1.size) (by simp)) _)⟩
  case rest =>
    obtain ⟨q, c2, A2, rfl, rfl, HR1, HR2, HB⟩ := hcut
    clear hmk HC hkl
    have HP1 := Lib.hid (show RdL wc wc.heap.size A2 pl c2 (mulP ((2 ^ 0 : Nat) : Int) P) from by
      have e : ((2 ^ 0 : Nat) : Int) = 1 := by decide
      rw [e, mulP_one]; exact HR2.out)
    go_wp2_with fail
    go_loopw [2, 7, 8] (fun x o p wr => ∃ (t n1 c1 c2 : Nat) (A1 A2 : Option Addr), t ≤ 6 ∧ x = .int .i64 ((n / 2 ^ t : Nat) : Int) ∧ o = .slice A1 n1 c1 ∧ p = .slice A2 pl c2 ∧ Hid (RdL wr wr.heap.size A1 n1 c1 (rzT k P n t)) ∧ Hid (RdL wr wr.heap.size A2 pl c2 (mulP ((2 ^ t : Nat) : Int) P)) ∧ Hid (Below w.heap.size w wr)) (fun x _ _ _ => (intOf x).toNat)
    case atStart => exact ⟨0, 1, 1, c2, _, A2, by omega, by simp, rfl, rfl, HR1, HP1, HB⟩
    case round =>
      clear HR1 HR2 HP1 HB
      obtain ⟨t, n1, c1, c2, A1, A2, ht, rfl, rfl, rfl, HR1, HR2, HB⟩ := hrel
      have HNd := Lib.hid (show n / 2 ^ (t + 1) = n / 2 ^ t / 2 from by rw [Nat.pow_succ, Nat.div_div_eq_div_mul])
      have HTB := Lib.hid (show n.testBit t = decide (n / 2 ^ t % 2 = 1) from Nat.testBit_eq_decide_div_mod_eq)
      have HPS := Lib.hid (show rzT k P n (t + 1) = if n.testBit t = true then oddL (prodsP (rzT k P n t) (mulP ((2 ^ t : Nat) : Int) P)) else rzT k P n t from rfl)
      have HLN := Lib.hid (Nat.le_trans (rzT_len (k := k) (P := P) (by rw [← HPl.out]; exact HPL.out) n t) (Nat.pow_le_pow_right (by decide) ht))
      have e46 : (4 : Nat) ^ 6 = 4096 := by decide
      have h2t : 2 ^ t ≤ 64 := Nat.le_trans (Nat.pow_le_pow_right (by decide) ht) (by decide)
      have HS1 := Lib.hid (sml_of (rzT_hom HPH.out n t) (by have := Nat.mod_le n (2 ^ t); omega))
      have HMh := mulP_hom (c := ((2 ^ t : Nat) : Int)) HPH.out (Int.natCast_nonneg _)
      have HS2 := Lib.hid (sml_of HMh (by omega))
      have HMT := Lib.hid (show (mulP ((2 ^ t : Nat) : Int) P).map (fun x => plusW x x) = mulP ((2 ^ (t + 1) : Nat) : Int) P from by
        have e : ((2 ^ t : Nat) : Int) * 2 = ((2 ^ (t + 1) : Nat) : Int) := by rw [Nat.pow_succ]; push_cast; rfl
        rw [mulP_two, e])
      have hn14 : n1 ≤ 4096 := by rw [← HR1.out.len]; have := HLN.out; omega
      have hpl4 := HPL.out
      have ht6 : 0 < n / 2 ^ t → t + 1 ≤ 6 := fun h => by
        apply Classical.byContradiction
        intro h6
        obtain rfl : t = 6 := by omega
        have e : (2 : Nat) ^ 6 = 64 := by decide
        omega
      obtain ⟨x, hx⟩ : ∃ x, x = n / 2 ^ t := ⟨_, rfl⟩
      obtain ⟨M, hM⟩ : ∃ M, M = mulP ((2 ^ t : Nat) : Int) P := ⟨_, rfl⟩
      rw [← hx] at HNd HTB ht6
      rw [← hM] at HPS HS2 HMT HR2
      rw [← hx]
      have HXe := Lib.hid hx
      clear hx hM HMh e46 h2t
      by_cases hx0 : 0 < x
      · have hxm : x < 41 := by rw [HXe.out]; exact Nat.lt_of_le_of_lt (Nat.div_le_self _ _) (by omega)
        have hdx : decide (0 < (x : Int)) = true := decide_eq_true (by omega)
        by_cases hodd : x % 2 = 1
        · have hrm : Int.tmod (x : Int) 2 = 1 := by rw [Int.tmod_eq_emod_of_nonneg (by omega)]; omega
          have HQ := Lib.hid (show oddL (prodsP (rzT k P n t) M) = rzT k P n (t + 1) from by rw [HPS.out, HTB.out, if_pos (decide_eq_true hodd)])
          have C1 := Lib.hid (l08Times_any A1 A2 n1 c1 pl c2 k _ M wr HR1.out HR2.out (by omega) (by omega) HS1.out HS2.out (by omega))
          obtain ⟨Z, hZ⟩ : ∃ Z, Z = oddL (prodsP (rzT k P n t) M) := ⟨_, rfl⟩
          rw [← hZ] at C1 HQ
          obtain ⟨zn, hzn⟩ : ∃ zn, zn = Z.length := ⟨_, rfl⟩
          rw [← hzn] at C1
          clear hZ hzn
          go_wp2_with fail
          refine C1.out.mono ?_
          rintro e w3 ⟨A3, c3, rfl, ho3, hb3⟩
          have HR13 := Lib.hid ho3.rd
          have HR23 := Lib.hid (rdL_stay HR2.out hb3)
          have HB3 := Lib.hid (HB.out.trans (hb3.mono HB.out.size))
          clear ho3 hb3
          obtain ⟨W, hW⟩ : ∃ W : World, W = w3 := ⟨_, rfl⟩
          rw [← hW] at HR13 HB3 HR23 ⊢
          have HST := Lib.hid (StL.start (Below.refl W.heap.size W) (Nat.le_refl _)).here
          have hb0 : Below W.heap.size W (W.alloc (.cells #[] 41)) := (Below.refl _ _).alloc (Nat.le_refl _) _
          clear hW
          go_wp2_with fail
          go_loopw [9, 10] (fun o i wz => ∃ (u l c' : Nat) (A' : Option Addr), u ≤ pl ∧ l = u ∧ i = .int .i64 u ∧ o = .slice A' l c' ∧ Hid (StL W W.heap.size wz wz.heap.size A' l c' ((M.take u).map fun x => plusW x x))) (fun _ i _ => pl - (intOf i).toNat)
          case atStart => exact ⟨0, 0, _, _, by omega, rfl, rfl, rfl, by rw [List.take_zero]; exact HST⟩
          case round =>
            clear HST hb0
            obtain ⟨u, l, c', A', hu, rfl, rfl, rfl, HST⟩ := hrel
            by_cases hlt : l < pl
            · obtain ⟨ad6, A6, n6, c6, y, rfl, _, hy, hc6, hr6⟩ := (HR23.out.below HST.out.bel).at_ hlt
              have hyS := HS2.out y (List.mem_of_getElem? hy.out)
              obtain rfl : n6 = k := by rw [← hr6.len]; exact hyS.1
              have HTk := Lib.hid (show ((M.take (l + 1)).map fun x => plusW x x) = ((M.take l).map fun x => plusW x x) ++ [plusW y y] from by rw [List.take_add_one, hy.out, List.map_append]; rfl)
              have Xd := Lib.hid (show Below wr.heap.size wr wr.drew from below_drewN (Below.refl _ _) 1)
              have CR := Lib.hid (plus08_any A6 A6 n6 c6 c6 y y wr.drew ((hr6.mono HST.out.bel.size).drewN 1) ((hr6.mono HST.out.bel.size).drewN 1) (by omega) hyS.2 hyS.2)
              have hl3 : l ≤ 3000000000000 := by omega
              have hzr : W.heap.size ≤ wr.heap.size := HST.out.bel.size
              clear hy hyS hr6
              go_upto_region 10 with fail
              have hent : ∀ args w, (callFunc 107 args).run Tryz.prog w = .ok (.enter 107 args) w := enters_of Tryz.func107 (by kernel_rfl) rfl
              go_region_law
                (first
                  | (refine stepD2 107 (.tmp 38) (.tmp 42) #[41, 41] rfl rfl hent rfl rfl CR.out ?_
                     rintro e u ⟨A7, c7, rfl, ho7, hb7⟩
                     refine ⟨_, rfl, ?_⟩
                     have N7 := Lib.hid (show OwnS u wr.heap.size A7 n6 c7 (plusW y y) from ho7)
                     have X7 := Lib.hid (Xd.out.trans hb7)
                     have S7 := Lib.hid (show StL W W.heap.size u wr.heap.size A' l c' _ from HST.out.call X7.out)
                     clear ho7 hb7)
                  | (refine step_pushL (by rfl) (.tmp 34) (.tmp 44) rfl rfl rfl rfl S7.out N7.out hl3 ?_
                     intro A8 c8 w8 hs8 _ _
                     have S8 := Lib.hid hs8
                     clear hs8))
              all_goals
                have S9 := Lib.hid (show StL W W.heap.size w8 w8.heap.size A8 (l + 1) c8 ((M.take (l + 1)).map fun x => plusW x x) from by rw [HTk.out]; exact S8.out)
                go_wp2_with fail
                go_roundw
                case rel => exact ⟨l + 1, l + 1, c8, A8, by omega, rfl, by go_num, rfl, S9⟩
                case measure => simp [intOf]; omega
            · obtain rfl : l = pl := by omega
              have HMl := Lib.hid (show M.take l = M from List.take_of_length_le (by rw [HR23.out.len]; exact Nat.le_refl _))
              have HR9 := Lib.hid (rdL_stay HR13.out HST.out.bel)
              have HRA := Lib.hid (show RdL wr wr.heap.size A' l c' (mulP ((2 ^ (t + 1) : Nat) : Int) P) from by
                have h9 := HST.out.own.rd
                rw [HMl.out, HMT.out] at h9
                exact h9)
              have HB9 := Lib.hid (HB3.out.trans (HST.out.bel.mono HB3.out.size))
              have hx2 : Int.tdiv (x : Int) 2 = ((x / 2 : Nat) : Int) := by rw [Int.tdiv_eq_ediv_of_nonneg (by omega)]; omega
              have hw64 : wrap64 ((x / 2 : Nat) : Int) = ((x / 2 : Nat) : Int) := by unfold wrap64; omega
              have hxn : IntKind.i64.wrap ((x / 2 : Nat) : Int) = ((x / 2 : Nat) : Int) := by rw [IntKind.wrap_i64]; omega
              have HQq := HQ
              go_wp2_with fail
              go_roundw
              case rel => exact ⟨t + 1, zn, c3, c', A3, A', ht6 hx0, by rw [HNd.out]; (first | rfl | go_num), rfl, rfl, by rw [← HQq.out]; exact HR9, HRA, HB9⟩
              case measure => simp [intOf]; omega
        · have hrm : Int.tmod (x : Int) 2 = 0 := by rw [Int.tmod_eq_emod_of_nonneg (by omega)]; omega
          have HQ := Lib.hid (show rzT k P n t = rzT k P n (t + 1) from by rw [HPS.out, HTB.out, if_neg (by rw [decide_eq_false hodd]; decide)])
          obtain ⟨W, hW⟩ : ∃ W : World, W = wr := ⟨_, rfl⟩
          rw [← hW] at HR1 HB HR2 ⊢
          have HST := Lib.hid (StL.start (Below.refl W.heap.size W) (Nat.le_refl _)).here
          have hb0 : Below W.heap.size W (W.alloc (.cells #[] 41)) := (Below.refl _ _).alloc (Nat.le_refl _) _
          clear hW
          go_wp2_with fail
          go_loopw [9, 10] (fun o i wz => ∃ (u l c' : Nat) (A' : Option Addr), u ≤ pl ∧ l = u ∧ i = .int .i64 u ∧ o = .slice A' l c' ∧ Hid (StL W W.heap.size wz wz.heap.size A' l c' ((M.take u).map fun x => plusW x x))) (fun _ i _ => pl - (intOf i).toNat)
          case atStart => exact ⟨0, 0, _, _, by omega, rfl, rfl, rfl, by rw [List.take_zero]; exact HST⟩
          case round =>
            clear HST hb0
            obtain ⟨u, l, c', A', hu, rfl, rfl, rfl, HST⟩ := hrel
            by_cases hlt : l < pl
            · obtain ⟨ad6, A6, n6, c6, y, rfl, _, hy, hc6, hr6⟩ := (HR2.out.below HST.out.bel).at_ hlt
              have hyS := HS2.out y (List.mem_of_getElem? hy.out)
              obtain rfl : n6 = k := by rw [← hr6.len]; exact hyS.1
              have HTk := Lib.hid (show ((M.take (l + 1)).map fun x => plusW x x) = ((M.take l).map fun x => plusW x x) ++ [plusW y y] from by rw [List.take_add_one, hy.out, List.map_append]; rfl)
              have Xd := Lib.hid (show Below wr.heap.size wr wr.drew from below_drewN (Below.refl _ _) 1)
              have CR := Lib.hid (plus08_any A6 A6 n6 c6 c6 y y wr.drew ((hr6.mono HST.out.bel.size).drewN 1) ((hr6.mono HST.out.bel.size).drewN 1) (by omega) hyS.2 hyS.2)
              have hl3 : l ≤ 3000000000000 := by omega
              have hzr : W.heap.size ≤ wr.heap.size := HST.out.bel.size
              clear hy hyS hr6
              go_upto_region 10 with fail
              have hent : ∀ args w, (callFunc 107 args).run Tryz.prog w = .ok (.enter 107 args) w := enters_of Tryz.func107 (by kernel_rfl) rfl
              go_region_law
                (first
                  | (refine stepD2 107 (.tmp 38) (.tmp 42) #[41, 41] rfl rfl hent rfl rfl CR.out ?_
                     rintro e u ⟨A7, c7, rfl, ho7, hb7⟩
                     refine ⟨_, rfl, ?_⟩
                     have N7 := Lib.hid (show OwnS u wr.heap.size A7 n6 c7 (plusW y y) from ho7)
                     have X7 := Lib.hid (Xd.out.trans hb7)
                     have S7 := Lib.hid (show StL W W.heap.size u wr.heap.size A' l c' _ from HST.out.call X7.out)
                     clear ho7 hb7)
                  | (refine step_pushL (by rfl) (.tmp 34) (.tmp 44) rfl rfl rfl rfl S7.out N7.out hl3 ?_
                     intro A8 c8 w8 hs8 _ _
                     have S8 := Lib.hid hs8
                     clear hs8))
              all_goals
                have S9 := Lib.hid (show StL W W.heap.size w8 w8.heap.size A8 (l + 1) c8 ((M.take (l + 1)).map fun x => plusW x x) from by rw [HTk.out]; exact S8.out)
                go_wp2_with fail
                go_roundw
                case rel => exact ⟨l + 1, l + 1, c8, A8, by omega, rfl, by go_num, rfl, S9⟩
                case measure => simp [intOf]; omega
            · obtain rfl : l = pl := by omega
              have HMl := Lib.hid (show M.take l = M from List.take_of_length_le (by rw [HR2.out.len]; exact Nat.le_refl _))
              have HR9 := Lib.hid (rdL_stay HR1.out HST.out.bel)
              have HRA := Lib.hid (show RdL wr wr.heap.size A' l c' (mulP ((2 ^ (t + 1) : Nat) : Int) P) from by
                have h9 := HST.out.own.rd
                rw [HMl.out, HMT.out] at h9
                exact h9)
              have HB9 := Lib.hid (HB.out.trans (HST.out.bel.mono HB.out.size))
              have hx2 : Int.tdiv (x : Int) 2 = ((x / 2 : Nat) : Int) := by rw [Int.tdiv_eq_ediv_of_nonneg (by omega)]; omega
              have hw64 : wrap64 ((x / 2 : Nat) : Int) = ((x / 2 : Nat) : Int) := by unfold wrap64; omega
              have hxn : IntKind.i64.wrap ((x / 2 : Nat) : Int) = ((x / 2 : Nat) : Int) := by rw [IntKind.wrap_i64]; omega
              have HQq := HQ
              go_wp2_with fail
              go_roundw
              case rel => exact ⟨t + 1, n1, c1, c', A1, A', ht6 hx0, by rw [HNd.out]; (first | rfl | go_num), rfl, rfl, by rw [← HQq.out]; exact HR9, HRA, HB9⟩
              case measure => simp [intOf]; omega
      · obtain rfl : x = 0 := by omega
        have HE := Lib.hid (show rzB k P n = rzT k P n t from by
          obtain ⟨r, hr⟩ : ∃ r, 6 = t + r := ⟨6 - t, by omega⟩
          unfold rzB
          rw [hr]
          have h5 : n / 2 ^ t = 0 := HXe.out.symm
          exact rzT_end (by
            have h6 := Nat.two_pow_pos t
            rcases Nat.div_eq_zero_iff.1 h5 with h7 | h7
            · omega
            · exact h7) r)
        go_wp2_with fail
        rw [HR.out]
        exact RetRL.mk HR1.out (by rw [HE.out]) HB.out
end Go.Proofs.YtoodhbafleemjaaGreat

/- spec: l08Substitute, SubstituteForms. -/
namespace Go.Proofs.YtoodhbafleemjaaGreat
open Go.RowKit
set_option linter.unusedVariables false

/-! ### plain: both sides make the same terms -/
theorem form_same (k m : Nat) : ∀ j : Nat, SameSum (formS k m j) (formT k m j)
  | 0 => SameSum.refl _
  | j + 1 => by
    have ih := form_same k m j
    rw [formS, formT]
    split
    · refine (insX_same _ _).trans ?_
      intro z
      have := ih z
      rw [List.count_cons, List.count_append, List.count_cons, List.count_nil]
      omega
    · exact ih
theorem formS_same {k m : Nat} (hm : m < 2 ^ k) (hk : k ≤ 4) : SameSum (formS k m k) (formP k m) := by
  rw [formT_end (k := k) (m := m) (j := k) hk (fun i _ hi => Nat.testBit_lt_two_pow (Nat.lt_of_lt_of_le hm (Nat.pow_le_pow_right (by decide) hi)))]
  exact form_same k m k
theorem mulP_congr (c : Int) {P Q : Pol} (h : SameSum P Q) : SameSum (mulP c P) (mulP c Q) := ss_map _ h
theorem rz_same {k : Nat} {P Q : Pol} (h : SameSum P Q) (n : Nat) : ∀ t : Nat, SameSum (rzT k P n t) (pwT k Q n t)
  | 0 => SameSum.refl _
  | t + 1 => by
    have ih := rz_same (k := k) h n t
    rw [rzT, pwT]
    split
    · exact (oddL_same _).trans (prodsP_congr ih (mulP_congr _ h))
    · exact ih
theorem rz_eq {k m n : Nat} (A : Pol) (hm : m < 2 ^ k) (hk : k ≤ 4) : oddL (prodsP A (rzB k (formS k m k) n)) = oddL (prodsP A (pwB k (formP k m) n)) :=
  asc_same (oddL_asc _) (oddL_asc _) (((oddL_same _).trans (prodsP_congr (SameSum.refl A) (rz_same (formS_same hm hk) n 6))).trans (oddL_same _).symm)
theorem rzB_hom {k n : Nat} {P : Pol} (h : Hom k 1 P) (hn : n < 64) : Hom k n (rzB k P n) := by
  have h1 := rzT_hom h n 6
  rw [show n % 2 ^ 6 = n from Nat.mod_eq_of_lt (by have e : (2 : Nat) ^ 6 = 64 := by decide
                                                   omega)] at h1
  exact h1
theorem rzB_len {k n : Nat} {P : Pol} (h : P.length ≤ 4) : (rzB k P n).length ≤ 4096 := Nat.le_trans (rzT_len (k := k) h n 6) (by decide)
theorem sum_eq {A B : Pol} : oddL (oddL A ++ B) = oddL (A ++ B) :=
  asc_same (oddL_asc _) (oddL_asc _) (((oddL_same _).trans ((oddL_same A).append (SameSum.refl B))).trans (oddL_same _).symm)
theorem tot4 {k : Nat} {d : Int} {P : Pol} (h : Hom k d P) (hk : k ≤ 4) : totalL P ≤ P.length * 4 := totalL_le P 4 fun r hr => by rw [(h r hr).2.2]; exact hk

/-! ### the walk -/
set_option maxRecDepth 100000 in
set_option maxHeartbeats 2000000 in
theorem l08Substitute_any (A1 A2 : Option Addr) (n1 c1 n2 c2 k : Nat) (xss : Pol) (fs : List Int) (w : World) (h1 : RdL w w.heap.size A1 n1 c1 xss) (h2 : RdS w w.heap.size A2 n2 c2 fs) (hx : ∀ x ∈ xss, SubK k fs x) (hk : k ≤ 4) (hn : n1 ≤ 2000) :
    Calls Tryz.prog 78 #[.int .i64 k, .slice A1 n1 c1, .slice A2 n2 c2] w (RetL (oddL (outF k fs xss)).length (oddL (outF k fs xss)) w) := by
  obtain ⟨R, hR⟩ : ∃ R, R = RetL (oddL (outF k fs xss)).length (oddL (outF k fs xss)) w := ⟨_, rfl⟩
  have HR := Lib.hid hR
  rw [← hR]
  have HX := Lib.hid hx
  have HL1 := Lib.hid h1.len
  have HL2 := Lib.hid h2.len
  have H1 := Lib.hid h1
  have H2 := Lib.hid h2
  obtain ⟨i0, hi, hz0, hz1, hz2⟩ := info_parts Tryz.info_i64
  have hmk : ∀ W : World, (Instr.makeSlice 41 (.int .i64 (k : Int)) (.int .i64 (k : Int))).run Tryz.prog W = .ok (.slice (some ⟨W.heap.size, 0, none⟩) k k) (W.alloc (.cells (madeCells #[.int .i64 0] k) 2)) := fun W => by
    have h1 := run_make (P := Tryz.prog) (w := W) 41 2 i0 (.int .i64 0) Tryz.underlying41 hi hz0 .i64 .i64 (k : Int) (k : Int) (by omega) (Int.le_refl _) (by rw [hz2]; omega) (by omega)
    rw [h1, hz1, show ((k : Int)).toNat = k from by omega, Nat.mul_one]
    rfl
  have hkl : k ≤ maxLen := by unfold maxLen; omega
  have HR0 : Hid (OwnL (w.alloc (.cells #[] 41)) w.heap.size (w.alloc (.cells #[] 41)).heap.size (some ⟨w.heap.size, 0, none⟩) 0 0 (oddL (outF k fs (xss.take 0)))) := Lib.hid (StL.start (Below.refl w.heap.size w) (Nat.le_refl _)).here.own
  have HB0 := Lib.hid ((Below.refl w.heap.size w).alloc (Nat.le_refl _) (.cells #[] 41))
  clear hR hx h1 h2 hi hz0 hz1 hz2 i0
  go_enter Tryz.func78, Tryz.ntmps78
  go_wp2_with fail
  go_loopw [7, 8] (fun o i wr => ∃ (t l c : Nat) (A : Option Addr), t ≤ n1 ∧ i = .int .i64 t ∧ o = .slice A l c ∧ Hid (OwnL wr w.heap.size wr.heap.size A l c (oddL (outF k fs (xss.take t)))) ∧ Hid (Below w.heap.size w wr)) (fun _ i _ => n1 - (intOf i).toNat)
  case atStart => exact ⟨0, 0, 0, _, by omega, rfl, rfl, HR0, HB0⟩
  case round =>
    clear HR0 HB0
    obtain ⟨t, l, c, A, ht, rfl, rfl, HO, HB⟩ := hrel
    by_cases hlt : t < n1
    · obtain ⟨W, hW⟩ : ∃ W : World, W = wr := ⟨_, rfl⟩
      subst hW
      obtain ⟨ad3, A3, n3, c3, x, rfl, _, hxt, hc3, hr3⟩ := (H1.out.below HB.out).at_ hlt
      have hK := HX.out x (List.mem_of_getElem? hxt.out)
      have HK := Lib.hid hK
      obtain rfl : n3 = k := by rw [← hr3.len]; exact hK.xl
      have HR3 := Lib.hid (hr3.mono HB.out.size)
      have HC3 := Lib.hid hc3
      have H2W := Lib.hid ((H2.out.below HB.out).mono HB.out.size)
      have HSn := Lib.hid (show oddL (outF n3 fs (xss.take (t + 1))) = oddL (oddL (outF n3 fs (xss.take t)) ++ partF n3 fs x n3) from by
        rw [sum_eq, List.take_add_one, hxt.out]
        exact congrArg oddL (outF_snoc n3 fs _ x))
      have hsub : ∀ y ∈ xss.take t, SubK n3 fs y := fun y hy => HX.out y (List.mem_of_mem_take hy)
      have HOl := Lib.hid (show (oddL (outF n3 fs (xss.take t))).length ≤ 24682000 from by
        have h5 := outF_len hsub
        have h6 : (xss.take t).length ≤ 2000 := by rw [List.length_take]; omega
        exact Nat.le_trans (oddL_le _) (Nat.le_trans h5 (Nat.mul_le_mul_right _ h6)))
      have HOt := Lib.hid (show totalL (oddL (outF n3 fs (xss.take t))) ≤ 100000000 from by
        have h5 := totalL_le (oddL (outF n3 fs (xss.take t))) 4 fun r hr => by
          have := (outF_mono hsub r (oddL_mem hr)).2
          omega
        have := HOl.out
        omega)
      have HRz := Lib.hid (rd_two W n3 (W.heap.size + 1) rfl hkl)
      obtain ⟨w1, hw1⟩ : ∃ W1, W1 = (W.alloc (.cells (madeCells #[.int .i64 0] n3) 2)).alloc (.cells #[.slice (some ⟨W.heap.size, 0, none⟩) n3 n3] 41) := ⟨_, rfl⟩
      have HBz := Lib.hid (show Below W.heap.size W w1 from by rw [hw1]; exact ((Below.refl _ _).alloc (Nat.le_refl _) _).alloc (by simp) _)
      rw [← hw1] at HRz
      have HW1 := Lib.hid hw1
      clear hK hr3 hxt hsub hw1
      go_wp2_with fail
      rw [← HW1.out]
      go_loopw [9, 10] (fun p i wz => ∃ (u pl pc : Nat) (Ap : Option Addr), u ≤ n3 ∧ i = .int .i64 u ∧ p = .slice Ap pl pc ∧ Hid (RdL wz wz.heap.size Ap pl pc (partF n3 fs x u)) ∧ Hid (Below W.heap.size W wz)) (fun _ i _ => n3 - (intOf i).toNat)
      case atStart => exact ⟨0, 1, 1, _, by omega, rfl, rfl, HRz, HBz⟩
      case round =>
        clear HRz HBz hmk
        obtain ⟨u, pl, pc, Ap, hu, rfl, rfl, HP, HBi⟩ := hrel
        have HCt := Lib.hid (show wr.cell? (ad3.add t) = some (.slice A3 n3 c3) from by
          obtain ⟨ad9, A9, n9, c9, x9, e9, hb9, _, hc9, _⟩ := (H1.out.below HB.out).at_ hlt
          have e9' := Option.some.inj e9
          subst e9'
          rw [HBi.out.cell (by rw [block_of_add]; have := HB.out.size; omega)]
          exact HC3.out)
        by_cases hlt2 : u < n3
        · obtain ⟨ad4, nx, rfl, _, hnx, hc4⟩ := (HR3.out.below HBi.out).at_ hlt2
          have hun : u < n2 := by rw [← HL2.out, HK.out.fl]; exact hlt2
          obtain ⟨ad5, mf, rfl, _, hmf, hc5⟩ := (H2W.out.below HBi.out).at_ (k := u) hun
          have hnx0 := HK.out.xp nx (List.mem_of_getElem? hnx.out)
          have hmf0 := HK.out.fr mf (List.mem_of_getElem? hmf.out)
          have hxe := HK.out.exp u
          obtain ⟨N, rfl⟩ : ∃ N : Nat, nx = N := ⟨nx.toNat, by omega⟩
          obtain ⟨F, rfl⟩ : ∃ F : Nat, mf = F := ⟨mf.toNat, by omega⟩
          have hF : F < 2 ^ n3 := by have := hmf0.2; rwa [Int.toNat_natCast] at this
          have hF16 : F < 16 := Nat.lt_of_lt_of_le hF (Nat.le_trans (Nat.pow_le_pow_right (by decide) hk) (by decide))
          have hN40 : N ≤ 40 := by rw [hnx.out] at hxe; simpa using hxe
          have HPS := Lib.hid (show oddL (prodsP (partF n3 fs x u) (rzB n3 (formS n3 F n3) N)) = partF n3 fs x (u + 1) from by
            rw [partF, hnx.out, hmf.out, rz_eq _ hF hk]
            simp only [Option.getD_some, Int.toNat_natCast])
          have HFH := formS_hom hF n3
          have HPH := rzB_hom HFH (n := N) (by omega)
          have HS2 := Lib.hid (sml_of HPH (by omega))
          have HPaH := partF_hom HK.out u hu
          have HS1 := Lib.hid (sml_of HPaH (by have := take_sum_le HK.out.xp u; have := HK.out.xs; omega))
          have HL3 := Lib.hid (show pl ≤ 20000 from by rw [← HP.out.len]; have := partF_len HK.out u hu; omega)
          have HLz := Lib.hid (rzB_len (k := n3) (n := N) (Nat.le_trans (formS_len n3 F n3) hk))
          have Xd := Lib.hid (show Below wr.heap.size wr wr.drew from below_drewN (Below.refl _ _) 1)
          have CR := l08Raise_any n3 F N wr.drew hF16 hF hk hN40
          unfold RetRL at CR
          obtain ⟨Z, hZ⟩ : ∃ Z, Z = rzB n3 (formS n3 F n3) N := ⟨_, rfl⟩
          rw [← hZ] at CR HPS HS2 HLz
          obtain ⟨zn, hzn⟩ : ∃ zn, zn = Z.length := ⟨_, rfl⟩
          rw [← hzn] at CR HLz
          replace CR := Lib.hid CR
          obtain ⟨Y, hY⟩ : ∃ Y, Y = oddL (prodsP (partF n3 fs x u) Z) := ⟨_, rfl⟩
          rw [← hY] at HPS
          obtain ⟨yn, hyn⟩ : ∃ yn, yn = Y.length := ⟨_, rfl⟩
          have CT : ∀ (W : World) (A : Option Addr) (c : Nat), Below wr.heap.size wr W → RdL W W.heap.size A zn c Z → Hid (Calls Tryz.prog 54 #[.slice Ap pl pc, .slice A zn c] W (RetL yn Y W)) := fun W A c hb hr => by
            have h := l08Times_any Ap A pl pc zn c n3 _ Z W (rdL_stay HP.out hb) hr HL3.out (by have := HLz.out; omega) HS1.out HS2.out (by omega)
            rw [← hY, ← hyn] at h
            exact Lib.hid h
          clear hZ hzn hY hyn hnx hmf hmf0 hxe hF hF16 hnx0 HFH HPH HPaH
          have hct := HCt.out
          go_upto_region 9 with fail
          have hent1 : ∀ args w, (callFunc 121 args).run Tryz.prog w = .ok (.enter 121 args) w := enters_of Tryz.func121 (by kernel_rfl) rfl
          have hent2 : ∀ args w, (callFunc 54 args).run Tryz.prog w = .ok (.enter 54 args) w := enters_of Tryz.func54 (by kernel_rfl) rfl
          go_region_law
            (first
              | (refine stepD3 121 (.tmp 27) (.tmp 31) (.tmp 38) #[2, 2, 2] rfl rfl hent1 rfl rfl rfl CR.out ?_
                 rintro e u7 ⟨A7, c7, rfl, ho7, hb7⟩
                 refine ⟨_, rfl, ?_⟩
                 have X7 := Lib.hid (Xd.out.trans hb7)
                 have C2 := CT u7 A7 c7 X7.out ho7
                 clear ho7 hb7)
              | (refine stepD2 54 (.tmp 26) (.tmp 39) #[24, 24] rfl rfl hent2 rfl rfl C2.out ?_
                 rintro e u8 ⟨A8, c8, rfl, ho8, hb8⟩
                 refine ⟨_, rfl, ?_⟩
                 have X8 := Lib.hid (X7.out.trans (hb8.mono X7.out.size))
                 have N8 := Lib.hid ho8.rd
                 clear ho8 hb8))
          all_goals
            have HP9 := Lib.hid (show RdL u8 u8.heap.size A8 yn c8 (partF n3 fs x (u + 1)) from by rw [← HPS.out]; exact N8.out)
            have HB9 := Lib.hid (HBi.out.trans (X8.out.mono HBi.out.size))
            go_wp2_with fail
            go_roundw
            case rel => exact ⟨u + 1, yn, c8, A8, by omega, by go_num, rfl, HP9, HB9⟩
            case measure => simp [intOf]; omega
        · obtain rfl : u = n3 := by omega
          have C1 := Lib.hid (l01Sum_any A Ap l c pl pc _ _ wr (rdL_stay HO.out.rd HBi.out) HP.out (by rw [← HO.out.len]; have := HOl.out; omega) (by rw [← HP.out.len]; have := partF_len HK.out u (Nat.le_refl _); omega) (by have := HOt.out; omega) (by
            have h5 := tot4 (partF_hom HK.out u (Nat.le_refl _)) hk
            have h6 := partF_len HK.out u (Nat.le_refl _)
            omega) (oddL_asc _) (partF_asc u))
          rw [← HSn.out] at C1
          obtain ⟨Z, hZ⟩ : ∃ Z, Z = oddL (outF u fs (xss.take (t + 1))) := ⟨_, rfl⟩
          rw [← hZ] at C1
          have HZ := Lib.hid hZ
          obtain ⟨zn, hzn⟩ : ∃ zn, zn = Z.length := ⟨_, rfl⟩
          rw [← hzn] at C1
          clear hZ hzn
          go_wp2_with fail
          refine C1.out.mono ?_
          rintro e w5 ⟨A5, c5, rfl, ho5, hb5⟩
          have HO5 := Lib.hid (show OwnL w5 w.heap.size w5.heap.size A5 zn c5 (oddL (outF u fs (xss.take (t + 1)))) from by rw [← HZ.out]; exact ho5.mono (Nat.le_trans HB.out.size HBi.out.size) (Nat.le_refl _))
          have HB5 := Lib.hid ((HB.out.trans (HBi.out.mono HB.out.size)).trans (hb5.mono (Nat.le_trans HB.out.size HBi.out.size)))
          clear ho5 hb5
          go_wp2_with fail
          go_roundw
          case rel => exact ⟨t + 1, zn, c5, A5, by omega, by go_num, rfl, HO5, HB5⟩
          case measure => simp [intOf]; omega
    · have HE := Lib.hid (show xss.take t = xss from List.take_of_length_le (by rw [HL1.out]; omega))
      go_wp2_with fail
      rw [HR.out]
      exact RetL.mk (by rw [← HO.out.len, HE.out]) (by rw [HE.out]) ⟨HO.out, HB.out, HB.out.size, Nat.le_refl _⟩
end Go.Proofs.YtoodhbafleemjaaGreat

/- spec: SubstituteForms. -/
namespace Go.Proofs.YtoodhbafleemjaaGreat
open Go.RowKit
set_option linter.unusedVariables false

theorem frm_no {v m : Int} {fs : List Int} {t : Nat} (h : fs[t]? = some m) (hb : inB m 0 (((2 ^ v.toNat : Nat) : Int) - 1) = false) : frmB v fs = false := by
  unfold frmB
  rw [List.all_eq_false]
  exact ⟨m, List.mem_of_getElem? h, by rw [hb]; decide⟩
theorem frm_yes {v : Int} {fs : List Int} (h : ∀ j m, j < fs.length → fs[j]? = some m → inB m 0 (((2 ^ v.toNat : Nat) : Int) - 1) = true) : frmB v fs = true := by
  unfold frmB
  rw [List.all_eq_true]
  intro m hm
  obtain ⟨j, hj, e⟩ := List.getElem_of_mem hm
  exact h j m hj (by rw [List.getElem?_eq_getElem hj, e])
set_option maxRecDepth 100000 in
set_option maxHeartbeats 2000000 in
theorem sSubstituteForms (v : Int) (A1 A2 : Option Addr) (n1 c1 n2 c2 : Nat) (xss : Pol) (fs : List Int) (w : World) (h1 : RdL w w.heap.size A1 n1 c1 xss) (h2 : RdS w w.heap.size A2 n2 c2 fs) (hn1 : n1 ≤ 2000000) (ht1 : totalL xss ≤ 2000000) (hn2 : n2 ≤ 2000000) :
    Calls Tryz.prog 21 #[.agg #[.int .i64 v, .slice A1 n1 c1], .slice A2 n2 c2] w (RetPl (subO v xss fs) w) := by
  obtain ⟨w0, b, hw0, hbe, hb0, hz0, hF⟩ := start22 w (.int .i64 v) (.slice A1 n1 c1) (.int .i64 0) (.slice none 0 0) 26 26
  have HL1 := Lib.hid h1.len
  have HL2 := Lib.hid h2.len
  have H1 := Lib.hid (rdL_here h1 hb0); clear h1
  have H2 := Lib.hid ((h2.below hb0).mono hb0.size); clear h2
  have Hw := Lib.hid hw0; clear hw0
  have Hbe := Lib.hid hbe; clear hbe
  have Hb0 := Lib.hid hb0; clear hb0
  have HZ := Lib.hid hz0; clear hz0
  have F0 := Lib.hid hF; clear hF
  have X0 := Lib.hid (Below.refl w0.heap.size w0)
  obtain ⟨r1, hr1⟩ : ∃ r, r = polB v xss := ⟨_, rfl⟩
  have HR1 := Lib.hid hr1; clear hr1
  obtain ⟨o, ho⟩ : ∃ o, o = subO v xss fs := ⟨_, rfl⟩
  have HO := Lib.hid ho
  rw [← ho]
  clear ho
  go_enter Tryz.func21, Tryz.ntmps21
  go_wp2_with fail
  rw [← Hw.out, ← Hbe.out]
  have k0 := (F0.out.below X0.out).at_ (b := b) (o := 0) (V := .int .i64 v) (by simp)
  have k1 := (F0.out.below X0.out).at_ (b := b) (o := 1) (V := .slice A1 n1 c1) (by simp)
  refine (l08Is_any v A1 n1 c1 xss _ H1.out hn1 ht1).mono ?_
  rintro e w1 ⟨rfl, hb1⟩
  rw [← HR1.out]
  have X1 := Lib.hid hb1; clear hb1 k0 k1
  have k0 := (F0.out.below X1.out).at_ (b := b) (o := 0) (V := .int .i64 v) (by simp)
  have k1 := (F0.out.below X1.out).at_ (b := b) (o := 1) (V := .slice A1 n1 c1) (by simp)
  cases r1
  · have HV := Lib.hid (HO.out.trans (subO_bad HR1.out.symm))
    have q0 := (F0.out.below X1.out).at_ (b := b + 1) (o := 0) (V := .int .i64 0) (by simp)
    have q1 := (F0.out.below X1.out).at_ (b := b + 1) (o := 1) (V := .slice none 0 0) (by simp)
    have f0 := (F0.out.below X1.out).fr (b := b + 1) (o := 0) (V := .int .i64 0) (by simp)
    have f1 := (F0.out.below X1.out).fr (b := b + 1) (o := 1) (V := .slice none 0 0) (by simp)
    have hres := cells_end q0 q1 (.int .i64 0) (.slice none 0 0)
    go_wp2_with fail
    refine bodyPost_ret (v := .tuple #[.agg #[.int .i64 0, .slice none 0 0], .int .i64 1]) (by simp [results, Tryz.results21, go_sem, hres.1, hres.2]) rfl ?_
    exact RetNC.bad (by rw [HV.out]) (by rw [HV.out]) (by rw [HV.out]) (Hb0.out.trans (X1.out.mono Hb0.out.size)) (by rw [Hbe.out]; omega)
  · have HP1 := Lib.hid (polF_of HR1.out.symm)
    have g0 := cell_regrown k0
    have g1 := cell_regrown k1
    by_cases hv : (n2 : Int) = v
    · have hnv : ((n2 : Int) != v) = false := by simpa using hv
      have hnv2 : ((n2 : Int) == v) = true := by simpa using hv
      have HVv := Lib.hid (show (fs.length : Int) = v from by rw [HL2.out]; exact hv)
      have hv14 : v = 1 ∨ v = 2 ∨ v = 3 ∨ v = 4 := by have := HP1.out.lo; have := HP1.out.hi; omega
      have HV14 := Lib.hid hv14
      clear hv14
      go_wp2_with fail
      go_loopw [6] (fun i wr => ∃ t : Nat, t ≤ n2 ∧ i = .int .i64 t ∧ Hid (∀ j m, j < t → fs[j]? = some m → inB m 0 (((2 ^ v.toNat : Nat) : Int) - 1) = true) ∧ Hid (Below w0.heap.size w0 wr)) (fun i _ => n2 - (intOf i).toNat)
      case atStart => exact ⟨0, Nat.zero_le _, rfl, Lib.hid (fun j m h => absurd h (by omega)), X1⟩
      case round =>
        clear k0 k1 g0 g1
        obtain ⟨t, ht, rfl, HA, XR⟩ := hrel
        have k0 := (F0.out.below XR.out).at_ (b := b) (o := 0) (V := .int .i64 v) (by simp)
        have k1 := (F0.out.below XR.out).at_ (b := b) (o := 1) (V := .slice A1 n1 c1) (by simp)
        have g0 := cell_regrown k0
        have g1 := cell_regrown k1
        by_cases hlt : t < n2
        · obtain ⟨ad, y, rfl, _, hy, hcy⟩ := (H2.out.below XR.out).at_ hlt
          have gy := cell_regrown hcy
          obtain ⟨fb, hfb⟩ : ∃ x, x = inB y 0 (((2 ^ v.toNat : Nat) : Int) - 1) := ⟨_, rfl⟩
          have HI := fun (W : World) => Lib.hid (show Calls Tryz.prog 72 #[.int .i64 y, .int .i64 0, .int .i64 (((2 ^ v.toNat : Nat) : Int) - 1)] W (RetBb fb W) from by
            rw [hfb]
            exact (l01In_any _ _ _ _).mono fun e w' h => h.bb)
          cases fb
          · have HV := Lib.hid (HO.out.trans (subO_range HR1.out.symm (fun h => by rw [frm_no hy.out hfb.symm] at h; exact absurd h.2 (by decide))))
            clear hfb hy
            have hv14 := HV14.out
            obtain rfl | rfl | rfl | rfl := hv14
            all_goals
              go_wp2_with fail
              refine wp_region_quiet_below (by kernel_rfl) (by kernel_rfl) ?_
              repeat (go_big_quiet_step ((go_at_call 72; exact Calls.regrown_of ((HI _).out))))
              refine wpQuiet_nil ?_
              intro _ hw'
              obtain ⟨⟨dq, osq⟩, hw''⟩ := hw'
              subst hw''
              have hb2 := below_regrown wr dq osq
              obtain ⟨w2, hwq⟩ : ∃ W, W = Sort.grow (redrawn wr dq) osq := ⟨_, rfl⟩
              rw [← hwq] at hb2 ⊢
              clear hwq
              have X2 := Lib.hid (XR.out.trans (hb2.mono XR.out.size))
              clear g0 g1 gy k0 k1 hb2 hcy
              have q0 := (F0.out.below X2.out).at_ (b := b + 1) (o := 0) (V := .int .i64 0) (by simp)
              have q1 := (F0.out.below X2.out).at_ (b := b + 1) (o := 1) (V := .slice none 0 0) (by simp)
              have f0 := (F0.out.below X2.out).fr (b := b + 1) (o := 0) (V := .int .i64 0) (by simp)
              have f1 := (F0.out.below X2.out).fr (b := b + 1) (o := 1) (V := .slice none 0 0) (by simp)
              have hres := cells_end q0 q1 (.int .i64 0) (.slice none 0 0)
              go_wp2_with fail
              refine bodyPost_ret (v := .tuple #[.agg #[.int .i64 0, .slice none 0 0], .int .i64 2]) (by simp [results, Tryz.results21, go_sem, hres.1, hres.2]) rfl ?_
              exact RetNC.bad (by rw [HV.out]) (by rw [HV.out]) (by rw [HV.out]) (Hb0.out.trans (X2.out.mono Hb0.out.size)) (by rw [Hbe.out]; omega)
          · have HA2 := Lib.hid (show ∀ j m, j < t + 1 → fs[j]? = some m → inB m 0 (((2 ^ v.toNat : Nat) : Int) - 1) = true from fun j m hj hm => by
              by_cases hjt : j = t
              · subst hjt
                rw [hy.out] at hm
                injection hm with hm
                rw [← hm]; exact hfb.symm
              · exact HA.out j m (by omega) hm)
            clear hfb hy
            have hv14 := HV14.out
            obtain rfl | rfl | rfl | rfl := hv14
            all_goals
              go_wp2_with fail
              refine wp_region_quiet_below (by kernel_rfl) (by kernel_rfl) ?_
              repeat (go_big_quiet_step ((go_at_call 72; exact Calls.regrown_of ((HI _).out))))
              refine wpQuiet_nil ?_
              intro _ hw'
              obtain ⟨⟨dq, osq⟩, hw''⟩ := hw'
              subst hw''
              have hb2 := below_regrown wr dq osq
              obtain ⟨w2, hwq⟩ : ∃ W, W = Sort.grow (redrawn wr dq) osq := ⟨_, rfl⟩
              rw [← hwq] at hb2 ⊢
              clear hwq
              have X2 := Lib.hid (XR.out.trans (hb2.mono XR.out.size))
              clear g0 g1 gy k0 k1 hb2 hcy
              go_wp2_with fail
              go_roundw
              case rel => exact ⟨t + 1, by omega, by go_num, HA2, X2⟩
              case measure => simp [intOf]; omega
        · have HF := Lib.hid (show frmB v fs = true from frm_yes fun j m hj hm => HA.out j m (by have := HL2.out; omega) hm)
          have HV := Lib.hid (HO.out.trans (subO_ok HR1.out.symm HVv.out HF.out))
          obtain ⟨k, hk⟩ : ∃ k : Nat, v = k := ⟨v.toNat, by have := HP1.out.lo; omega⟩
          have hk4 : k ≤ 4 := by have := HP1.out.hi; omega
          have hSub : ∀ x ∈ xss, SubK k fs x := by
            have h := subK_of HP1.out HVv.out HF.out
            rw [hk, Int.toNat_natCast] at h
            exact h
          obtain ⟨s, hs⟩ : ∃ s, s = oddL (outF v.toNat fs xss) := ⟨_, rfl⟩
          have hsl : s.length ≤ 16777216 := by
            rw [hs, hk, Int.toNat_natCast]
            exact oddL_small (outF_mono hSub) hk4
          have HS := fun (W : World) (hB : Below w0.heap.size w0 W) => Lib.hid (show Calls Tryz.prog 78 #[.int .i64 v, .slice A1 n1 c1, .slice A2 n2 c2] W (RetL s.length s W) from by
            have h := l08Substitute_any A1 A2 n1 c1 n2 c2 k xss fs W (rdL_here H1.out hB) ((H2.out.below hB).mono hB.size) hSub hk4 (by rw [← HL1.out]; exact HP1.out.len)
            rw [hs, hk, Int.toNat_natCast]
            exact h)
          rw [← hs] at HV
          obtain ⟨l, hl⟩ : ∃ l, l = s.length := ⟨_, rfl⟩
          rw [← hl] at HS hsl
          have HLs := Lib.hid hl
          clear hs hl hk hk4 hSub g0 g1 k0 k1
          obtain ⟨xr, fA, nr, fc, kr, HF, HR1x, HR2x, HR3x, HR4x⟩ := fit_cases (v := v) HV.out HLs.out (by omega)
          have Bd := Lib.hid (show Below w0.heap.size w0 wr.drew from below_drewN XR.out 1)
          have C2 := Lib.hid (F0.out.below XR.out)
          have Cd := Lib.hid (show Cells _ wr.drew from C2.out.drewN 1)
          have BdA := Lib.hid (show Below w0.heap.size w0 (wr.alloc (.cells #[.int .i64 0, .slice none 0 0] 26)).drew from below_drewN (XR.out.alloc XR.out.size _) 1)
          have CdA := Lib.hid (show Cells _ (wr.alloc (.cells #[.int .i64 0, .slice none 0 0] 26)).drew from (C2.out.below ((Below.refl _ _).alloc (Nat.le_refl _) (.cells #[.int .i64 0, .slice none 0 0] 26))).drewN 1)
          have NdA := Lib.hid (show Cells [(wr.heap.size, 0, .int .i64 0), (wr.heap.size, 1, .slice none 0 0)] (wr.alloc (.cells #[.int .i64 0, .slice none 0 0] 26)).drew from (Cells.nil.alloc2 (.int .i64 0) (.slice none 0 0) 26 (w := wr) rfl).drewN 1)
          have zl2 : b < wr.heap.size := by have := XR.out.size; have := HZ.out; omega
          have zA : (wr.alloc (.cells #[.int .i64 0, .slice none 0 0] 26)).drew.heap.size = wr.heap.size + 1 := by show (wr.alloc (.cells #[.int .i64 0, .slice none 0 0] 26)).heap.size = _; simp
          have kd0 := Cd.out.at_ (b := b) (o := 0) (V := .int .i64 v) (by simp)
          have kd1 := Cd.out.at_ (b := b) (o := 1) (V := .slice A1 n1 c1) (by simp)
          have ke0 := CdA.out.at_ (b := b) (o := 0) (V := .int .i64 v) (by simp)
          have ke1 := CdA.out.at_ (b := b) (o := 1) (V := .slice A1 n1 c1) (by simp)
          go_wp2_with fail
          go_region_held3 (fun w' => w'.cell? ⟨b, 0, none⟩ = some (.int .i64 v) ∧ w'.cell? ⟨b, 1, none⟩ = some (.slice A1 n1 c1)) (first | (with_reducible exact ⟨kd0, kd1⟩) | (with_reducible exact ⟨ke0, ke1⟩) | (with_reducible exact ⟨ka0, ka1⟩) | (with_reducible exact ⟨kf0, kf1⟩) | (with_reducible exact ⟨kb0, kb1⟩) | (with_reducible exact ⟨kg0, kg1⟩) | (with_reducible exact ⟨kh0, kh1⟩) | (with_reducible exact ⟨two_far mm0 kb0, two_far mm0 kb1⟩))
            (first
              | (go_at_call 78
                 refine (HS _ (by first | exact Bd.out | exact BdA.out)).out.mono ?_
                 rintro e w4 ⟨A5, c5, rfl, ho5, hb5⟩
                 have B4 : Hid (Below w0.heap.size w0 w4) := by
                   first
                     | exact Lib.hid (Bd.out.trans (hb5.mono Bd.out.size))
                     | exact Lib.hid (BdA.out.trans (hb5.mono BdA.out.size))
                 have M4 : Hid (OwnM w4 wr.heap.size w4.heap.size A5 l c5 s) := by
                   first
                     | exact Lib.hid (ho5.m (Nat.le_refl _))
                     | exact Lib.hid ((ho5.m (Nat.le_refl _)).mono (Nat.le_trans (Nat.le_succ _) (Nat.le_of_eq zA.symm)) (Nat.le_refl _))
                 first
                   | have M4s : Hid (OwnM w4 (wr.heap.size + 1) w4.heap.size A5 l c5 s) := Lib.hid ((ho5.m (Nat.le_refl _)).mono (Nat.le_of_eq zA.symm) (Nat.le_refl _))
                   | skip
                 have C4 := Lib.hid (F0.out.below B4.out)
                 have B4A := Lib.hid (show Below w0.heap.size w0 (w4.alloc (.cells #[.int .i64 0, .slice none 0 0] 26)) from B4.out.alloc B4.out.size _)
                 have C4A := Lib.hid (C4.out.below ((Below.refl _ _).alloc (Nat.le_refl _) (.cells #[.int .i64 0, .slice none 0 0] 26)))
                 have M4A := Lib.hid (M4.out.below ((Below.refl _ _).alloc (Nat.le_refl _) (.cells #[.int .i64 0, .slice none 0 0] 26)))
                 have N4A := Lib.hid (Cells.nil.alloc2 (.int .i64 0) (.slice none 0 0) 26 (w := w4) rfl)
                 first
                   | have N4 := Lib.hid (NdA.out.below hb5)
                   | skip
                 have ka0 := C4.out.at_ (b := b) (o := 0) (V := .int .i64 v) (by simp)
                 have ka1 := C4.out.at_ (b := b) (o := 1) (V := .slice A1 n1 c1) (by simp)
                 have kf0 := C4A.out.at_ (b := b) (o := 0) (V := .int .i64 v) (by simp)
                 have kf1 := C4A.out.at_ (b := b) (o := 1) (V := .slice A1 n1 c1) (by simp)
                 clear ho5 hb5)
              | (go_at_call 53
                 refine (HF _ _ _).out.mono ?_
                 rintro e w5 ⟨rfl, hb6⟩
                 have B5 : Hid (Below w0.heap.size w0 w5) := by
                   first
                     | exact Lib.hid (B4.out.trans (hb6.mono B4.out.size))
                     | exact Lib.hid (B4A.out.trans (hb6.mono B4A.out.size))
                 have M5 : Hid (OwnM w5 wr.heap.size w4.heap.size A5 l c5 s) := by
                   first
                     | exact Lib.hid (M4.out.below hb6)
                     | exact Lib.hid (M4A.out.below hb6)
                 have Z5 : w4.heap.size ≤ w5.heap.size := by
                   first
                     | exact hb6.size
                     | exact Nat.le_trans (by simp) hb6.size
                 first
                   | (have N5 := Lib.hid (N4.out.below hb6)
                      have M5s : Hid (OwnM w5 (wr.heap.size + 1) w4.heap.size A5 l c5 s) := Lib.hid (M4s.out.below hb6)
                      have n0 := N5.out.at_ (b := wr.heap.size) (o := 0) (V := .int .i64 0) (by simp)
                      have n1' := N5.out.at_ (b := wr.heap.size) (o := 1) (V := .slice none 0 0) (by simp)
                      have nf0 := N5.out.fr (b := wr.heap.size) (o := 0) (V := .int .i64 0) (by simp)
                      have nf1 := N5.out.fr (b := wr.heap.size) (o := 1) (V := .slice none 0 0) (by simp)
                      have mm0 : wr.heap.size ≠ b := by have := B4.out.size; have := HZ.out; omega)
                   | (have N5 := Lib.hid (N4A.out.below hb6)
                      have n0 := N5.out.at_ (b := w4.heap.size) (o := 0) (V := .int .i64 0) (by simp)
                      have n1' := N5.out.at_ (b := w4.heap.size) (o := 1) (V := .slice none 0 0) (by simp)
                      have nf0 := N5.out.fr (b := w4.heap.size) (o := 0) (V := .int .i64 0) (by simp)
                      have nf1 := N5.out.fr (b := w4.heap.size) (o := 1) (V := .slice none 0 0) (by simp)
                      have mm0 : w4.heap.size ≠ b := by have := B4.out.size; have := HZ.out; omega)
                   | skip
                 have C5 := Lib.hid (F0.out.below B5.out)
                 have C5A := Lib.hid (C5.out.below ((Below.refl _ _).alloc (Nat.le_refl _) (.cells #[.int .i64 0, .slice none 0 0] 26)))
                 have C5B := Lib.hid (C5.out.below ((Below.refl _ _).alloc (Nat.le_refl _) (.cells #[.int .i64 xr, .slice (fA A5) nr (fc c5)] 26)))
                 have kb0 := C5.out.at_ (b := b) (o := 0) (V := .int .i64 v) (by simp)
                 have kb1 := C5.out.at_ (b := b) (o := 1) (V := .slice A1 n1 c1) (by simp)
                 have kg0 := C5A.out.at_ (b := b) (o := 0) (V := .int .i64 v) (by simp)
                 have kg1 := C5A.out.at_ (b := b) (o := 1) (V := .slice A1 n1 c1) (by simp)
                 have kh0 := C5B.out.at_ (b := b) (o := 0) (V := .int .i64 v) (by simp)
                 have kh1 := C5B.out.at_ (b := b) (o := 1) (V := .slice A1 n1 c1) (by simp)
                 clear hb6))
          all_goals
            first
              | (obtain ⟨wz, hwz⟩ : ∃ W, W = w5.alloc (.cells #[.int .i64 xr, .slice (fA A5) nr (fc c5)] 26) := ⟨_, rfl⟩
                 rw [← hwz]
                 have XZ := Lib.hid (show Below w0.heap.size w0 wz from by rw [hwz]; exact B5.out.alloc B5.out.size _)
                 have MZ := Lib.hid (show OwnM wz w0.heap.size w4.heap.size A5 l c5 s from by rw [hwz]; exact (M5.out.below ((Below.refl _ _).alloc (Nat.le_refl _) _)).mono XR.out.size (Nat.le_refl _))
                 have hz4 : w4.heap.size ≤ wz.heap.size := by rw [hwz]; simp; omega
                 have y0 : wz.cell? ⟨w5.heap.size, 0, none⟩ = some (.int .i64 xr) := by rw [hwz]; exact new_at rfl rfl
                 have y1 : wz.cell? ⟨w5.heap.size, 1, none⟩ = some (.slice (fA A5) nr (fc c5)) := by rw [hwz]; exact new_at rfl rfl
                 clear hwz)
              | (obtain ⟨wz, hwz⟩ : ∃ W, W = (w5.setCell ⟨w4.heap.size, 0, none⟩ (.int .i64 xr)).setCell ⟨w4.heap.size, 1, none⟩ (.slice (fA A5) nr (fc c5)) := ⟨_, rfl⟩
                 rw [← hwz]
                 have XZ := Lib.hid (show Below w0.heap.size w0 wz from by rw [hwz]; exact (B5.out.setCell (p := ⟨w4.heap.size, 0, none⟩) B4.out.size _).setCell (p := ⟨w4.heap.size, 1, none⟩) B4.out.size _)
                 have MZ := Lib.hid (show OwnM wz w0.heap.size w4.heap.size A5 l c5 s from by rw [hwz]; exact (M5.out.two Z5 (.inr (Nat.le_refl _))).mono XR.out.size (Nat.le_refl _))
                 have hz4 : w4.heap.size ≤ wz.heap.size := by rw [hwz]; simp [World.setCell]; omega
                 have y0 : wz.cell? ⟨w4.heap.size, 0, none⟩ = some (.int .i64 xr) := by rw [hwz]; exact (cells_end n0 n1' (.int .i64 xr) (.slice (fA A5) nr (fc c5))).1
                 have y1 : wz.cell? ⟨w4.heap.size, 1, none⟩ = some (.slice (fA A5) nr (fc c5)) := by rw [hwz]; exact (cells_end n0 n1' (.int .i64 xr) (.slice (fA A5) nr (fc c5))).2
                 clear hwz)
              | (obtain ⟨wz, hwz⟩ : ∃ W, W = (w5.setCell ⟨wr.heap.size, 0, none⟩ (.int .i64 xr)).setCell ⟨wr.heap.size, 1, none⟩ (.slice (fA A5) nr (fc c5)) := ⟨_, rfl⟩
                 rw [← hwz]
                 have XZ := Lib.hid (show Below w0.heap.size w0 wz from by rw [hwz]; exact (B5.out.setCell (p := ⟨wr.heap.size, 0, none⟩) XR.out.size _).setCell (p := ⟨wr.heap.size, 1, none⟩) XR.out.size _)
                 have MZ := Lib.hid (show OwnM wz w0.heap.size w4.heap.size A5 l c5 s from by rw [hwz]; exact (M5s.out.two Z5 (.inl (Nat.lt_succ_self _))).mono (Nat.le_succ_of_le XR.out.size) (Nat.le_refl _))
                 have hz4 : w4.heap.size ≤ wz.heap.size := by rw [hwz]; simp [World.setCell]; omega
                 have y0 : wz.cell? ⟨wr.heap.size, 0, none⟩ = some (.int .i64 xr) := by rw [hwz]; exact (cells_end n0 n1' (.int .i64 xr) (.slice (fA A5) nr (fc c5))).1
                 have y1 : wz.cell? ⟨wr.heap.size, 1, none⟩ = some (.slice (fA A5) nr (fc c5)) := by rw [hwz]; exact (cells_end n0 n1' (.int .i64 xr) (.slice (fA A5) nr (fc c5))).2
                 clear hwz)
            have q0 := (F0.out.below XZ.out).at_ (b := b + 1) (o := 0) (V := .int .i64 0) (by simp)
            have q1 := (F0.out.below XZ.out).at_ (b := b + 1) (o := 1) (V := .slice none 0 0) (by simp)
            have f0 := (F0.out.below XZ.out).fr (b := b + 1) (o := 0) (V := .int .i64 0) (by simp)
            have f1 := (F0.out.below XZ.out).fr (b := b + 1) (o := 1) (V := .slice none 0 0) (by simp)
            have hres := cells_end q0 q1 (.int .i64 xr) (.slice (fA A5) nr (fc c5))
            go_wp2_with fail
            refine bodyPost_ret (v := .tuple #[.agg #[.int .i64 xr, .slice (fA A5) nr (fc c5)], .int .i64 kr]) (by simp [results, Tryz.results21, go_sem, hres.1, hres.2]) rfl ?_
            exact RetNC.mk (V := w0.heap.size) HR1x.out HR2x.out rfl HR3x.out (Hb0.out.trans (XZ.out.mono Hb0.out.size)) (by rw [Hbe.out]; omega) (by rw [HZ.out]; omega) (HR4x.out _ _ _ _ _ MZ.out) hz4
    · have hnv : ((n2 : Int) != v) = true := by simpa using hv
      have hnv2 : ((n2 : Int) == v) = false := by simpa using hv
      have HV := Lib.hid (HO.out.trans (subO_range HR1.out.symm (fun h => hv (by rw [← HL2.out]; exact h.1))))
      clear hv
      clear g0 g1
      have q0 := (F0.out.below X1.out).at_ (b := b + 1) (o := 0) (V := .int .i64 0) (by simp)
      have q1 := (F0.out.below X1.out).at_ (b := b + 1) (o := 1) (V := .slice none 0 0) (by simp)
      have f0 := (F0.out.below X1.out).fr (b := b + 1) (o := 0) (V := .int .i64 0) (by simp)
      have f1 := (F0.out.below X1.out).fr (b := b + 1) (o := 1) (V := .slice none 0 0) (by simp)
      have hres := cells_end q0 q1 (.int .i64 0) (.slice none 0 0)
      go_wp2_with fail
      refine bodyPost_ret (v := .tuple #[.agg #[.int .i64 0, .slice none 0 0], .int .i64 2]) (by simp [results, Tryz.results21, go_sem, hres.1, hres.2]) rfl ?_
      exact RetNC.bad (by rw [HV.out]) (by rw [HV.out]) (by rw [HV.out]) (Hb0.out.trans (X1.out.mono Hb0.out.size)) (by rw [Hbe.out]; omega)
end Go.Proofs.YtoodhbafleemjaaGreat
