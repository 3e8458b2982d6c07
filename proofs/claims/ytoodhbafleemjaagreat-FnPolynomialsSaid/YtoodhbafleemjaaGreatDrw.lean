/- Draws of polynomials and of exponents. -/
import Derived.Test.YtoodhbafleemjaaGreatDrb
import Derived.Test.YtoodhbafleemjaaGreatPut
import Derived.Test.YtoodhbafleemjaaGreatKamS
import Derived.Test.YtoodhbafleemjaaGreatPar
import Derived.Deep.RegionLaw
namespace Go.Proofs.YtoodhbafleemjaaGreat
open Go.RowKit
set_option linter.unusedVariables false

theorem ones_len {k : Nat} {xs : List Int} (h : xs.length = k) (j : Nat) (x : Int) : (xs.set j x).length = k := by simpa using h

/-- lists of one length -/
structure PdK (k : Nat) (xss : List (List Int)) : Prop where
  each : ∀ x ∈ xss, x.length = k

theorem insX_len {x : List Int} : ∀ {xss : List (List Int)}, (insX x xss).length ≤ xss.length + 1
  | [] => by simp [insX]
  | y :: r => by
    simp only [insX]
    split
    · simp
    · split
      · have := insX_len (x := x) (xss := r)
        simp only [List.length_cons]; omega
      · simp only [List.length_cons]; omega

theorem PdK.ins {k : Nat} {xss : List (List Int)} {x : List Int} (h : PdK k xss) (hx : x.length = k) : PdK k (insX x xss) :=
  ⟨fun y hy => by
    rcases insX_mem hy with rfl | hy
    · exact hx
    · exact h.each y hy⟩

/-- a polynomial's parts, all of one's own: v, and terms of length k -/
def RetPd (s : Nat) (v : Int) (k l : Nat) (w : World) (e : Ending) (w' : World) : Prop :=
  ∃ A n c xss, e = .returned (.agg #[.int .i64 v, .slice A n c]) ∧ OwnL w' w.heap.size w'.heap.size A n c xss ∧ PdK k xss ∧ n ≤ l ∧ Src w' s ∧ Mid s (s + 1) w w'

/-- a monomial under way: j exponents are drawn, t is left of d -/
structure Fil (d t : Int) (j : Nat) (ys : List Int) : Prop where
  pos : ∀ a ∈ ys, 0 ≤ a
  sum : ys.sum = d - t
  rest : ∀ i, j ≤ i → ys[i]?.getD 0 = 0
theorem sum_set : ∀ (ys : List Int) (j : Nat) (x : Int), j < ys.length → (ys.set j x).sum = ys.sum - ys[j]?.getD 0 + x
  | [], j, x, h => by simp at h
  | y :: ys, 0, x, h => by simp; omega
  | y :: ys, j + 1, x, h => by
    have ih := sum_set ys j x (by simpa using h)
    simp only [List.set_cons_succ, List.sum_cons, List.getElem?_cons_succ]
    omega
theorem Fil.start (d : Int) (k : Nat) : Fil d d 0 (List.replicate k 0) :=
  ⟨fun a ha => by have := List.eq_of_mem_replicate ha; omega, by
    rw [Int.sub_self]
    induction k with
    | zero => rfl
    | succ k ih => rw [List.replicate_succ, List.sum_cons, ih]; rfl, fun i _ => by
    rw [List.getElem?_replicate]
    split <;> rfl⟩
theorem Fil.put {d t x : Int} {j : Nat} {ys : List Int} (h : Fil d t j ys) (hj : j < ys.length) (hx : 0 ≤ x) : Fil d (t - x) (j + 1) (ys.set j x) :=
  ⟨fun a ha => by
    rcases List.mem_or_eq_of_mem_set ha with ha | rfl
    · exact h.pos a ha
    · exact hx, by rw [sum_set ys j x hj, h.rest j (Nat.le_refl _), h.sum]; omega, fun i hi => by
    rw [List.getElem?_set_ne (by omega)]
    exact h.rest i (by omega)⟩
theorem Fil.done {d t : Int} {j k : Nat} {ys : List Int} (h : Fil d t j ys) (hj : j < ys.length) (hk : ys.length = k) (ht : 0 ≤ t) : Deg k d (ys.set j t) := by
  have h1 := h.put hj ht
  exact ⟨h1.pos, by rw [h1.sum]; omega, by rw [List.length_set, hk]⟩
theorem deg_ins {k : Nat} {d : Int} {x : List Int} {acc : List (List Int)} (h : ∀ y ∈ acc, Deg k d y) (hx : Deg k d x) : ∀ y ∈ insX x acc, Deg k d y := fun y hy => by
  rcases insX_mem hy with rfl | hy
  · exact hx
  · exact h y hy
/-- a drawn polynomial of a degree -/
def RetWg (s : Nat) (v : Int) (k l : Nat) (d : Int) (w : World) (e : Ending) (w' : World) : Prop :=
  ∃ A n c xss, e = .returned (.agg #[.int .i64 v, .slice A n c]) ∧ OwnL w' w.heap.size w'.heap.size A n c xss ∧ (∀ x ∈ xss, Deg k d x) ∧ n ≤ l ∧ Src w' s ∧ Mid s (s + 1) w w'

set_option maxRecDepth 100000 in
set_option maxHeartbeats 1000000 in
theorem with08d_any (s k : Nat) (d : Int) (w : World) (h : Src w s) (hk : 1 ≤ k) (hk4 : k ≤ 4) (hd : 0 ≤ d) (hd2 : d ≤ 1000000) :
    Calls Tryz.prog 101 #[.pointer (some ⟨s, 0, none⟩), .int .i64 k, .int .i64 d] w (RetWg s k k 5 d w) := by
  obtain ⟨w0, b, hw0, hbe, hb0, hz0, hF⟩ := start22 w (.int .i64 0) (.slice none 0 0) (.int .i64 k) (.slice none 0 0) 26 26
  have hsb : s < b := by rw [hbe]; exact h.lt
  have HS := Lib.hid (h.ext hb0); clear h
  have Hw := Lib.hid hw0; clear hw0
  have Hbe := Lib.hid hbe; clear hbe
  have Hb0 := Lib.hid hb0; clear hb0
  have HZ := Lib.hid hz0; clear hz0
  have F0 := Lib.hid hF; clear hF
  obtain ⟨i0, hi, hq0, hq1, hq2⟩ := info_parts Tryz.info_i64
  have HI := Lib.hid hi; clear hi
  have HQ0 := Lib.hid hq0; clear hq0
  have HQ1 := Lib.hid hq1; clear hq1
  have HQ2 := Lib.hid hq2; clear hq2
  go_enter Tryz.func101, Tryz.ntmps101
  go_wp2_with fail
  rw [← Hw.out, ← Hbe.out]
  refine (next_any s 6 w0 HS.out (by omega)).mono ?_
  rintro e w1 ⟨x, rfl, hx0, hx1, hs1, hm1, hz1⟩
  have HS1 := Lib.hid hs1; clear hs1 HS
  have HM1 := Lib.hid hm1; clear hm1 hz1
  go_wp2_with fail
  obtain ⟨w2, hw2⟩ : ∃ W, W = w1.alloc (.cells #[.int .i64 1, .int .i64 1, .int .i64 2, .int .i64 3, .int .i64 x] 2) := ⟨_, rfl⟩
  have hb2 : Below w1.heap.size w1 w2 := by rw [hw2]; exact (Below.refl _ _).alloc (Nat.le_refl _) _
  have HB2 := Lib.hid hb2
  have HS2 := Lib.hid (HS1.out.ext hb2)
  have hl2 : ∀ j, j < 5 → ∃ y ∈ [1, 1, 2, 3, x], w2.cell? ⟨w1.heap.size, j, none⟩ = some (.int .i64 y) := by
    rw [hw2]
    intro j hj
    match j, hj with
    | 0, _ => exact ⟨1, by simp, lit_at rfl⟩
    | 1, _ => exact ⟨1, by simp, lit_at rfl⟩
    | 2, _ => exact ⟨2, by simp, lit_at rfl⟩
    | 3, _ => exact ⟨3, by simp, lit_at rfl⟩
    | 4, _ => exact ⟨x, by simp, lit_at rfl⟩
  have hgl2 : w1.heap.size < w2.heap.size := by rw [hw2]; simp
  have hgs2 : w1.heap.size ≠ s := Nat.ne_of_gt HS1.out.lt
  rw [← hw2]
  clear hw2
  refine (pick_any s w1.heap.size 5 [1, 1, 2, 3, x] w2 HS2.out hl2 hgs2 hgl2 (by decide) (by decide)).mono ?_
  rintro e w3 ⟨y, rfl, hy, hs3, hm3, hz3⟩
  have hy5 : 0 ≤ y ∧ y ≤ 5 := by
    simp only [List.mem_cons, List.not_mem_nil, or_false] at hy
    omega
  obtain ⟨m0, rfl⟩ : ∃ m : Nat, y = m := ⟨y.toNat, by omega⟩
  have hm05 : m0 ≤ 5 := by omega
  have HS3 := Lib.hid hs3; clear hs3
  have HM3 := Lib.hid ((HM1.out.trans (Mid.of_below HB2.out)).trans hm3)
  have hb02 : b + 2 ≤ w0.heap.size := by rw [HZ.out]; omega
  have F3 := Lib.hid (F0.out.mid HM3.out (by simp; omega))
  have HL3 : Hid (OwnL w3 (b + 2) w3.heap.size none 0 0 []) := Lib.hid OwnL.nil
  have HZ3 := Lib.hid (Nat.le_trans hb02 HM3.out.size)
  replace HM3 := Lib.hid ((Mid.of_below (B := s) (K := s + 1) Hb0.out).trans HM3.out)
  clear hm3 hz3 hy hy5 hl2 hgl2 hgs2 hb2 HS1 HM1 HB2 HS2 hb02 hx0 hx1
  go_wp2_with fail
  go_loopw [8] (fun i wr => ∃ (m n c : Nat) (A : Option Addr) (acc : List (List Int)), i = .int .i64 m ∧ m + n ≤ 5 ∧ Hid (∀ x ∈ acc, Deg k d x) ∧ Hid (Src wr s) ∧ Hid (Mid s (s + 1) w wr) ∧ Hid (Cells [(b + 1, 1, .slice A n c), (b + 1, 0, .int .i64 k), (b, 0, .int .i64 0), (b, 1, .slice none 0 0)] wr) ∧ Hid (OwnL wr (b + 2) wr.heap.size A n c acc) ∧ Hid (b + 2 ≤ wr.heap.size)) (fun i _ => (intOf i).toNat)
  case atStart => exact ⟨m0, 0, 0, none, [], rfl, by omega, Lib.hid (by simp), HS3, HM3, Lib.hid (F3.out.sub (by simp)), HL3, HZ3⟩
  case round =>
    clear HS3 HM3 F3 HL3 HZ3
    obtain ⟨m, n, c, A, acc, rfl, hmn, HP, HSr, HMr, HC, HO, HZr⟩ := hrel
    by_cases hlt : 0 < m
    · obtain ⟨V, hV⟩ : ∃ V, V = wr.heap.size := ⟨_, rfl⟩
      have hVle : V ≤ wr.heap.size := Nat.le_of_eq hV
      have HV := Lib.hid hV; clear hV
      have hi := HI.out
      have hq0 := HQ0.out
      have hq1 := HQ1.out
      have hq2 := HQ2.out
      have hk0 : (0 : Int) ≤ (k : Int) := by omega
      go_wp2_with (at_make; refine wpList_make_full _ rfl _ _ 41 rfl V 2 i0 (.int .i64 0) 1 Tryz.underlying41 hi hq0 hq1 .i64 .i64 _ _ k rfl rfl rfl rfl ?b2 ?b3 hVle ?_)
      case b2 => rw [hq2]; omega
      case b3 => unfold maxLen; omega
      intro w4 hown hgr
      have HT : OwnS w4 V (some ⟨wr.heap.size, 0, none⟩) k k (List.replicate k 0) := ⟨by simp, by simpa [toList_madeCells_one, Value.cells] using hown⟩
      have hB4 : Below wr.heap.size wr w4 := (Below.refl _ _).grown hgr (Nat.le_refl _) (by simp)
      have HS4 := Lib.hid (HSr.out.ext hB4)
      have HM4 := Lib.hid (HMr.out.trans (Mid.of_below hB4))
      have HC4 := Lib.hid (HC.out.below hB4)
      have HO4 := Lib.hid (((HO.out.m (Nat.le_refl _)).below hB4).mono (Nat.le_refl _) (Nat.le_of_eq HV.out.symm))
      have HZ4 := Lib.hid (show V ≤ w4.heap.size by rw [HV.out]; exact hB4.size)
      have HVb := Lib.hid (show b + 2 ≤ V by rw [HV.out]; exact HZr.out)
      obtain ⟨g, hg⟩ : ∃ g, g = wr.heap.size := ⟨_, rfl⟩
      rw [← hg] at HT ⊢
      have HT := Lib.hid HT
      have HFl := Lib.hid (Fil.start d k)
      clear hown hgr hVle hi hq0 hq1 hq2 HSr HMr HC HO HZr hB4 hg
      go_wp2_with fail
      go_loopw [10, 11] (fun l i wz => ∃ (j : Nat) (t : Int) (ys : List Int), j + 1 ≤ k ∧ i = .int .i64 j ∧ l = .int .i64 t ∧ 0 ≤ t ∧ t ≤ d ∧ Hid (Fil d t j ys) ∧ Hid (OwnS wz V (some ⟨g, 0, none⟩) k k ys) ∧ Hid (Src wz s) ∧ Hid (Mid s (s + 1) w wz) ∧ Hid (Cells [(b + 1, 1, .slice A n c), (b + 1, 0, .int .i64 k), (b, 0, .int .i64 0), (b, 1, .slice none 0 0)] wz) ∧ Hid (OwnM wz (b + 2) V A n c acc) ∧ Hid (V ≤ wz.heap.size)) (fun _ i _ => k - (intOf i).toNat)
      case atStart => exact ⟨0, d, _, by omega, rfl, rfl, hd, Int.le_refl _, HFl, HT, HS4, HM4, HC4, HO4, HZ4⟩
      case round =>
        clear HT HS4 HM4 HC4 HO4 HZ4 HFl
        obtain ⟨j, t, ys, hj, rfl, rfl, ht0, htd, HFl, HT, HSz, HMz, HCz, HOz, HZz⟩ := hrel
        by_cases hjt : j + 1 < k
        · go_wp2_with fail
          refine (next_any s (t + 1) wr HSz.out (by omega)).mono ?_
          rintro e w5 ⟨x, rfl, hx0, hx1, hs5, hm5, hz5⟩
          have hsV : s + 1 ≤ V := by have := HVb.out; omega
          have HT5 := HT.out.mid hm5 hsV
          obtain ⟨g', y, hg', hVg, hgl, _, hc5, hf5, hset⟩ := HT5.at_ (k := j) (by omega)
          obtain ⟨rfl⟩ : g = g' := by simpa using hg'
          obtain ⟨HT6, hG6⟩ := hset x
          obtain ⟨w6, hw6⟩ : ∃ W, W = w5.setCell ⟨g, j, none⟩ (.int .i64 x) := ⟨_, rfl⟩
          rw [← hw6] at HT6
          have hS6 : Src w6 s := by rw [hw6]; exact hs5.below ((mid_setCell (p := ⟨g, j, none⟩) (B := V) (K := g + 1) _ ⟨hVg, Nat.lt_succ_self _⟩).below (by have := HZz.out; omega) |>.mono hsV)
          have hc6 : w6.cell? ⟨g, j, none⟩ = some (.int .i64 x) := by rw [hw6]; rw [World.cell?_setCell_same (u := .int .i64 y)]; exact hc5
          have hz5V : V ≤ w5.heap.size := by rw [hz5]; exact HZz.out
          have hbl : Below V w5 w6 := by rw [hw6]; exact (mid_setCell (p := ⟨g, j, none⟩) (B := V) (K := g + 1) _ ⟨hVg, Nat.lt_succ_self _⟩).below hz5V
          have hzw0 : w.heap.size ≤ V := by have := HVb.out; have := Hbe.out; omega
          have HS7 := Lib.hid hS6
          have HM7 := Lib.hid ((HMz.out.trans hm5).on (hbl.mono hzw0))
          have HC7 := Lib.hid ((HCz.out.mid hm5 (by simp; omega)).belowB hbl (by have := HVb.out; simp; omega))
          have hm6 : Mid g (g + 1) w5 w6 := by rw [hw6]; exact mid_setCell (p := ⟨g, j, none⟩) _ ⟨Nat.le_refl _, Nat.lt_succ_self _⟩
          have HO7 := Lib.hid ((HOz.out.mid hm5 (by omega)).same fun q q1 q2 => hm6.block q (by omega) (.inl (by omega)))
          have HT7 := Lib.hid HT6
          have HFl7 := Lib.hid (HFl.out.put (x := x) (by have := HT5.len; omega) hx0)
          have HZ7 := Lib.hid (show V ≤ w6.heap.size by rw [hw6]; simpa [World.setCell] using hz5V)
          clear hS6 HT6 hG6 hset hbl HSz HMz HCz HOz HT HZz hm5 hs5 hm6
          go_wp2_with fail
          rw [← hw6]
          go_wp2_with fail
          go_roundw
          case rel => exact ⟨j + 1, t - x, _, by omega, by go_num, by go_num, by omega, by omega, HFl7, HT7, HS7, HM7, HC7, HO7, HZ7⟩
          case measure => simp [intOf]; omega
        · have hcl : ∃ y, wr.cell? ⟨g, k - 1, none⟩ = some (.int .i64 y) ∧ wr.frozen? ⟨g, k - 1, none⟩ = false := by
            obtain ⟨g', y, hg', hVg, hgl, _, hc5, hf5, hset⟩ := HT.out.at_ (k := k - 1) (by omega)
            obtain ⟨rfl⟩ : g = g' := by simpa using hg'
            exact ⟨y, hc5, hf5⟩
          obtain ⟨g', y, hg', hVg, hgl, _, hc5, hf5, hset⟩ := HT.out.at_ (k := k - 1) (by omega)
          obtain ⟨rfl⟩ : g = g' := by simpa using hg'
          obtain ⟨HT6, hG6⟩ := hset t
          obtain rfl : j = k - 1 := by omega
          have HFd := Lib.hid (HFl.out.done (by have := HT.out.len; omega) HT.out.len ht0)
          have hk1 : IntKind.i64.wrap ((k : Int) - 1) = ((k - 1 : Nat) : Int) := by rw [IntKind.wrap_i64]; omega
          obtain ⟨w6, hw6⟩ : ∃ W, W = wr.setCell ⟨g, k - 1, none⟩ (.int .i64 t) := ⟨_, rfl⟩
          rw [← hw6] at HT6
          have hsV : s + 1 ≤ V := by have := HVb.out; omega
          have hm6 : Mid g (g + 1) wr w6 := by rw [hw6]; exact mid_setCell (p := ⟨g, k - 1, none⟩) _ ⟨Nat.le_refl _, Nat.lt_succ_self _⟩
          have hbl : Below V wr w6 := by rw [hw6]; exact (mid_setCell (p := ⟨g, k - 1, none⟩) (B := V) (K := g + 1) _ ⟨hVg, Nat.lt_succ_self _⟩).below HZz.out
          have hzw0 : w.heap.size ≤ V := by have := HVb.out; have := Hbe.out; omega
          have HS7 := Lib.hid (HSz.out.below (hbl.mono hsV))
          have HM7 := Lib.hid (HMz.out.on (hbl.mono hzw0))
          have HC7 := Lib.hid (HCz.out.belowB hbl (by have := HVb.out; simp; omega))
          have hzz := HZz.out
          have HO7 := Lib.hid (HOz.out.same fun q q1 q2 => hm6.block q (by omega) (.inl (by omega)))
          have HT7 := Lib.hid HT6
          have hz7 : V ≤ w6.heap.size := by rw [hw6]; simpa [World.setCell] using hzz
          have HZ7 := Lib.hid hz7
          have hput := put_any A (some ⟨g, 0, none⟩) n c k k (b + 2) V acc _ w6 HO7.out.own HVb.out hz7 HT6.rd (by omega) (by omega) (fun y hy => by rw [(HP.out y hy).2.2]; omega)
          have HPt := Lib.hid hput
          have cc := HC7.out.at_ (b := b + 1) (o := 1) (V := .slice A n c) (by simp)
          have cf := HC7.out.fr (b := b + 1) (o := 1) (V := .slice A n c) (by simp)
          rw [hw6] at cc cf
          have Hw6 := Lib.hid hw6
          clear HT6 hG6 hset hbl hm6 HSz HMz HCz HOz HT HZz hput hcl hzz hz7 hzw0 hw6
          go_wp2_with fail
          rw [← Hw6.out]
          refine HPt.out.mono ?_
          rintro e w7 ⟨A7, c7, rfl, ho7, hb7⟩
          obtain ⟨zs, hzs⟩ : ∃ zs, zs = insX (ys.set (k - 1) t) acc := ⟨_, rfl⟩
          rw [← hzs] at ho7 ⊢
          have HP8 := Lib.hid (show ∀ x ∈ zs, Deg k d x by rw [hzs]; exact deg_ins HP.out HFd.out)
          have hl8 : m - 1 + zs.length ≤ 5 := by rw [hzs]; have h1 := insX_len (x := ys.set (k - 1) t) (xss := acc); have h2 := HO7.out.own.len; exact Nat.le_trans (Nat.add_le_add_left h1 _) (by omega)
          have hC8 := HC7.out.below hb7
          have hS8 := HS7.out.ext hb7
          have hM8 := HM7.out.trans (Mid.of_below (B := s) (K := s + 1) hb7)
          have cc8 := hC8.at_ (b := b + 1) (o := 1) (V := .slice A n c) (by simp)
          have cf8 := hC8.fr (b := b + 1) (o := 1) (V := .slice A n c) (by simp)
          have hzb : b + 2 ≤ w7.heap.size := by have := HVb.out; have := HZ7.out; have := hb7.size; omega
          have hbl9 : Below (b + 1) w7 (w7.setCell ⟨b + 1, 1, none⟩ (.slice A7 zs.length c7)) := (mid_setCell (p := ⟨b + 1, 1, none⟩) (B := b + 1) (K := b + 2) _ ⟨Nat.le_refl _, Nat.lt_succ_self _⟩).below (by omega)
          have hM9 : Mid (b + 1) (b + 2) w7 (w7.setCell ⟨b + 1, 1, none⟩ (.slice A7 zs.length c7)) := mid_setCell (p := ⟨b + 1, 1, none⟩) (B := b + 1) (K := b + 2) _ ⟨Nat.le_refl _, Nat.lt_succ_self _⟩
          obtain ⟨w9, hw9⟩ : ∃ W, W = w7.setCell ⟨b + 1, 1, none⟩ (.slice A7 zs.length c7) := ⟨_, rfl⟩
          have hC9 : Cells [(b + 1, 1, .slice A7 zs.length c7), (b + 1, 0, .int .i64 k), (b, 0, .int .i64 0), (b, 1, .slice none 0 0)] w9 := by
            rw [hw9]; exact hC8.set (by simp) _
          rw [← hw9] at hbl9 hM9
          have hz9 : w9.heap.size = w7.heap.size := by rw [hw9]; simp [World.setCell]
          have hO9 : OwnL w9 (b + 2) w9.heap.size A7 zs.length c7 zs := by rw [hz9]; exact ho7.mid hM9 (Nat.le_refl _)
          have HC9 := Lib.hid hC9
          have HO9 := Lib.hid hO9
          have HS9 := Lib.hid (hS8.below (hbl9.mono (by omega)))
          have HM9 := Lib.hid (hM8.on (hbl9.mono (by have := Hbe.out; omega)))
          have HZ9 := Lib.hid (show b + 2 ≤ w9.heap.size by rw [hz9]; exact hzb)
          have Hw9 := Lib.hid hw9
          clear hw9 hM9 hbl9 hC9 hO9 hz9 hC8 hS8 hM8 hzs ho7 hb7 HO7 HT7 HC7 HM7 HS7 HZ7 hzb cc cf
          go_wp2_with fail
          rw [← Hw9.out]
          go_wp2_with fail
          go_roundw
          case rel => exact ⟨m - 1, zs.length, c7, A7, zs, by go_num, hl8, HP8, HS9, HM9, HC9, HO9, HZ9⟩
          case measure => simp [intOf]; omega
    · have hres := cells_end (HC.out.at_ (b := b) (o := 0) (V := .int .i64 0) (by simp)) (HC.out.at_ (b := b) (o := 1) (V := .slice none 0 0) (by simp)) (.int .i64 k) (.slice A n c)
      have c0 := HC.out.at_ (b := b + 1) (o := 0) (V := .int .i64 k) (by simp)
      have c1 := HC.out.at_ (b := b + 1) (o := 1) (V := .slice A n c) (by simp)
      have q0 := HC.out.at_ (b := b) (o := 0) (V := .int .i64 0) (by simp)
      have q1 := HC.out.at_ (b := b) (o := 1) (V := .slice none 0 0) (by simp)
      have f0 := HC.out.fr (b := b) (o := 0) (V := .int .i64 0) (by simp)
      have f1 := HC.out.fr (b := b) (o := 1) (V := .slice none 0 0) (by simp)
      go_wp2_with fail
      refine bodyPost_ret (v := .agg #[.int .i64 k, .slice A n c]) (by simp [results, Tryz.results101, go_sem, hres.1, hres.2]) rfl ?_
      have hm2 : Mid b (b + 1) wr ((wr.setCell ⟨b, 0, none⟩ (.int .i64 k)).setCell ⟨b, 1, none⟩ (.slice A n c)) := (mid_setCell (p := ⟨b, 0, none⟩) _ ⟨Nat.le_refl _, Nat.lt_succ_self _⟩).trans (mid_setCell (p := ⟨b, 1, none⟩) _ ⟨Nat.le_refl _, Nat.lt_succ_self _⟩)
      have hzr := HZr.out
      have hbl : Below b wr ((wr.setCell ⟨b, 0, none⟩ (.int .i64 k)).setCell ⟨b, 1, none⟩ (.slice A n c)) := hm2.below (by omega)
      refine ⟨A, n, c, acc, rfl, ?_, HP.out, by omega, HSr.out.below (hbl.mono (by omega)), HMr.out.on (hbl.mono (by rw [Hbe.out]; exact Nat.le_refl _))⟩
      exact (HO.out.mid hm2 (by omega)).mono (by rw [← Hbe.out]; omega) hm2.size

theorem with08_any (s k : Nat) (d : Int) (w : World) (h : Src w s) (hk : 1 ≤ k) (hk4 : k ≤ 4) (hd : 0 ≤ d) (hd2 : d ≤ 1000000) :
    Calls Tryz.prog 101 #[.pointer (some ⟨s, 0, none⟩), .int .i64 k, .int .i64 d] w (RetPd s k k 5 w) :=
  (with08d_any s k d w h hk hk4 hd hd2).mono fun e w' ⟨A, n, c, xss, h1, h2, h3, h4⟩ => ⟨A, n, c, xss, h1, h2, ⟨fun x hx => (h3 x hx).2.2⟩, h4⟩
/-- a drawn polynomial -/
def RetDw (s : Nat) (w : World) (e : Ending) (w' : World) : Prop := ∃ k : Nat, 1 ≤ k ∧ k ≤ 4 ∧ RetPd s k k 5 w e w'

/-- the result's box is written last -/
theorem RetPd.fin {s k l b : Nat} {v : Int} {w wr : World} {A : Option Addr} {n c : Nat} {xss : List (List Int)} {X Y : Value} (hsb : s < b) (hbe : b = w.heap.size) (hz : b + 1 ≤ wr.heap.size)
    (O : OwnL wr (b + 1) wr.heap.size A n c xss) (hP : PdK k xss) (hn : n ≤ l) (hS : Src wr s) (hM : Mid s (s + 1) w wr) :
    RetPd s v k l w (.returned (.agg #[.int .i64 v, .slice A n c])) ((wr.setCell ⟨b, 0, none⟩ X).setCell ⟨b, 1, none⟩ Y) := by
  have hm2 : Mid b (b + 1) wr ((wr.setCell ⟨b, 0, none⟩ X).setCell ⟨b, 1, none⟩ Y) := (mid_setCell (p := ⟨b, 0, none⟩) _ ⟨Nat.le_refl _, Nat.lt_succ_self _⟩).trans (mid_setCell (p := ⟨b, 1, none⟩) _ ⟨Nat.le_refl _, Nat.lt_succ_self _⟩)
  have hbl := hm2.below (by omega)
  refine ⟨A, n, c, xss, rfl, ?_, hP, hn, hS.below (hbl.mono (by omega)), hM.on (hbl.mono (by rw [hbe]; exact Nat.le_refl _))⟩
  exact (O.mid hm2 (Nat.le_refl _)).mono (by rw [← hbe]; omega) hm2.size

set_option maxRecDepth 100000 in
set_option maxHeartbeats 1000000 in
theorem draw08_any (s : Nat) (most : Int) (w : World) (h : Src w s) (h0 : 0 ≤ most) (h1 : most ≤ 1000) :
    Calls Tryz.prog 114 #[.pointer (some ⟨s, 0, none⟩), .int .i64 most] w (RetDw s w) := by
  obtain ⟨w0, b, hw0, hbe, hb0, hz0, hF⟩ := start1 w (.int .i64 0) (.slice none 0 0) 26
  have hsb : s < b := by rw [hbe]; exact h.lt
  have HS := Lib.hid (h.ext hb0); clear h
  have HM := Lib.hid (Mid.of_below (B := s) (K := s + 1) hb0)
  have F0 := Lib.hid hF; clear hF
  have HZ := Lib.hid (Nat.le_of_eq hz0.symm); clear hz0
  have Hw := Lib.hid hw0; clear hw0
  have Hbe := Lib.hid hbe; clear hbe hb0
  go_enter Tryz.func114, Tryz.ntmps114
  go_wp2_with fail
  rw [← Hw.out, ← Hbe.out]
  refine (next_any s 4 w0 HS.out (by omega)).mono ?_
  rintro e w1 ⟨x, rfl, hx0, hx1, hs1, hm1, hz1⟩
  replace HS := Lib.hid hs1
  replace F0 := Lib.hid (F0.out.mid hm1 (by simp; omega))
  replace HM := Lib.hid (HM.out.trans hm1)
  replace HZ := Lib.hid (Nat.le_trans HZ.out hm1.size)
  clear hs1 hm1 hz1
  go_wp2_with fail
  refine (next_any s 6 w1 HS.out (by omega)).mono ?_
  rintro e w2 ⟨y, rfl, hy0, hy1, hs1, hm1, hz1⟩
  replace HS := Lib.hid hs1
  replace F0 := Lib.hid (F0.out.mid hm1 (by simp; omega))
  replace HM := Lib.hid (HM.out.trans hm1)
  replace HZ := Lib.hid (Nat.le_trans HZ.out hm1.size)
  clear hs1 hm1 hz1
  go_wp2_with fail
  refine (next_any s (most + 1) w2 HS.out (by omega)).mono ?_
  rintro e w3 ⟨z, rfl, hz0, hz1, hs1, hm1, hz2⟩
  replace HS := Lib.hid hs1
  replace F0 := Lib.hid (F0.out.mid hm1 (by simp; omega))
  replace HM := Lib.hid (HM.out.trans hm1)
  replace HZ := Lib.hid (Nat.le_trans HZ.out hm1.size)
  clear hs1 hm1 hz2
  go_wp2_with fail
  refine (pickLit_any s [y, z] w3 HS.out (by simp) (by simp)).mono ?_
  rintro e w4 ⟨d, rfl, hd, hs1, hm1⟩
  replace HS := Lib.hid hs1
  replace F0 := Lib.hid (F0.out.mid hm1 (by simp; omega))
  replace HM := Lib.hid (HM.out.trans hm1)
  replace HZ := Lib.hid (Nat.le_trans HZ.out hm1.size)
  have hd2 : 0 ≤ d ∧ d ≤ 1000 := by
    simp only [List.mem_cons, List.not_mem_nil, or_false] at hd
    omega
  obtain ⟨k, hk⟩ : ∃ k : Nat, 1 + x = k := ⟨(1 + x).toNat, by omega⟩
  have hwk : IntKind.i64.wrap (1 + x) = k := by rw [IntKind.wrap_i64]; omega
  clear hs1 hm1 hd
  go_wp2_with fail
  refine (with08_any s k d w4 HS.out (by omega) (by omega) hd2.1 (by omega)).mono ?_
  rintro e w5 ⟨A, n, c, acc, rfl, ho, hp, hn, hs1, hm1⟩
  replace HS := Lib.hid hs1
  replace F0 := Lib.hid (F0.out.mid hm1 (by simp; omega))
  replace HM := Lib.hid (HM.out.trans hm1)
  have HO := Lib.hid (ho.mono HZ.out (Nat.le_refl _))
  replace HZ := Lib.hid (Nat.le_trans HZ.out hm1.size)
  clear ho hs1 hm1
  have q0 := F0.out.at_ (b := b) (o := 0) (V := .int .i64 0) (by simp)
  have q1 := F0.out.at_ (b := b) (o := 1) (V := .slice none 0 0) (by simp)
  have f0 := F0.out.fr (b := b) (o := 0) (V := .int .i64 0) (by simp)
  have f1 := F0.out.fr (b := b) (o := 1) (V := .slice none 0 0) (by simp)
  have hres := cells_end q0 q1 (.int .i64 k) (.slice A n c)
  go_wp2_with fail
  refine bodyPost_ret (v := .agg #[.int .i64 k, .slice A n c]) (by simp [results, Tryz.results114, go_sem, hres.1, hres.2]) rfl ?_
  exact ⟨k, by omega, by omega, RetPd.fin hsb Hbe.out HZ.out HO.out hp hn HS.out HM.out⟩

/-- a drawn polynomial, seldom spoilt -/
def RetSp (s : Nat) (w : World) (e : Ending) (w' : World) : Prop := ∃ (v : Int) (k : Nat), 0 ≤ v ∧ v ≤ 5 ∧ 1 ≤ k ∧ k ≤ 4 ∧ RetPd s v k 6 w e w'

set_option maxRecDepth 100000 in
set_option maxHeartbeats 2000000 in
theorem spoil08_any (s : Nat) (most : Int) (w : World) (h : Src w s) (h0 : 0 ≤ most) (h1 : most ≤ 1000) :
    Calls Tryz.prog 68 #[.pointer (some ⟨s, 0, none⟩), .int .i64 most] w (RetSp s w) := by
  obtain ⟨i0, hi, hq0, hq1, hq2⟩ := info_parts Tryz.info_i64
  have HI := Lib.hid hi; clear hi
  have HQ0 := Lib.hid hq0; clear hq0
  have HQ1 := Lib.hid hq1; clear hq1
  have HQ2 := Lib.hid hq2; clear hq2
  obtain ⟨w0, b, hw0, hbe, hb0, hz0, hF⟩ := start1 w (.int .i64 0) (.slice none 0 0) 26
  have hsb : s < b := by rw [hbe]; exact h.lt
  have HS := Lib.hid (h.ext hb0); clear h
  have HM := Lib.hid (Mid.of_below (B := s) (K := s + 1) hb0)
  have F0 := Lib.hid hF; clear hF
  have HZ := Lib.hid (Nat.le_of_eq hz0.symm); clear hz0
  have Hw := Lib.hid hw0; clear hw0
  have Hbe := Lib.hid hbe; clear hbe hb0
  go_enter Tryz.func68, Tryz.ntmps68
  go_wp2_with fail
  rw [← Hw.out, ← Hbe.out]
  refine (draw08_any s most w0 HS.out h0 h1).mono ?_
  rintro e w1 ⟨k, hk1, hk4, A, n, c, acc, rfl, ho, hp, hn, hs1, hm1⟩
  replace HS := Lib.hid hs1
  replace F0 := Lib.hid (F0.out.mid hm1 (by simp; omega))
  replace HM := Lib.hid (HM.out.trans hm1)
  have HO := Lib.hid (ho.mono HZ.out (Nat.le_refl _))
  replace HZ := Lib.hid (Nat.le_trans HZ.out hm1.size)
  have HP := Lib.hid hp
  clear ho hs1 hm1 hp
  go_wp2_with fail
  obtain ⟨w2, hw2⟩ : ∃ W, W = w1.alloc (.cells #[.int .i64 k, .slice A n c] 26) := ⟨_, rfl⟩
  obtain ⟨q, hq⟩ : ∃ q, q = w1.heap.size := ⟨_, rfl⟩
  rw [← hw2, ← hq]
  have hb2 : Below w1.heap.size w1 w2 := by rw [hw2]; exact (Below.refl _ _).alloc (Nat.le_refl _) _
  have G0 := Lib.hid (show Cells [(q, 0, .int .i64 k), (q, 1, .slice A n c)] w2 by rw [hw2]; exact Cells.nil.alloc2 _ _ _ hq)
  have HK := Lib.hid (show KindOf w2 q 26 by rw [hw2]; exact kind_new hq)
  replace HO := Lib.hid (((HO.out.m (Nat.le_refl _)).below hb2).mono (Nat.le_refl _) (Nat.le_of_eq hq.symm))
  have hqb : b + 1 ≤ q := by rw [hq]; exact HZ.out
  replace HS := Lib.hid (HS.out.ext hb2)
  replace F0 := Lib.hid (F0.out.below hb2)
  replace HM := Lib.hid (HM.out.trans (Mid.of_below hb2))
  replace HZ := Lib.hid (show q + 1 ≤ w2.heap.size by rw [hw2, hq]; simp)
  clear hw2 hb2 hq
  refine (next_any s 30 w2 HS.out (by omega)).mono ?_
  rintro e w3 ⟨x, rfl, hx0, hx1, hs1, hm1, hz1⟩
  replace HS := Lib.hid hs1
  replace F0 := Lib.hid (F0.out.mid hm1 (by simp; omega))
  replace G0 := Lib.hid (G0.out.mid hm1 (by simp; omega))
  replace HO := Lib.hid (HO.out.mid hm1 (by omega))
  replace HK := Lib.hid (HK.out.mid hm1 (by omega))
  replace HM := Lib.hid (HM.out.trans hm1)
  replace HZ := Lib.hid (Nat.le_trans HZ.out hm1.size)
  clear hs1 hm1 hz1
  have c0 := G0.out.at_ (b := q) (o := 0) (V := .int .i64 k) (by simp)
  have c1 := G0.out.at_ (b := q) (o := 1) (V := .slice A n c) (by simp)
  by_cases hx : x = 0
  · subst hx
    clear hx0 hx1
    go_wp2_with fail
    refine (pickLit_any s [0, 5, (k : Int) + 1] w3 HS.out (by simp) (by simp)).mono ?_
    rintro e w4 ⟨v, rfl, hv, hs1, hm1⟩
    have hv2 : 0 ≤ v ∧ v ≤ 5 := by
      simp only [List.mem_cons, List.not_mem_nil, or_false] at hv
      omega
    replace HS := Lib.hid hs1
    replace F0 := Lib.hid (F0.out.mid hm1 (by simp; omega))
    replace G0 := Lib.hid (G0.out.mid hm1 (by simp; omega))
    replace HO := Lib.hid (HO.out.mid hm1 (by omega))
    replace HM := Lib.hid (HM.out.trans hm1)
    replace HZ := Lib.hid (Nat.le_trans HZ.out hm1.size)
    clear hs1 hm1 hv c0 c1
    have c0 := G0.out.at_ (b := q) (o := 0) (V := .int .i64 k) (by simp)
    have c1 := G0.out.at_ (b := q) (o := 1) (V := .slice A n c) (by simp)
    have g0 := G0.out.fr (b := q) (o := 0) (V := .int .i64 k) (by simp)
    have hqb2 : q ≠ b := by omega
    have q0 := F0.out.at_ (b := b) (o := 0) (V := .int .i64 0) (by simp)
    have q1 := F0.out.at_ (b := b) (o := 1) (V := .slice none 0 0) (by simp)
    have f0 := F0.out.fr (b := b) (o := 0) (V := .int .i64 0) (by simp)
    have f1 := F0.out.fr (b := b) (o := 1) (V := .slice none 0 0) (by simp)
    obtain ⟨w5, hw5⟩ : ∃ W, W = w4.setCell ⟨q, 0, none⟩ (.int .i64 v) := ⟨_, rfl⟩
    have hm5 : Mid q (q + 1) w4 w5 := by rw [hw5]; exact mid_setCell (p := ⟨q, 0, none⟩) _ ⟨Nat.le_refl _, Nat.lt_succ_self _⟩
    have hqz := HZ.out
    have hb5 : Below q w4 w5 := hm5.below (by omega)
    replace HO := Lib.hid (HO.out.same fun g h1 h2 => hm5.block g (by omega) (.inl h2))
    replace F0 := Lib.hid (F0.out.belowB hb5 (by simp; omega))
    replace HS := Lib.hid (HS.out.below (hb5.mono (by omega)))
    replace HM := Lib.hid (HM.out.on (hb5.mono (by rw [← Hbe.out]; omega)))
    replace HZ := Lib.hid (Nat.le_trans hqz hb5.size)
    have HO5 := Lib.hid (HO.out.own.mono (Nat.le_refl _) (Nat.le_trans (Nat.le_succ q) HZ.out))
    replace HZ := Lib.hid (Nat.le_trans (show b + 1 ≤ q + 1 by omega) HZ.out)
    have hres := cells_end (F0.out.at_ (b := b) (o := 0) (V := .int .i64 0) (by simp)) (F0.out.at_ (b := b) (o := 1) (V := .slice none 0 0) (by simp)) (.int .i64 v) (.slice A n c)
    have Hw5 := Lib.hid hw5
    clear hw5 hm5 hb5 hqz
    go_wp2_with fail
    rw [← Hw5.out]
    refine bodyPost_ret (v := .agg #[.int .i64 v, .slice A n c]) (by simp [results, Tryz.results68, go_sem, hres.1, hres.2]) rfl ?_
    exact ⟨v, k, by omega, by omega, hk1, hk4, RetPd.fin hsb Hbe.out HZ.out HO5.out HP.out (by omega) HS.out HM.out⟩
  · have hx2 : (x == 0) = false := by simpa using hx
    by_cases hx3 : x = 1
    · subst hx3
      have hi := HI.out
      have hz0 := HQ0.out
      have hz1 := HQ1.out
      have hz2 := HQ2.out
      have hmk : ∀ W : World, (Instr.makeSlice 41 (.int .i64 (k : Int)) (.int .i64 (k : Int))).run Tryz.prog W = .ok (.slice (some ⟨W.heap.size, 0, none⟩) k k) (W.alloc (.cells (madeCells #[.int .i64 0] k) 2)) := fun W => by
        have h1 := run_make (P := Tryz.prog) (w := W) 41 2 i0 (.int .i64 0) Tryz.underlying41 hi hz0 .i64 .i64 (k : Int) (k : Int) (by omega) (Int.le_refl _) (by rw [hz2]; omega) (by omega)
        rw [h1, hz1, show ((k : Int)).toNat = k from by omega, Nat.mul_one]
        rfl
      have hql : q < w3.heap.size := G0.out.lt (q, 0, .int .i64 k) (by simp)
      clear hi hz0 hz1 hz2
      go_wp2_with fail
      have hcl : (madeCells #[.int .i64 0] k).toList = List.replicate k (.int .i64 0) := by simpa [Value.cells] using toList_madeCells_one (.int .i64 0) k
      obtain ⟨wm, hwm⟩ : ∃ W, W = (w3.alloc (.cells (madeCells #[.int .i64 0] k) 2)).drew := ⟨_, rfl⟩
      have hbm : Below w3.heap.size w3 wm := by rw [hwm]; exact below_drewN ((Below.refl _ _).alloc (Nat.le_refl _) _) 1
      have hzm : wm.heap.size = w3.heap.size + 1 := by rw [hwm]; simp [World.drew]
      have ST := Lib.hid (show StL w3 (b + 1) wm q A n c acc from ⟨(HO.out.below hbm).own, hbm.mono (by omega), hqb, by rw [hzm]; omega⟩)
      have NW : Hid (OwnS wm q (some ⟨w3.heap.size, 0, none⟩) k k (List.replicate k 0)) := Lib.hid (by
        rw [hwm]
        have hsz : (madeCells #[.int .i64 0] k).size = k := by rw [← Array.length_toList, hcl]; simp
        exact ⟨by simp, ⟨by simp, .inr ⟨w3.heap.size, k, madeCells #[.int .i64 0] k, rfl, by omega, heap_alloc_new w3 _, Nat.le_refl _, by unfold maxLen; omega, by rw [hsz]; simp, by rw [hcl]; simp⟩⟩⟩)
      have GM := Lib.hid (G0.out.below hbm)
      have KM := Lib.hid (HK.out.below hbm)
      have OM := Lib.hid HO.out.out
      rw [hwm] at hzm ST NW
      have HZm := Lib.hid hzm
      clear hzm hbm
      go_region_law
        (refine step_pushL (w := (w3.alloc (.cells (madeCells #[.int .i64 0] k) 2)).drew) (by rfl) (.tmp 24) (.tmp 28) (by rfl) (by rfl) HZm.out (by rfl) ST.out NW.out (by omega) ?_
         intro A2 c2 w4 hst hg4 _
         have hm4 : Mid (b + 1) q wm w4 := by rw [hwm]; exact (Mid.refl (b + 1) q _).grown hg4 fun g hg => ⟨HO.out.own.row g hg, OM.out g hg⟩
         have G4 := Lib.hid (GM.out.mid hm4 (by simp))
         have K4 := Lib.hid (KM.out.mid hm4 (.inr (Nat.le_refl _)))
         have c4 := G4.out.at_ (b := q) (o := 1) (V := .slice A n c) (by simp)
         have f4 := G4.out.fr (b := q) (o := 1) (V := .slice A n c) (by simp)
         have HST := Lib.hid hst
         clear hst hg4 hm4)
      all_goals
        have c40 := G4.out.at_ (b := q) (o := 0) (V := .int .i64 k) (by simp)
        have hqw : b + 1 ≤ w4.heap.size := by have := HST.out.lo; have := HST.out.hi; omega
        obtain ⟨w5, hw5⟩ : ∃ W, W = w4.setCell ⟨q, 1, none⟩ (.slice A2 (n + 1) c2) := ⟨_, rfl⟩
        have hm5 : Mid q (q + 1) w4 w5 := by rw [hw5]; exact mid_setCell (p := ⟨q, 1, none⟩) _ ⟨Nat.le_refl _, Nat.lt_succ_self _⟩
        have hb5 : Below (b + 1) w3 w5 := HST.out.bel.trans ((hm5.below (by have := G4.out.lt (q, 0, .int .i64 k) (by simp); omega)).mono hqb)
        have G5 := Lib.hid (show Cells [(q, 1, .slice A2 (n + 1) c2), (q, 0, .int .i64 k)] w5 by rw [hw5]; exact (G4.out.sub (M := [(q, 1, .slice A n c), (q, 0, .int .i64 k)]) (by simp)).set (by simp) _)
        have HO5 := Lib.hid (show OwnL w5 (b + 1) w5.heap.size A2 (n + 1) c2 (acc ++ [List.replicate k 0]) by
          rw [hw5]
          have := HST.out.own.offKind (grown_set w4 q 1 (.slice A2 (n + 1) c2)) K4.out (by decide) (by decide)
          simpa [World.setCell] using this)
        replace F0 := Lib.hid (F0.out.belowB hb5 (by simp))
        replace HS := Lib.hid (HS.out.below (hb5.mono (by omega)))
        replace HM := Lib.hid (HM.out.on (hb5.mono (by rw [← Hbe.out]; omega)))
        replace HZ := Lib.hid (Nat.le_trans (show b + 1 ≤ w3.heap.size by omega) hb5.size)
        have HP5 : Hid (PdK k (acc ++ [List.replicate k 0])) := Lib.hid ⟨fun x hx => by
          rcases List.mem_append.1 hx with h | h
          · exact HP.out.each x h
          · rw [List.mem_singleton.1 h]; simp⟩
        have Hw5 := Lib.hid hw5
        clear hw5 hm5 hb5 c0 c1 c4 f4 hmk hql hcl
        have q0 := F0.out.at_ (b := b) (o := 0) (V := .int .i64 0) (by simp)
        have q1 := F0.out.at_ (b := b) (o := 1) (V := .slice none 0 0) (by simp)
        have f0 := F0.out.fr (b := b) (o := 0) (V := .int .i64 0) (by simp)
        have f1 := F0.out.fr (b := b) (o := 1) (V := .slice none 0 0) (by simp)
        have c50 := G5.out.at_ (b := q) (o := 0) (V := .int .i64 k) (by simp)
        have c51 := G5.out.at_ (b := q) (o := 1) (V := .slice A2 (n + 1) c2) (by simp)
        have hres := cells_end q0 q1 (.int .i64 k) (.slice A2 (n + 1) c2)
        rw [← Hw5.out]
        go_wp2_with fail
        refine bodyPost_ret (v := .agg #[.int .i64 k, .slice A2 (n + 1) c2]) (by simp [results, Tryz.results68, go_sem, hres.1, hres.2]) rfl ?_
        exact ⟨k, k, by omega, by omega, hk1, hk4, RetPd.fin hsb Hbe.out HZ.out HO5.out HP5.out (by omega) HS.out HM.out⟩
    · have hx4 : (x == 1) = false := by simpa using hx3
      have HO5 := Lib.hid (HO.out.own.mono (Nat.le_refl _) (show q ≤ w3.heap.size by have := HZ.out; omega))
      replace HZ := Lib.hid (Nat.le_trans (show b + 1 ≤ q + 1 by omega) HZ.out)
      by_cases hx5 : x = 2
      · subst hx5
        by_cases hn0 : 0 < n
        · obtain ⟨ad, A', n', c', xs, rfl, hxs, hcc, hos, hrow, hset⟩ := HO5.out.at2 hn0
          have hcc0 : w3.cell? ad = some (.slice A' n' c') := by simpa [Addr.add] using hcc
          clear hcc hx0 hx1
          go_wp2_with fail
          refine (pickLit_any s [-1, 41] w3 HS.out (by simp) (by simp)).mono ?_
          rintro e w4 ⟨v, rfl, hv, hs1, hm1⟩
          replace HS := Lib.hid hs1
          replace F0 := Lib.hid (F0.out.mid hm1 (by simp; omega))
          replace G0 := Lib.hid (G0.out.mid hm1 (by simp; omega))
          replace HO := Lib.hid (HO.out.mid hm1 (by omega))
          replace HK := Lib.hid (HK.out.mid hm1 (by omega))
          replace HM := Lib.hid (HM.out.trans hm1)
          have hqz : q + 1 ≤ w4.heap.size := by have := G0.out.lt (q, 0, .int .i64 k) (by simp); exact this
          have had : b + 1 ≤ ad.block ∧ ad.block < w3.heap.size := ⟨HO5.out.row ad.block rfl, HO5.out.lt ad.block rfl⟩
          have hcc4 : w4.cell? ad = some (.slice A' n' c') := by
            have hb := hm1.block ad.block had.2 (by omega)
            simp only [World.cell?, hb] at hcc0 ⊢
            exact hcc0
          obtain ⟨ad2, A2, n2, c2, xs2, e2, hxs2, hcc2, hos2, hrow2, hset2⟩ := HO.out.own.at2 hn0
          injection e2 with e2
          subst e2
          rw [show ad.add 0 = ad from by simp [Addr.add], hcc4] at hcc2
          injection hcc2 with hcc2
          injection hcc2 with e3 e4 e5
          subst e3; subst e4; subst e5
          have hl2 : xs2.length = k := HP.out.each xs2 (List.mem_of_getElem? hxs2.out)
          obtain ⟨g, y, rfl, hVg, hgl, _, hc5, hf5, hset5⟩ := hos2.at_ (k := 0) (by have := hos2.len; omega)
          obtain ⟨hT, hG⟩ := hset5 v
          have hO5 := hset2 _ _ hT hG
          obtain ⟨w5, hw5⟩ : ∃ W, W = w4.setCell ⟨g, 0, none⟩ (.int .i64 v) := ⟨_, rfl⟩
          rw [← hw5] at hO5
          have hgq := (hrow2 g rfl).2
          have hm5 : Mid g (g + 1) w4 w5 := by rw [hw5]; exact mid_setCell (p := ⟨g, 0, none⟩) _ ⟨Nat.le_refl _, Nat.lt_succ_self _⟩
          have hb5 : Below g w4 w5 := hm5.below (by omega)
          clear HO5
          have HO5 := Lib.hid (hO5.mono (Nat.le_refl _) (show q ≤ w5.heap.size by have := hm5.size; omega))
          have HP5 : Hid (PdK k (acc.set 0 (xs2.set 0 v))) := Lib.hid ⟨fun x hx => by
            rcases List.mem_or_eq_of_mem_set hx with h | h
            · exact HP.out.each x h
            · rw [h, List.length_set]; exact hl2⟩
          replace F0 := Lib.hid (F0.out.belowB hb5 (by simp; omega))
          replace G0 := Lib.hid (G0.out.mid hm5 (by simp; omega))
          replace HS := Lib.hid (HS.out.below (hb5.mono (by omega)))
          replace HM := Lib.hid (HM.out.on (hb5.mono (by rw [← Hbe.out]; omega)))
          replace HZ := Lib.hid (show b + 1 ≤ w5.heap.size by have := hm5.size; omega)
          have hgb : g ≠ b := by omega
          have hgq2 : g ≠ q := by omega
          have q0 := F0.out.at_ (b := b) (o := 0) (V := .int .i64 0) (by simp)
          have q1 := F0.out.at_ (b := b) (o := 1) (V := .slice none 0 0) (by simp)
          have f0 := F0.out.fr (b := b) (o := 0) (V := .int .i64 0) (by simp)
          have f1 := F0.out.fr (b := b) (o := 1) (V := .slice none 0 0) (by simp)
          have c50 := G0.out.at_ (b := q) (o := 0) (V := .int .i64 k) (by simp)
          have c51 := G0.out.at_ (b := q) (o := 1) (V := .slice (some ad) n c) (by simp)
          have hres := cells_end q0 q1 (.int .i64 k) (.slice (some ad) n c)
          have hk0 : 0 < n' := by have := hos2.len; omega
          have hz5 : Hid (w5 = w4.setCell ⟨g, 0, none⟩ (.int .i64 v)) := Lib.hid hw5
          rw [hw5] at q0 q1 f0 f1 c50 c51
          clear hw5 hm5 hb5 hO5 hT hG hset5 hset2 hrow2 hos2 hset hrow hos hv hs1 hm1 c0 c1 hcc4 hcc0
          go_wp2_with fail
          rw [← hz5.out]
          refine bodyPost_ret (v := .agg #[.int .i64 k, .slice (some ad) n c]) (by simp [results, Tryz.results68, go_sem, hres.1, hres.2]) rfl ?_
          exact ⟨k, k, by omega, by omega, hk1, hk4, RetPd.fin hsb Hbe.out HZ.out HO5.out HP5.out (by omega) HS.out HM.out⟩
        · have hn1 : n = 0 := by omega
          subst hn1
          have q0 := F0.out.at_ (b := b) (o := 0) (V := .int .i64 0) (by simp)
          have q1 := F0.out.at_ (b := b) (o := 1) (V := .slice none 0 0) (by simp)
          have f0 := F0.out.fr (b := b) (o := 0) (V := .int .i64 0) (by simp)
          have f1 := F0.out.fr (b := b) (o := 1) (V := .slice none 0 0) (by simp)
          have c50 := G0.out.at_ (b := q) (o := 0) (V := .int .i64 k) (by simp)
          have c51 := G0.out.at_ (b := q) (o := 1) (V := .slice A 0 c) (by simp)
          have hres := cells_end q0 q1 (.int .i64 k) (.slice A 0 c)
          skip
          go_wp2_with fail
          refine bodyPost_ret (v := .agg #[.int .i64 k, .slice A 0 c]) (by simp [results, Tryz.results68, go_sem, hres.1, hres.2]) rfl ?_
          exact ⟨k, k, by omega, by omega, hk1, hk4, RetPd.fin hsb Hbe.out HZ.out HO5.out HP.out (by omega) HS.out HM.out⟩
      · have hx6 : (x == 2) = false := by simpa using hx5
        have q0 := F0.out.at_ (b := b) (o := 0) (V := .int .i64 0) (by simp)
        have q1 := F0.out.at_ (b := b) (o := 1) (V := .slice none 0 0) (by simp)
        have f0 := F0.out.fr (b := b) (o := 0) (V := .int .i64 0) (by simp)
        have f1 := F0.out.fr (b := b) (o := 1) (V := .slice none 0 0) (by simp)
        have c50 := G0.out.at_ (b := q) (o := 0) (V := .int .i64 k) (by simp)
        have c51 := G0.out.at_ (b := q) (o := 1) (V := .slice A n c) (by simp)
        have hres := cells_end q0 q1 (.int .i64 k) (.slice A n c)
        skip
        go_wp2_with fail
        refine bodyPost_ret (v := .agg #[.int .i64 k, .slice A n c]) (by simp [results, Tryz.results68, go_sem, hres.1, hres.2]) rfl ?_
        exact ⟨k, k, by omega, by omega, hk1, hk4, RetPd.fin hsb Hbe.out HZ.out HO5.out HP.out (by omega) HS.out HM.out⟩

/-- a law's argument, drawn: numbers and lists of one's own -/
def RetDP (w : World) (e : Ending) (w' : World) : Prop :=
  ∃ (v : Int) (A : Option Addr) (n c : Nat) (xss : List (List Int)), e = .returned (.agg #[.int .i64 v, .slice A n c]) ∧ OwnL w' w.heap.size w'.heap.size A n c xss ∧ n ≤ 2000 ∧ totalL xss ≤ 8000 ∧ Below w.heap.size w w'

theorem PdK.tot {k : Nat} {xss : List (List Int)} (h : PdK k xss) (hk : k ≤ 4) : totalL xss ≤ xss.length * 4 := totalL_le xss 4 fun r hr => by rw [h.each r hr]; exact hk

theorem RetSp.dp {w w0 w' : World} {s : Nat} {e : Ending} (h : RetSp s w e w') (hs : s = w0.heap.size) (hb : Below w0.heap.size w0 w) : RetDP w0 e w' := by
  obtain ⟨v, k, _, _, _, hk, A, n, c, xss, rfl, ho, hp, hn, _, hm⟩ := h
  refine ⟨v, A, n, c, xss, rfl, ho.mono hb.size (Nat.le_refl _), by omega, ?_, hb.trans (hm.below (by rw [hs]; exact hb.size) |>.mono (Nat.le_of_eq hs.symm))⟩
  have := hp.tot hk
  rw [ho.len] at this
  omega

theorem RetDP.fin {w wr : World} {b n c : Nat} {v : Int} {A : Option Addr} {xss : List (List Int)} {X Y : Value} (hbe : b = w.heap.size) (hz : b + 1 ≤ wr.heap.size) (O : OwnL wr (b + 1) wr.heap.size A n c xss) (hn : n ≤ 2000) (ht : totalL xss ≤ 8000) (hb : Below w.heap.size w wr) :
    RetDP w (.returned (.agg #[.int .i64 v, .slice A n c])) ((wr.setCell ⟨b, 0, none⟩ X).setCell ⟨b, 1, none⟩ Y) := by
  have hm2 : Mid b (b + 1) wr ((wr.setCell ⟨b, 0, none⟩ X).setCell ⟨b, 1, none⟩ Y) := (mid_setCell (p := ⟨b, 0, none⟩) _ ⟨Nat.le_refl _, Nat.lt_succ_self _⟩).trans (mid_setCell (p := ⟨b, 1, none⟩) _ ⟨Nat.le_refl _, Nat.lt_succ_self _⟩)
  exact ⟨v, A, n, c, xss, rfl, (O.mid hm2 (Nat.le_refl _)).mono (by rw [← hbe]; omega) hm2.size, hn, ht, hb.trans ((hm2.below (by omega)).mono (Nat.le_of_eq hbe.symm))⟩

/-- drawn integers -/
def RetDI (w : World) (e : Ending) (w' : World) : Prop :=
  ∃ (A : Option Addr) (n c : Nat) (xs : List Int), e = .returned (.slice A n c) ∧ OwnS w' w.heap.size A n c xs ∧ n ≤ 5 ∧ (∀ z ∈ xs, -1 ≤ z ∧ z ≤ 40) ∧ Below w.heap.size w w'

end Go.Proofs.YtoodhbafleemjaaGreat
