/- Draws: a source hands out numbers; what is drawn is not told, but its bounds. -/
import Derived.Test.YtoigdiekkkkapaaLawK
import Derived.Test.YtoigdiekkkkapaaFrC
import Derived.Test.YtoigdiekkkkapaaPut
import Derived.Deep.RegionLaw
import Derived.Test.YtoigdiekkkkapaaKamS
namespace Go.Proofs.Ytoigdiekkkkapaa
open Go.RowKit
set_option linter.unusedVariables false

/-- a slice of bytes that reads -/
structure RdB (w : World) (B : Nat) (A : Option Addr) (n c : Nat) : Prop where
  cap : n ≤ c
  cell : ∀ j, j < n → ∃ ad z, A = some ad ∧ ad.block < B ∧ w.cell? (ad.add j) = some (.int .u8 z) ∧ 0 ≤ z ∧ z ≤ 255
theorem RdB.below {w w' : World} {B : Nat} {A : Option Addr} {n c : Nat} (h : RdB w B A n c) (hb : Below B w w') : RdB w' B A n c :=
  ⟨h.cap, fun j hj => by
    obtain ⟨ad, z, e, hlt, hc, hz⟩ := h.cell j hj
    exact ⟨ad, z, e, hlt, (hb.cell (by rw [block_of_add]; exact hlt)).trans hc, hz⟩⟩
theorem RdB.mono {w : World} {B B' : Nat} {A : Option Addr} {n c : Nat} (h : RdB w B A n c) (hB : B ≤ B') : RdB w B' A n c :=
  ⟨h.cap, fun j hj => by
    obtain ⟨ad, z, e, hlt, hc, hz⟩ := h.cell j hj
    exact ⟨ad, z, e, by omega, hc, hz⟩⟩

/-- the source in block s -/
structure Src (w : World) (s : Nat) : Prop where
  ex : ∃ (A : Option Addr) (n c k h : Nat), n ≤ 4096 ∧ k ≤ n ∧ h < 18446744073709551616 ∧ RdB w s A n c ∧ Cells [(s, 0, .slice A n c), (s, 1, .int .i64 k), (s, 2, .int .u64 h)] w
theorem Src.lt {w : World} {s : Nat} (h : Src w s) : s < w.heap.size := by
  obtain ⟨A, n, c, k, h, _, _, _, _, hc⟩ := h.ex
  exact hc.lt (s, 1, .int .i64 k) (by simp)
theorem Src.below {w w' : World} {s : Nat} (h : Src w s) (hb : Below (s + 1) w w') : Src w' s := by
  obtain ⟨A, n, c, k, h, h1, h2, h3, hr, hc⟩ := h.ex
  exact ⟨A, n, c, k, h, h1, h2, h3, hr.below (hb.mono (Nat.le_succ _)), hc.belowB hb (by simp)⟩
theorem Src.ext {w w' : World} {s : Nat} (h : Src w s) (hb : Below w.heap.size w w') : Src w' s := h.below (hb.mono h.lt)

/-- a number is drawn: 0 ≤ x < n, or 0 -/
def RetNx (s : Nat) (n : Int) (w : World) (e : Ending) (w' : World) : Prop :=
  ∃ x, e = .returned (.int .i64 x) ∧ 0 ≤ x ∧ (x < n ∨ x = 0) ∧ Src w' s ∧ Mid s (s + 1) w w' ∧ w'.heap.size = w.heap.size

theorem u64_nat (n : Int) : ∃ m : Nat, IntKind.u64.wrap n = (m : Int) ∧ m < 18446744073709551616 := by
  refine ⟨(IntKind.u64.wrap n).toNat, ?_, ?_⟩ <;> rw [IntKind.wrap_u64] <;> omega

theorem and24 {a : Int} (ha : 0 ≤ a) : ∃ x : Nat, wrap64 (bits .and .u64 a 16777215) = (x : Int) ∧ x ≤ 16777215 := by
  obtain ⟨n, rfl⟩ : ∃ n : Nat, a = n := ⟨a.toNat, by omega⟩
  have key : bits .and .u64 (n : Int) 16777215 = ((n % 18446744073709551616 &&& 16777215 : Nat) : Int) := by
    show IntKind.u64.wrap ((BitVec.ofInt 64 (n : Int) &&& BitVec.ofInt 64 (16777215 : Int)).toNat : Int) = _
    rw [BitVec.toNat_and]
    have h1 : (BitVec.ofInt 64 (n : Int)).toNat = n % 18446744073709551616 := by simp
    have h2 : (BitVec.ofInt 64 (16777215 : Int)).toNat = 16777215 := by decide
    have h3 : n % 18446744073709551616 &&& 16777215 ≤ 16777215 := Nat.and_le_right
    rw [h1, h2, IntKind.wrap_u64]
    omega
  have h3 : n % 18446744073709551616 &&& 16777215 ≤ 16777215 := Nat.and_le_right
  refine ⟨_, ?_, h3⟩
  rw [key]
  unfold wrap64
  omega
theorem mod_draw {x n : Int} (hn : 1 ≤ n) : 0 ≤ x % n ∧ x % n < n := by
  exact ⟨Int.emod_nonneg _ (by omega), Int.emod_lt_of_pos _ (by omega)⟩

set_option maxRecDepth 100000 in
theorem next_any (s : Nat) (n : Int) (w : World) (h : Src w s) (hN : n < 9223372036854775808) : Calls Try.prog 20 #[.pointer (some ⟨s, 0, none⟩), .int .i64 n] w (RetNx s n w) := by
  by_cases hn : n < 1
  · go_enter Try.func20, Try.ntmps20
    go_wp2
    go_ret
    exact ⟨0, rfl, Int.le_refl _, .inr rfl, h, Mid.refl _ _ _, rfl⟩
  · obtain ⟨A, m, c, k, h0, hm, hk, hh, HB, HC⟩ := h.ex
    have c0 := HC.at_ (b := s) (o := 0) (V := .slice A m c) (by simp)
    have c1 := HC.at_ (b := s) (o := 1) (V := .int .i64 k) (by simp)
    have c2 := HC.at_ (b := s) (o := 2) (V := .int .u64 h0) (by simp)
    have f1 := HC.fr (b := s) (o := 1) (V := .int .i64 k) (by simp)
    have f2 := HC.fr (b := s) (o := 2) (V := .int .u64 h0) (by simp)
    obtain ⟨h1, e1, hh1⟩ := u64_nat (IntKind.u64.wrap (h0 * 6364136223846793005) + 1442695040888963407)
    have hq0 : (0 : Int) ≤ (h1 : Int) / 8589934592 := by omega
    obtain ⟨x, ex, hx⟩ := and24 hq0
    obtain ⟨W, hW⟩ : ∃ W, W = w.setCell ⟨s, 2, none⟩ (.int .u64 h1) := ⟨_, rfl⟩
    have HC1 : Cells [(s, 0, .slice A m c), (s, 1, .int .i64 k), (s, 2, .int .u64 h1)] W := by
      rw [hW]
      have := (HC.sub (M := [(s, 2, .int .u64 h0), (s, 0, .slice A m c), (s, 1, .int .i64 k)]) (by simp)).set (by simp) (.int .u64 h1)
      exact this.sub (by simp)
    have hsz : W.heap.size = w.heap.size := by rw [hW]; simp [World.setCell]
    have hM : Mid s (s + 1) w W := by rw [hW]; exact mid_setCell (p := ⟨s, 2, none⟩) _ ⟨Nat.le_refl _, Nat.lt_succ_self _⟩
    have HBW : RdB W s A m c := HB.below (hM.below (Nat.le_of_lt h.lt))
    have EW := Lib.hid hW; clear hW
    go_enter Try.func20, Try.ntmps20
    go_wp2_with fail
    rw [← EW.out]
    clear c0 c1 c2 f1 f2 HC
    have c0 := HC1.at_ (b := s) (o := 0) (V := .slice A m c) (by simp)
    have c1 := HC1.at_ (b := s) (o := 1) (V := .int .i64 k) (by simp)
    have f1 := HC1.fr (b := s) (o := 1) (V := .int .i64 k) (by simp)
    by_cases hlt : k < m
    · obtain ⟨ad, z, rfl, hbl, hz, hz0, hz1⟩ := HBW.cell k hlt
      have hwx : IntKind.i64.wrap ((x : Int) + z) = (x : Int) + z := by rw [IntKind.wrap_i64]; omega
      go_quiet (fail)
      go_wp2_with fail
      go_quiet (fail)
      go_wp2_with fail
      go_ret
      have hmd := mod_draw (x := (x : Int) + z) (n := n) (by omega)
      refine ⟨_, rfl, hmd.1, .inl hmd.2, ?_, ?_, ?_⟩
      · refine ⟨some ad, m, c, k + 1, h1, hm, hlt, hh1, (HBW.below (below_drewN (Below.refl _ _) _)).below ((mid_setCell (p := ⟨s, 1, none⟩) _ ⟨Nat.le_refl _, Nat.lt_succ_self _⟩).below (B := s) (K := s + 1) (by have := h.lt; have : (W.drewN 0).heap.size = W.heap.size := rfl; show s ≤ W.heap.size; omega)), ?_⟩
        exact (((HC1.drewN _).sub (M := [(s, 1, .int .i64 k), (s, 0, .slice (some ad) m c), (s, 2, .int .u64 h1)]) (by simp)).set (by simp) (.int .i64 ((k : Int) + 1))).sub (by simp)
      · exact (hM.trans (Mid.of_below (below_drewN (Below.refl _ _) _))).trans (mid_setCell (p := ⟨s, 1, none⟩) _ ⟨Nat.le_refl _, Nat.lt_succ_self _⟩)
      · rw [← hsz]; simp [World.setCell]
    · skip
      go_quiet (fail)
      go_wp2_with fail
      go_ret
      have hmd := mod_draw (x := (x : Int)) (n := n) (by omega)
      refine ⟨_, rfl, hmd.1, .inl hmd.2, ?_, hM.trans (Mid.of_below (below_drewN (Below.refl _ _) _)), hsz⟩
      exact ⟨A, m, c, k, h1, hm, hk, hh1, HBW.below (below_drewN (Below.refl _ _) _), HC1.drewN _⟩

/-- one of some numbers is drawn -/
def RetPk (s : Nat) (xs : List Int) (w : World) (e : Ending) (w' : World) : Prop :=
  ∃ x, e = .returned (.int .i64 x) ∧ x ∈ xs ∧ Src w' s ∧ Mid s (s + 1) w w' ∧ w'.heap.size = w.heap.size
set_option maxRecDepth 100000 in
theorem pick_any (s g n : Nat) (xs : List Int) (w : World) (h : Src w s) (hl : ∀ k, k < n → ∃ x ∈ xs, w.cell? ⟨g, k, none⟩ = some (.int .i64 x)) (hg : g ≠ s) (hgl : g < w.heap.size) (hn : 0 < n) (hn2 : n ≤ 1000) :
    Calls Try.prog 30 #[.pointer (some ⟨s, 0, none⟩), .slice (some ⟨g, 0, none⟩) n n] w (RetPk s xs w) := by
  go_enter Try.func30, Try.ntmps30
  go_wp2_with fail
  refine (next_any s n w h (by omega)).mono ?_
  rintro e w1 ⟨x, rfl, hx0, hx1, hs, hm, hz⟩
  obtain ⟨k, rfl⟩ : ∃ k : Nat, x = k := ⟨x.toNat, by omega⟩
  have hk : k < n := by omega
  obtain ⟨y, hy, hc⟩ := hl k hk
  have hc1 : w1.cell? ⟨g, k, none⟩ = some (.int .i64 y) := by
    have hb := hm.block g hgl (by omega)
    simp only [World.cell?, hb] at hc ⊢
    exact hc
  go_wp2_with fail
  go_ret
  exact ⟨y, rfl, hy, hs, hm, hz⟩
theorem lit_at {u : World} {cs : Array Value} {T : TypeId} {k : Nat} {v : Value} (h : cs[k]? = some v) : (u.alloc (.cells cs T)).cell? ⟨u.heap.size, k, none⟩ = some v := new_at rfl h
theorem Cells.mid {L : List (Nat × Nat × Value)} {w w1 : World} {B K : Nat} (h : Cells L w) (m : Mid B K w w1) (hB : ∀ x ∈ L, x.1 < B ∨ K ≤ x.1) : Cells L w1 := by
  refine ⟨fun x hx => ?_, fun x hx => ?_, fun x hx => Nat.lt_of_lt_of_le (h.lt x hx) m.size⟩
  · have hb := m.block x.1 (h.lt x hx) (hB x hx)
    have hc := h.c x hx
    simp only [World.cell?, hb] at hc ⊢
    exact hc
  · have hb := m.block x.1 (h.lt x hx) (hB x hx)
    have hc := h.f x hx
    simp only [World.frozen?, hb] at hc ⊢
    exact hc
theorem Mid.on {B K : Nat} {w0 w w' : World} (h : Mid B K w0 w) (k : Below w0.heap.size w w') : Mid B K w0 w' :=
  ⟨k.os.trans h.os, k.tape.trans h.tape, k.output.trans h.output, Nat.le_trans h.size k.size, fun i hi ho => (k.block i hi).trans (h.block i hi ho)⟩
theorem ones_len {k : Nat} {xs : List Int} (h : xs.length = k) (j : Nat) (x : Int) : (xs.set j x).length = k := by simpa using h

/-- lists of one length -/
structure PdK (k : Nat) (xss : List (List Int)) : Prop where
  each : ∀ x ∈ xss, x.length = k
theorem insX_len {x : List Int} : ∀ {xss : List (List Int)}, (insX x xss).length ≤ xss.length + 1
  | [] => by simp [insX]
  | y :: r => by
    simp only [insX]
    split
    · simp
    · split
      · have := insX_len (x := x) (xss := r)
        simp only [List.length_cons]; omega
      · simp only [List.length_cons]; omega
theorem PdK.ins {k : Nat} {xss : List (List Int)} {x : List Int} (h : PdK k xss) (hx : x.length = k) : PdK k (insX x xss) :=
  ⟨fun y hy => by
    rcases insX_mem hy with rfl | hy
    · exact hx
    · exact h.each y hy⟩

/-- a polynomial's parts, all of one's own: v, and terms of length k -/
def RetPd (s : Nat) (v : Int) (k l : Nat) (w : World) (e : Ending) (w' : World) : Prop :=
  ∃ A n c xss, e = .returned (.agg #[.int .i64 v, .slice A n c]) ∧ OwnL w' w.heap.size w'.heap.size A n c xss ∧ PdK k xss ∧ n ≤ l ∧ Src w' s ∧ Mid s (s + 1) w w'

set_option maxRecDepth 100000 in
set_option maxHeartbeats 1000000 in
theorem with08_any (s k : Nat) (d : Int) (w : World) (h : Src w s) (hk : 1 ≤ k) (hk4 : k ≤ 4) (hd : 0 ≤ d) (hd2 : d ≤ 1000000) :
    Calls Try.prog 54 #[.pointer (some ⟨s, 0, none⟩), .int .i64 k, .int .i64 d] w (RetPd s k k 5 w) := by
  obtain ⟨w0, b, hw0, hbe, hb0, hz0, hF⟩ := start22 w (.int .i64 0) (.slice none 0 0) (.int .i64 k) (.slice none 0 0) 26 26
  have hsb : s < b := by rw [hbe]; exact h.lt
  have HS := Lib.hid (h.ext hb0); clear h
  have Hw := Lib.hid hw0; clear hw0
  have Hbe := Lib.hid hbe; clear hbe
  have Hb0 := Lib.hid hb0; clear hb0
  have HZ := Lib.hid hz0; clear hz0
  have F0 := Lib.hid hF; clear hF
  obtain ⟨i0, hi, hq0, hq1, hq2⟩ := info_parts Try.info_i64
  have HI := Lib.hid hi; clear hi
  have HQ0 := Lib.hid hq0; clear hq0
  have HQ1 := Lib.hid hq1; clear hq1
  have HQ2 := Lib.hid hq2; clear hq2
  go_enter Try.func54, Try.ntmps54
  go_wp2_with fail
  rw [← Hw.out, ← Hbe.out]
  refine (next_any s 6 w0 HS.out (by omega)).mono ?_
  rintro e w1 ⟨x, rfl, hx0, hx1, hs1, hm1, hz1⟩
  have HS1 := Lib.hid hs1; clear hs1 HS
  have HM1 := Lib.hid hm1; clear hm1 hz1
  go_wp2_with fail
  obtain ⟨w2, hw2⟩ : ∃ W, W = w1.alloc (.cells #[.int .i64 1, .int .i64 1, .int .i64 2, .int .i64 3, .int .i64 x] 2) := ⟨_, rfl⟩
  have hb2 : Below w1.heap.size w1 w2 := by rw [hw2]; exact (Below.refl _ _).alloc (Nat.le_refl _) _
  have HB2 := Lib.hid hb2
  have HS2 := Lib.hid (HS1.out.ext hb2)
  have hl2 : ∀ j, j < 5 → ∃ y ∈ [1, 1, 2, 3, x], w2.cell? ⟨w1.heap.size, j, none⟩ = some (.int .i64 y) := by
    rw [hw2]
    intro j hj
    match j, hj with
    | 0, _ => exact ⟨1, by simp, lit_at rfl⟩
    | 1, _ => exact ⟨1, by simp, lit_at rfl⟩
    | 2, _ => exact ⟨2, by simp, lit_at rfl⟩
    | 3, _ => exact ⟨3, by simp, lit_at rfl⟩
    | 4, _ => exact ⟨x, by simp, lit_at rfl⟩
  have hgl2 : w1.heap.size < w2.heap.size := by rw [hw2]; simp
  have hgs2 : w1.heap.size ≠ s := Nat.ne_of_gt HS1.out.lt
  rw [← hw2]
  clear hw2
  refine (pick_any s w1.heap.size 5 [1, 1, 2, 3, x] w2 HS2.out hl2 hgs2 hgl2 (by decide) (by decide)).mono ?_
  rintro e w3 ⟨y, rfl, hy, hs3, hm3, hz3⟩
  have hy5 : 0 ≤ y ∧ y ≤ 5 := by
    simp only [List.mem_cons, List.not_mem_nil, or_false] at hy
    omega
  obtain ⟨m0, rfl⟩ : ∃ m : Nat, y = m := ⟨y.toNat, by omega⟩
  have hm05 : m0 ≤ 5 := by omega
  have HS3 := Lib.hid hs3; clear hs3
  have HM3 := Lib.hid ((HM1.out.trans (Mid.of_below HB2.out)).trans hm3)
  have hb02 : b + 2 ≤ w0.heap.size := by rw [HZ.out]; omega
  have F3 := Lib.hid (F0.out.mid HM3.out (by simp; omega))
  have HL3 : Hid (OwnL w3 (b + 2) w3.heap.size none 0 0 []) := Lib.hid OwnL.nil
  have HZ3 := Lib.hid (Nat.le_trans hb02 HM3.out.size)
  replace HM3 := Lib.hid ((Mid.of_below (B := s) (K := s + 1) Hb0.out).trans HM3.out)
  clear hm3 hz3 hy hy5 hl2 hgl2 hgs2 hb2 HS1 HM1 HB2 HS2 hb02 hx0 hx1
  go_wp2_with fail
  go_loopw [8] (fun i wr => ∃ (m n c : Nat) (A : Option Addr) (acc : List (List Int)), i = .int .i64 m ∧ m + n ≤ 5 ∧ Hid (PdK k acc) ∧ Hid (Src wr s) ∧ Hid (Mid s (s + 1) w wr) ∧ Hid (Cells [(b + 1, 1, .slice A n c), (b + 1, 0, .int .i64 k), (b, 0, .int .i64 0), (b, 1, .slice none 0 0)] wr) ∧ Hid (OwnL wr (b + 2) wr.heap.size A n c acc) ∧ Hid (b + 2 ≤ wr.heap.size)) (fun i _ => (intOf i).toNat)
  case atStart => exact ⟨m0, 0, 0, none, [], rfl, by omega, Lib.hid ⟨by simp⟩, HS3, HM3, Lib.hid (F3.out.sub (by simp)), HL3, HZ3⟩
  case round =>
    clear HS3 HM3 F3 HL3 HZ3
    obtain ⟨m, n, c, A, acc, rfl, hmn, HP, HSr, HMr, HC, HO, HZr⟩ := hrel
    by_cases hlt : 0 < m
    · obtain ⟨V, hV⟩ : ∃ V, V = wr.heap.size := ⟨_, rfl⟩
      have hVle : V ≤ wr.heap.size := Nat.le_of_eq hV
      have HV := Lib.hid hV; clear hV
      have hi := HI.out
      have hq0 := HQ0.out
      have hq1 := HQ1.out
      have hq2 := HQ2.out
      have hk0 : (0 : Int) ≤ (k : Int) := by omega
      go_wp2_with (at_make; refine wpList_make_full _ rfl _ _ 31 rfl V 2 i0 (.int .i64 0) 1 Try.underlying31 hi hq0 hq1 .i64 .i64 _ _ k rfl rfl rfl rfl ?b2 ?b3 hVle ?_)
      case b2 => rw [hq2]; omega
      case b3 => unfold maxLen; omega
      intro w4 hown hgr
      have HT : OwnS w4 V (some ⟨wr.heap.size, 0, none⟩) k k (List.replicate k 0) := ⟨by simp, by simpa [toList_madeCells_one, Value.cells] using hown⟩
      have hB4 : Below wr.heap.size wr w4 := (Below.refl _ _).grown hgr (Nat.le_refl _) (by simp)
      have HS4 := Lib.hid (HSr.out.ext hB4)
      have HM4 := Lib.hid (HMr.out.trans (Mid.of_below hB4))
      have HC4 := Lib.hid (HC.out.below hB4)
      have HO4 := Lib.hid (((HO.out.m (Nat.le_refl _)).below hB4).mono (Nat.le_refl _) (Nat.le_of_eq HV.out.symm))
      have HZ4 := Lib.hid (show V ≤ w4.heap.size by rw [HV.out]; exact hB4.size)
      have HVb := Lib.hid (show b + 2 ≤ V by rw [HV.out]; exact HZr.out)
      obtain ⟨g, hg⟩ : ∃ g, g = wr.heap.size := ⟨_, rfl⟩
      rw [← hg] at HT ⊢
      have HT := Lib.hid HT
      clear hown hgr hVle hi hq0 hq1 hq2 HSr HMr HC HO HZr hB4 hg
      go_wp2_with fail
      go_loopw [10, 11] (fun l i wz => ∃ (j : Nat) (t : Int) (ys : List Int), j + 1 ≤ k ∧ i = .int .i64 j ∧ l = .int .i64 t ∧ 0 ≤ t ∧ t ≤ d ∧ Hid (OwnS wz V (some ⟨g, 0, none⟩) k k ys) ∧ Hid (Src wz s) ∧ Hid (Mid s (s + 1) w wz) ∧ Hid (Cells [(b + 1, 1, .slice A n c), (b + 1, 0, .int .i64 k), (b, 0, .int .i64 0), (b, 1, .slice none 0 0)] wz) ∧ Hid (OwnM wz (b + 2) V A n c acc) ∧ Hid (V ≤ wz.heap.size)) (fun _ i _ => k - (intOf i).toNat)
      case atStart => exact ⟨0, d, _, by omega, rfl, rfl, hd, Int.le_refl _, HT, HS4, HM4, HC4, HO4, HZ4⟩
      case round =>
        clear HT HS4 HM4 HC4 HO4 HZ4
        obtain ⟨j, t, ys, hj, rfl, rfl, ht0, htd, HT, HSz, HMz, HCz, HOz, HZz⟩ := hrel
        by_cases hjt : j + 1 < k
        · go_wp2_with fail
          refine (next_any s (t + 1) wr HSz.out (by omega)).mono ?_
          rintro e w5 ⟨x, rfl, hx0, hx1, hs5, hm5, hz5⟩
          have hsV : s + 1 ≤ V := by have := HVb.out; omega
          have HT5 := HT.out.mid hm5 hsV
          obtain ⟨g', y, hg', hVg, hgl, _, hc5, hf5, hset⟩ := HT5.at_ (k := j) (by omega)
          obtain ⟨rfl⟩ : g = g' := by simpa using hg'
          obtain ⟨HT6, hG6⟩ := hset x
          obtain ⟨w6, hw6⟩ : ∃ W, W = w5.setCell ⟨g, j, none⟩ (.int .i64 x) := ⟨_, rfl⟩
          rw [← hw6] at HT6
          have hS6 : Src w6 s := by rw [hw6]; exact hs5.below ((mid_setCell (p := ⟨g, j, none⟩) (B := V) (K := g + 1) _ ⟨hVg, Nat.lt_succ_self _⟩).below (by have := HZz.out; omega) |>.mono hsV)
          have hc6 : w6.cell? ⟨g, j, none⟩ = some (.int .i64 x) := by rw [hw6]; rw [World.cell?_setCell_same (u := .int .i64 y)]; exact hc5
          have hz5V : V ≤ w5.heap.size := by rw [hz5]; exact HZz.out
          have hbl : Below V w5 w6 := by rw [hw6]; exact (mid_setCell (p := ⟨g, j, none⟩) (B := V) (K := g + 1) _ ⟨hVg, Nat.lt_succ_self _⟩).below hz5V
          have hzw0 : w.heap.size ≤ V := by have := HVb.out; have := Hbe.out; omega
          have HS7 := Lib.hid hS6
          have HM7 := Lib.hid ((HMz.out.trans hm5).on (hbl.mono hzw0))
          have HC7 := Lib.hid ((HCz.out.mid hm5 (by simp; omega)).belowB hbl (by have := HVb.out; simp; omega))
          have hm6 : Mid g (g + 1) w5 w6 := by rw [hw6]; exact mid_setCell (p := ⟨g, j, none⟩) _ ⟨Nat.le_refl _, Nat.lt_succ_self _⟩
          have HO7 := Lib.hid ((HOz.out.mid hm5 (by omega)).same fun q q1 q2 => hm6.block q (by omega) (.inl (by omega)))
          have HT7 := Lib.hid HT6
          have HZ7 := Lib.hid (show V ≤ w6.heap.size by rw [hw6]; simpa [World.setCell] using hz5V)
          clear hS6 HT6 hG6 hset hbl HSz HMz HCz HOz HT HZz hm5 hs5 hm6
          go_wp2_with fail
          rw [← hw6]
          go_wp2_with fail
          go_roundw
          case rel => exact ⟨j + 1, t - x, _, by omega, by go_num, by go_num, by omega, by omega, HT7, HS7, HM7, HC7, HO7, HZ7⟩
          case measure => simp [intOf]; omega
        · have hcl : ∃ y, wr.cell? ⟨g, k - 1, none⟩ = some (.int .i64 y) ∧ wr.frozen? ⟨g, k - 1, none⟩ = false := by
            obtain ⟨g', y, hg', hVg, hgl, _, hc5, hf5, hset⟩ := HT.out.at_ (k := k - 1) (by omega)
            obtain ⟨rfl⟩ : g = g' := by simpa using hg'
            exact ⟨y, hc5, hf5⟩
          obtain ⟨g', y, hg', hVg, hgl, _, hc5, hf5, hset⟩ := HT.out.at_ (k := k - 1) (by omega)
          obtain ⟨rfl⟩ : g = g' := by simpa using hg'
          obtain ⟨HT6, hG6⟩ := hset t
          have hk1 : IntKind.i64.wrap ((k : Int) - 1) = ((k - 1 : Nat) : Int) := by rw [IntKind.wrap_i64]; omega
          obtain ⟨w6, hw6⟩ : ∃ W, W = wr.setCell ⟨g, k - 1, none⟩ (.int .i64 t) := ⟨_, rfl⟩
          rw [← hw6] at HT6
          have hsV : s + 1 ≤ V := by have := HVb.out; omega
          have hm6 : Mid g (g + 1) wr w6 := by rw [hw6]; exact mid_setCell (p := ⟨g, k - 1, none⟩) _ ⟨Nat.le_refl _, Nat.lt_succ_self _⟩
          have hbl : Below V wr w6 := by rw [hw6]; exact (mid_setCell (p := ⟨g, k - 1, none⟩) (B := V) (K := g + 1) _ ⟨hVg, Nat.lt_succ_self _⟩).below HZz.out
          have hzw0 : w.heap.size ≤ V := by have := HVb.out; have := Hbe.out; omega
          have HS7 := Lib.hid (HSz.out.below (hbl.mono hsV))
          have HM7 := Lib.hid (HMz.out.on (hbl.mono hzw0))
          have HC7 := Lib.hid (HCz.out.belowB hbl (by have := HVb.out; simp; omega))
          have hzz := HZz.out
          have HO7 := Lib.hid (HOz.out.same fun q q1 q2 => hm6.block q (by omega) (.inl (by omega)))
          have HT7 := Lib.hid HT6
          have hz7 : V ≤ w6.heap.size := by rw [hw6]; simpa [World.setCell] using hzz
          have HZ7 := Lib.hid hz7
          have hput := put_any A (some ⟨g, 0, none⟩) n c k k (b + 2) V acc _ w6 HO7.out.own HVb.out hz7 HT6.rd (by omega) (by omega) (fun y hy => by rw [HP.out.each y hy]; omega)
          have HPt := Lib.hid hput
          have cc := HC7.out.at_ (b := b + 1) (o := 1) (V := .slice A n c) (by simp)
          have cf := HC7.out.fr (b := b + 1) (o := 1) (V := .slice A n c) (by simp)
          rw [hw6] at cc cf
          have Hw6 := Lib.hid hw6
          clear HT6 hG6 hset hbl hm6 HSz HMz HCz HOz HT HZz hput hcl hzz hz7 hzw0 hw6
          go_wp2_with fail
          rw [← Hw6.out]
          refine HPt.out.mono ?_
          rintro e w7 ⟨A7, c7, rfl, ho7, hb7⟩
          obtain ⟨zs, hzs⟩ : ∃ zs, zs = insX (ys.set (k - 1) t) acc := ⟨_, rfl⟩
          rw [← hzs] at ho7 ⊢
          have HP8 := Lib.hid (show PdK k zs by rw [hzs]; exact HP.out.ins HT7.out.len)
          have hl8 : m - 1 + zs.length ≤ 5 := by rw [hzs]; have h1 := insX_len (x := ys.set (k - 1) t) (xss := acc); have h2 := HO7.out.own.len; exact Nat.le_trans (Nat.add_le_add_left h1 _) (by omega)
          have hC8 := HC7.out.below hb7
          have hS8 := HS7.out.ext hb7
          have hM8 := HM7.out.trans (Mid.of_below (B := s) (K := s + 1) hb7)
          have cc8 := hC8.at_ (b := b + 1) (o := 1) (V := .slice A n c) (by simp)
          have cf8 := hC8.fr (b := b + 1) (o := 1) (V := .slice A n c) (by simp)
          have hzb : b + 2 ≤ w7.heap.size := by have := HVb.out; have := HZ7.out; have := hb7.size; omega
          have hbl9 : Below (b + 1) w7 (w7.setCell ⟨b + 1, 1, none⟩ (.slice A7 zs.length c7)) := (mid_setCell (p := ⟨b + 1, 1, none⟩) (B := b + 1) (K := b + 2) _ ⟨Nat.le_refl _, Nat.lt_succ_self _⟩).below (by omega)
          have hM9 : Mid (b + 1) (b + 2) w7 (w7.setCell ⟨b + 1, 1, none⟩ (.slice A7 zs.length c7)) := mid_setCell (p := ⟨b + 1, 1, none⟩) (B := b + 1) (K := b + 2) _ ⟨Nat.le_refl _, Nat.lt_succ_self _⟩
          obtain ⟨w9, hw9⟩ : ∃ W, W = w7.setCell ⟨b + 1, 1, none⟩ (.slice A7 zs.length c7) := ⟨_, rfl⟩
          have hC9 : Cells [(b + 1, 1, .slice A7 zs.length c7), (b + 1, 0, .int .i64 k), (b, 0, .int .i64 0), (b, 1, .slice none 0 0)] w9 := by
            rw [hw9]; exact hC8.set (by simp) _
          rw [← hw9] at hbl9 hM9
          have hz9 : w9.heap.size = w7.heap.size := by rw [hw9]; simp [World.setCell]
          have hO9 : OwnL w9 (b + 2) w9.heap.size A7 zs.length c7 zs := by rw [hz9]; exact ho7.mid hM9 (Nat.le_refl _)
          have HC9 := Lib.hid hC9
          have HO9 := Lib.hid hO9
          have HS9 := Lib.hid (hS8.below (hbl9.mono (by omega)))
          have HM9 := Lib.hid (hM8.on (hbl9.mono (by have := Hbe.out; omega)))
          have HZ9 := Lib.hid (show b + 2 ≤ w9.heap.size by rw [hz9]; exact hzb)
          have Hw9 := Lib.hid hw9
          clear hw9 hM9 hbl9 hC9 hO9 hz9 hC8 hS8 hM8 hzs ho7 hb7 HO7 HT7 HC7 HM7 HS7 HZ7 hzb cc cf
          go_wp2_with fail
          rw [← Hw9.out]
          go_wp2_with fail
          go_roundw
          case rel => exact ⟨m - 1, zs.length, c7, A7, zs, by go_num, hl8, HP8, HS9, HM9, HC9, HO9, HZ9⟩
          case measure => simp [intOf]; omega
    · have hres := cells_end (HC.out.at_ (b := b) (o := 0) (V := .int .i64 0) (by simp)) (HC.out.at_ (b := b) (o := 1) (V := .slice none 0 0) (by simp)) (.int .i64 k) (.slice A n c)
      have c0 := HC.out.at_ (b := b + 1) (o := 0) (V := .int .i64 k) (by simp)
      have c1 := HC.out.at_ (b := b + 1) (o := 1) (V := .slice A n c) (by simp)
      have q0 := HC.out.at_ (b := b) (o := 0) (V := .int .i64 0) (by simp)
      have q1 := HC.out.at_ (b := b) (o := 1) (V := .slice none 0 0) (by simp)
      have f0 := HC.out.fr (b := b) (o := 0) (V := .int .i64 0) (by simp)
      have f1 := HC.out.fr (b := b) (o := 1) (V := .slice none 0 0) (by simp)
      go_wp2_with fail
      refine bodyPost_ret (v := .agg #[.int .i64 k, .slice A n c]) (by simp [results, Try.results54, go_sem, hres.1, hres.2]) rfl ?_
      have hm2 : Mid b (b + 1) wr ((wr.setCell ⟨b, 0, none⟩ (.int .i64 k)).setCell ⟨b, 1, none⟩ (.slice A n c)) := (mid_setCell (p := ⟨b, 0, none⟩) _ ⟨Nat.le_refl _, Nat.lt_succ_self _⟩).trans (mid_setCell (p := ⟨b, 1, none⟩) _ ⟨Nat.le_refl _, Nat.lt_succ_self _⟩)
      have hzr := HZr.out
      have hbl : Below b wr ((wr.setCell ⟨b, 0, none⟩ (.int .i64 k)).setCell ⟨b, 1, none⟩ (.slice A n c)) := hm2.below (by omega)
      refine ⟨A, n, c, acc, rfl, ?_, HP.out, by omega, HSr.out.below (hbl.mono (by omega)), HMr.out.on (hbl.mono (by rw [Hbe.out]; exact Nat.le_refl _))⟩
      exact (HO.out.mid hm2 (by omega)).mono (by rw [← Hbe.out]; omega) hm2.size

theorem pickLit_any (s : Nat) (xs : List Int) (u : World) (h : Src u s) (h0 : 0 < xs.length) (h1 : xs.length ≤ 1000) :
    Calls Try.prog 30 #[.pointer (some ⟨s, 0, none⟩), .slice (some ⟨u.heap.size, 0, none⟩) xs.length xs.length] (u.alloc (.cells (xs.map (Value.int .i64)).toArray 2))
      fun e w' => ∃ x, e = .returned (.int .i64 x) ∧ x ∈ xs ∧ Src w' s ∧ Mid s (s + 1) u w' := by
  have hb : Below u.heap.size u (u.alloc (.cells (xs.map (Value.int .i64)).toArray 2)) := (Below.refl _ _).alloc (Nat.le_refl _) _
  refine (pick_any s u.heap.size xs.length xs _ (h.ext hb) ?_ (Nat.ne_of_gt h.lt) (by simp) h0 h1).mono ?_
  · intro k hk
    exact ⟨xs[k], List.getElem_mem hk, lit_at (by simp [hk])⟩
  · rintro e w' ⟨x, rfl, hx, hs, hm, hz⟩
    exact ⟨x, rfl, hx, hs, (Mid.of_below hb).trans hm⟩
/-- a drawn polynomial -/
def RetDw (s : Nat) (w : World) (e : Ending) (w' : World) : Prop := ∃ k : Nat, 1 ≤ k ∧ k ≤ 4 ∧ RetPd s k k 5 w e w'
/-- the result's box is written last -/
theorem RetPd.fin {s k l b : Nat} {v : Int} {w wr : World} {A : Option Addr} {n c : Nat} {xss : List (List Int)} {X Y : Value} (hsb : s < b) (hbe : b = w.heap.size) (hz : b + 1 ≤ wr.heap.size)
    (O : OwnL wr (b + 1) wr.heap.size A n c xss) (hP : PdK k xss) (hn : n ≤ l) (hS : Src wr s) (hM : Mid s (s + 1) w wr) :
    RetPd s v k l w (.returned (.agg #[.int .i64 v, .slice A n c])) ((wr.setCell ⟨b, 0, none⟩ X).setCell ⟨b, 1, none⟩ Y) := by
  have hm2 : Mid b (b + 1) wr ((wr.setCell ⟨b, 0, none⟩ X).setCell ⟨b, 1, none⟩ Y) := (mid_setCell (p := ⟨b, 0, none⟩) _ ⟨Nat.le_refl _, Nat.lt_succ_self _⟩).trans (mid_setCell (p := ⟨b, 1, none⟩) _ ⟨Nat.le_refl _, Nat.lt_succ_self _⟩)
  have hbl := hm2.below (by omega)
  refine ⟨A, n, c, xss, rfl, ?_, hP, hn, hS.below (hbl.mono (by omega)), hM.on (hbl.mono (by rw [hbe]; exact Nat.le_refl _))⟩
  exact (O.mid hm2 (Nat.le_refl _)).mono (by rw [← hbe]; omega) hm2.size

set_option maxRecDepth 100000 in
set_option maxHeartbeats 1000000 in
theorem draw08_any (s : Nat) (most : Int) (w : World) (h : Src w s) (h0 : 0 ≤ most) (h1 : most ≤ 1000) :
    Calls Try.prog 36 #[.pointer (some ⟨s, 0, none⟩), .int .i64 most] w (RetDw s w) := by
  obtain ⟨w0, b, hw0, hbe, hb0, hz0, hF⟩ := start1 w (.int .i64 0) (.slice none 0 0) 26
  have hsb : s < b := by rw [hbe]; exact h.lt
  have HS := Lib.hid (h.ext hb0); clear h
  have HM := Lib.hid (Mid.of_below (B := s) (K := s + 1) hb0)
  have F0 := Lib.hid hF; clear hF
  have HZ := Lib.hid (Nat.le_of_eq hz0.symm); clear hz0
  have Hw := Lib.hid hw0; clear hw0
  have Hbe := Lib.hid hbe; clear hbe hb0
  go_enter Try.func36, Try.ntmps36
  go_wp2_with fail
  rw [← Hw.out, ← Hbe.out]
  refine (next_any s 4 w0 HS.out (by omega)).mono ?_
  rintro e w1 ⟨x, rfl, hx0, hx1, hs1, hm1, hz1⟩
  replace HS := Lib.hid hs1
  replace F0 := Lib.hid (F0.out.mid hm1 (by simp; omega))
  replace HM := Lib.hid (HM.out.trans hm1)
  replace HZ := Lib.hid (Nat.le_trans HZ.out hm1.size)
  clear hs1 hm1 hz1
  go_wp2_with fail
  refine (next_any s 6 w1 HS.out (by omega)).mono ?_
  rintro e w2 ⟨y, rfl, hy0, hy1, hs1, hm1, hz1⟩
  replace HS := Lib.hid hs1
  replace F0 := Lib.hid (F0.out.mid hm1 (by simp; omega))
  replace HM := Lib.hid (HM.out.trans hm1)
  replace HZ := Lib.hid (Nat.le_trans HZ.out hm1.size)
  clear hs1 hm1 hz1
  go_wp2_with fail
  refine (next_any s (most + 1) w2 HS.out (by omega)).mono ?_
  rintro e w3 ⟨z, rfl, hz0, hz1, hs1, hm1, hz2⟩
  replace HS := Lib.hid hs1
  replace F0 := Lib.hid (F0.out.mid hm1 (by simp; omega))
  replace HM := Lib.hid (HM.out.trans hm1)
  replace HZ := Lib.hid (Nat.le_trans HZ.out hm1.size)
  clear hs1 hm1 hz2
  go_wp2_with fail
  refine (pickLit_any s [y, z] w3 HS.out (by simp) (by simp)).mono ?_
  rintro e w4 ⟨d, rfl, hd, hs1, hm1⟩
  replace HS := Lib.hid hs1
  replace F0 := Lib.hid (F0.out.mid hm1 (by simp; omega))
  replace HM := Lib.hid (HM.out.trans hm1)
  replace HZ := Lib.hid (Nat.le_trans HZ.out hm1.size)
  have hd2 : 0 ≤ d ∧ d ≤ 1000 := by
    simp only [List.mem_cons, List.not_mem_nil, or_false] at hd
    omega
  obtain ⟨k, hk⟩ : ∃ k : Nat, 1 + x = k := ⟨(1 + x).toNat, by omega⟩
  have hwk : IntKind.i64.wrap (1 + x) = k := by rw [IntKind.wrap_i64]; omega
  clear hs1 hm1 hd
  go_wp2_with fail
  refine (with08_any s k d w4 HS.out (by omega) (by omega) hd2.1 (by omega)).mono ?_
  rintro e w5 ⟨A, n, c, acc, rfl, ho, hp, hn, hs1, hm1⟩
  replace HS := Lib.hid hs1
  replace F0 := Lib.hid (F0.out.mid hm1 (by simp; omega))
  replace HM := Lib.hid (HM.out.trans hm1)
  have HO := Lib.hid (ho.mono HZ.out (Nat.le_refl _))
  replace HZ := Lib.hid (Nat.le_trans HZ.out hm1.size)
  clear ho hs1 hm1
  have q0 := F0.out.at_ (b := b) (o := 0) (V := .int .i64 0) (by simp)
  have q1 := F0.out.at_ (b := b) (o := 1) (V := .slice none 0 0) (by simp)
  have f0 := F0.out.fr (b := b) (o := 0) (V := .int .i64 0) (by simp)
  have f1 := F0.out.fr (b := b) (o := 1) (V := .slice none 0 0) (by simp)
  have hres := cells_end q0 q1 (.int .i64 k) (.slice A n c)
  go_wp2_with fail
  refine bodyPost_ret (v := .agg #[.int .i64 k, .slice A n c]) (by simp [results, Try.results36, go_sem, hres.1, hres.2]) rfl ?_
  exact ⟨k, by omega, by omega, RetPd.fin hsb Hbe.out HZ.out HO.out hp hn HS.out HM.out⟩

theorem grown_set (w : World) (b o : Nat) (v : Value) : w.grownBy (w.setCell ⟨b, o, none⟩ v) (some b) := by
  obtain ⟨h1, h2, h3, h4, h5⟩ := setCell_off (w := w) (b := b) (i := o) v
  exact ⟨h1, h2, h3, Nat.le_of_eq h4.symm, fun i hi hne => h5 i (fun e => hne (by rw [e]))⟩
/-- a write to a block of another kind -/
theorem OwnL.offKind {w w' : World} {B K E g n c : Nat} {A : Option Addr} {xss : List (List Int)} (h : OwnL w B K A n c xss) (hg : w.grownBy w' (some g)) (hk : ∃ cs, w.heap[g]? = some (.cells cs E (0, 0))) (h1 : E ≠ 2) (h2 : E ≠ 31) : OwnL w' B K A n c xss := by
  obtain ⟨vs, k1, k2, k3⟩ := h.rows
  refine ⟨h.len, vs, k1.grown hg fun ad had e => kinds_ne h2.symm (k1.kind ad.block (by subst had; rfl)) (by injection e with e; rw [e]; exact hk) rfl, fun j v xs hv hx => ?_, k3⟩
  exact (k2 j v xs hv hx).grown hg fun g' hgb e => kinds_ne h1.symm ((k2 j v xs hv hx).kind g' hgb) (by injection e with e; rw [e]; exact hk) rfl
def KindOf (w : World) (g E : Nat) : Prop := ∃ cs, w.heap[g]? = some (.cells cs E (0, 0))
theorem KindOf.mid {w w' : World} {g E B K : Nat} (h : KindOf w g E) (m : Mid B K w w') (hg : g < B ∨ K ≤ g) : KindOf w' g E := by
  obtain ⟨cs, h⟩ := h
  exact ⟨cs, (m.block g (Array.getElem?_eq_some_iff.1 h).1 hg).trans h⟩
theorem KindOf.below {w w' : World} {g E : Nat} (h : KindOf w g E) (hb : Below w.heap.size w w') : KindOf w' g E := by
  obtain ⟨cs, h⟩ := h
  exact ⟨cs, (hb.block g (Array.getElem?_eq_some_iff.1 h).1).trans h⟩
theorem kind_new {u : World} {cs : Array Value} {E q : Nat} (hq : q = u.heap.size) : KindOf (u.alloc (.cells cs E)) q E := ⟨cs, by subst hq; exact heap_alloc_new _ _⟩

/-- a drawn polynomial, seldom spoilt -/
def RetSp (s : Nat) (w : World) (e : Ending) (w' : World) : Prop := ∃ (v : Int) (k : Nat), 0 ≤ v ∧ v ≤ 5 ∧ 1 ≤ k ∧ k ≤ 4 ∧ RetPd s v k 6 w e w'

set_option maxRecDepth 100000 in
set_option maxHeartbeats 2000000 in
theorem spoil08_any (s : Nat) (most : Int) (w : World) (h : Src w s) (h0 : 0 ≤ most) (h1 : most ≤ 1000) :
    Calls Try.prog 19 #[.pointer (some ⟨s, 0, none⟩), .int .i64 most] w (RetSp s w) := by
  obtain ⟨i0, hi, hq0, hq1, hq2⟩ := info_parts Try.info_i64
  have HI := Lib.hid hi; clear hi
  have HQ0 := Lib.hid hq0; clear hq0
  have HQ1 := Lib.hid hq1; clear hq1
  have HQ2 := Lib.hid hq2; clear hq2
  obtain ⟨w0, b, hw0, hbe, hb0, hz0, hF⟩ := start1 w (.int .i64 0) (.slice none 0 0) 26
  have hsb : s < b := by rw [hbe]; exact h.lt
  have HS := Lib.hid (h.ext hb0); clear h
  have HM := Lib.hid (Mid.of_below (B := s) (K := s + 1) hb0)
  have F0 := Lib.hid hF; clear hF
  have HZ := Lib.hid (Nat.le_of_eq hz0.symm); clear hz0
  have Hw := Lib.hid hw0; clear hw0
  have Hbe := Lib.hid hbe; clear hbe hb0
  go_enter Try.func19, Try.ntmps19
  go_wp2_with fail
  rw [← Hw.out, ← Hbe.out]
  refine (draw08_any s most w0 HS.out h0 h1).mono ?_
  rintro e w1 ⟨k, hk1, hk4, A, n, c, acc, rfl, ho, hp, hn, hs1, hm1⟩
  replace HS := Lib.hid hs1
  replace F0 := Lib.hid (F0.out.mid hm1 (by simp; omega))
  replace HM := Lib.hid (HM.out.trans hm1)
  have HO := Lib.hid (ho.mono HZ.out (Nat.le_refl _))
  replace HZ := Lib.hid (Nat.le_trans HZ.out hm1.size)
  have HP := Lib.hid hp
  clear ho hs1 hm1 hp
  go_wp2_with fail
  obtain ⟨w2, hw2⟩ : ∃ W, W = w1.alloc (.cells #[.int .i64 k, .slice A n c] 26) := ⟨_, rfl⟩
  obtain ⟨q, hq⟩ : ∃ q, q = w1.heap.size := ⟨_, rfl⟩
  rw [← hw2, ← hq]
  have hb2 : Below w1.heap.size w1 w2 := by rw [hw2]; exact (Below.refl _ _).alloc (Nat.le_refl _) _
  have G0 := Lib.hid (show Cells [(q, 0, .int .i64 k), (q, 1, .slice A n c)] w2 by rw [hw2]; exact Cells.nil.alloc2 _ _ _ hq)
  have HK := Lib.hid (show KindOf w2 q 26 by rw [hw2]; exact kind_new hq)
  replace HO := Lib.hid (((HO.out.m (Nat.le_refl _)).below hb2).mono (Nat.le_refl _) (Nat.le_of_eq hq.symm))
  have hqb : b + 1 ≤ q := by rw [hq]; exact HZ.out
  replace HS := Lib.hid (HS.out.ext hb2)
  replace F0 := Lib.hid (F0.out.below hb2)
  replace HM := Lib.hid (HM.out.trans (Mid.of_below hb2))
  replace HZ := Lib.hid (show q + 1 ≤ w2.heap.size by rw [hw2, hq]; simp)
  clear hw2 hb2 hq
  refine (next_any s 30 w2 HS.out (by omega)).mono ?_
  rintro e w3 ⟨x, rfl, hx0, hx1, hs1, hm1, hz1⟩
  replace HS := Lib.hid hs1
  replace F0 := Lib.hid (F0.out.mid hm1 (by simp; omega))
  replace G0 := Lib.hid (G0.out.mid hm1 (by simp; omega))
  replace HO := Lib.hid (HO.out.mid hm1 (by omega))
  replace HK := Lib.hid (HK.out.mid hm1 (by omega))
  replace HM := Lib.hid (HM.out.trans hm1)
  replace HZ := Lib.hid (Nat.le_trans HZ.out hm1.size)
  clear hs1 hm1 hz1
  have c0 := G0.out.at_ (b := q) (o := 0) (V := .int .i64 k) (by simp)
  have c1 := G0.out.at_ (b := q) (o := 1) (V := .slice A n c) (by simp)
  by_cases hx : x = 0
  · subst hx
    clear hx0 hx1
    go_wp2_with fail
    refine (pickLit_any s [0, 5, (k : Int) + 1] w3 HS.out (by simp) (by simp)).mono ?_
    rintro e w4 ⟨v, rfl, hv, hs1, hm1⟩
    have hv2 : 0 ≤ v ∧ v ≤ 5 := by
      simp only [List.mem_cons, List.not_mem_nil, or_false] at hv
      omega
    replace HS := Lib.hid hs1
    replace F0 := Lib.hid (F0.out.mid hm1 (by simp; omega))
    replace G0 := Lib.hid (G0.out.mid hm1 (by simp; omega))
    replace HO := Lib.hid (HO.out.mid hm1 (by omega))
    replace HM := Lib.hid (HM.out.trans hm1)
    replace HZ := Lib.hid (Nat.le_trans HZ.out hm1.size)
    clear hs1 hm1 hv c0 c1
    have c0 := G0.out.at_ (b := q) (o := 0) (V := .int .i64 k) (by simp)
    have c1 := G0.out.at_ (b := q) (o := 1) (V := .slice A n c) (by simp)
    have g0 := G0.out.fr (b := q) (o := 0) (V := .int .i64 k) (by simp)
    have hqb2 : q ≠ b := by omega
    have q0 := F0.out.at_ (b := b) (o := 0) (V := .int .i64 0) (by simp)
    have q1 := F0.out.at_ (b := b) (o := 1) (V := .slice none 0 0) (by simp)
    have f0 := F0.out.fr (b := b) (o := 0) (V := .int .i64 0) (by simp)
    have f1 := F0.out.fr (b := b) (o := 1) (V := .slice none 0 0) (by simp)
    obtain ⟨w5, hw5⟩ : ∃ W, W = w4.setCell ⟨q, 0, none⟩ (.int .i64 v) := ⟨_, rfl⟩
    have hm5 : Mid q (q + 1) w4 w5 := by rw [hw5]; exact mid_setCell (p := ⟨q, 0, none⟩) _ ⟨Nat.le_refl _, Nat.lt_succ_self _⟩
    have hqz := HZ.out
    have hb5 : Below q w4 w5 := hm5.below (by omega)
    replace HO := Lib.hid (HO.out.same fun g h1 h2 => hm5.block g (by omega) (.inl h2))
    replace F0 := Lib.hid (F0.out.belowB hb5 (by simp; omega))
    replace HS := Lib.hid (HS.out.below (hb5.mono (by omega)))
    replace HM := Lib.hid (HM.out.on (hb5.mono (by rw [← Hbe.out]; omega)))
    replace HZ := Lib.hid (Nat.le_trans hqz hb5.size)
    have HO5 := Lib.hid (HO.out.own.mono (Nat.le_refl _) (Nat.le_trans (Nat.le_succ q) HZ.out))
    replace HZ := Lib.hid (Nat.le_trans (show b + 1 ≤ q + 1 by omega) HZ.out)
    have hres := cells_end (F0.out.at_ (b := b) (o := 0) (V := .int .i64 0) (by simp)) (F0.out.at_ (b := b) (o := 1) (V := .slice none 0 0) (by simp)) (.int .i64 v) (.slice A n c)
    have Hw5 := Lib.hid hw5
    clear hw5 hm5 hb5 hqz
    go_wp2_with fail
    rw [← Hw5.out]
    refine bodyPost_ret (v := .agg #[.int .i64 v, .slice A n c]) (by simp [results, Try.results19, go_sem, hres.1, hres.2]) rfl ?_
    exact ⟨v, k, by omega, by omega, hk1, hk4, RetPd.fin hsb Hbe.out HZ.out HO5.out HP.out (by omega) HS.out HM.out⟩
  · have hx2 : (x == 0) = false := by simpa using hx
    by_cases hx3 : x = 1
    · subst hx3
      have hi := HI.out
      have hz0 := HQ0.out
      have hz1 := HQ1.out
      have hz2 := HQ2.out
      have hmk : ∀ W : World, (Instr.makeSlice 31 (.int .i64 (k : Int)) (.int .i64 (k : Int))).run Try.prog W = .ok (.slice (some ⟨W.heap.size, 0, none⟩) k k) (W.alloc (.cells (madeCells #[.int .i64 0] k) 2)) := fun W => by
        have h1 := run_make (P := Try.prog) (w := W) 31 2 i0 (.int .i64 0) Try.underlying31 hi hz0 .i64 .i64 (k : Int) (k : Int) (by omega) (Int.le_refl _) (by rw [hz2]; omega) (by omega)
        rw [h1, hz1, show ((k : Int)).toNat = k from by omega, Nat.mul_one]
        rfl
      have hql : q < w3.heap.size := G0.out.lt (q, 0, .int .i64 k) (by simp)
      clear hi hz0 hz1 hz2
      go_wp2_with fail
      have hcl : (madeCells #[.int .i64 0] k).toList = List.replicate k (.int .i64 0) := by simpa [Value.cells] using toList_madeCells_one (.int .i64 0) k
      obtain ⟨wm, hwm⟩ : ∃ W, W = (w3.alloc (.cells (madeCells #[.int .i64 0] k) 2)).drew := ⟨_, rfl⟩
      have hbm : Below w3.heap.size w3 wm := by rw [hwm]; exact below_drewN ((Below.refl _ _).alloc (Nat.le_refl _) _) 1
      have hzm : wm.heap.size = w3.heap.size + 1 := by rw [hwm]; simp [World.drew]
      have ST := Lib.hid (show StL w3 (b + 1) wm q A n c acc from ⟨(HO.out.below hbm).own, hbm.mono (by omega), hqb, by rw [hzm]; omega⟩)
      have NW : Hid (OwnS wm q (some ⟨w3.heap.size, 0, none⟩) k k (List.replicate k 0)) := Lib.hid (by
        rw [hwm]
        have hsz : (madeCells #[.int .i64 0] k).size = k := by rw [← Array.length_toList, hcl]; simp
        exact ⟨by simp, ⟨by simp, .inr ⟨w3.heap.size, k, madeCells #[.int .i64 0] k, rfl, by omega, heap_alloc_new w3 _, Nat.le_refl _, by unfold maxLen; omega, by rw [hsz]; simp, by rw [hcl]; simp⟩⟩⟩)
      have GM := Lib.hid (G0.out.below hbm)
      have KM := Lib.hid (HK.out.below hbm)
      have OM := Lib.hid HO.out.out
      rw [hwm] at hzm ST NW
      have HZm := Lib.hid hzm
      clear hzm hbm
      go_region_law
        (refine step_pushL (w := (w3.alloc (.cells (madeCells #[.int .i64 0] k) 2)).drew) (by rfl) (.tmp 24) (.tmp 28) (by rfl) (by rfl) HZm.out (by rfl) ST.out NW.out (by omega) ?_
         intro A2 c2 w4 hst hg4 _
         have hm4 : Mid (b + 1) q wm w4 := by rw [hwm]; exact (Mid.refl (b + 1) q _).grown hg4 fun g hg => ⟨HO.out.own.row g hg, OM.out g hg⟩
         have G4 := Lib.hid (GM.out.mid hm4 (by simp))
         have K4 := Lib.hid (KM.out.mid hm4 (.inr (Nat.le_refl _)))
         have c4 := G4.out.at_ (b := q) (o := 1) (V := .slice A n c) (by simp)
         have f4 := G4.out.fr (b := q) (o := 1) (V := .slice A n c) (by simp)
         have HST := Lib.hid hst
         clear hst hg4 hm4)
      all_goals
        have c40 := G4.out.at_ (b := q) (o := 0) (V := .int .i64 k) (by simp)
        have hqw : b + 1 ≤ w4.heap.size := by have := HST.out.lo; have := HST.out.hi; omega
        obtain ⟨w5, hw5⟩ : ∃ W, W = w4.setCell ⟨q, 1, none⟩ (.slice A2 (n + 1) c2) := ⟨_, rfl⟩
        have hm5 : Mid q (q + 1) w4 w5 := by rw [hw5]; exact mid_setCell (p := ⟨q, 1, none⟩) _ ⟨Nat.le_refl _, Nat.lt_succ_self _⟩
        have hb5 : Below (b + 1) w3 w5 := HST.out.bel.trans ((hm5.below (by have := G4.out.lt (q, 0, .int .i64 k) (by simp); omega)).mono hqb)
        have G5 := Lib.hid (show Cells [(q, 1, .slice A2 (n + 1) c2), (q, 0, .int .i64 k)] w5 by rw [hw5]; exact (G4.out.sub (M := [(q, 1, .slice A n c), (q, 0, .int .i64 k)]) (by simp)).set (by simp) _)
        have HO5 := Lib.hid (show OwnL w5 (b + 1) w5.heap.size A2 (n + 1) c2 (acc ++ [List.replicate k 0]) by
          rw [hw5]
          have := HST.out.own.offKind (grown_set w4 q 1 (.slice A2 (n + 1) c2)) K4.out (by decide) (by decide)
          simpa [World.setCell] using this)
        replace F0 := Lib.hid (F0.out.belowB hb5 (by simp))
        replace HS := Lib.hid (HS.out.below (hb5.mono (by omega)))
        replace HM := Lib.hid (HM.out.on (hb5.mono (by rw [← Hbe.out]; omega)))
        replace HZ := Lib.hid (Nat.le_trans (show b + 1 ≤ w3.heap.size by omega) hb5.size)
        have HP5 : Hid (PdK k (acc ++ [List.replicate k 0])) := Lib.hid ⟨fun x hx => by
          rcases List.mem_append.1 hx with h | h
          · exact HP.out.each x h
          · rw [List.mem_singleton.1 h]; simp⟩
        have Hw5 := Lib.hid hw5
        clear hw5 hm5 hb5 c0 c1 c4 f4 hmk hql hcl
        have q0 := F0.out.at_ (b := b) (o := 0) (V := .int .i64 0) (by simp)
        have q1 := F0.out.at_ (b := b) (o := 1) (V := .slice none 0 0) (by simp)
        have f0 := F0.out.fr (b := b) (o := 0) (V := .int .i64 0) (by simp)
        have f1 := F0.out.fr (b := b) (o := 1) (V := .slice none 0 0) (by simp)
        have c50 := G5.out.at_ (b := q) (o := 0) (V := .int .i64 k) (by simp)
        have c51 := G5.out.at_ (b := q) (o := 1) (V := .slice A2 (n + 1) c2) (by simp)
        have hres := cells_end q0 q1 (.int .i64 k) (.slice A2 (n + 1) c2)
        rw [← Hw5.out]
        go_wp2_with fail
        refine bodyPost_ret (v := .agg #[.int .i64 k, .slice A2 (n + 1) c2]) (by simp [results, Try.results19, go_sem, hres.1, hres.2]) rfl ?_
        exact ⟨k, k, by omega, by omega, hk1, hk4, RetPd.fin hsb Hbe.out HZ.out HO5.out HP5.out (by omega) HS.out HM.out⟩
    · have hx4 : (x == 1) = false := by simpa using hx3
      have HO5 := Lib.hid (HO.out.own.mono (Nat.le_refl _) (show q ≤ w3.heap.size by have := HZ.out; omega))
      replace HZ := Lib.hid (Nat.le_trans (show b + 1 ≤ q + 1 by omega) HZ.out)
      by_cases hx5 : x = 2
      · subst hx5
        by_cases hn0 : 0 < n
        · obtain ⟨ad, A', n', c', xs, rfl, hxs, hcc, hos, hrow, hset⟩ := HO5.out.at2 hn0
          have hcc0 : w3.cell? ad = some (.slice A' n' c') := by simpa [Addr.add] using hcc
          clear hcc hx0 hx1
          go_wp2_with fail
          refine (pickLit_any s [-1, 41] w3 HS.out (by simp) (by simp)).mono ?_
          rintro e w4 ⟨v, rfl, hv, hs1, hm1⟩
          replace HS := Lib.hid hs1
          replace F0 := Lib.hid (F0.out.mid hm1 (by simp; omega))
          replace G0 := Lib.hid (G0.out.mid hm1 (by simp; omega))
          replace HO := Lib.hid (HO.out.mid hm1 (by omega))
          replace HK := Lib.hid (HK.out.mid hm1 (by omega))
          replace HM := Lib.hid (HM.out.trans hm1)
          have hqz : q + 1 ≤ w4.heap.size := by have := G0.out.lt (q, 0, .int .i64 k) (by simp); exact this
          have had : b + 1 ≤ ad.block ∧ ad.block < w3.heap.size := ⟨HO5.out.row ad.block rfl, HO5.out.lt ad.block rfl⟩
          have hcc4 : w4.cell? ad = some (.slice A' n' c') := by
            have hb := hm1.block ad.block had.2 (by omega)
            simp only [World.cell?, hb] at hcc0 ⊢
            exact hcc0
          obtain ⟨ad2, A2, n2, c2, xs2, e2, hxs2, hcc2, hos2, hrow2, hset2⟩ := HO.out.own.at2 hn0
          injection e2 with e2
          subst e2
          rw [show ad.add 0 = ad from by simp [Addr.add], hcc4] at hcc2
          injection hcc2 with hcc2
          injection hcc2 with e3 e4 e5
          subst e3; subst e4; subst e5
          have hl2 : xs2.length = k := HP.out.each xs2 (List.mem_of_getElem? hxs2.out)
          obtain ⟨g, y, rfl, hVg, hgl, _, hc5, hf5, hset5⟩ := hos2.at_ (k := 0) (by have := hos2.len; omega)
          obtain ⟨hT, hG⟩ := hset5 v
          have hO5 := hset2 _ _ hT hG
          obtain ⟨w5, hw5⟩ : ∃ W, W = w4.setCell ⟨g, 0, none⟩ (.int .i64 v) := ⟨_, rfl⟩
          rw [← hw5] at hO5
          have hgq := (hrow2 g rfl).2
          have hm5 : Mid g (g + 1) w4 w5 := by rw [hw5]; exact mid_setCell (p := ⟨g, 0, none⟩) _ ⟨Nat.le_refl _, Nat.lt_succ_self _⟩
          have hb5 : Below g w4 w5 := hm5.below (by omega)
          clear HO5
          have HO5 := Lib.hid (hO5.mono (Nat.le_refl _) (show q ≤ w5.heap.size by have := hm5.size; omega))
          have HP5 : Hid (PdK k (acc.set 0 (xs2.set 0 v))) := Lib.hid ⟨fun x hx => by
            rcases List.mem_or_eq_of_mem_set hx with h | h
            · exact HP.out.each x h
            · rw [h, List.length_set]; exact hl2⟩
          replace F0 := Lib.hid (F0.out.belowB hb5 (by simp; omega))
          replace G0 := Lib.hid (G0.out.mid hm5 (by simp; omega))
          replace HS := Lib.hid (HS.out.below (hb5.mono (by omega)))
          replace HM := Lib.hid (HM.out.on (hb5.mono (by rw [← Hbe.out]; omega)))
          replace HZ := Lib.hid (show b + 1 ≤ w5.heap.size by have := hm5.size; omega)
          have hgb : g ≠ b := by omega
          have hgq2 : g ≠ q := by omega
          have q0 := F0.out.at_ (b := b) (o := 0) (V := .int .i64 0) (by simp)
          have q1 := F0.out.at_ (b := b) (o := 1) (V := .slice none 0 0) (by simp)
          have f0 := F0.out.fr (b := b) (o := 0) (V := .int .i64 0) (by simp)
          have f1 := F0.out.fr (b := b) (o := 1) (V := .slice none 0 0) (by simp)
          have c50 := G0.out.at_ (b := q) (o := 0) (V := .int .i64 k) (by simp)
          have c51 := G0.out.at_ (b := q) (o := 1) (V := .slice (some ad) n c) (by simp)
          have hres := cells_end q0 q1 (.int .i64 k) (.slice (some ad) n c)
          have hk0 : 0 < n' := by have := hos2.len; omega
          have hz5 : Hid (w5 = w4.setCell ⟨g, 0, none⟩ (.int .i64 v)) := Lib.hid hw5
          rw [hw5] at q0 q1 f0 f1 c50 c51
          clear hw5 hm5 hb5 hO5 hT hG hset5 hset2 hrow2 hos2 hset hrow hos hv hs1 hm1 c0 c1 hcc4 hcc0
          go_wp2_with fail
          rw [← hz5.out]
          refine bodyPost_ret (v := .agg #[.int .i64 k, .slice (some ad) n c]) (by simp [results, Try.results19, go_sem, hres.1, hres.2]) rfl ?_
          exact ⟨k, k, by omega, by omega, hk1, hk4, RetPd.fin hsb Hbe.out HZ.out HO5.out HP5.out (by omega) HS.out HM.out⟩
        · have hn1 : n = 0 := by omega
          subst hn1
          have q0 := F0.out.at_ (b := b) (o := 0) (V := .int .i64 0) (by simp)
          have q1 := F0.out.at_ (b := b) (o := 1) (V := .slice none 0 0) (by simp)
          have f0 := F0.out.fr (b := b) (o := 0) (V := .int .i64 0) (by simp)
          have f1 := F0.out.fr (b := b) (o := 1) (V := .slice none 0 0) (by simp)
          have c50 := G0.out.at_ (b := q) (o := 0) (V := .int .i64 k) (by simp)
          have c51 := G0.out.at_ (b := q) (o := 1) (V := .slice A 0 c) (by simp)
          have hres := cells_end q0 q1 (.int .i64 k) (.slice A 0 c)
          skip
          go_wp2_with fail
          refine bodyPost_ret (v := .agg #[.int .i64 k, .slice A 0 c]) (by simp [results, Try.results19, go_sem, hres.1, hres.2]) rfl ?_
          exact ⟨k, k, by omega, by omega, hk1, hk4, RetPd.fin hsb Hbe.out HZ.out HO5.out HP.out (by omega) HS.out HM.out⟩
      · have hx6 : (x == 2) = false := by simpa using hx5
        have q0 := F0.out.at_ (b := b) (o := 0) (V := .int .i64 0) (by simp)
        have q1 := F0.out.at_ (b := b) (o := 1) (V := .slice none 0 0) (by simp)
        have f0 := F0.out.fr (b := b) (o := 0) (V := .int .i64 0) (by simp)
        have f1 := F0.out.fr (b := b) (o := 1) (V := .slice none 0 0) (by simp)
        have c50 := G0.out.at_ (b := q) (o := 0) (V := .int .i64 k) (by simp)
        have c51 := G0.out.at_ (b := q) (o := 1) (V := .slice A n c) (by simp)
        have hres := cells_end q0 q1 (.int .i64 k) (.slice A n c)
        skip
        go_wp2_with fail
        refine bodyPost_ret (v := .agg #[.int .i64 k, .slice A n c]) (by simp [results, Try.results19, go_sem, hres.1, hres.2]) rfl ?_
        exact ⟨k, k, by omega, by omega, hk1, hk4, RetPd.fin hsb Hbe.out HZ.out HO5.out HP.out (by omega) HS.out HM.out⟩

/-- a new source -/
def RetFm (w : World) (e : Ending) (w' : World) : Prop := e = .returned (.pointer (some ⟨w.heap.size, 0, none⟩)) ∧ Src w' w.heap.size ∧ Below w.heap.size w w'
theorem RetFm.mk {w w' : World} {s : Nat} (hs : s = w.heap.size) (h : Src w' s) (hb : Below s w w') : RetFm w (.returned (.pointer (some ⟨s, 0, none⟩))) w' := by subst hs; exact ⟨rfl, h, hb⟩

set_option maxRecDepth 100000 in
theorem from_any (A : Option Addr) (n c : Nat) (w : World) (h : RdB w w.heap.size A n c) (hn : n ≤ 4096) : Calls Try.prog 18 #[.slice A n c] w (RetFm w) := by
  obtain ⟨s, hs⟩ : ∃ s, s = w.heap.size := ⟨_, rfl⟩
  have e0 : (7451 : Int) + (n : Int) = ((7451 + n : Nat) : Int) := by omega
  obtain ⟨w0, hw0⟩ : ∃ w0, w0 = w.alloc (.cells #[.slice A n c, .int .i64 0, .int .u64 (7451 + (n : Int))] 57) := ⟨_, rfl⟩
  have hb0 : Below w.heap.size w w0 := by rw [hw0]; exact (Below.refl _ _).alloc (Nat.le_refl _) _
  have C0 : Cells [(s, 0, .slice A n c), (s, 1, .int .i64 0), (s, 2, .int .u64 ((7451 + n : Nat) : Int))] w0 := by
    rw [hw0, e0]
    refine ⟨fun x hx => ?_, fun x hx => ?_, fun x hx => ?_⟩ <;> simp only [List.mem_cons, List.not_mem_nil, or_false] at hx <;> rcases hx with rfl | rfl | rfl
    · exact new_at hs rfl
    · exact new_at hs rfl
    · exact new_at hs rfl
    · exact new_free hs
    · exact new_free hs
    · exact new_free hs
    all_goals simp [hs]
  have R0 : RdB w0 s A n c := by rw [hs]; exact h.below hb0
  have HB0 := Lib.hid (show Below s w w0 by rw [hs]; exact hb0)
  have HC0 := Lib.hid C0
  have Hs := Lib.hid hs
  have Hw0 := Lib.hid hw0
  clear C0 hb0 e0
  go_enter Try.func18, Try.ntmps18
  go_wp2_with fail
  rw [← Hw0.out, ← Hs.out]
  clear hs hw0
  go_loopw [4] (fun i wr => ∃ k h : Nat, k ≤ n ∧ i = .int .i64 k ∧ h < 18446744073709551616 ∧ Hid (Cells [(s, 0, .slice A n c), (s, 1, .int .i64 0), (s, 2, .int .u64 h)] wr) ∧ Hid (Below s w wr)) (fun i _ => n - (intOf i).toNat)
  case atStart => exact ⟨0, 7451 + n, Nat.zero_le _, rfl, by omega, HC0, HB0⟩
  case round =>
    clear HC0 HB0
    obtain ⟨k, h1, hk, rfl, hh1, HC, HB⟩ := hrel
    by_cases hlt : k < n
    · obtain ⟨ad, z, rfl, hbl, hz, hz0, hz1⟩ := (h.below (by rw [← Hs.out]; exact HB.out)).cell k hlt
      have hk4 : (k : Int) < 4096 := by omega
      have c2 := HC.out.at_ (b := s) (o := 2) (V := .int .u64 h1) (by simp)
      have f2 := HC.out.fr (b := s) (o := 2) (V := .int .u64 h1) (by simp)
      have hwz : IntKind.u64.wrap z = z := by rw [IntKind.wrap_u64]; omega
      obtain ⟨h2, e2, hh2⟩ := u64_nat (IntKind.u64.wrap (IntKind.u64.wrap (h1 * 1099511628211) + z) + 11)
      go_wp2_with fail
      go_region
      have HC2 := Lib.hid (show Cells [(s, 0, .slice (some ad) n c), (s, 1, .int .i64 0), (s, 2, .int .u64 h2)] (wr.setCell ⟨s, 2, none⟩ (.int .u64 h2)).drew from
        (((HC.out.sub (M := [(s, 2, .int .u64 h1), (s, 0, .slice (some ad) n c), (s, 1, .int .i64 0)]) (by simp)).set (by simp) (.int .u64 h2)).drewN 1).sub (by simp))
      have HB2 := Lib.hid (show Below s w (wr.setCell ⟨s, 2, none⟩ (.int .u64 h2)).drew from below_drewN (HB.out.setCell (p := ⟨s, 2, none⟩) (Nat.le_refl _) _) 1)
      go_wp2_with fail
      go_roundw
      case rel => exact ⟨k + 1, h2, by omega, by go_num, hh2, HC2, HB2⟩
      case measure => simp [intOf]; omega
    · obtain rfl : k = n := by omega
      have hk4 : ¬ (k : Int) < (k : Int) := by omega
      go_wp2_with fail
      go_ret
      refine RetFm.mk (s := s) Hs.out ?_ HB.out
      exact ⟨A, k, c, 0, h1, hn, Nat.zero_le _, hh1, (h.below (by rw [← Hs.out]; exact HB.out)).mono (Nat.le_of_eq Hs.out.symm), HC.out⟩

/-- a law's argument, drawn: numbers and lists of one's own -/
def RetDP (w : World) (e : Ending) (w' : World) : Prop :=
  ∃ (v : Int) (A : Option Addr) (n c : Nat) (xss : List (List Int)), e = .returned (.agg #[.int .i64 v, .slice A n c]) ∧ OwnL w' w.heap.size w'.heap.size A n c xss ∧ n ≤ 2000 ∧ totalL xss ≤ 8000 ∧ Below w.heap.size w w'
theorem PdK.tot {k : Nat} {xss : List (List Int)} (h : PdK k xss) (hk : k ≤ 4) : totalL xss ≤ xss.length * 4 := totalL_le xss 4 fun r hr => by rw [h.each r hr]; exact hk
theorem RetSp.dp {w w0 w' : World} {s : Nat} {e : Ending} (h : RetSp s w e w') (hs : s = w0.heap.size) (hb : Below w0.heap.size w0 w) : RetDP w0 e w' := by
  obtain ⟨v, k, _, _, _, hk, A, n, c, xss, rfl, ho, hp, hn, _, hm⟩ := h
  refine ⟨v, A, n, c, xss, rfl, ho.mono hb.size (Nat.le_refl _), by omega, ?_, hb.trans (hm.below (by rw [hs]; exact hb.size) |>.mono (Nat.le_of_eq hs.symm))⟩
  have := hp.tot hk
  rw [ho.len] at this
  omega

set_option maxRecDepth 100000 in
theorem drawKamekoUp_any (A : Option Addr) (n c : Nat) (w : World) (h : RdB w w.heap.size A n c) (hn : n ≤ 4096) : Calls Try.prog 9 #[.slice A n c] w (RetDP w) := by
  obtain ⟨w0, b, hw0, hbe, hb0, hz0, hF⟩ := start1 w (.int .i64 0) (.slice none 0 0) 26
  have Hw := Lib.hid hw0; clear hw0
  have Hbe := Lib.hid hbe; clear hbe
  have F0 := Lib.hid hF; clear hF
  have HZ := Lib.hid hz0; clear hz0
  go_enter Try.func9, Try.ntmps9
  go_wp2_with fail
  rw [← Hw.out, ← Hbe.out]
  refine (from_any A n c w0 ((h.below hb0).mono hb0.size) hn).mono ?_
  rintro e w1 ⟨rfl, hs1, hb1⟩
  go_wp2_with fail
  refine (spoil08_any _ 20 w1 hs1 (by decide) (by decide)).mono ?_
  rintro e w2 h2
  obtain ⟨v, A2, n2, c2, xss, rfl, hr, hn2, ht2, hb2⟩ := h2.dp rfl hb1
  have F2 := Lib.hid (F0.out.below hb2)
  have q0 := F2.out.at_ (b := b) (o := 0) (V := .int .i64 0) (by simp)
  have q1 := F2.out.at_ (b := b) (o := 1) (V := .slice none 0 0) (by simp)
  have f0 := F2.out.fr (b := b) (o := 0) (V := .int .i64 0) (by simp)
  have f1 := F2.out.fr (b := b) (o := 1) (V := .slice none 0 0) (by simp)
  have hres := cells_end q0 q1 (.int .i64 v) (.slice A2 n2 c2)
  go_wp2_with fail
  refine bodyPost_ret (v := .agg #[.int .i64 v, .slice A2 n2 c2]) (by simp [results, Try.results9, go_sem, hres.1, hres.2]) rfl ?_
  have hm2 : Mid b (b + 1) w2 ((w2.setCell ⟨b, 0, none⟩ (.int .i64 v)).setCell ⟨b, 1, none⟩ (.slice A2 n2 c2)) := (mid_setCell (p := ⟨b, 0, none⟩) _ ⟨Nat.le_refl _, Nat.lt_succ_self _⟩).trans (mid_setCell (p := ⟨b, 1, none⟩) _ ⟨Nat.le_refl _, Nat.lt_succ_self _⟩)
  have hz2 : b + 1 ≤ w2.heap.size := by have := hb2.size; rw [HZ.out] at this; exact this
  have hB2 := (hb0.trans (hb2.mono hb0.size)).trans ((hm2.below (by omega)).mono (by rw [← Hbe.out]; exact Nat.le_refl _))
  exact ⟨v, A2, n2, c2, xss, rfl, (hr.mid hm2 (by rw [HZ.out]; exact Nat.le_refl _)).mono hb0.size hm2.size, hn2, ht2, hB2⟩

theorem RetDP.fin {w wr : World} {b n c : Nat} {v : Int} {A : Option Addr} {xss : List (List Int)} {X Y : Value} (hbe : b = w.heap.size) (hz : b + 1 ≤ wr.heap.size) (O : OwnL wr (b + 1) wr.heap.size A n c xss) (hn : n ≤ 2000) (ht : totalL xss ≤ 8000) (hb : Below w.heap.size w wr) :
    RetDP w (.returned (.agg #[.int .i64 v, .slice A n c])) ((wr.setCell ⟨b, 0, none⟩ X).setCell ⟨b, 1, none⟩ Y) := by
  have hm2 : Mid b (b + 1) wr ((wr.setCell ⟨b, 0, none⟩ X).setCell ⟨b, 1, none⟩ Y) := (mid_setCell (p := ⟨b, 0, none⟩) _ ⟨Nat.le_refl _, Nat.lt_succ_self _⟩).trans (mid_setCell (p := ⟨b, 1, none⟩) _ ⟨Nat.le_refl _, Nat.lt_succ_self _⟩)
  exact ⟨v, A, n, c, xss, rfl, (O.mid hm2 (Nat.le_refl _)).mono (by rw [← hbe]; omega) hm2.size, hn, ht, hb.trans ((hm2.below (by omega)).mono (Nat.le_of_eq hbe.symm))⟩

set_option maxRecDepth 100000 in
set_option maxHeartbeats 1000000 in
theorem drawKamekoDown_any (A : Option Addr) (n c : Nat) (w : World) (h : RdB w w.heap.size A n c) (hn : n ≤ 4096) : Calls Try.prog 5 #[.slice A n c] w (RetDP w) := by
  obtain ⟨w0, b, hw0, hbe, hb0, hz0, hF⟩ := start1 w (.int .i64 0) (.slice none 0 0) 26
  have Hw := Lib.hid hw0; clear hw0
  have Hbe := Lib.hid hbe; clear hbe
  have F0 := Lib.hid hF; clear hF
  have HZ := Lib.hid hz0; clear hz0
  go_enter Try.func5, Try.ntmps5
  go_wp2_with fail
  rw [← Hw.out, ← Hbe.out]
  refine (from_any A n c w0 ((h.below hb0).mono hb0.size) hn).mono ?_
  rintro e w1 ⟨rfl, hs1, hb1⟩
  have hl1 := hs1.lt
  obtain ⟨s, hs⟩ : ∃ s, s = w0.heap.size := ⟨_, rfl⟩
  rw [← hs] at hs1 hl1 ⊢
  have hsb : b < s := by rw [hs, HZ.out]; omega
  replace F0 := Lib.hid (F0.out.below hb1)
  have HB := Lib.hid (hb0.trans (hb1.mono hb0.size))
  have HS := Lib.hid hs1
  clear hb0 hb1 hs1 hs
  go_wp2_with fail
  refine (spoil08_any s 16 w1 HS.out (by decide) (by decide)).mono ?_
  rintro e w2 ⟨v, k, hv0, hv5, hk1, hk4, A2, n2, c2, xss, rfl, ho, hp, hn2, hs2, hm2⟩
  have HT := Lib.hid (show totalL xss ≤ 24 by have := hp.tot hk4; rw [ho.len] at this; omega)
  replace HS := Lib.hid hs2
  replace F0 := Lib.hid (F0.out.mid hm2 (by simp; omega))
  have hbw : w.heap.size < s := by rw [← Hbe.out]; exact hsb
  replace HB := Lib.hid (HB.out.trans ((hm2.below (Nat.le_of_lt hl1)).mono (Nat.le_of_lt hbw)))
  have HO := Lib.hid (ho.mono (show s + 1 ≤ w1.heap.size from hl1) (Nat.le_refl _))
  clear ho hs2 hm2 hp
  go_wp2_with fail
  obtain ⟨w3, hw3⟩ : ∃ W, W = w2.alloc (.cells #[.int .i64 v, .slice A2 n2 c2] 26) := ⟨_, rfl⟩
  obtain ⟨q, hq⟩ : ∃ q, q = w2.heap.size := ⟨_, rfl⟩
  rw [← hw3, ← hq]
  have hb3 : Below w2.heap.size w2 w3 := by rw [hw3]; exact (Below.refl _ _).alloc (Nat.le_refl _) _
  have G0 := Lib.hid (show Cells [(q, 0, .int .i64 v), (q, 1, .slice A2 n2 c2)] w3 by rw [hw3]; exact Cells.nil.alloc2 _ _ _ hq)
  have hsq : s < q := by rw [hq]; exact HS.out.lt
  replace HO := Lib.hid (HO.out.below hb3)
  replace HS := Lib.hid (HS.out.ext hb3)
  replace F0 := Lib.hid (F0.out.below hb3)
  replace HB := Lib.hid (HB.out.trans (hb3.mono HB.out.size))
  have hz32 := hb3.size
  clear hw3 hb3 hq
  refine (next_any s 3 w3 HS.out (by omega)).mono ?_
  rintro e w4 ⟨x, rfl, hx0, hx1, hs1, hm1, hz1⟩
  replace HS := Lib.hid hs1
  replace F0 := Lib.hid (F0.out.mid hm1 (by simp; omega))
  replace G0 := Lib.hid (G0.out.mid hm1 (by simp; omega))
  replace HO := Lib.hid ((HO.out.mid hm1 (Nat.le_refl _)).mono (Nat.le_refl _) (show w2.heap.size ≤ w4.heap.size from Nat.le_trans hz32 hm1.size))
  replace HB := Lib.hid (HB.out.trans ((hm1.below (by have := G0.out.lt (q, 0, .int .i64 v) (by simp); omega)).mono (Nat.le_of_lt hbw)))
  clear hs1 hm1 hz1
  have c0 := G0.out.at_ (b := q) (o := 0) (V := .int .i64 v) (by simp)
  have c1 := G0.out.at_ (b := q) (o := 1) (V := .slice A2 n2 c2) (by simp)
  have HZ4 := Lib.hid (show b + 1 ≤ w4.heap.size by have := G0.out.lt (q, 0, .int .i64 v) (by simp); omega)
  by_cases hx : 0 < x
  · have hk := sKamekoUp v A2 n2 c2 xss w4 HO.out.rd (by omega) (by have := HT.out; omega)
    have Hk := Lib.hid hk
    have hkb := kamO_bounds v xss
    obtain ⟨o, ho⟩ : ∃ o, o = kamO v xss := ⟨_, rfl⟩
    rw [← ho] at Hk hkb
    obtain ⟨u, ys, k2⟩ := o
    clear hk ho
    go_wp2_with fail
    refine Hk.out.mono ?_
    rintro e w5 ⟨A5, c5, rfl, ho5, hb5⟩
    have hly : ys.length ≤ 2000 ∧ totalL ys ≤ 8000 := hkb
    replace F0 := Lib.hid (F0.out.below hb5)
    replace G0 := Lib.hid (G0.out.below hb5)
    replace HO := Lib.hid (HO.out.below hb5)
    replace HB := Lib.hid (HB.out.trans (hb5.mono HB.out.size))
    have hz4 := HZ4.out
    have HO5 := Lib.hid (ho5.own.mono hz4 (Nat.le_refl _))
    obtain ⟨w6, hw6⟩ : ∃ W, W = w5.alloc (.cells #[.int .i64 u, .slice A5 ys.length c5] 26) := ⟨_, rfl⟩
    have hb6 : Below w5.heap.size w5 w6 := by rw [hw6]; exact (Below.refl _ _).alloc (Nat.le_refl _) _
    replace F0 := Lib.hid (F0.out.below hb6)
    replace G0 := Lib.hid (G0.out.below hb6)
    have HP0 := Lib.hid (show Cells [(w5.heap.size, 0, .int .i64 u), (w5.heap.size, 1, .slice A5 ys.length c5)] w6 by rw [hw6]; exact Cells.nil.alloc2 _ _ _ rfl)
    have HO6 : Hid (OwnL w6 (b + 1) w6.heap.size A2 n2 c2 xss) := Lib.hid ((HO.out.below hb6).mono (by omega) (show w4.heap.size ≤ w6.heap.size from Nat.le_trans hb5.size hb6.size))
    replace HO5 := Lib.hid ((HO5.out.below hb6).mono (Nat.le_refl _) hb6.size)
    replace HB := Lib.hid (HB.out.trans (hb6.mono HB.out.size))
    replace HZ4 := Lib.hid (Nat.le_trans hz4 (Nat.le_trans hb5.size hb6.size))
    have q0 := F0.out.at_ (b := b) (o := 0) (V := .int .i64 0) (by simp)
    have q1 := F0.out.at_ (b := b) (o := 1) (V := .slice none 0 0) (by simp)
    have f0 := F0.out.fr (b := b) (o := 0) (V := .int .i64 0) (by simp)
    have f1 := F0.out.fr (b := b) (o := 1) (V := .slice none 0 0) (by simp)
    have c60 := G0.out.at_ (b := q) (o := 0) (V := .int .i64 v) (by simp)
    have c61 := G0.out.at_ (b := q) (o := 1) (V := .slice A2 n2 c2) (by simp)
    have c62 := HP0.out.at_ (b := w5.heap.size) (o := 0) (V := .int .i64 u) (by simp)
    have c63 := HP0.out.at_ (b := w5.heap.size) (o := 1) (V := .slice A5 ys.length c5) (by simp)
    have hr1 := cells_end q0 q1 (.int .i64 u) (.slice A5 ys.length c5)
    have hr2 := cells_end q0 q1 (.int .i64 v) (.slice A2 n2 c2)
    have Hw6 := Lib.hid hw6
    rw [hw6] at q0 q1 f0 f1 c60 c61 c62 c63
    have ht := HT.out
    clear hw6 hb6 hb5 ho5 hkb c0 c1 hx0 hx1
    by_cases hk2 : k2 = 0
    · subst hk2
      go_wp2_with fail
      rw [← Hw6.out]
      refine bodyPost_ret (v := .agg #[.int .i64 u, .slice A5 ys.length c5]) (by simp [results, Try.results5, go_sem, hr1.1, hr1.2]) rfl ?_
      exact RetDP.fin Hbe.out HZ4.out HO5.out hly.1 hly.2 HB.out
    · have hk3 : (k2 == 0) = false := by simpa using hk2
      go_wp2_with fail
      rw [← Hw6.out]
      refine bodyPost_ret (v := .agg #[.int .i64 v, .slice A2 n2 c2]) (by simp [results, Try.results5, go_sem, hr2.1, hr2.2]) rfl ?_
      exact RetDP.fin Hbe.out HZ4.out HO6.out (by omega) (by omega) HB.out
  · have HO6 : Hid (OwnL w4 (b + 1) w4.heap.size A2 n2 c2 xss) := Lib.hid (HO.out.mono (by omega) (Nat.le_refl _))
    have q0 := F0.out.at_ (b := b) (o := 0) (V := .int .i64 0) (by simp)
    have q1 := F0.out.at_ (b := b) (o := 1) (V := .slice none 0 0) (by simp)
    have f0 := F0.out.fr (b := b) (o := 0) (V := .int .i64 0) (by simp)
    have f1 := F0.out.fr (b := b) (o := 1) (V := .slice none 0 0) (by simp)
    have hr2 := cells_end q0 q1 (.int .i64 v) (.slice A2 n2 c2)
    have ht := HT.out
    go_wp2_with fail
    refine bodyPost_ret (v := .agg #[.int .i64 v, .slice A2 n2 c2]) (by simp [results, Try.results5, go_sem, hr2.1, hr2.2]) rfl ?_
    exact RetDP.fin Hbe.out HZ4.out HO6.out (by omega) (by omega) HB.out

/-- drawn integers -/
def RetDI (w : World) (e : Ending) (w' : World) : Prop :=
  ∃ (A : Option Addr) (n c : Nat) (xs : List Int), e = .returned (.slice A n c) ∧ OwnS w' w.heap.size A n c xs ∧ n ≤ 5 ∧ (∀ z ∈ xs, -1 ≤ z ∧ z ≤ 40) ∧ Below w.heap.size w w'

set_option maxRecDepth 100000 in
set_option maxHeartbeats 1000000 in
theorem drawWeightsOf_any (A : Option Addr) (n c : Nat) (w : World) (h : RdB w w.heap.size A n c) (hn : n ≤ 4096) : Calls Try.prog 12 #[.slice A n c] w (RetDI w) := by
  go_enter Try.func12, Try.ntmps12
  go_wp2_with fail
  refine (from_any A n c w h hn).mono ?_
  rintro e w1 ⟨rfl, hs1, hb1⟩
  obtain ⟨s, hs⟩ : ∃ s, s = w.heap.size := ⟨_, rfl⟩
  rw [← hs] at hs1 ⊢
  have HB := Lib.hid hb1
  obtain ⟨w2, hw2⟩ : ∃ W, W = w1.alloc (.cells #[] 2) := ⟨_, rfl⟩
  have hb2 : Below w1.heap.size w1 w2 := by rw [hw2]; exact (Below.refl _ _).alloc (Nat.le_refl _) _
  have HS := Lib.hid (hs1.ext hb2)
  have hl1 := hs1.lt
  have HO := Lib.hid (show OwnS w2 (s + 1) (some ⟨w1.heap.size, 0, none⟩) 0 0 [] by rw [hw2]; exact own_empty w1 (s + 1) hl1)
  replace HB := Lib.hid (hb1.trans (hb2.mono hb1.size))
  have Hs := Lib.hid hs
  have Hw2 := Lib.hid hw2
  clear hs hw2 hs1 hb1 hb2
  go_wp2_with fail
  have hz2 : w1.heap.size + 1 = w2.heap.size := by rw [Hw2.out]; simp
  rw [← Hw2.out, hz2]
  refine (pickLit_any s [1, 2, 3, 4, 0, 5] w2 HS.out (by simp) (by simp)).mono ?_
  rintro e w3 ⟨y, rfl, hy, hs1, hm1⟩
  have hy5 : 0 ≤ y ∧ y ≤ 5 := by
    simp only [List.mem_cons, List.not_mem_nil, or_false] at hy
    omega
  obtain ⟨m0, rfl⟩ : ∃ m : Nat, y = m := ⟨y.toNat, by omega⟩
  have hm05 : m0 ≤ 5 := by omega
  have hsw : w.heap.size ≤ s := Nat.le_of_eq Hs.out.symm
  replace HS := Lib.hid hs1
  replace HO := Lib.hid (HO.out.mid hm1 (Nat.le_refl _))
  replace HB := Lib.hid (HB.out.trans ((hm1.below (by omega)).mono hsw))
  clear hs1 hm1 hy hy5 hz2 hl1
  go_wp2_with fail
  go_loopw [4, 5] (fun a i wr => ∃ (m n c : Nat) (A : Option Addr) (xs : List Int), i = .int .i64 m ∧ a = .slice A n c ∧ m + n ≤ 5 ∧ Hid (∀ z ∈ xs, -1 ≤ z ∧ z ≤ 40) ∧ Hid (Src wr s) ∧ Hid (OwnS wr (s + 1) A n c xs) ∧ Hid (Below w.heap.size w wr)) (fun _ i _ => (intOf i).toNat)
  case atStart => exact ⟨m0, 0, _, _, [], rfl, rfl, by omega, Lib.hid (by simp), HS, HO, HB⟩
  case round =>
    clear HS HO HB
    obtain ⟨m, n, c, A, xs, rfl, rfl, hmn, HX, HS, HO, HB⟩ := hrel
    by_cases hlt : 0 < m
    · go_wp2_with fail
      refine (next_any s 8 wr HS.out (by omega)).mono ?_
      rintro e w4 ⟨x1, rfl, x1a, x1b, hs1, hm1, hz1⟩
      have hl1 := HS.out.lt
      replace HS := Lib.hid hs1
      replace HO := Lib.hid (HO.out.mid hm1 (Nat.le_refl _))
      replace HB := Lib.hid (HB.out.trans ((hm1.below (by omega)).mono hsw))
      clear hs1 hm1 hz1 hl1
      go_wp2_with fail
      refine (next_any s 16 w4 HS.out (by omega)).mono ?_
      rintro e w5 ⟨x2, rfl, x2a, x2b, hs1, hm1, hz1⟩
      have hl1 := HS.out.lt
      replace HS := Lib.hid hs1
      replace HO := Lib.hid (HO.out.mid hm1 (Nat.le_refl _))
      replace HB := Lib.hid (HB.out.trans ((hm1.below (by omega)).mono hsw))
      clear hs1 hm1 hz1 hl1
      go_wp2_with fail
      refine (next_any s 41 w5 HS.out (by omega)).mono ?_
      rintro e w6 ⟨x3, rfl, x3a, x3b, hs1, hm1, hz1⟩
      have hl1 := HS.out.lt
      replace HS := Lib.hid hs1
      replace HO := Lib.hid (HO.out.mid hm1 (Nat.le_refl _))
      replace HB := Lib.hid (HB.out.trans ((hm1.below (by omega)).mono hsw))
      clear hs1 hm1 hz1 hl1
      go_wp2_with fail
      refine (pickLit_any s [x1, x2, x3] w6 HS.out (by simp) (by simp)).mono ?_
      rintro e w7 ⟨p, rfl, hp, hs1, hm1⟩
      have hp40 : 0 ≤ p ∧ p ≤ 40 := by
        simp only [List.mem_cons, List.not_mem_nil, or_false] at hp
        omega
      have hl1 := HS.out.lt
      replace HS := Lib.hid hs1
      replace HO := Lib.hid (HO.out.mid hm1 (Nat.le_refl _))
      replace HB := Lib.hid (HB.out.trans ((hm1.below (by omega)).mono hsw))
      clear hs1 hm1 hp hl1
      go_wp2_with fail
      refine (next_any s 40 w7 HS.out (by omega)).mono ?_
      rintro e w8 ⟨x4, rfl, x4a, x4b, hs1, hm1, hz1⟩
      have hl1 := HS.out.lt
      replace HS := Lib.hid hs1
      replace HO := Lib.hid (HO.out.mid hm1 (Nat.le_refl _))
      replace HB := Lib.hid (HB.out.trans ((hm1.below (by omega)).mono hsw))
      clear hs1 hm1 hz1 hl1
      have hl8 : s + 1 ≤ w8.heap.size := HS.out.lt
      have HSt := Lib.hid (show StS w8 (s + 1) w8 A n c xs from ⟨HO.out, Below.refl _ _, hl8⟩)
      go_wp2_with (at_builtin; refine wpList_pushI rfl (.tmp 16) (.tmp 30) rfl rfl rfl HSt.out (by omega) ?_)
      intro A9 c9 w9 hst9 _
      have HS9 := Lib.hid (HS.out.below hst9.bel)
      have HO9 := Lib.hid hst9.own
      have HB9 := Lib.hid (HB.out.trans (hst9.bel.mono (by omega)))
      have HX9 : Hid (∀ z ∈ xs ++ [p - x4 / 39], -1 ≤ z ∧ z ≤ 40) := Lib.hid fun z hz => by
        rcases List.mem_append.1 hz with h | h
        · exact HX.out z h
        · rw [List.mem_singleton.1 h]; omega
      clear hst9
      go_wp2_with fail
      go_roundw
      case rel => exact ⟨m - 1, n + 1, c9, A9, _, by go_num, rfl, by omega, HX9, HS9, HO9, HB9⟩
      case measure => simp [intOf]; omega
    · go_wp2_with fail
      go_ret
      exact ⟨_, n, c, xs, rfl, HO.out.mono (by omega), by omega, HX.out, HB.out⟩
end Go.Proofs.Ytoigdiekkkkapaa
