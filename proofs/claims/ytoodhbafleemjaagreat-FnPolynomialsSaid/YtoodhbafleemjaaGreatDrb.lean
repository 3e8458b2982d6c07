/- Draws: a source hands out numbers; what is drawn is not told, but its bounds. -/
import Derived.Test.YtoodhbafleemjaaGreatLawK
import Derived.Test.YtoodhbafleemjaaGreatFrC
import Derived.Deep.RegionLaw
namespace Go.Proofs.YtoodhbafleemjaaGreat
open Go.RowKit
set_option linter.unusedVariables false

/-- a slice of bytes that reads -/
structure RdB (w : World) (B : Nat) (A : Option Addr) (n c : Nat) : Prop where
  cap : n ≤ c
  cell : ∀ j, j < n → ∃ ad z, A = some ad ∧ ad.block < B ∧ w.cell? (ad.add j) = some (.int .u8 z) ∧ 0 ≤ z ∧ z ≤ 255

theorem RdB.below {w w' : World} {B : Nat} {A : Option Addr} {n c : Nat} (h : RdB w B A n c) (hb : Below B w w') : RdB w' B A n c :=
  ⟨h.cap, fun j hj => by
    obtain ⟨ad, z, e, hlt, hc, hz⟩ := h.cell j hj
    exact ⟨ad, z, e, hlt, (hb.cell (by rw [block_of_add]; exact hlt)).trans hc, hz⟩⟩

theorem RdB.mono {w : World} {B B' : Nat} {A : Option Addr} {n c : Nat} (h : RdB w B A n c) (hB : B ≤ B') : RdB w B' A n c :=
  ⟨h.cap, fun j hj => by
    obtain ⟨ad, z, e, hlt, hc, hz⟩ := h.cell j hj
    exact ⟨ad, z, e, by omega, hc, hz⟩⟩

/-- the source in block s -/
structure Src (w : World) (s : Nat) : Prop where
  ex : ∃ (A : Option Addr) (n c k h : Nat), n ≤ 4096 ∧ k ≤ n ∧ h < 18446744073709551616 ∧ RdB w s A n c ∧ Cells [(s, 0, .slice A n c), (s, 1, .int .i64 k), (s, 2, .int .u64 h)] w

theorem Src.lt {w : World} {s : Nat} (h : Src w s) : s < w.heap.size := by
  obtain ⟨A, n, c, k, h, _, _, _, _, hc⟩ := h.ex
  exact hc.lt (s, 1, .int .i64 k) (by simp)

theorem Src.below {w w' : World} {s : Nat} (h : Src w s) (hb : Below (s + 1) w w') : Src w' s := by
  obtain ⟨A, n, c, k, h, h1, h2, h3, hr, hc⟩ := h.ex
  exact ⟨A, n, c, k, h, h1, h2, h3, hr.below (hb.mono (Nat.le_succ _)), hc.belowB hb (by simp)⟩

theorem Src.ext {w w' : World} {s : Nat} (h : Src w s) (hb : Below w.heap.size w w') : Src w' s := h.below (hb.mono h.lt)

/-- a number is drawn: 0 ≤ x < n, or 0 -/
def RetNx (s : Nat) (n : Int) (w : World) (e : Ending) (w' : World) : Prop :=
  ∃ x, e = .returned (.int .i64 x) ∧ 0 ≤ x ∧ (x < n ∨ x = 0) ∧ Src w' s ∧ Mid s (s + 1) w w' ∧ w'.heap.size = w.heap.size

theorem u64_nat (n : Int) : ∃ m : Nat, IntKind.u64.wrap n = (m : Int) ∧ m < 18446744073709551616 := by
  refine ⟨(IntKind.u64.wrap n).toNat, ?_, ?_⟩ <;> rw [IntKind.wrap_u64] <;> omega

theorem and24 {a : Int} (ha : 0 ≤ a) : ∃ x : Nat, wrap64 (bits .and .u64 a 16777215) = (x : Int) ∧ x ≤ 16777215 := by
  obtain ⟨n, rfl⟩ : ∃ n : Nat, a = n := ⟨a.toNat, by omega⟩
  have key : bits .and .u64 (n : Int) 16777215 = ((n % 18446744073709551616 &&& 16777215 : Nat) : Int) := by
    show IntKind.u64.wrap ((BitVec.ofInt 64 (n : Int) &&& BitVec.ofInt 64 (16777215 : Int)).toNat : Int) = _
    rw [BitVec.toNat_and]
    have h1 : (BitVec.ofInt 64 (n : Int)).toNat = n % 18446744073709551616 := by simp
    have h2 : (BitVec.ofInt 64 (16777215 : Int)).toNat = 16777215 := by decide
    have h3 : n % 18446744073709551616 &&& 16777215 ≤ 16777215 := Nat.and_le_right
    rw [h1, h2, IntKind.wrap_u64]
    omega
  have h3 : n % 18446744073709551616 &&& 16777215 ≤ 16777215 := Nat.and_le_right
  refine ⟨_, ?_, h3⟩
  rw [key]
  unfold wrap64
  omega

theorem mod_draw {x n : Int} (hn : 1 ≤ n) : 0 ≤ x % n ∧ x % n < n := by
  exact ⟨Int.emod_nonneg _ (by omega), Int.emod_lt_of_pos _ (by omega)⟩

set_option maxRecDepth 100000 in
theorem next_any (s : Nat) (n : Int) (w : World) (h : Src w s) (hN : n < 9223372036854775808) : Calls Tryz.prog 70 #[.pointer (some ⟨s, 0, none⟩), .int .i64 n] w (RetNx s n w) := by
  by_cases hn : n < 1
  · go_enter Tryz.func70, Tryz.ntmps70
    go_wp2
    go_ret
    exact ⟨0, rfl, Int.le_refl _, .inr rfl, h, Mid.refl _ _ _, rfl⟩
  · obtain ⟨A, m, c, k, h0, hm, hk, hh, HB, HC⟩ := h.ex
    have c0 := HC.at_ (b := s) (o := 0) (V := .slice A m c) (by simp)
    have c1 := HC.at_ (b := s) (o := 1) (V := .int .i64 k) (by simp)
    have c2 := HC.at_ (b := s) (o := 2) (V := .int .u64 h0) (by simp)
    have f1 := HC.fr (b := s) (o := 1) (V := .int .i64 k) (by simp)
    have f2 := HC.fr (b := s) (o := 2) (V := .int .u64 h0) (by simp)
    obtain ⟨h1, e1, hh1⟩ := u64_nat (IntKind.u64.wrap (h0 * 6364136223846793005) + 1442695040888963407)
    have hq0 : (0 : Int) ≤ (h1 : Int) / 8589934592 := by omega
    obtain ⟨x, ex, hx⟩ := and24 hq0
    obtain ⟨W, hW⟩ : ∃ W, W = w.setCell ⟨s, 2, none⟩ (.int .u64 h1) := ⟨_, rfl⟩
    have HC1 : Cells [(s, 0, .slice A m c), (s, 1, .int .i64 k), (s, 2, .int .u64 h1)] W := by
      rw [hW]
      have := (HC.sub (M := [(s, 2, .int .u64 h0), (s, 0, .slice A m c), (s, 1, .int .i64 k)]) (by simp)).set (by simp) (.int .u64 h1)
      exact this.sub (by simp)
    have hsz : W.heap.size = w.heap.size := by rw [hW]; simp [World.setCell]
    have hM : Mid s (s + 1) w W := by rw [hW]; exact mid_setCell (p := ⟨s, 2, none⟩) _ ⟨Nat.le_refl _, Nat.lt_succ_self _⟩
    have HBW : RdB W s A m c := HB.below (hM.below (Nat.le_of_lt h.lt))
    have EW := Lib.hid hW; clear hW
    go_enter Tryz.func70, Tryz.ntmps70
    go_wp2_with fail
    rw [← EW.out]
    clear c0 c1 c2 f1 f2 HC
    have c0 := HC1.at_ (b := s) (o := 0) (V := .slice A m c) (by simp)
    have c1 := HC1.at_ (b := s) (o := 1) (V := .int .i64 k) (by simp)
    have f1 := HC1.fr (b := s) (o := 1) (V := .int .i64 k) (by simp)
    by_cases hlt : k < m
    · obtain ⟨ad, z, rfl, hbl, hz, hz0, hz1⟩ := HBW.cell k hlt
      have hwx : IntKind.i64.wrap ((x : Int) + z) = (x : Int) + z := by rw [IntKind.wrap_i64]; omega
      go_quiet (fail)
      go_wp2_with fail
      go_quiet (fail)
      go_wp2_with fail
      go_ret
      have hmd := mod_draw (x := (x : Int) + z) (n := n) (by omega)
      refine ⟨_, rfl, hmd.1, .inl hmd.2, ?_, ?_, ?_⟩
      · refine ⟨some ad, m, c, k + 1, h1, hm, hlt, hh1, (HBW.below (below_drewN (Below.refl _ _) _)).below ((mid_setCell (p := ⟨s, 1, none⟩) _ ⟨Nat.le_refl _, Nat.lt_succ_self _⟩).below (B := s) (K := s + 1) (by have := h.lt; have : (W.drewN 0).heap.size = W.heap.size := rfl; show s ≤ W.heap.size; omega)), ?_⟩
        exact (((HC1.drewN _).sub (M := [(s, 1, .int .i64 k), (s, 0, .slice (some ad) m c), (s, 2, .int .u64 h1)]) (by simp)).set (by simp) (.int .i64 ((k : Int) + 1))).sub (by simp)
      · exact (hM.trans (Mid.of_below (below_drewN (Below.refl _ _) _))).trans (mid_setCell (p := ⟨s, 1, none⟩) _ ⟨Nat.le_refl _, Nat.lt_succ_self _⟩)
      · rw [← hsz]; simp [World.setCell]
    · skip
      go_quiet (fail)
      go_wp2_with fail
      go_ret
      have hmd := mod_draw (x := (x : Int)) (n := n) (by omega)
      refine ⟨_, rfl, hmd.1, .inl hmd.2, ?_, hM.trans (Mid.of_below (below_drewN (Below.refl _ _) _)), hsz⟩
      exact ⟨A, m, c, k, h1, hm, hk, hh1, HBW.below (below_drewN (Below.refl _ _) _), HC1.drewN _⟩

/-- one of some numbers is drawn -/
def RetPk (s : Nat) (xs : List Int) (w : World) (e : Ending) (w' : World) : Prop :=
  ∃ x, e = .returned (.int .i64 x) ∧ x ∈ xs ∧ Src w' s ∧ Mid s (s + 1) w w' ∧ w'.heap.size = w.heap.size

set_option maxRecDepth 100000 in
theorem pick_any (s g n : Nat) (xs : List Int) (w : World) (h : Src w s) (hl : ∀ k, k < n → ∃ x ∈ xs, w.cell? ⟨g, k, none⟩ = some (.int .i64 x)) (hg : g ≠ s) (hgl : g < w.heap.size) (hn : 0 < n) (hn2 : n ≤ 1000) :
    Calls Tryz.prog 69 #[.pointer (some ⟨s, 0, none⟩), .slice (some ⟨g, 0, none⟩) n n] w (RetPk s xs w) := by
  go_enter Tryz.func69, Tryz.ntmps69
  go_wp2_with fail
  refine (next_any s n w h (by omega)).mono ?_
  rintro e w1 ⟨x, rfl, hx0, hx1, hs, hm, hz⟩
  obtain ⟨k, rfl⟩ : ∃ k : Nat, x = k := ⟨x.toNat, by omega⟩
  have hk : k < n := by omega
  obtain ⟨y, hy, hc⟩ := hl k hk
  have hc1 : w1.cell? ⟨g, k, none⟩ = some (.int .i64 y) := by
    have hb := hm.block g hgl (by omega)
    simp only [World.cell?, hb] at hc ⊢
    exact hc
  go_wp2_with fail
  go_ret
  exact ⟨y, rfl, hy, hs, hm, hz⟩

theorem lit_at {u : World} {cs : Array Value} {T : TypeId} {k : Nat} {v : Value} (h : cs[k]? = some v) : (u.alloc (.cells cs T)).cell? ⟨u.heap.size, k, none⟩ = some v := new_at rfl h

theorem Cells.mid {L : List (Nat × Nat × Value)} {w w1 : World} {B K : Nat} (h : Cells L w) (m : Mid B K w w1) (hB : ∀ x ∈ L, x.1 < B ∨ K ≤ x.1) : Cells L w1 := by
  refine ⟨fun x hx => ?_, fun x hx => ?_, fun x hx => Nat.lt_of_lt_of_le (h.lt x hx) m.size⟩
  · have hb := m.block x.1 (h.lt x hx) (hB x hx)
    have hc := h.c x hx
    simp only [World.cell?, hb] at hc ⊢
    exact hc
  · have hb := m.block x.1 (h.lt x hx) (hB x hx)
    have hc := h.f x hx
    simp only [World.frozen?, hb] at hc ⊢
    exact hc

theorem Mid.on {B K : Nat} {w0 w w' : World} (h : Mid B K w0 w) (k : Below w0.heap.size w w') : Mid B K w0 w' :=
  ⟨k.os.trans h.os, k.tape.trans h.tape, k.output.trans h.output, Nat.le_trans h.size k.size, fun i hi ho => (k.block i hi).trans (h.block i hi ho)⟩

theorem pickLit_any (s : Nat) (xs : List Int) (u : World) (h : Src u s) (h0 : 0 < xs.length) (h1 : xs.length ≤ 1000) :
    Calls Tryz.prog 69 #[.pointer (some ⟨s, 0, none⟩), .slice (some ⟨u.heap.size, 0, none⟩) xs.length xs.length] (u.alloc (.cells (xs.map (Value.int .i64)).toArray 2))
      fun e w' => ∃ x, e = .returned (.int .i64 x) ∧ x ∈ xs ∧ Src w' s ∧ Mid s (s + 1) u w' := by
  have hb : Below u.heap.size u (u.alloc (.cells (xs.map (Value.int .i64)).toArray 2)) := (Below.refl _ _).alloc (Nat.le_refl _) _
  refine (pick_any s u.heap.size xs.length xs _ (h.ext hb) ?_ (Nat.ne_of_gt h.lt) (by simp) h0 h1).mono ?_
  · intro k hk
    exact ⟨xs[k], List.getElem_mem hk, lit_at (by simp [hk])⟩
  · rintro e w' ⟨x, rfl, hx, hs, hm, hz⟩
    exact ⟨x, rfl, hx, hs, (Mid.of_below hb).trans hm⟩

theorem grown_set (w : World) (b o : Nat) (v : Value) : w.grownBy (w.setCell ⟨b, o, none⟩ v) (some b) := by
  obtain ⟨h1, h2, h3, h4, h5⟩ := setCell_off (w := w) (b := b) (i := o) v
  exact ⟨h1, h2, h3, Nat.le_of_eq h4.symm, fun i hi hne => h5 i (fun e => hne (by rw [e]))⟩

/-- a write to a block of another kind -/
theorem OwnL.offKind {w w' : World} {B K E g n c : Nat} {A : Option Addr} {xss : List (List Int)} (h : OwnL w B K A n c xss) (hg : w.grownBy w' (some g)) (hk : ∃ cs, w.heap[g]? = some (.cells cs E (0, 0))) (h1 : E ≠ 2) (h2 : E ≠ 41) : OwnL w' B K A n c xss := by
  obtain ⟨vs, k1, k2, k3⟩ := h.rows
  refine ⟨h.len, vs, k1.grown hg fun ad had e => kinds_ne h2.symm (k1.kind ad.block (by subst had; rfl)) (by injection e with e; rw [e]; exact hk) rfl, fun j v xs hv hx => ?_, k3⟩
  exact (k2 j v xs hv hx).grown hg fun g' hgb e => kinds_ne h1.symm ((k2 j v xs hv hx).kind g' hgb) (by injection e with e; rw [e]; exact hk) rfl

def KindOf (w : World) (g E : Nat) : Prop := ∃ cs, w.heap[g]? = some (.cells cs E (0, 0))

theorem KindOf.mid {w w' : World} {g E B K : Nat} (h : KindOf w g E) (m : Mid B K w w') (hg : g < B ∨ K ≤ g) : KindOf w' g E := by
  obtain ⟨cs, h⟩ := h
  exact ⟨cs, (m.block g (Array.getElem?_eq_some_iff.1 h).1 hg).trans h⟩

theorem KindOf.below {w w' : World} {g E : Nat} (h : KindOf w g E) (hb : Below w.heap.size w w') : KindOf w' g E := by
  obtain ⟨cs, h⟩ := h
  exact ⟨cs, (hb.block g (Array.getElem?_eq_some_iff.1 h).1).trans h⟩

theorem kind_new {u : World} {cs : Array Value} {E q : Nat} (hq : q = u.heap.size) : KindOf (u.alloc (.cells cs E)) q E := ⟨cs, by subst hq; exact heap_alloc_new _ _⟩

/-- a new source -/
def RetFm (w : World) (e : Ending) (w' : World) : Prop := e = .returned (.pointer (some ⟨w.heap.size, 0, none⟩)) ∧ Src w' w.heap.size ∧ Below w.heap.size w w'

theorem RetFm.mk {w w' : World} {s : Nat} (hs : s = w.heap.size) (h : Src w' s) (hb : Below s w w') : RetFm w (.returned (.pointer (some ⟨s, 0, none⟩))) w' := by subst hs; exact ⟨rfl, h, hb⟩

set_option maxRecDepth 100000 in
theorem from_any (A : Option Addr) (n c : Nat) (w : World) (h : RdB w w.heap.size A n c) (hn : n ≤ 4096) : Calls Tryz.prog 67 #[.slice A n c] w (RetFm w) := by
  obtain ⟨s, hs⟩ : ∃ s, s = w.heap.size := ⟨_, rfl⟩
  have e0 : (7451 : Int) + (n : Int) = ((7451 + n : Nat) : Int) := by omega
  obtain ⟨w0, hw0⟩ : ∃ w0, w0 = w.alloc (.cells #[.slice A n c, .int .i64 0, .int .u64 (7451 + (n : Int))] 122) := ⟨_, rfl⟩
  have hb0 : Below w.heap.size w w0 := by rw [hw0]; exact (Below.refl _ _).alloc (Nat.le_refl _) _
  have C0 : Cells [(s, 0, .slice A n c), (s, 1, .int .i64 0), (s, 2, .int .u64 ((7451 + n : Nat) : Int))] w0 := by
    rw [hw0, e0]
    refine ⟨fun x hx => ?_, fun x hx => ?_, fun x hx => ?_⟩ <;> simp only [List.mem_cons, List.not_mem_nil, or_false] at hx <;> rcases hx with rfl | rfl | rfl
    · exact new_at hs rfl
    · exact new_at hs rfl
    · exact new_at hs rfl
    · exact new_free hs
    · exact new_free hs
    · exact new_free hs
    all_goals simp [hs]
  have R0 : RdB w0 s A n c := by rw [hs]; exact h.below hb0
  have HB0 := Lib.hid (show Below s w w0 by rw [hs]; exact hb0)
  have HC0 := Lib.hid C0
  have Hs := Lib.hid hs
  have Hw0 := Lib.hid hw0
  clear C0 hb0 e0
  go_enter Tryz.func67, Tryz.ntmps67
  go_wp2_with fail
  rw [← Hw0.out, ← Hs.out]
  clear hs hw0
  go_loopw [4] (fun i wr => ∃ k h : Nat, k ≤ n ∧ i = .int .i64 k ∧ h < 18446744073709551616 ∧ Hid (Cells [(s, 0, .slice A n c), (s, 1, .int .i64 0), (s, 2, .int .u64 h)] wr) ∧ Hid (Below s w wr)) (fun i _ => n - (intOf i).toNat)
  case atStart => exact ⟨0, 7451 + n, Nat.zero_le _, rfl, by omega, HC0, HB0⟩
  case round =>
    clear HC0 HB0
    obtain ⟨k, h1, hk, rfl, hh1, HC, HB⟩ := hrel
    by_cases hlt : k < n
    · obtain ⟨ad, z, rfl, hbl, hz, hz0, hz1⟩ := (h.below (by rw [← Hs.out]; exact HB.out)).cell k hlt
      have hk4 : (k : Int) < 4096 := by omega
      have c2 := HC.out.at_ (b := s) (o := 2) (V := .int .u64 h1) (by simp)
      have f2 := HC.out.fr (b := s) (o := 2) (V := .int .u64 h1) (by simp)
      have hwz : IntKind.u64.wrap z = z := by rw [IntKind.wrap_u64]; omega
      obtain ⟨h2, e2, hh2⟩ := u64_nat (IntKind.u64.wrap (IntKind.u64.wrap (h1 * 1099511628211) + z) + 11)
      go_wp2_with fail
      go_region
      have HC2 := Lib.hid (show Cells [(s, 0, .slice (some ad) n c), (s, 1, .int .i64 0), (s, 2, .int .u64 h2)] (wr.setCell ⟨s, 2, none⟩ (.int .u64 h2)).drew from
        (((HC.out.sub (M := [(s, 2, .int .u64 h1), (s, 0, .slice (some ad) n c), (s, 1, .int .i64 0)]) (by simp)).set (by simp) (.int .u64 h2)).drewN 1).sub (by simp))
      have HB2 := Lib.hid (show Below s w (wr.setCell ⟨s, 2, none⟩ (.int .u64 h2)).drew from below_drewN (HB.out.setCell (p := ⟨s, 2, none⟩) (Nat.le_refl _) _) 1)
      go_wp2_with fail
      go_roundw
      case rel => exact ⟨k + 1, h2, by omega, by go_num, hh2, HC2, HB2⟩
      case measure => simp [intOf]; omega
    · obtain rfl : k = n := by omega
      have hk4 : ¬ (k : Int) < (k : Int) := by omega
      go_wp2_with fail
      go_ret
      refine RetFm.mk (s := s) Hs.out ?_ HB.out
      exact ⟨A, k, c, 0, h1, hn, Nat.zero_le _, hh1, (h.below (by rw [← Hs.out]; exact HB.out)).mono (Nat.le_of_eq Hs.out.symm), HC.out⟩
/-- a call of a Go function as a step of a region that draws -/
theorem stepD_fn {ops : Array Oper} {o : Oper} {a : Act} {w : World} {K : Act → World → Prop} {Q : Exit → Act → World → Prop} {E : Prop} {R : Ending → World → Prop} {f : FuncId} {args : Array Value}
    (hg : o.guard = none) (hrun : (execOp a.eval o).run Tryz.prog w = .ok (.enter f args) w) (hc : Calls Tryz.prog f args w R) (hK : ∀ e w', R e w' → ∃ v, e = .returned v ∧ K (a.put o.dst v) w') :
    if Region.wanted o (yielded ops a.tmps) = true then Oper.wp Tryz.prog o a w K Q else E := by
  have hw : Region.wanted o (yielded ops a.tmps) = true := by simp [Region.wanted, hg]
  rw [if_pos hw]
  unfold Oper.wp
  rw [hrun, Oper.upon_enter]
  refine hc.mono fun e w' h => ?_
  obtain ⟨v, rfl, hk⟩ := hK e w' h
  exact hk
theorem entersD_op {o : Oper} {a : Act} {w : World} {f : FuncId} {xs : Array Operand} {ts : Array TypeId} (ho : o.op = .call { callee := .value (.func f), args := xs, argTypes := ts })
    (hent : ∀ args w, (callFunc f args).run Tryz.prog w = .ok (.enter f args) w) : (execOp a.eval o).run Tryz.prog w = .ok (.enter f (xs.map a.eval)) w := by
  simp [execOp, ho, resolve, invoke, hent, go_sem]
theorem stepD2 {ops : Array Oper} {o : Oper} {a : Act} {w : World} {K : Act → World → Prop} {Q : Exit → Act → World → Prop} {E : Prop} {R : Ending → World → Prop} (f : FuncId) (x y : Operand) (ts : Array TypeId) {vx vy : Value}
    (hg : o.guard = none) (ho : o.op = .call { callee := .value (.func f), args := #[x, y], argTypes := ts }) (hent : ∀ args w, (callFunc f args).run Tryz.prog w = .ok (.enter f args) w) (hx : a.eval x = vx) (hy : a.eval y = vy)
    (hc : Calls Tryz.prog f #[vx, vy] w R) (hK : ∀ e w', R e w' → ∃ v, e = .returned v ∧ K (a.put o.dst v) w') :
    if Region.wanted o (yielded ops a.tmps) = true then Oper.wp Tryz.prog o a w K Q else E := by
  refine stepD_fn hg (entersD_op ho hent) ?_ hK
  subst hx; subst hy
  simpa using hc
theorem stepD1 {ops : Array Oper} {o : Oper} {a : Act} {w : World} {K : Act → World → Prop} {Q : Exit → Act → World → Prop} {E : Prop} {R : Ending → World → Prop} (f : FuncId) (x : Operand) (ts : Array TypeId) {vx : Value}
    (hg : o.guard = none) (ho : o.op = .call { callee := .value (.func f), args := #[x], argTypes := ts }) (hent : ∀ args w, (callFunc f args).run Tryz.prog w = .ok (.enter f args) w) (hx : a.eval x = vx)
    (hc : Calls Tryz.prog f #[vx] w R) (hK : ∀ e w', R e w' → ∃ v, e = .returned v ∧ K (a.put o.dst v) w') :
    if Region.wanted o (yielded ops a.tmps) = true then Oper.wp Tryz.prog o a w K Q else E := by
  refine stepD_fn hg (entersD_op ho hent) ?_ hK
  subst hx
  simpa using hc
theorem stepD3 {ops : Array Oper} {o : Oper} {a : Act} {w : World} {K : Act → World → Prop} {Q : Exit → Act → World → Prop} {E : Prop} {R : Ending → World → Prop} (f : FuncId) (x y z : Operand) (ts : Array TypeId) {vx vy vz : Value}
    (hg : o.guard = none) (ho : o.op = .call { callee := .value (.func f), args := #[x, y, z], argTypes := ts }) (hent : ∀ args w, (callFunc f args).run Tryz.prog w = .ok (.enter f args) w) (hx : a.eval x = vx) (hy : a.eval y = vy) (hz : a.eval z = vz)
    (hc : Calls Tryz.prog f #[vx, vy, vz] w R) (hK : ∀ e w', R e w' → ∃ v, e = .returned v ∧ K (a.put o.dst v) w') :
    if Region.wanted o (yielded ops a.tmps) = true then Oper.wp Tryz.prog o a w K Q else E := by
  refine stepD_fn hg (entersD_op ho hent) ?_ hK
  subst hx; subst hy; subst hz
  simpa using hc
end Go.Proofs.YtoodhbafleemjaaGreat

/- The dice of the laws. -/
namespace Go.Proofs.YtoodhbafleemjaaGreat
open Go.RowKit
set_option linter.unusedVariables false

set_option maxRecDepth 100000 in
theorem below_any (s : Nat) (n : Int) (w : World) (h : Src w s) (hN : n < 9223372036854775808) : Calls Tryz.prog 13 #[.pointer (some ⟨s, 0, none⟩), .int .i64 n] w (RetNx s n w) := by
  by_cases hn : n < 1
  · go_enter Tryz.func13, Tryz.ntmps13
    go_wp2
    go_ret
    exact ⟨0, rfl, Int.le_refl _, .inr rfl, h, Mid.refl _ _ _, rfl⟩
  · obtain ⟨A, m, c, k, h0, hm, hk, hh, HB, HC⟩ := h.ex
    have c0 := HC.at_ (b := s) (o := 0) (V := .slice A m c) (by simp)
    have c1 := HC.at_ (b := s) (o := 1) (V := .int .i64 k) (by simp)
    have c2 := HC.at_ (b := s) (o := 2) (V := .int .u64 h0) (by simp)
    have f1 := HC.fr (b := s) (o := 1) (V := .int .i64 k) (by simp)
    have f2 := HC.fr (b := s) (o := 2) (V := .int .u64 h0) (by simp)
    obtain ⟨h1, e1, hh1⟩ := u64_nat (IntKind.u64.wrap (h0 * 6364136223846793005) + 1442695040888963407)
    have hq0 : (0 : Int) ≤ (h1 : Int) / 8589934592 := by omega
    obtain ⟨x, ex, hx⟩ := and24 hq0
    obtain ⟨W, hW⟩ : ∃ W, W = w.setCell ⟨s, 2, none⟩ (.int .u64 h1) := ⟨_, rfl⟩
    have HC1 : Cells [(s, 0, .slice A m c), (s, 1, .int .i64 k), (s, 2, .int .u64 h1)] W := by
      rw [hW]
      have := (HC.sub (M := [(s, 2, .int .u64 h0), (s, 0, .slice A m c), (s, 1, .int .i64 k)]) (by simp)).set (by simp) (.int .u64 h1)
      exact this.sub (by simp)
    have hsz : W.heap.size = w.heap.size := by rw [hW]; simp [World.setCell]
    have hM : Mid s (s + 1) w W := by rw [hW]; exact mid_setCell (p := ⟨s, 2, none⟩) _ ⟨Nat.le_refl _, Nat.lt_succ_self _⟩
    have HBW : RdB W s A m c := HB.below (hM.below (Nat.le_of_lt h.lt))
    have EW := Lib.hid hW; clear hW
    go_enter Tryz.func13, Tryz.ntmps13
    go_wp2_with fail
    rw [← EW.out]
    clear c0 c1 c2 f1 f2 HC
    have c0 := HC1.at_ (b := s) (o := 0) (V := .slice A m c) (by simp)
    have c1 := HC1.at_ (b := s) (o := 1) (V := .int .i64 k) (by simp)
    have f1 := HC1.fr (b := s) (o := 1) (V := .int .i64 k) (by simp)
    by_cases hlt : k < m
    · obtain ⟨ad, z, rfl, hbl, hz, hz0, hz1⟩ := HBW.cell k hlt
      have hwx : IntKind.i64.wrap ((x : Int) + z) = (x : Int) + z := by rw [IntKind.wrap_i64]; omega
      go_quiet (fail)
      go_wp2_with fail
      go_quiet (fail)
      go_wp2_with fail
      go_ret
      have hmd := mod_draw (x := (x : Int) + z) (n := n) (by omega)
      refine ⟨_, rfl, hmd.1, .inl hmd.2, ?_, ?_, ?_⟩
      · refine ⟨some ad, m, c, k + 1, h1, hm, hlt, hh1, (HBW.below (below_drewN (Below.refl _ _) _)).below ((mid_setCell (p := ⟨s, 1, none⟩) _ ⟨Nat.le_refl _, Nat.lt_succ_self _⟩).below (B := s) (K := s + 1) (by have := h.lt; have : (W.drewN 0).heap.size = W.heap.size := rfl; show s ≤ W.heap.size; omega)), ?_⟩
        exact (((HC1.drewN _).sub (M := [(s, 1, .int .i64 k), (s, 0, .slice (some ad) m c), (s, 2, .int .u64 h1)]) (by simp)).set (by simp) (.int .i64 ((k : Int) + 1))).sub (by simp)
      · exact (hM.trans (Mid.of_below (below_drewN (Below.refl _ _) _))).trans (mid_setCell (p := ⟨s, 1, none⟩) _ ⟨Nat.le_refl _, Nat.lt_succ_self _⟩)
      · rw [← hsz]; simp [World.setCell]
    · skip
      go_quiet (fail)
      go_wp2_with fail
      go_ret
      have hmd := mod_draw (x := (x : Int)) (n := n) (by omega)
      refine ⟨_, rfl, hmd.1, .inl hmd.2, ?_, hM.trans (Mid.of_below (below_drewN (Below.refl _ _) _)), hsz⟩
      exact ⟨A, m, c, k, h1, hm, hk, hh1, HBW.below (below_drewN (Below.refl _ _) _), HC1.drewN _⟩
set_option maxRecDepth 100000 in
theorem roll_any (A : Option Addr) (n c m : Nat) (w : World) (h : RdB w w.heap.size A n c) (hn : n ≤ 4096) (hm : m ≤ 100000) : Calls Tryz.prog 12 #[.slice A n c, .int .u64 (m : Int)] w (RetFm w) := by
  obtain ⟨s, hs⟩ : ∃ s, s = w.heap.size := ⟨_, rfl⟩
  have e0 : (m : Int) * 6257 + (n : Int) = ((m * 6257 + n : Nat) : Int) := by omega
  obtain ⟨w0, hw0⟩ : ∃ w0, w0 = w.alloc (.cells #[.slice A n c, .int .i64 0, .int .u64 ((m : Int) * 6257 + (n : Int))] 79) := ⟨_, rfl⟩
  have hb0 : Below w.heap.size w w0 := by rw [hw0]; exact (Below.refl _ _).alloc (Nat.le_refl _) _
  have C0 : Cells [(s, 0, .slice A n c), (s, 1, .int .i64 0), (s, 2, .int .u64 ((m * 6257 + n : Nat) : Int))] w0 := by
    rw [hw0, e0]
    refine ⟨fun x hx => ?_, fun x hx => ?_, fun x hx => ?_⟩ <;> simp only [List.mem_cons, List.not_mem_nil, or_false] at hx <;> rcases hx with rfl | rfl | rfl
    · exact new_at hs rfl
    · exact new_at hs rfl
    · exact new_at hs rfl
    · exact new_free hs
    · exact new_free hs
    · exact new_free hs
    all_goals simp [hs]
  have R0 : RdB w0 s A n c := by rw [hs]; exact h.below hb0
  have HB0 := Lib.hid (show Below s w w0 by rw [hs]; exact hb0)
  have HC0 := Lib.hid C0
  have Hs := Lib.hid hs
  have Hw0 := Lib.hid hw0
  clear C0 hb0 e0
  go_enter Tryz.func12, Tryz.ntmps12
  go_wp2_with fail
  rw [← Hw0.out, ← Hs.out]
  clear hs hw0
  go_loopw [6] (fun i wr => ∃ k h : Nat, k ≤ n ∧ i = .int .i64 k ∧ h < 18446744073709551616 ∧ Hid (Cells [(s, 0, .slice A n c), (s, 1, .int .i64 0), (s, 2, .int .u64 h)] wr) ∧ Hid (Below s w wr)) (fun i _ => n - (intOf i).toNat)
  case atStart => exact ⟨0, m * 6257 + n, Nat.zero_le _, rfl, by omega, HC0, HB0⟩
  case round =>
    clear HC0 HB0
    obtain ⟨k, h1, hk, rfl, hh1, HC, HB⟩ := hrel
    by_cases hlt : k < n
    · obtain ⟨ad, z, rfl, hbl, hz, hz0, hz1⟩ := (h.below (by rw [← Hs.out]; exact HB.out)).cell k hlt
      have c2 := HC.out.at_ (b := s) (o := 2) (V := .int .u64 h1) (by simp)
      have f2 := HC.out.fr (b := s) (o := 2) (V := .int .u64 h1) (by simp)
      have hwz : IntKind.u64.wrap z = z := by rw [IntKind.wrap_u64]; omega
      obtain ⟨h2, e2, hh2⟩ := u64_nat (IntKind.u64.wrap (IntKind.u64.wrap (h1 * 1099511628211) + z) + 5)
      go_wp2_with fail
      go_region
      have HC2 := Lib.hid (show Cells [(s, 0, .slice (some ad) n c), (s, 1, .int .i64 0), (s, 2, .int .u64 h2)] (wr.setCell ⟨s, 2, none⟩ (.int .u64 h2)).drew from
        (((HC.out.sub (M := [(s, 2, .int .u64 h1), (s, 0, .slice (some ad) n c), (s, 1, .int .i64 0)]) (by simp)).set (by simp) (.int .u64 h2)).drewN 1).sub (by simp))
      have HB2 := Lib.hid (show Below s w (wr.setCell ⟨s, 2, none⟩ (.int .u64 h2)).drew from below_drewN (HB.out.setCell (p := ⟨s, 2, none⟩) (Nat.le_refl _) _) 1)
      go_wp2_with fail
      go_roundw
      case rel => exact ⟨k + 1, h2, by omega, by go_num, hh2, HC2, HB2⟩
      case measure => simp [intOf]; omega
    · obtain rfl : k = n := by omega
      go_wp2_with fail
      go_ret
      refine RetFm.mk (s := s) Hs.out ?_ HB.out
      exact ⟨A, k, c, 0, h1, hn, Nat.zero_le _, hh1, (h.below (by rw [← Hs.out]; exact HB.out)).mono (Nat.le_of_eq Hs.out.symm), HC.out⟩
end Go.Proofs.YtoodhbafleemjaaGreat
