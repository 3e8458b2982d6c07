/- NewDesk on both sides. -/
import Derived.Test.YtejlkobieohgfaaDeskT
import Derived.Test.YtejlkobieohgfaaWords
namespace Go.Proofs.Ytejlkobieohgfaa
open Go.RowKit
set_option linter.unusedVariables false

/-- cells of a block, written one behind the other -/
def setRow (w : World) (r : Nat) : Nat → List Value → World
  | _, [] => w
  | o, V :: l => setRow (w.setCell ⟨r, o, none⟩ V) r (o + 1) l
theorem setRow_size (r : Nat) : ∀ (l : List Value) (o : Nat) (w : World), (setRow w r o l).heap.size = w.heap.size
  | [], o, w => rfl
  | V :: l, o, w => by rw [setRow, setRow_size r l]; simp [World.setCell]
theorem setRow_mid (r : Nat) {B K : Nat} (h : B ≤ r ∧ r < K) : ∀ (l : List Value) (o : Nat) (w : World), Mid B K w (setRow w r o l)
  | [], o, w => Mid.refl _ _ _
  | V :: l, o, w => (mid_setCell (p := ⟨r, o, none⟩) V h).trans (setRow_mid r h l (o + 1) _)
theorem setRow_before (r : Nat) : ∀ (l : List Value) (o i : Nat) (w : World) (V : Value), i < o → w.cell? ⟨r, i, none⟩ = some V → (setRow w r o l).cell? ⟨r, i, none⟩ = some V
  | [], o, i, w, V, h, hc => hc
  | U :: l, o, i, w, V, h, hc => by
    rw [setRow]
    refine setRow_before r l (o + 1) i _ V (by omega) ?_
    rw [World.cell?_setCell_other]
    · exact hc
    · intro e; injection e with _ e2; omega
theorem setRow_at (r : Nat) : ∀ (l : List Value) (o i : Nat) (w : World) (V : Value), (∀ j, j < l.length → ∃ U, w.cell? ⟨r, o + j, none⟩ = some U) → l[i]? = some V → (setRow w r o l).cell? ⟨r, o + i, none⟩ = some V
  | [], o, i, w, V, hc, hv => by simp at hv
  | U :: l, o, 0, w, V, hc, hv => by
    rw [setRow]
    refine setRow_before r l (o + 1) o _ V (by omega) ?_
    obtain ⟨U0, hU⟩ := hc 0 (by simp)
    rw [World.cell?_setCell_same (u := U0)]
    · simpa using hv
    · simpa using hU
  | U :: l, o, i + 1, w, V, hc, hv => by
    rw [setRow, show o + (i + 1) = o + 1 + i from by omega]
    refine setRow_at r l (o + 1) i _ V (fun j hj => ?_) (by simpa using hv)
    obtain ⟨U0, hU⟩ := hc (j + 1) (by simpa using hj)
    refine ⟨U0, ?_⟩
    rw [World.cell?_setCell_other]
    · rw [show o + 1 + j = o + (j + 1) from by omega]; exact hU
    · intro e; injection e with _ e2; omega

def K8 (a b c d e f g h : Nat) : Nat → Nat
  | 0 => a | 1 => b | 2 => c | 3 => d | 4 => e | 5 => f | 6 => g | _ => h
def X0 : DD := { m := [[1]], s := [[1]], d := [[1]], p := [[1]], v := 1, g := [0], a := [], l := [[0]] }
theorem X0_ok : OkDesk X0 := by constructor <;> decide
def deskV (D : DV) (v : Int) : Value := .agg #[.slice D.m.A D.m.n D.m.c, .slice D.s.A D.s.n D.s.c, .slice D.d.A D.d.n D.d.c, .int .i64 v, .slice D.p.A D.p.n D.p.c, .slice D.g.A D.g.n D.g.c, .slice D.a.A D.a.n D.a.c, .slice D.l.A D.l.n D.l.c]
/-- a desk comes back, of one's own -/
def RetD (X : DD) (w : World) (e : Ending) (w' : World) : Prop := ∃ D K, e = .returned (deskV D X.v) ∧ OwnDesk w' K D X ∧ w.heap.size ≤ K 0 ∧ Below w.heap.size w w'

/-- one list in a list -/
def pairW (w : World) (x : Int) : World := (w.alloc (.cells #[.int .i64 x] 2)).alloc (.cells #[.slice (some ⟨w.heap.size, 0, none⟩) 1 1] 29)
theorem pairW_size (w : World) (x : Int) : (pairW w x).heap.size = w.heap.size + 1 + 1 := by simp [pairW]
theorem pairW_below (w : World) (x : Int) : Below w.heap.size w (pairW w x) := ((Below.refl _ _).alloc (Nat.le_refl _) _).alloc (by simp) _
theorem pairW_own (w : World) (x : Int) : OwnM (pairW w x) w.heap.size (pairW w x).heap.size (some ⟨w.heap.size + 1, 0, none⟩) 1 1 [[x]] := by
  have h := ownL_one (own_one w x w.heap.size (Nat.le_refl _)) (by simp)
  have h2 := h.m (by simp)
  have e : (w.alloc (.cells #[.int .i64 x] 2)).heap.size = w.heap.size + 1 := by simp
  rw [e] at h2
  exact h2

theorem pairW_own' {w : World} {x : Int} {h : Nat} (hh : w.heap.size = h) : OwnM (pairW w x) h (h + 1 + 1) (some ⟨h + 1, 0, none⟩) 1 1 [[x]] := by
  have := pairW_own w x
  rw [pairW_size, hh] at this
  exact this

theorem newOne_any (w : World) : Calls Try.prog 63 #[] w (RetL 1 [[1]] w) := by
  have h := pairW_own w 1
  have h2 := pairW_below w 1
  unfold pairW at h h2
  have H := Lib.hid h; clear h
  have H2 := Lib.hid h2; clear h2
  go_enter Try.func63, Try.ntmps63
  go_wp2_with fail
  go_ret
  exact ⟨_, _, rfl, H.out.own, H2.out⟩
def RetSph (w : World) (e : Ending) (w' : World) : Prop := ∃ A c, e = .returned (.agg #[.slice A 1 c, .slice none 0 0]) ∧ OwnG w' w.heap.size w'.heap.size A 1 c [0] ∧ Below w.heap.size w w'
theorem own_oneK (w : World) (x : Int) (K : Nat) (hK : K ≤ w.heap.size) : OwnG (w.alloc (.cells #[.int .i64 x] 2)) K (w.heap.size + 1) (some ⟨w.heap.size, 0, none⟩) 1 1 [x] :=
  ⟨own_one w x K hK, fun g hg => by
    have e : some w.heap.size = some g := hg
    injection e with e; omega⟩
theorem sphere_any (w : World) : Calls Try.prog 64 #[] w (RetSph w) := by
  have h := own_oneK (w.alloc (.cells #[.slice (some ⟨w.heap.size + 1, 0, none⟩) 1 1, .slice none 0 0] 31)) 0 w.heap.size (by simp)
  have e : (w.alloc (.cells #[.slice (some ⟨w.heap.size + 1, 0, none⟩) 1 1, .slice none 0 0] 31)).heap.size = w.heap.size + 1 := by simp
  rw [e] at h
  have H := Lib.hid (h.mono (Nat.le_refl _) (show w.heap.size + 1 + 1 ≤ ((w.alloc (.cells #[.slice (some ⟨w.heap.size + 1, 0, none⟩) 1 1, .slice none 0 0] 31)).alloc (.cells #[.int .i64 0] 2)).heap.size from by simp))
  have H2 := Lib.hid (show Below w.heap.size w ((w.alloc (.cells #[.slice (some ⟨w.heap.size + 1, 0, none⟩) 1 1, .slice none 0 0] 31)).alloc (.cells #[.int .i64 0] 2)) from ((Below.refl _ _).alloc (Nat.le_refl _) _).alloc (by simp) _)
  clear h e
  go_enter Try.func64, Try.ntmps64
  go_wp2_with fail
  refine bodyPost_ret (v := .agg #[.slice (some ⟨w.heap.size + 1, 0, none⟩) 1 1, .slice none 0 0]) (by simp [results, Try.results64, go_sem]) rfl ?_
  exact ⟨_, _, rfl, H.out, H2.out⟩

/-- a new desk's lists, laid one behind the other -/
def newW (w0 : World) : World := pairW ((pairW (pairW (pairW (pairW w0 1) 1) 1) 1).alloc (.cells #[.int .i64 0] 2)) 0
def newD (h : Nat) : DV :=
  { m := ⟨some ⟨h + 1, 0, none⟩, 1, 1⟩, s := ⟨some ⟨h + 1 + 1 + 1, 0, none⟩, 1, 1⟩, d := ⟨some ⟨h + 1 + 1 + 1 + 1 + 1, 0, none⟩, 1, 1⟩, p := ⟨some ⟨h + 1 + 1 + 1 + 1 + 1 + 1 + 1, 0, none⟩, 1, 1⟩,
    g := ⟨some ⟨h + 1 + 1 + 1 + 1 + 1 + 1 + 1 + 1, 0, none⟩, 1, 1⟩, a := ⟨none, 0, 0⟩, l := ⟨some ⟨h + 1 + 1 + 1 + 1 + 1 + 1 + 1 + 1 + 1 + 1, 0, none⟩, 1, 1⟩ }
theorem newW_own (w0 : World) (h : Nat) (hh : w0.heap.size = h) : ∃ K, OwnDesk (newW w0) K (newD h) X0 ∧ K 0 = h ∧ Below w0.heap.size w0 (newW w0) := by
  obtain ⟨w1, e1⟩ : ∃ W, W = pairW w0 1 := ⟨_, rfl⟩
  obtain ⟨w2, e2⟩ : ∃ W, W = pairW w1 1 := ⟨_, rfl⟩
  obtain ⟨w3, e3⟩ : ∃ W, W = pairW w2 1 := ⟨_, rfl⟩
  obtain ⟨w4, e4⟩ : ∃ W, W = pairW w3 1 := ⟨_, rfl⟩
  obtain ⟨w5, e5⟩ : ∃ W, W = w4.alloc (.cells #[.int .i64 0] 2) := ⟨_, rfl⟩
  obtain ⟨w6, e6⟩ : ∃ W, W = pairW w5 0 := ⟨_, rfl⟩
  have eW : newW w0 = w6 := by rw [e6, e5, e4, e3, e2, e1]; rfl
  have z1 : w1.heap.size = h + 1 + 1 := by rw [e1, pairW_size, hh]
  have z2 : w2.heap.size = h + 1 + 1 + 1 + 1 := by rw [e2, pairW_size, z1]
  have z3 : w3.heap.size = h + 1 + 1 + 1 + 1 + 1 + 1 := by rw [e3, pairW_size, z2]
  have z4 : w4.heap.size = h + 1 + 1 + 1 + 1 + 1 + 1 + 1 + 1 := by rw [e4, pairW_size, z3]
  have z5 : w5.heap.size = h + 1 + 1 + 1 + 1 + 1 + 1 + 1 + 1 + 1 := by rw [e5]; simp [z4]
  have z6 : w6.heap.size = h + 1 + 1 + 1 + 1 + 1 + 1 + 1 + 1 + 1 + 1 + 1 := by rw [e6, pairW_size, z5]
  have b1 : Below w0.heap.size w0 w1 := by rw [e1]; exact pairW_below _ _
  have b2 : Below w1.heap.size w1 w2 := by rw [e2]; exact pairW_below _ _
  have b3 : Below w2.heap.size w2 w3 := by rw [e3]; exact pairW_below _ _
  have b4 : Below w3.heap.size w3 w4 := by rw [e4]; exact pairW_below _ _
  have b5 : Below w4.heap.size w4 w5 := by rw [e5]; exact (Below.refl _ _).alloc (Nat.le_refl _) _
  have b6 : Below w5.heap.size w5 w6 := by rw [e6]; exact pairW_below _ _
  have o1 : OwnM w1 h (h + 1 + 1) (some ⟨h + 1, 0, none⟩) 1 1 [[1]] := by rw [e1]; exact pairW_own' hh
  have o2 : OwnM w2 (h + 1 + 1) (h + 1 + 1 + 1 + 1) (some ⟨h + 1 + 1 + 1, 0, none⟩) 1 1 [[1]] := by rw [e2]; exact pairW_own' z1
  have o3 : OwnM w3 (h + 1 + 1 + 1 + 1) (h + 1 + 1 + 1 + 1 + 1 + 1) (some ⟨h + 1 + 1 + 1 + 1 + 1, 0, none⟩) 1 1 [[1]] := by rw [e3]; exact pairW_own' z2
  have o4 : OwnM w4 (h + 1 + 1 + 1 + 1 + 1 + 1) (h + 1 + 1 + 1 + 1 + 1 + 1 + 1 + 1) (some ⟨h + 1 + 1 + 1 + 1 + 1 + 1 + 1, 0, none⟩) 1 1 [[1]] := by rw [e4]; exact pairW_own' z3
  have o5 : OwnG w5 (h + 1 + 1 + 1 + 1 + 1 + 1 + 1 + 1) (h + 1 + 1 + 1 + 1 + 1 + 1 + 1 + 1 + 1) (some ⟨h + 1 + 1 + 1 + 1 + 1 + 1 + 1 + 1, 0, none⟩) 1 1 [0] := by
    have := own_oneK w4 0 w4.heap.size (Nat.le_refl _)
    rw [← e5, z4] at this
    exact this
  have o6 : OwnM w6 (h + 1 + 1 + 1 + 1 + 1 + 1 + 1 + 1 + 1) (h + 1 + 1 + 1 + 1 + 1 + 1 + 1 + 1 + 1 + 1 + 1) (some ⟨h + 1 + 1 + 1 + 1 + 1 + 1 + 1 + 1 + 1 + 1, 0, none⟩) 1 1 [[0]] := by rw [e6]; exact pairW_own' z5
  refine ⟨K8 h (h + 1 + 1) (h + 1 + 1 + 1 + 1) (h + 1 + 1 + 1 + 1 + 1 + 1) (h + 1 + 1 + 1 + 1 + 1 + 1 + 1 + 1) (h + 1 + 1 + 1 + 1 + 1 + 1 + 1 + 1 + 1) (h + 1 + 1 + 1 + 1 + 1 + 1 + 1 + 1 + 1) (h + 1 + 1 + 1 + 1 + 1 + 1 + 1 + 1 + 1 + 1 + 1), ?_, rfl, ?_⟩
  · rw [eW]
    refine ⟨((((o1.below b2).below b3).below b4).below b5).below b6, (((o2.below b3).below b4).below b5).below b6, ((o3.below b4).below b5).below b6, (o4.below b5).below b6, o5.below b6, OwnM.nil, o6, ?_, Nat.le_of_eq z6.symm⟩
    intro i hi
    have : i = 0 ∨ i = 1 ∨ i = 2 ∨ i = 3 ∨ i = 4 ∨ i = 5 ∨ i = 6 := by omega
    rcases this with rfl | rfl | rfl | rfl | rfl | rfl | rfl <;> simp [K8] <;> omega
  · rw [eW]
    exact ((((b1.trans (b2.mono b1.size)).trans (b3.mono (Nat.le_trans b1.size b2.size))).trans (b4.mono (by omega))).trans (b5.mono (by omega))).trans (b6.mono (by omega))

theorem sNew_any (w : World) : Calls Try.prog 62 #[] w (RetD X0 w) := by
  obtain ⟨h, hh⟩ : ∃ h, h = w.heap.size + 1 := ⟨_, rfl⟩
  obtain ⟨w0, hw0⟩ : ∃ W, W = w.alloc (.cells #[.slice (newD (w.heap.size + 1)).m.A 1 1, .slice (newD (w.heap.size + 1)).s.A 1 1, .slice (newD (w.heap.size + 1)).d.A 1 1, .int .i64 1, .slice (newD (w.heap.size + 1)).p.A 1 1, .slice (newD (w.heap.size + 1)).g.A 1 1, .slice none 0 0, .slice (newD (w.heap.size + 1)).l.A 1 1] 34) := ⟨_, rfl⟩
  obtain ⟨K, hK, hK0, hbl⟩ := newW_own w0 h (by rw [hw0, hh]; simp)
  have hb0 : Below w.heap.size w (newW w0) := Below.trans (by rw [hw0]; exact (Below.refl _ _).alloc (Nat.le_refl _) _) (hbl.mono (by rw [hw0]; simp))
  have hKw : w.heap.size ≤ K 0 := by rw [hK0, hh]; omega
  have HW := Lib.hid (show newW w0 = newW (w.alloc (.cells #[.slice (newD (w.heap.size + 1)).m.A 1 1, .slice (newD (w.heap.size + 1)).s.A 1 1, .slice (newD (w.heap.size + 1)).d.A 1 1, .int .i64 1, .slice (newD (w.heap.size + 1)).p.A 1 1, .slice (newD (w.heap.size + 1)).g.A 1 1, .slice none 0 0, .slice (newD (w.heap.size + 1)).l.A 1 1] 34)) from by rw [hw0])
  have HKK := Lib.hid hK
  have HB := Lib.hid hb0
  have Hh := Lib.hid hh
  clear hw0 hK hb0 hbl hK0 hh
  go_enter Try.func62, Try.ntmps62
  go_wp2_with fail
  have hfin : RetD X0 w (.returned (deskV (newD h) 1)) (newW w0) := ⟨newD h, K, rfl, HKK.out, hKw, HB.out⟩
  rw [HW.out, Hh.out] at hfin
  simp only [newW, pairW, newD, deskV, World.size_alloc] at hfin
  refine bodyPost_ret (v := deskV (newD (w.heap.size + 1)) 1) (by simp [results, Try.results62, go_sem, newD, deskV]) rfl ?_
  simp only [newD, deskV]
  exact hfin
theorem cells8 {w : World} {b : Nat} {V0 V1 V2 V3 V4 V5 V6 V7 : Value} (h : Cells [(b, 0, V0), (b, 1, V1), (b, 2, V2), (b, 3, V3), (b, 4, V4), (b, 5, V5), (b, 6, V6), (b, 7, V7)] w) (U0 U1 U2 U3 U4 U5 U6 U7 : Value) :
    (setRow w b 0 [U0, U1, U2, U3, U4, U5, U6, U7]).cell? ⟨b, 0, none⟩ = some U0 ∧ (setRow w b 0 [U0, U1, U2, U3, U4, U5, U6, U7]).cell? ⟨b, 1, none⟩ = some U1 ∧ (setRow w b 0 [U0, U1, U2, U3, U4, U5, U6, U7]).cell? ⟨b, 2, none⟩ = some U2 ∧ (setRow w b 0 [U0, U1, U2, U3, U4, U5, U6, U7]).cell? ⟨b, 3, none⟩ = some U3 ∧
    (setRow w b 0 [U0, U1, U2, U3, U4, U5, U6, U7]).cell? ⟨b, 4, none⟩ = some U4 ∧ (setRow w b 0 [U0, U1, U2, U3, U4, U5, U6, U7]).cell? ⟨b, 5, none⟩ = some U5 ∧ (setRow w b 0 [U0, U1, U2, U3, U4, U5, U6, U7]).cell? ⟨b, 6, none⟩ = some U6 ∧ (setRow w b 0 [U0, U1, U2, U3, U4, U5, U6, U7]).cell? ⟨b, 7, none⟩ = some U7 := by
  have hc : ∀ j, j < [U0, U1, U2, U3, U4, U5, U6, U7].length → ∃ U, w.cell? ⟨b, 0 + j, none⟩ = some U := by
    intro j hj
    have : j = 0 ∨ j = 1 ∨ j = 2 ∨ j = 3 ∨ j = 4 ∨ j = 5 ∨ j = 6 ∨ j = 7 := by simp at hj; omega
    rcases this with rfl | rfl | rfl | rfl | rfl | rfl | rfl | rfl
    · exact ⟨_, h.at_ (V := V0) (by simp)⟩
    · exact ⟨_, h.at_ (V := V1) (by simp)⟩
    · exact ⟨_, h.at_ (V := V2) (by simp)⟩
    · exact ⟨_, h.at_ (V := V3) (by simp)⟩
    · exact ⟨_, h.at_ (V := V4) (by simp)⟩
    · exact ⟨_, h.at_ (V := V5) (by simp)⟩
    · exact ⟨_, h.at_ (V := V6) (by simp)⟩
    · exact ⟨_, h.at_ (V := V7) (by simp)⟩
  have k := fun i V hv => setRow_at b [U0, U1, U2, U3, U4, U5, U6, U7] 0 i w V hc hv
  simp only [Nat.zero_add] at k
  exact ⟨k 0 _ rfl, k 1 _ rfl, k 2 _ rfl, k 3 _ rfl, k 4 _ rfl, k 5 _ rfl, k 6 _ rfl, k 7 _ rfl⟩
/-- the end of a function whose answer is a desk -/
theorem RetD.mk {w wn : World} {r V : Nat} {D : DV} {K : Nat → Nat} {X : DD} {l : List Value} {u : Value} (hu : u = deskV D X.v) (Bw : Below w.heap.size w wn) (hr : w.heap.size ≤ r) (hrV : r < V) (O : OwnDesk wn K D X) (hV : V ≤ K 0) :
    RetD X w (.returned u) (setRow wn r 0 l) := by
  subst hu
  refine ⟨D, K, rfl, O.apart (setRow_mid r (B := r) (K := V) ⟨Nat.le_refl _, hrV⟩ l 0 wn) (.inl hV), by omega, ?_⟩
  have m := setRow_mid r (B := r) (K := V) ⟨Nat.le_refl _, hrV⟩ l 0 wn
  have h1 : w.heap.size ≤ wn.heap.size := Bw.size
  exact ⟨m.os.trans Bw.os, m.tape.trans Bw.tape, m.output.trans Bw.output, Nat.le_trans h1 m.size, fun i hi => (m.block i (by omega) (.inl (by omega))).trans (Bw.block i hi)⟩

set_option maxHeartbeats 1000000 in
theorem sNewDesk_any (w : World) : Calls Try.prog 13 #[] w (RetD X0 w) := by
  obtain ⟨w0, hw0⟩ : ∃ w0, w0 = w.alloc (.cells #[.slice none 0 0, .slice none 0 0, .slice none 0 0, .int .i64 0, .slice none 0 0, .slice none 0 0, .slice none 0 0, .slice none 0 0] 34) := ⟨_, rfl⟩
  obtain ⟨b, hbe⟩ : ∃ b, b = w.heap.size := ⟨_, rfl⟩
  have hb0 : Below w.heap.size w w0 := by rw [hw0]; exact (Below.refl _ _).alloc (Nat.le_refl _) _
  have hF : Cells [(b, 0, .slice none 0 0), (b, 1, .slice none 0 0), (b, 2, .slice none 0 0), (b, 3, .int .i64 0), (b, 4, .slice none 0 0), (b, 5, .slice none 0 0), (b, 6, .slice none 0 0), (b, 7, .slice none 0 0)] w0 := by
    rw [hw0]
    exact Cells.nil.alloc8 _ _ _ _ _ _ _ _ _ hbe
  have hz : w0.heap.size = b + 1 := by rw [hw0, hbe]; simp
  have Hw := Lib.hid hw0; clear hw0
  have HB := Lib.hid hb0; clear hb0
  have F0 := Lib.hid hF; clear hF
  have HZ := Lib.hid hz; clear hz
  have Hbe := Lib.hid hbe; clear hbe
  go_enter Try.func13, Try.ntmps13
  go_wp2_with fail
  rw [← Hw.out, ← Hbe.out]
  refine (sNew_any _).mono ?_
  rintro e w1 ⟨D, K, rfl, hO, hK, hb⟩
  have hFb := F0.out.below hb
  have k0 := hFb.at_ (b := b) (o := 0) (V := .slice none 0 0) (by simp)
  have f0 := hFb.fr (b := b) (o := 0) (V := .slice none 0 0) (by simp)
  have k1 := hFb.at_ (b := b) (o := 1) (V := .slice none 0 0) (by simp)
  have f1 := hFb.fr (b := b) (o := 1) (V := .slice none 0 0) (by simp)
  have k2 := hFb.at_ (b := b) (o := 2) (V := .slice none 0 0) (by simp)
  have f2 := hFb.fr (b := b) (o := 2) (V := .slice none 0 0) (by simp)
  have k3 := hFb.at_ (b := b) (o := 3) (V := .int .i64 0) (by simp)
  have f3 := hFb.fr (b := b) (o := 3) (V := .int .i64 0) (by simp)
  have k4 := hFb.at_ (b := b) (o := 4) (V := .slice none 0 0) (by simp)
  have f4 := hFb.fr (b := b) (o := 4) (V := .slice none 0 0) (by simp)
  have k5 := hFb.at_ (b := b) (o := 5) (V := .slice none 0 0) (by simp)
  have f5 := hFb.fr (b := b) (o := 5) (V := .slice none 0 0) (by simp)
  have k6 := hFb.at_ (b := b) (o := 6) (V := .slice none 0 0) (by simp)
  have f6 := hFb.fr (b := b) (o := 6) (V := .slice none 0 0) (by simp)
  have k7 := hFb.at_ (b := b) (o := 7) (V := .slice none 0 0) (by simp)
  have f7 := hFb.fr (b := b) (o := 7) (V := .slice none 0 0) (by simp)
  have hres := cells8 hFb (.slice D.m.A D.m.n D.m.c) (.slice D.s.A D.s.n D.s.c) (.slice D.d.A D.d.n D.d.c) (.int .i64 1) (.slice D.p.A D.p.n D.p.c) (.slice D.g.A D.g.n D.g.c) (.slice D.a.A D.a.n D.a.c) (.slice D.l.A D.l.n D.l.c)
  simp only [setRow, Nat.zero_add, Nat.reduceAdd] at hres
  have HO := Lib.hid hO; clear hO
  have HK := Lib.hid hK; clear hK
  have HBB := Lib.hid (HB.out.trans (hb.mono HB.out.size)); clear hb hFb
  simp only [deskV, X0]
  go_wp2_with fail
  refine bodyPost_ret (v := deskV D 1) (by simp [results, Try.results13, go_sem, deskV, hres]) rfl ?_
  exact RetD.mk (r := b) (V := b + 1) (l := [.slice D.m.A D.m.n D.m.c, .slice D.s.A D.s.n D.s.c, .slice D.d.A D.d.n D.d.c, .int .i64 1, .slice D.p.A D.p.n D.p.c, .slice D.g.A D.g.n D.g.c, .slice D.a.A D.a.n D.a.c, .slice D.l.A D.l.n D.l.c]) rfl HBB.out (by rw [Hbe.out]; exact Nat.le_refl _) (Nat.lt_succ_self _) HO.out (by have := HK.out; rw [HZ.out] at this; exact this)

set_option maxHeartbeats 1000000 in
theorem iNewDesk_any (w : World) : Calls Try.prog 14 #[] w (RetD X0 w) := by
  obtain ⟨w0, hw0⟩ : ∃ w0, w0 = w.alloc (.cells #[.slice none 0 0, .slice none 0 0, .slice none 0 0, .int .i64 0, .slice none 0 0, .slice none 0 0, .slice none 0 0, .slice none 0 0] 34) := ⟨_, rfl⟩
  obtain ⟨b, hbe⟩ : ∃ b, b = w.heap.size := ⟨_, rfl⟩
  have hb0 : Below w.heap.size w w0 := by rw [hw0]; exact (Below.refl _ _).alloc (Nat.le_refl _) _
  have hF : Cells [(b, 0, .slice none 0 0), (b, 1, .slice none 0 0), (b, 2, .slice none 0 0), (b, 3, .int .i64 0), (b, 4, .slice none 0 0), (b, 5, .slice none 0 0), (b, 6, .slice none 0 0), (b, 7, .slice none 0 0)] w0 := by
    rw [hw0]
    exact Cells.nil.alloc8 _ _ _ _ _ _ _ _ _ hbe
  have hz : w0.heap.size = b + 1 := by rw [hw0, hbe]; simp
  have Hw := Lib.hid hw0; clear hw0
  have HB := Lib.hid hb0; clear hb0
  have F0 := Lib.hid hF; clear hF
  have HZ := Lib.hid hz; clear hz
  have Hbe := Lib.hid hbe; clear hbe
  have X0' := Lib.hid (Below.refl w0.heap.size w0)
  go_enter Try.func14, Try.ntmps14
  go_wp2_with fail
  rw [← Hw.out, ← Hbe.out]
  refine (newOne_any _).mono ?_
  rintro e w1 ⟨A1, c1, rfl, ho, hb⟩
  have O1 := Lib.hid (ho.m (Nat.le_refl _))
  have Y1 := Lib.hid hb
  have X1 := Lib.hid (X0'.out.trans (hb.mono X0'.out.size)); clear ho hb
  go_wp2_with fail
  refine (newOne_any _).mono ?_
  rintro e w2 ⟨A2, c2, rfl, ho, hb⟩
  have O2 := Lib.hid (ho.m (Nat.le_refl _))
  have Y2 := Lib.hid hb
  have X2 := Lib.hid (X1.out.trans (hb.mono X1.out.size)); clear ho hb
  go_wp2_with fail
  refine (newOne_any _).mono ?_
  rintro e w3 ⟨A3, c3, rfl, ho, hb⟩
  have O3 := Lib.hid (ho.m (Nat.le_refl _))
  have Y3 := Lib.hid hb
  have X3 := Lib.hid (X2.out.trans (hb.mono X2.out.size)); clear ho hb
  go_wp2_with fail
  refine (newOne_any _).mono ?_
  rintro e w4 ⟨A4, c4, rfl, ho, hb⟩
  have O4 := Lib.hid (ho.m (Nat.le_refl _))
  have Y4 := Lib.hid hb
  have X4 := Lib.hid (X3.out.trans (hb.mono X3.out.size)); clear ho hb
  go_wp2_with fail
  refine (sphere_any _).mono ?_
  rintro e w5 ⟨A5, c5, rfl, ho, hb⟩
  have O5 := Lib.hid ho
  have Y5 := Lib.hid hb
  have X5 := Lib.hid (X4.out.trans (hb.mono X4.out.size)); clear ho hb
  have hFb := F0.out.below (X5.out.trans ((pairW_below w5 0).mono X5.out.size))
  have k0 := hFb.at_ (b := b) (o := 0) (V := .slice none 0 0) (by simp)
  have f0 := hFb.fr (b := b) (o := 0) (V := .slice none 0 0) (by simp)
  have k1 := hFb.at_ (b := b) (o := 1) (V := .slice none 0 0) (by simp)
  have f1 := hFb.fr (b := b) (o := 1) (V := .slice none 0 0) (by simp)
  have k2 := hFb.at_ (b := b) (o := 2) (V := .slice none 0 0) (by simp)
  have f2 := hFb.fr (b := b) (o := 2) (V := .slice none 0 0) (by simp)
  have k3 := hFb.at_ (b := b) (o := 3) (V := .int .i64 0) (by simp)
  have f3 := hFb.fr (b := b) (o := 3) (V := .int .i64 0) (by simp)
  have k4 := hFb.at_ (b := b) (o := 4) (V := .slice none 0 0) (by simp)
  have f4 := hFb.fr (b := b) (o := 4) (V := .slice none 0 0) (by simp)
  have k5 := hFb.at_ (b := b) (o := 5) (V := .slice none 0 0) (by simp)
  have f5 := hFb.fr (b := b) (o := 5) (V := .slice none 0 0) (by simp)
  have k6 := hFb.at_ (b := b) (o := 6) (V := .slice none 0 0) (by simp)
  have f6 := hFb.fr (b := b) (o := 6) (V := .slice none 0 0) (by simp)
  have k7 := hFb.at_ (b := b) (o := 7) (V := .slice none 0 0) (by simp)
  have f7 := hFb.fr (b := b) (o := 7) (V := .slice none 0 0) (by simp)
  have hres := cells8 hFb (.slice A1 1 c1) (.slice A2 1 c2) (.slice A3 1 c3) (.int .i64 1) (.slice A4 1 c4) (.slice A5 1 c5) (.slice none 0 0) (.slice (some ⟨w5.heap.size + 1, 0, none⟩) 1 1)
  have hOD : OwnDesk (pairW w5 0) (K8 w0.heap.size w1.heap.size w2.heap.size w3.heap.size w4.heap.size w5.heap.size w5.heap.size (pairW w5 0).heap.size) { m := ⟨A1, 1, c1⟩, s := ⟨A2, 1, c2⟩, d := ⟨A3, 1, c3⟩, p := ⟨A4, 1, c4⟩, g := ⟨A5, 1, c5⟩, a := ⟨none, 0, 0⟩, l := ⟨some ⟨w5.heap.size + 1, 0, none⟩, 1, 1⟩ } X0 := by
    have b6 := pairW_below w5 0
    have z1 := Y1.out.size
    have z2 := Y2.out.size
    have z3 := Y3.out.size
    have z4 := Y4.out.size
    have z5 := Y5.out.size
    have z6 := b6.size
    refine ⟨((((O1.out.below Y2.out).below Y3.out).below Y4.out).below Y5.out).below b6, (((O2.out.below Y3.out).below Y4.out).below Y5.out).below b6, ((O3.out.below Y4.out).below Y5.out).below b6, (O4.out.below Y5.out).below b6, O5.out.below b6, OwnM.nil, pairW_own w5 0, ?_, Nat.le_refl _⟩
    intro i hi
    have : i = 0 ∨ i = 1 ∨ i = 2 ∨ i = 3 ∨ i = 4 ∨ i = 5 ∨ i = 6 := by omega
    rcases this with rfl | rfl | rfl | rfl | rfl | rfl | rfl
    · exact z1
    · exact z2
    · exact z3
    · exact z4
    · exact z5
    · exact Nat.le_refl _
    · exact z6
  have HO := Lib.hid hOD
  have hBB := HB.out.trans ((X5.out.trans ((pairW_below w5 0).mono X5.out.size)).mono HB.out.size)
  have HBB := Lib.hid hBB
  clear hFb hOD hBB
  simp only [setRow, Nat.zero_add, Nat.reduceAdd, pairW] at hres k0 k1 k2 k3 k4 k5 k6 k7 f0 f1 f2 f3 f4 f5 f6 f7
  go_wp2_with fail
  refine bodyPost_ret (v := .agg #[.slice A1 1 c1, .slice A2 1 c2, .slice A3 1 c3, .int .i64 1, .slice A4 1 c4, .slice A5 1 c5, .slice none 0 0, .slice (some ⟨w5.heap.size + 1, 0, none⟩) 1 1]) (by simp [results, Try.results14, go_sem, hres]) rfl ?_
  exact RetD.mk (r := b) (V := b + 1) (l := [.slice A1 1 c1, .slice A2 1 c2, .slice A3 1 c3, .int .i64 1, .slice A4 1 c4, .slice A5 1 c5, .slice none 0 0, .slice (some ⟨w5.heap.size + 1, 0, none⟩) 1 1]) rfl HBB.out (by rw [Hbe.out]; exact Nat.le_refl _) (Nat.lt_succ_self _) HO.out (by rw [← HZ.out]; exact Nat.le_refl _)
end Go.Proofs.Ytejlkobieohgfaa
