/- NewDesk on both sides. -/
import Derived.Test.YtdpkhgkoeoiemaaGreatDeskT
import Derived.Test.YtdpkhgkoeoiemaaGreatWords
namespace Go.Proofs.YtdpkhgkoeoiemaaGreat
open Go.RowKit
set_option linter.unusedVariables false

/-- cells of a block, written one behind the other -/
def setRow (w : World) (r : Nat) : Nat → List Value → World
  | _, [] => w
  | o, V :: l => setRow (w.setCell ⟨r, o, none⟩ V) r (o + 1) l
theorem setRow_size (r : Nat) : ∀ (l : List Value) (o : Nat) (w : World), (setRow w r o l).heap.size = w.heap.size
  | [], o, w => rfl
  | V :: l, o, w => by rw [setRow, setRow_size r l]; simp [World.setCell]
theorem setRow_mid (r : Nat) {B K : Nat} (h : B ≤ r ∧ r < K) : ∀ (l : List Value) (o : Nat) (w : World), Mid B K w (setRow w r o l)
  | [], o, w => Mid.refl _ _ _
  | V :: l, o, w => (mid_setCell (p := ⟨r, o, none⟩) V h).trans (setRow_mid r h l (o + 1) _)
theorem setRow_before (r : Nat) : ∀ (l : List Value) (o i : Nat) (w : World) (V : Value), i < o → w.cell? ⟨r, i, none⟩ = some V → (setRow w r o l).cell? ⟨r, i, none⟩ = some V
  | [], o, i, w, V, h, hc => hc
  | U :: l, o, i, w, V, h, hc => by
    rw [setRow]
    refine setRow_before r l (o + 1) i _ V (by omega) ?_
    rw [World.cell?_setCell_other]
    · exact hc
    · intro e; injection e with _ e2; omega
theorem setRow_at (r : Nat) : ∀ (l : List Value) (o i : Nat) (w : World) (V : Value), (∀ j, j < l.length → ∃ U, w.cell? ⟨r, o + j, none⟩ = some U) → l[i]? = some V → (setRow w r o l).cell? ⟨r, o + i, none⟩ = some V
  | [], o, i, w, V, hc, hv => by simp at hv
  | U :: l, o, 0, w, V, hc, hv => by
    rw [setRow]
    refine setRow_before r l (o + 1) o _ V (by omega) ?_
    obtain ⟨U0, hU⟩ := hc 0 (by simp)
    rw [World.cell?_setCell_same (u := U0)]
    · simpa using hv
    · simpa using hU
  | U :: l, o, i + 1, w, V, hc, hv => by
    rw [setRow, show o + (i + 1) = o + 1 + i from by omega]
    refine setRow_at r l (o + 1) i _ V (fun j hj => ?_) (by simpa using hv)
    obtain ⟨U0, hU⟩ := hc (j + 1) (by simpa using hj)
    refine ⟨U0, ?_⟩
    rw [World.cell?_setCell_other]
    · rw [show o + 1 + j = o + (j + 1) from by omega]; exact hU
    · intro e; injection e with _ e2; omega

def K8 (a b c d e f g h : Nat) : Nat → Nat
  | 0 => a | 1 => b | 2 => c | 3 => d | 4 => e | 5 => f | 6 => g | _ => h
def X0 : DD := { m := [[1]], s := [[1]], d := [[1]], p := [[1]], v := 1, g := [0], a := [], l := [[0]] }
theorem X0_ok : OkDesk X0 := by constructor <;> decide
def deskV (D : DV) (v : Int) : Value := .agg #[.slice D.m.A D.m.n D.m.c, .slice D.s.A D.s.n D.s.c, .slice D.d.A D.d.n D.d.c, .int .i64 v, .slice D.p.A D.p.n D.p.c, .slice D.g.A D.g.n D.g.c, .slice D.a.A D.a.n D.a.c, .slice D.l.A D.l.n D.l.c]
/-- a desk comes back, of one's own -/
def RetD (X : DD) (w : World) (e : Ending) (w' : World) : Prop := ∃ D K, e = .returned (deskV D X.v) ∧ OwnDesk w' K D X ∧ w.heap.size ≤ K 0 ∧ Below w.heap.size w w'

/-- one list in a list -/
def pairW (w : World) (x : Int) : World := (w.alloc (.cells #[.int .i64 x] 2)).alloc (.cells #[.slice (some ⟨w.heap.size, 0, none⟩) 1 1] 29)
theorem pairW_size (w : World) (x : Int) : (pairW w x).heap.size = w.heap.size + 1 + 1 := by simp [pairW]
theorem pairW_below (w : World) (x : Int) : Below w.heap.size w (pairW w x) := ((Below.refl _ _).alloc (Nat.le_refl _) _).alloc (by simp) _
theorem pairW_own (w : World) (x : Int) : OwnM (pairW w x) w.heap.size (pairW w x).heap.size (some ⟨w.heap.size + 1, 0, none⟩) 1 1 [[x]] := by
  have h := ownL_one (own_one w x w.heap.size (Nat.le_refl _)) (by simp)
  have h2 := h.m (by simp)
  have e : (w.alloc (.cells #[.int .i64 x] 2)).heap.size = w.heap.size + 1 := by simp
  rw [e] at h2
  exact h2

theorem pairW_own' {w : World} {x : Int} {h : Nat} (hh : w.heap.size = h) : OwnM (pairW w x) h (h + 1 + 1) (some ⟨h + 1, 0, none⟩) 1 1 [[x]] := by
  have := pairW_own w x
  rw [pairW_size, hh] at this
  exact this

def RetSph (w : World) (e : Ending) (w' : World) : Prop := ∃ A c, e = .returned (.agg #[.slice A 1 c, .slice none 0 0]) ∧ OwnG w' w.heap.size w'.heap.size A 1 c [0] ∧ Below w.heap.size w w'
theorem own_oneK (w : World) (x : Int) (K : Nat) (hK : K ≤ w.heap.size) : OwnG (w.alloc (.cells #[.int .i64 x] 2)) K (w.heap.size + 1) (some ⟨w.heap.size, 0, none⟩) 1 1 [x] :=
  ⟨own_one w x K hK, fun g hg => by
    have e : some w.heap.size = some g := hg
    injection e with e; omega⟩
/-- a new desk's lists, laid one behind the other -/
def newW (w0 : World) : World := pairW ((pairW (pairW (pairW (pairW w0 1) 1) 1) 1).alloc (.cells #[.int .i64 0] 2)) 0
def newD (h : Nat) : DV :=
  { m := ⟨some ⟨h + 1, 0, none⟩, 1, 1⟩, s := ⟨some ⟨h + 1 + 1 + 1, 0, none⟩, 1, 1⟩, d := ⟨some ⟨h + 1 + 1 + 1 + 1 + 1, 0, none⟩, 1, 1⟩, p := ⟨some ⟨h + 1 + 1 + 1 + 1 + 1 + 1 + 1, 0, none⟩, 1, 1⟩,
    g := ⟨some ⟨h + 1 + 1 + 1 + 1 + 1 + 1 + 1 + 1, 0, none⟩, 1, 1⟩, a := ⟨none, 0, 0⟩, l := ⟨some ⟨h + 1 + 1 + 1 + 1 + 1 + 1 + 1 + 1 + 1 + 1, 0, none⟩, 1, 1⟩ }
theorem newW_own (w0 : World) (h : Nat) (hh : w0.heap.size = h) : ∃ K, OwnDesk (newW w0) K (newD h) X0 ∧ K 0 = h ∧ Below w0.heap.size w0 (newW w0) := by
  obtain ⟨w1, e1⟩ : ∃ W, W = pairW w0 1 := ⟨_, rfl⟩
  obtain ⟨w2, e2⟩ : ∃ W, W = pairW w1 1 := ⟨_, rfl⟩
  obtain ⟨w3, e3⟩ : ∃ W, W = pairW w2 1 := ⟨_, rfl⟩
  obtain ⟨w4, e4⟩ : ∃ W, W = pairW w3 1 := ⟨_, rfl⟩
  obtain ⟨w5, e5⟩ : ∃ W, W = w4.alloc (.cells #[.int .i64 0] 2) := ⟨_, rfl⟩
  obtain ⟨w6, e6⟩ : ∃ W, W = pairW w5 0 := ⟨_, rfl⟩
  have eW : newW w0 = w6 := by rw [e6, e5, e4, e3, e2, e1]; rfl
  have z1 : w1.heap.size = h + 1 + 1 := by rw [e1, pairW_size, hh]
  have z2 : w2.heap.size = h + 1 + 1 + 1 + 1 := by rw [e2, pairW_size, z1]
  have z3 : w3.heap.size = h + 1 + 1 + 1 + 1 + 1 + 1 := by rw [e3, pairW_size, z2]
  have z4 : w4.heap.size = h + 1 + 1 + 1 + 1 + 1 + 1 + 1 + 1 := by rw [e4, pairW_size, z3]
  have z5 : w5.heap.size = h + 1 + 1 + 1 + 1 + 1 + 1 + 1 + 1 + 1 := by rw [e5]; simp [z4]
  have z6 : w6.heap.size = h + 1 + 1 + 1 + 1 + 1 + 1 + 1 + 1 + 1 + 1 + 1 := by rw [e6, pairW_size, z5]
  have b1 : Below w0.heap.size w0 w1 := by rw [e1]; exact pairW_below _ _
  have b2 : Below w1.heap.size w1 w2 := by rw [e2]; exact pairW_below _ _
  have b3 : Below w2.heap.size w2 w3 := by rw [e3]; exact pairW_below _ _
  have b4 : Below w3.heap.size w3 w4 := by rw [e4]; exact pairW_below _ _
  have b5 : Below w4.heap.size w4 w5 := by rw [e5]; exact (Below.refl _ _).alloc (Nat.le_refl _) _
  have b6 : Below w5.heap.size w5 w6 := by rw [e6]; exact pairW_below _ _
  have o1 : OwnM w1 h (h + 1 + 1) (some ⟨h + 1, 0, none⟩) 1 1 [[1]] := by rw [e1]; exact pairW_own' hh
  have o2 : OwnM w2 (h + 1 + 1) (h + 1 + 1 + 1 + 1) (some ⟨h + 1 + 1 + 1, 0, none⟩) 1 1 [[1]] := by rw [e2]; exact pairW_own' z1
  have o3 : OwnM w3 (h + 1 + 1 + 1 + 1) (h + 1 + 1 + 1 + 1 + 1 + 1) (some ⟨h + 1 + 1 + 1 + 1 + 1, 0, none⟩) 1 1 [[1]] := by rw [e3]; exact pairW_own' z2
  have o4 : OwnM w4 (h + 1 + 1 + 1 + 1 + 1 + 1) (h + 1 + 1 + 1 + 1 + 1 + 1 + 1 + 1) (some ⟨h + 1 + 1 + 1 + 1 + 1 + 1 + 1, 0, none⟩) 1 1 [[1]] := by rw [e4]; exact pairW_own' z3
  have o5 : OwnG w5 (h + 1 + 1 + 1 + 1 + 1 + 1 + 1 + 1) (h + 1 + 1 + 1 + 1 + 1 + 1 + 1 + 1 + 1) (some ⟨h + 1 + 1 + 1 + 1 + 1 + 1 + 1 + 1, 0, none⟩) 1 1 [0] := by
    have := own_oneK w4 0 w4.heap.size (Nat.le_refl _)
    rw [← e5, z4] at this
    exact this
  have o6 : OwnM w6 (h + 1 + 1 + 1 + 1 + 1 + 1 + 1 + 1 + 1) (h + 1 + 1 + 1 + 1 + 1 + 1 + 1 + 1 + 1 + 1 + 1) (some ⟨h + 1 + 1 + 1 + 1 + 1 + 1 + 1 + 1 + 1 + 1, 0, none⟩) 1 1 [[0]] := by rw [e6]; exact pairW_own' z5
  refine ⟨K8 h (h + 1 + 1) (h + 1 + 1 + 1 + 1) (h + 1 + 1 + 1 + 1 + 1 + 1) (h + 1 + 1 + 1 + 1 + 1 + 1 + 1 + 1) (h + 1 + 1 + 1 + 1 + 1 + 1 + 1 + 1 + 1) (h + 1 + 1 + 1 + 1 + 1 + 1 + 1 + 1 + 1) (h + 1 + 1 + 1 + 1 + 1 + 1 + 1 + 1 + 1 + 1 + 1), ?_, rfl, ?_⟩
  · rw [eW]
    refine ⟨((((o1.below b2).below b3).below b4).below b5).below b6, (((o2.below b3).below b4).below b5).below b6, ((o3.below b4).below b5).below b6, (o4.below b5).below b6, o5.below b6, OwnM.nil, o6, ?_, Nat.le_of_eq z6.symm⟩
    intro i hi
    have : i = 0 ∨ i = 1 ∨ i = 2 ∨ i = 3 ∨ i = 4 ∨ i = 5 ∨ i = 6 := by omega
    rcases this with rfl | rfl | rfl | rfl | rfl | rfl | rfl <;> simp [K8] <;> omega
  · rw [eW]
    exact ((((b1.trans (b2.mono b1.size)).trans (b3.mono (Nat.le_trans b1.size b2.size))).trans (b4.mono (by omega))).trans (b5.mono (by omega))).trans (b6.mono (by omega))

theorem cells8 {w : World} {b : Nat} {V0 V1 V2 V3 V4 V5 V6 V7 : Value} (h : Cells [(b, 0, V0), (b, 1, V1), (b, 2, V2), (b, 3, V3), (b, 4, V4), (b, 5, V5), (b, 6, V6), (b, 7, V7)] w) (U0 U1 U2 U3 U4 U5 U6 U7 : Value) :
    (setRow w b 0 [U0, U1, U2, U3, U4, U5, U6, U7]).cell? ⟨b, 0, none⟩ = some U0 ∧ (setRow w b 0 [U0, U1, U2, U3, U4, U5, U6, U7]).cell? ⟨b, 1, none⟩ = some U1 ∧ (setRow w b 0 [U0, U1, U2, U3, U4, U5, U6, U7]).cell? ⟨b, 2, none⟩ = some U2 ∧ (setRow w b 0 [U0, U1, U2, U3, U4, U5, U6, U7]).cell? ⟨b, 3, none⟩ = some U3 ∧
    (setRow w b 0 [U0, U1, U2, U3, U4, U5, U6, U7]).cell? ⟨b, 4, none⟩ = some U4 ∧ (setRow w b 0 [U0, U1, U2, U3, U4, U5, U6, U7]).cell? ⟨b, 5, none⟩ = some U5 ∧ (setRow w b 0 [U0, U1, U2, U3, U4, U5, U6, U7]).cell? ⟨b, 6, none⟩ = some U6 ∧ (setRow w b 0 [U0, U1, U2, U3, U4, U5, U6, U7]).cell? ⟨b, 7, none⟩ = some U7 := by
  have hc : ∀ j, j < [U0, U1, U2, U3, U4, U5, U6, U7].length → ∃ U, w.cell? ⟨b, 0 + j, none⟩ = some U := by
    intro j hj
    have : j = 0 ∨ j = 1 ∨ j = 2 ∨ j = 3 ∨ j = 4 ∨ j = 5 ∨ j = 6 ∨ j = 7 := by simp at hj; omega
    rcases this with rfl | rfl | rfl | rfl | rfl | rfl | rfl | rfl
    · exact ⟨_, h.at_ (V := V0) (by simp)⟩
    · exact ⟨_, h.at_ (V := V1) (by simp)⟩
    · exact ⟨_, h.at_ (V := V2) (by simp)⟩
    · exact ⟨_, h.at_ (V := V3) (by simp)⟩
    · exact ⟨_, h.at_ (V := V4) (by simp)⟩
    · exact ⟨_, h.at_ (V := V5) (by simp)⟩
    · exact ⟨_, h.at_ (V := V6) (by simp)⟩
    · exact ⟨_, h.at_ (V := V7) (by simp)⟩
  have k := fun i V hv => setRow_at b [U0, U1, U2, U3, U4, U5, U6, U7] 0 i w V hc hv
  simp only [Nat.zero_add] at k
  exact ⟨k 0 _ rfl, k 1 _ rfl, k 2 _ rfl, k 3 _ rfl, k 4 _ rfl, k 5 _ rfl, k 6 _ rfl, k 7 _ rfl⟩
/-- the end of a function whose answer is a desk -/
theorem RetD.mk {w wn : World} {r V : Nat} {D : DV} {K : Nat → Nat} {X : DD} {l : List Value} {u : Value} (hu : u = deskV D X.v) (Bw : Below w.heap.size w wn) (hr : w.heap.size ≤ r) (hrV : r < V) (O : OwnDesk wn K D X) (hV : V ≤ K 0) :
    RetD X w (.returned u) (setRow wn r 0 l) := by
  subst hu
  refine ⟨D, K, rfl, O.apart (setRow_mid r (B := r) (K := V) ⟨Nat.le_refl _, hrV⟩ l 0 wn) (.inl hV), by omega, ?_⟩
  have m := setRow_mid r (B := r) (K := V) ⟨Nat.le_refl _, hrV⟩ l 0 wn
  have h1 : w.heap.size ≤ wn.heap.size := Bw.size
  exact ⟨m.os.trans Bw.os, m.tape.trans Bw.tape, m.output.trans Bw.output, Nat.le_trans h1 m.size, fun i hi => (m.block i (by omega) (.inl (by omega))).trans (Bw.block i hi)⟩

end Go.Proofs.YtdpkhgkoeoiemaaGreat
