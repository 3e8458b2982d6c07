/- What a law over modules and lists of integers needs. -/
import Derived.Test.YtejojliljplcdaaGreatDoorLawK
import Derived.Test.YtejojliljplcdaaGreatDoorModT
import Derived.Test.YtejojliljplcdaaGreatDoorOpen
import Derived.Test.YtejojliljplcdaaGreatDoorFrC
import Derived.ChangeSlices
namespace Go.Proofs.YtejojliljplcdaaGreatDoor
open Go.RowKit
set_option linter.unusedVariables false

/-- integers, opened -/
theorem open_row {H : Type} {enc : TypeId × Value → H} {P : Program} {w : World} {base : Nat} {held : Bool} {t e : TypeId} {fuel : Nat} {v : Value} {x : DataW H × List MemPlace} (ht : P.underlying t = some (.slice e)) (he : P.underlying e = some (.int .i64))
    (ce : P.cellsOf e = 1) (h : DataW.trod enc P w base (fun _ => true) held fuel t [v] = some x) :
    ∃ A n c xs, v = .slice A n c ∧ RdS w w.heap.size A n c xs ∧ n ≤ 9223372036854775807 ∧ ∀ i ∈ xs, (Lit.int .i64 i).wf = true := by
  rcases Go.ChangeShapes.open_ints ht he ce h with ⟨hv, _⟩ | ⟨a, len, cap, zs, hv, _, hl, hm, hz, _, hc, hw⟩
  · simp only [List.cons.injEq, and_true] at hv
    exact ⟨none, 0, 0, [], hv, RdS.nil, by omega, by simp⟩
  · simp only [List.cons.injEq, and_true] at hv
    unfold maxLen at hm
    simp only [if_true] at hz
    refine ⟨some a, len, cap, zs.take len, hv, ⟨by rw [List.length_take]; omega, hl, fun i hi => ?_⟩, by omega, fun i hi => hw i (List.mem_of_mem_take hi)⟩
    rw [List.length_take] at hi
    have h1 := hc i (by omega)
    have hb := World.block_lt_of_cell? w _ h1
    rw [block_of_add] at hb
    refine ⟨a, rfl, hb, ?_⟩
    rw [h1, List.getElem_take]
    simp [List.getD, show i < zs.length by omega]

/-- a module, read below a block -/
structure RdMd (w : World) (B : Nat) (D : Option Addr) (d q : Nat) (ds : List Int) (A : Option Addr) (n c : Nat) (xss : List (List Int)) : Prop where
  ds : RdS w B D d q ds
  act : RdL w B A n c xss
section
variable {w w' : World} {B B' K K' n c d q : Nat} {A D : Option Addr} {ds xs : List Int} {xss : List (List Int)}
theorem RdMd.below (h : RdMd w B D d q ds A n c xss) (hb : Below B w w') : RdMd w' B D d q ds A n c xss := ⟨h.ds.below hb, h.act.below hb⟩
theorem RdMd.mono (h : RdMd w B D d q ds A n c xss) (hb : B ≤ B') : RdMd w B' D d q ds A n c xss := ⟨h.ds.mono hb, h.act.mono hb⟩
theorem It.rdMd (h : RdMd w B D d q ds A n c xss) (hB : B ≤ w.heap.size) : It 0 B (fun W => RdMd W B D d q ds A n c xss) w :=
  ⟨h, hB, fun w' h1 h2 h3 h4 h5 => h.below ⟨h2, h3, h4, h1, fun k hk => h5 k (Nat.zero_le _) hk⟩⟩
theorem It.rdS (h : RdS w B A n c xs) (hB : B ≤ w.heap.size) : It 0 B (fun W => RdS W B A n c xs) w :=
  ⟨h, hB, fun w' h1 h2 h3 h4 h5 => h.below ⟨h2, h3, h4, h1, fun k hk => h5 k (Nat.zero_le _) hk⟩⟩
theorem It.ownG (h : OwnG w B K A n c xs) (hK : K ≤ w.heap.size) : It B K (fun W => OwnG W B K A n c xs) w :=
  ⟨h, hK, fun w' h1 h2 h3 h4 h5 => h.same h5⟩
/-- a module of one's own, all its blocks from B on and below K -/
structure OwnMd (w : World) (B K : Nat) (D : Option Addr) (d q : Nat) (ds : List Int) (A : Option Addr) (n c : Nat) (xss : List (List Int)) : Prop where
  split : ∃ M, B ≤ M ∧ M ≤ K ∧ OwnG w B M D d q ds ∧ OwnM w M K A n c xss
theorem OwnMd.same (h : OwnMd w B K D d q ds A n c xss) (hs : ∀ g, B ≤ g → g < K → w'.heap[g]? = w.heap[g]?) : OwnMd w' B K D d q ds A n c xss := by
  obtain ⟨M, h1, h2, h3, h4⟩ := h.split
  exact ⟨M, h1, h2, h3.same fun g a b => hs g a (by omega), h4.same fun g a b => hs g (by omega) b⟩
theorem It.ownMd (h : OwnMd w B K D d q ds A n c xss) (hK : K ≤ w.heap.size) : It B K (fun W => OwnMd W B K D d q ds A n c xss) w :=
  ⟨h, hK, fun w' h1 h2 h3 h4 h5 => h.same h5⟩
theorem OwnMd.rd (h : OwnMd w B K D d q ds A n c xss) : RdMd w w.heap.size D d q ds A n c xss := by
  obtain ⟨M, h1, h2, h3, h4⟩ := h.split
  exact ⟨h3.own.rd, h4.own.rd⟩
theorem OwnMd.below (h : OwnMd w B K D d q ds A n c xss) (hb : Below w.heap.size w w') : OwnMd w' B K D d q ds A n c xss := by
  obtain ⟨M, h1, h2, h3, h4⟩ := h.split
  exact ⟨M, h1, h2, h3.below hb, h4.below hb⟩
end

theorem eqSb_any (A1 A2 : Option Addr) (c1 c2 n m : Nat) (xs ys : List Int) (w : World) (B1 B2 : Nat)
   (h1 : RdS w B1 A1 n c1 xs) (h2 : RdS w B2 A2 m c2 ys) (hb1 : n ≤ 1000000000000) (hb2 : m ≤ 1000000000000) :
    Calls Tryz.prog 46 #[.slice A1 n c1, .slice A2 m c2] w (RetBb (decide (xs = ys)) w) :=
  (eqS_any A1 A2 c1 c2 n m xs ys w B1 B2 h1 h2 hb1 hb2).mono fun _ _ ⟨a, q, hw⟩ => ⟨a, by rw [hw]; exact below_drewN (Below.refl _ _) q⟩
def RetMarkG (B K : Nat) (A : Option Addr) (n c : Nat) (ys : List Int) (x : Int) (w : World) (e : Ending) (w' : World) : Prop := e = .returned (.int .i64 x) ∧ OwnG w' B K A n c ys ∧ Mid B K w w'
theorem markSg_any (A : Option Addr) (c n : Nat) (xs : List Int) (w : World) (B K : Nat) (m : Int) (h : OwnG w B K A n c xs) (hn : n ≤ 1000000000000) (h0 : 0 ≤ m) (h1 : m ≤ 1000000000000000) :
    Calls Tryz.prog 47 #[.slice A n c, .int .i64 m] w (RetMarkG B K A n c (marks m n) (m + n) w) :=
  (markS_any A c n xs w B m h.own hn h0 h1).mono fun _ _ ⟨a, ho, hg⟩ => ⟨a, ⟨ho, h.out⟩, Mid.ofGrown hg fun g hh => ⟨(h.own.own.lt g hh).1, h.out g hh⟩⟩
theorem heldSb_any (A : Option Addr) (c n : Nat) (w : World) (B : Nat) (m : Int) (h : RdS w B A n c (marks m n)) (hn : n ≤ 1000000000000) (h0 : 0 ≤ m) (h1 : m ≤ 1000000000000000) :
    Calls Tryz.prog 48 #[.slice A n c, .int .i64 m] w (RetIb (m + n) w) :=
  (heldS_any A c n w B m h hn h0 h1).mono fun _ _ ⟨a, hw⟩ => ⟨a, by rw [hw]; exact Below.refl _ _⟩
def RetMidI (B K : Nat) (x : Int) (w : World) (e : Ending) (w' : World) : Prop := e = .returned (.int .i64 x) ∧ Mid B K w w'
theorem markMod_any (D : Option Addr) (q d : Nat) (ds : List Int) (A : Option Addr) (c n : Nat) (xss : List (List Int)) (w : World) (B K : Nat) (m : Int) (h : OwnMd w B K D d q ds A n c xss) (hK : K ≤ w.heap.size)
    (hd : d ≤ 1000000000) (hn : n ≤ 1000000000) (ht : totalL xss ≤ 1000000000) (h0 : 0 ≤ m) (hm : m ≤ 100000000) (hmd : m + d ≤ 1000000000) :
    Calls Tryz.prog 12 #[.agg #[.slice D d q, .slice A n c], .int .i64 m] w (RetMidI B K (m + d + totalL xss) w) := by
  obtain ⟨M, h1, h2, h3, h4⟩ := h.split
  exact (markModule_any D A d q n c ds xss w B M K m h3 h4 h1 h2 hK hd hn ht h0 hm hmd).mono fun _ _ ⟨a, _, _, hm⟩ => ⟨a, hm⟩
theorem szModule_any (D : Option Addr) (q d : Nat) (ds : List Int) (A : Option Addr) (c n B : Nat) (xss : List (List Int)) (w : World) (left : Int) (h : RdMd w B D d q ds A n c xss) (hB : B ≤ w.heap.size) (h0 : 0 ≤ left) (h1 : left ≤ 1048576)
    (hd : d ≤ 9223372036854775807) (hn : n ≤ 9223372036854775807) (hx : ∀ x ∈ xss, x.length ≤ 9223372036854775807) :
    Calls Tryz.prog 6 #[.agg #[.slice D d q, .slice A n c], .int .i64 left] w (RetIb (szR left (d + (n + totalL xss))) w) := by
  have hb0 : Below w.heap.size w (w.alloc (.cells #[.slice D d q, .slice A n c] 25)) := (Below.refl _ _).alloc (Nat.le_refl _) _
  have H1 := Lib.hid (szS_any D q d (w.alloc (.cells #[.slice D d q, .slice A n c] 25)) left h0 h1 hd)
  by_cases hl : left < (d : Int)
  · rw [show szR left (d + (n + totalL xss)) = -1 from by unfold szR; rw [if_pos (by omega)]]
    rw [show szR left d = -1 from by unfold szR; rw [if_pos hl]] at H1
    have Hb0 := Lib.hid hb0; clear hb0 h hx hl
    go_enter Tryz.func6, Tryz.ntmps6
    go_wp2_with fail
    refine (H1.out).mono ?_
    rintro e w' ⟨rfl, rfl⟩
    go_wp2_with fail
    go_ret
    exact RetIb.mk (y := -1) rfl Hb0.out
  · obtain ⟨r, hr⟩ : ∃ r, r = left - (d : Int) := ⟨_, rfl⟩
    rw [show szR left d = r from by unfold szR; rw [if_neg hl, hr]] at H1
    have H2 := Lib.hid (szL_any A c n B xss (w.alloc (.cells #[.slice D d q, .slice A n c] 25)) r (h.act.below (hb0.mono hB)) (by omega) (by omega) hn hx)
    rw [show szR left (d + (n + totalL xss)) = szR r (n + totalL xss) from by unfold szR; rw [hr]; by_cases e : left - (d : Int) < ((n + totalL xss : Nat) : Int) <;> (first | rw [if_pos (by omega), if_pos (by omega)] | (rw [if_neg (by omega), if_neg (by omega)]; omega))]
    have hr0 : 0 ≤ r := by omega
    obtain ⟨s, hs⟩ : ∃ s, s = szR r (n + totalL xss) := ⟨_, rfl⟩
    have hs1 : s = -1 ∨ 0 ≤ s := by rw [hs]; unfold szR; split <;> omega
    rw [← hs] at H2 ⊢
    have Hb0 := Lib.hid hb0; clear hb0 h hx hl hr hs
    rcases hs1 with rfl | hs1
    all_goals
      go_enter Tryz.func6, Tryz.ntmps6
      go_wp2_with fail
      refine (H1.out).mono ?_
      rintro e w' ⟨rfl, rfl⟩
      go_wp2_with fail
      refine (H2.out).mono ?_
      rintro e w' ⟨rfl, rfl⟩
      go_wp2_with fail
      go_ret
      exact RetIb.mk rfl Hb0.out

/-- a module comes back, of one's own -/
def RetMd (d : Nat) (ds : List Int) (n : Nat) (xss : List (List Int)) (w : World) (e : Ending) (w' : World) : Prop :=
  ∃ D A q c, e = .returned (.agg #[.slice D d q, .slice A n c]) ∧ OwnMd w' w.heap.size w'.heap.size D d q ds A n c xss ∧ Below w.heap.size w w'
theorem toModule_any (D : Option Addr) (q d : Nat) (ds : List Int) (A : Option Addr) (c n : Nat) (xss : List (List Int)) (w : World) (h : RdMd w w.heap.size D d q ds A n c xss) (hd : d ≤ 2000000) (hn : n ≤ 2000000) (ht : totalL xss ≤ 2000000) :
    Calls Tryz.prog 8 #[.agg #[.slice D d q, .slice A n c]] w (RetMd d ds n xss w) := by
  obtain ⟨w0, hw0⟩ : ∃ w0, w0 = ((w.alloc (.cells #[.slice D d q, .slice A n c] 25)).alloc (.cells #[.slice none 0 0, .slice none 0 0] 27)).alloc (.cells #[.slice none 0 0, .slice none 0 0] 27) := ⟨_, rfl⟩
  obtain ⟨b, hbe⟩ : ∃ b, b = w.heap.size := ⟨_, rfl⟩
  have hb0 : Below w.heap.size w w0 := by rw [hw0]; exact (((Below.refl _ _).alloc (Nat.le_refl _) _).alloc (by simp) _).alloc (by simp; omega) _
  have hz0 : w0.heap.size = b + 1 + 1 + 1 := by rw [hw0, hbe]; simp
  have hF : Cells [(b + 1 + 1, 0, .slice none 0 0), (b + 1 + 1, 1, .slice none 0 0), (b + 1, 0, .slice none 0 0), (b + 1, 1, .slice none 0 0), (b, 0, .slice D d q), (b, 1, .slice A n c)] w0 := by
    rw [hw0]
    exact ((Cells.nil.alloc2 _ _ _ hbe).alloc2 _ _ _ (by rw [hbe]; simp)).alloc2 _ _ _ (by rw [hbe]; simp)
  have H := Lib.hid (show RdMd w0 b D d q ds A n c xss from by rw [hbe]; exact h.below hb0)
  have H1 := Lib.hid (toS_any D q d ds w0 (H.out.ds.mono (by omega)) hd)
  have Hw := Lib.hid hw0
  have Hbe := Lib.hid hbe
  have Hb0 := Lib.hid hb0
  have HZ := Lib.hid hz0
  have F0 := Lib.hid hF
  have k0 := F0.out.at_ (b := b) (o := 0) (V := .slice D d q) (by simp)
  obtain ⟨R, hR⟩ : ∃ R, R = RetMd d ds n xss w := ⟨_, rfl⟩
  have HR := Lib.hid hR
  rw [← hR]
  clear h hw0 hbe hb0 hz0 hF hR
  go_enter Tryz.func8, Tryz.ntmps8
  go_wp2_with fail
  rw [← Hw.out, ← Hbe.out]
  go_wp2_with fail
  refine H1.out.mono ?_
  rintro e w1 ⟨D1, q1, rfl, ho1, hb1⟩
  have F1 := F0.out.below hb1
  obtain ⟨W2, hW2⟩ : ∃ W, W = w1.setCell ⟨b + 1 + 1, 0, none⟩ (.slice D1 d q1) := ⟨_, rfl⟩
  have F2 := F1.set (fun x hx => by simp at hx; rcases hx with rfl | rfl | rfl | rfl | rfl <;> simp <;> omega) (.slice D1 d q1)
  rw [← hW2] at F2
  have hz1 := hb1.size
  have hm2 : Mid b (b + 1 + 1 + 1) w1 W2 := by rw [hW2]; exact mid_setCell (p := ⟨b + 1 + 1, 0, none⟩) _ ⟨(by omega : b ≤ b + 1 + 1), (by omega : b + 1 + 1 < b + 1 + 1 + 1)⟩
  have hz2 : w1.heap.size = W2.heap.size := by rw [hW2]; simp [World.setCell]
  have hG2 : OwnG W2 w0.heap.size w1.heap.size D1 d q1 ds := ho1.g.apart hm2 (.inl (by rw [HZ.out]; exact Nat.le_refl _))
  have hB2 : Below w.heap.size w W2 := (Hb0.out.trans (hb1.mono Hb0.out.size)).trans ((hm2.below (by have := HZ.out; omega)).mono (Nat.le_of_eq Hbe.out.symm))
  have HFr := Lib.hid (F1.fr (b := b + 1 + 1) (o := 0) (V := .slice none 0 0) (by simp))
  have kf0 := HFr.out
  have kf1 := F1.at_ (b := b + 1 + 1) (o := 0) (V := .slice none 0 0) (by simp)
  have k1 := F2.at_ (b := b) (o := 1) (V := .slice A n c) (by simp)
  rw [hW2] at k1
  have H2 := Lib.hid (toL_any A c n xss W2 (((H.out.act.below (hb1.mono (by have := HZ.out; omega))).below (hm2.below (by have := HZ.out; omega))).mono (by have := HZ.out; omega)) hn ht)
  have HW2 := Lib.hid hW2
  have F2' := Lib.hid F2
  have G2 := Lib.hid hG2
  have Z1 := Lib.hid hz1
  have Z2 := Lib.hid hz2
  have B2 := Lib.hid hB2
  clear ho1 hb1 F1 hm2 hz1 hz2 hW2 F2 hG2 hB2 k0 HFr
  go_wp2_with fail
  rw [← HW2.out]
  refine H2.out.mono ?_
  rintro e w3 ⟨A1, c1, rfl, ho3, hb3⟩
  have F3 := F2'.out.below hb3
  have G3 := Lib.hid (G2.out.below hb3)
  have hz3 := hb3.size
  have hM := ho3.m (Nat.le_refl _)
  have HB3 := Lib.hid (B2.out.trans (hb3.mono B2.out.size))
  have F4 := (F3.sub (M := [(b + 1 + 1, 1, .slice none 0 0), (b + 1 + 1, 0, .slice D1 d q1), (b + 1, 0, .slice none 0 0), (b + 1, 1, .slice none 0 0)]) (by intro x hx; simp at hx ⊢; rcases hx with rfl | rfl | rfl | rfl <;> simp)).set
    (fun x hx => by simp at hx; rcases hx with rfl | rfl | rfl <;> simp <;> omega) (.slice A1 n c1)
  have m4 : Mid b (b + 1 + 1 + 1) w3 (w3.setCell ⟨b + 1 + 1, 1, none⟩ (.slice A1 n c1)) := mid_setCell (p := ⟨b + 1 + 1, 1, none⟩) _ ⟨(by omega : b ≤ b + 1 + 1), (by omega : b + 1 + 1 < b + 1 + 1 + 1)⟩
  have ka := F3.at_ (b := b + 1 + 1) (o := 1) (V := .slice none 0 0) (by simp)
  have kb := F3.fr (b := b + 1 + 1) (o := 1) (V := .slice none 0 0) (by simp)
  obtain ⟨W4, hW4⟩ : ∃ W, W = w3.setCell ⟨b + 1 + 1, 1, none⟩ (.slice A1 n c1) := ⟨_, rfl⟩
  rw [← hW4] at F4 m4
  have kc := F4.at_ (b := b + 1 + 1) (o := 0) (V := .slice D1 d q1) (by simp)
  have kd := F4.at_ (b := b + 1 + 1) (o := 1) (V := .slice A1 n c1) (by simp)
  have ke := F4.at_ (b := b + 1) (o := 0) (V := .slice none 0 0) (by simp)
  have kf := F4.fr (b := b + 1) (o := 0) (V := .slice none 0 0) (by simp)
  have kg := F4.at_ (b := b + 1) (o := 1) (V := .slice none 0 0) (by simp)
  have kh := F4.fr (b := b + 1) (o := 1) (V := .slice none 0 0) (by simp)
  have F5 := (F4.sub (M := [(b + 1, 0, .slice none 0 0), (b + 1, 1, .slice none 0 0)]) (by intro x hx; simp at hx ⊢; rcases hx with rfl | rfl <;> simp)).set (fun x hx => by simp at hx; subst hx; simp) (.slice D1 d q1)
  have F6 := (F5.sub (M := [(b + 1, 1, .slice none 0 0), (b + 1, 0, .slice D1 d q1)]) (by intro x hx; simp at hx ⊢; rcases hx with rfl | rfl <;> simp)).set (fun x hx => by simp at hx; subst hx; simp) (.slice A1 n c1)
  have m6 : Mid b (b + 1 + 1 + 1) w3 ((W4.setCell ⟨b + 1, 0, none⟩ (.slice D1 d q1)).setCell ⟨b + 1, 1, none⟩ (.slice A1 n c1)) :=
    (m4.trans (mid_setCell (p := ⟨b + 1, 0, none⟩) _ ⟨(by omega : b ≤ b + 1), (by omega : b + 1 < b + 1 + 1 + 1)⟩)).trans (mid_setCell (p := ⟨b + 1, 1, none⟩) _ ⟨(by omega : b ≤ b + 1), (by omega : b + 1 < b + 1 + 1 + 1)⟩)
  have k5 := F5.at_ (b := b + 1) (o := 1) (V := .slice none 0 0) (by simp)
  have k5f := F5.fr (b := b + 1) (o := 1) (V := .slice none 0 0) (by simp)
  have k6 := F6.at_ (b := b + 1) (o := 0) (V := .slice D1 d q1) (by simp)
  have k7 := F6.at_ (b := b + 1) (o := 1) (V := .slice A1 n c1) (by simp)
  obtain ⟨W6, hW6⟩ : ∃ W, W = (W4.setCell ⟨b + 1, 0, none⟩ (.slice D1 d q1)).setCell ⟨b + 1, 1, none⟩ (.slice A1 n c1) := ⟨_, rfl⟩
  have hz6 : w3.heap.size ≤ W6.heap.size := by rw [hW6, hW4]; simp [World.setCell]
  have hfin : RetMd d ds n xss w (.returned (.agg #[.slice D1 d q1, .slice A1 n c1])) W6 := by
    rw [← hW6] at m6
    have e1 := Hbe.out
    have e2 := HZ.out
    have e3 := Z1.out
    have e4 := Z2.out
    refine ⟨_, _, _, _, rfl, ⟨w1.heap.size, by omega, by omega, ?_, ?_⟩, HB3.out.trans ((m6.below (by omega)).mono (by omega))⟩
    · exact (G3.out.apart m6 (.inl (by omega))).mono (by omega) (Nat.le_refl _)
    · exact ((hM.apart m6 (Nat.le_refl _) (.inl (by omega))).mono (by omega) (by omega))
  have HFin := Lib.hid hfin
  rw [hW6] at HFin
  rw [hW4] at HFin kc kd ke kf kg kh k5 k5f k6 k7
  clear ho3 hb3 F3 hz3 hM F4 m4 F5 F6 m6 hz6 hfin hW4 hW6
  go_wp2_with fail
  rw [HR.out]
  exact bodyPost_ret (v := .agg #[.slice D1 d q1, .slice A1 n c1]) (by simp [results, Tryz.results8, go_sem, k6, k7]) rfl HFin.out
theorem open_rowT {H : Type} {enc : TypeId × Value → H} {P : Program} {w : World} {base : Nat} {held : Bool} {t e : TypeId} {v : Value} {d : DataW H} {p : List MemPlace} (ht : P.underlying t = some (.slice e)) (he : P.underlying e = some (.int .i64))
    (ce : P.cellsOf e = 1) {b0 : Nat} {r : Reach} (hv : Value.okWide P w r b0 t v) (h : DataW.Trod enc P w base (fun _ => true) held t v d p) :
    ∃ A n c xs, v = .slice A n c ∧ RdS w w.heap.size A n c xs ∧ n ≤ 9223372036854775807 ∧ ∀ i ∈ xs, (Lit.int .i64 i).wf = true := by
  obtain ⟨A, n, c, rfl⟩ := Go.WideShapes.okWide_slice ht hv
  obtain ⟨fuel, hf⟩ := h
  obtain ⟨A', n', c', xs, hv', h1, h2, h3⟩ := open_row ht he ce (show DataW.trod enc P w base (fun _ => true) held fuel t [.slice A n c] = some (d, p) from hf)
  exact ⟨A', n', c', xs, hv', h1, h2, h3⟩
end Go.Proofs.YtejojliljplcdaaGreatDoor
