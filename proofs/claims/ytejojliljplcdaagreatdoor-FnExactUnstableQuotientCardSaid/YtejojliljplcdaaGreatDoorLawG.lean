/- Law helpers where the answer is a module, or a module and a list of vectors. -/
import Derived.Test.YtejojliljplcdaaGreatDoorLawS
import Derived.Test.YtejojliljplcdaaGreatDoorPutP
namespace Go.Proofs.YtejojliljplcdaaGreatDoor
open Go.RowKit
set_option linter.unusedVariables false

/-- a module that reads and a code -/
def RetG1 (D : List Int) (AA : List (List Int)) (k : Int) (w : World) (e : Ending) (w' : World) : Prop :=
  ∃ R r A c, e = .returned (.tuple #[.agg #[.slice R D.length r, .slice A AA.length c], .int .i64 k]) ∧ RdMd w' w'.heap.size R D.length r D A AA.length c AA ∧ Ext w w'
/-- a module of one's own and a code -/
def OwG1 (D : List Int) (AA : List (List Int)) (k : Int) (w : World) (e : Ending) (w' : World) : Prop :=
  ∃ R r A c, e = .returned (.tuple #[.agg #[.slice R D.length r, .slice A AA.length c], .int .i64 k]) ∧ OwnMd w' w.heap.size w'.heap.size R D.length r D A AA.length c AA ∧ Ext w w'
def RetG2 (D : List Int) (AA II : List (List Int)) (k : Int) (w : World) (e : Ending) (w' : World) : Prop :=
  ∃ R r A c I i, e = .returned (.tuple #[.agg #[.slice R D.length r, .slice A AA.length c], .slice I II.length i, .int .i64 k]) ∧ RdMd w' w'.heap.size R D.length r D A AA.length c AA ∧ RdL w' w'.heap.size I II.length i II ∧ Ext w w'
def OwG2 (D : List Int) (AA II : List (List Int)) (k : Int) (w : World) (e : Ending) (w' : World) : Prop :=
  ∃ R r A c I i K, e = .returned (.tuple #[.agg #[.slice R D.length r, .slice A AA.length c], .slice I II.length i, .int .i64 k]) ∧ w.heap.size ≤ K ∧ K ≤ w'.heap.size ∧ OwnMd w' w.heap.size K R D.length r D A AA.length c AA ∧ OwnM w' K w'.heap.size I II.length i II ∧ Ext w w'
theorem RetQr.rd {D : List Int} {AA II : List (List Int)} {k : Int} {w w' : World} {e : Ending} (h : RetQr D AA II k w e w') : RetG2 D AA II k w e w' := by
  obtain ⟨A1, c1, A2, c2, A3, c3, rfl, h1, h2, h3, hb⟩ := h
  exact ⟨A1, c1, A2, c2, A3, c3, rfl, ⟨h1, h2⟩, h3, hb⟩
theorem OwnL.min {w : World} {B K : Nat} {A : Option Addr} {n c : Nat} {xss : List (List Int)} (h : OwnL w B K A n c xss) : OwnL w B (min K w.heap.size) A n c xss := by
  obtain ⟨vs, h1, h2, h3⟩ := h.rows
  refine ⟨h.len, vs, h1, fun j v xs hv hx => ?_, h3⟩
  obtain ⟨A', n', c', rfl, h4, h5⟩ := h2 j v xs hv hx
  exact ⟨A', n', c', rfl, h4, fun g e => by have := (h4.own.lt g e).2; have := h5 g e; omega⟩
theorem RetQu.ow {D : List Int} {AA II : List (List Int)} {k : Int} {w w' : World} {e : Ending} (h : RetQu D AA II k w e w') : OwG2 D AA II k w e w' := by
  obtain ⟨A1, c1, A2, c2, A3, c3, K1, K2, rfl, h1, h2, p1, pl, p2, p3, hb⟩ := h
  have hs := hb.size
  refine ⟨A1, c1, A2, c2, A3, c3, Nat.min K2 w'.heap.size, rfl, ?_, Nat.min_le_right _ _, ⟨Nat.min K1 w'.heap.size, ?_, ?_, ⟨p1, fun g e => ?_⟩, ⟨p2.own.min.mono (Nat.min_le_left _ _) (Nat.le_refl _), fun g e => ?_⟩⟩, ⟨p3.mono (Nat.min_le_left _ _) (Nat.le_refl _), p3.lt⟩, hb⟩
  · exact Nat.le_min.2 ⟨by omega, hs⟩
  · exact Nat.le_min.2 ⟨by omega, hs⟩
  · exact Nat.le_min.2 ⟨Nat.le_trans (Nat.min_le_left _ _) h2, Nat.min_le_right _ _⟩
  · exact Nat.lt_min.2 ⟨pl g e, (p1.own.lt g e).2⟩
  · exact Nat.lt_min.2 ⟨p2.out g e, p2.own.lt g e⟩
theorem eqLb_any (A1 A2 : Option Addr) (c1 c2 n m : Nat) (xs ys : List (List Int)) (w : World) (B1 B2 : Nat) (h1 : RdL w B1 A1 n c1 xs) (h2 : RdL w B2 A2 m c2 ys) (hb1 : n ≤ 1000000000000) (hb2 : m ≤ 1000000000000) (ht1 : totalL xs ≤ 1000000000000) (ht2 : totalL ys ≤ 1000000000000) :
    Calls Tryz.prog 11 #[.slice A1 n c1, .slice A2 m c2] w (RetBb (decide (xs = ys)) w) :=
  (eqL_any A1 A2 c1 c2 n m xs ys w B1 B2 h1 h2 hb1 hb2 ht1 ht2).mono fun _ _ ⟨a, q, hw⟩ => ⟨a, by rw [hw]; exact below_drewN (Below.refl _ _) q⟩
theorem heldLb_any (A : Option Addr) (c n : Nat) (xss : List (List Int)) (w : World) (B : Nat) (m : Int) (h : RdL w B A n c (marksL m xss)) (hn : n ≤ 1000000000000) (ht : totalL xss ≤ 1000000000000) (h0 : 0 ≤ m) (h1 : m ≤ 1000000000) :
    Calls Tryz.prog 15 #[.slice A n c, .int .i64 m] w (RetIb (m + totalL xss) w) :=
  (heldL_any A c n xss w B m h hn ht h0 h1).mono fun _ _ ⟨a, hw⟩ => ⟨a, by rw [hw]; exact Below.refl _ _⟩
/-! bounds of the answers -/
theorem totalL_three : ∀ {xss : List (List Int)}, (∀ x ∈ xss, x.length ≤ 100) → totalL xss ≤ 100 * xss.length
  | [], _ => by simp [totalL]
  | x :: xss, h => by
    have h1 := totalL_three fun y hy => h y (List.mem_cons_of_mem _ hy)
    have h2 := h x (by simp)
    simp only [totalL, List.length_cons, List.map_cons, List.sum_cons] at *
    omega
theorem quD_len (S : List Nat) (ds : List Int) : (quD S ds).length ≤ ds.length := by unfold quD; rw [List.length_map]; exact keptL_len _ _
theorem quA_mem {S : List Nat} {ds : List Int} {act : List (List Int)} {x : List Int} (h : x ∈ quA S ds act) : x.length = 3 := by
  unfold quA actM at h
  obtain ⟨j, _, h⟩ := List.mem_flatMap.1 h
  unfold actB at h
  obtain ⟨b, _, h⟩ := List.mem_flatMap.1 h
  unfold actC at h
  obtain ⟨c, _, rfl⟩ := List.mem_map.1 h
  rfl
theorem quA_len (S : List Nat) (ds : List Int) (act : List (List Int)) (h : ds.length ≤ 16) : (quA S ds act).length ≤ 5120 := by
  unfold quA
  refine Nat.le_trans (actM_len _ _ _) ?_
  have h1 := Nat.le_trans (keptL_len S ds.length) h
  have := Nat.mul_le_mul h1 h1
  omega
theorem quI_len (S : List Nat) (ds : List Int) : (quI S ds).length = ds.length := by unfold quI; simp
theorem quI_mem {S : List Nat} {ds : List Int} {x : List Int} (h : x ∈ quI S ds) (hd : ds.length ≤ 16) : x.length ≤ 16 := by
  unfold quI at h
  obtain ⟨i, _, rfl⟩ := List.mem_map.1 h
  rw [vecF_len]
  exact Nat.le_trans (keptL_len _ _) hd
end Go.Proofs.YtejojliljplcdaaGreatDoor
