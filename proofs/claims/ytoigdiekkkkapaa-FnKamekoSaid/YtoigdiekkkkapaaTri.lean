/- Slices of lists of lists that are only read; spec.l01Place. -/
import Derived.Test.YtoigdiekkkkapaaPut
import Derived.Test.YtoigdiekkkkapaaHitP
import Derived.Test.YtoigdiekkkkapaaSumL
namespace Go.Proofs.Ytoigdiekkkkapaa
open Go.RowKit
set_option linter.unusedVariables false

/-- cells that read as lists of lists below B -/
def RowsT (w : World) (B : Nat) (ps : List (Value × Pol)) : Prop := ∀ p ∈ ps, ∃ A n c, p.1 = .slice A n c ∧ RdL w B A n c p.2
theorem RowsT.below {w w' : World} {B : Nat} {ps : List (Value × Pol)} (h : RowsT w B ps) (hb : Below B w w') : RowsT w' B ps := fun p hp => by
  obtain ⟨A, n, c, e, hr⟩ := h p hp
  exact ⟨A, n, c, e, hr.below hb⟩
theorem RowsT.mono {w : World} {B B' : Nat} {ps : List (Value × Pol)} (h : RowsT w B ps) (hb : B ≤ B') : RowsT w B' ps := fun p hp => by
  obtain ⟨A, n, c, e, hr⟩ := h p hp
  exact ⟨A, n, c, e, hr.mono hb⟩
theorem RowsT.one {w : World} {B : Nat} {ps : List (Value × Pol)} (h : RowsT w B ps) : ∀ u ∈ ps.map (·.1), u.oneCell' = true := fun u hu => by
  obtain ⟨p, hp, rfl⟩ := List.mem_map.1 hu
  obtain ⟨A, n, c, e, _⟩ := h p hp
  rw [e]; rfl
/-- a slice that reads as lists of lists, below B -/
def RdC (w : World) (B : Nat) (A : Option Addr) (n c : Nat) (qs : List Pol) : Prop := ∃ ps : List (Value × Pol), ps.map (·.2) = qs ∧ RdV w B A n c (ps.map (·.1)) ∧ RowsT w B ps
theorem RdC.len {w : World} {B n c : Nat} {A : Option Addr} {qs : List Pol} (h : RdC w B A n c qs) : qs.length = n := by
  obtain ⟨ps, rfl, h1, h2⟩ := h
  have := h1.len
  simpa using this
theorem RdC.cap {w : World} {B n c : Nat} {A : Option Addr} {qs : List Pol} (h : RdC w B A n c qs) : n ≤ c := by
  obtain ⟨ps, rfl, h1, h2⟩ := h
  exact h1.cap
theorem RdC.below {w w' : World} {B n c : Nat} {A : Option Addr} {qs : List Pol} (h : RdC w B A n c qs) (hb : Below B w w') : RdC w' B A n c qs := by
  obtain ⟨ps, e, h1, h2⟩ := h
  exact ⟨ps, e, h1.below hb, h2.below hb⟩
theorem RdC.mono {w : World} {B B' n c : Nat} {A : Option Addr} {qs : List Pol} (h : RdC w B A n c qs) (hb : B ≤ B') : RdC w B' A n c qs := by
  obtain ⟨ps, e, h1, h2⟩ := h
  exact ⟨ps, e, h1.mono hb, h2.mono hb⟩
theorem RdC.here {w w' : World} {n c : Nat} {A : Option Addr} {qs : List Pol} (h : RdC w w.heap.size A n c qs) (hb : Below w.heap.size w w') : RdC w' w'.heap.size A n c qs := (h.below hb).mono hb.size
theorem RdC.at_ {w : World} {B n c k : Nat} {A : Option Addr} {qs : List Pol} (h : RdC w B A n c qs) (hk : k < n) :
    ∃ ad A' n' c' p, A = some ad ∧ ad.block < B ∧ Hid (qs[k]? = some p) ∧ w.cell? (ad.add k) = some (.slice A' n' c') ∧ RdL w B A' n' c' p := by
  obtain ⟨ps, rfl, h1, h2⟩ := h
  obtain ⟨ad, x, rfl, hb, hx, hc⟩ := h1.at_ hk
  have hx := hx.out
  rw [List.getElem?_map, Option.map_eq_some_iff] at hx
  obtain ⟨p, hp, rfl⟩ := hx
  obtain ⟨A', n', c', e, hr⟩ := h2 p (List.mem_of_getElem? hp)
  exact ⟨ad, A', n', c', p.2, rfl, hb, Lib.hid (by rw [List.getElem?_map, hp]; rfl), by rw [hc, e], hr⟩
theorem RdC.nil {w : World} {B n c : Nat} {A : Option Addr} (h : RdV w B A n c []) : RdC w B A n c [] := ⟨[], rfl, h, fun p hp => by cases hp⟩

/-- a call that answers lists that are only read, and writes nothing that was there -/
def RetRL (t : Pol) (w : World) (e : Ending) (w' : World) : Prop := ∃ A c, e = .returned (.slice A t.length c) ∧ RdL w' w'.heap.size A t.length c t ∧ Below w.heap.size w w'
theorem RetRL.mk {t u : Pol} {A : Option Addr} {n c : Nat} {w w' : World} (h : RdL w' w'.heap.size A n c u) (e : u = t) (hb : Below w.heap.size w w') : RetRL t w (.returned (.slice A n c)) w' := by
  subst e
  obtain rfl := h.len
  exact ⟨A, c, rfl, h, hb⟩

/-- a place, or -1 -/
def RetPlc (b : Bool) (w : World) (e : Ending) (w' : World) : Prop := ∃ p : Int, e = .returned (.int .i64 p) ∧ Hid (decide (0 ≤ p) = b) ∧ ∃ q, w' = w.drewN q
end Go.Proofs.Ytoigdiekkkkapaa

/- spec.l09Row: terms without the greatest terms of rows. -/
namespace Go.Proofs.Ytoigdiekkkkapaa
open Go.RowKit
set_option linter.unusedVariables false

theorem redT_take {rows : List Pol} {t r : Pol} {k : Nat} (h : rows[k]? = some r) : redT (rows.take (k + 1)) t = (if lastL r ∈ redT (rows.take k) t then oddL (redT (rows.take k) t ++ r) else redT (rows.take k) t) := by
  rw [List.take_add_one, h]
  unfold redT
  rw [List.foldl_append]; rfl
theorem asc_le {t M : Pol} (h : Asc t) (hs : ∀ z ∈ t, z ∈ M) : t.length ≤ M.length := (asc_nodup h).length_le_of_subset hs
theorem total_le {t M : Pol} {b : Nat} (h : Asc t) (hs : ∀ z ∈ t, z ∈ M) (hb : ∀ z ∈ M, z.length ≤ b) : totalL t ≤ M.length * b := by
  have h1 : totalL t ≤ t.length * b := by
    clear h
    induction t with
    | nil => simp [totalL]
    | cons x t ih =>
      have := ih fun z hz => hs z (List.mem_cons_of_mem _ hz)
      have h2 := hb x (hs x (by simp))
      simp only [totalL, List.map_cons, List.sum_cons, List.length_cons] at this ⊢
      rw [Nat.add_mul]; omega
  exact Nat.le_trans h1 (Nat.mul_le_mul_right _ (asc_le h hs))
/-- terms and rows over a list of monomials that is not too long -/
structure Within (M t : Pol) : Prop where
  asc : Asc t
  sub : ∀ z ∈ t, z ∈ M
structure Small (M : Pol) : Prop where
  len : M.length ≤ 1000000
  each : ∀ z ∈ M, z.length ≤ 8
theorem Within.len {M t : Pol} (h : Within M t) (hM : Small M) : t.length ≤ 1000000 := Nat.le_trans (asc_le h.asc h.sub) hM.len
theorem Within.total {M t : Pol} (h : Within M t) (hM : Small M) : totalL t ≤ 8000000 := Nat.le_trans (total_le h.asc h.sub hM.each) (by have := hM.len; omega)
theorem Within.odd {M s t : Pol} (h : Within M s) (k : Within M t) : Within M (oddL (s ++ t)) := ⟨oddL_asc _, fun z hz => by
  rcases List.mem_append.1 (oddL_mem hz) with hz | hz
  · exact h.sub z hz
  · exact k.sub z hz⟩
theorem Within.redT {M t : Pol} {rows : List Pol} (h : Within M t) (hr : ∀ r ∈ rows, Within M r) : Within M (redT rows t) := by
  induction rows generalizing t with
  | nil => exact h
  | cons r rs ih =>
    show Within M (Go.Proofs.Ytoigdiekkkkapaa.redT rs (if lastL r ∈ t then oddL (t ++ r) else t))
    refine ih ?_ fun q hq => hr q (List.mem_cons_of_mem _ hq)
    split
    · exact h.odd (hr r (by simp))
    · exact h
theorem lastL_at {r : Pol} {m : Nat} (h : r.length = m + 1) : r[m]? = some (lastL r) := by
  unfold lastL
  rw [List.getLast?_eq_getElem?, h, Nat.add_sub_cancel, List.getElem?_eq_getElem (by omega)]; rfl
theorem rdL_stay {w w' : World} {A : Option Addr} {n c : Nat} {t : Pol} (h : RdL w w.heap.size A n c t) (hb : Below w.heap.size w w') : RdL w' w'.heap.size A n c t := (h.below hb).mono hb.size
end Go.Proofs.Ytoigdiekkkkapaa
