/- IsLambda on both sides. -/
import Derived.Test.YtejojliljplcdaaGreatDoorIsL
namespace Go.Proofs.YtejojliljplcdaaGreatDoor
open Go.RowKit
set_option linter.unusedVariables false

theorem len_le_of_total {xss : List (List Int)} {x : List Int} (h : x ∈ xss) : x.length ≤ totalL xss := by
  obtain ⟨k, hk, rfl⟩ := List.getElem_of_mem h
  exact len_le_total (Lib.hid (List.getElem?_eq_getElem hk))
theorem box_cell {w w1 : World} {T : TypeId} {cs : Array Value} {i : Nat} {v : Value} (hb : Below (w.alloc (.cells cs T)).heap.size (w.alloc (.cells cs T)) w1) (hv : (w.alloc (.cells cs T)).cell? ⟨w.heap.size, i, none⟩ = some v) :
    w1.cell? ⟨w.heap.size, i, none⟩ = some v := (hb.cell (p := ⟨w.heap.size, i, none⟩) (by simp)).trans hv

def okx (x0 x : List Int) : Bool := wordB x && decide (lenI x = lenI x0) && decide (psT 0 x = psT 0 x0)
theorem isLB_eq (xss : List (List Int)) : isLB xss = (decide (xss.length ≤ 2000) && risB xss && xss.all (okx (xss.headD []))) := by
  have h : xss.all (okx (xss.headD [])) = (xss.all wordB && sameB (psT 0) xss && sameB lenI xss) := by
    rw [Bool.eq_iff_iff]
    simp only [Bool.and_eq_true, List.all_eq_true, sameB, okx]
    exact ⟨fun h => ⟨⟨fun x hx => (h x hx).1.1, fun x hx => (h x hx).2⟩, fun x hx => (h x hx).1.2⟩, fun h x hx => ⟨⟨h.1.1 x hx, h.2 x hx⟩, h.1.2 x hx⟩⟩
  rw [h]
  simp only [isLB, Bool.and_assoc]
theorem all_take_succL {xss : List (List Int)} {k : Nat} {x : List Int} {p : List Int → Bool} (hx : Hid (xss[k]? = some x)) (h : Hid ((xss.take k).all p = true)) (hp : Hid (p x = true)) : (xss.take (k + 1)).all p = true := by
  rw [List.take_add_one, hx.out, List.all_append, h.out]; simp [hp.out]
theorem all_no {xss : List (List Int)} {k : Nat} {x : List Int} {p : List Int → Bool} (hx : Hid (xss[k]? = some x)) (hp : Hid (p x = false)) : xss.all p = false := by
  rw [List.all_eq_false]; exact ⟨x, List.mem_of_getElem? hx.out, by simp [hp.out]⟩

end Go.Proofs.YtejojliljplcdaaGreatDoor
