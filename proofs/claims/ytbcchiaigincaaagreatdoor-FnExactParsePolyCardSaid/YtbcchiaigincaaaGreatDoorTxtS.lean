/- Texts of lambda words: the reference's functions. -/
import Derived.Test.YtbcchiaigincaaaGreatDoorFrC
import Derived.Laws.IdiomStrings
import Derived.Deep.RegionWith
import Derived.Lib.Join
import Derived.Laws.Concat
namespace Go.Proofs.YtbcchiaigincaaaGreatDoor
open Go.RowKit
set_option linter.unusedVariables false

def XCl (W : World) (H : Nat) (v : Value) : Prop := H < W.heap.size ∧ W.cell? ⟨H, 0, none⟩ = some v
theorem xcl_new (W : World) (v : Value) (T : TypeId) : XCl (W.alloc (.cells #[v] T)) W.heap.size v := ⟨by simp, by simp⟩
theorem xcl_below {W u : World} {H : Nat} {v : Value} (h : XCl W H v) (hb : Below W.heap.size W u) : XCl u H v := ⟨Nat.lt_of_lt_of_le h.1 hb.size, (hb.cell (p := ⟨H, 0, none⟩) h.1).trans h.2⟩
theorem xcl_dr {W : World} {H : Nat} {v : Value} (h : XCl W H v) : XCl W.drew H v := h
theorem xbelow_al {B : Nat} {wz W : World} (h : Below B wz W) (hB : B ≤ wz.heap.size) (o : Obj) : Below B wz (W.alloc o) := h.alloc (Nat.le_trans hB h.size) o
theorem xbelow_dr {B : Nat} {wz W : World} (h : Below B wz W) : Below B wz W.drew := below_drewN h 1
/-- the byte of a digit -/
def dg (n : Nat) : UInt8 := UInt8.ofNat (48 + n)
theorem dg_nat {n : Nat} (h : n < 10) : (dg n).toNat = 48 + n := by
  unfold dg
  rw [UInt8.toNat_ofNat']
  omega
theorem conv_dig (w : World) (g n : Nat) (h : n < 10) (hc : w.cell? ⟨g, 0, none⟩ = some (.int .u8 (48 + (n : Int)))) :
    (convert 89 9 (.slice (some ⟨g, 0, none⟩) 1 1)).run Tryz.prog w = .ok (.string ⟨#[dg n]⟩) w := by
  have := run_convert_bytes_back (P := Tryz.prog) w 89 9 5 ⟨g, 0, none⟩ 1 [dg n] Tryz.underlying89 Tryz.underlying5 Tryz.underlying9 (fun j hj => by
    have : j = 0 := by simpa using hj
    subst this
    show w.cell? ⟨g, 0, none⟩ = _
    rw [hc]
    show some (Value.int .u8 (48 + (n : Int))) = some (Value.int .u8 ((dg n).toNat : Int))
    rw [dg_nat h]
    push_cast
    rfl)
  exact this
def RetTx (t : List UInt8) (w : World) (e : Ending) (w' : World) : Prop := e = .returned (.string ⟨t.toArray⟩) ∧ Below w.heap.size w w'
theorem RetTx.mk {t : List UInt8} {s : ByteArray} {w w' : World} (h : s = ⟨t.toArray⟩) (hb : Below w.heap.size w w') : RetTx t w (.returned (.string s)) w' := by subst h; exact ⟨rfl, hb⟩
/-- an answer of a string and a code -/
def RetTSC (s : ByteArray) (k : Int) (w : World) (e : Ending) (w' : World) : Prop := e = .returned (.tuple #[.string s, .int .i64 k]) ∧ Below w.heap.size w w'
/-- a number of at most two digits -/
def decW (n : Nat) : List UInt8 := if n < 10 then [dg n] else [dg (n / 10), dg (n % 10)]
theorem decW_len (n : Nat) : (decW n).length ≤ 2 := by unfold decW; split <;> simp
theorem join_snoc (xs : List (List UInt8)) (y sep : List UInt8) : Lib.join (xs ++ [y]) sep = if xs = [] then y else Lib.join xs sep ++ sep ++ y := by
  cases xs with
  | nil => simp [Lib.join_one]
  | cons x r =>
    rw [if_neg (by simp), List.cons_append, Lib.join_cons, Lib.join_cons]
    have h : ∀ r : List (List UInt8), Lib.joinTail sep (r ++ [y]) = Lib.joinTail sep r ++ (sep ++ y) := by
      intro r
      induction r with
      | nil => simp [Lib.joinTail]
      | cons a r ih =>
        simp only [List.cons_append]
        simp [Lib.joinTail]
    rw [h]
    simp
/-- numbers, joined -/
def numT (sep : List UInt8) (xs : List Int) : List UInt8 := Lib.join (xs.map fun i => decW i.toNat) sep
theorem numT_take {sep : List UInt8} {xs : List Int} {k : Nat} {i : Int} (h : xs[k]? = some i) : numT sep (xs.take (k + 1)) = if k = 0 then numT sep (xs.take k) ++ decW i.toNat else numT sep (xs.take k) ++ sep ++ decW i.toNat := by
  unfold numT
  have hk := (List.getElem?_eq_some_iff.1 h).1
  rw [List.take_add_one, h, List.map_append]
  show Lib.join (_ ++ [decW i.toNat]) sep = _
  rw [join_snoc]
  by_cases h0 : k = 0
  · subst h0
    simp [Lib.join_nil]
  · rw [if_neg h0, if_neg (by
      intro e
      have h1 := congrArg List.length e
      rw [List.length_map, List.length_take] at h1
      simp only [List.length_nil] at h1
      omega)]
theorem numT_len (sp : UInt8) (xs : List Int) : (numT [sp] xs).length ≤ 3 * xs.length := by
  have h : ∀ r : List Int, (Lib.joinTail [sp] (r.map fun i => decW i.toNat)).length ≤ 3 * r.length := by
    intro r
    induction r with
    | nil => simp [Lib.joinTail]
    | cons a r ih =>
      have h1 := decW_len a.toNat
      simp only [Lib.joinTail, List.map_cons, List.flatten_cons, List.length_append, List.length_cons, List.length_nil] at ih ⊢
      omega
  unfold numT
  cases xs with
  | nil => simp [Lib.join_nil]
  | cons x r =>
    rw [List.map_cons, Lib.join_cons, List.length_append]
    have h1 := decW_len x.toNat
    have h2 := h r
    simp only [List.length_cons]
    omega
end Go.Proofs.YtbcchiaigincaaaGreatDoor
