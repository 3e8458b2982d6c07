/- The contracts of the law package's helpers on []int64: eqInt64S, toInt64S, markInt64S, heldInt64S. -/
import Derived.Test.YtejojliljplcdaaGreatDoorProg
import Derived.Test.YtejojliljplcdaaGreatDoorLib
namespace Go.Proofs.YtejojliljplcdaaGreatDoor
open Go.RowKit
set_option linter.unusedVariables false

theorem Tryz.info_i64 : (Tryz.prog.info? 2).map (fun i => (i.zero, i.size, i.bytes)) = some (some (.int .i64 0), 1, 8) := by kernel_rfl

theorem take_succ_eq {xs ys : List Int} {k : Nat} {x : Int} (h : Hid (xs.take k = ys.take k)) (hx : Hid (xs[k]? = some x)) (hy : Hid (ys[k]? = some x)) : xs.take (k+1) = ys.take (k+1) := by
  rw [take_succ_of hx, take_succ_of hy, h.out]

def RetB (b : Bool) (w : World) (e : Ending) (w' : World) : Prop := e = .returned (.bool b) ∧ ∃ k, w' = w.drewN k

theorem RetB.mk {b b' : Bool} {w w' : World} (h : b' = b) (hk : ∃ k, w' = w.drewN k) : RetB b w (.returned (.bool b')) w' := ⟨by rw [h], hk⟩

theorem eqS_any (A1 A2 : Option Addr) (c1 c2 n m : Nat) (xs ys : List Int) (w : World) (B1 B2 : Nat)
   (h1 : RdS w B1 A1 n c1 xs) (h2 : RdS w B2 A2 m c2 ys) (hb1 : n ≤ 1000000000000) (hb2 : m ≤ 1000000000000) :
    Calls Tryz.prog 46 #[.slice A1 n c1, .slice A2 m c2] w (RetB (decide (xs = ys)) w) := by
  by_cases hl : n = m
  · subst hl
    go_enter Tryz.func46, Tryz.ntmps46
    go_wp2
    go_loopw [5] (fun i wr => ∃ k : Nat, k ≤ n ∧ i = .int .i64 k ∧ Hid (xs.take k = ys.take k) ∧ ∃ q, wr = w.drewN q) (fun i _ => n - (intOf i).toNat)
    case atStart => exact ⟨0, Nat.zero_le _, rfl, Lib.hid (by simp), 0, rfl⟩
    case round =>
      obtain ⟨k, hk, rfl, htk, q, rfl⟩ := hrel
      by_cases hlt : k < n
      · obtain ⟨ad1, x, rfl, _, hx, hc1⟩ := h1.at_ hlt
        obtain ⟨ad2, y, rfl, _, hy, hc2⟩ := h2.at_ hlt
        by_cases hxy : x = y
        · subst hxy
          go_wp2
          go_quiet (fail)
          go_wp2
          go_roundw
          case rel => exact ⟨k+1, by omega, by go_num, Lib.hid (take_succ_eq htk hx hy), (by first | exact ⟨_, rfl⟩ | exact ⟨_, World.drewN_drewN _ _ _⟩ | (simp only [World.drewN_drewN]; exact ⟨_, rfl⟩))⟩
          case measure => simp [intOf]; omega
        · skip
          have hne1 : (x == y) = false := by simpa using hxy
          have hne2 : (x != y) = true := by simpa using hxy
          clear hxy
          go_wp2
          go_quiet (fail)
          go_wp2
          go_ret
          refine RetB.mk (b' := false) (decide_eq_false ?_).symm (by first | exact ⟨_, rfl⟩ | exact ⟨_, World.drewN_drewN _ _ _⟩ | (simp only [World.drewN_drewN]; exact ⟨_, rfl⟩))
          intro e
          subst e
          have h3 := hx.out
          rw [hy.out] at h3
          simp at h3
          simp [h3] at hne1
      · go_wp2
        go_ret
        refine RetB.mk (b' := true) (decide_eq_true ?_).symm (by first | exact ⟨_, rfl⟩ | exact ⟨_, World.drewN_drewN _ _ _⟩ | (simp only [World.drewN_drewN]; exact ⟨_, rfl⟩))
        obtain rfl : k = n := by omega
        have h3 := htk.out
        rw [List.take_of_length_le (by rw [h1.len]; omega), List.take_of_length_le (by rw [h2.len]; omega)] at h3
        exact h3
  · skip
    have hne1 : ((n : Int) == (m : Int)) = false := by simp; omega
    have hne2 : ((n : Int) != (m : Int)) = true := by simp; omega
    have hne3 : (n == m) = false := by simp; omega
    go_enter Tryz.func46, Tryz.ntmps46
    go_wp2
    go_ret
    refine RetB.mk (b' := false) (decide_eq_false ?_).symm ⟨0, rfl⟩
    intro e
    subst e
    exact hl (by rw [← h1.len, ← h2.len])

def RetS (B n : Nat) (xs : List Int) (w : World) (e : Ending) (w' : World) : Prop := ∃ A c, e = .returned (.slice A n c) ∧ OwnS w' B A n c xs ∧ Below w.heap.size w w'

theorem fill_step {xs : List Int} {k n : Nat} {x : Int} (hx : Hid (xs[k]? = some x)) (hk : k < n) : (xs.take k ++ List.replicate (n - k) 0).set k x = xs.take (k+1) ++ List.replicate (n - (k+1)) 0 := by
  have hlt : k < xs.length := (List.getElem?_eq_some_iff.1 hx.out).1
  rw [take_succ_of hx, List.set_append_right _ _ (by rw [List.length_take]; omega), List.length_take, show k - min k xs.length = 0 from by omega, show n - k = (n - (k+1)) + 1 from by omega, List.replicate_succ]
  simp

theorem toS_any (A : Option Addr) (c n : Nat) (xs : List Int) (w : World) (h : RdS w w.heap.size A n c xs) (hn : n ≤ 2000000) :
    Calls Tryz.prog 40 #[.slice A n c] w (RetS w.heap.size n xs w) := by
  obtain ⟨i0, hi, hz0, hz1, hz2⟩ := info_parts Tryz.info_i64
  obtain ⟨B, hB⟩ : ∃ B, B = w.heap.size := ⟨_, rfl⟩
  have hBle : w.heap.size ≤ B := by omega
  have hBge : B ≤ w.heap.size := by omega
  rw [← hB] at h ⊢
  clear hB
  go_enter Tryz.func40, Tryz.ntmps40
  go_wp2_with (at_make; refine wpList_make_full _ rfl _ _ 22 rfl B 2 i0 (.int .i64 0) 1 Tryz.underlying22 hi hz0 hz1 .i64 .i64 _ _ n rfl rfl rfl rfl ?b2 ?b3 hBge ?_)
  case b2 => rw [hz2]; omega
  case b3 => unfold maxLen; omega
  intro w1 hown hgr
  have HO : OwnS w1 B (some ⟨w.heap.size, 0, none⟩) n n (xs.take 0 ++ List.replicate (n - 0) 0) := ⟨by simp, by simpa [toList_madeCells_one, Value.cells] using hown⟩
  have HBe : Below B w w1 := (Below.refl _ _).grown hgr hBge (by simp)
  clear hown hgr hBge
  have HB := Lib.hid hBle; clear hBle
  obtain ⟨g, hg⟩ : ∃ g, g = w.heap.size := ⟨_, rfl⟩
  rw [← hg] at HO ⊢
  clear hg
  go_wp2
  go_loopw [4] (fun i wr => ∃ k : Nat, k ≤ n ∧ i = .int .i64 k ∧ OwnS wr B (some ⟨g, 0, none⟩) n n (xs.take k ++ List.replicate (n - k) 0) ∧ Below B w wr) (fun i _ => n - (intOf i).toNat)
  case atStart => exact ⟨0, Nat.zero_le _, rfl, HO, HBe⟩
  case round =>
    obtain ⟨k, hk, rfl, HO, HBe⟩ := hrel
    by_cases hlt : k < n
    · obtain ⟨ad1, x, rfl, _, hx, hc1⟩ := (h.below HBe).at_ hlt
      obtain ⟨g', y, hg', hBg, _, _, hc2, hf2, hset⟩ := HO.at_ hlt
      obtain ⟨rfl⟩ : g = g' := by simpa using hg'
      obtain ⟨HO2, _⟩ := hset x
      rw [fill_step hx hlt] at HO2
      clear hset HO hg'
      go_wp2
      go_roundw
      case rel => exact ⟨k+1, by omega, by go_num, HO2, HBe.setCell hBg _⟩
      case measure => simp [intOf]; omega
    · go_wp2
      go_ret
      obtain rfl : k = n := by omega
      rw [List.take_of_length_le (by rw [h.len]; omega), Nat.sub_self] at HO
      exact ⟨_, _, rfl, by simpa using HO, HBe.mono HB.out⟩

/-- what 'mark' lays: k, k + 1, .. -/
def marks (k : Int) (n : Nat) : List Int := (List.range n).map (fun (i : Nat) => k + i)
theorem marks_length (k : Int) (n : Nat) : (marks k n).length = n := by simp [marks]
theorem marks_get {k : Int} {n j : Nat} (h : j < n) : (marks k n)[j]? = some (k + j) := by simp [marks, h]
theorem mark_step {k : Int} {xs : List Int} {j n : Nat} (hn : xs.length = n) (h : j < n) : (marks k j ++ xs.drop j).set j (k + j) = marks k (j+1) ++ xs.drop (j+1) := by
  rw [List.set_append_right _ _ (by rw [marks_length]; omega), marks_length, Nat.sub_self]
  rw [List.drop_eq_getElem_cons (by omega), List.set_cons_zero]
  simp [marks, List.range_succ]

def RetI (x : Int) (w : World) (e : Ending) (w' : World) : Prop := e = .returned (.int .i64 x) ∧ w' = w
theorem RetI.mk {x y : Int} {w : World} (h : y = x) : RetI x w (.returned (.int .i64 y)) w := ⟨by rw [h], rfl⟩

def RetMark (B : Nat) (A : Option Addr) (n c : Nat) (xs : List Int) (x : Int) (w : World) (e : Ending) (w' : World) : Prop :=
  e = .returned (.int .i64 x) ∧ OwnS w' B A n c xs ∧ w.grownBy w' (Value.ownBlock (.slice A n c))
theorem RetMark.mk {B : Nat} {A : Option Addr} {n c : Nat} {xs : List Int} {x y : Int} {w w' : World} (h : y = x) (ho : OwnS w' B A n c xs) (hg : w.grownBy w' (Value.ownBlock (.slice A n c))) :
    RetMark B A n c xs x w (.returned (.int .i64 y)) w' := ⟨by rw [h], ho, hg⟩

theorem grownBy_trans {a b c : World} {row : Option Nat} (h : a.grownBy b row) (k : b.grownBy c row) : a.grownBy c row :=
  ⟨k.os.trans h.os, k.tape.trans h.tape, k.output.trans h.output, Nat.le_trans h.size k.size, fun i hi hne => (k.block i (Nat.lt_of_lt_of_le hi h.size) hne).trans (h.block i hi hne)⟩

theorem markS_any (A : Option Addr) (c n : Nat) (xs : List Int) (w : World) (B : Nat) (m : Int) (h : OwnS w B A n c xs) (hn : n ≤ 1000000000000) (h0 : 0 ≤ m) (h1 : m ≤ 1000000000000000) :
    Calls Tryz.prog 47 #[.slice A n c, .int .i64 m] w (RetMark B A n c (marks m n) (m + n) w) := by
  go_enter Tryz.func47, Tryz.ntmps47
  go_wp2
  go_loopw [1, 5] (fun v i wr => ∃ k : Nat, k ≤ n ∧ i = .int .i64 k ∧ v = .int .i64 (m + k) ∧ OwnS wr B A n c (marks m k ++ xs.drop k) ∧ w.grownBy wr (Value.ownBlock (.slice A n c))) (fun _ i _ => n - (intOf i).toNat)
  case atStart => exact ⟨0, Nat.zero_le _, rfl, by go_num, by simpa [marks] using h, World.grownBy.refl _ _⟩
  case round =>
    obtain ⟨k, hk, rfl, rfl, HO, HG⟩ := hrel
    by_cases hlt : k < n
    · obtain ⟨g, y, rfl, hBg, _, _, hc2, hf2, hset⟩ := HO.at_ hlt
      obtain ⟨HO2, HG2⟩ := hset (m + k)
      rw [mark_step h.len hlt] at HO2
      clear hset HO
      go_wp2
      go_roundw
      case rel => exact ⟨k+1, by omega, by go_num, by go_num, HO2, grownBy_trans HG HG2⟩
      case measure => simp [intOf]; omega
    · go_wp2
      go_ret
      obtain rfl : k = n := by omega
      refine RetMark.mk (y := m + k) rfl ?_ HG
      rw [List.drop_of_length_le (by rw [h.len]; omega)] at HO
      simpa using HO

theorem heldS_any (A : Option Addr) (c n : Nat) (w : World) (B : Nat) (m : Int) (h : RdS w B A n c (marks m n)) (hn : n ≤ 1000000000000) (h0 : 0 ≤ m) (h1 : m ≤ 1000000000000000) :
    Calls Tryz.prog 48 #[.slice A n c, .int .i64 m] w (RetI (m + n) w) := by
  go_enter Tryz.func48, Tryz.ntmps48
  go_wp2
  go_loop [1, 5] (fun v i => ∃ k : Nat, k ≤ n ∧ i = .int .i64 k ∧ v = .int .i64 (m + k)) (fun _ i => n - (intOf i).toNat)
  case atStart => exact ⟨0, Nat.zero_le _, rfl, by go_num⟩
  case round =>
    obtain ⟨k, hk, rfl, rfl⟩ := hrel
    by_cases hlt : k < n
    · obtain ⟨ad, x, rfl, _, hx, hc⟩ := h.at_ hlt
      have hx' := hx.out
      rw [marks_get hlt] at hx'
      obtain rfl : m + k = x := by simpa using hx'
      clear hx hx'
      go_wp2
      go_round
      case rel => exact ⟨k+1, by omega, by go_num, by go_num⟩
      case measure => simp [intOf]; omega
    · go_wp2
      go_ret
      obtain rfl : k = n := by omega
      exact RetI.mk (y := m + k) rfl

/-- What the shells of the laws say of a slice of integers that came in. -/
def IsRow (k : IntKind) (w : World) (a : Option Addr) (len cap : Nat) (zs : List Int) : Prop :=
  (a = none ∧ len = 0 ∧ cap = 0 ∧ zs = []) ∨
  ∃ x, a = some x ∧ len ≤ cap ∧ cap ≤ maxLen ∧ zs.length = cap ∧ (∀ i, i < zs.length → w.cell? (x.add i) = some (.int k (zs.getD i 0))) ∧ ∀ n ∈ zs, (Lit.int k n).wf = true
theorem isRow_rd {w : World} {a : Option Addr} {len cap : Nat} {zs : List Int} (h : IsRow .i64 w a len cap zs) : RdS w w.heap.size a len cap (zs.take len) := by
  rcases h with ⟨rfl, rfl, rfl, rfl⟩ | ⟨x, rfl, h1, _, h3, h4, _⟩
  · exact RdS.nil
  · refine ⟨by rw [List.length_take]; omega, h1, fun j hj => ?_⟩
    rw [List.length_take] at hj
    have hc := h4 j (by omega)
    have hb := World.block_lt_of_cell? w _ hc
    rw [block_of_add] at hb
    refine ⟨x, rfl, hb, ?_⟩
    rw [hc, List.getElem_take]
    simp [List.getD, show j < zs.length by omega]
theorem isRow_wf {w : World} {a : Option Addr} {len cap : Nat} {zs : List Int} (h : IsRow .i64 w a len cap zs) : ∀ n ∈ zs.take len, (Lit.int .i64 n).wf = true := by
  rcases h with ⟨rfl, rfl, rfl, rfl⟩ | ⟨x, rfl, h1, _, h3, h4, h5⟩
  · simp
  · exact fun n hn => h5 n (List.mem_of_mem_take hn)
end Go.Proofs.YtejojliljplcdaaGreatDoor
