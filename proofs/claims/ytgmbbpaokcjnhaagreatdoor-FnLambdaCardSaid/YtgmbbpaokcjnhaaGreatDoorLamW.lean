/- The lambda algebra's smallest functions: choose, l01Parity, l16Fault, l16Relation. -/
import Derived.Test.YtgmbbpaokcjnhaaGreatDoorLam
import Derived.Test.YtgmbbpaokcjnhaaGreatDoorSumL
import Derived.Test.YtgmbbpaokcjnhaaGreatDoorFr
import Derived.Test.YtgmbbpaokcjnhaaGreatDoorSumO
import Derived.Test.YtgmbbpaokcjnhaaGreatDoorLawK
import Derived.Test.YtgmbbpaokcjnhaaGreatDoorStep
namespace Go.Proofs.YtgmbbpaokcjnhaaGreatDoor
open Go.RowKit
set_option linter.unusedVariables false

theorem parB_nat (a b : Nat) : parB (a : Int) (b : Int) = decide (a &&& b = b) := by
  unfold parB
  rw [Int.toNat_natCast, Int.toNat_natCast, Bool.eq_iff_iff]
  show Nat.beq (a &&& b) b = true ↔ _
  simp

theorem choose_any (n k : Int) (w : World) (h0 : 0 ≤ n) (h1 : 0 ≤ k) (hn : n ≤ 1000000000) (hk : k ≤ 1000000000) :
    Calls Tryz.prog 71 #[.int .i64 n, .int .i64 k] w (RetI (if parB n k then 1 else 0) w) := by
  obtain ⟨a, rfl⟩ := Int.eq_ofNat_of_zero_le h0
  obtain ⟨b, rfl⟩ := Int.eq_ofNat_of_zero_le h1
  have hb := bits_and (a := a) (b := b) (by omega) (by omega)
  rw [parB_nat]
  obtain ⟨c, hc⟩ : ∃ c, c = a &&& b := ⟨_, rfl⟩
  rw [← hc] at hb ⊢
  have HC := Lib.hid hc; clear hc
  by_cases h : c = b
  · have HV : Hid ((if decide (c = b) = true then (1 : Int) else 0) = 1) := Lib.hid (by simp [h])
    have e : ((c : Int) == (b : Int)) = true := by simp [h]
    rw [HV.out]
    clear h
    go_enter Tryz.func71, Tryz.ntmps71
    go_wp2_with fail
    go_ret
    exact RetI.mk (y := 1) rfl
  · have HV : Hid ((if decide (c = b) = true then (1 : Int) else 0) = 0) := Lib.hid (by simp [h])
    have e : ((c : Int) == (b : Int)) = false := by simp; omega
    rw [HV.out]
    clear h
    go_enter Tryz.func71, Tryz.ntmps71
    go_wp2_with fail
    go_ret
    exact RetI.mk (y := 0) rfl
theorem parity_any (n k : Int) (w : World) (h1 : 0 ≤ k) (hkn : k ≤ n) (hn : n ≤ 1000000000) :
    Calls Tryz.prog 83 #[.int .i64 n, .int .i64 k] w (RetI (if parB n k then 1 else 0) w) := by
  obtain ⟨a, rfl⟩ := Int.eq_ofNat_of_zero_le (show 0 ≤ n by omega)
  obtain ⟨b, rfl⟩ := Int.eq_ofNat_of_zero_le h1
  have hb := bits_and (a := a) (b := b) (by omega) (by omega)
  rw [parB_nat]
  obtain ⟨c, hc⟩ : ∃ c, c = a &&& b := ⟨_, rfl⟩
  rw [← hc] at hb ⊢
  have HC := Lib.hid hc; clear hc
  have hlt : ¬ (a : Int) < (b : Int) := by omega
  have hlt2 : ¬ (b : Int) < 0 := by omega
  by_cases h : c = b
  · have HV : Hid ((if decide (c = b) = true then (1 : Int) else 0) = 1) := Lib.hid (by simp [h])
    have e : ((c : Int) != (b : Int)) = false := by simp [h]
    rw [HV.out]
    clear h
    go_enter Tryz.func83, Tryz.ntmps83
    go_wp2_with fail
    go_ret
    exact RetI.mk (y := 1) rfl
  · have HV : Hid ((if decide (c = b) = true then (1 : Int) else 0) = 0) := Lib.hid (by simp [h])
    have e : ((c : Int) != (b : Int)) = true := by simp; omega
    rw [HV.out]
    clear h
    go_enter Tryz.func83, Tryz.ntmps83
    go_wp2_with fail
    go_ret
    exact RetI.mk (y := 0) rfl

theorem fault_any (A : Option Addr) (n c B : Nat) (xs : List Int) (w : World) (h : RdS w B A n c xs) (hn : n ≤ 1000000) (hx : ∀ x ∈ xs, 0 ≤ x ∧ x ≤ 1000000) :
    Calls Tryz.prog 60 #[.slice A n c] w (RetIq (flt xs) w) := by
  have Hl := Lib.hid h.len
  have HX := Lib.hid hx; clear hx
  obtain ⟨R, hR⟩ : ∃ R, R = flt xs := ⟨_, rfl⟩
  have HR : Hid ((flt (xs.drop 0) < 0 ∧ R = -1) ∨ (0 ≤ flt (xs.drop 0) ∧ R = ((0 : Nat) : Int) + flt (xs.drop 0))) := Lib.hid (by
    have := flt_ge xs
    rw [List.drop_zero, hR]
    omega)
  rw [← hR]
  clear hR
  go_enter Tryz.func60, Tryz.ntmps60
  go_wp2_with fail
  go_loopw [3] (fun i wr => ∃ k : Nat, k ≤ n ∧ i = .int .i64 k ∧ Hid ((flt (xs.drop k) < 0 ∧ R = -1) ∨ (0 ≤ flt (xs.drop k) ∧ R = (k : Int) + flt (xs.drop k))) ∧ ∃ q, wr = w.drewN q) (fun i _ => n - (intOf i).toNat)
  case atStart => exact ⟨0, Nat.zero_le _, rfl, HR, 0, rfl⟩
  case round =>
    obtain ⟨k, hk, rfl, HK, q, rfl⟩ := hrel
    by_cases hlt : k + 1 < n
    · obtain ⟨ad, x, rfl, _, hx, hc1⟩ := h.at_ (show k < n by omega)
      obtain ⟨ad', y, had, _, hy, hc2⟩ := h.at_ hlt
      obtain rfl : ad = ad' := by simpa using had
      have hxb := HX.out x (mem_of hx)
      have hyb := HX.out y (mem_of hy)
      clear had
      obtain ⟨m, hm⟩ : ∃ m, m = k + 1 := ⟨_, rfl⟩
      rw [← hm] at hy hc2 hlt
      have hlt3 : (k : Int) + 1 < (n : Int) := by omega
      have hwk : IntKind.i64.wrap ((k : Int) + 1) = (m : Int) := by rw [IntKind.wrap_i64]; omega
      have hw2 : IntKind.i64.wrap (2 * x) = 2 * x := by rw [IntKind.wrap_i64]; omega
      have HW := Lib.hid (And.intro hwk hw2)
      have hy' : Hid (xs[k + 1]? = some y) := Lib.hid (by rw [← hm]; exact hy.out)
      have hkn0 : k < n := by omega
      clear hwk hw2 hm
      by_cases hxy : 2 * x < y
      · have HV : Hid (R = (k : Int)) := Lib.hid (by have h1 := HK.out; rw [flt_hit hx hy' hxy] at h1; omega)
        have hd : decide (2 * x < y) = true := decide_eq_true hxy
        go_wp2_with fail
        obtain ⟨hwk, hw2⟩ := HW.out
        go_quiet (fail)
        clear hwk hw2
        go_wp2_with fail
        go_ret
        exact RetIq.mk (y := k) HV.out.symm (by first | exact ⟨_, rfl⟩ | exact ⟨_, World.drewN_drewN _ _ _⟩ | (simp only [World.drewN_drewN]; exact ⟨_, rfl⟩))
      · have HK2 := Lib.hid (show (flt (xs.drop (k + 1)) < 0 ∧ R = -1) ∨ (0 ≤ flt (xs.drop (k + 1)) ∧ R = ((k + 1 : Nat) : Int) + flt (xs.drop (k + 1))) from by
          have h1 := HK.out
          rw [flt_step hx hy' hxy] at h1
          split at h1
          · omega
          · omega)
        have hd : decide (2 * x < y) = false := decide_eq_false hxy
        go_wp2_with fail
        obtain ⟨hwk, hw2⟩ := HW.out
        go_quiet (fail)
        clear hwk hw2
        go_wp2_with fail
        go_roundw
        case rel => exact ⟨k + 1, by omega, by go_num, HK2, (by first | exact ⟨_, rfl⟩ | exact ⟨_, World.drewN_drewN _ _ _⟩ | (simp only [World.drewN_drewN]; exact ⟨_, rfl⟩))⟩
        case measure => simp [intOf]; omega
    · have HV : Hid (R = -1) := Lib.hid (by have h1 := HK.out; rw [flt_end (by rw [Hl.out]; omega)] at h1; omega)
      have hlt3 : ¬ (k : Int) + 1 < (n : Int) := by omega
      go_wp2_with fail
      go_ret
      exact RetIq.mk (y := -1) HV.out.symm (by first | exact ⟨_, rfl⟩ | exact ⟨_, World.drewN_drewN _ _ _⟩ | (simp only [World.drewN_drewN]; exact ⟨_, rfl⟩))

/-- 'wpList_pushL' where the walk spells the last block's number otherwise -/
theorem wpList_pushLH {w0 w : World} {ops : Array Oper} {rest : List Oper} {o : Oper} {a : Act} {Q : Exit → Act → World → Prop} (hgd : o.guard = none) (s x : Operand)
    (ho : o.op = .call { callee := .builtin .append, args := #[s, x], argTypes := #[24, 24] }) {B K n c n' c' H : Nat} {A A' : Option Addr} {xss : List (List Int)} {xs : List Int}
    (hs : a.eval s = .slice A n c) (hH : w.heap.size = H) (hx : a.eval x = .slice (some ⟨H, 0, Option.none⟩) 1 1) (hst : StL w0 B w K A n c xss) (hnew : OwnS w K A' n' c' xs) (hn : n ≤ 3000000000000)
    (h : ∀ A2 c2 w', StL w0 B w' w'.heap.size A2 (n + 1) c2 (xss ++ [xs]) → w.grownBy w' (Value.ownBlock (.slice A n c)) → (Value.ownBlock (.slice A2 (n + 1) c2) = Value.ownBlock (.slice A n c) ∨ ∀ g, Value.ownBlock (.slice A2 (n + 1) c2) = some g → w.heap.size ≤ g) →
      wpList Tryz.prog ops Q rest (a.put o.dst (.slice A2 (n + 1) c2)) w') : wpList Tryz.prog ops Q (o :: rest) a (w.alloc (.cells #[.slice A' n' c'] 35)) := by
  subst hH
  exact wpList_pushL hgd s x ho hs hx hst hnew hn h
theorem own_two (w : World) (x y : Int) (K : Nat) (hK : K ≤ w.heap.size) : OwnS (w.alloc (.cells #[.int .i64 x, .int .i64 y] 2)) K (some ⟨w.heap.size, 0, none⟩) 2 2 [x, y] :=
  ⟨rfl, rfl, .inr ⟨w.heap.size, 2, _, rfl, hK, heap_alloc_new w _, Nat.le_refl _, by unfold maxLen; omega, rfl, rfl⟩⟩

def relL (a b : Int) : List (List Int) := (relP a b).map fun p => [p.1, p.2]
def relLTo (a b : Int) (k : Nat) : List (List Int) := (relTo a b k).map fun p => [p.1, p.2]
theorem relation_any (a b : Int) (w : World) (ha : 0 ≤ a) (hb : 0 ≤ b) (hs : a + b ≤ 11) (hab : 2 * a < b) :
    Calls Tryz.prog 61 #[.int .i64 a, .int .i64 b] w (RetL (relL a b).length (relL a b) w) := by
  obtain ⟨N, hN⟩ : ∃ N, N = b - 2 * a - 1 := ⟨_, rfl⟩
  have HN := Lib.hid hN
  have hN0 : 0 ≤ N := by omega
  have hN1 : N ≤ 10 := by omega
  have hst := StL.start (Below.refl w.heap.size w) (Nat.le_refl _)
  obtain ⟨B, hB⟩ : ∃ B, B = w.heap.size := ⟨_, rfl⟩
  rw [← hB] at hst
  have HBe := Lib.hid hB; clear hB
  have HS := Lib.hid hst.here; clear hst
  clear hN
  go_enter Tryz.func61, Tryz.ntmps61
  go_wp2_with fail
  rw [← HBe.out]
  rw [← HN.out]
  go_loopw [6, 7] (fun o i wr => ∃ (k l' c' : Nat) (A' : Option Addr) (acc : List (List Int)), k ≤ 6 ∧ i = .int .i64 k ∧ o = .slice A' l' c' ∧ l' ≤ k ∧ Hid (acc.length = l') ∧ Hid (acc = relLTo a b k) ∧ ∃ K, Hid (StL w B wr K A' l' c' acc)) (fun _ i _ => 7 - (intOf i).toNat)
  case atStart => exact ⟨0, 0, 0, _, [], by omega, rfl, rfl, Nat.zero_le _, Lib.hid rfl, Lib.hid rfl, _, by rw [HBe.out]; rw [HBe.out] at HS; exact HS⟩
  case round =>
    obtain ⟨k, l', c', A', acc, hk, rfl, rfl, hlk, HL', HA, K, HS⟩ := hrel
    by_cases hlt : 2 * (k : Int) < N
    · have Hp := fun W : World => Lib.hid (parity_any (N - k - 1) k W (by omega) (by omega) (by omega))
      have HC : Hid (relC a b k = parB (N - k - 1) k) := Lib.hid (by simp only [relC, ← HN.out, hlt, decide_true, Bool.true_and])
      cases hp : parB (N - (k : Int) - 1) (k : Int)
      · rw [hp] at Hp HC
        have HA2 : Hid (acc = relLTo a b (k + 1)) := Lib.hid (by rw [HA.out, relLTo, relLTo, relTo_succ_no HC.out])
        clear hp
        go_wp2_with fail
        refine ((Hp _).out).mono ?_
        rintro e w' ⟨rfl, rfl⟩
        go_wp2_with fail
        go_roundw
        case rel => exact ⟨k + 1, l', c', A', acc, by omega, by go_num, rfl, by omega, HL', HA2, K, HS⟩
        case measure => simp [intOf]; omega
      · rw [hp] at Hp HC
        have HA2 : Hid (acc ++ [[a + N - k, 2 * a + 1 + k]] = relLTo a b (k + 1)) := Lib.hid (by rw [HA.out, relLTo, relLTo, relTo_succ_yes HC.out, List.map_append]; simp [relPr, ← HN.out])
        have HL2 : Hid ((acc ++ [[a + N - k, 2 * a + 1 + k]]).length = l' + 1) := Lib.hid (by rw [List.length_append, HL'.out]; rfl)
        clear hp
        have N2 := Lib.hid (own_two wr (a + N - k) (2 * a + 1 + k) wr.heap.size (Nat.le_refl _))
        have HS2 := Lib.hid (HS.out.here.call ((Below.refl wr.heap.size wr).alloc (Nat.le_refl _) (.cells #[.int .i64 (a + N - k), .int .i64 (2 * a + 1 + k)] 2)))
        go_wp2_with fail
        refine ((Hp _).out).mono ?_
        rintro e w' ⟨rfl, rfl⟩
        go_wp2_with (at_builtin; refine wpList_pushLH rfl (.tmp 27) (.tmp 39) rfl rfl (H := w'.heap.size + 1) (by simp) rfl HS2.out N2.out (by omega) ?_)
        intro A3 c3 w3 hs3 _ _
        have HS3 := Lib.hid hs3; clear hs3
        go_wp2_with fail
        go_roundw
        case rel => exact ⟨k + 1, l' + 1, c3, A3, _, by omega, by go_num, rfl, by omega, HL2, HA2, _, HS3⟩
        case measure => simp [intOf]; omega
    · go_wp2_with fail
      go_ret
      have e : acc = relL a b := by rw [HA.out, relLTo, relTo_end (by rw [← HN.out]; omega) hk]; rfl
      have h5 := HS.out
      rw [HBe.out] at h5
      exact RetL.mk (by rw [← HL'.out, e]) e h5
end Go.Proofs.YtgmbbpaokcjnhaaGreatDoor

/- lambdaBefore: a generator before an admissible word. -/
namespace Go.Proofs.YtgmbbpaokcjnhaaGreatDoor
open Go.RowKit
set_option linter.unusedVariables false

theorem It.grown {lo hi : Nat} {P : World → Prop} {w w' : World} {row : Option Nat} (h : It lo hi P w) (hg : w.grownBy w' row) (hr : ∀ g, row = some g → g < lo ∨ hi ≤ g) : It lo hi P w' :=
  h.to hg.size hg.os hg.tape hg.output fun g h1 h2 => hg.block g (Nat.lt_of_lt_of_le h2 h.le) fun e => by have := hr g e.symm; omega
theorem own_oneI (w : World) (x : Int) (K : Nat) (hK : K ≤ w.heap.size) : OwnS (w.alloc (.cells #[.int .i64 x] 2)) K (some ⟨w.heap.size, 0, none⟩) 1 1 [x] :=
  ⟨rfl, rfl, .inr ⟨w.heap.size, 1, _, rfl, hK, heap_alloc_new w _, Nat.le_refl _, by unfold maxLen; omega, rfl, rfl⟩⟩
theorem StS.one {w0 w : World} {B : Nat} (x : Int) (hb : Below B w0 w) (hB : B ≤ w.heap.size) : StS w0 B (w.alloc (.cells #[.int .i64 x] 2)) (some ⟨w.heap.size, 0, Option.none⟩) 1 1 [x] := ⟨own_oneI w x B hB, hb.alloc hB _, Nat.le_trans hB (by simp)⟩
theorem ownL_oneS {w : World} {B n c : Nat} {A : Option Addr} {xs : List Int} (h : OwnS w B A n c xs) (hB : B ≤ w.heap.size) : OwnL (w.alloc (.cells #[.slice A n c] 35)) B w.heap.size (some ⟨w.heap.size, 0, none⟩) 1 1 [xs] := by
  have hb : Below w.heap.size w (w.alloc (.cells #[.slice A n c] 35)) := (Below.refl _ _).alloc (Nat.le_refl _) _
  refine ⟨rfl, [.slice A n c], ⟨rfl, by simp, .inr ⟨w.heap.size, 1, _, rfl, hB, heap_alloc_new w _, Nat.le_refl _, by unfold maxLen; omega, rfl, rfl⟩⟩, fun j v ys hv hy => ?_, fun i j u v g hij hu hv _ => ?_⟩
  · have : j = 0 := by
      have := (List.getElem?_eq_some_iff.1 hv).1
      simpa using this
    subst this
    simp only [List.getElem?_cons_zero, Option.some.injEq] at hv hy
    subst hv; subst hy
    exact ⟨A, n, c, rfl, h.below hb, fun g hg => (h.own.lt g hg).2⟩
  · have h1 := (List.getElem?_eq_some_iff.1 hu).1
    have h2 := (List.getElem?_eq_some_iff.1 hv).1
    simp only [List.length_cons, List.length_nil] at h1 h2
    omega
theorem tot_le (xss : List (List Int)) (b : Nat) (h : ∀ r ∈ xss, r.length ≤ b) : totalL xss ≤ xss.length * b := by
  induction xss with
  | nil => simp [totalL]
  | cons x xs ih =>
    have h1 := h x (by simp)
    have h2 := ih fun r hr => h r (List.mem_cons_of_mem _ hr)
    simp only [totalL, List.map_cons, List.sum_cons, List.length_cons, Nat.add_mul, Nat.one_mul] at h2 ⊢
    omega
theorem oddL_single (x : List Int) : oddL [x] = [x] := oddL_of_asc (by simp [Asc])
def tailA (A : Option Addr) (c : Nat) : Option Addr := match A with
  | none => none
  | some ad => if c = 1 then some ad else some (ad.add 1)
theorem RdS.tail {w : World} {B n c : Nat} {A : Option Addr} {b : Int} {r : List Int} (h : RdS w B A n c (b :: r)) : RdS w B (tailA A c) (n - 1) (c - 1) r := by
  have hl := h.len
  have hc := h.cap
  simp only [List.length_cons] at hl
  obtain ⟨ad, rfl, hb, hcell⟩ := h.cell 0 (by simp)
  refine ⟨by omega, by omega, fun j hj => ?_⟩
  obtain ⟨ad', e, _, hc'⟩ := h.cell (j + 1) (by simp; omega)
  obtain rfl : ad = ad' := by simpa using e
  refine ⟨ad.add 1, ?_, by rw [block_of_add]; exact hb, ?_⟩
  · simp only [tailA]; rw [if_neg (by omega)]
  · rw [add_of_add, Nat.add_comm 1 j, hc']; simp

theorem run_tail (A : Option Addr) (n c : Nat) (hn : 1 ≤ n) (W : World) : (Instr.sliceAt 35 (.slice A n c) (some (.int .i64 1)) Option.none Option.none).run Tryz.prog W = .ok (.slice (tailA A c) (n - 1) (c - 1)) W := by
  have h : ((1 : Int)) ≤ (n : Int) := by omega
  simp only [tailA]
  cases A with
  | none => simp [go_sem, Tryz.underlying35, h, sliced]
  | some ad =>
    by_cases hc : c = 1
    · simp [go_sem, Tryz.underlying35, h, sliced, hc]
    · simp [go_sem, Tryz.underlying35, h, sliced, hc]
theorem lamBefore_any (f : Nat) : ∀ (a : Int) (A : Option Addr) (n c B : Nat) (xs : List Int) (w : World), meas a xs < f → 0 ≤ a → nonN xs → admB xs = true → a + sumZ xs ≤ 11 → xs.length ≤ 6 → RdS w B A n c xs → B ≤ w.heap.size →
    Calls Tryz.prog 55 #[.int .i64 a, .slice A n c] w (RetL (oddL (bef F a xs)).length (oddL (bef F a xs)) w) := by
  induction f with
  | zero => intro a A n c B xs w h; omega
  | succ f ih =>
    intro a A n c B xs w hm ha hn hadm hs hl h hB
    have H := Lib.hid h
    have Hl := Lib.hid h.len
    have hs0 := sumZ_nonneg hn
    have N1 := Lib.hid hn
    clear hn
    have HS1 := Lib.hid (StS.one a (Below.refl w.heap.size w) (Nat.le_refl _))
    have hb1 : Below w.heap.size w (w.alloc (.cells #[.int .i64 a] 2)) := (Below.refl _ _).alloc (Nat.le_refl _) _
    have HR1 := Lib.hid (h.below (hb1.mono hB))
    clear hb1 h
    cases xs with
    | nil =>
      have hn0 : n = 0 := by have := Hl.out; simpa using this.symm
      subst hn0
      have HV : Hid (oddL (bef F a []) = [[a]]) := Lib.hid (by rw [show bef F a [] = [[a]] from rfl, oddL_single])
      rw [HV.out]
      go_enter Tryz.func55, Tryz.ntmps55
      go_wp2_with (at_builtin; refine wpList_joinI rfl (.tmp 22) (.tmp 23) rfl rfl rfl HS1.out HR1.out (by omega) ?_)
      intro A2 c2 w2 hs2 _
      have HS2 := Lib.hid hs2; clear hs2
      go_wp2_with fail
      go_ret
      exact ⟨_, _, rfl, (ownL_oneS HS2.out.own HS2.out.hi).mono (Nat.le_refl _) (by simp), HS2.out.bel.alloc HS2.out.hi _⟩
    | cons b r =>
      have hlr : (b :: r).length = n := Hl.out
      simp only [List.length_cons] at hlr hl
      obtain ⟨ad, x, rfl, _, hx, hc0⟩ := H.out.at_ (show 0 < n by omega)
      obtain rfl : b = x := by have := hx.out; simpa using this
      have hb0 : 0 ≤ b := N1.out b (by simp)
      have Nr : Hid (nonN r) := Lib.hid (fun y hy => N1.out y (List.mem_cons_of_mem _ hy))
      have hr0 := sumZ_nonneg Nr.out
      simp only [sumZ] at hs hs0
      have hc00 : w.cell? ad = some (.int .i64 b) := by simpa [Addr.add] using hc0
      have hn0 : ((n : Int) == 0) = false := by simp; omega
      have hpos : (0 : Int) < (n : Int) := by omega
      clear hc0 hx
      by_cases hab : b ≤ 2 * a
      · have HV : Hid (oddL (bef F a (b :: r)) = [a :: b :: r]) := Lib.hid (by
          rw [show bef F a (b :: r) = [a :: b :: r] from by show bef (99 + 1) a (b :: r) = _; rw [bef, if_pos hab], oddL_single])
        rw [HV.out]
        go_enter Tryz.func55, Tryz.ntmps55
        go_wp2_with (at_builtin; refine wpList_joinI rfl (.tmp 22) (.tmp 23) rfl rfl rfl HS1.out HR1.out (by omega) ?_)
        intro A2 c2 w2 hs2 _
        have HS2 := Lib.hid hs2; clear hs2
        go_wp2_with fail
        go_ret
        exact ⟨_, _, rfl, (ownL_oneS HS2.out.own HS2.out.hi).mono (Nat.le_refl _) (by simp), HS2.out.bel.alloc HS2.out.hi _⟩
      · have hst := StL.start (Below.refl w.heap.size w) (Nat.le_refl _)
        obtain ⟨V, hV⟩ : ∃ V, V = w.heap.size := ⟨_, rfl⟩
        rw [← hV] at hst
        have HVe := Lib.hid hV; clear hV
        have HS := Lib.hid hst.here; clear hst
        obtain ⟨N, hN⟩ : ∃ N, N = b - 2 * a - 1 := ⟨_, rfl⟩
        have hN0 : 0 ≤ N := by omega
        have hN1 : N ≤ 10 := by omega
        have HN := Lib.hid hN; clear hN
        have hapos : 2 * a < b := by omega
        clear hab
        go_enter Tryz.func55, Tryz.ntmps55
        go_wp2_with fail
        rw [← HVe.out, ← HN.out]
        go_loopw [6, 7] (fun o i wr => ∃ (k l' c' : Nat) (A' : Option Addr) (acc : List (List Int)), k ≤ 6 ∧ i = .int .i64 k ∧ o = .slice A' l' c' ∧ l' ≤ k * 4096 ∧ Hid (acc.length = l') ∧ Hid (SameSum acc ((relTo a b k).flatMap fun p => (bef F p.2 r).flatMap fun u => bef F p.1 u)) ∧ Hid (∀ u ∈ acc, u.length ≤ 7) ∧ ∃ K, Hid (StL w V wr K A' l' c' acc)) (fun _ i _ => 7 - (intOf i).toNat)
        case atStart => exact ⟨0, 0, 0, _, [], by omega, rfl, rfl, Nat.zero_le _, Lib.hid rfl, Lib.hid (SameSum.refl _), Lib.hid (by simp), _, by rw [HVe.out]; rw [HVe.out] at HS; exact HS⟩
        case round =>
          obtain ⟨k, l', c', A', acc, hk, rfl, rfl, hlk, HL', HA, HW, K, HS⟩ := hrel
          have hlk2 : l' ≤ (k + 1) * 4096 := Nat.le_trans hlk (Nat.mul_le_mul_right _ (Nat.le_succ k))
          by_cases hlt : 2 * (k : Int) < N
          · have Hp := fun W : World => Lib.hid (choose_any (N - k - 1) k W (by omega) (by omega) (by omega) (by omega))
            have HC : Hid (relC a b k = parB (N - k - 1) k) := Lib.hid (by simp only [relC, ← HN.out, hlt, decide_true, Bool.true_and])
            cases hp : parB (N - (k : Int) - 1) (k : Int)
            · rw [hp] at Hp HC
              have HA2 : Hid (SameSum acc ((relTo a b (k + 1)).flatMap fun p => (bef F p.2 r).flatMap fun u => bef F p.1 u)) := Lib.hid (by rw [relTo_succ_no HC.out]; exact HA.out)
              clear hp
              go_wp2_with fail
              refine ((Hp _).out).mono ?_
              rintro e w' ⟨rfl, rfl⟩
              go_wp2_with fail
              go_roundw
              case rel => exact ⟨k + 1, l', c', A', acc, by omega, by go_num, rfl, hlk2, HL', HA2, HW, K, HS⟩
              case measure => simp [intOf]; omega
            · rw [hp] at Hp HC
              clear hp
              have hsl := fun W => run_tail (some ad) n c (by omega) W
              obtain ⟨p1, hp1⟩ : ∃ p, p = a + N - (k : Int) := ⟨_, rfl⟩
              obtain ⟨p2, hp2⟩ : ∃ p, p = 2 * a + 1 + (k : Int) := ⟨_, rfl⟩
              have Pb : Hid (a < p1 ∧ p1 + p2 = a + b ∧ 0 < p2) := Lib.hid (by have := HN.out; omega)
              have hpr : Hid (relTo a b (k + 1) = relTo a b k ++ [(p1, p2)]) := Lib.hid (by rw [relTo_succ_yes HC.out, hp1, hp2, HN.out]; rfl)
              have HP1 := Lib.hid hp1
              have HP2 := Lib.hid hp2
              clear hp1 hp2
              have Radm := Lib.hid (adm_tail hadm)
              have hrec := fun (W : World) (hW : RdS W V (tailA (some ad) c) (n - 1) (c - 1) r) (hV : V ≤ W.heap.size) => ih p2 (tailA (some ad) c) (n - 1) (c - 1) V r W (by have := Pb.out; simp only [meas, List.length_cons] at hm ⊢; omega) (by have := Pb.out; omega) Nr.out Radm.out (by have := Pb.out; omega) (by omega) hW hV
              have HREC := Lib.hid hrec
              have HRt := Lib.hid (H.out.tail.below (HS.out.bel.mono (by rw [HVe.out]; exact hB)))
              have HBV := Lib.hid (show B ≤ V by rw [HVe.out]; exact hB)
              have hws := bef_len (a := p2) (y := r) Radm.out (by have := Pb.out; omega) (by omega) Nr.out (by have := Pb.out; omega)
              have HWs : Hid (∀ u ∈ oddL (bef F p2 r), u.length = r.length + 1 ∧ sumZ u = p2 + sumZ r ∧ nonN u ∧ admB u = true) := Lib.hid (fun u hu => by
                have h1 := oddL_mem hu
                have h2 := bef_word h1 (by have := Pb.out; omega) Nr.out
                exact ⟨h2.1, h2.2.1, h2.2.2, bef_is_adm h1 Radm.out⟩)
              have HSw : Hid (SameSum (oddL (bef F p2 r)) (bef F p2 r)) := Lib.hid (oddL_same _)
              have hL := oddL_len (bef F p2 r)
              obtain ⟨ws, hwse⟩ : ∃ ws, ws = oddL (bef F p2 r) := ⟨_, rfl⟩
              rw [← hwse] at HREC HWs HSw hL
              obtain ⟨L, hLe⟩ : ∃ L, L = ws.length := ⟨_, rfl⟩
              have HLe := Lib.hid hLe
              rw [← hLe] at HREC hL
              have hL64 : L ≤ 64 := by omega
              clear hrec hwse hLe hws hL
              go_wp2_with fail
              refine ((Hp _).out).mono ?_
              rintro e w' ⟨rfl, hw'⟩
              subst hw'
              go_wp2_with fail
              rw [← HP2.out]
              refine (HREC.out _ (HRt.out.mono HBV.out) HS.out.size).mono ?_
              rintro e w1 ⟨A1, c1, rfl, ho1, hb1⟩
              obtain ⟨S, hS⟩ : ∃ S, S = w'.heap.size := ⟨_, rfl⟩
              obtain ⟨S2, hS2⟩ : ∃ S2, S2 = w1.heap.size := ⟨_, rfl⟩
              have HIW := Lib.hid (It.ownM (show OwnM w1 S S2 A1 L c1 ws by rw [hS, hS2]; exact ⟨ho1, ho1.lt⟩) (Nat.le_of_eq hS2))
              have HS5 := Lib.hid (HS.out.call hb1)
              have HN5 := Lib.hid (show ∀ g, Value.ownBlock (.slice A' l' c') = some g → g < S ∨ S2 ≤ g from fun g hg => .inl (by rw [hS]; exact HS.out.own.lt g hg))
              have HSz := Lib.hid (show S ≤ S2 by rw [hS, hS2]; exact hb1.size)
              have HSq := Lib.hid hS2
              clear hS hS2 ho1 hb1 hsl
              have hLm : L ≤ 9223372036854775807 := by omega
              go_wp2_with fail
              go_loopw [6, 56] (fun o i wr => ∃ (j l2 c2 : Nat) (A2 : Option Addr) (acc2 : List (List Int)) (K2 : Nat), j ≤ L ∧ i = .int .i64 j ∧ o = .slice A2 l2 c2 ∧ l2 ≤ l' + j * 64 ∧ Hid (acc2.length = l2) ∧ Hid (SameSum acc2 (acc ++ (ws.take j).flatMap (bef F p1))) ∧ Hid (∀ u ∈ acc2, u.length ≤ 7) ∧
                Hid (StL w V wr K2 A2 l2 c2 acc2) ∧ Hid (It S S2 (fun V => OwnM V S S2 A1 L c1 ws) wr) ∧ Hid (∀ g, Value.ownBlock (.slice A2 l2 c2) = some g → g < S ∨ S2 ≤ g)) (fun _ i _ => L - (intOf i).toNat)
              case atStart => exact ⟨0, l', c', A', acc, K, Nat.zero_le _, rfl, rfl, by omega, HL', Lib.hid (by simpa using SameSum.refl acc), HW, HS5, HIW, HN5⟩
              case round =>
                clear HS HL' HW HS5 HIW HN5
                obtain ⟨j, l2, c2, A2, acc2, K2, hj, rfl, rfl, hl2, HL2, HA2, HW2, HS2, HI2, HN2⟩ := hrel
                by_cases hjl : j < L
                · obtain ⟨ad3, A3, n3, c3, u, rfl, _, hu, hc3, hr3⟩ := HI2.out.holds.own.rd.at_ hjl
                  have hum : u ∈ ws := List.mem_of_getElem? hu.out
                  obtain ⟨ul, us, un, ua⟩ := HWs.out u hum
                  have Hr3 := Lib.hid (ih p1 A3 n3 c3 _ u _ (by have := Pb.out; simp only [meas, List.length_cons, ul] at hm ⊢; omega) (by have := Pb.out; omega) un ua (by have := Pb.out; omega) (by omega) hr3 (Nat.le_refl _))
                  have hbl := bef_len (a := p1) (y := u) ua (by have := Pb.out; omega) (by omega) un (by have := Pb.out; omega)
                  have hol := oddL_len (bef F p1 u)
                  have HB3 : Hid (∀ v ∈ oddL (bef F p1 u), v.length ≤ 7) := Lib.hid (fun v hv => by
                    have := (bef_word (oddL_mem hv) (by have := Pb.out; omega) un).1
                    omega)
                  have HB4 : Hid (SameSum (oddL (bef F p1 u)) (bef F p1 u)) := Lib.hid (oddL_same _)
                  obtain ⟨us2, hus2⟩ : ∃ s, s = oddL (bef F p1 u) := ⟨_, rfl⟩
                  rw [← hus2] at Hr3 HB3 HB4 hol
                  obtain ⟨l3, hl3⟩ : ∃ l, l = us2.length := ⟨_, rfl⟩
                  rw [← hl3] at Hr3 hol
                  have HL3 := Lib.hid hl3
                  have hl364 : l3 ≤ 64 := by omega
                  clear hus2 hl3 hol hbl hr3 hum ul us un ua
                  go_wp2_with fail
                  rw [← HP1.out]
                  refine Hr3.out.mono ?_
                  rintro e w3 ⟨A4, c4, rfl, ho4, hb4⟩
                  have HO4 := Lib.hid ho4
                  have HS4 := Lib.hid (HS2.out.here.call hb4)
                  have HI4 := Lib.hid (HI2.out.ext hb4)
                  clear ho4 hb4
                  go_wp2_with (at_builtin; refine wpList_joinL rfl (.tmp 60) (.tmp 67) rfl rfl rfl HS4.out HO4.out (Nat.le_refl _) (by omega) ?_)
                  intro A5 c5 w5 hs5 hg5 hr5
                  have HS5 := Lib.hid hs5
                  have HI5 := Lib.hid (HI4.out.grown hg5 HN2.out)
                  have HN5 : Hid (∀ g, Value.ownBlock (.slice A5 (l2 + l3) c5) = some g → g < S ∨ S2 ≤ g) := Lib.hid (fun g hg => by
                    rcases hr5 with h | h
                    · exact HN2.out g (h ▸ hg)
                    · exact .inr (Nat.le_trans HI4.out.le (h g hg)))
                  have HL5 : Hid ((acc2 ++ us2).length = l2 + l3) := Lib.hid (by rw [List.length_append, HL2.out, HL3.out])
                  have HA5 : Hid (SameSum (acc2 ++ us2) (acc ++ (ws.take (j + 1)).flatMap (bef F p1))) := Lib.hid (by
                    rw [List.take_add_one, hu.out]
                    simp only [Option.toList_some, List.flatMap_append, List.flatMap_cons, List.flatMap_nil, List.append_nil, ← List.append_assoc]
                    exact HA2.out.append HB4.out)
                  have HW5 : Hid (∀ v ∈ acc2 ++ us2, v.length ≤ 7) := Lib.hid (fun v hv => by
                    rcases List.mem_append.1 hv with h | h
                    · exact HW2.out v h
                    · exact HB3.out v h)
                  clear hs5 hg5 hr5
                  go_wp2_with fail
                  go_roundw
                  case rel => exact ⟨j + 1, l2 + l3, c5, A5, _, _, by omega, by go_num, rfl, by omega, HL5, HA5, HW5, HS5, HI5, HN5⟩
                  case measure => simp [intOf]; omega
                · obtain rfl : j = L := by omega
                  have HA5 : Hid (SameSum acc2 ((relTo a b (k + 1)).flatMap fun p => (bef F p.2 r).flatMap fun u => bef F p.1 u)) := Lib.hid (by
                    have h1 := HA2.out
                    rw [List.take_of_length_le (by rw [HLe.out]; exact Nat.le_refl _)] at h1
                    rw [hpr.out, List.flatMap_append]
                    refine h1.trans (SameSum.append HA.out ?_)
                    simpa using HSw.out.flat (bef F p1))
                  go_wp2_with fail
                  go_roundw
                  case rel => exact ⟨k + 1, l2, c2, A2, acc2, by omega, by go_num, rfl, by omega, HL2, HA5, HW2, K2, HS2⟩
                  case measure => simp [intOf]; omega
          · have hl4 : l' ≤ 24576 := by omega
            have HT : Hid (totalL acc ≤ 1000000000000) := Lib.hid (by
              have := tot_le acc 7 HW.out
              rw [HL'.out] at this
              omega)
            have Ho := Lib.hid (oddOnes_any A' l' c' acc wr HS.out.rd (by omega) HT.out)
            have HV : Hid (oddL acc = oddL (bef F a (b :: r))) := Lib.hid (by
              refine oddL_congr (HA.out.trans ?_)
              rw [relTo_end (by rw [← HN.out]; omega) hk, show bef F a (b :: r) = (relP a b).flatMap fun p => (bef F p.2 r).flatMap fun u => bef F p.1 u from by
                show bef (99 + 1) a (b :: r) = _
                rw [bef, if_neg (by omega)]
                refine flatMap_congrP fun p hp => ?_
                have hp' := relP_mem hp ha
                have e1 : bef 99 p.2 r = bef F p.2 r := bef_fuel (by simp only [meas]; omega) (by simp only [meas, F]; omega) (by omega) Nr.out (by omega)
                rw [e1]
                refine flatMap_congrL fun u hu => ?_
                obtain ⟨l1, s1, n1⟩ := bef_word hu (by omega) Nr.out
                exact bef_fuel (by simp only [meas, l1]; omega) (by simp only [meas, l1, F]; omega) (by omega) n1 (by rw [s1]; omega)]
              exact SameSum.refl _)
            go_wp2_with fail
            refine Ho.out.mono ?_
            rintro e w5 ⟨A5, c5, rfl, ho5, hb5⟩
            have O5 := Lib.hid (ho5.mono (B' := V) HS.out.size (Nat.le_refl _))
            have B5 := Lib.hid (HS.out.bel.trans (hb5.mono HS.out.size))
            have hz5 := Lib.hid hb5.size
            clear ho5 hb5
            go_wp2_with fail
            go_ret
            have h9 : StL w V w5 w5.heap.size A5 (oddL acc).length c5 (oddL acc) := ⟨O5.out, B5.out, Nat.le_trans HS.out.size hz5.out, Nat.le_refl _⟩
            rw [HVe.out] at h9
            exact RetL.mk (by rw [HV.out]) HV.out h9
end Go.Proofs.YtgmbbpaokcjnhaaGreatDoor

/- lambdaForm: the admissible form of words. -/
namespace Go.Proofs.YtgmbbpaokcjnhaaGreatDoor
open Go.RowKit
set_option linter.unusedVariables false

theorem okW_drop {w : List Int} (h : okW w) (k : Nat) : okW (w.drop k) := by
  obtain ⟨h1, h2, h3⟩ := h
  refine ⟨by rw [List.length_drop]; omega, fun x hx => h2 x (List.mem_of_mem_drop hx), ?_⟩
  have e : sumZ w = sumZ (w.take k) + sumZ (w.drop k) := by rw [← sumZ_append, List.take_append_drop]
  have : 0 ≤ sumZ (w.take k) := sumZ_nonneg fun x hx => h2 x (List.mem_of_mem_take hx)
  omega
theorem nf_len {w : List Int} (h : okW w) : (oddL (nf w)).length ≤ 75582 := by
  refine asc_len (oddL_asc _) fun x hx => ?_
  obtain ⟨h1, h2, h3, _⟩ := nf_word (oddL_mem hx) h.2.1
  exact ⟨by rw [h1]; exact h.1, h3, by rw [h2]; exact h.2.2⟩
theorem own_nil (w : World) (K : Nat) (hK : K ≤ w.heap.size) : OwnS (w.alloc (.cells #[] 2)) K (some ⟨w.heap.size, 0, none⟩) 0 0 [] := own_empty w K hK
theorem StL.oneS {w0 w : World} {B n c : Nat} {A : Option Addr} {xs : List Int} (h : OwnS w B A n c xs) (hb : Below B w0 w) (hB : B ≤ w.heap.size) : StL w0 B (w.alloc (.cells #[.slice A n c] 35)) (w.alloc (.cells #[.slice A n c] 35)).heap.size (some ⟨w.heap.size, 0, Option.none⟩) 1 1 [xs] :=
  ⟨(ownL_oneS h hB).mono (Nat.le_refl _) (by simp), hb.alloc hB _, Nat.le_trans hB (by simp), Nat.le_refl _⟩

theorem lamForm_any (A : Option Addr) (n c B : Nat) (xss : List (List Int)) (w : World) (h : RdL w B A n c xss) (hB : B ≤ w.heap.size) (hn : n ≤ 100000) (hw : ∀ x ∈ xss, okW x) :
    Calls Tryz.prog 29 #[.slice A n c] w (RetL (formL xss).length (formL xss) w) := by
  have Hl := Lib.hid h.len
  have HW := Lib.hid hw; clear hw
  have hst := StL.start (Below.refl w.heap.size w) (Nat.le_refl _)
  obtain ⟨V, hV⟩ : ∃ V, V = w.heap.size := ⟨_, rfl⟩
  rw [← hV] at hst
  have H := Lib.hid (h.mono (show B ≤ V by rw [hV]; exact hB)); clear h
  have HVe := Lib.hid hV; clear hV
  have HS := Lib.hid hst.here; clear hst
  go_enter Tryz.func29, Tryz.ntmps29
  go_wp2_with fail
  rw [← HVe.out]
  go_loopw [3, 14] (fun o i wr => ∃ (k l' c' K : Nat) (A' : Option Addr) (acc : List (List Int)), k ≤ n ∧ i = .int .i64 k ∧ o = .slice A' l' c' ∧ l' ≤ k * 75582 ∧ Hid (acc.length = l') ∧ Hid (SameSum acc ((xss.take k).flatMap nf)) ∧ Hid (∀ u ∈ acc, u.length ≤ 7) ∧ Hid (StL w V wr K A' l' c' acc)) (fun _ i _ => n - (intOf i).toNat)
  case atStart => exact ⟨0, 0, 0, _, _, [], Nat.zero_le _, rfl, rfl, Nat.zero_le _, Lib.hid rfl, Lib.hid (by simpa using SameSum.refl _), Lib.hid (by simp), by rw [HVe.out]; rw [HVe.out] at HS; exact HS⟩
  case round =>
    clear HS
    obtain ⟨k, l', c', K, A', acc, hk, rfl, rfl, hlk, HL', HA, HU, HS⟩ := hrel
    by_cases hlt : k < n
    · obtain ⟨ad, A1, n1, c1, x, rfl, _, hx, hc, hr⟩ := (H.out.below HS.out.bel).at_ hlt
      have hok := HW.out x (List.mem_of_getElem? hx.out)
      have Hok := Lib.hid hok
      have hn1e : x.length = n1 := hr.len
      have hn1 : n1 ≤ 7 := by rw [← hn1e]; exact hok.1
      have HN1 := Lib.hid hn1e
      have HR := Lib.hid hr
      have hlk2 : l' + 75582 ≤ (k + 1) * 75582 := by rw [Nat.add_mul, Nat.one_mul]; exact Nat.add_le_add_right hlk _
      have hlb : l' ≤ 7558200000 := Nat.le_trans hlk (Nat.le_trans (Nat.mul_le_mul_right _ (show k ≤ 100000 by omega)) (by omega))
      clear hok hr hn1e
      obtain ⟨wo, hwo⟩ : ∃ wo : World, wo = wr := ⟨_, rfl⟩
      subst hwo
      obtain ⟨So, hSo⟩ : ∃ s, s = wo.heap.size := ⟨_, rfl⟩
      have HSo := Lib.hid hSo
      have hp0 := StL.oneS (w0 := wo) (B := wo.heap.size) (own_nil wo wo.heap.size (Nat.le_refl _)) ((Below.refl _ _).alloc (Nat.le_refl _) _) (by simp)
      rw [show (wo.alloc (.cells #[] 2)).heap.size = wo.heap.size + 1 from by simp, ← hSo] at hp0
      have HP0 := Lib.hid hp0
      clear hp0
      clear hSo
      go_wp2_with fail
      rw [← HSo.out]
      go_loopw [6, 7] (fun p u wr => ∃ (t : Int) (Ap : Option Addr) (lp cp Kp : Nat) (P : List (List Int)), -1 ≤ t ∧ t < n1 ∧ u = .int .i64 t ∧ p = .slice Ap lp cp ∧ lp ≤ 75582 ∧ Hid (P.length = lp) ∧ Hid (P = oddL (nf (x.drop (t + 1).toNat))) ∧ Hid (StL wo So wr Kp Ap lp cp P)) (fun _ u _ => (intOf u + 1).toNat)
      case atStart =>
        exact ⟨(n1 : Int) - 1, _, 1, 1, _, [[]], by omega, by omega, rfl, rfl, by omega, Lib.hid rfl, Lib.hid (by
          rw [List.drop_of_length_le (by rw [HN1.out]; omega)]
          simp [nf, oddL_single]), HP0⟩
      case round =>
        obtain ⟨t, Ap, lp, cp, Kp, P, ht1, ht2, rfl, rfl, hlp, HPl, HP, HPS⟩ := hrel
        by_cases ht : 0 ≤ t
        · obtain ⟨i, rfl⟩ := Int.eq_ofNat_of_zero_le ht
          have hin : i < n1 := by omega
          have hii : ((i : Int) + 1).toNat = i + 1 := by omega
          obtain ⟨ad2, a, had2, _, ha, hca⟩ := (HR.out.below (HPS.out.bel.mono (by rw [HSo.out]; exact HS.out.size))).at_ hin
          subst had2
          have hxd : x.drop i = a :: x.drop (i + 1) := by
            obtain ⟨h1, e1⟩ := List.getElem?_eq_some_iff.1 ha.out
            rw [List.drop_eq_getElem_cons h1, e1]
          have hokd := okW_drop Hok.out i
          rw [hxd] at hokd
          have hok2 := okW_drop Hok.out (i + 1)
          have ha0 : 0 ≤ a := hokd.2.1 a (by simp)
          have hP2 : Hid (P = oddL (nf (x.drop (i + 1)))) := Lib.hid (by have := HP.out; rw [hii] at this; exact this)
          have HPW : Hid (∀ u ∈ P, u.length ≤ 6 ∧ a + sumZ u ≤ 11 ∧ nonN u ∧ admB u = true) := Lib.hid (fun u hu => by
            rw [hP2.out] at hu
            obtain ⟨h1, h2, h3, h4⟩ := nf_word (oddL_mem hu) hok2.2.1
            have h5 := hokd.1
            have h6 := hokd.2.2
            simp only [List.length_cons, sumZ] at h5 h6
            exact ⟨by omega, by rw [h2]; exact h6, h3, h4⟩)
          have Hxd : Hid (oddL (nf (x.drop i)) = oddL (befS F a P)) := Lib.hid (by
            rw [hxd, nf, hP2.out]
            exact oddL_congr (befS_same (oddL_same _).symm))
          have Hhii := Lib.hid hii
          clear hxd hokd hok2 ht hii
          obtain ⟨wp, hwp⟩ : ∃ wp : World, wp = wr := ⟨_, rfl⟩
          subst hwp
          have hq := StL.start (Below.refl wp.heap.size wp) (Nat.le_refl _)
          obtain ⟨Sp, hSp⟩ : ∃ s, s = wp.heap.size := ⟨_, rfl⟩
          rw [← hSp] at hq
          have HSp := Lib.hid hSp
          clear hSp
          have HQ0 := Lib.hid hq.here; clear hq
          have HPr := Lib.hid (show RdL wp Sp Ap lp cp P by rw [HSp.out]; exact HPS.out.rd)
          have HWr := Lib.hid (show RdS wp Sp (some ad2) n1 c1 x from (HR.out.below (HPS.out.bel.mono (by rw [HSo.out]; exact HS.out.size))).mono (by rw [HSp.out]; exact Nat.le_trans HS.out.size (Nat.le_trans (Nat.le_of_eq HSo.out.symm) HPS.out.size)))
          clear hca
          go_wp2_with fail
          rw [← HSp.out]
          go_loopw [8, 30] (fun q v wr => ∃ (j l2 c2 K2 : Nat) (A2 : Option Addr) (ac : List (List Int)), j ≤ lp ∧ v = .int .i64 j ∧ q = .slice A2 l2 c2 ∧ l2 ≤ j * 64 ∧ Hid (ac.length = l2) ∧ Hid (SameSum ac ((P.take j).flatMap (bef F a))) ∧ Hid (∀ u ∈ ac, u.length ≤ 7) ∧ Hid (StL wp Sp wr K2 A2 l2 c2 ac)) (fun _ v _ => lp - (intOf v).toNat)
          case atStart => exact ⟨0, 0, 0, _, _, [], Nat.zero_le _, rfl, rfl, Nat.zero_le _, Lib.hid rfl, Lib.hid (by simpa using SameSum.refl _), Lib.hid (by simp), HQ0⟩
          case round =>
            clear HQ0
            obtain ⟨j, l2, c2, K2, A2, ac, hj, rfl, rfl, hl2, HL2, HA2, HU2, HQ⟩ := hrel
            by_cases hjl : j < lp
            · obtain ⟨ad3, A3, n3, c3, u, rfl, _, hu, hc3, hr3⟩ := (HPr.out.below HQ.out.bel).at_ hjl
              obtain ⟨ad4, a2, e4, _, ha2, hc4⟩ := (HWr.out.below HQ.out.bel).at_ hin
              obtain rfl : ad2 = ad4 := by simpa using e4
              obtain rfl : a = a2 := by have h1 := ha.out; rw [ha2.out] at h1; simpa using h1.symm
              obtain ⟨u1, u2, u3, u4⟩ := HPW.out u (List.mem_of_getElem? hu.out)
              have hu0 := sumZ_nonneg u3
              have Hr3 := Lib.hid (lamBefore_any (meas a u + 1) a A3 n3 c3 Sp u _ (Nat.lt_succ_self _) ha0 u3 u4 u2 u1 hr3 HQ.out.size)
              have hbl := bef_len (a := a) (y := u) u4 ha0 u1 u3 u2
              have hol := oddL_len (bef F a u)
              have HB3 : Hid (∀ v ∈ oddL (bef F a u), v.length ≤ 7) := Lib.hid (fun v hv => by
                have := (bef_word (oddL_mem hv) ha0 u3).1
                omega)
              have HB4 : Hid (SameSum (oddL (bef F a u)) (bef F a u)) := Lib.hid (oddL_same _)
              obtain ⟨us, hus⟩ : ∃ s, s = oddL (bef F a u) := ⟨_, rfl⟩
              rw [← hus] at Hr3 HB3 HB4 hol
              obtain ⟨l3, hl3⟩ : ∃ l, l = us.length := ⟨_, rfl⟩
              rw [← hl3] at Hr3 hol
              have HL3 := Lib.hid hl3
              have hl364 : l3 ≤ 64 := by omega
              have hl2b : l2 ≤ 75582 * 64 := Nat.le_trans hl2 (Nat.mul_le_mul_right _ (by omega))
              have hl3b : l2 + l3 ≤ (j + 1) * 64 := by rw [Nat.add_mul, Nat.one_mul]; exact Nat.add_le_add hl2 hl364
              clear hus hl3 hol hbl hr3 u1 u2 u3 u4 hu0 e4
              go_wp2_with fail
              refine Hr3.out.mono ?_
              rintro e w3 ⟨A4, c4, rfl, ho4, hb4⟩
              have HO4 := Lib.hid ho4
              have HQ4 := Lib.hid (HQ.out.here.call hb4)
              clear ho4 hb4
              go_wp2_with (at_builtin; refine wpList_joinL rfl (.tmp 34) (.tmp 40) rfl rfl rfl HQ4.out HO4.out (Nat.le_refl _) (by omega) ?_)
              intro A5 c5 w5 hs5 hg5 hr5
              have HQ5 := Lib.hid hs5
              have HL5 : Hid ((ac ++ us).length = l2 + l3) := Lib.hid (by rw [List.length_append, HL2.out, HL3.out])
              have HA5 : Hid (SameSum (ac ++ us) ((P.take (j + 1)).flatMap (bef F a))) := Lib.hid (by
                rw [List.take_add_one, hu.out]
                simp only [Option.toList_some, List.flatMap_append, List.flatMap_cons, List.flatMap_nil, List.append_nil]
                exact HA2.out.append HB4.out)
              have HU5 : Hid (∀ v ∈ ac ++ us, v.length ≤ 7) := Lib.hid (fun v hv => by
                rcases List.mem_append.1 hv with h | h
                · exact HU2.out v h
                · exact HB3.out v h)
              clear hs5 hg5 hr5
              go_wp2_with fail
              go_roundw
              case rel => exact ⟨j + 1, l2 + l3, c5, _, A5, _, by omega, by go_num, rfl, hl3b, HL5, HA5, HU5, HQ5⟩
              case measure => simp [intOf]; omega
            · obtain rfl : j = lp := by omega
              have hl2b : l2 ≤ 75582 * 64 := Nat.le_trans hl2 (Nat.mul_le_mul_right _ (by omega))
              have HT : Hid (totalL ac ≤ 1000000000000) := Lib.hid (by
                have := tot_le ac 7 HU2.out
                rw [HL2.out] at this
                omega)
              have Ho := Lib.hid (oddOnes_any A2 l2 c2 ac _ HQ.out.rd (by omega) HT.out)
              have HE : Hid (oddL ac = oddL (nf (x.drop i))) := Lib.hid (by
                have h1 := HA2.out
                rw [List.take_of_length_le (by rw [HPl.out]; exact Nat.le_refl _)] at h1
                rw [Hxd.out]
                exact oddL_congr h1)
              have hol : (oddL ac).length ≤ 75582 := by rw [HE.out]; exact nf_len (okW_drop Hok.out i)
              obtain ⟨P2, hP2e⟩ : ∃ P, P = oddL ac := ⟨_, rfl⟩
              rw [← hP2e] at Ho HE hol
              obtain ⟨l3, hl3⟩ : ∃ l, l = P2.length := ⟨_, rfl⟩
              rw [← hl3] at Ho hol
              have HL3 := Lib.hid hl3.symm
              clear hP2e hl3
              go_wp2_with fail
              refine Ho.out.mono ?_
              rintro e w5 ⟨A5, c5, rfl, ho5, hb5⟩
              have HPS5 : Hid (StL wo So w5 w5.heap.size A5 l3 c5 P2) := Lib.hid (by
                have hs1 : So ≤ Sp := by rw [HSp.out]; exact HPS.out.size
                have hs2 := HQ.out.size
                have hs3 := hb5.size
                refine ⟨ho5.mono (Nat.le_trans hs1 hs2) (Nat.le_refl _), HPS.out.bel.trans ((HQ.out.bel.trans (hb5.mono hs2)).mono hs1), ?_, Nat.le_refl _⟩
                omega)
              have HE2 : Hid (P2 = oddL (nf (x.drop ((i : Int) - 1 + 1).toNat))) := Lib.hid (by rw [HE.out, show ((i : Int) - 1 + 1).toNat = i from by omega])
              clear ho5 hb5
              go_wp2_with fail
              go_roundw
              case rel => exact ⟨(i : Int) - 1, A5, l3, c5, _, P2, by omega, by omega, rfl, rfl, hol, HL3, HE2, HPS5⟩
              case measure => first | (simp [intOf]; done) | (simp [intOf]; omega)
        · obtain rfl : t = -1 := by omega
          have HE : Hid (P = oddL (nf x)) := Lib.hid (by have := HP.out; simpa using this)
          have HO := Lib.hid (HS.out.here.call (show Below wo.heap.size wo wr by rw [← HSo.out]; exact HPS.out.bel))
          have HPo := Lib.hid (show OwnL wr wo.heap.size wr.heap.size Ap lp cp P by rw [← HSo.out]; exact HPS.out.own.mono (Nat.le_refl _) HPS.out.hi)
          go_wp2_with (at_builtin; refine wpList_joinL rfl (.tmp 45) (.tmp 46) rfl rfl rfl HO.out HPo.out (Nat.le_refl _) (by omega) ?_)
          intro A5 c5 w5 hs5 _ _
          have HS5 := Lib.hid hs5
          have HL5 : Hid ((acc ++ P).length = l' + lp) := Lib.hid (by rw [List.length_append, HL'.out, HPl.out])
          have HA5 : Hid (SameSum (acc ++ P) ((xss.take (k + 1)).flatMap nf)) := Lib.hid (by
            rw [List.take_add_one, hx.out]
            simp only [Option.toList_some, List.flatMap_append, List.flatMap_cons, List.flatMap_nil, List.append_nil]
            refine HA.out.append ?_
            rw [HE.out]
            exact oddL_same _)
          have HU5 : Hid (∀ v ∈ acc ++ P, v.length ≤ 7) := Lib.hid (fun v hv => by
            rcases List.mem_append.1 hv with h | h
            · exact HU.out v h
            · rw [HE.out] at h
              have := nf_word (oddL_mem h) Hok.out.2.1
              rw [this.1]; exact Hok.out.1)
          have hlk3 : l' + lp ≤ (k + 1) * 75582 := Nat.le_trans (Nat.add_le_add_left hlp _) hlk2
          clear hs5
          go_wp2_with fail
          go_roundw
          case rel => exact ⟨k + 1, l' + lp, c5, _, A5, _, by omega, by go_num, rfl, hlk3, HL5, HA5, HU5, HS5⟩
          case measure => simp [intOf]; omega
    · obtain rfl : k = n := by omega
      have hlb : l' ≤ 7558200000 := Nat.le_trans hlk (Nat.le_trans (Nat.mul_le_mul_right _ hn) (by omega))
      have HT : Hid (totalL acc ≤ 1000000000000) := Lib.hid (by
        have := tot_le acc 7 HU.out
        rw [HL'.out] at this
        omega)
      have Ho := Lib.hid (oddOnes_any A' l' c' acc _ HS.out.rd (by omega) HT.out)
      have HE : Hid (oddL acc = formL xss) := Lib.hid (by
        have h1 := HA.out
        rw [List.take_of_length_le (by rw [Hl.out]; exact Nat.le_refl _)] at h1
        exact oddL_congr h1)
      go_wp2_with fail
      refine Ho.out.mono ?_
      rintro e w5 ⟨A5, c5, rfl, ho5, hb5⟩
      have h9 : Hid (StL w V w5 w5.heap.size A5 (oddL acc).length c5 (oddL acc)) := Lib.hid ⟨ho5.mono HS.out.size (Nat.le_refl _), HS.out.bel.trans (hb5.mono HS.out.size), Nat.le_trans HS.out.size hb5.size, Nat.le_refl _⟩
      clear ho5 hb5
      go_wp2_with fail
      go_ret
      have h8 := h9.out
      rw [HVe.out] at h8
      exact RetL.mk (by rw [HE.out]) HE.out h8
end Go.Proofs.YtgmbbpaokcjnhaaGreatDoor

/- The reference's way to the admissible form: l16Reduce. -/
namespace Go.Proofs.YtgmbbpaokcjnhaaGreatDoor
open Go.RowKit
set_option linter.unusedVariables false

structure MoreInv (x : List Int) (R M : List (List Int)) (p : Nat) : Prop where
  asc : Asc M
  same : SameSum M (x :: R.take p)
  mem : ∀ y ∈ M, y = x ∨ y ∈ R
theorem MoreInv.start {x : List Int} {R : List (List Int)} : MoreInv x R [x] 0 := ⟨by simp [Asc], by simpa using SameSum.refl _, by simp⟩
theorem MoreInv.step {x z : List Int} {R M : List (List Int)} {p : Nat} (h : MoreInv x R M p) (hz : R[p]? = some z) : MoreInv x R (oddL (M ++ [z])) (p + 1) := by
  refine ⟨oddL_asc _, ?_, fun y hy => ?_⟩
  · refine (oddL_same _).trans ?_
    rw [List.take_add_one, hz, ← List.cons_append]
    exact h.same.append (SameSum.refl _)
  · rcases List.mem_append.1 (oddL_mem hy) with hy | hy
    · exact h.mem y hy
    · rw [List.mem_singleton.1 hy]; exact .inr (List.mem_of_getElem? hz)
theorem repl_at {u v y : List Int} {a b : Int} {p : Nat} (h : (relL a b)[p]? = some y) : (repl u v a b)[p]? = some (u ++ y ++ v) := by
  simp only [relL, repl, List.getElem?_map] at h ⊢
  cases hq : (relP a b)[p]? with
  | none => rw [hq] at h; cases h
  | some q =>
    rw [hq] at h
    simp only [Option.map_some, Option.some.injEq] at h ⊢
    subst h
    simp
/-- what comes back reads as the sum; it is either the slice that came in or all its own -/
def RetRed (A : Option Addr) (n c : Nat) (xss yss : List (List Int)) (w : World) (e : Ending) (w' : World) : Prop :=
  ∃ A' c', e = .returned (.slice A' yss.length c') ∧ RdL w' w'.heap.size A' yss.length c' yss ∧ (OwnL w' w.heap.size w'.heap.size A' yss.length c' yss ∨ (A' = A ∧ yss.length = n ∧ c' = c ∧ yss = xss)) ∧ Below w.heap.size w w'
theorem red_len {xss T : List (List Int)} {i : Nat} (h : RedInv xss T i) : T.length ≤ 75582 ∧ totalL T ≤ 529074 := by
  have h1 := asc_len h.asc h.ok
  have h2 := tot_le T 7 fun x hx => (h.ok x hx).1
  exact ⟨h1, by omega⟩

set_option maxRecDepth 100000 in
set_option maxHeartbeats 2000000 in
theorem reduce_any (A : Option Addr) (n c B : Nat) (xss : List (List Int)) (w : World) (h : RdL w B A n c xss) (hB : B ≤ w.heap.size) (ha : Asc xss) (hw : ∀ x ∈ xss, okW x) :
    Calls Tryz.prog 33 #[.slice A n c] w (RetRed A n c xss (formL xss) w) := by
  obtain ⟨V, hV⟩ : ∃ V, V = w.heap.size := ⟨_, rfl⟩
  have HVe := Lib.hid hV
  have H := Lib.hid (show RdL w V A n c xss from h.mono (by rw [hV]; exact hB))
  have Hl := Lib.hid h.len
  have HI0 := Lib.hid (RedInv.mk ha hw (SameSum.refl _) (fun j hj => absurd hj (by omega)) : RedInv xss xss 0)
  clear hV h ha hw
  go_enter Tryz.func33, Tryz.ntmps33
  go_wp2_with fail
  go_loopg [0, 3] (mu xss 0) (fun g t i wr => ∃ (T : List (List Int)) (At : Option Addr) (nt ct j : Nat), t = .slice At nt ct ∧ i = .int .i64 j ∧ j ≤ nt ∧ nt ≤ 75582 ∧ Hid (T.length = nt) ∧ Hid (RedInv xss T j) ∧ Hid (g = mu T j) ∧ Hid (RdL wr wr.heap.size At nt ct T) ∧ Hid (Below V w wr) ∧ Hid (V ≤ wr.heap.size) ∧ Hid (OwnL wr V wr.heap.size At nt ct T ∨ (At = A ∧ nt = n ∧ ct = c ∧ T = xss)))
  case atStart => exact ⟨xss, A, n, c, 0, rfl, rfl, Nat.zero_le _, by have := (red_len HI0.out).1; rw [Hl.out] at this; exact this, Hl, HI0, Lib.hid rfl, Lib.hid (H.out.mono (Nat.le_of_eq HVe.out)), Lib.hid (Below.refl _ _), Lib.hid (Nat.le_of_eq HVe.out), Lib.hid (.inr ⟨rfl, rfl, rfl, rfl⟩)⟩
  case round =>
    obtain ⟨T, At, nt, ct, j, rfl, rfl, hj, hnt, HTl, HI, HG, HR, HBl, HV, HO⟩ := hrel
    by_cases hlt : j < nt
    · obtain ⟨ad, A1, n1, c1, x, rfl, _, hx, hc, hr⟩ := HR.out.at_ hlt
      have hok := HI.out.ok x (List.mem_of_getElem? hx.out)
      have Hok := Lib.hid hok
      have Hn1 := Lib.hid hr.len
      have hn1 : n1 ≤ 7 := by rw [← hr.len]; exact hok.1
      have HRx := Lib.hid hr
      have Hf := Lib.hid (fault_any A1 n1 c1 _ x wr hr (by omega) (fun y hy => ⟨hok.2.1 y hy, by
        have h1 := sumZ_nonneg hok.2.1
        have h2 : y ≤ sumZ x := by
          have aux : ∀ l : List Int, nonN l → y ∈ l → y ≤ sumZ l := by
            intro l
            induction l with
            | nil => intro _ h; simp at h
            | cons z l ih =>
              intro hn hy
              have hl : nonN l := fun q hq => hn q (List.mem_cons_of_mem _ hq)
              have h3 := sumZ_nonneg hl
              have h4 := hn z (by simp)
              simp only [sumZ]
              rcases List.mem_cons.1 hy with rfl | hy
              · omega
              · have := ih hl hy; omega
          exact aux x hok.2.1 hy
        have := hok.2.2
        omega⟩))
      have hge := flt_ge x
      clear hok hr
      obtain ⟨fl, hfl⟩ : ∃ f, f = flt x := ⟨_, rfl⟩
      rw [← hfl] at Hf hge
      by_cases hneg : fl < 0
      · have HN := Lib.hid (HI.out.next hx.out (flt_neg (by rw [← hfl]; exact hneg)))
        clear hfl
        go_wp2_with fail
        refine Hf.out.mono ?_
        rintro e w1 ⟨rfl, q, rfl⟩
        go_wp2_with fail
        go_roundg (mu T (j + 1))
        case measure => rw [HG.out]; exact HN.out.2
        case rel => exact ⟨T, some ad, nt, ct, j + 1, rfl, by go_num, by omega, hnt, HTl, Lib.hid HN.out.1, Lib.hid rfl, Lib.hid (HR.out.drewN q), Lib.hid (below_drewN HBl.out q), HV, Lib.hid (by
          rcases HO.out with h | h
          · exact .inl (h.drewN q)
          · exact .inr h)⟩
      · obtain ⟨k, rfl⟩ := Int.eq_ofNat_of_zero_le (show 0 ≤ fl by omega)
        obtain ⟨u, a, b, v, hxe, hul, hab⟩ := flt_at hfl.symm
        have hlen : u.length + (v.length + 2) = n1 := by have := Hn1.out; rw [hxe] at this; simpa using this
        obtain ⟨m, hm⟩ : ∃ m, m = k + 1 := ⟨_, rfl⟩
        have hkn : k < n1 := by omega
        have hmn : m < n1 := by omega
        obtain ⟨ad1, a', rfl, hbk, ha', hca⟩ := HRx.out.at_ hkn
        obtain ⟨ad2, b', e2, _, hb', hcb⟩ := HRx.out.at_ hmn
        obtain rfl : ad1 = ad2 := by simpa using e2
        obtain rfl : a = a' := by have h1 := ha'.out; rw [hxe, ← hul] at h1; simpa using h1
        obtain rfl : b = b' := by
          have h1 := hb'.out
          rw [hxe, hm, ← hul, List.getElem?_append_right (by omega), show u.length + 1 - u.length = 1 from by omega] at h1
          simpa using h1
        have hokx := Hok.out
        rw [hxe] at hokx
        have ha0 : 0 ≤ a := hokx.2.1 a (by simp)
        have hb0 : 0 ≤ b := hokx.2.1 b (by simp)
        have hu0 : 0 ≤ sumZ u := sumZ_nonneg fun z hz => hokx.2.1 z (by simp [hz])
        have hv0 : 0 ≤ sumZ v := sumZ_nonneg fun z hz => hokx.2.1 z (by simp [hz])
        have hsab : a + b ≤ 11 := by have := hokx.2.2; rw [sumZ_append] at this; simp only [sumZ] at this; omega
        have HX := Lib.hid hxe
        have HU := Lib.hid hul
        have HM := Lib.hid hm
        have hwk : IntKind.i64.wrap ((k : Int) + 1) = (m : Int) := by rw [IntKind.wrap_i64]; omega
        have HWK := Lib.hid hwk
        clear hfl hxe hul hm hokx e2 hwk hu0 hv0 hlen
        go_wp2_with fail
        refine Hf.out.mono ?_
        rintro e w1 ⟨rfl, q, rfl⟩
        obtain ⟨wq, hwq⟩ : ∃ W, W = wr.drewN q := ⟨_, rfl⟩
        have HQ := Lib.hid (show Ext wr wq by rw [hwq]; exact below_drewN (Below.refl _ _) q)
        have HRq := Lib.hid (show RdL wq wq.heap.size (some ad) nt ct T by rw [hwq]; exact HR.out.drewN q)
        have HRxq := Lib.hid (show RdS wq wq.heap.size (some ad1) n1 c1 x by rw [hwq]; exact HRx.out.drewN q)
        have HOq := Lib.hid (show OwnL wq V wq.heap.size (some ad) nt ct T ∨ (some ad = A ∧ nt = n ∧ ct = c ∧ T = xss) by
          rcases HO.out with h | h
          · rw [hwq]; exact .inl (h.drewN q)
          · exact .inr h)
        have HBq := Lib.hid (show Below V w wq by rw [hwq]; exact below_drewN HBl.out q)
        have HVq := Lib.hid (show V ≤ wq.heap.size by rw [hwq]; exact HV.out)
        have hka : wq.cell? (ad1.add k) = some (.int .i64 a) := by rw [hwq]; exact hca
        have hkb : wq.cell? (ad1.add m) = some (.int .i64 b) := by rw [hwq]; exact hcb
        have hza : (ad1.add k).block < wq.heap.size := by rw [hwq, block_of_add]; exact hbk
        have hzb : (ad1.add m).block < wq.heap.size := by rw [hwq, block_of_add]; exact hbk
        rw [← hwq]
        clear hca hcb hc HR HRx HO HBl HV hwq
        go_upto_region 7 with fail
        go_cut [6, 7] (fun p q wc => ∃ (Ar : Option Addr) (cr : Nat) (gm : Nat), p = .slice Ar (relL a b).length cr ∧ q = .slice (some ⟨gm, 0, none⟩) 1 1 ∧ Hid (RdL wc wc.heap.size Ar (relL a b).length cr (relL a b) ∧ RdL wc wc.heap.size (some ⟨gm, 0, none⟩) 1 1 [x] ∧ Ext wq wc))
        case first =>
          have hwk := HWK.out
          have hkn0 : (0 : Int) ≤ (k : Int) := by omega
          have hd1 := Lib.hid (Ext.drew (Ext.refl wq))
          have hza' : (ad1.add k).block < wq.drew.heap.size := hza
          have hzb' : (ad1.add m).block < wq.drew.heap.size := hzb
          go_region_held3 (fun w' => w'.cell? (ad1.add k) = some (.int .i64 a) ∧ w'.cell? (ad1.add m) = some (.int .i64 b)) (first | exact ⟨hka, hkb⟩ | exact ⟨kac, kbc⟩ | exact ⟨old_atA hza' hka, old_atA hzb' hkb⟩ | exact ⟨old_atA zac kac, old_atA zbc kbc⟩)
            (first
              | (go_at_call 61
                 refine (relation_any a b _ ha0 hb0 hsab hab).mono ?_
                 rintro e u0 ⟨Ar, cr, rfl, hor, hbr⟩
                 have kac := bcellA hbr (by first | exact hza' | exact lt_allocA hza') (by first | exact hka | exact old_atA hza' hka)
                 have kbc := bcellA hbr (by first | exact hzb' | exact lt_allocA hzb') (by first | exact hkb | exact old_atA hzb' hkb)
                 have zac := Nat.lt_of_lt_of_le (by first | exact hza' | exact lt_allocA hza') hbr.size
                 have zbc := Nat.lt_of_lt_of_le (by first | exact hzb' | exact lt_allocA hzb') hbr.size
                 have HOr := Lib.hid (And.intro hor.rd hbr)
                 clear hor hbr))
          all_goals
            go_wp2_with fail
            go_meet
            first
              | exact ⟨Ar, cr, u0.heap.size, rfl, rfl, Lib.hid ⟨HOr.out.1.alloc _, rdL_one ((HRxq.out.below (Ext.trans hd1.out HOr.out.2)).mono (Ext.trans hd1.out HOr.out.2).size) (Nat.le_refl _), Ext.alloc (Ext.trans hd1.out HOr.out.2) _⟩⟩
              | exact ⟨Ar, cr, wq.heap.size, rfl, rfl, Lib.hid ⟨HOr.out.1, ((rdL_one HRxq.out (Nat.le_refl _)).drewN 1 |>.below HOr.out.2).mono HOr.out.2.size, Ext.trans (Ext.drew ((Ext.refl wq).alloc _)) HOr.out.2⟩⟩
        case rest =>
          obtain ⟨Ar, cr, gm, rfl, rfl, hv⟩ := hcut
          obtain ⟨hr1, hr2, hr3⟩ := hv.out
          obtain ⟨w2, hwe⟩ : ∃ W : World, W = wc := ⟨_, rfl⟩
          subst hwe
          have R1 := Lib.hid hr1
          have X2 := Lib.hid hr3
          have HM0 := Lib.hid hr2
          have HTq := Lib.hid (HRq.out.below hr3)
          clear hka hkb hza hzb hr1 hr2 hr3 hv
          have hlr : (relL a b).length ≤ 6 := by
            have h1 : (relL a b).length = ((List.range 6).filter (relC a b)).length := by simp [relL, relP_eq, relTo]
            have h2 := List.length_filter_le (relC a b) (List.range 6)
            rw [List.length_range] at h2
            omega
          obtain ⟨lr, hlre⟩ : ∃ l, l = (relL a b).length := ⟨_, rfl⟩
          have HLr := Lib.hid hlre
          rw [← hlre] at R1 hlr ⊢
          clear hlre
          have HMI := Lib.hid (MoreInv.start (x := x) (R := repl u v a b))
          obtain ⟨i2, hi2⟩ : ∃ i, i = k + 2 := ⟨_, rfl⟩
          have hi2n : i2 ≤ n1 := by have := HM.out; omega
          have hsl1 := fun W => run_pre (some ad1) n1 c1 k (by have := HRxq.out.cap; omega) W
          have hsl2 := fun W => run_suf (some ad1) n1 c1 k i2 hi2 hi2n W
          have HI2 := Lib.hid hi2
          clear hi2
          go_wp2_with fail
          go_loopw [7, 8] (fun mo i wz => ∃ (p lm cm : Nat) (Am : Option Addr) (M : List (List Int)), p ≤ lr ∧ i = .int .i64 p ∧ mo = .slice Am lm cm ∧ lm ≤ p + 1 ∧ Hid (M.length = lm) ∧ Hid (MoreInv x (repl u v a b) M p) ∧ Hid (RdL wz wz.heap.size Am lm cm M) ∧ Hid (Ext w2 wz)) (fun _ i _ => lr - (intOf i).toNat)
          case atStart => exact ⟨0, 1, 1, _, [x], Nat.zero_le _, rfl, rfl, by omega, Lib.hid rfl, HMI, HM0, Lib.hid (Ext.refl _)⟩
          case round =>
            clear HMI HM0
            obtain ⟨p, lm, cm, Am, M, hp, rfl, rfl, hlm, HLm, HMI, HMr, HX2⟩ := hrel
            obtain ⟨wz, hwz⟩ : ∃ W : World, W = wr := ⟨_, rfl⟩
            subst hwz
            by_cases hpl : p < lr
            · obtain ⟨adr, Ay, ny, cy, y, rfl, hbr, hy, hcy, hry⟩ := (R1.out.below HX2.out).at_ hpl
              have Hy := Lib.hid (repl_at (u := u) (v := v) hy.out)
              have hny : ny = 2 := by
                rw [← hry.len]
                obtain ⟨q, _, rfl⟩ := List.mem_map.1 (List.mem_of_getElem? hy.out)
                rfl
              subst hny
              have hzy : (adr.add p).block < wz.heap.size := by rw [block_of_add]; exact Nat.lt_of_lt_of_le hbr HX2.out.size
              have HRy := Lib.hid (hry.mono HX2.out.size)
              have HRw := Lib.hid ((HRxq.out.below (Ext.trans X2.out HX2.out)).mono (Ext.trans X2.out HX2.out).size)
              have Ed := Lib.hid (Ext.drew (Ext.refl wz))
              have hk0 : (0 : Int) ≤ (k : Int) := by omega
              have hp0 : (0 : Int) ≤ (p : Int) := by omega
              clear hbr hry
              go_wp2_with fail
              go_region_held3 (fun w' => w'.cell? (adr.add p) = some (.slice Ay 2 cy)) (first | exact hcy | exact kcy1 | exact kcy2)
                (first
                  | (go_at_call 62
                     refine (own_st (some ad1) k c1 _ (x.take k) _ ((HRw.out.below Ed.out).pre (Nat.le_of_lt hkn)) (Nat.le_refl _) (by omega)).mono ?_
                     rintro e u1 ⟨A5, c5, rfl, ho5, hb5⟩
                     have kcy1 := bcellA hb5 (show (adr.add p).block < wz.drew.heap.size from hzy) hcy
                     have hz1 := Nat.lt_of_lt_of_le (show (adr.add p).block < wz.drew.heap.size from hzy) hb5.size
                     have HS5 := Lib.hid (show StS wz wz.heap.size u1 A5 k c5 (x.take k) from ⟨ho5, Ext.trans Ed.out hb5, hb5.size⟩)
                     have HRy1 := Lib.hid (HRy.out.below (Ext.trans Ed.out hb5))
                     clear ho5 hb5)
                  | ((refine step_joinI (by rfl) (.tmp 45) (.tmp 49) (by rfl) (by rfl) (by rfl) HS5.out HRy1.out (by omega) ?_
                      intro A6 c6 w6 hs6 hg6
                      have kcy2 : w6.cell? (adr.add p) = some (.slice Ay 2 cy) := (hs6.bel.cell (p := adr.add p) hzy).trans hcy
                      have HS6 := Lib.hid hs6
                      clear hs6 hg6)))
              have HRs := Lib.hid ((HRw.out.below HS6.out.bel).suf hi2n)
              clear hcy kcy1 kcy2 hz1 HS5 HRy1
              go_wp2_with (at_builtin; refine wpList_joinI rfl (.tmp 52) (.tmp 56) rfl rfl rfl HS6.out HRs.out (by omega) ?_)
              intro A7 c7 w7 hs7 _
              have HS7 := Lib.hid hs7
              have HE7 : Hid (x.take k ++ y ++ x.drop i2 = u ++ y ++ v) := Lib.hid (by
                rw [HX.out, HI2.out, drop_suf HU.out]
                conv => lhs; rw [← HU.out, take_pref])
              have HOk := Lib.hid (repl_ok (show okW (u ++ a :: b :: v) by rw [← HX.out]; exact Hok.out))
              obtain ⟨z, hz⟩ : ∃ z, z = u ++ y ++ v := ⟨_, rfl⟩
              rw [← List.append_assoc, HE7.out, ← hz] at HS7
              rw [← hz] at Hy
              have hzl : z.length ≤ 7 := (HOk.out z (List.mem_of_getElem? Hy.out)).1.1
              clear hs7 hz HE7 HS6 HRs
              have HZ := Lib.hid (rdL_one HS7.out.own.rd (Nat.le_refl _))
              have HM7 := Lib.hid (((HMr.out.below HS7.out.bel).mono HS7.out.bel.size).alloc (.cells #[.slice A7 (k + 2 + (n1 - i2)) c7] 35))
              have HX7 := Lib.hid (Ext.alloc (Ext.trans HX2.out HS7.out.bel) (.cells #[.slice A7 (k + 2 + (n1 - i2)) c7] 35))
              have HMt : Hid (totalL M ≤ 49) := Lib.hid (by
                have := tot_le M 7 fun q hq => by
                  rcases HMI.out.mem q hq with e | e
                  · rw [e]; exact Hok.out.1
                  · exact (HOk.out q e).1.1
                rw [HLm.out] at this
                omega)
              have HMI2 := Lib.hid (HMI.out.step Hy.out)
              have hol := oddL_len (M ++ [z])
              rw [List.length_append, HLm.out] at hol
              have Hsum := Lib.hid (l01Sum_any Am _ lm cm 1 1 M [z] _ HM7.out HZ.out (by omega) (by omega) (by have := HMt.out; omega) (by simp [totalL]; omega) HMI.out.asc (by simp [Asc]))
              obtain ⟨M2, hM2⟩ : ∃ M2, M2 = oddL (M ++ [z]) := ⟨_, rfl⟩
              rw [← hM2] at Hsum HMI2 hol
              obtain ⟨l2, hl2⟩ : ∃ l, l = M2.length := ⟨_, rfl⟩
              rw [← hl2] at Hsum hol
              have HL2 := Lib.hid hl2.symm
              simp only [List.length_singleton] at hol
              clear hM2 hl2
              go_wp2_with fail
              refine Hsum.out.mono ?_
              rintro e w8 ⟨A8, c8, rfl, ho8, hb8⟩
              have HM8 := Lib.hid ho8.rd
              have HX8 := Lib.hid (Ext.trans HX7.out hb8)
              clear ho8 hb8
              go_wp2_with fail
              go_roundw
              case rel => exact ⟨p + 1, l2, c8, A8, M2, by omega, by go_num, rfl, by omega, HL2, HMI2, HM8, HX8⟩
              case measure => simp [intOf]; omega
            · obtain rfl : p = lr := by omega
              have HOk := Lib.hid (repl_ok (show okW (u ++ a :: b :: v) by rw [← HX.out]; exact Hok.out))
              have HMt : Hid (totalL M ≤ 49) := Lib.hid (by
                have := tot_le M 7 fun q hq => by
                  rcases HMI.out.mem q hq with e | e
                  · rw [e]; exact Hok.out.1
                  · exact (HOk.out q e).1.1
                rw [HLm.out] at this
                omega)
              have HSt := Lib.hid (HI.out.step (u := u) (v := v) (a := a) (b := b) (more := M) (by rw [← HX.out]; exact hx.out) hab HMI.out.asc (by
                have h1 := HMI.out.same
                rw [List.take_of_length_le (by rw [HLr.out]; simp [relL, repl])] at h1
                rw [← HX.out]; exact h1) (by rw [← HX.out]; exact HMI.out.mem))
              have HTt := Lib.hid (red_len HI.out)
              have HT2 := Lib.hid (red_len HSt.out.1)
              have HTr := Lib.hid ((HTq.out.below (HX2.out.mono X2.out.size)).mono (Ext.trans X2.out HX2.out).size)
              have Hsum := Lib.hid (l01Sum_any (some ad) Am nt ct lm cm T M _ HTr.out HMr.out (by omega) (by omega) (by have := HTt.out.2; omega) (by have := HMt.out; omega) HI.out.asc HMI.out.asc)
              obtain ⟨T2, hT2⟩ : ∃ T2, T2 = oddL (T ++ M) := ⟨_, rfl⟩
              rw [← hT2] at Hsum HSt HT2
              obtain ⟨l2, hl2⟩ : ∃ l, l = T2.length := ⟨_, rfl⟩
              have HL2 := Lib.hid hl2.symm
              rw [← hl2] at Hsum
              have hl2b : l2 ≤ 75582 := by rw [hl2]; exact HT2.out.1
              have HXa := Lib.hid (Ext.trans HQ.out (Ext.trans X2.out HX2.out))
              have HJ : Hid (j ≤ l2) := Lib.hid (by rw [hl2]; exact HSt.out.2.2)
              have hjb := HJ.out
              clear hT2 hl2
              go_wp2_with fail
              refine Hsum.out.mono ?_
              rintro e w8 ⟨A8, c8, rfl, ho8, hb8⟩
              have HXb := Lib.hid (Ext.trans X2.out (Ext.trans HX2.out hb8))
              have HO8 := Lib.hid (ho8.mono (B' := V) (Nat.le_trans HVq.out (Ext.trans X2.out HX2.out).size) (Nat.le_refl _))
              clear ho8 hb8
              go_wp2_with fail
              go_roundg (mu T2 j)
              case measure => rw [HG.out]; exact HSt.out.2.1
              case rel => exact ⟨T2, A8, l2, c8, j, rfl, rfl, hjb, hl2b, HL2, Lib.hid HSt.out.1, Lib.hid rfl, Lib.hid HO8.out.rd, Lib.hid (HBq.out.trans (HXb.out.mono HVq.out)), Lib.hid (Nat.le_trans HVq.out HXb.out.size), Lib.hid (.inl HO8.out)⟩
    · obtain rfl : j = nt := by omega
      have he := HI.out.end_ (Nat.le_of_eq HTl.out)
      have HE := Lib.hid he
      clear he
      go_wp2_with fail
      go_ret
      have hl : (formL xss).length = j := by rw [← HE.out, HTl.out]
      refine ⟨At, ct, by rw [hl]; rfl, ?_, ?_, ?_⟩
      · rw [hl, ← HE.out]; exact HR.out
      · rw [hl, ← HE.out, ← HVe.out]; exact HO.out
      · rw [← HVe.out]; exact HBl.out
end Go.Proofs.YtgmbbpaokcjnhaaGreatDoor
