/- The lambda algebra's smallest functions: choose, l01Parity, l16Fault, l16Relation. -/
import Derived.Test.YthaokhjkibbplaaLam2
import Derived.Test.YthaokhjkibbplaaSumL
import Derived.Test.YthaokhjkibbplaaFr
namespace Go.Proofs.Ythaokhjkibbplaa
open Go.RowKit
set_option linter.unusedVariables false

theorem parB_nat (a b : Nat) : parB (a : Int) (b : Int) = decide (a &&& b = b) := by
  unfold parB
  rw [Int.toNat_natCast, Int.toNat_natCast, Bool.eq_iff_iff]
  show Nat.beq (a &&& b) b = true ↔ _
  simp

theorem choose_any (n k : Int) (w : World) (h0 : 0 ≤ n) (h1 : 0 ≤ k) (hn : n ≤ 1000000000) (hk : k ≤ 1000000000) :
    Calls Try.prog 70 #[.int .i64 n, .int .i64 k] w (RetI (if parB n k then 1 else 0) w) := by
  obtain ⟨a, rfl⟩ := Int.eq_ofNat_of_zero_le h0
  obtain ⟨b, rfl⟩ := Int.eq_ofNat_of_zero_le h1
  have hb := bits_and (a := a) (b := b) (by omega) (by omega)
  rw [parB_nat]
  obtain ⟨c, hc⟩ : ∃ c, c = a &&& b := ⟨_, rfl⟩
  rw [← hc] at hb ⊢
  have HC := Lib.hid hc; clear hc
  by_cases h : c = b
  · have HV : Hid ((if decide (c = b) = true then (1 : Int) else 0) = 1) := Lib.hid (by simp [h])
    have e : ((c : Int) == (b : Int)) = true := by simp [h]
    rw [HV.out]
    clear h
    go_enter Try.func70, Try.ntmps70
    go_wp2_with fail
    go_ret
    exact RetI.mk (y := 1) rfl
  · have HV : Hid ((if decide (c = b) = true then (1 : Int) else 0) = 0) := Lib.hid (by simp [h])
    have e : ((c : Int) == (b : Int)) = false := by simp; omega
    rw [HV.out]
    clear h
    go_enter Try.func70, Try.ntmps70
    go_wp2_with fail
    go_ret
    exact RetI.mk (y := 0) rfl
theorem parity_any (n k : Int) (w : World) (h1 : 0 ≤ k) (hkn : k ≤ n) (hn : n ≤ 1000000000) :
    Calls Try.prog 81 #[.int .i64 n, .int .i64 k] w (RetI (if parB n k then 1 else 0) w) := by
  obtain ⟨a, rfl⟩ := Int.eq_ofNat_of_zero_le (show 0 ≤ n by omega)
  obtain ⟨b, rfl⟩ := Int.eq_ofNat_of_zero_le h1
  have hb := bits_and (a := a) (b := b) (by omega) (by omega)
  rw [parB_nat]
  obtain ⟨c, hc⟩ : ∃ c, c = a &&& b := ⟨_, rfl⟩
  rw [← hc] at hb ⊢
  have HC := Lib.hid hc; clear hc
  have hlt : ¬ (a : Int) < (b : Int) := by omega
  have hlt2 : ¬ (b : Int) < 0 := by omega
  by_cases h : c = b
  · have HV : Hid ((if decide (c = b) = true then (1 : Int) else 0) = 1) := Lib.hid (by simp [h])
    have e : ((c : Int) != (b : Int)) = false := by simp [h]
    rw [HV.out]
    clear h
    go_enter Try.func81, Try.ntmps81
    go_wp2_with fail
    go_ret
    exact RetI.mk (y := 1) rfl
  · have HV : Hid ((if decide (c = b) = true then (1 : Int) else 0) = 0) := Lib.hid (by simp [h])
    have e : ((c : Int) != (b : Int)) = true := by simp; omega
    rw [HV.out]
    clear h
    go_enter Try.func81, Try.ntmps81
    go_wp2_with fail
    go_ret
    exact RetI.mk (y := 0) rfl

theorem fault_any (A : Option Addr) (n c B : Nat) (xs : List Int) (w : World) (h : RdS w B A n c xs) (hn : n ≤ 1000000) (hx : ∀ x ∈ xs, 0 ≤ x ∧ x ≤ 1000000) :
    Calls Try.prog 64 #[.slice A n c] w (RetIq (flt xs) w) := by
  have Hl := Lib.hid h.len
  have HX := Lib.hid hx; clear hx
  obtain ⟨R, hR⟩ : ∃ R, R = flt xs := ⟨_, rfl⟩
  have HR : Hid ((flt (xs.drop 0) < 0 ∧ R = -1) ∨ (0 ≤ flt (xs.drop 0) ∧ R = ((0 : Nat) : Int) + flt (xs.drop 0))) := Lib.hid (by
    have := flt_ge xs
    rw [List.drop_zero, hR]
    omega)
  rw [← hR]
  clear hR
  go_enter Try.func64, Try.ntmps64
  go_wp2_with fail
  go_loopw [3] (fun i wr => ∃ k : Nat, k ≤ n ∧ i = .int .i64 k ∧ Hid ((flt (xs.drop k) < 0 ∧ R = -1) ∨ (0 ≤ flt (xs.drop k) ∧ R = (k : Int) + flt (xs.drop k))) ∧ ∃ q, wr = w.drewN q) (fun i _ => n - (intOf i).toNat)
  case atStart => exact ⟨0, Nat.zero_le _, rfl, HR, 0, rfl⟩
  case round =>
    obtain ⟨k, hk, rfl, HK, q, rfl⟩ := hrel
    by_cases hlt : k + 1 < n
    · obtain ⟨ad, x, rfl, _, hx, hc1⟩ := h.at_ (show k < n by omega)
      obtain ⟨ad', y, had, _, hy, hc2⟩ := h.at_ hlt
      obtain rfl : ad = ad' := by simpa using had
      have hxb := HX.out x (mem_of hx)
      have hyb := HX.out y (mem_of hy)
      clear had
      obtain ⟨m, hm⟩ : ∃ m, m = k + 1 := ⟨_, rfl⟩
      rw [← hm] at hy hc2 hlt
      have hlt3 : (k : Int) + 1 < (n : Int) := by omega
      have hwk : IntKind.i64.wrap ((k : Int) + 1) = (m : Int) := by rw [IntKind.wrap_i64]; omega
      have hw2 : IntKind.i64.wrap (2 * x) = 2 * x := by rw [IntKind.wrap_i64]; omega
      have HW := Lib.hid (And.intro hwk hw2)
      have hy' : Hid (xs[k + 1]? = some y) := Lib.hid (by rw [← hm]; exact hy.out)
      have hkn0 : k < n := by omega
      clear hwk hw2 hm
      by_cases hxy : 2 * x < y
      · have HV : Hid (R = (k : Int)) := Lib.hid (by have h1 := HK.out; rw [flt_hit hx hy' hxy] at h1; omega)
        have hd : decide (2 * x < y) = true := decide_eq_true hxy
        go_wp2_with fail
        obtain ⟨hwk, hw2⟩ := HW.out
        go_quiet (fail)
        clear hwk hw2
        go_wp2_with fail
        go_ret
        exact RetIq.mk (y := k) HV.out.symm (by first | exact ⟨_, rfl⟩ | exact ⟨_, World.drewN_drewN _ _ _⟩ | (simp only [World.drewN_drewN]; exact ⟨_, rfl⟩))
      · have HK2 := Lib.hid (show (flt (xs.drop (k + 1)) < 0 ∧ R = -1) ∨ (0 ≤ flt (xs.drop (k + 1)) ∧ R = ((k + 1 : Nat) : Int) + flt (xs.drop (k + 1))) from by
          have h1 := HK.out
          rw [flt_step hx hy' hxy] at h1
          split at h1
          · omega
          · omega)
        have hd : decide (2 * x < y) = false := decide_eq_false hxy
        go_wp2_with fail
        obtain ⟨hwk, hw2⟩ := HW.out
        go_quiet (fail)
        clear hwk hw2
        go_wp2_with fail
        go_roundw
        case rel => exact ⟨k + 1, by omega, by go_num, HK2, (by first | exact ⟨_, rfl⟩ | exact ⟨_, World.drewN_drewN _ _ _⟩ | (simp only [World.drewN_drewN]; exact ⟨_, rfl⟩))⟩
        case measure => simp [intOf]; omega
    · have HV : Hid (R = -1) := Lib.hid (by have h1 := HK.out; rw [flt_end (by rw [Hl.out]; omega)] at h1; omega)
      have hlt3 : ¬ (k : Int) + 1 < (n : Int) := by omega
      go_wp2_with fail
      go_ret
      exact RetIq.mk (y := -1) HV.out.symm (by first | exact ⟨_, rfl⟩ | exact ⟨_, World.drewN_drewN _ _ _⟩ | (simp only [World.drewN_drewN]; exact ⟨_, rfl⟩))

/-- 'wpList_pushL' where the walk spells the last block's number otherwise -/
theorem wpList_pushLH {w0 w : World} {ops : Array Oper} {rest : List Oper} {o : Oper} {a : Act} {Q : Exit → Act → World → Prop} (hgd : o.guard = none) (s x : Operand)
    (ho : o.op = .call { callee := .builtin .append, args := #[s, x], argTypes := #[22, 22] }) {B K n c n' c' H : Nat} {A A' : Option Addr} {xss : List (List Int)} {xs : List Int}
    (hs : a.eval s = .slice A n c) (hH : w.heap.size = H) (hx : a.eval x = .slice (some ⟨H, 0, Option.none⟩) 1 1) (hst : StL w0 B w K A n c xss) (hnew : OwnS w K A' n' c' xs) (hn : n ≤ 3000000000000)
    (h : ∀ A2 c2 w', StL w0 B w' w'.heap.size A2 (n + 1) c2 (xss ++ [xs]) → w.grownBy w' (Value.ownBlock (.slice A n c)) → (Value.ownBlock (.slice A2 (n + 1) c2) = Value.ownBlock (.slice A n c) ∨ ∀ g, Value.ownBlock (.slice A2 (n + 1) c2) = some g → w.heap.size ≤ g) →
      wpList Try.prog ops Q rest (a.put o.dst (.slice A2 (n + 1) c2)) w') : wpList Try.prog ops Q (o :: rest) a (w.alloc (.cells #[.slice A' n' c'] 40)) := by
  subst hH
  exact wpList_pushL hgd s x ho hs hx hst hnew hn h
theorem own_two (w : World) (x y : Int) (K : Nat) (hK : K ≤ w.heap.size) : OwnS (w.alloc (.cells #[.int .i64 x, .int .i64 y] 2)) K (some ⟨w.heap.size, 0, none⟩) 2 2 [x, y] :=
  ⟨rfl, rfl, .inr ⟨w.heap.size, 2, _, rfl, hK, heap_alloc_new w _, Nat.le_refl _, by unfold maxLen; omega, rfl, rfl⟩⟩

def relL (a b : Int) : List (List Int) := (relP a b).map fun p => [p.1, p.2]
def relLTo (a b : Int) (k : Nat) : List (List Int) := (relTo a b k).map fun p => [p.1, p.2]
theorem relation_any (a b : Int) (w : World) (ha : 0 ≤ a) (hb : 0 ≤ b) (hs : a + b ≤ 11) (hab : 2 * a < b) :
    Calls Try.prog 65 #[.int .i64 a, .int .i64 b] w (RetL (relL a b).length (relL a b) w) := by
  obtain ⟨N, hN⟩ : ∃ N, N = b - 2 * a - 1 := ⟨_, rfl⟩
  have HN := Lib.hid hN
  have hN0 : 0 ≤ N := by omega
  have hN1 : N ≤ 10 := by omega
  have hst := StL.start (Below.refl w.heap.size w) (Nat.le_refl _)
  obtain ⟨B, hB⟩ : ∃ B, B = w.heap.size := ⟨_, rfl⟩
  rw [← hB] at hst
  have HBe := Lib.hid hB; clear hB
  have HS := Lib.hid hst.here; clear hst
  clear hN
  go_enter Try.func65, Try.ntmps65
  go_wp2_with fail
  rw [← HBe.out]
  rw [← HN.out]
  go_loopw [6, 7] (fun o i wr => ∃ (k l' c' : Nat) (A' : Option Addr) (acc : List (List Int)), k ≤ 6 ∧ i = .int .i64 k ∧ o = .slice A' l' c' ∧ l' ≤ k ∧ Hid (acc.length = l') ∧ Hid (acc = relLTo a b k) ∧ ∃ K, Hid (StL w B wr K A' l' c' acc)) (fun _ i _ => 7 - (intOf i).toNat)
  case atStart => exact ⟨0, 0, 0, _, [], by omega, rfl, rfl, Nat.zero_le _, Lib.hid rfl, Lib.hid rfl, _, by rw [HBe.out]; rw [HBe.out] at HS; exact HS⟩
  case round =>
    obtain ⟨k, l', c', A', acc, hk, rfl, rfl, hlk, HL', HA, K, HS⟩ := hrel
    by_cases hlt : 2 * (k : Int) < N
    · have Hp := fun W : World => Lib.hid (parity_any (N - k - 1) k W (by omega) (by omega) (by omega))
      have HC : Hid (relC a b k = parB (N - k - 1) k) := Lib.hid (by simp only [relC, ← HN.out, hlt, decide_true, Bool.true_and])
      cases hp : parB (N - (k : Int) - 1) (k : Int)
      · rw [hp] at Hp HC
        have HA2 : Hid (acc = relLTo a b (k + 1)) := Lib.hid (by rw [HA.out, relLTo, relLTo, relTo_succ_no HC.out])
        clear hp
        go_wp2_with fail
        refine ((Hp _).out).mono ?_
        rintro e w' ⟨rfl, rfl⟩
        go_wp2_with fail
        go_roundw
        case rel => exact ⟨k + 1, l', c', A', acc, by omega, by go_num, rfl, by omega, HL', HA2, K, HS⟩
        case measure => simp [intOf]; omega
      · rw [hp] at Hp HC
        have HA2 : Hid (acc ++ [[a + N - k, 2 * a + 1 + k]] = relLTo a b (k + 1)) := Lib.hid (by rw [HA.out, relLTo, relLTo, relTo_succ_yes HC.out, List.map_append]; simp [relPr, ← HN.out])
        have HL2 : Hid ((acc ++ [[a + N - k, 2 * a + 1 + k]]).length = l' + 1) := Lib.hid (by rw [List.length_append, HL'.out]; rfl)
        clear hp
        have N2 := Lib.hid (own_two wr (a + N - k) (2 * a + 1 + k) wr.heap.size (Nat.le_refl _))
        have HS2 := Lib.hid (HS.out.here.call ((Below.refl wr.heap.size wr).alloc (Nat.le_refl _) (.cells #[.int .i64 (a + N - k), .int .i64 (2 * a + 1 + k)] 2)))
        go_wp2_with fail
        refine ((Hp _).out).mono ?_
        rintro e w' ⟨rfl, rfl⟩
        go_wp2_with (at_builtin; refine wpList_pushLH rfl (.tmp 27) (.tmp 39) rfl rfl (H := w'.heap.size + 1) (by simp) rfl HS2.out N2.out (by omega) ?_)
        intro A3 c3 w3 hs3 _ _
        have HS3 := Lib.hid hs3; clear hs3
        go_wp2_with fail
        go_roundw
        case rel => exact ⟨k + 1, l' + 1, c3, A3, _, by omega, by go_num, rfl, by omega, HL2, HA2, _, HS3⟩
        case measure => simp [intOf]; omega
    · go_wp2_with fail
      go_ret
      have e : acc = relL a b := by rw [HA.out, relLTo, relTo_end (by rw [← HN.out]; omega) hk]; rfl
      have h5 := HS.out
      rw [HBe.out] at h5
      exact RetL.mk (by rw [← HL'.out, e]) e h5
end Go.Proofs.Ythaokhjkibbplaa
