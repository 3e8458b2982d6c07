/- The differential on both sides. -/
import Derived.Test.YthaokhjkibbplaaDif
import Derived.Test.YthaokhjkibbplaaCat
namespace Go.Proofs.Ythaokhjkibbplaa
open Go.RowKit
set_option linter.unusedVariables false

theorem two_own {w : World} {a b : Int} : OwnS (w.alloc (.cells #[.int .i64 a, .int .i64 b] 2)) w.heap.size (some ⟨w.heap.size, 0, none⟩) 2 2 [a, b] :=
  ⟨rfl, by simp, .inr ⟨w.heap.size, 2, _, rfl, Nat.le_refl _, heap_alloc_new w _, Nat.le_refl _, by unfold maxLen; omega, by simp, by simp⟩⟩

theorem gen_okW {n : Int} (hn : 0 ≤ n) (h11 : n ≤ 11) {m : Nat} (hm : m ≤ genM n) : ∀ z ∈ genTo n m, okW z := by
  intro z hz
  obtain ⟨h1, h2, h3⟩ := genTo_mem hz hm hn
  exact ⟨by omega, h2, by omega⟩

set_option maxHeartbeats 1000000 in
theorem generator_any (n : Int) (w : World) (hn : 0 ≤ n) (h11 : n ≤ 11) :
    Calls Try.prog 69 #[.int .i64 n] w (RetL (oddL (genW n)).length (oddL (genW n)) w) := by
  have hst := StL.start (Below.refl w.heap.size w) (Nat.le_refl _)
  obtain ⟨V, hV⟩ : ∃ V, V = w.heap.size := ⟨_, rfl⟩
  rw [← hV] at hst
  have HVe := Lib.hid hV; clear hV
  have HS := Lib.hid hst.here; clear hst
  obtain ⟨M, hM⟩ : ∃ M, M = genM n := ⟨_, rfl⟩
  have hMn : 2 * (M : Int) ≤ n ∧ n < 2 * (M : Int) + 2 := by rw [hM]; unfold genM; omega
  have HW : Hid (genW n = genTo n M) := Lib.hid (by rw [hM]; rfl)
  have HO := Lib.hid (gen_okW hn h11 (m := M) (by omega))
  have HK := fun (m : Nat) (hm : m ≤ M) => Lib.hid (gen_okW hn h11 (m := m) (by omega))
  rw [HW.out]
  clear hM
  go_enter Try.func69, Try.ntmps69
  go_wp2_with fail
  rw [← HVe.out]
  go_loopw [3, 4] (fun o i wr => ∃ (m l' c' : Nat) (A' : Option Addr) (acc : List (List Int)), m ≤ M ∧ i = .int .i64 ((m : Int) + 1) ∧ o = .slice A' l' c' ∧ Hid (SumInv (genTo n m) acc) ∧ Hid (StL w V wr wr.heap.size A' l' c' acc)) (fun _ i _ => M + 1 - (intOf i).toNat)
  case atStart => exact ⟨0, 0, 0, _, [], Nat.zero_le _, rfl, rfl, Lib.hid SumInv.start, by rw [HVe.out]; rw [HVe.out] at HS; exact HS⟩
  case round =>
    clear HS
    obtain ⟨m, l', c', A', acc, hm, rfl, rfl, HA, HS⟩ := hrel
    by_cases hlt : m < M
    · have hle : decide (2 * ((m : Int) + 1) ≤ n) = true := by simp; omega
      have Hp := fun W : World => Lib.hid (parity_any (n - ((m : Int) + 1)) ((m : Int) + 1) W (by omega) (by omega) (by omega))
      cases hc : genC n m
      · have hc2 : parB (n - ((m : Int) + 1)) ((m : Int) + 1) = false := hc
        have HG := Lib.hid (genTo_no hc)
        rw [hc2] at Hp
        clear hc hc2
        go_wp2_with fail
        refine ((Hp _).out).mono ?_
        rintro e w1 ⟨rfl, rfl⟩
        go_wp2_with fail
        go_roundw
        case rel => exact ⟨m + 1, l', c', A', acc, by omega, by go_num, rfl, Lib.hid (by rw [HG.out]; exact HA.out), HS⟩
        case measure => simp [intOf]; omega
      · have hc2 : parB (n - ((m : Int) + 1)) ((m : Int) + 1) = true := hc
        have HG := Lib.hid (genTo_yes hc)
        rw [hc2] at Hp
        clear hc hc2
        obtain ⟨z, hz⟩ : ∃ z : List Int, z = [n - ((m : Int) + 1), (m : Int)] := ⟨_, rfl⟩
        have HZ := Lib.hid hz
        rw [← hz] at HG
        have HA3 := Lib.hid (HA.out.step (z := z) (by
          have := HK (m + 1) hlt
          exact this.out z (by rw [HG.out]; simp)))
        rw [← HG.out] at HA3
        have hl2 := HA.out.len
        rw [HS.out.own.len] at hl2
        have Hacc := Lib.hid HA.out.asc
        have Htot := Lib.hid HA.out.tot
        obtain ⟨M2, hM2⟩ : ∃ M2, M2 = oddL (acc ++ [z]) := ⟨_, rfl⟩
        rw [← hM2] at HA3
        obtain ⟨l3, hl3⟩ : ∃ l, l = M2.length := ⟨_, rfl⟩
        have hzl : z.length = 2 := by rw [hz]; rfl
        have Hsum := fun (W : World) (A c) (h1 : RdL W W.heap.size A' l' c' acc) (h2 : RdL W W.heap.size A 1 c [z]) => l01Sum_any A' A l' c' 1 c acc [z] W h1 h2 (by omega) (by omega) (by have := Htot.out; omega) (by simp [totalL]; omega) Hacc.out (by simp [Asc])
        rw [← hM2, ← hl3] at Hsum
        have Hsum := Lib.hid Hsum
        have hl3b : l3 ≤ 75582 := by rw [hl3]; exact HA3.out.len
        have hsub : (m : Int) + 1 - 1 = (m : Int) := by omega
        clear hM2 hl3 Hacc Htot hz
        go_wp2_with fail
        refine ((Hp _).out).mono ?_
        rintro e w1 ⟨rfl, rfl⟩
        go_wp2_with fail
        have h2 := rdL_one (two_own (w := w1) (a := n - ((m : Int) + 1)) (b := (m : Int))).rd (Nat.le_refl _)
        rw [show (w1.alloc (.cells #[.int .i64 (n - ((m : Int) + 1)), .int .i64 (m : Int)] 2)).heap.size = w1.heap.size + 1 from by simp, ← HZ.out] at h2
        have HX := Lib.hid (((Below.refl w1.heap.size w1).alloc (Nat.le_refl _) (.cells #[.int .i64 (n - ((m : Int) + 1)), .int .i64 (m : Int)] 2)).alloc (by simp) (.cells #[.slice (some ⟨w1.heap.size, 0, none⟩) 2 2] 40))
        refine (Hsum.out _ _ _ ((HS.out.rd.below HX.out).mono HX.out.size) h2).mono ?_
        rintro e w8 ⟨A8, c8, rfl, ho8, hb8⟩
        have HX8 := Lib.hid (Ext.trans HX.out hb8)
        have HO8 := Lib.hid (ho8.mono (B' := V) (Nat.le_trans HS.out.size HX.out.size) (Nat.le_refl _))
        have HS8 := Lib.hid (show StL w V w8 w8.heap.size A8 l3 c8 M2 from ⟨HO8.out, HS.out.bel.trans (HX8.out.mono HS.out.size), Nat.le_trans HS.out.size HX8.out.size, Nat.le_refl _⟩)
        clear ho8 hb8 h2
        go_wp2_with fail
        go_roundw
        case rel => exact ⟨m + 1, l3, c8, A8, M2, by omega, by go_num, rfl, HA3, HS8⟩
        case measure => simp [intOf]; omega
    · obtain rfl : m = M := by omega
      have hle : decide (2 * ((m : Int) + 1) ≤ n) = false := by simp; omega
      have HE := Lib.hid HA.out.eq
      go_wp2_with fail
      go_ret
      have h8 := HS.out
      rw [HVe.out] at h8
      exact RetL.mk (by rw [← HE.out, h8.own.len]) HE.out h8

theorem run_suf1 (A : Option Addr) (n c k m : Nat) (hm : m = k + 1) (hn : m ≤ n) (W : World) : (Instr.sliceAt 40 (.slice A n c) (some (.int .i64 ((k : Int) + 1))) Option.none Option.none).run Try.prog W = .ok (.slice (sufA A c m) (n - m) (c - m)) W := by
  subst hm
  have h : (k : Int) + 1 ≤ (n : Int) := by omega
  have h0 : (0 : Int) ≤ (k : Int) + 1 := by omega
  have e : ((k : Int) + 1).toNat = k + 1 := by omega
  simp only [sufA]
  cases A with
  | none => simp [go_sem, Try.underlying40, h, h0, e, sliced]
  | some ad =>
    by_cases hc : c = k + 1
    · simp [go_sem, Try.underlying40, h, h0, e, sliced, hc]
    · simp [go_sem, Try.underlying40, h, h0, e, sliced, hc]

/-- what stands in out: ascending words with the same sum -/
structure SumQ (L acc : List (List Int)) : Prop where
  asc : Asc acc
  ok : ∀ z ∈ acc, okW z
  same : SameSum acc L
theorem SumQ.len {L acc : List (List Int)} (h : SumQ L acc) : acc.length ≤ 75582 := asc_len h.asc h.ok
theorem SumQ.tot {L acc : List (List Int)} (h : SumQ L acc) : totalL acc ≤ 529074 := by
  have h1 := tot_le acc 7 fun z hz => (h.ok z hz).1
  have := h.len
  omega
theorem SumQ.start : SumQ [] [] := ⟨by simp [Asc], (fun z hz => by cases hz), SameSum.refl _⟩
theorem SumQ.step {L acc : List (List Int)} {z : List Int} (h : SumQ L acc) (hz : okW z) : SumQ (L ++ [z]) (oddL (acc ++ [z])) :=
  ⟨oddL_asc _, fun y hy => (List.mem_append.1 (oddL_mem hy)).elim (h.ok y) fun e => by rw [List.mem_singleton.1 e]; exact hz, (oddL_same _).trans (h.same.append (SameSum.refl _))⟩
theorem SumQ.congr {L M acc : List (List Int)} (h : SumQ L acc) (k : SameSum L M) : SumQ M acc := ⟨h.asc, h.ok, h.same.trans k⟩
theorem SumQ.form {L acc : List (List Int)} (h : SumQ L acc) : formL acc = formL L := oddL_congr (nfS_same h.same)
theorem putAt_same {x : List Int} {k : Nat} {L M : List (List Int)} (h : SameSum L M) : SameSum (putAt x k L) (putAt x k M) := h.flat _
theorem putAt_succ {x : List Int} {k : Nat} {L : List (List Int)} {j : Nat} {l : List Int} (h : L[j]? = some l) : putAt x k (L.take (j + 1)) = putAt x k (L.take j) ++ [x.take k ++ l ++ x.drop (k + 1)] := by
  rw [List.take_add_one, h]
  simp [putAt]
end Go.Proofs.Ythaokhjkibbplaa
