/- Lists without the noughts at their end; impl.trimmed. -/
import Derived.Test.YtoigdiekkkkapaaLawK
import Derived.Test.YtoigdiekkkkapaaStep
namespace Go.Proofs.Ytoigdiekkkkapaa
open Go.RowKit
set_option linter.unusedVariables false

theorem snoc_ind {P : List Int → Prop} (h0 : P []) (h1 : ∀ s n, P s → P (s ++ [n])) : ∀ r, P r := by
  intro r
  rw [← List.reverse_reverse r]
  induction r.reverse with
  | nil => exact h0
  | cons a t ih => rw [List.reverse_cons]; exact h1 _ _ ih
/-- a list without the noughts at its end -/
def trimL (xs : List Int) : List Int := (xs.reverse.dropWhile (fun z => z == 0)).reverse
theorem trimL_zero (xs : List Int) : trimL (xs ++ [0]) = trimL xs := by simp [trimL]
theorem trimL_keep {xs : List Int} {n : Int} (h : n ≠ 0) : trimL (xs ++ [n]) = xs ++ [n] := by simp [trimL, h]
theorem trimL_nil : trimL [] = [] := rfl
/-- what does not see noughts at the end does not see trimming -/
theorem trim_blind {α : Type} (F : List Int → α) (h : ∀ p, F (p ++ [0]) = F p) : ∀ xs, F (trimL xs) = F xs := by
  refine snoc_ind rfl fun s n ih => ?_
  by_cases hn : n = 0
  · subst hn; rw [trimL_zero, ih, h]
  · rw [trimL_keep hn]
theorem trimL_trim (xs : List Int) : trimL (trimL xs) = trimL xs := trim_blind trimL trimL_zero xs
theorem trimL_mem : ∀ xs : List Int, ∀ z ∈ trimL xs, z ∈ xs := by
  refine snoc_ind (fun z hz => by cases hz) fun s n ih => ?_
  by_cases hn : n = 0
  · subst hn; rw [trimL_zero]; exact fun z hz => List.mem_append_left _ (ih z hz)
  · rw [trimL_keep hn]; exact fun z hz => hz
theorem trimL_len : ∀ xs : List Int, (trimL xs).length ≤ xs.length := by
  refine snoc_ind (Nat.le_refl _) fun s n ih => ?_
  by_cases hn : n = 0
  · subst hn; rw [trimL_zero, List.length_append]; omega
  · rw [trimL_keep hn]; exact Nat.le_refl _
def RetTrim (A : Option Addr) (n c : Nat) (xs : List Int) (w : World) (e : Ending) (w' : World) : Prop := ∃ m, m ≤ n ∧ trimL xs = xs.take m ∧ e = .returned (.slice A m c) ∧ w' = w
theorem take_snoc {xs : List Int} {k m : Nat} {x : Int} (h : Hid (xs[k]? = some x)) (hm : m = k + 1) : xs.take m = xs.take k ++ [x] := by
  rw [hm, List.take_add_one, h.out]; rfl
set_option maxRecDepth 100000 in
theorem trimmed_any (A : Option Addr) (n c B : Nat) (xs : List Int) (w : World) (h : RdS w B A n c xs) (hn : n ≤ 1000000) :
    Calls Try.prog 33 #[.slice A n c] w (RetTrim A n c xs w) := by
  have H := Lib.hid h
  have HL := Lib.hid h.len
  have hcap := h.cap
  obtain ⟨R, hR⟩ : ∃ R, R = RetTrim A n c xs w := ⟨_, rfl⟩
  have HR := Lib.hid hR
  rw [← hR]
  clear h hR
  go_enter Try.func33, Try.ntmps33
  go_wp2_with fail
  go_loop [0] (fun v => ∃ m : Nat, m ≤ n ∧ v = .slice A m c ∧ Hid (trimL xs = trimL (xs.take m))) (fun v => match v with | .slice _ m _ => m | _ => 0)
  case atStart => exact ⟨n, Nat.le_refl _, rfl, Lib.hid (by rw [List.take_of_length_le (by rw [HL.out]; exact Nat.le_refl _)])⟩
  case round =>
    obtain ⟨m, hm, rfl, HS⟩ := hrel
    by_cases hm0 : m = 0
    · subst hm0
      go_wp2_with fail
      rw [HR.out]
      exact ⟨0, Nat.zero_le _, by rw [HS.out]; rfl, rfl, rfl⟩
    · obtain ⟨k, hk⟩ : ∃ k, m = k + 1 := ⟨m - 1, by omega⟩
      obtain ⟨ad, x, rfl, _, hx, hc⟩ := H.out.at_ (k := k) (by omega)
      have HX := Lib.hid (take_snoc hx hk)
      have hpos : (0 : Int) < (m : Int) := by omega
      have hwk : IntKind.i64.wrap ((m : Int) - 1) = (k : Int) := by rw [IntKind.wrap_i64]; omega
      have hk0 : (0 : Int) ≤ (k : Int) := by omega
      have hkm : (k : Int) < (m : Int) := by omega
      have hsl := fun W => run_pre (some ad) m c k (by omega) W
      clear hx
      by_cases hz : x = 0
      · subst hz
        go_wp2_with fail
        go_round
        case rel => exact ⟨k, by omega, rfl, Lib.hid (by rw [HS.out, HX.out, trimL_zero])⟩
        case measure => simp only; omega
      · have hz1 : (x == 0) = false := by simpa using hz
        have HT := Lib.hid (show trimL xs = xs.take m from by rw [HS.out, HX.out, trimL_keep hz])
        clear hz
        go_wp2_with fail
        rw [HR.out]
        exact ⟨m, hm, HT.out, by rw [hk], rfl⟩
end Go.Proofs.Ytoigdiekkkkapaa
