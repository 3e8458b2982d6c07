/- strings.Join over owned texts. -/
import Derived.Test.YtgmbbpaokcjnhaaGreatDoorTxtI
namespace Go.Proofs.YtgmbbpaokcjnhaaGreatDoor
open Go.RowKit
set_option linter.unusedVariables false

theorem extraJ : Builder.Extra Tryz.prog Tryz.joinL_ren where
  sizeBuilder := by kernel_rfl
  liesBuilder := by kernel_rfl
  t5 := Tryz.underlying5
  a5 := Tryz.isAgg5
  z5 := Tryz.sizeOf5
  v5 := Tryz.zeroValue5
  infoByte := by kernel_rfl
  cellsByte := by kernel_rfl
  sizeByte := by kernel_rfl
  neB5 := by decide
theorem join_own (A : Option Addr) (n c B : Nat) (ts : List (List UInt8)) (sp : UInt8) (w : World) (h : OwnV w B 9 A n c (ts.map fun t => .string ⟨t.toArray⟩)) (hn : n ≤ 1000000) (hl : (Lib.join ts [sp]).length ≤ 140737488355328) :
    Calls Tryz.prog 74 #[.slice A n c, .string ⟨#[sp]⟩] w (RetTx (Lib.join ts [sp]) w) := by
  have hlen : ts.length = n := by have := h.len; simpa using this
  cases A with
  | none =>
    have h0 : n = 0 := by
      rcases Nat.eq_zero_or_pos n with h0 | h0
      · exact h0
      · obtain ⟨ad, v, e, _⟩ := h.rd.at_ h0
        cases e
    subst h0
    have hnil : ts = [] := List.eq_nil_of_length_eq_zero hlen
    subst hnil
    exact (Any.strings_Join_none Tryz.joinL extraJ none c ⟨#[sp]⟩ w).mono fun e w' ⟨h1, h2⟩ => ⟨h1, by rw [h2]; exact Below.refl _ _⟩
  | some ad =>
    rcases Nat.eq_zero_or_pos n with h0 | h0
    · subst h0
      have hnil : ts = [] := List.eq_nil_of_length_eq_zero hlen
      subst hnil
      exact (Any.strings_Join_none Tryz.joinL extraJ (some ad) c ⟨#[sp]⟩ w).mono fun e w' ⟨h1, h2⟩ => ⟨h1, by rw [h2]; exact Below.refl _ _⟩
    · obtain ⟨g, cap, hv, hb, hlt⟩ := h.own.form h0
      injection hv with hA _ hc
      injection hA with hA
      subst hA; subst hc
      have key := Any.strings_Join Tryz.joinL extraJ g 0 c (ts.map fun t => ⟨t.toArray⟩) ⟨#[sp]⟩ w (fun j x hj => by
        rw [List.getElem?_map, Option.map_eq_some_iff] at hj
        obtain ⟨t, ht, rfl⟩ := hj
        have hjn : j < n := by rw [← hlen]; exact (List.getElem?_eq_some_iff.1 ht).1
        obtain ⟨ad, v, e, _, hv, hcx⟩ := h.rd.at_ hjn
        injection e with e
        subst e
        have hv := hv.out
        rw [List.getElem?_map, ht] at hv
        obtain rfl := Option.some.inj hv
        rw [← hcx]
        congr 1
        cases j <;> simp [Addr.add]) hlt (by simp; omega) (by have := h.cap.1; simp; omega) (by simpa [Function.comp_def] using hl)
      simp only [List.length_map, hlen, List.map_map] at key
      refine key.mono fun e w' ⟨h1, h2⟩ => ⟨?_, h2⟩
      rw [h1]
      simp [Function.comp_def]
theorem numbersText_all (A : Option Addr) (n c B : Nat) (xs : List Int) (w : World) (h : RdS w B A n c xs) (hB : B ≤ w.heap.size) (hx : ∀ i ∈ xs, 0 ≤ i ∧ i < 100) (hn : n ≤ 1000000) :
    Calls Tryz.prog 76 #[.slice A n c] w (RetTx (numT [44] xs) w) :=
  numbersText_any A n c B xs w h hB hx hn fun A' c' W hO hb => by
    have hO' : OwnV W w.heap.size 9 A' n c' ((xs.map fun i => decW i.toNat).map fun t => .string ⟨t.toArray⟩) := by
      rw [List.map_map]
      exact hO
    exact join_own A' n c' w.heap.size _ 44 W hO' hn (Nat.le_trans (numT_len 44 xs) (by rw [h.len]; omega))
end Go.Proofs.YtgmbbpaokcjnhaaGreatDoor
