/- Texts of lambda words: the program's functions. -/
import Derived.Test.YtgmbbpaokcjnhaaGreatDoorTxtS
import Derived.Test.YtgmbbpaokcjnhaaGreatDoorWords
import Derived.Test.YtgmbbpaokcjnhaaGreatDoorSht
namespace Go.Proofs.YtgmbbpaokcjnhaaGreatDoor
open Go.RowKit
set_option linter.unusedVariables false

theorem decDigits_eq {m : Nat} (h : m < 100) : Lib.decDigits m = decW m := by
  have key : ∀ m : Fin 100, Lib.decDigits m.1 = decW m.1 := by decide +kernel
  exact key ⟨m, h⟩
theorem fmt_any (m : Nat) (w : World) (h : m < 100) : Calls Tryz.prog 104 #[.int .i64 m, .int .i64 10] w (fun e w' => e = .returned (.string ⟨(decW m).toArray⟩) ∧ w' = w) := by
  rw [← decDigits_eq h]
  exact Any.strconv_FormatInt_10_small Tryz.fmtL m h w
theorem decimal_any (m : Nat) (w : World) (h : m < 100) : Calls Tryz.prog 93 #[.int .i64 m] w (fun e w' => e = .returned (.string ⟨(decW m).toArray⟩) ∧ w' = w) := by
  have C1 := Lib.hid (fmt_any m w h)
  obtain ⟨t, ht⟩ : ∃ t : ByteArray, t = ⟨(decW m).toArray⟩ := ⟨_, rfl⟩
  rw [← ht] at C1 ⊢
  clear ht
  go_enter Tryz.func93, Tryz.ntmps93
  go_wp2_with fail
  refine C1.out.mono ?_
  rintro e w1 ⟨rfl, rfl⟩
  go_wp2_with fail
  go_ret
  exact ⟨rfl, rfl⟩
theorem Tryz.info_str : (Tryz.prog.info? 9).map (fun i => (i.zero, i.size, i.bytes)) = some (some (.string ⟨#[]⟩), 1, 16) := by kernel_rfl
theorem eltStr : Elt 80 9 16 := elt_of Tryz.underlying80 Tryz.info_str rfl
abbrev strV (i : Int) : Value := .string ⟨(decW i.toNat).toArray⟩
theorem ownV_emptyS (w : World) (B : Nat) (hB : B ≤ w.heap.size) : OwnV (w.alloc (.cells #[] 9)) B 9 (some ⟨w.heap.size, 0, none⟩) 0 0 [] :=
  ⟨rfl, rfl, .inr ⟨w.heap.size, 0, #[], rfl, hB, heap_alloc_new w _, Nat.le_refl _, by decide, rfl, rfl⟩⟩
set_option maxRecDepth 100000 in
theorem numbersText_any (A : Option Addr) (n c B : Nat) (xs : List Int) (w : World) (h : RdS w B A n c xs) (hB : B ≤ w.heap.size) (hx : ∀ i ∈ xs, 0 ≤ i ∧ i < 100) (hn : n ≤ 1000000)
    (hJ : ∀ (A' : Option Addr) (c' : Nat) (W : World), OwnV W w.heap.size 9 A' n c' (xs.map strV) → Below w.heap.size w W → Calls Tryz.prog 74 #[.slice A' n c', .string ⟨#[44]⟩] W (RetTx (numT [44] xs) W)) :
    Calls Tryz.prog 76 #[.slice A n c] w (RetTx (numT [44] xs) w) := by
  have H := Lib.hid (h.mono hB)
  have HX := Lib.hid hx
  have HL := Lib.hid h.len
  have HJ := Lib.hid hJ
  have HO := Lib.hid (ownV_emptyS w w.heap.size (Nat.le_refl _))
  have HB := Lib.hid ((Below.refl w.heap.size w).alloc (Nat.le_refl _) (.cells #[] 9))
  obtain ⟨R, hR⟩ : ∃ R, R = RetTx (numT [44] xs) w := ⟨_, rfl⟩
  have HR := Lib.hid hR
  rw [← hR]
  clear h hx hJ hR
  go_enter Tryz.func76, Tryz.ntmps76
  go_wp2_with fail
  go_loopw [3, 9] (fun o i wr => ∃ (k c' : Nat) (A' : Option Addr), k ≤ n ∧ i = .int .i64 k ∧ o = .slice A' k c' ∧ Hid (OwnV wr w.heap.size 9 A' k c' ((xs.take k).map strV)) ∧ Hid (Below w.heap.size w wr)) (fun _ i _ => n - (intOf i).toNat)
  case atStart => exact ⟨0, 0, _, Nat.zero_le _, rfl, rfl, by simpa using HO, HB⟩
  case round =>
    clear HO HB
    obtain ⟨k, c', A', hk, rfl, rfl, HO, HB⟩ := hrel
    by_cases hlt : k < n
    · have Hr := Lib.hid (H.out.below HB.out)
      obtain ⟨ad, x, rfl, hb, hx, hcx⟩ := Hr.out.at_ hlt
      have hx0 := HX.out x (List.mem_of_getElem? hx.out)
      obtain ⟨m, rfl⟩ : ∃ m : Nat, x = (m : Int) := ⟨x.toNat, by omega⟩
      have CD := Lib.hid (decimal_any m wr (by omega))
      have HTK := Lib.hid (show (xs.take (k + 1)).map strV = (xs.take k).map strV ++ [.string ⟨(decW m).toArray⟩] from by rw [List.take_add_one, hx.out]; simp)
      obtain ⟨t, ht⟩ : ∃ t : ByteArray, t = ⟨(decW m).toArray⟩ := ⟨_, rfl⟩
      rw [← ht] at CD HTK
      have HR1 := Lib.hid (rdV_new wr (.string t) 9)
      have HO1 := Lib.hid (HO.out.alloc (.cells #[.string t] 9))
      have HB1 := Lib.hid (HB.out.alloc HB.out.size (.cells #[.string t] 9))
      have ONE := Lib.hid (show ∀ z ∈ [Value.string t], z.oneCell' = true from fun z hz => by rw [List.mem_singleton.1 hz]; rfl)
      clear ht hx
      go_wp2_with fail
      refine CD.out.mono ?_
      rintro e w1 ⟨rfl, rfl⟩
      go_wp2_with (at_builtin; refine wpList_appV eltStr rfl (.tmp 13) (.tmp 16) rfl rfl rfl HO1.out HR1.out ONE.out (by omega) (by decide) HB1.out.size ?_; intro A4 c4 w4 hv4 hg4 _; have V9 := Lib.hid hv4; have D9 := Lib.hid (HB1.out.grown hg4 HB1.out.size HO1.out.row); clear hv4 hg4)
      go_roundw
      case rel => exact ⟨k + 1, c4, A4, by omega, by go_num, rfl, by rw [HTK.out]; exact V9, D9⟩
      case measure => simp [intOf]; omega
    · obtain rfl : k = n := by omega
      have CJ := Lib.hid (HJ.out A' c' wr (by have := HO.out; rwa [List.take_of_length_le (by rw [HL.out]; exact Nat.le_refl _)] at this) HB.out)
      unfold RetTx at CJ
      go_wp2_with fail
      refine CJ.out.mono ?_
      rintro e w2 ⟨rfl, hb2⟩
      have B2 := Lib.hid (HB.out.trans (hb2.mono HB.out.size))
      clear hb2
      go_wp2_with fail
      rw [HR.out]
      exact RetTx.mk (s := ⟨(numT [44] xs).toArray⟩) rfl B2.out
end Go.Proofs.YtgmbbpaokcjnhaaGreatDoor
