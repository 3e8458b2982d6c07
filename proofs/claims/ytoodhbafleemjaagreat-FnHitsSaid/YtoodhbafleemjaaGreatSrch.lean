/- slices.BinarySearchFunc over an ascending list of lists, at a list that is there. -/
import Derived.Test.YtoodhbafleemjaaGreatHitP
import Derived.Test.YtoodhbafleemjaaGreatLawK
namespace Go.Proofs.YtoodhbafleemjaaGreat
open Go.RowKit
set_option linter.unusedVariables false

def RetSe (p : Nat) (w : World) (e : Ending) (w' : World) : Prop := e = .returned (.tuple #[.int .i64 p, .bool true]) ∧ ∃ q, w' = w.drewN q
theorem half_lt {i j p : Nat} (h1 : i ≤ p) (h2 : p ≤ j) (h : i < j) : i ≤ (i + j) / 2 ∧ (i + j) / 2 < j := by omega
set_option maxRecDepth 100000 in
theorem search_any (A A2 : Option Addr) (n c n2 c2 B1 B2 p : Nat) (xss : Pol) (x : List Int) (w : World) (h : RdL w B1 A n c xss) (hr : RdS w B2 A2 n2 c2 x) (ha : Asc xss) (hp : xss[p]? = some x) (hn : n ≤ 1000000000) (hn2 : n2 ≤ 1000000000) (hx : ∀ y ∈ xss, y.length ≤ 1000000000) :
    Calls Tryz.prog 129 #[.slice A n c, .slice A2 n2 c2, .func (.func 110) #[] #[]] w (RetSe p w) := by
  have HRD := Lib.hid h
  have HL := Lib.hid h.len
  have HR := Lib.hid hr
  have HX := Lib.hid hx
  have HA := Lib.hid ha
  have HPp := Lib.hid hp
  have hpn : p < n := by rw [← h.len]; exact (List.getElem?_eq_some_iff.1 hp).1
  have hent := enters_of Tryz.func110 (by kernel_rfl) rfl
  obtain ⟨R, hR⟩ : ∃ R, R = RetSe p w := ⟨_, rfl⟩
  have HRR := Lib.hid hR
  rw [← hR]
  clear h hr hx ha hp hR
  go_enter Tryz.func129, Tryz.ntmps129
  go_wp2_with fail
  go_loopw [9, 10] (fun a b wr => ∃ i j : Nat, i ≤ p ∧ p ≤ j ∧ j ≤ n ∧ a = .int .i64 i ∧ b = .int .i64 j ∧ ∃ q, wr = w.drewN q) (fun a b _ => (intOf b).toNat - (intOf a).toNat)
  case atStart => exact ⟨0, n, Nat.zero_le _, by omega, Nat.le_refl _, rfl, rfl, 0, rfl⟩
  case round =>
    obtain ⟨i, j, hip, hpj, hjn, rfl, rfl, q, rfl⟩ := hrel
    by_cases hlt : i < j
    · obtain ⟨m, hm⟩ : ∃ m, m = (i + j) / 2 := ⟨_, rfl⟩
      have hm1 : i ≤ m := by omega
      have hm2 : m < j := by omega
      have hw0 : IntKind.i64.wrap ((i : Int) + (j : Int)) = ((i + j : Nat) : Int) := by rw [IntKind.wrap_i64]; omega
      have hwm : ((i : Int) + (j : Int)) / 2 = (m : Int) := by omega
      have hmn : m < n := by omega
      obtain ⟨ad, A3, n3, c3, y, rfl, hb, hy, hcy, hr3⟩ := HRD.out.at_ hmn
      have hcy' : (w.drewN q).cell? (ad.add m) = some (.slice A3 n3 c3) := hcy
      have hn3 : n3 ≤ 1000000000 := by rw [← hr3.len]; exact HX.out y (List.mem_of_getElem? hy.out)
      have C1 := Lib.hid (compare_any A3 A2 c3 c2 n3 n2 _ _ y x (w.drewN q) (hr3.drewN q) (HR.out.drewN q) (by omega) (by omega))
      obtain ⟨z, hz⟩ : ∃ z, z = cmpL y x := ⟨_, rfl⟩
      rw [← hz] at C1
      clear hr3 hcy hm
      by_cases hmp : m < p
      · have hneg : z < 0 := by rw [hz]; exact ltL_iff.1 ((place_lt HA.out hy.out HPp.out).1 hmp)
        clear hz
        go_wp2_with fail
        refine C1.out.mono ?_
        rintro e w1 ⟨rfl, rfl⟩
        go_wp2_with fail
        go_roundw
        case rel => exact ⟨m + 1, j, by omega, by omega, by omega, by go_num, rfl, (by first | exact ⟨_, rfl⟩ | exact ⟨_, World.drewN_drewN _ _ _⟩ | (simp only [World.drewN_drewN]; exact ⟨_, rfl⟩))⟩
        case measure => simp [intOf]; omega
      · have hneg : ¬ z < 0 := by rw [hz]; exact fun h => hmp ((place_lt HA.out hy.out HPp.out).2 (ltL_iff.2 h))
        clear hz
        go_wp2_with fail
        refine C1.out.mono ?_
        rintro e w1 ⟨rfl, rfl⟩
        go_wp2_with fail
        go_roundw
        case rel => exact ⟨i, m, by omega, by omega, by omega, rfl, by go_num, (by first | exact ⟨_, rfl⟩ | exact ⟨_, World.drewN_drewN _ _ _⟩ | (simp only [World.drewN_drewN]; exact ⟨_, rfl⟩))⟩
        case measure => simp [intOf]; omega
    · obtain rfl : i = p := by omega
      obtain rfl : j = i := by omega
      obtain ⟨ad, A3, n3, c3, y, rfl, hb, hy, hcy, hr3⟩ := HRD.out.at_ hpn
      have hcy' : (w.drewN q).cell? (ad.add j) = some (.slice A3 n3 c3) := hcy
      have hn3 : n3 ≤ 1000000000 := by rw [← hr3.len]; exact HX.out y (List.mem_of_getElem? hy.out)
      have C1 := Lib.hid (compare_any A3 A2 c3 c2 n3 n2 _ _ y x (w.drewN q) (hr3.drewN q) (HR.out.drewN q) (by omega) (by omega))
      have hyx : y = x := by
        have := hy.out
        rw [HPp.out] at this
        exact (Option.some.inj this).symm
      rw [hyx, cmpL_self] at C1
      clear hr3 hcy hyx
      go_wp2_with fail
      refine C1.out.mono ?_
      rintro e w1 ⟨rfl, rfl⟩
      go_wp2_with fail
      rw [HRR.out]
      exact ⟨rfl, (by first | exact ⟨_, rfl⟩ | exact ⟨_, World.drewN_drewN _ _ _⟩ | (simp only [World.drewN_drewN]; exact ⟨_, rfl⟩))⟩
end Go.Proofs.YtoodhbafleemjaaGreat
