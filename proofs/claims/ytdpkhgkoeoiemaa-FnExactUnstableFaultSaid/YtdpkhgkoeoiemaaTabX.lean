/- The walk of fault. -/
import Derived.Test.YtdpkhgkoeoiemaaTabS
namespace Go.Proofs.Ytdpkhgkoeoiemaa
open Go.RowKit
set_option linter.unusedVariables false

/-- a slice that is nil exactly if b holds -/
def RetNil (b : Bool) (w : World) (e : Ending) (w' : World) : Prop := Below w.heap.size w w' ∧ ((b = true ∧ e = .returned (.slice none 0 0)) ∨ (b = false ∧ ∃ g k c, 0 < k ∧ e = .returned (.slice (some g) k c)))
theorem RetNil.nil {b : Bool} {w w' : World} (h : b = true) (hb : Below w.heap.size w w') : RetNil b w (.returned (.slice none 0 0)) w' := ⟨hb, .inl ⟨h, rfl⟩⟩
theorem RetNil.some {b : Bool} {w w' : World} {g : Addr} {k c : Nat} (h : b = false) (hk : 0 < k) (hb : Below w.heap.size w w') : RetNil b w (.returned (.slice (some g) k c)) w' := ⟨hb, .inr ⟨h, g, k, c, hk, rfl⟩⟩
open Classical in
noncomputable def noFB (T : List Tri) (n N : Nat) : Bool := decide (noF T n N)
theorem noFB_yes {T : List Tri} {n N : Nat} (h : noF T n N) : noFB T n N = true := by unfold noFB; exact @decide_eq_true _ (Classical.propDecidable _) h
theorem noFB_no {T : List Tri} {n N : Nat} (h : ¬ noF T n N) : noFB T n N = false := by unfold noFB; exact @decide_eq_false _ (Classical.propDecidable _) h

/-- no fault ahead of a place -/
def nb (T : List Tri) (n N a b v : Nat) : Prop := ∀ a' b' v', 1 ≤ a' → a' / 2 + 1 ≤ b' → a' + b' ≤ N → v' < n → (a' < a ∨ a' = a ∧ (b' < b ∨ b' = b ∧ v' < v)) → badX T n a' b' v' = 0
section
variable {T : List Tri} {n N a b v : Nat}
theorem nb.start : nb T n N 1 0 0 := fun a' b' v' h1 h2 h3 h4 h5 => by omega
theorem nb.inB (h : nb T n N a 0 0) : nb T n N a (a / 2 + 1) 0 := fun a' b' v' h1 h2 h3 h4 h5 => by
  refine h a' b' v' h1 h2 h3 h4 ?_
  rcases h5 with h5 | ⟨rfl, h5⟩
  · exact .inl h5
  · exfalso; omega
theorem nb.step (h : nb T n N a b v) (hb : badX T n a b v = 0) : nb T n N a b (v + 1) := fun a' b' v' h1 h2 h3 h4 h5 => by
  by_cases e : a' = a ∧ b' = b ∧ v' = v
  · obtain ⟨rfl, rfl, rfl⟩ := e; exact hb
  · refine h a' b' v' h1 h2 h3 h4 ?_
    omega
theorem nb.nextB (h : nb T n N a b n) : nb T n N a (b + 1) 0 := fun a' b' v' h1 h2 h3 h4 h5 => h a' b' v' h1 h2 h3 h4 (by omega)
theorem nb.nextA (h : nb T n N a b 0) (hab : N < a + b) : nb T n N (a + 1) 0 0 := fun a' b' v' h1 h2 h3 h4 h5 => h a' b' v' h1 h2 h3 h4 (by omega)
theorem nb.all (h : nb T n N a 0 0) (ha : N ≤ a) : noF T n N := fun a' b' v' h1 h2 h3 h4 => h a' b' v' h1 h2 h3 h4 (by omega)
theorem nb.hit (h1 : 1 ≤ a) (h2 : a / 2 + 1 ≤ b) (h3 : a + b ≤ N) (h4 : v < n) (hb : badX T n a b v ≠ 0) : ¬ noF T n N := fun h => hb (h a b v h1 h2 h3 h4)
end
theorem TriF.sq16 {ds : List Int} {T : List Tri} (h : TriF ds T) (k v : Nat) : sqF T ds.length k v < 65536 := by
  have e : (2 : Nat) ^ 16 = 65536 := by decide
  unfold sqF
  rw [← e]
  exact xorN_lt _ fun i hi => by rw [e]; exact pickF_lt (h.row_lt hi)

set_option maxRecDepth 100000 in
set_option maxHeartbeats 4000000 in
theorem fault_any (t n c : Nat) (A : Option Addr) (ds : List Int) (T : List Tri) (w : World) (h : TabR w t n (.slice A n c) (rowF T)) (hT : TriF ds T) (hl : ds.length = n) :
    Calls Try.prog 38 #[.pointer (some ⟨t, 0, none⟩)] w (RetNil (noFB T n 20) w) := by
  subst hl
  have hn := hT.len
  have H := Lib.hid h
  have HT := Lib.hid hT
  have HSQ := fun (k v : Nat) (W : World) (hB : Below w.heap.size w W) (hk : k ≤ 20) (hv : v < 65536) => Lib.hid (show Calls Try.prog 59 #[.pointer (some ⟨t, 0, none⟩), .int .i64 (k : Nat), .int .i64 (v : Nat)] W (RetI (sqF T ds.length k v : Nat) W) from
    tsquare_any t ds.length k v _ (rowF T) W (H.out.below hB) (fun k i hi => hT.row_lt hi) hk hv hn)
  obtain ⟨n, hnn⟩ : ∃ n, n = ds.length := ⟨_, rfl⟩
  have HS16 := Lib.hid (show ∀ k v, sqF T n k v < 65536 from by rw [hnn]; exact hT.sq16)
  rw [← hnn] at H HSQ hn ⊢
  clear h hT hnn
  obtain ⟨R, hR⟩ : ∃ R, R = RetNil (noFB T n 20) w := ⟨_, rfl⟩
  have HR := Lib.hid hR
  rw [← hR]
  clear hR
  go_enter Try.func38, Try.ntmps38
  go_wp2_with fail
  go_loopw [3] (fun i wr => ∃ a : Nat, 1 ≤ a ∧ a ≤ 21 ∧ i = .int .i64 a ∧ Hid (nb T n 20 a 0 0) ∧ Hid (Below w.heap.size w wr)) (fun i _ => 21 - (intOf i).toNat)
  case atStart => exact ⟨1, by omega, by omega, rfl, Lib.hid nb.start, Lib.hid (Below.refl _ _)⟩
  case round =>
    obtain ⟨a, ha1, ha2, rfl, HN, HX⟩ := hrel
    by_cases hlt : a ≤ 20
    · obtain ⟨b0, hb0⟩ : ∃ b0, b0 = a / 2 + 1 := ⟨_, rfl⟩
      have hb02 : b0 ≤ 11 := by omega
      have HN2 := Lib.hid (show nb T n 20 a b0 0 from by rw [hb0]; exact HN.out.inB)
      have HB0 := Lib.hid hb0
      have HB1 := Lib.hid (show ((a : Int) / 2 + 1) = (b0 : Int) from by omega)
      obtain ⟨wz, hwz⟩ : ∃ W, W = wr := ⟨_, rfl⟩
      clear hb0 HN hwz
      go_wp2_with fail
      go_loopw [4] (fun i wr => ∃ b : Nat, b0 ≤ b ∧ b ≤ 21 ∧ i = .int .i64 b ∧ Hid (nb T n 20 a b 0) ∧ Hid (Below w.heap.size w wr)) (fun i _ => 21 - (intOf i).toNat)
      case atStart => exact ⟨b0, Nat.le_refl _, by omega, by rw [HB1.out], HN2, HX⟩
      case round =>
        clear HN2 HX
        obtain ⟨b, hb1, hb2, rfl, HN, HX⟩ := hrel
        have hwab : IntKind.i64.wrap ((a : Int) + (b : Int)) = (a : Int) + (b : Int) := by rw [IntKind.wrap_i64]; omega
        by_cases hab : a + b ≤ 20
        · have habd : decide ((a : Int) + (b : Int) ≤ 20) = true := by simp; omega
          have HRl := Lib.hid (relation_any a b wr (by have := HB0.out; omega) (by omega) (by omega))
          go_wp2_with fail
          refine HRl.out.mono ?_
          rintro e w1 ⟨Aj, cj, rfl, hoj, hbj⟩
          have X1 := Lib.hid (HX.out.trans (hbj.mono HX.out.size))
          have HJ := Lib.hid (show RdS w1 w1.heap.size Aj (relF a b).length cj (natL (relF a b)) from hoj.rd)
          obtain ⟨js, hjs⟩ : ∃ js, js = relF a b := ⟨_, rfl⟩
          rw [← hjs] at HJ ⊢
          have HJS := Lib.hid hjs
          obtain ⟨lj, hlj⟩ : ∃ lj, lj = js.length := ⟨_, rfl⟩
          rw [← hlj] at HJ ⊢
          have HLJ := Lib.hid hlj
          have hlj11 : lj ≤ 11 := by
            have := relP_len a b (a / 2 + 1)
            have e : js.length = (relP a b (a / 2 + 1)).length := by rw [HJS.out]; rfl
            omega
          have HTb := Lib.hid (H.out.below X1.out)
          have kt := HTb.out.deg
          clear hoj hbj HX hjs hlj HRl
          go_wp2_with fail
          go_loop [31] (fun i => ∃ v : Nat, v ≤ n ∧ i = .int .i64 v ∧ Hid (nb T n 20 a b v)) (fun i => n - (intOf i).toNat)
          case atStart => exact ⟨0, Nat.zero_le _, rfl, HN⟩
          case round =>
            clear HN
            obtain ⟨v, hv, rfl, HN⟩ := hrel
            by_cases hvn : v < n
            · obtain ⟨p2, hp2⟩ : ∃ p2, p2 = 2 ^ v := ⟨_, rfl⟩
              have hw2 : wrap64 ((2 : Int) ^ v) = (p2 : Int) := by rw [wrap_two (by omega), hp2]
              have hp16 : p2 < 65536 := by
                rw [hp2]
                have : (2 : Nat) ^ v < 2 ^ 16 := Nat.pow_lt_pow_right (by decide) (by omega)
                have e : (2 : Nat) ^ 16 = 65536 := by decide
                omega
              have HP2 := Lib.hid hp2
              have C1 := HSQ b p2 w1 X1.out (by omega) hp16
              obtain ⟨y, hy⟩ : ∃ y, y = sqF T n b p2 := ⟨_, rfl⟩
              have hy16 : y < 65536 := by rw [hy]; exact HS16.out b p2
              rw [← hy] at C1
              have C2 := HSQ a y w1 X1.out hlt hy16
              obtain ⟨z, hz⟩ : ∃ z, z = sqF T n a y := ⟨_, rfl⟩
              rw [← hz] at C2
              have hz16 : z < 65536 := by rw [hz]; exact HS16.out a y
              have HZ := Lib.hid (show z = sqF T n a (sqF T n b (2 ^ v)) from by rw [hz, hy, hp2])
              clear hy hz hp2
              go_wp2_with fail
              refine C1.out.mono ?_
              rintro e w2 ⟨rfl, h2⟩
              rw [h2]
              clear h2
              go_wp2_with fail
              refine C2.out.mono ?_
              rintro e w3 ⟨rfl, h3⟩
              rw [h3]
              clear h3
              go_wp2_with fail
              go_loop [7, 44] (fun x i => ∃ (m s : Nat), m ≤ lj ∧ i = .int .i64 m ∧ x = .int .i64 s ∧ Hid (s = z ^^^ xorL (fun j => sqF T n (a + b - j) (sqF T n j (2 ^ v))) (js.take m)) ∧ Hid (s < 65536)) (fun _ i => lj - (intOf i).toNat)
              case atStart => exact ⟨0, z, Nat.zero_le _, rfl, rfl, Lib.hid (by simp [xorL]), Lib.hid hz16⟩
              case round =>
                obtain ⟨m, s, hm, rfl, rfl, HS, HS6⟩ := hrel
                by_cases hmj : m < lj
                · obtain ⟨ad, yj, rfl, _, hyj, hcj⟩ := HJ.out.at_ hmj
                  obtain ⟨j, hj1, hj2⟩ : ∃ j : Nat, js[m]? = some j ∧ yj = (j : Int) := by
                    have := hyj.out
                    unfold natL at this
                    rw [List.getElem?_map] at this
                    cases hq : js[m]? with
                    | none => rw [hq] at this; cases this
                    | some j => rw [hq] at this; exact ⟨j, rfl, by simpa using this.symm⟩
                  subst hj2
                  have hj3 := relF_mem (a := a) (b := b) (j := j) (by rw [← HJS.out]; exact List.mem_of_getElem? hj1)
                  have hwj : IntKind.i64.wrap ((a : Int) + (b : Int) - (j : Int)) = ((a + b - j : Nat) : Int) := by rw [IntKind.wrap_i64]; omega
                  have D1 := HSQ j p2 w1 X1.out (by omega) hp16
                  obtain ⟨y1, hy1⟩ : ∃ y, y = sqF T n j p2 := ⟨_, rfl⟩
                  have hy116 : y1 < 65536 := by rw [hy1]; exact HS16.out j p2
                  rw [← hy1] at D1
                  have D2 := HSQ (a + b - j) y1 w1 X1.out (by omega) hy116
                  obtain ⟨k2, hk2⟩ : ∃ k2, k2 = a + b - j := ⟨_, rfl⟩
                  rw [← hk2] at D2 hwj
                  obtain ⟨z1, hz1⟩ : ∃ z, z = sqF T n k2 y1 := ⟨_, rfl⟩
                  rw [← hz1] at D2
                  have hz116 : z1 < 65536 := by rw [hz1]; exact HS16.out _ _
                  have hxo := bits_xorN (a := s) (b := z1) (by have := HS6.out; omega) (by omega)
                  have HS2 := Lib.hid (show s ^^^ z1 = z ^^^ xorL (fun j => sqF T n (a + b - j) (sqF T n j (2 ^ v))) (js.take (m + 1)) from by
                    rw [List.take_add_one, hj1]
                    simp only [Option.toList_some]
                    rw [xorL_snoc, ← Nat.xor_assoc, ← HS.out, hz1, hk2, hy1, HP2.out])
                  have HS62 := Lib.hid (show s ^^^ z1 < 65536 from by
                    have e : (2 : Nat) ^ 16 = 65536 := by decide
                    have := HS6.out
                    rw [← e] at this hz116 ⊢
                    exact xor_lt this hz116)
                  clear hy1 hz1 hk2 hj1 hyj hj3
                  go_wp2_with fail
                  refine D1.out.mono ?_
                  rintro e w4 ⟨rfl, h4⟩
                  rw [h4]
                  clear h4
                  go_wp2_with fail
                  refine D2.out.mono ?_
                  rintro e w5 ⟨rfl, h5⟩
                  rw [h5]
                  clear h5
                  go_wp2_with fail
                  go_round
                  case rel => exact ⟨m + 1, s ^^^ z1, by omega, by go_num, rfl, HS2, HS62⟩
                  case measure => simp [intOf]; omega
                · obtain rfl : m = lj := by omega
                  have HX2 := Lib.hid (show s = badX T n a b v from by
                    rw [HS.out, List.take_of_length_le (by rw [HLJ.out]; exact Nat.le_refl _), HZ.out, HJS.out]; rfl)
                  by_cases hs0 : s = 0
                  · have HN2 := Lib.hid (HN.out.step (by rw [← HX2.out]; exact hs0))
                    have hs1 : ((s : Int) == 0) = true := by simp [hs0]
                    have hs2 : ((s : Int) != 0) = false := by simp [hs0]
                    have hs3 : (s == 0) = true := by simp [hs0]
                    clear hs0
                    go_wp2_with fail
                    go_round
                    case rel => exact ⟨v + 1, by omega, by go_num, HN2⟩
                    case measure => simp [intOf]; omega
                  · have HF := Lib.hid (noFB_no (nb.hit ha1 (by have := HB0.out; omega) hab hvn (by rw [← HX2.out]; exact hs0)))
                    have hs1 : ((s : Int) == 0) = false := by simp; omega
                    have hs2 : ((s : Int) != 0) = true := by simp; omega
                    have hs3 : (s == 0) = false := by simp; omega
                    clear hs0
                    go_wp2_with fail
                    rw [HR.out]
                    exact RetNil.some HF.out (by omega) (X1.out.alloc X1.out.size _)
            · obtain rfl : v = n := by omega
              have HN2 := Lib.hid HN.out.nextB
              go_wp2_with fail
              go_roundw
              case rel => first | exact ⟨b + 1, by omega, by omega, by go_num, HN2, X1⟩ | exact ⟨b + 1, by omega, by omega, by omega, HN2⟩
              case measure => simp [intOf]; omega
        · have habd : decide ((a : Int) + (b : Int) ≤ 20) = false := by simp; omega
          have HN2 := Lib.hid (HN.out.nextA (by omega))
          go_wp2_with fail
          go_roundw
          case rel => exact ⟨a + 1, by omega, by omega, by go_num, HN2, HX⟩
          case measure => simp [intOf]; omega
    · obtain rfl : a = 21 := by omega
      have HF := Lib.hid (noFB_yes (HN.out.all (by omega)))
      go_wp2_with fail
      rw [HR.out]
      exact RetNil.nil HF.out HX.out
end Go.Proofs.Ytdpkhgkoeoiemaa
