/- The walk of times: the product of two polynomials that stand in maps. -/
import Derived.Test.YtejlkobieohgfaaMapX
namespace Go.Proofs.Ytejlkobieohgfaa
open Go.RowKit
set_option linter.unusedVariables false

def prodI (L M : List Int) : List Int := L.flatMap fun a => M.map (a + ·)
theorem prodI_snoc (V M : List Int) (x : Int) : prodI (V ++ [x]) M = prodI V M ++ M.map (x + ·) := by simp [prodI, List.flatMap_append]
theorem prodI_par {V L M : List Int} (h : Par V L) : Par (prodI V M) (prodI L M) := fun z => h.flat (fun a => M.map (a + ·)) z
theorem mem_of_odd {L : List Int} {x : Int} (h : L.count x % 2 = 1) : x ∈ L := List.count_pos_iff.1 (by omega)
theorem wfI_sum {a b : Int} (h1 : 0 ≤ a ∧ a < 1099511627776) (h2 : 0 ≤ b ∧ b < 1099511627776) : wfI (a + b) := wfI_mk (by omega) (by omega)

set_option maxRecDepth 100000 in
theorem times_any (b1 b2 : Nat) (L M : List Int) (w : World) (hL : OwnP w b1 L) (hM : OwnP w b2 M) (fL : ∀ a ∈ L, 0 ≤ a ∧ a < 1099511627776) (fM : ∀ a ∈ M, 0 ≤ a ∧ a < 1099511627776) (nL : L.length ≤ 20000) (nM : M.length ≤ 20000) :
    Calls Try.prog 93 #[.map (some b1), .map (some b2)] w (RetMp (prodI L M) w) := by
  obtain ⟨R, hR⟩ : ∃ R, R = RetMp (prodI L M) w := ⟨_, rfl⟩
  have HR := Lib.hid hR
  rw [← hR]
  have HL := Lib.hid hL
  have HM := Lib.hid hM
  have FL := Lib.hid fL
  have FM := Lib.hid fM
  have NL := Lib.hid nL
  have NM := Lib.hid nM
  obtain ⟨b, hb⟩ : ∃ b, b = w.heap.size := ⟨_, rfl⟩
  have lt1 := hL.lt
  have lt2 := hM.lt
  rw [← hb] at lt1 lt2
  obtain ⟨w0, hw0⟩ : ∃ w0, w0 = w.alloc (.map #[] 0) := ⟨_, rfl⟩
  have hmm : ∀ t, (Instr.makeMap t none).run Try.prog w = .ok (.map (some b)) w0 := fun t => by rw [hb, hw0]; exact run_makeMap t w
  have B0 : Hid (Below b w w0) := Lib.hid (by rw [hw0, hb]; exact (Below.refl _ _).alloc (Nat.le_refl _) _)
  have O0 : Hid (OwnP w0 b []) := Lib.hid (by rw [hw0, hb]; exact OwnP.new w)
  have Z0 : Hid (w0.heap.size = b + 1) := Lib.hid (by rw [hw0, hb]; simp)
  have L0 : Hid (OwnP w0 b1 L) := Lib.hid (hL.below (by rw [← hb]; exact B0.out))
  have M0 : Hid (OwnP w0 b2 M) := Lib.hid (hM.below (by rw [← hb]; exact B0.out))
  have HB := Lib.hid hb
  have LT1 := Lib.hid lt1
  have LT2 := Lib.hid lt2
  clear hL hM hR fL fM nL nM lt1 lt2 hb hw0
  go_enter Try.func93, Try.ntmps93
  go_wp2_with (at_range; refine wpList_rangeP _ rfl (.tmp 9) rfl Try.underlying100 rfl L0.out ?_; intro w1 h0 h1 h2; have R1 := Lib.hid h0; have B1 := Lib.hid h1; have S1 := Lib.hid h2; clear h0 h1 h2)
  go_frame
  obtain ⟨r, hr⟩ : ∃ r, r = w0.heap.size := ⟨_, rfl⟩
  have HS : Hid (r = b + 1) := Lib.hid (hr.trans Z0.out)
  rw [← hr] at R1
  rw [← hr]
  clear hr
  have BW1 : Hid (Below b w w1) := Lib.hid (B0.out.trans (B1.out.mono (by rw [Z0.out]; omega)))
  have O1 := Lib.hid (O0.out.below B1.out)
  have M1 := Lib.hid (M0.out.below B1.out)
  go_loopw [11] (fun _ wr => ∃ V P : List Int, Hid (RanP wr b1 r L V) ∧ Hid (OwnP wr b P) ∧ Hid (Par P (prodI V M)) ∧ Hid (P.length ≤ V.length * 20000) ∧ Hid (OwnP wr b2 M) ∧ Hid (Below b w wr)) (fun _ wr => wr.rangeLeft b1 r)
  case atStart => exact ⟨[], [], R1, O1, Lib.hid (Par.refl _), Lib.hid (by simp), M1, BW1⟩
  case round =>
    obtain ⟨V, P, HR1, HP, HQ, HN, HM1, HW⟩ := hrel
    go_wp2_with (at_next; refine wpList_nextP _ rfl (.tmp 10) rfl rfl HR1.out ?_ ?_)
    · intro hd
      have HD := Lib.hid hd
      clear hd
      go_wp2_with fail
      rw [HR.out]
      exact RetMp.mk (b := b) (by rw [HB.out]; exact Nat.le_refl _) (HP.out.congr (HQ.out.trans (prodI_par ((Par.of_perm HD.out).trans (oddI_par L))))) rfl (by rw [← HB.out]; exact HW.out)
    · intro x w2 hx ho h1 h2 h3 h4 h5
      have hbr : b ≠ r := by rw [HS.out]; omega
      have P2 := Lib.hid (HP.out.kept h3 (by simpa using hbr))
      have M2 := Lib.hid (HM1.out.kept h3 (by have := LT2.out; have := HS.out; simp; omega))
      have N1 := Lib.hid h1
      have N2 := Lib.hid h2
      have W2 := Lib.hid (HW.out.grown h3 (Nat.le_of_lt HP.out.lt) (by intro k hk; injection hk with hk; have := HS.out; omega))
      have FX := Lib.hid (FL.out x (mem_of_odd ho))
      have LR : Hid (r < w2.heap.size) := Lib.hid h1.lt
      clear h1 h2 h3 h4 hbr ho
      go_wp2_with (at_range; refine wpList_rangeP _ rfl (.tmp 15) rfl Try.underlying100 rfl M2.out ?_; intro w3 h0 h1 h2; have R3 := Lib.hid h0; have B3 := Lib.hid h1; have S3 := Lib.hid h2; clear h0 h1 h2)
      go_frame
      obtain ⟨r2, hr2⟩ : ∃ r2, r2 = w2.heap.size := ⟨_, rfl⟩
      rw [← hr2] at R3 LR
      rw [← hr2]
      have W3 : Hid (Below b w w3) := Lib.hid (W2.out.trans (B3.out.mono (by rw [← hr2]; have := LR.out; have := HS.out; omega)))
      clear hr2
      have P3 : Hid (OwnP w3 b (P ++ [].map (x + ·))) := Lib.hid (by rw [List.map_nil, List.append_nil]; exact P2.out.below B3.out)
      have K3 := Lib.hid (N1.out.below B3.out)
      obtain ⟨wz0, hwz0⟩ : ∃ W : World, W = wr := ⟨_, rfl⟩
      rw [← hwz0] at N2
      have HWZ := Lib.hid hwz0
      clear hwz0
      go_loopw [17] (fun _ wi => ∃ U : List Int, Hid (RanP wi b2 r2 M U) ∧ Hid (OwnP wi b (P ++ U.map (x + ·))) ∧ Hid (RanP wi b1 r L (V ++ [x])) ∧ Hid (wi.rangeLeft b1 r < wz0.rangeLeft b1 r) ∧ Hid (Below b w wi)) (fun _ wi => wi.rangeLeft b2 r2)
      case atStart => exact ⟨[], R3, P3, Lib.hid K3.out.1, Lib.hid (by rw [K3.out.2]; exact N2.out), W3⟩
      case round =>
        obtain ⟨U, I1, I2, I3, I4, I5⟩ := hrel
        go_wp2_with (at_next; refine wpList_nextP _ rfl (.tmp 16) rfl rfl I1.out ?_ ?_)
        · intro hd
          have HD := Lib.hid hd
          clear hd
          go_wp2_with fail
          go_roundw
          case rel =>
            refine ⟨V ++ [x], P ++ U.map (x + ·), I3, I2, Lib.hid ?_, Lib.hid ?_, Lib.hid I1.out.own, I5⟩
            · rw [prodI_snoc]
              exact HQ.out.append (((Par.of_perm HD.out).trans (oddI_par M)).map (x + ·))
            · have := I1.out.len; have := HN.out; have := NM.out
              rw [List.length_append, List.length_append, List.length_map, List.length_singleton]; omega
          case measure => rw [← HWZ.out]; exact I4.out
        · intro y w4 hy ho h1 h2 h3 h4 h6
          have a1 : b ≠ r2 := by have := LR.out; have := HS.out; omega
          have a2 : b1 ≠ r2 := I1.out.noMap I3.out.own
          have a3 : r ≠ r2 := by have := LR.out; omega
          have a4 : b1 ≠ b := by have := LT1.out; omega
          have a5 : b2 ≠ b := by have := LT2.out; omega
          have a6 : r ≠ b := by have := HS.out; omega
          have J2 := I2.out.kept h3 (by simpa using a1)
          have J3 := I3.out.kept h3 (by simpa using a2) (by simpa using a3)
          have J5 := I5.out.grown h3 (Nat.le_of_lt I2.out.lt) (by intro k hk; injection hk with hk; have := LR.out; have := HS.out; omega)
          have FY := FM.out y (mem_of_odd ho)
          have hw64 : wrap64 (x + y) = x + y := by have := FX.out; unfold wrap64; omega
          have hlen : (P ++ U.map (x + ·)).length < 1000000000000 := by
            have := I1.out.len; have := HN.out; have := NM.out; have := NL.out
            have := (I3.out).len
            rw [List.length_append, List.length_singleton] at this
            rw [List.length_append, List.length_map]; omega
          have HC := Lib.hid (toggle_any b (x + y) _ w4 J2 (wfI_sum FX.out FY) hlen)
          have HJ2 := Lib.hid J2
          have HJ3 := Lib.hid J3
          have HJ5 := Lib.hid J5
          have N4 := Lib.hid h1
          have N5 := Lib.hid h2
          have A1 := Lib.hid a1
          have A4 := Lib.hid a4
          have A5 := Lib.hid a5
          have A6 := Lib.hid a6
          clear h1 h2 h3 h4 ho a1 a2 a3 a4 a5 a6 J2 J3 J5 FY hlen
          go_wp2_with fail
          refine HC.out.mono ?_
          rintro e w5 ⟨rfl, hp5, hg5, hs5⟩
          have P5 := Lib.hid hp5
          have G5 := Lib.hid hg5
          clear hp5 hg5 hs5
          have E1 := Lib.hid (N4.out.kept G5.out (by simpa using A5.out) (by simpa using A1.out.symm))
          have E3 := Lib.hid (HJ3.out.1.kept G5.out (by simpa using A4.out) (by simpa using A6.out))
          have E5 : Hid (Below b w w5) := Lib.hid (HJ5.out.trans (below_grownBy G5.out (Nat.le_refl _) (Nat.le_of_lt (by have := LR.out; have := HS.out; have := N4.out.lt; omega))))
          go_wp2_with fail
          go_roundw
          case rel => exact ⟨U ++ [y], Lib.hid E1.out.1, Lib.hid (by rw [List.map_append, ← List.append_assoc]; exact P5.out), Lib.hid E3.out.1, Lib.hid (by rw [E3.out.2, HJ3.out.2]; exact I4.out), E5⟩
          case measure => rw [E1.out.2]; exact N5.out
end Go.Proofs.Ytejlkobieohgfaa
