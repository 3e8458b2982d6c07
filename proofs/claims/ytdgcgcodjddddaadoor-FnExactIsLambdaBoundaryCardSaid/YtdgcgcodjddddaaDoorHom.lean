/- Lambda homology on both sides. -/
import Derived.Test.YtdgcgcodjddddaaDoorLamD
import Derived.Test.YtdgcgcodjddddaaDoorLamB
import Derived.Test.YtdgcgcodjddddaaDoorSrch
namespace Go.Proofs.YtdgcgcodjddddaaDoor
open Go.RowKit
set_option linter.unusedVariables false

/-- the words to which differentials of words of a length and a stem lead -/
def upW (s n m : Nat) : Pol := if n = 0 then [] else lw (s + 1) (n - 1) m
theorem upW_asc (s n m : Nat) : Asc (upW s n m) := by
  unfold upW
  split
  · exact List.Pairwise.nil
  · exact lw_asc _ _ _
theorem upW_within {s n m : Nat} (hs : s ≤ 6) (hn : n ≤ 11) {x : List Int} (hx : x ∈ lw s n m) : Within (upW s n m) (dW x) := by
  unfold upW
  split
  · rename_i h0
    subst h0
    rw [dW_zero hx]
    exact ⟨List.Pairwise.nil, fun z hz => by cases hz⟩
  · rename_i h0
    have := dW_within (s := s) (n := n - 1) (m := m) (x := x) hs (by omega) (by rw [Nat.sub_add_cancel (by omega)]; exact hx)
    exact this
theorem upW_small {s n m : Nat} (hs : s ≤ 6) (hn : n ≤ 11) : Small (upW s n m) := by
  unfold upW
  split
  · exact ⟨by simp, fun z hz => by cases hz⟩
  · exact lw_small (by omega) (by omega)
/-- the homology, by the reference's rows -/
def rkW (s n m : Nat) : Nat := (rowsF ((lw s n m).map dW)).length
def homV (s n m : Nat) : Int := (lw s n m).length - rkW s n m - (if s = 0 then 0 else rkW (s - 1) (n + 1) m)
theorem rowsF_len_le (gs : List Pol) : (rowsF gs).length ≤ gs.length := by
  have h : ∀ (gs R : List Pol), (gs.foldl addF R).length ≤ R.length + gs.length := by
    intro gs
    induction gs with
    | nil => intro R; exact Nat.le_refl _
    | cons g gs ih =>
      intro R
      have h1 := ih (addF R g)
      have h2 : (addF R g).length ≤ R.length + 1 := by
        unfold addF
        split
        · omega
        · simp
      simp only [List.foldl_cons, List.length_cons]
      omega
  have := h gs []
  simpa [rowsF] using this
theorem lw_len {s n m : Nat} (hs : s ≤ 7) (hn : n ≤ 11) : (lw s n m).length ≤ 75582 := asc_len (lw_asc s n m) fun x hx => lw_okW hs hn hx
theorem rkW_le {s n m : Nat} (hs : s ≤ 7) (hn : n ≤ 11) : rkW s n m ≤ 75582 := by
  have h1 := rowsF_len_le ((lw s n m).map dW)
  have h2 := lw_len (m := m) hs hn
  rw [List.length_map] at h1
  unfold rkW; omega
def RetH (v : Int) (w : World) (e : Ending) (w' : World) : Prop := e = .returned (.int .i64 v) ∧ Below w.heap.size w w'
theorem RetH.mk {v x : Int} {w w' : World} (h : x = v) (hb : Below w.heap.size w w') : RetH v w (.returned (.int .i64 x)) w' := by subst h; exact ⟨rfl, hb⟩
set_option maxRecDepth 100000 in
theorem sHom_any (m s n : Int) (w : World) (h0 : 0 ≤ s) (h6 : s ≤ 6) (hn0 : 0 ≤ n) (hn1 : n ≤ 10) (hm0 : 1 ≤ m) (hm1 : m ≤ 100) :
    Calls Tryd.prog 27 #[.int .i64 m, .int .i64 s, .int .i64 n] w (RetH (homV s.toNat n.toNat (m - 1).toNat) w) := by
  have C1 := Lib.hid (fun W => l16Basis_any m s n W h0 (by omega) hn0 (by omega) hm0 hm1)
  obtain ⟨S, hS⟩ : ∃ S, S = s.toNat := ⟨_, rfl⟩
  obtain ⟨N, hN⟩ : ∃ N, N = n.toNat := ⟨_, rfl⟩
  obtain ⟨M, hM⟩ : ∃ M, M = (m - 1).toNat := ⟨_, rfl⟩
  have hS6 : S ≤ 6 := by omega
  have hN10 : N ≤ 10 := by omega
  rw [← hS, ← hN, ← hM] at C1 ⊢
  have HV := Lib.hid (show homV S N M = (lw S N M).length - rkW S N M - (if S = 0 then 0 else rkW (S - 1) (N + 1) M) from rfl)
  obtain ⟨W0, hW0⟩ : ∃ W0, W0 = lw S N M := ⟨_, rfl⟩
  have HW0 := Lib.hid hW0
  rw [← hW0] at C1 HV
  obtain ⟨L0, hL0⟩ : ∃ L, L = W0.length := ⟨_, rfl⟩
  rw [← hL0] at C1 HV
  have hl0 : L0 ≤ 75582 := by rw [hL0, hW0]; exact lw_len (by omega) (by omega)
  obtain ⟨r0, hr0⟩ : ∃ r, r = rkW S N M := ⟨_, rfl⟩
  rw [← hr0] at HV
  have hr0l : r0 ≤ 75582 := by rw [hr0]; exact rkW_le (by omega) (by omega)
  have HR0 := Lib.hid (show (rowsF (W0.map dW)).length = r0 from by rw [hr0, hW0]; rfl)
  have CR := Lib.hid (fun (A : Option Addr) (c : Nat) (W : World) (h : RdL W W.heap.size A L0 c W0) => rows16_any (upW S N M) A L0 c W0 W (upW_small hS6 (by omega)) h (by omega) (fun x hx => by rw [hW0] at hx; exact ⟨lw_okW (by omega) (by omega) hx, by rw [lw_each _ _ _ x hx]; omega⟩) (fun x hx => by rw [hW0] at hx; exact upW_within hS6 (by omega) hx))
  obtain ⟨V, hV⟩ : ∃ V, V = homV S N M := ⟨_, rfl⟩
  rw [← hV] at HV ⊢
  have hwr : IntKind.i64.wrap ((L0 : Int) - (r0 : Int)) = (L0 : Int) - (r0 : Int) := by rw [IntKind.wrap_i64]; omega
  have hs1 : IntKind.i64.wrap (s - 1) = s - 1 := by rw [IntKind.wrap_i64]; omega
  have hn1' : IntKind.i64.wrap (n + 1) = n + 1 := by rw [IntKind.wrap_i64]; omega
  have HSs := Lib.hid hS
  by_cases hz : 0 < s
  · have C2 := Lib.hid (fun W => l16Basis_any m (s - 1) (n + 1) W (by omega) (by omega) (by omega) (by omega) hm0 hm1)
    rw [show (s - 1).toNat = S - 1 from by omega, show (n + 1).toNat = N + 1 from by omega, ← hM] at C2
    obtain ⟨W1, hW1⟩ : ∃ W1, W1 = lw (S - 1) (N + 1) M := ⟨_, rfl⟩
    rw [← hW1] at C2
    obtain ⟨L1, hL1⟩ : ∃ L, L = W1.length := ⟨_, rfl⟩
    rw [← hL1] at C2
    have hl1 : L1 ≤ 75582 := by rw [hL1, hW1]; exact lw_len (by omega) (by omega)
    obtain ⟨r1, hr1⟩ : ∃ r, r = rkW (S - 1) (N + 1) M := ⟨_, rfl⟩
    rw [← hr1, if_neg (by omega)] at HV
    have hr1l : r1 ≤ 75582 := by rw [hr1]; exact rkW_le (by omega) (by omega)
    have HR1 := Lib.hid (show (rowsF (W1.map dW)).length = r1 from by rw [hr1, hW1]; rfl)
    have CR1 := Lib.hid (fun (A : Option Addr) (c : Nat) (W : World) (h : RdL W W.heap.size A L1 c W1) => rows16_any (upW (S - 1) (N + 1) M) A L1 c W1 W (upW_small (by omega) (by omega)) h (by omega) (fun x hx => by rw [hW1] at hx; exact ⟨lw_okW (by omega) (by omega) hx, by rw [lw_each _ _ _ x hx]; omega⟩) (fun x hx => by rw [hW1] at hx; exact upW_within (by omega) (by omega) hx))
    have hwr2 : IntKind.i64.wrap ((L0 : Int) - (r0 : Int) - (r1 : Int)) = (L0 : Int) - (r0 : Int) - (r1 : Int) := by rw [IntKind.wrap_i64]; omega
    clear hW0 hL0 hr0 hW1 hL1 hr1 hV hS hN hM
    go_enter Tryd.func27, Tryd.ntmps27
    go_wp2_with fail
    refine (C1.out _).mono ?_
    rintro e w1 ⟨A1, c1, rfl, ho1, hb1⟩
    have O1 := Lib.hid ho1
    have B1 := Lib.hid hb1
    clear ho1 hb1
    go_wp2_with fail
    refine (CR.out _ _ _ O1.out.rd).mono ?_
    rintro e w2 ⟨A2, c2, rfl, ho2, hb2⟩
    have B2 := Lib.hid (B1.out.trans (hb2.mono B1.out.size))
    rw [HR0.out]
    clear ho2 hb2
    go_wp2_with fail
    refine (C2.out _).mono ?_
    rintro e w3 ⟨A3, c3, rfl, ho3, hb3⟩
    have O3 := Lib.hid ho3
    have B3 := Lib.hid (B2.out.trans (hb3.mono B2.out.size))
    clear ho3 hb3
    go_wp2_with fail
    refine (CR1.out _ _ _ O3.out.rd).mono ?_
    rintro e w4 ⟨A4, c4, rfl, ho4, hb4⟩
    have B4 := Lib.hid (B3.out.trans (hb4.mono B3.out.size))
    rw [HR1.out]
    clear ho4 hb4
    go_wp2_with fail
    go_ret
    exact RetH.mk (x := (L0 : Int) - (r0 : Int) - (r1 : Int)) (by rw [HV.out]) B4.out
  · rw [if_pos (by omega)] at HV
    clear hW0 hL0 hr0 hV hS hN hM
    go_enter Tryd.func27, Tryd.ntmps27
    go_wp2_with fail
    refine (C1.out _).mono ?_
    rintro e w1 ⟨A1, c1, rfl, ho1, hb1⟩
    have O1 := Lib.hid ho1
    have B1 := Lib.hid hb1
    clear ho1 hb1
    go_wp2_with fail
    refine (CR.out _ _ _ O1.out.rd).mono ?_
    rintro e w2 ⟨A2, c2, rfl, ho2, hb2⟩
    have B2 := Lib.hid (B1.out.trans (hb2.mono B1.out.size))
    rw [HR0.out]
    clear ho2 hb2
    go_wp2_with fail
    go_ret
    exact RetH.mk (x := (L0 : Int) - (r0 : Int)) (by rw [HV.out]; simp) B2.out
/-- LambdaHomology and SphereHomology on the reference's side -/
def lhOk (s n : Int) : Bool := inB s 0 6 && inB n 0 10
def lhV (m s n : Int) : Int := if lhOk s n = true then homV s.toNat n.toNat (m - 1).toNat else 0
def shV (m s n : Int) : Int := if inB m 1 40 = true then lhV m s n else 0
def lhC (s n : Int) : Int := if lhOk s n = true then 0 else 2
def shC (m s n : Int) : Int := if inB m 1 40 = true then lhC s n else 2
def RetHC (v k : Int) (w : World) (e : Ending) (w' : World) : Prop := e = .returned (.tuple #[.int .i64 v, .int .i64 k]) ∧ Below w.heap.size w w'
theorem RetHC.mk {v x k y : Int} {w w' : World} (h : x = v) (hk : y = k) (hb : Below w.heap.size w w') : RetHC v k w (.returned (.tuple #[.int .i64 x, .int .i64 y])) w' := by subst h; subst hk; exact ⟨rfl, hb⟩
theorem sLambdaHomology (s n : Int) (w : World) : Calls Tryd.prog 12 #[.int .i64 s, .int .i64 n] w (RetHC (lhV 40 s n) (lhC s n) w) := by
  have C1 := Lib.hid (fun W => l01In_any s 0 6 W)
  have C2 := Lib.hid (fun W => l01In_any n 0 10 W)
  have HV := Lib.hid (show lhV 40 s n = if (inB s 0 6 && inB n 0 10) = true then homV s.toNat n.toNat 39 else 0 from rfl)
  have HC := Lib.hid (show lhC s n = if (inB s 0 6 && inB n 0 10) = true then 0 else 2 from rfl)
  obtain ⟨v, hv⟩ : ∃ v, v = lhV 40 s n := ⟨_, rfl⟩
  obtain ⟨k, hk⟩ : ∃ k, k = lhC s n := ⟨_, rfl⟩
  rw [← hv] at HV ⊢
  rw [← hk] at HC ⊢
  have hb1 : inB s 0 6 = true → 0 ≤ s ∧ s ≤ 6 := inB_iff.1
  have hb2 : inB n 0 10 = true → 0 ≤ n ∧ n ≤ 10 := inB_iff.1
  obtain ⟨b1, e1⟩ : ∃ b, b = inB s 0 6 := ⟨_, rfl⟩
  obtain ⟨b2, e2⟩ : ∃ b, b = inB n 0 10 := ⟨_, rfl⟩
  rw [← e1] at C1 HV HC hb1
  rw [← e2] at C2 HV HC hb2
  clear hv hk e1 e2
  cases b1
  · have HV' := Lib.hid (show v = 0 from HV.out)
    have HC' := Lib.hid (show k = 2 from HC.out)
    clear hb1 hb2
    go_enter Tryd.func12, Tryd.ntmps12
    go_wp2_with fail
    refine (C1.out _).mono ?_
    rintro e w1 ⟨rfl, rfl⟩
    go_wp2_with fail
    go_ret2
    exact RetHC.mk (x := 0) (y := 2) HV'.out.symm HC'.out.symm (Below.refl _ _)
  · cases b2
    · have HV' := Lib.hid (show v = 0 from HV.out)
      have HC' := Lib.hid (show k = 2 from HC.out)
      clear hb1 hb2
      go_enter Tryd.func12, Tryd.ntmps12
      go_wp2_with fail
      refine (C1.out _).mono ?_
      rintro e w1 ⟨rfl, rfl⟩
      go_wp2_with fail
      refine (C2.out _).mono ?_
      rintro e w1 ⟨rfl, rfl⟩
      go_wp2_with fail
      go_ret2
      exact RetHC.mk (x := 0) (y := 2) HV'.out.symm HC'.out.symm (Below.refl _ _)
    · have HV' := Lib.hid (show v = homV s.toNat n.toNat 39 from HV.out)
      have HC' := Lib.hid (show k = 0 from HC.out)
      obtain ⟨hs0, hs6⟩ := hb1 rfl
      obtain ⟨hn0, hn1⟩ := hb2 rfl
      have C3 := Lib.hid (fun W => sHom_any 40 s n W hs0 hs6 hn0 hn1 (by omega) (by omega))
      rw [show ((40 : Int) - 1).toNat = 39 from rfl, ← HV'.out] at C3
      clear hb1 hb2
      go_enter Tryd.func12, Tryd.ntmps12
      go_wp2_with fail
      refine (C1.out _).mono ?_
      rintro e w1 ⟨rfl, rfl⟩
      go_wp2_with fail
      refine (C2.out _).mono ?_
      rintro e w1 ⟨rfl, rfl⟩
      go_wp2_with fail
      refine (C3.out _).mono ?_
      rintro e w1 ⟨rfl, hb⟩
      have HB := Lib.hid hb
      clear hb
      go_wp2_with fail
      go_ret2
      exact RetHC.mk (x := v) (y := 0) rfl HC'.out.symm HB.out
theorem sSphereHomology (m s n : Int) (w : World) : Calls Tryd.prog 14 #[.int .i64 m, .int .i64 s, .int .i64 n] w (RetHC (shV m s n) (shC m s n) w) := by
  have C0 := Lib.hid (fun W => l01In_any m 1 40 W)
  have C1 := Lib.hid (fun W => l01In_any s 0 6 W)
  have C2 := Lib.hid (fun W => l01In_any n 0 10 W)
  have HV := Lib.hid (show shV m s n = if inB m 1 40 = true then (if (inB s 0 6 && inB n 0 10) = true then homV s.toNat n.toNat (m - 1).toNat else 0) else 0 from rfl)
  have HC := Lib.hid (show shC m s n = if inB m 1 40 = true then (if (inB s 0 6 && inB n 0 10) = true then 0 else 2) else 2 from rfl)
  obtain ⟨v, hv⟩ : ∃ v, v = shV m s n := ⟨_, rfl⟩
  obtain ⟨k, hk⟩ : ∃ k, k = shC m s n := ⟨_, rfl⟩
  rw [← hv] at HV ⊢
  rw [← hk] at HC ⊢
  have hb0 : inB m 1 40 = true → 1 ≤ m ∧ m ≤ 40 := inB_iff.1
  have hb1 : inB s 0 6 = true → 0 ≤ s ∧ s ≤ 6 := inB_iff.1
  have hb2 : inB n 0 10 = true → 0 ≤ n ∧ n ≤ 10 := inB_iff.1
  obtain ⟨b0, e0⟩ : ∃ b, b = inB m 1 40 := ⟨_, rfl⟩
  obtain ⟨b1, e1⟩ : ∃ b, b = inB s 0 6 := ⟨_, rfl⟩
  obtain ⟨b2, e2⟩ : ∃ b, b = inB n 0 10 := ⟨_, rfl⟩
  rw [← e0] at C0 HV HC hb0
  rw [← e1] at C1 HV HC hb1
  rw [← e2] at C2 HV HC hb2
  clear hv hk e0 e1 e2
  cases b0
  · have HV' := Lib.hid (show v = 0 from HV.out)
    have HC' := Lib.hid (show k = 2 from HC.out)
    clear hb0 hb1 hb2
    go_enter Tryd.func14, Tryd.ntmps14
    go_wp2_with fail
    refine (C0.out _).mono ?_
    rintro e w1 ⟨rfl, rfl⟩
    go_wp2_with fail
    go_ret2
    exact RetHC.mk (x := 0) (y := 2) HV'.out.symm HC'.out.symm (Below.refl _ _)
  · cases b1
    · have HV' := Lib.hid (show v = 0 from HV.out)
      have HC' := Lib.hid (show k = 2 from HC.out)
      clear hb0 hb1 hb2
      go_enter Tryd.func14, Tryd.ntmps14
      go_wp2_with fail
      refine (C0.out _).mono ?_
      rintro e w1 ⟨rfl, rfl⟩
      go_wp2_with fail
      refine (C1.out _).mono ?_
      rintro e w1 ⟨rfl, rfl⟩
      go_wp2_with fail
      go_ret2
      exact RetHC.mk (x := 0) (y := 2) HV'.out.symm HC'.out.symm (Below.refl _ _)
    · cases b2
      · have HV' := Lib.hid (show v = 0 from HV.out)
        have HC' := Lib.hid (show k = 2 from HC.out)
        clear hb0 hb1 hb2
        go_enter Tryd.func14, Tryd.ntmps14
        go_wp2_with fail
        refine (C0.out _).mono ?_
        rintro e w1 ⟨rfl, rfl⟩
        go_wp2_with fail
        refine (C1.out _).mono ?_
        rintro e w1 ⟨rfl, rfl⟩
        go_wp2_with fail
        refine (C2.out _).mono ?_
        rintro e w1 ⟨rfl, rfl⟩
        go_wp2_with fail
        go_ret2
        exact RetHC.mk (x := 0) (y := 2) HV'.out.symm HC'.out.symm (Below.refl _ _)
      · have HV' := Lib.hid (show v = homV s.toNat n.toNat (m - 1).toNat from HV.out)
        have HC' := Lib.hid (show k = 0 from HC.out)
        obtain ⟨hm0, hm1⟩ := hb0 rfl
        obtain ⟨hs0, hs6⟩ := hb1 rfl
        obtain ⟨hn0, hn1⟩ := hb2 rfl
        have C3 := Lib.hid (fun W => sHom_any m s n W hs0 hs6 hn0 hn1 (by omega) (by omega))
        rw [← HV'.out] at C3
        clear hb0 hb1 hb2
        go_enter Tryd.func14, Tryd.ntmps14
        go_wp2_with fail
        refine (C0.out _).mono ?_
        rintro e w1 ⟨rfl, rfl⟩
        go_wp2_with fail
        refine (C1.out _).mono ?_
        rintro e w1 ⟨rfl, rfl⟩
        go_wp2_with fail
        refine (C2.out _).mono ?_
        rintro e w1 ⟨rfl, rfl⟩
        go_wp2_with fail
        refine (C3.out _).mono ?_
        rintro e w1 ⟨rfl, hb⟩
        have HB := Lib.hid hb
        clear hb
        go_wp2_with fail
        go_ret2
        exact RetHC.mk (x := v) (y := 0) rfl HC'.out.symm HB.out
theorem isSphere_any (m : Int) (w : World) : Calls Tryd.prog 30 #[.int .i64 m] w (RetP (inB m 1 40) w) := by
  have C1 := Lib.hid (in_any m 1 40 w)
  obtain ⟨b, hb⟩ : ∃ b, b = inB m 1 40 := ⟨_, rfl⟩
  rw [← hb] at C1 ⊢
  clear hb
  go_enter Tryd.func30, Tryd.ntmps30
  go_wp2_with fail
  refine C1.out.mono ?_
  rintro e w1 ⟨rfl, h⟩
  rw [h]
  go_wp2_with fail
  go_ret
  exact RetP.mk rfl
theorem isPlace_any (s n : Int) (w : World) : Calls Tryd.prog 28 #[.int .i64 s, .int .i64 n] w (RetP (lhOk s n) w) := by
  have C1 := Lib.hid (in_any s 0 6 w)
  have C2 := Lib.hid (in_any n 0 10 w)
  have HL := Lib.hid (show lhOk s n = (inB s 0 6 && inB n 0 10) from rfl)
  obtain ⟨b, hb⟩ : ∃ b, b = lhOk s n := ⟨_, rfl⟩
  rw [← hb] at HL ⊢
  obtain ⟨b1, e1⟩ : ∃ b, b = inB s 0 6 := ⟨_, rfl⟩
  obtain ⟨b2, e2⟩ : ∃ b, b = inB n 0 10 := ⟨_, rfl⟩
  rw [← e1] at C1 HL
  rw [← e2] at C2 HL
  clear hb e1 e2
  cases b1
  · obtain rfl : b = false := HL.out
    go_enter Tryd.func28, Tryd.ntmps28
    go_wp2_with fail
    refine C1.out.mono ?_
    rintro e w1 ⟨rfl, h⟩
    rw [h]
    go_wp2_with fail
    go_ret
    exact RetP.mk rfl
  · obtain rfl : b = b2 := by simpa using HL.out
    go_enter Tryd.func28, Tryd.ntmps28
    go_wp2_with fail
    refine C1.out.mono ?_
    rintro e w1 ⟨rfl, h⟩
    rw [h]
    go_wp2_with fail
    refine C2.out.mono ?_
    rintro e w1 ⟨rfl, h⟩
    rw [h]
    go_wp2_with fail
    go_ret
    exact RetP.mk rfl
/-- words, also where a length or a stem is less than nothing -/
def lwZ (s n m : Int) : Pol := if s < 0 ∨ n < 0 then [] else lw s.toNat n.toNat m.toNat
set_option maxRecDepth 100000 in
theorem lambdaWords_all (s n m : Int) (w : World) (h0 : -1 ≤ s) (h7 : s ≤ 7) (hn0 : -1 ≤ n) (hn1 : n ≤ 11) (hm0 : 0 ≤ m) (hm1 : m ≤ 100) :
    Calls Tryd.prog 38 #[.int .i64 s, .int .i64 n, .int .i64 m] w (RetL (lwZ s n m).length (lwZ s n m) w) := by
  by_cases hneg : s < 0 ∨ n < 0
  · have : lwZ s n m = [] := if_pos hneg
    rw [this]
    have HO := Lib.hid (show OwnL (w.alloc (.cells #[] 49)) w.heap.size (w.alloc (.cells #[] 49)).heap.size (some ⟨w.heap.size, 0, none⟩) 0 0 [] from ownL_empty w w.heap.size _ (Nat.le_refl _))
    have HB := Lib.hid ((Below.refl w.heap.size w).alloc (Nat.le_refl _) (.cells #[] 49))
    have hc1 : ¬ (s = 0 ∧ n = 0) := by omega
    by_cases hs : s < 0
    · have hs0 : s ≠ 0 := by omega
      have hsl : s ≤ 0 := by omega
      clear hneg hc1 this
      go_enter Tryd.func38, Tryd.ntmps38
      go_wp2_with fail
      go_wp2_with fail
      go_ret
      exact ⟨_, _, rfl, HO.out, HB.out⟩
    · have hn : n < 0 := by omega
      have hn0' : n ≠ 0 := by omega
      clear hneg hc1 this
      by_cases hsl : s ≤ 0
      · have hs0 : s = 0 := by omega
        subst hs0
        go_enter Tryd.func38, Tryd.ntmps38
        go_wp2_with fail
        go_wp2_with fail
        go_ret
        exact ⟨_, _, rfl, HO.out, HB.out⟩
      · have hs0 : s ≠ 0 := by omega
        go_enter Tryd.func38, Tryd.ntmps38
        go_wp2_with fail
        go_wp2_with fail
        go_ret
        exact ⟨_, _, rfl, HO.out, HB.out⟩
  · have : lwZ s n m = lw s.toNat n.toNat m.toNat := if_neg hneg
    rw [this]
    exact lambdaWords_any s.toNat s n m w rfl (by omega) h7 (by omega) hn1 hm0 hm1
end Go.Proofs.YtdgcgcodjddddaaDoor

/- Lambda homology on the program's side. -/
namespace Go.Proofs.YtdgcgcodjddddaaDoor
open Go.RowKit
set_option linter.unusedVariables false

theorem words1_any (s n m : Int) (g : Nat) (w : World) (hc : w.cell? ⟨g, 0, none⟩ = some (.int .i64 m)) (h0 : -1 ≤ s) (h7 : s ≤ 7) (hn0 : -1 ≤ n) (hn1 : n ≤ 11) (hm0 : 0 ≤ m) (hm1 : m ≤ 100) :
    Calls Tryd.prog 62 #[.int .i64 s, .int .i64 n, .pointer (some ⟨g, 0, none⟩)] w (RetL (lwZ s n m).length (lwZ s n m) w) := by
  have C1 := Lib.hid (lambdaWords_all s n m w h0 h7 hn0 hn1 hm0 hm1)
  obtain ⟨ws, hws⟩ : ∃ ws, ws = lwZ s n m := ⟨_, rfl⟩
  obtain ⟨l, hl⟩ : ∃ l, l = ws.length := ⟨_, rfl⟩
  rw [← hws, ← hl] at C1 ⊢
  clear hws hl
  go_enter Tryd.func62, Tryd.ntmps62
  go_wp2_with fail
  refine C1.out.mono ?_
  rintro e w1 ⟨A1, c1, rfl, ho1, hb1⟩
  have HO1 := Lib.hid ho1
  have HB1 := Lib.hid hb1
  clear ho1 hb1
  go_wp2_with fail
  go_ret
  exact ⟨_, _, rfl, HO1.out, HB1.out⟩
theorem echP_len {w : World} {E K nb n c c2 : Nat} {R gs : List Nat} {A A2 : Option Addr} {ws : List Value} (h : EchP w E K nb R A A2 n c c2 gs ws) : n = R.length := by
  have h1 := h.o1.len
  rw [List.length_map] at h1
  rw [← h1]; exact h.len
set_option maxRecDepth 100000 in
theorem iHom_any (s n m : Int) (w : World) (h0 : 0 ≤ s) (h6 : s ≤ 6) (hn0 : 0 ≤ n) (hn1 : n ≤ 10) (hm0 : 0 ≤ m) (hm1 : m ≤ 99) (hT : Deb w) :
    Calls Tryd.prog 29 #[.int .i64 s, .int .i64 n, .int .i64 m] w (RetH (homV s.toNat n.toNat m.toNat) w) := by
  obtain ⟨S, hS⟩ : ∃ S, S = s.toNat := ⟨_, rfl⟩
  obtain ⟨N, hN⟩ : ∃ N, N = n.toNat := ⟨_, rfl⟩
  obtain ⟨M, hM⟩ : ∃ M, M = m.toNat := ⟨_, rfl⟩
  have hS6 : S ≤ 6 := by omega
  have hN10 : N ≤ 10 := by omega
  rw [← hS, ← hN, ← hM]
  have e0 : lwZ s n m = lw S N M := by unfold lwZ; rw [if_neg (by omega), hS, hN, hM]
  have e1 : lwZ (s + 1) (n - 1) m = upW S N M := by
    unfold lwZ upW
    by_cases hz : N = 0
    · rw [if_pos (by omega), if_pos hz]
    · rw [if_neg (by omega), if_neg hz, hM, show (s + 1).toNat = S + 1 from by omega, show (n - 1).toNat = N - 1 from by omega]
  have e2 : lwZ (s - 1) (n + 1) m = if S = 0 then [] else lw (S - 1) (N + 1) M := by
    unfold lwZ
    by_cases hz : S = 0
    · rw [if_pos (by omega), if_pos hz]
    · rw [if_neg (by omega), if_neg hz, hM, show (s - 1).toNat = S - 1 from by omega, show (n + 1).toNat = N + 1 from by omega]
  have C0 := Lib.hid (fun (g : Nat) (W : World) (hc : W.cell? ⟨g, 0, none⟩ = some (.int .i64 m)) => words1_any s n m g W hc (by omega) (by omega) (by omega) (by omega) hm0 (by omega))
  have C1 := Lib.hid (fun (g : Nat) (W : World) (hc : W.cell? ⟨g, 0, none⟩ = some (.int .i64 m)) => words1_any (s + 1) (n - 1) m g W hc (by omega) (by omega) (by omega) (by omega) hm0 (by omega))
  have C2 := Lib.hid (fun (g : Nat) (W : World) (hc : W.cell? ⟨g, 0, none⟩ = some (.int .i64 m)) => words1_any (s - 1) (n + 1) m g W hc (by omega) (by omega) (by omega) (by omega) hm0 (by omega))
  rw [e0] at C0
  rw [e1] at C1
  rw [e2] at C2
  obtain ⟨W2, hW2⟩ : ∃ W2 : Pol, W2 = if S = 0 then [] else lw (S - 1) (N + 1) M := ⟨_, rfl⟩
  rw [← hW2] at C2
  obtain ⟨W0, hW0⟩ : ∃ W0, W0 = lw S N M := ⟨_, rfl⟩
  obtain ⟨W1, hW1⟩ : ∃ W1, W1 = upW S N M := ⟨_, rfl⟩
  rw [← hW0] at C0
  rw [← hW1] at C1
  have w0a : ∀ x ∈ W0, okW x ∧ x.length ≤ 6 := fun x hx => by rw [hW0] at hx; exact ⟨lw_okW (by omega) (by omega) hx, by rw [lw_each _ _ _ x hx]; omega⟩
  have w0d : ∀ x ∈ W0, Within W1 (dW x) := fun x hx => by rw [hW0] at hx; rw [hW1]; exact upW_within hS6 (by omega) hx
  have w2a : ∀ x ∈ W2, okW x ∧ x.length ≤ 6 := fun x hx => by
    rw [hW2] at hx
    by_cases hz : S = 0
    · rw [if_pos hz] at hx; cases hx
    · rw [if_neg hz] at hx
      exact ⟨lw_okW (by omega) (by omega) hx, by rw [lw_each _ _ _ x hx]; omega⟩
  have w2d : ∀ x ∈ W2, Within W0 (dW x) := fun x hx => by
    rw [hW2] at hx
    by_cases hz : S = 0
    · rw [if_pos hz] at hx; cases hx
    · rw [if_neg hz] at hx
      have := dW_within (s := S - 1) (n := N) (m := M) (x := x) (by omega) (by omega) hx
      rwa [Nat.sub_add_cancel (by omega), ← hW0] at this
  have A0 : Asc W0 := by rw [hW0]; exact lw_asc _ _ _
  have A1 : Asc W1 := by rw [hW1]; exact upW_asc _ _ _
  have S0 : Small W0 := by rw [hW0]; exact lw_small (by omega) (by omega)
  have S1 : Small W1 := by rw [hW1]; exact upW_small hS6 (by omega)
  have r0e : (rowsB ((W0.map dW).map (maskF W1))).length = rkW S N M := by
    rw [← rows_len A1 (gs := W0.map dW) (fun g hg => by
      obtain ⟨x, hx, rfl⟩ := List.mem_map.1 hg
      exact ⟨(w0d x hx).asc, (w0d x hx).sub⟩), hW0]
    rfl
  have r1e : (rowsB ((W2.map dW).map (maskF W0))).length = if S = 0 then 0 else rkW (S - 1) (N + 1) M := by
    rw [← rows_len A0 (gs := W2.map dW) (fun g hg => by
      obtain ⟨x, hx, rfl⟩ := List.mem_map.1 hg
      exact ⟨(w2d x hx).asc, (w2d x hx).sub⟩), hW2]
    by_cases hz : S = 0
    · rw [if_pos hz, if_pos hz]; rfl
    · rw [if_neg hz, if_neg hz]; rfl
  have l0 : W0.length ≤ 75582 := by rw [hW0]; exact lw_len (by omega) (by omega)
  have l1 : W1.length ≤ 1000000 := S1.len
  have l2 : W2.length ≤ 75582 := by
    rw [hW2]
    split
    · simp
    · exact lw_len (by omega) (by omega)
  have D1 := Lib.hid (fun (A A2 : Option Addr) (c c2 : Nat) (W : World) (h1 : RdL W W.heap.size A W0.length c W0) (h2 : RdL W W.heap.size A2 W1.length c2 W1) (hd : Deb W) =>
    differentials_any A A2 W0.length c W1.length c2 _ W0 W1 W h1 h2 A1 (by omega) l1 (fun y hy => Nat.le_trans (S1.each y hy) (by decide)) w0a w0d rfl hd)
  have D2 := Lib.hid (fun (A A2 : Option Addr) (c c2 : Nat) (W : World) (h1 : RdL W W.heap.size A W2.length c W2) (h2 : RdL W W.heap.size A2 W0.length c2 W0) (hd : Deb W) =>
    differentials_any A A2 W2.length c W0.length c2 _ W2 W0 W h1 h2 A0 (by omega) (by omega) (fun y hy => Nat.le_trans (S0.each y hy) (by decide)) w2a w2d rfl hd)
  obtain ⟨r0, hr0⟩ : ∃ r, r = rkW S N M := ⟨_, rfl⟩
  obtain ⟨r1, hr1⟩ : ∃ r : Nat, r = if S = 0 then 0 else rkW (S - 1) (N + 1) M := ⟨_, rfl⟩
  rw [← hr0] at r0e
  rw [← hr1] at r1e
  have b0 : r0 ≤ 75582 := by rw [hr0]; exact rkW_le (by omega) (by omega)
  have b1 : r1 ≤ 75582 := by
    rw [hr1]
    split
    · omega
    · exact rkW_le (by omega) (by omega)
  have HV := Lib.hid (show homV S N M = (W0.length : Int) - r0 - r1 from by
    unfold homV
    rw [← hW0, ← hr0, hr1])
  obtain ⟨V, hV⟩ : ∃ V, V = homV S N M := ⟨_, rfl⟩
  rw [← hV] at HV ⊢
  obtain ⟨L0, hL0⟩ : ∃ L, L = W0.length := ⟨_, rfl⟩
  obtain ⟨L1, hL1⟩ : ∃ L, L = W1.length := ⟨_, rfl⟩
  obtain ⟨L2, hL2⟩ : ∃ L, L = W2.length := ⟨_, rfl⟩
  obtain ⟨R0, hR0⟩ : ∃ R, R = rowsB ((W0.map dW).map (maskF W1)) := ⟨_, rfl⟩
  obtain ⟨R1, hR1⟩ : ∃ R, R = rowsB ((W2.map dW).map (maskF W0)) := ⟨_, rfl⟩
  rw [← hL0] at C0 D1 D2 HV l0
  rw [← hL1] at C1 D1 l1
  rw [← hL2] at C2 D2 l2
  rw [← hR0] at D1 r0e
  rw [← hR1] at D2 r1e
  have HR0 := Lib.hid r0e
  have HR1 := Lib.hid r1e
  have wA : IntKind.i64.wrap (s + 1) = s + 1 := by rw [IntKind.wrap_i64]; omega
  have wB : IntKind.i64.wrap (n - 1) = n - 1 := by rw [IntKind.wrap_i64]; omega
  have wC : IntKind.i64.wrap (s - 1) = s - 1 := by rw [IntKind.wrap_i64]; omega
  have wD : IntKind.i64.wrap (n + 1) = n + 1 := by rw [IntKind.wrap_i64]; omega
  have wE : IntKind.i64.wrap ((L0 : Int) - (r0 : Int)) = (L0 : Int) - (r0 : Int) := by rw [IntKind.wrap_i64]; omega
  have wF : IntKind.i64.wrap ((L0 : Int) - (r0 : Int) - (r1 : Int)) = (L0 : Int) - (r0 : Int) - (r1 : Int) := by rw [IntKind.wrap_i64]; omega
  have hp := hT.pos
  have HT := Lib.hid hT
  clear hT e0 e1 e2 hW0 hW1 hW2 w0a w0d w2a w2d A0 A1 S0 S1 r0e r1e hr0 hr1 hV hL0 hL1 hL2 hR0 hR1 hS hN hM
  obtain ⟨H, hH⟩ : ∃ H, H = w.heap.size := ⟨_, rfl⟩
  obtain ⟨v0, hv0⟩ : ∃ v, v = w.alloc (.cells #[.int .i64 m] 2) := ⟨_, rfl⟩
  have K0 := Lib.hid (show v0.cell? ⟨w.heap.size, 0, none⟩ = some (.int .i64 m) from by rw [hv0]; exact new_at rfl rfl)
  have B0 := Lib.hid (show Below w.heap.size w v0 from by rw [hv0]; exact (Below.refl _ _).alloc (Nat.le_refl _) _)
  have Z0 := Lib.hid (show w.heap.size + 1 = v0.heap.size from by rw [hv0]; simp)
  have HV0 := Lib.hid hv0
  clear hv0 hH
  go_enter Tryd.func29, Tryd.ntmps29
  go_wp2_with fail
  rw [← HV0.out]
  refine (C0.out _ _ K0.out).mono ?_
  rintro e w1 ⟨a1, c1, rfl, ho1, hb1⟩
  have O1 := Lib.hid ho1.rd
  have B1 := Lib.hid (B0.out.trans (hb1.mono B0.out.size))
  have Z1 := Lib.hid (show w.heap.size + 1 ≤ w1.heap.size from by rw [Z0.out]; exact hb1.size)
  have K1 := Lib.hid (show w1.cell? ⟨w.heap.size, 0, none⟩ = some (.int .i64 m) from (hb1.cell (p := ⟨w.heap.size, 0, none⟩) (by have := Z0.out; show w.heap.size < v0.heap.size; omega)).trans K0.out)
  clear ho1 hb1
  go_wp2_with fail
  refine (C1.out _ _ K1.out).mono ?_
  rintro e w2 ⟨a2, c2, rfl, ho2, hb2⟩
  have O2 := Lib.hid ho2.rd
  have O12 := Lib.hid ((O1.out.below hb2).mono hb2.size)
  have B2 := Lib.hid (B1.out.trans (hb2.mono B1.out.size))
  have Z2 := Lib.hid (Nat.le_trans Z1.out hb2.size)
  have K2 := Lib.hid (show w2.cell? ⟨w.heap.size, 0, none⟩ = some (.int .i64 m) from (hb2.cell (p := ⟨w.heap.size, 0, none⟩) (by have := Z1.out; show w.heap.size < w1.heap.size; omega)).trans K1.out)
  clear ho2 hb2
  go_wp2_with fail
  refine (D1.out _ _ _ _ _ O12.out O2.out (HT.out.belowB B2.out hp)).mono ?_
  rintro e w3 ⟨rfl, hX3, hb3⟩
  obtain ⟨k3, a3, a3', n3, c3, c3', gs3, wv3, hE3, hK3⟩ := hX3
  obtain rfl : n3 = r0 := by rw [echP_len hE3, HR0.out]
  have E3 := Lib.hid hE3
  have O13 := Lib.hid ((O12.out.below hb3).mono hb3.size)
  have B3 := Lib.hid (B2.out.trans (hb3.mono B2.out.size))
  have Z3 := Lib.hid (Nat.le_trans Z2.out hb3.size)
  have K3 := Lib.hid (show w3.cell? ⟨w.heap.size, 0, none⟩ = some (.int .i64 m) from (hb3.cell (p := ⟨w.heap.size, 0, none⟩) (by have := Z2.out; show w.heap.size < w2.heap.size; omega)).trans K2.out)
  have Q3 := Lib.hid hK3
  clear hb3 hE3 hK3
  go_wp2_with fail
  refine (C2.out _ _ K3.out).mono ?_
  rintro e w4 ⟨a4, c4, rfl, ho4, hb4⟩
  have O4 := Lib.hid ho4.rd
  have O14 := Lib.hid ((O13.out.below hb4).mono hb4.size)
  have B4 := Lib.hid (B3.out.trans (hb4.mono B3.out.size))
  have E4 := Lib.hid (E3.out.below (hb4.mono Q3.out))
  have Q4 := Lib.hid (Nat.le_trans Q3.out hb4.size)
  clear ho4 hb4
  go_wp2_with fail
  refine (D2.out _ _ _ _ _ O4.out O14.out (HT.out.belowB B4.out hp)).mono ?_
  rintro e w5 ⟨rfl, hX5, hb5⟩
  obtain ⟨k5, a5, a5', n5, c5, c5', gs5, wv5, hE5, hK5⟩ := hX5
  obtain rfl : n5 = r1 := by rw [echP_len hE5, HR1.out]
  have E5 := Lib.hid (E4.out.below (hb5.mono Q4.out))
  have B5 := Lib.hid (B4.out.trans (hb5.mono B4.out.size))
  have k50 := E5.out.cs.at_ (b := w2.heap.size) (o := 0) (V := .slice a3 n3 c3) (by simp)
  have k51 := hE5.cs.at_ (b := w4.heap.size) (o := 0) (V := .slice a5 n5 c5) (by simp)
  clear hE5 hK5 hb5
  go_upto_region 5 with fail
  go_region
  go_wp2_with fail
  go_ret
  exact RetH.mk (x := (L0 : Int) - (n3 : Int) - (n5 : Int)) (by rw [HV.out]) (below_dr B5.out)
theorem lhV_wide {s n : Int} : lhV 40 s n = if lhOk s n = true then homV s.toNat n.toNat 11 else 0 := by
  unfold lhV
  by_cases h : lhOk s n = true
  · rw [if_pos h, if_pos h]
    unfold lhOk at h
    rw [Bool.and_eq_true] at h
    have hn := inB_iff.1 h.2
    show homV s.toNat n.toNat 39 = homV s.toNat n.toNat 11
    unfold homV rkW
    rw [lw_wide s.toNat n.toNat 39 (by omega), lw_wide s.toNat n.toNat 11 (by omega), lw_wide (s.toNat - 1) (n.toNat + 1) 39 (by omega), lw_wide (s.toNat - 1) (n.toNat + 1) 11 (by omega)]
  · rw [if_neg h, if_neg h]
theorem iLambdaHomology (s n : Int) (w : World) (hT : Deb w) : Calls Tryd.prog 13 #[.int .i64 s, .int .i64 n] w (RetHC (lhV 40 s n) (lhC s n) w) := by
  have C1 := Lib.hid (isPlace_any s n w)
  have HV := Lib.hid (lhV_wide (s := s) (n := n))
  have HC := Lib.hid (show lhC s n = if lhOk s n = true then 0 else 2 from rfl)
  have hb : lhOk s n = true → (0 ≤ s ∧ s ≤ 6) ∧ (0 ≤ n ∧ n ≤ 10) := fun h => by
    unfold lhOk at h
    rw [Bool.and_eq_true] at h
    exact ⟨inB_iff.1 h.1, inB_iff.1 h.2⟩
  obtain ⟨v, hv⟩ : ∃ v, v = lhV 40 s n := ⟨_, rfl⟩
  obtain ⟨k, hk⟩ : ∃ k, k = lhC s n := ⟨_, rfl⟩
  rw [← hv] at HV ⊢
  rw [← hk] at HC ⊢
  obtain ⟨b, e⟩ : ∃ b, b = lhOk s n := ⟨_, rfl⟩
  rw [← e] at C1 HV HC hb
  clear hv hk e
  cases b
  · have HV' := Lib.hid (show v = 0 from HV.out)
    have HC' := Lib.hid (show k = 2 from HC.out)
    clear hb hT
    go_enter Tryd.func13, Tryd.ntmps13
    go_wp2_with fail
    refine C1.out.mono ?_
    rintro e w1 ⟨rfl, h1⟩
    rw [h1]
    go_wp2_with fail
    go_ret2
    exact RetHC.mk (x := 0) (y := 2) HV'.out.symm HC'.out.symm (Below.refl _ _)
  · have HV' := Lib.hid (show v = homV s.toNat n.toNat 11 from HV.out)
    have HC' := Lib.hid (show k = 0 from HC.out)
    obtain ⟨⟨hs0, hs6⟩, hn0, hn1⟩ := hb rfl
    have C3 := Lib.hid (iHom_any s n 11 w hs0 hs6 hn0 hn1 (by omega) (by omega) hT)
    rw [show ((11 : Int)).toNat = 11 from rfl, ← HV'.out] at C3
    clear hb hT
    go_enter Tryd.func13, Tryd.ntmps13
    go_wp2_with fail
    refine C1.out.mono ?_
    rintro e w1 ⟨rfl, h1⟩
    rw [h1]
    go_wp2_with fail
    refine C3.out.mono ?_
    rintro e w1 ⟨rfl, hb⟩
    have HB := Lib.hid hb
    clear hb
    go_wp2_with fail
    go_ret2
    exact RetHC.mk (x := v) (y := 0) rfl HC'.out.symm HB.out
theorem iSphereHomology (m s n : Int) (w : World) (hT : Deb w) : Calls Tryd.prog 15 #[.int .i64 m, .int .i64 s, .int .i64 n] w (RetHC (shV m s n) (shC m s n) w) := by
  have C0 := Lib.hid (isSphere_any m w)
  have C1 := Lib.hid (isPlace_any s n w)
  have HV := Lib.hid (show shV m s n = if inB m 1 40 = true then (if lhOk s n = true then homV s.toNat n.toNat (m - 1).toNat else 0) else 0 from rfl)
  have HC := Lib.hid (show shC m s n = if inB m 1 40 = true then (if lhOk s n = true then 0 else 2) else 2 from rfl)
  have hb : lhOk s n = true → (0 ≤ s ∧ s ≤ 6) ∧ (0 ≤ n ∧ n ≤ 10) := fun h => by
    unfold lhOk at h
    rw [Bool.and_eq_true] at h
    exact ⟨inB_iff.1 h.1, inB_iff.1 h.2⟩
  have hb0 : inB m 1 40 = true → 1 ≤ m ∧ m ≤ 40 := inB_iff.1
  obtain ⟨v, hv⟩ : ∃ v, v = shV m s n := ⟨_, rfl⟩
  obtain ⟨k, hk⟩ : ∃ k, k = shC m s n := ⟨_, rfl⟩
  rw [← hv] at HV ⊢
  rw [← hk] at HC ⊢
  obtain ⟨b, e⟩ : ∃ b, b = lhOk s n := ⟨_, rfl⟩
  obtain ⟨b0, e0⟩ : ∃ b, b = inB m 1 40 := ⟨_, rfl⟩
  rw [← e] at C1 HV HC hb
  rw [← e0] at C0 HV HC hb0
  clear hv hk e e0
  cases b0
  · have HV' := Lib.hid (show v = 0 from HV.out)
    have HC' := Lib.hid (show k = 2 from HC.out)
    clear hb hT hb0
    go_enter Tryd.func15, Tryd.ntmps15
    go_wp2_with fail
    refine C0.out.mono ?_
    rintro e w1 ⟨rfl, h1⟩
    rw [h1]
    go_wp2_with fail
    go_ret2
    exact RetHC.mk (x := 0) (y := 2) HV'.out.symm HC'.out.symm (Below.refl _ _)
  · cases b
    · have HV' := Lib.hid (show v = 0 from HV.out)
      have HC' := Lib.hid (show k = 2 from HC.out)
      clear hb hT hb0
      go_enter Tryd.func15, Tryd.ntmps15
      go_wp2_with fail
      refine C0.out.mono ?_
      rintro e w1 ⟨rfl, h1⟩
      rw [h1]
      go_wp2_with fail
      refine C1.out.mono ?_
      rintro e w1 ⟨rfl, h1⟩
      rw [h1]
      go_wp2_with fail
      go_ret2
      exact RetHC.mk (x := 0) (y := 2) HV'.out.symm HC'.out.symm (Below.refl _ _)
    · have HV' := Lib.hid (show v = homV s.toNat n.toNat (m - 1).toNat from HV.out)
      have HC' := Lib.hid (show k = 0 from HC.out)
      obtain ⟨⟨hs0, hs6⟩, hn0, hn1⟩ := hb rfl
      obtain ⟨hm0, hm1⟩ := hb0 rfl
      have wM : IntKind.i64.wrap (m - 1) = m - 1 := by rw [IntKind.wrap_i64]; omega
      have C3 := Lib.hid (iHom_any s n (m - 1) w hs0 hs6 hn0 hn1 (by omega) (by omega) hT)
      rw [← HV'.out] at C3
      clear hb hT hb0
      go_enter Tryd.func15, Tryd.ntmps15
      go_wp2_with fail
      refine C0.out.mono ?_
      rintro e w1 ⟨rfl, h1⟩
      rw [h1]
      go_wp2_with fail
      refine C1.out.mono ?_
      rintro e w1 ⟨rfl, h1⟩
      rw [h1]
      go_wp2_with fail
      refine C3.out.mono ?_
      rintro e w1 ⟨rfl, hb⟩
      have HB := Lib.hid hb
      clear hb
      go_wp2_with fail
      go_ret2
      exact RetHC.mk (x := v) (y := 0) rfl HC'.out.symm HB.out
end Go.Proofs.YtdgcgcodjddddaaDoor

/- The laws LambdaHomology and SphereHomology. -/
namespace Go.Proofs.YtdgcgcodjddddaaDoor
open Go.RowKit
set_option linter.unusedVariables false

theorem coreLambdaHomology (s n : Int) (w : World) (hT : Deb w) : Calls Tryd.prog 4 #[.int .i64 s, .int .i64 n] w fun e w' => e = .returned (.bool true) ∧ Below w.heap.size w w' := by
  have CS := Lib.hid (sLambdaHomology s n w)
  have CI := Lib.hid (fun (W : World) (h : Deb W) => iLambdaHomology s n W h)
  have HT := Lib.hid hT
  obtain ⟨v, hv⟩ : ∃ v, v = lhV 40 s n := ⟨_, rfl⟩
  obtain ⟨k, hk⟩ : ∃ k, k = lhC s n := ⟨_, rfl⟩
  rw [← hv, ← hk] at CS CI
  have nv : (v != v) = false := by simp
  have nk : (k != k) = false := by simp
  clear hv hk hT
  go_enter Tryd.func4, Tryd.ntmps4
  go_wp2_with fail
  refine CS.out.mono ?_
  rintro e w1 ⟨rfl, hb1⟩
  have B1 := Lib.hid hb1
  clear hb1
  go_wp2_with fail
  refine (CI.out _ (HT.out.below B1.out)).mono ?_
  rintro e w2 ⟨rfl, hb2⟩
  have B2 := Lib.hid (B1.out.trans (hb2.mono B1.out.size))
  clear hb2
  go_wp2_with fail
  go_ret
  exact ⟨rfl, B2.out⟩
theorem coreSphereHomology (m s n : Int) (w : World) (hT : Deb w) : Calls Tryd.prog 5 #[.int .i64 m, .int .i64 s, .int .i64 n] w fun e w' => e = .returned (.bool true) ∧ Below w.heap.size w w' := by
  have CS := Lib.hid (sSphereHomology m s n w)
  have CI := Lib.hid (fun (W : World) (h : Deb W) => iSphereHomology m s n W h)
  have HT := Lib.hid hT
  obtain ⟨v, hv⟩ : ∃ v, v = shV m s n := ⟨_, rfl⟩
  obtain ⟨k, hk⟩ : ∃ k, k = shC m s n := ⟨_, rfl⟩
  rw [← hv, ← hk] at CS CI
  have nv : (v != v) = false := by simp
  have nk : (k != k) = false := by simp
  clear hv hk hT
  go_enter Tryd.func5, Tryd.ntmps5
  go_wp2_with fail
  refine CS.out.mono ?_
  rintro e w1 ⟨rfl, hb1⟩
  have B1 := Lib.hid hb1
  clear hb1
  go_wp2_with fail
  refine (CI.out _ (HT.out.below B1.out)).mono ?_
  rintro e w2 ⟨rfl, hb2⟩
  have B2 := Lib.hid (B1.out.trans (hb2.mono B1.out.size))
  clear hb2
  go_wp2_with fail
  go_ret
  exact ⟨rfl, B2.out⟩
end Go.Proofs.YtdgcgcodjddddaaDoor
