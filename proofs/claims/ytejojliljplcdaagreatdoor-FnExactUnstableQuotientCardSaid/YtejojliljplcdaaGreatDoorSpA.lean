/- (*impl.span).add. -/
import Derived.Test.YtejojliljplcdaaGreatDoorRref
import Derived.Deep.RegionLaw
import Derived.ArgAppend
import Derived.Test.YtejojliljplcdaaGreatDoorShfI
import Derived.Test.YtejojliljplcdaaGreatDoorOdd
import Derived.Test.YtejojliljplcdaaGreatDoorUnsP
namespace Go.Proofs.YtejojliljplcdaaGreatDoor
open Go.RowKit
set_option linter.unusedVariables false

set_option maxRecDepth 100000 in
set_option maxHeartbeats 8000000 in
theorem add_any (E v : Nat) (G : Nat → Prop) (R : List Nat) (w : World) (h : SpG w E G R) (hR : ∀ r ∈ R, r ≠ 0 ∧ r < 65536) (hv : v < 65536) (hn : R.length ≤ 1000) (hT : Deb w) (hE : 1 ≤ E) :
    Calls Tryz.prog 91 #[.pointer (some ⟨E, 0, none⟩), .int .i64 (v : Nat), .int .i64 0] w (RetAd E G (addB R v) (decide (red lowB R v ≠ 0)) w) := by
  obtain ⟨⟨A, n, c, A2, c2, hs, hG1, hG2⟩, hGE, hGl⟩ := h
  have hEs : E < w.heap.size := (hGl E hGE).1
  have hln := hs.len
  have hn' : n ≤ 1000 := by omega
  have C0 := Lib.hid (left_any E A A2 n c c2 v R w hs hR hv hn' hT)
  have HUw := Lib.hid (red_lt (R := R) (v := v) (fun r hr => (hR r hr).2) hv)
  obtain ⟨u, hu⟩ : ∃ u, u = red lowB R v := ⟨_, rfl⟩
  rw [← hu] at C0 HUw
  have HA := Lib.hid (show addB R v = if u = 0 then R else R.map (cutB u) ++ [u] from by rw [hu]; rfl)
  have HS := Lib.hid hs
  have HT := Lib.hid hT
  have HLn := Lib.hid hln
  have HR := Lib.hid hR
  have GG := Lib.hid (And.intro hG1 (And.intro hG2 (And.intro hGE hGl)))
  obtain ⟨X, hX⟩ : ∃ X, X = RetAd E G (addB R v) (decide (red lowB R v ≠ 0)) w := ⟨_, rfl⟩
  have HX := Lib.hid (show X = RetAd E G (addB R v) (decide (u ≠ 0)) w from by rw [hX, hu])
  rw [← hX]
  clear hs hR hT hv hu hX hln hG1 hG2 hGE hGl hn
  go_enter Tryz.func91, Tryz.ntmps91
  go_wp2_with fail
  refine C0.out.mono ?_
  rintro e w1 ⟨rfl, q1, hq1⟩
  have B1 := Lib.hid (show Below w.heap.size w w1 from by rw [hq1]; exact below_drewN (Below.refl _ _) q1)
  have Z1 := Lib.hid (show w1.heap.size = w.heap.size from by rw [hq1]; rfl)
  have H1 := Lib.hid (HS.out.below B1.out)
  have T1 := Lib.hid (HT.out.below B1.out)
  have F1 := Lib.hid (FrG.of_below (G := G) B1.out)
  clear hq1
  by_cases hu0 : u = 0
  · have HXe := Lib.hid (show X = RetAd E G R false w from by rw [HX.out, HA.out, if_pos hu0]; simp [hu0])
    have HXX := Lib.hid (show RetAd E G R false w (.returned (.tuple #[.int .i64 0, .bool false])) w1 from ⟨rfl, ⟨⟨A, n, c, A2, c2, H1.out, fun ad e => .inl (GG.out.1 ad e), fun ad e => .inl (GG.out.2.1 ad e)⟩, .inl GG.out.2.2.1, fun j hj => by
      have := Z1.out
      rcases hj with hj | hj
      · have := GG.out.2.2.2 j hj; omega
      · omega⟩, F1.out⟩)
    have hz : (u : Int) = 0 := by omega
    clear hu0
    go_wp2_with fail
    rw [HXe.out]
    exact HXX.out
  · have HXe := Lib.hid (show X = RetAd E G (R.map (cutB u) ++ [u]) true w from by rw [HX.out, HA.out, if_neg hu0]; simp [hu0])
    have HCU := Lib.hid (show ∀ x, cutB u x = if x.testBit (lowB u) = true then x ^^^ u else x from fun x => rfl)
    have hz : ((u : Int) == 0) = false := by simpa using hu0
    have HP := Lib.hid (fun (w : World) (hT : Deb w) => pivot_any u (by have := HUw.out; omega) hu0 w hT)
    have HLB := Lib.hid (show lowB u < 16 from bit_lt (n := 16) (x := u) HUw.out (lowB_bit hu0).1)
    have hce := ctz_low hu0 (by have := HUw.out; omega)
    rw [hce] at HP
    obtain ⟨p, hp⟩ : ∃ p, p = lowB u := ⟨_, rfl⟩
    rw [← hp] at HP HLB HCU
    have hp16 : p < 16 := HLB.out
    have huw : u < 65536 := HUw.out
    clear hu0 hp hce HX
    have k0 := H1.out.cs.at_ (b := E) (o := 0) (V := .slice A n c) (by simp)
    have k1 := H1.out.cs.at_ (b := E) (o := 1) (V := .slice A2 n c2) (by simp)
    go_wp2_with fail
    clear k0 k1
    go_loopw [25] (fun i wr => ∃ k : Nat, k ≤ n ∧ i = .int .i64 k ∧ Hid (Spn wr E A n c A2 c2 ((R.take k).map (cutB u) ++ R.drop k)) ∧ Hid (FrG G w wr) ∧ Hid (wr.heap.size = w.heap.size)) (fun i _ => n - (intOf i).toNat)
    case atStart => exact ⟨0, Nat.zero_le _, rfl, by simpa using H1, F1, Z1⟩
    case round =>
      obtain ⟨k, hk, rfl, HE, HF, HZ⟩ := hrel
      by_cases hlt : k < n
      · obtain ⟨g, g2, r, rfl, rfl, hEg, hEg2, hgg, hgl, hg2l, hr, hcx, hcy, hfx, hfy, hset⟩ := HE.out.set hlt
        obtain ⟨x, hx⟩ : ∃ x, R[k]? = some x := ⟨_, List.getElem?_eq_getElem (by rw [HLn.out]; exact hlt)⟩
        have hrx : r = x := by
          have := cut_at (v := u) hx
          rw [this] at hr
          exact (Option.some.inj hr).symm
        subst hrx
        obtain ⟨hr0, hrw⟩ := HR.out r (List.mem_of_getElem? hx)
        have HXk := Lib.hid hx
        have HC := Lib.hid (HCU.out r)
        have DT := Lib.hid (show Deb wr from HT.out.belowB (HF.out.below (B := 1) (by omega) (fun j hj => Nat.le_trans hE (GG.out.2.2.2 j hj).2)) (Nat.le_refl _))
        have C2 := Lib.hid (HP.out wr DT.out)
        have k0 := HE.out.cs.at_ (b := E) (o := 0) (V := .slice (some ⟨g, 0, none⟩) n c) (by simp)
        have k1 := HE.out.cs.at_ (b := E) (o := 1) (V := .slice (some ⟨g2, 0, none⟩) n c2) (by simp)
        have hb := bit_at (x := r) (i := p) (by omega)
        clear hr hx
        by_cases hbit : r.testBit p = true
        · rw [if_pos hbit] at hb HC
          have hxo := bits_xorN (a := r) (b := u) (by omega) (by omega)
          have hx0 : bits .xor .i64 (0 : Int) 0 = 0 := by rfl
          have S1 := Lib.hid (hset (r ^^^ u))
          clear hset hbit
          go_wp2_with fail
          refine C2.out.mono ?_
          rintro e w2 ⟨rfl, rfl⟩
          go_wp2_with fail
          go_region
          have HE2 := Lib.hid (show Spn ((w2.setCell ⟨g, k, none⟩ (.int .i64 (r ^^^ u : Nat))).setCell ⟨g2, k, none⟩ (.int .i64 0)).drew E (some ⟨g, 0, none⟩) n c (some ⟨g2, 0, none⟩) c2 ((R.take (k + 1)).map (cutB u) ++ R.drop (k + 1)) from by
            rw [← cut_set HXk.out, HC.out]
            exact S1.out.1.below (below_dr (Below.refl _ _)))
          have HF2 := Lib.hid (show FrG G w ((w2.setCell ⟨g, k, none⟩ (.int .i64 (r ^^^ u : Nat))).setCell ⟨g2, k, none⟩ (.int .i64 0)).drew from ((HF.out.trans (FrG.setCell _ ⟨g, k, none⟩ _ (by exact GG.out.1 ⟨g, 0, none⟩ rfl))).trans (FrG.setCell _ ⟨g2, k, none⟩ _ (by exact GG.out.2.1 ⟨g2, 0, none⟩ rfl))).trans (FrG.of_below (below_dr (Below.refl _ _))))
          have HZ2 := Lib.hid (show ((w2.setCell ⟨g, k, none⟩ (.int .i64 (r ^^^ u : Nat))).setCell ⟨g2, k, none⟩ (.int .i64 0)).drew.heap.size = w.heap.size from by simpa [World.setCell, World.drew] using HZ.out)
          go_wp2_with fail
          go_roundw
          case rel => exact ⟨k + 1, by omega, by go_num, HE2, HF2, HZ2⟩
          case measure => simp [intOf]; omega
        · rw [if_neg hbit] at hb HC
          have HE2 := Lib.hid (show Spn wr E (some ⟨g, 0, none⟩) n c (some ⟨g2, 0, none⟩) c2 ((R.take (k + 1)).map (cutB u) ++ R.drop (k + 1)) from by rw [← cut_keep HXk.out HC.out]; exact HE.out)
          clear hset hbit
          go_wp2_with fail
          refine C2.out.mono ?_
          rintro e w2 ⟨rfl, rfl⟩
          go_wp2_with fail
          go_roundw
          case rel => exact ⟨k + 1, by omega, by go_num, HE2, HF, HZ⟩
          case measure => simp [intOf]; omega
      · have hkn : k = n := by omega
        have HE2 := Lib.hid (show Spn wr E A n c A2 c2 (R.map (cutB u)) from by
          have := HE.out
          rw [hkn, List.take_of_length_le (by rw [HLn.out]; exact Nat.le_refl _), List.drop_of_length_le (by rw [HLn.out]; exact Nat.le_refl _), List.append_nil] at this
          exact this)
        have hnk : ¬ ((k : Int) < (n : Int)) := by omega
        clear HE hkn
        have k0 := HE2.out.cs.at_ (b := E) (o := 0) (V := .slice A n c) (by simp)
        have k1 := HE2.out.cs.at_ (b := E) (o := 1) (V := .slice A2 n c2) (by simp)
        have f0 := HE2.out.cs.fr (b := E) (o := 0) (V := .slice A n c) (by simp)
        have f1 := HE2.out.cs.fr (b := E) (o := 1) (V := .slice A2 n c2) (by simp)
        have ONE1 := Lib.hid (show ∀ x ∈ [Value.int .i64 (u : Nat)], x.oneCell' = true from fun x hx => by rw [List.mem_singleton.1 hx]; rfl)
        have ONE2 := Lib.hid (show ∀ x ∈ [Value.int .i64 0], x.oneCell' = true from fun x hx => by rw [List.mem_singleton.1 hx]; rfl)
        have E1s := Lib.hid (show E + 1 ≤ wr.heap.size by have := HZ.out; omega)
        have hn1 : n + 1 ≤ 4000000000000 := by omega
        have bb : (8 : Nat) ≤ 24 := by decide
        have hEwr : E < wr.heap.size := E1s.out
        have VS := Lib.hid (show (R.map (cutB u)).map (fun (r : Nat) => (r : Int)) |>.map (Value.int .i64) |> (fun vs => vs ++ [Value.int .i64 (u : Nat)] = (R.map (cutB u) ++ [u]).map fun (r : Nat) => Value.int .i64 (r : Int)) from by simp)
        have US := Lib.hid (show (List.replicate n (0 : Int)).map (Value.int .i64) ++ [Value.int .i64 0] = (List.replicate (n + 1) (0 : Int)).map (.int .i64) from by rw [List.replicate_succ', List.map_append]; rfl)
        have Bd1 := Lib.hid (below_dr (below_al (Below.refl wr.heap.size wr) (Nat.le_refl _) (.cells #[.int .i64 (u : Nat)] 2)))
        have Bd2 := Lib.hid (below_dr (below_al (below_al (Below.refl wr.heap.size wr) (Nat.le_refl _) (.cells #[.int .i64 (u : Nat)] 2)) (Nat.le_refl _) (.cells #[.int .i64 0] 2)))
        have Bd3 := Lib.hid (below_dr (below_al (below_al (Below.refl wr.heap.size wr) (Nat.le_refl _) (.cells #[.int .i64 0] 2)) (Nat.le_refl _) (.cells #[.int .i64 (u : Nat)] 2)))
        have RD1 := Lib.hid (rdv_cl (cl_dr (cl_new wr (.int .i64 (u : Nat)) 2)))
        have RD2 := Lib.hid (rdv_cl (cl_dr (cl_al (cl_new wr (.int .i64 (u : Nat)) 2) (.cells #[.int .i64 0] 2))))
        have RD3 := Lib.hid (rdv_cl (cl_dr (cl_new2 wr (.cells #[.int .i64 0] 2) (.int .i64 (u : Nat)) 2)))
        have LC2 := Lib.hid (cl_dr (cl_new2 wr (.cells #[.int .i64 (u : Nat)] 2) (.int .i64 0) 2))
        have LC3 := Lib.hid (cl_dr (cl_al (cl_new wr (.int .i64 0) 2) (.cells #[.int .i64 (u : Nat)] 2)))
        have KC := Lib.hid (show ∀ W, Below wr.heap.size wr W → W.cell? ⟨E, 0, none⟩ = some (.slice A n c) ∧ W.cell? ⟨E, 1, none⟩ = some (.slice A2 n c2) from fun W hb => ⟨(hb.cell (p := ⟨E, 0, none⟩) hEwr).trans k0, (hb.cell (p := ⟨E, 1, none⟩) hEwr).trans k1⟩)
        have OWK := Lib.hid (show ∀ H, wr.heap.size ≤ H → Value.ownBlock (.slice A n c) ≠ some H from fun H hH e => by have := (HE2.out.o1.own.lt H e).2; omega)
        have ka1 := KC.out _ Bd1.out
        have ka2 := KC.out _ Bd2.out
        have ka3 := KC.out _ Bd3.out
        have ka4 := KC.out _ (below_dr (below_al (Below.refl wr.heap.size wr) (Nat.le_refl _) (.cells #[.int .i64 0] 2)))
        obtain ⟨ka10, ka11⟩ := ka1
        obtain ⟨ka20, ka21⟩ := ka2
        obtain ⟨ka30, ka31⟩ := ka3
        obtain ⟨ka40, ka41⟩ := ka4
        go_upto_region 10 with fail
        go_region_law
          (first
            | (first
                | (refine step_appV eltI (by rfl) (.tmp 66) (.tmp 68) (by rfl) (by rfl) (by rfl) (HE2.out.o1.v.below Bd1.out) RD1.out ONE1.out hn1 bb (Nat.le_trans E1s.out Bd1.out.size) ?_
                   intro A' c' w5 h1 hg1 hr1
                   have N5 := Lib.hid (SpN.mk' HE2.out Bd1.out h1 hg1 hr1)
                   have LN5 := Lib.hid (cl_new w5 (.int .i64 0) 2)
                   clear h1 hg1 hr1)
                | (refine step_appV eltI (by rfl) (.tmp 66) (.tmp 68) (by rfl) (by rfl) (by rfl) (HE2.out.o1.v.below Bd2.out) RD2.out ONE1.out hn1 bb (Nat.le_trans E1s.out Bd2.out.size) ?_
                   intro A' c' w5 h1 hg1 hr1
                   have N5 := Lib.hid (SpN.mk' HE2.out Bd2.out h1 hg1 hr1)
                   have LO5 := Lib.hid (cl_grown hg1 LC2.out (OWK.out _ (Nat.le_succ _)))
                   clear h1 hg1 hr1)
                | (refine step_appV eltI (by rfl) (.tmp 66) (.tmp 68) (by rfl) (by rfl) (by rfl) (HE2.out.o1.v.below Bd3.out) RD3.out ONE1.out hn1 bb (Nat.le_trans E1s.out Bd3.out.size) ?_
                   intro A' c' w5 h1 hg1 hr1
                   have N5 := Lib.hid (SpN.mk' HE2.out Bd3.out h1 hg1 hr1)
                   have LO5 := Lib.hid (cl_grown hg1 LC3.out (OWK.out _ (Nat.le_refl _)))
                   clear h1 hg1 hr1)
               have k10 := N5.out.cs.at_ (b := E) (o := 0) (V := .slice A n c) (by simp)
               have k11 := N5.out.cs.at_ (b := E) (o := 1) (V := .slice A2 n c2) (by simp)
               have N6 := Lib.hid (N5.out.below (below_al (Below.refl w5.heap.size w5) (Nat.le_refl _) (.cells #[.int .i64 0] 2)))
               have k20 := N6.out.cs.at_ (b := E) (o := 0) (V := .slice A n c) (by simp)
               have k21 := N6.out.cs.at_ (b := E) (o := 1) (V := .slice A2 n c2) (by simp)
               have s5 := Lib.hid (Nat.le_trans E1s.out N5.out.gr.size)
               have s6 := Lib.hid (Nat.le_trans E1s.out N6.out.gr.size))
            | (first
                | (refine step_appV eltI (by rfl) (.tmp 73) (.tmp 75) (by rfl) (by rfl) (by rfl) N5.out.o2 (rdv_cl LO5.out) ONE2.out hn1 bb s5.out ?_
                   intro A2' c2' w7 h1 hg1 hr1
                   have M7 := Lib.hid (SpM.mk' N5.out HE2.out h1 hg1 hr1)
                   clear h1 hg1 hr1)
                | (refine step_appV eltI (by rfl) (.tmp 73) (.tmp 75) (by rfl) (by rfl) (by rfl) N6.out.o2 (rdv_cl LN5.out) ONE2.out hn1 bb s6.out ?_
                   intro A2' c2' w7 h1 hg1 hr1
                   have M7 := Lib.hid (SpM.mk' N6.out HE2.out h1 hg1 hr1)
                   clear h1 hg1 hr1)
               have k30 := M7.out.cs.at_ (b := E) (o := 0) (V := .slice A n c) (by simp)
               have k31 := M7.out.cs.at_ (b := E) (o := 1) (V := .slice A2 n c2) (by simp)
               have f30 := M7.out.cs.fr (b := E) (o := 0) (V := .slice A n c) (by simp)
               have f31 := M7.out.cs.fr (b := E) (o := 1) (V := .slice A2 n c2) (by simp)))
        all_goals
          have FIN := Lib.hid (M7.out.two VS.out US.out HE2.out hEwr GG.out.1 GG.out.2.1 GG.out.2.2.1 GG.out.2.2.2 HF.out)
          clear k0 k1 ka10 ka11 ka20 ka21 ka30 ka31 ka40 ka41 k10 k11 k20 k21 k30 k31 f0 f1 f30 f31
          go_wp2_with fail
          rw [HXe.out]
          first | exact FIN.out.1 | exact FIN.out.2
end Go.Proofs.YtejojliljplcdaaGreatDoor

/- A queue: a slice that is cut at its head and appended to at its end. -/
namespace Go.Proofs.YtejojliljplcdaaGreatDoor
open Go.RowKit
set_option linter.unusedVariables false

/-- the slice at A holds xs; what lies behind them, to its capacity, may be written -/
structure Que (w : World) (A : Option Addr) (n c : Nat) (xs : List Int) : Prop where
  len : xs.length = n
  cap : n ≤ c
  none_ : A = none → n = 0 ∧ c = 0
  at_ : ∀ ad, A = some ad → ad.spot = none ∧ ad.block < w.heap.size ∧ (∀ j x, xs[j]? = some x → w.cell? (ad.add j) = some (.int .i64 x)) ∧
    ∀ j, n ≤ j → j < c → (w.cell? (ad.add j)).isSome = true ∧ w.frozen? (ad.add j) = false
def qB (A : Option Addr) (j : Nat) : Prop := ∃ ad, A = some ad ∧ ad.block = j
theorem Que.rd {w : World} {A : Option Addr} {n c : Nat} {xs : List Int} (h : Que w A n c xs) : RdS w w.heap.size A n c xs := ⟨h.len, h.cap, fun j hj => by
  cases A with
  | none => have := (h.none_ rfl).1; have := h.len; omega
  | some ad =>
    obtain ⟨_, h2, h3, _⟩ := h.at_ ad rfl
    exact ⟨ad, rfl, h2, h3 j _ (List.getElem?_eq_getElem hj)⟩⟩
theorem Que.fr {w w' : World} {G : Nat → Prop} {A : Option Addr} {n c : Nat} {xs : List Int} (h : Que w A n c xs) (hf : FrG G w w') (hn : ∀ ad, A = some ad → ¬ G ad.block) : Que w' A n c xs :=
  ⟨h.len, h.cap, h.none_, fun ad e => by
    obtain ⟨h1, h2, h3, h4⟩ := h.at_ ad e
    have hb := hf.block ad.block h2 (hn ad e)
    have hc : ∀ j, w'.cell? (ad.add j) = w.cell? (ad.add j) := fun j => World.cell?_of_block (by rw [block_of_add]; exact hb)
    have hz : ∀ j, w'.frozen? (ad.add j) = w.frozen? (ad.add j) := fun j => World.frozen?_of_block (by rw [block_of_add]; exact hb)
    exact ⟨h1, Nat.lt_of_lt_of_le h2 hf.size, fun j x hx => (hc j).trans (h3 j x hx), fun j a b => by rw [hc, hz]; exact h4 j a b⟩⟩
theorem Que.below {w w' : World} {A : Option Addr} {n c : Nat} {xs : List Int} (h : Que w A n c xs) (hb : Below w.heap.size w w') : Que w' A n c xs := h.fr (G := fun _ => False) (FrG.of_below hb) (fun _ _ h => h)
theorem Que.of_own {w : World} {B : Nat} {A : Option Addr} {n c : Nat} {xs : List Int} (h : OwnS w B A n c xs) : Que w A n c xs := by
  refine ⟨h.len, h.cap.1, fun e => ?_, fun ad e => ?_⟩
  · subst e
    rcases h.own.2 with ⟨e1, e2⟩ | ⟨g, cap, cur, e1, _⟩
    · injection e1 with _ _ e3
      exact ⟨e2, e3⟩
    · injection e1 with e2; cases e2
  · subst e
    rcases h.own.2 with ⟨e1, _⟩ | ⟨g, cap, cur, e1, hb, hg, hnc, hm, hs, ht⟩
    · injection e1 with e2; cases e2
    · injection e1 with e2 _ e3
      injection e2 with e2
      subst e2; subst e3
      refine ⟨rfl, (h.lt rfl).2, fun j x hx => h.own.cells (g := g) rfl j _ (by simp [hx]), fun j h1 h2 => ⟨?_, ?_⟩⟩
      · have : j < cur.size := by omega
        rw [Addr.add_lit]; simp [World.cell?, hg, this]
      · rw [Addr.add_lit]; simp [World.frozen?, hg]
theorem Que.tail {w : World} {A : Option Addr} {n c : Nat} {x : Int} {xs : List Int} (h : Que w A n c (x :: xs)) : Que w (sufA A c 1) (n - 1) (c - 1) xs := by
  have hl := h.len
  have hc := h.cap
  simp only [List.length_cons] at hl
  refine ⟨by omega, by omega, fun e => ?_, fun ad e => ?_⟩
  · cases A with
    | none => have := h.none_ rfl; omega
    | some ad => simp only [sufA] at e; split at e <;> cases e
  · cases A with
    | none => simp [sufA] at e
    | some a0 =>
      obtain ⟨h1, h2, h3, h4⟩ := h.at_ a0 rfl
      simp only [sufA] at e
      split at e
      · injection e with e
        subst e
        refine ⟨h1, h2, fun j x hx => ?_, fun j _ _ => by omega⟩
        have := (List.getElem?_eq_some_iff.1 hx).1
        omega
      · injection e with e
        subst e
        refine ⟨by obtain ⟨g, o, sp⟩ := a0; simp only at h1; subst h1; rw [Addr.add_lit], by rw [block_of_add]; exact h2, fun j y hy => ?_, fun j hj1 hj2 => ?_⟩
        · rw [add_of_add]
          exact h3 (1 + j) y (by rw [Nat.add_comm, List.getElem?_cons_succ]; exact hy)
        · rw [add_of_add]
          exact h4 (1 + j) (by omega) (by omega)
theorem qB_suf {A : Option Addr} {c m j : Nat} (h : qB (sufA A c m) j) : qB A j := by
  obtain ⟨ad, e, hj⟩ := h
  cases A with
  | none => cases e
  | some a0 =>
    simp only [sufA] at e
    split at e
    · exact ⟨ad, e, hj⟩
    · injection e with e
      subst e
      exact ⟨a0, rfl, by rw [← hj, block_of_add]⟩

/-- append of one number to a queue -/
theorem wpList_que {w : World} {ops : Array Oper} {rest : List Oper} {o : Oper} {a : Act} {Q : Exit → Act → World → Prop} (hgd : o.guard = none) (s x : Operand)
    (ho : o.op = .call { callee := .builtin .append, args := #[s, x], argTypes := #[22, 22] }) {n c d : Nat} {A : Option Addr} {ax : Addr} {xs : List Int} {y : Int}
    (hs : a.eval s = .slice A n c) (hx : a.eval x = .slice (some ax) 1 d) (hq : Que w A n c xs) (hy : w.cell? (ax.add 0) = some (.int .i64 y)) (hb : n ≤ 1000000000)
    (h : ∀ A' c' w', Que w' A' (n + 1) c' (xs ++ [y]) → FrG (qB A) w w' → (∀ j, qB A' j → qB A j ∨ w.heap.size ≤ j) →
      wpList Tryz.prog ops Q rest (a.put o.dst (.slice A' (n + 1) c')) w') : wpList Tryz.prog ops Q (o :: rest) a w := by
  obtain ⟨i, z, hi, hz, hsz, hby, hzs⟩ := eltI.info
  have hnew : ∀ j u, [Value.int .i64 y][j]? = some u → w.cell? (ax.add j) = some u := by
    intro j u hu
    obtain ⟨hj, hju⟩ := List.getElem?_eq_some_iff.1 hu
    have : j = 0 := by simpa using hj
    subst this
    rw [hy, ← hju]; rfl
  have hone : ∀ u ∈ [Value.int .i64 y], u.oneCell' = true := fun u hu => by rw [List.mem_singleton.1 hu]; rfl
  have grow : ∀ v' w', w'.ownsRow w.heap.size 2 1 v' (n + 1) (xs.map (.int .i64) ++ [.int .i64 y]) → w.grownBy w' none → wpList Tryz.prog ops Q rest (a.put o.dst v') w' := by
    intro v' w' h1 h2
    obtain ⟨g, cap, rfl, hg1, hg2⟩ := h1.form (by omega)
    have hown : OwnS w' w.heap.size (some ⟨g, 0, none⟩) (n + 1) cap (xs ++ [y]) := ⟨by rw [List.length_append, hq.len]; rfl, by simpa using h1⟩
    refine h _ _ _ (Que.of_own hown) (FrG.of_grown h2 (by intro g e; cases e)) fun j hj => ?_
    obtain ⟨ad, e, hj⟩ := hj
    injection e with e
    subst e
    exact .inr (by rw [← hj]; exact hg1)
  cases A with
  | none =>
    obtain ⟨rfl, rfl⟩ := hq.none_ rfl
    have hxs : xs = [] := List.eq_nil_of_length_eq_zero hq.len
    subst hxs
    exact wpList_append_grows w hgd s x 22 ho 2 i z 1 8 eltI.under hi hz hsz hby hzs (by decide) none 0 0 [] hs (fun _ => ⟨rfl, rfl⟩) rfl (by intro b e; cases e) ax 1 d [.int .i64 y] hx rfl hnew hone (by omega) (by unfold maxLen; omega) (by omega) grow
  | some ad =>
    obtain ⟨ha, hl, hc, hsp⟩ := hq.at_ ad rfl
    obtain ⟨g, off, sp⟩ := ad
    simp only at ha hl
    subst ha
    have hold : ∀ j u, (xs.map (Value.int .i64))[j]? = some u → w.cell? ⟨g, off + j, none⟩ = some u := fun j u hu => by
      rw [List.getElem?_map] at hu
      cases hx' : xs[j]? with
      | none => rw [hx'] at hu; cases hu
      | some x0 =>
        rw [hx'] at hu
        obtain rfl := Option.some.inj hu
        rw [← Addr.add_lit]; exact hc j x0 hx'
    refine wpList_append_arg w hgd s x 22 ho 2 i z 1 8 eltI.under hi hz hsz hby hzs (by decide) g off n c (xs.map (.int .i64)) hs (by simp [hq.len]) hold ax 1 d [.int .i64 y] hx rfl hnew hone ?_ (by unfold maxLen; omega) (by omega) ?_ (fun _ => grow)
    · intro hr j hj
      have : j = 0 := by simpa using hj
      subst this
      have := hsp n (Nat.le_refl _) (by omega)
      simpa [Addr.add_lit] using this
    · intro hr
      have hsome := hsp n (Nat.le_refl _) (by omega)
      simp only [Addr.add_lit] at hsome
      simp only [Nat.mul_one, World.setCells]
      refine h _ _ _ ⟨by rw [List.length_append, hq.len]; rfl, hr, (by intro e; cases e), fun ad e => ?_⟩ (FrG.setCell w ⟨g, off + n, none⟩ _ ⟨_, rfl, rfl⟩) fun j hj => .inl hj
      injection e with e
      subst e
      refine ⟨rfl, by simpa [World.setCell] using hl, fun j x0 hx0 => ?_, fun j h1 h2 => ?_⟩
      · by_cases hj : j < xs.length
        · rw [List.getElem?_append_left hj] at hx0
          rw [World.cell?_setCell_other _ _ _ _ (by simp only [Addr.add_lit]; intro e; injection e with _ e2 _; have := hq.len; omega)]
          exact hc j x0 hx0
        · rw [List.getElem?_append_right (by omega)] at hx0
          have hj0 := (List.getElem?_eq_some_iff.1 hx0).1
          have e0 : j = n := by have := hq.len; simp at hj0; omega
          subst e0
          rw [hq.len, Nat.sub_self] at hx0
          obtain rfl : y = x0 := by simpa using hx0
          obtain ⟨u, hu⟩ := Option.isSome_iff_exists.1 hsome.1
          rw [Addr.add_lit]; exact World.cell?_setCell_same _ _ _ hu
      · have := hsp j (by omega) h2
        rw [World.frozen?_setCell, World.cell?_setCell_other _ _ _ _ (by simp only [Addr.add_lit]; intro e; injection e with _ e2 _; omega)]
        exact this
end Go.Proofs.YtejojliljplcdaaGreatDoor

/- (*impl.span).reduced: the rows of a span in the order of their pivots. -/
namespace Go.Proofs.YtejojliljplcdaaGreatDoor
open Go.RowKit
open Go.Shelf
set_option linter.unusedVariables false

theorem isNaNi_any (x : Int) (w : World) : Calls Tryz.prog 143 #[.int .i64 x] w (RetP false w) := by
  go_enter Tryz.func143, Tryz.ntmps143
  go_wp2
  go_ret
  exact RetP.mk (by simp)
theorem cmpN_any (x y : Int) (w : World) : Calls Tryz.prog 123 #[.int .i64 x, .int .i64 y] w (RetI (cmpI x y) w) := by
  rcases Int.lt_trichotomy x y with h | h | h
  · go_enter Tryz.func123, Tryz.ntmps123
    go_wp2_with fail
    refine (isNaNi_any _ _).mono ?_
    rintro e w' ⟨rfl, rfl⟩
    go_wp2_with fail
    refine (isNaNi_any _ _).mono ?_
    rintro e w' ⟨rfl, rfl⟩
    go_wp2_with fail
    go_ret
    exact RetI.mk (y := -1) (by simp [cmpI, h])
  · subst h
    go_enter Tryz.func123, Tryz.ntmps123
    go_wp2_with fail
    refine (isNaNi_any _ _).mono ?_
    rintro e w' ⟨rfl, rfl⟩
    go_wp2_with fail
    refine (isNaNi_any _ _).mono ?_
    rintro e w' ⟨rfl, rfl⟩
    go_wp2_with fail
    go_ret
    exact RetI.mk (y := 0) (by simp [cmpI])
  · have h2 : ¬ x < y := by omega
    go_enter Tryz.func123, Tryz.ntmps123
    go_wp2_with fail
    refine (isNaNi_any _ _).mono ?_
    rintro e w' ⟨rfl, rfl⟩
    go_wp2_with fail
    refine (isNaNi_any _ _).mono ?_
    rintro e w' ⟨rfl, rfl⟩
    go_wp2_with fail
    go_ret
    exact RetI.mk (y := 1) (by simp [cmpI, h, h2])
theorem red1_any (x y : Nat) (hx : x ≠ 0 ∧ x < 65536) (hy : y ≠ 0 ∧ y < 65536) (w : World) (hT : Deb w) : Calls Tryz.prog 122 #[.int .i64 (x : Nat), .int .i64 (y : Nat)] w (RetI (cmpI (lowB x : Nat) (lowB y : Nat)) w) := by
  have C1 := Lib.hid (pivot_any x (by omega) hx.1 w hT)
  have C2 := Lib.hid (pivot_any y (by omega) hy.1 w hT)
  rw [ctz_low hx.1 (by omega)] at C1
  rw [ctz_low hy.1 (by omega)] at C2
  have C3 := Lib.hid (cmpN_any (lowB x : Nat) (lowB y : Nat) w)
  clear hT
  go_enter Tryz.func122, Tryz.ntmps122
  go_wp2_with fail
  refine C1.out.mono ?_
  rintro e w' ⟨rfl, rfl⟩
  go_wp2_with fail
  refine C2.out.mono ?_
  rintro e w' ⟨rfl, rfl⟩
  go_wp2_with fail
  refine C3.out.mono ?_
  rintro e w' ⟨rfl, rfl⟩
  go_wp2_with fail
  go_ret
  exact ⟨rfl, rfl⟩

def RowN : Type := {r : Nat // r ≠ 0 ∧ r < 65536}
instance : Inhabited RowN := ⟨⟨1, by decide, by decide⟩⟩
def RowN.enc (x : RowN) : Value := .int .i64 (x.1 : Nat)
def RowN.cmp (x y : RowN) : Int := cmpI (lowB x.1 : Nat) (lowB y.1 : Nat)
theorem RowN.lt (x y : RowN) : ltOf RowN.cmp x y = decide (lowB x.1 < lowB y.1) := by
  show decide (cmpI (lowB x.1 : Nat) (lowB y.1 : Nat) < 0) = _
  unfold cmpI
  split
  · rename_i h; simp; omega
  · rename_i h; split <;> · simp; omega
theorem rowN_swo : Sort.SWO (ltOf RowN.cmp) where
  irrefl x := by rw [RowN.lt]; simp
  trans x y z h1 h2 := by rw [RowN.lt] at *; simp only [decide_eq_true_eq] at *; omega
  ntrans x y z h1 h2 := by rw [RowN.lt] at *; simp only [decide_eq_false_iff_not] at *; omega
theorem sortWorldN_grown {w : World} (g m : Nat) (dk : Array RowN) (os : Array Obj) : w.grownBy (sortWorld RowN.enc w g 0 m dk os) (some g) := by
  refine ⟨rfl, rfl, rfl, by simp [sortWorld, Sort.grow, Sort.putRow, Sort.mapBlock, Sort.ahead], fun k hk hne => ?_⟩
  simp only [sortWorld, Sort.grow, Sort.putRow, Sort.mapBlock, Sort.ahead]
  rw [Array.getElem?_append_left (by simpa using hk), Array.getElem?_modify, if_neg (fun e => hne (by rw [e]))]
theorem sortWorldN_at {w : World} (g m : Nat) (dk : Array RowN) (os : Array Obj) {cur : Array Value} {E : Nat} (hg : w.heap[g]? = some (.cells cur E (0, 0))) :
    (sortWorld RowN.enc w g 0 m dk os).heap[g]? = some (.cells (Sort.putCells RowN.enc 0 dk cur) E (0, 0)) := by
  have hlt : g < w.heap.size := (Array.getElem?_eq_some_iff.1 hg).1
  simp only [sortWorld, Sort.grow, Sort.putRow, Sort.mapBlock, Sort.ahead]
  rw [Array.getElem?_append_left (by simpa using hlt), Array.getElem?_modify, if_pos rfl, hg]
  rfl
def intsN (R : List Nat) : List Int := R.map fun (r : Nat) => (r : Int)
def RetSortN (B : Nat) (A : Option Addr) (n c : Nat) (R : List Nat) (w : World) (e : Ending) (w' : World) : Prop :=
  ∃ S : List Nat, e = .returned (.tuple #[]) ∧ S.Perm R ∧ (S.Pairwise fun a b => ¬ lowB b < lowB a) ∧ OwnS w' B A n c (intsN S) ∧ w.grownBy w' (Value.ownBlock (.slice A n c))
theorem sortN_any (A : Option Addr) (n c B : Nat) (R : List Nat) (w : World) (h : OwnS w B A n c (intsN R)) (hB : 1 ≤ B) (hn : n ≤ 1000000000000) (hR : ∀ r ∈ R, r ≠ 0 ∧ r < 65536) (hT : Deb w) :
    Calls Tryz.prog 121 #[.slice A n c, .func (.func 122) #[] #[]] w (RetSortN B A n c R w) := by
  have hRl : R.length = n := by have := h.len; simpa [intsN] using this
  rcases Nat.eq_zero_or_pos n with rfl | hpos
  · have hc := AnyF.slices_SortFunc_none Tryz.sortI0 A c (.func (.func 122) #[] #[]) w
    change Calls Tryz.prog 121 _ _ _ at hc
    refine hc.mono ?_
    rintro e w' ⟨rfl, rfl⟩
    have hnil : R = [] := List.eq_nil_of_length_eq_zero hRl
    subst hnil
    exact ⟨[], rfl, List.Perm.refl _, List.Pairwise.nil, h, World.grownBy.refl _ _⟩
  · obtain ⟨g, cap, hv, hb, hlt⟩ := h.own.form hpos
    injection hv with hA _ hcap
    subst hA; subst hcap
    obtain ⟨d, hd⟩ : ∃ d : Array RowN, d.toList.map (·.1) = R := ⟨(R.pmap (fun a h => (⟨a, h⟩ : RowN)) hR).toArray, by
      rw [List.toList_toArray]
      clear hRl h hn hpos hb hlt
      induction R with
      | nil => rfl
      | cons a l ih => exact congrArg (a :: ·) (ih (fun r hr => hR r (List.mem_cons_of_mem _ hr)))⟩
    have hds : d.size = n := by
      have := congrArg List.length hd
      rw [List.length_map, hRl] at this
      simpa using this
    have hH : Sort.Holds RowN.enc w g 0 d := by
      intro j hj
      refine ⟨?_, by rw [Nat.zero_add]; exact h.own.frozenAt j⟩
      rw [Nat.zero_add, h.own.cellAt j (by omega)]
      have hj' : j < d.toList.length := by simpa using hj
      rw [← hd, intsN, List.map_map, List.map_map, List.getElem?_map, List.getElem?_eq_getElem hj', Option.map_some]
      simp [RowN.enc, getElem!_pos d j hj]
    have hcmp : CmpReads Tryz.prog 122 #[] RowN.enc RowN.cmp g 0 d.size w := by
      intro m os dk hdk x y
      have hD : Deb (sortWorld RowN.enc w g 0 m dk os) := hT.belowB (B := 1) (by
        have hg := sortWorldN_grown (w := w) g m dk os
        exact ⟨hg.os, hg.tape, hg.output, hg.size, fun j hj => hg.block j (by omega) (fun e => by injection e with e; omega)⟩) (Nat.le_refl _)
      exact (red1_any x.1 y.1 x.2 y.2 _ hD).mono fun e w' hh => ⟨hh.1, 0, hh.2⟩
    have hone : OneCell RowN.enc := fun x => rfl
    have hcon := Any.slices_SortFunc Tryz.sortI RowN.enc hone RowN.cmp rowN_swo 122 #[] g 0 c d w (enters_of Tryz.func122 (by kernel_rfl) rfl) hcmp.lays hH hlt (by omega)
    change Calls Tryz.prog 121 _ _ _ at hcon
    rw [hds] at hcon
    refine hcon.mono ?_
    rintro e w' ⟨rfl, d', m, os, hp, hs, rfl⟩
    have hd's : d'.size = n := by rw [hp.1, hds]
    have hperm : d'.toList.Perm d.toList := by
      have := hp.2.2
      rwa [← hds, Array.extract_size, show d.size = d'.size from by rw [hds, hd's], Array.extract_size] at this
    refine ⟨d'.toList.map (·.1), rfl, by rw [← hd]; exact hperm.map _, ?_, ⟨by simpa [intsN] using hd's, ?_⟩, ?_⟩
    · rw [List.pairwise_map, List.pairwise_iff_getElem]
      intro i j hi hj hij
      have := hs i j (Nat.zero_le _) hij (by rw [← hd's]; simpa using hj)
      rw [RowN.lt, getElem!_pos d' i (by simpa using hi), getElem!_pos d' j (by simpa using hj)] at this
      simpa using this
    · rcases h.own.2 with ⟨e, _⟩ | ⟨g', cap', cur, e, hbg, hgg, hnc, hcm, hcs, htk⟩
      · injection e with e1; cases e1
      · injection e with e1 _ e3
        obtain rfl : g' = g := by simpa using e1.symm
        subst e3
        refine ⟨by simp [intsN, hd's], .inr ⟨g', c, _, rfl, hbg, sortWorldN_at g' m d' os hgg, hnc, hcm, by simpa [Sort.putCells] using hcs, ?_⟩⟩
        rw [Nat.mul_one] at hcs htk ⊢
        apply List.ext_getElem?
        intro k
        by_cases hk : k < n
        · rw [List.getElem?_take_of_lt hk, Array.getElem?_toList, Sort.putCells, Array.getElem?_mapIdx, intsN, List.map_map, List.map_map, List.getElem?_map, Array.getElem?_toList, Array.getElem?_eq_getElem (show k < cur.size by omega), Array.getElem?_eq_getElem (show k < d'.size by omega)]
          simp only [Option.map_some, Nat.zero_le, Nat.zero_add, true_and, Nat.sub_zero]
          rw [if_pos (by omega), getElem!_pos d' k (by omega)]
          rfl
        · rw [List.getElem?_eq_none (by rw [List.length_take]; omega), List.getElem?_eq_none (by simp [intsN]; omega)]
    · exact sortWorldN_grown g m d' os

/-- the rows of a span, ascending by their pivots -/
def RetRs (R : List Nat) (w : World) (e : Ending) (w' : World) : Prop := ∃ S n A c, e = .returned (.slice A n c) ∧ S.Perm R ∧ (S.Pairwise fun a b => ¬ lowB b < lowB a) ∧ OwnS w' w.heap.size A n c (intsN S) ∧ Below w.heap.size w w'
theorem reduced_any (E : Nat) (G : Nat → Prop) (R : List Nat) (w : World) (h : SpG w E G R) (hR : ∀ r ∈ R, r ≠ 0 ∧ r < 65536) (hn : R.length ≤ 1000) (hT : Deb w) :
    Calls Tryz.prog 92 #[.pointer (some ⟨E, 0, none⟩)] w (RetRs R w) := by
  obtain ⟨A, n, c, A2, c2, hs, _⟩ := h.at_
  have hln := hs.len
  have hw1 : 1 ≤ w.heap.size := hT.pos
  have C1 := Lib.hid (copyI_st A n c w.heap.size (intsN R) w hs.o1.rd (Nat.le_refl _) (by omega))
  have HT := Lib.hid hT
  have HR := Lib.hid hR
  have k0 := hs.cs.at_ (b := E) (o := 0) (V := .slice A n c) (by simp)
  clear hs h hT hR
  go_enter Tryz.func92, Tryz.ntmps92
  go_wp2_with fail
  refine C1.out.mono ?_
  rintro e w1 ⟨A1, c1, rfl, ho1, hb1⟩
  have B1 := Lib.hid hb1
  have C2 := Lib.hid (sortN_any A1 n c1 w.heap.size R w1 ho1 hw1 (by omega) HR.out (HT.out.below hb1))
  clear ho1 hb1 k0
  go_wp2_with fail
  refine C2.out.mono ?_
  rintro e w2 ⟨S, rfl, hp, hpw, ho2, hg2⟩
  have HF := Lib.hid (show RetRs R w (.returned (.slice A1 n c1)) w2 from ⟨S, n, A1, c1, rfl, hp, hpw, ho2, B1.out.grown hg2 B1.out.size ho2.row⟩)
  clear hp hpw ho2 hg2
  go_wp2_with fail
  go_ret
  exact HF.out
end Go.Proofs.YtejojliljplcdaaGreatDoor

/- spanOf, generatedBy: the least part of a module that holds some rows. -/
namespace Go.Proofs.YtejojliljplcdaaGreatDoor
open Go.RowKit
set_option linter.unusedVariables false

theorem xorN_add (a b : Nat) (f : Nat → Nat) : ∀ n, xorN n (pickF (a ^^^ b) f) = xorN n (pickF a f) ^^^ xorN n (pickF b f)
  | 0 => by simp [xorN]
  | n + 1 => by
    rw [xorN, xorN, xorN, xorN_add a b f n]
    have h : pickF (a ^^^ b) f n = pickF a f n ^^^ pickF b f n := by
      unfold pickF
      rw [Nat.testBit_xor]
      cases a.testBit n <;> cases b.testBit n <;> simp
    rw [h]; ac_rfl
theorem sqF_lin (T : List Tri) (n : Nat) : Lin (fun j x => sqF T n j x) where
  zero j := xorN_zero fun i _ => by simp [pickF]
  add j a b := xorN_add a b _ n
theorem sqF_lt {ds : List Int} {T : List Tri} (h : TriF ds T) (k v : Nat) : sqF T ds.length k v < 65536 :=
  xorN_lt (n := 16) ds.length fun i hi => pickF_lt (h.row_lt hi)

theorem TabR.frG {G : Nat → Prop} {w w' : World} {t n : Nat} {DS : Value} {M : Nat → Nat → Nat} (h : TabR w t n DS M) (hf : FrG G w w') (hG : ∀ j, G j → j < t) : TabR w' t n DS M := by
  refine ⟨?_, fun k hk => ?_, Nat.lt_of_lt_of_le h.lt hf.size⟩
  · rw [← h.deg]
    exact World.cell?_of_block (hf.block t h.lt (fun hg => by have := hG t hg; omega))
  · obtain ⟨g, h0, h1, h2⟩ := h.row k hk
    refine ⟨g, h0, ?_, h2.len, h2.cap, fun j hj => ?_⟩
    · rw [← h1]
      exact World.cell?_of_block (hf.block t h.lt (fun hg => by have := hG t hg; omega))
    · obtain ⟨ad, e, hb, hc⟩ := h2.cell j hj
      injection e with e
      subst e
      refine ⟨_, rfl, Nat.lt_of_lt_of_le hb hf.size, ?_⟩
      rw [← hc]
      exact World.cell?_of_block (by rw [block_of_add]; exact hf.block g hb (fun hg => by have := hG g hg; omega))
def lenAt (w : World) (E : Nat) : Nat := match w.cell? ⟨E, 0, none⟩ with
  | some (.slice _ n _) => n
  | _ => 0
def lenV (v : Value) : Nat := match v with
  | .slice _ n _ => n
  | _ => 0
theorem SpG.lenAt {w : World} {E : Nat} {G : Nat → Prop} {R : List Nat} (h : SpG w E G R) : lenAt w E = R.length := by
  obtain ⟨A, n, c, A2, c2, hs, _⟩ := h.at_
  unfold Proofs.YtejojliljplcdaaGreatDoor.lenAt
  rw [hs.cs.at_ (b := E) (o := 0) (V := .slice A n c) (by simp), hs.len]
theorem SpG.fr {w w' : World} {E : Nat} {G G' : Nat → Prop} {R : List Nat} (h : SpG w E G R) (hf : FrG G' w w') (hd : ∀ j, G' j → ¬ G j) : SpG w' E G R := by
  obtain ⟨⟨A, n, c, A2, c2, hs, h1, h2⟩, h3, h4⟩ := h
  refine ⟨⟨A, n, c, A2, c2, ⟨hs.cs.frG hf fun x hx hg => ?_, hs.o1.frG hf fun ad e hg => hd _ hg (h1 ad e), hs.o2.frG hf fun ad e hg => hd _ hg (h2 ad e), hs.ne⟩, h1, h2⟩, h3, fun j hj => ⟨Nat.lt_of_lt_of_le (h4 j hj).1 hf.size, (h4 j hj).2⟩⟩
  simp only [List.mem_cons, List.not_mem_nil, or_false] at hx
  rcases hx with rfl | rfl <;> exact hd _ hg h3
theorem SpG.start {w : World} (E : Nat) (hE : E = w.heap.size) : SpG (w.alloc (.cells #[.slice none 0 0, .slice none 0 0] 99)) E (fun j => j = E) [] := by
  subst hE
  refine ⟨⟨none, 0, 0, none, 0, ⟨Cells.nil.alloc2 _ _ _ rfl, ⟨rfl, by simpa using World.ownsRow_nil _ _ _ 1⟩, ⟨rfl, by simpa using World.ownsRow_nil _ _ _ 1⟩, (by intro a b e; cases e)⟩, (by intro ad e; cases e), (by intro ad e; cases e)⟩, rfl, fun j hj => ?_⟩
  subst hj
  simp
theorem GoodB.lt {R : List Nat} {v : Nat} (h : ∀ r ∈ R, r < 65536) (hv : v < 65536) : ∀ r ∈ addB R v, r < 65536 := addB_width (n := 16) h hv
/-- what generatedBy hands back -/
def RetGen (f : Nat → Nat → Nat) (M : List Nat) (A : Option Addr) (w : World) (e : Ending) (w' : World) : Prop :=
  ∃ S n A' c', e = .returned (.slice A' n c') ∧ RedS S ∧ (∀ t, Sp S t ↔ Clo f 20 M t) ∧ (∀ r ∈ S, r < 65536) ∧ OwnS w' w.heap.size A' n c' (intsN S) ∧ FrG (qB A) w w'
/-- the state of generatedBy: the queue q at A, the span P at E, the table behind wt -/
structure GInv (wt wr : World) (E : Nat) (A0 A : Option Addr) (n c : Nat) (q P : List Nat) (G : Nat → Prop) : Prop where
  que : Que wr A n c (intsN q)
  sp : SpG wr E G P
  dis : ∀ j, qB A j → ¬ G j
  loc : ∀ j, qB A j → qB A0 j ∨ wt.heap.size ≤ j
  gE : ∀ j, G j → wt.heap.size ≤ j
  ft : FrG (qB A0) wt wr
theorem Que.lt {w : World} {A : Option Addr} {n c : Nat} {xs : List Int} (h : Que w A n c xs) : ∀ j, qB A j → j < w.heap.size := fun j ⟨ad, e, hj⟩ => by rw [← hj]; exact (h.at_ ad e).2.1
theorem GInv.add {wt wr w' : World} {E n c : Nat} {A0 A : Option Addr} {q P P' : List Nat} {G : Nat → Prop} (h : GInv wt wr E A0 A n c q P G) (hs : SpG w' E (Gw G wr w') P') (hf : FrG G wr w') : GInv wt w' E A0 A n c q P' (Gw G wr w') :=
  ⟨h.que.fr hf fun ad e hg => h.dis _ ⟨ad, e, rfl⟩ hg, hs, fun j hj hg => by
    rcases hg with hg | hg
    · exact h.dis j hj hg
    · have := h.que.lt j hj; omega, h.loc, fun j hg => by
    rcases hg with hg | hg
    · exact h.gE j hg
    · exact Nat.le_trans h.ft.size hg.1, h.ft.later hf fun j hg => .inr (h.gE j hg)⟩
theorem GInv.push {wt wr w1 w' : World} {E n n' c c' : Nat} {A0 A A' : Option Addr} {q q' P : List Nat} {G : Nat → Prop} (h : GInv wt wr E A0 A n c q P G) (h1 : Below wr.heap.size wr w1) (hq : Que w' A' n' c' (intsN q')) (hf : FrG (qB A) w1 w') (hl : ∀ j, qB A' j → qB A j ∨ w1.heap.size ≤ j) : GInv wt w' E A0 A' n' c' q' P G := by
  have hf' : FrG (qB A) wr w' := (FrG.of_below h1).trans hf
  have hlt := h.sp.lt
  have h1s := h1.size
  have hts := h.ft.size
  refine ⟨hq, h.sp.fr hf' h.dis, fun j hj hg => ?_, fun j hj => ?_, h.gE, h.ft.later hf' h.loc⟩
  · rcases hl j hj with h2 | h2
    · exact h.dis j h2 hg
    · have := (hlt j hg).1; omega
  · rcases hl j hj with h2 | h2
    · exact h.loc j h2
    · exact .inr (by omega)
theorem GInv.tail {wt wr : World} {E n c v : Nat} {A0 A : Option Addr} {q P : List Nat} {G : Nat → Prop} (h : GInv wt wr E A0 A n c (v :: q) P G) : GInv wt wr E A0 (sufA A c 1) (n - 1) (c - 1) q P G :=
  ⟨h.que.tail, h.sp, fun j hj => h.dis j (qB_suf hj), fun j hj => h.loc j (qB_suf hj), h.gE, h.ft⟩
theorem GInv.table {wt wr : World} {E n c t n1 : Nat} {A0 A : Option Addr} {q P : List Nat} {G : Nat → Prop} {DS : Value} {M : Nat → Nat → Nat} (h : GInv wt wr E A0 A n c q P G) (ht : TabR wt t n1 DS M) (h0 : ∀ j, qB A0 j → j < t) : TabR wr t n1 DS M := ht.frG h.ft h0
theorem GInv.deb {wt wr : World} {E n c : Nat} {A0 A : Option Addr} {q P : List Nat} {G : Nat → Prop} (h : GInv wt wr E A0 A n c q P G) (hT : Deb wt) (h0 : ∀ j, qB A0 j → 1 ≤ j) : Deb wr := hT.belowB (h.ft.below (B := 1) hT.pos h0) (Nat.le_refl _)
theorem addB_len {P : List Nat} {v : Nat} (h : red lowB P v ≠ 0) : (addB P v).length = P.length + 1 := by
  unfold addB
  rw [if_neg h]
  simp
theorem addB_same {P : List Nat} {v : Nat} (h : red lowB P v = 0) : addB P v = P := by
  unfold addB
  rw [if_pos h]
theorem red_sorted {P S : List Nat} (h : GoodB P) (hp : S.Perm P) (hs : S.Pairwise fun a b => ¬ lowB b < lowB a) : RedS S ∧ ∀ t, Sp S t ↔ Sp P t := by
  refine h.sorted (fun x => hp.mem_iff) ?_
  have h1 : P.Pairwise fun a b => lowB a ≠ lowB b := List.Pairwise.imp_of_mem (fun {a b} ha hb hab e => by
    have := (lowB_bit (h.pos b hb)).1
    rw [← e] at this
    exact Bool.noConfusion (this.symm.trans hab.1)) h.apart
  have h2 : S.Pairwise fun a b => lowB a ≠ lowB b := (hp.pairwise_iff (fun {a b} (e : lowB a ≠ lowB b) => e.symm)).2 h1
  exact hs.imp₂ (fun a b h3 h4 => by omega) h2
theorem run_sufQ1 (A : Option Addr) (n c : Nat) (hn : 1 ≤ n) (W : World) : (Instr.sliceAt 22 (.slice A n c) (some (.int .i64 1)) Option.none Option.none).run Tryz.prog W = .ok (.slice (sufA A c 1) (n - 1) (c - 1)) W := by
  have h : (1 : Int) ≤ (n : Int) := by omega
  simp only [sufA]
  cases A with
  | none => simp [go_sem, Tryz.underlying22, h, sliced]
  | some ad =>
    by_cases hc : c = 1
    · simp [go_sem, Tryz.underlying22, h, sliced, hc]
    · simp [go_sem, Tryz.underlying22, h, sliced, hc]
--W
set_option maxRecDepth 100000 in
set_option maxHeartbeats 8000000 in
theorem generated_any (A1 A2 A0 : Option Addr) (n1 c1 n2 c2 n0 c0 B0 : Nat) (ds : List Int) (act : List (List Int)) (M : List Nat) (w : World) (h : RdMod w A1 n1 c1 ds A2 n2 c2 act) (ht : TabF ds act) (hn2 : n2 ≤ 2000000)
    (hq : OwnS w B0 A0 n0 c0 (intsN M)) (hB : 1 ≤ B0) (hM : ∀ m ∈ M, m < 65536) (hn0 : n0 ≤ 1000) (hT : Deb w) :
    Calls Tryz.prog 45 #[.agg #[.slice A1 n1 c1, .slice A2 n2 c2], .slice A0 n0 c0] w (RetGen (fun j x => sqF (act.map toT) n1 j x) M A0 w) := by
  obtain ⟨w0, b, hw0, hbe, hb0, hz0, hF⟩ := start1 w (.slice A1 n1 c1) (.slice A2 n2 c2) 27
  have hl1 : ds.length = n1 := h.ds.len
  have C0 := Lib.hid (tableOf_lo A1 A2 n1 c1 n2 c2 ds act w0 (h.below hb0) ht hn2)
  have hlin := sqF_lin (act.map toT) n1
  have HLIN := Lib.hid hlin
  have hflt : ∀ k v, sqF (act.map toT) n1 k v < 65536 := by subst hl1; exact fun k v => sqF_lt ht.tri k v
  have HFL := Lib.hid hflt
  have HMR := Lib.hid (show ∀ k i, i < n1 → rowF (act.map toT) k i < 65536 from fun k i hi => ht.tri.row_lt (by rw [hl1]; exact hi))
  have hn16 : n1 ≤ 16 := by rw [← hl1]; exact ht.len
  have HSQ := Lib.hid (show ∀ k v, xorN n1 (pickF v (rowF (act.map toT) k)) = sqF (act.map toT) n1 k v from fun k v => rfl)
  obtain ⟨f, hf⟩ : ∃ f : Nat → Nat → Nat, f = fun j x => sqF (act.map toT) n1 j x := ⟨_, rfl⟩
  rw [← hf] at HLIN ⊢
  have HSF := Lib.hid (show ∀ k v, sqF (act.map toT) n1 k v = f k v from fun k v => by rw [hf])
  obtain ⟨X, hX⟩ : ∃ X, X = RetGen f M A0 w := ⟨_, rfl⟩
  have HX := Lib.hid hX
  rw [← hX]
  have F0 := Lib.hid hF
  have Hw := Lib.hid hw0
  have Hbe := Lib.hid hbe
  have Bw0 := Lib.hid hb0
  have HT0 := Lib.hid (hT.below hb0)
  have HQ0 := Lib.hid (Que.of_own (hq.below hb0))
  have HA0 := Lib.hid (show ∀ j, qB A0 j → 1 ≤ j ∧ j < w.heap.size from fun j ⟨ad, e, hj⟩ => by have := hq.lt e; omega)
  have HM := Lib.hid hM
  have k0 := hF.at_ (b := b) (o := 0) (V := .slice A1 n1 c1) (by simp)
  have k1 := hF.at_ (b := b) (o := 1) (V := .slice A2 n2 c2) (by simp)
  clear h ht hlin hflt hl1 hf hX hq hB hM hT hF hw0 hbe hb0 hz0
  go_enter Tryz.func45, Tryz.ntmps45
  go_wp2_with fail
  rw [← Hw.out, ← Hbe.out]
  refine C0.out.mono ?_
  rintro e w1 ⟨t, rfl, htab, hb1, hlo⟩
  have T1 := Lib.hid htab
  have B1 := Lib.hid hb1
  have HLO := Lib.hid (show w.heap.size ≤ t from Nat.le_trans Bw0.out.size hlo)
  obtain ⟨E, hE⟩ : ∃ E, E = w1.heap.size := ⟨_, rfl⟩
  have HE := Lib.hid hE
  obtain ⟨w2, hw2⟩ : ∃ w2, w2 = w1.alloc (.cells #[.slice none 0 0, .slice none 0 0] 99) := ⟨_, rfl⟩
  have HW2 := Lib.hid hw2
  have HA1 := Lib.hid (show ∀ j, qB A0 j → j < t from fun j hj => Nat.lt_of_lt_of_le (HA0.out j hj).2 HLO.out)
  have FW1 := Lib.hid (show FrG (qB A0) w w1 from (FrG.of_below Bw0.out).trans (FrG.of_below hb1))
  have I0 := Lib.hid (show GInv w1 w2 E A0 A0 n0 c0 M [] (fun j => j = E) from by
    have b2 : Below w1.heap.size w1 w2 := by rw [hw2]; exact (Below.refl _ _).alloc (Nat.le_refl _) _
    refine ⟨(HQ0.out.below hb1).below b2, by rw [hw2]; exact SpG.start E hE, fun j hj e => ?_, fun j hj => .inl hj, fun j e => by omega, FrG.of_below b2⟩
    have h1 := (HA0.out j hj).2
    have h2 := FW1.out.size
    omega)
  have DT1 := Lib.hid (HT0.out.below hb1)
  have hE1 : 1 ≤ E := by have := DT1.out.pos; omega
  have HG0 := Lib.hid (GenI.start (N := 20) (M := M) HLIN.out)
  clear htab hb1 hlo k0 k1 hE hw2
  go_wp2_with fail
  rw [← HE.out, ← HW2.out]
  go_loopw [1] (fun v wr => ∃ (A : Option Addr) (n c : Nat) (q P : List Nat) (G : Nat → Prop), v = .slice A n c ∧ Hid (GInv w1 wr E A0 A n c q P G) ∧ Hid (GenI f 20 M P q) ∧ Hid (∀ r ∈ P, r < 65536) ∧ Hid (∀ r ∈ q, r < 65536) ∧ Hid (n + 21 * (17 - P.length) ≤ n0 + 357)) (fun v wr => 21 * (17 - lenAt wr E) + lenV v)
  case atStart => exact ⟨A0, n0, c0, M, [], _, rfl, I0, HG0, Lib.hid (by intro r hr; cases hr), HM, Lib.hid (by simp)⟩
  case round =>
    obtain ⟨A, n, c, q, P, G, rfl, HI, HG, HPw, HQw, HN⟩ := hrel
    have hql : q.length = n := by have := HI.out.que.len; simpa [intsN] using this
    have HLA := Lib.hid HI.out.sp.lenAt
    by_cases hn : n = 0
    · have hqn : q = [] := List.eq_nil_of_length_eq_zero (by omega)
      have DT := Lib.hid (HI.out.deb DT1.out (fun j hj => (HA0.out j hj).1))
      have hpl : P.length ≤ 1000 := by have := HG.out.good.len (n := 16) HPw.out; omega
      have C2 := Lib.hid (reduced_any E G P wr HI.out.sp (fun r hr => ⟨HG.out.good.pos r hr, HPw.out r hr⟩) hpl DT.out)
      have HFIN := Lib.hid (show ∀ S n' A' c' w', S.Perm P → (S.Pairwise fun a b => ¬ lowB b < lowB a) → OwnS w' wr.heap.size A' n' c' (intsN S) → Below wr.heap.size wr w' → X (.returned (.slice A' n' c')) w' from fun S n' A' c' w' hp hs ho hb => by
        obtain ⟨h1, h2⟩ := red_sorted HG.out.good hp hs
        have hG := HG.out
        rw [hqn] at hG
        rw [HX.out]
        have hs1 := (FW1.out.trans HI.out.ft)
        exact ⟨S, n', A', c', rfl, h1, fun t => (h2 t).trans (hG.done t), fun r hr => HPw.out r (hp.mem_iff.1 hr), ho.mono hs1.size, hs1.trans (FrG.of_below hb)⟩)
      clear hql hqn
      subst hn
      go_wp2_with fail
      refine C2.out.mono ?_
      rintro e w3 ⟨S, n', A', c', rfl, hp, hs, ho, hb⟩
      have HR := Lib.hid (HFIN.out S n' A' c' w3 hp hs ho hb)
      clear hp hs ho hb
      go_wp2_with fail
      exact HR.out
    · obtain ⟨v, q', rfl⟩ : ∃ v q', q = v :: q' := by
        cases q with
        | nil => simp at hql; omega
        | cons v q' => exact ⟨v, q', rfl⟩
      have hvw : v < 65536 := HQw.out v (by simp)
      obtain ⟨ad, x, rfl, hbk, hx, hc⟩ := HI.out.que.rd.at_ (k := 0) (by omega)
      obtain rfl : x = (v : Int) := by
        have := hx.out
        simpa [intsN] using this.symm
      have hs1 := fun W : World => run_sufQ1 (some ad) n c (by omega) W
      have hpl : P.length ≤ 16 := HG.out.good.len (n := 16) HPw.out
      have hn0' : n ≤ 2000 := by have := HN.out; omega
      have DT := Lib.hid (HI.out.deb DT1.out (fun j hj => (HA0.out j hj).1))
      have C2 := Lib.hid (add_any E v G P wr HI.out.sp (fun r hr => ⟨HG.out.good.pos r hr, HPw.out r hr⟩) hvw (by omega) DT.out hE1)
      obtain ⟨A3, hA3⟩ : ∃ A3, A3 = sufA (some ad) c 1 := ⟨_, rfl⟩
      have I1 := Lib.hid HI.out.tail
      rw [← hA3] at hs1 I1
      have hc0 : wr.cell? ⟨ad.block, ad.off, ad.spot⟩ = some (.int .i64 (v : Nat)) := by simpa [Addr.add] using hc
      clear hx hA3
      go_wp2_with fail
      refine C2.out.mono ?_
      rintro e w3 ⟨rfl, hs3, hf3⟩
      have I2 := Lib.hid (I1.out.add hs3 hf3)
      clear hs3 hf3
      by_cases hr0 : red lowB P v = 0
      · have hdec : decide (red lowB P v ≠ 0) = false := by simp [hr0]
        have HG3 := Lib.hid (HG.out.skip hr0)
        have I3 := Lib.hid (show GInv w1 w3 E A0 A3 (n - 1) (c - 1) q' P (Gw G wr w3) from by have := I2.out; rw [addB_same hr0] at this; exact this)
        have HLA3 := Lib.hid I3.out.sp.lenAt
        have HQ3 := Lib.hid (show ∀ r ∈ q', r < 65536 from fun r hr => HQw.out r (List.mem_cons_of_mem _ hr))
        have HN3 := Lib.hid (show n - 1 + 21 * (17 - P.length) ≤ n0 + 357 from by have := HN.out; omega)
        clear hr0
        rw [hdec]
        go_wp2_with fail
        go_roundw
        case rel => exact ⟨A3, n - 1, c - 1, q', P, _, rfl, I3, HG3, HPw, HQ3, HN3⟩
        case measure => rw [HLA3.out, HLA.out]; simp only [lenV]; omega
      · have hdec : decide (red lowB P v ≠ 0) = true := by simp [hr0]
        have HG3 := Lib.hid (HG.out.take HLIN.out hr0)
        have HPL := Lib.hid (addB_len hr0)
        have HPW2 := Lib.hid (GoodB.lt HPw.out hvw)
        have hpl2 := Lib.hid (HG3.out.good.len (n := 16) HPW2.out)
        obtain ⟨P', hP'⟩ : ∃ P', P' = addB P v := ⟨_, rfl⟩
        rw [← hP'] at I2 HG3 HPL HPW2 hpl2
        have HQ3 := Lib.hid (show ∀ r ∈ q', r < 65536 from fun r hr => HQw.out r (List.mem_cons_of_mem _ hr))
        have hql' : q'.length = n - 1 := by simp only [List.length_cons] at hql; omega
        obtain ⟨G3, hG3⟩ : ∃ G3, G3 = Gw G wr w3 := ⟨_, rfl⟩
        rw [← hG3] at I2
        clear hr0 hP' hG3
        rw [hdec]
        go_wp2_with fail
        go_loopw [1, 10] (fun z i wi => ∃ (A : Option Addr) (m c : Nat) (k : Nat), k ≤ 20 ∧ i = .int .i64 ((k : Int) + 1) ∧ z = .slice A m c ∧ m = n - 1 + k ∧ Hid (GInv w1 wi E A0 A m c (q' ++ (List.range k).map fun i => f (i + 1) v) P' G3)) (fun _ i _ => 21 - (intOf i).toNat)
        case atStart => exact ⟨A3, n - 1, c - 1, 0, by omega, rfl, rfl, by omega, by simpa using I2⟩
        case round =>
          obtain ⟨A4, m, c4, k, hk, rfl, rfl, hm, HI4⟩ := hrel
          by_cases hlt : k < 20
          · have hk20 : ((k : Int) + 1) ≤ 20 := by omega
            have HM5 := Lib.hid hm
            have hm2 : m ≤ 3000 := by omega
            clear hm
            have T4 := Lib.hid (HI4.out.table T1.out HA1.out)
            have C3 : Calls Tryz.prog 67 #[.pointer (some ⟨t, 0, none⟩), .int .i64 ((k + 1 : Nat) : Int), .int .i64 (v : Nat)] wr (RetI (f (k + 1) v : Nat) wr) := by
              have := tsquare_any t n1 (k + 1) v _ _ wr T4.out HMR.out (by omega) hvw hn16
              rw [HSQ.out, HSF.out] at this
              exact this
            rw [Int.natCast_add, Int.natCast_one] at C3
            have HC3 := Lib.hid C3
            obtain ⟨y, hy⟩ : ∃ y, y = f (k + 1) v := ⟨_, rfl⟩
            rw [← hy] at HC3
            have HY := Lib.hid hy
            have Bd := Lib.hid (below_dr (below_al (Below.refl wr.heap.size wr) (Nat.le_refl _) (.cells #[.int .i64 (y : Nat)] 2)))
            have Bd0 := Lib.hid (below_al (Below.refl wr.heap.size wr) (Nat.le_refl _) (.cells #[.int .i64 (y : Nat)] 2))
            have QB := Lib.hid (HI4.out.que.below Bd0.out)
            have kc : (wr.alloc (.cells #[.int .i64 (y : Nat)] 2)).cell? (Addr.add ⟨wr.heap.size, 0, none⟩ 0) = some (.int .i64 (y : Nat)) := by simp [Addr.add]
            have hw1 : IntKind.i64.wrap ((k : Int) + 1 + 1) = (((k + 1 : Nat) : Int) + 1) := by rw [IntKind.wrap_i64]; omega
            clear C3 hy
            go_wp2_with (first
              | (go_at_call 67
                 refine HC3.out.mono ?_
                 rintro e w5 ⟨rfl, rfl⟩)
              | (at_builtin
                 refine wpList_que rfl (.tmp 35) (.tmp 40) rfl rfl rfl QB.out kc (by omega) ?_
                 intro A5 c5 w6 hq6 hf6 hl6
                 have I6 := Lib.hid (show GInv w1 w6 E A0 A5 (m + 1) c5 (q' ++ (List.range (k + 1)).map fun i => f (i + 1) v) P' G3 from HI4.out.push Bd0.out (by
                   have e : intsN (q' ++ (List.range (k + 1)).map fun i => f (i + 1) v) = intsN (q' ++ (List.range k).map fun i => f (i + 1) v) ++ [(y : Int)] := by
                     rw [HY.out, List.range_succ, List.map_append]
                     simp [intsN]
                   rw [e]
                   exact hq6) hf6 hl6)
                 clear hq6 hf6 hl6))
            go_roundw
            case rel => exact ⟨A5, m + 1, c5, k + 1, by omega, by simp, rfl, by have := HM5.out; omega, I6⟩
            case measure => simp [intOf]; omega
          · obtain rfl : k = 20 := by omega
            have HM5 := Lib.hid hm
            clear hm
            have HLA3 := Lib.hid HI4.out.sp.lenAt
            have HQ4 := Lib.hid (show ∀ r ∈ q' ++ (List.range 20).map fun i => f (i + 1) v, r < 65536 from fun r hr => by
              rcases List.mem_append.1 hr with hr | hr
              · exact HQ3.out r hr
              · obtain ⟨i, _, rfl⟩ := List.mem_map.1 hr
                rw [← HSF.out]; exact HFL.out _ _)
            have HN4 := Lib.hid (show m + 21 * (17 - P'.length) ≤ n0 + 357 from by have := HN.out; have := HPL.out; have := HM5.out; omega)
            go_wp2_with fail
            go_roundw
            case rel => exact ⟨A4, m, c4, _, P', _, rfl, HI4, HG3, HPW2, HQ4, HN4⟩
            case measure => rw [HLA3.out, HLA.out]; simp only [lenV]; have := HPL.out; have := hpl2.out; have := HM5.out; omega
end Go.Proofs.YtejojliljplcdaaGreatDoor
