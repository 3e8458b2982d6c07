/- hits.mask, hits.normal. -/
import Derived.Test.YtoodhbafleemjaaGreatWide
import Derived.Test.YtoodhbafleemjaaGreatSrch
import Derived.Test.YtoodhbafleemjaaGreatTri
import Derived.Test.YtoodhbafleemjaaGreatHitS
import Derived.Test.YtoodhbafleemjaaGreatMapR
namespace Go.Proofs.YtoodhbafleemjaaGreat
open Go.RowKit
set_option linter.unusedVariables false

/-- what is known of the hits behind a pointer: the monomials and the rows by places -/
structure Hits (w : World) (H mb s : Nat) (A : Option Addr) (n c : Nat) (M : Pol) (f : Nat → Option Nat) : Prop where
  c0 : w.cell? ⟨H, 0, none⟩ = some (.slice A n c)
  c1 : w.cell? ⟨H, 1, none⟩ = some (.map (some mb))
  lt : H < w.heap.size
  rd : RdL w w.heap.size A n c M
  map : OwnW w mb s f
theorem Hits.below {w w' : World} {H mb s n c : Nat} {A : Option Addr} {M : Pol} {f : Nat → Option Nat} (h : Hits w H mb s A n c M f) (hb : Below w.heap.size w w') : Hits w' H mb s A n c M f :=
  ⟨(hb.cell (p := ⟨H, 0, none⟩) h.lt).trans h.c0, (hb.cell (p := ⟨H, 1, none⟩) h.lt).trans h.c1, Nat.lt_of_lt_of_le h.lt hb.size, rdL_stay h.rd hb, h.map.below hb⟩
theorem pow128 : (2 : Nat) ^ 128 = 340282366920938463463374607431768211456 := by decide
theorem mask128 {M t : Pol} {v : Nat} (h : IsMask M t v) (hM : M.length ≤ 100) : v < 2 ^ 128 := Nat.lt_of_lt_of_le (mask_lt h) (Nat.pow_le_pow_right (by decide) (by omega))
set_option maxRecDepth 100000 in
theorem mask_any (H mb s nm cm n c : Nat) (Am A : Option Addr) (M t : Pol) (f : Nat → Option Nat) (w : World) (h : Hits w H mb s Am nm cm M f) (hr : RdL w w.heap.size A n c t) (hM : Small M) (hA : Asc M) (h100 : M.length ≤ 100) (ht : Within M t) :
    Calls Tryz.prog 96 #[.pointer (some ⟨H, 0, none⟩), .slice A n c] w (RetWd (maskF M t) w) := by
  obtain ⟨w0, b, hw0, hbe, hb0, hz0, hF⟩ := start22 w (.int .u64 0) (.int .u64 0) (.int .u64 0) (.int .u64 0) 104 104
  have HH := Lib.hid h
  have HR := Lib.hid hr
  have HM := Lib.hid hM
  have HA := Lib.hid hA
  have HTW := Lib.hid ht
  have HTl := Lib.hid hr.len
  have HML := Lib.hid h.rd.len
  have hn100 : n ≤ 100 := by rw [← hr.len]; exact Nat.le_trans (asc_le ht.asc ht.sub) h100
  have hnm100 : nm ≤ 100 := by rw [← h.rd.len]; exact h100
  have H100 := Lib.hid h100
  have Hw := Lib.hid hw0
  have Hbe := Lib.hid hbe
  have Hb0 := Lib.hid hb0
  have F0 := Lib.hid hF
  have HZ := Lib.hid hz0
  obtain ⟨m, hm⟩ : ∃ m, m = maskF M t := ⟨_, rfl⟩
  rw [← hm]
  have Hm := Lib.hid hm
  have C0 := Lib.hid (show Cells (maskC (b + 1) 0) w0 from hF.sub (by intro x hx; simp [loN, hiN] at hx ⊢; rcases hx with rfl | rfl <;> simp))
  clear h hr hM hA ht h100 hw0 hbe hb0 hz0 hF hm
  go_enter Tryz.func96, Tryz.ntmps96
  go_wp2_with fail
  rw [← Hw.out, ← Hbe.out]
  go_loopw [13] (fun i wr => ∃ k v : Nat, k ≤ n ∧ i = .int .i64 k ∧ Hid (IsMask M (t.take k) v) ∧ Hid (Cells (maskC (b + 1) v) wr) ∧ Hid (Below (b + 1) w0 wr) ∧ Hid (wr.heap.size = w0.heap.size)) (fun i _ => n - (intOf i).toNat)
  case atStart => exact ⟨0, 0, Nat.zero_le _, rfl, Lib.hid (by rw [List.take_zero]; exact IsMask.nil), C0, Lib.hid (Below.refl _ _), Lib.hid rfl⟩
  case round =>
    obtain ⟨k, v, hk, rfl, HV, HC, HB, HS⟩ := hrel
    have hbw : w.heap.size ≤ b + 1 := by have := Hbe.out; omega
    have HBw := Lib.hid (Hb0.out.trans (HB.out.mono hbw))
    by_cases hlt : k < n
    · obtain ⟨ad, A3, n3, c3, x, rfl, _, hx, hcx, hr3⟩ := (rdL_stay HR.out HBw.out).at_ hlt
      have hxM := HTW.out.sub x (List.mem_of_getElem? hx.out)
      have hn3 : n3 ≤ 8 := by rw [← hr3.len]; exact HM.out.each x hxM
      obtain ⟨p, hp⟩ := List.mem_iff_getElem?.1 hxM
      have hp100 : p < 100 := by have := (List.getElem?_eq_some_iff.1 hp).1; have := H100.out; omega
      have HHr := Lib.hid (HH.out.below HBw.out)
      have k0 := HHr.out.c0
      have C1 := Lib.hid (search_any Am A3 nm cm n3 c3 _ _ p M x wr HHr.out.rd hr3 HA.out hp (by omega) (by omega) (fun y hy => Nat.le_trans (HM.out.each y hy) (by omega)))
      have C2 := fun q : Nat => Lib.hid (flip_any (b + 1) v p (wr.drewN q) (HC.out.drewN q) (mask128 HV.out H100.out) (by omega))
      have HV2 := Lib.hid (HV.out.step HA.out HTW.out.asc hx.out hp)
      clear hr3 hxM hp
      go_wp2_with fail
      refine C1.out.mono ?_
      rintro e w1 ⟨rfl, q, rfl⟩
      go_wp2_with fail
      refine (C2 q).out.mono ?_
      rintro e w2 ⟨rfl, hc2, hb2, hs2⟩
      have HC2 := Lib.hid hc2
      have HB2 := Lib.hid ((below_drewN HB.out q).trans hb2)
      have HS2 := Lib.hid (show w2.heap.size = w0.heap.size from hs2.trans HS.out)
      clear hc2 hb2 hs2
      go_wp2_with fail
      go_roundw
      case rel => exact ⟨k + 1, _, by omega, by go_num, HV2, HC2, HB2, HS2⟩
      case measure => simp [intOf]; omega
    · have HKN := Lib.hid (show k = n by omega)
      have k0 := HC.out.at_ (b := b + 1) (o := 0) (V := .int .u64 (loN v : Nat)) (by simp)
      have k1 := HC.out.at_ (b := b + 1) (o := 1) (V := .int .u64 (hiN v : Nat)) (by simp)
      have CR := Lib.hid ((F0.out.sub (M := [(b, 0, .int .u64 0), (b, 1, .int .u64 0)]) (by intro x hx; simp at hx ⊢; rcases hx with rfl | rfl <;> simp)).belowB HB.out (by intro x hx; simp at hx; rcases hx with rfl | rfl <;> simp))
      have q0 := CR.out.at_ (b := b) (o := 0) (V := .int .u64 0) (by simp)
      have q1 := CR.out.at_ (b := b) (o := 1) (V := .int .u64 0) (by simp)
      have f0 := CR.out.fr (b := b) (o := 0) (V := .int .u64 0) (by simp)
      have f1 := CR.out.fr (b := b) (o := 1) (V := .int .u64 0) (by simp)
      have hres := cells_end q0 q1 (.int .u64 (loN v : Nat)) (.int .u64 (hiN v : Nat))
      have HVm := Lib.hid (show m = v from by
        rw [Hm.out]
        apply maskF_eq
        have := HV.out
        rwa [HKN.out, List.take_of_length_le (by rw [HTl.out]; exact Nat.le_refl _)] at this)
      clear HKN
      go_wp2_with fail
      refine bodyPost_ret (v := .agg #[.int .u64 (loN v : Nat), .int .u64 (hiN v : Nat)]) (by simp [results, Tryz.results96, go_sem, hres.1, hres.2]) rfl ?_
      exact ⟨by rw [HVm.out]; rfl, (HBw.out.setCell (p := ⟨b, 0, none⟩) (by rw [Hbe.out]; exact Nat.le_refl _) _).setCell (p := ⟨b, 1, none⟩) (by rw [Hbe.out]; exact Nat.le_refl _) _⟩
theorem Cells.set2 {L : List (Nat × Nat × Value)} {w : World} {b : Nat} {U0 U1 : Value} (h : Cells ((b, 0, U0) :: (b, 1, U1) :: L) w) (hn : ∀ x ∈ L, x.1 ≠ b) (V0 V1 : Value) : Cells ((b, 0, V0) :: (b, 1, V1) :: L) ((w.setCell ⟨b, 0, none⟩ V0).setCell ⟨b, 1, none⟩ V1) := by
  have h1 := h.set (fun x hx => by
    rcases List.mem_cons.1 hx with rfl | hx
    · simp
    · exact fun e => hn x hx e.1) V0
  have h2 := h1.sub (M := (b, 1, U1) :: (b, 0, V0) :: L) (fun x hx => by
    simp only [List.mem_cons] at hx ⊢
    rcases hx with h | h | h
    · exact .inr (.inl h)
    · exact .inl h
    · exact .inr (.inr h))
  have h3 := h2.set (fun x hx => by
    rcases List.mem_cons.1 hx with rfl | hx
    · simp
    · exact fun e => hn x hx e.1) V1
  exact h3.sub (fun x hx => by
    simp only [List.mem_cons] at hx ⊢
    rcases hx with h | h | h
    · exact .inr (.inl h)
    · exact .inl h
    · exact .inr (.inr h))
theorem wV_eq (v : Nat) : wV v = .agg #[.int .u64 (loN v : Nat), .int .u64 (hiN v : Nat)] := rfl
set_option maxRecDepth 100000 in
theorem normal_any (H mb s nm cm v : Nat) (Am : Option Addr) (M : Pol) (f : Nat → Option Nat) (w : World) (h : Hits w H mb s Am nm cm M f) (h100 : nm ≤ 100) (hv : v < 2 ^ 128) (hf : ∀ i r, f i = some r → r < 2 ^ 128) :
    Calls Tryz.prog 95 #[.pointer (some ⟨H, 0, none⟩), wV v] w (RetWd (normI f nm v) w) := by
  rw [wV_eq]
  obtain ⟨w0, b, hw0, hbe, hb0, hz0, hF⟩ := start22 w (.int .u64 (loN v : Nat)) (.int .u64 (hiN v : Nat)) (.int .u64 0) (.int .u64 0) 104 104
  have HH := Lib.hid h
  have HFf := Lib.hid hf
  have HV0 := Lib.hid hv
  have Hw := Lib.hid hw0
  have Hbe := Lib.hid hbe
  have Hb0 := Lib.hid hb0
  have F0 := Lib.hid (show Cells [(b, 0, .int .u64 (loN v : Nat)), (b, 1, .int .u64 (hiN v : Nat)), (b + 1, 0, .int .u64 0), (b + 1, 1, .int .u64 0)] w0 from hF.sub (by intro x hx; simp at hx ⊢; rcases hx with rfl | rfl | rfl | rfl <;> simp))
  obtain ⟨N, hN⟩ : ∃ N, N = normI f nm v := ⟨_, rfl⟩
  rw [← hN]
  have HN := Lib.hid hN
  have HH0 := Lib.hid (h.below hb0)
  have k00 := HH0.out.c0
  rw [hw0] at k00
  have hwn : IntKind.i64.wrap ((nm : Int) - 1) = (nm : Int) - 1 := by rw [IntKind.wrap_i64]; omega
  clear h hf hw0 hbe hb0 hz0 hF hN hv
  go_enter Tryz.func95, Tryz.ntmps95
  go_wp2_with fail
  rw [← Hw.out, ← Hbe.out]
  go_loopw [5] (fun i wr => ∃ (k u : Nat) (z : Int), k ≤ nm ∧ z = (k : Int) - 1 ∧ i = .int .i64 z ∧ Hid (N = normI f k u) ∧ Hid (u < 2 ^ 128) ∧ Hid (Cells [(b, 0, .int .u64 (loN u : Nat)), (b, 1, .int .u64 (hiN u : Nat)), (b + 1, 0, .int .u64 0), (b + 1, 1, .int .u64 0)] wr) ∧ Hid (Below w.heap.size w wr)) (fun i _ => (intOf i + 1).toNat)
  case atStart => exact ⟨nm, v, _, Nat.le_refl _, rfl, rfl, HN, HV0, F0, Hb0⟩
  case round =>
    clear k00 hwn
    obtain ⟨k, u, z, hk, hz, rfl, HNk, HU, HC, HB⟩ := hrel
    have k0 := HC.out.at_ (b := b) (o := 0) (V := .int .u64 (loN u : Nat)) (by simp)
    have k1 := HC.out.at_ (b := b) (o := 1) (V := .int .u64 (hiN u : Nat)) (by simp)
    by_cases hk0 : k = 0
    · have HVm := Lib.hid (show N = u from by rw [HNk.out, hk0]; rfl)
      have hzn : z = -1 := by omega
      clear hz hk hk0
      subst hzn
      have q0 := HC.out.at_ (b := b + 1) (o := 0) (V := .int .u64 0) (by simp)
      have q1 := HC.out.at_ (b := b + 1) (o := 1) (V := .int .u64 0) (by simp)
      have f0 := HC.out.fr (b := b + 1) (o := 0) (V := .int .u64 0) (by simp)
      have f1 := HC.out.fr (b := b + 1) (o := 1) (V := .int .u64 0) (by simp)
      have hres := cells_end q0 q1 (.int .u64 (loN u : Nat)) (.int .u64 (hiN u : Nat))
      go_wp2_with fail
      refine bodyPost_ret (v := .agg #[.int .u64 (loN u : Nat), .int .u64 (hiN u : Nat)]) (by simp [results, Tryz.results95, go_sem, hres.1, hres.2]) rfl ?_
      exact ⟨by rw [HVm.out]; rfl, (HB.out.setCell (p := ⟨b + 1, 0, none⟩) (by rw [Hbe.out]; exact Nat.le_succ _) _).setCell (p := ⟨b + 1, 1, none⟩) (by rw [Hbe.out]; exact Nat.le_succ _) _⟩
    · obtain ⟨m, hm⟩ : ∃ m, k = m + 1 := ⟨k - 1, by omega⟩
      obtain rfl : z = (m : Int) := by omega
      have hm100 : m < 100 := by omega
      have hmn : m < nm := by omega
      have HNm := HNk.out
      rw [hm, normI] at HNm
      have HNm := Lib.hid HNm
      clear hz hm hk0 HNk
      have hwz : IntKind.i64.wrap ((m : Int) - 1) = (m : Int) - 1 := by rw [IntKind.wrap_i64]; omega
      have HHr := Lib.hid (HH.out.below HB.out)
      have c1 := HHr.out.c1
      have HMp := Lib.hid HHr.out.map
      have hbz : b < wr.heap.size := HC.out.lt (b, 0, _) (List.mem_cons_self ..)
      cases hfm : f m with
      | none =>
        have HF := Lib.hid hfm
        rw [hfm] at HNm
        have HNm := Lib.hid HNm.out
        clear hfm
        have HBa := Lib.hid (HB.out.alloc HB.out.size (.cells #[.int .u64 (loN 0 : Nat), .int .u64 (hiN 0 : Nat)] 104))
        have HCa := Lib.hid (HC.out.below ((Below.refl _ _).alloc (Nat.le_refl _) (.cells #[.int .u64 (loN 0 : Nat), .int .u64 (hiN 0 : Nat)] 104)))
        go_wp2_with (at_lookup; refine wpList_lookW _ rfl (.tmp 22) (.tmp 23) rfl Tryz.underlying97 rfl rfl HMp.out (by omega) ?_; rw [HF.out]; simp only [Option.getD_none, Option.isSome_none]; rw [wV_eq])
        go_roundw
        case rel => exact ⟨m, u, _, by omega, rfl, by go_num, HNm, HU, HCa, HBa⟩
        case measure => simp [intOf] <;> omega
      | some r =>
        have HF := Lib.hid hfm
        rw [hfm] at HNm
        have HNm := Lib.hid HNm.out
        have HRl := Lib.hid (HFf.out m r hfm)
        clear hfm
        obtain ⟨wa, hwa⟩ : ∃ wa, wa = wr.alloc (.cells #[.int .u64 (loN r : Nat), .int .u64 (hiN r : Nat)] 104) := ⟨_, rfl⟩
        have HBa := Lib.hid (show Below w.heap.size w wa from by rw [hwa]; exact HB.out.alloc HB.out.size _)
        have HCa := Lib.hid (show Cells _ wa from by rw [hwa]; exact HC.out.below ((Below.refl _ _).alloc (Nat.le_refl _) (.cells #[.int .u64 (loN r : Nat), .int .u64 (hiN r : Nat)] 104)))
        have HNa := Lib.hid (show Cells [(wr.heap.size, 0, .int .u64 (loN r : Nat)), (wr.heap.size, 1, .int .u64 (hiN r : Nat))] wa from by rw [hwa]; exact Cells.nil.alloc2 _ _ 104 rfl)
        have ka0 := HCa.out.at_ (b := b) (o := 0) (V := .int .u64 (loN u : Nat)) (by simp)
        have ka1 := HCa.out.at_ (b := b) (o := 1) (V := .int .u64 (hiN u : Nat)) (by simp)
        have C1 := Lib.hid (has_any u m wa HU.out (by omega))
        rw [wV_eq] at C1
        have C2 := fun W : World => Lib.hid (plusW_any u r W HU.out HRl.out)
        rw [wV_eq, wV_eq] at C2
        obtain ⟨t, ht⟩ : ∃ t, t = u.testBit m := ⟨_, rfl⟩
        rw [← ht] at C1
        have HT := Lib.hid ht
        clear ht k0 k1
        subst hwa
        cases t
        · have HNm := Lib.hid (show N = normI f m u from by have := HNm.out; simpa [← HT.out] using this)
          go_wp2_with (at_lookup; refine wpList_lookW _ rfl (.tmp 22) (.tmp 23) rfl Tryz.underlying97 rfl rfl HMp.out (by omega) ?_; rw [HF.out]; simp only [Option.getD_some, Option.isSome_some]; rw [wV_eq])
          refine C1.out.mono ?_
          rintro e w2 ⟨rfl, hb2⟩
          have HB2 := Lib.hid (HBa.out.trans (hb2.mono HBa.out.size))
          have HC2 := Lib.hid (HCa.out.below hb2)
          clear hb2
          go_wp2_with fail
          go_roundw
          case rel => exact ⟨m, u, _, by omega, rfl, by go_num, HNm, HU, HC2, HB2⟩
          case measure => simp [intOf] <;> omega
        · have HNm := Lib.hid (show N = normI f m (u ^^^ r) from by have := HNm.out; simpa [← HT.out] using this)
          go_wp2_with (at_lookup; refine wpList_lookW _ rfl (.tmp 22) (.tmp 23) rfl Tryz.underlying97 rfl rfl HMp.out (by omega) ?_; rw [HF.out]; simp only [Option.getD_some, Option.isSome_some]; rw [wV_eq])
          refine C1.out.mono ?_
          rintro e w2 ⟨rfl, hb2⟩
          have HB2 := Lib.hid (HBa.out.trans (hb2.mono HBa.out.size))
          have HC2 := Lib.hid (HCa.out.below hb2)
          have HN2 := Lib.hid (HNa.out.below hb2)
          clear hb2 ka0 ka1
          have ka0 := HC2.out.at_ (b := b) (o := 0) (V := .int .u64 (loN u : Nat)) (by simp)
          have ka1 := HC2.out.at_ (b := b) (o := 1) (V := .int .u64 (hiN u : Nat)) (by simp)
          have kn0 := HN2.out.at_ (b := wr.heap.size) (o := 0) (V := .int .u64 (loN r : Nat)) (by simp)
          have kn1 := HN2.out.at_ (b := wr.heap.size) (o := 1) (V := .int .u64 (hiN r : Nat)) (by simp)
          go_wp2_with fail
          refine (C2 w2).out.mono ?_
          rintro e w3 ⟨rfl, hb3⟩
          rw [wV_eq]
          have HB3 := Lib.hid (HB2.out.trans (hb3.mono HB2.out.size))
          have HC3 := Lib.hid (HC2.out.below hb3)
          clear hb3 ka0 ka1 kn0 kn1
          have kb0 := HC3.out.at_ (b := b) (o := 0) (V := .int .u64 (loN u : Nat)) (by simp)
          have kb1 := HC3.out.at_ (b := b) (o := 1) (V := .int .u64 (hiN u : Nat)) (by simp)
          have f0 := HC3.out.fr (b := b) (o := 0) (V := .int .u64 (loN u : Nat)) (by simp)
          have f1 := HC3.out.fr (b := b) (o := 1) (V := .int .u64 (hiN u : Nat)) (by simp)
          have HCe := Lib.hid (HC3.out.set2 (by intro x hx; simp at hx; rcases hx with rfl | rfl <;> simp) (.int .u64 (loN (u ^^^ r) : Nat)) (.int .u64 (hiN (u ^^^ r) : Nat)))
          have HBe := Lib.hid ((HB3.out.setCell (p := ⟨b, 0, none⟩) (by rw [Hbe.out]; exact Nat.le_refl _) (.int .u64 (loN (u ^^^ r) : Nat))).setCell (p := ⟨b, 1, none⟩) (by rw [Hbe.out]; exact Nat.le_refl _) (.int .u64 (hiN (u ^^^ r) : Nat)))
          have HUe := Lib.hid (Nat.xor_lt_two_pow HU.out HRl.out)
          go_wp2_with fail
          go_roundw
          case rel => exact ⟨m, u ^^^ r, _, by omega, rfl, by go_num, HNm, HUe, HCe, HBe⟩
          case measure => simp [intOf] <;> omega
end Go.Proofs.YtoodhbafleemjaaGreat

/- impl.hitsOf: the rows of hit polynomials of a degree. -/
namespace Go.Proofs.YtoodhbafleemjaaGreat
open Go.RowKit
set_option linter.unusedVariables false

/-- the hits behind a pointer of one's own, with some rows -/
structure HitSt (w0 w : World) (H mb : Nat) (A : Option Addr) (n c : Nat) (M : Pol) (rows : List Pol) : Prop where
  ex : ∃ s f, Hits w H mb s A n c M f ∧ RowsM M rows f ∧ (∀ i r, f i = some r → r < 2 ^ 128) ∧ s ≤ rows.length
  lo : w0.heap.size ≤ mb
  bel : Below w0.heap.size w0 w
  own : OwnL w w0.heap.size mb A n c M
theorem HitSt.below {w0 w w' : World} {H mb n c : Nat} {A : Option Addr} {M : Pol} {rows : List Pol} (h : HitSt w0 w H mb A n c M rows) (hb : Below w.heap.size w w') : HitSt w0 w' H mb A n c M rows := by
  obtain ⟨s, f, h1, h2⟩ := h.ex
  exact ⟨⟨s, f, h1.below hb, h2⟩, h.lo, h.bel.trans (hb.mono h.bel.size), h.own.below hb⟩
theorem OwnW.noCells {w : World} {b s : Nat} {f : Nat → Option Nat} (h : OwnW w b s f) : ∀ (cs : Array Value) (E : TypeId) (g : Nat × Nat), w.heap[b]? ≠ some (Obj.cells cs E g) := by
  obtain ⟨D, ⟨es, clock, hb, _⟩, _⟩ := h.map
  intro cs E g e
  rw [hb] at e; cases e
theorem Hits.put {w w' : World} {H mb s s' n c : Nat} {A : Option Addr} {M : Pol} {f f' : Nat → Option Nat} (h : Hits w H mb s A n c M f) (hg : w.grownBy w' (some mb)) (hs : w'.heap.size = w.heap.size) (hm : OwnW w' mb s' f') : Hits w' H mb s' A n c M f' := by
  have hk := KeptC.of_grown hg h.map.noCells
  exact ⟨hk.cell h.c0, hk.cell h.c1, by rw [hs]; exact h.lt, by rw [hs]; exact h.rd.keptC hk, hm⟩
def RetHi (k d : Nat) (w : World) (e : Ending) (w' : World) : Prop := ∃ H mb n c A, e = .returned (.tuple #[.pointer (some ⟨H, 0, none⟩), .int .i64 0]) ∧ HitSt w w' H mb A n c (mons k d) (hitR k d)
def RetHn (w : World) (e : Ending) (w' : World) : Prop := e = .returned (.tuple #[.pointer none, .int .i64 3]) ∧ Below w.heap.size w w'
theorem putR_len (x : Pol) : ∀ rows : List Pol, (putR x rows).length = rows.length + 1
  | [] => rfl
  | r :: rs => by
    rw [putR]
    split
    · rw [List.length_cons, putR_len x rs, List.length_cons]
    · rfl
set_option maxRecDepth 100000 in
theorem hitsNo_any (k d : Nat) (v dd : Int) (w : World) (hv : v = (k : Int) + 1) (hdd : dd = (d : Int)) (hk : k ≤ 3) (hd : d ≤ 40) (hM : 100 < (mons k d).length) :
    Calls Tryz.prog 94 #[.int .i64 v, .int .i64 dd] w (RetHn w) := by
  have C1 := Lib.hid (monomials_any k v dd d w hv hdd hk hd)
  obtain ⟨n, hn⟩ : ∃ n, n = (mons k d).length := ⟨_, rfl⟩
  rw [← hn] at C1 hM
  have hM2 : (100 : Int) < n := by omega
  have hmm : ∀ (t : TypeId) (W : World), (Instr.makeMap t none).run Tryz.prog W = .ok (.map (some W.heap.size)) (W.alloc (.map #[] 0)) := fun t W => run_makeMap t W
  clear hn hv hdd
  go_enter Tryz.func94, Tryz.ntmps94
  go_wp2_with fail
  refine C1.out.mono ?_
  rintro e w1 ⟨A, c, rfl, ho1, hb1⟩
  have B1 := Lib.hid hb1
  have B2 := Lib.hid ((hb1.alloc hb1.size (.map #[] 0)).alloc (Nat.le_trans hb1.size (by simp)) (.cells #[.slice A n c, .map (some w1.heap.size)] 99))
  clear ho1 hb1
  go_wp2_with fail
  refine bodyPost_ret (v := .tuple #[.pointer none, .int .i64 3]) (by simp [results, Tryz.results94, go_sem]) rfl ?_
  exact ⟨rfl, B2.out⟩
set_option maxRecDepth 100000 in
set_option maxHeartbeats 1000000 in
theorem hitsOf_any (k d : Nat) (v dd : Int) (w : World) (hv : v = (k : Int) + 1) (hdd : dd = (d : Int)) (hk : k ≤ 3) (hd : d ≤ 40) (hM : (mons k d).length ≤ 100) :
    Calls Tryz.prog 94 #[.int .i64 v, .int .i64 dd] w (RetHi k d w) := by
  have C1 := Lib.hid (monomials_any k v dd d w hv hdd hk hd)
  obtain ⟨M, hMe⟩ : ∃ M, M = mons k d := ⟨_, rfl⟩
  have HMe := Lib.hid hMe
  rw [← hMe] at C1 hM
  have HMS : Hid (Small M) := Lib.hid (by rw [hMe]; exact mons_small hk hd)
  have HMA : Hid (Asc M) := Lib.hid (by rw [hMe]; exact mons_asc k d)
  obtain ⟨n, hn⟩ : ∃ n, n = M.length := ⟨_, rfl⟩
  rw [← hn] at C1 hM
  have HN := Lib.hid hn
  have hM2 : ¬ (100 : Int) < n := by omega
  have hmm : ∀ (t : TypeId) (W : World), (Instr.makeMap t none).run Tryz.prog W = .ok (.map (some W.heap.size)) (W.alloc (.map #[] 0)) := fun t W => run_makeMap t W
  have Hv := Lib.hid hv
  have Hdd := Lib.hid hdd
  have hd40 : 0 ≤ dd ∧ dd ≤ 40 := by omega
  clear hn hMe hv hdd
  go_enter Tryz.func94, Tryz.ntmps94
  go_wp2_with fail
  refine C1.out.mono ?_
  rintro e w1 ⟨A, c, rfl, ho1, hb1⟩
  obtain ⟨w2, hw2⟩ : ∃ w2, w2 = (w1.alloc (.map #[] 0)).alloc (.cells #[.slice A n c, .map (some w1.heap.size)] 99) := ⟨_, rfl⟩
  have hb2 : Below w1.heap.size w1 w2 := by rw [hw2]; exact ((Below.refl _ _).alloc (Nat.le_refl _) _).alloc (by simp) _
  have hz2 : w2.heap.size = w1.heap.size + 1 + 1 := by rw [hw2]; simp
  have S2 := Lib.hid (show HitSt w w2 (w1.heap.size + 1) w1.heap.size A n c M [] from
    ⟨⟨0, fun _ => none, ⟨by rw [hw2]; exact new_at (by simp) rfl, by rw [hw2]; exact new_at (by simp) rfl, by omega, rdL_stay ho1.rd hb2, by rw [hw2]; exact (OwnW.new w1).below ((Below.refl _ _).alloc (Nat.le_refl _) _)⟩,
      ⟨fun i v h => (by cases h), fun r hr => (by cases hr)⟩, fun i r h => (by cases h), Nat.le_refl _⟩, hb1.size, hb1.trans (hb2.mono hb1.size), ho1.below hb2⟩)
  have HW2 := Lib.hid hw2
  obtain ⟨H, hH⟩ : ∃ H, H = w1.heap.size + 1 := ⟨_, rfl⟩
  obtain ⟨mb, hmb⟩ : ∃ mb, mb = w1.heap.size := ⟨_, rfl⟩
  rw [← hH, ← hmb] at S2
  have HHe := Lib.hid (show H = mb + 1 by omega)
  have Hmb := Lib.hid hmb
  clear hb2 hz2 hw2 hH hmb ho1 hb1
  go_wp2_with fail
  rw [← Hmb.out] at HW2 ⊢
  rw [← HHe.out]
  rw [← HW2.out]
  have S2' : Hid (HitSt w w2 H mb A n c M (rowsP (gensTo k d 0))) := S2
  clear S2
  go_loopw [7] (fun i wr => ∃ J P : Nat, i = .int .i64 P ∧ Hid (P = 2 ^ J) ∧ Hid (∀ j < J, 2 ^ j ≤ d) ∧ P ≤ 80 ∧ 1 ≤ P ∧ Hid (HitSt w wr H mb A n c M (rowsP (gensTo k d J)))) (fun i _ => 100 - (intOf i).toNat)
  case atStart => exact ⟨0, 1, rfl, Lib.hid rfl, Lib.hid (fun j hj => absurd hj (by omega)), by omega, by omega, S2'⟩
  case round =>
    clear S2'
    obtain ⟨J, P, rfl, HP, HJ, hP80, hP1, HS⟩ := hrel
    by_cases hle : (P : Int) ≤ dd
    · have hPd : P ≤ d := by have := Hdd.out; omega
      have HJ1 : Hid (∀ j < J + 1, 2 ^ j ≤ d) := Lib.hid (fun j hj => by
        rcases Nat.lt_succ_iff_lt_or_eq.1 hj with h | rfl
        · exact HJ.out j h
        · rw [← HP.out]; exact hPd)
      have hws : IntKind.i64.wrap (dd - (P : Int)) = dd - (P : Int) := by rw [IntKind.wrap_i64]; omega
      have hw2 : IntKind.i64.wrap ((P : Int) * 2) = ((2 * P : Nat) : Int) := by rw [IntKind.wrap_i64]; omega
      have CA := Lib.hid (monomials_any k v (dd - (P : Int)) (d - P) wr Hv.out (by have := Hdd.out; omega) hk (by omega))
      obtain ⟨L, hL⟩ : ∃ L, L = mons k (d - P) := ⟨_, rfl⟩
      rw [← hL] at CA
      have HL := Lib.hid hL
      have HLl := Lib.hid (show L.length ≤ 12341 by rw [hL]; exact mons_le hk (by omega))
      obtain ⟨nl, hnl⟩ : ∃ nl, nl = L.length := ⟨_, rfl⟩
      rw [← hnl] at CA HLl
      have HNL := Lib.hid hnl
      clear hL hnl
      go_wp2_with fail
      refine CA.out.mono ?_
      rintro e w3 ⟨AL, cl, rfl, ho3, hb3⟩
      have HS3 := Lib.hid (HS.out.below hb3)
      have HL3 := Lib.hid ho3.rd
      have hnl2 : nl ≤ 12341 := HLl.out
      clear ho3 hb3
      go_wp2_with fail
      go_loopw [34] (fun j wr => ∃ m : Nat, m ≤ nl ∧ j = .int .i64 m ∧ Hid (HitSt w wr H mb A n c M (rowsP (gensTo k d J ++ (sqG k d J).take m))) ∧ Hid (RdL wr wr.heap.size AL nl cl L)) (fun j _ => nl - (intOf j).toNat)
      case atStart => exact ⟨0, Nat.zero_le _, rfl, by rw [List.take_zero, List.append_nil]; exact HS3, HL3⟩
      case round =>
        clear HS3 HL3
        obtain ⟨m, hm, rfl, HS4, HL4⟩ := hrel
        obtain ⟨rows, hrows⟩ : ∃ r, r = rowsP (gensTo k d J ++ (sqG k d J).take m) := ⟨_, rfl⟩
        rw [← hrows] at HS4
        have HRO := Lib.hid hrows
        clear hrows
        have HG : Hid (Gens M (gensTo k d J ++ (sqG k d J).take m)) := Lib.hid (by rw [HMe.out]; exact gens_mid (k := k) (m := m) HJ1.out)
        by_cases hlt : m < nl
        · obtain ⟨adL, A3, n3, c3, x, rfl, hbx, hx, hcx, hr3⟩ := HL4.out.at_ hlt
          have hxm : x ∈ mons k (d - P) := by rw [← HL.out]; exact List.mem_of_getElem? hx.out
          have HXD := Lib.hid ((mons_mem k (d - P) x).1 hxm)
          have HXs := Lib.hid (show ∀ y ∈ [x], Deg (k + 1) ((d - P : Nat) : Int) y from fun y hy => by rw [List.mem_singleton.1 hy]; exact HXD.out)
          have D1 := Lib.hid (rdL_single hr3 (Nat.le_refl _))
          have hbs : Below wr.heap.size wr (wr.alloc (.cells #[.slice A3 n3 c3] 41)) := (Below.refl _ _).alloc (Nat.le_refl _) _
          have C1 := Lib.hid (square_any (some ⟨wr.heap.size, 0, none⟩) 1 1 (k + 1) ((d - P : Nat) : Int) (P : Int) [x] _ D1.out HXs.out (by omega) (by omega) (by omega) (by omega))
          obtain ⟨s, f, hh, hrm, hfb, hs⟩ := HS4.out.ex
          have HH := Lib.hid hh
          have HRM := Lib.hid hrm
          have HFB := Lib.hid hfb
          have HSs := Lib.hid hs
          have HMO := Lib.hid (show ∀ z ∈ sqP [x] (P : Int), Mono (k + 1) z from fun z hz => (sqP_deg HXs.out z hz).mono (by omega))
          obtain ⟨g, hg⟩ : ∃ g, g = oddL (sqP [x] (P : Int)) := ⟨_, rfl⟩
          have HGE := Lib.hid hg
          have HGS := Lib.hid (show (sqG k d J).take (m + 1) = (sqG k d J).take m ++ [g] by rw [hg, HP.out]; exact sqG_step (by rw [← HP.out, ← HL.out]; exact hx.out))
          have HGW : Hid (Within M g) := Lib.hid (by
            have h1 : Gens M (gensTo k d J ++ (sqG k d J).take (m + 1)) := by rw [HMe.out]; exact gens_mid (k := k) (m := m + 1) HJ1.out
            exact h1.all g (by rw [HGS.out]; simp))
          have HNX := Lib.hid (show rowsP (gensTo k d J ++ (sqG k d J).take (m + 1)) = (if redT rows g = [] then rows else putR (redT rows g) rows) by
            rw [HGS.out, ← List.append_assoc, rowsP_snoc, ← HRO.out]; rfl)
          have HLEN := Lib.hid (show (sqP [x] (P : Int)).length ≤ 100000000 from by
            have h1 := sqW_len x (P : Int) (by omega)
            rw [HXD.out.2.2] at h1
            have e64 : (64 : Nat) ^ 4 = 16777216 := by decide
            have h2 : (64 : Nat) ^ (k + 1) ≤ 16777216 := by rw [← e64]; exact Nat.pow_le_pow_right (by decide) (by omega)
            have e : sqP [x] (P : Int) = sqW x (P : Int) := by simp [sqP]
            rw [e]; omega)
          clear hg hxm hr3 hh hrm hfb hs
          go_wp2_with fail
          refine C1.out.mono ?_
          rintro e w4 ⟨p, rfl, hp4, op4, hb4⟩
          have HB4 := Lib.hid (hbs.trans (hb4.mono hbs.size))
          have C2 := Lib.hid (terms_of (k := k + 1) op4 HMO.out (by omega) HLEN.out)
          rw [show ((k + 1 : Nat) : Int) = v from by have := Hv.out; omega, ← HGE.out] at C2
          obtain ⟨gl, hgl⟩ : ∃ gl, gl = g.length := ⟨_, rfl⟩
          rw [← hgl] at C2
          clear hgl hp4 op4 hb4
          go_wp2_with fail
          refine C2.out.mono ?_
          rintro e w5 ⟨A5, c5, rfl, ho5, hb5⟩
          have HB5 := Lib.hid (HB4.out.trans (hb5.mono HB4.out.size))
          have HH5 := Lib.hid (HH.out.below HB5.out)
          have C3 := Lib.hid (mask_any H mb s n c gl c5 A A5 M g f w5 HH5.out ho5.rd HMS.out HMA.out (by rw [← HN.out]; exact hM) HGW.out)
          have HMK := Lib.hid (mask_of HMA.out HGW.out.asc HGW.out.sub)
          obtain ⟨y, hy⟩ : ∃ y, y = maskF M g := ⟨_, rfl⟩
          rw [← hy] at C3 HMK
          clear hy ho5 hb5
          go_wp2_with fail
          refine C3.out.mono ?_
          rintro e w6 ⟨rfl, hb6⟩
          have HB6 := Lib.hid (HB5.out.trans (hb6.mono HB5.out.size))
          have HH6 := Lib.hid (HH.out.below HB6.out)
          have C4 := Lib.hid (normal_any H mb s n c y A M f w6 HH6.out hM (mask128 HMK.out (by rw [← HN.out]; exact hM)) HFB.out)
          obtain ⟨u, hu⟩ : ∃ u, u = normI f n y := ⟨_, rfl⟩
          rw [← hu] at C4
          have HUM := Lib.hid (show IsMask M (redT rows g) u from by
            rw [hu, HN.out]
            refine HRM.out.norm HMA.out ?_ ?_ HGW.out.asc HMK.out
            · rw [HRO.out]; exact HG.out.ok
            · rw [HRO.out]; exact fun r hr => (HG.out.rows r hr).1.sub)
          have HU128 := Lib.hid (mask128 HUM.out (by rw [← HN.out]; exact hM))
          have HTW : Hid (Within M (redT rows g)) := Lib.hid (HGW.out.redT fun r hr => by rw [HRO.out] at hr; exact (HG.out.rows r hr).1)
          clear hu hb6
          go_wp2_with fail
          refine C4.out.mono ?_
          rintro e w7 ⟨rfl, hb7⟩
          rw [wV_eq]
          have HB7 := Lib.hid (HB6.out.trans (hb7.mono HB6.out.size))
          have hba : Below w7.heap.size w7 (w7.alloc (.cells #[.int .u64 (loN u : Nat), .int .u64 (hiN u : Nat)] 104)) := (Below.refl _ _).alloc (Nat.le_refl _) _
          have HB8 := Lib.hid (HB7.out.trans (hba.mono HB7.out.size))
          have HN8 := Lib.hid (Cells.nil.alloc2 (.int .u64 (loN u : Nat)) (.int .u64 (hiN u : Nat)) 104 (w := w7) rfl)
          have C5 := fun W : World => Lib.hid (topW_any u W HU128.out)
          rw [wV_eq] at C5
          clear hb7 hba
          by_cases hz : redT rows g = []
          · have hu0 : topI u = -1 := by
              have := (HUM.out.zero HTW.out.sub).2 hz
              rw [this]; rfl
            have HNX2 := HNX.out
            rw [if_pos hz] at HNX2
            have HNX2 := Lib.hid HNX2
            rw [hu0] at C5
            clear hz hu0
            go_wp2_with fail
            refine (C5 _).out.mono ?_
            rintro e w9 ⟨rfl, hb9⟩
            have HB9 := Lib.hid (HB8.out.trans (hb9.mono HB8.out.size))
            have HS9 : Hid (HitSt w w9 H mb A n c M (rowsP (gensTo k d J ++ (sqG k d J).take (m + 1)))) := Lib.hid (by rw [HNX2.out]; exact HS4.out.below HB9.out)
            have HL9 := Lib.hid (rdL_stay HL4.out HB9.out)
            clear hb9
            go_wp2_with fail
            go_roundw
            case rel => exact ⟨m + 1, by omega, by go_num, HS9, HL9⟩
            case measure => simp [intOf]; omega
          · have HNX2 := HNX.out
            rw [if_neg hz] at HNX2
            have HNX2 := Lib.hid HNX2
            have HTne := Lib.hid hz
            obtain ⟨i, hi⟩ := List.mem_iff_getElem?.1 (HTW.out.sub _ (lastL_mem hz))
            have hin : i < 100 := by have := (List.getElem?_eq_some_iff.1 hi).1; rw [← HN.out] at this; omega
            have HI := Lib.hid hi
            have hut : topI u = i := topI_mask HMA.out HUM.out HTW.out.asc hz hi
            rw [hut] at C5
            clear hz hut hi
            go_wp2_with fail
            refine (C5 _).out.mono ?_
            rintro e w9 ⟨rfl, hb9⟩
            have HB9 := Lib.hid (HB8.out.trans (hb9.mono HB8.out.size))
            have HN9 := Lib.hid (HN8.out.below hb9)
            have HH9 := Lib.hid (HH.out.below HB9.out)
            have HL9 := Lib.hid (rdL_stay HL4.out HB9.out)
            have Bd := Lib.hid (show Below w9.heap.size w9 w9.drew from below_drewN (Below.refl w9.heap.size w9) 1)
            have Nd := Lib.hid (show Cells [(w7.heap.size, 0, .int .u64 (loN u : Nat)), (w7.heap.size, 1, .int .u64 (hiN u : Nat))] w9.drew from HN9.out.drewN 1)
            have kd1 := (HH9.out.below Bd.out).c1
            have kt0 := Nd.out.at_ (b := w7.heap.size) (o := 0) (V := .int .u64 (loN u : Nat)) (by simp)
            have kt1 := Nd.out.at_ (b := w7.heap.size) (o := 1) (V := .int .u64 (hiN u : Nat)) (by simp)
            have BL9 := Lib.hid (HS4.out.bel.trans (HB9.out.mono HS4.out.bel.size))
            have HSl := Lib.hid (show s < 1000000 from by
              have h1 := HSs.out
              have h2 := HG.out.len
              rw [← HRO.out, ← HN.out] at h2
              omega)
            clear hb9
            go_wp2_with fail
            go_region_held3 (fun w' => w'.cell? ⟨H, 1, none⟩ = some (.map (some mb)) ∧ w'.cell? ⟨w7.heap.size, 0, none⟩ = some (.int .u64 (loN u : Nat)) ∧ w'.cell? ⟨w7.heap.size, 1, none⟩ = some (.int .u64 (hiN u : Nat)))
              (first | (with_reducible exact ⟨kd1, kt0, kt1⟩) | (with_reducible exact ⟨ka1, ks0, ks1⟩) | (with_reducible exact ⟨ke1, ku0, ku1⟩))
              (first
                | (go_at_call 127
                   refine (C5 _).out.mono ?_
                   rintro e w10 ⟨rfl, hb10⟩
                   have B10 := Lib.hid (Bd.out.trans (hb10.mono Bd.out.size))
                   have HH10 := Lib.hid (HH9.out.below B10.out)
                   have N10 := Lib.hid (HN9.out.below B10.out)
                   have ka1 := HH10.out.c1
                   have ks0 := N10.out.at_ (b := w7.heap.size) (o := 0) (V := .int .u64 (loN u : Nat)) (by simp)
                   have ks1 := N10.out.at_ (b := w7.heap.size) (o := 1) (V := .int .u64 (hiN u : Nat)) (by simp)
                   have OW := Lib.hid HH10.out.map
                   obtain ⟨w11, hrun, hm11, hg11, hz11⟩ := run_putW w10 (t := 97) (u := u) (i := i) Tryz.underlying97 OW.out (by omega) HSl.out
                   have HH11 := Lib.hid (HH10.out.put hg11 hz11 hm11)
                   have K11 := Lib.hid (KeptC.of_grown hg11 OW.out.noCells)
                   have N11 := Lib.hid (N10.out.keptC K11.out)
                   have HZ11 := Lib.hid hz11
                   have HG11 := Lib.hid hg11
                   have ke1 := HH11.out.c1
                   have ku0 := N11.out.at_ (b := w7.heap.size) (o := 0) (V := .int .u64 (loN u : Nat)) (by simp)
                   have ku1 := N11.out.at_ (b := w7.heap.size) (o := 1) (V := .int .u64 (hiN u : Nat)) (by simp)
                   clear hm11 hg11 hz11 hb10))
            have HOK : Hid (RowsOk rows) := Lib.hid (by rw [HRO.out]; exact HG.out.ok)
            have HS11 : Hid (HitSt w w11 H mb A n c M (rowsP (gensTo k d J ++ (sqG k d J).take (m + 1)))) := Lib.hid (by
              rw [HNX2.out]
              refine ⟨⟨s + 1, _, HH11.out, HRM.out.put HMA.out HI.out HUM.out (fun r hr e => ?_), fun j r hj => ?_, ?_⟩, HS4.out.lo, ?_, ((HS4.out.own.below HB9.out).below B10.out).keptC K11.out⟩
              · have h1 := redT_free rows HOK.out HGW.out.asc r hr
                rw [e] at h1
                exact h1 (lastL_mem HTne.out)
              · by_cases e : j = i
                · rw [if_pos e] at hj
                  injection hj with hj
                  rw [← hj]; exact HU128.out
                · rw [if_neg e] at hj
                  exact HFB.out j r hj
              · rw [putR_len]; have := HSs.out; omega
              · exact (BL9.out.trans (B10.out.mono BL9.out.size)).trans (below_grownBy HG11.out HS4.out.lo (Nat.le_trans BL9.out.size B10.out.size)))
            have HL11 := Lib.hid (show RdL w11 w11.heap.size (some adL) nl cl L from by rw [HZ11.out]; exact (rdL_stay HL9.out B10.out).keptC K11.out)
            go_wp2_with fail
            go_roundw
            case rel => exact ⟨m + 1, by omega, by go_num, HS11, HL11⟩
            case measure => simp [intOf]; omega
        · have hmn : m = nl := by omega
          have HNX := Lib.hid (show rows = rowsP (gensTo k d (J + 1)) by rw [HRO.out, gensTo_succ, List.take_of_length_le (by rw [sqG_len, ← HP.out, ← HL.out, ← HNL.out, hmn]; exact Nat.le_refl _)])
          clear hmn
          go_wp2_with fail
          go_roundw
          case rel => exact ⟨J + 1, 2 * P, by go_num, Lib.hid (by rw [HP.out, Nat.pow_succ]; omega), HJ1, by omega, by omega, by rw [← HNX.out]; exact HS4⟩
          case measure => simp [intOf]; omega
    · have HE := Lib.hid (show J = hitJ d from hitJ_of HJ.out (by rw [← HP.out]; have := Hdd.out; omega))
      go_wp2_with fail
      refine bodyPost_ret (v := .tuple #[.pointer (some ⟨H, 0, none⟩), .int .i64 0]) (by simp [results, Tryz.results94, go_sem]) rfl ?_
      refine ⟨H, mb, n, c, A, rfl, ?_⟩
      have := HS.out
      rw [HE.out, HMe.out] at this
      exact this
end Go.Proofs.YtoodhbafleemjaaGreat
