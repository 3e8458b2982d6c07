/- ParsePoly on the program's side. -/
import Derived.Test.YtbcchiaigincaaaGreatDoorPri
import Derived.Test.YtbcchiaigincaaaGreatDoorPrs
namespace Go.Proofs.YtbcchiaigincaaaGreatDoor
open Go.RowKit
set_option linter.unusedVariables false

theorem cut_text {v : Int} {xss : List (List Int)} (h : polB v xss = true) : Lib.cut (polT v xss) [58] = (decW v.toNat, tailT xss, true) := by
  have hx := polX_of h
  have := hx.v0
  have := hx.v4
  rw [polT_eq]
  exact cut_app (decW_no 58 (by decide) _ (by omega))
theorem tail_dash {v : Int} {xss : List (List Int)} (h : PolX v xss) (e : tailT xss = [45]) : xss = [] := by
  rcases Classical.em (xss = []) with h0 | h0
  · exact h0
  · obtain ⟨c, u, e2, h1, h2⟩ := tail_head h h0
    rw [e] at e2
    injection e2 with e3
    subst e3
    exact absurd h1 (by decide)
theorem tail_zero {v : Int} {xss : List (List Int)} (h : PolX v xss) (e : tailT xss = [48]) : xss = [[0]] := by
  have h0 : xss ≠ [] := fun e0 => by subst e0; revert e; decide
  have h1 := tail_read h h0
  rw [e, show splitU 43 [48] = [[48]] from by decide] at h1
  have h2 : (xss.map (numT [44])).map readL = xss := by
    rw [List.map_map]
    exact (List.map_congr_left fun x hx => read_num (h.rng x hx) (h.ne x hx)).trans (List.map_id' xss)
  rw [← h1] at h2
  rw [← h2]
  decide
theorem ownL_zero (w : World) (B : Nat) (hB : B ≤ w.heap.size) : OwnL ((w.alloc (.cells #[.int .i64 0] 2)).alloc (.cells #[.slice (some ⟨w.heap.size, 0, none⟩) 1 1] 36)) B ((w.alloc (.cells #[.int .i64 0] 2)).alloc (.cells #[.slice (some ⟨w.heap.size, 0, none⟩) 1 1] 36)).heap.size (some ⟨w.heap.size + 1, 0, none⟩) 1 1 [[0]] := by
  have h1 : OwnS (w.alloc (.cells #[.int .i64 0] 2)) B (some ⟨w.heap.size, 0, none⟩) 1 1 [0] := ⟨rfl, rfl, .inr ⟨w.heap.size, 1, #[.int .i64 0], rfl, hB, heap_alloc_new w _, Nat.le_refl _, by decide, rfl, rfl⟩⟩
  have hb : Below (w.alloc (.cells #[.int .i64 0] 2)).heap.size (w.alloc (.cells #[.int .i64 0] 2)) ((w.alloc (.cells #[.int .i64 0] 2)).alloc (.cells #[.slice (some ⟨w.heap.size, 0, none⟩) 1 1] 36)) := (Below.refl _ _).alloc (Nat.le_refl _) _
  refine ⟨rfl, [.slice (some ⟨w.heap.size, 0, none⟩) 1 1], ⟨rfl, rfl, .inr ⟨w.heap.size + 1, 1, #[.slice (some ⟨w.heap.size, 0, none⟩) 1 1], rfl, by omega, by
    have := heap_alloc_new (w.alloc (.cells #[.int .i64 0] 2)) (.cells #[.slice (some ⟨w.heap.size, 0, none⟩) 1 1] 36)
    simpa using this, Nat.le_refl _, by decide, rfl, rfl⟩⟩, fun j v xs hv hx => ?_, fun i j u v g hij hu hv => ?_⟩
  · have hj : j = 0 := by
      have := (List.getElem?_eq_some_iff.1 hv).1
      simpa using this
    subst hj
    simp only [List.getElem?_cons_zero, Option.some.injEq] at hv hx
    subst hv; subst hx
    exact ⟨_, _, _, rfl, h1.below hb, fun g hg => by
      injection hg with hg
      subst hg
      simp; omega⟩
  · have h1 := (List.getElem?_eq_some_iff.1 hu).1
    have h2 := (List.getElem?_eq_some_iff.1 hv).1
    simp at h1 h2
    omega
set_option maxRecDepth 100000 in
set_option maxHeartbeats 4000000 in
theorem iParsePoly (s : ByteArray) (w : World) (hP : PP w) (hs : s.size ≤ 1048576) : Calls Tryz.prog 5 #[.string s] w (RetNC (ppO s.data.toList).1 (ppO s.data.toList).2.1.length (ppO s.data.toList).2.1 (ppO s.data.toList).2.2 w) := by
  obtain ⟨w0, b, hw0, hbe, hb0, hz0, hF⟩ := start1 w (.int .i64 0) (.slice none 0 0) 24
  have F0 := Lib.hid hF
  have B0 := Lib.hid hb0
  have Hw := Lib.hid hw0
  have Hbe := Lib.hid hbe
  have HZ := Lib.hid hz0
  have HP := Lib.hid (hP.below hb0)
  have CC := Lib.hid (cut_any s w0 HP.out (by omega))
  obtain ⟨l, hl⟩ : ∃ l, l = s.data.toList := ⟨_, rfl⟩
  have HSL := Lib.hid hl.symm
  have hls : l.length ≤ 1048576 := by rw [hl]; exact hs
  have HCL := Lib.hid (cut_len l 58)
  have HCT := Lib.hid (show ∀ v xss, polB v xss = true → l = polT v xss → (Lib.cut l [58]).1 = decW v.toNat ∧ (Lib.cut l [58]).2.1 = tailT xss from fun v xss h e => by rw [e, cut_text h]; exact ⟨rfl, rfl⟩)
  rw [← hl] at CC ⊢
  obtain ⟨p, hp⟩ : ∃ p, p = (Lib.cut l [58]).1 := ⟨_, rfl⟩
  obtain ⟨q, hq⟩ : ∃ q, q = (Lib.cut l [58]).2.1 := ⟨_, rfl⟩
  obtain ⟨fd, hfd⟩ : ∃ fd, fd = (Lib.cut l [58]).2.2 := ⟨_, rfl⟩
  rw [← hp, ← hq] at HCT HCL
  rw [← hp, ← hq, ← hfd] at CC
  obtain ⟨X, hX⟩ : ∃ X, X = RetNC (ppO l).1 (ppO l).2.1.length (ppO l).2.1 (ppO l).2.2 w := ⟨_, rfl⟩
  have HX := Lib.hid hX
  rw [← hX]
  have hpl : p.length ≤ 1048576 := Nat.le_trans HCL.out.1 hls
  have hql : q.length ≤ 1048576 := Nat.le_trans HCL.out.2 hls
  obtain ⟨pb, hpb⟩ : ∃ pb : ByteArray, pb = ⟨p.toArray⟩ := ⟨_, rfl⟩
  obtain ⟨qb, hqb⟩ : ∃ qb : ByteArray, qb = ⟨q.toArray⟩ := ⟨_, rfl⟩
  rw [← hpb, ← hqb] at CC
  have CD := Lib.hid (fun W hW => readDec_any pb W hW)
  have e1 : pb.data.toList = p := by rw [hpb]
  have e2 : qb.data.toList = q := by rw [hqb]
  rw [e1] at CD
  unfold RetRD at CD
  have HQT := Lib.hid (show qb.toList = q from by rw [ByteArray.toList_eq, e2])
  have CSM := Lib.hid (fun W hW => readSum_any qb W hW (show qb.size ≤ 1048576 by rw [← bytes_len, e2]; exact hql))
  rw [e2] at CSM
  unfold RetRS at CSM
  clear hF hb0 hw0 hbe hz0 hl hX hp hq hfd hpb hqb e1 e2 hP
  go_enter Tryz.func5, Tryz.ntmps5
  go_wp2_with fail
  rw [← Hw.out, ← Hbe.out]
  refine CC.out.mono ?_
  rintro e w1 ⟨rfl, hb1⟩
  have B1 := Lib.hid hb1
  clear hb1
  have CD1 := Lib.hid (CD.out w1 (HP.out.below B1.out))
  go_wp2_with fail
  refine CD1.out.mono ?_
  rintro e w2 ⟨x, ok1, rfl, hx, hb2⟩
  have HXD := Lib.hid hx
  have B2 := Lib.hid (B1.out.trans (hb2.mono B1.out.size))
  clear hb2 hx
  obtain ⟨w3, hw3⟩ : ∃ W, W = w2.alloc (.cells #[.int .i64 x, .slice none 0 0] 24) := ⟨_, rfl⟩
  obtain ⟨bo, hbo⟩ : ∃ B, B = w2.heap.size := ⟨_, rfl⟩
  have hCo : Cells [(bo, 1, .slice none 0 0), (bo, 0, .int .i64 x)] w3 := by
    rw [hw3]
    exact (Cells.nil.alloc2 (.int .i64 x) (.slice none 0 0) 24 hbo).sub (by simp)
  have hz3 : w3.heap.size = bo + 1 := by rw [hw3, hbo]; simp
  have hB3 : Below w0.heap.size w0 w3 := by rw [hw3]; exact B2.out.alloc B2.out.size _
  have hbo0 : w0.heap.size ≤ bo := by rw [hbo]; exact B2.out.size
  have hb1b : b < bo := by have := HZ.out; omega
  have C3 := Lib.hid hCo
  have BW3 := Lib.hid hB3
  have HW3 := Lib.hid hw3
  have HBO := Lib.hid hbo
  have hg1 := hCo.at_ (b := bo) (o := 1) (V := .slice none 0 0) (by simp)
  have hg2 := hCo.fr (b := bo) (o := 1) (V := .slice none 0 0) (by simp)
  rw [HW3.out, HBO.out] at hg1 hg2
  clear hCo hB3 hw3 hbo
  by_cases hq1 : q = [45]
  · have hE1 : (qb.toList == [45]) = true := by rw [HQT.out, hq1]; rfl
    have COMP : ∀ v xss, polB v xss = true → l = polT v xss → ok1 = true ∧ x = v ∧ ([] : List (List Int)) = xss := fun v xss h e => by
      obtain ⟨h1, h2⟩ := HCT.out v xss h e
      have hxx := polX_of h
      have := hxx.v0
      have := hxx.v4
      obtain ⟨h3, h4⟩ := HXD.out v.toNat (by omega) h1
      exact ⟨h4, by omega, (tail_dash hxx (by rw [← h2, hq1])).symm⟩
    have HCM := Lib.hid COMP
    clear hq1 COMP
    go_upto_region 11 with fail
    rw [← HW3.out, ← HBO.out]
    have COMP := HCM.out
    have CK := C3
    have BWZ := BW3
    have OY : Hid (OwnM w3 (bo + 1) w3.heap.size none 0 0 []) := Lib.hid OwnM.nil
    have hnY : 0 ≤ 2000000 := by omega
    have htY : totalL [] ≤ 2000000 := by decide
    clear hg1 hg2
    have HCOMP := Lib.hid (show ∀ v xss, polB v xss = true → l = polT v xss → ok1 = true ∧ x = v ∧ [] = xss from COMP)
    have k0 := CK.out.at_ (b := bo) (o := 0) (V := .int .i64 x) (by simp)
    have k1 := CK.out.at_ (b := bo) (o := 1) (V := .slice none 0 0) (by simp)
    have q0 := (F0.out.below BWZ.out).at_ (b := b) (o := 0) (V := .int .i64 0) (by simp)
    have q1 := (F0.out.below BWZ.out).at_ (b := b) (o := 1) (V := .slice none 0 0) (by simp)
    have f0 := (F0.out.below BWZ.out).fr (b := b) (o := 0) (V := .int .i64 0) (by simp)
    have f1 := (F0.out.below BWZ.out).fr (b := b) (o := 1) (V := .slice none 0 0) (by simp)
    cases ok1
    · have HV := Lib.hid (ppO_bad (t := l) fun v xss hp e => by have := (HCOMP.out v xss hp e).1; cases this)
      have hres := cells_end q0 q1 (.int .i64 0) (.slice none 0 0)
      go_wp2_with fail
      refine bodyPost_ret (v := .tuple #[.agg #[.int .i64 0, .slice none 0 0], .int .i64 6]) (by simp [results, Tryz.results5, go_sem, hres.1, hres.2]) rfl ?_
      rw [HX.out]
      exact RetNC.bad (by rw [HV.out]) (by rw [HV.out]) (by rw [HV.out]) (B0.out.trans (BWZ.out.mono B0.out.size)) (by rw [Hbe.out]; exact Nat.le_refl _)
    · have CI := Lib.hid (iIsPoly x none 0 0 [] w3 OY.out.own.rd hnY htY)
      obtain ⟨pb, hpb⟩ : ∃ pb, pb = polB x [] := ⟨_, rfl⟩
      have HPB := Lib.hid hpb.symm
      rw [← hpb] at CI
      clear hpb
      go_wp2_with fail
      refine CI.out.mono ?_
      rintro e w5 ⟨rfl, hb5⟩
      have CK5 := Lib.hid (CK.out.below hb5)
      have BW5 := Lib.hid (BWZ.out.trans (hb5.mono BWZ.out.size))
      have OY5 := Lib.hid (OY.out.below hb5)
      have hz5 := hb5.size
      clear hb5 k0 k1 q0 q1 f0 f1
      have k0 := CK5.out.at_ (b := bo) (o := 0) (V := .int .i64 x) (by simp)
      have k1 := CK5.out.at_ (b := bo) (o := 1) (V := .slice none 0 0) (by simp)
      have q0 := (F0.out.below BW5.out).at_ (b := b) (o := 0) (V := .int .i64 0) (by simp)
      have q1 := (F0.out.below BW5.out).at_ (b := b) (o := 1) (V := .slice none 0 0) (by simp)
      have f0 := (F0.out.below BW5.out).fr (b := b) (o := 0) (V := .int .i64 0) (by simp)
      have f1 := (F0.out.below BW5.out).fr (b := b) (o := 1) (V := .slice none 0 0) (by simp)
      cases pb
      · have HV := Lib.hid (ppO_bad (t := l) fun v xss hp e => by
          obtain ⟨_, h1, h2⟩ := HCOMP.out v xss hp e
          rw [← h1, ← h2, HPB.out] at hp; cases hp)
        have hres := cells_end q0 q1 (.int .i64 0) (.slice none 0 0)
        go_wp2_with fail
        refine bodyPost_ret (v := .tuple #[.agg #[.int .i64 0, .slice none 0 0], .int .i64 6]) (by simp [results, Tryz.results5, go_sem, hres.1, hres.2]) rfl ?_
        rw [HX.out]
        exact RetNC.bad (by rw [HV.out]) (by rw [HV.out]) (by rw [HV.out]) (B0.out.trans (BW5.out.mono B0.out.size)) (by rw [Hbe.out]; exact Nat.le_refl _)
      · obtain ⟨m, rfl, hm, hYl, hYx⟩ := polB_text HPB.out
        have CT := Lib.hid (polyText_any m none 0 0 [] w5 OY5.out.own.rd hm hYx (by rw [← OY5.out.own.len]; exact hYl))
        unfold RetTx at CT
        obtain ⟨tb, htb⟩ : ∃ tb : ByteArray, tb = ⟨(polT (m : Int) []).toArray⟩ := ⟨_, rfl⟩
        rw [← htb] at CT
        have HTB := Lib.hid (show tb.toList = polT (m : Int) [] from by rw [ByteArray.toList_eq, htb])
        clear htb
        by_cases heq : l = polT (m : Int) []
        · have HV := Lib.hid (show ppO l = ((m : Int), [], 0) from by rw [heq]; exact ppO_ok HPB.out)
          have hE : (tb.toList == s.toList) = true := by rw [HTB.out, ByteArray.toList_eq s, HSL.out, ← heq, beq_iff_eq]
          clear heq
          go_wp2_with fail
          refine CT.out.mono ?_
          rintro e w6 ⟨rfl, hb6⟩
          have CK6 := Lib.hid (CK5.out.below hb6)
          have BW6 := Lib.hid (BW5.out.trans (hb6.mono BW5.out.size))
          have OY6 := Lib.hid (OY5.out.below hb6)
          have hz6 := Nat.le_trans hz5 hb6.size
          clear hb6 k0 k1 q0 q1 f0 f1
          have k0 := CK6.out.at_ (b := bo) (o := 0) (V := .int .i64 m) (by simp)
          have k1 := CK6.out.at_ (b := bo) (o := 1) (V := .slice none 0 0) (by simp)
          have q0 := (F0.out.below BW6.out).at_ (b := b) (o := 0) (V := .int .i64 0) (by simp)
          have q1 := (F0.out.below BW6.out).at_ (b := b) (o := 1) (V := .slice none 0 0) (by simp)
          have f0 := (F0.out.below BW6.out).fr (b := b) (o := 0) (V := .int .i64 0) (by simp)
          have f1 := (F0.out.below BW6.out).fr (b := b) (o := 1) (V := .slice none 0 0) (by simp)
          have hres := cells_end q0 q1 (.int .i64 m) (.slice none 0 0)
          go_wp2_with fail
          refine bodyPost_ret (v := .tuple #[.agg #[.int .i64 m, .slice none 0 0], .int .i64 0]) (by simp [results, Tryz.results5, go_sem, hres.1, hres.2]) rfl ?_
          rw [HX.out]
          exact RetNC.mk (V := bo + 1) (by rw [HV.out]) (by rw [HV.out]; exact OY6.out.own.len.symm) (by rw [HV.out]) (by rw [HV.out]) (B0.out.trans (BW6.out.mono B0.out.size)) (by rw [Hbe.out]; exact Nat.le_refl _) (by omega) OY6.out hz6
        · have HV := Lib.hid (ppO_bad (t := l) fun v xss hp e => by
            obtain ⟨_, h1, h2⟩ := HCOMP.out v xss hp e
            exact heq (by rw [e, ← h1, ← h2]))
          have hE : (tb.toList == s.toList) = false := by rw [HTB.out, ByteArray.toList_eq s, HSL.out]; exact beq_eq_false_iff_ne.2 fun e => heq e.symm
          clear heq
          go_wp2_with fail
          refine CT.out.mono ?_
          rintro e w6 ⟨rfl, hb6⟩
          have BW6 := Lib.hid (BW5.out.trans (hb6.mono BW5.out.size))
          clear hb6 k0 k1 q0 q1 f0 f1
          have q0 := (F0.out.below BW6.out).at_ (b := b) (o := 0) (V := .int .i64 0) (by simp)
          have q1 := (F0.out.below BW6.out).at_ (b := b) (o := 1) (V := .slice none 0 0) (by simp)
          have f0 := (F0.out.below BW6.out).fr (b := b) (o := 0) (V := .int .i64 0) (by simp)
          have f1 := (F0.out.below BW6.out).fr (b := b) (o := 1) (V := .slice none 0 0) (by simp)
          have hres := cells_end q0 q1 (.int .i64 0) (.slice none 0 0)
          go_wp2_with fail
          refine bodyPost_ret (v := .tuple #[.agg #[.int .i64 0, .slice none 0 0], .int .i64 6]) (by simp [results, Tryz.results5, go_sem, hres.1, hres.2]) rfl ?_
          rw [HX.out]
          exact RetNC.bad (by rw [HV.out]) (by rw [HV.out]) (by rw [HV.out]) (B0.out.trans (BW6.out.mono B0.out.size)) (by rw [Hbe.out]; exact Nat.le_refl _)
  · have hE1 : (qb.toList == [45]) = false := by rw [HQT.out]; exact beq_eq_false_iff_ne.2 hq1
    clear hq1
    by_cases hq2 : q = [48]
    · have hE2 : (qb.toList == [48]) = true := by rw [HQT.out, hq2]; rfl
      have COMP : ∀ v xss, polB v xss = true → l = polT v xss → ok1 = true ∧ x = v ∧ ([[0]] : List (List Int)) = xss := fun v xss h e => by
        obtain ⟨h1, h2⟩ := HCT.out v xss h e
        have hxx := polX_of h
        have := hxx.v0
        have := hxx.v4
        obtain ⟨h3, h4⟩ := HXD.out v.toNat (by omega) h1
        exact ⟨h4, by omega, (tail_zero hxx (by rw [← h2, hq2])).symm⟩
      have HCM := Lib.hid COMP
      clear hq2 COMP
      go_upto_region 10 with fail
      rw [← HW3.out, ← HBO.out]
      have HB2 := Lib.hid (show Below w3.heap.size w3 ((w3.alloc (.cells #[.int .i64 0] 2)).alloc (.cells #[.slice (some ⟨bo + 1, 0, none⟩) 1 1] 36)) from ((Below.refl _ _).alloc (Nat.le_refl _) _).alloc (by simp) _)
      have C4 := Lib.hid (C3.out.below HB2.out)
      have hg3 := C4.out.at_ (b := bo) (o := 1) (V := .slice none 0 0) (by simp)
      have hg4 := C4.out.fr (b := bo) (o := 1) (V := .slice none 0 0) (by simp)
      clear hg1 hg2
      go_upto_region 11 with fail
      obtain ⟨v3, hv3⟩ : ∃ W, W = w3.setCell ⟨bo, 1, none⟩ (.slice (some ⟨bo + 1 + 1, 0, none⟩) 1 1) := ⟨_, rfl⟩
      have hzv : v3.heap.size = bo + 1 := by rw [hv3]; simp [World.setCell, hz3]
      have hol := ownL_zero v3 (bo + 1) (by omega)
      rw [hzv] at hol
      have OL2 := Lib.hid hol
      have CV3 := Lib.hid (show Cells [(bo, 1, .slice (some ⟨bo + 1 + 1, 0, none⟩) 1 1), (bo, 0, .int .i64 x)] v3 from by rw [hv3]; exact C3.out.set (by simp) _)
      have BV3 := Lib.hid (show Below w0.heap.size w0 v3 from by rw [hv3]; exact BW3.out.setCell (p := ⟨bo, 1, none⟩) hbo0 _)
      have BVZ := Lib.hid (show Below v3.heap.size v3 ((v3.alloc (.cells #[.int .i64 0] 2)).alloc (.cells #[.slice (some ⟨bo + 1, 0, none⟩) 1 1] 36)) from ((Below.refl _ _).alloc (Nat.le_refl _) _).alloc (by simp) _)
      rw [← hv3]
      obtain ⟨wz, hwz⟩ : ∃ W, W = ((v3.alloc (.cells #[.int .i64 0] 2)).alloc (.cells #[.slice (some ⟨bo + 1, 0, none⟩) 1 1] 36)) := ⟨_, rfl⟩
      rw [← hwz] at BVZ OL2 ⊢
      obtain ⟨A4, hA4⟩ : ∃ A : Option Addr, A = some ⟨bo + 1 + 1, 0, none⟩ := ⟨_, rfl⟩
      rw [← hA4] at OL2 CV3
      have CK : Hid (Cells [(bo, 1, .slice A4 1 1), (bo, 0, .int .i64 x)] wz) := Lib.hid (CV3.out.below BVZ.out)
      have BWZ : Hid (Below w0.heap.size w0 wz) := Lib.hid (BV3.out.trans (BVZ.out.mono BV3.out.size))
      have OY : Hid (OwnM wz (bo + 1) wz.heap.size A4 1 1 [[0]]) := Lib.hid (OL2.out.m (Nat.le_refl _))
      have COMP := HCM.out
      have hnY : 1 ≤ 2000000 := by omega
      have htY : totalL [[0]] ≤ 2000000 := by decide
      clear hwz hg3 hg4 hv3 hA4 hol
      have HCOMP := Lib.hid (show ∀ v xss, polB v xss = true → l = polT v xss → ok1 = true ∧ x = v ∧ [[0]] = xss from COMP)
      have k0 := CK.out.at_ (b := bo) (o := 0) (V := .int .i64 x) (by simp)
      have k1 := CK.out.at_ (b := bo) (o := 1) (V := .slice A4 1 1) (by simp)
      have q0 := (F0.out.below BWZ.out).at_ (b := b) (o := 0) (V := .int .i64 0) (by simp)
      have q1 := (F0.out.below BWZ.out).at_ (b := b) (o := 1) (V := .slice none 0 0) (by simp)
      have f0 := (F0.out.below BWZ.out).fr (b := b) (o := 0) (V := .int .i64 0) (by simp)
      have f1 := (F0.out.below BWZ.out).fr (b := b) (o := 1) (V := .slice none 0 0) (by simp)
      cases ok1
      · have HV := Lib.hid (ppO_bad (t := l) fun v xss hp e => by have := (HCOMP.out v xss hp e).1; cases this)
        have hres := cells_end q0 q1 (.int .i64 0) (.slice none 0 0)
        go_wp2_with fail
        refine bodyPost_ret (v := .tuple #[.agg #[.int .i64 0, .slice none 0 0], .int .i64 6]) (by simp [results, Tryz.results5, go_sem, hres.1, hres.2]) rfl ?_
        rw [HX.out]
        exact RetNC.bad (by rw [HV.out]) (by rw [HV.out]) (by rw [HV.out]) (B0.out.trans (BWZ.out.mono B0.out.size)) (by rw [Hbe.out]; exact Nat.le_refl _)
      · have CI := Lib.hid (iIsPoly x A4 1 1 [[0]] wz OY.out.own.rd hnY htY)
        obtain ⟨pb, hpb⟩ : ∃ pb, pb = polB x [[0]] := ⟨_, rfl⟩
        have HPB := Lib.hid hpb.symm
        rw [← hpb] at CI
        clear hpb
        go_wp2_with fail
        refine CI.out.mono ?_
        rintro e w5 ⟨rfl, hb5⟩
        have CK5 := Lib.hid (CK.out.below hb5)
        have BW5 := Lib.hid (BWZ.out.trans (hb5.mono BWZ.out.size))
        have OY5 := Lib.hid (OY.out.below hb5)
        have hz5 := hb5.size
        clear hb5 k0 k1 q0 q1 f0 f1
        have k0 := CK5.out.at_ (b := bo) (o := 0) (V := .int .i64 x) (by simp)
        have k1 := CK5.out.at_ (b := bo) (o := 1) (V := .slice A4 1 1) (by simp)
        have q0 := (F0.out.below BW5.out).at_ (b := b) (o := 0) (V := .int .i64 0) (by simp)
        have q1 := (F0.out.below BW5.out).at_ (b := b) (o := 1) (V := .slice none 0 0) (by simp)
        have f0 := (F0.out.below BW5.out).fr (b := b) (o := 0) (V := .int .i64 0) (by simp)
        have f1 := (F0.out.below BW5.out).fr (b := b) (o := 1) (V := .slice none 0 0) (by simp)
        cases pb
        · have HV := Lib.hid (ppO_bad (t := l) fun v xss hp e => by
            obtain ⟨_, h1, h2⟩ := HCOMP.out v xss hp e
            rw [← h1, ← h2, HPB.out] at hp; cases hp)
          have hres := cells_end q0 q1 (.int .i64 0) (.slice none 0 0)
          go_wp2_with fail
          refine bodyPost_ret (v := .tuple #[.agg #[.int .i64 0, .slice none 0 0], .int .i64 6]) (by simp [results, Tryz.results5, go_sem, hres.1, hres.2]) rfl ?_
          rw [HX.out]
          exact RetNC.bad (by rw [HV.out]) (by rw [HV.out]) (by rw [HV.out]) (B0.out.trans (BW5.out.mono B0.out.size)) (by rw [Hbe.out]; exact Nat.le_refl _)
        · obtain ⟨m, rfl, hm, hYl, hYx⟩ := polB_text HPB.out
          have CT := Lib.hid (polyText_any m A4 1 1 [[0]] w5 OY5.out.own.rd hm hYx (by rw [← OY5.out.own.len]; exact hYl))
          unfold RetTx at CT
          obtain ⟨tb, htb⟩ : ∃ tb : ByteArray, tb = ⟨(polT (m : Int) [[0]]).toArray⟩ := ⟨_, rfl⟩
          rw [← htb] at CT
          have HTB := Lib.hid (show tb.toList = polT (m : Int) [[0]] from by rw [ByteArray.toList_eq, htb])
          clear htb
          by_cases heq : l = polT (m : Int) [[0]]
          · have HV := Lib.hid (show ppO l = ((m : Int), [[0]], 0) from by rw [heq]; exact ppO_ok HPB.out)
            have hE : (tb.toList == s.toList) = true := by rw [HTB.out, ByteArray.toList_eq s, HSL.out, ← heq, beq_iff_eq]
            clear heq
            go_wp2_with fail
            refine CT.out.mono ?_
            rintro e w6 ⟨rfl, hb6⟩
            have CK6 := Lib.hid (CK5.out.below hb6)
            have BW6 := Lib.hid (BW5.out.trans (hb6.mono BW5.out.size))
            have OY6 := Lib.hid (OY5.out.below hb6)
            have hz6 := Nat.le_trans hz5 hb6.size
            clear hb6 k0 k1 q0 q1 f0 f1
            have k0 := CK6.out.at_ (b := bo) (o := 0) (V := .int .i64 m) (by simp)
            have k1 := CK6.out.at_ (b := bo) (o := 1) (V := .slice A4 1 1) (by simp)
            have q0 := (F0.out.below BW6.out).at_ (b := b) (o := 0) (V := .int .i64 0) (by simp)
            have q1 := (F0.out.below BW6.out).at_ (b := b) (o := 1) (V := .slice none 0 0) (by simp)
            have f0 := (F0.out.below BW6.out).fr (b := b) (o := 0) (V := .int .i64 0) (by simp)
            have f1 := (F0.out.below BW6.out).fr (b := b) (o := 1) (V := .slice none 0 0) (by simp)
            have hres := cells_end q0 q1 (.int .i64 m) (.slice A4 1 1)
            go_wp2_with fail
            refine bodyPost_ret (v := .tuple #[.agg #[.int .i64 m, .slice A4 1 1], .int .i64 0]) (by simp [results, Tryz.results5, go_sem, hres.1, hres.2]) rfl ?_
            rw [HX.out]
            exact RetNC.mk (V := bo + 1) (by rw [HV.out]) (by rw [HV.out]; exact OY6.out.own.len.symm) (by rw [HV.out]) (by rw [HV.out]) (B0.out.trans (BW6.out.mono B0.out.size)) (by rw [Hbe.out]; exact Nat.le_refl _) (by omega) OY6.out hz6
          · have HV := Lib.hid (ppO_bad (t := l) fun v xss hp e => by
              obtain ⟨_, h1, h2⟩ := HCOMP.out v xss hp e
              exact heq (by rw [e, ← h1, ← h2]))
            have hE : (tb.toList == s.toList) = false := by rw [HTB.out, ByteArray.toList_eq s, HSL.out]; exact beq_eq_false_iff_ne.2 fun e => heq e.symm
            clear heq
            go_wp2_with fail
            refine CT.out.mono ?_
            rintro e w6 ⟨rfl, hb6⟩
            have BW6 := Lib.hid (BW5.out.trans (hb6.mono BW5.out.size))
            clear hb6 k0 k1 q0 q1 f0 f1
            have q0 := (F0.out.below BW6.out).at_ (b := b) (o := 0) (V := .int .i64 0) (by simp)
            have q1 := (F0.out.below BW6.out).at_ (b := b) (o := 1) (V := .slice none 0 0) (by simp)
            have f0 := (F0.out.below BW6.out).fr (b := b) (o := 0) (V := .int .i64 0) (by simp)
            have f1 := (F0.out.below BW6.out).fr (b := b) (o := 1) (V := .slice none 0 0) (by simp)
            have hres := cells_end q0 q1 (.int .i64 0) (.slice none 0 0)
            go_wp2_with fail
            refine bodyPost_ret (v := .tuple #[.agg #[.int .i64 0, .slice none 0 0], .int .i64 6]) (by simp [results, Tryz.results5, go_sem, hres.1, hres.2]) rfl ?_
            rw [HX.out]
            exact RetNC.bad (by rw [HV.out]) (by rw [HV.out]) (by rw [HV.out]) (B0.out.trans (BW6.out.mono B0.out.size)) (by rw [Hbe.out]; exact Nat.le_refl _)
    · have hE2 : (qb.toList == [48]) = false := by rw [HQT.out]; exact beq_eq_false_iff_ne.2 hq2
      have HQ2 := Lib.hid hq2
      have CS3 := Lib.hid (CSM.out w3 (HP.out.below BW3.out))
      clear hq2
      go_upto_region 6 with fail
      rw [← HW3.out, ← HBO.out]
      clear hg1 hg2
      go_wp2_with fail
      refine CS3.out.mono ?_
      rintro e w4 ⟨Y, nY, cY, AY, fine, rfl, ho4, hn4, ht4, hx4, hb4⟩
      have C4 := Lib.hid (C3.out.below hb4)
      have hg3 := C4.out.at_ (b := bo) (o := 1) (V := .slice none 0 0) (by simp)
      have hg4 := C4.out.fr (b := bo) (o := 1) (V := .slice none 0 0) (by simp)
      have HXS := Lib.hid hx4
      have HO4 := Lib.hid ho4
      have HB4 := Lib.hid hb4
      have HN4 := Lib.hid hn4
      have HT4 := Lib.hid ht4
      clear hb4 ho4 hx4 hn4 ht4
      have COMP0 : ∀ v xss, polB v xss = true → l = polT v xss → (ok1 = true ∧ fine = true) ∧ x = v ∧ Y = xss := fun v xss h e => by
        obtain ⟨h1, h2⟩ := HCT.out v xss h e
        have hxx := polX_of h
        have := hxx.v0
        have := hxx.v4
        obtain ⟨h3, h4⟩ := HXD.out v.toNat (by omega) h1
        rcases Classical.em (xss = []) with h0 | h0
        · exfalso
          subst h0
          rw [show tailT [] = [45] from rfl] at h2
          rw [HQT.out, h2] at hE1
          revert hE1; decide
        · obtain ⟨_, _, hl2, _⟩ := polB_text h
          rename_i hl3
          obtain ⟨h5, h6⟩ := HXS.out v xss hxx (by obtain ⟨_, _, _, h9, _⟩ := polB_text h; exact h9) h0 HQ2.out h2
          exact ⟨⟨h4, h5⟩, by omega, h6⟩
      have HCM := Lib.hid COMP0
      clear COMP0
      cases ok1
      · go_upto_region 11 with fail
        obtain ⟨wz, hwz⟩ : ∃ W, W = w4.setCell ⟨bo, 1, none⟩ (.slice AY nY cY) := ⟨_, rfl⟩
        rw [← hwz]
        have CK : Hid (Cells [(bo, 1, .slice AY nY cY), (bo, 0, .int .i64 x)] wz) := Lib.hid (by rw [hwz]; exact C4.out.set (by simp) _)
        have BWZ : Hid (Below w0.heap.size w0 wz) := Lib.hid (by rw [hwz]; exact (BW3.out.trans (HB4.out.mono BW3.out.size)).setCell (p := ⟨bo, 1, none⟩) hbo0 _)
        have OY : Hid (OwnM wz (bo + 1) wz.heap.size AY nY cY Y) := Lib.hid (by
          rw [hwz]
          have h1 := HO4.out.mid (mid_setCell (B := bo) (K := bo + 1) (p := ⟨bo, 1, none⟩) (.slice AY nY cY) ⟨Nat.le_refl _, Nat.lt_succ_self _⟩) (by omega)
          exact h1.mono (by omega) (by simp [World.setCell]))
        have hnY : nY ≤ 2000000 := by have := HN4.out; omega
        have htY : totalL Y ≤ 2000000 := by have := HT4.out; omega
        clear hwz hg3 hg4
        have COMP : ∀ v xss, polB v xss = true → l = polT v xss → false = true ∧ x = v ∧ Y = xss := fun v xss h e => by
          have := (HCM.out v xss h e).1.1
          cases this
        have HCOMP := Lib.hid (show ∀ v xss, polB v xss = true → l = polT v xss → false = true ∧ x = v ∧ Y = xss from COMP)
        have k0 := CK.out.at_ (b := bo) (o := 0) (V := .int .i64 x) (by simp)
        have k1 := CK.out.at_ (b := bo) (o := 1) (V := .slice AY nY cY) (by simp)
        have q0 := (F0.out.below BWZ.out).at_ (b := b) (o := 0) (V := .int .i64 0) (by simp)
        have q1 := (F0.out.below BWZ.out).at_ (b := b) (o := 1) (V := .slice none 0 0) (by simp)
        have f0 := (F0.out.below BWZ.out).fr (b := b) (o := 0) (V := .int .i64 0) (by simp)
        have f1 := (F0.out.below BWZ.out).fr (b := b) (o := 1) (V := .slice none 0 0) (by simp)
        have HV := Lib.hid (ppO_bad (t := l) fun v xss hp e => by have := (HCOMP.out v xss hp e).1; cases this)
        have hres := cells_end q0 q1 (.int .i64 0) (.slice none 0 0)
        go_wp2_with fail
        refine bodyPost_ret (v := .tuple #[.agg #[.int .i64 0, .slice none 0 0], .int .i64 6]) (by simp [results, Tryz.results5, go_sem, hres.1, hres.2]) rfl ?_
        rw [HX.out]
        exact RetNC.bad (by rw [HV.out]) (by rw [HV.out]) (by rw [HV.out]) (B0.out.trans (BWZ.out.mono B0.out.size)) (by rw [Hbe.out]; exact Nat.le_refl _)
      · go_upto_region 11 with fail
        obtain ⟨wz, hwz⟩ : ∃ W, W = w4.setCell ⟨bo, 1, none⟩ (.slice AY nY cY) := ⟨_, rfl⟩
        rw [← hwz]
        have CK : Hid (Cells [(bo, 1, .slice AY nY cY), (bo, 0, .int .i64 x)] wz) := Lib.hid (by rw [hwz]; exact C4.out.set (by simp) _)
        have BWZ : Hid (Below w0.heap.size w0 wz) := Lib.hid (by rw [hwz]; exact (BW3.out.trans (HB4.out.mono BW3.out.size)).setCell (p := ⟨bo, 1, none⟩) hbo0 _)
        have OY : Hid (OwnM wz (bo + 1) wz.heap.size AY nY cY Y) := Lib.hid (by
          rw [hwz]
          have h1 := HO4.out.mid (mid_setCell (B := bo) (K := bo + 1) (p := ⟨bo, 1, none⟩) (.slice AY nY cY) ⟨Nat.le_refl _, Nat.lt_succ_self _⟩) (by omega)
          exact h1.mono (by omega) (by simp [World.setCell]))
        have hnY : nY ≤ 2000000 := by have := HN4.out; omega
        have htY : totalL Y ≤ 2000000 := by have := HT4.out; omega
        clear hwz hg3 hg4
        have COMP : ∀ v xss, polB v xss = true → l = polT v xss → fine = true ∧ x = v ∧ Y = xss := fun v xss h e => by
          obtain ⟨h1, h2⟩ := HCM.out v xss h e
          exact ⟨h1.2, h2⟩
        have HCOMP := Lib.hid (show ∀ v xss, polB v xss = true → l = polT v xss → fine = true ∧ x = v ∧ Y = xss from COMP)
        have k0 := CK.out.at_ (b := bo) (o := 0) (V := .int .i64 x) (by simp)
        have k1 := CK.out.at_ (b := bo) (o := 1) (V := .slice AY nY cY) (by simp)
        have q0 := (F0.out.below BWZ.out).at_ (b := b) (o := 0) (V := .int .i64 0) (by simp)
        have q1 := (F0.out.below BWZ.out).at_ (b := b) (o := 1) (V := .slice none 0 0) (by simp)
        have f0 := (F0.out.below BWZ.out).fr (b := b) (o := 0) (V := .int .i64 0) (by simp)
        have f1 := (F0.out.below BWZ.out).fr (b := b) (o := 1) (V := .slice none 0 0) (by simp)
        cases fine
        · have HV := Lib.hid (ppO_bad (t := l) fun v xss hp e => by have := (HCOMP.out v xss hp e).1; cases this)
          have hres := cells_end q0 q1 (.int .i64 0) (.slice none 0 0)
          go_wp2_with fail
          refine bodyPost_ret (v := .tuple #[.agg #[.int .i64 0, .slice none 0 0], .int .i64 6]) (by simp [results, Tryz.results5, go_sem, hres.1, hres.2]) rfl ?_
          rw [HX.out]
          exact RetNC.bad (by rw [HV.out]) (by rw [HV.out]) (by rw [HV.out]) (B0.out.trans (BWZ.out.mono B0.out.size)) (by rw [Hbe.out]; exact Nat.le_refl _)
        · have CI := Lib.hid (iIsPoly x AY nY cY Y wz OY.out.own.rd hnY htY)
          obtain ⟨pb, hpb⟩ : ∃ pb, pb = polB x Y := ⟨_, rfl⟩
          have HPB := Lib.hid hpb.symm
          rw [← hpb] at CI
          clear hpb
          go_wp2_with fail
          refine CI.out.mono ?_
          rintro e w5 ⟨rfl, hb5⟩
          have CK5 := Lib.hid (CK.out.below hb5)
          have BW5 := Lib.hid (BWZ.out.trans (hb5.mono BWZ.out.size))
          have OY5 := Lib.hid (OY.out.below hb5)
          have hz5 := hb5.size
          clear hb5 k0 k1 q0 q1 f0 f1
          have k0 := CK5.out.at_ (b := bo) (o := 0) (V := .int .i64 x) (by simp)
          have k1 := CK5.out.at_ (b := bo) (o := 1) (V := .slice AY nY cY) (by simp)
          have q0 := (F0.out.below BW5.out).at_ (b := b) (o := 0) (V := .int .i64 0) (by simp)
          have q1 := (F0.out.below BW5.out).at_ (b := b) (o := 1) (V := .slice none 0 0) (by simp)
          have f0 := (F0.out.below BW5.out).fr (b := b) (o := 0) (V := .int .i64 0) (by simp)
          have f1 := (F0.out.below BW5.out).fr (b := b) (o := 1) (V := .slice none 0 0) (by simp)
          cases pb
          · have HV := Lib.hid (ppO_bad (t := l) fun v xss hp e => by
              obtain ⟨_, h1, h2⟩ := HCOMP.out v xss hp e
              rw [← h1, ← h2, HPB.out] at hp; cases hp)
            have hres := cells_end q0 q1 (.int .i64 0) (.slice none 0 0)
            go_wp2_with fail
            refine bodyPost_ret (v := .tuple #[.agg #[.int .i64 0, .slice none 0 0], .int .i64 6]) (by simp [results, Tryz.results5, go_sem, hres.1, hres.2]) rfl ?_
            rw [HX.out]
            exact RetNC.bad (by rw [HV.out]) (by rw [HV.out]) (by rw [HV.out]) (B0.out.trans (BW5.out.mono B0.out.size)) (by rw [Hbe.out]; exact Nat.le_refl _)
          · obtain ⟨m, rfl, hm, hYl, hYx⟩ := polB_text HPB.out
            have CT := Lib.hid (polyText_any m AY nY cY Y w5 OY5.out.own.rd hm hYx (by rw [← OY5.out.own.len]; exact hYl))
            unfold RetTx at CT
            obtain ⟨tb, htb⟩ : ∃ tb : ByteArray, tb = ⟨(polT (m : Int) Y).toArray⟩ := ⟨_, rfl⟩
            rw [← htb] at CT
            have HTB := Lib.hid (show tb.toList = polT (m : Int) Y from by rw [ByteArray.toList_eq, htb])
            clear htb
            by_cases heq : l = polT (m : Int) Y
            · have HV := Lib.hid (show ppO l = ((m : Int), Y, 0) from by rw [heq]; exact ppO_ok HPB.out)
              have hE : (tb.toList == s.toList) = true := by rw [HTB.out, ByteArray.toList_eq s, HSL.out, ← heq, beq_iff_eq]
              clear heq
              go_wp2_with fail
              refine CT.out.mono ?_
              rintro e w6 ⟨rfl, hb6⟩
              have CK6 := Lib.hid (CK5.out.below hb6)
              have BW6 := Lib.hid (BW5.out.trans (hb6.mono BW5.out.size))
              have OY6 := Lib.hid (OY5.out.below hb6)
              have hz6 := Nat.le_trans hz5 hb6.size
              clear hb6 k0 k1 q0 q1 f0 f1
              have k0 := CK6.out.at_ (b := bo) (o := 0) (V := .int .i64 m) (by simp)
              have k1 := CK6.out.at_ (b := bo) (o := 1) (V := .slice AY nY cY) (by simp)
              have q0 := (F0.out.below BW6.out).at_ (b := b) (o := 0) (V := .int .i64 0) (by simp)
              have q1 := (F0.out.below BW6.out).at_ (b := b) (o := 1) (V := .slice none 0 0) (by simp)
              have f0 := (F0.out.below BW6.out).fr (b := b) (o := 0) (V := .int .i64 0) (by simp)
              have f1 := (F0.out.below BW6.out).fr (b := b) (o := 1) (V := .slice none 0 0) (by simp)
              have hres := cells_end q0 q1 (.int .i64 m) (.slice AY nY cY)
              go_wp2_with fail
              refine bodyPost_ret (v := .tuple #[.agg #[.int .i64 m, .slice AY nY cY], .int .i64 0]) (by simp [results, Tryz.results5, go_sem, hres.1, hres.2]) rfl ?_
              rw [HX.out]
              exact RetNC.mk (V := bo + 1) (by rw [HV.out]) (by rw [HV.out]; exact OY6.out.own.len.symm) (by rw [HV.out]) (by rw [HV.out]) (B0.out.trans (BW6.out.mono B0.out.size)) (by rw [Hbe.out]; exact Nat.le_refl _) (by omega) OY6.out hz6
            · have HV := Lib.hid (ppO_bad (t := l) fun v xss hp e => by
                obtain ⟨_, h1, h2⟩ := HCOMP.out v xss hp e
                exact heq (by rw [e, ← h1, ← h2]))
              have hE : (tb.toList == s.toList) = false := by rw [HTB.out, ByteArray.toList_eq s, HSL.out]; exact beq_eq_false_iff_ne.2 fun e => heq e.symm
              clear heq
              go_wp2_with fail
              refine CT.out.mono ?_
              rintro e w6 ⟨rfl, hb6⟩
              have BW6 := Lib.hid (BW5.out.trans (hb6.mono BW5.out.size))
              clear hb6 k0 k1 q0 q1 f0 f1
              have q0 := (F0.out.below BW6.out).at_ (b := b) (o := 0) (V := .int .i64 0) (by simp)
              have q1 := (F0.out.below BW6.out).at_ (b := b) (o := 1) (V := .slice none 0 0) (by simp)
              have f0 := (F0.out.below BW6.out).fr (b := b) (o := 0) (V := .int .i64 0) (by simp)
              have f1 := (F0.out.below BW6.out).fr (b := b) (o := 1) (V := .slice none 0 0) (by simp)
              have hres := cells_end q0 q1 (.int .i64 0) (.slice none 0 0)
              go_wp2_with fail
              refine bodyPost_ret (v := .tuple #[.agg #[.int .i64 0, .slice none 0 0], .int .i64 6]) (by simp [results, Tryz.results5, go_sem, hres.1, hres.2]) rfl ?_
              rw [HX.out]
              exact RetNC.bad (by rw [HV.out]) (by rw [HV.out]) (by rw [HV.out]) (B0.out.trans (BW6.out.mono B0.out.size)) (by rw [Hbe.out]; exact Nat.le_refl _)
end Go.Proofs.YtbcchiaigincaaaGreatDoor
