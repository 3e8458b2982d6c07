/- LoopsOf on the program's side. -/
import Derived.Test.YtejojliljplcdaaGreatDoorLpd
namespace Go.Proofs.YtejojliljplcdaaGreatDoor
open Go.RowKit
set_option linter.unusedVariables false

set_option maxRecDepth 100000 in
set_option maxHeartbeats 8000000 in
theorem iLoopsOf_any (A1 A2 : Option Addr) (n1 c1 n2 c2 : Nat) (ds : List Int) (act : List (List Int)) (w : World) (hT : Deb w) (h : RdMod w A1 n1 c1 ds A2 n2 c2 act) (hn1 : n1 ≤ 2000000) (hn2 : n2 ≤ 2000000) (ht : totalL act ≤ 2000000) :
    Calls Tryz.prog 17 #[.agg #[.slice A1 n1 c1, .slice A2 n2 c2]] w (RetMc (loD ds act) (loA ds act) (loK ds act) w) := by
  obtain ⟨w0, b, hw0, hbe, hb0, hz0, hF⟩ := start22 w (.slice A1 n1 c1) (.slice A2 n2 c2) (.slice none 0 0) (.slice none 0 0) 27 27
  have hl1 : ds.length = n1 := h.ds.len
  have C0 := Lib.hid (isModule_any A1 A2 n1 c1 n2 c2 ds act w0 (h.below hb0) hn1 hn2 ht)
  have F0 := Lib.hid hF
  have Hw := Lib.hid hw0
  have Hbe := Lib.hid hbe
  have Bw0 := Lib.hid hb0
  have HZ0 := Lib.hid hz0
  have HM0 := Lib.hid (h.below hb0)
  have HT0 := Lib.hid (hT.below hb0)
  have HL1 := Lib.hid hl1
  obtain ⟨X, hX⟩ : ∃ X, X = RetMc (loD ds act) (loA ds act) (loK ds act) w := ⟨_, rfl⟩
  have HX := Lib.hid hX
  rw [← hX]
  have k0 := hF.at_ (b := b) (o := 0) (V := .slice A1 n1 c1) (by simp)
  have k1 := hF.at_ (b := b) (o := 1) (V := .slice A2 n2 c2) (by simp)
  obtain ⟨m, hm⟩ : ∃ m, m = modB ds act := ⟨_, rfl⟩
  rw [← hm] at C0
  clear h hX hF hw0 hbe hb0 hz0 hT hl1
  cases m
  · have HV := Lib.hid (show X = RetMc [] [] 1 w from by rw [HX.out]; unfold loD loA loK; rw [← hm]; simp)
    clear hm
    go_enter Tryz.func17, Tryz.ntmps17
    go_wp2_with fail
    rw [← Hw.out, ← Hbe.out]
    refine C0.out.mono ?_
    rintro e w1 ⟨rfl, hb1⟩
    have F1 := Lib.hid (F0.out.below hb1)
    have q0 := F1.out.at_ (b := b + 1) (o := 0) (V := .slice none 0 0) (by simp)
    have q1 := F1.out.at_ (b := b + 1) (o := 1) (V := .slice none 0 0) (by simp)
    have f0 := F1.out.fr (b := b + 1) (o := 0) (V := .slice none 0 0) (by simp)
    have f1 := F1.out.fr (b := b + 1) (o := 1) (V := .slice none 0 0) (by simp)
    have hres := cells_end q0 q1 (.slice none 0 0) (.slice none 0 0)
    have B1 := Lib.hid (Bw0.out.trans (hb1.mono Bw0.out.size))
    clear k0 k1 hb1
    go_wp2_with fail
    refine bodyPost_ret (v := .tuple #[.agg #[.slice none 0 0, .slice none 0 0], .int .i64 1]) (by simp [results, Tryz.results17, go_sem, hres.1, hres.2]) rfl ?_
    rw [HV.out]
    exact RetMc.void 1 B1.out (by rw [Hbe.out]; omega)
  · have hmb : modB ds act = true := hm.symm
    have hTF : TabF ds act := tabF_of (by unfold modB at hmb; rw [Bool.and_eq_true] at hmb; exact hmb.1)
    have HTF := Lib.hid hTF
    have HST := Lib.hid (stem_mod hmb)
    have HMB := Lib.hid hmb
    have hn16 : n1 ≤ 16 := by rw [← HL1.out]; exact hTF.len
    obtain ⟨lb, hlb⟩ : ∃ lb, lb = loB ds act := ⟨_, rfl⟩
    have CLP := Lib.hid (show ∀ W, Below w0.heap.size w0 W → Calls Tryz.prog 50 #[.agg #[.slice A1 n1 c1, .slice A2 n2 c2]] W (RetBb lb W) from fun W hb => by
      rw [hlb]
      exact isLooped_any A1 A2 n1 c1 n2 c2 ds act W (HM0.out.below hb) HTF.out hn2)
    clear hm hmb hTF
    cases lb
    · have HV := Lib.hid (show X = RetMc [] [] 5 w from by rw [HX.out]; unfold loD loA loK; rw [HMB.out, ← hlb]; simp)
      clear hlb
      go_enter Tryz.func17, Tryz.ntmps17
      go_wp2_with fail
      rw [← Hw.out, ← Hbe.out]
      refine C0.out.mono ?_
      rintro e w1 ⟨rfl, hb1⟩
      have F1 := Lib.hid (F0.out.below hb1)
      have B1 := Lib.hid hb1
      have q0 := F1.out.at_ (b := b) (o := 0) (V := .slice A1 n1 c1) (by simp)
      have q1 := F1.out.at_ (b := b) (o := 1) (V := .slice A2 n2 c2) (by simp)
      clear k0 k1 hb1
      go_wp2_with fail
      refine (CLP.out _ B1.out).mono ?_
      rintro e w2 ⟨rfl, hb2⟩
      have F2 := Lib.hid (F1.out.below hb2)
      have B2 := Lib.hid ((Bw0.out.trans (B1.out.mono Bw0.out.size)).trans (hb2.mono (Nat.le_trans Bw0.out.size B1.out.size)))
      have r0 := F2.out.at_ (b := b + 1) (o := 0) (V := .slice none 0 0) (by simp)
      have r1 := F2.out.at_ (b := b + 1) (o := 1) (V := .slice none 0 0) (by simp)
      have f0 := F2.out.fr (b := b + 1) (o := 0) (V := .slice none 0 0) (by simp)
      have f1 := F2.out.fr (b := b + 1) (o := 1) (V := .slice none 0 0) (by simp)
      have hres := cells_end r0 r1 (.slice none 0 0) (.slice none 0 0)
      clear q0 q1 hb2
      go_wp2_with fail
      refine bodyPost_ret (v := .tuple #[.agg #[.slice none 0 0, .slice none 0 0], .int .i64 5]) (by simp [results, Tryz.results17, go_sem, hres.1, hres.2]) rfl ?_
      rw [HV.out]
      exact RetMc.void 5 B2.out (by rw [Hbe.out]; omega)
    · have HV := Lib.hid (show X = RetMc ((quD (loS ds act) ds).map fun d => d - 1) (quA (loS ds act) ds act) 0 w from by rw [HX.out]; unfold loD loA loK; rw [HMB.out, ← hlb]; simp)
      clear hlb
      go_enter Tryz.func17, Tryz.ntmps17
      go_wp2_with fail
      rw [← Hw.out, ← Hbe.out]
      refine C0.out.mono ?_
      rintro e w1 ⟨rfl, hb1⟩
      have F1 := Lib.hid (F0.out.below hb1)
      have B1 := Lib.hid hb1
      have q0 := F1.out.at_ (b := b) (o := 0) (V := .slice A1 n1 c1) (by simp)
      have q1 := F1.out.at_ (b := b) (o := 1) (V := .slice A2 n2 c2) (by simp)
      clear k0 k1 hb1
      go_wp2_with fail
      refine (CLP.out _ B1.out).mono ?_
      rintro e wr ⟨rfl, hb2⟩
      have B02 := Lib.hid (show Below w0.heap.size w0 wr from B1.out.trans (hb2.mono B1.out.size))
      have BT := Lib.hid (Bw0.out.trans (B02.out.mono Bw0.out.size))
      have FT := Lib.hid (F0.out.below B02.out)
      have MT := Lib.hid (HM0.out.below B02.out)
      have TT := Lib.hid (HT0.out.below B02.out)
      have zb := Lib.hid (show b + 1 + 1 ≤ wr.heap.size from by have := HZ0.out; have := B02.out.size; omega)
      obtain ⟨f, hf⟩ : ∃ f : Nat → Nat → Nat, f = fun j x => sqF (act.map toT) n1 j x := ⟨_, rfl⟩
      have HMl := Lib.hid (show ∀ m ∈ dbN ds (act.map toT), m < 65536 from by
        intro m hm
        obtain ⟨v, hv, rfl⟩ := List.mem_map.1 hm
        have hv' := List.mem_range.1 hv
        unfold dbF
        rw [HTF.out.tri.row hv']
        exact HTF.out.tri.row_lt hv')
      have CD := Lib.hid (show ∀ W, Below wr.heap.size wr W → Calls Tryz.prog 51 #[.agg #[.slice A1 n1 c1, .slice A2 n2 c2]] W (RetO n1 (intsN (dbN ds (act.map toT))) W) from fun W hb => by
        have := doubles_any A1 A2 n1 c1 n2 c2 ds act W (MT.out.below hb) HTF.out HST.out hn2
        rwa [dbN_ints] at this)
      have CG := Lib.hid (show ∀ V W A c, Below wr.heap.size wr V → OwnS V wr.heap.size A n1 c (intsN (dbN ds (act.map toT))) → Below V.heap.size V W → Calls Tryz.prog 45 #[.agg #[.slice A1 n1 c1, .slice A2 n2 c2], .slice A n1 c] W (RetGen f (dbN ds (act.map toT)) A W) from fun V W A c hV ho hb => by
        have hbW := hV.trans (hb.mono hV.size)
        rw [hf]
        exact generated_any A1 A2 A n1 c1 n2 c2 n1 c wr.heap.size ds act _ W (MT.out.below hbW) HTF.out hn2 (ho.below hb) TT.out.pos HMl.out (by omega) (TT.out.below hbW))
      have HBG := Lib.hid (show ∀ V W W' A c, Below wr.heap.size wr V → OwnS V wr.heap.size A n1 c (intsN (dbN ds (act.map toT))) → Below V.heap.size V W → FrG (qB A) W W' → Below wr.heap.size wr W' from fun V W W' A c hV ho hb hf' => by
        have hbW := hV.trans (hb.mono hV.size)
        refine hbW.trans (hf'.below hbW.size fun j ⟨ad, e, hj⟩ => ?_)
        have := (ho.below hb).lt e
        omega)
      have HUS := Lib.hid (show loS ds act = partS f 20 (dbN ds (act.map toT)) from by unfold loS; rw [HL1.out, hf])
      have HFR := Lib.hid (show ∀ j k, k < n1 → f j (2 ^ k) = rowF (act.map toT) j k from fun j k hk => by
        rw [hf, ← HL1.out]
        exact sqF_row HTF.out.tri j k (by rw [HL1.out]; exact hk))
      have HQA := Lib.hid (show ∀ S, quA S ds act = actM (fun j b => toldF S n1 (f j (2 ^ ((keptL S n1)[b]?.getD 0)))) (keptL S n1).length 20 from fun S => by unfold quA; rw [HL1.out, hf])
      have HQD := Lib.hid (show ∀ S, quD S ds = (keptL S n1).map fun i => ds[i]?.getD 0 from fun S => by unfold quD; rw [HL1.out])
      have HQI := Lib.hid (show ∀ S, quI S ds = (List.range n1).map fun i => vecF (toldF S n1 (2 ^ i)) (keptL S n1).length from fun S => by unfold quI; rw [HL1.out])
      have hEntD := enters_of Tryz.func51 (by kernel_rfl) rfl
      have hEntG := enters_of Tryz.func45 (by kernel_rfl) rfl
      have hEntQ := enters_of Tryz.func44 (by kernel_rfl) rfl
      have CELL := Lib.hid (show ∀ W, Below wr.heap.size wr W → W.cell? ⟨b, 0, none⟩ = some (.slice A1 n1 c1) ∧ W.cell? ⟨b, 1, none⟩ = some (.slice A2 n2 c2) from fun W hb => by
        have hF := FT.out.below hb
        exact ⟨hF.at_ (by simp), hF.at_ (by simp)⟩)
      obtain ⟨kb0, kb1⟩ := CELL.out _ (Below.refl _ _)
      have HB1 := Lib.hid (Below.refl wr.heap.size wr)
      have HB2 := Lib.hid (below_dr (Below.refl wr.heap.size wr))
      have HB3 := Lib.hid (below_al (Below.refl wr.heap.size wr) (Nat.le_refl _) (.cells #[.slice none 0 0, .slice none 0 0] 27))
      have HB4 := Lib.hid (below_dr (below_al (Below.refl wr.heap.size wr) (Nat.le_refl _) (.cells #[.slice none 0 0, .slice none 0 0] 27)))
      have OUTC := Lib.hid (show ∀ W : World, Cells [(W.heap.size, 0, .slice none 0 0), (W.heap.size, 1, .slice none 0 0)] (W.alloc (.cells #[.slice none 0 0, .slice none 0 0] 27)) from fun W => (Cells.nil.alloc2 _ _ _ rfl).sub (by intro x hx; simp only [List.mem_cons, List.not_mem_nil, or_false] at hx ⊢; rcases hx with rfl | rfl <;> simp))
      obtain ⟨kz0, kz1⟩ := CELL.out _ HB3.out
      obtain ⟨ky0, ky1⟩ := CELL.out _ HB4.out
      clear hf q0 q1 hb2
      go_upto_region 5 with fail
      go_cut [4] (fun p wc => ∃ (H K d1 d2 : Nat) (A1' A2' : Option Addr), p = .pointer (some ⟨H, 0, none⟩) ∧ Hid (LFin wr wc H K A1' (quD (loS ds act) ds).length d1 (quD (loS ds act) ds) A2' (quA (loS ds act) ds act).length d2 (quA (loS ds act) ds act)))
      case first =>
       go_region_law
        (first
          | (first
              | (refine step_fn1 51 (.tmp 21) #[27] rfl rfl hEntD rfl (CD.out _ HB1.out) ?_
                 rintro e w6 ⟨A6, c6, rfl, ho6, hb6⟩
                 have B6 := Lib.hid hb6)
              | (refine step_fn1 51 (.tmp 21) #[27] rfl rfl hEntD rfl (CD.out _ HB2.out) ?_
                 rintro e w6 ⟨A6, c6, rfl, ho6, hb6⟩
                 have B6 := Lib.hid (HB2.out.trans hb6))
              | (refine step_fn1 51 (.tmp 21) #[27] rfl rfl hEntD rfl (CD.out _ HB3.out) ?_
                 rintro e w6 ⟨A6, c6, rfl, ho6, hb6⟩
                 have B6 := Lib.hid (HB3.out.trans (hb6.mono HB3.out.size))
                 have U6 := Lib.hid ((OUTC.out wr).below hb6)
                 have N6 := Lib.hid (show ∀ ad, A6 = some ad → ad.block ≠ wr.heap.size from fun ad e => by have := (ho6.lt e).1; simp at this; omega))
              | (refine step_fn1 51 (.tmp 21) #[27] rfl rfl hEntD rfl (CD.out _ HB4.out) ?_
                 rintro e w6 ⟨A6, c6, rfl, ho6, hb6⟩
                 have B6 := Lib.hid (HB4.out.trans (hb6.mono HB4.out.size))
                 have U6 := Lib.hid (((OUTC.out wr).below (below_dr (Below.refl _ _))).below hb6)
                 have N6 := Lib.hid (show ∀ ad, A6 = some ad → ad.block ≠ wr.heap.size from fun ad e => by have := (ho6.lt e).1; simp [World.drew] at this; omega))
             refine ⟨_, rfl, ?_⟩
             have O6 := Lib.hid (show OwnS w6 wr.heap.size A6 n1 c6 (intsN (dbN ds (act.map toT))) from ho6.mono (by first | exact Nat.le_refl _ | exact HB2.out.size | exact HB3.out.size | exact HB4.out.size))
             obtain ⟨kc0, kc1⟩ := CELL.out _ B6.out
             have HC1 := Lib.hid (Below.refl w6.heap.size w6)
             have HC2 := Lib.hid (below_al (Below.refl w6.heap.size w6) (Nat.le_refl _) (.cells #[.slice none 0 0, .slice none 0 0] 27))
             obtain ⟨kx0, kx1⟩ := CELL.out _ (B6.out.trans (HC2.out.mono B6.out.size))
             clear ho6 hb6)
          | (first
              | (refine step_fn2 45 (.tmp 20) (.tmp 22) #[27, 22] rfl rfl hEntG rfl rfl (CG.out _ _ _ _ B6.out O6.out HC1.out) ?_
                 rintro e w7 ⟨S, n7, A7, c7, rfl, hr7, hs7, hl7, ho7, hf7⟩
                 have B7 := Lib.hid (HBG.out _ _ _ _ _ B6.out O6.out HC1.out hf7)
                 try (have U7 := Lib.hid (U6.out.frG hf7 (by intro x hx hg; obtain ⟨ad, e, hj⟩ := hg; have := N6.out ad e; simp only [List.mem_cons, List.not_mem_nil, or_false] at hx; rcases hx with rfl | rfl <;> exact this hj))))
              | (refine step_fn2 45 (.tmp 20) (.tmp 22) #[27, 22] rfl rfl hEntG rfl rfl (CG.out _ _ _ _ B6.out O6.out HC2.out) ?_
                 rintro e w7 ⟨S, n7, A7, c7, rfl, hr7, hs7, hl7, ho7, hf7⟩
                 have B7 := Lib.hid (HBG.out _ _ _ _ _ B6.out O6.out HC2.out hf7)
                 have U7 := Lib.hid ((OUTC.out w6).frG hf7 (by intro x hx hg; obtain ⟨ad, e, hj⟩ := hg; have := (O6.out.lt e).2; simp only [List.mem_cons, List.not_mem_nil, or_false] at hx; rcases hx with rfl | rfl <;> · dsimp only at hj; omega)))
             refine ⟨_, rfl, ?_⟩
             have HSe := Lib.hid (show loS ds act = S from by rw [HUS.out]; exact partS_eq hr7 hs7)
             have CQ := Lib.hid (show ∀ W, Below w7.heap.size w7 W → Calls Tryz.prog 44 #[.agg #[.slice A1 n1 c1, .slice A2 n2 c2], .slice A7 n7 c7] W (RetQu (quD (loS ds act) ds) (quA (loS ds act) ds act) (quI (loS ds act) ds) 0 W) from fun W hb => by
               have hbW := B7.out.trans (hb.mono B7.out.size)
               rw [HSe.out, HQA.out, HQD.out, HQI.out]
               exact quotientOf_any A1 A2 A7 n1 c1 n2 c2 n7 c7 ds act S W (MT.out.below hbW) HTF.out hn2 (ho7.below hb).rd hr7.good hl7 (TT.out.below hbW) f HFR.out)
             obtain ⟨kd0, kd1⟩ := CELL.out _ B7.out
             have HD1 := Lib.hid (Below.refl w7.heap.size w7)
             have HD2 := Lib.hid (below_al (Below.refl w7.heap.size w7) (Nat.le_refl _) (.cells #[.slice none 0 0, .slice none 0 0] 27))
             obtain ⟨kw0, kw1⟩ := CELL.out _ (B7.out.trans (HD2.out.mono B7.out.size))
             clear hr7 hs7 hl7 ho7 hf7)
          | (first
              | refine step_fn2 44 (.tmp 19) (.tmp 23) #[27, 22] rfl rfl hEntQ rfl rfl (CQ.out _ HD1.out) ?_
              | refine step_fn2 44 (.tmp 19) (.tmp 23) #[27, 22] rfl rfl hEntQ rfl rfl (CQ.out _ HD2.out) ?_
             rintro e w8 ⟨B1', d1, B2', d2, B3', d3, K1, K2, rfl, hk1, hk2, p1, p2, p3, p4, pb⟩
             refine ⟨_, rfl, ?_⟩
             first
               | (have U8 := Lib.hid (U7.out.below pb)
                  have ku0 := U8.out.c _ (List.mem_cons_self ..)
                  have ku1 := U8.out.c _ (List.mem_cons_of_mem _ (List.mem_cons_self ..))
                  have fu0 := U8.out.f _ (List.mem_cons_self ..)
                  have fu1 := U8.out.f _ (List.mem_cons_of_mem _ (List.mem_cons_self ..)))
               | (have U8 := Lib.hid ((OUTC.out w7).below pb)
                  have ku0 := U8.out.c _ (List.mem_cons_self ..)
                  have ku1 := U8.out.c _ (List.mem_cons_of_mem _ (List.mem_cons_self ..))
                  have fu0 := U8.out.f _ (List.mem_cons_self ..)
                  have fu1 := U8.out.f _ (List.mem_cons_of_mem _ (List.mem_cons_self ..)))
               | skip
             have B8 := Lib.hid (show Below wr.heap.size wr w8 from by
               first
                 | exact B7.out.trans (pb.mono B7.out.size)
                 | exact (B7.out.trans (HD2.out.mono B7.out.size)).trans (pb.mono (Nat.le_trans B7.out.size HD2.out.size)))
             obtain ⟨K8, q1, q2, q3, q4⟩ := part_min hk1 pb.size p1 p2 p3.own
             have P8 := Lib.hid (And.intro q1 (And.intro q2 (And.intro p1 (And.intro q3 q4))))
             clear hk1 hk2 p1 p2 p3 p4 pb q1 q2 q3 q4))
       all_goals
         go_wp2_with fail
         go_meet
         first
           | exact ⟨_, _, _, _, _, _, rfl, Lib.hid (LFin.new B7.out.size P8.out.1 P8.out.2.1 P8.out.2.2.1 P8.out.2.2.2.1 P8.out.2.2.2.2 B8.out)⟩
           | exact ⟨_, _, _, _, _, _, rfl, Lib.hid (LFin.set B7.out.size (by simp) P8.out.1 P8.out.2.1 U8.out P8.out.2.2.1 P8.out.2.2.2.1 P8.out.2.2.2.2 B8.out)⟩
           | exact ⟨_, _, _, _, _, _, rfl, Lib.hid (LFin.set B6.out.size (U7.out.lt (_, 0, .slice none 0 0) (by simp)) P8.out.1 P8.out.2.1 U8.out P8.out.2.2.1 P8.out.2.2.2.1 P8.out.2.2.2.2 B8.out)⟩
           | exact ⟨_, _, _, _, _, _, rfl, Lib.hid (LFin.set (Nat.le_refl _) (U7.out.lt (_, 0, .slice none 0 0) (by simp)) P8.out.1 P8.out.2.1 U8.out P8.out.2.2.1 P8.out.2.2.2.1 P8.out.2.2.2.2 B8.out)⟩
      case rest =>
        obtain ⟨H, K, d1, d2, A1', A2', rfl, hq⟩ := hcut
        obtain ⟨D, hD⟩ : ∃ D, D = quD (loS ds act) ds := ⟨_, rfl⟩
        obtain ⟨AA, hAA⟩ : ∃ AA, AA = quA (loS ds act) ds act := ⟨_, rfl⟩
        have hDb : ∀ d ∈ D, 0 ≤ d ∧ d ≤ 20 := by
          intro d hd
          rw [hD] at hd
          obtain ⟨i, hi, rfl⟩ := List.mem_map.1 hd
          have hi := (keptL_lt hi).1
          rw [List.getElem?_eq_getElem hi]
          exact HST.out _ (List.getElem_mem hi)
        have hDl : D.length ≤ 16 := by
          rw [hD]
          unfold quD
          rw [List.length_map]
          exact Nat.le_trans (keptL_len _ _) HTF.out.len
        rw [← hD, ← hAA] at hq HV
        have HDb := Lib.hid hDb
        obtain ⟨m1, hm1⟩ : ∃ m1, m1 = D.length := ⟨_, rfl⟩
        obtain ⟨m2, hm2⟩ : ∃ m2, m2 = AA.length := ⟨_, rfl⟩
        rw [← hm1] at hDl
        rw [← hm1, ← hm2] at hq
        have HM1 := Lib.hid hm1
        have HM2 := Lib.hid hm2
        obtain ⟨wq, hwq⟩ : ∃ W : World, W = wr := ⟨_, rfl⟩
        subst hwq
        have Q0 := Lib.hid (show LFin wq wc H K A1' m1 d1 (lowD D 0) A2' m2 d2 AA from by rw [lowD_zero]; exact hq.out)
        have kh0 := hq.out.cs.at_ (b := H) (o := 0) (V := .slice A1' m1 d1) (by simp)
        clear hD hAA hDb hm1 hm2
        go_wp2_with fail
        go_loopw [31] (fun i wr => ∃ k : Nat, k ≤ m1 ∧ i = .int .i64 k ∧ Hid (LFin wq wr H K A1' m1 d1 (lowD D k) A2' m2 d2 AA)) (fun i _ => m1 - (intOf i).toNat)
        case atStart => exact ⟨0, Nat.zero_le _, rfl, Q0⟩
        case round =>
          clear Q0 kh0
          obtain ⟨k, hk, rfl, HQ⟩ := hrel
          have kh0 := HQ.out.cs.at_ (b := H) (o := 0) (V := .slice A1' m1 d1) (by simp)
          by_cases hkm : k < m1
          · obtain ⟨g, x, rfl, hx, hc, hf, hset⟩ := HQ.out.low hkm
            obtain ⟨d, hd⟩ : ∃ d, D[k]? = some d := ⟨_, List.getElem?_eq_getElem (by rw [← HM1.out]; exact hkm)⟩
            obtain rfl : x = d := by have := hx.out; rw [lowD_at hd] at this; exact (Option.some.inj this).symm
            obtain ⟨hx0, hx20⟩ := HDb.out x (List.mem_of_getElem? hd)
            have hwx : IntKind.i64.wrap (x - 1) = x - 1 := by rw [IntKind.wrap_i64]; omega
            have N7 := Lib.hid (show LFin wq (wr.setCell ⟨g, k, none⟩ (.int .i64 (x - 1))) H K (some ⟨g, 0, none⟩) m1 d1 (lowD D (k + 1)) A2' m2 d2 AA from by
              have := hset (x - 1)
              rwa [lowD_set hd] at this)
            have hki : (k : Int) < (m1 : Int) := by omega
            clear hset hd hx
            go_wp2_with fail
            go_roundw
            case rel => exact ⟨k + 1, by omega, by go_num, N7⟩
            case measure => simp [intOf]; omega
          · obtain rfl : m1 = k := by omega
            have hki : ¬ (m1 : Int) < (m1 : Int) := by omega
            have kh1 := HQ.out.cs.at_ (b := H) (o := 1) (V := .slice A2' m2 d2) (by simp)
            have hFv := Lib.hid (FT.out.below HQ.out.bel)
            have q0 := hFv.out.at_ (b := b + 1) (o := 0) (V := .slice none 0 0) (by simp)
            have q1 := hFv.out.at_ (b := b + 1) (o := 1) (V := .slice none 0 0) (by simp)
            have f0 := hFv.out.fr (b := b + 1) (o := 0) (V := .slice none 0 0) (by simp)
            have f1 := hFv.out.fr (b := b + 1) (o := 1) (V := .slice none 0 0) (by simp)
            have hres := cells_end q0 q1 (.slice A1' m1 d1) (.slice A2' m2 d2)
            have FX := Lib.hid (show X (.returned (.tuple #[.agg #[.slice A1' m1 d1, .slice A2' m2 d2], .int .i64 0])) ((wr.setCell ⟨b + 1, 0, none⟩ (.slice A1' m1 d1)).setCell ⟨b + 1, 1, none⟩ (.slice A2' m2 d2)) from by
              rw [HV.out]
              have h1 := HQ.out
              rw [show lowD D m1 = D.map fun d => d - 1 from by rw [HM1.out]; exact lowD_all D] at h1
              exact h1.ret BT.out (by have := Hbe.out; omega) zb.out (by rw [List.length_map]; exact HM1.out.symm) HM2.out.symm)
            go_wp2_with fail
            refine bodyPost_ret (v := .tuple #[.agg #[.slice A1' m1 d1, .slice A2' m2 d2], .int .i64 0]) (by simp [results, Tryz.results17, go_sem, hres.1, hres.2]) rfl ?_
            exact FX.out
end Go.Proofs.YtejojliljplcdaaGreatDoor
