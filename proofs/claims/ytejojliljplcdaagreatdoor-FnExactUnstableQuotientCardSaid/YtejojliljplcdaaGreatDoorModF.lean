/- The walk of spec.l11Fault; spec.l11Is, impl.IsModule. -/
import Derived.Test.YtejojliljplcdaaGreatDoorLeft
import Derived.Test.YtejojliljplcdaaGreatDoorTabP
import Derived.Lib.SliceRun
namespace Go.Proofs.YtejojliljplcdaaGreatDoor
open Go.RowKit
set_option linter.unusedVariables false

theorem rd_new2 (w : World) (x y : Int) : RdS (w.alloc (.cells #[.int .i64 x, .int .i64 y] 2)) (w.alloc (.cells #[.int .i64 x, .int .i64 y] 2)).heap.size (some ⟨w.heap.size, 0, none⟩) 2 2 [x, y] :=
  ⟨rfl, Nat.le_refl _, fun j hj => ⟨_, rfl, by simp, by
    have hj2 : j = 0 ∨ j = 1 := by simp at hj; omega
    rcases hj2 with rfl | rfl
    · simp [Addr.add]
    · simp [Addr.add]⟩⟩

theorem same_bad {ds : List Int} {T : List Tri} (h : TriF ds T) {a b v : Nat} (hv : v < ds.length) :
    decide (vecF (spW T [(a : Int), (b : Int)] (2 ^ v)) ds.length = vecF (xorL (fun x => spW T x (2 ^ v)) (formF a b)) ds.length) = decide (badX T ds.length a b v = 0) := by
  rw [decide_eq_decide, h.bad hv]
  refine ⟨fun e => vecF_inj (h.spW_lt (two_pow_lt hv) _) (xorL_lt fun x _ => h.spW_lt (two_pow_lt hv) x) e, fun e => by rw [e]⟩
theorem formF_len {a b : Nat} {x : List Int} (h : x ∈ formF a b) : x.length ≤ 2 := leftP_mem (m := a / 2 + 1) h
theorem formF_pos {a b : Nat} (h : a / 2 + 1 ≤ b) {x : List Int} (hx : x ∈ formF a b) : ∀ z ∈ x, 0 ≤ z := by
  obtain ⟨j, hj, rfl⟩ := List.mem_map.1 (oddL_mem hx)
  have := relF_mem hj
  unfold wrd
  intro z hz
  split at hz
  · simp at hz; omega
  · simp at hz; omega
theorem formF_size (a b : Nat) : (formF a b).length ≤ a / 2 + 1 := leftP_len a b (a / 2 + 1)
theorem tab_sort {ds : List Int} {act : List (List Int)} (h : tabB ds act = true) : sortB ds = true ∧ stemB ds = true := by
  unfold tabB at h
  simp only [Bool.and_eq_true] at h
  exact ⟨h.1.1.2, h.1.1.1.2⟩

set_option maxRecDepth 100000 in
set_option maxHeartbeats 8000000 in
theorem fault11_any (A1 A2 : Option Addr) (n1 c1 n2 c2 : Nat) (ds : List Int) (act : List (List Int)) (w : World) (h : RdMod w A1 n1 c1 ds A2 n2 c2 act) (ht : tabB ds act = true) (hn2 : n2 ≤ 2000000) :
    Calls Tryz.prog 75 #[.agg #[.slice A1 n1 c1, .slice A2 n2 c2]] w (RetNil (noFB (act.map toT) n1 20) w) := by
  have HT := Lib.hid (tabF_of ht)
  have hn : n1 ≤ 16 := by rw [← h.ds.len]; exact HT.out.len
  have HL1 := Lib.hid h.ds.len
  obtain ⟨hso, hst⟩ := tab_sort ht
  have HSO := Lib.hid hso
  have HST := Lib.hid (stem_mem hst)
  obtain ⟨w0, b0, hw0, hbe, hb0, hz0', hF⟩ := start1 w (.slice A1 n1 c1) (.slice A2 n2 c2) 27
  have H := Lib.hid (h.below hb0)
  have Hw := Lib.hid hw0
  have Hbe := Lib.hid hbe
  have Hb0 := Lib.hid hb0
  have F0 := Lib.hid hF
  have k0 := F0.out.at_ (b := b0) (o := 0) (V := .slice A1 n1 c1) (by simp)
  obtain ⟨R, hR⟩ : ∃ R, R = RetNil (noFB (act.map toT) n1 20) w := ⟨_, rfl⟩
  have HR := Lib.hid hR
  rw [← hR]
  clear h ht hso hst hw0 hbe hb0 hF hR
  by_cases h0 : n1 = 0
  · subst h0
    have HN := Lib.hid (noFB_yes (T := act.map toT) (n := 0) (N := 20) (fun a b v _ _ _ hv => absurd hv (by omega)))
    go_enter Tryz.func75, Tryz.ntmps75
    go_wp2_with fail
    rw [← Hw.out, ← Hbe.out]
    go_wp2_with fail
    rw [HR.out]
    exact RetNil.nil HN.out Hb0.out
  · obtain ⟨adx, f, rfl, _, hf, hcf⟩ := H.out.ds.at_ (k := 0) (by omega)
    obtain ⟨p, hp⟩ : ∃ p, p = n1 - 1 := ⟨_, rfl⟩
    obtain ⟨adx', l, had, _, hl, hcl⟩ := H.out.ds.at_ (k := p) (by omega)
    obtain rfl : adx = adx' := by simpa using had
    clear had
    have hcf0 : w0.cell? adx = some (.int .i64 f) := by simpa [Addr.add] using hcf
    have hfb := HST.out f (mem_of hf)
    have hlb := HST.out l (mem_of hl)
    have hfl := sort_le HSO.out 0 p f l (Nat.zero_le _) hf.out hl.out
    obtain ⟨s, hs⟩ : ∃ s : Nat, (s : Int) = l - f := ⟨(l - f).toNat, by omega⟩
    have hs20 : s ≤ 20 := by omega
    have hlx : ds[ds.length - 1]? = some l := by rw [HL1.out, ← hp]; exact hl.out
    have HSP := Lib.hid (HT.out.tri.span HSO.out hf.out hlx hs hs20)
    rw [HL1.out] at HSP
    have hwp : IntKind.i64.wrap ((n1 : Int) - 1) = (p : Int) := by rw [IntKind.wrap_i64]; omega
    have hwf : IntKind.i64.wrap (l - f) = (s : Int) := by rw [IntKind.wrap_i64]; omega
    have hwf2 : wrap64 (l - f) = (s : Int) := by unfold wrap64; omega
    have hpn : (p : Int) < (n1 : Int) := by omega
    have hp0 : (0 : Int) ≤ (p : Int) := by omega
    have hn0 : (0 : Int) < (n1 : Int) := by omega
    have hne1 : ((n1 : Int) == 0) = false := by simp; omega
    have hne2 : ¬ ((n1 : Int) = 0) := by omega
    have hcl2 : w0.cell? (adx.add (n1 - 1)) = some (.int .i64 l) := by rw [← hp]; exact hcl
    have hnn : n1 - 1 < n1 := by omega
    clear hf hl hcf hfb hlb hfl hs hlx h0
    go_enter Tryz.func75, Tryz.ntmps75
    go_wp2_with fail
    rw [← Hw.out, ← Hbe.out]
    go_wp2_with fail
    go_region
    go_wp2_with fail
    have HX0 := Lib.hid (below_drewN (Below.refl w0.heap.size w0) 1)
    have HZ0 := Lib.hid (show w0.heap.size ≤ w0.heap.size from Nat.le_refl _)
    clear hcl hcl2 hcf0 hwp hwf hwf2 hpn hp0 hn0 hne1 hne2 hnn hp
    go_loopw [5] (fun i wr => ∃ a : Nat, 1 ≤ a ∧ a ≤ s + 1 ∧ i = .int .i64 a ∧ Hid (nb (act.map toT) n1 s a 0 0) ∧ Hid (Below w0.heap.size w0 wr)) (fun i _ => 22 - (intOf i).toNat)
    case atStart => exact ⟨1, by omega, by omega, rfl, Lib.hid nb.start, HX0⟩
    case round =>
      clear HX0 k0
      obtain ⟨a, ha1, ha2, rfl, HN, HX⟩ := hrel
      by_cases hlt : a ≤ s
      · obtain ⟨b1, hb1⟩ : ∃ b1, b1 = a / 2 + 1 := ⟨_, rfl⟩
        have hb12 : b1 ≤ 11 := by omega
        have HN2 := Lib.hid (show nb (act.map toT) n1 s a b1 0 from by rw [hb1]; exact HN.out.inB)
        have HB0 := Lib.hid hb1
        have HB1 := Lib.hid (show ((a : Int) / 2 + 1) = (b1 : Int) from by omega)
        have has : (a : Int) ≤ (s : Int) := by omega
        clear hb1 HN
        go_wp2_with fail
        go_loopw [6] (fun i wr => ∃ b : Nat, b1 ≤ b ∧ b ≤ 21 ∧ i = .int .i64 b ∧ Hid (nb (act.map toT) n1 s a b 0) ∧ Hid (Below w0.heap.size w0 wr)) (fun i _ => 22 - (intOf i).toNat)
        case atStart => exact ⟨b1, Nat.le_refl _, by omega, by rw [HB1.out], HN2, HX⟩
        case round =>
          clear HN2 HX
          obtain ⟨b, hb1, hb2, rfl, HN, HX⟩ := hrel
          have hwab : IntKind.i64.wrap ((a : Int) + (b : Int)) = (a : Int) + (b : Int) := by rw [IntKind.wrap_i64]; omega
          by_cases hab : a + b ≤ s
          · have habd : decide ((a : Int) + (b : Int) ≤ (s : Int)) = true := by simp; omega
            have habd2 : (a : Int) + (b : Int) ≤ (s : Int) := by omega
            have hba : a / 2 + 1 ≤ b := by have := HB0.out; omega
            have C0 := Lib.hid (form_any a b (some ⟨wr.heap.size, 0, none⟩) 2 (wr.alloc (.cells #[.int .i64 (a : Int), .int .i64 (b : Int)] 2)) (rd_new2 wr a b) ha1 hba (by omega))
            have HP1 := Lib.hid (fun (x : List Int) (hx : x ∈ formF a b) => And.intro (Nat.le_trans (formF_len hx) (by decide : 2 ≤ 1000)) (formF_pos hba hx))
            have hlz := formF_size a b
            have HSB := fun v (hv : v < n1) => Lib.hid (show _ = _ from same_bad HT.out.tri (a := a) (b := b) (v := v) (by rw [HL1.out]; exact hv))
            rw [HL1.out] at HSB
            obtain ⟨zs, hzs⟩ : ∃ z, z = formF a b := ⟨_, rfl⟩
            rw [← hzs] at C0 HP1 hlz HSB
            unfold RetRL at C0
            obtain ⟨l, hl⟩ : ∃ l, l = zs.length := ⟨_, rfl⟩
            rw [← hl] at C0 hlz
            have hl11 : l ≤ 1000 := by omega
            clear hzs hl hlz
            go_wp2_with fail
            refine C0.out.mono ?_
            rintro e w1 ⟨A5, c5, rfl, ho5, hb5⟩
            have X5 := Lib.hid ((HX.out.alloc HX.out.size _).trans (hb5.mono (Nat.le_trans HX.out.size (Ext.alloc (Ext.refl wr) _).size)))
            have HW5 := Lib.hid ho5
            have HR1 := Lib.hid (Below.refl w1.heap.size w1)
            clear ho5 hb5 HX C0
            go_wp2_with fail
            go_loopw [8] (fun i wr => ∃ v : Nat, v ≤ n1 ∧ i = .int .i64 v ∧ Hid (nb (act.map toT) n1 s a b v) ∧ Hid (Below w1.heap.size w1 wr)) (fun i _ => n1 - (intOf i).toNat)
            case atStart => exact ⟨0, Nat.zero_le _, rfl, HN, HR1⟩
            case round =>
              clear HN HR1
              obtain ⟨v, hv, rfl, HN, HX⟩ := hrel
              by_cases hvn : v < n1
              · have C1 := Lib.hid (unit_any n1 v wr hvn hn)
                have hvn' : (v : Int) < (n1 : Int) := by omega
                go_wp2_with fail
                refine C1.out.mono ?_
                rintro e w2 ⟨A6, c6, rfl, ho6, hb6⟩
                have X6 := Lib.hid (HX.out.trans (hb6.mono HX.out.size))
                have HU := Lib.hid ho6.rd
                have Y6 := Lib.hid (X5.out.trans (X6.out.mono X5.out.size))
                have E6 := Lib.hid (Ext.alloc (Ext.refl w2) (.cells #[.int .i64 (a : Int), .int .i64 (b : Int)] 2))
                have C2 := Lib.hid (word11_any (some adx) A2 A6 (some ⟨w2.heap.size, 0, none⟩) n1 c1 n2 c2 c6 2 2 (2 ^ v) ds act [(a : Int), (b : Int)] ((w2.alloc (.cells #[.int .i64 (a : Int), .int .i64 (b : Int)] 2)).drewN 1)
                  (H.out.below (Y6.out.trans ((below_drewN E6.out 1).mono Y6.out.size))) HT.out hn2 ((rd_new2 w2 a b).drewN 1) (by decide) (by simp) (((HU.out.below (below_drewN E6.out 1))).mono (below_drewN E6.out 1).size))
                have hd := HSB v hvn
                obtain ⟨X, hX⟩ : ∃ X, X = vecF (spW (act.map toT) [(a : Int), (b : Int)] (2 ^ v)) n1 := ⟨_, rfl⟩
                obtain ⟨Y, hY⟩ : ∃ Y, Y = vecF (xorL (fun x => spW (act.map toT) x (2 ^ v)) zs) n1 := ⟨_, rfl⟩
                rw [← hX] at C2
                rw [← hX, ← hY] at hd
                have HY := Lib.hid hY
                obtain ⟨d, hdd⟩ : ∃ d, d = decide (X = Y) := ⟨_, rfl⟩
                rw [← hdd] at hd
                have HD := Lib.hid hdd
                have k0 := (F0.out.below Y6.out).at_ (b := b0) (o := 0) (V := .slice (some adx) n1 c1) (by simp)
                have k1 := (F0.out.below Y6.out).at_ (b := b0) (o := 1) (V := .slice A2 n2 c2) (by simp)
                have YA := Lib.hid (Y6.out.trans ((below_drewN E6.out 1).mono Y6.out.size))
                have ka0 := (F0.out.below YA.out).at_ (b := b0) (o := 0) (V := .slice (some adx) n1 c1) (by simp)
                have ka1 := (F0.out.below YA.out).at_ (b := b0) (o := 1) (V := .slice A2 n2 c2) (by simp)
                clear ho6 hb6 hX hY hdd C1
                go_wp2_with fail
                go_region_held3 (fun w' => w'.cell? ⟨b0, 0, none⟩ = some (.slice (some adx) n1 c1) ∧ w'.cell? ⟨b0, 1, none⟩ = some (.slice A2 n2 c2)) (first | exact ⟨k0, k1⟩ | exact ⟨ka0, ka1⟩ | exact ⟨kb0, kb1⟩ | exact ⟨kc0, kc1⟩)
                  (first
                    | (go_at_call 111
                       refine C2.out.mono ?_
                       rintro e w3 ⟨A7, c7, rfl, ho7, hb7⟩
                       have E7 := Lib.hid (Ext.trans (below_drewN E6.out 1) hb7)
                       have Y7 := Lib.hid (Y6.out.trans (E7.out.mono Y6.out.size))
                       have kb0 := (F0.out.below Y7.out).at_ (b := b0) (o := 0) (V := .slice (some adx) n1 c1) (by simp)
                       have kb1 := (F0.out.below Y7.out).at_ (b := b0) (o := 1) (V := .slice A2 n2 c2) (by simp)
                       have H7 := Lib.hid ho7
                       clear ho7 hb7)
                    | (go_at_call 112
                       have C3 := words11_any (some adx) A2 A6 A5 n1 c1 n2 c2 c6 l c5 (2 ^ v) ds act zs w3 (H.out.below Y7.out) HT.out hn2 ((HW5.out.below (Ext.trans X6.out E7.out)).mono (Ext.trans X6.out E7.out).size) hl11 HP1.out ((HU.out.below E7.out).mono E7.out.size)
                       rw [← HY.out] at C3
                       refine C3.mono ?_
                       rintro e w4 ⟨A8, c8, rfl, ho8, hb8⟩
                       have Y8 := Lib.hid (Y7.out.trans (hb8.mono Y7.out.size))
                       have kc0 := (F0.out.below Y8.out).at_ (b := b0) (o := 0) (V := .slice (some adx) n1 c1) (by simp)
                       have kc1 := (F0.out.below Y8.out).at_ (b := b0) (o := 1) (V := .slice A2 n2 c2) (by simp)
                       have H8 := Lib.hid ho8
                       have H78 := Lib.hid ((H7.out.below hb8).mono hb8.size)
                       have E8 := Lib.hid (Ext.trans X6.out (Ext.trans E7.out hb8))
                       clear ho8 hb8 C3)
                    | (go_at_call 110
                       have C4 := same_any A7 A8 c7 c8 n1 n1 _ _ X Y w4 H78.out H8.out (by omega) (by omega)
                       rw [← HD.out] at C4
                       refine C4.mono ?_
                       rintro e w5 ⟨rfl, q, rfl⟩
                       clear C4))
                have XF := Lib.hid (below_drewN E8.out q)
                have YF := Lib.hid (X5.out.trans (XF.out.mono X5.out.size))
                clear k0 k1 ka0 ka1 kb0 kb1 kc0 kc1 C2 YA E6 E7 Y7 Y8 H7 H8 H78 HU X6 Y6 HD HY E8
                generalize hwF : w4.drewN q = wF at XF YF ⊢
                clear hwF
                cases hdd : d
                · rw [hdd] at hd
                  have hbad : badX (act.map toT) n1 a b v ≠ 0 := of_decide_eq_false hd.symm
                  have HNo := Lib.hid (noFB_no (T := act.map toT) (n := n1) (N := 20) (fun h => nb.hit ha1 hba hab hvn hbad (HSP.out.2 h)))
                  clear hd hbad
                  go_wp2_with fail
                  rw [HR.out]
                  exact RetNil.some HNo.out (by omega) (Hb0.out.trans ((YF.out.alloc YF.out.size _).mono Hb0.out.size))
                · rw [hdd] at hd
                  have HN2 := Lib.hid (HN.out.step (of_decide_eq_true hd.symm))
                  clear hd HN
                  go_wp2_with fail
                  go_roundw
                  case rel => exact ⟨v + 1, by omega, by go_num, HN2, XF⟩
                  case measure => simp [intOf]; omega
              · obtain rfl : v = n1 := by omega
                have HN2 := Lib.hid HN.out.nextB
                have Y6 := Lib.hid (X5.out.trans (HX.out.mono X5.out.size))
                clear HN hvn
                go_wp2_with fail
                go_roundw
                case rel => exact ⟨b + 1, by omega, by omega, by go_num, HN2, Y6⟩
                case measure => simp [intOf]; omega
          · have habd : decide ((a : Int) + (b : Int) ≤ (s : Int)) = false := by simp; omega
            have habd2 : ¬ (a : Int) + (b : Int) ≤ (s : Int) := by omega
            have HN2 := Lib.hid (HN.out.nextA (by omega))
            clear HN
            go_wp2_with fail
            go_roundw
            case rel => exact ⟨a + 1, by omega, by omega, by go_num, HN2, HX⟩
            case measure => simp [intOf]; omega
      · have has : ¬ (a : Int) ≤ (s : Int) := by omega
        have HYes := Lib.hid (noFB_yes (HSP.out.1 (HN.out.all (by omega))))
        go_wp2_with fail
        rw [HR.out]
        exact RetNil.nil HYes.out (Hb0.out.trans (HX.out.mono Hb0.out.size))

set_option maxHeartbeats 1000000 in
theorem l11Is_any (A1 A2 : Option Addr) (n1 c1 n2 c2 : Nat) (ds : List Int) (act : List (List Int)) (w : World) (h : RdMod w A1 n1 c1 ds A2 n2 c2 act) (hn1 : n1 ≤ 2000000) (hn2 : n2 ≤ 2000000) (ht : totalL act ≤ 2000000) :
    Calls Tryz.prog 36 #[.agg #[.slice A1 n1 c1, .slice A2 n2 c2]] w (RetBb (modB ds act) w) := by
  obtain ⟨w0, b, hw0, hbe, hb0, hz0', hF⟩ := start1 w (.slice A1 n1 c1) (.slice A2 n2 c2) 27
  have HL1 := Lib.hid h.ds.len
  have H := Lib.hid (h.below hb0)
  have Hw := Lib.hid hw0
  have Hbe := Lib.hid hbe
  have Hb0 := Lib.hid hb0
  have k0 := hF.at_ (b := b) (o := 0) (V := .slice A1 n1 c1) (by simp)
  have k1 := hF.at_ (b := b) (o := 1) (V := .slice A2 n2 c2) (by simp)
  have F0 := Lib.hid hF
  have C1 := Lib.hid (l11Shape_any A1 A2 n1 c1 n2 c2 ds act w0 H.out hn1 hn2 ht)
  obtain ⟨R, hR⟩ : ∃ R, R = RetBb (modB ds act) w := ⟨_, rfl⟩
  have HR := Lib.hid hR
  rw [← hR]
  clear h hw0 hbe hb0 hF hR ht
  obtain ⟨t, htt⟩ : ∃ t, t = tabB ds act := ⟨_, rfl⟩
  rw [← htt] at C1
  cases t
  · have HV := Lib.hid (show modB ds act = false from by unfold modB; rw [← htt]; rfl)
    clear htt
    go_enter Tryz.func36, Tryz.ntmps36
    go_wp2_with fail
    rw [← Hw.out, ← Hbe.out]
    go_wp2_with fail
    refine C1.out.mono ?_
    rintro e w1 ⟨rfl, hb1⟩
    have X1 := Lib.hid (Hb0.out.trans (hb1.mono Hb0.out.size))
    clear hb1
    go_wp2_with fail
    rw [HR.out]
    exact RetBb.mk HV.out.symm X1.out
  · have HV := Lib.hid (show modB ds act = noFB (act.map toT) n1 20 from by unfold modB noFB; rw [← htt, HL1.out]; rfl)
    have C2 := fun (W : World) (hB : Below w0.heap.size w0 W) => Lib.hid (fault11_any A1 A2 n1 c1 n2 c2 ds act W (H.out.below hB) htt.symm hn2)
    obtain ⟨v, hv⟩ : ∃ v, v = noFB (act.map toT) n1 20 := ⟨_, rfl⟩
    rw [← hv] at HV C2
    clear htt hv
    go_enter Tryz.func36, Tryz.ntmps36
    go_wp2_with fail
    rw [← Hw.out, ← Hbe.out]
    go_wp2_with fail
    refine C1.out.mono ?_
    rintro e w1 ⟨rfl, hb1⟩
    have X1 := Lib.hid hb1
    have k2 := (F0.out.below X1.out).at_ (b := b) (o := 0) (V := .slice A1 n1 c1) (by simp)
    have k3 := (F0.out.below X1.out).at_ (b := b) (o := 1) (V := .slice A2 n2 c2) (by simp)
    clear hb1
    go_wp2_with fail
    refine (C2 w1 X1.out).out.mono ?_
    rintro e w2 ⟨hb2, h2⟩
    have X2 := Lib.hid (Hb0.out.trans ((X1.out.trans (hb2.mono X1.out.size)).mono Hb0.out.size))
    clear hb2
    rcases h2 with ⟨rfl, rfl⟩ | ⟨rfl, g, k, c, hk, rfl⟩
    · go_wp2_with fail
      rw [HR.out]
      exact RetBb.mk HV.out.symm X2.out
    · have hk1 : ((k : Int) == 0) = false := by simp; omega
      have hk2 : ¬ ((k : Int) = 0) := by omega
      go_wp2_with fail
      rw [HR.out]
      exact RetBb.mk HV.out.symm X2.out
end Go.Proofs.YtejojliljplcdaaGreatDoor

/- The walk of impl.IsModule. -/
namespace Go.Proofs.YtejojliljplcdaaGreatDoor
open Go.RowKit
set_option linter.unusedVariables false

theorem nilS (a : Option Addr) (n c n' c' : Nat) (W : World) : (binOp .eql 22 (.slice a n c) (.slice none n' c')).run Tryz.prog W = .ok (.bool a.isNone) W := Lib.run_eql_slice_nil W _ _ a n c n' c' Tryz.underlying22

set_option maxHeartbeats 1000000 in
theorem isModule_any (A1 A2 : Option Addr) (n1 c1 n2 c2 : Nat) (ds : List Int) (act : List (List Int)) (w : World) (h : RdMod w A1 n1 c1 ds A2 n2 c2 act) (hn1 : n1 ≤ 2000000) (hn2 : n2 ≤ 2000000) (ht : totalL act ≤ 2000000) :
    Calls Tryz.prog 42 #[.agg #[.slice A1 n1 c1, .slice A2 n2 c2]] w (RetBb (modB ds act) w) := by
  obtain ⟨w0, b, hw0, hbe, hb0, hz0', hF⟩ := start1 w (.slice A1 n1 c1) (.slice A2 n2 c2) 27
  have HL1 := Lib.hid h.ds.len
  have H := Lib.hid (h.below hb0)
  have Hw := Lib.hid hw0
  have Hbe := Lib.hid hbe
  have Hb0 := Lib.hid hb0
  have k0 := hF.at_ (b := b) (o := 0) (V := .slice A1 n1 c1) (by simp)
  have k1 := hF.at_ (b := b) (o := 1) (V := .slice A2 n2 c2) (by simp)
  have F0 := Lib.hid hF
  have C1 := Lib.hid (isTable_any A1 A2 n1 c1 n2 c2 ds act w0 H.out hn1 hn2 ht)
  obtain ⟨R, hR⟩ : ∃ R, R = RetBb (modB ds act) w := ⟨_, rfl⟩
  have HR := Lib.hid hR
  rw [← hR]
  clear h hw0 hbe hb0 hF hR ht
  obtain ⟨t, htt⟩ : ∃ t, t = tabB ds act := ⟨_, rfl⟩
  rw [← htt] at C1
  cases t
  · have HV := Lib.hid (show modB ds act = false from by unfold modB; rw [← htt]; rfl)
    clear htt
    have hnil := fun (a : Option Addr) (n c n' c' : Nat) (W : World) => nilS a n c n' c' W
    go_enter Tryz.func42, Tryz.ntmps42
    go_wp2_with fail
    rw [← Hw.out, ← Hbe.out]
    go_wp2_with fail
    refine C1.out.mono ?_
    rintro e w1 ⟨rfl, hb1⟩
    have X1 := Lib.hid (Hb0.out.trans (hb1.mono Hb0.out.size))
    clear hb1
    go_wp2_with fail
    rw [HR.out]
    exact RetBb.mk HV.out.symm X1.out
  · have HV := Lib.hid (show modB ds act = noFB (act.map toT) n1 20 from by unfold modB noFB; rw [← htt, HL1.out]; rfl)
    have HTF := Lib.hid (tabF_of htt.symm)
    have C2 := fun (W : World) (hB : Below w0.heap.size w0 W) => Lib.hid (tableOf_any A1 A2 n1 c1 n2 c2 ds act W (H.out.below hB) HTF.out hn2)
    obtain ⟨v, hv⟩ : ∃ v, v = noFB (act.map toT) n1 20 := ⟨_, rfl⟩
    have C3 := fun (W : World) (t : Nat) (hT : TabR W t n1 (.slice A1 n1 c1) (rowF (act.map toT))) => Lib.hid (fault_any t n1 c1 A1 ds (act.map toT) W hT HTF.out.tri HL1.out)
    rw [← hv] at HV C3
    clear htt hv
    have hnil := fun (a : Option Addr) (n c n' c' : Nat) (W : World) => nilS a n c n' c' W
    go_enter Tryz.func42, Tryz.ntmps42
    go_wp2_with fail
    rw [← Hw.out, ← Hbe.out]
    go_wp2_with fail
    refine C1.out.mono ?_
    rintro e w1 ⟨rfl, hb1⟩
    have X1 := Lib.hid hb1
    have k2 := (F0.out.below X1.out).at_ (b := b) (o := 0) (V := .slice A1 n1 c1) (by simp)
    have k3 := (F0.out.below X1.out).at_ (b := b) (o := 1) (V := .slice A2 n2 c2) (by simp)
    clear hb1
    go_wp2_with fail
    refine (C2 w1 X1.out).out.mono ?_
    rintro e w2 ⟨t, rfl, hT, hb2⟩
    have X2 := Lib.hid (X1.out.trans (hb2.mono X1.out.size))
    have C4 := C3 w2 t hT
    clear hb2 hT
    go_wp2_with fail
    refine C4.out.mono ?_
    rintro e w3 ⟨hb3, h3⟩
    have X3 := Lib.hid (Hb0.out.trans ((X2.out.trans (hb3.mono X2.out.size)).mono Hb0.out.size))
    clear hb3
    rcases h3 with ⟨rfl, rfl⟩ | ⟨rfl, g, k, c, hk, rfl⟩
    · go_wp2_with fail
      rw [HR.out]
      exact RetBb.mk HV.out.symm X3.out
    · go_wp2_with fail
      rw [HR.out]
      exact RetBb.mk HV.out.symm X3.out
end Go.Proofs.YtejojliljplcdaaGreatDoor
