/- spec.l11Plus, l11Word, l11Words. -/
import Derived.Test.YtdpkhgkoeoiemaaVecI
namespace Go.Proofs.Ytdpkhgkoeoiemaa
open Go.RowKit
set_option linter.unusedVariables false

set_option maxHeartbeats 1000000 in
theorem plus11_any (A1 A2 : Option Addr) (n c1 c2 m p : Nat) (w : World) (h1 : RdS w w.heap.size A1 n c1 (vecF m n)) (h2 : RdS w w.heap.size A2 n c2 (vecF p n)) (hn : n ≤ 16) :
    Calls Try.prog 64 #[.slice A1 n c1, .slice A2 n c2] w (RetO n (vecF (m ^^^ p) n) w) := by
  have H1 := Lib.hid h1
  have H2 := Lib.hid h2
  have HS := Lib.hid (StS.start (Below.refl w.heap.size w) (Nat.le_refl _))
  obtain ⟨V, hV⟩ : ∃ V, V = w.heap.size := ⟨_, rfl⟩
  have HVe := Lib.hid hV
  rw [← hV] at HS H1 H2
  obtain ⟨R, hR⟩ : ∃ R, R = RetO n (vecF (m ^^^ p) n) w := ⟨_, rfl⟩
  have HR := Lib.hid hR
  rw [← hR]
  clear hR hV h1 h2
  go_enter Try.func64, Try.ntmps64
  go_wp2_with fail
  rw [← HVe.out]
  go_loopw [5, 6] (fun o i wr => ∃ (k c : Nat) (A : Option Addr), k ≤ n ∧ i = .int .i64 k ∧ o = .slice A k c ∧ Hid (StS w V wr A k c (vecF (m ^^^ p) k))) (fun _ i _ => n - (intOf i).toNat)
  case atStart => exact ⟨0, 0, _, Nat.zero_le _, rfl, rfl, HS⟩
  case round =>
    clear HS
    obtain ⟨k, c, A, hk, rfl, rfl, HS⟩ := hrel
    by_cases hlt : k < n
    · obtain ⟨ad1, x, rfl, hb1, hx, hc1⟩ := H1.out.at_ hlt
      obtain ⟨ad2, y, rfl, hb2, hy, hc2⟩ := H2.out.at_ hlt
      have hx' : x = bitV m k := by have := hx.out; rw [vecF_at hlt] at this; exact (Option.some.inj this).symm
      have hy' : y = bitV p k := by have := hy.out; rw [vecF_at hlt] at this; exact (Option.some.inj this).symm
      have hsum := bitV_xor m p k
      rw [← hx', ← hy'] at hsum
      have hx01 : x = 0 ∨ x = 1 := by rw [hx']; exact bitV_cases m k
      have hy01 : y = 0 ∨ y = 1 := by rw [hy']; exact bitV_cases p k
      have HS1 := Lib.hid (HS.out.drewN 1)
      have hv1 : (ad1.add k).block < V := by rw [block_of_add]; exact hb1
      have hv2 : (ad2.add k).block < V := by rw [block_of_add]; exact hb2
      have hza : (ad1.add k).block < wr.heap.size := Nat.lt_of_lt_of_le hv1 HS.out.hi
      have hzb : (ad2.add k).block < wr.heap.size := Nat.lt_of_lt_of_le hv2 HS.out.hi
      have hd1 : wr.drew.cell? (ad1.add k) = some (.int .i64 x) := (HS.out.bel.cell (p := ad1.add k) hv1).trans hc1
      have hd2 : wr.drew.cell? (ad2.add k) = some (.int .i64 y) := (HS.out.bel.cell (p := ad2.add k) hv2).trans hc2
      have C1 := Lib.hid hc1
      have C2 := Lib.hid hc2
      clear hx hy hx' hy' hb1 hb2 hc1 hc2
      have hw1 : IntKind.i64.wrap (x + y) = x + y := by rw [IntKind.wrap_i64]; omega
      have hw2 : wrap64 (x + y) = x + y := by unfold wrap64; omega
      have hw3 : (x + y).tmod 2 = (x + y) % 2 := Int.tmod_eq_emod_of_nonneg (by omega)
      have HB := Lib.hid (vecF_snoc (m ^^^ p) k)
      rw [hsum] at HB
      clear hsum hx01 hy01
      go_wp2_with fail
      go_region_held3 (fun w' => w'.cell? (ad1.add k) = some (.int .i64 x) ∧ w'.cell? (ad2.add k) = some (.int .i64 y)) (first | exact ⟨hd1, hd2⟩ | exact ⟨old_atA hza hd1, old_atA hzb hd2⟩ | exact ⟨ke1, ke2⟩)
        (first
          | (refine step_pushI (by rfl) (.tmp 14) (.tmp 25) (by rfl) rfl (by rfl) (by rfl) HS1.out (by omega) ?_
             intro A7 c7 w7 hs7
             have ke1 := (hs7.bel.cell (p := ad1.add k) hv1).trans C1.out
             have ke2 := (hs7.bel.cell (p := ad2.add k) hv2).trans C2.out
             have HS7 := Lib.hid hs7
             clear hs7))
      clear hd1 hd2 ke1 ke2 hw1 hw2 hw3 hv1 hv2 hza hzb
      rw [HB.out] at HS7
      go_wp2_with fail
      go_roundw
      case rel => exact ⟨k + 1, _, _, by omega, by go_num, rfl, HS7⟩
      case measure => simp [intOf]; omega
    · obtain rfl : k = n := by omega
      go_wp2_with fail
      rw [HR.out]
      have h := HS.out
      rw [HVe.out] at h
      exact h.ret

/-- a slice that reads as xs -/
def RetRd (n : Nat) (xs : List Int) (w : World) (e : Ending) (w' : World) : Prop := ∃ A c, e = .returned (.slice A n c) ∧ RdS w' w'.heap.size A n c xs ∧ Below w.heap.size w w'

set_option maxHeartbeats 2000000 in
theorem word11_any (A1 A2 AV AW : Option Addr) (n1 c1 n2 c2 cv l cw m : Nat) (ds : List Int) (act : List (List Int)) (xs : List Int) (w : World) (h : RdMod w A1 n1 c1 ds A2 n2 c2 act) (ht : TabF ds act) (hn2 : n2 ≤ 2000000)
    (hw : RdS w w.heap.size AW l cw xs) (hl : l ≤ 1000) (hx : ∀ z ∈ xs, 0 ≤ z) (hv : RdS w w.heap.size AV n1 cv (vecF m n1)) :
    Calls Try.prog 50 #[.agg #[.slice A1 n1 c1, .slice A2 n2 c2], .slice AW l cw, .slice AV n1 cv] w (RetRd n1 (vecF (spW (act.map toT) xs m) n1) w) := by
  obtain ⟨w0, b, hw0, hbe, hb0, hz0', hF⟩ := start1 w (.slice A1 n1 c1) (.slice A2 n2 c2) 29
  have HL := Lib.hid hw.len
  have H := Lib.hid (h.below hb0)
  have HV := Lib.hid ((hv.below hb0).mono hb0.size)
  have HX := Lib.hid ((hw.below hb0).mono hb0.size)
  have HP := Lib.hid hx
  have HT := Lib.hid ht
  have Hw := Lib.hid hw0
  have Hbe := Lib.hid hbe
  have Hb0 := Lib.hid hb0
  have F0 := Lib.hid hF
  have HZ0 := Lib.hid hz0'
  have hwl : IntKind.i64.wrap ((l : Int) - 1) = (l : Int) - 1 := by rw [IntKind.wrap_i64]; omega
  obtain ⟨R, hR⟩ : ∃ R, R = RetRd n1 (vecF (spW (act.map toT) xs m) n1) w := ⟨_, rfl⟩
  have HR := Lib.hid hR
  rw [← hR]
  clear h ht hv hw hx hw0 hbe hb0 hF hR hz0'
  go_enter Try.func50, Try.ntmps50
  go_wp2_with fail
  rw [← Hw.out, ← Hbe.out]
  go_loopw [2, 7] (fun v i wr => ∃ (j c : Nat) (A : Option Addr), j ≤ l ∧ i = .int .i64 ((j : Int) - 1) ∧ v = .slice A n1 c ∧ Hid (RdS wr wr.heap.size A n1 c (vecF (spW (act.map toT) (xs.drop j) m) n1)) ∧ Hid (Below w0.heap.size w0 wr)) (fun _ i _ => (intOf i + 1).toNat)
  case atStart => exact ⟨l, cv, AV, Nat.le_refl _, rfl, rfl, by rw [spW_end _ (by rw [HL.out]; exact Nat.le_refl _)]; exact HV, Lib.hid (Below.refl _ _)⟩
  case round =>
    clear hwl
    obtain ⟨j, c, A, hj, rfl, rfl, HS, HB⟩ := hrel
    by_cases hlt : 0 < j
    · obtain ⟨q, rfl⟩ : ∃ q, j = q + 1 := ⟨j - 1, by omega⟩
      have hql : q < l := by omega
      obtain ⟨ad, y, rfl, hb, hy, hc⟩ := HX.out.at_ hql
      obtain ⟨z, rfl⟩ : ∃ z : Nat, y = (z : Int) := ⟨y.toNat, by have := HP.out y (mem_of hy); omega⟩
      have hq1 : (((q + 1 : Nat) : Int) - 1) = (q : Int) := by omega
      have hql' : (q : Int) < (l : Int) := by omega
      have hq0 : (0 : Int) ≤ (q : Int) := by omega
      have hv1 : (ad.add q).block < w0.heap.size := by rw [block_of_add]; exact hb
      have hd1 : wr.drew.cell? (ad.add q) = some (.int .i64 (z : Int)) := (HB.out.cell (p := ad.add q) hv1).trans hc
      have FB := Lib.hid (F0.out.below HB.out)
      have k0 : wr.drew.cell? ⟨b, 0, none⟩ = some (.slice A1 n1 c1) := FB.out.at_ (b := b) (o := 0) (V := .slice A1 n1 c1) (by simp)
      have k1 : wr.drew.cell? ⟨b, 1, none⟩ = some (.slice A2 n2 c2) := FB.out.at_ (b := b) (o := 1) (V := .slice A2 n2 c2) (by simp)
      have HD := Lib.hid (below_drewN HB.out 1)
      have HC := Lib.hid (act11_any A1 A2 A n1 c1 n2 c2 c z (spW (act.map toT) (xs.drop (q + 1)) m) ds act wr.drew (H.out.below HD.out) HT.out hn2 (HS.out.drewN 1))
      have HE := Lib.hid (spW_drop (T := act.map toT) hy.out m)
      rw [Int.toNat_natCast] at HE
      rw [hq1]
      clear hy hb hc
      go_wp2_with fail
      go_region_held3 (fun w' => w'.cell? (ad.add q) = some (.int .i64 (z : Int)) ∧ w'.cell? ⟨b, 0, none⟩ = some (.slice A1 n1 c1) ∧ w'.cell? ⟨b, 1, none⟩ = some (.slice A2 n2 c2)) (first | exact ⟨hd1, k0, k1⟩ | exact ⟨hd2, k3, k4⟩)
        (first
          | (go_at_call 40
             refine HC.out.mono ?_
             rintro e w1 ⟨A3, c3, rfl, ho, hb2⟩
             have HB2 := Lib.hid (HD.out.trans (hb2.mono HD.out.size))
             have hd2 : w1.cell? (ad.add q) = some (.int .i64 (z : Int)) := (HB2.out.cell (p := ad.add q) hv1).trans ((HB.out.cell (p := ad.add q) hv1).symm.trans hd1)
             have k3 : w1.cell? ⟨b, 0, none⟩ = some (.slice A1 n1 c1) := (F0.out.below HB2.out).at_ (b := b) (o := 0) (V := .slice A1 n1 c1) (by simp)
             have k4 : w1.cell? ⟨b, 1, none⟩ = some (.slice A2 n2 c2) := (F0.out.below HB2.out).at_ (b := b) (o := 1) (V := .slice A2 n2 c2) (by simp)
             have HO := Lib.hid ho.rd
             clear ho hb2))
      rw [← HE.out] at HO
      clear hd1 hd2 k0 k1 k3 k4 hq1
      go_wp2_with fail
      go_roundw
      case rel => exact ⟨q, _, _, by omega, by go_num, rfl, HO, HB2⟩
      case measure => first | (simp [intOf]; done) | (simp [intOf]; omega)
    · obtain rfl : j = 0 := by omega
      go_wp2_with fail
      rw [HR.out]
      exact ⟨_, _, rfl, HS.out, Hb0.out.trans (HB.out.mono Hb0.out.size)⟩

set_option maxHeartbeats 2000000 in
theorem words11_any (A1 A2 AV AW : Option Addr) (n1 c1 n2 c2 cv l cw m : Nat) (ds : List Int) (act : List (List Int)) (xss : List (List Int)) (w : World) (h : RdMod w A1 n1 c1 ds A2 n2 c2 act) (ht : TabF ds act) (hn2 : n2 ≤ 2000000)
    (hw : RdL w w.heap.size AW l cw xss) (hl : l ≤ 1000) (hx : ∀ x ∈ xss, x.length ≤ 1000 ∧ ∀ z ∈ x, 0 ≤ z) (hv : RdS w w.heap.size AV n1 cv (vecF m n1)) :
    Calls Try.prog 51 #[.agg #[.slice A1 n1 c1, .slice A2 n2 c2], .slice AW l cw, .slice AV n1 cv] w (RetRd n1 (vecF (xorL (fun x => spW (act.map toT) x m) xss) n1) w) := by
  obtain ⟨w0, b, hw0, hbe, hb0, hz0', hF⟩ := start1 w (.slice A1 n1 c1) (.slice A2 n2 c2) 29
  have hn : n1 ≤ 16 := by rw [← h.ds.len]; exact ht.len
  have HL := Lib.hid hw.len
  have H := Lib.hid (h.below hb0)
  have HV := Lib.hid ((hv.below hb0).mono hb0.size)
  have HX := Lib.hid ((hw.below hb0).mono hb0.size)
  have HP := Lib.hid hx
  have HT := Lib.hid ht
  have Hw := Lib.hid hw0
  have Hbe := Lib.hid hbe
  have Hb0 := Lib.hid hb0
  have F0 := Lib.hid hF
  have HZ0 := Lib.hid hz0'
  have hmk := make_i64 n1 (by omega)
  have HO := Lib.hid (StS.made n1 (by unfold maxLen; omega) (Below.refl w0.heap.size w0) (Nat.le_refl _))
  obtain ⟨w1, hw1⟩ : ∃ W, W = w0.alloc (.cells (madeCells #[.int .i64 0] n1) 2) := ⟨_, rfl⟩
  have HW1 := Lib.hid hw1
  rw [← hw1, show some (⟨w0.heap.size, 0, none⟩ : Addr) = some ⟨b + 1, 0, none⟩ from by rw [HZ0.out]] at HO
  obtain ⟨R, hR⟩ : ∃ R, R = RetRd n1 (vecF (xorL (fun x => spW (act.map toT) x m) xss) n1) w := ⟨_, rfl⟩
  have HR := Lib.hid hR
  rw [← hR]
  clear h ht hv hw hx hw0 hbe hb0 hF hR hz0' hw1
  go_enter Try.func51, Try.ntmps51
  go_wp2_with fail
  rw [← Hw.out, ← Hbe.out]
  go_wp2_with fail
  rw [← HW1.out]
  generalize hA0 : some (⟨b + 1, 0, none⟩ : Addr) = A0 at HO ⊢
  clear hmk hA0
  go_loopw [7, 8] (fun v i wr => ∃ (j c : Nat) (A : Option Addr), j ≤ l ∧ i = .int .i64 j ∧ v = .slice A n1 c ∧ Hid (RdS wr wr.heap.size A n1 c (vecF (xorL (fun x => spW (act.map toT) x m) (xss.take j)) n1)) ∧ Hid (Below w0.heap.size w0 wr)) (fun _ i _ => l - (intOf i).toNat)
  case atStart => exact ⟨0, n1, A0, Nat.zero_le _, rfl, rfl, Lib.hid HO.out.own.rd, Lib.hid HO.out.bel⟩
  case round =>
    clear HO
    obtain ⟨j, c, A, hj, rfl, rfl, HS, HB⟩ := hrel
    by_cases hlt : j < l
    · obtain ⟨ad, A', n', c', x, rfl, hb, hx, hc, hr⟩ := HX.out.at_ hlt
      obtain ⟨hxl, hxp⟩ := HP.out x (List.mem_of_getElem? hx.out)
      have hn' : n' ≤ 1000 := by rw [← hr.len]; exact hxl
      have hv1 : (ad.add j).block < w0.heap.size := by rw [block_of_add]; exact hb
      have hd1 : wr.drew.cell? (ad.add j) = some (.slice A' n' c') := (HB.out.cell (p := ad.add j) hv1).trans hc
      have FB := Lib.hid (F0.out.below HB.out)
      have k0 : wr.drew.cell? ⟨b, 0, none⟩ = some (.slice A1 n1 c1) := FB.out.at_ (b := b) (o := 0) (V := .slice A1 n1 c1) (by simp)
      have k1 : wr.drew.cell? ⟨b, 1, none⟩ = some (.slice A2 n2 c2) := FB.out.at_ (b := b) (o := 1) (V := .slice A2 n2 c2) (by simp)
      have HD := Lib.hid (below_drewN HB.out 1)
      have HC := Lib.hid (word11_any A1 A2 AV A' n1 c1 n2 c2 cv n' c' m ds act x wr.drew (H.out.below HD.out) HT.out hn2 ((hr.below HD.out).mono HD.out.size) hn' hxp ((HV.out.below HD.out).mono HD.out.size))
      have HE := Lib.hid (xorL_take (f := fun x => spW (act.map toT) x m) hx.out)
      have HK := Lib.hid hc
      clear hx hb hc hxl hxp hr
      go_wp2_with fail
      go_region_held3 (fun w' => w'.cell? (ad.add j) = some (.slice A' n' c') ∧ w'.cell? ⟨b, 0, none⟩ = some (.slice A1 n1 c1) ∧ w'.cell? ⟨b, 1, none⟩ = some (.slice A2 n2 c2)) (first | exact ⟨hd1, k0, k1⟩ | exact ⟨hd2, k3, k4⟩ | exact ⟨hd5, k5, k6⟩)
        (first
          | (go_at_call 50
             refine HC.out.mono ?_
             rintro e w2 ⟨A3, c3, rfl, ho, hb2⟩
             have HB2 := Lib.hid (HD.out.trans (hb2.mono HD.out.size))
             have hd2 : w2.cell? (ad.add j) = some (.slice A' n' c') := (HB2.out.cell (p := ad.add j) hv1).trans HK.out
             have k3 : w2.cell? ⟨b, 0, none⟩ = some (.slice A1 n1 c1) := (F0.out.below HB2.out).at_ (b := b) (o := 0) (V := .slice A1 n1 c1) (by simp)
             have k4 : w2.cell? ⟨b, 1, none⟩ = some (.slice A2 n2 c2) := (F0.out.below HB2.out).at_ (b := b) (o := 1) (V := .slice A2 n2 c2) (by simp)
             have HO := Lib.hid ho
             have HS2 := Lib.hid (((HS.out.drewN 1).below hb2).mono hb2.size)
             clear ho hb2)
          | (go_at_call 64
             refine (plus11_any _ _ n1 _ _ _ _ _ HS2.out HO.out hn).mono ?_
             rintro e w3 ⟨A4, c4, rfl, ho4, hb4⟩
             have HB4 := Lib.hid (HB2.out.trans (hb4.mono HB2.out.size))
             have hd5 : w3.cell? (ad.add j) = some (.slice A' n' c') := (HB4.out.cell (p := ad.add j) hv1).trans HK.out
             have k5 : w3.cell? ⟨b, 0, none⟩ = some (.slice A1 n1 c1) := (F0.out.below HB4.out).at_ (b := b) (o := 0) (V := .slice A1 n1 c1) (by simp)
             have k6 : w3.cell? ⟨b, 1, none⟩ = some (.slice A2 n2 c2) := (F0.out.below HB4.out).at_ (b := b) (o := 1) (V := .slice A2 n2 c2) (by simp)
             have HO4 := Lib.hid ho4.rd
             clear ho4 hb4))
      rw [← HE.out] at HO4
      clear hd1 hd2 hd5 k0 k1 k3 k4 k5 k6
      go_wp2_with fail
      go_roundw
      case rel => exact ⟨j + 1, _, _, by omega, by go_num, rfl, HO4, HB4⟩
      case measure => simp [intOf]; omega
    · obtain rfl : j = l := by omega
      have hS := HS.out
      rw [List.take_of_length_le (by rw [HL.out]; exact Nat.le_refl _)] at hS
      have HS' := Lib.hid hS
      go_wp2_with fail
      rw [HR.out]
      exact ⟨_, _, rfl, HS'.out, Hb0.out.trans (HB.out.mono Hb0.out.size)⟩
end Go.Proofs.Ytdpkhgkoeoiemaa
