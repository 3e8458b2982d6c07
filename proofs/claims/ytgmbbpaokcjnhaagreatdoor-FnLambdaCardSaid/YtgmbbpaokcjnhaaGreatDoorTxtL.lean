/- LambdaText on the reference's side. -/
import Derived.Test.YtgmbbpaokcjnhaaGreatDoorTxtS
import Derived.Test.YtgmbbpaokcjnhaaGreatDoorAllL
namespace Go.Proofs.YtgmbbpaokcjnhaaGreatDoor
open Go.RowKit
set_option linter.unusedVariables false

/-- the text of a word, of a sum -/
def wordX (x : List Int) : List UInt8 := if x = [] then [49] else numT [46] x
def sumX (xss : List (List Int)) : List UInt8 := if xss = [] then [48] else Lib.join (xss.map wordX) [43]
theorem sumX_take {xss : List (List Int)} {k : Nat} {x : List Int} (h : xss[k]? = some x) : Lib.join ((xss.take (k + 1)).map wordX) [43] = if k = 0 then Lib.join ((xss.take k).map wordX) [43] ++ wordX x else Lib.join ((xss.take k).map wordX) [43] ++ [43] ++ wordX x := by
  have hk := (List.getElem?_eq_some_iff.1 h).1
  rw [List.take_add_one, h, List.map_append]
  show Lib.join (_ ++ [wordX x]) [43] = _
  rw [join_snoc]
  by_cases h0 : k = 0
  · subst h0
    simp [Lib.join_nil]
  · rw [if_neg h0, if_neg (by
      intro e
      have h1 := congrArg List.length e
      rw [List.length_map, List.length_take] at h1
      simp only [List.length_nil] at h1
      omega)]
theorem wordX_eq (x : List Int) : wordX x = (if x = [] then [49] else []) ++ numT [46] x := by
  unfold wordX
  by_cases h : x = []
  · subst h; simp [numT, Lib.join_nil]
  · rw [if_neg h, if_neg h, List.nil_append]
set_option maxRecDepth 100000 in
set_option maxHeartbeats 1000000 in
theorem text16_any (A : Option Addr) (n c : Nat) (xss : List (List Int)) (w : World) (h : RdL w w.heap.size A n c xss) (hx : ∀ x ∈ xss, x.length ≤ 7 ∧ ∀ i ∈ x, 0 ≤ i ∧ i < 100) (hn : n ≤ 2000) :
    Calls Tryz.prog 52 #[.slice A n c] w (RetTx (sumX xss) w) := by
  have H := Lib.hid h
  have HX := Lib.hid hx
  have HL := Lib.hid h.len
  obtain ⟨R, hR⟩ : ∃ R, R = RetTx (sumX xss) w := ⟨_, rfl⟩
  have HR := Lib.hid hR
  rw [← hR]
  have HJ := Lib.hid (fun (x y : List UInt8) => ByteArray.mk_append_mk x y)
  clear h hx hR
  rcases Nat.eq_zero_or_pos n with rfl | hpos
  · have hnil : xss = [] := List.eq_nil_of_length_eq_zero HL.out
    have HS := Lib.hid (show sumX xss = [48] from by unfold sumX; rw [if_pos hnil])
    clear hnil
    go_enter Tryz.func52, Tryz.ntmps52
    go_wp2_with fail
    go_wp2_with fail
    rw [HR.out]
    exact RetTx.mk (s := ⟨#[48]⟩) (by rw [HS.out]) (Below.refl _ _)
  · have hne : xss ≠ [] := fun e => by have := HL.out; rw [e] at this; simp at this; omega
    have HS := Lib.hid (show sumX xss = Lib.join (xss.map wordX) [43] from by unfold sumX; rw [if_neg hne])
    have hnz : ((n : Int) == 0) = false := by simp; omega
    clear hne
    obtain ⟨pb, hpb⟩ : ∃ pb : ByteArray, pb = ⟨#[43]⟩ := ⟨_, rfl⟩
    have hpb1 : pb.size = 1 := by rw [hpb]; rfl
    have HPB := Lib.hid hpb
    obtain ⟨ob, hob⟩ : ∃ ob : ByteArray, ob = ⟨#[49]⟩ := ⟨_, rfl⟩
    have hob1 : ob.size = 1 := by rw [hob]; rfl
    have HOB := Lib.hid hob
    clear hpb hob
    go_enter Tryz.func52, Tryz.ntmps52
    go_wp2_with fail
    go_loopw [3, 4] (fun o i wr => ∃ (k : Nat) (s : ByteArray), k ≤ n ∧ i = .int .i64 k ∧ o = .string s ∧ s.size ≤ 40 * k ∧ Hid (s = ⟨(Lib.join ((xss.take k).map wordX) [43]).toArray⟩) ∧ Hid (Below w.heap.size w wr)) (fun _ i _ => n - (intOf i).toNat)
    case atStart => exact ⟨0, ⟨#[]⟩, Nat.zero_le _, rfl, rfl, Nat.zero_le _, Lib.hid rfl, Lib.hid (Below.refl _ _)⟩
    case round =>
      obtain ⟨k, s, hk, rfl, rfl, hsz, HS2, HB⟩ := hrel
      by_cases hlt : k < n
      · have Hr := Lib.hid (H.out.below HB.out)
        obtain ⟨ad, A3, n3, c3, x, rfl, hb, hx, hcx, hr3⟩ := Hr.out.at_ hlt
        have hxx := HX.out x (List.mem_of_getElem? hx.out)
        have hx7 := hxx.1
        have hn3 : n3 ≤ 7 := by rw [← hr3.len]; exact hx7
        have CD := Lib.hid (list01_any A3 n3 c3 _ x 46 wr hr3 HB.out.size hxx.2 (by omega))
        have HT := Lib.hid (sumX_take hx.out)
        have HWX := Lib.hid (wordX_eq x)
        have HLx := Lib.hid hr3.len
        obtain ⟨t, ht⟩ : ∃ t, t = numT [46] x := ⟨_, rfl⟩
        have htl : t.length ≤ 21 := by rw [ht]; exact Nat.le_trans (numT_len 46 x) (by omega)
        rw [← ht] at CD HWX
        unfold RetTx at CD
        obtain ⟨tb, htb⟩ : ∃ tb : ByteArray, tb = ⟨t.toArray⟩ := ⟨_, rfl⟩
        have hts : tb.size ≤ 21 := by rw [htb]; exact htl
        rw [← htb] at CD
        have HTB := Lib.hid htb
        have HJ1 := Lib.hid (show ∀ (u : List UInt8) (v : UInt8), (ByteArray.mk u.toArray ++ ByteArray.mk #[v]) = ByteArray.mk (u ++ [v]).toArray from fun u v => ByteArray.mk_append_mk u [v])
        have z0 : (s ++ tb).size = s.size + tb.size := ByteArray.size_append
        have z1 : (s ++ (⟨#[43]⟩ : ByteArray)).size = s.size + 1 := ByteArray.size_append
        have z2 : (s ++ (⟨#[49]⟩ : ByteArray)).size = s.size + 1 := ByteArray.size_append
        have z3 : ((s ++ (⟨#[43]⟩ : ByteArray)) ++ (⟨#[49]⟩ : ByteArray)).size = s.size + 1 + 1 := by rw [ByteArray.size_append, z1]; rfl
        have z4 : ((s ++ (⟨#[43]⟩ : ByteArray)) ++ tb).size = s.size + 1 + tb.size := by rw [ByteArray.size_append, z1]
        have z5 : ((s ++ (⟨#[49]⟩ : ByteArray)) ++ tb).size = s.size + 1 + tb.size := by rw [ByteArray.size_append, z2]
        have z6 : (((s ++ (⟨#[43]⟩ : ByteArray)) ++ (⟨#[49]⟩ : ByteArray)) ++ tb).size = s.size + 1 + 1 + tb.size := by rw [ByteArray.size_append, z3]
        have z7 : 40 * (k + 1) = 40 * k + 40 := by omega
        have y1 : (⟨#[43]⟩ : ByteArray).size = 1 := rfl
        have y2 : (⟨#[49]⟩ : ByteArray).size = 1 := rfl
        clear ht hx htl htb hxx hr3
        by_cases h0 : k = 0
        · have HT1 := Lib.hid (show Lib.join ((xss.take (k + 1)).map wordX) [43] = Lib.join ((xss.take k).map wordX) [43] ++ wordX x from by rw [HT.out, if_pos h0])
          have hk0 : ¬ (0 : Int) < (k : Int) := by omega
          by_cases he : n3 = 0
          · have HT0 := Lib.hid (show Lib.join ((xss.take (k + 1)).map wordX) [43] = Lib.join ((xss.take k).map wordX) [43] ++ [49] ++ t from by rw [HT1.out, HWX.out, if_pos (List.eq_nil_of_length_eq_zero (by rw [HLx.out]; exact he)), List.append_assoc])
            have h3z : ((n3 : Int) == 0) = true := by simp; omega
            clear h0 he
            go_wp2_with fail
            refine CD.out.mono ?_
            rintro e w1 ⟨rfl, hb1⟩
            have HB1 := Lib.hid (HB.out.trans (hb1.mono HB.out.size))
            clear hb1
            go_wp2_with fail
            go_roundw
            case rel => exact ⟨k + 1, _, by omega, by go_num, rfl, by omega, Lib.hid (by rw [HT0.out, HS2.out, HTB.out]; simp only [HJ1.out, HJ.out]), HB1⟩
            case measure => simp [intOf]; omega

          · have HT0 := Lib.hid (show Lib.join ((xss.take (k + 1)).map wordX) [43] = Lib.join ((xss.take k).map wordX) [43] ++ t from by rw [HT1.out, HWX.out, if_neg (fun e => he (by rw [← HLx.out, e]; rfl)), List.nil_append])
            have h3z : ((n3 : Int) == 0) = false := by simp; omega
            clear h0 he
            go_wp2_with fail
            refine CD.out.mono ?_
            rintro e w1 ⟨rfl, hb1⟩
            have HB1 := Lib.hid (HB.out.trans (hb1.mono HB.out.size))
            clear hb1
            go_wp2_with fail
            go_roundw
            case rel => exact ⟨k + 1, _, by omega, by go_num, rfl, by omega, Lib.hid (by rw [HT0.out, HS2.out, HTB.out]; rw [HJ.out]), HB1⟩
            case measure => simp [intOf]; omega

        · have HT1 := Lib.hid (show Lib.join ((xss.take (k + 1)).map wordX) [43] = Lib.join ((xss.take k).map wordX) [43] ++ [43] ++ wordX x from by rw [HT.out, if_neg h0])
          have hk0 : (0 : Int) < (k : Int) := by omega
          by_cases he : n3 = 0
          · have HT0 := Lib.hid (show Lib.join ((xss.take (k + 1)).map wordX) [43] = Lib.join ((xss.take k).map wordX) [43] ++ [43] ++ [49] ++ t from by rw [HT1.out, HWX.out, if_pos (List.eq_nil_of_length_eq_zero (by rw [HLx.out]; exact he))]; simp only [List.append_assoc])
            have h3z : ((n3 : Int) == 0) = true := by simp; omega
            clear h0 he
            go_wp2_with fail
            refine CD.out.mono ?_
            rintro e w1 ⟨rfl, hb1⟩
            have HB1 := Lib.hid (HB.out.trans (hb1.mono HB.out.size))
            clear hb1
            go_wp2_with fail
            go_roundw
            case rel => exact ⟨k + 1, _, by omega, by go_num, rfl, by omega, Lib.hid (by rw [HT0.out, HS2.out, HTB.out]; simp only [HJ1.out, HJ.out]), HB1⟩
            case measure => simp [intOf]; omega

          · have HT0 := Lib.hid (show Lib.join ((xss.take (k + 1)).map wordX) [43] = Lib.join ((xss.take k).map wordX) [43] ++ [43] ++ t from by rw [HT1.out, HWX.out, if_neg (fun e => he (by rw [← HLx.out, e]; rfl)), List.nil_append])
            have h3z : ((n3 : Int) == 0) = false := by simp; omega
            clear h0 he
            go_wp2_with fail
            refine CD.out.mono ?_
            rintro e w1 ⟨rfl, hb1⟩
            have HB1 := Lib.hid (HB.out.trans (hb1.mono HB.out.size))
            clear hb1
            go_wp2_with fail
            go_roundw
            case rel => exact ⟨k + 1, _, by omega, by go_num, rfl, by omega, Lib.hid (by rw [HT0.out, HS2.out, HTB.out]; simp only [HJ1.out, HJ.out]), HB1⟩
            case measure => simp [intOf]; omega

      · have hkn := Lib.hid (show k = n by omega)
        go_wp2_with fail
        rw [HR.out]
        refine RetTx.mk (s := s) ?_ HB.out
        rw [HS2.out, hkn.out, List.take_of_length_le (by rw [HL.out]; exact Nat.le_refl _), HS.out]
def ltT (xss : List (List Int)) : List UInt8 := if isLB xss = true then sumX xss else []
def ltC (xss : List (List Int)) : Int := if isLB xss = true then 0 else 1
def RetTC (t : List UInt8) (k : Int) (w : World) (e : Ending) (w' : World) : Prop := e = .returned (.tuple #[.string ⟨t.toArray⟩, .int .i64 k]) ∧ Below w.heap.size w w'
theorem RetTC.mk {t : List UInt8} {s : ByteArray} {k y : Int} {w w' : World} (h : s = ⟨t.toArray⟩) (hk : y = k) (hb : Below w.heap.size w w') : RetTC t k w (.returned (.tuple #[.string s, .int .i64 y])) w' := by subst h; subst hk; exact ⟨rfl, hb⟩
theorem isLB_size {xss : List (List Int)} (h : isLB xss = true) : xss.length ≤ 2000 := by
  simp only [isLB, Bool.and_eq_true, decide_eq_true_eq] at h
  exact h.1.1.1.1
theorem isLB_text {xss : List (List Int)} (h : isLB xss = true) : ∀ x ∈ xss, x.length ≤ 7 ∧ ∀ i ∈ x, 0 ≤ i ∧ i < 100 := fun x hx => by
  simp only [isLB, Bool.and_eq_true, List.all_eq_true] at h
  have h2 := h.1.1.2 x hx
  simp only [wordB, Bool.and_eq_true, decide_eq_true_eq, facB, List.all_eq_true, inB] at h2
  exact ⟨h2.1.1, fun i hi => by have := h2.1.2 i hi; omega⟩
set_option maxRecDepth 100000 in
theorem sLambdaText (A1 : Option Addr) (n1 c1 : Nat) (xss : List (List Int)) (w : World) (h1 : RdL w w.heap.size A1 n1 c1 xss) (hn1 : n1 ≤ 2000000) (ht1 : totalL xss ≤ 2000000) :
    Calls Tryz.prog 21 #[.agg #[.slice A1 n1 c1]] w (RetTC (ltT xss) (ltC xss) w) := by
  obtain ⟨w0, hw0⟩ : ∃ w0, w0 = w.alloc (.cells #[.slice A1 n1 c1] 26) := ⟨_, rfl⟩
  have hb0 : Below w.heap.size w w0 := by rw [hw0]; exact (Below.refl _ _).alloc (Nat.le_refl _) _
  have F0 := Lib.hid (show Cells [(w.heap.size, 0, .slice A1 n1 c1)] w0 from by rw [hw0]; exact Cells.nil.alloc1 _ _ rfl)
  have B0 := Lib.hid hb0
  have HL1 := Lib.hid h1.len
  have H1 := Lib.hid h1
  have Hw := Lib.hid hw0
  have HT := Lib.hid (show ltT xss = if isLB xss = true then sumX xss else [] from rfl)
  have HC := Lib.hid (show ltC xss = if isLB xss = true then 0 else 1 from rfl)
  have HTX := Lib.hid (fun (h : isLB xss = true) => isLB_text h)
  have HLN := Lib.hid (fun (h : isLB xss = true) => isLB_size h)
  obtain ⟨X, hX⟩ : ∃ X, X = RetTC (ltT xss) (ltC xss) w := ⟨_, rfl⟩
  have HX := Lib.hid hX
  have CI := Lib.hid (l16Is_any A1 n1 c1 _ xss w0 (h1.below hb0) hn1 ht1)
  obtain ⟨b, hb⟩ : ∃ b, b = isLB xss := ⟨_, rfl⟩
  rw [← hb] at HT HC HTX HLN CI
  rw [← hX]
  clear h1 hw0 hb0 hX hb
  go_enter Tryz.func21, Tryz.ntmps21
  go_wp2_with fail
  rw [← Hw.out]
  have k0 := F0.out.at_ (b := w.heap.size) (o := 0) (V := .slice A1 n1 c1) (by simp)
  refine CI.out.mono ?_
  rintro e w1 ⟨rfl, q1, hq1⟩
  have hb1 : Below w0.heap.size w0 w1 := by rw [hq1]; exact below_drewN (Below.refl _ _) q1
  have B1 := Lib.hid (B0.out.trans (hb1.mono B0.out.size))
  have F1 := Lib.hid (F0.out.below hb1)
  clear hb1 k0 hq1
  have k0 := F1.out.at_ (b := w.heap.size) (o := 0) (V := .slice A1 n1 c1) (by simp)
  cases b
  · have HT' := Lib.hid (show ltT xss = [] from HT.out)
    have HC' := Lib.hid (show ltC xss = 1 from HC.out)
    go_wp2_with fail
    rw [HX.out]
    exact RetTC.mk (s := ⟨#[]⟩) (y := 1) (by rw [HT'.out]) HC'.out.symm B1.out
  · have HT' := Lib.hid (show ltT xss = sumX xss from HT.out)
    have HC' := Lib.hid (show ltC xss = 0 from HC.out)
    have hn2 : n1 ≤ 2000 := by rw [← HL1.out]; exact HLN.out rfl
    have C2 := Lib.hid (text16_any A1 n1 c1 xss w1 ((H1.out.below B1.out).mono B1.out.size) (HTX.out rfl) hn2)
    unfold RetTx at C2
    go_wp2_with fail
    refine C2.out.mono ?_
    rintro e w2 ⟨rfl, hb2⟩
    have B2 := Lib.hid (B1.out.trans (hb2.mono B1.out.size))
    clear hb2
    go_wp2_with fail
    rw [HX.out]
    exact RetTC.mk (s := ⟨(sumX xss).toArray⟩) (y := 0) (by rw [HT'.out]) HC'.out.symm B2.out
end Go.Proofs.YtgmbbpaokcjnhaaGreatDoor
