/- Texts of polynomials on both sides. -/
import Derived.Test.YtbcchiaigincaaaGreatDoorTxtK
import Derived.Test.YtbcchiaigincaaaGreatDoorKam
import Derived.Lib.QuietBelow
namespace Go.Proofs.YtbcchiaigincaaaGreatDoor
open Go.RowKit
set_option linter.unusedVariables false

theorem joinQ_take {q : List Int → List UInt8} {xss : List (List Int)} {k : Nat} {x : List Int} (h : xss[k]? = some x) : Lib.join ((xss.take (k + 1)).map q) [43] = if k = 0 then Lib.join ((xss.take k).map q) [43] ++ q x else Lib.join ((xss.take k).map q) [43] ++ [43] ++ q x := by
  have hk := (List.getElem?_eq_some_iff.1 h).1
  rw [List.take_add_one, h, List.map_append]
  show Lib.join (_ ++ [q x]) [43] = _
  rw [join_snoc]
  by_cases h0 : k = 0
  · subst h0
    simp [Lib.join_nil]
  · rw [if_neg h0, if_neg (by
      intro e
      have h1 := congrArg List.length e
      rw [List.length_map, List.length_take] at h1
      simp only [List.length_nil] at h1
      omega)]
/-- the text of a polynomial -/
def polT (v : Int) (xss : List (List Int)) : List UInt8 := decW v.toNat ++ [58] ++ (if xss = [] then [45] else Lib.join (xss.map (numT [44])) [43])
set_option maxRecDepth 100000 in
set_option maxHeartbeats 1000000 in
theorem polyText_any (m : Nat) (A : Option Addr) (n c : Nat) (xss : List (List Int)) (w : World) (h : RdL w w.heap.size A n c xss) (hv : m < 100) (hx : ∀ x ∈ xss, x.length ≤ 4 ∧ ∀ i ∈ x, 0 ≤ i ∧ i < 100) (hn : n ≤ 2000) :
    Calls Tryz.prog 15 #[.agg #[.int .i64 m, .slice A n c]] w (RetTx (polT m xss) w) := by
  obtain ⟨w0, b, hw0, hbe, hb0, hz0, hF⟩ := start1 w (.int .i64 m) (.slice A n c) 24
  have H := Lib.hid (h.below hb0)
  have HL := Lib.hid h.len
  have HX := Lib.hid hx
  have F0 := Lib.hid hF
  have B0 := Lib.hid hb0
  have Hw := Lib.hid hw0
  have Hbe := Lib.hid hbe
  have HJ := Lib.hid (fun (x y : List UInt8) => ByteArray.mk_append_mk x y)
  obtain ⟨R, hR⟩ : ∃ R, R = RetTx (polT m xss) w := ⟨_, rfl⟩
  have HR := Lib.hid hR
  rw [← hR]
  clear h hx hw0 hb0 hF hR hbe
  have k0 := F0.out.at_ (b := b) (o := 0) (V := .int .i64 m) (by simp)
  have k1 := F0.out.at_ (b := b) (o := 1) (V := .slice A n c) (by simp)
  rcases Nat.eq_zero_or_pos n with hz | hpos
  · have HN := Lib.hid (show xss = [] from List.eq_nil_of_length_eq_zero (by rw [HL.out]; exact hz))
    subst hz
    go_enter Tryz.func15, Tryz.ntmps15
    go_wp2_with fail
    rw [← Hw.out, ← Hbe.out]
    go_wp2_with fail
    refine (isZeroP_yes m A c w0).mono ?_
    rintro e w1 ⟨rfl, hb1⟩
    have B1 := Lib.hid hb1
    clear hb1 k0 k1
    have k0 := (F0.out.below B1.out).at_ (b := b) (o := 0) (V := .int .i64 m) (by simp)
    have CD := Lib.hid (decimal_any m w1 hv)
    obtain ⟨tb, htb⟩ : ∃ tb : ByteArray, tb = ⟨(decW m).toArray⟩ := ⟨_, rfl⟩
    rw [← htb] at CD
    have HTB := Lib.hid htb
    have hts : tb.size ≤ 2 := by rw [htb]; exact decW_len m
    have hz3 : (tb ++ (⟨#[58, 45]⟩ : ByteArray)).size = tb.size + 2 := ByteArray.size_append
    clear htb
    go_wp2_with fail
    refine CD.out.mono ?_
    rintro e w2 ⟨rfl, rfl⟩
    go_wp2_with fail
    rw [HR.out]
    refine RetTx.mk (s := tb ++ ⟨#[58, 45]⟩) ?_ (B0.out.trans (B1.out.mono B0.out.size))
    rw [HTB.out, HN.out]
    unfold polT
    rw [if_pos rfl, Int.toNat_natCast]
    have := HJ.out (decW m) [58, 45]
    simpa using this
  · have HN := Lib.hid (show xss ≠ [] from fun e => by have := HL.out; rw [e] at this; simp at this; omega)
    go_enter Tryz.func15, Tryz.ntmps15
    go_wp2_with fail
    rw [← Hw.out, ← Hbe.out]
    go_wp2_with fail
    refine (isZeroP_no m A n c w0 hpos (by omega)).mono ?_
    rintro e w1 ⟨rfl, hb1⟩
    have B1 := Lib.hid hb1
    clear hb1 k0 k1
    have k0 := (F0.out.below B1.out).at_ (b := b) (o := 0) (V := .int .i64 m) (by simp)
    have k1 := (F0.out.below B1.out).at_ (b := b) (o := 1) (V := .slice A n c) (by simp)
    have CD := fun (W : World) (hB : Below w1.heap.size w1 W) => Lib.hid (show Calls Tryz.prog 25 #[.int .i64 m] W (RetTx (decW m) W) from (decimal_any m W hv).mono fun e w' h => ⟨h.1, by rw [h.2]; exact Below.refl _ _⟩)
    have CS := fun (W : World) (hB : Below w1.heap.size w1 W) => Lib.hid (sumText_any 36 (numT [44]) (fun _ => True) numbersText_fun (fun _ _ _ _ _ _ => trivial) A n c xss W
      (by
        have h1 := H.out.below ((B1.out.trans (hB.mono B1.out.size)).mono B0.out.size)
        exact h1.mono (Nat.le_trans B0.out.size (Nat.le_trans B1.out.size hB.size))) trivial
      (fun x hx => ⟨Nat.le_trans (HX.out x hx).1 (by decide), (HX.out x hx).2⟩) (fun x hx => Nat.le_trans (numT_len 44 x) (by have := (HX.out x hx).1; omega)) (by omega))
    obtain ⟨tb, htb⟩ : ∃ tb : ByteArray, tb = ⟨(decW m).toArray⟩ := ⟨_, rfl⟩
    obtain ⟨sb, hsb⟩ : ∃ sb : ByteArray, sb = ⟨(sumQ (numT [44]) xss).toArray⟩ := ⟨_, rfl⟩
    unfold RetTx at CD CS
    rw [← htb] at CD
    rw [← hsb] at CS
    have HTB := Lib.hid htb
    have HSB := Lib.hid hsb
    have hts : tb.size ≤ 2 := by rw [htb]; exact decW_len m
    have hss : sb.size ≤ 40000 := by
      rw [hsb]
      show (sumQ (numT [44]) xss).length ≤ 40000
      unfold sumQ
      rw [if_neg HN.out]
      refine Nat.le_trans (join_len (K := 12) fun t ht => ?_) (by rw [List.length_map, HL.out]; omega)
      obtain ⟨x, hx, rfl⟩ := List.mem_map.1 ht
      exact Nat.le_trans (numT_len 44 x) (by have := (HX.out x hx).1; omega)
    have hz3 : (tb ++ (⟨#[58]⟩ : ByteArray)).size = tb.size + 1 := ByteArray.size_append
    have hz4 : ((tb ++ (⟨#[58]⟩ : ByteArray)) ++ sb).size = tb.size + 1 + sb.size := by rw [ByteArray.size_append, hz3]
    clear htb hsb
    go_wp2_with fail
    have g0 := cell_regrown k0
    have g1 := cell_regrown k1
    refine wp_region_quiet_below (by kernel_rfl) (by kernel_rfl) ?_
    repeat (go_big_quiet_step (first | (go_at_call 25; exact Calls.regrown_of ((CD _ (below_regrown _ _ _)).out)) | (go_at_call 35; exact Calls.regrown_of ((CS _ (below_regrown _ _ _)).out))))
    refine wpQuiet_nil ?_
    intro _ hw'
    obtain ⟨⟨dq, osq⟩, hw''⟩ := hw'
    subst hw''
    have hb2 := below_regrown w1 dq osq
    obtain ⟨w2, hwq⟩ : ∃ W, W = Sort.grow (redrawn w1 dq) osq := ⟨_, rfl⟩
    rw [← hwq] at hb2 ⊢
    clear hwq
    have B2 := Lib.hid (B1.out.trans (hb2.mono B1.out.size))
    go_wp2_with fail
    rw [HR.out]
    refine RetTx.mk (s := (tb ++ ⟨#[58]⟩) ++ sb) ?_ (B0.out.trans (B2.out.mono B0.out.size))
    rw [HTB.out, HSB.out]
    unfold polT sumQ
    rw [if_neg HN.out, if_neg HN.out, Int.toNat_natCast]
    have h1 := HJ.out (decW m) [58]
    have h2 := HJ.out (decW m ++ [58]) (Lib.join (xss.map (numT [44])) [43])
    rw [← h2, ← h1]
def ptT (v : Int) (xss : List (List Int)) : List UInt8 := if polB v xss = true then polT v xss else []
def ptC (v : Int) (xss : List (List Int)) : Int := if polB v xss = true then 0 else 1
def RetTC (t : List UInt8) (k : Int) (w : World) (e : Ending) (w' : World) : Prop := e = .returned (.tuple #[.string ⟨t.toArray⟩, .int .i64 k]) ∧ Below w.heap.size w w'
theorem RetTC.mk {t : List UInt8} {s : ByteArray} {k y : Int} {w w' : World} (h : s = ⟨t.toArray⟩) (hk : y = k) (hb : Below w.heap.size w w') : RetTC t k w (.returned (.tuple #[.string s, .int .i64 y])) w' := by subst h; subst hk; exact ⟨rfl, hb⟩
theorem polB_text {v : Int} {xss : List (List Int)} (h : polB v xss = true) : ∃ m : Nat, v = m ∧ m < 100 ∧ xss.length ≤ 2000 ∧ ∀ x ∈ xss, x.length ≤ 4 ∧ ∀ i ∈ x, 0 ≤ i ∧ i < 100 := by
  simp only [polB, Bool.and_eq_true, List.all_eq_true, decide_eq_true_eq] at h
  obtain ⟨⟨⟨⟨h1, h2⟩, h3⟩, _⟩, _⟩ := h
  have h1 := inB_iff.1 h1
  refine ⟨v.toNat, by omega, by omega, h2, fun x hx => ?_⟩
  have h4 := h3 x hx
  simp only [monB, Bool.and_eq_true, decide_eq_true_eq, degsB, List.all_eq_true] at h4
  exact ⟨by omega, fun i hi => by have := inB_iff.1 (h4.1.2 i hi); omega⟩
theorem polspec (v : Int) (A : Option Addr) (n c : Nat) (xss : List (List Int)) (w : World) (h : RdL w w.heap.size A n c xss) (hn : n ≤ 2000000) (ht : totalL xss ≤ 2000000) :
    Calls Tryz.prog 22 #[.agg #[.int .i64 v, .slice A n c]] w (RetBb (polB v xss) w) := l08Is_any v A n c xss w h hn ht
theorem polimpl (v : Int) (A : Option Addr) (n c : Nat) (xss : List (List Int)) (w : World) (h : RdL w w.heap.size A n c xss) (hn : n ≤ 2000000) (ht : totalL xss ≤ 2000000) :
    Calls Tryz.prog 14 #[.agg #[.int .i64 v, .slice A n c]] w (RetBb (polB v xss) w) := iIsPoly v A n c xss w h hn ht
end Go.Proofs.YtbcchiaigincaaaGreatDoor
