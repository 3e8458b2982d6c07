/- spec.l01Parity, l03Front, l03Left on one word. -/
import Derived.Test.YtdpkhgkoeoiemaaVecW
namespace Go.Proofs.Ytdpkhgkoeoiemaa
open Go.RowKit
set_option linter.unusedVariables false

theorem parityN_any (n k : Nat) (w : World) (hn : n < 9223372036854775808) (hk : k < 9223372036854775808) : Calls Try.prog 72 #[.int .i64 (n : Nat), .int .i64 (k : Nat)] w (RetI (if (n &&& k == k) = true then 1 else 0) w) := by
  have hand := bits_andN hn hk
  obtain ⟨p, hp⟩ : ∃ p, p = n &&& k := ⟨_, rfl⟩
  have hpn : p ≤ n := by rw [hp]; exact Nat.and_le_left
  rw [← hp] at hand ⊢
  clear hp
  by_cases he : p = k
  · subst he
    have HE : Hid ((if (p == p) = true then (1 : Int) else 0) = 1) := Lib.hid (by simp)
    have hb : ((p : Int) != (p : Int)) = false := by simp
    rw [HE.out]
    go_enter Try.func72, Try.ntmps72
    go_wp2_with fail
    go_ret
    exact RetI.mk (y := 1) rfl
  · have HE : Hid ((if (p == k) = true then (1 : Int) else 0) = 0) := Lib.hid (by simp [he])
    have hb : ((p : Int) != (k : Int)) = true := by simp; omega
    rw [HE.out]
    by_cases hkn : k ≤ n
    · go_enter Try.func72, Try.ntmps72
      go_wp2_with fail
      go_ret
      exact RetI.mk (y := 0) rfl
    · go_enter Try.func72, Try.ntmps72
      go_wp2_with fail
      go_ret
      exact RetI.mk (y := 0) rfl

theorem StS.one {w0 w : World} {B : Nat} (x : Int) (hb : Below B w0 w) (hB : B ≤ w.heap.size) : StS w0 B (w.alloc (.cells #[.int .i64 x] 2)) (some ⟨w.heap.size, 0, Option.none⟩) 1 1 [x] :=
  ⟨(OwnV.s (xs := [x]) (ownV_one w (.int .i64 x) 2)).mono hB, hb.alloc hB _, Nat.le_trans hB (by simp)⟩

theorem front_any (i : Nat) (A : Option Addr) (n c : Nat) (xs : List Int) (w : World) (h : RdS w w.heap.size A n c xs) (hn : n ≤ 1000) : Calls Try.prog 71 #[.int .i64 (i : Nat), .slice A n c] w (RetO (frontW (i : Int) xs).length (frontW (i : Int) xs) w) := by
  have HL := Lib.hid h.len
  have H := Lib.hid h
  clear h
  by_cases hi : i = 0
  · subst hi
    have HF := Lib.hid (show frontW ((0 : Nat) : Int) xs = xs from rfl)
    rw [HF.out, HL.out]
    go_enter Try.func71, Try.ntmps71
    go_wp2_with fail
    refine (l01Own_any A n c _ _ H.out (by omega)).mono ?_
    rintro e w1 ⟨A3, c3, rfl, ho, hb⟩
    go_wp2_with fail
    go_ret
    exact ⟨_, _, rfl, ho, hb⟩
  · have HF := Lib.hid (show frontW (i : Int) xs = (i : Int) :: xs from if_neg (by omega))
    have HF2 := Lib.hid (show ((i : Int) :: xs).length = 1 + n from by rw [List.length_cons, HL.out]; omega)
    rw [HF.out, HF2.out]
    have hi1 : ((i : Int) == 0) = false := by simp; omega
    have hi2 : ¬ ((i : Int) = 0) := by omega
    have HO := Lib.hid (StS.one (i : Int) (Below.refl w.heap.size w) (Nat.le_refl _))
    have HR := Lib.hid (H.out.below (Ext.alloc (Ext.refl w) (.cells #[.int .i64 (i : Int)] 2)))
    clear hi
    go_enter Try.func71, Try.ntmps71
    go_wp2_with (at_builtin; refine wpList_joinI rfl (.tmp 10) (.tmp 11) rfl rfl rfl HO.out HR.out (by omega) ?_)
    intro A2 c2 w2 hs _
    go_wp2_with fail
    go_ret
    exact hs.ret

set_option maxHeartbeats 2000000 in
theorem leftZ_any (AX : Option Addr) (cx : Nat) (xs : List Int) (w : World) (h : RdL w w.heap.size AX 1 cx [xs]) (hx : xs.length ≤ 1000) :
    Calls Try.prog 63 #[.int .i64 0, .slice AX 1 cx] w (RetL 1 [xs] w) := by
  have H := Lib.hid h
  have HX := Lib.hid hx
  have hst := StL.start (Below.refl w.heap.size w) (Nat.le_refl _)
  have HS := Lib.hid hst.here
  obtain ⟨V, hV⟩ : ∃ V, V = w.heap.size := ⟨_, rfl⟩
  have HVe := Lib.hid hV
  rw [← hV] at HS H
  obtain ⟨f, hf⟩ : ∃ f, f = xs := ⟨_, rfl⟩
  have HF := Lib.hid hf
  rw [← hf]
  obtain ⟨R, hR⟩ : ∃ R, R = RetL 1 [f] w := ⟨_, rfl⟩
  have HR := Lib.hid hR
  rw [← hR]
  clear hR hV h hx hst hf
  go_enter Try.func63, Try.ntmps63
  go_wp2_with fail
  rw [← HVe.out]
  go_loopw [5, 6] (fun o i wr => ∃ (k l c : Nat) (A : Option Addr) (zs : List (List Int)), i = .int .i64 k ∧ o = .slice A l c ∧ (k = 0 ∧ l = 0 ∧ zs = [] ∨ k = 1 ∧ l = 1 ∧ zs = [f]) ∧ Hid (StL w V wr wr.heap.size A l c zs)) (fun _ i _ => 1 - (intOf i).toNat)
  case atStart => exact ⟨0, 0, _, _, [], rfl, rfl, .inl ⟨rfl, rfl, rfl⟩, HS⟩
  case round =>
    clear HS
    obtain ⟨k, l, c, A, zs, rfl, rfl, hk, HS⟩ := hrel
    rcases hk with ⟨rfl, rfl, rfl⟩ | ⟨rfl, rfl, rfl⟩
    · obtain ⟨ad, A', n', c', x, rfl, hb, hx, hcx, hr⟩ := (H.out.below HS.out.bel).at_ (k := 0) (by omega)
      have hc0 : wr.cell? ad = some (.slice A' n' c') := by simpa [Addr.add] using hcx
      obtain rfl : xs = x := by simpa using hx.out
      have HN := Lib.hid (show n' ≤ 1000 from by rw [← hr.len]; exact HX.out)
      have HRr := Lib.hid (hr.mono HS.out.size)
      have HFr := fun (W : World) (hB : Below wr.heap.size wr W) => Lib.hid (front_any 0 A' n' c' xs W ((HRr.out.below hB).mono hB.size) HN.out)
      simp only [show frontW ((0 : Nat) : Int) xs = xs from rfl] at HFr
      rw [← HF.out] at HFr
      have hfl : f.length ≤ 1001 := by
        rw [HF.out]; exact Nat.le_trans HX.out (by omega)
      obtain ⟨lf, hlf⟩ : ∃ l, l = f.length := ⟨_, rfl⟩
      rw [← hlf] at HFr hfl
      clear hb hx hcx hlf
      go_wp2_with (go_at_call 71; refine (HFr _ (by first | exact Below.refl _ _ | exact below_drewN (Below.refl _ _) 1)).out.mono ?_)
      rintro e w1 ⟨A3, c3, rfl, ho3, hb3⟩
      have HS3 := Lib.hid (HS.out.call hb3)
      have HO3 := Lib.hid ho3.rd
      clear ho3 hb3
      go_wp2_with fail
      refine (put_any A A3 0 c lf c3 V wr.heap.size [] f w1 HS3.out.own HS3.out.lo HS3.out.hi HO3.out (by omega) (by omega) (by simp)).mono ?_
      rintro e w2 ⟨A4, c4, rfl, ho4, hb4⟩
      have HS4 := Lib.hid (show StL w V w2 w2.heap.size A4 1 c4 [f] from ⟨ho4, HS3.out.bel.trans (hb4.mono HS3.out.size), Nat.le_trans HS3.out.size hb4.size, Nat.le_refl _⟩)
      clear ho4 hb4
      go_wp2_with fail
      go_roundw
      case rel => exact ⟨1, 1, _, _, [f], by go_num, rfl, .inr ⟨rfl, rfl, rfl⟩, HS4⟩
      case measure => simp [intOf]
    · go_wp2_with fail
      rw [HR.out]
      have h := HS.out
      rw [HVe.out] at h
      exact h.ret

set_option maxHeartbeats 2000000 in
theorem leftP_any (i : Nat) (AX : Option Addr) (cx : Nat) (xs : List Int) (w : World) (h : RdL w w.heap.size AX 1 cx [xs]) (hx : xs.length ≤ 1000) (hi0 : i ≠ 0) (hc : xs = [] ∨ ∃ (x : Nat) (r : List Int), xs = (x : Int) :: r ∧ 2 * x ≤ i) (hi : i ≤ 1000) :
    Calls Try.prog 63 #[.int .i64 (i : Nat), .slice AX 1 cx] w (RetL 1 [frontW (i : Int) xs] w) := by
  have H := Lib.hid h
  have HX := Lib.hid hx
  have HC := Lib.hid hc
  have hst := StL.start (Below.refl w.heap.size w) (Nat.le_refl _)
  have HS := Lib.hid hst.here
  obtain ⟨V, hV⟩ : ∃ V, V = w.heap.size := ⟨_, rfl⟩
  have HVe := Lib.hid hV
  rw [← hV] at HS H
  obtain ⟨f, hf⟩ : ∃ f, f = frontW (i : Int) xs := ⟨_, rfl⟩
  have HF := Lib.hid hf
  rw [← hf]
  obtain ⟨R, hR⟩ : ∃ R, R = RetL 1 [f] w := ⟨_, rfl⟩
  have HR := Lib.hid hR
  rw [← hR]
  clear hR hV h hx hst hc hf
  go_enter Try.func63, Try.ntmps63
  go_wp2_with fail
  rw [← HVe.out]
  go_loopw [5, 6] (fun o i wr => ∃ (k l c : Nat) (A : Option Addr) (zs : List (List Int)), i = .int .i64 k ∧ o = .slice A l c ∧ (k = 0 ∧ l = 0 ∧ zs = [] ∨ k = 1 ∧ l = 1 ∧ zs = [f]) ∧ Hid (StL w V wr wr.heap.size A l c zs)) (fun _ i _ => 1 - (intOf i).toNat)
  case atStart => exact ⟨0, 0, _, _, [], rfl, rfl, .inl ⟨rfl, rfl, rfl⟩, HS⟩
  case round =>
    clear HS
    obtain ⟨k, l, c, A, zs, rfl, rfl, hk, HS⟩ := hrel
    rcases hk with ⟨rfl, rfl, rfl⟩ | ⟨rfl, rfl, rfl⟩
    · obtain ⟨ad, A', n', c', x, rfl, hb, hx, hcx, hr⟩ := (H.out.below HS.out.bel).at_ (k := 0) (by omega)
      have hc0 : wr.cell? ad = some (.slice A' n' c') := by simpa [Addr.add] using hcx
      obtain rfl : xs = x := by simpa using hx.out
      have HN := Lib.hid (show n' ≤ 1000 from by rw [← hr.len]; exact HX.out)
      have HRr := Lib.hid (hr.mono HS.out.size)
      have HFr := fun (W : World) (hB : Below wr.heap.size wr W) => Lib.hid (front_any i A' n' c' xs W ((HRr.out.below hB).mono hB.size) HN.out)
      rw [← HF.out] at HFr
      have hfl : f.length ≤ 1001 := by
        rw [HF.out]
        unfold frontW
        split
        · exact Nat.le_trans HX.out (by omega)
        · rw [List.length_cons]; have := HX.out; omega
      obtain ⟨lf, hlf⟩ : ∃ l, l = f.length := ⟨_, rfl⟩
      rw [← hlf] at HFr hfl
      clear hb hx hcx hlf
      have h0 := hi0
      rcases HC.out with h1 | ⟨x, r, h1, h2⟩
      · have hn0 : n' = 0 := by rw [← hr.len, h1]; rfl
        subst hn0
        have hi1 : ((i : Int) == 0) = false := by simp; omega
        have hi2 : ¬ ((i : Int) = 0) := by omega
        clear h0 h1
        go_wp2_with (go_at_call 71; refine (HFr _ (by first | exact Below.refl _ _ | exact below_drewN (Below.refl _ _) 1)).out.mono ?_)
        rintro e w1 ⟨A3, c3, rfl, ho3, hb3⟩
        have HS3 := Lib.hid (HS.out.call hb3)
        have HO3 := Lib.hid ho3.rd
        clear ho3 hb3
        go_wp2_with fail
        refine (put_any A A3 0 c lf c3 V wr.heap.size [] f w1 HS3.out.own HS3.out.lo HS3.out.hi HO3.out (by omega) (by omega) (by simp)).mono ?_
        rintro e w2 ⟨A4, c4, rfl, ho4, hb4⟩
        have HS4 := Lib.hid (show StL w V w2 w2.heap.size A4 1 c4 [f] from ⟨ho4, HS3.out.bel.trans (hb4.mono HS3.out.size), Nat.le_trans HS3.out.size hb4.size, Nat.le_refl _⟩)
        clear ho4 hb4
        go_wp2_with fail
        go_roundw
        case rel => exact ⟨1, 1, _, _, [f], by go_num, rfl, .inr ⟨rfl, rfl, rfl⟩, HS4⟩
        case measure => simp [intOf]
      · have hn0 : 0 < n' := by rw [← hr.len, h1]; simp
        obtain ⟨ax, y, rfl, _, hy, hcy⟩ := hr.at_ hn0
        have hy0 : y = (x : Int) := by have := hy.out; rw [h1] at this; simpa using this.symm
        subst hy0
        have hcy0 : wr.cell? ax = some (.int .i64 (x : Int)) := by simpa [Addr.add] using hcy
        have hi1 : ((i : Int) == 0) = false := by simp; omega
        have hi2 : ¬ ((i : Int) = 0) := by omega
        have hn1 : ((n' : Int) == 0) = false := by simp; omega
        have hn2 : ¬ ((n' : Int) = 0) := by omega
        have hw1 : IntKind.i64.wrap (2 * (x : Int)) = 2 * (x : Int) := by rw [IntKind.wrap_i64]; omega
        have hw2 : wrap64 (2 * (x : Int)) = 2 * (x : Int) := by unfold wrap64; omega
        have hle : (2 * (x : Int)) ≤ (i : Int) := by omega
        clear h0 h1 h2 hy hcy
        go_wp2_with (go_at_call 71; refine (HFr _ (by first | exact Below.refl _ _ | exact below_drewN (Below.refl _ _) 1)).out.mono ?_)
        rintro e w1 ⟨A3, c3, rfl, ho3, hb3⟩
        have HS3 := Lib.hid (HS.out.call hb3)
        have HO3 := Lib.hid ho3.rd
        clear ho3 hb3
        go_wp2_with fail
        refine (put_any A A3 0 c lf c3 V wr.heap.size [] f w1 HS3.out.own HS3.out.lo HS3.out.hi HO3.out (by omega) (by omega) (by simp)).mono ?_
        rintro e w2 ⟨A4, c4, rfl, ho4, hb4⟩
        have HS4 := Lib.hid (show StL w V w2 w2.heap.size A4 1 c4 [f] from ⟨ho4, HS3.out.bel.trans (hb4.mono HS3.out.size), Nat.le_trans HS3.out.size hb4.size, Nat.le_refl _⟩)
        clear ho4 hb4
        go_wp2_with fail
        go_roundw
        case rel => exact ⟨1, 1, _, _, [f], by go_num, rfl, .inr ⟨rfl, rfl, rfl⟩, HS4⟩
        case measure => simp [intOf]
    · go_wp2_with fail
      rw [HR.out]
      have h := HS.out
      rw [HVe.out] at h
      exact h.ret

theorem left1_any (i : Nat) (AX : Option Addr) (cx : Nat) (xs : List Int) (w : World) (h : RdL w w.heap.size AX 1 cx [xs]) (hx : xs.length ≤ 1000) (hc : i = 0 ∨ xs = [] ∨ ∃ (x : Nat) (r : List Int), xs = (x : Int) :: r ∧ 2 * x ≤ i) (hi : i ≤ 1000) :
    Calls Try.prog 63 #[.int .i64 (i : Nat), .slice AX 1 cx] w (RetL 1 [frontW (i : Int) xs] w) := by
  by_cases h0 : i = 0
  · subst h0
    exact leftZ_any AX cx xs w h hx
  · exact leftP_any i AX cx xs w h hx h0 (hc.resolve_left h0) hi
end Go.Proofs.Ytdpkhgkoeoiemaa
