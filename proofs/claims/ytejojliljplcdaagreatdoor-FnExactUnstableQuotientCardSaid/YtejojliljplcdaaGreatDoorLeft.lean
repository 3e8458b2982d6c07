/- spec.l01Parity, l03Front, l03Left on one word. -/
import Derived.Test.YtejojliljplcdaaGreatDoorVec
import Derived.Test.YtejojliljplcdaaGreatDoorSumL
namespace Go.Proofs.YtejojliljplcdaaGreatDoor
open Go.RowKit
set_option linter.unusedVariables false

theorem parityN_any (n k : Nat) (w : World) (hn : n < 9223372036854775808) (hk : k < 9223372036854775808) : Calls Tryz.prog 124 #[.int .i64 (n : Nat), .int .i64 (k : Nat)] w (RetI (if (n &&& k == k) = true then 1 else 0) w) := by
  have hand := bits_andN hn hk
  obtain ⟨p, hp⟩ : ∃ p, p = n &&& k := ⟨_, rfl⟩
  have hpn : p ≤ n := by rw [hp]; exact Nat.and_le_left
  rw [← hp] at hand ⊢
  clear hp
  by_cases he : p = k
  · subst he
    have HE : Hid ((if (p == p) = true then (1 : Int) else 0) = 1) := Lib.hid (by simp)
    have hb : ((p : Int) != (p : Int)) = false := by simp
    rw [HE.out]
    go_enter Tryz.func124, Tryz.ntmps124
    go_wp2_with fail
    go_ret
    exact RetI.mk (y := 1) rfl
  · have HE : Hid ((if (p == k) = true then (1 : Int) else 0) = 0) := Lib.hid (by simp [he])
    have hb : ((p : Int) != (k : Int)) = true := by simp; omega
    rw [HE.out]
    by_cases hkn : k ≤ n
    · go_enter Tryz.func124, Tryz.ntmps124
      go_wp2_with fail
      go_ret
      exact RetI.mk (y := 0) rfl
    · go_enter Tryz.func124, Tryz.ntmps124
      go_wp2_with fail
      go_ret
      exact RetI.mk (y := 0) rfl

theorem StS.one {w0 w : World} {B : Nat} (x : Int) (hb : Below B w0 w) (hB : B ≤ w.heap.size) : StS w0 B (w.alloc (.cells #[.int .i64 x] 2)) (some ⟨w.heap.size, 0, Option.none⟩) 1 1 [x] :=
  ⟨(OwnV.s (xs := [x]) (ownV_one w (.int .i64 x) 2)).mono hB, hb.alloc hB _, Nat.le_trans hB (by simp)⟩

theorem front_any (i : Nat) (A : Option Addr) (n c : Nat) (xs : List Int) (w : World) (h : RdS w w.heap.size A n c xs) (hn : n ≤ 1000) : Calls Tryz.prog 146 #[.int .i64 (i : Nat), .slice A n c] w (RetO (frontW (i : Int) xs).length (frontW (i : Int) xs) w) := by
  have HL := Lib.hid h.len
  have H := Lib.hid h
  clear h
  by_cases hi : i = 0
  · subst hi
    have HF := Lib.hid (show frontW ((0 : Nat) : Int) xs = xs from rfl)
    rw [HF.out, HL.out]
    go_enter Tryz.func146, Tryz.ntmps146
    go_wp2_with fail
    refine (l01Own_any A n c _ _ H.out (by omega)).mono ?_
    rintro e w1 ⟨A3, c3, rfl, ho, hb⟩
    go_wp2_with fail
    go_ret
    exact ⟨_, _, rfl, ho, hb⟩
  · have HF := Lib.hid (show frontW (i : Int) xs = (i : Int) :: xs from if_neg (by omega))
    have HF2 := Lib.hid (show ((i : Int) :: xs).length = 1 + n from by rw [List.length_cons, HL.out]; omega)
    rw [HF.out, HF2.out]
    have hi1 : ((i : Int) == 0) = false := by simp; omega
    have hi2 : ¬ ((i : Int) = 0) := by omega
    have HO := Lib.hid (StS.one (i : Int) (Below.refl w.heap.size w) (Nat.le_refl _))
    have HR := Lib.hid (H.out.below (Ext.alloc (Ext.refl w) (.cells #[.int .i64 (i : Int)] 2)))
    clear hi
    go_enter Tryz.func146, Tryz.ntmps146
    go_wp2_with (at_builtin; refine wpList_joinI rfl (.tmp 10) (.tmp 11) rfl rfl rfl HO.out HR.out (by omega) ?_)
    intro A2 c2 w2 hs _
    go_wp2_with fail
    go_ret
    exact hs.ret

set_option maxHeartbeats 2000000 in
theorem leftZ_any (AX : Option Addr) (cx : Nat) (xs : List Int) (w : World) (h : RdL w w.heap.size AX 1 cx [xs]) (hx : xs.length ≤ 1000) :
    Calls Tryz.prog 135 #[.int .i64 0, .slice AX 1 cx] w (RetL 1 [xs] w) := by
  have H := Lib.hid h
  have HX := Lib.hid hx
  have hst := StL.start (Below.refl w.heap.size w) (Nat.le_refl _)
  have HS := Lib.hid hst.here
  obtain ⟨V, hV⟩ : ∃ V, V = w.heap.size := ⟨_, rfl⟩
  have HVe := Lib.hid hV
  rw [← hV] at HS H
  obtain ⟨f, hf⟩ : ∃ f, f = xs := ⟨_, rfl⟩
  have HF := Lib.hid hf
  rw [← hf]
  obtain ⟨R, hR⟩ : ∃ R, R = RetL 1 [f] w := ⟨_, rfl⟩
  have HR := Lib.hid hR
  rw [← hR]
  clear hR hV h hx hst hf
  go_enter Tryz.func135, Tryz.ntmps135
  go_wp2_with fail
  rw [← HVe.out]
  go_loopw [5, 6] (fun o i wr => ∃ (k l c : Nat) (A : Option Addr) (zs : List (List Int)), i = .int .i64 k ∧ o = .slice A l c ∧ (k = 0 ∧ l = 0 ∧ zs = [] ∨ k = 1 ∧ l = 1 ∧ zs = [f]) ∧ Hid (StL w V wr wr.heap.size A l c zs)) (fun _ i _ => 1 - (intOf i).toNat)
  case atStart => exact ⟨0, 0, _, _, [], rfl, rfl, .inl ⟨rfl, rfl, rfl⟩, HS⟩
  case round =>
    clear HS
    obtain ⟨k, l, c, A, zs, rfl, rfl, hk, HS⟩ := hrel
    rcases hk with ⟨rfl, rfl, rfl⟩ | ⟨rfl, rfl, rfl⟩
    · obtain ⟨ad, A', n', c', x, rfl, hb, hx, hcx, hr⟩ := (H.out.below HS.out.bel).at_ (k := 0) (by omega)
      have hc0 : wr.cell? ad = some (.slice A' n' c') := by simpa [Addr.add] using hcx
      obtain rfl : xs = x := by simpa using hx.out
      have HN := Lib.hid (show n' ≤ 1000 from by rw [← hr.len]; exact HX.out)
      have HRr := Lib.hid (hr.mono HS.out.size)
      have HFr := fun (W : World) (hB : Below wr.heap.size wr W) => Lib.hid (front_any 0 A' n' c' xs W ((HRr.out.below hB).mono hB.size) HN.out)
      simp only [show frontW ((0 : Nat) : Int) xs = xs from rfl] at HFr
      rw [← HF.out] at HFr
      have hfl : f.length ≤ 1001 := by
        rw [HF.out]; exact Nat.le_trans HX.out (by omega)
      obtain ⟨lf, hlf⟩ : ∃ l, l = f.length := ⟨_, rfl⟩
      rw [← hlf] at HFr hfl
      clear hb hx hcx hlf
      go_wp2_with (go_at_call 146; refine (HFr _ (by first | exact Below.refl _ _ | exact below_drewN (Below.refl _ _) 1)).out.mono ?_)
      rintro e w1 ⟨A3, c3, rfl, ho3, hb3⟩
      have HS3 := Lib.hid (HS.out.call hb3)
      have HO3 := Lib.hid ho3.rd
      clear ho3 hb3
      go_wp2_with fail
      refine (put_any A A3 0 c lf c3 V wr.heap.size [] f w1 HS3.out.own HS3.out.lo HS3.out.hi HO3.out (by omega) (by omega) (by simp)).mono ?_
      rintro e w2 ⟨A4, c4, rfl, ho4, hb4⟩
      have HS4 := Lib.hid (show StL w V w2 w2.heap.size A4 1 c4 [f] from ⟨ho4, HS3.out.bel.trans (hb4.mono HS3.out.size), Nat.le_trans HS3.out.size hb4.size, Nat.le_refl _⟩)
      clear ho4 hb4
      go_wp2_with fail
      go_roundw
      case rel => exact ⟨1, 1, _, _, [f], by go_num, rfl, .inr ⟨rfl, rfl, rfl⟩, HS4⟩
      case measure => simp [intOf]
    · go_wp2_with fail
      rw [HR.out]
      have h := HS.out
      rw [HVe.out] at h
      exact h.ret

set_option maxHeartbeats 2000000 in
theorem leftP_any (i : Nat) (AX : Option Addr) (cx : Nat) (xs : List Int) (w : World) (h : RdL w w.heap.size AX 1 cx [xs]) (hx : xs.length ≤ 1000) (hi0 : i ≠ 0) (hc : xs = [] ∨ ∃ (x : Nat) (r : List Int), xs = (x : Int) :: r ∧ 2 * x ≤ i) (hi : i ≤ 1000) :
    Calls Tryz.prog 135 #[.int .i64 (i : Nat), .slice AX 1 cx] w (RetL 1 [frontW (i : Int) xs] w) := by
  have H := Lib.hid h
  have HX := Lib.hid hx
  have HC := Lib.hid hc
  have hst := StL.start (Below.refl w.heap.size w) (Nat.le_refl _)
  have HS := Lib.hid hst.here
  obtain ⟨V, hV⟩ : ∃ V, V = w.heap.size := ⟨_, rfl⟩
  have HVe := Lib.hid hV
  rw [← hV] at HS H
  obtain ⟨f, hf⟩ : ∃ f, f = frontW (i : Int) xs := ⟨_, rfl⟩
  have HF := Lib.hid hf
  rw [← hf]
  obtain ⟨R, hR⟩ : ∃ R, R = RetL 1 [f] w := ⟨_, rfl⟩
  have HR := Lib.hid hR
  rw [← hR]
  clear hR hV h hx hst hc hf
  go_enter Tryz.func135, Tryz.ntmps135
  go_wp2_with fail
  rw [← HVe.out]
  go_loopw [5, 6] (fun o i wr => ∃ (k l c : Nat) (A : Option Addr) (zs : List (List Int)), i = .int .i64 k ∧ o = .slice A l c ∧ (k = 0 ∧ l = 0 ∧ zs = [] ∨ k = 1 ∧ l = 1 ∧ zs = [f]) ∧ Hid (StL w V wr wr.heap.size A l c zs)) (fun _ i _ => 1 - (intOf i).toNat)
  case atStart => exact ⟨0, 0, _, _, [], rfl, rfl, .inl ⟨rfl, rfl, rfl⟩, HS⟩
  case round =>
    clear HS
    obtain ⟨k, l, c, A, zs, rfl, rfl, hk, HS⟩ := hrel
    rcases hk with ⟨rfl, rfl, rfl⟩ | ⟨rfl, rfl, rfl⟩
    · obtain ⟨ad, A', n', c', x, rfl, hb, hx, hcx, hr⟩ := (H.out.below HS.out.bel).at_ (k := 0) (by omega)
      have hc0 : wr.cell? ad = some (.slice A' n' c') := by simpa [Addr.add] using hcx
      obtain rfl : xs = x := by simpa using hx.out
      have HN := Lib.hid (show n' ≤ 1000 from by rw [← hr.len]; exact HX.out)
      have HRr := Lib.hid (hr.mono HS.out.size)
      have HFr := fun (W : World) (hB : Below wr.heap.size wr W) => Lib.hid (front_any i A' n' c' xs W ((HRr.out.below hB).mono hB.size) HN.out)
      rw [← HF.out] at HFr
      have hfl : f.length ≤ 1001 := by
        rw [HF.out]
        unfold frontW
        split
        · exact Nat.le_trans HX.out (by omega)
        · rw [List.length_cons]; have := HX.out; omega
      obtain ⟨lf, hlf⟩ : ∃ l, l = f.length := ⟨_, rfl⟩
      rw [← hlf] at HFr hfl
      clear hb hx hcx hlf
      have h0 := hi0
      rcases HC.out with h1 | ⟨x, r, h1, h2⟩
      · have hn0 : n' = 0 := by rw [← hr.len, h1]; rfl
        subst hn0
        have hi1 : ((i : Int) == 0) = false := by simp; omega
        have hi2 : ¬ ((i : Int) = 0) := by omega
        clear h0 h1
        go_wp2_with (go_at_call 146; refine (HFr _ (by first | exact Below.refl _ _ | exact below_drewN (Below.refl _ _) 1)).out.mono ?_)
        rintro e w1 ⟨A3, c3, rfl, ho3, hb3⟩
        have HS3 := Lib.hid (HS.out.call hb3)
        have HO3 := Lib.hid ho3.rd
        clear ho3 hb3
        go_wp2_with fail
        refine (put_any A A3 0 c lf c3 V wr.heap.size [] f w1 HS3.out.own HS3.out.lo HS3.out.hi HO3.out (by omega) (by omega) (by simp)).mono ?_
        rintro e w2 ⟨A4, c4, rfl, ho4, hb4⟩
        have HS4 := Lib.hid (show StL w V w2 w2.heap.size A4 1 c4 [f] from ⟨ho4, HS3.out.bel.trans (hb4.mono HS3.out.size), Nat.le_trans HS3.out.size hb4.size, Nat.le_refl _⟩)
        clear ho4 hb4
        go_wp2_with fail
        go_roundw
        case rel => exact ⟨1, 1, _, _, [f], by go_num, rfl, .inr ⟨rfl, rfl, rfl⟩, HS4⟩
        case measure => simp [intOf]
      · have hn0 : 0 < n' := by rw [← hr.len, h1]; simp
        obtain ⟨ax, y, rfl, _, hy, hcy⟩ := hr.at_ hn0
        have hy0 : y = (x : Int) := by have := hy.out; rw [h1] at this; simpa using this.symm
        subst hy0
        have hcy0 : wr.cell? ax = some (.int .i64 (x : Int)) := by simpa [Addr.add] using hcy
        have hi1 : ((i : Int) == 0) = false := by simp; omega
        have hi2 : ¬ ((i : Int) = 0) := by omega
        have hn1 : ((n' : Int) == 0) = false := by simp; omega
        have hn2 : ¬ ((n' : Int) = 0) := by omega
        have hw1 : IntKind.i64.wrap (2 * (x : Int)) = 2 * (x : Int) := by rw [IntKind.wrap_i64]; omega
        have hw2 : wrap64 (2 * (x : Int)) = 2 * (x : Int) := by unfold wrap64; omega
        have hle : (2 * (x : Int)) ≤ (i : Int) := by omega
        clear h0 h1 h2 hy hcy
        go_wp2_with (go_at_call 146; refine (HFr _ (by first | exact Below.refl _ _ | exact below_drewN (Below.refl _ _) 1)).out.mono ?_)
        rintro e w1 ⟨A3, c3, rfl, ho3, hb3⟩
        have HS3 := Lib.hid (HS.out.call hb3)
        have HO3 := Lib.hid ho3.rd
        clear ho3 hb3
        go_wp2_with fail
        refine (put_any A A3 0 c lf c3 V wr.heap.size [] f w1 HS3.out.own HS3.out.lo HS3.out.hi HO3.out (by omega) (by omega) (by simp)).mono ?_
        rintro e w2 ⟨A4, c4, rfl, ho4, hb4⟩
        have HS4 := Lib.hid (show StL w V w2 w2.heap.size A4 1 c4 [f] from ⟨ho4, HS3.out.bel.trans (hb4.mono HS3.out.size), Nat.le_trans HS3.out.size hb4.size, Nat.le_refl _⟩)
        clear ho4 hb4
        go_wp2_with fail
        go_roundw
        case rel => exact ⟨1, 1, _, _, [f], by go_num, rfl, .inr ⟨rfl, rfl, rfl⟩, HS4⟩
        case measure => simp [intOf]
    · go_wp2_with fail
      rw [HR.out]
      have h := HS.out
      rw [HVe.out] at h
      exact h.ret

theorem left1_any (i : Nat) (AX : Option Addr) (cx : Nat) (xs : List Int) (w : World) (h : RdL w w.heap.size AX 1 cx [xs]) (hx : xs.length ≤ 1000) (hc : i = 0 ∨ xs = [] ∨ ∃ (x : Nat) (r : List Int), xs = (x : Int) :: r ∧ 2 * x ≤ i) (hi : i ≤ 1000) :
    Calls Tryz.prog 135 #[.int .i64 (i : Nat), .slice AX 1 cx] w (RetL 1 [frontW (i : Int) xs] w) := by
  by_cases h0 : i = 0
  · subst h0
    exact leftZ_any AX cx xs w h hx
  · exact leftP_any i AX cx xs w h hx h0 (hc.resolve_left h0) hi
end Go.Proofs.YtejojliljplcdaaGreatDoor

/- spec.l03Left on a word of two squares, spec.l03Form of such a word. -/
namespace Go.Proofs.YtejojliljplcdaaGreatDoor
open Go.RowKit
set_option linter.unusedVariables false

theorem rdS_nil {w : World} {B c : Nat} {A : Option Addr} : RdS w B A 0 c [] := ⟨rfl, Nat.zero_le _, fun j h => absurd h (by simp)⟩

set_option maxRecDepth 100000 in
set_option maxHeartbeats 4000000 in
theorem left2_any (a b : Nat) (AX : Option Addr) (cx : Nat) (w : World) (h : RdL w w.heap.size AX 1 cx [[(b : Int)]]) (ha : 1 ≤ a) (hab : a / 2 + 1 ≤ b) (hb : b ≤ 100) :
    Calls Tryz.prog 135 #[.int .i64 (a : Nat), .slice AX 1 cx] w (RetL (formF a b).length (formF a b) w) := by
  have H := Lib.hid h
  have hst := StL.start (Below.refl w.heap.size w) (Nat.le_refl _)
  have HS := Lib.hid hst.here
  obtain ⟨V, hV⟩ : ∃ V, V = w.heap.size := ⟨_, rfl⟩
  have HVe := Lib.hid hV
  rw [← hV] at HS H
  obtain ⟨R, hR⟩ : ∃ R, R = RetL (formF a b).length (formF a b) w := ⟨_, rfl⟩
  have HR := Lib.hid hR
  rw [← hR]
  clear hR hV h hst
  have hi1 : ((a : Int) == 0) = false := by simp; omega
  have hi2 : ¬ ((a : Int) = 0) := by omega
  go_enter Tryz.func135, Tryz.ntmps135
  go_wp2_with fail
  rw [← HVe.out]
  go_loopw [5, 6] (fun o i wr => ∃ (k l c : Nat) (A : Option Addr) (zs : List (List Int)), i = .int .i64 k ∧ o = .slice A l c ∧ (k = 0 ∧ l = 0 ∧ zs = [] ∨ k = 1 ∧ zs = formF a b) ∧ Hid (StL w V wr wr.heap.size A l c zs)) (fun _ i _ => 1 - (intOf i).toNat)
  case atStart => exact ⟨0, 0, _, _, [], rfl, rfl, .inl ⟨rfl, rfl, rfl⟩, HS⟩
  case round =>
    clear HS
    obtain ⟨k, l, c, A, zs, rfl, rfl, hk, HS⟩ := hrel
    rcases hk with ⟨rfl, rfl, rfl⟩ | ⟨rfl, rfl⟩
    · obtain ⟨ad, A', n', c', x, rfl, hbk, hx, hcx, hr⟩ := (H.out.below HS.out.bel).at_ (k := 0) (by omega)
      have hc0 : wr.cell? ad = some (.slice A' n' c') := by simpa [Addr.add] using hcx
      obtain rfl : [(b : Int)] = x := by simpa using hx.out
      obtain rfl : n' = 1 := by rw [← hr.len]; rfl
      have hcap := hr.cap
      obtain ⟨ax, y, rfl, hba, hy, hcy⟩ := hr.at_ (k := 0) (by omega)
      obtain rfl : y = (b : Int) := by simpa using hy.out.symm
      have hcy0 : wr.cell? ax = some (.int .i64 (b : Int)) := by simpa [Addr.add] using hcy
      have hcyd : wr.drew.cell? ax = some (.int .i64 (b : Int)) := hcy0
      have hw1 : IntKind.i64.wrap (2 * (b : Int)) = 2 * (b : Int) := by rw [IntKind.wrap_i64]; omega
      have hw2 : wrap64 (2 * (b : Int)) = 2 * (b : Int) := by unfold wrap64; omega
      have hle : ¬ (2 * (b : Int)) ≤ (a : Int) := by omega
      have hwr := HS.out.size
      clear hbk hx hcx hr hy hcy
      have hax : ax.block < wr.heap.size := Nat.lt_of_lt_of_le hba hwr
      clear hba
      by_cases hcm : c' = 1
      · subst hcm
        have hcm := True.intro
        have hk1 : (wr.alloc (.cells #[.slice (some ax) 0 0] 22)).cell? ax = some (.int .i64 (b : Int)) := old_atA hax hcy0
        have hk2 : (wr.alloc (.cells #[.slice (some ax) 0 0] 22)).drew.cell? ax = some (.int .i64 (b : Int)) := hk1
        have HQ := Lib.hid (show RdL (wr.alloc (.cells #[.slice (some ax) 0 0] 22)).drew (wr.alloc (.cells #[.slice (some ax) 0 0] 22)).drew.heap.size (some ⟨wr.heap.size, 0, none⟩) 1 1 [[]] from (rdL_one (w := wr) (B := 0) (n := 0) (c := 0) (A := some ax) (x := []) rdS_nil (Nat.zero_le _)).drewN 1)
        have HSq := Lib.hid (HS.out.call (below_drewN (Ext.alloc (Ext.refl wr) (.cells #[.slice (some ax) 0 0] 22)) 1)).here
        go_wp2_with fail
        go_region
        obtain ⟨wq, hwq⟩ : ∃ W, W = (wr.alloc (.cells #[.slice (some ax) 0 0] 22)).drew := ⟨_, rfl⟩
        rw [← hwq]
        simp only [World.drewN] at HSq
        have HSq2 : Hid (StL w V wq wq.heap.size A 0 c []) := by rw [hwq]; exact HSq
        rw [← hwq] at HQ
        generalize (⟨wr.heap.size, 0, none⟩ : Addr) = aq at HQ ⊢
        clear hwq HSq HS hcy0 hcyd hk1 hk2 hax hc0 hcap hle hw1 hw2 hcm hwr
        go_wp2_with fail
        go_loopw [5, 10] (fun o i wx => ∃ (j l c : Nat) (A : Option Addr) (zs : List (List Int)), j ≤ a / 2 + 1 ∧ i = .int .i64 j ∧ o = .slice A l c ∧ Hid (zs = leftP a b j) ∧ Hid (l = zs.length) ∧ Hid (StL w V wx wx.heap.size A l c zs) ∧ Hid (Below wq.heap.size wq wx)) (fun _ i _ => a + 1 - (intOf i).toNat)
        case atStart => exact ⟨0, 0, c, A, [], Nat.zero_le _, rfl, rfl, Lib.hid rfl, Lib.hid rfl, HSq2, Lib.hid (Below.refl _ _)⟩
        case round =>
          clear HSq2
          obtain ⟨j, l, c, A, zs, hj, rfl, rfl, HZ, HL, HS, HX⟩ := hrel
          have hw1 : IntKind.i64.wrap (2 * (j : Int)) = 2 * (j : Int) := by rw [IntKind.wrap_i64]; omega
          by_cases hlt : j < a / 2 + 1
          · have hle : (2 * (j : Int)) ≤ (a : Int) := by omega
            have hw2 : IntKind.i64.wrap ((b : Int) - (j : Int)) = (b : Int) - (j : Int) := by rw [IntKind.wrap_i64]; omega
            have hw3 : IntKind.i64.wrap ((b : Int) - (j : Int) - 1) = ((b - 1 - j : Nat) : Int) := by rw [IntKind.wrap_i64]; omega
            have hw4 : IntKind.i64.wrap ((a : Int) - 2 * (j : Int)) = ((a - 2 * j : Nat) : Int) := by rw [IntKind.wrap_i64]; omega
            have hw5 : IntKind.i64.wrap ((a : Int) + (b : Int)) = (a : Int) + (b : Int) := by rw [IntKind.wrap_i64]; omega
            have hw6 : IntKind.i64.wrap ((a : Int) + (b : Int) - (j : Int)) = ((a + b - j : Nat) : Int) := by rw [IntKind.wrap_i64]; omega
            have HPa := Lib.hid (parityN_any (b - 1 - j) (a - 2 * j) wr (by omega) (by omega))
            have hll : zs.length ≤ 101 := by have h3 := leftP_len a b j; rw [HZ.out]; omega
            have hzt : totalL zs ≤ 202 := by
              have h4 := totalL_leC (c := 2) (xss := zs) (fun x hx => by rw [HZ.out] at hx; exact leftP_mem hx)
              omega
            have hza : Asc zs := by rw [HZ.out]; exact leftP_asc a b j
            have HLL := Lib.hid hll
            have HZT := Lib.hid hzt
            have HZA := Lib.hid hza
            have hl := HL.out
            have hl101 : l ≤ 101 := by omega
            have HWR := Lib.hid (wrd_front (a := a) (b := b) (j := j) (by omega) (by omega))
            obtain ⟨s, hs⟩ : ∃ s, s = a + b - j := ⟨_, rfl⟩
            have hs2 : 2 * j ≤ s ∧ s ≤ 400 := by omega
            have HP3 := fun h => Lib.hid (leftP_yes (a := a) (b := b) (m := j) h)
            have HP4 := fun h => Lib.hid (leftP_no (a := a) (b := b) (m := j) h)
            obtain ⟨p1, hp1⟩ : ∃ p1, p1 = b - 1 - j := ⟨_, rfl⟩
            obtain ⟨p2, hp2⟩ : ∃ p2, p2 = a - 2 * j := ⟨_, rfl⟩
            rw [← hp1, ← hp2] at HPa HP3 HP4
            rw [← hp1] at hw3
            rw [← hp2] at hw4
            rw [← hs] at hw6 HWR
            clear hs hp1 hp2 hll hzt hza hl
            cases hpar : (p1 &&& p2 == p2)
            · have HN := HP4 hpar
              rw [hpar] at HPa
              simp only [Bool.false_eq_true, if_false] at HPa
              clear hpar HP3 HP4
              go_wp2_with fail
              refine HPa.out.mono ?_
              rintro e w1 ⟨rfl, h1⟩
              rw [h1]
              clear h1
              go_wp2_with fail
              go_roundw
              case rel => exact ⟨j + 1, l, c, A, zs, by omega, by go_num, rfl, Lib.hid (HZ.out.trans HN.out.symm), HL, HS, HX⟩
              case measure => simp [intOf]; omega
            · have HN := HP3 hpar
              rw [hpar] at HPa
              simp only [if_true] at HPa
              clear hpar HP3 HP4
              have C1 := Lib.hid (left1_any j (some aq) 1 [] wr ((HQ.out.below HX.out).mono HX.out.size) (by simp) (.inr (.inl rfl)) (by omega))
              go_wp2_with fail
              refine HPa.out.mono ?_
              rintro e w1 ⟨rfl, h1⟩
              rw [h1]
              clear h1
              go_wp2_with fail
              refine C1.out.mono ?_
              rintro e w2 ⟨A2, c2, rfl, ho2, hb2⟩
              have X2 := Lib.hid (HX.out.trans (hb2.mono HX.out.size))
              have S2 := Lib.hid (HS.out.call hb2).here
              have C2 := Lib.hid (left1_any s A2 c2 (frontW (j : Int) []) w2 ho2.rd (by unfold frontW; split <;> simp) (by
                unfold frontW
                by_cases h : j = 0
                · exact .inr (.inl (by rw [if_pos (by omega)]))
                · exact .inr (.inr ⟨j, [], by rw [if_neg (by omega)], hs2.1⟩)) (by omega))
              rw [HWR.out] at C2
              clear ho2 hb2
              go_wp2_with fail
              refine C2.out.mono ?_
              rintro e w3 ⟨A3, c3, rfl, ho3, hb3⟩
              have X3 := Lib.hid (X2.out.trans (hb3.mono X2.out.size))
              have S3 := Lib.hid (S2.out.call hb3).here
              have C3 := Lib.hid (l01Sum_any A A3 l c 1 c3 zs [wrd a b j] w3 S3.out.rd ho3.rd (by omega) (by omega) (by have := HZT.out; omega) (by have := wrd_len a b j; simp [totalL]; omega) HZA.out (by simp [Asc]))
              have HM := Lib.hid (show oddL (zs ++ [wrd a b j]) = leftP a b (j + 1) from by rw [HZ.out]; exact HN.out)
              rw [HM.out] at C3
              obtain ⟨z2, hz2⟩ : ∃ z, z = leftP a b (j + 1) := ⟨_, rfl⟩
              rw [← hz2] at C3
              have HZ2 := Lib.hid hz2
              obtain ⟨l2, hl2⟩ : ∃ l, l = z2.length := ⟨_, rfl⟩
              rw [← hl2] at C3
              have HL2 := Lib.hid hl2
              clear ho3 hb3 hz2 hl2
              go_wp2_with fail
              refine C3.out.mono ?_
              rintro e w4 ⟨A4, c4, rfl, ho4, hb4⟩
              have X4 := Lib.hid (X3.out.trans (hb4.mono X3.out.size))
              have S4 := Lib.hid (show StL w V w4 w4.heap.size A4 l2 c4 z2 from ⟨ho4.mono (B' := V) S3.out.size (Nat.le_refl _), S3.out.bel.trans (hb4.mono S3.out.size), Nat.le_trans S3.out.size hb4.size, Nat.le_refl _⟩)
              clear ho4 hb4
              go_wp2_with fail
              go_roundw
              case rel => exact ⟨j + 1, l2, c4, A4, z2, by omega, by go_num, rfl, HZ2, HL2, S4, X4⟩
              case measure => simp [intOf]; omega
          · obtain rfl : j = a / 2 + 1 := by omega
            have hle : ¬ (2 * ((a / 2 + 1 : Nat) : Int)) ≤ (a : Int) := by omega
            obtain ⟨m2, hm2⟩ : ∃ m2, m2 = a / 2 + 1 := ⟨_, rfl⟩
            have HE := Lib.hid (show zs = formF a b from by rw [HZ.out]; rfl)
            rw [← hm2] at hle hw1 HZ ⊢
            clear hm2 hj hlt
            go_wp2_with fail
            go_roundw
            case rel => exact ⟨1, l, c, A, zs, by go_num, rfl, .inr ⟨rfl, HE.out⟩, HS⟩
            case measure => simp [intOf]
      · have hk1 : (wr.alloc (.cells #[.slice (some ⟨ax.block, ax.off + 1, none⟩) 0 (c' - 1)] 22)).cell? ax = some (.int .i64 (b : Int)) := old_atA hax hcy0
        have hk2 : (wr.alloc (.cells #[.slice (some ⟨ax.block, ax.off + 1, none⟩) 0 (c' - 1)] 22)).drew.cell? ax = some (.int .i64 (b : Int)) := hk1
        have HQ := Lib.hid (show RdL (wr.alloc (.cells #[.slice (some ⟨ax.block, ax.off + 1, none⟩) 0 (c' - 1)] 22)).drew (wr.alloc (.cells #[.slice (some ⟨ax.block, ax.off + 1, none⟩) 0 (c' - 1)] 22)).drew.heap.size (some ⟨wr.heap.size, 0, none⟩) 1 1 [[]] from (rdL_one (w := wr) (B := 0) (n := 0) (c := (c' - 1)) (A := some ⟨ax.block, ax.off + 1, none⟩) (x := []) rdS_nil (Nat.zero_le _)).drewN 1)
        have HSq := Lib.hid (HS.out.call (below_drewN (Ext.alloc (Ext.refl wr) (.cells #[.slice (some ⟨ax.block, ax.off + 1, none⟩) 0 (c' - 1)] 22)) 1)).here
        go_wp2_with fail
        go_region
        obtain ⟨wq, hwq⟩ : ∃ W, W = (wr.alloc (.cells #[.slice (some ⟨ax.block, ax.off + 1, none⟩) 0 (c' - 1)] 22)).drew := ⟨_, rfl⟩
        rw [← hwq]
        simp only [World.drewN] at HSq
        have HSq2 : Hid (StL w V wq wq.heap.size A 0 c []) := by rw [hwq]; exact HSq
        rw [← hwq] at HQ
        generalize (⟨wr.heap.size, 0, none⟩ : Addr) = aq at HQ ⊢
        clear hwq HSq HS hcy0 hcyd hk1 hk2 hax hc0 hcap hle hw1 hw2 hcm hwr
        go_wp2_with fail
        go_loopw [5, 10] (fun o i wx => ∃ (j l c : Nat) (A : Option Addr) (zs : List (List Int)), j ≤ a / 2 + 1 ∧ i = .int .i64 j ∧ o = .slice A l c ∧ Hid (zs = leftP a b j) ∧ Hid (l = zs.length) ∧ Hid (StL w V wx wx.heap.size A l c zs) ∧ Hid (Below wq.heap.size wq wx)) (fun _ i _ => a + 1 - (intOf i).toNat)
        case atStart => exact ⟨0, 0, c, A, [], Nat.zero_le _, rfl, rfl, Lib.hid rfl, Lib.hid rfl, HSq2, Lib.hid (Below.refl _ _)⟩
        case round =>
          clear HSq2
          obtain ⟨j, l, c, A, zs, hj, rfl, rfl, HZ, HL, HS, HX⟩ := hrel
          have hw1 : IntKind.i64.wrap (2 * (j : Int)) = 2 * (j : Int) := by rw [IntKind.wrap_i64]; omega
          by_cases hlt : j < a / 2 + 1
          · have hle : (2 * (j : Int)) ≤ (a : Int) := by omega
            have hw2 : IntKind.i64.wrap ((b : Int) - (j : Int)) = (b : Int) - (j : Int) := by rw [IntKind.wrap_i64]; omega
            have hw3 : IntKind.i64.wrap ((b : Int) - (j : Int) - 1) = ((b - 1 - j : Nat) : Int) := by rw [IntKind.wrap_i64]; omega
            have hw4 : IntKind.i64.wrap ((a : Int) - 2 * (j : Int)) = ((a - 2 * j : Nat) : Int) := by rw [IntKind.wrap_i64]; omega
            have hw5 : IntKind.i64.wrap ((a : Int) + (b : Int)) = (a : Int) + (b : Int) := by rw [IntKind.wrap_i64]; omega
            have hw6 : IntKind.i64.wrap ((a : Int) + (b : Int) - (j : Int)) = ((a + b - j : Nat) : Int) := by rw [IntKind.wrap_i64]; omega
            have HPa := Lib.hid (parityN_any (b - 1 - j) (a - 2 * j) wr (by omega) (by omega))
            have hll : zs.length ≤ 101 := by have h3 := leftP_len a b j; rw [HZ.out]; omega
            have hzt : totalL zs ≤ 202 := by
              have h4 := totalL_leC (c := 2) (xss := zs) (fun x hx => by rw [HZ.out] at hx; exact leftP_mem hx)
              omega
            have hza : Asc zs := by rw [HZ.out]; exact leftP_asc a b j
            have HLL := Lib.hid hll
            have HZT := Lib.hid hzt
            have HZA := Lib.hid hza
            have hl := HL.out
            have hl101 : l ≤ 101 := by omega
            have HWR := Lib.hid (wrd_front (a := a) (b := b) (j := j) (by omega) (by omega))
            obtain ⟨s, hs⟩ : ∃ s, s = a + b - j := ⟨_, rfl⟩
            have hs2 : 2 * j ≤ s ∧ s ≤ 400 := by omega
            have HP3 := fun h => Lib.hid (leftP_yes (a := a) (b := b) (m := j) h)
            have HP4 := fun h => Lib.hid (leftP_no (a := a) (b := b) (m := j) h)
            obtain ⟨p1, hp1⟩ : ∃ p1, p1 = b - 1 - j := ⟨_, rfl⟩
            obtain ⟨p2, hp2⟩ : ∃ p2, p2 = a - 2 * j := ⟨_, rfl⟩
            rw [← hp1, ← hp2] at HPa HP3 HP4
            rw [← hp1] at hw3
            rw [← hp2] at hw4
            rw [← hs] at hw6 HWR
            clear hs hp1 hp2 hll hzt hza hl
            cases hpar : (p1 &&& p2 == p2)
            · have HN := HP4 hpar
              rw [hpar] at HPa
              simp only [Bool.false_eq_true, if_false] at HPa
              clear hpar HP3 HP4
              go_wp2_with fail
              refine HPa.out.mono ?_
              rintro e w1 ⟨rfl, h1⟩
              rw [h1]
              clear h1
              go_wp2_with fail
              go_roundw
              case rel => exact ⟨j + 1, l, c, A, zs, by omega, by go_num, rfl, Lib.hid (HZ.out.trans HN.out.symm), HL, HS, HX⟩
              case measure => simp [intOf]; omega
            · have HN := HP3 hpar
              rw [hpar] at HPa
              simp only [if_true] at HPa
              clear hpar HP3 HP4
              have C1 := Lib.hid (left1_any j (some aq) 1 [] wr ((HQ.out.below HX.out).mono HX.out.size) (by simp) (.inr (.inl rfl)) (by omega))
              go_wp2_with fail
              refine HPa.out.mono ?_
              rintro e w1 ⟨rfl, h1⟩
              rw [h1]
              clear h1
              go_wp2_with fail
              refine C1.out.mono ?_
              rintro e w2 ⟨A2, c2, rfl, ho2, hb2⟩
              have X2 := Lib.hid (HX.out.trans (hb2.mono HX.out.size))
              have S2 := Lib.hid (HS.out.call hb2).here
              have C2 := Lib.hid (left1_any s A2 c2 (frontW (j : Int) []) w2 ho2.rd (by unfold frontW; split <;> simp) (by
                unfold frontW
                by_cases h : j = 0
                · exact .inr (.inl (by rw [if_pos (by omega)]))
                · exact .inr (.inr ⟨j, [], by rw [if_neg (by omega)], hs2.1⟩)) (by omega))
              rw [HWR.out] at C2
              clear ho2 hb2
              go_wp2_with fail
              refine C2.out.mono ?_
              rintro e w3 ⟨A3, c3, rfl, ho3, hb3⟩
              have X3 := Lib.hid (X2.out.trans (hb3.mono X2.out.size))
              have S3 := Lib.hid (S2.out.call hb3).here
              have C3 := Lib.hid (l01Sum_any A A3 l c 1 c3 zs [wrd a b j] w3 S3.out.rd ho3.rd (by omega) (by omega) (by have := HZT.out; omega) (by have := wrd_len a b j; simp [totalL]; omega) HZA.out (by simp [Asc]))
              have HM := Lib.hid (show oddL (zs ++ [wrd a b j]) = leftP a b (j + 1) from by rw [HZ.out]; exact HN.out)
              rw [HM.out] at C3
              obtain ⟨z2, hz2⟩ : ∃ z, z = leftP a b (j + 1) := ⟨_, rfl⟩
              rw [← hz2] at C3
              have HZ2 := Lib.hid hz2
              obtain ⟨l2, hl2⟩ : ∃ l, l = z2.length := ⟨_, rfl⟩
              rw [← hl2] at C3
              have HL2 := Lib.hid hl2
              clear ho3 hb3 hz2 hl2
              go_wp2_with fail
              refine C3.out.mono ?_
              rintro e w4 ⟨A4, c4, rfl, ho4, hb4⟩
              have X4 := Lib.hid (X3.out.trans (hb4.mono X3.out.size))
              have S4 := Lib.hid (show StL w V w4 w4.heap.size A4 l2 c4 z2 from ⟨ho4.mono (B' := V) S3.out.size (Nat.le_refl _), S3.out.bel.trans (hb4.mono S3.out.size), Nat.le_trans S3.out.size hb4.size, Nat.le_refl _⟩)
              clear ho4 hb4
              go_wp2_with fail
              go_roundw
              case rel => exact ⟨j + 1, l2, c4, A4, z2, by omega, by go_num, rfl, HZ2, HL2, S4, X4⟩
              case measure => simp [intOf]; omega
          · obtain rfl : j = a / 2 + 1 := by omega
            have hle : ¬ (2 * ((a / 2 + 1 : Nat) : Int)) ≤ (a : Int) := by omega
            obtain ⟨m2, hm2⟩ : ∃ m2, m2 = a / 2 + 1 := ⟨_, rfl⟩
            have HE := Lib.hid (show zs = formF a b from by rw [HZ.out]; rfl)
            rw [← hm2] at hle hw1 HZ ⊢
            clear hm2 hj hlt
            go_wp2_with fail
            go_roundw
            case rel => exact ⟨1, l, c, A, zs, by go_num, rfl, .inr ⟨rfl, HE.out⟩, HS⟩
            case measure => simp [intOf]
    · go_wp2_with fail
      rw [HR.out]
      have h := HS.out
      rw [HVe.out] at h
      obtain rfl := h.own.len
      exact h.ret
end Go.Proofs.YtejojliljplcdaaGreatDoor

/- spec.l03Form of a word of two squares. -/
namespace Go.Proofs.YtejojliljplcdaaGreatDoor
open Go.RowKit
set_option linter.unusedVariables false

/-- a slice that reads as the lists zs -/
def RetRL (zs : List (List Int)) (w : World) (e : Ending) (w' : World) : Prop := ∃ A c, e = .returned (.slice A zs.length c) ∧ RdL w' w'.heap.size A zs.length c zs ∧ Below w.heap.size w w'
/-- the form of the last letters of a word of two -/
def formS (a b : Nat) : Nat → List (List Int)
  | 0 => formF a b
  | 1 => [[(b : Int)]]
  | _ => [[]]

set_option maxHeartbeats 1000000 in
theorem form_any (a b : Nat) (A : Option Addr) (c : Nat) (w : World) (h : RdS w w.heap.size A 2 c [(a : Int), (b : Int)]) (ha : 1 ≤ a) (hab : a / 2 + 1 ≤ b) (hb : b ≤ 100) :
    Calls Tryz.prog 108 #[.slice A 2 c] w (RetRL (formF a b) w) := by
  have H := Lib.hid h
  have HB0 := Lib.hid (Ext.alloc (Ext.alloc (Ext.refl w) (.cells #[] 2)) (.cells #[.slice (some ⟨w.heap.size, 0, none⟩) 0 0] 22))
  have HQ := Lib.hid (rdL_one (w := w.alloc (.cells #[] 2)) (B := 0) (n := 0) (c := 0) (A := some ⟨w.heap.size, 0, none⟩) (x := []) rdS_nil (Nat.zero_le _))
  obtain ⟨R, hR⟩ : ∃ R, R = RetRL (formF a b) w := ⟨_, rfl⟩
  have HR := Lib.hid hR
  rw [← hR]
  clear hR h
  go_enter Tryz.func108, Tryz.ntmps108
  go_wp2_with fail
  obtain ⟨w0, hw0⟩ : ∃ W, W = (w.alloc (.cells #[] 2)).alloc (.cells #[.slice (some ⟨w.heap.size, 0, none⟩) 0 0] 22) := ⟨_, rfl⟩
  rw [← hw0] at HB0 HQ ⊢
  clear hw0
  go_loopw [3, 4] (fun o i wr => ∃ (j l c : Nat) (A : Option Addr) (zs : List (List Int)), j ≤ 2 ∧ i = .int .i64 ((j : Int) - 1) ∧ o = .slice A l c ∧ Hid (zs = formS a b j) ∧ Hid (l = zs.length) ∧ Hid (RdL wr wr.heap.size A l c zs) ∧ Hid (Below w.heap.size w wr)) (fun _ i _ => (intOf i + 1).toNat)
  case atStart => exact ⟨2, 1, 1, _, [[]], Nat.le_refl _, rfl, rfl, Lib.hid rfl, Lib.hid rfl, by simpa using HQ, HB0⟩
  case round =>
    clear HQ HB0
    obtain ⟨j, l, c', A', zs, hj, rfl, rfl, HZ, HL, HS, HX⟩ := hrel
    have hj3 : j = 0 ∨ j = 1 ∨ j = 2 := by omega
    rcases hj3 with rfl | rfl | rfl
    · have HE := Lib.hid (show zs = formF a b from HZ.out)
      go_wp2_with fail
      rw [HR.out]
      have h := HS.out
      rw [HL.out, HE.out] at h
      rw [HL.out, HE.out]
      exact ⟨_, _, rfl, h, HX.out⟩
    · have HE : zs = [[(b : Int)]] := HZ.out
      subst HE
      obtain rfl : l = 1 := HL.out
      obtain ⟨ad, y, rfl, _, hy, hcy⟩ := (H.out.below HX.out).at_ (k := 0) (by omega)
      obtain rfl : y = (a : Int) := by simpa using hy.out.symm
      have hcy0 : wr.cell? ad = some (.int .i64 (a : Int)) := by simpa [Addr.add] using hcy
      have C1 := Lib.hid (left2_any a b A' c' wr HS.out ha hab hb)
      obtain ⟨zs2, hz2⟩ : ∃ z, z = formF a b := ⟨_, rfl⟩
      rw [← hz2] at C1
      have HZ2 := Lib.hid hz2
      obtain ⟨l2, hl2⟩ : ∃ l, l = zs2.length := ⟨_, rfl⟩
      rw [← hl2] at C1
      have HL2 := Lib.hid hl2
      clear hy hcy hz2 hl2
      go_wp2_with fail
      refine C1.out.mono ?_
      rintro e w2 ⟨A2, c2, rfl, ho2, hb2⟩
      have X2 := Lib.hid (HX.out.trans (hb2.mono HX.out.size))
      have S2 := Lib.hid ho2.rd
      clear ho2 hb2
      go_wp2_with fail
      go_roundw
      case rel => exact ⟨0, l2, c2, A2, zs2, by omega, by go_num, rfl, HZ2, HL2, S2, X2⟩
      case measure => first | (simp [intOf]; done) | (simp [intOf]; omega)
    · have HE : zs = [[]] := HZ.out
      subst HE
      obtain rfl : l = 1 := HL.out
      obtain ⟨ad, y, rfl, _, hy, hcy⟩ := (H.out.below HX.out).at_ (k := 1) (by omega)
      obtain rfl : y = (b : Int) := by simpa using hy.out.symm
      simp [Addr.add] at hcy
      have C1 := Lib.hid (left1_any b A' c' [] wr HS.out (by simp) (.inr (.inl rfl)) (by omega))
      have HF := Lib.hid (show frontW (b : Int) [] = [(b : Int)] from if_neg (by omega))
      rw [HF.out] at C1
      clear hy
      go_wp2_with fail
      refine C1.out.mono ?_
      rintro e w2 ⟨A2, c2, rfl, ho2, hb2⟩
      have X2 := Lib.hid (HX.out.trans (hb2.mono HX.out.size))
      have S2 := Lib.hid ho2.rd
      clear ho2 hb2
      go_wp2_with fail
      go_roundw
      case rel => exact ⟨1, 1, c2, A2, [[(b : Int)]], by omega, by go_num, rfl, Lib.hid rfl, Lib.hid rfl, S2, X2⟩
      case measure => first | (simp [intOf]; done) | (simp [intOf]; omega)
end Go.Proofs.YtejojliljplcdaaGreatDoor
