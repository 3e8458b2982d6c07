/- spec.l17Fault and impl.unstableFault. -/
import Derived.Test.YtdpkhgkoeoiemaaUnsI
namespace Go.Proofs.Ytdpkhgkoeoiemaa
open Go.RowKit
set_option linter.unusedVariables false

theorem own_pair (w : World) (x y : Int) (K : Nat) (hK : K ≤ w.heap.size) : OwnS (w.alloc (.cells #[.int .i64 x, .int .i64 y] 2)) K (some ⟨w.heap.size, 0, none⟩) 2 2 [x, y] :=
  ⟨rfl, rfl, .inr ⟨w.heap.size, 2, _, rfl, hK, heap_alloc_new w _, Nat.le_refl _, by unfold maxLen; omega, rfl, rfl⟩⟩
theorem RetU.nil {xs : List Int} {w w' : World} (h : xs = []) (hb : Below w.heap.size w w') : RetU xs w (.returned (.slice none 0 0)) w' := by
  subst h; exact ⟨none, 0, rfl, OwnS.nil, rfl, hb⟩
theorem RetU.two {xs : List Int} {x y : Int} {w w1 : World} (h : xs = [x, y]) (hb : Below w.heap.size w w1) : RetU xs w (.returned (.slice (some ⟨w1.heap.size, 0, none⟩) 2 2)) (w1.alloc (.cells #[.int .i64 x, .int .i64 y] 2)) := by
  subst h; exact ⟨some ⟨w1.heap.size, 0, none⟩, 2, rfl, own_pair w1 x y _ hb.size, rfl, hb.alloc hb.size _⟩
theorem uf_no {ds : List Int} {T : List Tri} {i v : Nat} {f : Int} (hf : ds[v]?.getD 0 = f) (h : ¬ f < (i : Int)) : ¬ ufX ds T i v := fun k => h (by rw [← hf]; exact k.1)
theorem uf_no0 {ds : List Int} {T : List Tri} {i v y : Nat} (hy : y = spA T i (2 ^ v)) (h : y = 0) : ¬ ufX ds T i v := fun k => k.2 (by rw [← hy, h])
theorem uf_yes {ds : List Int} {T : List Tri} {i v y : Nat} {f : Int} (hf : ds[v]?.getD 0 = f) (h : f < (i : Int)) (hy : y = spA T i (2 ^ v)) (h0 : ¬ y = 0) : ufX ds T i v := ⟨by rw [hf]; exact h, by rw [← hy]; exact h0⟩

set_option maxRecDepth 100000 in
set_option maxHeartbeats 4000000 in
theorem fault17_any (A1 A2 : Option Addr) (n1 c1 n2 c2 : Nat) (ds : List Int) (act : List (List Int)) (w : World) (h : RdMod w A1 n1 c1 ds A2 n2 c2 act) (ht : TabF ds act) (hn2 : n2 ≤ 2000000) :
    Calls Try.prog 22 #[.agg #[.slice A1 n1 c1, .slice A2 n2 c2]] w (RetU (ufL ds (act.map toT)) w) := by
  obtain ⟨w0, b, hw0, hbe, hb0, hz0', hF⟩ := start1 w (.slice A1 n1 c1) (.slice A2 n2 c2) 29
  have hn : n1 ≤ 16 := by rw [← h.ds.len]; exact ht.len
  have HL1 := Lib.hid h.ds.len
  have H := Lib.hid (h.below hb0)
  have HT := Lib.hid ht
  have Hw := Lib.hid hw0
  have Hbe := Lib.hid hbe
  have Hb0 := Lib.hid hb0
  have F0 := Lib.hid hF
  obtain ⟨R, hR⟩ : ∃ R, R = RetU (ufL ds (act.map toT)) w := ⟨_, rfl⟩
  have HR := Lib.hid hR
  rw [← hR]
  clear h ht hw0 hbe hb0 hF hR hz0'
  go_enter Try.func22, Try.ntmps22
  go_wp2_with fail
  rw [← Hw.out, ← Hbe.out]
  have HX0 := Lib.hid (Below.refl w0.heap.size w0)
  go_loopw [3] (fun i wr => ∃ a : Nat, 1 ≤ a ∧ a ≤ 21 ∧ i = .int .i64 a ∧ Hid (nu ds (act.map toT) a 0) ∧ Hid (Below w0.heap.size w0 wr)) (fun i _ => 22 - (intOf i).toNat)
  case atStart => exact ⟨1, by omega, by omega, rfl, Lib.hid nu.start, HX0⟩
  case round =>
    clear HX0
    obtain ⟨a, ha1, ha2, rfl, HN, HX⟩ := hrel
    by_cases hlt : a ≤ 20
    · have hlt' : (a : Int) ≤ 20 := by omega
      go_wp2_with fail
      go_loopw [4] (fun i wr => ∃ v : Nat, v ≤ n1 ∧ i = .int .i64 v ∧ Hid (nu ds (act.map toT) a v) ∧ Hid (Below w0.heap.size w0 wr)) (fun i _ => n1 - (intOf i).toNat)
      case atStart => exact ⟨0, Nat.zero_le _, rfl, HN, HX⟩
      case round =>
        clear HN HX
        obtain ⟨v, hv, rfl, HN, HX⟩ := hrel
        have k0 := (F0.out.below HX.out).at_ (b := b) (o := 0) (V := .slice A1 n1 c1) (by simp)
        have k1 := (F0.out.below HX.out).at_ (b := b) (o := 1) (V := .slice A2 n2 c2) (by simp)
        by_cases hvn : v < n1
        · obtain ⟨adx, f, rfl, _, hf, hcf⟩ := (H.out.below HX.out).ds.at_ (k := v) hvn
          have HF := Lib.hid (show ds[v]?.getD 0 = f from by rw [hf.out]; rfl)
          have hv' : (v : Int) < (n1 : Int) := by omega
          have hv0 : (0 : Int) ≤ (v : Int) := by omega
          have hv64 : (v : Int) < 64 := by omega
          clear hf
          by_cases hgt : f < (a : Int)
          · obtain ⟨p2, hp2⟩ : ∃ p2, p2 = 2 ^ v := ⟨_, rfl⟩
            have hw2 : wrap64 ((2 : Int) ^ v) = (p2 : Int) := by rw [wrap_two (by omega), hp2]
            have C1 := Lib.hid (act12_any (some adx) A2 n1 c1 n2 c2 a p2 ds act wr (H.out.below HX.out) HT.out hn2 (by rw [hp2]; exact two_pow_lt hvn))
            obtain ⟨y, hy⟩ : ∃ y, y = spA (act.map toT) a p2 := ⟨_, rfl⟩
            rw [← hy] at C1
            have HY := Lib.hid (show y = spA (act.map toT) a (2 ^ v) from by rw [hy, hp2])
            clear hy hp2
            by_cases hy0 : y = 0
            · have HN2 := Lib.hid (HN.out.step (uf_no0 HY.out hy0))
              have hs1 : ((y : Int) == 0) = true := by simp [hy0]
              have hs2 : ((y : Int) != 0) = false := by simp [hy0]
              have hs3 : (y == 0) = true := by simp [hy0]
              clear hy0 HN HF
              go_wp2_with fail
              refine C1.out.mono ?_
              rintro e w1 ⟨rfl, hb1⟩
              have X1 := Lib.hid (HX.out.trans (hb1.mono HX.out.size))
              clear hb1
              go_wp2_with fail
              go_roundw
              case rel => exact ⟨v + 1, by omega, by go_num, HN2, X1⟩
              case measure => simp [intOf]; omega
            · have HU := Lib.hid (HN.out.hit ha1 hlt HL1.out hvn (uf_yes HF.out hgt HY.out hy0))
              have hs1 : ((y : Int) == 0) = false := by simp; omega
              have hs2 : ((y : Int) != 0) = true := by simp; omega
              have hs3 : (y == 0) = false := by simp; omega
              clear hy0 HN HF
              go_wp2_with fail
              refine C1.out.mono ?_
              rintro e w1 ⟨rfl, hb1⟩
              have X1 := Lib.hid (Hb0.out.trans ((HX.out.trans (hb1.mono HX.out.size)).mono Hb0.out.size))
              clear hb1
              go_wp2_with fail
              rw [HR.out]
              exact RetU.two HU.out X1.out
          · have HN2 := Lib.hid (HN.out.step (uf_no HF.out hgt))
            clear HN HF
            go_wp2_with fail
            go_roundw
            case rel => exact ⟨v + 1, by omega, by go_num, HN2, HX⟩
            case measure => simp [intOf]; omega
        · obtain rfl : v = n1 := by omega
          have HN2 := Lib.hid (HN.out.next HL1.out)
          clear HN hvn
          go_wp2_with fail
          go_roundw
          case rel => exact ⟨a + 1, by omega, by omega, by go_num, HN2, HX⟩
          case measure => simp [intOf]; omega
    · obtain rfl : a = 21 := by omega
      have HU := Lib.hid HN.out.all
      go_wp2_with fail
      rw [HR.out]
      exact RetU.nil HU.out (Hb0.out.trans (HX.out.mono Hb0.out.size))
end Go.Proofs.Ytdpkhgkoeoiemaa
