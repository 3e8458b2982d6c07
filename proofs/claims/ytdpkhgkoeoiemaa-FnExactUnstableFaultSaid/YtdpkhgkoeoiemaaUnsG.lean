/- impl.unstableFault. -/
import Derived.Test.YtdpkhgkoeoiemaaUnsF
namespace Go.Proofs.Ytdpkhgkoeoiemaa
open Go.RowKit
set_option linter.unusedVariables false

set_option maxRecDepth 100000 in
set_option maxHeartbeats 4000000 in
theorem unsFault_any (A1 A2 : Option Addr) (n1 c1 n2 c2 : Nat) (ds : List Int) (act : List (List Int)) (w : World) (h : RdMod w A1 n1 c1 ds A2 n2 c2 act) (ht : TabF ds act) (hn2 : n2 ≤ 2000000) :
    Calls Try.prog 26 #[.agg #[.slice A1 n1 c1, .slice A2 n2 c2]] w (RetU (ufL ds (act.map toT)) w) := by
  obtain ⟨w0, b, hw0, hbe, hb0, hz0', hF⟩ := start1 w (.slice A1 n1 c1) (.slice A2 n2 c2) 29
  have hn : n1 ≤ 16 := by rw [← h.ds.len]; exact ht.len
  have HL1 := Lib.hid h.ds.len
  have H := Lib.hid (h.below hb0)
  have HT := Lib.hid ht
  have Hw := Lib.hid hw0
  have Hbe := Lib.hid hbe
  have Hb0 := Lib.hid hb0
  have F0 := Lib.hid hF
  have HB0 := Lib.hid (show b < w0.heap.size from by rw [hz0']; omega)
  have C0 := Lib.hid (tableOf_any A1 A2 n1 c1 n2 c2 ds act w0 H.out ht hn2)
  have k0 := F0.out.at_ (b := b) (o := 0) (V := .slice A1 n1 c1) (by simp)
  have k1 := F0.out.at_ (b := b) (o := 1) (V := .slice A2 n2 c2) (by simp)
  obtain ⟨R, hR⟩ : ∃ R, R = RetU (ufL ds (act.map toT)) w := ⟨_, rfl⟩
  have HR := Lib.hid hR
  rw [← hR]
  clear h ht hw0 hbe hb0 hF hR hz0'
  go_enter Try.func26, Try.ntmps26
  go_wp2_with fail
  rw [← Hw.out, ← Hbe.out]
  go_wp2_with fail
  refine C0.out.mono ?_
  rintro e wt ⟨t, rfl, hT, hbt⟩
  have XT := Lib.hid (show Below w.heap.size w wt from Hb0.out.trans (hbt.mono Hb0.out.size))
  have FT := Lib.hid (F0.out.below hbt)
  have HD := Lib.hid (H.out.below hbt).ds
  have HTB := Lib.hid hT
  have k2 := FT.out.at_ (b := b) (o := 0) (V := .slice A1 n1 c1) (by simp)
  clear k0 k1 hbt hT C0
  go_wp2_with fail
  go_loop [4] (fun i => ∃ a : Nat, 1 ≤ a ∧ a ≤ 21 ∧ i = .int .i64 a ∧ Hid (nu ds (act.map toT) a 0)) (fun i => 22 - (intOf i).toNat)
  case atStart => exact ⟨1, by omega, by omega, rfl, Lib.hid nu.start⟩
  case round =>
    obtain ⟨a, ha1, ha2, rfl, HN⟩ := hrel
    by_cases hlt : a ≤ 20
    · have hlt' : (a : Int) ≤ 20 := by omega
      obtain ⟨g, hg, hrow⟩ := HTB.out.row a (by omega)
      have HRow := Lib.hid hrow
      have hga : wt.cell? (⟨t, 1 + a, none⟩ : Addr) = some (.slice (some ⟨g, 0, none⟩) n1 n1) := hg
      have ha21 : (a : Int) < 21 := by omega
      have ha0 : (0 : Int) ≤ (a : Int) := by omega
      clear hrow hg
      go_wp2_with fail
      go_loop [16] (fun i => ∃ v : Nat, v ≤ n1 ∧ i = .int .i64 v ∧ Hid (nu ds (act.map toT) a v)) (fun i => n1 - (intOf i).toNat)
      case atStart => exact ⟨0, Nat.zero_le _, rfl, HN⟩
      case round =>
        clear HN
        obtain ⟨v, hv, rfl, HN⟩ := hrel
        by_cases hvn : v < n1
        · obtain ⟨adx, f, rfl, _, hf, hcf⟩ := HD.out.at_ (k := v) hvn
          have HF := Lib.hid (show ds[v]?.getD 0 = f from by rw [hf.out]; rfl)
          obtain ⟨adr, z, had, _, hz, hcz⟩ := HRow.out.at_ (k := v) hvn
          obtain rfl : ⟨g, 0, none⟩ = adr := by simpa using had
          obtain ⟨y, hy⟩ : ∃ y, y = rowF (act.map toT) a v := ⟨_, rfl⟩
          have hzy : z = (y : Int) := by
            have := hz.out
            rw [List.getElem?_map, List.getElem?_range hvn] at this
            rw [hy]; exact (Option.some.inj this).symm
          subst hzy
          have HY := Lib.hid (show y = spA (act.map toT) a (2 ^ v) from by rw [hy]; exact (HT.out.tri.row (by rw [HL1.out]; exact hvn)).symm)
          have hcz2 : wt.cell? (⟨g, v, none⟩ : Addr) = some (.int .i64 (y : Int)) := by by_cases e : v = 0 <;> simpa [Addr.add, e] using hcz
          have hv' : (v : Int) < (n1 : Int) := by omega
          have hv0 : (0 : Int) ≤ (v : Int) := by omega
          clear hf had hz hy hcz
          by_cases hgt : f < (a : Int)
          · by_cases hy0 : y = 0
            · have HN2 := Lib.hid (HN.out.step (uf_no0 HY.out hy0))
              have hs1 : ((y : Int) == 0) = true := by simp [hy0]
              have hs2 : ((y : Int) != 0) = false := by simp [hy0]
              have hs3 : (y == 0) = true := by simp [hy0]
              clear hy0 HN HF
              go_wp2_with fail
              go_round
              case rel => exact ⟨v + 1, by omega, by go_num, HN2⟩
              case measure => simp [intOf]; omega
            · have HU := Lib.hid (HN.out.hit ha1 hlt HL1.out hvn (uf_yes HF.out hgt HY.out hy0))
              have hs1 : ((y : Int) == 0) = false := by simp; omega
              have hs2 : ((y : Int) != 0) = true := by simp; omega
              have hs3 : (y == 0) = false := by simp; omega
              clear hy0 HN HF
              go_wp2_with fail
              rw [HR.out]
              exact RetU.two HU.out XT.out
          · have HN2 := Lib.hid (HN.out.step (uf_no HF.out hgt))
            clear HN HF
            go_wp2_with fail
            go_round
            case rel => exact ⟨v + 1, by omega, by go_num, HN2⟩
            case measure => simp [intOf]; omega
        · obtain rfl : v = n1 := by omega
          have HN2 := Lib.hid (HN.out.next HL1.out)
          clear HN hvn
          go_wp2_with fail
          go_round
          case rel => exact ⟨a + 1, by omega, by omega, by go_num, HN2⟩
          case measure => simp [intOf]; omega
    · obtain rfl : a = 21 := by omega
      have HU := Lib.hid HN.out.all
      go_wp2_with fail
      rw [HR.out]
      exact RetU.nil HU.out XT.out
end Go.Proofs.Ytdpkhgkoeoiemaa
