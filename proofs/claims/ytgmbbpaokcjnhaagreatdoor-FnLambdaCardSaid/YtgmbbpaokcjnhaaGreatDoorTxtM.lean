/- LambdaText on the program's side. -/
import Derived.Test.YtgmbbpaokcjnhaaGreatDoorTxtK
import Derived.Test.YtgmbbpaokcjnhaaGreatDoorTxtL
namespace Go.Proofs.YtgmbbpaokcjnhaaGreatDoor
open Go.RowKit
set_option linter.unusedVariables false

/-- the block of the library's variable internal/bytealg.MaxLen, which holds an integer -/
abbrev gMax : Nat := Tryz.replL_ren.g 1
def MaxL (w : World) : Prop := ∃ m : Int, w.cell? ⟨gMax, 0, none⟩ = some (.int .i64 m)
theorem maxL_shaped {w : World} (h : w.ShapedOpen Tryz.prog) : MaxL w := Tryz.replL.s1_3 w h
theorem MaxL.pos {w : World} (h : MaxL w) : gMax + 1 ≤ w.heap.size := by
  obtain ⟨m, hm⟩ := h
  exact World.block_lt_of_cell? w _ hm
theorem MaxL.belowB {w w' : World} {B : Nat} (h : MaxL w) (hb : Below B w w') (h1 : gMax + 1 ≤ B) : MaxL w' := by
  obtain ⟨m, hm⟩ := h
  exact ⟨m, (hb.cell (p := ⟨gMax, 0, none⟩) h1).trans hm⟩
theorem It.maxl {w : World} {B : Nat} (h : MaxL w) (hB : B ≤ w.heap.size) (h1 : gMax + 1 ≤ B) : It 0 B (fun V => MaxL V) w :=
  ⟨h, hB, fun w' k1 k2 k3 k4 k5 => h.belowB ⟨k2, k3, k4, k1, fun g hg => k5 g (Nat.zero_le _) hg⟩ h1⟩

theorem extraR : Builder.Extra Tryz.prog Tryz.replL_ren where
  sizeBuilder := by kernel_rfl
  liesBuilder := by kernel_rfl
  t5 := Tryz.underlying5
  a5 := Tryz.isAgg5
  z5 := Tryz.sizeOf5
  v5 := Tryz.zeroValue5
  infoByte := by kernel_rfl
  cellsByte := by kernel_rfl
  sizeByte := by kernel_rfl
  neB5 := by decide
theorem repl_any (t : List UInt8) (w : World) (hM : MaxL w) (hl : t.length ≤ 1000000) : Calls Tryz.prog 75 #[.string ⟨t.toArray⟩, .string ⟨#[44]⟩, .string ⟨#[46]⟩] w (RetTx (t.map (swapB 44 46)) w) := by
  obtain ⟨m, hm⟩ := hM
  have hcnt : Lib.countB ⟨t.toArray⟩ ⟨#[44]⟩ ≤ t.length := by
    show Lib.count t [44] ≤ t.length
    rw [Lib.count_one]
    exact List.count_le_length
  have hsz : (ByteArray.mk t.toArray).size = t.length := rfl
  have key := Any.strings_ReplaceAll { Tryz.replL with } extraR ⟨t.toArray⟩ ⟨#[44]⟩ ⟨#[46]⟩ m w (by rw [hsz]; omega) hm (by decide) (by
    rw [hsz]
    have : (ByteArray.mk #[46]).size = 1 := rfl
    rw [this]
    omega)
  refine key.mono fun e w' ⟨h1, h2⟩ => ⟨?_, h2⟩
  rw [h1]
  rw [show Lib.replaceAll (ByteArray.mk t.toArray).data.toList (ByteArray.mk #[44]).data.toList (ByteArray.mk #[46]).data.toList = Lib.replaceAll t [44] [46] from rfl, replAll_eq 44 46 (by decide)]
theorem lambdaText_any (A : Option Addr) (n c B : Nat) (xs : List Int) (w : World) (h : RdS w B A n c xs) (hB : B ≤ w.heap.size) (hx : ∀ i ∈ xs, 0 ≤ i ∧ i < 100) (hn : n ≤ 1000) (hM : MaxL w) :
    Calls Tryz.prog 51 #[.slice A n c] w (RetTx (wordX xs) w) := by
  have HL := Lib.hid h.len
  have CN := Lib.hid (numbersText_all A n c B xs w h hB hx (by omega))
  have HLN := Lib.hid (numT_len 44 xs)
  have HSW := Lib.hid (numT_swap xs hx)
  obtain ⟨R, hR⟩ : ∃ R, R = RetTx (wordX xs) w := ⟨_, rfl⟩
  have HR := Lib.hid hR
  rw [← hR]
  have HM := Lib.hid hM
  clear h hx hM hR
  rcases Nat.eq_zero_or_pos n with rfl | hpos
  · have HS := Lib.hid (show wordX xs = [49] from by unfold wordX; rw [if_pos (List.eq_nil_of_length_eq_zero HL.out)])
    go_enter Tryz.func51, Tryz.ntmps51
    go_wp2_with fail
    rw [HR.out]
    exact RetTx.mk (s := ⟨#[49]⟩) (by rw [HS.out]) (Below.refl _ _)
  · have hne : xs ≠ [] := fun e => by have := HL.out; rw [e] at this; simp at this; omega
    have HS := Lib.hid (show wordX xs = numT [46] xs from by unfold wordX; rw [if_neg hne])
    have hnz : ((n : Int) == 0) = false := by simp; omega
    clear hne
    obtain ⟨t, ht⟩ : ∃ t, t = numT [44] xs := ⟨_, rfl⟩
    rw [← ht] at CN HLN HSW
    clear ht
    unfold RetTx at CN
    obtain ⟨tb, htb⟩ : ∃ tb : ByteArray, tb = ⟨t.toArray⟩ := ⟨_, rfl⟩
    rw [← htb] at CN
    have HTB := Lib.hid htb
    clear htb
    go_enter Tryz.func51, Tryz.ntmps51
    go_wp2_with fail
    refine CN.out.mono ?_
    rintro e w1 ⟨rfl, hb1⟩
    have CR := Lib.hid (repl_any t w1 (HM.out.belowB hb1 HM.out.pos) (by have := HLN.out; have := HL.out; omega))
    rw [← HTB.out] at CR
    unfold RetTx at CR
    have B1 := Lib.hid hb1
    clear hb1
    go_wp2_with fail
    refine CR.out.mono ?_
    rintro e w2 ⟨rfl, hb2⟩
    have B2 := Lib.hid (B1.out.trans (hb2.mono B1.out.size))
    clear hb2
    go_wp2_with fail
    rw [HR.out]
    exact RetTx.mk (s := ⟨(t.map (swapB 44 46)).toArray⟩) (by rw [HS.out, HSW.out]) B2.out
theorem wordX_len (x : List Int) (h : x.length ≤ 1000) : (wordX x).length ≤ 10000 := by
  unfold wordX
  split
  · simp
  · exact Nat.le_trans (numT_len 46 x) (by omega)
theorem lambdaText_fun : FunT 51 wordX MaxL := ⟨enters_of Tryz.func51 (by kernel_rfl) rfl, fun A n c B xs w h hB hx hn hM => lambdaText_any A n c B xs w h hB hx hn hM⟩
set_option maxRecDepth 100000 in
theorem iLambdaText (A1 : Option Addr) (n1 c1 : Nat) (xss : List (List Int)) (w : World) (hM : MaxL w) (h1 : RdL w w.heap.size A1 n1 c1 xss) (hn1 : n1 ≤ 2000000) (ht1 : totalL xss ≤ 2000000) :
    Calls Tryz.prog 20 #[.agg #[.slice A1 n1 c1]] w (RetTC (ltT xss) (ltC xss) w) := by
  obtain ⟨w0, hw0⟩ : ∃ w0, w0 = w.alloc (.cells #[.slice A1 n1 c1] 26) := ⟨_, rfl⟩
  have hb0 : Below w.heap.size w w0 := by rw [hw0]; exact (Below.refl _ _).alloc (Nat.le_refl _) _
  have F0 := Lib.hid (show Cells [(w.heap.size, 0, .slice A1 n1 c1)] w0 from by rw [hw0]; exact Cells.nil.alloc1 _ _ rfl)
  have B0 := Lib.hid hb0
  have HL1 := Lib.hid h1.len
  have H1 := Lib.hid h1
  have Hw := Lib.hid hw0
  have HM := Lib.hid hM
  have HT := Lib.hid (show ltT xss = if isLB xss = true then sumX xss else [] from rfl)
  have HC := Lib.hid (show ltC xss = if isLB xss = true then 0 else 1 from rfl)
  have HTX := Lib.hid (fun (h : isLB xss = true) => isLB_text h)
  have HLN := Lib.hid (fun (h : isLB xss = true) => isLB_size h)
  obtain ⟨X, hX⟩ : ∃ X, X = RetTC (ltT xss) (ltC xss) w := ⟨_, rfl⟩
  have HX := Lib.hid hX
  have CI := Lib.hid (iIsLambda A1 n1 c1 xss w0 (h1.below hb0 |>.mono hb0.size) hn1 ht1)
  obtain ⟨b, hb⟩ : ∃ b, b = isLB xss := ⟨_, rfl⟩
  rw [← hb] at HT HC HTX HLN CI
  rw [← hX]
  clear h1 hw0 hb0 hX hb hM
  go_enter Tryz.func20, Tryz.ntmps20
  go_wp2_with fail
  rw [← Hw.out]
  have k0 := F0.out.at_ (b := w.heap.size) (o := 0) (V := .slice A1 n1 c1) (by simp)
  go_wp2_with fail
  refine CI.out.mono ?_
  rintro e w1 ⟨rfl, hb1⟩
  have B1 := Lib.hid (B0.out.trans (hb1.mono B0.out.size))
  have F1 := Lib.hid (F0.out.below hb1)
  clear hb1 k0
  have k0 := F1.out.at_ (b := w.heap.size) (o := 0) (V := .slice A1 n1 c1) (by simp)
  cases b
  · have HT' := Lib.hid (show ltT xss = [] from HT.out)
    have HC' := Lib.hid (show ltC xss = 1 from HC.out)
    go_wp2_with fail
    rw [HX.out]
    exact RetTC.mk (s := ⟨#[]⟩) (y := 1) (by rw [HT'.out]) HC'.out.symm B1.out
  · have HT' := Lib.hid (show ltT xss = sumQ wordX xss from HT.out)
    have HC' := Lib.hid (show ltC xss = 0 from HC.out)
    have hn2 : n1 ≤ 2000 := by rw [← HL1.out]; exact HLN.out rfl
    have C2 := Lib.hid (sumText_any 51 wordX MaxL lambdaText_fun (fun B u u' hB hb hm => hm.belowB hb (by rw [hB]; exact hm.pos)) A1 n1 c1 xss w1 ((H1.out.below B1.out).mono B1.out.size) (HM.out.belowB B1.out HM.out.pos)
      (fun x hx => ⟨Nat.le_trans (HTX.out rfl x hx).1 (by decide), (HTX.out rfl x hx).2⟩) (fun x hx => wordX_len x (Nat.le_trans (HTX.out rfl x hx).1 (by decide))) (by omega))
    unfold RetTx at C2
    go_wp2_with fail
    refine C2.out.mono ?_
    rintro e w2 ⟨rfl, hb2⟩
    have B2 := Lib.hid (B1.out.trans (hb2.mono B1.out.size))
    clear hb2
    go_wp2_with fail
    rw [HX.out]
    exact RetTC.mk (s := ⟨(sumQ wordX xss).toArray⟩) (y := 0) (by rw [HT'.out]) HC'.out.symm B2.out
end Go.Proofs.YtgmbbpaokcjnhaaGreatDoor
