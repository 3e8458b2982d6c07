/- newRow; echelon.reduce. -/
import Derived.Test.YtdgcgcodjddddaaDoorBits
import Derived.Test.YtdgcgcodjddddaaDoorFrC
namespace Go.Proofs.YtdgcgcodjddddaaDoor
open Go.RowKit
set_option linter.unusedVariables false

theorem Tryd.info_u64 : (Tryd.prog.info? 87).map (fun i => (i.zero, i.size, i.bytes)) = some (some (.int .u64 0), 1, 8) := by kernel_rfl
theorem wordsV_zero (nb : Nat) : wordsV nb 0 = List.replicate nb (.int .u64 0) := by
  apply List.ext_getElem?
  intro j
  by_cases hj : j < nb
  · rw [wordsV_at hj, List.getElem?_replicate, if_pos hj]
    unfold wq; simp
  · rw [List.getElem?_eq_none (by rw [wordsV_len]; omega), List.getElem?_eq_none (by simp; omega)]
theorem ownU_made (w : World) (n : Nat) (hn : n ≤ maxLen) : OwnU (w.alloc (.cells (madeCells #[.int .u64 0] n) 87)) w.heap.size w.heap.size n 0 :=
  ⟨by rw [wordsV_len], by rw [wordsV_len, Nat.mul_one], .inr ⟨w.heap.size, n, madeCells #[.int .u64 0] n, rfl, Nat.le_refl _, heap_alloc_new w _, Nat.le_refl _, hn, by simp [size_madeCells], by rw [wordsV_zero]; simp [toList_madeCells_one]⟩⟩
def RetNu (nb : Nat) (w : World) (e : Ending) (w' : World) : Prop := e = .returned (.slice (some ⟨w.heap.size, 0, none⟩) nb nb) ∧ OwnU w' w.heap.size w.heap.size nb 0 ∧ Below w.heap.size w w' ∧ w.heap.size < w'.heap.size
set_option maxRecDepth 100000 in
theorem newRow_any (n nb : Nat) (w : World) (h : nb = (n + 63) / 64) (hn : n ≤ 1000000) : Calls Tryd.prog 39 #[.int .i64 n, .slice none 0 0] w (RetNu nb w) := by
  obtain ⟨i0, hi, hz0, hz1, hz2⟩ := info_parts Tryd.info_u64
  have hw1 : IntKind.i64.wrap ((n : Int) + 63) = ((n + 63 : Nat) : Int) := by rw [IntKind.wrap_i64]; omega
  have hq : Int.tdiv (((n + 63 : Nat) : Int)) 64 = (nb : Int) := by rw [tdivN, h]
  have hq2 : Int.tdiv ((n : Int) + 63) 64 = (nb : Int) := by rw [← hq]; push_cast; rfl
  have hw2 : IntKind.i64.wrap (nb : Int) = (nb : Int) := by rw [IntKind.wrap_i64]; omega
  have hmk : ∀ w : World, (Instr.makeSlice 59 (.int .i64 (nb : Int)) (.int .i64 (nb : Int))).run Tryd.prog w = .ok (.slice (some ⟨w.heap.size, 0, none⟩) nb nb) (w.alloc (.cells (madeCells #[.int .u64 0] nb) 87)) := fun w => by
    have h1 := run_make (P := Tryd.prog) (w := w) 59 87 i0 (.int .u64 0) Tryd.underlying59 hi hz0 .i64 .i64 (nb : Int) (nb : Int) (by omega) (Int.le_refl _) (by rw [hz2]; omega) (by omega)
    rw [h1, hz1, Int.toNat_natCast, Nat.mul_one]
    rfl
  have HO := Lib.hid (ownU_made w nb (by unfold maxLen; omega))
  have HB := Lib.hid ((Below.refl w.heap.size w).alloc (Nat.le_refl _) (.cells (madeCells #[.int .u64 0] nb) 87))
  clear h hi hz0 hz1 hz2 i0
  go_enter Tryd.func39, Tryd.ntmps39
  go_wp2_with fail
  go_loop [14] (fun i => i = .int .i64 0) (fun i => 0)
  case atStart => rfl
  case round =>
    obtain rfl := hrel
    go_wp2_with fail
    go_ret
    exact ⟨rfl, HO.out, HB.out, by simp⟩
/-- rows of an echelon behind a pointer: all their blocks lie behind E and below K -/
abbrev rowV (nb g : Nat) : Value := .slice (some ⟨g, 0, none⟩) nb nb
structure EchP (w : World) (E K nb : Nat) (R : List Nat) (A A2 : Option Addr) (n c c2 : Nat) (gs : List Nat) (ws : List Value) : Prop where
  cs : Cells [(E, 0, .slice A n c), (E, 1, .slice A2 n c2)] w
  o1 : OwnV w (E + 1) 59 A n c (gs.map (rowV nb))
  o2 : OwnV w (E + 1) 59 A2 n c2 ws
  em : ∀ v ∈ ws, ∃ a d, v = .slice a 0 d
  len : gs.length = R.length
  row : ∀ (i g v : Nat), gs[i]? = some g → R[i]? = some v → OwnU w (E + 1) g nb v
  nod : gs.Nodup
  k0 : E < K
  k1 : ∀ ad, A = some ad → ad.block < K
  k2 : ∀ ad, A2 = some ad → ad.block < K
  k3 : ∀ g ∈ gs, g < K
  ne : ∀ ad ad2, A = some ad → A2 = some ad2 → ad.block ≠ ad2.block
  na : ∀ ad, A = some ad → ad.block ∉ gs
  na2 : ∀ ad, A2 = some ad → ad.block ∉ gs
theorem ownV_belowK {w w' : World} {B E n c K : Nat} {A : Option Addr} {vs : List Value} (h : OwnV w B E A n c vs) (hk : ∀ ad, A = some ad → ad.block < K) (hb : Below K w w') : OwnV w' B E A n c vs :=
  ⟨h.len, ownsRow_same h.own fun g hg => by
    cases A with
    | none => cases hg
    | some ad =>
      have : ad.block = g := by
        have e : some ad.block = some g := hg
        exact Option.some.inj e
      rw [← this]
      exact hb.block _ (hk ad rfl)⟩
theorem EchP.below {w w' : World} {E K nb n c c2 : Nat} {R gs : List Nat} {A A2 : Option Addr} {ws : List Value} (h : EchP w E K nb R A A2 n c c2 gs ws) (hb : Below K w w') : EchP w' E K nb R A A2 n c c2 gs ws :=
  ⟨h.cs.belowB hb (by intro x hx; simp only [List.mem_cons, List.not_mem_nil, or_false] at hx; rcases hx with rfl | rfl <;> exact h.k0), ownV_belowK h.o1 h.k1 hb, ownV_belowK h.o2 h.k2 hb, h.em, h.len,
    fun i g v hg hv => ownV_belowK (h.row i g v hg hv) (fun ad e => by injection e with e; subst e; exact h.k3 g (List.mem_of_getElem? hg)) hb, h.nod, h.k0, h.k1, h.k2, h.k3, h.ne, h.na, h.na2⟩
theorem red_take {R : List Nat} {t v k : Nat} (h : R[k]? = some v) : red lowB (R.take (k + 1)) t = (if (red lowB (R.take k) t).testBit (lowB v) = true then red lowB (R.take k) t ^^^ v else red lowB (R.take k) t) := by
  rw [List.take_add_one, h]
  unfold red
  rw [List.foldl_append]; rfl
theorem below_g {w w' : World} {K g : Nat} (hg : w.grownBy w' (some g)) (hK : K ≤ g) (hs : K ≤ w.heap.size) : Below K w w' := ⟨hg.os, hg.tape, hg.output, hg.size, fun k hk => hg.block k (Nat.lt_of_lt_of_le hk hs) (by intro e; injection e with e; omega)⟩
set_option maxRecDepth 100000 in
theorem reduceU_any (E K nb g B t n9 c9 : Nat) (R : List Nat) (A9 : Option Addr) (w : World) {A A2 : Option Addr} {n c c2 : Nat} {gs : List Nat} {ws : List Value} (h : EchP w E K nb R A A2 n c c2 gs ws) (hr : OwnU w B g nb t) (hg : K ≤ g) (hgs : g < w.heap.size)
    (hpos : ∀ r ∈ R, r ≠ 0) (hR : ∀ r ∈ R, r < 2 ^ (64 * nb)) (ht : t < 2 ^ (64 * nb)) (hnb : nb ≤ 1000000) (hn : n ≤ 1000000) (hT : Deb w) (hE : 1 ≤ E) :
    Calls Tryd.prog 44 #[.pointer (some ⟨E, 0, none⟩), .slice (some ⟨g, 0, none⟩) nb nb, .slice A9 n9 c9] w (RetFu B g nb (red lowB R t) w) := by
  have HH := Lib.hid h
  have HR0 := Lib.hid hr
  have HP := Lib.hid hpos
  have HRW := Lib.hid hR
  have HTW := Lib.hid ht
  have HT := Lib.hid hT
  have hgsz : K ≤ w.heap.size := Nat.le_of_lt (Nat.lt_of_le_of_lt hg hgs)
  have k0 := h.cs.at_ (b := E) (o := 0) (V := .slice A n c) (by simp)
  have k1 := h.cs.at_ (b := E) (o := 1) (V := .slice A2 n c2) (by simp)
  have hlen : gs.length = n := by have := h.o1.len; simpa using this
  have HLn := Lib.hid hlen
  clear h hr hpos hR ht hT
  go_enter Tryd.func44, Tryd.ntmps44
  go_wp2_with fail
  clear k0 k1
  go_loopw [13] (fun i wr => ∃ k : Nat, k ≤ n ∧ i = .int .i64 k ∧ Hid (OwnU wr B g nb (red lowB (R.take k) t)) ∧ Hid (w.grownBy wr (some g)) ∧ Hid (wr.heap.size = w.heap.size)) (fun i _ => n - (intOf i).toNat)
  case atStart => exact ⟨0, Nat.zero_le _, rfl, by rw [List.take_zero]; exact HR0, Lib.hid (World.grownBy.refl _ _), Lib.hid rfl⟩
  case round =>
    obtain ⟨k, hk, rfl, HO, HG, HZ⟩ := hrel
    have hBK := below_g HG.out hg hgsz
    by_cases hlt : k < n
    · have HHr := Lib.hid (HH.out.below hBK)
      have HTr := Lib.hid (HT.out.belowB hBK (by have := HH.out.k0; omega))
      obtain ⟨ad, v1, rfl, hbl, hv1, hcx⟩ := HHr.out.o1.rd.at_ hlt
      obtain ⟨gk, hgk⟩ : ∃ gk, gs[k]? = some gk := ⟨_, List.getElem?_eq_getElem (by rw [hlen]; exact hlt)⟩
      have hv1' := hv1.out
      rw [List.getElem?_map, hgk] at hv1'
      obtain rfl := Option.some.inj hv1'
      obtain ⟨x, hx⟩ : ∃ x, R[k]? = some x := ⟨_, List.getElem?_eq_getElem (by rw [← HH.out.len, hlen]; exact hlt)⟩
      have hxm : x ∈ R := List.mem_of_getElem? hx
      have hx0 := HP.out x hxm
      have hxw := HRW.out x hxm
      have HX := Lib.hid (HHr.out.row k gk x hgk hx)
      have hgne : g ≠ gk := by have := HHr.out.k3 gk (List.mem_of_getElem? hgk); omega
      obtain ⟨ad2, v2, rfl, hb2, hv2, hcw⟩ := HHr.out.o2.rd.at_ hlt
      obtain ⟨a9, d9, he9⟩ := HHr.out.em v2 (List.mem_of_getElem? hv2.out)
      subst he9
      obtain ⟨u, hu⟩ : ∃ u, u = red lowB (R.take k) t := ⟨_, rfl⟩
      rw [← hu] at HO
      have huw : u < 2 ^ (64 * nb) := by rw [hu]; exact red_width (fun r hr => HRW.out r (List.mem_of_mem_take hr)) HTW.out
      have HRT := Lib.hid (show red lowB (R.take (k + 1)) t = (if u.testBit (lowB x) = true then u ^^^ x else u) from by rw [hu]; exact red_take hx)
      have hlow : lowB x < 64 * nb := by
        have h1 := (lowB_bit hx0).1
        rcases Nat.lt_or_ge (lowB x) (64 * nb) with h | h
        · exact h
        · rw [Nat.testBit_lt_two_pow (Nat.lt_of_lt_of_le hxw (Nat.pow_le_pow_right (by decide) h))] at h1; cases h1
      have C1 := Lib.hid (firstU_any _ gk nb x wr HX.out.rd hxw hnb HTr.out)
      have hli : lowI x = ((lowB x : Nat) : Int) := by unfold lowI; rw [if_neg hx0]
      rw [hli] at C1
      obtain ⟨p, hp⟩ : ∃ p, p = lowB x := ⟨_, rfl⟩
      rw [← hp] at C1 HRT hlow
      have C2 := Lib.hid (hasU_any _ g nb u p wr HO.out.rd hlow hnb)
      have C3 := Lib.hid (plusU_any B _ g gk nb u x wr HO.out HX.out.rd hgne hnb)
      have k0 := HHr.out.cs.at_ (b := E) (o := 0) (V := .slice (some ad) n c) (by simp)
      have k1 := HHr.out.cs.at_ (b := E) (o := 1) (V := .slice (some ad2) n c2) (by simp)
      obtain ⟨q, hq⟩ : ∃ q, q = u.testBit p := ⟨_, rfl⟩
      rw [← hq] at C2 HRT
      clear hu hli hp hxm hx0 hxw hgk hx hv1' hq
      cases q
      · have HO2 := Lib.hid (show OwnU wr B g nb (red lowB (R.take (k + 1)) t) from by rw [HRT.out]; exact HO.out)
        go_wp2_with fail
        refine C1.out.mono ?_
        rintro e w1 ⟨rfl, rfl⟩
        go_wp2_with fail
        refine C2.out.mono ?_
        rintro e w2 ⟨rfl, rfl⟩
        go_wp2_with fail
        go_roundw
        case rel => exact ⟨k + 1, by omega, by go_num, HO2, HG, HZ⟩
        case measure => simp [intOf]; omega
      · go_wp2_with fail
        refine C1.out.mono ?_
        rintro e w1 ⟨rfl, rfl⟩
        go_wp2_with fail
        refine C2.out.mono ?_
        rintro e w2 ⟨rfl, rfl⟩
        go_wp2_with fail
        refine C3.out.mono ?_
        rintro e w3 ⟨rfl, ho3, hg3, hz3⟩
        have HG3 := Lib.hid (grownBy_trans HG.out hg3)
        have HZ3 := Lib.hid (hz3.trans HZ.out)
        have HO3 := Lib.hid (show OwnU w3 B g nb (red lowB (R.take (k + 1)) t) from by rw [HRT.out]; exact ho3)
        have HH3 := Lib.hid (HH.out.below (below_g HG3.out hg hgsz))
        have k03 := HH3.out.cs.at_ (b := E) (o := 1) (V := .slice (some ad2) n c2) (by simp)
        have hcw3 : w3.cell? (ad2.add k) = some (.slice a9 0 d9) := by
          rw [← hcw]
          exact World.cell?_of_block (hg3.block _ (by rw [block_of_add]; exact hb2) (fun e => by
            have h1 := HHr.out.k2 ad2 rfl
            rw [block_of_add] at e
            injection e with e
            omega))
        have C4 := Lib.hid (plus0_any A9 a9 n9 c9 d9 w3)
        clear ho3 hg3 hz3
        go_wp2_with fail
        refine C4.out.mono ?_
        rintro e w4 ⟨rfl, rfl⟩
        go_wp2_with fail
        go_roundw
        case rel => exact ⟨k + 1, by omega, by go_num, HO3, HG3, HZ3⟩
        case measure => simp [intOf]; omega
    · obtain rfl : k = n := by omega
      go_wp2_with fail
      go_end0
      refine ⟨rfl, ?_, HG.out, HZ.out⟩
      have := HO.out
      rwa [List.take_of_length_le (by rw [← HH.out.len, HLn.out]; exact Nat.le_refl _)] at this
end Go.Proofs.YtdgcgcodjddddaaDoor
