/- What a write to owned memory leaves as it was (Mid); slices of lists made and filled; sizes and copies: szInt64S, szInt64SS, toInt64SS, markInt64SS. -/
import Derived.Test.YtejojliljplcdaaGreatDoorLL
namespace Go.Proofs.YtejojliljplcdaaGreatDoor
open Go.RowKit
set_option linter.unusedVariables false

/-- only blocks from B on and below K, and new ones, have turned -/
structure Mid (B K : Nat) (w w' : World) : Prop where
  os : w'.os = w.os
  tape : w'.tape = w.tape
  output : w'.output = w.output
  size : w.heap.size ≤ w'.heap.size
  block : ∀ i, i < w.heap.size → (i < B ∨ K ≤ i) → w'.heap[i]? = w.heap[i]?
theorem Mid.refl (B K : Nat) (w : World) : Mid B K w w := ⟨rfl, rfl, rfl, Nat.le_refl _, fun _ _ _ => rfl⟩
theorem Mid.trans {B K : Nat} {a b c : World} (h : Mid B K a b) (k : Mid B K b c) : Mid B K a c :=
  ⟨k.os.trans h.os, k.tape.trans h.tape, k.output.trans h.output, Nat.le_trans h.size k.size, fun i hi hr => (k.block i (Nat.lt_of_lt_of_le hi h.size) hr).trans (h.block i hi hr)⟩
theorem Mid.grown {B K : Nat} {a b c : World} {row : Option Nat} (h : Mid B K a b) (k : b.grownBy c row) (hr : ∀ g, row = some g → B ≤ g ∧ g < K) : Mid B K a c :=
  h.trans ⟨k.os, k.tape, k.output, k.size, fun i hi ho => k.block i hi fun e => by have := hr i e.symm; omega⟩
theorem Mid.below {B K : Nat} {w w' : World} (h : Mid B K w w') (hB : B ≤ w.heap.size) : Below B w w' := ⟨h.os, h.tape, h.output, h.size, fun i hi => h.block i (Nat.lt_of_lt_of_le hi hB) (.inl hi)⟩
theorem Mid.of_below {B K : Nat} {w w' : World} (h : Below w.heap.size w w') : Mid B K w w' := ⟨h.os, h.tape, h.output, h.size, fun i hi _ => h.block i hi⟩
/-- what lies in the blocks of one stretch -/
theorem Mid.grownAt {B K g : Nat} {w w' : World} (h : Mid B K w w') (hg : g < B ∨ K ≤ g) : ∀ {r : Nat}, r = g → r < w.heap.size → w'.heap[r]? = w.heap[r]? := fun e hr => h.block _ hr (by subst e; exact hg)

theorem ownsRow_same {w w' : World} {B E : Nat} {v : Value} {n : Nat} {xs : List Value} (h : w.ownsRow B E 1 v n xs) (hs : ∀ g, v.ownBlock = some g → w'.heap[g]? = w.heap[g]?) : w'.ownsRow B E 1 v n xs := by
  refine ⟨h.1, ?_⟩
  rcases h.2 with hn | ⟨g, cap, cur, rfl, hb, hgg, rest⟩
  · exact .inl hn
  · exact .inr ⟨g, cap, cur, rfl, hb, by rw [hs g rfl]; exact hgg, rest⟩
theorem OwnS.mid {w w' : World} {B B' K : Nat} {A : Option Addr} {n c : Nat} {xs : List Int} (h : OwnS w B' A n c xs) (m : Mid B K w w') (hK : K ≤ B') : OwnS w' B' A n c xs :=
  ⟨h.len, ownsRow_same h.own fun g hg => m.block g (h.own.lt g hg).2 (.inr (Nat.le_trans hK (h.own.lt g hg).1))⟩
theorem OwnV.mid {w w' : World} {B B' K E : Nat} {A : Option Addr} {n c : Nat} {xs : List Value} (h : OwnV w B' E A n c xs) (m : Mid B K w w') (hK : K ≤ B') : OwnV w' B' E A n c xs :=
  ⟨h.len, ownsRow_same h.own fun g hg => m.block g (h.own.lt g hg).2 (.inr (Nat.le_trans hK (h.own.lt g hg).1))⟩
theorem OwnL.mid {w w' : World} {B B' K K' : Nat} {A : Option Addr} {n c : Nat} {xss : List (List Int)} (h : OwnL w B' K' A n c xss) (m : Mid B K w w') (hK : K ≤ B') : OwnL w' B' K' A n c xss := by
  obtain ⟨vs, h1, h2, h3⟩ := h.rows
  refine ⟨h.len, vs, h1.mid m hK, fun j v xs hv hx => ?_, h3⟩
  obtain ⟨A', n', c', rfl, ho, hk⟩ := h2 j v xs hv hx
  exact ⟨A', n', c', rfl, ho.mid m hK, hk⟩

/-- all that an owned list of lists holds lies below K -/
structure OwnM (w : World) (B K : Nat) (A : Option Addr) (n c : Nat) (xss : List (List Int)) : Prop where
  own : OwnL w B K A n c xss
  out : ∀ g, Value.ownBlock (.slice A n c) = some g → g < K
theorem OwnL.m {w : World} {B K : Nat} {A : Option Addr} {n c : Nat} {xss : List (List Int)} (h : OwnL w B K A n c xss) (hK : K ≤ w.heap.size) : OwnM w B w.heap.size A n c xss := ⟨h.mono (Nat.le_refl _) hK, h.lt⟩
theorem OwnM.below {w w' : World} {B K : Nat} {A : Option Addr} {n c : Nat} {xss : List (List Int)} (h : OwnM w B K A n c xss) (hb : Below w.heap.size w w') : OwnM w' B K A n c xss := ⟨h.own.below hb, h.out⟩
theorem OwnM.mid {w w' : World} {B B' K K' : Nat} {A : Option Addr} {n c : Nat} {xss : List (List Int)} (h : OwnM w B' K' A n c xss) (m : Mid B K w w') (hK : K ≤ B') : OwnM w' B' K' A n c xss := ⟨h.own.mid m hK, h.out⟩
theorem OwnM.drewN {w : World} {B K : Nat} {A : Option Addr} {n c : Nat} {xss : List (List Int)} (h : OwnM w B K A n c xss) (k : Nat) : OwnM (w.drewN k) B K A n c xss := ⟨h.own.drewN k, h.out⟩
theorem OwnM.mono {w : World} {B B' K K' : Nat} {A : Option Addr} {n c : Nat} {xss : List (List Int)} (h : OwnM w B K A n c xss) (hb : B' ≤ B) (hk : K ≤ K') : OwnM w B' K' A n c xss := ⟨h.own.mono hb hk, fun g hg => Nat.lt_of_lt_of_le (h.out g hg) hk⟩

theorem OwnL.at2 {w : World} {B K : Nat} {A : Option Addr} {n c : Nat} {xss : List (List Int)} (h : OwnL w B K A n c xss) {k : Nat} (hk : k < n) :
    ∃ ad A' n' c' xs, A = some ad ∧ Hid (xss[k]? = some xs) ∧ w.cell? (ad.add k) = some (.slice A' n' c') ∧ OwnS w B A' n' c' xs ∧ (∀ g, Value.ownBlock (.slice A' n' c') = some g → B ≤ g ∧ g < K) ∧
      ∀ w' ys, OwnS w' B A' n' c' ys → w.grownBy w' (Value.ownBlock (.slice A' n' c')) → OwnL w' B K A n c (xss.set k ys) := by
  obtain ⟨ad, A', n', c', xs, rfl, hx, hc, ho, hset⟩ := h.at_ hk
  refine ⟨ad, A', n', c', xs, rfl, hx, hc, ho, ?_, hset⟩
  obtain ⟨vs, h1, h2, _⟩ := h.rows
  obtain ⟨ad', v, e, _, hv, hc'⟩ := h1.rd.at_ hk
  obtain rfl : ad = ad' := by simpa using e
  rw [hc] at hc'
  obtain rfl : Value.slice A' n' c' = v := by simpa using hc'
  obtain ⟨A2, n2, c2, e2, ho2, hK⟩ := h2 k _ xs hv.out hx.out
  injection e2 with e3 e4 e5
  subst e3; subst e4; subst e5
  exact fun g hg => ⟨(ho2.own.lt g hg).1, hK g hg⟩

def RetMarkM (B K : Nat) (A : Option Addr) (n c : Nat) (xss : List (List Int)) (x : Int) (w : World) (e : Ending) (w' : World) : Prop :=
  e = .returned (.int .i64 x) ∧ OwnM w' B K A n c xss ∧ Mid B K w w'
theorem RetMarkM.mk {B K : Nat} {A : Option Addr} {n c : Nat} {xss : List (List Int)} {x y : Int} {w w' : World} (h : y = x) (ho : OwnM w' B K A n c xss) (hg : Mid B K w w') :
    RetMarkM B K A n c xss x w (.returned (.int .i64 y)) w' := ⟨by rw [h], ho, hg⟩
theorem markM_any (A : Option Addr) (c n : Nat) (xss : List (List Int)) (w : World) (B K : Nat) (m : Int) (h : OwnM w B K A n c xss) (hn : n ≤ 1000000000000) (ht : totalL xss ≤ 1000000000000) (h0 : 0 ≤ m) (h1 : m ≤ 1000000000) :
    Calls Tryz.prog 13 #[.slice A n c, .int .i64 m] w (RetMarkM B K A n c (marksL m xss) (m + totalL xss) w) := by
  have Hl := Lib.hid h.own.len
  have HOut := Lib.hid h.out
  go_enter Tryz.func13, Tryz.ntmps13
  go_wp2_with fail
  go_loopw [1, 5] (fun v i wr => ∃ k t : Nat, k ≤ n ∧ i = .int .i64 k ∧ v = .int .i64 (m + t) ∧ t ≤ 1000000000000 ∧ Hid (t = totalL (xss.take k)) ∧ OwnL wr B K A n c (marksL m (xss.take k) ++ xss.drop k) ∧ Mid B K w wr) (fun _ i _ => n - (intOf i).toNat)
  case atStart => exact ⟨0, 0, Nat.zero_le _, rfl, by go_num, by omega, Lib.hid rfl, by simpa [marksL] using h.own, Mid.refl _ _ _⟩
  case round =>
    obtain ⟨k, t, hk, rfl, rfl, ht1, HT, HO, HB⟩ := hrel
    have HO1 := Lib.hid HO; clear HO
    have HB1 := Lib.hid HB; clear HB
    by_cases hlt : k < n
    · obtain ⟨ad, A', n', c', xs, rfl, hx, hc, ho, hbk, hset⟩ := HO1.out.at2 hlt
      have hx2 : Hid (xss[k]? = some xs) := Lib.hid (marksL_drop.symm.trans hx.out)
      have hn' : n' ≤ 1000000000000 := by rw [← ho.len]; exact Nat.le_trans (len_le_total hx2) ht
      have hlen := Lib.hid ho.len
      have ht2 : Hid (t + n' = totalL (xss.take (k + 1))) := Lib.hid (by rw [totalL_take_succ hx2, ← HT.out, hlen.out])
      have ht3 : t + n' ≤ 1000000000000 := by rw [ht2.out]; exact Nat.le_trans (totalL_take_le _ _) ht
      have Hset := Lib.hid hset; clear hset
      have Hbk := Lib.hid hbk; clear hbk
      have Hmark := Lib.hid (markS_any A' c' n' xs wr B (m + t) ho hn' (by omega) (by omega)); clear ho
      clear ht
      go_wp2_with fail
      refine Hmark.out.mono ?_
      rintro e w1 ⟨rfl, ho1, hg1⟩
      have HO2 := Hset.out w1 _ ho1 hg1
      rw [HT.out, ← hlen.out, marksL_set hx2] at HO2
      have HO3 := Lib.hid HO2; clear HO2
      have HB3 := Lib.hid (HB1.out.grown hg1 Hbk.out); clear ho1 hg1
      go_wp2_with fail
      go_roundw
      case rel => exact ⟨k+1, t + n', by omega, by go_num, by go_num, ht3, ht2, HO3.out, HB3.out⟩
      case measure => simp [intOf]; omega
    · go_wp2_with fail
      go_ret
      obtain rfl : k = n := by omega
      have h3 := HT.out
      rw [List.take_of_length_le (by rw [Hl.out]; omega)] at h3
      refine RetMarkM.mk (y := m + t) (by rw [h3]) ?_ HB1.out
      have h4 := HO1.out
      rw [List.take_of_length_le (by rw [Hl.out]; omega), List.drop_of_length_le (by rw [Hl.out]; omega)] at h4
      exact ⟨by simpa using h4, HOut.out⟩

/-- what a store of a list into an owned outer row needs and gives: the list lies from K on -/
theorem OwnL.store {w : World} {B K : Nat} {A : Option Addr} {n c : Nat} {xss : List (List Int)} (h : OwnL w B K A n c xss) {k : Nat} (hk : k < n) :
    ∃ g v, A = some ⟨g, 0, none⟩ ∧ B ≤ g ∧ g < w.heap.size ∧ w.cell? ⟨g, k, none⟩ = some v ∧ w.frozen? ⟨g, k, none⟩ = false ∧
      ∀ A' n' c' xs, OwnS w K A' n' c' xs → B ≤ K → K ≤ w.heap.size → OwnL (w.setCell ⟨g, k, none⟩ (.slice A' n' c')) B w.heap.size A n c (xss.set k xs) ∧ w.grownBy (w.setCell ⟨g, k, none⟩ (.slice A' n' c')) (some g) := by
  obtain ⟨vs, h1, h2, h3⟩ := h.rows
  obtain ⟨g, cap, hv, hb, hlt⟩ := h1.own.form (by have := h1.len; omega)
  injection hv with hA _ hc
  subst hA; subst hc
  have hkv : k < vs.length := by rw [h1.len]; exact hk
  refine ⟨g, vs[k], rfl, hb, hlt, ?_, h1.own.frozenAt k, fun A' n' c' xs ho hBK hK => ?_⟩
  · rw [h1.own.cellAt k (by omega)]; simp [hkv]
  · have hst := h1.own.stored k (.slice A' n' c')
    have hgk : ∃ cs, w.heap[g]? = some (.cells cs 22 (0, 0)) := h1.kind g rfl
    refine ⟨⟨by simpa using h.len, vs.set k (.slice A' n' c'), ⟨by simpa using h1.len, hst.1⟩, fun j v ys hv hy => ?_, fun i j u v g' hij hu hv hgu hgv => ?_⟩, hst.2⟩
    · by_cases hj : j = k
      · subst hj
        rw [List.getElem?_set_self hkv] at hv
        rw [List.getElem?_set_self (by rw [h.len]; exact hk)] at hy
        injection hv with hv; injection hy with hy
        subst hv; subst hy
        exact ⟨A', n', c', rfl, (ho.mono hBK).grown hst.2 (fun ad had e => by subst had; exact kinds_ne (by decide) (ho.kind ad.block rfl) hgk (by simpa using e)), fun g' hg' => (ho.own.lt g' hg').2⟩
      · rw [List.getElem?_set_ne (fun e => hj e.symm)] at hv hy
        exact ((h2 j v ys hv hy).grown hst.2 (fun g' hg' e => kinds_ne (by decide) ((h2 j v ys hv hy).kind g' hg') hgk (by simpa using e))).mono (Nat.le_refl _) hK
    · have hold : ∀ (i : Nat) (u : Value) (g' : Nat), vs[i]? = some u → u.ownBlock = some g' → g' < K := by
        intro i u g' hu hgu
        have hi : i < xss.length := by rw [h.len, ← h1.len]; exact (List.getElem?_eq_some_iff.1 hu).1
        obtain ⟨_, _, _, _, _, hk'⟩ := h2 i u xss[i] hu (List.getElem?_eq_getElem hi)
        exact hk' g' hgu
      by_cases hi : i = k
      · subst hi
        rw [List.getElem?_set_self hkv] at hu
        rw [List.getElem?_set_ne (by omega)] at hv
        injection hu with hu; subst hu
        have := (ho.own.lt g' hgu).1
        have := hold j v g' hv hgv
        omega
      · rw [List.getElem?_set_ne (fun e => hi e.symm)] at hu
        by_cases hj : j = k
        · subst hj
          rw [List.getElem?_set_self hkv] at hv
          injection hv with hv; subst hv
          have := (ho.own.lt g' hgv).1
          have := hold i u g' hu hgu
          omega
        · rw [List.getElem?_set_ne (fun e => hj e.symm)] at hv
          exact h3 i j u v g' hij hu hv hgu hgv

theorem ownL_made {w : World} {B K g n : Nat} (h : w.ownsRow B 22 1 (.slice (some ⟨g, 0, none⟩) n n) n (List.replicate n (.slice none 0 0))) : OwnL w B K (some ⟨g, 0, none⟩) n n (List.replicate n []) := by
  refine ⟨by simp, List.replicate n (.slice none 0 0), ⟨by simp, h⟩, fun j v xs hv hx => ?_, fun i j u v g _ hu _ hgu => ?_⟩
  · rw [List.getElem?_replicate] at hv hx
    split at hv
    · rename_i hj
      simp only [hj, if_true, Option.some.injEq] at hv hx
      subst hv; subst hx
      exact ⟨none, 0, 0, rfl, OwnS.nil, fun g hg => by cases hg⟩
    · cases hv
  · rw [List.getElem?_replicate] at hu
    split at hu
    · simp only [Option.some.injEq] at hu
      subst hu; cases hgu
    · cases hu
theorem fillL_step {xss : List (List Int)} {k n : Nat} {x : List Int} (hx : Hid (xss[k]? = some x)) (hk : k < n) : (xss.take k ++ List.replicate (n - k) []).set k x = xss.take (k+1) ++ List.replicate (n - (k+1)) [] := by
  have hlt : k < xss.length := (List.getElem?_eq_some_iff.1 hx.out).1
  rw [List.take_add_one, hx.out, List.set_append_right _ _ (by rw [List.length_take]; omega), List.length_take, show k - min k xss.length = 0 from by omega, show n - k = (n - (k+1)) + 1 from by omega, List.replicate_succ]
  simp

theorem toL_any (A : Option Addr) (c n : Nat) (xss : List (List Int)) (w : World) (h : RdL w w.heap.size A n c xss) (hn : n ≤ 2000000) (ht : totalL xss ≤ 2000000) :
    Calls Tryz.prog 41 #[.slice A n c] w (RetL n xss w) := by
  obtain ⟨i0, hi, hz0, hz1, hz2⟩ := info_parts Tryz.info_s64
  obtain ⟨B, hB⟩ : ∃ B, B = w.heap.size := ⟨_, rfl⟩
  have hBle : w.heap.size ≤ B := by omega
  have hBge : B ≤ w.heap.size := by omega
  have HBeq := Lib.hid hB
  rw [← hB] at h
  clear hB
  go_enter Tryz.func41, Tryz.ntmps41
  go_wp2_with (at_make; refine wpList_make_full _ rfl _ _ 23 rfl B 22 i0 (.slice none 0 0) 1 Tryz.underlying23 hi hz0 hz1 .i64 .i64 _ _ n rfl rfl rfl rfl ?b2 ?b3 hBge ?_)
  case b2 => rw [hz2]; omega
  case b3 => unfold maxLen; omega
  intro w1 hown hgr
  have HO := Lib.hid (show OwnL w1 B w1.heap.size (some ⟨w.heap.size, 0, none⟩) n n (xss.take 0 ++ List.replicate (n - 0) []) by
    have := ownL_made (K := w1.heap.size) (show w1.ownsRow B 22 1 (.slice (some ⟨w.heap.size, 0, none⟩) n n) n (List.replicate n (.slice none 0 0)) by simpa [toList_madeCells_one, Value.cells] using hown)
    simpa using this)
  have HBe := Lib.hid (show Below B w w1 from (Below.refl _ _).grown hgr hBge (by simp))
  clear hown hgr hBge hBle
  obtain ⟨g, hg⟩ : ∃ g, g = w.heap.size := ⟨_, rfl⟩
  rw [← hg] at HO ⊢
  clear hg
  go_wp2_with fail
  go_loopw [4] (fun i wr => ∃ k : Nat, k ≤ n ∧ i = .int .i64 k ∧ Hid (OwnL wr B wr.heap.size (some ⟨g, 0, none⟩) n n (xss.take k ++ List.replicate (n - k) [])) ∧ Hid (Below B w wr)) (fun i _ => n - (intOf i).toNat)
  case atStart => exact ⟨0, Nat.zero_le _, rfl, HO, HBe⟩
  case round =>
    obtain ⟨k, hk, rfl, HO1, HB1⟩ := hrel
    by_cases hlt : k < n
    · obtain ⟨ad1, A1, n1, c1, x, rfl, _, hx, hc1, hr1⟩ := (h.below HB1.out).at_ hlt
      have hn1 : n1 ≤ 2000000 := by rw [← hr1.len]; exact Nat.le_trans (len_le_total hx) ht
      have Hto := Lib.hid (toS_any A1 c1 n1 x wr (hr1.mono (by rw [HBeq.out]; exact HB1.out.size)) hn1)
      clear hr1
      go_wp2_with fail
      refine Hto.out.mono ?_
      rintro e w2 ⟨A2, c2, rfl, ho2, hb2⟩
      obtain ⟨g', y, hg', hBg, hgl, hc2, hf2, hset⟩ := (HO1.out.below hb2).store hlt
      obtain rfl : g = g' := by simpa using hg'
      have HS := Lib.hid (hset A2 n1 c2 x ho2 (by rw [HBeq.out]; exact HB1.out.size) hb2.size)
      have HB2 := Lib.hid (HB1.out.trans (hb2.mono (by rw [HBeq.out]; exact HB1.out.size)))
      clear hset hg' hb2 ho2
      go_wp2_with fail
      go_roundw
      case rel =>
        refine ⟨k+1, by omega, by go_num, Lib.hid ?_, Lib.hid (HB2.out.setCell hBg _)⟩
        have h5 := HS.out.1
        rw [fillL_step hx hlt] at h5
        exact h5.mono (Nat.le_refl _) HS.out.2.size
      case measure => simp [intOf]; omega
    · go_wp2_with fail
      go_ret
      obtain rfl : k = n := by omega
      have h5 := HO1.out
      rw [List.take_of_length_le (by rw [h.len]; omega), Nat.sub_self] at h5
      rw [HBeq.out] at h5 HB1
      exact ⟨_, _, rfl, by simpa using h5, HB1.out⟩

/-! ### sizes -/
def szR (left : Int) (s : Nat) : Int := if left < s then -1 else left - s
theorem szS_any (A : Option Addr) (c n : Nat) (w : World) (left : Int) (h0 : 0 ≤ left) (h1 : left ≤ 1048576) (hn : n ≤ 9223372036854775807) :
    Calls Tryz.prog 34 #[.slice A n c, .int .i64 left] w (RetI (szR left n) w) := by
  by_cases h : left < n
  · go_enter Tryz.func34, Tryz.ntmps34
    go_wp2
    go_ret
    exact RetI.mk (y := -1) (by unfold szR; rw [if_pos (by omega)])
  · go_enter Tryz.func34, Tryz.ntmps34
    go_wp2
    go_ret
    exact RetI.mk (y := left - n) (by unfold szR; rw [if_neg (by omega)])
theorem szL_any (A : Option Addr) (c n B : Nat) (xss : List (List Int)) (w : World) (left : Int) (h : RdL w B A n c xss) (h0 : 0 ≤ left) (h1 : left ≤ 1048576) (hn : n ≤ 9223372036854775807) (hx : ∀ x ∈ xss, x.length ≤ 9223372036854775807) :
    Calls Tryz.prog 35 #[.slice A n c, .int .i64 left] w (RetI (szR left (n + totalL xss)) w) := by
  have HX := Lib.hid hx; clear hx
  have Hl := Lib.hid h.len
  by_cases hL : left < n
  · go_enter Tryz.func35, Tryz.ntmps35
    go_wp2_with fail
    go_ret
    exact RetI.mk (y := -1) (by simp only [szR]; rw [if_pos (by omega)])
  · obtain ⟨R, hR⟩ : ∃ R, R = szR left (n + totalL xss) := ⟨_, rfl⟩
    have HR := Lib.hid hR
    rw [← hR]
    clear hR
    go_enter Tryz.func35, Tryz.ntmps35
    go_wp2_with fail
    go_loop [1, 5] (fun v i => ∃ (k t : Nat), k ≤ n ∧ i = .int .i64 k ∧ v = .int .i64 (left - n - t) ∧ (t : Int) ≤ left - n ∧ Hid (t = totalL (xss.take k))) (fun _ i => n - (intOf i).toNat)
    case atStart => exact ⟨0, 0, Nat.zero_le _, rfl, by go_num, by omega, Lib.hid rfl⟩
    case round =>
      obtain ⟨k, t, hk, rfl, rfl, ht, HT⟩ := hrel
      by_cases hlt : k < n
      · obtain ⟨ad, A1, n1, c1, x, rfl, _, hx, hc, hr⟩ := h.at_ hlt
        have hn1 : n1 ≤ 9223372036854775807 := by rw [← hr.len]; exact HX.out x (List.mem_of_getElem? hx.out)
        have Hn1 := Lib.hid hr.len; clear hr
        have HT2 : Hid (t + n1 = totalL (xss.take (k + 1))) := Lib.hid (by rw [totalL_take_succ hx, ← HT.out, Hn1.out])
        have Hs := Lib.hid (szS_any A1 c1 n1 w (left - n - t) (by omega) (by omega) hn1)
        by_cases hs : left - n - t < n1
        · rw [show szR (left - n - t) n1 = -1 from by simp [szR, hs]] at Hs
          go_wp2_with fail
          refine (Hs.out).mono ?_
          rintro e w' ⟨rfl, rfl⟩
          go_wp2_with fail
          go_ret
          refine RetI.mk (y := -1) ?_
          have := totalL_take_le xss (k + 1)
          rw [HR.out, szR, if_pos (by rw [← HT2.out] at this; omega)]
        · rw [show szR (left - n - t) n1 = left - n - t - n1 from by simp [szR, hs]] at Hs
          go_wp2_with fail
          refine (Hs.out).mono ?_
          rintro e w' ⟨rfl, rfl⟩
          go_wp2_with fail
          go_round
          case rel => exact ⟨k + 1, t + n1, by omega, by go_num, by go_num, by omega, HT2⟩
          case measure => simp [intOf]; omega
      · go_wp2_with fail
        go_ret
        obtain rfl : k = n := by omega
        refine RetI.mk (y := left - k - t) ?_
        have h3 := HT.out
        rw [List.take_of_length_le (by rw [Hl.out]; omega)] at h3
        rw [HR.out, szR, ← h3, if_neg (by omega)]
        omega
end Go.Proofs.YtejojliljplcdaaGreatDoor
