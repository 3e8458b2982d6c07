/- Plain: differentials of admissible words lie in the words of the same part of a sphere, one longer. -/
import Derived.Test.YtdgcgcodjddddaaDoorMulL
import Derived.Test.YtdgcgcodjddddaaDoorWords
import Derived.Test.YtdgcgcodjddddaaDoorHitP
import Derived.Test.YtdgcgcodjddddaaDoorTri
import Derived.Test.YtdgcgcodjddddaaDoorSumL
import Derived.Test.YtdgcgcodjddddaaDoorDifS
namespace Go.Proofs.YtdgcgcodjddddaaDoor
set_option linter.unusedVariables false

def hd (w : List Int) : Int := w.headD 0
theorem adm_hd {b : Int} {r : List Int} (h : admB (b :: r) = true) (hb : 0 ≤ b) : hd r ≤ 2 * b := by
  match r, h with
  | [], _ => show (0 : Int) ≤ 2 * b; omega
  | c :: r, h =>
    simp only [admB, Bool.and_eq_true, decide_eq_true_eq] at h
    exact h.1
/-- how great the first number of a generator times a word can get -/
theorem bef_first : ∀ (f : Nat) (a : Int) (w u : List Int), u ∈ bef f a w → 0 ≤ a → nonN w → admB w = true → ∀ c, hd w ≤ c → hd u ≤ a ∨ hd u ≤ c - a - 1
  | 0, a, w, u, h, _, _, _, c, _ => by simp [bef] at h
  | f + 1, a, [], u, h, _, _, _, c, _ => by
    have : u = [a] := by simpa [bef] using h
    subst this
    exact .inl (Int.le_refl _)
  | f + 1, a, b :: r, u, h, ha, hw, hadm, c, hc => by
    have hb := hw b (by simp)
    have hr : nonN r := fun y hy => hw y (List.mem_cons_of_mem _ hy)
    have hc' : b ≤ c := hc
    rw [bef] at h
    split at h
    · have : u = a :: b :: r := by simpa using h
      subst this
      exact .inl (Int.le_refl _)
    · rename_i hab
      obtain ⟨p, hp, h⟩ := List.mem_flatMap.1 h
      obtain ⟨v, hv, hu⟩ := List.mem_flatMap.1 h
      obtain ⟨j, hj, rfl⟩ := List.mem_map.1 hp
      have h1 := (List.mem_filter.1 hj).2
      simp only [Bool.and_eq_true, decide_eq_true_eq] at h1
      have h1 := h1.1
      simp only at hv hu
      have hr1 := adm_tail hadm
      have hw2 := bef_word hv (by omega) hr
      have ih1 := bef_first f _ r v hv (by omega) hr hr1 (2 * b) (adm_hd hadm hb)
      have hva := bef_is_adm hv hr1
      rcases ih1 with h2 | h2
      · have ih2 := bef_first f _ v u hu (by omega) hw2.2.2 hva _ h2
        omega
      · have ih2 := bef_first f _ v u hu (by omega) hw2.2.2 hva _ h2
        omega
theorem dAt_zero (n : Int) (r : List Int) : dAt (n :: r) 0 = (genW n).map (· ++ r) := by
  unfold dAt putAt
  simp only [List.getElem?_cons_zero, Option.getD_some, List.take_zero, List.nil_append, List.drop_succ_cons, List.drop_zero]
  induction genW n with
  | nil => rfl
  | cons l ls ih => rw [List.flatMap_cons, ih]; rfl
theorem dAt_succ (n : Int) (r : List Int) (k : Nat) : dAt (n :: r) (k + 1) = (dAt r k).map (n :: ·) := by
  unfold dAt putAt
  simp only [List.getElem?_cons_succ, List.take_succ_cons, List.drop_succ_cons]
  induction genW (r[k]?.getD 0) with
  | nil => rfl
  | cons l ls ih => rw [List.flatMap_cons, ih, List.flatMap_cons]; simp
theorem dWord_mem {x y : List Int} (h : y ∈ dWord x) : ∃ k, k < x.length ∧ y ∈ dAt x k := by
  obtain ⟨k, hk, hy⟩ := List.mem_flatMap.1 h
  exact ⟨k, List.mem_range.1 hk, hy⟩
theorem genW_form {n : Int} {l : List Int} (h : l ∈ genW n) (hn : 0 ≤ n) : ∃ j : Int, 1 ≤ j ∧ 2 * j ≤ n ∧ l = [n - j, j - 1] := by
  unfold genW genTo at h
  obtain ⟨j, hj, rfl⟩ := List.mem_map.1 h
  have h1 := List.mem_range.1 (List.mem_filter.1 hj).1
  unfold genM at h1
  exact ⟨(j : Int) + 1, by omega, by omega, by congr 1; congr 1; omega⟩
/-- the first numbers do not get greater -/
theorem dif_first : ∀ (x y z : List Int), nonN x → admB x = true → y ∈ dWord x → z ∈ nf y → hd z ≤ hd x
  | [], y, z, _, _, hy, _ => by
    obtain ⟨k, hk, _⟩ := dWord_mem hy
    simp at hk
  | n :: r, y, z, hx, hadm, hy, hz => by
    have hn := hx n (by simp)
    have hr : nonN r := fun y hy => hx y (List.mem_cons_of_mem _ hy)
    have hr1 := adm_tail hadm
    have hrn := adm_hd hadm hn
    obtain ⟨k, hk, hy⟩ := dWord_mem hy
    match k, hk, hy with
    | 0, _, hy =>
      rw [dAt_zero] at hy
      obtain ⟨l, hl, rfl⟩ := List.mem_map.1 hy
      obtain ⟨j, hj1, hj2, rfl⟩ := genW_form hl hn
      change z ∈ nf ((n - j) :: (j - 1) :: r) at hz
      rw [nf, nf, nf_adm hr1] at hz
      obtain ⟨v, hv, hz⟩ := List.mem_flatMap.1 hz
      have hv : v ∈ bef F (j - 1) r := by simpa [befS] using hv
      have hw2 := bef_word hv (by omega) hr
      have hva := bef_is_adm hv hr1
      show hd z ≤ n
      rcases bef_first F _ _ v hv (by omega) hr hr1 (2 * n) hrn with h2 | h2
      · have := bef_first F _ v z hz (by omega) hw2.2.2 hva _ h2
        omega
      · have := bef_first F _ v z hz (by omega) hw2.2.2 hva _ h2
        omega
    | k + 1, hk, hy =>
      rw [dAt_succ] at hy
      obtain ⟨y', hy', rfl⟩ := List.mem_map.1 hy
      change z ∈ nf (n :: y') at hz
      rw [nf] at hz
      obtain ⟨v, hv, hz⟩ := List.mem_flatMap.1 hz
      have hyw : y' ∈ dWord r := List.mem_flatMap.2 ⟨k, List.mem_range.2 (by simpa using hk), hy'⟩
      have hny : nonN y' := dAt_nonN hr hy'
      have ih := dif_first r y' v hr hr1 hyw hv
      have hvw := nf_word hv hny
      show hd z ≤ n
      rcases bef_first F _ v z hz hn hvw.2.2.1 hvw.2.2.2 (2 * n) (Int.le_trans ih hrn) with h2 | h2 <;> omega
where
  dAt_nonN {r y : List Int} {k : Nat} (hr : nonN r) (h : y ∈ dAt r k) : nonN y := by
    unfold dAt putAt at h
    obtain ⟨l, hl, hy⟩ := List.mem_flatMap.1 h
    rw [List.mem_singleton] at hy
    subst hy
    have h0 : 0 ≤ r[k]?.getD 0 := by
      cases e : r[k]? with
      | none => simp
      | some a => exact hr a (List.mem_of_getElem? e)
    have hg := (genW_mem hl h0).2.1
    intro a ha
    rcases List.mem_append.1 ha with ha | ha
    · rcases List.mem_append.1 ha with ha | ha
      · exact hr a (List.mem_of_mem_take ha)
      · exact hg a ha
    · exact hr a (List.mem_of_mem_drop ha)
theorem lw_in : ∀ (s n m : Nat) (z : List Int), z.length = s → nonN z → sumZ z = (n : Int) → admB z = true → (∀ a r, z = a :: r → a ≤ (m : Int)) → z ∈ lw s n m
  | 0, n, m, z, hl, _, hs, _, _ => by
    have : z = [] := List.eq_nil_of_length_eq_zero hl
    subst this
    have : n = 0 := by simp [sumZ] at hs; omega
    subst this
    simp [lw]
  | s + 1, n, m, z, hl, hn, hs, hadm, hm => by
    match z, hl with
    | a :: r, hl =>
      have ha := hn a (by simp)
      have hr : nonN r := fun y hy => hn y (List.mem_cons_of_mem _ hy)
      have h0 := sumZ_nonneg hr
      have hs' : a + sumZ r = n := hs
      have hma := hm a r rfl
      rw [lw]
      refine List.mem_flatMap.2 ⟨a.toNat, List.mem_range.2 (by omega), List.mem_map.2 ⟨r, ?_, by rw [Int.toNat_of_nonneg ha]⟩⟩
      refine lw_in s (n - a.toNat) (2 * a.toNat) r (by simpa using hl) hr (by omega) (adm_tail hadm) fun b t e => ?_
      subst e
      have := adm_hd hadm ha
      have : b ≤ 2 * a := this
      omega
theorem lw_out : ∀ (s n m : Nat) (z : List Int), z ∈ lw s n m → z.length = s ∧ nonN z ∧ sumZ z = (n : Int) ∧ admB z = true ∧ (∀ a r, z = a :: r → a ≤ (m : Int))
  | 0, n, m, z, h => by
    unfold lw at h
    split at h
    · rename_i h0
      have : z = [] := by simpa using h
      subst this; subst h0
      exact ⟨rfl, fun a ha => (by cases ha), rfl, rfl, fun a r e => (by cases e)⟩
    · cases h
  | s + 1, n, m, z, h => by
    rw [lw] at h
    obtain ⟨i, hi, hz⟩ := List.mem_flatMap.1 h
    obtain ⟨r, hr, rfl⟩ := List.mem_map.1 hz
    have hi := List.mem_range.1 hi
    obtain ⟨h1, h2, h3, h4, h5⟩ := lw_out s _ _ r hr
    refine ⟨by rw [List.length_cons, h1], fun a ha => ?_, ?_, ?_, fun a t e => ?_⟩
    · rcases List.mem_cons.1 ha with rfl | ha
      · omega
      · exact h2 a ha
    · show (i : Int) + sumZ r = n
      omega
    · match r, h4, h5 with
      | [], _, _ => rfl
      | b :: t, h4, h5 =>
        have := h5 b t rfl
        simp only [admB, Bool.and_eq_true, decide_eq_true_eq]
        exact ⟨by omega, h4⟩
    · injection e with e1 _
      omega
theorem asc_flat2 {F : Nat → Pol} (hF : ∀ n, Asc (F n)) (hlt : ∀ n m, n < m → ∀ x ∈ F n, ∀ y ∈ F m, ltL x y = true) : ∀ n, Asc ((List.range n).flatMap F) := by
  intro n
  induction n with
  | zero => exact List.Pairwise.nil
  | succ n ih =>
    rw [List.range_succ, List.flatMap_append]
    refine List.pairwise_append.2 ⟨ih, by have := hF n; simpa [Asc] using this, fun x hx y hy => ?_⟩
    obtain ⟨m, hm, hx⟩ := List.mem_flatMap.1 hx
    exact hlt m n (List.mem_range.1 hm) x hx y (by simpa using hy)
theorem lw_asc : ∀ s n m : Nat, Asc (lw s n m)
  | 0, n, m => by unfold lw; split <;> simp [Asc]
  | s + 1, n, m => by
    rw [lw]
    refine asc_flat2 (fun n => ?_) (fun n m hnm x hx y hy => ?_) _
    · refine List.Pairwise.map _ (fun x y h => ?_) (lw_asc s _ _)
      simpa [ltL, cmpL] using h
    · obtain ⟨u, _, rfl⟩ := List.mem_map.1 hx
      obtain ⟨v, _, rfl⟩ := List.mem_map.1 hy
      have : (n : Int) < (m : Int) := by omega
      simp [ltL, cmpL, this]
theorem lw_okW {s n m : Nat} (hs : s ≤ 7) (hn : n ≤ 11) {x : List Int} (h : x ∈ lw s n m) : okW x := by
  obtain ⟨h1, h2, h3, _⟩ := lw_out s n m x h
  exact ⟨by omega, h2, by omega⟩
/-- the differential of a word -/
def dW (x : List Int) : Pol := formL (dAll [x])
theorem dW_within {s n m : Nat} {x : List Int} (hs : s ≤ 6) (hn : n ≤ 11) (hx : x ∈ lw s (n + 1) m) : Within (lw (s + 1) n m) (dW x) := by
  obtain ⟨h1, h2, h3, h4, h5⟩ := lw_out s (n + 1) m x hx
  refine ⟨oddL_asc _, fun z hz => ?_⟩
  obtain ⟨y, hy, hz⟩ := List.mem_flatMap.1 (oddL_mem hz)
  have hy : y ∈ dWord x := by simpa [dAll] using hy
  obtain ⟨k, hk, hyk⟩ := dWord_mem hy
  have hny := dif_first.dAt_nonN h2 hyk
  have hsy : y.length = s + 1 ∧ sumZ y = (n : Int) := by
    unfold dAt putAt at hyk
    obtain ⟨l, hl, hyl⟩ := List.mem_flatMap.1 hyk
    rw [List.mem_singleton] at hyl
    have hxk : x[k]? = some x[k] := List.getElem?_eq_getElem hk
    rw [hxk] at hl
    have h0 : 0 ≤ x[k] := h2 _ (List.getElem_mem hk)
    obtain ⟨g1, g2, g3⟩ := genW_mem hl h0
    have hsum := sumZ_at hxk
    subst hyl
    refine ⟨?_, ?_⟩
    · simp only [List.length_append, List.length_take, List.length_drop, g1]; omega
    · rw [sumZ_append, sumZ_append, g3]
      simp only [Option.getD_some]
      omega
  obtain ⟨z1, z2, z3, z4⟩ := nf_word hz hny
  refine lw_in (s + 1) n m z (by rw [z1]; exact hsy.1) z3 (by rw [z2]; exact hsy.2) z4 fun a r e => ?_
  have hf := dif_first x y z h2 h4 hy hz
  subst e
  have hf : a ≤ hd x := hf
  match x, h5, hk with
  | b :: t, h5, _ =>
    have := h5 b t rfl
    have hf : a ≤ b := hf
    omega
theorem dW_zero {s m : Nat} {x : List Int} (hx : x ∈ lw s 0 m) : dW x = [] := by
  obtain ⟨h1, h2, h3, h4, h5⟩ := lw_out s 0 m x hx
  have hz : ∀ (x : List Int), nonN x → sumZ x = 0 → ∀ a ∈ x, a = 0 := by
    intro x
    induction x with
    | nil => intro _ _ a ha; cases ha
    | cons b t ih =>
      intro hn hs a ha
      have hb := hn b (by simp)
      have ht : nonN t := fun y hy => hn y (List.mem_cons_of_mem _ hy)
      have h0 := sumZ_nonneg ht
      have hs : b + sumZ t = 0 := hs
      rcases List.mem_cons.1 ha with rfl | ha
      · omega
      · exact ih ht (by omega) a ha
  have hd0 : dAll [x] = [] := by
    apply List.eq_nil_iff_forall_not_mem.2
    intro y hy
    have hy : y ∈ dWord x := by simpa [dAll] using hy
    obtain ⟨k, hk, hyk⟩ := dWord_mem hy
    unfold dAt putAt at hyk
    obtain ⟨l, hl, _⟩ := List.mem_flatMap.1 hyk
    have hxk : x[k]? = some x[k] := List.getElem?_eq_getElem hk
    have e0 : x[k] = 0 := hz x h2 (by simpa using h3) _ (List.getElem_mem hk)
    rw [hxk, e0] at hl
    simp only [Option.getD_some] at hl
    obtain ⟨j, j1, j2, _⟩ := genW_form hl (Int.le_refl 0)
    omega
  unfold dW
  rw [hd0]; rfl
end Go.Proofs.YtdgcgcodjddddaaDoor

/- spec.l16Row, l16Rows: rows of differentials, reduced by their first terms. -/
namespace Go.Proofs.YtdgcgcodjddddaaDoor
open Go.RowKit
set_option linter.unusedVariables false

theorem Tryd.info_r3 : (Tryd.prog.info? 22).map (fun i => (i.zero, i.size, i.bytes)) = some (some (.slice none 0 0), 1, 24) := by kernel_rfl
theorem eltR3 : Elt 52 22 24 := ⟨Tryd.underlying52, by obtain ⟨i, hi, hz, hs, hb⟩ := info_parts Tryd.info_r3; exact ⟨i, _, hi, hz, hs, hb, rfl⟩⟩
theorem redF_take {rows : List Pol} {t r : Pol} {k : Nat} (h : rows[k]? = some r) : redF (rows.take (k + 1)) t = (if firstT r ∈ redF (rows.take k) t then oddL (redF (rows.take k) t ++ r) else redF (rows.take k) t) := by
  rw [List.take_add_one, h]
  exact redF_snoc _ _ _
theorem Within.redF {M t : Pol} {rows : List Pol} (h : Within M t) (hr : ∀ r ∈ rows, Within M r) : Within M (redF rows t) := by
  induction rows generalizing t with
  | nil => exact h
  | cons r rs ih =>
    show Within M (Go.Proofs.YtdgcgcodjddddaaDoor.redF rs (if firstT r ∈ t then oddL (t ++ r) else t))
    refine ih ?_ fun q hq => hr q (List.mem_cons_of_mem _ hq)
    split
    · exact h.odd (hr r (by simp))
    · exact h
theorem firstT_at {r : Pol} (h : r ≠ []) : r[0]? = some (firstT r) := by
  match r, h with
  | x :: _, _ => rfl
theorem lw_small {s n m : Nat} (hs : s ≤ 7) (hn : n ≤ 11) : Small (lw s n m) := ⟨Nat.le_trans (asc_len (lw_asc s n m) fun x hx => lw_okW hs hn hx) (by omega), fun z hz => by rw [lw_each s n m z hz]; omega⟩
/-- lists of one's own from B on -/
def RetOw (B : Nat) (t : Pol) (w : World) (e : Ending) (w' : World) : Prop := ∃ A c, e = .returned (.slice A t.length c) ∧ OwnL w' B w'.heap.size A t.length c t ∧ Below w.heap.size w w'
theorem RetOw.mk {B : Nat} {t u : Pol} {A : Option Addr} {n c : Nat} {w w' : World} (h : OwnL w' B w'.heap.size A n c u) (e : u = t) (hb : Below w.heap.size w w') : RetOw B t w (.returned (.slice A n c)) w' := by
  subst e
  obtain rfl := h.len
  exact ⟨A, c, rfl, h, hb⟩
/-- a row of lists of lists is written: lists of one's own stay -/
theorem OwnL.grownT {w w' : World} {B K B2 n c n2 c2 : Nat} {A A2 : Option Addr} {xss : List (List Int)} {us : List Value} (h : OwnL w B K A n c xss) (hd : OwnV w B2 22 A2 n2 c2 us) (hg : w.grownBy w' (Value.ownBlock (.slice A2 n2 c2))) : OwnL w' B K A n c xss := by
  obtain ⟨vs, h1, h2, h3⟩ := h.rows
  refine ⟨h.len, vs, h1.grown hg fun ad had e => kinds_ne (by decide) (h1.kind ad.block (by subst had; rfl)) (hd.kind ad.block e.symm) rfl, fun j v xs hv hx => ?_, h3⟩
  exact (h2 j v xs hv hx).grown hg fun g hgb e => kinds_ne (by decide) ((h2 j v xs hv hx).kind g hgb) (hd.kind g e.symm) rfl
/-- cells that own lists of lists -/
def RowsO (w : World) (ps : List (Value × Pol)) : Prop := ∀ p ∈ ps, ∃ A n c B K, p.1 = .slice A n c ∧ OwnL w B K A n c p.2 ∧ K ≤ w.heap.size
theorem RowsO.below {w w' : World} {ps : List (Value × Pol)} (h : RowsO w ps) (hb : Below w.heap.size w w') : RowsO w' ps := fun p hp => by
  obtain ⟨A, n, c, B, K, e, ho, hk⟩ := h p hp
  exact ⟨A, n, c, B, K, e, ho.below hb, Nat.le_trans hk hb.size⟩
theorem RowsO.grownT {w w' : World} {ps : List (Value × Pol)} {B2 n2 c2 : Nat} {A2 : Option Addr} {us : List Value} (h : RowsO w ps) (hd : OwnV w B2 22 A2 n2 c2 us) (hg : w.grownBy w' (Value.ownBlock (.slice A2 n2 c2))) : RowsO w' ps := fun p hp => by
  obtain ⟨A, n, c, B, K, e, ho, hk⟩ := h p hp
  exact ⟨A, n, c, B, K, e, ho.grownT hd hg, Nat.le_trans hk hg.size⟩
theorem RowsO.t {w : World} {ps : List (Value × Pol)} (h : RowsO w ps) : RowsT w w.heap.size ps := fun p hp => by
  obtain ⟨A, n, c, B, K, e, ho, hk⟩ := h p hp
  exact ⟨A, n, c, e, ho.rd⟩
set_option maxRecDepth 100000 in
theorem row16_any (B : Nat) (M : Pol) (A At : Option Addr) (n c nt ct : Nat) (rows : List Pol) (t : Pol) (w : World) (hM : Small M) (h : RdC w w.heap.size A n c rows) (ht : OwnL w B w.heap.size At nt ct t) (hn : n ≤ 1000000)
    (hR : ∀ r ∈ rows, Within M r ∧ r ≠ []) (hT : Within M t) (hBw : B ≤ w.heap.size) : Calls Tryd.prog 33 #[.slice A n c, .slice At nt ct] w (RetOw B (redF rows t) w) := by
  have HRD := Lib.hid h
  have HL := Lib.hid h.len
  have HT0 := Lib.hid ht
  have HM := Lib.hid hM
  have HRW := Lib.hid hR
  have HTW := Lib.hid hT
  have HTl := Lib.hid ht.len
  have HBW := Lib.hid hBw
  obtain ⟨R, hRR⟩ : ∃ R, R = RetOw B (redF rows t) w := ⟨_, rfl⟩
  have HRR := Lib.hid hRR
  rw [← hRR]
  clear h ht hM hR hT hRR
  go_enter Tryd.func33, Tryd.ntmps33
  go_wp2_with fail
  go_loopw [1, 5] (fun o i wr => ∃ (k l c' : Nat) (A' : Option Addr) (u : Pol), k ≤ n ∧ i = .int .i64 k ∧ o = .slice A' l c' ∧ Hid (u = redF (rows.take k) t) ∧ Hid (OwnL wr B wr.heap.size A' l c' u) ∧ Hid (Below w.heap.size w wr)) (fun _ i _ => n - (intOf i).toNat)
  case atStart => exact ⟨0, nt, ct, At, t, Nat.zero_le _, rfl, rfl, Lib.hid (by rw [List.take_zero]; rfl), HT0, Lib.hid (Below.refl _ _)⟩
  case round =>
    obtain ⟨k, l, c', A', u, hk, rfl, rfl, HU, HO, HB⟩ := hrel
    by_cases hlt : k < n
    · obtain ⟨ad, A3, n3, c3, r, rfl, hbk, hr, hcr, hr3⟩ := (HRD.out.here HB.out).at_ hlt
      have hW := HRW.out r (List.mem_of_getElem? hr.out)
      have HW := Lib.hid hW
      have hUW : Within M u := by rw [HU.out]; exact HTW.out.redF fun q hq => (HRW.out q (List.mem_of_mem_take hq)).1
      have HUW := Lib.hid hUW
      have hrl : r.length = n3 := hr3.len
      have hn0 : 0 < n3 := by
        have : r.length ≠ 0 := fun e => hW.2 (List.eq_nil_of_length_eq_zero e)
        omega
      have hn3 : n3 ≤ 1000000 := by rw [← hrl]; exact hW.1.len HM.out
      have hul : l ≤ 1000000 := by rw [← HO.out.len]; exact hUW.len HM.out
      obtain ⟨ad2, A4, n4, c4, z, rfl, hbz, hz, hcz, hr4⟩ := hr3.at_ hn0
      have hc0 : wr.cell? ad2 = some (.slice A4 n4 c4) := by rw [← hcz, addr_add_zero]
      have hzl : z = firstT r := by
        have := firstT_at hW.2
        rw [hz.out] at this
        exact Option.some.inj this
      have HZ := Lib.hid hzl
      have hn4 : n4 ≤ 8 := by rw [← hr4.len]; exact HM.out.each z (hW.1.sub z (List.mem_of_getElem? hz.out))
      have C1 := Lib.hid (place_any A' A4 l c' n4 c4 _ _ u z wr HO.out.rd hr4 (by omega) (by omega) (fun y hy => Nat.le_trans (HM.out.each y (hUW.sub y hy)) (by omega)))
      have HR3 := Lib.hid hr3
      have HTK := Lib.hid (redF_take (t := t) hr.out)
      have HHB := Lib.hid hbk
      clear hW hUW hr3 hr4 hzl hrl hcz
      by_cases hin : z ∈ u
      · have HIN := Lib.hid hin
        rw [decide_eq_true hin] at C1
        clear hin
        go_wp2_with fail
        refine C1.out.mono ?_
        rintro e w1 ⟨p, rfl, hp, q, hq⟩
        have hb1 : Below wr.heap.size wr w1 := by rw [hq]; exact below_drewN (Below.refl _ _) q
        have hp0 : 0 ≤ p := by have := hp.out; simpa using this
        have hcr1 : w1.cell? (ad.add k) = some (.slice (some ad2) n3 c3) := (hb1.cell (by rw [block_of_add]; exact hbk)).trans hcr
        have C2 := Lib.hid (l01Sum_any A' (some ad2) l c' n3 c3 u r w1 (rdL_stay HO.out.rd hb1) (rdL_stay HR3.out hb1) (by omega) (by omega)
          (by have := HUW.out.total HM.out; omega) (by have := HW.out.1.total HM.out; omega) HUW.out.asc HW.out.1.asc)
        have HB1 := Lib.hid (HB.out.trans (hb1.mono HB.out.size))
        clear hq hb1
        go_wp2_with fail
        refine C2.out.mono ?_
        rintro e w2 ⟨A5, c5, rfl, ho5, hb5⟩
        have HB2 := Lib.hid (HB1.out.trans (hb5.mono HB1.out.size))
        have HO5 := Lib.hid (ho5.mono (B' := B) (by have := HBW.out; have := HB1.out.size; omega) (Nat.le_refl _))
        have HU5 := Lib.hid (show oddL (u ++ r) = redF (rows.take (k + 1)) t by rw [HTK.out, ← HU.out, ← HZ.out, if_pos HIN.out])
        clear ho5 hb5
        go_wp2_with fail
        go_roundw
        case rel => exact ⟨k + 1, _, _, _, _, by omega, by go_num, rfl, HU5, HO5, HB2⟩
        case measure => simp [intOf]; omega
      · have HIN := Lib.hid hin
        rw [decide_eq_false hin] at C1
        clear hin
        go_wp2_with fail
        refine C1.out.mono ?_
        rintro e w1 ⟨p, rfl, hp, q, hq⟩
        have hb1 : Below wr.heap.size wr w1 := by rw [hq]; exact below_drewN (Below.refl _ _) q
        have hp0 : ¬ 0 ≤ p := by have := hp.out; simpa using this
        have HB1 := Lib.hid (HB.out.trans (hb1.mono HB.out.size))
        have HO1 := Lib.hid ((HO.out.below hb1).mono (Nat.le_refl _) hb1.size)
        have HU5 := Lib.hid (show u = redF (rows.take (k + 1)) t by rw [HTK.out, ← HU.out, ← HZ.out, if_neg HIN.out])
        clear hq hb1
        go_wp2_with fail
        go_roundw
        case rel => exact ⟨k + 1, _, _, _, _, by omega, by go_num, rfl, HU5, HO1, HB1⟩
        case measure => simp [intOf]; omega
    · have hkn : k = n := by omega
      have HKN := Lib.hid hkn
      clear hkn
      go_wp2_with fail
      rw [HRR.out]
      exact RetOw.mk HO.out (by rw [HU.out, List.take_of_length_le (by rw [HL.out, HKN.out]; exact Nat.le_refl _)]) HB.out
/-- a call that answers rows that are only read -/
def RetRw (qs : List Pol) (w : World) (e : Ending) (w' : World) : Prop := ∃ A c, e = .returned (.slice A qs.length c) ∧ RdC w' w'.heap.size A qs.length c qs ∧ Below w.heap.size w w'
theorem rowsF_within {M : Pol} {ws : Pol} (h : ∀ x ∈ ws, Within M (dW x)) : ∀ r ∈ rowsF (ws.map dW), Within M r ∧ r ≠ [] := by
  have key : ∀ (gs rows : List Pol), (∀ g ∈ gs, Within M g) → (∀ r ∈ rows, Within M r ∧ r ≠ []) → ∀ r ∈ gs.foldl addF rows, Within M r ∧ r ≠ [] := by
    intro gs
    induction gs with
    | nil => exact fun _ _ h => h
    | cons g gs ih =>
      refine fun rows hg hr => ih _ (fun x hx => hg x (List.mem_cons_of_mem _ hx)) ?_
      unfold addF
      split
      · exact hr
      · rename_i hne
        intro r hr'
        rcases List.mem_append.1 hr' with hr' | hr'
        · exact hr r hr'
        · rw [List.mem_singleton.1 hr']
          exact ⟨(hg g (by simp)).redF fun q hq => (hr q hq).1, hne⟩
  exact key _ [] (fun g hg => by
    obtain ⟨x, hx, rfl⟩ := List.mem_map.1 hg
    exact h x hx) (fun r hr => by cases hr)
set_option maxRecDepth 100000 in
theorem rows16_any (M : Pol) (A : Option Addr) (n c : Nat) (ws : Pol) (w : World) (hM : Small M) (h : RdL w w.heap.size A n c ws) (hn : n ≤ 100000) (hw : ∀ x ∈ ws, okW x ∧ x.length ≤ 6) (hd : ∀ x ∈ ws, Within M (dW x)) :
    Calls Tryd.prog 34 #[.slice A n c] w (RetRw (rowsF (ws.map dW)) w) := by
  have H1 := Lib.hid h
  have HL := Lib.hid h.len
  have HM := Lib.hid hM
  have HW := Lib.hid hw
  have HD := Lib.hid hd
  obtain ⟨R, hRR⟩ : ∃ R, R = RetRw (rowsF (ws.map dW)) w := ⟨_, rfl⟩
  have HRR := Lib.hid hRR
  rw [← hRR]
  have hb0 : Below w.heap.size w (w.alloc (.cells #[] 22)) := (Below.refl w.heap.size w).alloc (Nat.le_refl _) _
  have HB0 := Lib.hid hb0
  have HV0 := Lib.hid (ownV_empty w w.heap.size 22 (Nat.le_refl _))
  clear h hM hw hd hRR hb0
  go_enter Tryd.func34, Tryd.ntmps34
  go_wp2_with fail
  go_loopw [3, 4] (fun o i wr => ∃ (k l c' : Nat) (A' : Option Addr) (ps : List (Value × Pol)), k ≤ n ∧ i = .int .i64 k ∧ o = .slice A' l c' ∧ l ≤ k ∧ Hid (ps.map (·.2) = rowsF ((ws.take k).map dW)) ∧ Hid (OwnV wr w.heap.size 22 A' l c' (ps.map (·.1))) ∧ Hid (RowsO wr ps) ∧ Hid (Below w.heap.size w wr)) (fun _ i _ => n - (intOf i).toNat)
  case atStart => exact ⟨0, 0, 0, _, [], Nat.zero_le _, rfl, rfl, Nat.le_refl _, Lib.hid (by rw [List.take_zero]; rfl), HV0, Lib.hid (fun p hp => by cases hp), HB0⟩
  case round =>
    clear HV0 HB0
    obtain ⟨k, l, c', A', ps, hk, rfl, rfl, hlk, HP, HV, HR, HB⟩ := hrel
    by_cases hlt : k < n
    · obtain ⟨ad, A3, n3, c3, x, rfl, hbx, hx, hcx, hr3⟩ := (rdL_stay H1.out HB.out).at_ hlt
      have hxw := HW.out x (List.mem_of_getElem? hx.out)
      have hxd := HD.out x (List.mem_of_getElem? hx.out)
      have D1 := Lib.hid (rdL_one hr3 (Nat.le_refl _))
      have hbs : Below wr.heap.size wr (wr.alloc (.cells #[.slice A3 n3 c3] 49)) := (Below.refl _ _).alloc (Nat.le_refl _) _
      have HBS := Lib.hid hbs
      have C1 := Lib.hid (sDif_any (some ⟨wr.heap.size, 0, none⟩) 1 1 _ [x] _ D1.out (Nat.le_refl _) (by omega) (fun y hy => by rw [List.mem_singleton.1 hy]; exact hxw))
      have eDW : formL (dAll [x]) = dW x := rfl
      rw [eDW] at C1
      obtain ⟨g, hg⟩ : ∃ g, g = dW x := ⟨_, rfl⟩
      rw [← hg] at C1 hxd
      have HGW := Lib.hid hxd
      obtain ⟨gl, hgl⟩ : ∃ gl, gl = g.length := ⟨_, rfl⟩
      rw [← hgl] at C1
      obtain ⟨rows, hrows⟩ : ∃ r, r = rowsF ((ws.take k).map dW) := ⟨_, rfl⟩
      rw [← hrows] at HP
      have HROW : Hid (∀ r ∈ rows, Within M r ∧ r ≠ []) := Lib.hid (by rw [hrows]; exact rowsF_within fun y hy => HD.out y (List.mem_of_mem_take hy))
      have HNX := Lib.hid (show rowsF ((ws.take (k + 1)).map dW) = addF rows g by
        rw [List.take_add_one, hx.out, List.map_append, hrows, hg]
        exact rowsF_snoc _ _)
      have HRC := Lib.hid (show RdC wr wr.heap.size A' l c' rows from ⟨ps, HP.out, HV.out.rd, HR.out.t⟩)
      clear hxw hxd hr3 hbs hg hgl hrows eDW
      go_wp2_with fail
      refine C1.out.mono ?_
      rintro e w2 ⟨A4, c4, rfl, ho4, hb4⟩
      have hb2 : Below wr.heap.size wr w2 := HBS.out.trans (hb4.mono HBS.out.size)
      have C2 := Lib.hid (row16_any wr.heap.size M A' A4 l c' gl c4 rows g w2 HM.out (HRC.out.here hb2) (ho4.mono HBS.out.size (Nat.le_refl _)) (by omega) HROW.out HGW.out hb2.size)
      obtain ⟨t, ht⟩ : ∃ t, t = redF rows g := ⟨_, rfl⟩
      rw [← ht] at C2
      have HT := Lib.hid ht
      obtain ⟨nt, hnt⟩ : ∃ nt, nt = t.length := ⟨_, rfl⟩
      have HNT := Lib.hid hnt
      have HB2 := Lib.hid hb2
      clear ht hnt ho4 hb4 hb2
      go_wp2_with fail
      refine C2.out.mono ?_
      rintro e w3 ⟨A5, c5, rfl, hr5, hb5⟩
      rw [← HNT.out] at hr5 ⊢
      have HB3 := Lib.hid (HB2.out.trans (hb5.mono HB2.out.size))
      have R5 := Lib.hid hr5
      have V3 := Lib.hid (HV.out.below HB3.out)
      have RT3 := Lib.hid (HR.out.below HB3.out)
      have BW3 := Lib.hid (HB.out.trans (HB3.out.mono HB.out.size))
      clear hr5 hb5
      by_cases hz : nt = 0
      · have HP3 := Lib.hid (show ps.map (·.2) = rowsF ((ws.take (k + 1)).map dW) by
          have h0 : t = [] := List.eq_nil_of_length_eq_zero (by rw [← HNT.out]; exact hz)
          rw [HNX.out, HP.out]
          unfold addF
          rw [if_pos (by rw [← HT.out]; exact h0)])
        subst hz
        go_wp2_with fail
        go_roundw
        case rel => exact ⟨k + 1, l, c', A', ps, by omega, by go_num, rfl, by omega, HP3, V3, RT3, BW3⟩
        case measure => simp [intOf]; omega
      · have hpos : 0 < nt := by omega
        have hpos2 : decide ((0 : Int) < nt) = true := decide_eq_true (by omega)
        have hba : Below w3.heap.size w3 (w3.alloc (.cells #[.slice A5 nt c5] 22)) := (Below.refl _ _).alloc (Nat.le_refl _) _
        have V4 := Lib.hid (V3.out.below hba)
        have N4 := Lib.hid (rdV_new w3 (.slice A5 nt c5) 22)
        have BW4 := Lib.hid (BW3.out.trans (hba.mono BW3.out.size))
        have Ba := Lib.hid hba
        have ONE := Lib.hid (show ∀ z ∈ [Value.slice A5 nt c5], z.oneCell' = true from fun z hz => by rw [List.mem_singleton.1 hz]; rfl)
        have HP3 := Lib.hid (show (ps ++ [(Value.slice A5 nt c5, t)]).map (·.2) = rowsF ((ws.take (k + 1)).map dW) by
          rw [HNX.out, List.map_append, HP.out]
          unfold addF
          rw [if_neg (by rw [← HT.out]; intro e; exact hz (by rw [HNT.out, e]; rfl)), ← HT.out]; rfl)
        clear hz hba
        go_wp2_with (at_builtin; refine wpList_appV eltR3 rfl (.tmp 24) (.tmp 26) rfl rfl rfl V4.out N4.out ONE.out (by omega) (by decide) BW4.out.size ?_; intro A6 c6 w6 hv6 hg6 _; have V6 := Lib.hid hv6; have G6 := Lib.hid hg6; clear hv6 hg6)
        have BW6 := Lib.hid (BW4.out.grown G6.out BW4.out.size V4.out.row)
        have V7 := Lib.hid (show OwnV w6 w.heap.size 22 A6 (l + 1) c6 ((ps ++ [(Value.slice A5 nt c5, t)]).map (·.1)) from by simpa using V6.out)
        have RT6 : Hid (RowsO w6 (ps ++ [(Value.slice A5 nt c5, t)])) := Lib.hid (by
          refine RowsO.grownT (fun p hp => ?_) V4.out G6.out
          rcases List.mem_append.1 hp with hp | hp
          · exact RT3.out.below Ba.out p hp
          · rw [List.mem_singleton.1 hp]
            exact ⟨_, _, _, _, _, rfl, R5.out.below Ba.out, Ba.out.size⟩)
        go_wp2_with fail
        go_roundw
        case rel => exact ⟨k + 1, l + 1, c6, A6, _, by omega, by go_num, rfl, by omega, HP3, V7, RT6, BW6⟩
        case measure => simp [intOf]; omega
    · have HKN := Lib.hid (show k = n by omega)
      go_wp2_with fail
      rw [HRR.out]
      have e : ps.map (·.2) = rowsF (ws.map dW) := by rw [HP.out, List.take_of_length_le (by rw [HL.out, HKN.out]; exact Nat.le_refl _)]
      have hl : l = (rowsF (ws.map dW)).length := by
        rw [← e, List.length_map]
        have := HV.out.len
        rw [List.length_map] at this
        exact this.symm
      subst hl
      exact ⟨A', c', rfl, ⟨ps, e, HV.out.rd, HR.out.t⟩, HB.out⟩
end Go.Proofs.YtdgcgcodjddddaaDoor
