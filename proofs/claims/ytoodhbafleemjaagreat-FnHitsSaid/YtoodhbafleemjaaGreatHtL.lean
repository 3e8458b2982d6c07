/- Plain: what FnHits says: hits by masks, the finite check, normal forms. -/
import Derived.Test.YtoodhbafleemjaaGreatKmp
import Derived.Test.YtoodhbafleemjaaGreatPut
import Derived.Test.YtoodhbafleemjaaGreatPush
namespace Go.Proofs.YtoodhbafleemjaaGreat
open Go.RowKit
set_option linter.unusedVariables false

/-! ### rows by their greatest terms, as masks -/
def redN (R : List Nat) (t : Nat) : Nat := R.foldl (fun t r => if t.testBit (Nat.log2 r) = true then t ^^^ r else t) t
def putN (x : Nat) : List Nat → List Nat
  | [] => [x]
  | r :: rs => if Nat.log2 x < Nat.log2 r then r :: putN x rs else x :: r :: rs
def addN (R : List Nat) (g : Nat) : List Nat := if redN R g = 0 then R else putN (redN R g) R
def rowsN (gs : List Nat) : List Nat := gs.foldl addN []
theorem log2_of {v i : Nat} (h : v.testBit i = true) (h0 : ∀ j, i < j → v.testBit j = false) : Nat.log2 v = i := by
  have h1 : 2 ^ i ≤ v := Nat.ge_two_pow_of_testBit h
  have h2 : v < 2 ^ (i + 1) := by
    apply Nat.lt_pow_two_of_testBit
    intro j hj
    exact h0 j (by omega)
  have hv : v ≠ 0 := by have := Nat.two_pow_pos i; omega
  exact (Nat.log2_eq_iff hv).2 ⟨h1, h2⟩
theorem RowM.log {M r : Pol} {v : Nat} (hM : Asc M) (h : RowM M r v) : M[Nat.log2 v]? = some (lastL r) := by
  obtain ⟨i, hi⟩ := List.mem_iff_getElem?.1 (h.sub (lastL r) (lastL_mem h.ne))
  have h1 := h.mask.top hM h.asc h.ne hi
  rw [log2_of h1.1 h1.2]; exact hi
theorem redN_mask {M : Pol} (hM : Asc M) : ∀ {rows : List Pol} {R : List Nat} {t : Pol} {w : Nat}, MaskR M rows R → Asc t → (∀ z ∈ t, z ∈ M) → IsMask M t w →
    Asc (redT rows t) ∧ (∀ z ∈ redT rows t, z ∈ M) ∧ IsMask M (redT rows t) (redN R w)
  | [], [], t, w, _, ht, hs, hw => ⟨ht, hs, hw⟩
  | r :: rs, v :: vs, t, w, h, ht, hs, hw => by
    have hl := h.1.log hM
    have hb := hw.at_ hl
    show Asc (redT rs (if lastL r ∈ t then oddL (t ++ r) else t)) ∧ (∀ z ∈ redT rs (if lastL r ∈ t then oddL (t ++ r) else t), z ∈ M) ∧ IsMask M (redT rs (if lastL r ∈ t then oddL (t ++ r) else t)) (redN vs (if w.testBit (Nat.log2 v) = true then w ^^^ v else w))
    by_cases hm : lastL r ∈ t
    · rw [if_pos hm, if_pos (hb.2 hm)]
      refine redN_mask hM h.2 (oddL_asc _) (fun z hz => ?_) (hw.sum ht h.1.asc h.1.mask)
      rcases List.mem_append.1 (oddL_mem hz) with hz | hz
      · exact hs z hz
      · exact h.1.sub z hz
    · rw [if_neg hm, if_neg fun e => hm (hb.1 e)]
      exact redN_mask hM h.2 ht hs hw
theorem putN_mask {M : Pol} (hM : Asc M) {x : Pol} {v : Nat} (hx : RowM M x v) : ∀ {rows : List Pol} {R : List Nat}, MaskR M rows R → MaskR M (putR x rows) (putN v R)
  | [], [], h => ⟨hx, trivial⟩
  | r :: rs, u :: us, h => by
    have h1 := place_lt hM (hx.log hM) (h.1.log hM)
    rw [putR, putN]
    by_cases hl : ltL (lastL x) (lastL r) = true
    · rw [if_pos hl, if_pos (h1.2 hl)]
      exact ⟨h.1, putN_mask hM hx h.2⟩
    · rw [if_neg hl, if_neg fun e => hl (h1.1 e)]
      exact ⟨hx, h⟩
theorem addN_mask {M : Pol} (hM : Asc M) {rows : List Pol} {R : List Nat} {g : Pol} {w : Nat} (h : MaskR M rows R) (hg : Asc g) (hs : ∀ z ∈ g, z ∈ M) (hw : IsMask M g w) : MaskR M (addR rows g) (addN R w) := by
  obtain ⟨h1, h2, h3⟩ := redN_mask hM h hg hs hw
  have hz := h3.zero h2
  unfold addR addN
  by_cases h0 : redT rows g = []
  · rw [if_pos h0, if_pos (hz.2 h0)]; exact h
  · rw [if_neg h0, if_neg fun e => h0 (hz.1 e)]
    exact putN_mask hM ⟨h1, h0, h2, h3⟩ h
/-- the masks of terms -/
def MaskP (M : Pol) : List Pol → List Nat → Prop
  | [], [] => True
  | r :: rs, v :: vs => (Asc r ∧ (∀ z ∈ r, z ∈ M) ∧ IsMask M r v) ∧ MaskP M rs vs
  | _, _ => False
theorem rowsN_mask {M : Pol} (hM : Asc M) {gs : List Pol} {ns : List Nat} (h : MaskP M gs ns) : MaskR M (rowsP gs) (rowsN ns) := by
  have key : ∀ (gs rows : List Pol) (ns R : List Nat), MaskP M gs ns → MaskR M rows R → MaskR M (gs.foldl addR rows) (ns.foldl addN R) := by
    intro gs
    induction gs with
    | nil =>
      intro rows ns R h k
      match ns, h with
      | [], _ => exact k
    | cons g gs ih =>
      intro rows ns R h k
      match ns, h with
      | n :: ms, h => exact ih _ ms _ h.2 (addN_mask hM k h.1.1 h.1.2.1 h.1.2.2)
  exact key gs [] ns [] h trivial
theorem MaskP.app {M : Pol} : ∀ {gs hs : List Pol} {ns ms : List Nat}, MaskP M gs ns → MaskP M hs ms → MaskP M (gs ++ hs) (ns ++ ms)
  | [], _, [], _, _, h => h
  | g :: gs, _, n :: ns, _, h, k => ⟨h.1, MaskP.app h.2 k⟩
theorem MaskP.flat {M : Pol} (F : Nat → List Pol) (G : Nat → List Nat) : ∀ {L : List Nat}, (∀ j ∈ L, MaskP M (F j) (G j)) → MaskP M (L.flatMap F) (L.flatMap G)
  | [], _ => trivial
  | j :: L, h => by
    rw [List.flatMap_cons, List.flatMap_cons]
    exact (h j (by simp)).app (MaskP.flat F G fun x hx => h x (List.mem_cons_of_mem _ hx))
theorem MaskP.map {M : Pol} (f : List Int → Pol) (g : List Int → Nat) : ∀ {L : Pol}, (∀ x ∈ L, Asc (f x) ∧ (∀ z ∈ f x, z ∈ M) ∧ IsMask M (f x) (g x)) → MaskP M (L.map f) (L.map g)
  | [], _ => trivial
  | x :: L, h => ⟨h x (by simp), MaskP.map f g fun y hy => h y (List.mem_cons_of_mem _ hy)⟩

/-! ### the place of a monomial, and the masks of the generators -/
def idxM (z : List Int) : Pol → Nat
  | [] => 0
  | x :: M => if x = z then 0 else idxM z M + 1
theorem idxM_at {z : List Int} : ∀ {M : Pol}, z ∈ M → M[idxM z M]? = some z
  | [], h => by cases h
  | x :: M, h => by
    rw [idxM]
    by_cases e : x = z
    · rw [if_pos e]; simp [e]
    · rw [if_neg e, List.getElem?_cons_succ]
      exact idxM_at ((List.mem_cons.1 h).resolve_left fun h => e h.symm)
def mkN (M : Pol) : Pol → Nat
  | [] => 0
  | z :: l => mkN M l ^^^ 2 ^ idxM z M
theorem mkN_mask {M : Pol} (hM : Asc M) : ∀ {l : Pol}, (∀ z ∈ l, z ∈ M) → IsMask M (oddL l) (mkN M l)
  | [], _ => IsMask.nil
  | z :: l, h => by
    have ih := mkN_mask hM (l := l) fun y hy => h y (List.mem_cons_of_mem _ hy)
    have hz := idxM_at (h z (by simp))
    have h1 := ih.sum (oddL_asc l) (by simp [Asc]) (IsMask.single hM hz)
    have e : oddL (oddL l ++ [z]) = oddL (z :: l) := asc_same (oddL_asc _) (oddL_asc _) fun y => by
      have a1 := oddL_same (oddL l ++ [z]) y
      have a2 := oddL_same (z :: l) y
      have a3 := oddL_same l y
      rw [List.count_append] at a1
      rw [List.count_cons] at a2
      rw [List.count_cons, List.count_nil] at a1
      omega
    rw [e] at h1
    exact h1
def genN (M : Pol) (k d : Nat) : List Nat := (List.range (hitJ d)).flatMap fun j => (mons k (d - 2 ^ j)).map fun x => mkN M (sqP [x] ((2 ^ j : Nat) : Int))
theorem genN_mask {k d : Nat} : MaskP (mons k d) (gensTo k d (hitJ d)) (genN (mons k d) k d) := by
  unfold gensTo genN
  refine MaskP.flat _ _ fun j hj => ?_
  have hj2 : 2 ^ j ≤ d := hitJ_le (List.mem_range.1 hj)
  unfold sqG
  refine MaskP.map _ _ fun x hx => ?_
  obtain ⟨x0, x1, x2⟩ := (mons_mem k _ x).1 hx
  have hs : ∀ z ∈ sqP [x] ((2 ^ j : Nat) : Int), z ∈ mons k d := fun z hz => by
    have h1 := sqP_deg (k := k + 1) (d := ((d - 2 ^ j : Nat) : Int)) (i := ((2 ^ j : Nat) : Int)) (xss := [x]) (fun y hy => by rw [List.mem_singleton.1 hy]; exact ⟨x0, x1, x2⟩) z hz
    refine (mons_mem k d z).2 ?_
    have e : ((d - 2 ^ j : Nat) : Int) + ((2 ^ j : Nat) : Int) = (d : Int) := by omega
    rw [e] at h1
    exact h1
  refine ⟨oddL_asc _, fun z hz => hs z (oddL_mem hz), mkN_mask (mons_asc k d) hs⟩
/-- the rows of a degree by their masks -/
def hitN (k d : Nat) : List Nat := rowsN (genN (mons k d) k d)
theorem hitN_mask (k d : Nat) : MaskR (mons k d) (hitR k d) (hitN k d) := rowsN_mask (mons_asc k d) genN_mask
theorem hitN_len (k d : Nat) : (hitR k d).length = (hitN k d).length := (hitN_mask k d).len

/-! ### what is not a greatest term -/
def topL (k d : Nat) : Pol := (hitR k d).map lastL
def cohL (k d : Nat) : Pol := (mons k d).filter fun z => decide (z ∉ topL k d)
def spkB (z : List Int) : Bool := z.all fun n => n.toNat &&& (n.toNat + 1) == 0
def spkL (k d : Nat) : Pol := (mons k d).filter spkB
theorem hit_ok (k d : Nat) : RowsOk (hitR k d) := rowsP_ok _ gens_asc
theorem filter_two {α : Type} (p : α → Bool) : ∀ M : List α, (M.filter p).length + (M.filter fun x => !p x).length = M.length
  | [] => rfl
  | x :: M => by
    have ih := filter_two p M
    rw [List.filter_cons, List.filter_cons, List.length_cons]
    cases p x <;> simp <;> omega
theorem hit_sub (k d : Nat) : ∀ r ∈ hitR k d, ∀ z ∈ r, z ∈ mons k d := rows_sub _ fun g hg => (gensTo_sub (fun j hj => hitJ_le hj) g hg).2
theorem coh_len (k d : Nat) : (cohL k d).length + (hitR k d).length = (mons k d).length := by
  have hok := hit_ok k d
  have hA : Asc (topL k d).reverse := by
    unfold Asc topL
    rw [List.pairwise_reverse, List.pairwise_map]
    exact hok.desc
  have hsub : ∀ z ∈ topL k d, z ∈ mons k d := fun z hz => by
    obtain ⟨r, hr, rfl⟩ := List.mem_map.1 hz
    exact hit_sub k d r hr _ (lastL_mem (hok.each r hr).2)
  have e : (mons k d).filter (fun z => !decide (z ∉ topL k d)) = (topL k d).reverse := asc_ext (List.Pairwise.filter _ (mons_asc k d)) hA fun z => by
    rw [List.mem_filter, List.mem_reverse]
    simp only [Bool.not_eq_true', decide_eq_false_iff_not, Classical.not_not]
    exact ⟨fun h => h.2, fun h => ⟨hsub z h, h⟩⟩
  have h2 := filter_two (fun z => decide (z ∉ topL k d)) (mons k d)
  rw [e, List.length_reverse] at h2
  unfold topL at h2
  rw [List.length_map] at h2
  exact h2
theorem MaskR.tops {M : Pol} (hM : Asc M) {z : List Int} {i : Nat} (hi : M[i]? = some z) : ∀ {rows : List Pol} {R : List Nat}, MaskR M rows R → (z ∈ rows.map lastL ↔ i ∈ R.map Nat.log2)
  | [], [], _ => by simp
  | r :: rs, v :: vs, h => by
    rw [List.map_cons, List.map_cons, List.mem_cons, List.mem_cons, MaskR.tops hM hi h.2]
    have hl := h.1.log hM
    have e : z = lastL r ↔ i = Nat.log2 v := by
      constructor
      · rintro rfl; exact place_inj hM hi hl
      · rintro rfl; rw [hi] at hl; exact Option.some.inj hl
    rw [e]

/-! ### the finite check -/
def popN (n : Nat) : Nat := ((List.range 12).filter fun i => n.testBit i).length
def lsN (d : Nat) : Nat := ((List.range 64).find? fun s => decide (popN (d + s) ≤ s)).getD 0
def dimN (k d : Nat) : Nat := (mons k d).length - (hitN k d).length
def spkC : Nat → List Nat → Pol → Bool
  | _, _, [] => true
  | i, T, z :: M => (!spkB z || !T.contains i) && spkC (i + 1) T M
def chkH (k d : Nat) : Bool := (decide (dimN k d = 0) == decide (k + 1 < lsN d)) && spkC 0 ((hitN k d).map Nat.log2) (mons k d) && (if lsN d = k + 1 ∧ k + 1 < d then dimN k ((d - (k + 1)) / 2) == dimN k d else true)
theorem spkC_at : ∀ {M : Pol} {i : Nat} {T : List Nat}, spkC i T M = true → ∀ j z, M[j]? = some z → spkB z = true → (i + j) ∉ T
  | [], _, _, _, j, z, hz, _ => by simp at hz
  | x :: M, i, T, h, j, z, hz, hs => by
    rw [spkC, Bool.and_eq_true] at h
    cases j with
    | zero =>
      obtain rfl : x = z := by simpa using hz
      have h1 := h.1
      rw [hs] at h1
      simpa using h1
    | succ j =>
      have := spkC_at h.2 j z (by simpa using hz) hs
      rwa [show i + 1 + j = i + (j + 1) from by omega] at this
theorem chk0 : ∀ d, d < 41 → chkH 0 d = true := by decide +kernel
theorem chk1 : ∀ d, d < 41 → chkH 1 d = true := by decide +kernel
theorem chk2 : ∀ d, d < 13 → chkH 2 d = true := by decide +kernel
theorem chk3 : ∀ d, d < 7 → chkH 3 d = true := by decide +kernel

end Go.Proofs.YtoodhbafleemjaaGreat

/- What the functions on hits answer. -/
namespace Go.Proofs.YtoodhbafleemjaaGreat
open Go.RowKit
set_option linter.unusedVariables false

/-! ### what the functions answer -/
def cdO (v dd : Int) : Int := if inB v 1 4 = true ∧ inB dd 0 40 = true then (if 100 < (mons (v.toNat - 1) dd.toNat).length then 3 else 0) else 2
theorem cdO_bad {v dd : Int} (h : ¬ (inB v 1 4 = true ∧ inB dd 0 40 = true)) : cdO v dd = 2 := if_neg h
/-- the three ways of a number of variables and a degree -/
structure CdK (v dd : Int) (k d : Nat) : Prop where
  ev : v = (k : Int) + 1
  ed : dd = (d : Int)
  k3 : k ≤ 3
  d40 : d ≤ 40
  in1 : inB v 1 4 = true
  in2 : inB dd 0 40 = true
  kt : v.toNat - 1 = k
  dt : dd.toNat = d
theorem cdK_of {v dd : Int} (h1 : inB v 1 4 = true) (h2 : inB dd 0 40 = true) : ∃ k d, CdK v dd k d := by
  have a := inB_iff.1 h1
  have b := inB_iff.1 h2
  exact ⟨v.toNat - 1, dd.toNat, by omega, by omega, by omega, by omega, h1, h2, rfl, rfl⟩
theorem CdK.cd {v dd : Int} {k d : Nat} (h : CdK v dd k d) : cdO v dd = if 100 < (mons k d).length then 3 else 0 := by
  unfold cdO
  rw [if_pos ⟨h.in1, h.in2⟩, h.kt, h.dt]
theorem CdK.lim {v dd : Int} {k d : Nat} (h : CdK v dd k d) (hl : 100 < (mons k d).length) : cdO v dd = 3 := by rw [h.cd, if_pos hl]
theorem CdK.ok {v dd : Int} {k d : Nat} (h : CdK v dd k d) (hl : ¬ 100 < (mons k d).length) : cdO v dd = 0 := by rw [h.cd, if_neg hl]
theorem cdK_zero {v dd : Int} (h : cdO v dd = 0) : ∃ k d, CdK v dd k d ∧ (mons k d).length ≤ 100 := by
  by_cases h1 : inB v 1 4 = true ∧ inB dd 0 40 = true
  · obtain ⟨k, d, hk⟩ := cdK_of h1.1 h1.2
    refine ⟨k, d, hk, ?_⟩
    rw [hk.cd] at h
    split at h
    · cases h
    · omega
  · rw [cdO_bad h1] at h; cases h
def hdO (v dd : Int) : Int := if cdO v dd = 0 then ((hitR (v.toNat - 1) dd.toNat).length : Int) else 0
def chO (v dd : Int) : Int := if cdO v dd = 0 then ((cohL (v.toNat - 1) dd.toNat).length : Int) else 0
def adO (v dd : Int) : Pol := if cdO v dd = 0 then cohL (v.toNat - 1) dd.toNat else []
def spO (v dd : Int) : Pol := if cdO v dd = 0 then spkL (v.toNat - 1) dd.toNat else []
theorem CdK.hd {v dd : Int} {k d : Nat} (h : CdK v dd k d) (hl : ¬ 100 < (mons k d).length) : hdO v dd = ((hitR k d).length : Int) := by unfold hdO; rw [if_pos (h.ok hl), h.kt, h.dt]
theorem CdK.ch {v dd : Int} {k d : Nat} (h : CdK v dd k d) (hl : ¬ 100 < (mons k d).length) : chO v dd = ((cohL k d).length : Int) := by unfold chO; rw [if_pos (h.ok hl), h.kt, h.dt]
theorem CdK.ad {v dd : Int} {k d : Nat} (h : CdK v dd k d) (hl : ¬ 100 < (mons k d).length) : adO v dd = cohL k d := by unfold adO; rw [if_pos (h.ok hl), h.kt, h.dt]
theorem CdK.sp {v dd : Int} {k d : Nat} (h : CdK v dd k d) (hl : ¬ 100 < (mons k d).length) : spO v dd = spkL k d := by unfold spO; rw [if_pos (h.ok hl), h.kt, h.dt]
theorem hdO_no {v dd : Int} (h : cdO v dd ≠ 0) : hdO v dd = 0 := if_neg h
theorem chO_no {v dd : Int} (h : cdO v dd ≠ 0) : chO v dd = 0 := if_neg h
theorem adO_no {v dd : Int} (h : cdO v dd ≠ 0) : adO v dd = [] := if_neg h
theorem spO_no {v dd : Int} (h : cdO v dd ≠ 0) : spO v dd = [] := if_neg h
/-- lists that are only read, and a code -/
def RetLK (zs : Pol) (k : Int) (w : World) (e : Ending) (w' : World) : Prop := ∃ A c, e = .returned (.tuple #[.slice A zs.length c, .int .i64 k]) ∧ RdL w' w'.heap.size A zs.length c zs ∧ Below w.heap.size w w'
theorem RetLK.mk {t u : Pol} {A : Option Addr} {n c : Nat} {k k' : Int} {w w' : World} (h : RdL w' w'.heap.size A n c u) (e : u = t) (hk : k' = k) (hb : Below w.heap.size w w') : RetLK t k w (.returned (.tuple #[.slice A n c, .int .i64 k'])) w' := by
  subst e; subst hk
  obtain rfl := h.len
  exact ⟨A, c, rfl, h, hb⟩
/-- some of the rows of a slice, as values -/
def RowsV (w : World) (B : Nat) (ps : List (Value × List Int)) : Prop := ∀ p ∈ ps, RdVal w B p.1 p.2
theorem RowsV.below {w w' : World} {B : Nat} {ps : List (Value × List Int)} (h : RowsV w B ps) (hb : Below B w w') : RowsV w' B ps := fun p hp => (h p hp).below hb
theorem RowsV.mono {w : World} {B B' : Nat} {ps : List (Value × List Int)} (h : RowsV w B ps) (hb : B ≤ B') : RowsV w B' ps := fun p hp => (h p hp).mono hb
theorem RowsV.here {w w' : World} {ps : List (Value × List Int)} (h : RowsV w w.heap.size ps) (hb : Below w.heap.size w w') : RowsV w' w'.heap.size ps := (h.below hb).mono hb.size
theorem RdL.vals {w : World} {B : Nat} {A : Option Addr} {n c : Nat} {xss : Pol} (h : RdL w B A n c xss) : ∃ ps : List (Value × List Int), ps.map (·.2) = xss ∧ RdV w B A n c (ps.map (·.1)) ∧ RowsV w B ps := by
  obtain ⟨vs, h1, h2⟩ := h.rows
  have hl : vs.length = xss.length := by rw [h1.len, h.len]
  refine ⟨vs.zip xss, List.map_snd_zip (by omega), by rw [List.map_fst_zip (by omega)]; exact h1, fun p hp => ?_⟩
  obtain ⟨j, hj⟩ := List.mem_iff_getElem?.1 hp
  rw [List.getElem?_zip_eq_some] at hj
  exact h2 j p.1 p.2 hj.1 hj.2
theorem rdL_vals {w : World} {B : Nat} {A : Option Addr} {n c : Nat} {ps : List (Value × List Int)} (h1 : RdV w B A n c (ps.map (·.1))) (h2 : RowsV w B ps) : RdL w B A n c (ps.map (·.2)) :=
  ⟨by have := h1.len; simpa using this, _, h1, fun j v xs hv hx => by
    rw [List.getElem?_map, Option.map_eq_some_iff] at hv hx
    obtain ⟨p, hp, rfl⟩ := hv
    obtain ⟨q, hq, rfl⟩ := hx
    rw [hp] at hq
    obtain rfl := Option.some.inj hq
    exact h2 p (List.mem_of_getElem? hp)⟩
theorem ownV_start {w : World} {B : Nat} (hB : B ≤ w.heap.size) : OwnV (w.alloc (.cells #[] 41)) B 41 (some ⟨w.heap.size, 0, none⟩) 0 0 [] := by
  obtain ⟨ps, h1, h2, _⟩ := (StL.start (Below.refl w.heap.size w) (Nat.le_refl _)).own.pairs
  have : ps = [] := by simpa using h2
  subst this
  exact h1.mono hB
/-- a monomial is a spike: the reference's test -/
theorem spk_bit {n : Int} (h0 : 0 ≤ n) (h1 : n ≤ 40) : (bits .and .i64 n (n + 1) == 0) = (n.toNat &&& (n.toNat + 1) == 0) := by
  obtain ⟨m, rfl⟩ : ∃ m : Nat, n = m := ⟨n.toNat, by omega⟩
  have hm : m < 41 := by omega
  rw [Int.toNat_natCast]
  clear h0 h1
  revert m
  decide +kernel
theorem mons_pos {k d : Nat} (hd : d ≤ 40) : ∀ x ∈ mons k d, x.length = k + 1 ∧ ∀ z ∈ x, 0 ≤ z ∧ z ≤ 40 := fun x hx => by
  obtain ⟨x0, x1, x2⟩ := (mons_mem k d x).1 hx
  exact ⟨x2, fun z hz => ⟨x0 z hz, by have := sum_ge_mem x0 z hz; omega⟩⟩
end Go.Proofs.YtoodhbafleemjaaGreat
