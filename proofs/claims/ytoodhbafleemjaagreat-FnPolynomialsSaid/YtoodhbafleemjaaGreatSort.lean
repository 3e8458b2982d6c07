/- slices.SortFunc over lists of lists, by slices.Compare: from the library's contract. -/
import Derived.Test.YtoodhbafleemjaaGreatOwnR
import Derived.Test.YtoodhbafleemjaaGreatShelf
import Derived.Test.YtoodhbafleemjaaGreatMid
namespace Go.Proofs.YtoodhbafleemjaaGreat
open Go.RowKit
set_option linter.unusedVariables false

theorem val_pmap {α : Type} {p : α → Prop} (l : List α) (H : ∀ a ∈ l, p a) : (l.pmap (fun a h => (⟨a, h⟩ : {a // p a})) H).map (·.1) = l := by
  induction l with
  | nil => rfl
  | cons a l ih => simp [List.pmap, ih]

/-- a list's value with what it reads as, at a world -/
def Row (w : World) (BR : Nat) : Type := {p : Value × List Int // RdVal w BR p.1 p.2 ∧ p.2.length ≤ 1000000000000}
instance (w : World) (BR : Nat) : Inhabited (Row w BR) := ⟨⟨(.slice none 0 0, []), ⟨none, 0, 0, rfl, RdS.nil⟩, by simp⟩⟩
def Row.enc {w : World} {BR : Nat} (x : Row w BR) : Value := x.1.1
def Row.cmp {w : World} {BR : Nat} (x y : Row w BR) : Int := cmpL x.1.2 y.1.2
theorem Row.lt {w : World} {BR : Nat} (x y : Row w BR) : ltOf Row.cmp x y = ltL x.1.2 y.1.2 := rfl
theorem row_swo (w : World) (BR : Nat) : Sort.SWO (ltOf (Row.cmp (w := w) (BR := BR))) where
  irrefl x := by rw [Row.lt]; exact ltL_irrefl _
  trans x y z h1 h2 := by rw [Row.lt] at *; exact ltL_trans h1 h2
  ntrans x y z h1 h2 := by
    rw [Row.lt] at *
    cases h : ltL x.1.2 z.1.2
    · rfl
    · rcases ltL_tri y.1.2 z.1.2 with h3 | h3 | h3
      · rw [h3] at h2; cases h2
      · rw [h3] at h1; rw [h1] at h; cases h
      · have := ltL_trans h h3; rw [h1] at this; cases this

theorem sortWorld_below {w : World} {BR : Nat} (g m : Nat) (dk : Array (Row w BR)) (os : Array Obj) (hg : g < w.heap.size) : Below g w (sortWorld Row.enc w g 0 m dk os) := by
  refine ⟨rfl, rfl, rfl, by simp [sortWorld, Sort.grow, Sort.putRow, Sort.mapBlock, Sort.ahead], fun k hk => ?_⟩
  simp only [sortWorld, Sort.grow, Sort.putRow, Sort.mapBlock, Sort.ahead]
  rw [Array.getElem?_append_left (by simp; omega), Array.getElem?_modify, if_neg (by omega)]
theorem sortWorld_other {w : World} {BR : Nat} (g m : Nat) (dk : Array (Row w BR)) (os : Array Obj) {k : Nat} (hk : k < w.heap.size) (hne : k ≠ g) : (sortWorld Row.enc w g 0 m dk os).heap[k]? = w.heap[k]? := by
  simp only [sortWorld, Sort.grow, Sort.putRow, Sort.mapBlock, Sort.ahead]
  rw [Array.getElem?_append_left (by simpa using hk), Array.getElem?_modify, if_neg (by omega)]
theorem sortWorld_at {w : World} {BR : Nat} (g m : Nat) (dk : Array (Row w BR)) (os : Array Obj) {cur : Array Value} {E : Nat} (hg : w.heap[g]? = some (.cells cur E (0, 0))) :
    (sortWorld Row.enc w g 0 m dk os).heap[g]? = some (.cells (Sort.putCells Row.enc 0 dk cur) E (0, 0)) := by
  have hlt : g < w.heap.size := (Array.getElem?_eq_some_iff.1 hg).1
  simp only [sortWorld, Sort.grow, Sort.putRow, Sort.mapBlock, Sort.ahead]
  rw [Array.getElem?_append_left (by simpa using hlt), Array.getElem?_modify, if_pos rfl, hg]
  rfl

/-- The sort's end: the row is owned as before, and holds the lists in order. -/
def RetSort (B BR : Nat) (A : Option Addr) (n c : Nat) (xss : List (List Int)) (w : World) (e : Ending) (w' : World) : Prop :=
  ∃ yss, e = .returned (.tuple #[]) ∧ yss.Perm xss ∧ (yss.Pairwise fun a b => ltL b a = false) ∧ OwnR w' B BR A n c yss ∧ w.grownBy w' (Value.ownBlock (.slice A n c))

theorem sortL_any (A : Option Addr) (n c B BR : Nat) (xss : List (List Int)) (w : World) (h : OwnR w B BR A n c xss) (hBR : BR ≤ B) (hn : n ≤ 1000000000000) (hx : ∀ x ∈ xss, x.length ≤ 1000000000000) :
    Calls Tryz.prog 132 #[.slice A n c, .func (.func 110) #[] #[]] w (RetSort B BR A n c xss w) := by
  obtain ⟨vs, h1, h2⟩ := h.rows
  rcases Nat.eq_zero_or_pos n with rfl | hpos
  · have hc := AnyF.slices_SortFunc_none Tryz.sortL0 A c (.func (.func 110) #[] #[]) w
    change Calls Tryz.prog 132 _ _ _ at hc
    refine hc.mono ?_
    rintro e w' ⟨rfl, rfl⟩
    have hnil : xss = [] := List.eq_nil_of_length_eq_zero h.len
    subst hnil
    exact ⟨[], rfl, List.Perm.refl _, List.Pairwise.nil, h, World.grownBy.refl _ _⟩
  · obtain ⟨g, cap, hv, hb, hlt⟩ := h1.own.form hpos
    injection hv with hA _ hcap
    subst hA; subst hcap
    have hlen : vs.length = xss.length := by rw [h1.len, h.len]
    have hP : ∀ p ∈ vs.zip xss, RdVal w BR p.1 p.2 ∧ p.2.length ≤ 1000000000000 := by
      intro p hp
      obtain ⟨j, hj, rfl⟩ := List.getElem_of_mem hp
      rw [List.length_zip] at hj
      have hjv : j < vs.length := by omega
      have hjx : j < xss.length := by omega
      rw [List.getElem_zip]
      exact ⟨h2 j vs[j] xss[j] (List.getElem?_eq_getElem hjv) (List.getElem?_eq_getElem hjx), hx _ (List.getElem_mem _)⟩
    obtain ⟨d, hd⟩ : ∃ d : Array (Row w BR), d.toList.map (·.1) = vs.zip xss := ⟨((vs.zip xss).pmap (fun a h => (⟨a, h⟩ : Row w BR)) hP).toArray, by rw [List.toList_toArray]; exact val_pmap (vs.zip xss) hP⟩
    have hds : d.size = n := by
      have := congrArg List.length hd
      rw [List.length_map, List.length_zip, ← hlen, Nat.min_self, h1.len] at this
      simpa using this
    have hdv : d.toList.map (fun x => x.1.1) = vs := by
      have := congrArg (List.map Prod.fst) hd
      rw [List.map_map, List.map_fst_zip (by omega)] at this
      exact this
    have hdx : d.toList.map (fun x => x.1.2) = xss := by
      have := congrArg (List.map Prod.snd) hd
      rw [List.map_map, List.map_snd_zip (by omega)] at this
      exact this
    have hH : Sort.Holds Row.enc w g 0 d := by
      intro j hj
      refine ⟨?_, by rw [Nat.zero_add]; exact h1.own.frozenAt j⟩
      rw [Nat.zero_add, h1.own.cellAt j (by omega)]
      have hj' : j < d.toList.length := by simpa using hj
      rw [← hdv, List.getElem?_map, List.getElem?_eq_getElem hj', Option.map_some]
      simp [Row.enc, getElem!_pos d j hj]
    have hcmp : CmpReads Tryz.prog 110 #[] (Row.enc (w := w) (BR := BR)) (Row.cmp (w := w) (BR := BR)) g 0 d.size w := by
      intro m os dk hdk x y
      obtain ⟨⟨v1, x1⟩, ⟨A1, n1, c1, e1, r1⟩, l1⟩ := x
      obtain ⟨⟨v2, x2⟩, ⟨A2, n2, c2, e2, r2⟩, l2⟩ := y
      simp only at e1 e2 r1 r2 l1 l2
      subst e1; subst e2
      have hbl := (sortWorld_below (w := w) (BR := BR) g m dk os hlt).mono (Nat.le_trans hBR hb)
      exact (compare_any A1 A2 c1 c2 n1 n2 BR BR x1 x2 _ (r1.below hbl) (r2.below hbl) (by rw [← r1.len]; exact l1) (by rw [← r2.len]; exact l2)).mono fun e w' hh => ⟨hh.1, 0, hh.2⟩
    have hone : OneCell (Row.enc (w := w) (BR := BR)) := by
      rintro ⟨⟨v, x⟩, ⟨A, n, c, e, _⟩, _⟩
      simp only at e
      subst e
      rfl
    have hcon := Any.slices_SortFunc Tryz.sortL (Row.enc (w := w) (BR := BR)) hone Row.cmp (row_swo w BR) 110 #[] g 0 c d w (enters_of Tryz.func110 (by kernel_rfl) rfl) hcmp.lays hH hlt (by omega)
    change Calls Tryz.prog 132 _ _ _ at hcon
    rw [hds] at hcon
    refine hcon.mono ?_
    rintro e w' ⟨rfl, d', m, os, hp, hs, rfl⟩
    have hd's : d'.size = n := by rw [hp.1, hds]
    have hperm : d'.toList.Perm d.toList := by
      have := hp.2.2
      rwa [← hds, Array.extract_size, show d.size = d'.size from by rw [hds, hd's], Array.extract_size] at this
    refine ⟨d'.toList.map (fun x => x.1.2), rfl, by rw [← hdx]; exact hperm.map _, ?_, ⟨by simpa using hd's, d'.toList.map (fun x => x.1.1), ⟨by simpa using hd's, ?_⟩, fun j v xs hv hx => ?_⟩, ?_⟩
    · rw [List.pairwise_map, List.pairwise_iff_getElem]
      intro i j hi hj hij
      have := hs i j (Nat.zero_le _) hij (by rw [← hd's]; simpa using hj)
      rw [Row.lt, getElem!_pos d' i (by simpa using hi), getElem!_pos d' j (by simpa using hj)] at this
      simpa using this
    · rcases h1.own.2 with ⟨e, _⟩ | ⟨g', cap', cur, e, hbg, hgg, hnc, hcm, hcs, htk⟩
      · injection e with e1; cases e1
      · injection e with e1 _ e3
        obtain rfl : g' = g := by simpa using e1.symm
        subst e3
        refine ⟨by simp [hd's], .inr ⟨g', c, _, rfl, hbg, sortWorld_at g' m d' os hgg, hnc, hcm, by simpa [Sort.putCells] using hcs, ?_⟩⟩
        rw [Nat.mul_one] at hcs htk ⊢
        apply List.ext_getElem?
        intro k
        by_cases hk : k < n
        · rw [List.getElem?_take_of_lt hk, Array.getElem?_toList, Sort.putCells, Array.getElem?_mapIdx, List.getElem?_map, Array.getElem?_toList, Array.getElem?_eq_getElem (show k < cur.size by omega), Array.getElem?_eq_getElem (show k < d'.size by omega)]
          simp only [Option.map_some, Nat.zero_le, Nat.zero_add, true_and, Nat.sub_zero]
          rw [if_pos (by omega), getElem!_pos d' k (by omega)]
          rfl
        · rw [List.getElem?_eq_none (by rw [List.length_take]; omega), List.getElem?_eq_none (by simp; omega)]
    · have hj : j < d'.size := by
        have := (List.getElem?_eq_some_iff.1 hv).1
        simpa using this
      rw [List.getElem?_map, Array.getElem?_toList, Array.getElem?_eq_getElem hj, Option.map_some, Option.some.injEq] at hv hx
      subst hv; subst hx
      exact (d'[j]).2.1.below ((sortWorld_below g m d' os hlt).mono (Nat.le_trans hBR hb))
    · exact ⟨rfl, rfl, rfl, by simp [sortWorld, Sort.grow, Sort.putRow, Sort.mapBlock, Sort.ahead], fun k hk hne => sortWorld_other g m d' os hk (fun e => hne (by subst e; rfl))⟩
end Go.Proofs.YtoodhbafleemjaaGreat

/- slices.SortFunc at lists of lists of one's own: the lists stay owned. -/
namespace Go.Proofs.YtoodhbafleemjaaGreat
open Go.RowKit
open Go.Shelf
set_option linter.unusedVariables false

def RowO (w : World) (B K : Nat) : Type := {p : Value × List Int // OwnVal w B K p.1 p.2 ∧ p.2.length ≤ 1000000000000}
instance (w : World) (B K : Nat) : Inhabited (RowO w B K) := ⟨⟨(.slice none 0 0, []), ⟨none, 0, 0, rfl, OwnS.nil, fun g hg => by cases hg⟩, by simp⟩⟩
def RowO.enc {w : World} {B K : Nat} (x : RowO w B K) : Value := x.1.1
def RowO.cmp {w : World} {B K : Nat} (x y : RowO w B K) : Int := cmpL x.1.2 y.1.2
theorem RowO.lt {w : World} {B K : Nat} (x y : RowO w B K) : ltOf RowO.cmp x y = ltL x.1.2 y.1.2 := rfl
theorem rowO_swo (w : World) (B K : Nat) : Sort.SWO (ltOf (RowO.cmp (w := w) (B := B) (K := K))) where
  irrefl x := by rw [RowO.lt]; exact ltL_irrefl _
  trans x y z h1 h2 := by rw [RowO.lt] at *; exact ltL_trans h1 h2
  ntrans x y z h1 h2 := by
    rw [RowO.lt] at *
    cases h : ltL x.1.2 z.1.2
    · rfl
    · rcases ltL_tri y.1.2 z.1.2 with h3 | h3 | h3
      · rw [h3] at h2; cases h2
      · rw [h3] at h1; rw [h1] at h; cases h
      · have := ltL_trans h h3; rw [h1] at this; cases this
theorem sortWorldO_grown {w : World} {B K : Nat} (g m : Nat) (dk : Array (RowO w B K)) (os : Array Obj) : w.grownBy (sortWorld RowO.enc w g 0 m dk os) (some g) := by
  refine ⟨rfl, rfl, rfl, by simp [sortWorld, Sort.grow, Sort.putRow, Sort.mapBlock, Sort.ahead], fun k hk hne => ?_⟩
  simp only [sortWorld, Sort.grow, Sort.putRow, Sort.mapBlock, Sort.ahead]
  rw [Array.getElem?_append_left (by simpa using hk), Array.getElem?_modify, if_neg (fun e => hne (by rw [e]))]
theorem sortWorldO_at {w : World} {B K : Nat} (g m : Nat) (dk : Array (RowO w B K)) (os : Array Obj) {cur : Array Value} {E : Nat} (hg : w.heap[g]? = some (.cells cur E (0, 0))) :
    (sortWorld RowO.enc w g 0 m dk os).heap[g]? = some (.cells (Sort.putCells RowO.enc 0 dk cur) E (0, 0)) := by
  have hlt : g < w.heap.size := (Array.getElem?_eq_some_iff.1 hg).1
  simp only [sortWorld, Sort.grow, Sort.putRow, Sort.mapBlock, Sort.ahead]
  rw [Array.getElem?_append_left (by simpa using hlt), Array.getElem?_modify, if_pos rfl, hg]
  rfl
def RetSortO (B K : Nat) (A : Option Addr) (n c : Nat) (xss : List (List Int)) (w : World) (e : Ending) (w' : World) : Prop :=
  ∃ yss, e = .returned (.tuple #[]) ∧ yss.Perm xss ∧ (yss.Pairwise fun a b => ltL b a = false) ∧ OwnL w' B K A n c yss ∧ w.grownBy w' (Value.ownBlock (.slice A n c))

theorem sortO_any (A : Option Addr) (n c B K : Nat) (xss : List (List Int)) (w : World) (h : OwnL w B K A n c xss) (hK : K ≤ w.heap.size) (hn : n ≤ 1000000000000) (hx : ∀ x ∈ xss, x.length ≤ 1000000000000) :
    Calls Tryz.prog 132 #[.slice A n c, .func (.func 110) #[] #[]] w (RetSortO B K A n c xss w) := by
  obtain ⟨vs, h1, h2, h3⟩ := h.rows
  rcases Nat.eq_zero_or_pos n with rfl | hpos
  · have hc := AnyF.slices_SortFunc_none Tryz.sortL0 A c (.func (.func 110) #[] #[]) w
    change Calls Tryz.prog 132 _ _ _ at hc
    refine hc.mono ?_
    rintro e w' ⟨rfl, rfl⟩
    have hnil : xss = [] := List.eq_nil_of_length_eq_zero h.len
    subst hnil
    exact ⟨[], rfl, List.Perm.refl _, List.Pairwise.nil, h, World.grownBy.refl _ _⟩
  · obtain ⟨g, cap, hv, hb, hlt⟩ := h1.own.form hpos
    injection hv with hA _ hcap
    subst hA; subst hcap
    have hlen : vs.length = xss.length := by rw [h1.len, h.len]
    have hne : ∀ {v : Value} {xs : List Int}, OwnVal w B K v xs → ∀ g', v.ownBlock = some g' → some g' ≠ some g := by
      intro v xs ho g' hg' e
      injection e with e
      subst e
      exact kinds_ne (by decide) (ho.kind g' hg') (h1.kind g' rfl) rfl
    have hP : ∀ p ∈ vs.zip xss, OwnVal w B K p.1 p.2 ∧ p.2.length ≤ 1000000000000 := by
      intro p hp
      obtain ⟨j, hj, rfl⟩ := List.getElem_of_mem hp
      rw [List.length_zip] at hj
      have hjv : j < vs.length := by omega
      have hjx : j < xss.length := by omega
      rw [List.getElem_zip]
      exact ⟨h2 j vs[j] xss[j] (List.getElem?_eq_getElem hjv) (List.getElem?_eq_getElem hjx), hx _ (List.getElem_mem _)⟩
    obtain ⟨d, hd⟩ : ∃ d : Array (RowO w B K), d.toList.map (·.1) = vs.zip xss := ⟨((vs.zip xss).pmap (fun a h => (⟨a, h⟩ : RowO w B K)) hP).toArray, by rw [List.toList_toArray]; exact val_pmap (vs.zip xss) hP⟩
    have hds : d.size = n := by
      have := congrArg List.length hd
      rw [List.length_map, List.length_zip, ← hlen, Nat.min_self, h1.len] at this
      simpa using this
    have hdv : d.toList.map (fun x => x.1.1) = vs := by
      have := congrArg (List.map Prod.fst) hd
      rw [List.map_map, List.map_fst_zip (by omega)] at this
      exact this
    have hdx : d.toList.map (fun x => x.1.2) = xss := by
      have := congrArg (List.map Prod.snd) hd
      rw [List.map_map, List.map_snd_zip (by omega)] at this
      exact this
    have hH : Sort.Holds RowO.enc w g 0 d := by
      intro j hj
      refine ⟨?_, by rw [Nat.zero_add]; exact h1.own.frozenAt j⟩
      rw [Nat.zero_add, h1.own.cellAt j (by omega)]
      have hj' : j < d.toList.length := by simpa using hj
      rw [← hdv, List.getElem?_map, List.getElem?_eq_getElem hj', Option.map_some]
      simp [RowO.enc, getElem!_pos d j hj]
    have hcmp : CmpReads Tryz.prog 110 #[] (RowO.enc (w := w) (B := B) (K := K)) (RowO.cmp (w := w) (B := B) (K := K)) g 0 d.size w := by
      intro m os dk hdk x y
      have hgr := sortWorldO_grown (w := w) (B := B) (K := K) g m dk os
      obtain ⟨A1, n1, c1, e1, r1, _⟩ := x.2.1.grown hgr (hne x.2.1)
      obtain ⟨A2, n2, c2, e2, r2, _⟩ := y.2.1.grown hgr (hne y.2.1)
      show Calls Tryz.prog _ #[x.1.1, y.1.1] _ _
      rw [e1, e2]
      exact (compare_any A1 A2 c1 c2 n1 n2 _ _ x.1.2 y.1.2 _ r1.rd r2.rd (by rw [← r1.len]; exact x.2.2) (by rw [← r2.len]; exact y.2.2)).mono fun e w' hh => ⟨hh.1, 0, hh.2⟩
    have hone : OneCell (RowO.enc (w := w) (B := B) (K := K)) := by
      rintro ⟨⟨v, x⟩, ⟨A, n, c, e, _⟩, _⟩
      simp only at e
      subst e
      rfl
    have hcon := Any.slices_SortFunc Tryz.sortL (RowO.enc (w := w) (B := B) (K := K)) hone RowO.cmp (rowO_swo w B K) 110 #[] g 0 c d w (enters_of Tryz.func110 (by kernel_rfl) rfl) hcmp.lays hH hlt (by omega)
    change Calls Tryz.prog 132 _ _ _ at hcon
    rw [hds] at hcon
    refine hcon.mono ?_
    rintro e w' ⟨rfl, d', m, os, hp, hs, rfl⟩
    have hd's : d'.size = n := by rw [hp.1, hds]
    have hperm : d'.toList.Perm d.toList := by
      have := hp.2.2
      rwa [← hds, Array.extract_size, show d.size = d'.size from by rw [hds, hd's], Array.extract_size] at this
    have hgr := sortWorldO_grown (w := w) (B := B) (K := K) g m d' os
    refine ⟨d'.toList.map (fun x => x.1.2), rfl, by rw [← hdx]; exact hperm.map _, ?_, ⟨by simpa using hd's, d'.toList.map (fun x => x.1.1), ⟨by simpa using hd's, ?_⟩, fun j v xs hv hx => ?_, apartV_iff.1 (apartV_perm (by rw [← hdv]; exact hperm.map _) (apartV_iff.2 h3))⟩, hgr⟩
    · rw [List.pairwise_map, List.pairwise_iff_getElem]
      intro i j hi hj hij
      have := hs i j (Nat.zero_le _) hij (by rw [← hd's]; simpa using hj)
      rw [RowO.lt, getElem!_pos d' i (by simpa using hi), getElem!_pos d' j (by simpa using hj)] at this
      simpa using this
    · rcases h1.own.2 with ⟨e, _⟩ | ⟨g', cap', cur, e, hbg, hgg, hnc, hcm, hcs, htk⟩
      · injection e with e1; cases e1
      · injection e with e1 _ e3
        obtain rfl : g' = g := by simpa using e1.symm
        subst e3
        refine ⟨by simp [hd's], .inr ⟨g', c, _, rfl, hbg, sortWorldO_at g' m d' os hgg, hnc, hcm, by simpa [Sort.putCells] using hcs, ?_⟩⟩
        rw [Nat.mul_one] at hcs htk ⊢
        apply List.ext_getElem?
        intro k
        by_cases hk : k < n
        · rw [List.getElem?_take_of_lt hk, Array.getElem?_toList, Sort.putCells, Array.getElem?_mapIdx, List.getElem?_map, Array.getElem?_toList, Array.getElem?_eq_getElem (show k < cur.size by omega), Array.getElem?_eq_getElem (show k < d'.size by omega)]
          simp only [Option.map_some, Nat.zero_le, Nat.zero_add, true_and, Nat.sub_zero]
          rw [if_pos (by omega), getElem!_pos d' k (by omega)]
          rfl
        · rw [List.getElem?_eq_none (by rw [List.length_take]; omega), List.getElem?_eq_none (by simp; omega)]
    · have hj : j < d'.size := by
        have := (List.getElem?_eq_some_iff.1 hv).1
        simpa using this
      rw [List.getElem?_map, Array.getElem?_toList, Array.getElem?_eq_getElem hj, Option.map_some, Option.some.injEq] at hv hx
      subst hv; subst hx
      exact (d'[j]).2.1.grown hgr (hne (d'[j]).2.1)
end Go.Proofs.YtoodhbafleemjaaGreat
