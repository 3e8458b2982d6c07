/- Plain: the table of squares of a module, and the action, as masks. -/
import Derived.Test.YtejojliljplcdaaGreatDoorModI
import Derived.Test.YtejojliljplcdaaGreatDoorPar
namespace Go.Proofs.YtejojliljplcdaaGreatDoor
open Go.RowKit
set_option linter.unusedVariables false

abbrev Tri := Nat × Nat × Nat
def toT (x : List Int) : Tri := ((x[0]?.getD 0).toNat, (x[1]?.getD 0).toNat, (x[2]?.getD 0).toNat)
def ofT (t : Tri) : List Int := [(t.1 : Int), (t.2.1 : Int), (t.2.2 : Int)]
theorem toT_ofT (t : Tri) : toT (ofT t) = t := by simp [toT, ofT]
/-- what tabB tells -/
structure TabF (ds : List Int) (act : List (List Int)) : Prop where
  len : ds.length ≤ 16
  stem : ∀ d ∈ ds, 0 ≤ d ∧ d ≤ 20
  sort : sortB ds = true
  each : ∀ x ∈ act, x = ofT (toT x) ∧ 1 ≤ (toT x).1 ∧ (toT x).1 ≤ 20 ∧ (toT x).2.1 < ds.length ∧ (toT x).2.2 < ds.length ∧ ds[(toT x).2.2]?.getD 0 = ds[(toT x).2.1]?.getD 0 + (toT x).1
  nodup : (act.map toT).Nodup
  asc : Asc act
theorem map_nodup_of {α β : Type} {f : α → β} : ∀ {l : List α}, (∀ x ∈ l, ∀ y ∈ l, f x = f y → x = y) → l.Nodup → (l.map f).Nodup
  | [], _, _ => by simp
  | x :: l, h, hn => by
    rw [List.nodup_cons] at hn
    rw [List.map_cons, List.nodup_cons]
    refine ⟨fun hm => ?_, map_nodup_of (fun a ha b hb => h a (List.mem_cons_of_mem _ ha) b (List.mem_cons_of_mem _ hb)) hn.2⟩
    obtain ⟨y, hy, e⟩ := List.mem_map.1 hm
    have := h y (List.mem_cons_of_mem _ hy) x (by simp) e
    subst this
    exact hn.1 hy
theorem tabF_of {ds : List Int} {act : List (List Int)} (h : tabB ds act = true) : TabF ds act := by
  simp only [tabB, Bool.and_eq_true, decide_eq_true_eq, List.all_eq_true] at h
  obtain ⟨⟨⟨⟨h1, h2⟩, h3⟩, h4⟩, h5⟩ := h
  have he : ∀ x ∈ act, x = ofT (toT x) ∧ 1 ≤ (toT x).1 ∧ (toT x).1 ≤ 20 ∧ (toT x).2.1 < ds.length ∧ (toT x).2.2 < ds.length ∧ ds[(toT x).2.2]?.getD 0 = ds[(toT x).2.1]?.getD 0 + (toT x).1 := by
    intro x hx
    have h6 := h5 x hx
    unfold trB at h6
    split at h6
    · rename_i a0 a1 a2
      simp only [Bool.and_eq_true, decide_eq_true_eq] at h6
      obtain ⟨⟨⟨g0, g1⟩, g2⟩, g3⟩ := h6
      have g0 := inB_iff.1 g0
      have g1 := inB_iff.1 g1
      have g2 := inB_iff.1 g2
      refine ⟨?_, ?_, ?_, ?_, ?_, ?_⟩
      · simp only [toT, ofT, List.getElem?_cons_zero, List.getElem?_cons_succ, Option.getD_some]
        rw [Int.toNat_of_nonneg (by omega), Int.toNat_of_nonneg (by omega), Int.toNat_of_nonneg (by omega)]
      · simp [toT]; omega
      · simp [toT]; omega
      · simp [toT]; omega
      · simp [toT]; omega
      · simp only [toT, List.getElem?_cons_zero, List.getElem?_cons_succ, Option.getD_some]
        rw [Int.toNat_of_nonneg (by omega : 0 ≤ a0)]
        exact g3
    · cases h6
  have ha := asc_risB.1 h4
  refine ⟨h1, stem_mem h2, h3, he, map_nodup_of (fun x hx y hy e => ?_) (asc_nodup ha), ha⟩
  rw [(he x hx).1, (he y hy).1, e]

def xorN : Nat → (Nat → Nat) → Nat
  | 0, _ => 0
  | n + 1, f => xorN n f ^^^ f n
def rowS (k i m : Nat) (t : Tri) : Nat := if t.1 = k ∧ t.2.1 = i then m ||| 2 ^ t.2.2 else m
def rowF (T : List Tri) (k i : Nat) : Nat := T.foldl (rowS k i) (if k = 0 then 2 ^ i else 0)
def actS (k v m : Nat) (t : Tri) : Nat := if t.1 = k ∧ v.testBit t.2.1 = true then m ^^^ 2 ^ t.2.2 else m
def actF (T : List Tri) (k v : Nat) : Nat := T.foldl (actS k v) 0
def pickF (v : Nat) (f : Nat → Nat) (i : Nat) : Nat := if v.testBit i = true then f i else 0
def sqF (T : List Tri) (n k v : Nat) : Nat := xorN n (pickF v (rowF T k))
theorem rowS_yes {k i m : Nat} {t : Tri} (h : t.1 = k ∧ t.2.1 = i) : rowS k i m t = m ||| 2 ^ t.2.2 := if_pos h
theorem rowS_no {k i m : Nat} {t : Tri} (h : ¬ (t.1 = k ∧ t.2.1 = i)) : rowS k i m t = m := if_neg h
theorem pickF_yes {v i : Nat} {f : Nat → Nat} (h : v.testBit i = true) : pickF v f i = f i := if_pos h
theorem pickF_no {v i : Nat} {f : Nat → Nat} (h : ¬ v.testBit i = true) : pickF v f i = 0 := if_neg h
theorem pickF_same {v i : Nat} {f g : Nat → Nat} (h : v.testBit i = true → f i = g i) : pickF v f i = pickF v g i := by
  unfold pickF
  split
  · rename_i hv; exact h hv
  · rfl
theorem xorN_congr {f g : Nat → Nat} : ∀ {n : Nat}, (∀ i, i < n → f i = g i) → xorN n f = xorN n g
  | 0, _ => rfl
  | n + 1, h => by rw [xorN, xorN, xorN_congr fun i hi => h i (by omega), h n (Nat.lt_succ_self _)]
theorem xorN_upd {f g : Nat → Nat} {b d : Nat} (hg : ∀ i, i ≠ b → g i = f i) (hb : g b = f b ^^^ d) : ∀ n : Nat, b < n → xorN n g = xorN n f ^^^ d
  | 0, h => absurd h (by omega)
  | n + 1, h => by
    rw [xorN, xorN]
    by_cases e : b = n
    · subst e
      rw [hb, xorN_congr (f := g) (g := f) fun i hi => hg i (by omega), Nat.xor_assoc]
    · rw [xorN_upd hg hb n (by omega), hg n (by omega), Nat.xor_assoc, Nat.xor_assoc, Nat.xor_comm d]
theorem xorN_zero {f : Nat → Nat} : ∀ {n : Nat}, (∀ i, i < n → f i = 0) → xorN n f = 0
  | 0, _ => rfl
  | n + 1, h => by rw [xorN, xorN_zero fun i hi => h i (by omega), h n (Nat.lt_succ_self _)]; rfl
theorem or_eq_xor {m c : Nat} (h : m.testBit c = false) : m ||| 2 ^ c = m ^^^ 2 ^ c := by
  refine Nat.eq_of_testBit_eq fun i => ?_
  rw [Nat.testBit_or, Nat.testBit_xor, Nat.testBit_two_pow]
  by_cases e : c = i
  · subst e; rw [h]; simp
  · rw [decide_eq_false e]; simp
/-- the table's row by row sum is the sum over all entries -/
theorem sq_act_aux (k v n : Nat) : ∀ (T : List Tri) (r : Nat → Nat) (m : Nat), T.Nodup → (∀ t ∈ T, t.2.1 < n) → (∀ t ∈ T, t.1 = k → (r t.2.1).testBit t.2.2 = false) → xorN n (pickF v r) = m →
    xorN n (pickF v fun i => T.foldl (rowS k i) (r i)) = T.foldl (actS k v) m
  | [], r, m, _, _, _, hm => by simpa using hm
  | t :: T, r, m, hn, hb, hr, hm => by
    rw [List.nodup_cons] at hn
    simp only [List.foldl_cons]
    refine sq_act_aux k v n T (fun i => rowS k i (r i) t) (actS k v m t) hn.2 (fun s hs => hb s (List.mem_cons_of_mem _ hs)) (fun s hs hk => ?_) ?_
    · have h1 := hr s (List.mem_cons_of_mem _ hs) hk
      show (rowS k s.2.1 (r s.2.1) t).testBit s.2.2 = false
      unfold rowS
      split
      · rename_i hc
        rw [Nat.testBit_or, h1, Nat.testBit_two_pow, decide_eq_false]
        · rfl
        · intro e
          have : t = s := by
            obtain ⟨t1, t2, t3⟩ := t
            obtain ⟨s1, s2, s3⟩ := s
            simp only at hc e hk ⊢
            rw [hc.1, hc.2, e, hk]
          exact hn.1 (this ▸ hs)
      · exact h1
    · by_cases hk : t.1 = k
      · have h1 := hr t (by simp) hk
        have h2 := hb t (by simp)
        by_cases hv : v.testBit t.2.1 = true
        · have : xorN n (pickF v fun i => rowS k i (r i) t) = xorN n (pickF v r) ^^^ 2 ^ t.2.2 := by
            refine xorN_upd (b := t.2.1) (fun i hi => ?_) ?_ n h2
            · exact pickF_same fun _ => rowS_no fun h => hi h.2.symm
            · rw [pickF_yes hv, pickF_yes hv]
              show rowS k t.2.1 (r t.2.1) t = _
              rw [rowS_yes ⟨hk, rfl⟩, or_eq_xor h1]
          rw [this, hm]
          unfold actS
          rw [if_pos ⟨hk, hv⟩]
        · rw [← hm]
          unfold actS
          rw [if_neg (fun h => hv h.2)]
          exact xorN_congr fun i _ => pickF_same fun hi => rowS_no fun e => hv (e.2 ▸ hi)
      · rw [← hm]
        unfold actS
        rw [if_neg (fun h => hk h.1)]
        exact xorN_congr fun i _ => pickF_same fun _ => rowS_no fun h => hk h.1
theorem sq_act {T : List Tri} {k v n : Nat} (hk : 1 ≤ k) (hn : T.Nodup) (hb : ∀ t ∈ T, t.2.1 < n) : sqF T n k v = actF T k v := by
  unfold sqF actF
  rw [show rowF T k = fun i => T.foldl (rowS k i) 0 from funext fun i => by unfold rowF; rw [if_neg (by omega)]]
  exact sq_act_aux k v n T (fun _ => 0) 0 hn hb (fun t _ _ => by simp) (xorN_zero fun i _ => by unfold pickF; split <;> rfl)
theorem row_zero (T : List Tri) (i : Nat) (h : ∀ t ∈ T, 1 ≤ t.1) : rowF T 0 i = 2 ^ i := by
  unfold rowF
  rw [if_pos rfl]
  generalize 2 ^ i = m
  induction T with
  | nil => rfl
  | cons t T ih =>
    rw [List.foldl_cons]
    have : rowS 0 i m t = m := by unfold rowS; rw [if_neg (fun e => by have := h t (by simp); omega)]
    rw [this]
    exact ih fun s hs => h s (List.mem_cons_of_mem _ hs)
theorem xorN_bits (v : Nat) : ∀ n : Nat, ∀ c, (xorN n (pickF v fun i => 2 ^ i)).testBit c = (decide (c < n) && v.testBit c)
  | 0, c => by simp [xorN]
  | n + 1, c => by
    rw [xorN, Nat.testBit_xor, xorN_bits v n c]
    unfold pickF
    by_cases e : c = n
    · subst e
      by_cases hv : v.testBit c = true
      · rw [if_pos hv, Nat.testBit_two_pow_self]; simp [hv]
      · rw [if_neg hv]; simp [hv]
    · have h1 : (if v.testBit n = true then 2 ^ n else 0).testBit c = false := by
        split
        · rw [Nat.testBit_two_pow, decide_eq_false (fun h => e h.symm)]
        · simp
      have h2 : decide (c < n + 1) = decide (c < n) := by
        by_cases h : c < n
        · rw [decide_eq_true h, decide_eq_true (by omega)]
        · rw [decide_eq_false h, decide_eq_false (by omega)]
      rw [h1, h2]; simp
theorem sq_zero {T : List Tri} {n v : Nat} (h : ∀ t ∈ T, 1 ≤ t.1) (hv : v < 2 ^ n) : sqF T n 0 v = v := by
  unfold sqF
  rw [show rowF T 0 = fun i => 2 ^ i from funext fun i => row_zero T i h]
  refine Nat.eq_of_testBit_eq fun c => ?_
  rw [xorN_bits]
  by_cases hc : c < n
  · rw [decide_eq_true hc]; rfl
  · rw [decide_eq_false hc, Nat.testBit_lt_two_pow (Nat.lt_of_lt_of_le hv (Nat.pow_le_pow_right (by decide) (by omega)))]; rfl
theorem xor_lt {n a b : Nat} (ha : a < 2 ^ n) (hb : b < 2 ^ n) : a ^^^ b < 2 ^ n := Nat.xor_lt_two_pow ha hb
theorem act_lt {n k v : Nat} : ∀ {T : List Tri} (m : Nat), (∀ t ∈ T, t.2.2 < n) → m < 2 ^ n → T.foldl (actS k v) m < 2 ^ n
  | [], m, _, hm => hm
  | t :: T, m, h, hm => by
    rw [List.foldl_cons]
    refine act_lt _ (fun s hs => h s (List.mem_cons_of_mem _ hs)) ?_
    unfold actS
    split
    · exact xor_lt hm (Nat.pow_lt_pow_right (by decide) (h t (by simp)))
    · exact hm
theorem actF_lt {n k v : Nat} {T : List Tri} (h : ∀ t ∈ T, t.2.2 < n) : actF T k v < 2 ^ n := act_lt 0 h (Nat.two_pow_pos n)

/-- sums of masks -/
def xorL {α : Type} (f : α → Nat) (l : List α) : Nat := l.foldl (fun m z => m ^^^ f z) 0
theorem xorL_from {α : Type} (f : α → Nat) : ∀ (l : List α) (m : Nat), l.foldl (fun m z => m ^^^ f z) m = m ^^^ xorL f l
  | [], m => by simp [xorL]
  | x :: l, m => by
    unfold xorL
    rw [List.foldl_cons, List.foldl_cons, xorL_from f l (m ^^^ f x), xorL_from f l (0 ^^^ f x), Nat.zero_xor, Nat.xor_assoc]
theorem xorL_cons {α : Type} (f : α → Nat) (x : α) (l : List α) : xorL f (x :: l) = f x ^^^ xorL f l := by
  show (x :: l).foldl _ 0 = _
  rw [List.foldl_cons, xorL_from, Nat.zero_xor]
theorem xorL_snoc {α : Type} (f : α → Nat) (l : List α) (x : α) : xorL f (l ++ [x]) = xorL f l ^^^ f x := by
  unfold xorL
  rw [List.foldl_append]
  rfl
theorem xorL_lt {α : Type} {f : α → Nat} {n : Nat} : ∀ {l : List α}, (∀ x ∈ l, f x < 2 ^ n) → xorL f l < 2 ^ n
  | [], _ => Nat.two_pow_pos n
  | x :: l, h => by rw [xorL_cons]; exact xor_lt (h x (by simp)) (xorL_lt fun y hy => h y (List.mem_cons_of_mem _ hy))
theorem xorL_map {α β : Type} (f : β → Nat) (g : α → β) : ∀ l : List α, xorL f (l.map g) = xorL (fun x => f (g x)) l
  | [] => rfl
  | x :: l => by rw [List.map_cons, xorL_cons, xorL_cons, xorL_map f g l]
theorem xorL_congr {α : Type} {f g : α → Nat} : ∀ {l : List α}, (∀ x ∈ l, f x = g x) → xorL f l = xorL g l
  | [], _ => rfl
  | x :: l, h => by rw [xorL_cons, xorL_cons, h x (by simp), xorL_congr fun y hy => h y (List.mem_cons_of_mem _ hy)]
theorem xorL_insX (f : List Int → Nat) (x : List Int) : ∀ s, xorL f (insX x s) = f x ^^^ xorL f s
  | [] => by simp [insX, xorL_cons]
  | y :: s => by
    rw [insX]
    split
    · rw [xorL_cons]
    · split
      · rw [xorL_cons, xorL_cons, xorL_insX f x s, ← Nat.xor_assoc, ← Nat.xor_assoc, Nat.xor_comm (f y)]
      · rename_i h1 h2
        have : x = y := by
          rcases ltL_tri x y with h | h | h
          · exact absurd h h1
          · exact h
          · exact absurd h h2
        subst this
        rw [xorL_cons, ← Nat.xor_assoc, Nat.xor_self, Nat.zero_xor]
theorem xorL_odd (f : List Int → Nat) : ∀ s, xorL f (oddL s) = xorL f s
  | [] => rfl
  | x :: s => by
    show xorL f (insX x (oddL s)) = _
    rw [xorL_insX, xorL_odd f s, xorL_cons]
end Go.Proofs.YtejojliljplcdaaGreatDoor

/- Plain: Adem's relations on a module, as both sides ask them. -/
namespace Go.Proofs.YtejojliljplcdaaGreatDoor
open Go.RowKit
set_option linter.unusedVariables false

/-- the entries of a module's action -/
structure TriF (ds : List Int) (T : List Tri) : Prop where
  len : ds.length ≤ 16
  nodup : T.Nodup
  each : ∀ t ∈ T, 1 ≤ t.1 ∧ t.1 ≤ 20 ∧ t.2.1 < ds.length ∧ t.2.2 < ds.length ∧ ds[t.2.2]?.getD 0 = ds[t.2.1]?.getD 0 + t.1
theorem TabF.tri {ds : List Int} {act : List (List Int)} (h : TabF ds act) : TriF ds (act.map toT) :=
  ⟨h.len, h.nodup, fun t ht => by obtain ⟨x, hx, rfl⟩ := List.mem_map.1 ht; exact (h.each x hx).2⟩

def relF (a b : Nat) : List Nat := (List.range (a / 2 + 1)).filter fun j => (b - 1 - j) &&& (a - 2 * j) == a - 2 * j
def spA (T : List Tri) (k v : Nat) : Nat := if k = 0 then v else actF T k v
def spW (T : List Tri) (w : List Int) (v : Nat) : Nat := w.foldr (fun k u => spA T k.toNat u) v
def wrd (a b j : Nat) : List Int := if j = 0 then [(a : Int) + b] else [(a : Int) + b - j, (j : Int)]
def formF (a b : Nat) : List (List Int) := oddL ((relF a b).map (wrd a b))
def badX (T : List Tri) (n a b v : Nat) : Nat := sqF T n a (sqF T n b (2 ^ v)) ^^^ xorL (fun j => sqF T n (a + b - j) (sqF T n j (2 ^ v))) (relF a b)
def noF (T : List Tri) (n N : Nat) : Prop := ∀ a b v, 1 ≤ a → a / 2 + 1 ≤ b → a + b ≤ N → v < n → badX T n a b v = 0

section
variable {ds : List Int} {T : List Tri}
theorem TriF.sq (h : TriF ds T) {k v : Nat} (hv : v < 2 ^ ds.length) : sqF T ds.length k v = spA T k v := by
  unfold spA
  split
  · rename_i hk
    subst hk
    exact sq_zero (fun t ht => (h.each t ht).1) hv
  · exact sq_act (by omega) h.nodup fun t ht => (h.each t ht).2.2.1
theorem TriF.spA_lt (h : TriF ds T) {k v : Nat} (hv : v < 2 ^ ds.length) : spA T k v < 2 ^ ds.length := by
  unfold spA
  split
  · exact hv
  · exact actF_lt fun t ht => (h.each t ht).2.2.2.1
theorem TriF.spW_lt (h : TriF ds T) {v : Nat} (hv : v < 2 ^ ds.length) : ∀ w : List Int, spW T w v < 2 ^ ds.length
  | [] => hv
  | k :: w => h.spA_lt (h.spW_lt hv w)
theorem TriF.sq_lt (h : TriF ds T) {k v : Nat} (hv : v < 2 ^ ds.length) : sqF T ds.length k v < 2 ^ ds.length := by rw [h.sq hv]; exact h.spA_lt hv
theorem spW_wrd (T : List Tri) {a b j : Nat} (hj : j ≤ a) (u : Nat) : spW T (wrd a b j) u = spA T (a + b - j) (spA T j u) := by
  unfold wrd
  split
  · rename_i h
    subst h
    show spA T ((a : Int) + b).toNat u = _
    rw [show ((a : Int) + b).toNat = a + b - 0 by omega, show spA T 0 u = u from if_pos rfl]
  · show spA T ((a : Int) + b - j).toNat (spA T (j : Int).toNat u) = _
    rw [show ((a : Int) + b - j).toNat = a + b - j by omega, Int.toNat_natCast]
theorem relF_mem {a b j : Nat} (h : j ∈ relF a b) : 2 * j ≤ a := by
  have := (List.mem_filter.1 h).1
  rw [List.mem_range] at this
  omega
theorem xor_zero_iff {x y : Nat} : x ^^^ y = 0 ↔ x = y := by
  constructor
  · intro h
    have := congrArg (· ^^^ y) h
    simpa [Nat.xor_assoc] using this
  · rintro rfl; exact Nat.xor_self _
theorem two_pow_lt {n v : Nat} (h : v < n) : 2 ^ v < 2 ^ n := Nat.pow_lt_pow_right (by decide) h
theorem TriF.bad (h : TriF ds T) {a b v : Nat} (hv : v < ds.length) : badX T ds.length a b v = 0 ↔ spW T [(a : Int), (b : Int)] (2 ^ v) = xorL (fun w => spW T w (2 ^ v)) (formF a b) := by
  have h2 := two_pow_lt hv
  unfold badX formF
  rw [xor_zero_iff, xorL_odd, xorL_map, h.sq (h.sq_lt h2), h.sq h2]
  rw [show spW T [(a : Int), (b : Int)] (2 ^ v) = spA T a (spA T b (2 ^ v)) from by simp [spW]]
  rw [xorL_congr fun j hj => show sqF T ds.length (a + b - j) (sqF T ds.length j (2 ^ v)) = spW T (wrd a b j) (2 ^ v) from by
    have := relF_mem hj
    rw [spW_wrd T (by omega), h.sq (h.sq_lt h2), h.sq h2]]

/-- all places of a mask have one degree -/
def Hom (ds : List Int) (D : Int) (m : Nat) : Prop := ∀ i, m.testBit i = true → i < ds.length ∧ ds[i]?.getD 0 = D
theorem Hom.xor {D : Int} {m p : Nat} (h : Hom ds D m) (k : Hom ds D p) : Hom ds D (m ^^^ p) := fun i hi => by
  rw [Nat.testBit_xor] at hi
  cases hm : m.testBit i
  · rw [hm] at hi; exact k i (by simpa using hi)
  · exact h i hm
theorem Hom.zero {D : Int} : Hom ds D 0 := fun i hi => by simp at hi
theorem Hom.two {v : Nat} (hv : v < ds.length) : Hom ds (ds[v]?.getD 0) (2 ^ v) := fun i hi => by
  rw [Nat.testBit_two_pow] at hi
  have := of_decide_eq_true hi
  subst this
  exact ⟨hv, rfl⟩
theorem Hom.act_aux {D : Int} {k v : Nat} (hv : Hom ds D v) : ∀ {S : List Tri} (m : Nat), (∀ t ∈ S, t.2.2 < ds.length ∧ ds[t.2.2]?.getD 0 = ds[t.2.1]?.getD 0 + t.1) → Hom ds (D + k) m → Hom ds (D + k) (S.foldl (actS k v) m)
  | [], m, _, hm => hm
  | t :: S, m, h, hm => by
    rw [List.foldl_cons]
    refine Hom.act_aux hv _ (fun s hs => h s (List.mem_cons_of_mem _ hs)) ?_
    unfold actS
    split
    · rename_i hc
      obtain ⟨h1, h2⟩ := h t (by simp)
      refine hm.xor ?_
      have := Hom.two h1
      rw [h2, (hv _ hc.2).2, hc.1] at this
      exact this
    · exact hm
theorem TriF.hom (h : TriF ds T) {D : Int} {k v : Nat} (hv : Hom ds D v) : Hom ds (D + k) (spA T k v) := by
  unfold spA
  split
  · rename_i hk; subst hk; simpa using hv
  · exact Hom.act_aux hv 0 (fun t ht => ⟨(h.each t ht).2.2.2.1, (h.each t ht).2.2.2.2⟩) Hom.zero
theorem sort_le : ∀ {xs : List Int}, sortB xs = true → ∀ (i j : Nat) (a b : Int), i ≤ j → xs[i]? = some a → xs[j]? = some b → a ≤ b := by
  intro xs h i j a b hij ha hb
  have h1 := sortB_iff.1 h
  induction j generalizing b with
  | zero =>
    obtain rfl : i = 0 := by omega
    rw [ha] at hb; injection hb with hb; omega
  | succ j ih =>
    by_cases e : i = j + 1
    · subst e; rw [ha] at hb; injection hb with hb; omega
    · have hj : j < xs.length := by have := (List.getElem?_eq_some_iff.1 hb).1; omega
      have h2 := ih (xs[j]) (by omega) (List.getElem?_eq_getElem hj)
      have h3 := h1 j _ b (List.getElem?_eq_getElem hj) hb
      omega
/-- above the span all is 0 -/
theorem Hom.none (hs : sortB ds = true) {D : Int} {m : Nat} {l : Int} (hl : ds[ds.length - 1]? = some l) (hD : l < D) (h : Hom ds D m) : m = 0 := by
  refine Nat.eq_of_testBit_eq fun i => ?_
  rw [Nat.zero_testBit]
  cases hi : m.testBit i
  · rfl
  · obtain ⟨h1, h2⟩ := h i hi
    have := sort_le hs i (ds.length - 1) _ l (by omega) (List.getElem?_eq_getElem h1) hl
    rw [List.getElem?_eq_getElem h1] at h2
    simp at h2
    omega
theorem Hom.xorL' {α : Type} {D : Int} {f : α → Nat} : ∀ {l : List α}, (∀ x ∈ l, Hom ds D (f x)) → Hom ds D (xorL f l)
  | [], _ => Hom.zero
  | x :: l, h => by rw [xorL_cons]; exact (h x (by simp)).xor (Hom.xorL' fun y hy => h y (List.mem_cons_of_mem _ hy))
theorem TriF.far (h : TriF ds T) (hs : sortB ds = true) {a b v : Nat} {f l : Int} (hf : ds[0]? = some f) (hl : ds[ds.length - 1]? = some l) (hab : l - f < (a : Int) + b) (hv : v < ds.length) : badX T ds.length a b v = 0 := by
  have h2 := two_pow_lt hv
  have hd : f ≤ ds[v]?.getD 0 := by
    have := sort_le hs 0 v f _ (by omega) hf (List.getElem?_eq_getElem hv)
    rw [List.getElem?_eq_getElem hv]
    exact this
  have hh := Hom.two hv
  refine Hom.none hs hl (D := ds[v]?.getD 0 + a + b) (by omega) ?_
  unfold badX
  refine Hom.xor ?_ (Hom.xorL' fun j hj => ?_)
  · rw [h.sq (h.sq_lt h2), h.sq h2]
    have := h.hom (k := a) (h.hom (k := b) hh)
    rw [show ds[v]?.getD 0 + (b : Int) + a = ds[v]?.getD 0 + a + b by omega] at this
    exact this
  · have hj2 := relF_mem hj
    rw [h.sq (h.sq_lt h2), h.sq h2]
    have := h.hom (k := a + b - j) (h.hom (k := j) hh)
    rw [show ds[v]?.getD 0 + (j : Int) + ((a + b - j : Nat) : Int) = ds[v]?.getD 0 + a + b by omega] at this
    exact this
theorem TriF.span (h : TriF ds T) (hs : sortB ds = true) {s : Nat} {f l : Int} (hf : ds[0]? = some f) (hl : ds[ds.length - 1]? = some l) (he : (s : Int) = l - f) (hs20 : s ≤ 20) : noF T ds.length s ↔ noF T ds.length 20 := by
  constructor
  · intro k a b v ha hb hab hv
    by_cases hc : a + b ≤ s
    · exact k a b v ha hb hc hv
    · exact h.far hs hf hl (by omega) hv
  · intro k a b v ha hb hab hv
    exact k a b v ha hb (by omega) hv
end

open Classical in
/-- is it a module? -/
noncomputable def modB (ds : List Int) (act : List (List Int)) : Bool := tabB ds act && decide (noF (act.map toT) ds.length 20)
end Go.Proofs.YtejojliljplcdaaGreatDoor

/- tableOf: the table of squares of a module. -/
namespace Go.Proofs.YtejojliljplcdaaGreatDoor
open Go.RowKit
set_option linter.unusedVariables false

/-- a table of which K rows have been laid -/
structure Tab (w : World) (t n : Nat) (DS : Value) (K : Nat) (g : Nat → Nat) (M : Nat → Nat → Nat) : Prop where
  deg : w.cell? ⟨t, 0, none⟩ = some DS
  rows : ∀ k, k < K → w.cell? ⟨t, 1 + k, none⟩ = some (.slice (some ⟨g k, 0, none⟩) n n)
  more : ∀ k, K ≤ k → k < 21 → w.cell? ⟨t, 1 + k, none⟩ = some (.slice none 0 0)
  fr : ∀ k, k < 22 → w.frozen? ⟨t, k, none⟩ = false
  lt : t < w.heap.size
  at_ : ∀ k i, k < K → i < n → w.cell? ⟨g k, i, none⟩ = some (.int .i64 (M k i : Nat))
  afr : ∀ k i, k < K → i < n → w.frozen? ⟨g k, i, none⟩ = false
  glt : ∀ k, k < K → t < g k ∧ g k < w.heap.size
  inj : ∀ k l, k < K → l < K → g k = g l → k = l
theorem Tab.below {w w' : World} {t n K : Nat} {DS : Value} {g : Nat → Nat} {M : Nat → Nat → Nat} (h : Tab w t n DS K g M) (hb : Below w.heap.size w w') : Tab w' t n DS K g M :=
  ⟨bcell hb h.lt h.deg, fun k hk => bcell hb h.lt (h.rows k hk), fun k hk hk2 => bcell hb h.lt (h.more k hk hk2), fun k hk => bfree hb h.lt (h.fr k hk), Nat.lt_of_lt_of_le h.lt hb.size,
    fun k i hk hi => bcell hb (h.glt k hk).2 (h.at_ k i hk hi), fun k i hk hi => bfree hb (h.glt k hk).2 (h.afr k i hk hi), fun k hk => ⟨(h.glt k hk).1, Nat.lt_of_lt_of_le (h.glt k hk).2 hb.size⟩, h.inj⟩
theorem Tab.congr {w : World} {t n K : Nat} {DS : Value} {g : Nat → Nat} {M M' : Nat → Nat → Nat} (h : Tab w t n DS K g M) (hm : ∀ k i, k < K → i < n → M k i = M' k i) : Tab w t n DS K g M' :=
  ⟨h.deg, h.rows, h.more, h.fr, h.lt, fun k i hk hi => by rw [← hm k i hk hi]; exact h.at_ k i hk hi, h.afr, h.glt, h.inj⟩
theorem setCell_size (w : World) (p : Addr) (v : Value) : (w.setCell p v).heap.size = w.heap.size := by simp [World.setCell]
theorem made_cell (w : World) (n i : Nat) (T : TypeId) (hi : i < n) : (w.alloc (.cells (madeCells #[.int .i64 0] n) T)).cell? ⟨w.heap.size, i, none⟩ = some (.int .i64 0) := by
  refine new_at rfl ?_
  rw [← Array.getElem?_toList, toList_madeCells_one]
  simp [hi]
/-- one more row -/
theorem Tab.row {w : World} {t n K : Nat} {DS : Value} {g : Nat → Nat} {M : Nat → Nat → Nat} {T : TypeId} (h : Tab w t n DS K g M) (hK : K < 21) :
    Tab ((w.alloc (.cells (madeCells #[.int .i64 0] n) T)).setCell ⟨t, 1 + K, none⟩ (.slice (some ⟨w.heap.size, 0, none⟩) n n)) t n DS (K + 1) (fun k => if k = K then w.heap.size else g k) (fun k i => if k = K then 0 else M k i) := by
  have bal := (Below.refl w.heap.size w).alloc (Nat.le_refl _) (.cells (madeCells #[.int .i64 0] n) T)
  have h1 := h.below bal
  have hne : w.heap.size ≠ t := Nat.ne_of_gt h.lt
  refine ⟨?_, fun k hk => ?_, fun k hk hk2 => ?_, fun k hk => ?_, by rw [setCell_size]; exact h1.lt, fun k i hk hi => ?_, fun k i hk hi => ?_, fun k hk => ?_, fun k l hk hl => ?_⟩
  · rw [World.cell?_setCell_other]
    · exact h1.deg
    · simp <;> omega
  · by_cases e : k = K
    · subst e
      rw [World.cell?_setCell_same (u := .slice none 0 0)]
      · simp
      · exact h1.more k (Nat.le_refl _) hK
    · rw [World.cell?_setCell_other]
      · rw [if_neg e]; exact h1.rows k (by omega)
      · simp <;> omega
  · rw [World.cell?_setCell_other]
    · exact h1.more k (by omega) hk2
    · simp <;> omega
  · rw [World.frozen?_setCell]; exact h1.fr k hk
  · by_cases e : k = K
    · subst e
      rw [if_pos rfl, if_pos rfl, World.cell?_setCell_far _ _ _ _ (by simpa using hne.symm)]
      exact made_cell w n i T hi
    · rw [if_neg e, if_neg e, World.cell?_setCell_far _ _ _ _ (by have := (h.glt k (by omega)).1; simp; omega)]
      exact h1.at_ k i (by omega) hi
  · rw [World.frozen?_setCell]
    by_cases e : k = K
    · rw [if_pos e]; exact new_free rfl
    · rw [if_neg e]; exact h1.afr k i (by omega) hi
  · rw [setCell_size]
    by_cases e : k = K
    · rw [if_pos e]; exact ⟨h.lt, by simp⟩
    · rw [if_neg e]; exact h1.glt k (by omega)
  · by_cases e : k = K <;> by_cases e2 : l = K
    · intro _; omega
    · rw [if_pos e, if_neg e2]; intro hh; have := (h.glt l (by omega)).2; omega
    · rw [if_neg e, if_pos e2]; intro hh; have := (h.glt k (by omega)).2; omega
    · rw [if_neg e, if_neg e2]; exact h.inj k l (by omega) (by omega)
/-- an entry is written -/
theorem Tab.set {w : World} {t n K : Nat} {DS : Value} {g : Nat → Nat} {M : Nat → Nat → Nat} (h : Tab w t n DS K g M) {k i m : Nat} (hk : k < K) (hi : i < n) :
    Tab (w.setCell ⟨g k, i, none⟩ (.int .i64 (m : Nat))) t n DS K g (fun k' i' => if k' = k ∧ i' = i then m else M k' i') := by
  have hg := h.glt k hk
  refine ⟨?_, fun l hl => ?_, fun l hl hl2 => ?_, fun l hl => ?_, by rw [setCell_size]; exact h.lt, fun l j hl hj => ?_, fun l j hl hj => ?_, fun l hl => ?_, h.inj⟩
  · rw [World.cell?_setCell_far _ _ _ _ (by simp; omega)]; exact h.deg
  · rw [World.cell?_setCell_far _ _ _ _ (by simp; omega)]; exact h.rows l hl
  · rw [World.cell?_setCell_far _ _ _ _ (by simp; omega)]; exact h.more l hl hl2
  · rw [World.frozen?_setCell]; exact h.fr l hl
  · by_cases e : l = k ∧ j = i
    · obtain ⟨rfl, rfl⟩ := e
      rw [World.cell?_setCell_same (u := .int .i64 (M l j : Nat)), if_pos ⟨rfl, rfl⟩]
      exact h.at_ l j hl hj
    · rw [if_neg e, World.cell?_setCell_other]
      · exact h.at_ l j hl hj
      · intro hh
        injection hh with h1 h2
        exact e ⟨(h.inj k l hk hl h1).symm, h2.symm⟩
  · rw [World.frozen?_setCell]; exact h.afr l j hl hj
  · rw [setCell_size]; exact h.glt l hl
theorem tab_below_set {B : Nat} {w u : World} {p : Addr} {v : Value} (h : Below B w u) (hp : B ≤ p.block) : Below B w (u.setCell p v) := h.setCell hp v

/-- a table, read -/
structure TabR (w : World) (t n : Nat) (DS : Value) (M : Nat → Nat → Nat) : Prop where
  deg : w.cell? ⟨t, 0, none⟩ = some DS
  row : ∀ k, k < 21 → ∃ g, t < g ∧ w.cell? ⟨t, 1 + k, none⟩ = some (.slice (some ⟨g, 0, none⟩) n n) ∧ RdS w w.heap.size (some ⟨g, 0, none⟩) n n ((List.range n).map fun i => ((M k i : Nat) : Int))
  lt : t < w.heap.size
theorem TabR.below {w w' : World} {t n : Nat} {DS : Value} {M : Nat → Nat → Nat} (h : TabR w t n DS M) (hb : Below w.heap.size w w') : TabR w' t n DS M :=
  ⟨bcell hb h.lt h.deg, fun k hk => by obtain ⟨g, h0, h1, h2⟩ := h.row k hk; exact ⟨g, h0, bcell hb h.lt h1, (h2.below hb).mono hb.size⟩, Nat.lt_of_lt_of_le h.lt hb.size⟩
end Go.Proofs.YtejojliljplcdaaGreatDoor

/- The walk of tableOf. -/
namespace Go.Proofs.YtejojliljplcdaaGreatDoor
open Go.RowKit
set_option linter.unusedVariables false

theorem rowF_snoc (T : List Tri) (t : Tri) (k i : Nat) : rowF (T ++ [t]) k i = rowS k i (rowF T k i) t := by
  unfold rowF
  rw [List.foldl_append]
  rfl
theorem rowF_lt {n k i : Nat} {T : List Tri} (h : ∀ t ∈ T, t.2.2 < n) (hi : i < n) : rowF T k i < 2 ^ n := by
  unfold rowF
  have h0 : (if k = 0 then 2 ^ i else 0) < 2 ^ n := by
    split
    · exact Nat.pow_lt_pow_right (by decide) hi
    · exact Nat.two_pow_pos n
  generalize (if k = 0 then 2 ^ i else 0) = m at h0
  induction T generalizing m with
  | nil => exact h0
  | cons t T ih =>
    rw [List.foldl_cons]
    refine ih (fun s hs => h s (List.mem_cons_of_mem _ hs)) _ ?_
    unfold rowS
    split
    · exact Nat.or_lt_two_pow h0 (Nat.pow_lt_pow_right (by decide) (h t (by simp)))
    · exact h0
theorem TriF.row_lt {ds : List Int} {T : List Tri} (h : TriF ds T) {k i : Nat} (hi : i < ds.length) : rowF T k i < 65536 := by
  have h1 := rowF_lt (k := k) (fun t ht => (h.each t ht).2.2.2.1) hi
  have h2 : (2 : Nat) ^ ds.length ≤ 2 ^ 16 := Nat.pow_le_pow_right (by decide) h.len
  have e : (2 : Nat) ^ 16 = 65536 := by decide
  omega
theorem Tab.rd {w : World} {t n : Nat} {DS : Value} {g : Nat → Nat} {M : Nat → Nat → Nat} (h : Tab w t n DS 21 g M) : TabR w t n DS M :=
  ⟨h.deg, fun k hk => ⟨g k, (h.glt k hk).1, h.rows k hk, by simp, Nat.le_refl _, fun j hj => ⟨⟨g k, 0, none⟩, rfl, (h.glt k hk).2, by
    have hj' : j < n := by simpa using hj
    have := h.at_ k j hk hj'
    have e : Addr.add ⟨g k, 0, none⟩ j = ⟨g k, j, none⟩ := by
      unfold Addr.add
      split
      · rename_i h0; subst h0; rfl
      · simp
    rw [e, this]
    simp⟩⟩, h.lt⟩
/-- row 0 while it is laid: the first j places -/
def rowZ (j k i : Nat) : Nat := if k = 0 ∧ i < j then 2 ^ i else 0
theorem rowZ_step {j k i : Nat} : (if k = 0 ∧ i = j then 2 ^ j else rowZ j k i) = rowZ (j + 1) k i := by
  unfold rowZ
  by_cases e1 : k = 0 ∧ i = j
  · obtain ⟨rfl, rfl⟩ := e1; simp
  · rw [if_neg e1]
    by_cases e2 : k = 0 ∧ i < j
    · rw [if_pos e2, if_pos ⟨e2.1, by omega⟩]
    · rw [if_neg e2, if_neg]; omega
theorem wrap_two {j : Nat} (h : j ≤ 16) : wrap64 ((2 : Int) ^ j) = ((2 ^ j : Nat) : Int) := by
  have hp : (2 : Nat) ^ j ≤ 2 ^ 16 := Nat.pow_le_pow_right (by decide) h
  have e : (2 : Nat) ^ 16 = 65536 := by decide
  have e2 : ((2 : Int) ^ j) = ((2 ^ j : Nat) : Int) := by push_cast; rfl
  have hpos := Nat.two_pow_pos j
  rw [e2]
  generalize 2 ^ j = m at *
  unfold wrap64
  omega
theorem map_take_succT {act : List (List Int)} {m : Nat} {x : List Int} (h : Hid (act[m]? = some x)) : (act.take (m + 1)).map toT = (act.take m).map toT ++ [toT x] := by
  rw [List.take_add_one, h.out, List.map_append]; rfl
def RetTab (n : Nat) (DS : Value) (M : Nat → Nat → Nat) (w : World) (e : Ending) (w' : World) : Prop := ∃ t, e = .returned (.pointer (some ⟨t, 0, none⟩)) ∧ TabR w' t n DS M ∧ Below w.heap.size w w'
theorem RetTab.mk {n t : Nat} {DS : Value} {M M' : Nat → Nat → Nat} {w w' : World} (h : TabR w' t n DS M') (hm : M' = M) (hb : Below w.heap.size w w') : RetTab n DS M w (.returned (.pointer (some ⟨t, 0, none⟩))) w' := ⟨t, rfl, hm ▸ h, hb⟩

/-- .. and the table's block is new -/
def RetTab2 (n : Nat) (DS : Value) (M : Nat → Nat → Nat) (w : World) (e : Ending) (w' : World) : Prop := ∃ t, e = .returned (.pointer (some ⟨t, 0, none⟩)) ∧ TabR w' t n DS M ∧ Below w.heap.size w w' ∧ w.heap.size ≤ t
theorem RetTab2.mk {n t : Nat} {DS : Value} {M M' : Nat → Nat → Nat} {w w' : World} (h : TabR w' t n DS M') (hm : M' = M) (hb : Below w.heap.size w w') (hl : w.heap.size ≤ t) : RetTab2 n DS M w (.returned (.pointer (some ⟨t, 0, none⟩))) w' := ⟨t, rfl, hm ▸ h, hb, hl⟩
set_option maxRecDepth 100000 in
set_option maxHeartbeats 2000000 in
theorem tableOf_lo (A1 A2 : Option Addr) (n1 c1 n2 c2 : Nat) (ds : List Int) (act : List (List Int)) (w : World) (h : RdMod w A1 n1 c1 ds A2 n2 c2 act) (ht : TabF ds act) (hn2 : n2 ≤ 2000000) :
    Calls Tryz.prog 43 #[.agg #[.slice A1 n1 c1, .slice A2 n2 c2]] w (RetTab2 n1 (.slice A1 n1 c1) (rowF (act.map toT)) w) := by
  obtain ⟨i0, hi, hz0, hz1, hz2⟩ := info_parts Tryz.info_i64
  obtain ⟨w0, b, hw0, hbe, hb0, hz0', hF⟩ := start1 w (.slice A1 n1 c1) (.slice A2 n2 c2) 27
  have HL1 := Lib.hid h.ds.len
  have HL2 := Lib.hid h.act.len
  have H := Lib.hid (h.below hb0)
  have HT := Lib.hid ht
  have HTri := Lib.hid ht.tri
  have Hw := Lib.hid hw0
  have Hbe := Lib.hid hbe
  have Hb0 := Lib.hid hb0
  have F0 := Lib.hid hF
  have HZ := Lib.hid hz0'
  have hn : n1 ≤ 16 := by rw [← h.ds.len]; exact ht.len
  have hmk : ∀ w : World, (Instr.makeSlice 22 (.int .i64 (n1 : Int)) (.int .i64 (n1 : Int))).run Tryz.prog w = .ok (.slice (some ⟨w.heap.size, 0, none⟩) n1 n1) (w.alloc (.cells (madeCells #[.int .i64 0] n1) 2)) := fun w => by
    have h1 := run_make (P := Tryz.prog) (w := w) 22 2 i0 (.int .i64 0) Tryz.underlying22 hi hz0 .i64 .i64 (n1 : Int) (n1 : Int) (by omega) (Int.le_refl _) (by rw [hz2]; omega) (by omega)
    rw [h1, hz1, show ((n1 : Int)).toNat = n1 from by omega, Nat.mul_one]
    rfl
  obtain ⟨R, hR⟩ : ∃ R, R = RetTab2 n1 (.slice A1 n1 c1) (rowF (act.map toT)) w := ⟨_, rfl⟩
  have HR := Lib.hid hR
  rw [← hR]
  have k0 := F0.out.at_ (b := b) (o := 0) (V := .slice A1 n1 c1) (by simp)
  obtain ⟨w1, hw1⟩ : ∃ W, W = w0.alloc (.cells #[.slice A1 n1 c1, .slice none 0 0, .slice none 0 0, .slice none 0 0, .slice none 0 0, .slice none 0 0, .slice none 0 0, .slice none 0 0, .slice none 0 0, .slice none 0 0, .slice none 0 0, .slice none 0 0, .slice none 0 0, .slice none 0 0, .slice none 0 0, .slice none 0 0, .slice none 0 0, .slice none 0 0, .slice none 0 0, .slice none 0 0, .slice none 0 0, .slice none 0 0] 64) := ⟨_, rfl⟩
  have X1 := Lib.hid (show Below w0.heap.size w0 w1 from by rw [hw1]; exact (Below.refl _ _).alloc (Nat.le_refl _) _)
  have T1 := Lib.hid (show Tab w1 (b + 1) n1 (.slice A1 n1 c1) 0 (fun _ => 0) (fun _ _ => 0) from by
    rw [hw1]
    refine ⟨new_at hz0'.symm rfl, fun k hk => absurd hk (by omega), fun k _ hk => new_at hz0'.symm ?_, fun k hk => new_free hz0'.symm, by simp; omega, fun k i hk => absurd hk (by omega), fun k i hk => absurd hk (by omega), fun k hk => absurd hk (by omega), fun k l hk => absurd hk (by omega)⟩
    have : ∀ k, k < 21 → (#[Value.slice A1 n1 c1, .slice none 0 0, .slice none 0 0, .slice none 0 0, .slice none 0 0, .slice none 0 0, .slice none 0 0, .slice none 0 0, .slice none 0 0, .slice none 0 0, .slice none 0 0, .slice none 0 0, .slice none 0 0, .slice none 0 0, .slice none 0 0, .slice none 0 0, .slice none 0 0, .slice none 0 0, .slice none 0 0, .slice none 0 0, .slice none 0 0, .slice none 0 0] : Array Value)[1 + k]? = some (.slice none 0 0) := by
      intro k hk
      rcases k with _ | _ | _ | _ | _ | _ | _ | _ | _ | _ | _ | _ | _ | _ | _ | _ | _ | _ | _ | _ | _ | k
      all_goals first | rfl | omega
    exact this k hk)
  have HW1 := Lib.hid hw1
  clear h ht hw0 hbe hb0 hF hR hw1 hz0' hi hz0 hz1 hz2 i0
  go_enter Tryz.func43, Tryz.ntmps43
  go_wp2_with fail
  rw [← Hw.out, ← Hbe.out]
  go_wp2_with fail
  rw [← HW1.out]
  go_loopw [12] (fun i wr => ∃ (K : Nat) (g : Nat → Nat), K ≤ 21 ∧ i = .int .i64 K ∧ Hid (Tab wr (b + 1) n1 (.slice A1 n1 c1) K g (fun _ _ => 0)) ∧ Hid (Below w0.heap.size w0 wr)) (fun i _ => 21 - (intOf i).toNat)
  case atStart => exact ⟨0, _, by omega, rfl, T1, X1⟩
  case round =>
    clear T1 X1 k0
    obtain ⟨K, g, hK, rfl, HTb, HX⟩ := hrel
    have C := Lib.hid (F0.out.below HX.out)
    have k0 := C.out.at_ (b := b) (o := 0) (V := .slice A1 n1 c1) (by simp)
    by_cases hlt : K < 21
    · have bal := (Below.refl wr.heap.size wr).alloc (Nat.le_refl _) (.cells (madeCells #[.int .i64 0] n1) 2)
      have cK := bcell bal HTb.out.lt (HTb.out.more K (Nat.le_refl _) hlt)
      have fK := bfree bal HTb.out.lt (HTb.out.fr (1 + K) (by omega))
      have HT2 := Lib.hid ((HTb.out.row (T := 2) hlt).below (below_drewN (Below.refl _ _) 1))
      have X2 := Lib.hid (show Below w0.heap.size w0 ((wr.alloc (.cells (madeCells #[.int .i64 0] n1) 2)).setCell ⟨b + 1, 1 + K, none⟩ (.slice (some ⟨wr.heap.size, 0, none⟩) n1 n1)).drew from
        below_drewN ((HX.out.alloc HX.out.size _).setCell (p := ⟨b + 1, 1 + K, none⟩) (by have := HZ.out; simp; omega) _) 1)
      clear bal
      go_wp2_with fail
      go_region
      go_wp2_with fail
      go_roundw
      case rel => exact ⟨K + 1, _, by omega, by go_num, Lib.hid (HT2.out.congr fun k i _ _ => by simp), X2⟩
      case measure => simp [intOf]; omega
    · obtain rfl : K = 21 := by omega
      clear hlt hmk
      go_wp2_with fail
      go_loopw [28] (fun i wr => ∃ j : Nat, j ≤ n1 ∧ i = .int .i64 j ∧ Hid (Tab wr (b + 1) n1 (.slice A1 n1 c1) 21 g (rowZ j)) ∧ Hid (Below w0.heap.size w0 wr)) (fun i _ => n1 - (intOf i).toNat)
      case atStart => exact ⟨0, by omega, rfl, Lib.hid (HTb.out.congr fun k i _ _ => by simp [rowZ]), HX⟩
      case round =>
        clear HTb HX k0
        obtain ⟨j, hj, rfl, HTb, HX⟩ := hrel
        have C := Lib.hid (F0.out.below HX.out)
        have k0 := C.out.at_ (b := b) (o := 0) (V := .slice A1 n1 c1) (by simp)
        by_cases hlt : j < n1
        · have r0 := HTb.out.rows 0 (by omega)
          have c0 := HTb.out.at_ 0 j (by omega) hlt
          have f0 := HTb.out.afr 0 j (by omega) hlt
          have HT2 := Lib.hid ((HTb.out.set (k := 0) (m := 2 ^ j) (by omega) hlt).below (below_drewN (Below.refl _ _) 1))
          have hj' : (j : Int) < (n1 : Int) := by omega
          have hp : (2 : Nat) ^ j ≤ 2 ^ 16 := Nat.pow_le_pow_right (by decide) (by omega)
          have X2 := Lib.hid (show Below w0.heap.size w0 (wr.setCell ⟨g 0, j, none⟩ (.int .i64 ((2 ^ j : Nat) : Int))).drew from
            below_drewN (HX.out.setCell (p := ⟨g 0, j, none⟩) (by have := (HTb.out.glt 0 (by omega)).1; have := HZ.out; simp; omega) _) 1)
          rw [← wrap_two (by omega)] at HT2 X2
          clear hp
          go_wp2_with fail
          go_region
          go_wp2_with fail
          go_roundw
          case rel => exact ⟨j + 1, by omega, by go_num, Lib.hid (HT2.out.congr fun k i _ _ => rowZ_step), X2⟩
          case measure => simp [intOf]; omega
        · obtain rfl : j = n1 := by omega
          have HTb0 := Lib.hid (show Tab wr (b + 1) j (.slice A1 j c1) 21 g (rowF []) from HTb.out.congr fun k i _ hi => by
            unfold rowF rowZ
            by_cases e : k = 0
            · rw [if_pos ⟨e, hi⟩]; simp [e]
            · rw [if_neg (fun h => e h.1)]; simp [e])
          have k1 := C.out.at_ (b := b) (o := 1) (V := .slice A2 n2 c2) (by simp)
          clear hlt HTb
          go_wp2_with fail
          go_loopw [44] (fun i wr => ∃ m : Nat, m ≤ n2 ∧ i = .int .i64 m ∧ Hid (Tab wr (b + 1) j (.slice A1 j c1) 21 g (rowF ((act.take m).map toT))) ∧ Hid (Below w0.heap.size w0 wr)) (fun i _ => n2 - (intOf i).toNat)
          case atStart => exact ⟨0, by omega, rfl, HTb0, HX⟩
          case round =>
            clear HTb0 HX k0 k1
            obtain ⟨m, hm, rfl, HTb, HX⟩ := hrel
            by_cases hlt : m < n2
            · obtain ⟨ad, A', n', c', x, rfl, _, hx, hcx, hrx⟩ := (H.out.below HX.out).act.at_ hlt
              have hxm := List.mem_of_getElem? hx.out
              obtain ⟨hx1, hx2, hx3, hx4, hx5, _⟩ := HT.out.each x hxm
              obtain ⟨a0, a1, a2, htx⟩ : ∃ a0 a1 a2 : Nat, toT x = (a0, a1, a2) := ⟨_, _, _, rfl⟩
              rw [htx] at hx2 hx3 hx4 hx5
              simp only at hx2 hx3 hx4 hx5
              have hxe : x = [(a0 : Int), (a1 : Int), (a2 : Int)] := by rw [hx1, htx]; rfl
              have hn' : n' = 3 := by rw [← hrx.len, hxe]; rfl
              subst hn'
              obtain ⟨ax, y0, rfl, _, hy0, hc0⟩ := hrx.at_ (k := 0) (by omega)
              obtain ⟨ad', y1, had, _, hy1, hc1⟩ := hrx.at_ (k := 1) (by omega)
              obtain rfl : ax = ad' := by simpa using had
              clear had
              obtain ⟨ad', y2, had, _, hy2, hc2⟩ := hrx.at_ (k := 2) (by omega)
              obtain rfl : ax = ad' := by simpa using had
              clear had
              have e0 : y0 = (a0 : Int) := by have := hy0.out; rw [hxe] at this; simpa using this.symm
              have e1 : y1 = (a1 : Int) := by have := hy1.out; rw [hxe] at this; simpa using this.symm
              have e2 : y2 = (a2 : Int) := by have := hy2.out; rw [hxe] at this; simpa using this.symm
              subst e0 e1 e2
              have hc00 : wr.cell? ax = some (.int .i64 (a0 : Int)) := by simpa [Addr.add] using hc0
              simp [Addr.add] at hc1 hc2
              have hl := HL1.out
              have ha1 : a1 < j := by omega
              have ha2 : a2 < j := by omega
              have ha0 : a0 < 21 := by omega
              have r0 := HTb.out.rows a0 ha0
              have c0 := HTb.out.at_ a0 a1 ha0 ha1
              have f0 := HTb.out.afr a0 a1 ha0 ha1
              have hp : (2 : Nat) ^ a2 ≤ 2 ^ 16 := Nat.pow_le_pow_right (by decide) (by omega)
              have e16 : (2 : Nat) ^ 16 = 65536 := by decide
              have hTs : TriF ds ((act.take m).map toT) := by
                have h1 := HTri.out
                have hs : List.Sublist ((act.take m).map toT) (act.map toT) := (List.take_sublist _ _).map _
                exact ⟨h1.len, h1.nodup.sublist hs, fun t ht => h1.each t (hs.subset ht)⟩
              have hrl := hTs.row_lt (k := a0) (i := a1) (by omega)
              have hor : bits .or .i64 ((rowF ((act.take m).map toT) a0 a1 : Nat) : Int) ((2 ^ a2 : Nat) : Int) = ((rowF ((act.take m).map toT) a0 a1 ||| 2 ^ a2 : Nat) : Int) := bits_orN (by omega) (by omega)
              have hor2 : bits .or .i64 ((rowF ((act.take m).map toT) a0 a1 : Nat) : Int) (wrap64 ((2 : Int) ^ a2)) = ((rowF ((act.take m).map toT) a0 a1 ||| 2 ^ a2 : Nat) : Int) := by rw [wrap_two (by omega)]; exact hor
              have HT2 := Lib.hid ((HTb.out.set (k := a0) (i := a1) (m := rowF ((act.take m).map toT) a0 a1 ||| 2 ^ a2) ha0 ha1).below (below_drewN (Below.refl _ _) 1))
              have X2 := Lib.hid (show Below w0.heap.size w0 (wr.setCell ⟨g a0, a1, none⟩ (.int .i64 ((rowF ((act.take m).map toT) a0 a1 ||| 2 ^ a2 : Nat) : Int))).drew from
                below_drewN (HX.out.setCell (p := ⟨g a0, a1, none⟩) (by have := (HTb.out.glt a0 (by omega)).1; have := HZ.out; simp; omega) _) 1)
              have HTX := Lib.hid htx
              have i1 : (a1 : Int) < (j : Int) := by omega
              have i0 : (a0 : Int) < 21 := by omega
              obtain ⟨v, hv⟩ : ∃ v, v = rowF ((act.take m).map toT) a0 a1 := ⟨_, rfl⟩
              rw [← hv] at c0 hor hor2 HT2 X2
              have HVv := Lib.hid hv
              clear hx1 hx2 hx3 hx4 hx5 hxe hrx hy0 hy1 hy2 hc0 hl hp e16 hTs hrl htx hxm hv
              go_wp2_with fail
              go_region
              go_wp2_with fail
              go_roundw
              case rel => exact ⟨m + 1, by omega, by go_num, Lib.hid (HT2.out.congr fun k i _ _ => by
                rw [map_take_succT hx, rowF_snoc, HTX.out]
                unfold rowS
                by_cases e1 : k = a0 ∧ i = a1
                · obtain ⟨rfl, rfl⟩ := e1; simp [HVv.out]
                · rw [if_neg e1, if_neg]; rintro ⟨h1, h2⟩; exact e1 ⟨h1.symm, h2.symm⟩), X2⟩
              case measure => simp [intOf]; omega
            · obtain rfl : m = n2 := by omega
              have HTe := Lib.hid (show TabR wr (b + 1) j (.slice A1 j c1) (rowF (act.map toT)) from by
                have := HTb.out.rd
                rwa [List.take_of_length_le (by rw [HL2.out]; exact Nat.le_refl _)] at this)
              go_wp2_with fail
              rw [HR.out]
              exact RetTab2.mk HTe.out rfl (Hb0.out.trans (HX.out.mono Hb0.out.size)) (by rw [← Hbe.out]; exact Nat.le_succ b)
theorem tableOf_any (A1 A2 : Option Addr) (n1 c1 n2 c2 : Nat) (ds : List Int) (act : List (List Int)) (w : World) (h : RdMod w A1 n1 c1 ds A2 n2 c2 act) (ht : TabF ds act) (hn2 : n2 ≤ 2000000) :
    Calls Tryz.prog 43 #[.agg #[.slice A1 n1 c1, .slice A2 n2 c2]] w (RetTab n1 (.slice A1 n1 c1) (rowF (act.map toT)) w) := (tableOf_lo A1 A2 n1 c1 n2 c2 ds act w h ht hn2).mono fun e w' ⟨t, he, hT, hb, _⟩ => ⟨t, he, hT, hb⟩
end Go.Proofs.YtejojliljplcdaaGreatDoor

/- Reading the table: times, square. -/
namespace Go.Proofs.YtejojliljplcdaaGreatDoor
open Go.RowKit
set_option linter.unusedVariables false

theorem bits_xorN {a b : Nat} (ha : a < 9223372036854775808) (hb : b < 9223372036854775808) : bits .xor .i64 (a : Int) (b : Int) = ((a ^^^ b : Nat) : Int) := by
  have hx : a ^^^ b < 2 ^ 63 := Nat.xor_lt_two_pow (by omega) (by omega)
  show IntKind.i64.wrap ((BitVec.ofInt 64 (a : Int) ^^^ BitVec.ofInt 64 (b : Int)).toNat : Int) = _
  rw [BitVec.toNat_xor, ofInt_nat ha, ofInt_nat hb, IntKind.wrap_i64]
  omega
theorem bit_at {x i : Nat} (hx : x < 9223372036854775808) : bits .and .i64 ((x : Int) / 2 ^ i) 1 = if x.testBit i = true then 1 else 0 := by
  have e : ((x : Int) / 2 ^ i) = ((x / 2 ^ i : Nat) : Int) := by push_cast; rfl
  have h1 : x / 2 ^ i ≤ x := Nat.div_le_self _ _
  rw [e, show (1 : Int) = ((1 : Nat) : Int) from rfl, bits_andN (by omega) (by decide), Nat.and_one_is_mod, Nat.testBit_eq_decide_div_mod_eq]
  by_cases h : x / 2 ^ i % 2 = 1
  · rw [h]; simp
  · have h0 : x / 2 ^ i % 2 = 0 := by omega
    rw [h0]; simp
theorem xorN_lt {n : Nat} {f : Nat → Nat} : ∀ m : Nat, (∀ i, i < m → f i < 2 ^ n) → xorN m f < 2 ^ n
  | 0, _ => Nat.two_pow_pos n
  | m + 1, h => xor_lt (xorN_lt m fun i hi => h i (by omega)) (h m (Nat.lt_succ_self _))
theorem pickF_lt {v i : Nat} {f : Nat → Nat} (h : f i < 65536) : pickF v f i < 65536 := by
  unfold pickF
  split
  · exact h
  · decide

set_option maxRecDepth 100000 in
theorem times_any (x n : Nat) (A : Option Addr) (c B : Nat) (f : Nat → Nat) (w : World) (h : RdS w B A n c ((List.range n).map fun i => ((f i : Nat) : Int))) (hx : x < 65536) (hf : ∀ i, i < n → f i < 65536) (hn : n ≤ 16) :
    Calls Tryz.prog 102 #[.int .i64 (x : Nat), .slice A n c] w (RetI (xorN n (pickF x f) : Nat) w) := by
  have H := Lib.hid h
  have HF := Lib.hid hf
  have HL := Lib.hid (show ∀ k, k ≤ n → xorN k (pickF x f) < 65536 from fun k hk => by
    have e : (2 : Nat) ^ 16 = 65536 := by decide
    rw [← e]
    exact xorN_lt k fun i hi => by rw [e]; exact pickF_lt (hf i (by omega)))
  clear h hf
  go_enter Tryz.func102, Tryz.ntmps102
  go_wp2_with fail
  go_loop [5, 10] (fun t i => ∃ (k s : Nat), k ≤ n ∧ i = .int .i64 k ∧ t = .int .i64 s ∧ Hid (s = xorN k (pickF x f))) (fun _ i => n - (intOf i).toNat)
  case atStart => exact ⟨0, 0, Nat.zero_le _, rfl, rfl, Lib.hid rfl⟩
  case round =>
    obtain ⟨k, s, hk, rfl, rfl, HS⟩ := hrel
    by_cases hlt : k < n
    · obtain ⟨ad, y, rfl, _, hy, hc⟩ := H.out.at_ hlt
      obtain rfl : y = ((f k : Nat) : Int) := by
        have := hy.out
        simp [hlt] at this
        exact this.symm
      have hfk := HF.out k hlt
      have hs := HL.out k hk
      rw [← HS.out] at hs
      have hb := bit_at (x := x) (i := k) (by omega)
      by_cases hv : x.testBit k = true
      · rw [if_pos hv] at hb
        have hxo := bits_xorN (a := s) (b := f k) (by omega) (by omega)
        have HN := Lib.hid (show s ^^^ f k = xorN (k + 1) (pickF x f) from by rw [xorN, pickF_yes hv, HS.out])
        clear hv
        go_wp2_with fail
        go_round
        case rel => exact ⟨k + 1, s ^^^ f k, by omega, by go_num, rfl, HN⟩
        case measure => simp [intOf]; omega
      · rw [if_neg hv] at hb
        have HN := Lib.hid (show s = xorN (k + 1) (pickF x f) from by rw [xorN, pickF_no hv, HS.out, Nat.xor_zero])
        clear hv
        go_wp2_with fail
        go_round
        case rel => exact ⟨k + 1, s, by omega, by go_num, rfl, HN⟩
        case measure => simp [intOf]; omega
    · obtain rfl : k = n := by omega
      have HS2 := Lib.hid (congrArg (fun m : Nat => (m : Int)) HS.out)
      go_wp2_with fail
      go_ret
      exact RetI.mk HS2.out

/-- Sq^k of a mask, read off the table -/
theorem tsquare_any (t n k v : Nat) (DS : Value) (M : Nat → Nat → Nat) (w : World) (h : TabR w t n DS M) (hM : ∀ k i, i < n → M k i < 65536) (hk : k ≤ 20) (hv : v < 65536) (hn : n ≤ 16) :
    Calls Tryz.prog 67 #[.pointer (some ⟨t, 0, none⟩), .int .i64 (k : Nat), .int .i64 (v : Nat)] w (RetI (xorN n (pickF v (M k)) : Nat) w) := by
  obtain ⟨g, _, hc, hr⟩ := h.row k (by omega)
  have HT := Lib.hid (times_any v n (some ⟨g, 0, none⟩) n _ (M k) w hr hv (hM k) hn)
  have hkd : decide ((20 : Int) < (k : Int)) = false := by simp; omega
  have hk21 : (k : Int) < 21 := by omega
  clear hr h
  go_enter Tryz.func67, Tryz.ntmps67
  go_wp2_with fail
  refine HT.out.mono ?_
  rintro e w' ⟨rfl, rfl⟩
  go_wp2_with fail
  go_ret
  exact RetI.mk rfl

def relP (a b m : Nat) : List Nat := (List.range m).filter fun j => (b - 1 - j) &&& (a - 2 * j) == a - 2 * j
def natL (l : List Nat) : List Int := l.map fun j => ((j : Nat) : Int)
theorem relP_yes {a b m : Nat} (h : ((b - 1 - m) &&& (a - 2 * m) == a - 2 * m) = true) : relP a b (m + 1) = relP a b m ++ [m] := by
  unfold relP
  rw [List.range_succ, List.filter_append]
  simp only [List.filter_cons, h, List.filter_nil, if_true]
theorem relP_no {a b m : Nat} (h : ((b - 1 - m) &&& (a - 2 * m) == a - 2 * m) = false) : relP a b (m + 1) = relP a b m := by
  unfold relP
  rw [List.range_succ, List.filter_append]
  simp [h]
theorem relP_len (a b m : Nat) : (relP a b m).length ≤ m := by
  have := List.length_filter_le (fun j => (b - 1 - j) &&& (a - 2 * j) == a - 2 * j) (List.range m)
  rw [List.length_range] at this
  exact this
set_option maxRecDepth 100000 in
theorem relation_any (a b : Nat) (w : World) (hb : a / 2 + 1 ≤ b) (h1 : a ≤ 1000) (h2 : b ≤ 1000) :
    Calls Tryz.prog 119 #[.int .i64 (a : Nat), .int .i64 (b : Nat)] w (RetO (relF a b).length (natL (relF a b)) w) := by
  obtain ⟨R, hR⟩ : ∃ R, R = RetO (relF a b).length (natL (relF a b)) w := ⟨_, rfl⟩
  have HR := Lib.hid hR
  rw [← hR]
  clear hR
  have S0 := Lib.hid (StS.start (Below.refl w.heap.size w) (Nat.le_refl _))
  go_enter Tryz.func119, Tryz.ntmps119
  go_wp2_with fail
  go_loopw [5, 6] (fun v i wr => ∃ (m l c : Nat) (A : Option Addr) (P : List Nat), m ≤ a / 2 + 1 ∧ i = .int .i64 m ∧ v = .slice A l c ∧ Hid (P = relP a b m) ∧ Hid (l = P.length) ∧ Hid (StS w w.heap.size wr A l c (natL P))) (fun _ i _ => a + 1 - (intOf i).toNat)
  case atStart => exact ⟨0, 0, _, _, [], by omega, rfl, rfl, Lib.hid rfl, Lib.hid rfl, S0⟩
  case round =>
    clear S0
    obtain ⟨m, l, c, A, P, hm, rfl, rfl, HP, HL, HS⟩ := hrel
    have hw1 : IntKind.i64.wrap (2 * (m : Int)) = 2 * (m : Int) := by rw [IntKind.wrap_i64]; omega
    by_cases hlt : m < a / 2 + 1
    · have hle : (2 * (m : Int)) ≤ (a : Int) := by omega
      have hw2 : IntKind.i64.wrap ((b : Int) - (m : Int)) = (b : Int) - (m : Int) := by rw [IntKind.wrap_i64]; omega
      have hw3 : IntKind.i64.wrap ((b : Int) - (m : Int) - 1) = ((b - 1 - m : Nat) : Int) := by rw [IntKind.wrap_i64]; omega
      have hw4 : IntKind.i64.wrap ((a : Int) - 2 * (m : Int)) = ((a - 2 * m : Nat) : Int) := by rw [IntKind.wrap_i64]; omega
      have hand := bits_andN (a := b - 1 - m) (b := a - 2 * m) (by omega) (by omega)
      have hll : l ≤ 1001 := by have h3 := relP_len a b m; rw [← HP.out, ← HL.out] at h3; omega
      obtain ⟨p, hp⟩ : ∃ p, p = (b - 1 - m) &&& (a - 2 * m) := ⟨_, rfl⟩
      obtain ⟨q, hq⟩ : ∃ q, q = a - 2 * m := ⟨_, rfl⟩
      obtain ⟨s, hs⟩ : ∃ s, s = b - 1 - m := ⟨_, rfl⟩
      rw [← hp, ← hs, ← hq] at hand
      rw [← hs] at hw3
      rw [← hq] at hw4
      have HQ := Lib.hid (show ((b - 1 - m) &&& (a - 2 * m) == a - 2 * m) = (p == q) from by rw [hp, hq])
      clear hp hq hs
      by_cases he : p = q
      · have hb1 : ((p : Int) == (q : Int)) = true := by simp [he]
        have hb2 : (p == q) = true := by simpa using he
        have HN := Lib.hid (show P ++ [m] = relP a b (m + 1) from by rw [relP_yes (by rw [HQ.out]; exact hb2), HP.out])
        clear he
        go_wp2_with (at_builtin; refine wpList_pushI rfl (.tmp 29) (.tmp 31) rfl rfl rfl HS.out (by omega) ?_)
        intro A6 c6 w6 hs6 _
        have HS6 := Lib.hid hs6
        clear hs6
        go_wp2_with fail
        go_roundw
        case rel => exact ⟨m + 1, l + 1, c6, A6, P ++ [m], by omega, by go_num, rfl, HN, Lib.hid (by rw [HL.out]; simp), Lib.hid (by have := HS6.out; unfold natL at this ⊢; rw [List.map_append]; exact this)⟩
        case measure => simp [intOf]; omega
      · have hb1 : ((p : Int) == (q : Int)) = false := by simp; omega
        have hb2 : (p == q) = false := by simpa using he
        have HN := Lib.hid (show P = relP a b (m + 1) from by rw [relP_no (by rw [HQ.out]; exact hb2), HP.out])
        clear he
        go_wp2_with fail
        go_roundw
        case rel => exact ⟨m + 1, l, c, A, P, by omega, by go_num, rfl, HN, HL, HS⟩
        case measure => simp [intOf]; omega
    · obtain rfl : m = a / 2 + 1 := by omega
      have hle : ¬ (2 * ((a / 2 + 1 : Nat) : Int)) ≤ (a : Int) := by omega
      obtain ⟨m2, hm2⟩ : ∃ m2, m2 = a / 2 + 1 := ⟨_, rfl⟩
      rw [← hm2] at hle hw1 HP ⊢
      have HM := Lib.hid hm2
      clear hm hm2 hlt
      have HF := Lib.hid (show P = relF a b from by rw [HP.out, HM.out]; rfl)
      go_wp2_with fail
      rw [HR.out, ← HF.out]
      exact RetO.mk2 HL.out rfl HS.out
end Go.Proofs.YtejojliljplcdaaGreatDoor

/- The walk of fault. -/
namespace Go.Proofs.YtejojliljplcdaaGreatDoor
open Go.RowKit
set_option linter.unusedVariables false

/-- a slice that is nil exactly if b holds -/
def RetNil (b : Bool) (w : World) (e : Ending) (w' : World) : Prop := Below w.heap.size w w' ∧ ((b = true ∧ e = .returned (.slice none 0 0)) ∨ (b = false ∧ ∃ g k c, 0 < k ∧ e = .returned (.slice (some g) k c)))
theorem RetNil.nil {b : Bool} {w w' : World} (h : b = true) (hb : Below w.heap.size w w') : RetNil b w (.returned (.slice none 0 0)) w' := ⟨hb, .inl ⟨h, rfl⟩⟩
theorem RetNil.some {b : Bool} {w w' : World} {g : Addr} {k c : Nat} (h : b = false) (hk : 0 < k) (hb : Below w.heap.size w w') : RetNil b w (.returned (.slice (some g) k c)) w' := ⟨hb, .inr ⟨h, g, k, c, hk, rfl⟩⟩
open Classical in
noncomputable def noFB (T : List Tri) (n N : Nat) : Bool := decide (noF T n N)
theorem noFB_yes {T : List Tri} {n N : Nat} (h : noF T n N) : noFB T n N = true := by unfold noFB; exact @decide_eq_true _ (Classical.propDecidable _) h
theorem noFB_no {T : List Tri} {n N : Nat} (h : ¬ noF T n N) : noFB T n N = false := by unfold noFB; exact @decide_eq_false _ (Classical.propDecidable _) h

/-- no fault ahead of a place -/
def nb (T : List Tri) (n N a b v : Nat) : Prop := ∀ a' b' v', 1 ≤ a' → a' / 2 + 1 ≤ b' → a' + b' ≤ N → v' < n → (a' < a ∨ a' = a ∧ (b' < b ∨ b' = b ∧ v' < v)) → badX T n a' b' v' = 0
section
variable {T : List Tri} {n N a b v : Nat}
theorem nb.start : nb T n N 1 0 0 := fun a' b' v' h1 h2 h3 h4 h5 => by omega
theorem nb.inB (h : nb T n N a 0 0) : nb T n N a (a / 2 + 1) 0 := fun a' b' v' h1 h2 h3 h4 h5 => by
  refine h a' b' v' h1 h2 h3 h4 ?_
  rcases h5 with h5 | ⟨rfl, h5⟩
  · exact .inl h5
  · exfalso; omega
theorem nb.step (h : nb T n N a b v) (hb : badX T n a b v = 0) : nb T n N a b (v + 1) := fun a' b' v' h1 h2 h3 h4 h5 => by
  by_cases e : a' = a ∧ b' = b ∧ v' = v
  · obtain ⟨rfl, rfl, rfl⟩ := e; exact hb
  · refine h a' b' v' h1 h2 h3 h4 ?_
    omega
theorem nb.nextB (h : nb T n N a b n) : nb T n N a (b + 1) 0 := fun a' b' v' h1 h2 h3 h4 h5 => h a' b' v' h1 h2 h3 h4 (by omega)
theorem nb.nextA (h : nb T n N a b 0) (hab : N < a + b) : nb T n N (a + 1) 0 0 := fun a' b' v' h1 h2 h3 h4 h5 => h a' b' v' h1 h2 h3 h4 (by omega)
theorem nb.all (h : nb T n N a 0 0) (ha : N ≤ a) : noF T n N := fun a' b' v' h1 h2 h3 h4 => h a' b' v' h1 h2 h3 h4 (by omega)
theorem nb.hit (h1 : 1 ≤ a) (h2 : a / 2 + 1 ≤ b) (h3 : a + b ≤ N) (h4 : v < n) (hb : badX T n a b v ≠ 0) : ¬ noF T n N := fun h => hb (h a b v h1 h2 h3 h4)
end
theorem TriF.sq16 {ds : List Int} {T : List Tri} (h : TriF ds T) (k v : Nat) : sqF T ds.length k v < 65536 := by
  have e : (2 : Nat) ^ 16 = 65536 := by decide
  unfold sqF
  rw [← e]
  exact xorN_lt _ fun i hi => by rw [e]; exact pickF_lt (h.row_lt hi)

set_option maxRecDepth 100000 in
set_option maxHeartbeats 4000000 in
theorem fault_any (t n c : Nat) (A : Option Addr) (ds : List Int) (T : List Tri) (w : World) (h : TabR w t n (.slice A n c) (rowF T)) (hT : TriF ds T) (hl : ds.length = n) :
    Calls Tryz.prog 82 #[.pointer (some ⟨t, 0, none⟩)] w (RetNil (noFB T n 20) w) := by
  subst hl
  have hn := hT.len
  have H := Lib.hid h
  have HT := Lib.hid hT
  have HSQ := fun (k v : Nat) (W : World) (hB : Below w.heap.size w W) (hk : k ≤ 20) (hv : v < 65536) => Lib.hid (show Calls Tryz.prog 67 #[.pointer (some ⟨t, 0, none⟩), .int .i64 (k : Nat), .int .i64 (v : Nat)] W (RetI (sqF T ds.length k v : Nat) W) from
    tsquare_any t ds.length k v _ (rowF T) W (H.out.below hB) (fun k i hi => hT.row_lt hi) hk hv hn)
  obtain ⟨n, hnn⟩ : ∃ n, n = ds.length := ⟨_, rfl⟩
  have HS16 := Lib.hid (show ∀ k v, sqF T n k v < 65536 from by rw [hnn]; exact hT.sq16)
  rw [← hnn] at H HSQ hn ⊢
  clear h hT hnn
  obtain ⟨R, hR⟩ : ∃ R, R = RetNil (noFB T n 20) w := ⟨_, rfl⟩
  have HR := Lib.hid hR
  rw [← hR]
  clear hR
  go_enter Tryz.func82, Tryz.ntmps82
  go_wp2_with fail
  go_loopw [3] (fun i wr => ∃ a : Nat, 1 ≤ a ∧ a ≤ 21 ∧ i = .int .i64 a ∧ Hid (nb T n 20 a 0 0) ∧ Hid (Below w.heap.size w wr)) (fun i _ => 21 - (intOf i).toNat)
  case atStart => exact ⟨1, by omega, by omega, rfl, Lib.hid nb.start, Lib.hid (Below.refl _ _)⟩
  case round =>
    obtain ⟨a, ha1, ha2, rfl, HN, HX⟩ := hrel
    by_cases hlt : a ≤ 20
    · obtain ⟨b0, hb0⟩ : ∃ b0, b0 = a / 2 + 1 := ⟨_, rfl⟩
      have hb02 : b0 ≤ 11 := by omega
      have HN2 := Lib.hid (show nb T n 20 a b0 0 from by rw [hb0]; exact HN.out.inB)
      have HB0 := Lib.hid hb0
      have HB1 := Lib.hid (show ((a : Int) / 2 + 1) = (b0 : Int) from by omega)
      obtain ⟨wz, hwz⟩ : ∃ W, W = wr := ⟨_, rfl⟩
      clear hb0 HN hwz
      go_wp2_with fail
      go_loopw [4] (fun i wr => ∃ b : Nat, b0 ≤ b ∧ b ≤ 21 ∧ i = .int .i64 b ∧ Hid (nb T n 20 a b 0) ∧ Hid (Below w.heap.size w wr)) (fun i _ => 21 - (intOf i).toNat)
      case atStart => exact ⟨b0, Nat.le_refl _, by omega, by rw [HB1.out], HN2, HX⟩
      case round =>
        clear HN2 HX
        obtain ⟨b, hb1, hb2, rfl, HN, HX⟩ := hrel
        have hwab : IntKind.i64.wrap ((a : Int) + (b : Int)) = (a : Int) + (b : Int) := by rw [IntKind.wrap_i64]; omega
        by_cases hab : a + b ≤ 20
        · have habd : decide ((a : Int) + (b : Int) ≤ 20) = true := by simp; omega
          have HRl := Lib.hid (relation_any a b wr (by have := HB0.out; omega) (by omega) (by omega))
          go_wp2_with fail
          refine HRl.out.mono ?_
          rintro e w1 ⟨Aj, cj, rfl, hoj, hbj⟩
          have X1 := Lib.hid (HX.out.trans (hbj.mono HX.out.size))
          have HJ := Lib.hid (show RdS w1 w1.heap.size Aj (relF a b).length cj (natL (relF a b)) from hoj.rd)
          obtain ⟨js, hjs⟩ : ∃ js, js = relF a b := ⟨_, rfl⟩
          rw [← hjs] at HJ ⊢
          have HJS := Lib.hid hjs
          obtain ⟨lj, hlj⟩ : ∃ lj, lj = js.length := ⟨_, rfl⟩
          rw [← hlj] at HJ ⊢
          have HLJ := Lib.hid hlj
          have hlj11 : lj ≤ 11 := by
            have := relP_len a b (a / 2 + 1)
            have e : js.length = (relP a b (a / 2 + 1)).length := by rw [HJS.out]; rfl
            omega
          have HTb := Lib.hid (H.out.below X1.out)
          have kt := HTb.out.deg
          clear hoj hbj HX hjs hlj HRl
          go_wp2_with fail
          go_loop [31] (fun i => ∃ v : Nat, v ≤ n ∧ i = .int .i64 v ∧ Hid (nb T n 20 a b v)) (fun i => n - (intOf i).toNat)
          case atStart => exact ⟨0, Nat.zero_le _, rfl, HN⟩
          case round =>
            clear HN
            obtain ⟨v, hv, rfl, HN⟩ := hrel
            by_cases hvn : v < n
            · obtain ⟨p2, hp2⟩ : ∃ p2, p2 = 2 ^ v := ⟨_, rfl⟩
              have hw2 : wrap64 ((2 : Int) ^ v) = (p2 : Int) := by rw [wrap_two (by omega), hp2]
              have hp16 : p2 < 65536 := by
                rw [hp2]
                have : (2 : Nat) ^ v < 2 ^ 16 := Nat.pow_lt_pow_right (by decide) (by omega)
                have e : (2 : Nat) ^ 16 = 65536 := by decide
                omega
              have HP2 := Lib.hid hp2
              have C1 := HSQ b p2 w1 X1.out (by omega) hp16
              obtain ⟨y, hy⟩ : ∃ y, y = sqF T n b p2 := ⟨_, rfl⟩
              have hy16 : y < 65536 := by rw [hy]; exact HS16.out b p2
              rw [← hy] at C1
              have C2 := HSQ a y w1 X1.out hlt hy16
              obtain ⟨z, hz⟩ : ∃ z, z = sqF T n a y := ⟨_, rfl⟩
              rw [← hz] at C2
              have hz16 : z < 65536 := by rw [hz]; exact HS16.out a y
              have HZ := Lib.hid (show z = sqF T n a (sqF T n b (2 ^ v)) from by rw [hz, hy, hp2])
              clear hy hz hp2
              go_wp2_with fail
              refine C1.out.mono ?_
              rintro e w2 ⟨rfl, h2⟩
              rw [h2]
              clear h2
              go_wp2_with fail
              refine C2.out.mono ?_
              rintro e w3 ⟨rfl, h3⟩
              rw [h3]
              clear h3
              go_wp2_with fail
              go_loop [7, 44] (fun x i => ∃ (m s : Nat), m ≤ lj ∧ i = .int .i64 m ∧ x = .int .i64 s ∧ Hid (s = z ^^^ xorL (fun j => sqF T n (a + b - j) (sqF T n j (2 ^ v))) (js.take m)) ∧ Hid (s < 65536)) (fun _ i => lj - (intOf i).toNat)
              case atStart => exact ⟨0, z, Nat.zero_le _, rfl, rfl, Lib.hid (by simp [xorL]), Lib.hid hz16⟩
              case round =>
                obtain ⟨m, s, hm, rfl, rfl, HS, HS6⟩ := hrel
                by_cases hmj : m < lj
                · obtain ⟨ad, yj, rfl, _, hyj, hcj⟩ := HJ.out.at_ hmj
                  obtain ⟨j, hj1, hj2⟩ : ∃ j : Nat, js[m]? = some j ∧ yj = (j : Int) := by
                    have := hyj.out
                    unfold natL at this
                    rw [List.getElem?_map] at this
                    cases hq : js[m]? with
                    | none => rw [hq] at this; cases this
                    | some j => rw [hq] at this; exact ⟨j, rfl, by simpa using this.symm⟩
                  subst hj2
                  have hj3 := relF_mem (a := a) (b := b) (j := j) (by rw [← HJS.out]; exact List.mem_of_getElem? hj1)
                  have hwj : IntKind.i64.wrap ((a : Int) + (b : Int) - (j : Int)) = ((a + b - j : Nat) : Int) := by rw [IntKind.wrap_i64]; omega
                  have D1 := HSQ j p2 w1 X1.out (by omega) hp16
                  obtain ⟨y1, hy1⟩ : ∃ y, y = sqF T n j p2 := ⟨_, rfl⟩
                  have hy116 : y1 < 65536 := by rw [hy1]; exact HS16.out j p2
                  rw [← hy1] at D1
                  have D2 := HSQ (a + b - j) y1 w1 X1.out (by omega) hy116
                  obtain ⟨k2, hk2⟩ : ∃ k2, k2 = a + b - j := ⟨_, rfl⟩
                  rw [← hk2] at D2 hwj
                  obtain ⟨z1, hz1⟩ : ∃ z, z = sqF T n k2 y1 := ⟨_, rfl⟩
                  rw [← hz1] at D2
                  have hz116 : z1 < 65536 := by rw [hz1]; exact HS16.out _ _
                  have hxo := bits_xorN (a := s) (b := z1) (by have := HS6.out; omega) (by omega)
                  have HS2 := Lib.hid (show s ^^^ z1 = z ^^^ xorL (fun j => sqF T n (a + b - j) (sqF T n j (2 ^ v))) (js.take (m + 1)) from by
                    rw [List.take_add_one, hj1]
                    simp only [Option.toList_some]
                    rw [xorL_snoc, ← Nat.xor_assoc, ← HS.out, hz1, hk2, hy1, HP2.out])
                  have HS62 := Lib.hid (show s ^^^ z1 < 65536 from by
                    have e : (2 : Nat) ^ 16 = 65536 := by decide
                    have := HS6.out
                    rw [← e] at this hz116 ⊢
                    exact xor_lt this hz116)
                  clear hy1 hz1 hk2 hj1 hyj hj3
                  go_wp2_with fail
                  refine D1.out.mono ?_
                  rintro e w4 ⟨rfl, h4⟩
                  rw [h4]
                  clear h4
                  go_wp2_with fail
                  refine D2.out.mono ?_
                  rintro e w5 ⟨rfl, h5⟩
                  rw [h5]
                  clear h5
                  go_wp2_with fail
                  go_round
                  case rel => exact ⟨m + 1, s ^^^ z1, by omega, by go_num, rfl, HS2, HS62⟩
                  case measure => simp [intOf]; omega
                · obtain rfl : m = lj := by omega
                  have HX2 := Lib.hid (show s = badX T n a b v from by
                    rw [HS.out, List.take_of_length_le (by rw [HLJ.out]; exact Nat.le_refl _), HZ.out, HJS.out]; rfl)
                  by_cases hs0 : s = 0
                  · have HN2 := Lib.hid (HN.out.step (by rw [← HX2.out]; exact hs0))
                    have hs1 : ((s : Int) == 0) = true := by simp [hs0]
                    have hs2 : ((s : Int) != 0) = false := by simp [hs0]
                    have hs3 : (s == 0) = true := by simp [hs0]
                    clear hs0
                    go_wp2_with fail
                    go_round
                    case rel => exact ⟨v + 1, by omega, by go_num, HN2⟩
                    case measure => simp [intOf]; omega
                  · have HF := Lib.hid (noFB_no (nb.hit ha1 (by have := HB0.out; omega) hab hvn (by rw [← HX2.out]; exact hs0)))
                    have hs1 : ((s : Int) == 0) = false := by simp; omega
                    have hs2 : ((s : Int) != 0) = true := by simp; omega
                    have hs3 : (s == 0) = false := by simp; omega
                    clear hs0
                    go_wp2_with fail
                    rw [HR.out]
                    exact RetNil.some HF.out (by omega) (X1.out.alloc X1.out.size _)
            · obtain rfl : v = n := by omega
              have HN2 := Lib.hid HN.out.nextB
              go_wp2_with fail
              go_roundw
              case rel => first | exact ⟨b + 1, by omega, by omega, by go_num, HN2, X1⟩ | exact ⟨b + 1, by omega, by omega, by omega, HN2⟩
              case measure => simp [intOf]; omega
        · have habd : decide ((a : Int) + (b : Int) ≤ 20) = false := by simp; omega
          have HN2 := Lib.hid (HN.out.nextA (by omega))
          go_wp2_with fail
          go_roundw
          case rel => exact ⟨a + 1, by omega, by omega, by go_num, HN2, HX⟩
          case measure => simp [intOf]; omega
    · obtain rfl : a = 21 := by omega
      have HF := Lib.hid (noFB_yes (HN.out.all (by omega)))
      go_wp2_with fail
      rw [HR.out]
      exact RetNil.nil HF.out HX.out
end Go.Proofs.YtejojliljplcdaaGreatDoor
