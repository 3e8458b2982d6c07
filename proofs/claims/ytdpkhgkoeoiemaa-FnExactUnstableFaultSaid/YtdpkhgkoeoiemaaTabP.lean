/- Plain: the table of squares of a module, and the action, as masks. -/
import Derived.Test.YtdpkhgkoeoiemaaModR
import Derived.Test.YtdpkhgkoeoiemaaPar
namespace Go.Proofs.Ytdpkhgkoeoiemaa
open Go.RowKit
set_option linter.unusedVariables false

abbrev Tri := Nat × Nat × Nat
def toT (x : List Int) : Tri := ((x[0]?.getD 0).toNat, (x[1]?.getD 0).toNat, (x[2]?.getD 0).toNat)
def ofT (t : Tri) : List Int := [(t.1 : Int), (t.2.1 : Int), (t.2.2 : Int)]
theorem toT_ofT (t : Tri) : toT (ofT t) = t := by simp [toT, ofT]
/-- what tabB tells -/
structure TabF (ds : List Int) (act : List (List Int)) : Prop where
  len : ds.length ≤ 16
  stem : ∀ d ∈ ds, 0 ≤ d ∧ d ≤ 20
  sort : sortB ds = true
  each : ∀ x ∈ act, x = ofT (toT x) ∧ 1 ≤ (toT x).1 ∧ (toT x).1 ≤ 20 ∧ (toT x).2.1 < ds.length ∧ (toT x).2.2 < ds.length ∧ ds[(toT x).2.2]?.getD 0 = ds[(toT x).2.1]?.getD 0 + (toT x).1
  nodup : (act.map toT).Nodup
  asc : Asc act
theorem map_nodup_of {α β : Type} {f : α → β} : ∀ {l : List α}, (∀ x ∈ l, ∀ y ∈ l, f x = f y → x = y) → l.Nodup → (l.map f).Nodup
  | [], _, _ => by simp
  | x :: l, h, hn => by
    rw [List.nodup_cons] at hn
    rw [List.map_cons, List.nodup_cons]
    refine ⟨fun hm => ?_, map_nodup_of (fun a ha b hb => h a (List.mem_cons_of_mem _ ha) b (List.mem_cons_of_mem _ hb)) hn.2⟩
    obtain ⟨y, hy, e⟩ := List.mem_map.1 hm
    have := h y (List.mem_cons_of_mem _ hy) x (by simp) e
    subst this
    exact hn.1 hy
theorem tabF_of {ds : List Int} {act : List (List Int)} (h : tabB ds act = true) : TabF ds act := by
  simp only [tabB, Bool.and_eq_true, decide_eq_true_eq, List.all_eq_true] at h
  obtain ⟨⟨⟨⟨h1, h2⟩, h3⟩, h4⟩, h5⟩ := h
  have he : ∀ x ∈ act, x = ofT (toT x) ∧ 1 ≤ (toT x).1 ∧ (toT x).1 ≤ 20 ∧ (toT x).2.1 < ds.length ∧ (toT x).2.2 < ds.length ∧ ds[(toT x).2.2]?.getD 0 = ds[(toT x).2.1]?.getD 0 + (toT x).1 := by
    intro x hx
    have h6 := h5 x hx
    unfold trB at h6
    split at h6
    · rename_i a0 a1 a2
      simp only [Bool.and_eq_true, decide_eq_true_eq] at h6
      obtain ⟨⟨⟨g0, g1⟩, g2⟩, g3⟩ := h6
      have g0 := inB_iff.1 g0
      have g1 := inB_iff.1 g1
      have g2 := inB_iff.1 g2
      refine ⟨?_, ?_, ?_, ?_, ?_, ?_⟩
      · simp only [toT, ofT, List.getElem?_cons_zero, List.getElem?_cons_succ, Option.getD_some]
        rw [Int.toNat_of_nonneg (by omega), Int.toNat_of_nonneg (by omega), Int.toNat_of_nonneg (by omega)]
      · simp [toT]; omega
      · simp [toT]; omega
      · simp [toT]; omega
      · simp [toT]; omega
      · simp only [toT, List.getElem?_cons_zero, List.getElem?_cons_succ, Option.getD_some]
        rw [Int.toNat_of_nonneg (by omega : 0 ≤ a0)]
        exact g3
    · cases h6
  have ha := asc_risB.1 h4
  refine ⟨h1, stem_mem h2, h3, he, map_nodup_of (fun x hx y hy e => ?_) (asc_nodup ha), ha⟩
  rw [(he x hx).1, (he y hy).1, e]

def xorN : Nat → (Nat → Nat) → Nat
  | 0, _ => 0
  | n + 1, f => xorN n f ^^^ f n
def rowS (k i m : Nat) (t : Tri) : Nat := if t.1 = k ∧ t.2.1 = i then m ||| 2 ^ t.2.2 else m
def rowF (T : List Tri) (k i : Nat) : Nat := T.foldl (rowS k i) (if k = 0 then 2 ^ i else 0)
def actS (k v m : Nat) (t : Tri) : Nat := if t.1 = k ∧ v.testBit t.2.1 = true then m ^^^ 2 ^ t.2.2 else m
def actF (T : List Tri) (k v : Nat) : Nat := T.foldl (actS k v) 0
def pickF (v : Nat) (f : Nat → Nat) (i : Nat) : Nat := if v.testBit i = true then f i else 0
def sqF (T : List Tri) (n k v : Nat) : Nat := xorN n (pickF v (rowF T k))
theorem rowS_yes {k i m : Nat} {t : Tri} (h : t.1 = k ∧ t.2.1 = i) : rowS k i m t = m ||| 2 ^ t.2.2 := if_pos h
theorem rowS_no {k i m : Nat} {t : Tri} (h : ¬ (t.1 = k ∧ t.2.1 = i)) : rowS k i m t = m := if_neg h
theorem pickF_yes {v i : Nat} {f : Nat → Nat} (h : v.testBit i = true) : pickF v f i = f i := if_pos h
theorem pickF_no {v i : Nat} {f : Nat → Nat} (h : ¬ v.testBit i = true) : pickF v f i = 0 := if_neg h
theorem pickF_same {v i : Nat} {f g : Nat → Nat} (h : v.testBit i = true → f i = g i) : pickF v f i = pickF v g i := by
  unfold pickF
  split
  · rename_i hv; exact h hv
  · rfl
theorem xorN_congr {f g : Nat → Nat} : ∀ {n : Nat}, (∀ i, i < n → f i = g i) → xorN n f = xorN n g
  | 0, _ => rfl
  | n + 1, h => by rw [xorN, xorN, xorN_congr fun i hi => h i (by omega), h n (Nat.lt_succ_self _)]
theorem xorN_upd {f g : Nat → Nat} {b d : Nat} (hg : ∀ i, i ≠ b → g i = f i) (hb : g b = f b ^^^ d) : ∀ n : Nat, b < n → xorN n g = xorN n f ^^^ d
  | 0, h => absurd h (by omega)
  | n + 1, h => by
    rw [xorN, xorN]
    by_cases e : b = n
    · subst e
      rw [hb, xorN_congr (f := g) (g := f) fun i hi => hg i (by omega), Nat.xor_assoc]
    · rw [xorN_upd hg hb n (by omega), hg n (by omega), Nat.xor_assoc, Nat.xor_assoc, Nat.xor_comm d]
theorem xorN_zero {f : Nat → Nat} : ∀ {n : Nat}, (∀ i, i < n → f i = 0) → xorN n f = 0
  | 0, _ => rfl
  | n + 1, h => by rw [xorN, xorN_zero fun i hi => h i (by omega), h n (Nat.lt_succ_self _)]; rfl
theorem or_eq_xor {m c : Nat} (h : m.testBit c = false) : m ||| 2 ^ c = m ^^^ 2 ^ c := by
  refine Nat.eq_of_testBit_eq fun i => ?_
  rw [Nat.testBit_or, Nat.testBit_xor, Nat.testBit_two_pow]
  by_cases e : c = i
  · subst e; rw [h]; simp
  · rw [decide_eq_false e]; simp
/-- the table's row by row sum is the sum over all entries -/
theorem sq_act_aux (k v n : Nat) : ∀ (T : List Tri) (r : Nat → Nat) (m : Nat), T.Nodup → (∀ t ∈ T, t.2.1 < n) → (∀ t ∈ T, t.1 = k → (r t.2.1).testBit t.2.2 = false) → xorN n (pickF v r) = m →
    xorN n (pickF v fun i => T.foldl (rowS k i) (r i)) = T.foldl (actS k v) m
  | [], r, m, _, _, _, hm => by simpa using hm
  | t :: T, r, m, hn, hb, hr, hm => by
    rw [List.nodup_cons] at hn
    simp only [List.foldl_cons]
    refine sq_act_aux k v n T (fun i => rowS k i (r i) t) (actS k v m t) hn.2 (fun s hs => hb s (List.mem_cons_of_mem _ hs)) (fun s hs hk => ?_) ?_
    · have h1 := hr s (List.mem_cons_of_mem _ hs) hk
      show (rowS k s.2.1 (r s.2.1) t).testBit s.2.2 = false
      unfold rowS
      split
      · rename_i hc
        rw [Nat.testBit_or, h1, Nat.testBit_two_pow, decide_eq_false]
        · rfl
        · intro e
          have : t = s := by
            obtain ⟨t1, t2, t3⟩ := t
            obtain ⟨s1, s2, s3⟩ := s
            simp only at hc e hk ⊢
            rw [hc.1, hc.2, e, hk]
          exact hn.1 (this ▸ hs)
      · exact h1
    · by_cases hk : t.1 = k
      · have h1 := hr t (by simp) hk
        have h2 := hb t (by simp)
        by_cases hv : v.testBit t.2.1 = true
        · have : xorN n (pickF v fun i => rowS k i (r i) t) = xorN n (pickF v r) ^^^ 2 ^ t.2.2 := by
            refine xorN_upd (b := t.2.1) (fun i hi => ?_) ?_ n h2
            · exact pickF_same fun _ => rowS_no fun h => hi h.2.symm
            · rw [pickF_yes hv, pickF_yes hv]
              show rowS k t.2.1 (r t.2.1) t = _
              rw [rowS_yes ⟨hk, rfl⟩, or_eq_xor h1]
          rw [this, hm]
          unfold actS
          rw [if_pos ⟨hk, hv⟩]
        · rw [← hm]
          unfold actS
          rw [if_neg (fun h => hv h.2)]
          exact xorN_congr fun i _ => pickF_same fun hi => rowS_no fun e => hv (e.2 ▸ hi)
      · rw [← hm]
        unfold actS
        rw [if_neg (fun h => hk h.1)]
        exact xorN_congr fun i _ => pickF_same fun _ => rowS_no fun h => hk h.1
theorem sq_act {T : List Tri} {k v n : Nat} (hk : 1 ≤ k) (hn : T.Nodup) (hb : ∀ t ∈ T, t.2.1 < n) : sqF T n k v = actF T k v := by
  unfold sqF actF
  rw [show rowF T k = fun i => T.foldl (rowS k i) 0 from funext fun i => by unfold rowF; rw [if_neg (by omega)]]
  exact sq_act_aux k v n T (fun _ => 0) 0 hn hb (fun t _ _ => by simp) (xorN_zero fun i _ => by unfold pickF; split <;> rfl)
theorem row_zero (T : List Tri) (i : Nat) (h : ∀ t ∈ T, 1 ≤ t.1) : rowF T 0 i = 2 ^ i := by
  unfold rowF
  rw [if_pos rfl]
  generalize 2 ^ i = m
  induction T with
  | nil => rfl
  | cons t T ih =>
    rw [List.foldl_cons]
    have : rowS 0 i m t = m := by unfold rowS; rw [if_neg (fun e => by have := h t (by simp); omega)]
    rw [this]
    exact ih fun s hs => h s (List.mem_cons_of_mem _ hs)
theorem xorN_bits (v : Nat) : ∀ n : Nat, ∀ c, (xorN n (pickF v fun i => 2 ^ i)).testBit c = (decide (c < n) && v.testBit c)
  | 0, c => by simp [xorN]
  | n + 1, c => by
    rw [xorN, Nat.testBit_xor, xorN_bits v n c]
    unfold pickF
    by_cases e : c = n
    · subst e
      by_cases hv : v.testBit c = true
      · rw [if_pos hv, Nat.testBit_two_pow_self]; simp [hv]
      · rw [if_neg hv]; simp [hv]
    · have h1 : (if v.testBit n = true then 2 ^ n else 0).testBit c = false := by
        split
        · rw [Nat.testBit_two_pow, decide_eq_false (fun h => e h.symm)]
        · simp
      have h2 : decide (c < n + 1) = decide (c < n) := by
        by_cases h : c < n
        · rw [decide_eq_true h, decide_eq_true (by omega)]
        · rw [decide_eq_false h, decide_eq_false (by omega)]
      rw [h1, h2]; simp
theorem sq_zero {T : List Tri} {n v : Nat} (h : ∀ t ∈ T, 1 ≤ t.1) (hv : v < 2 ^ n) : sqF T n 0 v = v := by
  unfold sqF
  rw [show rowF T 0 = fun i => 2 ^ i from funext fun i => row_zero T i h]
  refine Nat.eq_of_testBit_eq fun c => ?_
  rw [xorN_bits]
  by_cases hc : c < n
  · rw [decide_eq_true hc]; rfl
  · rw [decide_eq_false hc, Nat.testBit_lt_two_pow (Nat.lt_of_lt_of_le hv (Nat.pow_le_pow_right (by decide) (by omega)))]; rfl
theorem xor_lt {n a b : Nat} (ha : a < 2 ^ n) (hb : b < 2 ^ n) : a ^^^ b < 2 ^ n := Nat.xor_lt_two_pow ha hb
theorem act_lt {n k v : Nat} : ∀ {T : List Tri} (m : Nat), (∀ t ∈ T, t.2.2 < n) → m < 2 ^ n → T.foldl (actS k v) m < 2 ^ n
  | [], m, _, hm => hm
  | t :: T, m, h, hm => by
    rw [List.foldl_cons]
    refine act_lt _ (fun s hs => h s (List.mem_cons_of_mem _ hs)) ?_
    unfold actS
    split
    · exact xor_lt hm (Nat.pow_lt_pow_right (by decide) (h t (by simp)))
    · exact hm
theorem actF_lt {n k v : Nat} {T : List Tri} (h : ∀ t ∈ T, t.2.2 < n) : actF T k v < 2 ^ n := act_lt 0 h (Nat.two_pow_pos n)

/-- sums of masks -/
def xorL {α : Type} (f : α → Nat) (l : List α) : Nat := l.foldl (fun m z => m ^^^ f z) 0
theorem xorL_from {α : Type} (f : α → Nat) : ∀ (l : List α) (m : Nat), l.foldl (fun m z => m ^^^ f z) m = m ^^^ xorL f l
  | [], m => by simp [xorL]
  | x :: l, m => by
    unfold xorL
    rw [List.foldl_cons, List.foldl_cons, xorL_from f l (m ^^^ f x), xorL_from f l (0 ^^^ f x), Nat.zero_xor, Nat.xor_assoc]
theorem xorL_cons {α : Type} (f : α → Nat) (x : α) (l : List α) : xorL f (x :: l) = f x ^^^ xorL f l := by
  show (x :: l).foldl _ 0 = _
  rw [List.foldl_cons, xorL_from, Nat.zero_xor]
theorem xorL_snoc {α : Type} (f : α → Nat) (l : List α) (x : α) : xorL f (l ++ [x]) = xorL f l ^^^ f x := by
  unfold xorL
  rw [List.foldl_append]
  rfl
theorem xorL_lt {α : Type} {f : α → Nat} {n : Nat} : ∀ {l : List α}, (∀ x ∈ l, f x < 2 ^ n) → xorL f l < 2 ^ n
  | [], _ => Nat.two_pow_pos n
  | x :: l, h => by rw [xorL_cons]; exact xor_lt (h x (by simp)) (xorL_lt fun y hy => h y (List.mem_cons_of_mem _ hy))
theorem xorL_map {α β : Type} (f : β → Nat) (g : α → β) : ∀ l : List α, xorL f (l.map g) = xorL (fun x => f (g x)) l
  | [] => rfl
  | x :: l => by rw [List.map_cons, xorL_cons, xorL_cons, xorL_map f g l]
theorem xorL_congr {α : Type} {f g : α → Nat} : ∀ {l : List α}, (∀ x ∈ l, f x = g x) → xorL f l = xorL g l
  | [], _ => rfl
  | x :: l, h => by rw [xorL_cons, xorL_cons, h x (by simp), xorL_congr fun y hy => h y (List.mem_cons_of_mem _ hy)]
theorem xorL_insX (f : List Int → Nat) (x : List Int) : ∀ s, xorL f (insX x s) = f x ^^^ xorL f s
  | [] => by simp [insX, xorL_cons]
  | y :: s => by
    rw [insX]
    split
    · rw [xorL_cons]
    · split
      · rw [xorL_cons, xorL_cons, xorL_insX f x s, ← Nat.xor_assoc, ← Nat.xor_assoc, Nat.xor_comm (f y)]
      · rename_i h1 h2
        have : x = y := by
          rcases ltL_tri x y with h | h | h
          · exact absurd h h1
          · exact h
          · exact absurd h h2
        subst this
        rw [xorL_cons, ← Nat.xor_assoc, Nat.xor_self, Nat.zero_xor]
theorem xorL_odd (f : List Int → Nat) : ∀ s, xorL f (oddL s) = xorL f s
  | [] => rfl
  | x :: s => by
    show xorL f (insX x (oddL s)) = _
    rw [xorL_insX, xorL_odd f s, xorL_cons]
end Go.Proofs.Ytdpkhgkoeoiemaa
