/- Plain: rows of hit polynomials and normal forms. -/
import Derived.Test.YtoodhbafleemjaaGreatOrd
namespace Go.Proofs.YtoodhbafleemjaaGreat
set_option linter.unusedVariables false

abbrev Pol := List (List Int)
def lastL (t : Pol) : List Int := t.getLast?.getD []
/-- terms without those that are the greatest of a row, the rows from the greatest on -/
def redT (rows : List Pol) (t : Pol) : Pol := rows.foldl (fun t own => if lastL own ∈ t then oddL (t ++ own) else t) t
def putR (x : Pol) : List Pol → List Pol
  | [] => [x]
  | r :: rs => if ltL (lastL x) (lastL r) = true then r :: putR x rs else x :: r :: rs
def addR (rows : List Pol) (g : Pol) : List Pol := if redT rows g = [] then rows else putR (redT rows g) rows
def rowsP (gs : List Pol) : List Pol := gs.foldl addR []

theorem mem_oddL {s : Pol} {z : List Int} : z ∈ oddL s ↔ s.count z % 2 = 1 := by
  have h := oddL_same s z
  rw [asc_count (oddL_asc s)] at h
  constructor
  · intro hz; rw [if_pos hz] at h; omega
  · intro hz
    rcases Classical.em (z ∈ oddL s) with h2 | h2
    · exact h2
    · rw [if_neg h2] at h; omega
theorem mem_sum {s t : Pol} (hs : Asc s) (ht : Asc t) {z : List Int} : z ∈ oddL (s ++ t) ↔ ¬ (z ∈ s ↔ z ∈ t) := by
  rw [mem_oddL, List.count_append, asc_count hs, asc_count ht]
  by_cases h1 : z ∈ s <;> by_cases h2 : z ∈ t <;> simp [h1, h2]
theorem lastL_mem {t : Pol} (h : t ≠ []) : lastL t ∈ t := by
  unfold lastL
  rw [List.getLast?_eq_some_getLast h]
  exact List.getLast_mem h
theorem lastL_max {t : Pol} (h : Asc t) {z : List Int} (hz : z ∈ t) : z = lastL t ∨ ltL z (lastL t) = true := by
  have hne : t ≠ [] := by rintro rfl; cases hz
  have e : t = t.dropLast ++ [t.getLast hne] := (List.dropLast_concat_getLast hne).symm
  have hl : lastL t = t.getLast hne := by unfold lastL; rw [List.getLast?_eq_some_getLast hne]; rfl
  rw [hl]
  rw [e] at hz h
  rcases List.mem_append.1 hz with hz | hz
  · right
    exact (List.pairwise_append.1 h).2.2 z hz _ (by simp)
  · left; exact List.mem_singleton.1 hz
structure RowsOk (rows : List Pol) : Prop where
  each : ∀ r ∈ rows, Asc r ∧ r ≠ []
  desc : rows.Pairwise fun a b => ltL (lastL b) (lastL a) = true
theorem redT_asc : ∀ (rows : List Pol) {t : Pol}, Asc t → Asc (redT rows t)
  | [], t, h => h
  | r :: rs, t, h => by
    show Asc (redT rs (if lastL r ∈ t then oddL (t ++ r) else t))
    apply redT_asc rs
    split
    · exact oddL_asc _
    · exact h
/-- what lies above all rows stays as it is -/
theorem redT_above : ∀ (rows : List Pol) {t : Pol} {z : List Int}, Asc t → (∀ r ∈ rows, Asc r ∧ ∀ y ∈ r, y ≠ z) → (z ∈ redT rows t ↔ z ∈ t)
  | [], t, z, h, hr => Iff.rfl
  | r :: rs, t, z, h, hr => by
    have h1 := hr r (by simp)
    have h2 : z ∉ r := fun hz => h1.2 z hz rfl
    show z ∈ redT rs (if lastL r ∈ t then oddL (t ++ r) else t) ↔ z ∈ t
    split
    · rw [redT_above rs (oddL_asc _) fun r hr' => hr r (List.mem_cons_of_mem _ hr'), mem_sum h h1.1]
      simp [h2]
    · exact redT_above rs h fun r hr' => hr r (List.mem_cons_of_mem _ hr')
theorem below_key {r : Pol} (h : Asc r) {z : List Int} (hz : ltL (lastL r) z = true) : ∀ y ∈ r, y ≠ z := fun y hy e => by
  subst e
  rcases lastL_max h hy with e | e
  · rw [← e, ltL_irrefl] at hz; cases hz
  · rw [ltL_asymm e] at hz; cases hz
/-- no greatest term of a row is left -/
theorem redT_free : ∀ (rows : List Pol) {t : Pol}, RowsOk rows → Asc t → ∀ r ∈ rows, lastL r ∉ redT rows t
  | [], t, h, ht, r, hr => by cases hr
  | r :: rs, t, h, ht, r', hr' => by
    have h1 := h.each r (by simp)
    have hd := List.pairwise_cons.1 h.desc
    have hk : RowsOk rs := ⟨fun r hr => h.each r (List.mem_cons_of_mem _ hr), hd.2⟩
    have ht1 : Asc (if lastL r ∈ t then oddL (t ++ r) else t) := by
      split
      · exact oddL_asc _
      · exact ht
    show lastL r' ∉ redT rs (if lastL r ∈ t then oddL (t ++ r) else t)
    rcases List.mem_cons.1 hr' with rfl | hr'
    · rw [redT_above rs ht1 fun q hq => ⟨(hk.each q hq).1, below_key (hk.each q hq).1 (hd.1 q hq)⟩]
      split
      · rename_i hm
        rw [mem_sum ht h1.1]
        simp [hm, lastL_mem h1.2]
      · rename_i hm; exact hm
    · exact redT_free rs hk ht1 r' hr'
theorem putR_mem {x r : Pol} : ∀ {rows : List Pol}, r ∈ putR x rows ↔ r = x ∨ r ∈ rows
  | [] => by simp [putR]
  | q :: rs => by
    rw [putR]
    split
    · rw [List.mem_cons, putR_mem, List.mem_cons]
      constructor
      · rintro (h | h | h)
        · exact .inr (.inl h)
        · exact .inl h
        · exact .inr (.inr h)
      · rintro (h | h | h)
        · exact .inr (.inl h)
        · exact .inl h
        · exact .inr (.inr h)
    · simp
theorem putR_ok {x : Pol} (hx : Asc x) (hne : x ≠ []) : ∀ {rows : List Pol}, RowsOk rows → (∀ r ∈ rows, lastL r ≠ lastL x) → RowsOk (putR x rows)
  | [], h, hk => ⟨fun r hr => by rw [List.mem_singleton.1 hr]; exact ⟨hx, hne⟩, by simp [putR]⟩
  | q :: rs, h, hk => by
    have hd := List.pairwise_cons.1 h.desc
    have hr : RowsOk rs := ⟨fun r hr => h.each r (List.mem_cons_of_mem _ hr), hd.2⟩
    rw [putR]
    split
    · rename_i hlt
      have ih := putR_ok hx hne hr fun r hr => hk r (List.mem_cons_of_mem _ hr)
      refine ⟨fun r hr => ?_, List.pairwise_cons.2 ⟨fun r hr => ?_, ih.desc⟩⟩
      · rcases List.mem_cons.1 hr with rfl | hr
        · exact h.each r (by simp)
        · exact ih.each r hr
      · rcases putR_mem.1 hr with rfl | hr
        · exact hlt
        · exact hd.1 r hr
    · rename_i hlt
      have hlt2 : ltL (lastL q) (lastL x) = true := by
        rcases ltL_tri (lastL q) (lastL x) with h1 | h1 | h1
        · exact h1
        · exact absurd h1 (hk q (by simp))
        · exact absurd h1 hlt
      refine ⟨fun r hr => ?_, List.pairwise_cons.2 ⟨fun r hr => ?_, h.desc⟩⟩
      · rcases List.mem_cons.1 hr with rfl | hr
        · exact ⟨hx, hne⟩
        · exact h.each r hr
      · rcases List.mem_cons.1 hr with rfl | hr
        · exact hlt2
        · exact ltL_trans (hd.1 r hr) hlt2
theorem addR_ok {rows : List Pol} {g : Pol} (h : RowsOk rows) (hg : Asc g) : RowsOk (addR rows g) := by
  unfold addR
  split
  · exact h
  · rename_i hne
    refine putR_ok (redT_asc rows hg) hne h fun r hr e => ?_
    have h1 := redT_free rows h hg r hr
    rw [e] at h1
    exact h1 (lastL_mem hne)
theorem rowsP_ok (gs : List Pol) (h : ∀ g ∈ gs, Asc g) : RowsOk (rowsP gs) := by
  unfold rowsP
  have key : ∀ (gs : List Pol) (rows : List Pol), RowsOk rows → (∀ g ∈ gs, Asc g) → RowsOk (gs.foldl addR rows) := by
    intro gs
    induction gs with
    | nil => exact fun rows h _ => h
    | cons g gs ih => exact fun rows h hg => ih _ (addR_ok h (hg g (by simp))) fun g' hg' => hg g' (List.mem_cons_of_mem _ hg')
  exact key gs [] ⟨fun r hr => (by cases hr), List.Pairwise.nil⟩ h
/-- where all terms come from -/
theorem redT_sub {rows : List Pol} {M : Pol} (hr : ∀ r ∈ rows, ∀ z ∈ r, z ∈ M) {t : Pol} (ht : ∀ z ∈ t, z ∈ M) : ∀ z ∈ redT rows t, z ∈ M := by
  induction rows generalizing t with
  | nil => exact ht
  | cons r rs ih =>
    show ∀ z ∈ redT rs (if lastL r ∈ t then oddL (t ++ r) else t), z ∈ M
    refine ih (fun q hq => hr q (List.mem_cons_of_mem _ hq)) fun z hz => ?_
    split at hz
    · rcases List.mem_append.1 (oddL_mem hz) with hz | hz
      · exact ht z hz
      · exact hr r (by simp) z hz
    · exact ht z hz
theorem addR_sub {rows : List Pol} {M g : Pol} (hr : ∀ r ∈ rows, ∀ z ∈ r, z ∈ M) (hg : ∀ z ∈ g, z ∈ M) : ∀ r ∈ addR rows g, ∀ z ∈ r, z ∈ M := by
  unfold addR
  split
  · exact hr
  · intro r h
    rcases putR_mem.1 h with rfl | h
    · exact redT_sub hr hg
    · exact hr r h
end Go.Proofs.YtoodhbafleemjaaGreat

/- Plain: terms as masks over a list of monomials; rows by places. -/
namespace Go.Proofs.YtoodhbafleemjaaGreat
set_option linter.unusedVariables false

structure IsMask (M t : Pol) (w : Nat) : Prop where
  bit : ∀ i, w.testBit i = true ↔ ∃ z, M[i]? = some z ∧ z ∈ t
theorem IsMask.at_ {M t : Pol} {w : Nat} (h : IsMask M t w) {i : Nat} {z : List Int} (hz : M[i]? = some z) : w.testBit i = true ↔ z ∈ t := by
  rw [h.bit i]
  constructor
  · rintro ⟨y, hy, hm⟩
    rw [hz] at hy
    injection hy with hy
    rw [hy]; exact hm
  · exact fun hm => ⟨z, hz, hm⟩
theorem IsMask.off {M t : Pol} {w : Nat} (h : IsMask M t w) {i : Nat} (hi : M.length ≤ i) : w.testBit i = false := by
  cases e : w.testBit i with
  | false => rfl
  | true =>
    obtain ⟨z, hz, _⟩ := (h.bit i).1 e
    rw [List.getElem?_eq_none hi] at hz; cases hz
theorem IsMask.nil {M : Pol} : IsMask M [] 0 := ⟨fun i => by simp⟩
theorem IsMask.sum {M s t : Pol} {a b : Nat} (hs : Asc s) (ht : Asc t) (ha : IsMask M s a) (hb : IsMask M t b) : IsMask M (oddL (s ++ t)) (a ^^^ b) := by
  refine ⟨fun i => ?_⟩
  rw [Nat.testBit_xor]
  cases hz : M[i]? with
  | none =>
    have hi : M.length ≤ i := List.getElem?_eq_none_iff.1 hz
    rw [ha.off hi, hb.off hi]
    simp
  | some z =>
    have h1 := ha.at_ hz
    have h2 := hb.at_ hz
    simp only [Option.some.injEq, exists_eq_left']
    rw [mem_sum hs ht, ← h1, ← h2]
    cases a.testBit i <;> cases b.testBit i <;> simp
theorem IsMask.zero {M t : Pol} {w : Nat} (h : IsMask M t w) (ht : ∀ z ∈ t, z ∈ M) : w = 0 ↔ t = [] := by
  constructor
  · rintro rfl
    cases t with
    | nil => rfl
    | cons z t =>
      obtain ⟨i, hi⟩ := List.mem_iff_getElem?.1 (ht z (by simp))
      have := (h.at_ hi).2 (by simp)
      simp at this
  · rintro rfl
    apply Nat.eq_of_testBit_eq
    intro i
    have := h.bit i
    simp at this
    simp [this]
/-- the order of places is the order of monomials -/
theorem place_lt {M : Pol} (hM : Asc M) {i j : Nat} {x y : List Int} (hx : M[i]? = some x) (hy : M[j]? = some y) : i < j ↔ ltL x y = true := by
  obtain ⟨hi, ei⟩ := List.getElem?_eq_some_iff.1 hx
  obtain ⟨hj, ej⟩ := List.getElem?_eq_some_iff.1 hy
  have key : ∀ a b (ha : a < M.length) (hb : b < M.length), a < b → ltL M[a] M[b] = true := fun a b ha hb hab => List.pairwise_iff_getElem.1 hM a b ha hb hab
  constructor
  · intro h; rw [← ei, ← ej]; exact key i j hi hj h
  · intro h
    rcases Nat.lt_trichotomy i j with h1 | h1 | h1
    · exact h1
    · subst h1
      rw [← ei, ← ej, ltL_irrefl] at h; cases h
    · have := key j i hj hi h1
      rw [ei, ej] at this
      rw [ltL_asymm this] at h; cases h
theorem place_inj {M : Pol} (hM : Asc M) {i j : Nat} {x : List Int} (hx : M[i]? = some x) (hy : M[j]? = some x) : i = j := by
  rcases Nat.lt_trichotomy i j with h | h | h
  · have := (place_lt hM hx hy).1 h
    rw [ltL_irrefl] at this; cases this
  · exact h
  · have := (place_lt hM hy hx).1 h
    rw [ltL_irrefl] at this; cases this
theorem IsMask.single {M : Pol} (hM : Asc M) {i : Nat} {x : List Int} (hx : M[i]? = some x) : IsMask M [x] (2 ^ i) := by
  refine ⟨fun j => ?_⟩
  rw [Nat.testBit_two_pow]
  simp only [decide_eq_true_eq, List.mem_singleton]
  constructor
  · rintro rfl; exact ⟨x, hx, rfl⟩
  · rintro ⟨z, hz, rfl⟩
    exact place_inj hM hx hz
theorem IsMask.top {M t : Pol} {w i : Nat} (hM : Asc M) (h : IsMask M t w) (ht : Asc t) (hne : t ≠ []) (hi : M[i]? = some (lastL t)) : w.testBit i = true ∧ ∀ j, i < j → w.testBit j = false := by
  refine ⟨(h.at_ hi).2 (lastL_mem hne), fun j hj => ?_⟩
  cases e : w.testBit j with
  | false => rfl
  | true =>
    obtain ⟨z, hz, hm⟩ := (h.bit j).1 e
    have h1 := (place_lt hM hi hz).1 hj
    rcases lastL_max ht hm with h2 | h2
    · rw [h2, ltL_irrefl] at h1; cases h1
    · rw [ltL_asymm h2] at h1; cases h1
/-- rows by places: what the program keeps in its map -/
structure RowsM (M : Pol) (rows : List Pol) (f : Nat → Option Nat) : Prop where
  row : ∀ i v, f i = some v → ∃ r ∈ rows, M[i]? = some (lastL r) ∧ IsMask M r v
  has : ∀ r ∈ rows, ∀ i, M[i]? = some (lastL r) → ∃ v, f i = some v
def normI (f : Nat → Option Nat) : Nat → Nat → Nat
  | 0, w => w
  | i + 1, w => normI f i (match f i with | some row => if w.testBit i = true then w ^^^ row else w | none => w)
theorem norm_red {M : Pol} (hM : Asc M) {f : Nat → Option Nat} : ∀ (i : Nat) (rs : List Pol) (t : Pol) (w : Nat), RowsOk rs → (∀ r ∈ rs, ∃ j, j < i ∧ M[j]? = some (lastL r)) → (∀ j v, j < i → f j = some v → ∃ r ∈ rs, M[j]? = some (lastL r) ∧ IsMask M r v) →
    (∀ r ∈ rs, ∀ j, M[j]? = some (lastL r) → ∃ v, f j = some v) → Asc t → IsMask M t w → IsMask M (redT rs t) (normI f i w)
  | 0, rs, t, w, hok, hk, hf, hg, ht, hw => by
    have : rs = [] := by
      cases rs with
      | nil => rfl
      | cons r rs => obtain ⟨j, hj, _⟩ := hk r (by simp); omega
    subst this
    exact hw
  | i + 1, rs, t, w, hok, hk, hf, hg, ht, hw => by
    rw [normI]
    cases hfi : f i with
    | none =>
      refine norm_red hM i rs t w hok (fun r hr => ?_) (fun j v hj hv => hf j v (by omega) hv) hg ht hw
      obtain ⟨j, hj, e⟩ := hk r hr
      refine ⟨j, ?_, e⟩
      rcases Nat.lt_or_ge j i with h | h
      · exact h
      · obtain rfl : j = i := by omega
        obtain ⟨v, hv⟩ := hg r hr j e
        rw [hfi] at hv; cases hv
    | some v =>
      obtain ⟨r, hr, hri, hrm⟩ := hf i v (by omega) hfi
      match rs, hr with
      | q :: rs, hr =>
        have hd := List.pairwise_cons.1 hok.desc
        obtain ⟨jq, hjq, eq⟩ := hk q (by simp)
        have hrq : r = q := by
          rcases List.mem_cons.1 hr with h | h
          · exact h
          · have h1 := hd.1 r h
            have h2 := (place_lt hM hri eq).2 h1
            omega
        subst hrq
        have hsub : ∀ r' ∈ rs, ∃ j, j < i ∧ M[j]? = some (lastL r') := fun r' hr' => by
          obtain ⟨j, hj, e⟩ := hk r' (List.mem_cons_of_mem _ hr')
          exact ⟨j, (place_lt hM e hri).2 (hd.1 r' hr'), e⟩
        have h1 := hok.each r (by simp)
        have hst : IsMask M (if lastL r ∈ t then oddL (t ++ r) else t) (if w.testBit i = true then w ^^^ v else w) := by
          by_cases hm : lastL r ∈ t
          · rw [if_pos hm, if_pos ((hw.at_ hri).2 hm)]
            exact hw.sum ht h1.1 hrm
          · rw [if_neg hm, if_neg (fun h => hm ((hw.at_ hri).1 h))]
            exact hw
        refine norm_red hM i rs (if lastL r ∈ t then oddL (t ++ r) else t) _ ⟨fun q hq => hok.each q (List.mem_cons_of_mem _ hq), hd.2⟩ hsub (fun j v' hj hv' => ?_) (fun q hq => hg q (List.mem_cons_of_mem _ hq)) ?_ hst
        · obtain ⟨q, hq, hqj, hqm⟩ := hf j v' (by omega) hv'
          rcases List.mem_cons.1 hq with rfl | hq
          · exact absurd ((place_lt hM hqj hri).1 hj) (by rw [ltL_irrefl]; simp)
          · exact ⟨q, hq, hqj, hqm⟩
        · split
          · exact oddL_asc _
          · exact ht
theorem RowsM.norm {M : Pol} {rows : List Pol} {f : Nat → Option Nat} {t : Pol} {w : Nat} (hM : Asc M) (h : RowsM M rows f) (hok : RowsOk rows) (hs : ∀ r ∈ rows, ∀ z ∈ r, z ∈ M) (ht : Asc t) (hw : IsMask M t w) : IsMask M (redT rows t) (normI f M.length w) := by
  refine norm_red hM M.length rows t w hok (fun r hr => ?_) (fun j v _ hv => h.row j v hv) h.has ht hw
  obtain ⟨j, hj⟩ := List.mem_iff_getElem?.1 (hs r hr (lastL r) (lastL_mem (hok.each r hr).2))
  exact ⟨j, (List.getElem?_eq_some_iff.1 hj).1, hj⟩
/-- a new row is kept at the place of its greatest term -/
theorem RowsM.put {M : Pol} {rows : List Pol} {f : Nat → Option Nat} {x : Pol} {w i : Nat} (hM : Asc M) (h : RowsM M rows f) (hi : M[i]? = some (lastL x)) (hw : IsMask M x w) (hk : ∀ r ∈ rows, lastL r ≠ lastL x) : RowsM M (putR x rows) (fun j => if j = i then some w else f j) := by
  refine ⟨fun j v hv => ?_, fun r hr j hj => ?_⟩
  · by_cases e : j = i
    · subst e
      rw [if_pos rfl] at hv
      injection hv with hv
      subst hv
      exact ⟨x, putR_mem.2 (.inl rfl), hi, hw⟩
    · rw [if_neg e] at hv
      obtain ⟨r, hr, h1, h2⟩ := h.row j v hv
      exact ⟨r, putR_mem.2 (.inr hr), h1, h2⟩
  · by_cases e : j = i
    · exact ⟨w, by rw [if_pos e]⟩
    · rw [if_neg e]
      rcases putR_mem.1 hr with rfl | hr
      · exact absurd (place_inj hM hj hi) e
      · exact h.has r hr j hj
end Go.Proofs.YtoodhbafleemjaaGreat

/- Plain: rows of bits over two elements: spans, pivots, how many rows are kept by two ways of reducing. -/
namespace Go.Proofs.YtoodhbafleemjaaGreat
set_option linter.unusedVariables false

theorem xx (a b : Nat) : (a ^^^ b) ^^^ b = a := by rw [Nat.xor_assoc, Nat.xor_self, Nat.xor_zero]
theorem xsw (a b c : Nat) : (a ^^^ b) ^^^ c = (a ^^^ c) ^^^ b := by rw [Nat.xor_assoc, Nat.xor_comm b c, ← Nat.xor_assoc]
/-- t is a sum of some of the rows -/
def Sp : List Nat → Nat → Prop
  | [], t => t = 0
  | g :: gs, t => Sp gs t ∨ Sp gs (t ^^^ g)
theorem Sp.zero : ∀ gs, Sp gs 0
  | [] => rfl
  | _ :: gs => .inl (Sp.zero gs)
theorem Sp.add : ∀ {gs : List Nat} {a b : Nat}, Sp gs a → Sp gs b → Sp gs (a ^^^ b)
  | [], a, b, ha, hb => by
    have ha : a = 0 := ha
    have hb : b = 0 := hb
    subst ha; subst hb
    exact Nat.xor_self 0
  | g :: gs, a, b, ha, hb => by
    rcases ha with ha | ha <;> rcases hb with hb | hb
    · exact .inl (Sp.add ha hb)
    · refine .inr ?_
      have := Sp.add ha hb
      rwa [← Nat.xor_assoc] at this
    · refine .inr ?_
      have := Sp.add ha hb
      rwa [xsw] at this
    · refine .inl ?_
      have := Sp.add ha hb
      rwa [← Nat.xor_assoc, xsw a g b, xx] at this
theorem Sp.mem : ∀ {gs : List Nat} {g : Nat}, g ∈ gs → Sp gs g
  | [], g, h => by cases h
  | x :: gs, g, h => by
    rcases List.mem_cons.1 h with rfl | h
    · exact .inr (by rw [Nat.xor_self]; exact Sp.zero gs)
    · exact .inl (Sp.mem h)
theorem Sp.of_gen {hs : List Nat} : ∀ {gs : List Nat} {t : Nat}, (∀ g ∈ gs, Sp hs g) → Sp gs t → Sp hs t
  | [], t, h, ht => by
    have ht : t = 0 := ht
    subst ht; exact Sp.zero hs
  | g :: gs, t, h, ht => by
    have h1 : ∀ g ∈ gs, Sp hs g := fun x hx => h x (List.mem_cons_of_mem _ hx)
    rcases ht with ht | ht
    · exact Sp.of_gen h1 ht
    · have := (Sp.of_gen h1 ht).add (h g (by simp))
      rwa [xx] at this
theorem Sp.bit {i : Nat} : ∀ {gs : List Nat} {t : Nat}, (∀ g ∈ gs, g.testBit i = false) → Sp gs t → t.testBit i = false
  | [], t, h, ht => by
    have ht : t = 0 := ht
    subst ht; simp
  | g :: gs, t, h, ht => by
    have h1 : ∀ g ∈ gs, g.testBit i = false := fun x hx => h x (List.mem_cons_of_mem _ hx)
    rcases ht with ht | ht
    · exact Sp.bit h1 ht
    · have := Sp.bit h1 ht
      rw [Nat.testBit_xor, h g (by simp)] at this
      simpa using this
/-- taking away rows, one after the other, by their pivots -/
def red (pv : Nat → Nat) (R : List Nat) (t : Nat) : Nat := R.foldl (fun t r => if t.testBit (pv r) = true then t ^^^ r else t) t
structure Good (pv : Nat → Nat) (R : List Nat) : Prop where
  own : ∀ r ∈ R, r.testBit (pv r) = true
  apart : R.Pairwise fun a b => b.testBit (pv a) = false
theorem red_zero {pv : Nat → Nat} : ∀ {R : List Nat} {t : Nat}, Good pv R → (red pv R t = 0 ↔ Sp R t)
  | [], t, h => Iff.rfl
  | r :: R, t, h => by
    have hp := List.pairwise_cons.1 h.apart
    have hg : Good pv R := ⟨fun x hx => h.own x (List.mem_cons_of_mem _ hx), hp.2⟩
    have hr := h.own r (by simp)
    show red pv R (if t.testBit (pv r) = true then t ^^^ r else t) = 0 ↔ (Sp R t ∨ Sp R (t ^^^ r))
    by_cases ht : t.testBit (pv r) = true
    · rw [if_pos ht, red_zero hg]
      refine ⟨.inr, fun h1 => ?_⟩
      rcases h1 with h1 | h1
      · rw [Sp.bit hp.1 h1] at ht; cases ht
      · exact h1
    · rw [if_neg ht, red_zero hg]
      refine ⟨.inl, fun h1 => ?_⟩
      rcases h1 with h1 | h1
      · exact h1
      · have h2 := Sp.bit hp.1 h1
        rw [Nat.testBit_xor, hr] at h2
        rw [Bool.not_eq_true] at ht
        rw [ht] at h2; cases h2
theorem red_sp {pv : Nat → Nat} : ∀ {R : List Nat} {t : Nat}, Sp R (t ^^^ red pv R t)
  | [], t => Nat.xor_self t
  | r :: R, t => by
    show Sp R (t ^^^ red pv R (if t.testBit (pv r) = true then t ^^^ r else t)) ∨ Sp R (t ^^^ red pv R (if t.testBit (pv r) = true then t ^^^ r else t) ^^^ r)
    by_cases ht : t.testBit (pv r) = true
    · rw [if_pos ht]
      right
      rw [xsw]
      exact red_sp
    · rw [if_neg ht]
      exact .inl red_sp
theorem red_free {pv : Nat → Nat} : ∀ {R : List Nat} {t : Nat}, Good pv R → ∀ r ∈ R, (red pv R t).testBit (pv r) = false
  | [], t, h, r, hr => by cases hr
  | x :: R, t, h, r, hr => by
    have hp := List.pairwise_cons.1 h.apart
    have hg : Good pv R := ⟨fun y hy => h.own y (List.mem_cons_of_mem _ hy), hp.2⟩
    have hx := h.own x (by simp)
    show (red pv R (if t.testBit (pv x) = true then t ^^^ x else t)).testBit (pv r) = false
    rcases List.mem_cons.1 hr with rfl | hr
    · obtain ⟨u, hu⟩ : ∃ u, u = (if t.testBit (pv r) = true then t ^^^ r else t) := ⟨_, rfl⟩
      have h1 : u.testBit (pv r) = false := by
        rw [hu]
        by_cases ht : t.testBit (pv r) = true
        · rw [if_pos ht, Nat.testBit_xor, ht, hx]; rfl
        · rw [if_neg ht]; simpa using ht
      rw [← hu]
      have h2 := Sp.bit hp.1 (red_sp (pv := pv) (R := R) (t := u))
      rw [Nat.testBit_xor, h1] at h2
      simpa using h2
    · exact red_free hg r hr
/-- the place of the least digit that is 1 -/
def lowB (t : Nat) : Nat := ((List.range (t + 1)).find? fun i => t.testBit i).getD 0
theorem lowB_of {t i : Nat} (h : t.testBit i = true) (h0 : ∀ j, j < i → t.testBit j = false) : lowB t = i := by
  have hi : i < t + 1 := by
    have h1 : 2 ^ i ≤ t := Nat.ge_two_pow_of_testBit h
    have h2 : i < 2 ^ i := Nat.lt_two_pow_self
    omega
  unfold lowB
  rw [List.find?_range_eq_some.2 ⟨h, by simpa using hi, fun j hj => by simp [h0 j hj]⟩]
  rfl
theorem lowB_bit {t : Nat} (h : t ≠ 0) : t.testBit (lowB t) = true ∧ ∀ j, j < lowB t → t.testBit j = false := by
  have hex : ∃ i, t.testBit i = true := by
    rcases Classical.em (∃ i, t.testBit i = true) with h1 | h1
    · exact h1
    · refine absurd (Nat.eq_of_testBit_eq fun i => ?_) h
      rw [Nat.zero_testBit]
      cases e : t.testBit i
      · rfl
      · exact absurd ⟨i, e⟩ h1
  obtain ⟨i, hi⟩ := hex
  induction i using Nat.strongRecOn with
  | ind i ih =>
    rcases Classical.em (∃ j, j < i ∧ t.testBit j = true) with ⟨j, hj, hb⟩ | h1
    · exact ih j hj hb
    · have h2 : ∀ j, j < i → t.testBit j = false := fun j hj => by
        cases e : t.testBit j
        · rfl
        · exact absurd ⟨j, hj, e⟩ h1
      rw [lowB_of hi h2]
      exact ⟨hi, h2⟩
/-- a row more: as it is left (the reference), with the rows that are there reduced by it (the program) -/
def addA (R : List Nat) (g : Nat) : List Nat := if red lowB R g = 0 then R else R ++ [red lowB R g]
def cutB (x r : Nat) : Nat := if r.testBit (lowB x) = true then r ^^^ x else r
def addB (R : List Nat) (g : Nat) : List Nat := if red lowB R g = 0 then R else R.map (cutB (red lowB R g)) ++ [red lowB R g]
def rowsA (gs : List Nat) : List Nat := gs.foldl addA []
def rowsB (gs : List Nat) : List Nat := gs.foldl addB []
theorem rowsA_snoc (gs : List Nat) (g : Nat) : rowsA (gs ++ [g]) = addA (rowsA gs) g := by unfold rowsA; rw [List.foldl_append]; rfl
theorem rowsB_snoc (gs : List Nat) (g : Nat) : rowsB (gs ++ [g]) = addB (rowsB gs) g := by unfold rowsB; rw [List.foldl_append]; rfl
structure GoodB (R : List Nat) : Prop where
  pos : ∀ r ∈ R, r ≠ 0
  apart : R.Pairwise fun a b => b.testBit (lowB a) = false ∧ a.testBit (lowB b) = false
theorem GoodB.good {R : List Nat} (h : GoodB R) : Good lowB R := ⟨fun r hr => (lowB_bit (h.pos r hr)).1, h.apart.imp fun h => h.1⟩
/-- what a cut keeps -/
theorem cutB_low {x r : Nat} (hr : r ≠ 0) (hx : x ≠ 0) (h : x.testBit (lowB r) = false) : cutB x r ≠ 0 ∧ lowB (cutB x r) = lowB r ∧ (cutB x r).testBit (lowB x) = false := by
  obtain ⟨r1, r2⟩ := lowB_bit hr
  obtain ⟨x1, x2⟩ := lowB_bit hx
  unfold cutB
  by_cases hb : r.testBit (lowB x) = true
  · rw [if_pos hb]
    have hlt : lowB r < lowB x := by
      rcases Nat.lt_trichotomy (lowB r) (lowB x) with h1 | h1 | h1
      · exact h1
      · rw [h1] at h; rw [x1] at h; cases h
      · rw [r2 _ h1] at hb; cases hb
    have e1 : (r ^^^ x).testBit (lowB r) = true := by rw [Nat.testBit_xor, r1, h]; rfl
    refine ⟨fun e => ?_, lowB_of e1 fun j hj => ?_, ?_⟩
    · rw [e] at e1; simp at e1
    · rw [Nat.testBit_xor, r2 j hj, x2 j (by omega)]; rfl
    · rw [Nat.testBit_xor, hb, x1]; rfl
  · rw [if_neg hb]
    exact ⟨hr, rfl, by simpa using hb⟩
theorem GoodB.add {R : List Nat} {g : Nat} (h : GoodB R) : GoodB (addB R g) := by
  unfold addB
  obtain ⟨x, hx⟩ : ∃ x, x = red lowB R g := ⟨_, rfl⟩
  have hf : ∀ r ∈ R, x.testBit (lowB r) = false := by rw [hx]; exact red_free h.good
  rw [← hx]
  by_cases h0 : x = 0
  · rw [if_pos h0]; exact h
  · rw [if_neg h0]
    have key : ∀ r ∈ R, cutB x r ≠ 0 ∧ lowB (cutB x r) = lowB r ∧ (cutB x r).testBit (lowB x) = false := fun r hr => cutB_low (h.pos r hr) h0 (hf r hr)
    have bit : ∀ a ∈ R, ∀ b ∈ R, b.testBit (lowB a) = false → (cutB x b).testBit (lowB (cutB x a)) = false := fun a ha b hb hab => by
      rw [(key a ha).2.1]
      unfold cutB
      split
      · rw [Nat.testBit_xor, hab, hf a ha]; rfl
      · exact hab
    refine ⟨fun r hr => ?_, List.pairwise_append.2 ⟨List.pairwise_map.2 (List.Pairwise.imp_of_mem (fun {a b} ha hb hab => ⟨bit a ha b hb hab.1, bit b hb a ha hab.2⟩) h.apart), by simp, fun a ha b hb => ?_⟩⟩
    · rcases List.mem_append.1 hr with hr | hr
      · obtain ⟨r', hr', rfl⟩ := List.mem_map.1 hr
        exact (key r' hr').1
      · rw [List.mem_singleton.1 hr]; exact h0
    · obtain ⟨a', ha', rfl⟩ := List.mem_map.1 ha
      rw [List.mem_singleton.1 hb, (key a' ha').2.1]
      exact ⟨hf a' ha', (key a' ha').2.2⟩
theorem Good.addA {R : List Nat} {g : Nat} (h : Good lowB R) : Good lowB (addA R g) := by
  unfold Go.Proofs.YtoodhbafleemjaaGreat.addA
  split
  · exact h
  · rename_i h0
    refine ⟨fun r hr => ?_, List.pairwise_append.2 ⟨h.apart, by simp, fun a ha b hb => ?_⟩⟩
    · rcases List.mem_append.1 hr with hr | hr
      · exact h.own r hr
      · rw [List.mem_singleton.1 hr]; exact (lowB_bit h0).1
    · rw [List.mem_singleton.1 hb]; exact red_free h a ha
theorem Sp.app {R : List Nat} {x t : Nat} : Sp (R ++ [x]) t ↔ Sp R t ∨ Sp R (t ^^^ x) := by
  constructor
  · intro h
    have gen : ∀ {R : List Nat} {t : Nat}, Sp (R ++ [x]) t → Sp R t ∨ Sp R (t ^^^ x) := by
      intro R
      induction R with
      | nil => exact fun h => h
      | cons r R ih =>
        intro t h
        rcases h with h | h
        · rcases ih h with h | h
          · exact .inl (.inl h)
          · exact .inr (.inl h)
        · rcases ih h with h | h
          · exact .inl (.inr h)
          · refine .inr (.inr ?_)
            rwa [xsw] at h
    exact gen h
  · intro h
    have up : ∀ y, Sp R y → Sp (R ++ [x]) y := fun y hy => Sp.of_gen (fun g hg => Sp.mem (List.mem_append_left _ hg)) hy
    rcases h with h | h
    · exact up t h
    · have := (up _ h).add (Sp.mem (List.mem_append_right R (List.mem_singleton.2 rfl)))
      rwa [xx] at this
theorem sp_addA {R : List Nat} {g t : Nat} (h : Good lowB R) : Sp (addA R g) t ↔ Sp (R ++ [g]) t := by
  have hs := red_sp (pv := lowB) (R := R) (t := g)
  unfold addA
  split
  · rename_i h0
    rw [h0, Nat.xor_zero] at hs
    rw [Sp.app]
    refine ⟨.inl, fun h1 => ?_⟩
    rcases h1 with h1 | h1
    · exact h1
    · have := h1.add hs; rwa [xx] at this
  · rw [Sp.app, Sp.app]
    refine or_congr Iff.rfl ⟨fun h1 => ?_, fun h1 => ?_⟩
    · have := h1.add hs
      rw [← Nat.xor_assoc, xsw _ _ g] at this
      rwa [xx] at this
    · have := h1.add hs
      rwa [← Nat.xor_assoc, xx] at this
theorem sp_addB {R : List Nat} {g t : Nat} (h : GoodB R) : Sp (addB R g) t ↔ Sp (R ++ [g]) t := by
  rw [← sp_addA h.good]
  unfold addA addB
  split
  · exact Iff.rfl
  · constructor
    · refine Sp.of_gen fun r hr => ?_
      rcases List.mem_append.1 hr with hr | hr
      · obtain ⟨r', hr', rfl⟩ := List.mem_map.1 hr
        have h1 := Sp.mem (List.mem_append_left [red lowB R g] hr')
        unfold cutB
        split
        · exact h1.add (Sp.mem (List.mem_append_right R (List.mem_singleton.2 rfl)))
        · exact h1
      · exact Sp.mem (List.mem_append_right R hr)
    · refine Sp.of_gen fun r hr => ?_
      have hx : Sp (R.map (cutB (red lowB R g)) ++ [red lowB R g]) (red lowB R g) := Sp.mem (List.mem_append_right _ (List.mem_singleton.2 rfl))
      rcases List.mem_append.1 hr with hr | hr
      · have h1 : Sp (R.map (cutB (red lowB R g)) ++ [red lowB R g]) (cutB (red lowB R g) r) := Sp.mem (List.mem_append_left _ (List.mem_map_of_mem hr))
        by_cases hb : r.testBit (lowB (red lowB R g)) = true
        · have := h1.add hx
          unfold cutB at this
          rw [if_pos hb, xx] at this
          exact this
        · unfold cutB at h1
          rw [if_neg hb] at h1
          exact h1
      · rw [List.mem_singleton.1 hr]; exact hx
/-- both ways side by side -/
structure Both (RA RB : List Nat) : Prop where
  a : Good lowB RA
  b : GoodB RB
  sp : ∀ t, Sp RA t ↔ Sp RB t
  len : RA.length = RB.length
theorem Both.zero {RA RB : List Nat} (h : Both RA RB) (t : Nat) : red lowB RA t = 0 ↔ red lowB RB t = 0 := by
  rw [red_zero h.a, red_zero h.b.good, h.sp t]
theorem Both.add {RA RB : List Nat} (h : Both RA RB) (g : Nat) : Both (addA RA g) (addB RB g) := by
  refine ⟨h.a.addA, h.b.add, fun t => ?_, ?_⟩
  · rw [sp_addA h.a, sp_addB h.b, Sp.app, Sp.app, h.sp, h.sp]
  · have hz := h.zero g
    unfold addA addB
    by_cases h0 : red lowB RA g = 0
    · rw [if_pos h0, if_pos (hz.1 h0)]; exact h.len
    · rw [if_neg h0, if_neg fun e => h0 (hz.2 e), List.length_append, List.length_append, List.length_map, h.len]; rfl
theorem both_rows (gs : List Nat) : Both (rowsA gs) (rowsB gs) := by
  have key : ∀ (gs RA RB : List Nat), Both RA RB → Both (gs.foldl addA RA) (gs.foldl addB RB) := by
    intro gs
    induction gs with
    | nil => exact fun _ _ h => h
    | cons g gs ih => exact fun _ _ h => ih _ _ (h.add g)
  exact key gs [] [] ⟨⟨fun r hr => (by cases hr), .nil⟩, ⟨fun r hr => (by cases hr), .nil⟩, fun t => Iff.rfl, rfl⟩
/-- a row's width -/
theorem red_width {n : Nat} {R : List Nat} {t : Nat} (hR : ∀ r ∈ R, r < 2 ^ n) (ht : t < 2 ^ n) : red lowB R t < 2 ^ n := by
  induction R generalizing t with
  | nil => exact ht
  | cons r R ih =>
    refine ih (fun x hx => hR x (List.mem_cons_of_mem _ hx)) ?_
    show (if t.testBit (lowB r) = true then t ^^^ r else t) < 2 ^ n
    split
    · exact Nat.xor_lt_two_pow ht (hR r (by simp))
    · exact ht
theorem addB_width {n : Nat} {R : List Nat} {g : Nat} (hR : ∀ r ∈ R, r < 2 ^ n) (hg : g < 2 ^ n) : ∀ r ∈ addB R g, r < 2 ^ n := by
  have hx := red_width hR hg
  unfold addB
  split
  · exact hR
  · intro r hr
    rcases List.mem_append.1 hr with hr | hr
    · obtain ⟨r', hr', rfl⟩ := List.mem_map.1 hr
      unfold cutB
      split
      · exact Nat.xor_lt_two_pow (hR r' hr') hx
      · exact hR r' hr'
    · rw [List.mem_singleton.1 hr]; exact hx
end Go.Proofs.YtoodhbafleemjaaGreat

/- Plain: rows of terms, reduced by their first terms, beside rows of bits. -/
namespace Go.Proofs.YtoodhbafleemjaaGreat
set_option linter.unusedVariables false

theorem IsMask.uniq {M t : Pol} {a b : Nat} (ha : IsMask M t a) (hb : IsMask M t b) : a = b := by
  apply Nat.eq_of_testBit_eq
  intro i
  rw [Bool.eq_iff_iff, ha.bit i, hb.bit i]
open Classical in
noncomputable def maskF (M t : Pol) : Nat := if h : ∃ w, IsMask M t w then h.choose else 0
theorem maskF_eq {M t : Pol} {w : Nat} (h : IsMask M t w) : maskF M t = w := by
  have hex : ∃ w, IsMask M t w := ⟨w, h⟩
  unfold maskF
  rw [dif_pos hex]
  exact hex.choose_spec.uniq h
theorem IsMask.snoc {M s : Pol} {x : List Int} {w i : Nat} (hM : Asc M) (hs : Asc (s ++ [x])) (h : IsMask M s w) (hi : M[i]? = some x) : IsMask M (s ++ [x]) (w ^^^ 2 ^ i) := by
  have h1 : Asc s := (List.pairwise_append.1 hs).1
  have := h.sum h1 (by simp [Asc]) (IsMask.single hM hi)
  rwa [oddL_of_asc hs] at this
theorem IsMask.step {M t : Pol} {x : List Int} {w i k : Nat} (hM : Asc M) (ht : Asc t) (h : IsMask M (t.take k) w) (hx : t[k]? = some x) (hi : M[i]? = some x) : IsMask M (t.take (k + 1)) (w ^^^ 2 ^ i) := by
  have e : t.take (k + 1) = t.take k ++ [x] := by rw [List.take_add_one, hx]; rfl
  rw [e]
  refine h.snoc hM ?_ hi
  rw [← e]
  exact List.Pairwise.sublist (List.take_sublist _ _) ht
theorem mask_of {M t : Pol} (hM : Asc M) (ht : Asc t) (hs : ∀ z ∈ t, z ∈ M) : IsMask M t (maskF M t) := by
  have key : ∀ k, k ≤ t.length → ∃ w, IsMask M (t.take k) w := by
    intro k hk
    induction k with
    | zero => exact ⟨0, by rw [List.take_zero]; exact IsMask.nil⟩
    | succ k ih =>
      obtain ⟨w, hw⟩ := ih (by omega)
      obtain ⟨i, hi⟩ := List.mem_iff_getElem?.1 (hs _ (List.getElem_mem (show k < t.length by omega)))
      exact ⟨_, hw.step hM ht (List.getElem?_eq_getElem (by omega)) hi⟩
  obtain ⟨w, hw⟩ := key t.length (Nat.le_refl _)
  rw [List.take_length] at hw
  rw [maskF_eq hw]
  exact hw
theorem mask_lt {M t : Pol} {w : Nat} (h : IsMask M t w) : w < 2 ^ M.length := by
  apply Nat.lt_pow_two_of_testBit
  intro i hi
  exact h.off hi

def firstT (t : Pol) : List Int := t.headD []
def redF (rows : List Pol) (t : Pol) : Pol := rows.foldl (fun t own => if firstT own ∈ t then oddL (t ++ own) else t) t
def addF (rows : List Pol) (g : Pol) : List Pol := if redF rows g = [] then rows else rows ++ [redF rows g]
def rowsF (gs : List Pol) : List Pol := gs.foldl addF []
theorem rowsF_snoc (gs : List Pol) (g : Pol) : rowsF (gs ++ [g]) = addF (rowsF gs) g := by unfold rowsF; rw [List.foldl_append]; rfl
theorem redF_snoc (rows : List Pol) (r t : Pol) : redF (rows ++ [r]) t = (if firstT r ∈ redF rows t then oddL (redF rows t ++ r) else redF rows t) := by unfold redF; rw [List.foldl_append]; rfl
/-- a row of terms and its mask -/
structure RowM (M r : Pol) (v : Nat) : Prop where
  asc : Asc r
  ne : r ≠ []
  sub : ∀ z ∈ r, z ∈ M
  mask : IsMask M r v
def MaskR (M : Pol) : List Pol → List Nat → Prop
  | [], [] => True
  | r :: rs, v :: vs => RowM M r v ∧ MaskR M rs vs
  | _, _ => False
theorem RowM.low {M r : Pol} {v : Nat} (hM : Asc M) (h : RowM M r v) : M[lowB v]? = some (firstT r) := by
  match r, h with
  | x :: r, h =>
    obtain ⟨i, hi⟩ := List.mem_iff_getElem?.1 (h.sub x (by simp))
    have e : lowB v = i := by
      refine lowB_of ((h.mask.at_ hi).2 (by simp)) fun j hj => ?_
      cases e : v.testBit j with
      | false => rfl
      | true =>
        obtain ⟨z, hz, hm⟩ := (h.mask.bit j).1 e
        have h1 := (place_lt hM hz hi).1 hj
        rcases List.mem_cons.1 hm with rfl | hm
        · rw [ltL_irrefl] at h1; cases h1
        · have h2 := (List.pairwise_cons.1 h.asc).1 z hm
          rw [ltL_asymm h2] at h1; cases h1
    rw [e]; exact hi
theorem redF_mask {M : Pol} (hM : Asc M) : ∀ {rows : List Pol} {R : List Nat} {t : Pol} {w : Nat}, MaskR M rows R → Asc t → (∀ z ∈ t, z ∈ M) → IsMask M t w →
    Asc (redF rows t) ∧ (∀ z ∈ redF rows t, z ∈ M) ∧ IsMask M (redF rows t) (red lowB R w)
  | [], [], t, w, _, ht, hs, hw => ⟨ht, hs, hw⟩
  | r :: rs, v :: vs, t, w, h, ht, hs, hw => by
    have hl := h.1.low hM
    have hb := hw.at_ hl
    show Asc (redF rs (if firstT r ∈ t then oddL (t ++ r) else t)) ∧ (∀ z ∈ redF rs (if firstT r ∈ t then oddL (t ++ r) else t), z ∈ M) ∧ IsMask M (redF rs (if firstT r ∈ t then oddL (t ++ r) else t)) (red lowB vs (if w.testBit (lowB v) = true then w ^^^ v else w))
    by_cases hm : firstT r ∈ t
    · rw [if_pos hm, if_pos (hb.2 hm)]
      refine redF_mask hM h.2 (oddL_asc _) (fun z hz => ?_) (hw.sum ht h.1.asc h.1.mask)
      rcases List.mem_append.1 (oddL_mem hz) with hz | hz
      · exact hs z hz
      · exact h.1.sub z hz
    · rw [if_neg hm, if_neg fun e => hm (hb.1 e)]
      exact redF_mask hM h.2 ht hs hw
theorem MaskR.snoc {M : Pol} : ∀ {rows : List Pol} {R : List Nat} {r : Pol} {v : Nat}, MaskR M rows R → RowM M r v → MaskR M (rows ++ [r]) (R ++ [v])
  | [], [], r, v, _, hr => ⟨hr, trivial⟩
  | x :: rs, y :: vs, r, v, h, hr => ⟨h.1, MaskR.snoc h.2 hr⟩
theorem MaskR.len {M : Pol} : ∀ {rows : List Pol} {R : List Nat}, MaskR M rows R → rows.length = R.length
  | [], [], _ => rfl
  | x :: rs, y :: vs, h => by rw [List.length_cons, List.length_cons, MaskR.len h.2]
theorem addF_mask {M : Pol} (hM : Asc M) {rows : List Pol} {R : List Nat} {g : Pol} {w : Nat} (h : MaskR M rows R) (hg : Asc g) (hs : ∀ z ∈ g, z ∈ M) (hw : IsMask M g w) : MaskR M (addF rows g) (addA R w) := by
  obtain ⟨h1, h2, h3⟩ := redF_mask hM h hg hs hw
  have hz := h3.zero h2
  unfold addF addA
  by_cases h0 : redF rows g = []
  · rw [if_pos h0, if_pos (hz.2 h0)]; exact h
  · rw [if_neg h0, if_neg fun e => h0 (hz.1 e)]
    exact h.snoc ⟨h1, h0, h2, h3⟩
theorem rowsF_mask {M : Pol} (hM : Asc M) {gs : List Pol} (hg : ∀ g ∈ gs, Asc g ∧ ∀ z ∈ g, z ∈ M) : MaskR M (rowsF gs) (rowsA (gs.map (maskF M))) := by
  have key : ∀ (gs rows : List Pol) (R : List Nat), (∀ g ∈ gs, Asc g ∧ ∀ z ∈ g, z ∈ M) → MaskR M rows R → MaskR M (gs.foldl addF rows) ((gs.map (maskF M)).foldl addA R) := by
    intro gs
    induction gs with
    | nil => exact fun _ _ _ h => h
    | cons g gs ih => exact fun rows R hg h => ih _ _ (fun x hx => hg x (List.mem_cons_of_mem _ hx)) (addF_mask hM h (hg g (by simp)).1 (hg g (by simp)).2 (mask_of hM (hg g (by simp)).1 (hg g (by simp)).2))
  exact key gs [] [] hg trivial
/-- both sides keep as many rows -/
theorem rows_len {M : Pol} (hM : Asc M) {gs : List Pol} (hg : ∀ g ∈ gs, Asc g ∧ ∀ z ∈ g, z ∈ M) : (rowsF gs).length = (rowsB (gs.map (maskF M))).length := by
  rw [(rowsF_mask hM hg).len, (both_rows _).len]
/-- both sides find the same terms in the span -/
theorem rows_in {M : Pol} (hM : Asc M) {gs : List Pol} (hg : ∀ g ∈ gs, Asc g ∧ ∀ z ∈ g, z ∈ M) {t : Pol} (ht : Asc t) (hs : ∀ z ∈ t, z ∈ M) : redF (rowsF gs) t = [] ↔ red lowB (rowsB (gs.map (maskF M))) (maskF M t) = 0 := by
  obtain ⟨h1, h2, h3⟩ := redF_mask hM (rowsF_mask hM hg) ht hs (mask_of hM ht hs)
  rw [← h3.zero h2, (both_rows _).zero]
theorem rowsF_ok {M : Pol} (hM : Asc M) {gs : List Pol} (hg : ∀ g ∈ gs, Asc g ∧ ∀ z ∈ g, z ∈ M) : ∀ r ∈ rowsF gs, Asc r ∧ r ≠ [] ∧ ∀ z ∈ r, z ∈ M := by
  have h := rowsF_mask hM hg
  revert h
  generalize rowsF gs = rows
  generalize rowsA (gs.map (maskF M)) = R
  intro h
  induction rows generalizing R with
  | nil => intro r hr; cases hr
  | cons x rs ih =>
    match R, h with
    | v :: vs, h =>
      intro r hr
      rcases List.mem_cons.1 hr with rfl | hr
      · exact ⟨h.1.asc, h.1.ne, h.1.sub⟩
      · exact ih vs h.2 r hr
theorem rowsB_width {M : Pol} (hM : Asc M) {gs : List Pol} (hg : ∀ g ∈ gs, Asc g ∧ ∀ z ∈ g, z ∈ M) : ∀ v ∈ rowsB (gs.map (maskF M)), v < 2 ^ M.length := by
  have key : ∀ (gs : List Pol) (R : List Nat), (∀ g ∈ gs, Asc g ∧ ∀ z ∈ g, z ∈ M) → (∀ v ∈ R, v < 2 ^ M.length) → ∀ v ∈ (gs.map (maskF M)).foldl addB R, v < 2 ^ M.length := by
    intro gs
    induction gs with
    | nil => exact fun _ _ h => h
    | cons g gs ih => exact fun R hg h => ih _ (fun x hx => hg x (List.mem_cons_of_mem _ hx)) (addB_width h (mask_lt (mask_of hM (hg g (by simp)).1 (hg g (by simp)).2)))
  exact key gs [] hg fun v hv => by cases hv
end Go.Proofs.YtoodhbafleemjaaGreat
