/- Plain: texts of polynomials, read back. -/
import Derived.Test.YtbcchiaigincaaaGreatDoorPtx
import Derived.Lib.SplitLaws
namespace Go.Proofs.YtbcchiaigincaaaGreatDoor
set_option linter.unusedVariables false

def consH (x : UInt8) : List (List UInt8) → List (List UInt8)
  | [] => [[x]]
  | y :: ys => (x :: y) :: ys
/-- the parts of a text between the bytes b -/
def splitU (b : UInt8) : List UInt8 → List (List UInt8)
  | [] => [[]]
  | x :: l => if x = b then [] :: splitU b l else consH x (splitU b l)
theorem consH_ne (x : UInt8) (L : List (List UInt8)) : consH x L ≠ [] := by cases L <;> simp [consH]
theorem splitU_ne (b : UInt8) (l : List UInt8) : splitU b l ≠ [] := by
  cases l with
  | nil => simp [splitU]
  | cons x l =>
    rw [splitU]
    split
    · simp
    · exact consH_ne _ _
theorem splitU_none {b : UInt8} : ∀ {l : List UInt8}, b ∉ l → splitU b l = [l]
  | [], _ => rfl
  | x :: l, h => by
    have h1 : x ≠ b := fun e => h (by simp [e])
    rw [splitU, if_neg h1, splitU_none fun hm => h (List.mem_cons_of_mem _ hm)]
    rfl
theorem splitU_app {b : UInt8} {r : List UInt8} : ∀ {u : List UInt8}, b ∉ u → splitU b (u ++ b :: r) = u :: splitU b r
  | [], _ => by rw [List.nil_append, splitU, if_pos rfl]
  | x :: l, h => by
    have h1 : x ≠ b := fun e => h (by simp [e])
    rw [List.cons_append, splitU, if_neg h1, splitU_app fun hm => h (List.mem_cons_of_mem _ hm)]
    rfl
theorem join_cons2 (t x : List UInt8) (r : List (List UInt8)) (b : UInt8) : Lib.join (t :: x :: r) [b] = t ++ b :: Lib.join (x :: r) [b] := by
  rw [Lib.join_cons, Lib.join_cons]
  simp [Lib.joinTail]
theorem splitU_join {b : UInt8} : ∀ {ts : List (List UInt8)}, ts ≠ [] → (∀ t ∈ ts, b ∉ t) → splitU b (Lib.join ts [b]) = ts
  | [], h, _ => absurd rfl h
  | [t], _, h => by rw [Lib.join_one]; exact splitU_none (h t (by simp))
  | t :: x :: r, _, h => by
    rw [join_cons2, splitU_app (h t (by simp)), splitU_join (by simp) fun u hu => h u (List.mem_cons_of_mem _ hu)]
theorem join_consH (x b : UInt8) (L : List (List UInt8)) (h : L ≠ []) : Lib.join (consH x L) [b] = x :: Lib.join L [b] := by
  cases L with
  | nil => exact absurd rfl h
  | cons y ys => rw [consH, Lib.join_cons, Lib.join_cons]; rfl
theorem join_nilH (b : UInt8) (L : List (List UInt8)) (h : L ≠ []) : Lib.join ([] :: L) [b] = b :: Lib.join L [b] := by
  cases L with
  | nil => exact absurd rfl h
  | cons y ys => rw [join_cons2]; rfl
theorem join_splitU (b : UInt8) : ∀ l : List UInt8, Lib.join (splitU b l) [b] = l
  | [] => by rw [splitU, Lib.join_one]
  | x :: l => by
    rw [splitU]
    by_cases h : x = b
    · rw [if_pos h, join_nilH b _ (splitU_ne b l), join_splitU b l, h]
    · rw [if_neg h, join_consH x b _ (splitU_ne b l), join_splitU b l]
theorem splitU_mem {b : UInt8} : ∀ {l t : List UInt8}, t ∈ splitU b l → b ∉ t
  | [], t, h => by rw [splitU, List.mem_singleton] at h; subst h; simp
  | x :: l, t, h => by
    rw [splitU] at h
    by_cases hx : x = b
    · rw [if_pos hx] at h
      rcases List.mem_cons.1 h with rfl | h
      · simp
      · exact splitU_mem h
    · rw [if_neg hx] at h
      cases hs : splitU b l with
      | nil => exact absurd hs (splitU_ne b l)
      | cons y ys =>
        rw [hs] at h
        rcases List.mem_cons.1 h with rfl | h
        · intro hm
          rcases List.mem_cons.1 hm with e | hm
          · exact hx e.symm
          · exact splitU_mem (l := l) (by rw [hs]; simp) hm
        · exact splitU_mem (l := l) (by rw [hs]; exact List.mem_cons_of_mem _ h)
theorem splitU_len (b : UInt8) : ∀ l : List UInt8, (splitU b l).length = l.count b + 1
  | [] => rfl
  | x :: l => by
    rw [splitU]
    by_cases h : x = b
    · subst h
      rw [if_pos rfl, List.count_cons_self, List.length_cons, splitU_len x l]
    · rw [if_neg h, List.count_cons_of_ne (by simpa using h)]
      have := splitU_len b l
      cases hs : splitU b l with
      | nil => exact absurd hs (splitU_ne b l)
      | cons y ys => rw [hs] at this; simpa [consH] using this
/-- the library's split -/
theorem splitK_step (b : UInt8) (k : Nat) (x : UInt8) (l : List UInt8) : Lib.splitK [b] 0 (k + 1) (x :: l) = if x = b then [] :: Lib.splitK [b] 0 k l else consH x (Lib.splitK [b] 0 (k + 1) l) := by
  by_cases hb : x = b
  · subst hb
    rw [if_pos rfl, Lib.splitK, if_neg (by simp [Lib.index])]
    simp [Lib.index]
  · rw [if_neg hb]
    have hp : ([b] : List UInt8).isPrefixOf (x :: l) = false := by simp [List.isPrefixOf]; exact fun h => hb h.symm
    by_cases hm : Lib.index l [b] = -1
    · have hi : Lib.index (x :: l) [b] = -1 := by rw [Lib.index, if_neg (by rw [hp]; simp), if_pos (by simp [hm])]
      rw [Lib.splitK, if_pos (by rw [hi]; rfl), Lib.splitK, if_pos (by rw [hm]; rfl)]
      rfl
    · have hge := Lib.index_ge l [b]
      obtain ⟨i, hi⟩ : ∃ i : Nat, Lib.index l [b] = i := ⟨(Lib.index l [b]).toNat, by omega⟩
      have hi2 : Lib.index (x :: l) [b] = ((i + 1 : Nat) : Int) := by rw [Lib.index, if_neg (by rw [hp]; simp), if_neg (by simp [hm]), hi]; push_cast; rfl
      rw [Lib.splitK, if_neg (by rw [hi2, beq_iff_eq]; omega), Lib.splitK, if_neg (by rw [hi, beq_iff_eq]; omega), hi2, hi]
      simp [consH]
theorem splitK_all (b : UInt8) : ∀ (l : List UInt8) (k : Nat), l.count b ≤ k → Lib.splitK [b] 0 k l = splitU b l := by
  intro l
  induction l with
  | nil =>
    intro k _
    cases k with
    | zero => rfl
    | succ k => simp [Lib.splitK, Lib.index, splitU]
  | cons x l ih =>
    intro k hk
    cases k with
    | zero =>
      have hx : ¬ x = b := fun e => by subst e; rw [List.count_cons_self] at hk; omega
      rw [Lib.splitK, splitU_none]
      intro hm
      have := List.count_pos_iff.2 hm
      omega
    | succ k =>
      rw [splitK_step, splitU]
      by_cases hb : x = b
      · subst hb
        rw [List.count_cons_self] at hk
        rw [if_pos rfl, if_pos rfl, ih k (by omega)]
      · rw [List.count_cons_of_ne (by simpa using hb)] at hk
        rw [if_neg hb, if_neg hb, ih (k + 1) hk]
/-! numbers -/
def digF (n : Int) : List UInt8 → Int
  | [] => n
  | c :: l => if c.toNat < 48 ∨ 57 < c.toNat then -1 else digF (n * 10 + ((c.toNat : Int) - 48)) l
def valF (s : List UInt8) : Int := if s.length = 0 ∨ 9 < s.length ∨ (1 < s.length ∧ s.headD 0 = 48) then -1 else digF 0 s
theorem val_dec {m : Nat} (h : m < 100) : valF (decW m) = m := by
  have key : ∀ m : Fin 100, valF (decW m.1) = (m.1 : Int) := by decide +kernel
  exact key ⟨m, h⟩
theorem digF_ge : ∀ (l : List UInt8) (n : Int), 0 ≤ n → digF n l = -1 ∨ n ≤ digF n l
  | [], n, h => .inr (Int.le_refl _)
  | c :: l, n, h => by
    rw [digF]
    split
    · exact .inl rfl
    · rename_i hc
      rcases digF_ge l (n * 10 + ((c.toNat : Int) - 48)) (by omega) with h1 | h1
      · exact .inl h1
      · exact .inr (by omega)
theorem dg_of {c : UInt8} {n : Nat} (h : c.toNat = 48 + n) : dg n = c := by
  unfold dg
  rw [← h]
  exact UInt8.ofNat_toNat
theorem dec_val {s : List UInt8} {i : Int} (h : valF s = i) (h0 : 0 ≤ i) (h1 : i < 100) : s = decW i.toNat := by
  unfold valF at h
  split at h
  · omega
  · rename_i hn
    match s, hn, h with
    | [], hn, _ => exact absurd (Or.inl rfl) hn
    | [c], hn, h =>
      simp only [digF] at h
      split at h
      · omega
      · rename_i hc
        have hi : i.toNat = c.toNat - 48 := by omega
        unfold decW
        rw [if_pos (by omega), hi, dg_of (c := c) (by omega)]
    | [c, d], hn, h =>
      simp only [digF] at h
      split at h
      · omega
      · rename_i hc
        split at h
        · omega
        · rename_i hd
          have hc0 : c.toNat ≠ 48 := fun e => hn (.inr (.inr ⟨by simp, by
            show c = 48
            exact UInt8.toNat_inj.1 (by rw [e]; rfl)⟩))
          have hi : i.toNat = (c.toNat - 48) * 10 + (d.toNat - 48) := by omega
          unfold decW
          rw [if_neg (by omega), hi, show ((c.toNat - 48) * 10 + (d.toNat - 48)) / 10 = c.toNat - 48 from by omega, show ((c.toNat - 48) * 10 + (d.toNat - 48)) % 10 = d.toNat - 48 from by omega, dg_of (c := c) (by omega), dg_of (c := d) (by omega)]
    | c :: d :: e :: r, hn, h =>
      exfalso
      simp only [digF] at h
      split at h
      · omega
      · rename_i hc
        split at h
        · omega
        · rename_i hd
          split at h
          · omega
          · rename_i he
            have hc0 : c.toNat ≠ 48 := fun e => hn (.inr (.inr ⟨by simp, by
              show c = 48
              exact UInt8.toNat_inj.1 (by rw [e]; rfl)⟩))
            rcases digF_ge r _ (show 0 ≤ ((0 * 10 + ((c.toNat : Int) - 48)) * 10 + ((d.toNat : Int) - 48)) * 10 + ((e.toNat : Int) - 48) by omega) with h2 | h2 <;> omega
/-! polynomials -/
def readL (w : List UInt8) : List Int := (splitU 44 w).map valF
def readP (t : List UInt8) : Option (Int × List (List Int)) :=
  match splitU 58 t with
  | [p, q] => some (valF p, if q = [45] then [] else (splitU 43 q).map readL)
  | _ => none
theorem decW_no (c : UInt8) (hc : c.toNat < 48 ∨ 57 < c.toNat) (m : Nat) (h : m < 100) : c ∉ decW m := by
  have hd : ∀ n, n < 10 → c ≠ dg n := fun n hn e => by
    have := congrArg UInt8.toNat e
    rw [dg_nat hn] at this; omega
  unfold decW
  split
  · rename_i h1
    simpa using hd m h1
  · simp only [List.mem_cons, List.not_mem_nil, or_false, not_or]
    exact ⟨hd _ (by omega), hd _ (by omega)⟩
theorem join_no {b c : UInt8} (hb : c ≠ b) : ∀ {ts : List (List UInt8)}, (∀ t ∈ ts, c ∉ t) → c ∉ Lib.join ts [b]
  | [], _ => by simp [Lib.join_nil]
  | [t], h => by rw [Lib.join_one]; exact h t (by simp)
  | t :: x :: r, h => by
    rw [join_cons2]
    intro hm
    rcases List.mem_append.1 hm with hm | hm
    · exact h t (by simp) hm
    · rcases List.mem_cons.1 hm with e | hm
      · exact hb e
      · exact join_no hb (fun u hu => h u (List.mem_cons_of_mem _ hu)) hm
theorem numT_no (c : UInt8) (hc : c.toNat < 48 ∨ 57 < c.toNat) (hb : c ≠ 44) {x : List Int} (hx : ∀ i ∈ x, 0 ≤ i ∧ i < 100) : c ∉ numT [44] x :=
  join_no hb fun t ht => by
    obtain ⟨i, hi, rfl⟩ := List.mem_map.1 ht
    exact decW_no c hc _ (by have := hx i hi; omega)
theorem decW_ne (m : Nat) : decW m ≠ [] := by unfold decW; split <;> simp
theorem read_num {x : List Int} (hx : ∀ i ∈ x, 0 ≤ i ∧ i < 100) (h0 : x ≠ []) : readL (numT [44] x) = x := by
  unfold readL numT
  rw [splitU_join (by simpa using h0) fun t ht => by
    obtain ⟨i, hi, rfl⟩ := List.mem_map.1 ht
    exact decW_no 44 (by decide) _ (by have := hx i hi; omega)]
  rw [List.map_map]
  refine (List.map_congr_left fun i hi => ?_).trans (List.map_id' x)
  have := hx i hi
  show valF (decW i.toNat) = i
  rw [val_dec (by omega)]
  omega
theorem join_head {b : UInt8} {t : List UInt8} {r : List (List UInt8)} {c : UInt8} {u : List UInt8} (h : t = c :: u) : ∃ v, Lib.join (t :: r) [b] = c :: v := by
  rw [Lib.join_cons, h]
  exact ⟨_, rfl⟩
/-- the part behind the colon -/
def tailT (xss : List (List Int)) : List UInt8 := if xss = [] then [45] else Lib.join (xss.map (numT [44])) [43]
theorem polT_eq (v : Int) (xss : List (List Int)) : polT v xss = decW v.toNat ++ 58 :: tailT xss := by
  unfold polT tailT
  simp
structure PolX (v : Int) (xss : List (List Int)) : Prop where
  v0 : 1 ≤ v
  v4 : v ≤ 4
  ne : ∀ x ∈ xss, x ≠ []
  rng : ∀ x ∈ xss, ∀ i ∈ x, 0 ≤ i ∧ i < 100
theorem polX_of {v : Int} {xss : List (List Int)} (h : polB v xss = true) : PolX v xss := by
  have h' := h
  simp only [polB, Bool.and_eq_true, List.all_eq_true, decide_eq_true_eq] at h
  obtain ⟨⟨⟨⟨h1, h2⟩, h3⟩, _⟩, _⟩ := h
  have h1 := inB_iff.1 h1
  refine ⟨h1.1, h1.2, fun x hx e => ?_, fun x hx => ?_⟩
  · have h4 := h3 x hx
    simp only [monB, Bool.and_eq_true, decide_eq_true_eq] at h4
    rw [e] at h4
    have := h4.1.1
    simp at this
    omega
  · have h4 := h3 x hx
    simp only [monB, Bool.and_eq_true, decide_eq_true_eq, degsB, List.all_eq_true] at h4
    exact fun i hi => by have := inB_iff.1 (h4.1.2 i hi); omega
theorem tail_head {v : Int} {xss : List (List Int)} (h : PolX v xss) (hn : xss ≠ []) : ∃ c u, tailT xss = c :: u ∧ 48 ≤ c.toNat ∧ c.toNat ≤ 57 := by
  unfold tailT
  rw [if_neg hn]
  cases xss with
  | nil => exact absurd rfl hn
  | cons x r =>
    have hx := h.rng x (by simp)
    cases x with
    | nil => exact absurd rfl (h.ne [] (by simp))
    | cons i y =>
      have hi := hx i (by simp)
      have hd : ∃ n u, n < 10 ∧ decW i.toNat = dg n :: u := by
        unfold decW
        split
        · rename_i h1; exact ⟨_, _, h1, rfl⟩
        · exact ⟨_, _, by omega, rfl⟩
      obtain ⟨n, u, hn10, hu⟩ := hd
      obtain ⟨v1, hv1⟩ := join_head (b := 44) (r := y.map fun i => decW i.toNat) hu
      obtain ⟨v2, hv2⟩ := join_head (b := 43) (t := numT [44] (i :: y)) (r := r.map (numT [44])) (show numT [44] (i :: y) = dg n :: v1 from hv1)
      exact ⟨dg n, v2, hv2, by rw [dg_nat hn10]; omega, by rw [dg_nat hn10]; omega⟩
theorem tail_no {v : Int} {xss : List (List Int)} (h : PolX v xss) : (58 : UInt8) ∉ tailT xss := by
  unfold tailT
  split
  · decide
  · exact join_no (by decide) fun t ht => by
      obtain ⟨x, hx, rfl⟩ := List.mem_map.1 ht
      exact numT_no 58 (by decide) (by decide) (h.rng x hx)
theorem tail_read {v : Int} {xss : List (List Int)} (h : PolX v xss) (hn : xss ≠ []) : splitU 43 (tailT xss) = xss.map (numT [44]) := by
  unfold tailT
  rw [if_neg hn, splitU_join (by simpa using hn) fun t ht => by
    obtain ⟨x, hx, rfl⟩ := List.mem_map.1 ht
    exact numT_no 43 (by decide) (by decide) (h.rng x hx)]
theorem read_text {v : Int} {xss : List (List Int)} (h : PolX v xss) : readP (polT v xss) = some (v, xss) := by
  have hv := h.v0; have hv4 := h.v4
  unfold readP
  rw [polT_eq, splitU_app (decW_no 58 (by decide) _ (by omega)), splitU_none (tail_no h)]
  simp only
  rw [val_dec (by omega), show ((v.toNat : Nat) : Int) = v from by omega]
  by_cases hn : xss = []
  · subst hn
    rw [show tailT [] = [45] from rfl, if_pos rfl]
  · obtain ⟨c, u, e, hc⟩ := tail_head h hn
    rw [if_neg (by rw [e]; intro e2; injection e2 with e3; rw [e3] at hc; revert hc; decide), tail_read h hn, List.map_map]
    refine congrArg (fun z => some (v, z)) ?_
    refine (List.map_congr_left fun x hx => ?_).trans (List.map_id' xss)
    exact read_num (h.rng x hx) (h.ne x hx)
theorem text_read {t : List UInt8} {v : Int} {xss : List (List Int)} (hr : readP t = some (v, xss)) (h : PolX v xss) : t = polT v xss := by
  have hv := h.v0; have hv4 := h.v4
  have hj := join_splitU 58 t
  unfold readP at hr
  cases hs : splitU 58 t with
  | nil => rw [hs] at hr; cases hr
  | cons p r =>
    rw [hs] at hr hj
    cases r with
    | nil => cases hr
    | cons q r =>
      cases r with
      | cons a b => cases hr
      | nil =>
        simp only [Option.some.injEq, Prod.mk.injEq] at hr
        obtain ⟨h1, h2⟩ := hr
        rw [join_cons2, Lib.join_one] at hj
        rw [← hj, polT_eq, dec_val h1 (by omega) (by omega)]
        congr 2
        by_cases hq : q = [45]
        · rw [if_pos hq] at h2
          rw [← h2, hq]; rfl
        · rw [if_neg hq] at h2
          have hn : xss ≠ [] := fun e => by rw [e] at h2; exact splitU_ne 43 q (List.map_eq_nil_iff.1 h2)
          unfold tailT
          rw [if_neg hn, ← h2, List.map_map]
          refine (join_splitU 43 q).symm.trans (congrArg (fun z => Lib.join z [43]) ?_)
          refine ((List.map_congr_left fun w hw => ?_).trans (List.map_id' (splitU 43 q))).symm
          show numT [44] (readL w) = w
          have hx := h.rng (readL w) (by rw [← h2]; exact List.mem_map_of_mem hw)
          unfold numT readL
          rw [List.map_map]
          refine Eq.trans (congrArg (fun z => Lib.join z [44]) ?_) (join_splitU 44 w)
          refine (List.map_congr_left fun y hy => ?_).trans (List.map_id' (splitU 44 w))
          have hi := hx (valF y) (List.mem_map_of_mem hy)
          exact (dec_val rfl hi.1 hi.2).symm
/-- what is read -/
def ppO (t : List UInt8) : Int × List (List Int) × Int :=
  match readP t with
  | some (v, xss) => if polB v xss = true then (v, xss, 0) else (0, [], 6)
  | none => (0, [], 6)
theorem ppO_ok {v : Int} {xss : List (List Int)} (h : polB v xss = true) : ppO (polT v xss) = (v, xss, 0) := by
  unfold ppO
  rw [read_text (polX_of h)]
  simp only
  rw [if_pos h]
theorem ppO_bad {t : List UInt8} (h : ∀ v xss, polB v xss = true → t ≠ polT v xss) : ppO t = (0, [], 6) := by
  unfold ppO
  cases hr : readP t with
  | none => rfl
  | some p =>
    obtain ⟨v, xss⟩ := p
    simp only
    split
    · rename_i hp
      exact absurd (text_read hr (polX_of hp)) (h v xss hp)
    · rfl
theorem readL_total (w : List UInt8) : (readL w).length = w.count 44 + 1 := by
  unfold readL
  rw [List.length_map, splitU_len]
end Go.Proofs.YtbcchiaigincaaaGreatDoor
