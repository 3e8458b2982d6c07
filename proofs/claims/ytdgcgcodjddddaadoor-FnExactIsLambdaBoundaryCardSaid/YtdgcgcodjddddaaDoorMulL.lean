/- Products of words on both sides: impl.products, spec.l16Times. -/
import Derived.Test.YtdgcgcodjddddaaDoorLam
import Derived.Test.YtdgcgcodjddddaaDoorFormL
import Derived.Test.YtdgcgcodjddddaaDoorLwIsLam
import Derived.Lib.AppendZeros
namespace Go.Proofs.YtdgcgcodjddddaaDoor
open Go.RowKit
set_option linter.unusedVariables false

theorem prods_length (a b : List (List Int)) : (prods a b).length = a.length * b.length := by
  induction a with
  | nil => simp [prods]
  | cons x a ih =>
    rw [prods, List.flatMap_cons, List.length_append, flat_one, List.length_map, List.length_cons, Nat.add_mul, Nat.one_mul]
    rw [prods] at ih
    omega
theorem prods_succ {a b : List (List Int)} {k : Nat} {x : List Int} (h : a[k]? = some x) : prods (a.take (k + 1)) b = prods (a.take k) b ++ b.flatMap fun y => [x ++ y] := by
  rw [List.take_add_one, h]
  simp [prods]
theorem flat_succ {b : List (List Int)} {k : Nat} {x y : List Int} (h : b[k]? = some y) : ((b.take (k + 1)).flatMap fun y => [x ++ y]) = ((b.take k).flatMap fun y => [x ++ y]) ++ [x ++ y] := by
  rw [List.take_add_one, h]
  simp
theorem flat_len (b : List (List Int)) (x : List Int) (k : Nat) (h : k ≤ b.length) : ((b.take k).flatMap fun y => [x ++ y]).length = k := by
  rw [flat_one, List.length_map, List.length_take]
  omega

/-- what stands in out while words are added: the words so far, modulo 2 -/
structure SumInv (L out : List (List Int)) : Prop where
  eq : out = oddL L
  ok : ∀ z ∈ L, okW z
theorem SumInv.asc {L out : List (List Int)} (h : SumInv L out) : Asc out := by rw [h.eq]; exact oddL_asc _
theorem SumInv.okO {L out : List (List Int)} (h : SumInv L out) : ∀ z ∈ out, okW z := by rw [h.eq]; exact fun z hz => h.ok z (oddL_mem hz)
theorem SumInv.len {L out : List (List Int)} (h : SumInv L out) : out.length ≤ 75582 := asc_len h.asc h.okO
theorem SumInv.tot {L out : List (List Int)} (h : SumInv L out) : totalL out ≤ 529074 := by
  have h1 := tot_le out 7 fun z hz => (h.okO z hz).1
  have := h.len
  omega
theorem SumInv.start : SumInv [] [] := ⟨rfl, fun z hz => by cases hz⟩
theorem SumInv.step {L out : List (List Int)} {z : List Int} (h : SumInv L out) (hz : okW z) : SumInv (L ++ [z]) (oddL (out ++ [z])) := by
  refine ⟨oddL_congr ?_, fun y hy => (List.mem_append.1 hy).elim (h.ok y) fun e => by rw [List.mem_singleton.1 e]; exact hz⟩
  rw [h.eq]
  exact (oddL_same _).append (SameSum.refl _)

def RetSum (L : List (List Int)) (w : World) (e : Ending) (w' : World) : Prop := RetL (oddL L).length (oddL L) w e w'

end Go.Proofs.YtdgcgcodjddddaaDoor

/- MultiplyLambda on both sides. -/
namespace Go.Proofs.YtdgcgcodjddddaaDoor
open Go.RowKit
set_option linter.unusedVariables false

theorem isLB_all {xss : List (List Int)} (h : isLB xss = true) : ∀ x ∈ xss, okW x ∧ x.length = (xss.headD []).length ∧ sumZ x = psT 0 (xss.headD []) := by
  intro x hx
  have h0 := isLB_okW h x hx
  rw [isLB_eq] at h
  simp only [Bool.and_eq_true, List.all_eq_true] at h
  have h1 := h.2 x hx
  simp only [okx, Bool.and_eq_true, decide_eq_true_eq, lenI] at h1
  obtain ⟨⟨h2, h3⟩, h4⟩ := h1
  simp only [wordB, Bool.and_eq_true, decide_eq_true_eq, facB, List.all_eq_true, inB] at h2
  have h5 := psT_sumZ x 0 h2.1.2 (by omega) (by omega)
  have h3 := of_decide_eq_true h3
  exact ⟨h0, by omega, by omega⟩
theorem isLB_head {xss : List (List Int)} (h : isLB xss = true) : (xss.headD []).length ≤ 7 ∧ 0 ≤ psT 0 (xss.headD []) ∧ psT 0 (xss.headD []) ≤ 11 := by
  cases xss with
  | nil => simp [psT]
  | cons x r =>
    obtain ⟨h1, h2, h3⟩ := isLB_all h x (by simp)
    rw [← h2, ← h3]
    exact ⟨h1.1, sumZ_nonneg h1.2.1, h1.2.2⟩
theorem isLB_mul {xss yss : List (List Int)} (h1 : isLB xss = true) (h2 : isLB yss = true) (hl : (xss.headD []).length + (yss.headD []).length ≤ 7) (hs : psT 0 (xss.headD []) + psT 0 (yss.headD []) ≤ 11) : ∀ x ∈ xss, ∀ y ∈ yss, okW (x ++ y) := by
  intro x hx y hy
  obtain ⟨a1, a2, a3⟩ := isLB_all h1 x hx
  obtain ⟨b1, b2, b3⟩ := isLB_all h2 y hy
  exact okW_app a1.2.1 b1.2.1 (by omega) (by omega)
theorem formL_mem {xss : List (List Int)} (h : isLB xss = true) : ∀ x ∈ formL xss, okW x ∧ x.length = (xss.headD []).length ∧ sumZ x = psT 0 (xss.headD []) := by
  intro u hu
  obtain ⟨x, hx, hu⟩ := List.mem_flatMap.1 (oddL_mem hu)
  obtain ⟨a1, a2, a3⟩ := isLB_all h x hx
  obtain ⟨h1, h2, h3, _⟩ := nf_word hu a1.2.1
  exact ⟨⟨by rw [h1]; exact a1.1, h3, by rw [h2]; exact a1.2.2⟩, by omega, by omega⟩
theorem form_mul {xss yss : List (List Int)} (h1 : isLB xss = true) (h2 : isLB yss = true) (hl : (xss.headD []).length + (yss.headD []).length ≤ 7) (hs : psT 0 (xss.headD []) + psT 0 (yss.headD []) ≤ 11) : ∀ x ∈ formL xss, ∀ y ∈ formL yss, okW (x ++ y) := by
  intro x hx y hy
  obtain ⟨a1, a2, a3⟩ := formL_mem h1 x hx
  obtain ⟨b1, b2, b3⟩ := formL_mem h2 y hy
  exact okW_app a1.2.1 b1.2.1 (by omega) (by omega)
theorem form_mul_len {xss yss : List (List Int)} (h1 : isLB xss = true) (h2 : isLB yss = true) (hl : (xss.headD []).length + (yss.headD []).length ≤ 7) (hs : psT 0 (xss.headD []) + psT 0 (yss.headD []) ≤ 11) : (prods (formL xss) (formL yss)).length ≤ 75582 :=
  prods_len (asc_nodup (formL_asc _)) (asc_nodup (formL_asc _)) (fun x hx => (formL_mem h1 x hx).2.1) (form_mul h1 h2 hl hs)
theorem formL_odd (s : List (List Int)) : formL (oddL s) = formL s := oddL_congr (nfS_same (oddL_same s))

def mulO (a b : List (List Int)) : Int × List (List Int) :=
  if isLB a && isLB b then
    if a.isEmpty || b.isEmpty then (0, [])
    else if (a.headD []).length + (b.headD []).length ≤ 7 ∧ psT 0 (a.headD []) + psT 0 (b.headD []) ≤ 11 then (0, formL (prods a b)) else (3, [])
  else (1, [])
theorem mulO_bad1 {a b : List (List Int)} (h : isLB a = false) : mulO a b = (1, []) := by simp [mulO, h]
theorem mulO_bad2 {a b : List (List Int)} (h : isLB b = false) : mulO a b = (1, []) := by simp [mulO, h]
theorem mulO_zero {a b : List (List Int)} (h1 : isLB a = true) (h2 : isLB b = true) (h3 : (a.isEmpty || b.isEmpty) = true) : mulO a b = (0, []) := by unfold mulO; rw [h1, h2, h3]; simp
theorem mulO_lim {a b : List (List Int)} (h1 : isLB a = true) (h2 : isLB b = true) (h3 : (a.isEmpty || b.isEmpty) = false) (h4 : ¬ ((a.headD []).length + (b.headD []).length ≤ 7 ∧ psT 0 (a.headD []) + psT 0 (b.headD []) ≤ 11)) : mulO a b = (3, []) := by
  unfold mulO; rw [h1, h2, h3, if_pos (by simp), if_neg (by simp), if_neg h4]
theorem mulO_ok {a b : List (List Int)} (h1 : isLB a = true) (h2 : isLB b = true) (h3 : (a.isEmpty || b.isEmpty) = false) (h4 : (a.headD []).length + (b.headD []).length ≤ 7 ∧ psT 0 (a.headD []) + psT 0 (b.headD []) ≤ 11) : mulO a b = (0, formL (prods a b)) := by
  unfold mulO; rw [h1, h2, h3, if_pos (by simp), if_neg (by simp), if_pos h4]
theorem prods_okW {a b : List (List Int)} (h : ∀ x ∈ a, ∀ y ∈ b, okW (x ++ y)) : ∀ z ∈ prods a b, okW z := by
  intro z hz
  obtain ⟨x, hx, y, hy, rfl⟩ := mem_prods hz
  exact h x hx y hy
theorem mulO_bounds (a b : List (List Int)) : (mulO a b).2.length ≤ 75582 ∧ totalL (mulO a b).2 ≤ 529074 := by
  unfold mulO
  split
  · rename_i h
    rw [Bool.and_eq_true] at h
    split
    · simp [totalL]
    · split
      · rename_i h2
        exact formL_bounds (prods_okW (isLB_mul h.1 h.2 h2.1 h2.2))
      · simp [totalL]
  · simp [totalL]

end Go.Proofs.YtdgcgcodjddddaaDoor

/- slices.Grow of nil, slices.Concat of three lists of integers. -/
namespace Go.Proofs.YtdgcgcodjddddaaDoor
open Go.RowKit
set_option linter.unusedVariables false

set_option maxRecDepth 100000 in
theorem grow_any (n : Nat) (w : World) (hn : 1 ≤ n) (hb : n ≤ 1000000000) :
    Calls Tryd.prog 113 #[.slice none 0 0, .int .i64 n] w (RetO 0 [] w) := by
  obtain ⟨i, z, hi, hz, hsz, hby, hzs⟩ := eltI.info
  have happ := Lib.run_append_nil_zeros (P := Tryd.prog) w 49 3 49 2 i z .i64 .i64 Tryd.underlying49 Tryd.underlying3 hi hz n (by omega) (by omega) (by omega) (by rw [hby]; omega)
  obtain ⟨cap2, hcap⟩ : ∃ c, c = grownCap w n 0 2 := ⟨_, rfl⟩
  have hcapge : n ≤ cap2 := by rw [hcap]; exact grownCap_ge w _ 0 _
  have hcaple : cap2 ≤ maxLen := by rw [hcap]; exact grownCap_le_maxLen w _ 0 _ (by unfold maxLen; omega)
  rw [← hcap] at happ
  obtain ⟨Z, hZ⟩ : ∃ Z, Z = (Builtin.zeroCells z.cells n ++ Builtin.zeroCells z.cells (cap2 - n)) := ⟨_, rfl⟩
  have hZs : Z.size = cap2 := by rw [hZ]; simp [size_zeroCells, hzs]; omega
  rw [← hZ] at happ
  clear hcap hZ hi hz hsz hby hzs
  have Happ := Lib.hid happ; clear happ
  have hm : (cap2 : Int) ≤ 9223372036854775807 := by unfold maxLen at hcaple; omega
  have HO : Hid (OwnS (w.drew.alloc (.cells Z 2)) w.heap.size (some ⟨w.heap.size, 0, none⟩) 0 cap2 []) := Lib.hid
    ⟨rfl, by simp, .inr ⟨w.heap.size, cap2, Z, rfl, Nat.le_refl _, heap_alloc_new w.drew _, Nat.zero_le _, hcaple, by omega, by simp⟩⟩
  have HB : Hid (Below w.heap.size w (w.drew.alloc (.cells Z 2))) := Lib.hid (Below.alloc (below_drewN (Below.refl _ _) 1) (Nat.le_refl _) _)
  go_enter Tryd.func113, Tryd.ntmps113
  go_wp2_with (at_builtin; refine Lib.wpList_append_run _ rfl _ _ _ _ rfl _ _ rfl rfl _ _ Happ.out ?_)
  go_ret
  exact ⟨_, _, rfl, HO.out, HB.out⟩

theorem totalL_succ {xss : List (List Int)} {k : Nat} {x : List Int} (h : xss[k]? = some x) : totalL (xss.take (k + 1)) = totalL (xss.take k) + x.length := by
  rw [List.take_add_one, h]
  simp [totalL]
theorem totalL_take (xss : List (List Int)) (k : Nat) : totalL (xss.take k) ≤ totalL xss := by
  conv => rhs; rw [← List.take_append_drop k xss]
  unfold totalL
  rw [List.map_append, List.sum_append]
  omega
theorem flatten_succ {xss : List (List Int)} {k : Nat} {x : List Int} (h : xss[k]? = some x) : (xss.take (k + 1)).flatten = (xss.take k).flatten ++ x := by
  rw [List.take_add_one, h]
  simp

theorem concat_any (A : Option Addr) (n c B : Nat) (xss : List (List Int)) (w : World) (h : RdL w B A n c xss) (hB : B ≤ w.heap.size) (hn : n ≤ 1000000) (ht : totalL xss ≤ 1000000000) (hp : 1 ≤ totalL xss) :
    Calls Tryd.prog 100 #[.slice A n c] w (RetO (totalL xss) xss.flatten w) := by
  obtain ⟨V, hV⟩ : ∃ V, V = w.heap.size := ⟨_, rfl⟩
  have HVe := Lib.hid hV
  have H := Lib.hid (show RdL w V A n c xss from h.mono (by rw [hV]; exact hB))
  have HL := Lib.hid h.len
  clear h hV
  obtain ⟨T, hT⟩ : ∃ T, T = totalL xss := ⟨_, rfl⟩
  have HT := Lib.hid hT
  rw [← hT] at ht hp ⊢
  clear hT
  go_enter Tryd.func100, Tryd.ntmps100
  go_wp2_with fail
  go_loopw [3, 11] (fun s i wr => ∃ (k t : Nat), k ≤ n ∧ i = .int .i64 k ∧ s = .int .i64 t ∧ Hid (t = totalL (xss.take k)) ∧ wr = w) (fun _ i _ => n - (intOf i).toNat)
  case atStart => exact ⟨0, 0, Nat.zero_le _, rfl, rfl, Lib.hid (by simp [totalL]), rfl⟩
  case round =>
    obtain ⟨k, t, hk, rfl, rfl, HA, hwr⟩ := hrel
    subst hwr
    by_cases hlt : k < n
    · obtain ⟨ad, A3, n3, c3, x, rfl, hbk, hx, hc, hr⟩ := H.out.at_ hlt
      have hs := totalL_succ hx.out
      rw [← HA.out, hr.len] at hs
      have hle := totalL_take xss (k + 1)
      rw [hs, ← HT.out] at hle
      have HS := Lib.hid hs.symm
      clear hs hr
      go_wp2_with fail
      go_roundw
      case rel => exact ⟨k + 1, t + n3, by omega, by go_num, by go_num, HS, trivial⟩
      case measure => simp [intOf]; omega
    · have htT : t = T := by rw [HA.out, HT.out, List.take_of_length_le (by rw [HL.out]; omega)]
      subst htT
      go_wp2_with fail
      refine (grow_any t _ hp ht).mono ?_
      rintro e w1 ⟨A1, c1, rfl, ho, hb⟩
      have HS1 := Lib.hid (show StS wr V w1 A1 0 c1 [] from ⟨by rw [HVe.out]; exact ho, by rw [HVe.out]; exact hb, by rw [HVe.out]; exact hb.size⟩)
      clear ho hb
      go_wp2_with fail
      go_loopw [6, 27] (fun o i wz => ∃ (k l c' : Nat) (A' : Option Addr), k ≤ n ∧ i = .int .i64 k ∧ o = .slice A' l c' ∧ Hid (l = totalL (xss.take k)) ∧ Hid (StS wr V wz A' l c' (xss.take k).flatten)) (fun _ i _ => n - (intOf i).toNat)
      case atStart => exact ⟨0, 0, c1, A1, Nat.zero_le _, rfl, rfl, Lib.hid (by simp [totalL]), HS1⟩
      case round =>
        clear HS1
        obtain ⟨k, l, c', A', hk, rfl, rfl, HA2, HS⟩ := hrel
        by_cases hlt : k < n
        · obtain ⟨ad, A3, n3, c3, x, rfl, hbk, hx, hc, hr⟩ := (H.out.below HS.out.bel).at_ hlt
          have hs := totalL_succ hx.out
          rw [← HA2.out, hr.len] at hs
          have hle := totalL_take xss (k + 1)
          rw [hs, ← HT.out] at hle
          have HS3 := Lib.hid hs.symm
          have R3 := Lib.hid hr
          clear hs hr
          go_wp2_with (at_builtin; refine wpList_joinI rfl (.tmp 31) (.tmp 32) rfl rfl rfl HS.out R3.out (by omega) ?_)
          intro A6 c6 w6 hs6 _
          rw [← flatten_succ hx.out] at hs6
          have HS6 := Lib.hid hs6; clear hs6
          go_wp2_with fail
          go_roundw
          case rel => exact ⟨k + 1, l + n3, c6, A6, by omega, by go_num, rfl, HS3, HS6⟩
          case measure => simp [intOf]; omega
        · obtain rfl : k = n := by omega
          have hlT : l = t := by rw [HA2.out, HT.out, List.take_of_length_le (by rw [HL.out]; exact Nat.le_refl _)]
          have HF : Hid ((xss.take k).flatten = xss.flatten) := Lib.hid (by rw [List.take_of_length_le (by rw [HL.out]; exact Nat.le_refl _)])
          have h8 := HS.out
          rw [HF.out, HVe.out, hlT] at h8
          have H8 := Lib.hid h8
          clear h8
          subst hlT
          go_wp2_with fail
          go_ret
          exact RetO.mk2 rfl rfl H8.out
end Go.Proofs.YtdgcgcodjddddaaDoor

/- Plain: the differential of the lambda algebra. -/
namespace Go.Proofs.YtdgcgcodjddddaaDoor
open Go.RowKit
set_option linter.unusedVariables false

def genC (n : Int) (j : Nat) : Bool := parB (n - (j + 1)) (j + 1)
/-- the words of the differential of a generator, the first m places looked at -/
def genTo (n : Int) (m : Nat) : List (List Int) := ((List.range m).filter (genC n)).map fun (j : Nat) => [n - (j + 1), (j : Int)]
/-- the number of places of a generator -/
def genM (n : Int) : Nat := n.toNat / 2
def genW (n : Int) : List (List Int) := genTo n (genM n)
theorem genTo_yes {n : Int} {m : Nat} (h : genC n m = true) : genTo n (m + 1) = genTo n m ++ [[n - (m + 1), (m : Int)]] := by
  simp [genTo, List.range_succ, List.filter_append, h]
theorem genTo_no {n : Int} {m : Nat} (h : genC n m = false) : genTo n (m + 1) = genTo n m := by
  simp [genTo, List.range_succ, List.filter_append, h]
theorem genTo_len (n : Int) (m : Nat) : (genTo n m).length ≤ m := by
  rw [genTo, List.length_map]
  exact Nat.le_trans (List.length_filter_le _ _) (by rw [List.length_range]; exact Nat.le_refl _)
theorem genTo_mem {n : Int} {m : Nat} {l : List Int} (h : l ∈ genTo n m) (hm : m ≤ genM n) (hn : 0 ≤ n) : l.length = 2 ∧ nonN l ∧ sumZ l = n - 1 := by
  obtain ⟨j, hj, rfl⟩ := List.mem_map.1 h
  have h1 := List.mem_range.1 (List.mem_filter.1 hj).1
  unfold genM at hm
  refine ⟨rfl, ?_, by simp [sumZ]; omega⟩
  intro z hz
  simp only [List.mem_cons, List.not_mem_nil, or_false] at hz
  omega
theorem genW_mem {n : Int} {l : List Int} (h : l ∈ genW n) (hn : 0 ≤ n) : l.length = 2 ∧ nonN l ∧ sumZ l = n - 1 := genTo_mem h (Nat.le_refl _) hn

/-- a list of words in the place k of a word -/
def putAt (x : List Int) (k : Nat) (L : List (List Int)) : List (List Int) := L.flatMap fun l => [x.take k ++ l ++ x.drop (k + 1)]
theorem putAt_append (x : List Int) (k : Nat) (L M : List (List Int)) : putAt x k (L ++ M) = putAt x k L ++ putAt x k M := by simp [putAt]
theorem putAt_one (x : List Int) (k : Nat) (l : List Int) : putAt x k [l] = [x.take k ++ l ++ x.drop (k + 1)] := by simp [putAt]
theorem putAt_len (x : List Int) (k : Nat) (L : List (List Int)) : (putAt x k L).length = L.length := by
  unfold putAt
  induction L with
  | nil => rfl
  | cons l L ih => rw [List.flatMap_cons, List.length_append, ih]; simp; omega
def dAt (x : List Int) (k : Nat) : List (List Int) := putAt x k (genW (x[k]?.getD 0))
def dTo (x : List Int) (m : Nat) : List (List Int) := (List.range m).flatMap (dAt x)
def dWord (x : List Int) : List (List Int) := dTo x x.length
def dAll (s : List (List Int)) : List (List Int) := s.flatMap dWord
theorem dTo_succ {x : List Int} {k : Nat} {n : Int} (h : x[k]? = some n) : dTo x (k + 1) = dTo x k ++ putAt x k (genW n) := by
  simp [dTo, List.range_succ, dAt, h]
theorem dAll_succ {s : List (List Int)} {k : Nat} {x : List Int} (h : s[k]? = some x) : dAll (s.take (k + 1)) = dAll (s.take k) ++ dTo x x.length := by
  rw [List.take_add_one, h]
  simp [dAll, dWord]
theorem sumZ_at : ∀ {x : List Int} {k : Nat} {n : Int}, x[k]? = some n → sumZ (x.take k) + n + sumZ (x.drop (k + 1)) = sumZ x
  | [], k, n, h => by simp at h
  | a :: r, 0, n, h => by simp at h; subst h; simp [sumZ]
  | a :: r, k + 1, n, h => by
    have := sumZ_at (x := r) (k := k) (n := n) (by simpa using h)
    simp only [List.take_succ_cons, List.drop_succ_cons, sumZ]
    omega
/-- what a place of a word gives is a word -/
theorem put_okW {x : List Int} {k : Nat} {n : Int} (h : x[k]? = some n) (hx : okW x) (hl : x.length ≤ 6) {l : List Int} (h1 : l.length = 2) (h2 : nonN l) (h3 : sumZ l = n - 1) : okW (x.take k ++ l ++ x.drop (k + 1)) := by
  have hk := (List.getElem?_eq_some_iff.1 h).1
  have hs := sumZ_at h
  refine ⟨?_, ?_, ?_⟩
  · simp only [List.length_append, List.length_take, List.length_drop]; omega
  · exact nonN_mk (nonN_mk (fun z hz => hx.2.1 z (List.mem_of_mem_take hz)) h2) (fun z hz => hx.2.1 z (List.mem_of_mem_drop hz))
  · rw [sumZ_append, sumZ_append]
    have := hx.2.2
    omega
theorem at_nonN {x : List Int} {k : Nat} {n : Int} (h : x[k]? = some n) (hx : okW x) : 0 ≤ n ∧ n ≤ 11 := by
  have h0 := hx.2.1 n (List.mem_of_getElem? h)
  have hs := sumZ_at h
  have h1 := sumZ_nonneg (w := x.take k) fun z hz => hx.2.1 z (List.mem_of_mem_take hz)
  have h2 := sumZ_nonneg (w := x.drop (k + 1)) fun z hz => hx.2.1 z (List.mem_of_mem_drop hz)
  have := hx.2.2
  omega
theorem putAt_okW {x : List Int} {k : Nat} {n : Int} (h : x[k]? = some n) (hx : okW x) (hl : x.length ≤ 6) : ∀ z ∈ putAt x k (genW n), okW z := by
  intro z hz
  obtain ⟨l, hl2, hz⟩ := List.mem_flatMap.1 hz
  obtain ⟨h1, h2, h3⟩ := genW_mem hl2 (at_nonN h hx).1
  rw [List.mem_singleton.1 hz]
  exact put_okW h hx hl h1 h2 h3
theorem dTo_okW {x : List Int} (hx : okW x) (hl : x.length ≤ 6) {m : Nat} (hm : m ≤ x.length) : ∀ z ∈ dTo x m, okW z := by
  induction m with
  | zero => intro z hz; simp [dTo] at hz
  | succ m ih =>
    obtain ⟨n, hn⟩ : ∃ n, x[m]? = some n := ⟨_, List.getElem?_eq_getElem (by omega)⟩
    rw [dTo_succ hn]
    intro z hz
    rcases List.mem_append.1 hz with hz | hz
    · exact ih (by omega) z hz
    · exact putAt_okW hn hx hl z hz
theorem dTo_len {x : List Int} (hx : okW x) {m : Nat} (hm : m ≤ x.length) : (dTo x m).length ≤ m * 5 := by
  induction m with
  | zero => simp [dTo]
  | succ m ih =>
    obtain ⟨n, hn⟩ : ∃ n, x[m]? = some n := ⟨_, List.getElem?_eq_getElem (by omega)⟩
    rw [dTo_succ hn, List.length_append, putAt_len]
    have h1 := ih (by omega)
    have h2 := genTo_len n (genM n)
    have h3 := at_nonN hn hx
    unfold genW genM at *
    omega
theorem dAll_okW {s : List (List Int)} (hs : ∀ x ∈ s, okW x ∧ x.length ≤ 6) : ∀ z ∈ dAll s, okW z := by
  intro z hz
  obtain ⟨x, hx, hz⟩ := List.mem_flatMap.1 hz
  exact dTo_okW (hs x hx).1 (hs x hx).2 (Nat.le_refl _) z hz
theorem dAll_len {s : List (List Int)} (hs : ∀ x ∈ s, okW x ∧ x.length ≤ 6) : (dAll s).length ≤ s.length * 30 := by
  induction s with
  | nil => simp [dAll]
  | cons x s ih =>
    have h1 := ih fun y hy => hs y (List.mem_cons_of_mem _ hy)
    have h2 := dTo_len (hs x (by simp)).1 (Nat.le_refl _)
    have h3 := (hs x (by simp)).2
    rw [dAll, List.flatMap_cons, List.length_append, List.length_cons, dWord]
    rw [dAll] at h1
    omega

def difO (a : List (List Int)) : Int × List (List Int) :=
  if isLB a then if !a.isEmpty && decide ((a.headD []).length = 7) then (3, []) else (0, formL (dAll a)) else (1, [])
theorem difO_bad {a : List (List Int)} (h : isLB a = false) : difO a = (1, []) := by simp [difO, h]
theorem difO_lim {a : List (List Int)} (h : isLB a = true) (h2 : a.isEmpty = false) (h3 : (a.headD []).length = 7) : difO a = (3, []) := by simp only [difO, h, h2, h3]; rfl
theorem difO_ok {a : List (List Int)} (h : isLB a = true) (h2 : a.isEmpty = true ∨ (a.headD []).length ≠ 7) : difO a = (0, formL (dAll a)) := by
  unfold difO
  rw [if_pos h, if_neg]
  rcases h2 with h2 | h2
  · simp [h2]
  · rw [decide_eq_false h2]; simp
theorem isLB_dif {a : List (List Int)} (h : isLB a = true) (h2 : a.isEmpty = true ∨ (a.headD []).length ≠ 7) : ∀ x ∈ a, okW x ∧ x.length ≤ 6 := by
  intro x hx
  obtain ⟨h3, h4, _⟩ := isLB_all h x hx
  rcases h2 with h2 | h2
  · rw [List.isEmpty_iff.1 h2] at hx; cases hx
  · exact ⟨h3, by have := h3.1; omega⟩
theorem difO_bounds (a : List (List Int)) : (difO a).2.length ≤ 75582 ∧ totalL (difO a).2 ≤ 529074 := by
  unfold difO
  split
  · rename_i h
    split
    · simp [totalL]
    · rename_i h2
      refine formL_bounds (dAll_okW (isLB_dif h ?_))
      cases he : a.isEmpty
      · right; simpa [he] using h2
      · exact .inl rfl
  · simp [totalL]
end Go.Proofs.YtdgcgcodjddddaaDoor

/- The differential on both sides. -/
namespace Go.Proofs.YtdgcgcodjddddaaDoor
open Go.RowKit
set_option linter.unusedVariables false

theorem two_own {w : World} {a b : Int} : OwnS (w.alloc (.cells #[.int .i64 a, .int .i64 b] 2)) w.heap.size (some ⟨w.heap.size, 0, none⟩) 2 2 [a, b] :=
  ⟨rfl, by simp, .inr ⟨w.heap.size, 2, _, rfl, Nat.le_refl _, heap_alloc_new w _, Nat.le_refl _, by unfold maxLen; omega, by simp, by simp⟩⟩

theorem gen_okW {n : Int} (hn : 0 ≤ n) (h11 : n ≤ 11) {m : Nat} (hm : m ≤ genM n) : ∀ z ∈ genTo n m, okW z := by
  intro z hz
  obtain ⟨h1, h2, h3⟩ := genTo_mem hz hm hn
  exact ⟨by omega, h2, by omega⟩

set_option maxHeartbeats 1000000 in
theorem generator_any (n : Int) (w : World) (hn : 0 ≤ n) (h11 : n ≤ 11) :
    Calls Tryd.prog 93 #[.int .i64 n] w (RetL (oddL (genW n)).length (oddL (genW n)) w) := by
  have hst := StL.start (Below.refl w.heap.size w) (Nat.le_refl _)
  obtain ⟨V, hV⟩ : ∃ V, V = w.heap.size := ⟨_, rfl⟩
  rw [← hV] at hst
  have HVe := Lib.hid hV; clear hV
  have HS := Lib.hid hst.here; clear hst
  obtain ⟨M, hM⟩ : ∃ M, M = genM n := ⟨_, rfl⟩
  have hMn : 2 * (M : Int) ≤ n ∧ n < 2 * (M : Int) + 2 := by rw [hM]; unfold genM; omega
  have HW : Hid (genW n = genTo n M) := Lib.hid (by rw [hM]; rfl)
  have HO := Lib.hid (gen_okW hn h11 (m := M) (by omega))
  have HK := fun (m : Nat) (hm : m ≤ M) => Lib.hid (gen_okW hn h11 (m := m) (by omega))
  rw [HW.out]
  clear hM
  go_enter Tryd.func93, Tryd.ntmps93
  go_wp2_with fail
  rw [← HVe.out]
  go_loopw [3, 4] (fun o i wr => ∃ (m l' c' : Nat) (A' : Option Addr) (acc : List (List Int)), m ≤ M ∧ i = .int .i64 ((m : Int) + 1) ∧ o = .slice A' l' c' ∧ Hid (SumInv (genTo n m) acc) ∧ Hid (StL w V wr wr.heap.size A' l' c' acc)) (fun _ i _ => M + 1 - (intOf i).toNat)
  case atStart => exact ⟨0, 0, 0, _, [], Nat.zero_le _, rfl, rfl, Lib.hid SumInv.start, by rw [HVe.out]; rw [HVe.out] at HS; exact HS⟩
  case round =>
    clear HS
    obtain ⟨m, l', c', A', acc, hm, rfl, rfl, HA, HS⟩ := hrel
    by_cases hlt : m < M
    · have hle : decide (2 * ((m : Int) + 1) ≤ n) = true := by simp; omega
      have Hp := fun W : World => Lib.hid (parity_any (n - ((m : Int) + 1)) ((m : Int) + 1) W (by omega) (by omega) (by omega))
      cases hc : genC n m
      · have hc2 : parB (n - ((m : Int) + 1)) ((m : Int) + 1) = false := hc
        have HG := Lib.hid (genTo_no hc)
        rw [hc2] at Hp
        clear hc hc2
        go_wp2_with fail
        refine ((Hp _).out).mono ?_
        rintro e w1 ⟨rfl, rfl⟩
        go_wp2_with fail
        go_roundw
        case rel => exact ⟨m + 1, l', c', A', acc, by omega, by go_num, rfl, Lib.hid (by rw [HG.out]; exact HA.out), HS⟩
        case measure => simp [intOf]; omega
      · have hc2 : parB (n - ((m : Int) + 1)) ((m : Int) + 1) = true := hc
        have HG := Lib.hid (genTo_yes hc)
        rw [hc2] at Hp
        clear hc hc2
        obtain ⟨z, hz⟩ : ∃ z : List Int, z = [n - ((m : Int) + 1), (m : Int)] := ⟨_, rfl⟩
        have HZ := Lib.hid hz
        rw [← hz] at HG
        have HA3 := Lib.hid (HA.out.step (z := z) (by
          have := HK (m + 1) hlt
          exact this.out z (by rw [HG.out]; simp)))
        rw [← HG.out] at HA3
        have hl2 := HA.out.len
        rw [HS.out.own.len] at hl2
        have Hacc := Lib.hid HA.out.asc
        have Htot := Lib.hid HA.out.tot
        obtain ⟨M2, hM2⟩ : ∃ M2, M2 = oddL (acc ++ [z]) := ⟨_, rfl⟩
        rw [← hM2] at HA3
        obtain ⟨l3, hl3⟩ : ∃ l, l = M2.length := ⟨_, rfl⟩
        have hzl : z.length = 2 := by rw [hz]; rfl
        have Hsum := fun (W : World) (A c) (h1 : RdL W W.heap.size A' l' c' acc) (h2 : RdL W W.heap.size A 1 c [z]) => l01Sum_any A' A l' c' 1 c acc [z] W h1 h2 (by omega) (by omega) (by have := Htot.out; omega) (by simp [totalL]; omega) Hacc.out (by simp [Asc])
        rw [← hM2, ← hl3] at Hsum
        have Hsum := Lib.hid Hsum
        have hl3b : l3 ≤ 75582 := by rw [hl3]; exact HA3.out.len
        have hsub : (m : Int) + 1 - 1 = (m : Int) := by omega
        clear hM2 hl3 Hacc Htot hz
        go_wp2_with fail
        refine ((Hp _).out).mono ?_
        rintro e w1 ⟨rfl, rfl⟩
        go_wp2_with fail
        have h2 := rdL_one (two_own (w := w1) (a := n - ((m : Int) + 1)) (b := (m : Int))).rd (Nat.le_refl _)
        rw [show (w1.alloc (.cells #[.int .i64 (n - ((m : Int) + 1)), .int .i64 (m : Int)] 2)).heap.size = w1.heap.size + 1 from by simp, ← HZ.out] at h2
        have HX := Lib.hid (((Below.refl w1.heap.size w1).alloc (Nat.le_refl _) (.cells #[.int .i64 (n - ((m : Int) + 1)), .int .i64 (m : Int)] 2)).alloc (by simp) (.cells #[.slice (some ⟨w1.heap.size, 0, none⟩) 2 2] 49))
        refine (Hsum.out _ _ _ ((HS.out.rd.below HX.out).mono HX.out.size) h2).mono ?_
        rintro e w8 ⟨A8, c8, rfl, ho8, hb8⟩
        have HX8 := Lib.hid (Ext.trans HX.out hb8)
        have HO8 := Lib.hid (ho8.mono (B' := V) (Nat.le_trans HS.out.size HX.out.size) (Nat.le_refl _))
        have HS8 := Lib.hid (show StL w V w8 w8.heap.size A8 l3 c8 M2 from ⟨HO8.out, HS.out.bel.trans (HX8.out.mono HS.out.size), Nat.le_trans HS.out.size HX8.out.size, Nat.le_refl _⟩)
        clear ho8 hb8 h2
        go_wp2_with fail
        go_roundw
        case rel => exact ⟨m + 1, l3, c8, A8, M2, by omega, by go_num, rfl, HA3, HS8⟩
        case measure => simp [intOf]; omega
    · obtain rfl : m = M := by omega
      have hle : decide (2 * ((m : Int) + 1) ≤ n) = false := by simp; omega
      have HE := Lib.hid HA.out.eq
      go_wp2_with fail
      go_ret
      have h8 := HS.out
      rw [HVe.out] at h8
      exact RetL.mk (by rw [← HE.out, h8.own.len]) HE.out h8

theorem run_suf1 (A : Option Addr) (n c k m : Nat) (hm : m = k + 1) (hn : m ≤ n) (W : World) : (Instr.sliceAt 49 (.slice A n c) (some (.int .i64 ((k : Int) + 1))) Option.none Option.none).run Tryd.prog W = .ok (.slice (sufA A c m) (n - m) (c - m)) W := by
  subst hm
  have h : (k : Int) + 1 ≤ (n : Int) := by omega
  have h0 : (0 : Int) ≤ (k : Int) + 1 := by omega
  have e : ((k : Int) + 1).toNat = k + 1 := by omega
  simp only [sufA]
  cases A with
  | none => simp [go_sem, Tryd.underlying49, h, h0, e, sliced]
  | some ad =>
    by_cases hc : c = k + 1
    · simp [go_sem, Tryd.underlying49, h, h0, e, sliced, hc]
    · simp [go_sem, Tryd.underlying49, h, h0, e, sliced, hc]

/-- what stands in out: ascending words with the same sum -/
structure SumQ (L acc : List (List Int)) : Prop where
  asc : Asc acc
  ok : ∀ z ∈ acc, okW z
  same : SameSum acc L
theorem SumQ.len {L acc : List (List Int)} (h : SumQ L acc) : acc.length ≤ 75582 := asc_len h.asc h.ok
theorem SumQ.tot {L acc : List (List Int)} (h : SumQ L acc) : totalL acc ≤ 529074 := by
  have h1 := tot_le acc 7 fun z hz => (h.ok z hz).1
  have := h.len
  omega
theorem SumQ.start : SumQ [] [] := ⟨by simp [Asc], (fun z hz => by cases hz), SameSum.refl _⟩
theorem SumQ.step {L acc : List (List Int)} {z : List Int} (h : SumQ L acc) (hz : okW z) : SumQ (L ++ [z]) (oddL (acc ++ [z])) :=
  ⟨oddL_asc _, fun y hy => (List.mem_append.1 (oddL_mem hy)).elim (h.ok y) fun e => by rw [List.mem_singleton.1 e]; exact hz, (oddL_same _).trans (h.same.append (SameSum.refl _))⟩
theorem SumQ.congr {L M acc : List (List Int)} (h : SumQ L acc) (k : SameSum L M) : SumQ M acc := ⟨h.asc, h.ok, h.same.trans k⟩
theorem SumQ.form {L acc : List (List Int)} (h : SumQ L acc) : formL acc = formL L := oddL_congr (nfS_same h.same)
theorem putAt_same {x : List Int} {k : Nat} {L M : List (List Int)} (h : SameSum L M) : SameSum (putAt x k L) (putAt x k M) := h.flat _
theorem putAt_succ {x : List Int} {k : Nat} {L : List (List Int)} {j : Nat} {l : List Int} (h : L[j]? = some l) : putAt x k (L.take (j + 1)) = putAt x k (L.take j) ++ [x.take k ++ l ++ x.drop (k + 1)] := by
  rw [List.take_add_one, h]
  simp [putAt]
end Go.Proofs.YtdgcgcodjddddaaDoor
