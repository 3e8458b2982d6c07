/- The quotient by a part, in plain words: places that are kept, masks told in them, the operations. -/
import Derived.Test.YtejojliljplcdaaGreatDoorSpA
import Derived.Deep.RegionLaw
import Derived.Laws.EntriesVeiled
namespace Go.Proofs.YtejojliljplcdaaGreatDoor
open Go.RowKit
set_option linter.unusedVariables false

/-- whether a place is a pivot -/
def pivB (S : List Nat) (i : Nat) : Bool := S.any fun r => lowB r == i
/-- the places below n that are no pivots -/
def keptL (S : List Nat) (n : Nat) : List Nat := (List.range n).filter fun i => !pivB S i
theorem keptL_yes {S : List Nat} {n : Nat} (h : pivB S n = true) : keptL S (n + 1) = keptL S n := by
  unfold keptL
  rw [List.range_succ, List.filter_append]
  simp [h]
theorem keptL_no {S : List Nat} {n : Nat} (h : pivB S n = false) : keptL S (n + 1) = keptL S n ++ [n] := by
  unfold keptL
  rw [List.range_succ, List.filter_append]
  simp [h]
theorem keptL_lt {S : List Nat} {n i : Nat} (h : i ∈ keptL S n) : i < n ∧ pivB S i = false := by
  unfold keptL at h
  rw [List.mem_filter, List.mem_range] at h
  exact ⟨h.1, by simpa using h.2⟩
theorem keptL_len (S : List Nat) (n : Nat) : (keptL S n).length ≤ n := by
  have := List.length_filter_le (fun i => !pivB S i) (List.range n)
  rw [List.length_range] at this
  exact this
/-- a mask told in the places K -/
def packF : List Nat → Nat → Nat → Nat
  | [], _, _ => 0
  | b :: K, x, c => (if x.testBit b = true then 2 ^ c else 0) ||| packF K x (c + 1)
theorem packF_snoc (x b : Nat) : ∀ (K : List Nat) (c : Nat), packF (K ++ [b]) x c = packF K x c ||| (if x.testBit b = true then 2 ^ (c + K.length) else 0)
  | [], c => by simp [packF]
  | a :: K, c => by
    rw [List.cons_append, packF, packF, packF_snoc x b K (c + 1), List.length_cons, ← Nat.or_assoc, show c + 1 + K.length = c + (K.length + 1) from by omega]
theorem packF_lt (x : Nat) : ∀ (K : List Nat) (c : Nat), packF K x c < 2 ^ (c + K.length)
  | [], c => by simp [packF, Nat.two_pow_pos]
  | a :: K, c => by
    rw [packF, List.length_cons]
    refine Nat.or_lt_two_pow ?_ ?_
    · split
      · exact Nat.pow_lt_pow_right (by decide) (by omega)
      · exact Nat.two_pow_pos _
    · have := packF_lt x K (c + 1)
      rwa [show c + 1 + K.length = c + (K.length + 1) from by omega] at this
/-- what is left of x by the rows S, told in the places that are kept -/
def toldF (S : List Nat) (n x : Nat) : Nat := packF (keptL S n) (red lowB S x) 0
theorem toldF_lt {S : List Nat} {n : Nat} (hn : n ≤ 16) (x : Nat) : toldF S n x < 65536 := by
  have h1 := packF_lt (red lowB S x) (keptL S n) 0
  have h2 := keptL_len S n
  have h3 : (2 : Nat) ^ (0 + (keptL S n).length) ≤ 2 ^ 16 := Nat.pow_le_pow_right (by decide) (by omega)
  unfold toldF
  omega
/-- the operations of a module with k basis elements: sq j b tells the mask of Sq^j of b -/
def actC (sq : Nat → Nat → Nat) (j b m : Nat) : List (List Int) := ((List.range m).filter fun c => (sq j b).testBit c).map fun (c : Nat) => [(j : Int), (b : Int), (c : Int)]
def actB (sq : Nat → Nat → Nat) (k j m : Nat) : List (List Int) := (List.range m).flatMap fun b => actC sq j b k
def actM (sq : Nat → Nat → Nat) (k m : Nat) : List (List Int) := (List.range m).flatMap fun j => actB sq k (j + 1) k
theorem actC_yes {sq : Nat → Nat → Nat} {j b m : Nat} (h : (sq j b).testBit m = true) : actC sq j b (m + 1) = actC sq j b m ++ [[(j : Int), (b : Int), (m : Int)]] := by
  unfold actC
  rw [List.range_succ, List.filter_append, List.map_append]
  simp [h]
theorem actC_no {sq : Nat → Nat → Nat} {j b m : Nat} (h : ¬ (sq j b).testBit m = true) : actC sq j b (m + 1) = actC sq j b m := by
  unfold actC
  rw [List.range_succ, List.filter_append, List.map_append]
  simp [h]
theorem actB_succ (sq : Nat → Nat → Nat) (k j m : Nat) : actB sq k j (m + 1) = actB sq k j m ++ actC sq j m k := by
  unfold actB
  rw [List.range_succ, List.flatMap_append]
  simp
theorem actM_succ (sq : Nat → Nat → Nat) (k m : Nat) : actM sq k (m + 1) = actM sq k m ++ actB sq k (m + 1) k := by
  unfold actM
  rw [List.range_succ, List.flatMap_append]
  simp
theorem actC_len (sq : Nat → Nat → Nat) (j b m : Nat) : (actC sq j b m).length ≤ m := by
  unfold actC
  rw [List.length_map]
  have := List.length_filter_le (fun c => (sq j b).testBit c) (List.range m)
  rw [List.length_range] at this
  exact this
theorem actB_len (sq : Nat → Nat → Nat) (k j : Nat) : ∀ m, (actB sq k j m).length ≤ m * k
  | 0 => by simp [actB]
  | m + 1 => by
    rw [actB_succ, List.length_append, Nat.add_mul, Nat.one_mul]
    have := actB_len sq k j m
    have := actC_len sq j m k
    omega
theorem actM_len (sq : Nat → Nat → Nat) (k : Nat) : ∀ m, (actM sq k m).length ≤ m * (k * k)
  | 0 => by simp [actM]
  | m + 1 => by
    rw [actM_succ, List.length_append, Nat.add_mul, Nat.one_mul]
    have := actM_len sq k m
    have := actB_len sq k (m + 1) k
    omega
theorem actC_congr {sq sq' : Nat → Nat → Nat} {j b : Nat} (h : sq j b = sq' j b) (m : Nat) : actC sq j b m = actC sq' j b m := by unfold actC; rw [h]
theorem actM_congr {sq sq' : Nat → Nat → Nat} {k m : Nat} (h : ∀ j b, 1 ≤ j → j ≤ m → b < k → sq j b = sq' j b) : actM sq k m = actM sq' k m := by
  induction m with
  | zero => rfl
  | succ m ih =>
    rw [actM_succ, actM_succ, ih fun j b h1 h2 h3 => h j b h1 (by omega) h3]
    congr 1
    have key : ∀ n, n ≤ k → actB sq k (m + 1) n = actB sq' k (m + 1) n := by
      intro n
      induction n with
      | zero => intro _; rfl
      | succ n ih2 => intro hn; rw [actB_succ, actB_succ, ih2 (by omega), actC_congr (h (m + 1) n (by omega) (by omega) (by omega))]
    exact key k (Nat.le_refl _)
/-- digits of a mask -/
def digL (x k : Nat) : List Int := (List.range k).map fun i => ((if x.testBit i = true then 1 else 0 : Nat) : Int)

/-- rows that are reduced stay as they are when they are put together anew -/
theorem red_same0 {R : List Nat} {v : Nat} (h : ∀ r ∈ R, v.testBit (lowB r) = false) : red lowB R v = v := by
  induction R with
  | nil => rfl
  | cons r R ih =>
    have h1 := h r (by simp)
    unfold red
    rw [List.foldl_cons]
    have e : (if v.testBit (lowB r) = true then v ^^^ r else v) = v := by rw [if_neg (by rw [h1]; simp)]
    rw [e]
    exact ih fun s hs => h s (List.mem_cons_of_mem _ hs)
theorem rowsB_self {R : List Nat} (h : GoodB R) : ∀ n, n ≤ R.length → rowsB (R.take n) = R.take n := by
  intro n
  induction n with
  | zero => intro _; rfl
  | succ n ih =>
    intro hn
    obtain ⟨v, hv⟩ : ∃ v, R[n]? = some v := ⟨_, List.getElem?_eq_getElem (by omega)⟩
    rw [List.take_add_one, hv]
    simp only [Option.toList_some]
    rw [rowsB_snoc, ih (by omega)]
    have hap := h.apart
    rw [List.pairwise_iff_getElem] at hap
    have hn' : n < R.length := by omega
    have hve : R[n] = v := by have := List.getElem?_eq_getElem hn'; rw [hv] at this; exact (Option.some.inj this).symm
    have hfr : ∀ r ∈ R.take n, v.testBit (lowB r) = false ∧ r.testBit (lowB v) = false := by
      intro r hr
      obtain ⟨i, hi, rfl⟩ := List.getElem_of_mem hr
      rw [List.length_take] at hi
      rw [List.getElem_take]
      have := hap i n (by omega) hn' (by omega)
      rw [hve] at this
      exact this
    have hred : red lowB (R.take n) v = v := red_same0 fun r hr => (hfr r hr).1
    have hv0 : v ≠ 0 := h.pos v (by rw [← hve]; exact List.getElem_mem _)
    unfold addB
    rw [hred, if_neg hv0]
    congr 1
    have : ∀ r ∈ R.take n, cutB v r = r := fun r hr => by
      unfold cutB
      rw [if_neg (by rw [(hfr r hr).2]; simp)]
    rw [List.map_congr_left this, List.map_id']
theorem rowsB_red {R : List Nat} (h : GoodB R) : rowsB R = R := by
  have := rowsB_self h R.length (Nat.le_refl _)
  rwa [List.take_length] at this
end Go.Proofs.YtejojliljplcdaaGreatDoor

/- moduleOf: the module with some degrees and a function that tells the masks of the squares. -/
namespace Go.Proofs.YtejojliljplcdaaGreatDoor
open Go.RowKit
set_option linter.unusedVariables false

/-- a write to a row of another kind -/
theorem OwnL.grownE {w w' : World} {B K E g n c : Nat} {A : Option Addr} {xss : List (List Int)} (h : OwnL w B K A n c xss) (hg : w.grownBy w' (some g)) (hk : ∃ cs, w.heap[g]? = some (.cells cs E (0, 0))) (h1 : E ≠ 2) (h2 : E ≠ 22) : OwnL w' B K A n c xss := by
  obtain ⟨vs, k1, k2, k3⟩ := h.rows
  refine ⟨h.len, vs, k1.grown hg fun ad had e => kinds_ne h2.symm (k1.kind ad.block (by subst had; rfl)) (by injection e with e; rw [e]; exact hk) rfl, fun j v xs hv hx => ?_, k3⟩
  exact (k2 j v xs hv hx).grown hg fun g' hgb e => kinds_ne h1.symm ((k2 j v xs hv hx).kind g' hgb) (by injection e with e; rw [e]; exact hk) rfl
theorem kind_set {w : World} {b o E : Nat} {v : Value} (h : ∃ cs, w.heap[b]? = some (.cells cs E (0, 0))) : ∃ cs, (w.setCell ⟨b, o, none⟩ v).heap[b]? = some (.cells cs E (0, 0)) := by
  obtain ⟨cs, h⟩ := h
  have hl : b < w.heap.size := (Array.getElem?_eq_some_iff.1 h).1
  refine ⟨cs.set! o v, ?_⟩
  simp only [World.setCell]
  rw [Array.getElem?_modify, if_pos rfl, h]
  rfl
/-- a module of one's own -/
structure OwnMo (w : World) (B : Nat) (A1 : Option Addr) (n1 c1 : Nat) (ds : List Int) (A2 : Option Addr) (n2 c2 : Nat) (act : List (List Int)) : Prop where
  K : ∃ K, B ≤ K ∧ K ≤ w.heap.size ∧ OwnS w B A1 n1 c1 ds ∧ (∀ g, Value.ownBlock (.slice A1 n1 c1) = some g → g < K) ∧ OwnL w K w.heap.size A2 n2 c2 act
def RetMo (ds : List Int) (act : List (List Int)) (w : World) (e : Ending) (w' : World) : Prop :=
  ∃ A1 c1 A2 c2, e = .returned (.agg #[.slice A1 ds.length c1, .slice A2 act.length c2]) ∧ OwnMo w' w.heap.size A1 ds.length c1 ds A2 act.length c2 act ∧ Below w.heap.size w w'
/-- the module under way at b5 -/
structure MInv (w1 wr : World) (b5 V : Nat) (S1 : Value) (A2 : Option Addr) (l c2 : Nat) (acc : List (List Int)) : Prop where
  cs : Cells [(b5, 0, S1), (b5, 1, .slice A2 l c2)] wr
  kd : ∃ cs, wr.heap[b5]? = some (.cells cs 27 (0, 0))
  act : ∃ K, K ≤ wr.heap.size ∧ OwnL wr V K A2 l c2 acc
  bel : Below V w1 wr
theorem MInv.here {w1 wr : World} {b5 V l c2 : Nat} {S1 : Value} {A2 : Option Addr} {acc : List (List Int)} (h : MInv w1 wr b5 V S1 A2 l c2 acc) : OwnL wr V wr.heap.size A2 l c2 acc := by
  obtain ⟨K, hK, ho⟩ := h.act
  exact ho.mono (Nat.le_refl _) hK
theorem MInv.len {w1 wr : World} {b5 V l c2 : Nat} {S1 : Value} {A2 : Option Addr} {acc : List (List Int)} (h : MInv w1 wr b5 V S1 A2 l c2 acc) : acc.length = l := h.here.len
theorem MInv.below {w1 wr w' : World} {b5 V l c2 : Nat} {S1 : Value} {A2 : Option Addr} {acc : List (List Int)} (h : MInv w1 wr b5 V S1 A2 l c2 acc) (hV : V ≤ b5) (hb : Below wr.heap.size wr w') : MInv w1 w' b5 V S1 A2 l c2 acc := by
  have hl : b5 < wr.heap.size := h.cs.lt (b5, 0, S1) (by simp)
  refine ⟨h.cs.below hb, ?_, ?_, h.bel.trans (hb.mono (by omega))⟩
  · obtain ⟨cs, hk⟩ := h.kd
    exact ⟨cs, by rw [hb.block b5 hl]; exact hk⟩
  · obtain ⟨K, hK, ho⟩ := h.act
    exact ⟨K, Nat.le_trans hK hb.size, ho.below hb⟩
theorem MInv.put {w1 wr wb w' : World} {b5 V l c2 c' : Nat} {S1 : Value} {A2 A' : Option Addr} {acc : List (List Int)} {x : List Int} (h : MInv w1 wr b5 V S1 A2 l c2 acc) (hV : V ≤ b5) (hVw : V ≤ w1.heap.size) (hb : Below wr.heap.size wr wb) (ho : OwnL w' V w'.heap.size A' (l + 1) c' (acc ++ [x])) (hg : wb.grownBy w' (Value.ownBlock (.slice A2 l c2))) :
    Cells [(b5, 0, S1), (b5, 1, .slice A2 l c2)] w' ∧ MInv w1 (w'.setCell ⟨b5, 1, none⟩ (.slice A' (l + 1) c')) b5 V S1 A' (l + 1) c' (acc ++ [x]) := by
  have hB := h.below hV hb
  obtain ⟨vs, k1, _, _⟩ := hB.here.rows
  have hne : ∀ g, Value.ownBlock (.slice A2 l c2) = some g → g ≠ b5 := fun g e => kinds_ne (by decide) (k1.kind g e) hB.kd
  have hcs : Cells [(b5, 0, S1), (b5, 1, .slice A2 l c2)] w' := hB.cs.grown hg fun x hx e => by
    have := hne _ e.symm
    simp only [List.mem_cons, List.not_mem_nil, or_false] at hx
    rcases hx with rfl | rfl <;> exact this rfl
  have hkd : ∃ cs, w'.heap[b5]? = some (.cells cs 27 (0, 0)) := by
    obtain ⟨cs, hk⟩ := hB.kd
    exact ⟨cs, by rw [hg.block b5 (hB.cs.lt (b5, 0, S1) (by simp)) (fun e => hne _ e.symm rfl)]; exact hk⟩
  have hg5 : w'.grownBy (w'.setCell ⟨b5, 1, none⟩ (.slice A' (l + 1) c')) (some b5) := ⟨rfl, rfl, rfl, by simp [World.setCell], fun k hk e => Below.heap_setCell _ _ _ _ (fun e' => e (by rw [e']))⟩
  have hws : V ≤ wb.heap.size := Nat.le_trans hVw hB.bel.size
  refine ⟨hcs, ?_, kind_set hkd, ⟨_, Nat.le_refl _, ?_⟩, ?_⟩
  · refine Cells.sub (Cells.set (U := .slice A2 l c2) (L := [(b5, 0, S1)]) (hcs.sub ?_) (by simp) (.slice A' (l + 1) c')) ?_
    · intro x hx
      simp only [List.mem_cons, List.not_mem_nil, or_false] at hx ⊢
      rcases hx with rfl | rfl <;> simp
    · intro x hx
      simp only [List.mem_cons, List.not_mem_nil, or_false] at hx ⊢
      rcases hx with rfl | rfl <;> simp
  · have := ho.grownE hg5 hkd (by decide) (by decide)
    refine this.mono (Nat.le_refl _) (by simp [World.setCell])
  · exact ((hB.bel.grown hg hws (fun g e => hB.here.row g e))).setCell (p := ⟨b5, 1, none⟩) hV _
theorem own_three (w : World) (x y z : Int) (K : Nat) (hK : K ≤ w.heap.size) : OwnS (w.alloc (.cells #[.int .i64 x, .int .i64 y, .int .i64 z] 2)) K (some ⟨w.heap.size, 0, none⟩) 3 3 [x, y, z] :=
  ⟨rfl, rfl, .inr ⟨w.heap.size, 3, _, rfl, hK, heap_alloc_new w _, Nat.le_refl _, by unfold maxLen; omega, rfl, rfl⟩⟩
--W
theorem drew_q {w w' : World} (h : ∃ q, w' = w.drewN q) : Below w.heap.size w w' := by obtain ⟨q, rfl⟩ := h; exact below_drewN (Below.refl _ _) q
set_option maxRecDepth 100000 in
set_option maxHeartbeats 8000000 in
theorem moduleOf_any (A : Option Addr) (n c : Nat) (ds : List Int) (fid : Nat) (p1 p2 p3 : Value) (sq : Nat → Nat → Nat) (w : World) (h : RdS w w.heap.size A n c ds) (hn : n ≤ 16)
    (hent : ∀ args w, (callFunc fid args).run Tryz.prog w = .ok (.enter fid args) w)
    (hC : ∀ (j b : Nat) (w' : World), 1 ≤ j → j ≤ 20 → b < n → Below w.heap.size w w' → Calls Tryz.prog fid #[.int .i64 (j : Nat), .int .i64 (b : Nat), p1, p2, p3] w' (fun e w'' => e = .returned (.int .i64 (sq j b : Nat)) ∧ ∃ q, w'' = w'.drewN q))
    (hS : ∀ j b, sq j b < 65536) :
    Calls Tryz.prog 88 #[.slice A n c, .func (.func fid) #[] #[p1, p2, p3]] w (RetMo ds (actM sq n 20) w) := by
  obtain ⟨w0, b, hw0, hbe, hb0, hz0, hF⟩ := start1 w (.slice none 0 0) (.slice none 0 0) 27
  have C0 := Lib.hid (copyI_st A n c w.heap.size ds w0 (h.below hb0) hb0.size (by omega))
  have HC := Lib.hid hC
  have HS := Lib.hid hS
  have HL := Lib.hid h.len
  have Hw := Lib.hid hw0
  have Hbe := Lib.hid hbe
  have Bw0 := Lib.hid hb0
  have F0 := Lib.hid hF
  have HZ0 := Lib.hid hz0
  obtain ⟨X, hX⟩ : ∃ X, X = RetMo ds (actM sq n 20) w := ⟨_, rfl⟩
  have HX := Lib.hid hX
  rw [← hX]
  clear h hC hS hX hF hw0 hbe hb0 hz0
  go_enter Tryz.func88, Tryz.ntmps88
  go_wp2_with fail
  rw [← Hw.out, ← Hbe.out]
  refine C0.out.mono ?_
  rintro e w1 ⟨A1, c1, rfl, ho1, hb1⟩
  obtain ⟨V, hV⟩ : ∃ V, V = w1.heap.size := ⟨_, rfl⟩
  have HV := Lib.hid hV
  obtain ⟨w2, hw2⟩ : ∃ w2, w2 = (w1.alloc (.cells #[] 22)).alloc (.cells #[.slice A1 n c1, .slice (some ⟨V, 0, none⟩) 0 0] 27) := ⟨_, rfl⟩
  have HW2 := Lib.hid hw2
  have O1 := Lib.hid ho1
  have B1 := Lib.hid hb1
  have I0 := Lib.hid (show MInv w1 w2 (V + 1) V (.slice A1 n c1) (some ⟨V, 0, none⟩) 0 0 [] from by
    have ha : (w1.alloc (.cells #[] 22)).heap.size = V + 1 := by simp [hV]
    have bl : Below V w1 w2 := by
      rw [hw2, hV]
      exact ((Below.refl _ _).alloc (Nat.le_refl _) _).alloc (by simp) _
    have oe := ownL_empty w1 V (V + 1) (by omega)
    refine ⟨?_, ⟨_, by rw [hw2, ← ha]; exact heap_alloc_new _ _⟩, ⟨V + 1, by rw [hw2]; simp; omega, ?_⟩, bl⟩
    · rw [hw2, ← ha]
      exact (Cells.nil.alloc2 _ _ _ rfl).sub (by intro x hx; simp only [List.mem_cons, List.not_mem_nil, or_false] at hx ⊢; rcases hx with rfl | rfl <;> simp)
    · rw [hw2]
      rw [← hV] at oe
      exact oe.alloc _)
  clear ho1 hb1 hV hw2
  go_wp2_with fail
  rw [← HV.out, ← HW2.out]
  have HLV := Lib.hid (show V ≤ V + 1 from Nat.le_succ V)
  have HV1 := Lib.hid (show V ≤ w1.heap.size from Nat.le_of_eq HV.out)
  go_loopw [6] (fun i wr => ∃ (j l c2 : Nat) (A2 : Option Addr), j ≤ 20 ∧ i = .int .i64 ((j : Int) + 1) ∧ l ≤ j * (n * n) ∧ Hid (MInv w1 wr (V + 1) V (.slice A1 n c1) A2 l c2 (actM sq n j))) (fun i _ => 21 - (intOf i).toNat)
  case atStart => exact ⟨0, 0, 0, _, by omega, rfl, by omega, I0⟩
  case round =>
    clear I0
    obtain ⟨j, l, c2, A2, hj, rfl, hl, HI⟩ := hrel
    by_cases hlt : j < 20
    · have hj20 : ((j : Int) + 1) ≤ 20 := by omega
      have hl2 := Lib.hid hl
      have hjn : j * (n * n) ≤ 19 * (16 * 16) := Nat.mul_le_mul (by omega) (Nat.mul_le_mul hn hn)
      have HJN := Lib.hid hjn
      clear hl hjn
      have hwj : IntKind.i64.wrap ((j : Int) + 1 + 1) = ((j + 1 : Nat) : Int) + 1 := by rw [IntKind.wrap_i64]; omega
      go_wp2_with fail
      go_loopw [20] (fun i wr => ∃ (bb l3 c3 : Nat) (A3 : Option Addr), bb ≤ n ∧ i = .int .i64 bb ∧ Hid (l3 ≤ j * (n * n) + bb * n) ∧ Hid (MInv w1 wr (V + 1) V (.slice A1 n c1) A3 l3 c3 (actM sq n j ++ actB sq n (j + 1) bb))) (fun i _ => n - (intOf i).toNat)
      case atStart => exact ⟨0, l, c2, A2, by omega, rfl, Lib.hid (by have := hl2.out; omega), by simpa [actB] using HI⟩
      case round =>
        clear HI
        obtain ⟨bb, l3, c3, A3, hbb, rfl, HL3, HI⟩ := hrel
        by_cases hbl : bb < n
        · have BW := Lib.hid (show Below w.heap.size w wr from (Bw0.out.trans (B1.out.mono Bw0.out.size)).trans (HI.out.bel.mono (by have := HV.out; have := B1.out.size; have := Bw0.out.size; omega)))
          have C1 := HC.out (j + 1) bb wr (by omega) (by omega) hbl BW.out
          rw [Int.natCast_add, Int.natCast_one] at C1
          have HC1 := Lib.hid C1
          obtain ⟨x, hx⟩ : ∃ x, x = sq (j + 1) bb := ⟨_, rfl⟩
          rw [← hx] at HC1
          have HXe := Lib.hid hx
          have hxw : x < 65536 := by rw [hx]; exact HS.out _ _
          clear C1 hx
          go_wp2_with fail
          refine HC1.out.mono ?_
          rintro e w4 ⟨rfl, hq4⟩
          have I4 := Lib.hid (HI.out.below HLV.out (drew_q hq4))
          clear hq4
          go_wp2_with fail
          go_loopw [29] (fun i wr => ∃ (cc l5 c5 : Nat) (A5 : Option Addr), cc ≤ n ∧ i = .int .i64 cc ∧ Hid (l5 ≤ j * (n * n) + bb * n + cc) ∧ Hid (MInv w1 wr (V + 1) V (.slice A1 n c1) A5 l5 c5 ((actM sq n j ++ actB sq n (j + 1) bb) ++ actC sq (j + 1) bb cc))) (fun i _ => n - (intOf i).toNat)
          case atStart => exact ⟨0, l3, c3, A3, by omega, rfl, Lib.hid (by have := HL3.out; omega), by simpa [actC] using I4⟩
          case round =>
            clear HI I4
            obtain ⟨cc, l5, c5, A5, hcc, rfl, HL5, HI⟩ := hrel
            by_cases hcl : cc < n
            · have hb := bit_at (x := x) (i := cc) (by omega)
              by_cases hbit : x.testBit cc = true
              · rw [if_pos hbit] at hb
                have kk0 := HI.out.cs.at_ (b := V + 1) (o := 0) (V := .slice A1 n c1) (by simp)
                have kk1 := HI.out.cs.at_ (b := V + 1) (o := 1) (V := .slice A5 l5 c5) (by simp)
                have ba := Lib.hid (show Below wr.heap.size wr (wr.alloc (.cells #[.int .i64 ((j : Int) + 1), .int .i64 (bb : Nat), .int .i64 (cc : Nat)] 2)) from (Below.refl _ _).alloc (Nat.le_refl _) _)
                have Hwas := Lib.hid (show (wr.alloc (.cells #[.int .i64 ((j : Int) + 1), .int .i64 (bb : Nat), .int .i64 (cc : Nat)] 2)).heap.size = wr.heap.size + 1 from by simp)
                have bb2 := Lib.hid (show Below (wr.alloc (.cells #[.int .i64 ((j : Int) + 1), .int .i64 (bb : Nat), .int .i64 (cc : Nat)] 2)).heap.size (wr.alloc (.cells #[.int .i64 ((j : Int) + 1), .int .i64 (bb : Nat), .int .i64 (cc : Nat)] 2)) ((wr.alloc (.cells #[.int .i64 ((j : Int) + 1), .int .i64 (bb : Nat), .int .i64 (cc : Nat)] 2)).alloc (.cells #[.slice (some ⟨wr.heap.size, 0, none⟩) 3 3] 22)) from (Below.refl _ _).alloc (Nat.le_refl _) _)
                have bab := Lib.hid (ba.out.trans (bb2.out.mono ba.out.size))
                have NW := Lib.hid (show OwnS ((wr.alloc (.cells #[.int .i64 ((j : Int) + 1), .int .i64 (bb : Nat), .int .i64 (cc : Nat)] 2)).alloc (.cells #[.slice (some ⟨wr.heap.size, 0, none⟩) 3 3] 22)) wr.heap.size (some ⟨wr.heap.size, 0, none⟩) 3 3 [((j : Int) + 1), (bb : Int), (cc : Int)] from (own_three wr ((j : Int) + 1) (bb : Nat) (cc : Nat) wr.heap.size (Nat.le_refl _)).below bb2.out)
                have OH := Lib.hid (show OwnL ((wr.alloc (.cells #[.int .i64 ((j : Int) + 1), .int .i64 (bb : Nat), .int .i64 (cc : Nat)] 2)).alloc (.cells #[.slice (some ⟨wr.heap.size, 0, none⟩) 3 3] 22)) V wr.heap.size A5 l5 c5 ((actM sq n j ++ actB sq n (j + 1) bb) ++ actC sq (j + 1) bb cc) from HI.out.here.below bab.out)
                have RV := Lib.hid (show RdV ((wr.alloc (.cells #[.int .i64 ((j : Int) + 1), .int .i64 (bb : Nat), .int .i64 (cc : Nat)] 2)).alloc (.cells #[.slice (some ⟨wr.heap.size, 0, none⟩) 3 3] 22)) (wr.heap.size + 1 + 1) (some ⟨wr.heap.size + 1, 0, none⟩) 1 1 [.slice (some ⟨wr.heap.size, 0, none⟩) 3 3] from by
                  have := rdV_newP (wr.alloc (.cells #[.int .i64 ((j : Int) + 1), .int .i64 (bb : Nat), .int .i64 (cc : Nat)] 2)) (.slice (some ⟨wr.heap.size, 0, none⟩) 3 3) 22
                  rwa [Hwas.out] at this)
                have zV := Lib.hid (show V ≤ wr.heap.size from Nat.le_trans HV1.out HI.out.bel.size)
                have hl5 : l5 ≤ 10000 := by have := HL5.out; have := HJN.out; have : bb * n ≤ 16 * 16 := Nat.mul_le_mul (by omega) hn; omega
                have HXb := Lib.hid (show (sq (j + 1) bb).testBit cc = true from by rw [← HXe.out]; exact hbit)
                clear hbit
                go_wp2_with (first
                  | (at_builtin
                     refine wpList_appL rfl (.tmp 38) (.tmp 43) rfl rfl rfl OH.out NW.out RV.out (by omega) zV.out bab.out.size ?_
                     intro A6 c6 w6 ho6 hg6 _
                     have CI := Lib.hid (HI.out.put HLV.out HV1.out bab.out ho6 hg6)
                     have kk0 := CI.out.1.at_ (b := V + 1) (o := 0) (V := .slice A1 n c1) (by simp)
                     have kk1 := CI.out.1.at_ (b := V + 1) (o := 1) (V := .slice A5 l5 c5) (by simp)
                     have ff1 := CI.out.1.fr (b := V + 1) (o := 1) (V := .slice A5 l5 c5) (by simp)
                     clear ho6 hg6))
                have HI2 := Lib.hid (show MInv w1 (w6.setCell ⟨V + 1, 1, none⟩ (.slice A6 (l5 + 1) c6)) (V + 1) V (.slice A1 n c1) A6 (l5 + 1) c6 ((actM sq n j ++ actB sq n (j + 1) bb) ++ actC sq (j + 1) bb (cc + 1)) from by
                  rw [actC_yes HXb.out, ← List.append_assoc]
                  have := CI.out.2
                  rw [Int.natCast_add, Int.natCast_one]
                  exact this)
                go_roundw
                case rel => exact ⟨cc + 1, l5 + 1, c6, A6, by omega, by go_num, Lib.hid (by have := HL5.out; omega), HI2⟩
                case measure => simp [intOf]; omega
              · rw [if_neg hbit] at hb
                have HI2 := Lib.hid (show MInv w1 wr (V + 1) V (.slice A1 n c1) A5 l5 c5 ((actM sq n j ++ actB sq n (j + 1) bb) ++ actC sq (j + 1) bb (cc + 1)) from by rw [actC_no (by rw [← HXe.out]; exact hbit)]; exact HI.out)
                clear hbit
                go_wp2_with fail
                go_roundw
                case rel => exact ⟨cc + 1, l5, c5, A5, by omega, by go_num, Lib.hid (by have := HL5.out; omega), HI2⟩
                case measure => simp [intOf]; omega
            · obtain rfl : cc = n := by omega
              have HI2 := Lib.hid (show MInv w1 wr (V + 1) V (.slice A1 cc c1) A5 l5 c5 (actM sq cc j ++ actB sq cc (j + 1) (bb + 1)) from by rw [actB_succ, ← List.append_assoc]; exact HI.out)
              go_wp2_with fail
              go_roundw
              case rel => exact ⟨bb + 1, l5, c5, A5, by omega, by go_num, Lib.hid (by have := HL5.out; rw [Nat.add_mul, Nat.one_mul]; omega), HI2⟩
              case measure => simp [intOf]; omega
        · obtain rfl : bb = n := by omega
          have HI2 := Lib.hid (show MInv w1 wr (V + 1) V (.slice A1 bb c1) A3 l3 c3 (actM sq bb (j + 1)) from by rw [actM_succ]; exact HI.out)
          go_wp2_with fail
          go_roundw
          case rel => exact ⟨j + 1, l3, c3, A3, by omega, by simp, by have := HL3.out; rw [Nat.add_mul, Nat.one_mul]; omega, HI2⟩
          case measure => simp [intOf]; omega
    · obtain rfl : j = 20 := by omega
      have kk0 := HI.out.cs.at_ (b := V + 1) (o := 0) (V := .slice A1 n c1) (by simp)
      have kk1 := HI.out.cs.at_ (b := V + 1) (o := 1) (V := .slice A2 l c2) (by simp)
      have bel : Below w1.heap.size w1 wr := by rw [← HV.out]; exact HI.out.bel
      have FB := (F0.out.below B1.out).below bel
      have kb0 := FB.at_ (b := b) (o := 0) (V := .slice none 0 0) (by simp)
      have kb1 := FB.at_ (b := b) (o := 1) (V := .slice none 0 0) (by simp)
      have fb0 := FB.fr (b := b) (o := 0) (V := .slice none 0 0) (by simp)
      have fb1 := FB.fr (b := b) (o := 1) (V := .slice none 0 0) (by simp)
      have hres := cells_end kb0 kb1 (.slice A1 n c1) (.slice A2 l c2)
      have kr0 := hres.1
      have kr1 := hres.2
      have HFIN := Lib.hid (show X (.returned (.agg #[.slice A1 n c1, .slice A2 l c2])) ((wr.setCell ⟨b, 0, none⟩ (.slice A1 n c1)).setCell ⟨b, 1, none⟩ (.slice A2 l c2)) from by
        rw [HX.out]
        have hll := HI.out.len
        have hbV : b < V := by have := HV.out; have := B1.out.size; have := HZ0.out; omega
        have hbw : w.heap.size = b := Hbe.out.symm
        obtain ⟨K, hK, ho⟩ := HI.out.act
        have md : ∀ v1 v2, Mid b (b + 1) wr ((wr.setCell ⟨b, 0, none⟩ v1).setCell ⟨b, 1, none⟩ v2) := fun v1 v2 => (mid_setCell (p := ⟨b, 0, none⟩) v1 ⟨Nat.le_refl _, Nat.lt_succ_self _⟩).trans (mid_setCell (p := ⟨b, 1, none⟩) v2 ⟨Nat.le_refl _, Nat.lt_succ_self _⟩)
        have hbw2 := (Bw0.out.trans (B1.out.mono Bw0.out.size)).trans (bel.mono (by have := B1.out.size; have := Bw0.out.size; omega))
        have o1 := (O1.out.below bel).mid (md (.slice A1 n c1) (.slice A2 l c2)) (by rw [HZ0.out]; exact Nat.le_refl _)
        have hdl := HL.out
        have e1 : ds.length = n := hdl
        have e2 : (actM sq n 20).length = l := hll
        refine ⟨A1, c1, A2, c2, by rw [e1, e2], ?_, (hbw2.setCell (p := ⟨b, 0, none⟩) (Nat.le_of_eq hbw) _).setCell (p := ⟨b, 1, none⟩) (Nat.le_of_eq hbw) _⟩
        rw [e1, e2]
        refine ⟨⟨V, ?_, ?_, o1.mono (by rw [HZ0.out]; omega), fun g hg => by rw [HV.out]; exact (O1.out.own.lt g hg).2, (ho.mid (md _ _) (by omega)).mono (Nat.le_refl _) (by simpa [World.setCell] using hK)⟩⟩
        · omega
        · have := HI.out.bel.size
          have := HV.out
          simp only [World.size_setCell]
          omega)
      clear FB
      go_wp2_with fail
      refine bodyPost_ret (v := .agg #[.slice A1 n c1, .slice A2 l c2]) (by simp [results, Tryz.results88, go_sem, hres.1, hres.2]) rfl ?_
      exact HFIN.out
end Go.Proofs.YtejojliljplcdaaGreatDoor

/- spanOf and the closures of quotientOf. -/
namespace Go.Proofs.YtejojliljplcdaaGreatDoor
open Go.RowKit
set_option linter.unusedVariables false

/-- a span of one's own, in new blocks -/
def RetSp (R : List Nat) (w : World) (e : Ending) (w' : World) : Prop := ∃ E G, e = .returned (.pointer (some ⟨E, 0, none⟩)) ∧ SpG w' E G R ∧ Below w.heap.size w w'
set_option maxRecDepth 100000 in
theorem spanOf_any (A : Option Addr) (n c : Nat) (R : List Nat) (w : World) (h : RdS w w.heap.size A n c (intsN R)) (hg : GoodB R) (hR : ∀ r ∈ R, r < 65536) (hT : Deb w) :
    Calls Tryz.prog 83 #[.slice A n c] w (RetSp R w) := by
  have hl : R.length = n := by have := h.len; simpa [intsN] using this
  have hl16 : R.length ≤ 16 := hg.len (n := 16) hR
  obtain ⟨E, hE⟩ : ∃ E, E = w.heap.size := ⟨_, rfl⟩
  have HE := Lib.hid hE
  obtain ⟨w1, hw1⟩ : ∃ w1, w1 = w.alloc (.cells #[.slice none 0 0, .slice none 0 0] 99) := ⟨_, rfl⟩
  have HW1 := Lib.hid hw1
  have b1 : Below w.heap.size w w1 := by rw [hw1]; exact (Below.refl _ _).alloc (Nat.le_refl _) _
  have B1 := Lib.hid b1
  have S0 := Lib.hid (show SpG w1 E (fun j => j = E) [] from by rw [hw1]; exact SpG.start E hE)
  have H := Lib.hid h
  have HG := Lib.hid hg
  have HR := Lib.hid hR
  have HT := Lib.hid hT
  have hE1 : 1 ≤ E := by rw [hE]; exact hT.pos
  have HPRE : Hid (∀ k, k ≤ n → rowsB (R.take k) = R.take k) := Lib.hid (fun k hk => rowsB_self hg k (by omega))
  obtain ⟨X, hX⟩ : ∃ X, X = RetSp R w := ⟨_, rfl⟩
  have HX := Lib.hid hX
  rw [← hX]
  clear h hg hR hT hw1 b1 hX
  go_enter Tryz.func83, Tryz.ntmps83
  go_wp2_with fail
  rw [← HE.out, ← HW1.out]
  have HEs := Lib.hid hE
  clear hE
  go_loopw [10] (fun i wr => ∃ (k : Nat) (G : Nat → Prop), k ≤ n ∧ i = .int .i64 k ∧ Hid (SpG wr E G (R.take k)) ∧ Hid (∀ j, G j → E ≤ j) ∧ Hid (Below E w wr)) (fun i _ => n - (intOf i).toNat)
  case atStart => exact ⟨0, _, by omega, rfl, by simpa using S0, Lib.hid (fun j hj => by omega), by rw [HE.out]; exact B1⟩
  case round =>
    clear S0
    obtain ⟨k, G, hk, rfl, HS, HGE, HB⟩ := hrel
    by_cases hlt : k < n
    · obtain ⟨ad, x, rfl, _, hx, hc⟩ := (H.out.below (by have := HB.out; rw [HE.out] at this; exact this)).at_ hlt
      obtain ⟨r, hr⟩ : ∃ r, R[k]? = some r := ⟨_, List.getElem?_eq_getElem (by omega)⟩
      obtain rfl : x = (r : Int) := by
        have h1 := hx.out
        rw [intsN, List.getElem?_map, hr] at h1
        exact (Option.some.inj h1).symm
      have hm : ∀ y ∈ R.take k, y ∈ R := fun y hy => List.mem_of_mem_take hy
      have C := Lib.hid (add_any E r G (R.take k) wr HS.out (fun y hy => ⟨HG.out.pos y (hm y hy), HR.out y (hm y hy)⟩) (HR.out r (List.mem_of_getElem? hr)) (by rw [List.length_take]; omega) (HT.out.belowB HB.out hE1) hE1)
      have HAD := Lib.hid (show addB (R.take k) r = R.take (k + 1) from by
        have h1 := HPRE.out k (by omega)
        have h2 := HPRE.out (k + 1) (by omega)
        rw [← h2, List.take_add_one, hr]
        simp only [Option.toList_some]
        rw [rowsB_snoc, h1])
      clear hx hr hm
      go_wp2_with fail
      refine C.out.mono ?_
      rintro e w3 ⟨rfl, hs3, hf3⟩
      have HS3 := Lib.hid (show SpG w3 E (Gw G wr w3) (R.take (k + 1)) from by rw [← HAD.out]; exact hs3)
      have HG3 := Lib.hid (show ∀ j, Gw G wr w3 j → E ≤ j from fun j hj => by
        rcases hj with hj | hj
        · exact HGE.out j hj
        · have := (HS.out.lt E HS.out.e).1; omega)
      have HB3 := Lib.hid (show Below E w w3 from HB.out.trans (hf3.below (by have := (HS.out.lt E HS.out.e).1; omega) HGE.out))
      clear hs3 hf3
      go_wp2_with fail
      go_roundw
      case rel => exact ⟨k + 1, _, by omega, by go_num, HS3, HG3, HB3⟩
      case measure => simp [intOf]; omega
    · obtain rfl : k = n := by omega
      have HFIN := Lib.hid (show X (.returned (.pointer (some ⟨E, 0, none⟩))) wr from by
        rw [HX.out]
        have h1 := HS.out
        rw [List.take_of_length_le (by omega)] at h1
        have h2 := HB.out
        rw [HE.out] at h2
        exact ⟨E, G, rfl, h1, h2⟩)
      go_wp2_with fail
      exact HFIN.out
--W
/-- the numbers K, read as a slice of int -/
def RetNq (x : Nat) (w : World) (e : Ending) (w' : World) : Prop := e = .returned (.int .i64 (x : Nat)) ∧ ∃ q, w' = w.drewN q
set_option maxRecDepth 100000 in
set_option maxHeartbeats 2000000 in
theorem told_any (E v g8 g10 nr cr : Nat) (G : Nat → Prop) (Ar : Option Addr) (S K : List Nat) (w : World) (h8 : w.cell? ⟨g8, 0, none⟩ = some (.pointer (some ⟨E, 0, none⟩))) (h10 : w.cell? ⟨g10, 0, none⟩ = some (.slice Ar nr cr))
    (hr : RdS w w.heap.size Ar nr cr (intsN K)) (hK : ∀ k ∈ K, k < 16) (hKl : K.length ≤ 16) (hs : SpG w E G S) (hS : ∀ r ∈ S, r ≠ 0 ∧ r < 65536) (hSl : S.length ≤ 1000) (hv : v < 65536) (hT : Deb w) :
    Calls Tryz.prog 86 #[.int .i64 (v : Nat), .pointer (some ⟨g8, 0, none⟩), .pointer (some ⟨g10, 0, none⟩)] w (RetNq (packF K (red lowB S v) 0) w) := by
  obtain ⟨A, n, c, A2, c2, hsp, _⟩ := hs.at_
  have C := Lib.hid (left_any E A A2 n c c2 v S w hsp hS hv (by have := hsp.len; omega) hT)
  have hx := red_lt (R := S) (v := v) (fun r hr => (hS r hr).2) hv
  have hl : K.length = nr := by have := hr.len; simpa [intsN] using this
  have HKl := Lib.hid hl
  have HR := Lib.hid hr
  have HK := Lib.hid hK
  obtain ⟨x, hxe⟩ : ∃ x, x = red lowB S v := ⟨_, rfl⟩
  rw [← hxe] at C hx ⊢
  have hnr : nr ≤ 16 := by omega
  obtain ⟨X, hX⟩ : ∃ X, X = RetNq (packF K x 0) w := ⟨_, rfl⟩
  have HX := Lib.hid hX
  rw [← hX]
  clear hsp hs hS hT hr hK hl hxe hX hKl hSl
  go_enter Tryz.func86, Tryz.ntmps86
  go_wp2_with fail
  refine C.out.mono ?_
  rintro e w1 ⟨rfl, q1, hq1⟩
  have B1 := Lib.hid (show Below w.heap.size w w1 from by rw [hq1]; exact below_drewN (Below.refl _ _) q1)
  have W1 := Lib.hid hq1
  have k10 : w1.cell? ⟨g10, 0, none⟩ = some (.slice Ar nr cr) := by rw [hq1]; exact h10
  clear hq1 h8 h10
  go_wp2_with fail
  go_loop [5, 16] (fun o i => ∃ (k u : Nat), k ≤ nr ∧ i = .int .i64 k ∧ o = .int .i64 u ∧ Hid (u = packF (K.take k) x 0)) (fun _ i => nr - (intOf i).toNat)
  case atStart => exact ⟨0, 0, Nat.zero_le _, rfl, rfl, Lib.hid rfl⟩
  case round =>
    obtain ⟨k, u, hk, rfl, rfl, HU⟩ := hrel
    by_cases hlt : k < nr
    · obtain ⟨ad, y, rfl, _, hy, hcy⟩ := (HR.out.below B1.out).at_ hlt
      obtain ⟨b, hbK⟩ : ∃ b, K[k]? = some b := ⟨_, List.getElem?_eq_getElem (by rw [HKl.out]; exact hlt)⟩
      obtain rfl : y = (b : Int) := by
        have h1 := hy.out
        rw [intsN, List.getElem?_map, hbK] at h1
        exact (Option.some.inj h1).symm
      have hb16 : b < 16 := HK.out b (List.mem_of_getElem? hbK)
      have hu : u < 65536 := by
        have h1 := packF_lt x (K.take k) 0
        have h2 : (2 : Nat) ^ (0 + (K.take k).length) ≤ 2 ^ 16 := Nat.pow_le_pow_right (by decide) (by rw [List.length_take, HKl.out]; omega)
        have e : (2 : Nat) ^ 16 = 65536 := by decide
        have := HU.out
        omega
      have hsn : packF (K.take (k + 1)) x 0 = u ||| (if x.testBit b = true then 2 ^ k else 0) := by
        rw [List.take_add_one, hbK]
        simp only [Option.toList_some]
        rw [packF_snoc, ← HU.out, List.length_take, HKl.out, Nat.min_eq_left hk, Nat.zero_add]
      have hbt := bit_at (x := x) (i := b) (by omega)
      obtain ⟨p, hp⟩ : ∃ p : Nat, p = 2 ^ k := ⟨_, rfl⟩
      have hpb : p < 131072 := by
        have h2 : (2 : Nat) ^ k ≤ 2 ^ 16 := Nat.pow_le_pow_right (by decide) (by omega)
        have e : (2 : Nat) ^ 16 = 65536 := by decide
        rw [e, ← hp] at h2
        omega
      have hpi : (2 : Int) ^ k = (p : Int) := by rw [hp]; push_cast; rfl
      have hw2 : wrap64 ((2 : Int) ^ k) = (p : Int) := by rw [hp]; exact wrap_two (by omega)
      have hb0 : bits .or .i64 (u : Int) (p : Int) = ((u ||| p : Nat) : Int) := or_small hu hpb
      have hb1 : bits .or .i64 (u : Int) 0 = (u : Int) := by have := or_small (p := 0) hu (by decide); simpa using this
      have hb2 : bits .or .i64 (u : Int) (wrap64 ((2 : Int) ^ k)) = ((u ||| p : Nat) : Int) := by rw [hw2]; exact hb0
      have hb3 : bits .or .i64 (u : Int) ((2 : Int) ^ k) = ((u ||| p : Nat) : Int) := by rw [hpi]; exact hb0
      rw [← hp] at hsn
      have hk64 : (k : Int) < 64 := by omega
      clear hp hpb hpi hy hbK HU
      by_cases hbit : x.testBit b = true
      · rw [if_pos hbit] at hbt hsn
        have HU2 := Lib.hid hsn.symm
        obtain ⟨u2, hu2⟩ : ∃ u2, u2 = u ||| p := ⟨_, rfl⟩
        rw [← hu2] at HU2 hb0 hb2 hb3
        clear hsn hu2 hbit
        go_wp2_with fail
        go_round
        case rel => exact ⟨k + 1, u2, by omega, by go_num, by first | rfl | rw [hb3] | rw [hb2] | rw [hb0], HU2⟩
        case measure => simp [intOf]; omega
      · rw [if_neg hbit, ] at hbt hsn
        have HU2 := Lib.hid (show u = packF (K.take (k + 1)) x 0 from by rw [hsn, Nat.or_zero])
        clear hsn hbit
        go_wp2_with fail
        go_round
        case rel => exact ⟨k + 1, u, by omega, by go_num, by first | rfl | rw [hb1], HU2⟩
        case measure => simp [intOf]; omega
    · obtain rfl : k = nr := by omega
      have HFIN := Lib.hid (show X (.returned (.int .i64 (u : Nat))) w1 from by
        rw [HX.out]
        have h1 := HU.out
        rw [List.take_of_length_le (by rw [HKl.out]; exact Nat.le_refl _)] at h1
        exact ⟨by rw [h1], q1, W1.out⟩)
      go_wp2_with fail
      exact HFIN.out
/-- whether a row has its pivot at a place -/
theorem quot1_any (r b g : Nat) (hr : r ≠ 0 ∧ r < 65536) (w : World) (hc : w.cell? ⟨g, 0, none⟩ = some (.int .i64 (b : Nat))) (hT : Deb w) : Calls Tryz.prog 85 #[.int .i64 (r : Nat), .pointer (some ⟨g, 0, none⟩)] w (RetBb (lowB r == b) w) := by
  have Hd := fun W : Nat => Lib.hid (show Calls Tryz.prog 64 #[.int .i64 (r : Nat)] (w.drewN W) (fun e w'' => e = .returned (.int .i64 (lowB r : Nat)) ∧ ∃ m, w'' = w.drewN m) from by
    have h1 := pivot_any r (by omega) hr.1 (w.drewN W) (hT.below (below_drewN (Below.refl _ _) W))
    rw [ctz_low hr.1 (by omega)] at h1
    exact h1.mono fun e w'' ⟨he, hw⟩ => ⟨he, W, hw⟩)
  have HE := Lib.hid (show ((lowB r : Int) == (b : Int)) = (lowB r == b) from by
    by_cases h : lowB r = b
    · simp [h]
    · rw [beq_eq_false_iff_ne.2 h, beq_eq_false_iff_ne]; omega)
  obtain ⟨p, hp⟩ : ∃ p, p = lowB r := ⟨_, rfl⟩
  rw [← hp] at HE ⊢
  simp only [← hp] at Hd
  clear hp hT
  go_enter Tryz.func85, Tryz.ntmps85
  go_wp2_with fail
  go_quiet (first | (go_at_call 64; exact (Hd _).out))
  go_wp2_with fail
  go_ret
  exact RetBb.mk HE.out (by first | exact Below.refl _ _ | exact below_drewN (Below.refl _ _) _ | exact below_drewN (below_drewN (Below.refl _ _) _) _)
--W
end Go.Proofs.YtejojliljplcdaaGreatDoor

/- What the closures of quotientOf read; quotientOf$3. -/
namespace Go.Proofs.YtejojliljplcdaaGreatDoor
open Go.RowKit
set_option linter.unusedVariables false

/-- what the closures of quotientOf read -/
structure QRd (w : World) (t n1 E g7 g8 g10 nr cr : Nat) (DS : Value) (Ar : Option Addr) (M : Nat → Nat → Nat) (G : Nat → Prop) (S K : List Nat) : Prop where
  c7 : w.cell? ⟨g7, 0, none⟩ = some (.pointer (some ⟨t, 0, none⟩)) ∧ g7 < w.heap.size
  c8 : w.cell? ⟨g8, 0, none⟩ = some (.pointer (some ⟨E, 0, none⟩)) ∧ g8 < w.heap.size
  c10 : w.cell? ⟨g10, 0, none⟩ = some (.slice Ar nr cr) ∧ g10 < w.heap.size
  rest : RdS w w.heap.size Ar nr cr (intsN K)
  tab : TabR w t n1 DS M
  sp : SpG w E G S
  deb : Deb w
theorem SpG.below {w w' : World} {E : Nat} {G : Nat → Prop} {R : List Nat} (h : SpG w E G R) (hb : Below w.heap.size w w') : SpG w' E G R := by
  obtain ⟨⟨A, n, c, A2, c2, hs, h1, h2⟩, h3, h4⟩ := h
  exact ⟨⟨A, n, c, A2, c2, hs.below hb, h1, h2⟩, h3, fun j hj => ⟨Nat.lt_of_lt_of_le (h4 j hj).1 hb.size, (h4 j hj).2⟩⟩
theorem QRd.below {w w' : World} {t n1 E g7 g8 g10 nr cr : Nat} {DS : Value} {Ar : Option Addr} {M : Nat → Nat → Nat} {G : Nat → Prop} {S K : List Nat} (h : QRd w t n1 E g7 g8 g10 nr cr DS Ar M G S K) (hb : Below w.heap.size w w') : QRd w' t n1 E g7 g8 g10 nr cr DS Ar M G S K :=
  ⟨⟨bcell hb h.c7.2 h.c7.1, Nat.lt_of_lt_of_le h.c7.2 hb.size⟩, ⟨bcell hb h.c8.2 h.c8.1, Nat.lt_of_lt_of_le h.c8.2 hb.size⟩, ⟨bcell hb h.c10.2 h.c10.1, Nat.lt_of_lt_of_le h.c10.2 hb.size⟩, (h.rest.below hb).mono hb.size, h.tab.below hb, h.sp.below hb, h.deb.below hb⟩
structure QOk (n1 : Nat) (M : Nat → Nat → Nat) (S K : List Nat) : Prop where
  hn : n1 ≤ 16
  hK : ∀ k ∈ K, k < n1
  Kl : K.length ≤ 16
  hS : ∀ r ∈ S, r ≠ 0 ∧ r < 65536
  Sl : S.length ≤ 1000
  hM : ∀ k i, i < n1 → M k i < 65536
theorem QRd.told {w : World} {t n1 E g7 g8 g10 nr cr : Nat} {DS : Value} {Ar : Option Addr} {M : Nat → Nat → Nat} {G : Nat → Prop} {S K : List Nat} (h : QRd w t n1 E g7 g8 g10 nr cr DS Ar M G S K) (ho : QOk n1 M S K) (v : Nat) (hv : v < 65536) :
    Calls Tryz.prog 86 #[.int .i64 (v : Nat), .pointer (some ⟨g8, 0, none⟩), .pointer (some ⟨g10, 0, none⟩)] w (RetNq (packF K (red lowB S v) 0) w) :=
  told_any E v g8 g10 nr cr G Ar S K w h.c8.1 h.c10.1 h.rest (fun k hk => Nat.lt_of_lt_of_le (ho.hK k hk) ho.hn) ho.Kl h.sp ho.hS ho.Sl hv h.deb
set_option maxRecDepth 100000 in
theorem quot3_any (t n1 E g7 g8 g10 g13 nr cr j b : Nat) (DS : Value) (Ar : Option Addr) (M : Nat → Nat → Nat) (G : Nat → Prop) (S K : List Nat) (w : World) (h : QRd w t n1 E g7 g8 g10 nr cr DS Ar M G S K) (ho : QOk n1 M S K)
    (h13 : w.cell? ⟨g13, 0, none⟩ = some (.func (.func 86) #[] #[.pointer (some ⟨g8, 0, none⟩), .pointer (some ⟨g10, 0, none⟩)])) (hj : j ≤ 20) (hb : b < nr) :
    Calls Tryz.prog 89 #[.int .i64 (j : Nat), .int .i64 (b : Nat), .pointer (some ⟨g13, 0, none⟩), .pointer (some ⟨g7, 0, none⟩), .pointer (some ⟨g10, 0, none⟩)] w (RetNq (packF K (red lowB S (M j (K[b]?.getD 0))) 0) w) := by
  obtain ⟨adr, x, rfl, _, hx, hcr⟩ := h.rest.at_ hb
  obtain ⟨k, hk⟩ : ∃ k, K[b]? = some k := ⟨_, List.getElem?_eq_getElem (by have := h.rest.len; simp [intsN] at this; omega)⟩
  obtain rfl : x = (k : Int) := by
    have h1 := hx.out
    rw [intsN, List.getElem?_map, hk] at h1
    exact (Option.some.inj h1).symm
  rw [hk, Option.getD_some]
  have hkn : k < n1 := ho.hK k (List.mem_of_getElem? hk)
  obtain ⟨g, _, hg, hrow⟩ := h.tab.row j (by omega)
  obtain ⟨adz, z, had, _, hz, hcz⟩ := hrow.at_ (k := k) hkn
  obtain rfl : ⟨g, 0, none⟩ = adz := by simpa using had
  obtain rfl : z = ((M j k : Nat) : Int) := by
    have := hz.out
    rw [List.getElem?_map, List.getElem?_range hkn] at this
    exact (Option.some.inj this).symm
  have hcz2 : w.cell? (⟨g, k, none⟩ : Addr) = some (.int .i64 (M j k : Nat)) := by by_cases e : k = 0 <;> simpa [Addr.add, e] using hcz
  have hM := ho.hM j k hkn
  obtain ⟨v, hv⟩ : ∃ v, v = M j k := ⟨_, rfl⟩
  rw [← hv] at hcz2 hM ⊢
  have Hd := fun W : Nat => Lib.hid (show Calls Tryz.prog 86 #[.int .i64 (v : Nat), .pointer (some ⟨g8, 0, none⟩), .pointer (some ⟨g10, 0, none⟩)] (w.drewN W) (fun e w'' => e = .returned (.int .i64 (packF K (red lowB S v) 0 : Nat)) ∧ ∃ m, w'' = w.drewN m) from
    ((h.below (below_drewN (Below.refl _ _) W)).told ho v hM).mono fun e w'' ⟨he, q, hq⟩ => ⟨he, W + q, by rw [hq, World.drewN_drewN]⟩)
  obtain ⟨y, hy⟩ : ∃ y, y = packF K (red lowB S v) 0 := ⟨_, rfl⟩
  rw [← hy]
  simp only [← hy] at Hd
  have c7 := h.c7.1
  have c10 := h.c10.1
  have hent := enters_of Tryz.func86 (by kernel_rfl) rfl
  have hj0 : (0 : Int) ≤ (j : Int) := by omega
  have hj21 : (j : Int) < 21 := by omega
  have hb0 : (b : Int) < (nr : Int) := by omega
  have hk0 : (k : Int) < (n1 : Int) := by omega
  clear hx hk hrow had hz hcz hv hy h ho
  go_enter Tryz.func89, Tryz.ntmps89
  go_wp2_with fail
  go_quiet (first | (go_at_call 86; exact (Hd _).out))
  go_wp2_with fail
  go_ret
  exact ⟨rfl, (by first | exact ⟨_, rfl⟩ | exact ⟨_, World.drewN_drewN _ _ _⟩ | (simp only [World.drewN_drewN]; exact ⟨_, rfl⟩))⟩
set_option maxRecDepth 100000 in
theorem vectorsOf_any (A1 A2 A : Option Addr) (n1 c1 n2 c2 n c : Nat) (M : List Nat) (w : World) (h : RdS w w.heap.size A n c (intsN M)) (hM : ∀ m ∈ M, m < 65536) (hn1 : n1 ≤ 16) (hn : n ≤ 1000) :
    Calls Tryz.prog 90 #[.agg #[.slice A1 n1 c1, .slice A2 n2 c2], .slice A n c] w (RetL n (M.map fun m => vecF m n1) w) := by
  obtain ⟨w0, b, hw0, hbe, hb0, hz0, hF⟩ := start1 w (.slice A1 n1 c1) (.slice A2 n2 c2) 27
  have hl : M.length = n := by have := h.len; simpa [intsN] using this
  have HL := Lib.hid hl
  have H := Lib.hid (h.below hb0)
  have HM := Lib.hid hM
  have Hw := Lib.hid hw0
  have Hbe := Lib.hid hbe
  have Bw0 := Lib.hid hb0
  have F0 := Lib.hid hF
  have HS := Lib.hid (StL.start (Below.refl w0.heap.size w0) (Nat.le_refl _)).here
  obtain ⟨V, hV⟩ : ∃ V, V = w0.heap.size := ⟨_, rfl⟩
  have HV := Lib.hid hV
  have HVb := Lib.hid (show b + 1 = V from by omega)
  obtain ⟨X, hX⟩ : ∃ X, X = RetL n (M.map fun m => vecF m n1) w := ⟨_, rfl⟩
  have HX := Lib.hid hX
  rw [← hX]
  clear h hM hX hF hw0 hbe hb0 hz0 hl hV
  go_enter Tryz.func90, Tryz.ntmps90
  go_wp2_with fail
  rw [← Hw.out, ← Hbe.out]
  rw [← HV.out] at HS
  rw [HVb.out]
  go_loopw [5, 11] (fun o i wr => ∃ (k c' : Nat) (A' : Option Addr), k ≤ n ∧ i = .int .i64 k ∧ o = .slice A' k c' ∧ Hid (StL w0 V wr wr.heap.size A' k c' ((M.take k).map fun m => vecF m n1))) (fun _ i _ => n - (intOf i).toNat)
  case atStart => exact ⟨0, 0, _, Nat.zero_le _, rfl, rfl, HS⟩
  case round =>
    clear HS
    obtain ⟨k, c', A', hk, rfl, rfl, HS⟩ := hrel
    have bel := Lib.hid (show Below w0.heap.size w0 wr from by rw [← HV.out]; exact HS.out.bel)
    by_cases hlt : k < n
    · obtain ⟨ad, x, rfl, _, hx, hc⟩ := (H.out.below (bel.out.mono Bw0.out.size)).at_ hlt
      obtain ⟨m, hm⟩ : ∃ m, M[k]? = some m := ⟨_, List.getElem?_eq_getElem (by rw [HL.out]; exact hlt)⟩
      obtain rfl : x = (m : Int) := by
        have h1 := hx.out
        rw [intsN, List.getElem?_map, hm] at h1
        exact (Option.some.inj h1).symm
      have k0 := (F0.out.below bel.out).at_ (b := b) (o := 0) (V := .slice A1 n1 c1) (by simp)
      have k1 := (F0.out.below bel.out).at_ (b := b) (o := 1) (V := .slice A2 n2 c2) (by simp)
      have C := Lib.hid (vectorOf_any A1 A2 n1 c1 n2 c2 m wr (HM.out m (List.mem_of_getElem? hm)) hn1)
      have HT := Lib.hid (show (M.take (k + 1)).map (fun m => vecF m n1) = (M.take k).map (fun m => vecF m n1) ++ [vecF m n1] from by rw [List.take_add_one, hm]; simp)
      clear hx hm
      go_wp2_with fail
      refine C.out.mono ?_
      rintro e w5 ⟨A5, c5, rfl, ho5, hb5⟩
      have N5 := Lib.hid ho5
      have HS5 := Lib.hid (HS.out.call hb5)
      clear ho5 hb5
      go_wp2_with (at_builtin; refine wpList_pushL rfl (.tmp 15) (.tmp 19) rfl rfl rfl HS5.out N5.out (by omega) ?_)
      intro A6 c6 w6 hs6 _ _
      have HS6 := Lib.hid hs6; clear hs6
      go_wp2_with fail
      go_roundw
      case rel => exact ⟨k + 1, c6, A6, by omega, by go_num, rfl, Lib.hid (by rw [HT.out, List.map_take]; exact HS6.out)⟩
      case measure => simp [intOf]; omega
    · obtain rfl : k = n := by omega
      have HFIN := Lib.hid (show X (.returned (.slice A' k c')) wr from by
        rw [HX.out]
        have h1 := HS.out
        rw [List.take_of_length_le (by rw [HL.out]; exact Nat.le_refl _)] at h1
        exact ⟨A', c', rfl, h1.own.mono (by rw [HV.out]; exact Bw0.out.size) (Nat.le_refl _), Bw0.out.trans (bel.out.mono Bw0.out.size)⟩)
      go_wp2_with fail
      exact HFIN.out
--W
end Go.Proofs.YtejojliljplcdaaGreatDoor

/- quotientOf. -/
namespace Go.Proofs.YtejojliljplcdaaGreatDoor
open Go.RowKit
set_option linter.unusedVariables false

/-- the degrees and the places that are kept, under way -/
structure QInv (w3 wr : World) (V g10 : Nat) (A : Option Addr) (n c : Nat) (ds : List Int) (Ar : Option Addr) (nr cr : Nat) (K : List Nat) : Prop where
  o1 : OwnS wr V A n c ds
  o2 : OwnV wr V 3 Ar nr cr ((intsN K).map (.int .i64))
  cs : Cells [(g10, 0, .slice Ar nr cr)] wr
  kd : ∃ cs, wr.heap[g10]? = some (.cells cs 92 (0, 0))
  bel : Below V w3 wr
  hV : V ≤ g10 ∧ V ≤ w3.heap.size
theorem QInv.below {w3 wr w' : World} {V g10 n c nr cr : Nat} {A Ar : Option Addr} {ds : List Int} {K : List Nat} (h : QInv w3 wr V g10 A n c ds Ar nr cr K) (hb : Below wr.heap.size wr w') : QInv w3 w' V g10 A n c ds Ar nr cr K :=
  ⟨h.o1.below hb, h.o2.below hb, h.cs.below hb, by obtain ⟨cs, hk⟩ := h.kd; exact ⟨cs, by rw [hb.block g10 (h.cs.lt (g10, 0, .slice Ar nr cr) (by simp))]; exact hk⟩, h.bel.trans (hb.mono (Nat.le_trans h.hV.2 h.bel.size)), h.hV⟩
theorem QInv.app1 {w3 wr w' : World} {V g10 n c nr cr c' : Nat} {A Ar A' : Option Addr} {ds ds' : List Int} {K : List Nat} {m : Nat} (h : QInv w3 wr V g10 A n c ds Ar nr cr K) (ho : OwnV w' V 2 A' m c' (ds'.map (.int .i64))) (hg : wr.grownBy w' (Value.ownBlock (.slice A n c))) :
    QInv w3 w' V g10 A' m c' ds' Ar nr cr K := by
  have h2 : ∀ g, Value.ownBlock (.slice A n c) = some g → g ≠ g10 := fun g e => kinds_ne (by decide) (h.o1.v.kind g e) h.kd
  have hs := Nat.le_trans h.hV.2 h.bel.size
  refine ⟨ho.s, h.o2.grown hg fun ad e e' => ?_, h.cs.grown hg fun x hx e => ?_, ?_, h.bel.grown hg hs fun g e => h.o1.row g e, h.hV⟩
  · exact kinds_ne (by decide) (h.o2.kind ad.block (by subst e; rfl)) (h.o1.v.kind ad.block e'.symm) rfl
  · rw [List.mem_singleton] at hx
    subst hx
    exact h2 _ e.symm rfl
  · obtain ⟨cs, hk⟩ := h.kd
    exact ⟨cs, by rw [hg.block g10 (h.cs.lt (g10, 0, .slice Ar nr cr) (by simp)) (fun e => h2 _ e.symm rfl)]; exact hk⟩
theorem QInv.app2 {w3 wr w' : World} {V g10 n c nr cr c' : Nat} {A Ar A' : Option Addr} {ds : List Int} {K K' : List Nat} {m : Nat} (h : QInv w3 wr V g10 A n c ds Ar nr cr K) (ho : OwnV w' V 3 A' m c' ((intsN K').map (.int .i64))) (hg : wr.grownBy w' (Value.ownBlock (.slice Ar nr cr))) :
    Cells [(g10, 0, .slice Ar nr cr)] w' ∧ QInv w3 (w'.setCell ⟨g10, 0, none⟩ (.slice A' m c')) V g10 A n c ds A' m c' K' := by
  have h2 : ∀ g, Value.ownBlock (.slice Ar nr cr) = some g → g ≠ g10 := fun g e => kinds_ne (by decide) (h.o2.kind g e) h.kd
  have hs := Nat.le_trans h.hV.2 h.bel.size
  have hcs : Cells [(g10, 0, .slice Ar nr cr)] w' := h.cs.grown hg fun x hx e => by
    rw [List.mem_singleton] at hx
    subst hx
    exact h2 _ e.symm rfl
  have hkd : ∃ cs, w'.heap[g10]? = some (.cells cs 92 (0, 0)) := by
    obtain ⟨cs, hk⟩ := h.kd
    exact ⟨cs, by rw [hg.block g10 (h.cs.lt (g10, 0, .slice Ar nr cr) (by simp)) (fun e => h2 _ e.symm rfl)]; exact hk⟩
  have o1 : OwnS w' V A n c ds := h.o1.grown hg fun ad e e' => kinds_ne (by decide) (h.o1.v.kind ad.block (by subst e; rfl)) (h.o2.kind ad.block e'.symm) rfl
  have g1 : w'.grownBy (w'.setCell ⟨g10, 0, none⟩ (.slice A' m c')) (some g10) := ⟨rfl, rfl, rfl, by simp [World.setCell], fun k hk e => Below.heap_setCell _ _ _ _ (fun e' => e (by rw [e']))⟩
  refine ⟨hcs, o1.grown g1 fun ad e e' => ?_, ho.grown g1 fun ad e e' => ?_, ?_, kind_set hkd, (h.bel.grown hg hs fun g e => (h.o2.own.lt g e).1).setCell (p := ⟨g10, 0, none⟩) h.hV.1 _, h.hV⟩
  · injection e' with e'
    rw [← e'] at hkd
    exact kinds_ne (by decide) (o1.v.kind ad.block (by subst e; rfl)) hkd rfl
  · injection e' with e'
    rw [← e'] at hkd
    exact kinds_ne (by decide) (ho.kind ad.block (by subst e; rfl)) hkd rfl
  · exact Cells.set (U := .slice Ar nr cr) (L := []) hcs (by simp) _
theorem Tryz.info_int : (Tryz.prog.info? 3).map (fun i => (i.zero, i.size, i.bytes)) = some (some (.int .i64 0), 1, 8) := by kernel_rfl
theorem eltInt : Elt 92 3 8 := elt_of Tryz.underlying92 Tryz.info_int rfl
theorem RdV.ints {w : World} {B : Nat} {A : Option Addr} {n c : Nat} {xs : List Int} (h : RdV w B A n c (xs.map (.int .i64))) : RdS w B A n c xs :=
  ⟨by simpa using h.len, h.cap, fun j hj => by
    obtain ⟨ad, e, hb, hc⟩ := h.cell j (by simpa using hj)
    exact ⟨ad, e, hb, by simpa using hc⟩⟩
/-- a call of a Go function as a step of a region that draws -/
theorem step_fn {ops : Array Oper} {o : Oper} {a : Act} {w : World} {K : Act → World → Prop} {Q : Exit → Act → World → Prop} {E : Prop} {R : Ending → World → Prop} {f : FuncId} {args : Array Value}
    (hg : o.guard = none) (hrun : (execOp a.eval o).run Tryz.prog w = .ok (.enter f args) w) (hc : Calls Tryz.prog f args w R) (hK : ∀ e w', R e w' → ∃ v, e = .returned v ∧ K (a.put o.dst v) w') :
    if Region.wanted o (yielded ops a.tmps) = true then Oper.wp Tryz.prog o a w K Q else E := by
  have hw : Region.wanted o (yielded ops a.tmps) = true := by simp [Region.wanted, hg]
  rw [if_pos hw]
  unfold Oper.wp
  rw [hrun, Oper.upon_enter]
  refine hc.mono fun e w' h => ?_
  obtain ⟨v, rfl, hk⟩ := hK e w' h
  exact hk
/-- a call of a function value that has captured -/
theorem step_dyn {ops : Array Oper} {o : Oper} {a : Act} {w : World} {K : Act → World → Prop} {Q : Exit → Act → World → Prop} {E : Prop} {R : Ending → World → Prop} (f : FuncId) (x y : Operand) (ts : Array TypeId) {vx : Value} {caps : Array Value}
    (hg : o.guard = none) (ho : o.op = .call { callee := .value y, args := #[x], argTypes := ts }) (hent : ∀ args w, (callFunc f args).run Tryz.prog w = .ok (.enter f args) w) (hx : a.eval x = vx) (hy : a.eval y = .func (.func f) #[] caps)
    (hc : Calls Tryz.prog f (#[vx] ++ caps) w R) (hK : ∀ e w', R e w' → ∃ v, e = .returned v ∧ K (a.put o.dst v) w') :
    if Region.wanted o (yielded ops a.tmps) = true then Oper.wp Tryz.prog o a w K Q else E := by
  refine step_fn hg ?_ hc hK
  subst hx
  obtain ⟨ev, hev⟩ : ∃ ev : Operand → Value, ev = a.eval := ⟨_, rfl⟩
  rw [← hev] at hy ⊢
  simp [execOp, ho, resolve, invoke, hent, hy, go_sem]
theorem step_fn2 {ops : Array Oper} {o : Oper} {a : Act} {w : World} {K : Act → World → Prop} {Q : Exit → Act → World → Prop} {E : Prop} {R : Ending → World → Prop} (f : FuncId) (x y : Operand) (ts : Array TypeId) {vx vy : Value}
    (hg : o.guard = none) (ho : o.op = .call { callee := .value (.func f), args := #[x, y], argTypes := ts }) (hent : ∀ args w, (callFunc f args).run Tryz.prog w = .ok (.enter f args) w) (hx : a.eval x = vx) (hy : a.eval y = vy)
    (hc : Calls Tryz.prog f #[vx, vy] w R) (hK : ∀ e w', R e w' → ∃ v, e = .returned v ∧ K (a.put o.dst v) w') :
    if Region.wanted o (yielded ops a.tmps) = true then Oper.wp Tryz.prog o a w K Q else E := by
  refine step_fn hg ?_ hc hK
  subst hx; subst hy
  simp [execOp, ho, resolve, invoke, hent, go_sem]
/-- what quotientOf hands back: a module, the images of the basis elements, each of one's own, and a code -/
def RetQu (ds : List Int) (act imgs : List (List Int)) (k : Int) (w : World) (e : Ending) (w' : World) : Prop :=
  ∃ A1 c1 A2 c2 A3 c3 K1 K2, e = .returned (.tuple #[.agg #[.slice A1 ds.length c1, .slice A2 act.length c2], .slice A3 imgs.length c3, .int .i64 k]) ∧ w.heap.size ≤ K1 ∧ K1 ≤ K2 ∧ OwnS w' w.heap.size A1 ds.length c1 ds ∧
    (∀ g, Value.ownBlock (.slice A1 ds.length c1) = some g → g < K1) ∧ OwnM w' K1 K2 A2 act.length c2 act ∧ OwnL w' K2 w'.heap.size A3 imgs.length c3 imgs ∧ Below w.heap.size w w'
set_option maxRecDepth 100000 in
set_option maxHeartbeats 8000000 in
theorem quotientOf_any (A1 A2 A : Option Addr) (n1 c1 n2 c2 n c : Nat) (ds : List Int) (act : List (List Int)) (S : List Nat) (w : World) (h : RdMod w A1 n1 c1 ds A2 n2 c2 act) (ht : TabF ds act) (hn2 : n2 ≤ 2000000)
    (hq : RdS w w.heap.size A n c (intsN S)) (hg : GoodB S) (hS : ∀ r ∈ S, r < 65536) (hT : Deb w) (f : Nat → Nat → Nat) (hf : ∀ j k, k < n1 → f j (2 ^ k) = rowF (act.map toT) j k) :
    Calls Tryz.prog 44 #[.agg #[.slice A1 n1 c1, .slice A2 n2 c2], .slice A n c] w
      (RetQu ((keptL S n1).map fun i => ds[i]?.getD 0) (actM (fun j b => toldF S n1 (f j (2 ^ ((keptL S n1)[b]?.getD 0)))) (keptL S n1).length 20) ((List.range n1).map fun i => vecF (toldF S n1 (2 ^ i)) (keptL S n1).length) 0 w) := by
  obtain ⟨w0, b, hw0, hbe, hb0, hz0, hF⟩ := start22 w (.slice A1 n1 c1) (.slice A2 n2 c2) (.slice none 0 0) (.slice none 0 0) 27 27
  have hl1 : ds.length = n1 := h.ds.len
  have hln : S.length = n := by have := hq.len; simpa [intsN] using this
  have hn16 : n1 ≤ 16 := by rw [← hl1]; exact ht.len
  have hSl : S.length ≤ 16 := hg.len (n := 16) hS
  have C0 := Lib.hid (tableOf_lo A1 A2 n1 c1 n2 c2 ds act w0 (h.below hb0) ht hn2)
  have QOK := Lib.hid (show QOk n1 (rowF (act.map toT)) S (keptL S n1) from ⟨hn16, fun k hk => (keptL_lt hk).1, Nat.le_trans (keptL_len S n1) hn16, fun r hr => ⟨hg.pos r hr, hS r hr⟩, by omega, fun k i hi => ht.tri.row_lt (by rw [hl1]; exact hi)⟩)
  have HF := Lib.hid hf
  obtain ⟨X, hX⟩ : ∃ X, X = RetQu ((keptL S n1).map fun i => ds[i]?.getD 0) (actM (fun j b => toldF S n1 (f j (2 ^ ((keptL S n1)[b]?.getD 0)))) (keptL S n1).length 20) ((List.range n1).map fun i => vecF (toldF S n1 (2 ^ i)) (keptL S n1).length) 0 w := ⟨_, rfl⟩
  have HX := Lib.hid hX
  rw [← hX]
  have F0 := Lib.hid hF
  have Hw := Lib.hid hw0
  have Hbe := Lib.hid hbe
  have Bw0 := Lib.hid hb0
  have HZ0 := Lib.hid hz0
  have HM0 := Lib.hid (h.below hb0)
  have HQ0 := Lib.hid ((hq.below hb0).mono hb0.size)
  have HG := Lib.hid hg
  have HS := Lib.hid hS
  have HT0 := Lib.hid (hT.below hb0)
  have HL1 := Lib.hid hl1
  have k0 := hF.at_ (b := b) (o := 0) (V := .slice A1 n1 c1) (by simp)
  have k1 := hF.at_ (b := b) (o := 1) (V := .slice A2 n2 c2) (by simp)
  have hnS : n ≤ 16 := by omega
  clear h ht hf hX hF hw0 hbe hb0 hz0 hq hg hS hT hl1 hSl
  go_enter Tryz.func44, Tryz.ntmps44
  go_wp2_with fail
  rw [← Hw.out, ← Hbe.out]
  refine C0.out.mono ?_
  rintro e w1 ⟨t, rfl, htab, hb1, hlo⟩
  have C1 := Lib.hid (spanOf_any A n c S w1 ((HQ0.out.below hb1).mono hb1.size) HG.out HS.out (HT0.out.below hb1))
  have T1 := Lib.hid htab
  have B1 := Lib.hid hb1
  clear htab hb1 hlo k0 k1
  go_wp2_with fail
  refine C1.out.mono ?_
  rintro e w2 ⟨E, G, rfl, hsp, hb2⟩
  have S2 := Lib.hid hsp
  have B2 := Lib.hid hb2
  have FB := Lib.hid ((F0.out.below B1.out).below hb2)
  obtain ⟨V, hV⟩ : ∃ V, V = w2.heap.size + 1 + 1 := ⟨_, rfl⟩
  have HV := Lib.hid hV
  obtain ⟨w3, hw3⟩ : ∃ W, W = ((w2.alloc (.cells #[.pointer (some ⟨t, 0, none⟩)] 60)).alloc (.cells #[.pointer (some ⟨E, 0, none⟩)] 90)) := ⟨_, rfl⟩
  have HW3 := Lib.hid hw3
  obtain ⟨w4, hw4⟩ : ∃ W, W = (((((w2.alloc (.cells #[.pointer (some ⟨t, 0, none⟩)] 60)).alloc (.cells #[.pointer (some ⟨E, 0, none⟩)] 90)).alloc (.cells #[] 2)).alloc (.cells #[] 3)).alloc (.cells #[.slice (some ⟨w2.heap.size + 1 + 1 + 1, 0, none⟩) 0 0] 92)) := ⟨_, rfl⟩
  have HW4 := Lib.hid hw4
  have b23 := Lib.hid (show Below w2.heap.size w2 w3 from by rw [hw3]; exact ((Below.refl _ _).alloc (Nat.le_refl _) _).alloc (by simp) _)
  have z3 := Lib.hid (show w3.heap.size = V from by rw [hw3, hV]; simp)
  have b34 := Lib.hid (show Below w3.heap.size w3 w4 from by rw [hw4, ← hw3]; exact (((Below.refl _ _).alloc (Nat.le_refl _) _).alloc (by simp) _).alloc (by simp; omega) _)
  have b24 := Lib.hid (b23.out.trans (b34.out.mono b23.out.size))
  have I4 := Lib.hid (show QInv w3 w4 V (V + 1 + 1) (some ⟨V, 0, none⟩) 0 0 [] (some ⟨V + 1, 0, none⟩) 0 0 [] from by
    have z3' := z3.out
    have hw4' : w4 = ((w3.alloc (.cells #[] 2)).alloc (.cells #[] 3)).alloc (.cells #[.slice (some ⟨V + 1, 0, none⟩) 0 0] 92) := by rw [hw4, ← hw3, hV]
    have e5 : (w3.alloc (.cells #[] 2)).heap.size = V + 1 := by simp [z3']
    have e6 : ((w3.alloc (.cells #[] 2)).alloc (.cells #[] 3)).heap.size = V + 1 + 1 := by simp [z3']
    refine ⟨?_, ?_, ?_, ?_, by rw [← z3.out]; exact b34.out, ⟨by omega, by omega⟩⟩
    · rw [hw4']
      have := own_empty w3 V (by omega)
      rw [z3'] at this
      exact (this.alloc _).alloc _
    · rw [hw4']
      have : OwnV ((w3.alloc (.cells #[] 2)).alloc (.cells #[] 3)) V 3 (some ⟨(w3.alloc (.cells #[] 2)).heap.size, 0, none⟩) 0 0 [] := ⟨rfl, World.ownsRow_made _ #[] 0 (by rw [e5]; omega) (by unfold maxLen; omega) rfl⟩
      rw [e5] at this
      exact this.alloc _
    · rw [hw4', ← e6]
      exact Cells.nil.alloc1 _ _ rfl
    · rw [hw4', ← e6]
      exact ⟨_, heap_alloc_new _ _⟩)
  have FB := Lib.hid (((F0.out.below B1.out).below hb2).below b23.out)
  have T3 := Lib.hid (((T1.out.below hb2)).below b23.out)
  have S3 := Lib.hid (hsp.below b23.out)
  have D3 := Lib.hid (((HT0.out.below B1.out).below hb2).below b23.out)
  have M3 := Lib.hid (((HM0.out.below B1.out).below hb2).below b23.out)
  have Q3 := Lib.hid (((((HQ0.out.below B1.out).mono B1.out.size).below hb2).mono hb2.size).below b23.out |>.mono b23.out.size)
  have C78 := Lib.hid (show Cells [(w2.heap.size + 1, 0, .pointer (some ⟨E, 0, none⟩)), (w2.heap.size, 0, .pointer (some ⟨t, 0, none⟩))] w3 from by
    rw [hw3]
    exact (Cells.nil.alloc1 _ _ rfl).alloc1 _ _ (by simp))
  have B3 := Lib.hid (show Below w.heap.size w w3 from Bw0.out.trans ((B1.out.trans ((hb2.trans (b23.out.mono hb2.size)).mono B1.out.size)).mono Bw0.out.size))
  have FB4 := FB.out.below b34.out
  have k0 := FB4.at_ (b := b) (o := 0) (V := .slice A1 n1 c1) (by simp)
  have k00 := k0
  rw [hw4] at k00
  clear hsp hb2 hV hw3 hw4 FB4
  have hEnt1 := enters_of Tryz.func85 (by kernel_rfl) rfl
  go_wp2_with fail
  rw [← HW4.out]
  rw [← HV.out]
  clear k0 k00
  have HKS := Lib.hid (show ∀ k, pivB S k = (List.range n).any (fun j => lowB (S[j]?.getD 0) == k) from fun k => by
    unfold pivB
    rw [Bool.eq_iff_iff, List.any_eq_true, List.any_eq_true]
    constructor
    · rintro ⟨r, hr, h1⟩
      obtain ⟨j, hj, rfl⟩ := List.getElem_of_mem hr
      exact ⟨j, List.mem_range.2 (by omega), by rw [List.getElem?_eq_getElem hj]; exact h1⟩
    · rintro ⟨j, hj, h1⟩
      have hj' : j < S.length := by rw [hln]; exact List.mem_range.1 hj
      exact ⟨S[j], List.getElem_mem _, by rw [List.getElem?_eq_getElem hj'] at h1; exact h1⟩)
  have hmf : ∀ (fn : Fn) (first cap : Array Value) (w : World), (Instr.makeFunc fn first cap).run Tryz.prog w = .ok (.func fn first cap) w := fun _ _ _ _ => rfl
  go_loopw [9, 26] (fun x i wr => ∃ (k l c nr cr : Nat) (A Ar : Option Addr), k ≤ n1 ∧ i = .int .i64 k ∧ x = .slice A l c ∧ Hid (l = (keptL S k).length) ∧ Hid (nr = (keptL S k).length) ∧ Hid (QInv w3 wr V (V + 1 + 1) A l c ((keptL S k).map fun i => ds[i]?.getD 0) Ar nr cr (keptL S k))) (fun _ i _ => n1 - (intOf i).toNat)
  case atStart => exact ⟨0, 0, 0, 0, 0, _, _, by omega, rfl, rfl, Lib.hid rfl, Lib.hid rfl, I4⟩
  case round =>
    clear I4
    obtain ⟨k, l, c9, nr, cr, A9, Ar, hk, rfl, rfl, HLk, HNk, HI⟩ := hrel
    have bel := Lib.hid (show Below w3.heap.size w3 wr from by rw [z3.out]; exact HI.out.bel)
    by_cases hlt : k < n1
    · obtain ⟨ad, d, rfl, _, hd, hc⟩ := (M3.out.below bel.out).ds.at_ hlt
      have HD := Lib.hid (show ds[k]?.getD 0 = d from by rw [hd.out]; rfl)
      obtain ⟨gb, hgb⟩ : ∃ g, g = wr.heap.size := ⟨_, rfl⟩
      have HGB := Lib.hid hgb
      obtain ⟨wa, hwa⟩ : ∃ W, W = wr.alloc (.cells #[.int .i64 (k : Nat)] 3) := ⟨_, rfl⟩
      have HWA := Lib.hid hwa
      have ba := Lib.hid (show Below wr.heap.size wr wa from by rw [hwa]; exact (Below.refl _ _).alloc (Nat.le_refl _) _)
      have Cb := Lib.hid (show Cells [(gb, 0, .int .i64 (k : Nat))] wa from by rw [hwa, hgb]; exact Cells.nil.alloc1 _ _ rfl)
      have Rw := Lib.hid (show RdS wa wa.heap.size A n c (intsN S) from ((Q3.out.below bel.out).below (ba.out.mono bel.out.size)).mono (Nat.le_trans bel.out.size ba.out.size))
      have CD := Lib.hid (show Cond 85 #[.pointer (some ⟨gb, 0, none⟩)] ((intsN S).map (.int .i64)) (fun j => lowB (S[j]?.getD 0) == k) wa from ⟨hEnt1, fun j v hv w' hw' => by
        obtain ⟨r, hr⟩ : ∃ r, S[j]? = some r := by
          cases hs : S[j]? with
          | some r => exact ⟨r, rfl⟩
          | none => rw [intsN, List.map_map, List.getElem?_map, hs] at hv; cases hv
        obtain rfl : v = .int .i64 (r : Nat) := by
          rw [intsN, List.map_map, List.getElem?_map, hr] at hv
          exact (Option.some.inj hv).symm
        have := quot1_any r k gb ⟨HG.out.pos r (List.mem_of_getElem? hr), HS.out r (List.mem_of_getElem? hr)⟩ w' ((Cb.out.below hw').at_ (b := gb) (o := 0) (by simp)) (((D3.out.below bel.out).below ba.out).below hw')
        rw [hr]
        exact this⟩)
      have CC := Lib.hid (containsI_any A n c (intsN S) _ _ _ wa Rw.out (by omega) CD.out)
      rw [← HKS.out] at CC
      have I1 := Lib.hid (HI.out.below ba.out)
      clear hd hwa hgb
      go_wp2_with fail
      rw [← HGB.out, ← HWA.out]
      refine CC.out.mono ?_
      rintro e wc ⟨rfl, hbc⟩
      have I2 := Lib.hid (I1.out.below hbc)
      have Cb2 := Lib.hid (Cb.out.below hbc)
      have bc := Lib.hid (ba.out.trans (hbc.mono ba.out.size))
      clear hbc
      cases hp : pivB S k
      · have HK1 := Lib.hid (keptL_no hp)
        have kg := I2.out.cs.at_ (b := V + 1 + 1) (o := 0) (V := .slice Ar nr cr) (by simp)
        have fg := I2.out.cs.fr (b := V + 1 + 1) (o := 0) (V := .slice Ar nr cr) (by simp)
        have kb := Cb2.out.at_ (b := gb) (o := 0) (V := .int .i64 (k : Nat)) (by simp)
        have ONE1 := Lib.hid (show ∀ x ∈ [Value.int .i64 d], x.oneCell' = true from fun x hx => by rw [List.mem_singleton.1 hx]; rfl)
        have ONE2 := Lib.hid (show ∀ x ∈ [Value.int .i64 (k : Nat)], x.oneCell' = true from fun x hx => by rw [List.mem_singleton.1 hx]; rfl)
        have hll : l ≤ 16 := by have := HLk.out; have := keptL_len S k; omega
        have hnl : nr ≤ 16 := by have := HNk.out; have := keptL_len S k; omega
        have E1s := Lib.hid (show V ≤ wc.heap.size from Nat.le_trans I2.out.hV.2 I2.out.bel.size)
        have hn1' : l + 1 ≤ 4000000000000 := by omega
        have hn2' : nr + 1 ≤ 4000000000000 := by omega
        have bb : (8 : Nat) ≤ 24 := by decide
        have VS := Lib.hid (show ((keptL S k).map fun i => ds[i]?.getD 0).map (Value.int .i64) ++ [Value.int .i64 d] = ((keptL S (k + 1)).map fun i => ds[i]?.getD 0).map (Value.int .i64) from by rw [HK1.out, List.map_append, List.map_append, List.map_singleton, List.map_singleton, HD.out])
        have US := Lib.hid (show (intsN (keptL S k)).map (Value.int .i64) ++ [Value.int .i64 (k : Nat)] = (intsN (keptL S (k + 1))).map (Value.int .i64) from by rw [HK1.out]; simp [intsN])
        have Bd1 := Lib.hid (below_dr (below_al (Below.refl wc.heap.size wc) (Nat.le_refl _) (.cells #[.int .i64 d] 2)))
        have Bd2 := Lib.hid (below_dr (below_al (below_al (Below.refl wc.heap.size wc) (Nat.le_refl _) (.cells #[.int .i64 d] 2)) (Nat.le_refl _) (.cells #[.int .i64 (k : Nat)] 3)))
        have Bd3 := Lib.hid (below_dr (below_al (below_al (Below.refl wc.heap.size wc) (Nat.le_refl _) (.cells #[.int .i64 (k : Nat)] 3)) (Nat.le_refl _) (.cells #[.int .i64 d] 2)))
        have RD1 := Lib.hid (rdv_cl (cl_dr (cl_new wc (.int .i64 d) 2)))
        have RD2 := Lib.hid (rdv_cl (cl_dr (cl_al (cl_new wc (.int .i64 d) 2) (.cells #[.int .i64 (k : Nat)] 3))))
        have RD3 := Lib.hid (rdv_cl (cl_dr (cl_new2 wc (.cells #[.int .i64 (k : Nat)] 3) (.int .i64 d) 2)))
        have LC2 := Lib.hid (cl_dr (cl_new2 wc (.cells #[.int .i64 d] 2) (.int .i64 (k : Nat)) 3))
        have LC3 := Lib.hid (cl_dr (cl_al (cl_new wc (.int .i64 (k : Nat)) 3) (.cells #[.int .i64 d] 2)))
        have KC := Lib.hid (show ∀ W, Below wc.heap.size wc W → W.cell? ⟨V + 1 + 1, 0, none⟩ = some (.slice Ar nr cr) ∧ W.cell? ⟨gb, 0, none⟩ = some (.int .i64 (k : Nat)) from fun W hb => ⟨(I2.out.cs.below hb).at_ (by simp), (Cb2.out.below hb).at_ (by simp)⟩)
        have OWG := Lib.hid (show ∀ H, gb ≤ H → Value.ownBlock (.slice A9 l c9) ≠ some H from fun H hH e => by have := (HI.out.o1.own.lt H e).2; have := HGB.out; omega)
        have hgc := Lib.hid (show gb < wc.heap.size from Cb2.out.lt (gb, 0, .int .i64 (k : Nat)) (by simp))
        have ka1 := KC.out _ Bd1.out
        have ka2 := KC.out _ Bd2.out
        have ka3 := KC.out _ Bd3.out
        have ka4 := KC.out _ (below_dr (below_al (Below.refl wc.heap.size wc) (Nat.le_refl _) (.cells #[.int .i64 (k : Nat)] 3)))
        obtain ⟨ka10, ka11⟩ := ka1
        obtain ⟨ka20, ka21⟩ := ka2
        obtain ⟨ka30, ka31⟩ := ka3
        obtain ⟨ka40, ka41⟩ := ka4
        clear hp
        go_upto_region 7 with fail
        go_region_law
          (first
            | (first
                | (refine step_appV eltI (by rfl) (.tmp 35) (.tmp 37) (by rfl) (by rfl) (by rfl) (I2.out.o1.v.below Bd1.out) RD1.out ONE1.out hn1' bb (Nat.le_trans E1s.out Bd1.out.size) ?_
                   intro A' c' w5 h1 hg1 hr1
                   rw [VS.out] at h1
                   have N5 := Lib.hid ((I2.out.below Bd1.out).app1 h1 hg1)
                   have C5 := Lib.hid ((Cb2.out.below Bd1.out).grown hg1 (by intro x hx e; rw [List.mem_singleton] at hx; subst hx; exact OWG.out gb (Nat.le_refl _) e.symm))
                   have LN5 := Lib.hid (cl_new w5 (.int .i64 (k : Nat)) 3)
                   have z5 := Lib.hid (Nat.le_trans Bd1.out.size hg1.size)
                   clear h1 hg1 hr1)
                | (refine step_appV eltI (by rfl) (.tmp 35) (.tmp 37) (by rfl) (by rfl) (by rfl) (I2.out.o1.v.below Bd2.out) RD2.out ONE1.out hn1' bb (Nat.le_trans E1s.out Bd2.out.size) ?_
                   intro A' c' w5 h1 hg1 hr1
                   rw [VS.out] at h1
                   have N5 := Lib.hid ((I2.out.below Bd2.out).app1 h1 hg1)
                   have C5 := Lib.hid ((Cb2.out.below Bd2.out).grown hg1 (by intro x hx e; rw [List.mem_singleton] at hx; subst hx; exact OWG.out gb (Nat.le_refl _) e.symm))
                   have LO5 := Lib.hid (cl_grown hg1 LC2.out (OWG.out _ (by have := hgc.out; omega)))
                   have z5 := Lib.hid (Nat.le_trans Bd2.out.size hg1.size)
                   clear h1 hg1 hr1)
                | (refine step_appV eltI (by rfl) (.tmp 35) (.tmp 37) (by rfl) (by rfl) (by rfl) (I2.out.o1.v.below Bd3.out) RD3.out ONE1.out hn1' bb (Nat.le_trans E1s.out Bd3.out.size) ?_
                   intro A' c' w5 h1 hg1 hr1
                   rw [VS.out] at h1
                   have N5 := Lib.hid ((I2.out.below Bd3.out).app1 h1 hg1)
                   have C5 := Lib.hid ((Cb2.out.below Bd3.out).grown hg1 (by intro x hx e; rw [List.mem_singleton] at hx; subst hx; exact OWG.out gb (Nat.le_refl _) e.symm))
                   have LO5 := Lib.hid (cl_grown hg1 LC3.out (OWG.out _ (by have := hgc.out; omega)))
                   have z5 := Lib.hid (Nat.le_trans Bd3.out.size hg1.size)
                   clear h1 hg1 hr1)
               have k10 := N5.out.cs.at_ (b := V + 1 + 1) (o := 0) (V := .slice Ar nr cr) (by simp)
               have k11 := C5.out.at_ (b := gb) (o := 0) (V := .int .i64 (k : Nat)) (by simp)
               have N6 := Lib.hid (N5.out.below (below_al (Below.refl w5.heap.size w5) (Nat.le_refl _) (.cells #[.int .i64 (k : Nat)] 3)))
               have k20 := N6.out.cs.at_ (b := V + 1 + 1) (o := 0) (V := .slice Ar nr cr) (by simp)
               have s5 := Lib.hid (Nat.le_trans E1s.out z5.out)
               have s6 := Lib.hid (Nat.le_trans s5.out (below_al (Below.refl w5.heap.size w5) (Nat.le_refl _) (.cells #[.int .i64 (k : Nat)] 3)).size))
            | (first
                | (refine step_appV eltInt (by rfl) (.tmp 39) (.tmp 41) (by rfl) (by rfl) (by rfl) N5.out.o2 (rdv_cl LO5.out) ONE2.out hn2' bb s5.out ?_
                   intro A2' c2' w7 h1 hg1 hr1
                   rw [US.out] at h1
                   have M7 := Lib.hid (N5.out.app2 h1 hg1)
                   clear h1 hg1 hr1)
                | (refine step_appV eltInt (by rfl) (.tmp 39) (.tmp 41) (by rfl) (by rfl) (by rfl) N6.out.o2 (rdv_cl LN5.out) ONE2.out hn2' bb s6.out ?_
                   intro A2' c2' w7 h1 hg1 hr1
                   rw [US.out] at h1
                   have M7 := Lib.hid (N6.out.app2 h1 hg1)
                   clear h1 hg1 hr1)
               have k30 := M7.out.1.at_ (b := V + 1 + 1) (o := 0) (V := .slice Ar nr cr) (by simp)
               have f30 := M7.out.1.fr (b := V + 1 + 1) (o := 0) (V := .slice Ar nr cr) (by simp)))
        all_goals
          have FIN := Lib.hid M7.out.2
          clear kg fg kb ka10 ka11 ka20 ka21 ka30 ka31 ka40 ka41 k10 k11 k20 k30 f30
          go_wp2_with fail
          go_roundw
          case rel => exact ⟨k + 1, l + 1, _, nr + 1, _, _, _, by omega, by go_num, rfl, Lib.hid (by rw [HK1.out, List.length_append, ← HLk.out]; rfl), Lib.hid (by rw [HK1.out, List.length_append, ← HNk.out]; rfl), FIN⟩
          case measure => simp [intOf]; omega
      · have HK1 := Lib.hid (keptL_yes hp)
        have I3 := Lib.hid (show QInv w3 wc V (V + 1 + 1) A9 l c9 ((keptL S (k + 1)).map fun i => ds[i]?.getD 0) Ar nr cr (keptL S (k + 1)) from by rw [HK1.out]; exact I2.out)
        clear hp
        go_wp2_with fail
        go_roundw
        case rel => exact ⟨k + 1, l, c9, nr, cr, A9, Ar, by omega, by go_num, rfl, Lib.hid (by rw [HK1.out]; exact HLk.out), Lib.hid (by rw [HK1.out]; exact HNk.out), I3⟩
        case measure => simp [intOf]; omega
    · have hkn : k = n1 := by omega
      have HI0 := Lib.hid (show QInv w3 wr V (V + 1 + 1) A9 l c9 ((keptL S n1).map fun i => ds[i]?.getD 0) Ar nr cr (keptL S n1) from by rw [← hkn]; exact HI.out)
      have HLk0 := Lib.hid (show l = (keptL S n1).length from by rw [← hkn]; exact HLk.out)
      have HNk0 := Lib.hid (show nr = (keptL S n1).length from by rw [← hkn]; exact HNk.out)
      have hlk : l ≤ 16 := by have := HLk0.out; have := keptL_len S n1; omega
      have hnl : nr = l := by rw [HLk0.out, HNk0.out]
      have hnk : ¬ ((k : Int) < (n1 : Int)) := by omega
      subst hnl
      obtain ⟨gd, hgd⟩ : ∃ g, g = wr.heap.size := ⟨_, rfl⟩
      have HGD := Lib.hid hgd
      obtain ⟨wd, hwd⟩ : ∃ W, W = (wr.alloc (.cells #[.func (.func 86) #[] #[.pointer (some ⟨w2.heap.size + 1, 0, none⟩), .pointer (some ⟨V + 1 + 1, 0, none⟩)]] 86)) := ⟨_, rfl⟩
      have HWD := Lib.hid hwd
      have bd := Lib.hid (show Below wr.heap.size wr wd from by rw [hwd]; exact (Below.refl _ _).alloc (Nat.le_refl _) _)
      have b3d := Lib.hid (bel.out.trans (bd.out.mono bel.out.size))
      have Cd := Lib.hid (show Cells [(gd, 0, .func (.func 86) #[] #[.pointer (some ⟨w2.heap.size + 1, 0, none⟩), .pointer (some ⟨V + 1 + 1, 0, none⟩)])] wd from by rw [hwd, hgd]; exact Cells.nil.alloc1 _ _ rfl)
      have QR := Lib.hid (show QRd wd t n1 E w2.heap.size (w2.heap.size + 1) (V + 1 + 1) nr cr (.slice A1 n1 c1) Ar (rowF (act.map toT)) G S (keptL S n1) from by
        have hI := HI0.out.below bd.out
        have hc78 := C78.out.below b3d.out
        exact ⟨⟨hc78.at_ (b := w2.heap.size) (o := 0) (V := .pointer (some ⟨t, 0, none⟩)) (by simp), hc78.lt (w2.heap.size, 0, .pointer (some ⟨t, 0, none⟩)) (by simp)⟩, ⟨hc78.at_ (b := w2.heap.size + 1) (o := 0) (V := .pointer (some ⟨E, 0, none⟩)) (by simp), hc78.lt (w2.heap.size + 1, 0, .pointer (some ⟨E, 0, none⟩)) (by simp)⟩, ⟨hI.cs.at_ (b := V + 1 + 1) (o := 0) (V := .slice Ar nr cr) (by simp), hI.cs.lt (V + 1 + 1, 0, .slice Ar nr cr) (by simp)⟩, hI.o2.rd.ints, T3.out.below b3d.out, S3.out.below b3d.out, D3.out.below b3d.out⟩)
      have hEnt2 := enters_of Tryz.func86 (by kernel_rfl) rfl
      have hEnt3 := enters_of Tryz.func89 (by kernel_rfl) rfl
      have hEntV := enters_of Tryz.func90 (by kernel_rfl) rfl
      obtain ⟨sq, hsq⟩ : ∃ sq : Nat → Nat → Nat, sq = fun j b => toldF S n1 (f j (2 ^ ((keptL S n1)[b]?.getD 0))) := ⟨_, rfl⟩
      have CM := Lib.hid (moduleOf_any A9 nr c9 ((keptL S n1).map fun i => ds[i]?.getD 0) 89 (.pointer (some ⟨gd, 0, none⟩)) (.pointer (some ⟨w2.heap.size, 0, none⟩)) (.pointer (some ⟨V + 1 + 1, 0, none⟩)) sq wd ((HI0.out.below bd.out).o1.rd) hlk hEnt3 (fun j b w' h1 h2 h3 hb => by
        have h4 := quot3_any t n1 E w2.heap.size (w2.heap.size + 1) (V + 1 + 1) gd nr cr j b (.slice A1 n1 c1) Ar (rowF (act.map toT)) G S (keptL S n1) w' (QR.out.below hb) QOK.out ((Cd.out.below hb).at_ (by simp)) h2 h3
        have h5 : b < (keptL S n1).length := by rw [← HLk0.out]; exact h3
        have h6 : (keptL S n1)[b]?.getD 0 < n1 := by rw [List.getElem?_eq_getElem h5]; exact (keptL_lt (List.getElem_mem h5)).1
        rw [← HF.out j _ h6] at h4
        rw [hsq]
        exact h4) (fun j b => by rw [hsq]; exact toldF_lt hn16 _))
      have HSQ := Lib.hid hsq
      clear HI HLk HNk hkn hgd hwd hsq
      go_wp2_with fail
      rw [← HGD.out, ← HWD.out]
      refine CM.out.mono ?_
      rintro e w5 ⟨A5, c5, A6, c6, rfl, ho5, hb5⟩
      have O5 := Lib.hid ho5
      have B5 := Lib.hid hb5
      obtain ⟨gq, hgq⟩ : ∃ g, g = w5.heap.size := ⟨_, rfl⟩
      have HGQ := Lib.hid hgq
      obtain ⟨m5, hm5⟩ : ∃ m, m = ((keptL S n1).map fun i => ds[i]?.getD 0).length := ⟨_, rfl⟩
      have HM5 := Lib.hid hm5
      obtain ⟨m6, hm6⟩ : ∃ m, m = (actM sq nr 20).length := ⟨_, rfl⟩
      have HM6 := Lib.hid hm6
      rw [← hm5, ← hm6] at O5
      obtain ⟨w6, hw6⟩ : ∃ W, W = w5.alloc (.cells #[.slice A5 m5 c5, .slice A6 m6 c6] 27) := ⟨_, rfl⟩
      have HW6 := Lib.hid hw6
      have B6 := Lib.hid (show Below w5.heap.size w5 w6 from by rw [hw6]; exact (Below.refl _ _).alloc (Nat.le_refl _) _)
      have C6 := Lib.hid (show Cells [(gq, 0, .slice A5 m5 c5), (gq, 1, .slice A6 m6 c6)] w6 from by rw [hw6, hgq]; exact Cells.nil.alloc2 _ _ _ rfl)
      have HS7 := Lib.hid (StS.start (Below.refl w6.heap.size w6) (Nat.le_refl _))
      have b36 := Lib.hid (show Below w3.heap.size w3 w6 from b3d.out.trans ((hb5.trans (B6.out.mono hb5.size)).mono b3d.out.size))
      have Fb := Lib.hid (FB.out.below b36.out)
      have kf0 := (Fb.out.below ((Below.refl _ _).alloc (Nat.le_refl _) (.cells #[] 2))).at_ (b := b) (o := 0) (V := .slice A1 n1 c1) (by simp)
      have kf1 := kf0
      rw [hw6] at kf1
      rw [← hm5, ← hm6]
      clear ho5 hb5 hgq hm5 hm6 hw6
      go_wp2_with fail
      rw [← HGQ.out, ← HW6.out]
      have HZ6 := Lib.hid (show w6.heap.size = gq + 1 from by rw [HW6.out, HGQ.out]; simp)
      have HS8 := Lib.hid (show StS w6 w6.heap.size (w6.alloc (.cells #[] 2)) (some ⟨gq + 1, 0, none⟩) 0 0 [] from by rw [← HZ6.out]; exact HS7.out)
      clear kf0 kf1 HS7
      go_loopw [15, 52] (fun x i wr => ∃ (k c : Nat) (A : Option Addr), k ≤ n1 ∧ i = .int .i64 k ∧ x = .slice A k c ∧ Hid (StS w6 w6.heap.size wr A k c (intsN ((List.range k).map fun i => toldF S n1 (2 ^ i))))) (fun _ i _ => n1 - (intOf i).toNat)
      case atStart => exact ⟨0, 0, _, by omega, rfl, rfl, by simpa [intsN] using HS8⟩
      case round =>
        clear HS8
        obtain ⟨k, c7, A7, hk, rfl, rfl, HS⟩ := hrel
        have QR7 := Lib.hid (((QR.out.below B5.out).below B6.out).below HS.out.bel)
        by_cases hlt : k < n1
        · have hk16 : k < 16 := by omega
          obtain ⟨p, hp⟩ : ∃ p : Nat, p = 2 ^ k := ⟨_, rfl⟩
          have hpw : p < 65536 := by rw [hp]; have := Nat.pow_lt_pow_right (a := 2) (by decide) hk16; simpa using this
          have hw2 : wrap64 ((2 : Int) ^ k) = (p : Int) := by rw [hp]; exact wrap_two (by omega)
          have hpi : (2 : Int) ^ k = (p : Int) := by rw [hp]; push_cast; rfl
          have hwp : IntKind.i64.wrap (p : Int) = (p : Int) := by rw [IntKind.wrap_i64]; omega
          have hk0 : ¬ ((k : Int) < 0) := by omega
          obtain ⟨y, hy⟩ : ∃ y, y = toldF S n1 p := ⟨_, rfl⟩
          have CT := Lib.hid (show ∀ (z : Int) (W : World), z = (p : Int) → Below wr.heap.size wr W → Calls Tryz.prog 86 (#[.int .i64 z] ++ #[.pointer (some ⟨w2.heap.size + 1, 0, none⟩), .pointer (some ⟨V + 1 + 1, 0, none⟩)]) W (RetNq y W) from fun z W hz hb => by
            subst hz
            rw [hy]
            exact (QR7.out.below hb).told QOK.out p hpw)
          have HY := Lib.hid (show (List.range (k + 1)).map (fun i => toldF S n1 (2 ^ i)) = (List.range k).map (fun i => toldF S n1 (2 ^ i)) ++ [y] from by rw [List.range_succ, List.map_append, hy, hp]; rfl)
          have kd0 := ((Cd.out.below (B5.out.trans (B6.out.mono B5.out.size))).below HS.out.bel).at_ (b := gd) (o := 0) (V := .func (.func 86) #[] #[.pointer (some ⟨w2.heap.size + 1, 0, none⟩), .pointer (some ⟨V + 1 + 1, 0, none⟩)]) (by simp)
          have HB1 := Lib.hid (Below.refl wr.heap.size wr)
          have HB2 := Lib.hid (below_dr (Below.refl wr.heap.size wr))
          clear hp hy
          go_upto_region 15 with fail
          go_region_law
            (first
              | (refine step_dyn 86 (.tmp 58) (.tmp 56) #[2] rfl rfl hEnt2 rfl rfl (CT.out _ _ (by first | rfl | exact hwp | exact hw2 | exact hpi) (by first | exact HB1.out | exact HB2.out)) ?_
                 rintro e w8 ⟨rfl, q8, hq8⟩
                 refine ⟨_, rfl, ?_⟩
                 have HS9 := Lib.hid (show StS w6 w6.heap.size w8 A7 k c7 (intsN ((List.range k).map fun i => toldF S n1 (2 ^ i))) from HS.out.call (by
                   rw [hq8]
                   first
                     | exact below_drewN (Below.refl _ _) _
                     | exact below_drewN (below_dr (Below.refl _ _)) _))
                 clear hq8)
              | (refine step_pushI rfl (.tmp 55) (.tmp 60) rfl rfl rfl rfl HS9.out (by omega) ?_
                 intro A9 c9 w9 hs9
                 have HS10 := Lib.hid (show StS w6 w6.heap.size w9 A9 (k + 1) c9 (intsN ((List.range (k + 1)).map fun i => toldF S n1 (2 ^ i))) from by
                   rw [HY.out]
                   simpa [intsN] using hs9)
                 clear hs9))
          all_goals
            clear kd0
            go_wp2_with fail
            go_roundw
            case rel => exact ⟨k + 1, _, _, by omega, by go_num, rfl, HS10⟩
            case measure => simp [intOf]; omega
        · have hkn1 : k = n1 := by omega
          obtain ⟨imgs, himgs⟩ : ∃ imgs : List (List Int), imgs = (List.range n1).map fun i => vecF (toldF S n1 (2 ^ i)) (keptL S n1).length := ⟨_, rfl⟩
          have hil : imgs.length = n1 := by rw [himgs]; simp
          have hm5l : m5 = (keptL S n1).length := by rw [HM5.out]; simp
          have HSo := Lib.hid (show StS w6 w6.heap.size wr A7 n1 c7 (intsN ((List.range n1).map fun i => toldF S n1 (2 ^ i))) from by rw [← hkn1] at HS ⊢; exact HS.out)
          have CV := Lib.hid (show ∀ W, Below wr.heap.size wr W → Calls Tryz.prog 90 #[.agg #[.slice A5 m5 c5, .slice A6 m6 c6], .slice A7 n1 c7] W (RetL n1 imgs W) from fun W hb => by
            have h1 := vectorsOf_any A5 A6 A7 m5 c5 m6 c6 n1 c7 ((List.range n1).map fun i => toldF S n1 (2 ^ i)) W (HSo.out.call hb).own.rd (fun m hm => by
              obtain ⟨i, _, rfl⟩ := List.mem_map.1 hm
              exact toldF_lt hn16 _) (by rw [hm5l, ← HLk0.out]; exact hlk) (by omega)
            rw [List.map_map] at h1
            rw [himgs, ← hm5l]
            exact h1)
          have C7 := Lib.hid (C6.out.below HS.out.bel)
          have FR := Lib.hid (show Cells [(b + 1, 0, .slice none 0 0), (b + 1, 1, .slice none 0 0), (b, 0, .slice A1 n1 c1), (b, 1, .slice A2 n2 c2)] wr from (FB.out.below b36.out).below HS.out.bel)
          have zb := Lib.hid (show b + 1 + 1 ≤ wd.heap.size ∧ wd.heap.size ≤ w5.heap.size ∧ w5.heap.size ≤ w6.heap.size ∧ w6.heap.size ≤ wr.heap.size from ⟨by have := HZ0.out; have := B1.out.size; have := B2.out.size; have := b23.out.size; have := b3d.out.size; omega, B5.out.size, B6.out.size, HS.out.bel.size⟩)
          have B3r := Lib.hid (show Below w.heap.size w wr from B3.out.trans ((b36.out.trans (HS.out.bel.mono b36.out.size)).mono B3.out.size))
          have HFIN := Lib.hid (show ∀ A8 c8 w8, OwnL w8 wr.heap.size w8.heap.size A8 n1 c8 imgs → Below wr.heap.size wr w8 →
              (w8.cell? ⟨b + 1, 0, none⟩ = some (.slice none 0 0) ∧ w8.cell? ⟨b + 1, 1, none⟩ = some (.slice none 0 0) ∧ w8.frozen? ⟨b + 1, 0, none⟩ = false ∧ w8.frozen? ⟨b + 1, 1, none⟩ = false ∧ w8.cell? ⟨gq, 0, none⟩ = some (.slice A5 m5 c5) ∧ w8.cell? ⟨gq, 1, none⟩ = some (.slice A6 m6 c6)) ∧
              X (.returned (.tuple #[.agg #[.slice A5 m5 c5, .slice A6 m6 c6], .slice A8 n1 c8, .int .i64 0])) ((w8.setCell ⟨b + 1, 0, none⟩ (.slice A5 m5 c5)).setCell ⟨b + 1, 1, none⟩ (.slice A6 m6 c6)) from fun A8 c8 w8 ho8 hb8 => by
            have hF8 := FR.out.below hb8
            have hC8 := C7.out.below hb8
            refine ⟨⟨hF8.at_ (by simp), hF8.at_ (by simp), hF8.fr (V := .slice none 0 0) (by simp), hF8.fr (V := .slice none 0 0) (by simp), hC8.at_ (by simp), hC8.at_ (by simp)⟩, ?_⟩
            rw [HX.out]
            obtain ⟨K, hK, hK5, o1, o1l, o2⟩ := O5.out.K
            obtain ⟨z1, z2, z3', z4⟩ := zb.out
            have hbw : w.heap.size = b := Hbe.out.symm
            have md : ∀ v1 v2, Mid (b + 1) (b + 1 + 1) w8 ((w8.setCell ⟨b + 1, 0, none⟩ v1).setCell ⟨b + 1, 1, none⟩ v2) := fun v1 v2 => (mid_setCell (p := ⟨b + 1, 0, none⟩) v1 ⟨Nat.le_refl _, Nat.lt_succ_self _⟩).trans (mid_setCell (p := ⟨b + 1, 1, none⟩) v2 ⟨Nat.le_refl _, Nat.lt_succ_self _⟩)
            have b58 : Below w5.heap.size w5 w8 := B6.out.trans ((HS.out.bel.trans (hb8.mono z4)).mono z3')
            have e1 : ((keptL S n1).map fun i => ds[i]?.getD 0).length = m5 := HM5.out.symm
            have e3 : nr = (keptL S n1).length := HNk0.out
            rw [← himgs, ← e3, ← HSQ.out]
            have e2 : (actM sq nr 20).length = m6 := HM6.out.symm
            refine ⟨A5, c5, A6, c6, A8, c8, K, wr.heap.size, by rw [e1, e2, hil], by omega, ?_, ?_, ?_, ?_, ?_, ?_⟩
            · omega
            · rw [e1]; exact ((o1.below b58).mid (md _ _) (by omega)).mono (by omega)
            · rw [e1]; exact o1l
            · rw [e2]; exact ⟨((o2.below b58).mid (md _ _) (by omega)).mono (Nat.le_refl _) (by omega), fun g hg => by have := o2.lt g hg; omega⟩
            · rw [hil]; exact (ho8.mid (md _ _) (by omega)).mono (Nat.le_refl _) (by simp [World.setCell])
            · exact ((B3r.out.trans (hb8.mono B3r.out.size)).setCell (p := ⟨b + 1, 0, none⟩) (by simp only; omega) _).setCell (p := ⟨b + 1, 1, none⟩) (by simp only; omega) _)
          have kq0 := C7.out.at_ (b := gq) (o := 0) (V := .slice A5 m5 c5) (by simp)
          have kq1 := C7.out.at_ (b := gq) (o := 1) (V := .slice A6 m6 c6) (by simp)
          have HB1 := Lib.hid (Below.refl wr.heap.size wr)
          have HB2 := Lib.hid (below_dr (Below.refl wr.heap.size wr))
          clear himgs hil hm5l HS
          subst hkn1
          go_upto_region 17 with fail
          go_region_law
            (first
              | (refine step_fn2 90 (.tmp 64) (.tmp 65) #[27, 22] rfl rfl hEntV rfl rfl (CV.out _ (by first | exact HB1.out | exact HB2.out)) ?_
                 rintro e w8 ⟨A8, c8, rfl, ho8, hb8⟩
                 refine ⟨_, rfl, ?_⟩
                 have FN := Lib.hid (HFIN.out A8 c8 w8 (ho8.mono (by first | exact Nat.le_refl _ | simp [World.drew]) (Nat.le_refl _)) (by first | exact hb8 | exact (below_dr (Below.refl _ _)).trans hb8))
                 obtain ⟨kr0, kr1, kf0, kf1, kg0, kg1⟩ := FN.out.1
                 clear ho8 hb8))
          all_goals
            have FX := Lib.hid FN.out.2
            have hres := cells_end kr0 kr1 (.slice A5 m5 c5) (.slice A6 m6 c6)
            clear kq0 kq1 kr0 kr1 kf0 kf1 kg0 kg1
            go_wp2_with fail
            refine bodyPost_ret (v := .tuple #[.agg #[.slice A5 m5 c5, .slice A6 m6 c6], .slice A8 k c8, .int .i64 0]) (by simp [results, Tryz.results44, go_sem, hres.1, hres.2]) rfl ?_
            exact FX.out
--W
end Go.Proofs.YtejojliljplcdaaGreatDoor
