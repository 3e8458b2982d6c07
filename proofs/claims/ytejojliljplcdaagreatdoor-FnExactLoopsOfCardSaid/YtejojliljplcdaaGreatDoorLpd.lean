/- isLooped, doubles. -/
import Derived.Test.YtejojliljplcdaaGreatDoorUnsP
import Derived.Lib.QuietBelow
import Derived.Test.YtejojliljplcdaaGreatDoorPutP
namespace Go.Proofs.YtejojliljplcdaaGreatDoor
open Go.RowKit
set_option linter.unusedVariables false

theorem tabB_mod {ds : List Int} {act : List (List Int)} (h : modB ds act = true) : tabB ds act = true := by
  unfold modB at h
  exact (Bool.and_eq_true_iff.1 h).1
theorem stem_mod {ds : List Int} {act : List (List Int)} (h : modB ds act = true) : ∀ d ∈ ds, 0 ≤ d ∧ d ≤ 20 := stem_mem (tab_sort (tabB_mod h)).2

def posB (ds : List Int) : Bool := ds.all fun d => decide (0 < d)
def zeroB (ds : List Int) : Bool := ds.all fun d => d == 0
/-- what doubling makes of a basis element -/
def dbF (ds : List Int) (T : List Tri) (v : Nat) : Nat := spA T (ds[v]?.getD 0).toNat (2 ^ v)
def dbTo (ds : List Int) (T : List Tri) (k : Nat) : List Int := (List.range k).map fun v => ((dbF ds T v : Nat) : Int)
def dbL (ds : List Int) (T : List Tri) : List Int := dbTo ds T ds.length
theorem dbTo_snoc (ds : List Int) (T : List Tri) (k : Nat) : dbTo ds T (k + 1) = dbTo ds T k ++ [((dbF ds T k : Nat) : Int)] := by
  unfold dbTo; rw [List.range_succ, List.map_append]; rfl
/-- no element of degree 0, and no double, among the first k -/
def suT (ds : List Int) (T : List Tri) (k : Nat) : Prop := ∀ v, v < k → ds[v]?.getD 0 ≠ 0 ∧ dbF ds T v = 0
theorem suT.start {ds : List Int} {T : List Tri} : suT ds T 0 := fun v hv => by omega
theorem suT.step {ds : List Int} {T : List Tri} {k : Nat} (h : suT ds T k) (h0 : ds[k]?.getD 0 ≠ 0) (h1 : dbF ds T k = 0) : suT ds T (k + 1) := fun v hv => by
  by_cases e : v = k
  · subst e; exact ⟨h0, h1⟩
  · exact h v (by omega)
theorem suT_iff {ds : List Int} {T : List Tri} (hd : ∀ d ∈ ds, 0 ≤ d ∧ d ≤ 20) : suT ds T ds.length ↔ (posB ds && zeroB (dbL ds T)) = true := by
  rw [Bool.and_eq_true]
  unfold posB zeroB dbL dbTo
  rw [List.all_eq_true, List.all_eq_true]
  constructor
  · intro h
    refine ⟨fun d hm => ?_, fun x hx => ?_⟩
    · obtain ⟨v, hv⟩ := List.getElem?_of_mem hm
      have h1 := (h v (List.getElem?_eq_some_iff.1 hv).1).1
      rw [hv] at h1
      have h2 := hd d hm
      simp at h1 ⊢
      omega
    · obtain ⟨v, hv, rfl⟩ := List.mem_map.1 hx
      have h1 := (h v (List.mem_range.1 hv)).2
      rw [h1]; rfl
  · intro ⟨h1, h2⟩ v hv
    have hm : ds[v] ∈ ds := List.getElem_mem hv
    have h3 := h1 _ hm
    have h4 := h2 _ (List.mem_map.2 ⟨v, List.mem_range.2 hv, rfl⟩)
    rw [List.getElem?_eq_getElem hv]
    refine ⟨?_, by simpa using h4⟩
    simp at h3 ⊢
    omega
/-- the answer of SuspendedOnce -/
noncomputable def suB (ds : List Int) (act : List (List Int)) : Bool := modB ds act && ((ufL ds (act.map toT)).isEmpty && posB ds && zeroB (dbL ds (act.map toT)))
theorem suB_no {ds : List Int} {act : List (List Int)} (h : modB ds act = false) : suB ds act = false := by unfold suB; rw [h]; rfl
theorem suB_uf {ds : List Int} {act : List (List Int)} {xs : List Int} (h : modB ds act = true) (hx : ufL ds (act.map toT) = xs) (he : xs.isEmpty = false) : suB ds act = false := by unfold suB; rw [h, hx, he]; rfl
theorem suB_pz {ds : List Int} {act : List (List Int)} {xs : List Int} (h : modB ds act = true) (hx : ufL ds (act.map toT) = xs) (he : xs.isEmpty = true) : suB ds act = (posB ds && zeroB (dbL ds (act.map toT))) := by unfold suB; rw [h, hx, he]; rfl
theorem suB_yes {ds : List Int} {act : List (List Int)} {xs : List Int} (h : modB ds act = true) (hx : ufL ds (act.map toT) = xs) (he : xs.isEmpty = true) (hs : suT ds (act.map toT) ds.length) : suB ds act = true := by
  rw [suB_pz h hx he]; exact (suT_iff (stem_mod h)).1 hs
theorem suB_bad {ds : List Int} {act : List (List Int)} {xs : List Int} (h : modB ds act = true) (hx : ufL ds (act.map toT) = xs) (he : xs.isEmpty = true) (hs : ¬ suT ds (act.map toT) ds.length) : suB ds act = false := by
  rw [suB_pz h hx he, ← Bool.not_eq_true]; exact fun k => hs ((suT_iff (stem_mod h)).2 k)

theorem loop1_any (n : Int) (w : World) : Calls Tryz.prog 93 #[.int .i64 n] w (RetP (decide (0 < n)) w) := by
  go_enter Tryz.func93, Tryz.ntmps93
  go_wp2_with fail
  go_ret
  exact RetP.mk rfl
theorem posAll_any (A : Option Addr) (n c : Nat) (xs : List Int) (w : World) (h : RdS w w.heap.size A n c xs) (hn : n ≤ 2000000) :
    Calls Tryz.prog 56 #[.slice A n c, .func (.func 93) #[] #[]] w (RetBb (posB xs) w) := by
  have hl := h.len
  refine (allI_any A n c xs _ _ _ w h hn (cond_of (fun x => decide (0 < x)) (enters_of Tryz.func93 (by kernel_rfl) rfl) loop1_any xs w)).mono ?_
  intro e w' hw
  rw [all_range xs (fun x => decide (0 < x)) _ n hl (fun j hj => by simp [List.getElem?_eq_getElem hj])] at hw
  exact hw
set_option maxRecDepth 100000 in
set_option maxHeartbeats 1000000 in
theorem isLooped_any (A1 A2 : Option Addr) (n1 c1 n2 c2 : Nat) (ds : List Int) (act : List (List Int)) (w : World) (h : RdMod w A1 n1 c1 ds A2 n2 c2 act) (ht : TabF ds act) (hn2 : n2 ≤ 2000000) :
    Calls Tryz.prog 50 #[.agg #[.slice A1 n1 c1, .slice A2 n2 c2]] w (RetBb ((ufL ds (act.map toT)).isEmpty && posB ds) w) := by
  obtain ⟨w0, b, hw0, hbe, hb0, hz0', hF⟩ := start1 w (.slice A1 n1 c1) (.slice A2 n2 c2) 27
  have hn : n1 ≤ 16 := by rw [← h.ds.len]; exact ht.len
  have H := Lib.hid (h.below hb0)
  have Hw := Lib.hid hw0
  have Hbe := Lib.hid hbe
  have Hb0 := Lib.hid hb0
  have k0 := hF.at_ (b := b) (o := 0) (V := .slice A1 n1 c1) (by simp)
  have k1 := hF.at_ (b := b) (o := 1) (V := .slice A2 n2 c2) (by simp)
  have F0 := Lib.hid hF
  have C1 := Lib.hid (unsFault_any A1 A2 n1 c1 n2 c2 ds act w0 H.out ht hn2)
  obtain ⟨xs, hx⟩ : ∃ xs, xs = ufL ds (act.map toT) := ⟨_, rfl⟩
  rw [← hx] at C1 ⊢
  obtain ⟨p, hp⟩ : ∃ p, p = posB ds := ⟨_, rfl⟩
  have C2 := fun (W : World) (hB : Below w0.heap.size w0 W) => Lib.hid (posAll_any A1 n1 c1 ds W (H.out.below hB).ds (by omega))
  rw [← hp] at C2 ⊢
  obtain ⟨R, hR⟩ : ∃ R, R = RetBb (xs.isEmpty && p) w := ⟨_, rfl⟩
  have HR := Lib.hid hR
  rw [← hR]
  clear h hw0 hbe hb0 hF hR ht hx hp
  have hnil := fun (a : Option Addr) (n c n' c' : Nat) (W : World) => nilS a n c n' c' W
  go_enter Tryz.func50, Tryz.ntmps50
  go_wp2_with fail
  rw [← Hw.out, ← Hbe.out]
  go_wp2_with fail
  refine C1.out.mono ?_
  rintro e w1 ⟨A, c, rfl, ho, hA, hb1⟩
  have X1 := Lib.hid hb1
  have k2 := (F0.out.below X1.out).at_ (b := b) (o := 0) (V := .slice A1 n1 c1) (by simp)
  clear hb1 ho k0 k1 C1
  by_cases hxe : xs = []
  · subst hxe
    obtain rfl : A = none := by cases A <;> simp at hA ⊢
    go_wp2_with fail
    refine (C2 w1 X1.out).out.mono ?_
    rintro e w2 ⟨rfl, hb2⟩
    have X2 := Lib.hid (Hb0.out.trans ((X1.out.trans (hb2.mono X1.out.size)).mono Hb0.out.size))
    clear hb2
    go_wp2_with fail
    rw [HR.out]
    exact RetBb.mk rfl X2.out
  · obtain ⟨g, rfl⟩ : ∃ g, A = some g := by
      cases A with
      | none => exact absurd (by simpa using hA.symm) hxe
      | some g => exact ⟨g, rfl⟩
    have hle : xs.isEmpty = false := by cases xs <;> simp at hxe ⊢
    have HE := Lib.hid (show false = (xs.isEmpty && p) from by rw [hle]; rfl)
    clear hA hle hxe
    go_wp2_with fail
    rw [HR.out]
    exact RetBb.mk HE.out (Hb0.out.trans (X1.out.mono Hb0.out.size))

set_option maxRecDepth 100000 in
set_option maxHeartbeats 2000000 in
theorem doubles_any (A1 A2 : Option Addr) (n1 c1 n2 c2 : Nat) (ds : List Int) (act : List (List Int)) (w : World) (h : RdMod w A1 n1 c1 ds A2 n2 c2 act) (ht : TabF ds act) (hst : ∀ d ∈ ds, 0 ≤ d ∧ d ≤ 20) (hn2 : n2 ≤ 2000000) :
    Calls Tryz.prog 51 #[.agg #[.slice A1 n1 c1, .slice A2 n2 c2]] w (RetO n1 (dbL ds (act.map toT)) w) := by
  obtain ⟨w0, b, hw0, hbe, hb0, hz0', hF⟩ := start1 w (.slice A1 n1 c1) (.slice A2 n2 c2) 27
  have hn : n1 ≤ 16 := by rw [← h.ds.len]; exact ht.len
  have HL1 := Lib.hid h.ds.len
  have H := Lib.hid (h.below hb0)
  have HT := Lib.hid ht
  have HST := Lib.hid hst
  have Hw := Lib.hid hw0
  have Hbe := Lib.hid hbe
  have Hb0 := Lib.hid hb0
  have F0 := Lib.hid hF
  have C0 := Lib.hid (tableOf_any A1 A2 n1 c1 n2 c2 ds act w0 H.out ht hn2)
  have k0 := F0.out.at_ (b := b) (o := 0) (V := .slice A1 n1 c1) (by simp)
  have k1 := F0.out.at_ (b := b) (o := 1) (V := .slice A2 n2 c2) (by simp)
  obtain ⟨R, hR⟩ : ∃ R, R = RetO n1 (dbL ds (act.map toT)) w := ⟨_, rfl⟩
  have HR := Lib.hid hR
  rw [← hR]
  clear h ht hw0 hbe hb0 hF hR hz0' hst
  go_enter Tryz.func51, Tryz.ntmps51
  go_wp2_with fail
  rw [← Hw.out, ← Hbe.out]
  go_wp2_with fail
  refine C0.out.mono ?_
  rintro e wt ⟨t, rfl, hT, hbt⟩
  have S0 := Lib.hid (StS.start (w0 := wt) (w := wt) (B := wt.heap.size) (Below.refl _ _) (Nat.le_refl _))
  have XT := Lib.hid (show Below w.heap.size w wt from Hb0.out.trans (hbt.mono Hb0.out.size))
  have hbs : Below wt.heap.size wt (wt.alloc (.cells #[] 2)) := (Below.refl _ _).alloc (Nat.le_refl _) _
  have FT := Lib.hid (F0.out.below hbt)
  have HT0 := Lib.hid (H.out.below hbt)
  have HT1 := Lib.hid hT
  have k2 := (FT.out.below hbs).at_ (b := b) (o := 0) (V := .slice A1 n1 c1) (by simp)
  clear k0 k1 hbt hT C0 hbs
  go_wp2_with fail
  clear k2
  go_loopw [4, 13] (fun x i wr => ∃ (k c : Nat) (A : Option Addr), k ≤ n1 ∧ i = .int .i64 k ∧ x = .slice A k c ∧ Hid (StS wt wt.heap.size wr A k c (dbTo ds (act.map toT) k))) (fun _ i _ => n1 - (intOf i).toNat)
  case atStart => exact ⟨0, 0, _, Nat.zero_le _, rfl, rfl, S0⟩
  case round =>
    clear S0
    obtain ⟨k, c, A, hk, rfl, rfl, HS⟩ := hrel
    have HTB := Lib.hid (HT1.out.below HS.out.bel)
    have HD := Lib.hid (HT0.out.below HS.out.bel).ds
    have k0 := (FT.out.below HS.out.bel).at_ (b := b) (o := 0) (V := .slice A1 n1 c1) (by simp)
    by_cases hlt : k < n1
    · obtain ⟨adx, f, rfl, _, hf, hcf⟩ := HD.out.at_ (k := k) hlt
      have hfm := List.mem_of_getElem? hf.out
      have hfb := HST.out f hfm
      obtain ⟨d, rfl⟩ : ∃ d : Nat, f = (d : Int) := ⟨f.toNat, by omega⟩
      have HF := Lib.hid (show ds[k]?.getD 0 = (d : Int) from by rw [hf.out]; rfl)
      obtain ⟨g, _, hg, hrow⟩ := HTB.out.row d (by omega)
      obtain ⟨adr, z, had, _, hz, hcz⟩ := hrow.at_ (k := k) hlt
      obtain rfl : ⟨g, 0, none⟩ = adr := by simpa using had
      obtain ⟨y, hy⟩ : ∃ y, y = dbF ds (act.map toT) k := ⟨_, rfl⟩
      have hzy : z = (y : Int) := by
        have := hz.out
        rw [List.getElem?_map, List.getElem?_range hlt] at this
        rw [hy, dbF, HF.out, Int.toNat_natCast, HT.out.tri.row (by rw [HL1.out]; exact hlt)]
        exact (Option.some.inj this).symm
      subst hzy
      have HY := Lib.hid hy
      have hga : wr.cell? (⟨t, 1 + d, none⟩ : Addr) = some (.slice (some ⟨g, 0, none⟩) n1 n1) := hg
      have hcz2 : wr.cell? (⟨g, k, none⟩ : Addr) = some (.int .i64 (y : Int)) := by by_cases e : k = 0 <;> simpa [Addr.add, e] using hcz
      have hlt' : (k : Int) < (n1 : Int) := by omega
      have hk0 : (0 : Int) ≤ (k : Int) := by omega
      have hd21 : (d : Int) < 21 := by omega
      have hd0 : (0 : Int) ≤ (d : Int) := by omega
      clear hf hfm hfb hrow had hz hy hg hcz
      have HK := Lib.hid (dbTo_snoc ds (act.map toT) k)
      rw [← HY.out] at HK
      go_wp2_with (at_builtin; refine wpList_pushI rfl (.tmp 18) (.tmp 28) rfl rfl rfl HS.out (by omega) ?_)
      intro A6 c6 w6 hs6 _
      rw [← HK.out] at hs6
      have HS6 := Lib.hid hs6
      clear hs6
      go_wp2_with fail
      go_roundw
      case rel => exact ⟨k + 1, c6, A6, by omega, by go_num, rfl, HS6⟩
      case measure => simp [intOf]; omega
    · obtain rfl : k = n1 := by omega
      go_wp2_with fail
      rw [HR.out]
      exact ⟨_, _, rfl, by unfold dbL; rw [HL1.out]; exact HS.out.own.mono XT.out.size, XT.out.trans (HS.out.bel.mono XT.out.size)⟩

end Go.Proofs.YtejojliljplcdaaGreatDoor

/- A module in a variable's block, its degrees being lowered. -/
namespace Go.Proofs.YtejojliljplcdaaGreatDoor
open Go.RowKit
set_option linter.unusedVariables false

def dbN (ds : List Int) (T : List Tri) : List Nat := (List.range ds.length).map fun v => dbF ds T v
theorem dbN_ints (ds : List Int) (T : List Tri) : dbL ds T = intsN (dbN ds T) := by unfold dbL dbTo dbN intsN; rw [List.map_map]; rfl
noncomputable def loB (ds : List Int) (act : List (List Int)) : Bool := (ufL ds (act.map toT)).isEmpty && posB ds
noncomputable def loS (ds : List Int) (act : List (List Int)) : List Nat := partS (fun j x => sqF (act.map toT) ds.length j x) 20 (dbN ds (act.map toT))
noncomputable def loD (ds : List Int) (act : List (List Int)) : List Int := if modB ds act = true ∧ loB ds act = true then (quD (loS ds act) ds).map (fun d => d - 1) else []
noncomputable def loA (ds : List Int) (act : List (List Int)) : List (List Int) := if modB ds act = true ∧ loB ds act = true then quA (loS ds act) ds act else []
noncomputable def loK (ds : List Int) (act : List (List Int)) : Int := if modB ds act = true then (if loB ds act = true then 0 else 5) else 1
/-- a module of one's own and a code -/
def RetMc (ds : List Int) (act : List (List Int)) (k : Int) (w : World) (e : Ending) (w' : World) : Prop :=
  ∃ A1 c1 A2 c2, e = .returned (.tuple #[.agg #[.slice A1 ds.length c1, .slice A2 act.length c2], .int .i64 k]) ∧ OwnMo w' w.heap.size A1 ds.length c1 ds A2 act.length c2 act ∧ Below w.heap.size w w'
theorem RetMc.void (k : Int) {w wn : World} {r : Nat} {V0 V1 : Value} (Bw : Below w.heap.size w wn) (hr : w.heap.size ≤ r) :
    RetMc [] [] k w (.returned (.tuple #[.agg #[.slice none 0 0, .slice none 0 0], .int .i64 k])) ((wn.setCell ⟨r, 0, Option.none⟩ V0).setCell ⟨r, 1, Option.none⟩ V1) :=
  ⟨none, 0, none, 0, rfl, ⟨w.heap.size, Nat.le_refl _, by simpa [World.setCell] using Bw.size, OwnS.nil, (by intro g e; cases e), OwnL.nil⟩, (Bw.setCell (p := ⟨r, 0, Option.none⟩) hr V0).setCell (p := ⟨r, 1, Option.none⟩) hr V1⟩
/-- the degrees, the first k of them lowered -/
def lowD (ds : List Int) (k : Nat) : List Int := (ds.take k).map (fun d => d - 1) ++ ds.drop k
theorem lowD_at {ds : List Int} {k : Nat} {d : Int} (h : ds[k]? = some d) : (lowD ds k)[k]? = some d := by
  have hk := (List.getElem?_eq_some_iff.1 h).1
  unfold lowD
  rw [List.getElem?_append_right (by rw [List.length_map, List.length_take]; omega), List.length_map, List.length_take, Nat.min_eq_left (by omega), Nat.sub_self, List.getElem?_drop, Nat.add_zero, h]
theorem lowD_set {ds : List Int} {k : Nat} {d : Int} (h : ds[k]? = some d) : (lowD ds k).set k (d - 1) = lowD ds (k + 1) := by
  obtain ⟨hk, he⟩ := List.getElem?_eq_some_iff.1 h
  unfold lowD
  have hl : ((ds.take k).map (fun d => d - 1)).length = k := by rw [List.length_map, List.length_take]; omega
  rw [List.set_append_right _ _ (by omega), hl, Nat.sub_self, List.drop_eq_getElem_cons hk, he, List.set_cons_zero, List.take_add_one, h, List.map_append]
  simp
theorem lowD_all (ds : List Int) : lowD ds ds.length = ds.map fun d => d - 1 := by unfold lowD; rw [List.take_length, List.drop_length, List.append_nil]
theorem lowD_zero (ds : List Int) : lowD ds 0 = ds := by unfold lowD; simp
theorem step_fn1 {ops : Array Oper} {o : Oper} {a : Act} {w : World} {K : Act → World → Prop} {Q : Exit → Act → World → Prop} {E : Prop} {R : Ending → World → Prop} (f : FuncId) (x : Operand) (ts : Array TypeId) {vx : Value}
    (hg : o.guard = none) (ho : o.op = .call { callee := .value (.func f), args := #[x], argTypes := ts }) (hent : ∀ args w, (callFunc f args).run Tryz.prog w = .ok (.enter f args) w) (hx : a.eval x = vx)
    (hc : Calls Tryz.prog f #[vx] w R) (hK : ∀ e w', R e w' → ∃ v, e = .returned v ∧ K (a.put o.dst v) w') :
    if Region.wanted o (yielded ops a.tmps) = true then Oper.wp Tryz.prog o a w K Q else E := by
  refine step_fn hg ?_ hc hK
  subst hx
  simp [execOp, ho, resolve, invoke, hent, go_sem]
/-- a module in the block H: its degrees D lie below the block K, its action from K on -/
structure LFin (wr wc : World) (H K : Nat) (A1 : Option Addr) (n1 d1 : Nat) (D : List Int) (A2 : Option Addr) (n2 d2 : Nat) (AA : List (List Int)) : Prop where
  cs : Cells [(H, 0, .slice A1 n1 d1), (H, 1, .slice A2 n2 d2)] wc
  hK : wr.heap.size ≤ K ∧ K ≤ wc.heap.size
  deg : OwnS wc wr.heap.size A1 n1 d1 D
  degK : ∀ g, Value.ownBlock (.slice A1 n1 d1) = some g → g < K
  act : OwnL wc K wc.heap.size A2 n2 d2 AA
  bel : Below wr.heap.size wr wc
  hH : wr.heap.size ≤ H
  ne : Value.ownBlock (.slice A1 n1 d1) ≠ some H
theorem LFin.low {wr wc : World} {H K n1 d1 n2 d2 k : Nat} {A1 A2 : Option Addr} {D : List Int} {AA : List (List Int)} (h : LFin wr wc H K A1 n1 d1 D A2 n2 d2 AA) (hk : k < n1) :
    ∃ g x, A1 = some ⟨g, 0, none⟩ ∧ Hid (D[k]? = some x) ∧ wc.cell? ⟨g, k, none⟩ = some (.int .i64 x) ∧ wc.frozen? ⟨g, k, none⟩ = false ∧ ∀ u, LFin wr (wc.setCell ⟨g, k, none⟩ (.int .i64 u)) H K A1 n1 d1 (D.set k u) A2 n2 d2 AA := by
  obtain ⟨g, x, rfl, hb, hl, hx, hc, hf, hset⟩ := h.deg.at_ hk
  refine ⟨g, x, rfl, hx, hc, hf, fun u => ?_⟩
  obtain ⟨h1, hg⟩ := hset u
  have hgK := h.degK g rfl
  have hgH : g ≠ H := fun e => h.ne (by rw [← e]; rfl)
  have md : Mid g (g + 1) wc (wc.setCell ⟨g, k, none⟩ (.int .i64 u)) := mid_setCell (p := ⟨g, k, none⟩) _ ⟨Nat.le_refl _, Nat.lt_succ_self _⟩
  refine ⟨h.cs.grown hg fun x hx e => ?_, ⟨h.hK.1, by simpa [World.setCell] using h.hK.2⟩, h1, h.degK, ?_, h.bel.setCell (p := ⟨g, k, none⟩) hb _, h.hH, h.ne⟩
  · injection e with e
    simp only [List.mem_cons, List.not_mem_nil, or_false] at hx
    rcases hx with rfl | rfl <;> exact hgH e.symm
  · exact (h.act.mid md hgK).mono (Nat.le_refl _) (by simp [World.setCell])
theorem LFin.new {wr w8 : World} {B K d1 d2 : Nat} {A1 A2 : Option Addr} {D : List Int} {AA : List (List Int)} (hB : wr.heap.size ≤ B) (hBK : B ≤ K) (hK : K ≤ w8.heap.size) (p1 : OwnS w8 B A1 D.length d1 D) (pl : ∀ g, Value.ownBlock (.slice A1 D.length d1) = some g → g < K)
    (p2 : OwnL w8 K w8.heap.size A2 AA.length d2 AA) (hb : Below wr.heap.size wr w8) : LFin wr (w8.alloc (.cells #[.slice A1 D.length d1, .slice A2 AA.length d2] 27)) w8.heap.size K A1 D.length d1 D A2 AA.length d2 AA :=
  ⟨(Cells.nil.alloc2 _ _ _ rfl).sub (by intro x hx; simp only [List.mem_cons, List.not_mem_nil, or_false] at hx ⊢; rcases hx with rfl | rfl <;> simp), ⟨by omega, by simp; omega⟩, (p1.alloc _).mono hB, pl, (p2.alloc _).mono (Nat.le_refl _) (by simp), hb.alloc hb.size _, hb.size, fun e => by have := pl _ e; omega⟩
theorem LFin.set {wr w8 : World} {B H K d1 d2 : Nat} {A1 A2 : Option Addr} {D : List Int} {AA : List (List Int)} (hH : wr.heap.size ≤ H) (hB : H < B) (hBK : B ≤ K) (hK : K ≤ w8.heap.size) (U : Cells [(H, 0, .slice none 0 0), (H, 1, .slice none 0 0)] w8) (p1 : OwnS w8 B A1 D.length d1 D)
    (pl : ∀ g, Value.ownBlock (.slice A1 D.length d1) = some g → g < K) (p2 : OwnL w8 K w8.heap.size A2 AA.length d2 AA) (hb : Below wr.heap.size wr w8) :
    LFin wr ((w8.setCell ⟨H, 0, none⟩ (.slice A1 D.length d1)).setCell ⟨H, 1, none⟩ (.slice A2 AA.length d2)) H K A1 D.length d1 D A2 AA.length d2 AA := by
  have md : Mid H (H + 1) w8 ((w8.setCell ⟨H, 0, none⟩ (.slice A1 D.length d1)).setCell ⟨H, 1, none⟩ (.slice A2 AA.length d2)) := (mid_setCell (p := ⟨H, 0, none⟩) _ ⟨Nat.le_refl _, Nat.lt_succ_self _⟩).trans (mid_setCell (p := ⟨H, 1, none⟩) _ ⟨Nat.le_refl _, Nat.lt_succ_self _⟩)
  have c1 : Cells [(H, 0, .slice A1 D.length d1), (H, 1, .slice none 0 0)] (w8.setCell ⟨H, 0, none⟩ (.slice A1 D.length d1)) := Cells.set (U := .slice none 0 0) (L := [(H, 1, .slice none 0 0)]) U (by simp) _
  have c2 : Cells [(H, 1, .slice A2 AA.length d2), (H, 0, .slice A1 D.length d1)] ((w8.setCell ⟨H, 0, none⟩ (.slice A1 D.length d1)).setCell ⟨H, 1, none⟩ (.slice A2 AA.length d2)) := Cells.set (U := .slice none 0 0) (L := [(H, 0, .slice A1 D.length d1)]) (c1.sub (by intro x hx; simp only [List.mem_cons, List.not_mem_nil, or_false] at hx ⊢; rcases hx with rfl | rfl <;> simp)) (by simp) _
  exact ⟨c2.sub (by intro x hx; simp only [List.mem_cons, List.not_mem_nil, or_false] at hx ⊢; rcases hx with rfl | rfl <;> simp), ⟨by omega, by simpa [World.setCell] using hK⟩, (p1.mid md hB).mono (by omega), pl, (p2.mid md (by omega)).mono (Nat.le_refl _) (by simp [World.setCell]), (hb.setCell (p := ⟨H, 0, none⟩) hH _).setCell (p := ⟨H, 1, none⟩) hH _, hH, fun e => by have := (p1.own.lt _ e).1; omega⟩
theorem OwnL.all {w : World} {B K : Nat} {A : Option Addr} {n c : Nat} {xss : List (List Int)} (h : OwnL w B K A n c xss) : OwnL w B w.heap.size A n c xss := by
  obtain ⟨vs, h1, h2, h3⟩ := h.rows
  refine ⟨h.len, vs, h1, fun j v xs hv hx => ?_, h3⟩
  obtain ⟨A', n', c', rfl, h4, _⟩ := h2 j v xs hv hx
  exact ⟨A', n', c', rfl, h4, fun g e => (h4.own.lt g e).2⟩
/-- the facts of a module that has just been handed back, its blocks parted at K -/
theorem part_min {w8 : World} {B K1 K2 d1 d2 : Nat} {A1 A2 : Option Addr} {D : List Int} {AA : List (List Int)} (hk1 : B ≤ K1) (hb : B ≤ w8.heap.size) (p1 : OwnS w8 B A1 D.length d1 D) (pl : ∀ g, Value.ownBlock (.slice A1 D.length d1) = some g → g < K1) (p2 : OwnL w8 K1 K2 A2 AA.length d2 AA) :
    ∃ K, B ≤ K ∧ K ≤ w8.heap.size ∧ (∀ g, Value.ownBlock (.slice A1 D.length d1) = some g → g < K) ∧ OwnL w8 K w8.heap.size A2 AA.length d2 AA :=
  ⟨min K1 w8.heap.size, by omega, by omega, fun g e => by have := pl g e; have := (p1.own.lt g e).2; omega, p2.all.mono (by omega) (Nat.le_refl _)⟩
/-- what is handed back of it, the result's block b being filled -/
theorem LFin.ret {w wr wc : World} {b H K n1 d1 n2 d2 : Nat} {A1 A2 : Option Addr} {D : List Int} {AA : List (List Int)} {k : Int} (h : LFin wr wc H K A1 n1 d1 D A2 n2 d2 AA) (hw : Below w.heap.size w wr) (hb : w.heap.size ≤ b) (hr : b + 1 ≤ wr.heap.size) (hl : D.length = n1) (hl2 : AA.length = n2) :
    RetMc D AA k w (.returned (.tuple #[.agg #[.slice A1 n1 d1, .slice A2 n2 d2], .int .i64 k])) ((wc.setCell ⟨b, 0, none⟩ (.slice A1 n1 d1)).setCell ⟨b, 1, none⟩ (.slice A2 n2 d2)) := by
  subst hl; subst hl2
  have md : Mid b (b + 1) wc ((wc.setCell ⟨b, 0, none⟩ (.slice A1 D.length d1)).setCell ⟨b, 1, none⟩ (.slice A2 AA.length d2)) := (mid_setCell (p := ⟨b, 0, none⟩) _ ⟨Nat.le_refl _, Nat.lt_succ_self _⟩).trans (mid_setCell (p := ⟨b, 1, none⟩) _ ⟨Nat.le_refl _, Nat.lt_succ_self _⟩)
  have hz := hw.size
  have hk := h.hK
  refine ⟨A1, d1, A2, d2, rfl, ⟨K, by omega, by simpa [World.setCell] using hk.2, (h.deg.mid md hr).mono hz, h.degK, (h.act.mid md (by omega)).mono (Nat.le_refl _) (by simp [World.setCell])⟩, ?_⟩
  exact ((hw.trans (h.bel.mono hz)).setCell (p := ⟨b, 0, none⟩) hb _).setCell (p := ⟨b, 1, none⟩) hb _
end Go.Proofs.YtejojliljplcdaaGreatDoor

/- LoopsOf on the reference's side. -/
namespace Go.Proofs.YtejojliljplcdaaGreatDoor
open Go.RowKit
set_option linter.unusedVariables false

theorem dbN_hom {ds : List Int} {T : List Tri} (h : TriF ds T) (hst : ∀ d ∈ ds, 0 ≤ d ∧ d ≤ 20) : ∀ m ∈ dbN ds T, HomE ds m := by
  intro m hm
  obtain ⟨v, hv, rfl⟩ := List.mem_map.1 hm
  exact HomE.spA h hst (HomE.two hst (List.mem_range.1 hv))
theorem shl_wrapS {q p : Nat} (h : q < 16) (hp : p = 2 ^ q) : IntKind.i64.wrap (2 ^ min (IntKind.u64.wrap (q : Int)).toNat 64) = (p : Int) := shl_wrap h hp
/-- the code of a module that has to be unstable -/
noncomputable def ucK (ds : List Int) (act : List (List Int)) : Int := if modB ds act = true then (if (ufL ds (act.map toT)).isEmpty = true then 0 else 5) else 1
set_option maxRecDepth 100000 in
set_option maxHeartbeats 4000000 in
theorem l17Code_any (A1 A2 : Option Addr) (n1 c1 n2 c2 : Nat) (ds : List Int) (act : List (List Int)) (w : World) (h : RdMod w A1 n1 c1 ds A2 n2 c2 act) (hn1 : n1 ≤ 2000000) (hn2 : n2 ≤ 2000000) (ht : totalL act ≤ 2000000) :
    Calls Tryz.prog 49 #[.agg #[.slice A1 n1 c1, .slice A2 n2 c2]] w (RetIb (ucK ds act) w) := by
  obtain ⟨w0, b, hw0, hbe, hb0, hz0', hF⟩ := start1 w (.slice A1 n1 c1) (.slice A2 n2 c2) 27
  have C0 := Lib.hid (l11Is_any A1 A2 n1 c1 n2 c2 ds act w0 (h.below hb0) hn1 hn2 ht)
  have F0 := Lib.hid hF
  have Hw := Lib.hid hw0
  have Hbe := Lib.hid hbe
  have Bw0 := Lib.hid hb0
  have HM0 := Lib.hid (h.below hb0)
  obtain ⟨X, hX⟩ : ∃ X, X = RetIb (ucK ds act) w := ⟨_, rfl⟩
  have HX := Lib.hid hX
  rw [← hX]
  have k0 := hF.at_ (b := b) (o := 0) (V := .slice A1 n1 c1) (by simp)
  have k1 := hF.at_ (b := b) (o := 1) (V := .slice A2 n2 c2) (by simp)
  obtain ⟨m, hm⟩ : ∃ m, m = modB ds act := ⟨_, rfl⟩
  rw [← hm] at C0
  clear h hX hF hw0 hbe hb0 hz0'
  cases m
  · have HV := Lib.hid (show X = RetIb 1 w from by rw [HX.out]; unfold ucK; rw [← hm]; simp)
    clear hm
    go_enter Tryz.func49, Tryz.ntmps49
    go_wp2_with fail
    rw [← Hw.out, ← Hbe.out]
    go_wp2_with fail
    refine C0.out.mono ?_
    rintro e w1 ⟨rfl, hb1⟩
    have B1 := Lib.hid (Bw0.out.trans (hb1.mono Bw0.out.size))
    clear k0 k1 hb1
    go_wp2_with fail
    rw [HV.out]
    exact ⟨rfl, B1.out⟩
  · have hmb : modB ds act = true := hm.symm
    have HTF := Lib.hid (show TabF ds act from tabF_of (by unfold modB at hmb; rw [Bool.and_eq_true] at hmb; exact hmb.1))
    have HV := Lib.hid (show X = RetIb (if (ufL ds (act.map toT)).isEmpty = true then 0 else 5) w from by rw [HX.out]; unfold ucK; rw [← hm]; simp)
    obtain ⟨L, hL⟩ : ∃ L, L = ufL ds (act.map toT) := ⟨_, rfl⟩
    rw [← hL] at HV
    have CF := Lib.hid (show ∀ W, Below w0.heap.size w0 W → Calls Tryz.prog 55 #[.agg #[.slice A1 n1 c1, .slice A2 n2 c2]] W (RetU L W) from fun W hb => by
      rw [hL]
      exact fault17_any A1 A2 n1 c1 n2 c2 ds act W (HM0.out.below hb) HTF.out hn2)
    clear hm hmb hL
    go_enter Tryz.func49, Tryz.ntmps49
    go_wp2_with fail
    rw [← Hw.out, ← Hbe.out]
    go_wp2_with fail
    refine C0.out.mono ?_
    rintro e w1 ⟨rfl, hb1⟩
    have B1 := Lib.hid hb1
    have q0 := (F0.out.below hb1).at_ (b := b) (o := 0) (V := .slice A1 n1 c1) (by simp)
    have q1 := (F0.out.below hb1).at_ (b := b) (o := 1) (V := .slice A2 n2 c2) (by simp)
    clear k0 k1 hb1
    go_wp2_with fail
    refine (CF.out _ B1.out).mono ?_
    rintro e w2 ⟨A3, c3, rfl, _, _, hb2⟩
    have B2 := Lib.hid (Bw0.out.trans ((B1.out.trans (hb2.mono B1.out.size)).mono Bw0.out.size))
    clear q0 q1 hb2
    obtain ⟨l, hl⟩ : ∃ l, l = L.length := ⟨_, rfl⟩
    rw [← hl]
    by_cases h0 : l = 0
    · subst h0
      have HE := Lib.hid (show L.isEmpty = true from by rw [List.isEmpty_iff]; exact List.eq_nil_of_length_eq_zero hl.symm)
      clear hl
      go_wp2_with fail
      rw [HV.out, if_pos HE.out]
      exact ⟨rfl, B2.out⟩
    · have hl0 : (0 : Int) < (l : Int) := by omega
      have HE := Lib.hid (show ¬ L.isEmpty = true from by rw [List.isEmpty_iff]; intro e; rw [e] at hl; exact h0 hl)
      clear hl h0
      go_wp2_with fail
      rw [HV.out, if_neg HE.out]
      exact ⟨rfl, B2.out⟩
set_option maxRecDepth 100000 in
set_option maxHeartbeats 8000000 in
theorem sLoopsOf_any (A1 A2 : Option Addr) (n1 c1 n2 c2 : Nat) (ds : List Int) (act : List (List Int)) (w : World) (h : RdMod w A1 n1 c1 ds A2 n2 c2 act) (hn1 : n1 ≤ 2000000) (hn2 : n2 ≤ 2000000) (ht : totalL act ≤ 2000000) :
    Calls Tryz.prog 16 #[.agg #[.slice A1 n1 c1, .slice A2 n2 c2]] w (RetMc (loD ds act) (loA ds act) (loK ds act) w) := by
  obtain ⟨w0, b, hw0, hbe, hb0, hz0, hF⟩ := start22 w (.slice A1 n1 c1) (.slice A2 n2 c2) (.slice none 0 0) (.slice none 0 0) 27 27
  have hl1 : ds.length = n1 := h.ds.len
  have C0 := Lib.hid (l17Code_any A1 A2 n1 c1 n2 c2 ds act w0 (h.below hb0) hn1 hn2 ht)
  have F0 := Lib.hid hF
  have Hw := Lib.hid hw0
  have Hbe := Lib.hid hbe
  have Bw0 := Lib.hid hb0
  have HZ0 := Lib.hid hz0
  have HM0 := Lib.hid (h.below hb0)
  have HL1 := Lib.hid hl1
  obtain ⟨X, hX⟩ : ∃ X, X = RetMc (loD ds act) (loA ds act) (loK ds act) w := ⟨_, rfl⟩
  have HX := Lib.hid hX
  rw [← hX]
  have k0 := hF.at_ (b := b) (o := 0) (V := .slice A1 n1 c1) (by simp)
  have k1 := hF.at_ (b := b) (o := 1) (V := .slice A2 n2 c2) (by simp)
  obtain ⟨kc, hkc⟩ : ∃ kc, kc = ucK ds act := ⟨_, rfl⟩
  rw [← hkc] at C0
  clear h hX hF hw0 hbe hb0 hz0 hl1
  by_cases hz : kc = 0
  · subst hz
    have hmb : modB ds act = true ∧ (ufL ds (act.map toT)).isEmpty = true := by
      unfold ucK at hkc
      by_cases h1 : modB ds act = true
      · rw [if_pos h1] at hkc
        by_cases h2 : (ufL ds (act.map toT)).isEmpty = true
        · exact ⟨h1, h2⟩
        · rw [if_neg h2] at hkc; cases hkc
      · rw [if_neg h1] at hkc; cases hkc
    have HTF := Lib.hid (show TabF ds act from tabF_of (by have := hmb.1; unfold modB at this; rw [Bool.and_eq_true] at this; exact this.1))
    have HST := Lib.hid (show ∀ d ∈ ds, 0 ≤ d ∧ d ≤ 20 from HTF.out.stem)
    have HV0 := Lib.hid (show posB ds = false → X = RetMc [] [] 5 w from fun e => by rw [HX.out]; unfold loD loA loK loB; rw [hmb.1, hmb.2, e]; simp)
    have HV := Lib.hid (show posB ds = true → X = RetMc ((quD (loS ds act) ds).map fun d => d - 1) (quA (loS ds act) ds act) 0 w from fun e => by rw [HX.out]; unfold loD loA loK loB; rw [hmb.1, hmb.2, e]; simp)
    have hn16 : n1 ≤ 16 := by rw [← HL1.out]; exact HTF.out.len
    clear hkc hmb
    go_enter Tryz.func16, Tryz.ntmps16
    go_wp2_with fail
    rw [← Hw.out, ← Hbe.out]
    refine C0.out.mono ?_
    rintro e w1 ⟨rfl, hb1⟩
    have F1 := Lib.hid (F0.out.below hb1)
    have B1 := Lib.hid hb1
    have M1 := Lib.hid (HM0.out.below hb1)
    have z1 := Lib.hid (show b + 1 + 1 ≤ w1.heap.size from by have := HZ0.out; have := hb1.size; omega)
    have S0 := Lib.hid (StS.start (w0 := w1) (w := w1) (B := w1.heap.size) (Below.refl _ _) (Nat.le_refl _))
    have EnA := Lib.hid (enters_of Tryz.func37 (by kernel_rfl) rfl)
    clear k0 k1 hb1
    go_wp2_with fail
    go_loopw [5, 6] (fun x i wr => ∃ (v c : Nat) (A : Option Addr), v ≤ n1 ∧ i = .int .i64 v ∧ x = .slice A v c ∧ Hid (∀ j, j < v → 0 < ds[j]?.getD 0) ∧ Hid (StS w1 w1.heap.size wr A v c (dbTo ds (act.map toT) v))) (fun _ i _ => n1 - (intOf i).toNat)
    case atStart => exact ⟨0, 0, _, by omega, rfl, rfl, Lib.hid (fun j hj => by omega), by simpa [dbTo] using S0⟩
    case round =>
      clear S0
      obtain ⟨v, c, A, hv, rfl, rfl, HP, HS⟩ := hrel
      have k0 := (F1.out.below HS.out.bel).at_ (b := b) (o := 0) (V := .slice A1 n1 c1) (by simp)
      have k1 := (F1.out.below HS.out.bel).at_ (b := b) (o := 1) (V := .slice A2 n2 c2) (by simp)
      by_cases hvn : v < n1
      · obtain ⟨adx, d, rfl, _, hd, hcd⟩ := (M1.out.below HS.out.bel).ds.at_ (k := v) hvn
        have hd2 : ds[v]?.getD 0 = d := by rw [hd.out]; rfl
        have hdm := List.mem_of_getElem? hd.out
        obtain ⟨hd0, hd20⟩ := HTF.out.stem d hdm
        by_cases hz : d = 0
        · subst hz
          have HPb := Lib.hid (HV0.out (by
            cases e : posB ds
            · rfl
            · have := of_decide_eq_true ((List.all_eq_true.1 e) _ hdm)
              omega))
          have BX := Lib.hid (show Below w.heap.size w wr from (Bw0.out.trans (B1.out.mono Bw0.out.size)).trans (HS.out.bel.mono (by have := Bw0.out.size; have := B1.out.size; omega)))
          have r0 := (F1.out.below HS.out.bel).at_ (b := b + 1) (o := 0) (V := .slice none 0 0) (by simp)
          have r1 := (F1.out.below HS.out.bel).at_ (b := b + 1) (o := 1) (V := .slice none 0 0) (by simp)
          have f0 := (F1.out.below HS.out.bel).fr (b := b + 1) (o := 0) (V := .slice none 0 0) (by simp)
          have f1 := (F1.out.below HS.out.bel).fr (b := b + 1) (o := 1) (V := .slice none 0 0) (by simp)
          have hres := cells_end r0 r1 (.slice none 0 0) (.slice none 0 0)
          clear hd hd2 hdm
          go_wp2_with fail
          refine bodyPost_ret (v := .tuple #[.agg #[.slice none 0 0, .slice none 0 0], .int .i64 5]) (by simp [results, Tryz.results16, go_sem, hres.1, hres.2]) rfl ?_
          rw [HPb.out]
          exact RetMc.void 5 BX.out (by rw [Hbe.out]; omega)
        · obtain ⟨D, rfl⟩ : ∃ D : Nat, d = (D : Int) := ⟨d.toNat, by omega⟩
          have hs1 : ((D : Int) == 0) = false := by simpa using hz
          have HP2 := Lib.hid (show ∀ j, j < v + 1 → 0 < ds[j]?.getD 0 from fun j hj => by
            by_cases e : j = v
            · subst e; rw [hd2]; omega
            · exact HP.out j (by omega))
          obtain ⟨p, hpw, HPe, HPW⟩ := pow_facts (show v < 16 by omega)
          have hv0 : (0 : Int) ≤ (v : Int) := by omega
          have hv64 : (v : Int) < 64 := by omega
          obtain ⟨y, hy⟩ : ∃ y, y = spA (act.map toT) D p := ⟨_, rfl⟩
          have CA := Lib.hid (show ∀ W, Below wr.heap.size wr W → Calls Tryz.prog 37 #[.agg #[.slice (some adx) n1 c1, .slice A2 n2 c2], .int .i64 (D : Nat), .int .i64 (p : Nat)] W (RetIb (y : Nat) W) from fun W hb => by
            rw [hy]
            exact act12_any (some adx) A2 n1 c1 n2 c2 D p ds act W (M1.out.below (HS.out.bel.trans (hb.mono HS.out.hi))) HTF.out hn2 (by rw [HPe.out]; exact Nat.pow_lt_pow_right (by decide) hvn))
          have HY := Lib.hid (show dbTo ds (act.map toT) (v + 1) = dbTo ds (act.map toT) v ++ [(y : Int)] from by
            rw [dbTo_snoc]
            unfold dbF
            rw [hd2, hy, HPe.out]
            rfl)
          have hw2 := HPW.out.2.1
          have HB1 := Lib.hid (Below.refl wr.heap.size wr)
          have HB2 := Lib.hid (below_dr (Below.refl wr.heap.size wr))
          have hvb : v ≤ 2000000000000 := by omega
          have HWX := Lib.hid (shl_wrapS (show v < 16 by omega) HPe.out)
          clear hd hd2 hdm hz hy
          go_upto_region 10 with fail
          have hwx := HWX.out
          go_region_law
            (first
              | (refine step_fn3 37 (.tmp 32) (.tmp 37) (.tmp 40) #[27, 2, 2] rfl rfl EnA.out rfl rfl rfl (CA.out _ (by first | exact HB1.out | exact HB2.out)) ?_
                 rintro e w8 ⟨rfl, hb8⟩
                 refine ⟨_, rfl, ?_⟩
                 have HS9 := Lib.hid (show StS w1 w1.heap.size w8 A v c (dbTo ds (act.map toT) v) from HS.out.call (by
                   first
                     | exact hb8
                     | exact (below_dr (Below.refl _ _)).trans hb8))
                 clear hb8)
              | (refine step_pushI rfl (.tmp 31) (.tmp 42) rfl rfl rfl rfl HS9.out hvb ?_
                 intro A9 c9 w9 hs9
                 have HS10 := Lib.hid (show StS w1 w1.heap.size w9 A9 (v + 1) c9 (dbTo ds (act.map toT) (v + 1)) from by
                   rw [HY.out]
                   exact hs9)
                 clear hs9))
          all_goals
            clear k0 k1 hcd hwx
            go_wp2_with fail
            go_roundw
            case rel => exact ⟨v + 1, _, _, by omega, by go_num, rfl, HP2, HS10⟩
            case measure => simp [intOf]; omega
      · obtain rfl : n1 = v := by omega
        have hpos : posB ds = true := List.all_eq_true.2 fun d hd => by
          obtain ⟨i, hi, rfl⟩ := List.getElem_of_mem hd
          have := HP.out i (by rw [← HL1.out]; exact hi)
          rw [List.getElem?_eq_getElem hi] at this
          exact decide_eq_true this
        replace HV := Lib.hid (HV.out hpos)
        have HMh := Lib.hid (dbN_hom HTF.out.tri HTF.out.stem)
        have HSm := Lib.hid (show StS w1 w1.heap.size wr A n1 c (intsN (dbN ds (act.map toT))) from by rw [← dbN_ints]; unfold dbL; rw [HL1.out]; exact HS.out)
        have CP := Lib.hid (show ∀ W, Below wr.heap.size wr W → Calls Tryz.prog 39 #[.agg #[.slice A1 n1 c1, .slice A2 n2 c2], .slice A n1 c] W (RetPt ds (fun j x => sqF (act.map toT) ds.length j x) (dbN ds (act.map toT)) W) from fun W hb => by
          have hbW := HS.out.bel.trans (hb.mono HS.out.hi)
          exact l17Part_any A1 A2 A n1 c1 n2 c2 n1 c ds act (dbN ds (act.map toT)) W (M1.out.below hbW) HTF.out hn2 (HSm.out.own.below hb).rd HMh.out (by omega))
        have HUS := Lib.hid (show loS ds act = partS (fun j x => sqF (act.map toT) ds.length j x) 20 (dbN ds (act.map toT)) from rfl)
        have CQ := Lib.hid (show ∀ V W (S : List Nat) A' c', Below wr.heap.size wr V → OwnS V wr.heap.size A' S.length c' (intsN S) → Below V.heap.size V W → RedS S → (∀ r ∈ S, HomE ds r) → Calls Tryz.prog 38 #[.agg #[.slice A1 n1 c1, .slice A2 n2 c2], .slice A' S.length c'] W (RetQs (quD S ds) (quA S ds act) (quI S ds) W) from fun V W S A' c' hV ho hb hr hm => by
          have hbV := HS.out.bel.trans (hV.mono HS.out.hi)
          have hbW := hbV.trans (hb.mono (Nat.le_trans HS.out.hi hV.size))
          exact l12Quotient_any A1 A2 A' n1 c1 n2 c2 S.length c' ds act S W (M1.out.below hbW) HTF.out hn2 (ho.below hb).rd hr.good (fun r hr' => (hm r hr').lt16 HTF.out.len))
        have CELL := Lib.hid (show ∀ W, Below wr.heap.size wr W → W.cell? ⟨b, 0, none⟩ = some (.slice A1 n1 c1) ∧ W.cell? ⟨b, 1, none⟩ = some (.slice A2 n2 c2) from fun W hb => by
          have hF := F1.out.below (HS.out.bel.trans (hb.mono HS.out.hi))
          exact ⟨hF.at_ (by simp), hF.at_ (by simp)⟩)
        have OUTC := Lib.hid (show ∀ W : World, Cells [(W.heap.size, 0, .slice none 0 0), (W.heap.size, 1, .slice none 0 0)] (W.alloc (.cells #[.slice none 0 0, .slice none 0 0] 27)) from fun W => (Cells.nil.alloc2 _ _ _ rfl).sub (by intro x hx; simp only [List.mem_cons, List.not_mem_nil, or_false] at hx ⊢; rcases hx with rfl | rfl <;> simp))
        have hEntP := enters_of Tryz.func39 (by kernel_rfl) rfl
        have hEntQ := enters_of Tryz.func38 (by kernel_rfl) rfl
        have BT1 := Lib.hid HS.out.bel
        have BT := Lib.hid (show Below w.heap.size w wr from (Bw0.out.trans (B1.out.mono Bw0.out.size)).trans (HS.out.bel.mono (by have := Bw0.out.size; have := B1.out.size; omega)))
        have zb := Lib.hid (show b + 1 + 1 ≤ wr.heap.size from Nat.le_trans z1.out HS.out.bel.size)
        have HB1 := Lib.hid (Below.refl wr.heap.size wr)
        have HB2 := Lib.hid (below_dr (Below.refl wr.heap.size wr))
        have HB3 := Lib.hid (below_al (Below.refl wr.heap.size wr) (Nat.le_refl _) (.cells #[.slice none 0 0, .slice none 0 0] 27))
        have HB4 := Lib.hid (below_dr (below_al (Below.refl wr.heap.size wr) (Nat.le_refl _) (.cells #[.slice none 0 0, .slice none 0 0] 27)))
        obtain ⟨kz0, kz1⟩ := CELL.out _ HB3.out
        obtain ⟨ky0, ky1⟩ := CELL.out _ HB4.out
        obtain ⟨kb0, kb1⟩ := CELL.out _ HB1.out
        clear hpos k0 k1
        go_upto_region 11 with fail
        go_cut [7] (fun p wc => ∃ (H K d1 d2 : Nat) (A1' A2' : Option Addr), p = .pointer (some ⟨H, 0, none⟩) ∧ Hid (LFin wr wc H K A1' (quD (loS ds act) ds).length d1 (quD (loS ds act) ds) A2' (quA (loS ds act) ds act).length d2 (quA (loS ds act) ds act)))
        case first =>
          go_region_law
            (first
              | (first
                  | (refine step_fn2 39 (.tmp 46) (.tmp 47) #[27, 22] rfl rfl hEntP rfl rfl (CP.out _ HB1.out) ?_
                     rintro e w6 ⟨S, A6, c6, hr6, hm6, hs6, rfl, ho6, hb6⟩
                     have B6 := Lib.hid hb6)
                  | (refine step_fn2 39 (.tmp 46) (.tmp 47) #[27, 22] rfl rfl hEntP rfl rfl (CP.out _ HB2.out) ?_
                     rintro e w6 ⟨S, A6, c6, hr6, hm6, hs6, rfl, ho6, hb6⟩
                     have B6 := Lib.hid (HB2.out.trans hb6))
                  | (refine step_fn2 39 (.tmp 46) (.tmp 47) #[27, 22] rfl rfl hEntP rfl rfl (CP.out _ HB3.out) ?_
                     rintro e w6 ⟨S, A6, c6, hr6, hm6, hs6, rfl, ho6, hb6⟩
                     have B6 := Lib.hid (HB3.out.trans (hb6.mono HB3.out.size))
                     have U6 := Lib.hid ((OUTC.out wr).below hb6))
                  | (refine step_fn2 39 (.tmp 46) (.tmp 47) #[27, 22] rfl rfl hEntP rfl rfl (CP.out _ HB4.out) ?_
                     rintro e w6 ⟨S, A6, c6, hr6, hm6, hs6, rfl, ho6, hb6⟩
                     have B6 := Lib.hid (HB4.out.trans (hb6.mono HB4.out.size))
                     have U6 := Lib.hid (((OUTC.out wr).below (below_dr (Below.refl _ _))).below hb6))
                 refine ⟨_, rfl, ?_⟩
                 have O6 := Lib.hid (show OwnS w6 wr.heap.size A6 S.length c6 (intsN S) from ho6.mono (by first | exact Nat.le_refl _ | exact HB2.out.size | exact HB3.out.size | exact HB4.out.size))
                 have HSe := Lib.hid (show loS ds act = S from by rw [HUS.out]; exact hs6)
                 have R6 := Lib.hid hr6
                 have M6 := Lib.hid hm6
                 obtain ⟨kc0, kc1⟩ := CELL.out _ B6.out
                 have HC1 := Lib.hid (Below.refl w6.heap.size w6)
                 have HC2 := Lib.hid (below_al (Below.refl w6.heap.size w6) (Nat.le_refl _) (.cells #[.slice none 0 0, .slice none 0 0] 27))
                 obtain ⟨kx0, kx1⟩ := CELL.out _ (B6.out.trans (HC2.out.mono B6.out.size))
                 clear ho6 hb6 hr6 hm6 hs6)
              | (first
                  | refine step_fn2 38 (.tmp 45) (.tmp 48) #[27, 22] rfl rfl hEntQ rfl rfl (CQ.out _ _ _ _ _ B6.out O6.out HC1.out R6.out M6.out) ?_
                  | refine step_fn2 38 (.tmp 45) (.tmp 48) #[27, 22] rfl rfl hEntQ rfl rfl (CQ.out _ _ _ _ _ B6.out O6.out HC2.out R6.out M6.out) ?_
                 rintro e w8 ⟨A1', d1, A2', d2, A3', d3, K8, rfl, q1, q2, p1, q3, q4, p3, pb⟩
                 refine ⟨_, rfl, ?_⟩
                 first
                   | (have U8 := Lib.hid (U6.out.below pb)
                      have ku0 := U8.out.c _ (List.mem_cons_self ..)
                      have ku1 := U8.out.c _ (List.mem_cons_of_mem _ (List.mem_cons_self ..))
                      have fu0 := U8.out.f _ (List.mem_cons_self ..)
                      have fu1 := U8.out.f _ (List.mem_cons_of_mem _ (List.mem_cons_self ..)))
                   | (have U8 := Lib.hid ((OUTC.out w6).below pb)
                      have ku0 := U8.out.c _ (List.mem_cons_self ..)
                      have ku1 := U8.out.c _ (List.mem_cons_of_mem _ (List.mem_cons_self ..))
                      have fu0 := U8.out.f _ (List.mem_cons_self ..)
                      have fu1 := U8.out.f _ (List.mem_cons_of_mem _ (List.mem_cons_self ..)))
                   | skip
                 have P8 := Lib.hid (And.intro q1 (And.intro q2 (And.intro p1 (And.intro q3 q4))))
                 have PB := Lib.hid pb
                 have B8 := Lib.hid (show Below wr.heap.size wr w8 from by
                   first
                     | exact B6.out.trans (pb.mono B6.out.size)
                     | exact (B6.out.trans (HC2.out.mono B6.out.size)).trans (pb.mono (Nat.le_trans B6.out.size HC2.out.size)))
                 clear p1 q1 q2 q3 q4 p3 pb))
          all_goals
            go_wp2_with fail
            go_meet
            obtain rfl : S = loS ds act := HSe.out.symm
            first
              | exact ⟨_, _, _, _, _, _, rfl, Lib.hid (LFin.new (by first | exact B6.out.size | exact Nat.le_trans B6.out.size HC2.out.size) P8.out.1 P8.out.2.1 P8.out.2.2.1 P8.out.2.2.2.1 P8.out.2.2.2.2 B8.out)⟩
              | exact ⟨_, _, _, _, _, _, rfl, Lib.hid (LFin.set (Nat.le_refl _) (U6.out.lt (_, 0, .slice none 0 0) (by simp)) P8.out.1 P8.out.2.1 U8.out P8.out.2.2.1 P8.out.2.2.2.1 P8.out.2.2.2.2 B8.out)⟩
              | exact ⟨_, _, _, _, _, _, rfl, Lib.hid (LFin.set B6.out.size (by simp) P8.out.1 P8.out.2.1 U8.out P8.out.2.2.1 P8.out.2.2.2.1 P8.out.2.2.2.2 B8.out)⟩
        case rest =>
          obtain ⟨H, K, d1, d2, A1', A2', rfl, hq⟩ := hcut
          obtain ⟨D, hD⟩ : ∃ D, D = quD (loS ds act) ds := ⟨_, rfl⟩
          obtain ⟨AA, hAA⟩ : ∃ AA, AA = quA (loS ds act) ds act := ⟨_, rfl⟩
          have hDb : ∀ d ∈ D, 0 ≤ d ∧ d ≤ 20 := by
            intro d hd
            rw [hD] at hd
            obtain ⟨i, hi, rfl⟩ := List.mem_map.1 hd
            have hi := (keptL_lt hi).1
            rw [List.getElem?_eq_getElem hi]
            exact HTF.out.stem _ (List.getElem_mem hi)
          have hDl : D.length ≤ 16 := by
            rw [hD]
            unfold quD
            rw [List.length_map]
            exact Nat.le_trans (keptL_len _ _) HTF.out.len
          rw [← hD, ← hAA] at hq HV
          have HDb := Lib.hid hDb
          obtain ⟨m1, hm1⟩ : ∃ m1, m1 = D.length := ⟨_, rfl⟩
          obtain ⟨m2, hm2⟩ : ∃ m2, m2 = AA.length := ⟨_, rfl⟩
          rw [← hm1] at hDl
          rw [← hm1, ← hm2] at hq
          have HM1 := Lib.hid hm1
          have HM2 := Lib.hid hm2
          obtain ⟨wq, hwq⟩ : ∃ W : World, W = wr := ⟨_, rfl⟩
          subst hwq
          have Q0 := Lib.hid (show LFin wq wc H K A1' m1 d1 (lowD D 0) A2' m2 d2 AA from by rw [lowD_zero]; exact hq.out)
          have kh0 := hq.out.cs.at_ (b := H) (o := 0) (V := .slice A1' m1 d1) (by simp)
          clear hD hAA hDb hm1 hm2
          go_wp2_with fail
          go_loopw [9] (fun i wr => ∃ k : Nat, k ≤ m1 ∧ i = .int .i64 k ∧ Hid (LFin wq wr H K A1' m1 d1 (lowD D k) A2' m2 d2 AA)) (fun i _ => m1 - (intOf i).toNat)
          case atStart => exact ⟨0, Nat.zero_le _, rfl, Q0⟩
          case round =>
            clear Q0 kh0
            obtain ⟨k, hk, rfl, HQ⟩ := hrel
            have kh0 := HQ.out.cs.at_ (b := H) (o := 0) (V := .slice A1' m1 d1) (by simp)
            by_cases hkm : k < m1
            · obtain ⟨g, x, rfl, hx, hc, hf, hset⟩ := HQ.out.low hkm
              obtain ⟨d, hd⟩ : ∃ d, D[k]? = some d := ⟨_, List.getElem?_eq_getElem (by rw [← HM1.out]; exact hkm)⟩
              obtain rfl : x = d := by have := hx.out; rw [lowD_at hd] at this; exact (Option.some.inj this).symm
              obtain ⟨hx0, hx20⟩ := HDb.out x (List.mem_of_getElem? hd)
              have hwx : IntKind.i64.wrap (x - 1) = x - 1 := by rw [IntKind.wrap_i64]; omega
              have N7 := Lib.hid (show LFin wq (wr.setCell ⟨g, k, none⟩ (.int .i64 (x - 1))) H K (some ⟨g, 0, none⟩) m1 d1 (lowD D (k + 1)) A2' m2 d2 AA from by
                have := hset (x - 1)
                rwa [lowD_set hd] at this)
              have hki : (k : Int) < (m1 : Int) := by omega
              clear hset hd hx
              go_wp2_with fail
              go_roundw
              case rel => exact ⟨k + 1, by omega, by go_num, N7⟩
              case measure => simp [intOf]; omega
            · obtain rfl : m1 = k := by omega
              have hki : ¬ (m1 : Int) < (m1 : Int) := by omega
              have kh1 := HQ.out.cs.at_ (b := H) (o := 1) (V := .slice A2' m2 d2) (by simp)
              have hFv := Lib.hid (F1.out.below (BT1.out.trans (HQ.out.bel.mono BT1.out.size)))
              have q0 := hFv.out.at_ (b := b + 1) (o := 0) (V := .slice none 0 0) (by simp)
              have q1 := hFv.out.at_ (b := b + 1) (o := 1) (V := .slice none 0 0) (by simp)
              have f0 := hFv.out.fr (b := b + 1) (o := 0) (V := .slice none 0 0) (by simp)
              have f1 := hFv.out.fr (b := b + 1) (o := 1) (V := .slice none 0 0) (by simp)
              have hres := cells_end q0 q1 (.slice A1' m1 d1) (.slice A2' m2 d2)
              have FX := Lib.hid (show X (.returned (.tuple #[.agg #[.slice A1' m1 d1, .slice A2' m2 d2], .int .i64 0])) ((wr.setCell ⟨b + 1, 0, none⟩ (.slice A1' m1 d1)).setCell ⟨b + 1, 1, none⟩ (.slice A2' m2 d2)) from by
                rw [HV.out]
                have h1 := HQ.out
                rw [show lowD D m1 = D.map fun d => d - 1 from by rw [HM1.out]; exact lowD_all D] at h1
                exact h1.ret BT.out (by have := Hbe.out; omega) zb.out (by rw [List.length_map]; exact HM1.out.symm) HM2.out.symm)
              go_wp2_with fail
              refine bodyPost_ret (v := .tuple #[.agg #[.slice A1' m1 d1, .slice A2' m2 d2], .int .i64 0]) (by simp [results, Tryz.results16, go_sem, hres.1, hres.2]) rfl ?_
              exact FX.out
  · have HV := Lib.hid (show X = RetMc [] [] kc w from by
      rw [HX.out, hkc]
      unfold loD loA loK loB ucK
      unfold ucK at hkc
      by_cases h1 : modB ds act = true
      · rw [if_pos h1] at hkc
        by_cases h2 : (ufL ds (act.map toT)).isEmpty = true
        · rw [if_pos h2] at hkc; exact absurd hkc hz
        · have h3 : (ufL ds (act.map toT)).isEmpty = false := Bool.eq_false_iff.2 h2
          rw [h1, h3]; simp
      · have h3 : modB ds act = false := Bool.eq_false_iff.2 h1
        rw [h3]; simp)
    have hs1 : (kc == 0) = false := by simpa using hz
    have hs2 : (kc != 0) = true := by simpa using hz
    clear hkc hz
    go_enter Tryz.func16, Tryz.ntmps16
    go_wp2_with fail
    rw [← Hw.out, ← Hbe.out]
    refine C0.out.mono ?_
    rintro e w1 ⟨rfl, hb1⟩
    have F1 := Lib.hid (F0.out.below hb1)
    have r0 := F1.out.at_ (b := b + 1) (o := 0) (V := .slice none 0 0) (by simp)
    have r1 := F1.out.at_ (b := b + 1) (o := 1) (V := .slice none 0 0) (by simp)
    have f0 := F1.out.fr (b := b + 1) (o := 0) (V := .slice none 0 0) (by simp)
    have f1 := F1.out.fr (b := b + 1) (o := 1) (V := .slice none 0 0) (by simp)
    have hres := cells_end r0 r1 (.slice none 0 0) (.slice none 0 0)
    have B1 := Lib.hid (Bw0.out.trans (hb1.mono Bw0.out.size))
    clear k0 k1 hb1
    go_wp2_with fail
    refine bodyPost_ret (v := .tuple #[.agg #[.slice none 0 0, .slice none 0 0], .int .i64 kc]) (by simp [results, Tryz.results16, go_sem, hres.1, hres.2]) rfl ?_
    rw [HV.out]
    exact RetMc.void kc B1.out (by rw [Hbe.out]; omega)
end Go.Proofs.YtejojliljplcdaaGreatDoor
