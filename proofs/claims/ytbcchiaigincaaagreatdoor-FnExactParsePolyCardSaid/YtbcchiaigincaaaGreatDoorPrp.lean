/- ParsePoly on the reference's side. -/
import Derived.Test.YtbcchiaigincaaaGreatDoorPrs
import Derived.Test.YtbcchiaigincaaaGreatDoorStep
import Derived.Deep.RegionHeld3
import Derived.Deep.RegionLaw
namespace Go.Proofs.YtbcchiaigincaaaGreatDoor
open Go.RowKit
set_option linter.unusedVariables false

/-- a call of a Go function as a step of a region that draws -/
theorem step_fn {ops : Array Oper} {o : Oper} {a : Act} {w : World} {K : Act → World → Prop} {Q : Exit → Act → World → Prop} {E : Prop} {R : Ending → World → Prop} {f : FuncId} {args : Array Value}
    (hg : o.guard = none) (hrun : (execOp a.eval o).run Tryz.prog w = .ok (.enter f args) w) (hc : Calls Tryz.prog f args w R) (hK : ∀ e w', R e w' → ∃ v, e = .returned v ∧ K (a.put o.dst v) w') :
    if Region.wanted o (yielded ops a.tmps) = true then Oper.wp Tryz.prog o a w K Q else E := by
  have hw : Region.wanted o (yielded ops a.tmps) = true := by simp [Region.wanted, hg]
  rw [if_pos hw]
  unfold Oper.wp
  rw [hrun, Oper.upon_enter]
  refine hc.mono fun e w' h => ?_
  obtain ⟨v, rfl, hk⟩ := hK e w' h
  exact hk
theorem enters_op {o : Oper} {a : Act} {w : World} {f : FuncId} {xs : Array Operand} {ts : Array TypeId} (ho : o.op = .call { callee := .value (.func f), args := xs, argTypes := ts })
    (hent : ∀ args w, (callFunc f args).run Tryz.prog w = .ok (.enter f args) w) : (execOp a.eval o).run Tryz.prog w = .ok (.enter f (xs.map a.eval)) w := by
  simp [execOp, ho, resolve, invoke, hent, go_sem]
theorem step_fn2 {ops : Array Oper} {o : Oper} {a : Act} {w : World} {K : Act → World → Prop} {Q : Exit → Act → World → Prop} {E : Prop} {R : Ending → World → Prop} (f : FuncId) (x y : Operand) (ts : Array TypeId) {vx vy : Value}
    (hg : o.guard = none) (ho : o.op = .call { callee := .value (.func f), args := #[x, y], argTypes := ts }) (hent : ∀ args w, (callFunc f args).run Tryz.prog w = .ok (.enter f args) w) (hx : a.eval x = vx) (hy : a.eval y = vy)
    (hc : Calls Tryz.prog f #[vx, vy] w R) (hK : ∀ e w', R e w' → ∃ v, e = .returned v ∧ K (a.put o.dst v) w') :
    if Region.wanted o (yielded ops a.tmps) = true then Oper.wp Tryz.prog o a w K Q else E := by
  refine step_fn hg (enters_op ho hent) ?_ hK
  subst hx; subst hy
  simpa using hc
/-- what the reference reads: a struct, whether it fits, and what that says of the text -/
def RetLR (l : List UInt8) (w : World) (e : Ending) (w' : World) : Prop :=
  ∃ (v : Int) (n c : Nat) (A : Option Addr) (xss : List (List Int)) (ok : Bool), e = .returned (.tuple #[.agg #[.int .i64 v, .slice A n c], .bool ok]) ∧ OwnM w' w.heap.size w'.heap.size A n c xss ∧ Below w.heap.size w w' ∧ ppO l = (if ok = true then (v, xss, 0) else (0, [], 6))
theorem RetLR.mk {l : List UInt8} {w wn : World} {r V K n c : Nat} {A : Option Addr} {xss : List (List Int)} {v : Int} {ok : Bool} {V0 V1 : Value} (Bw : Below w.heap.size w wn) (hr : w.heap.size ≤ r) (hrV : r < V)
    (O : OwnM wn V K A n c xss) (hK : K ≤ wn.heap.size) (hp : ppO l = (if ok = true then (v, xss, 0) else (0, [], 6))) : RetLR l w (.returned (.tuple #[.agg #[.int .i64 v, .slice A n c], .bool ok])) ((wn.setCell ⟨r, 0, none⟩ V0).setCell ⟨r, 1, none⟩ V1) := by
  refine ⟨v, n, c, A, xss, ok, rfl, ?_, (Bw.setCell (p := ⟨r, 0, none⟩) hr V0).setCell (p := ⟨r, 1, none⟩) hr V1, hp⟩
  refine (OwnM.mid (B := w.heap.size) (K := V) O ((mid_setCell (p := ⟨r, 0, none⟩) V0 ⟨hr, hrV⟩).trans (mid_setCell (p := ⟨r, 1, none⟩) V1 ⟨hr, hrV⟩)) (Nat.le_refl _)).mono (Nat.le_of_lt (Nat.lt_of_le_of_lt hr hrV)) ?_
  simpa [World.setCell] using hK
theorem readLs_total (q : List (List UInt8)) : totalL (q.map readL) ≤ (Lib.join q [43]).length + 1 := by
  induction q with
  | nil => simp [totalL]
  | cons t r ih =>
    have h1 : (readL t).length ≤ t.length + 1 := by
      rw [readL_total]
      have := List.count_le_length (a := 44) (l := t)
      omega
    have e : totalL ((t :: r).map readL) = (readL t).length + totalL (r.map readL) := by simp [totalL]
    rw [e]
    cases r with
    | nil =>
      rw [Lib.join_one]
      simp only [List.map_nil]
      have : totalL [] = 0 := by simp [totalL]
      omega
    | cons x r =>
      rw [join_cons2, List.length_append, List.length_cons]
      omega
theorem ppO_len {t : List UInt8} (h : (splitU 58 t).length ≠ 2) : ppO t = (0, [], 6) := by
  unfold ppO readP
  split
  · rename_i v xss hr
    split at hr
    · rename_i p q hs
      rw [hs] at h
      exact absurd rfl h
    · cases hr
  · rfl
theorem ppO_two {t p q : List UInt8} (h : splitU 58 t = [p, q]) (xss : List (List Int)) (hx : xss = if q = [45] then [] else (splitU 43 q).map readL) : ppO t = (if polB (valF p) xss = true then (valF p, xss, 0) else (0, [], 6)) := by
  unfold ppO readP
  rw [h]
  simp only
  rw [← hx]
set_option maxRecDepth 100000 in
set_option maxHeartbeats 2000000 in
theorem read08_any (s : ByteArray) (w : World) (hs : s.size ≤ 1048576) : Calls Tryz.prog 9 #[.string s] w (RetLR s.data.toList w) := by
  obtain ⟨w0, b, hw0, hbe, hb0, hz0, hF⟩ := start1 w (.int .i64 0) (.slice none 0 0) 24
  have F0 := Lib.hid hF
  have B0 := Lib.hid hb0
  have Hw := Lib.hid hw0
  have Hbe := Lib.hid hbe
  have HZ := Lib.hid hz0
  have CS := Lib.hid (split01_any s 58 w0 (by omega))
  have e58 : ((58 : UInt8).toNat : Int) = 58 := rfl
  rw [e58] at CS
  have HP0 := Lib.hid (fun h => ppO_len (t := s.data.toList) h)
  have HP2 := Lib.hid (fun p q h => ppO_two (t := s.data.toList) (p := p) (q := q) h)
  have HJ := Lib.hid (join_splitU 58 s.data.toList)
  have HLl := Lib.hid (bytes_len s)
  obtain ⟨ts, hts⟩ : ∃ ts, ts = splitU 58 s.data.toList := ⟨_, rfl⟩
  rw [← hts] at CS HP0 HP2 HJ
  obtain ⟨X, hX⟩ : ∃ X, X = RetLR s.data.toList w := ⟨_, rfl⟩
  have HX := Lib.hid hX
  rw [← hX]
  obtain ⟨n, hn⟩ : ∃ n, n = ts.length := ⟨_, rfl⟩
  have HN := Lib.hid hn.symm
  unfold RetSp at CS
  rw [← hn] at CS
  clear hF hb0 hw0 hbe hz0 e58 hts hX hn
  go_enter Tryz.func9, Tryz.ntmps9
  go_wp2_with fail
  rw [← Hw.out, ← Hbe.out]
  refine CS.out.mono ?_
  rintro e w1 ⟨A, c, rfl, ho, hb⟩
  have HV := Lib.hid ho.rd
  have B1 := Lib.hid hb
  clear ho hb
  by_cases h2 : n = 2
  · subst h2
    obtain ⟨p, q, hpq⟩ : ∃ p q, ts = [p, q] := by
      have := HN.out
      match ts, this with
      | [p, q], _ => exact ⟨p, q, rfl⟩
    subst hpq
    obtain ⟨ad, v0, e1, _, hv0, hc0⟩ := HV.out.at_ (k := 0) (by decide)
    subst e1
    obtain ⟨ad', v1, e1, _, hv1, hc1⟩ := HV.out.at_ (k := 1) (by decide)
    injection e1 with e1
    subst e1
    have h3 := hv0.out
    have h4 := hv1.out
    simp only [List.map_cons, List.map_nil, List.getElem?_cons_zero, List.getElem?_cons_succ, Option.some.injEq] at h3 h4
    subst h3
    subst h4
    have HJ2 := Lib.hid (show s.data.toList = p ++ 58 :: q from by rw [← HJ.out, join_cons2, Lib.join_one])
    have HQL := Lib.hid (show q.length ≤ 1048576 from by
      have := congrArg List.length HJ2.out
      rw [HLl.out, List.length_append, List.length_cons] at this
      omega)
    have CV := Lib.hid (value_any ⟨p.toArray⟩ w1)
    have e2 : (ByteArray.mk p.toArray).data.toList = p := rfl
    rw [e2] at CV
    have HPX := Lib.hid (fun xss hx => HP2.out p q rfl xss hx)
    obtain ⟨x, hx⟩ : ∃ x, x = valF p := ⟨_, rfl⟩
    rw [← hx] at CV HPX
    obtain ⟨pb, hpb⟩ : ∃ pb : ByteArray, pb = ⟨p.toArray⟩ := ⟨_, rfl⟩
    obtain ⟨qb, hqb⟩ : ∃ qb : ByteArray, qb = ⟨q.toArray⟩ := ⟨_, rfl⟩
    simp only [strB] at hc0 hc1
    rw [← hpb] at hc0 CV
    rw [← hqb] at hc1
    have HQB := Lib.hid (show qb.data.toList = q from by rw [hqb])
    clear hx hpb hv0 hv1 hqb e2 HP2 HP0
    have hc0' : w1.cell? ad = some (.string pb) := by simpa [Addr.add] using hc0
    have had : ad.block < w1.heap.size := World.block_lt_of_cell? w1 _ hc0'
    obtain ⟨w2, hw2⟩ : ∃ W, W = w1.alloc (.cells #[.int .i64 x, .slice none 0 0] 24) := ⟨_, rfl⟩
    obtain ⟨bo, hbo⟩ : ∃ B, B = w1.heap.size := ⟨_, rfl⟩
    have hCo : Cells [(bo, 1, .slice none 0 0), (bo, 0, .int .i64 x)] w2 := by
      rw [hw2]
      exact (Cells.nil.alloc2 (.int .i64 x) (.slice none 0 0) 24 hbo).sub (by simp)
    have hz2 : w2.heap.size = bo + 1 := by rw [hw2, hbo]; simp
    have hB2 : Below w0.heap.size w0 w2 := by rw [hw2]; exact B1.out.alloc B1.out.size _
    have hB12 : Below w1.heap.size w1 w2 := by rw [hw2]; exact (Below.refl _ _).alloc (Nat.le_refl _) _
    have hbo0 : w0.heap.size ≤ bo := by rw [hbo]; exact B1.out.size
    have hc1w : w2.cell? (ad.add 1) = some (.string qb) := (hB12.cell (p := ad.add 1) (by rw [block_of_add]; exact had)).trans hc1
    have hb1b : b < bo := by have := HZ.out; omega
    have hc00 : w1.cell? (ad.add 0) = some (.string pb) := hc0
    have hc1r : (w1.alloc (.cells #[.int .i64 x, .slice none 0 0] 24)).cell? ⟨ad.block, ad.off + 1, none⟩ = some (.string qb) := by rw [← hw2]; simpa [Addr.add] using hc1w
    have CO := Lib.hid hCo
    have HW2 := Lib.hid hw2
    have HBO := Lib.hid hbo
    have BW2 := Lib.hid hB2
    clear hCo hB12 had hw2 hbo hB2 hc0 hc00
    by_cases hq : q = [45]
    · have hqt : (qb.toList == [45]) = true := by rw [ByteArray.toList_eq, HQB.out, hq]; rfl
      have HPY := Lib.hid (HPX.out [] (by rw [if_pos hq]))
      clear hq
      go_wp2_with fail
      refine CV.out.mono ?_
      rintro e w1' ⟨rfl, rfl⟩
      go_wp2_with fail
      rw [← HW2.out, ← HBO.out]
      go_upto_region 11 with fail
      have k0 := CO.out.at_ (b := bo) (o := 0) (V := .int .i64 x) (by simp)
      have k1 := CO.out.at_ (b := bo) (o := 1) (V := .slice none 0 0) (by simp)
      have CI := Lib.hid (l08Is_any x none 0 0 [] w2.drew RdL.nil (by decide) (by decide))
      rw [show polB x [] = polB x [] from rfl] at CI
      obtain ⟨ok, hok⟩ : ∃ ok, ok = polB x [] := ⟨_, rfl⟩
      rw [← hok] at CI HPY
      clear hok
      go_region_held3 (fun w' => w'.cell? ⟨bo, 0, none⟩ = some (.int .i64 x) ∧ w'.cell? ⟨bo, 1, none⟩ = some (.slice none 0 0)) (first | exact ⟨k0, k1⟩ | exact ⟨p0, p1⟩ | (refine ⟨?_, ?_⟩ <;> (refine (World.cell?_setCell_far _ _ _ _ (Nat.ne_of_lt hb1b)).trans ((World.cell?_setCell_far _ _ _ _ (Nat.ne_of_lt hb1b)).trans ?_); assumption)))
        (first
          | (go_at_call 22
             refine CI.out.mono ?_
             rintro e u ⟨rfl, hbu⟩
             have CU := Lib.hid (CO.out.below (show Below w2.heap.size w2 u from (below_drewN (Below.refl _ _) 1).trans hbu))
             have BU := Lib.hid (BW2.out.trans ((show Below w2.heap.size w2 u from (below_drewN (Below.refl _ _) 1).trans hbu).mono BW2.out.size))
             have p0 := CU.out.at_ (b := bo) (o := 0) (V := .int .i64 x) (by simp)
             have p1 := CU.out.at_ (b := bo) (o := 1) (V := .slice none 0 0) (by simp)
             have q0 := (F0.out.below BU.out).at_ (b := b) (o := 0) (V := .int .i64 0) (by simp)
             have q1 := (F0.out.below BU.out).at_ (b := b) (o := 1) (V := .slice none 0 0) (by simp)
             have f0 := (F0.out.below BU.out).fr (b := b) (o := 0) (V := .int .i64 0) (by simp)
             have f1 := (F0.out.below BU.out).fr (b := b) (o := 1) (V := .slice none 0 0) (by simp)))
      all_goals
        have hres := cells_end q0 q1 (.int .i64 x) (.slice none 0 0)
        go_wp2_with fail
        refine bodyPost_ret (v := .tuple #[.agg #[.int .i64 x, .slice none 0 0], .bool ok]) (by simp [results, Tryz.results9, go_sem, hres.1, hres.2]) rfl ?_
        rw [HX.out]
        exact RetLR.mk (V := b + 1) (K := 0) (xss := []) (B0.out.trans (BU.out.mono B0.out.size)) (by rw [Hbe.out]; exact Nat.le_refl _) (Nat.lt_succ_self _) OwnM.nil (Nat.zero_le _) HPY.out
    · have hqt : (qb.toList == [45]) = false := by rw [ByteArray.toList_eq, HQB.out]; exact beq_eq_false_iff_ne.2 hq
      have HPY := Lib.hid (fun xss (hx : xss = (splitU 43 q).map readL) => HPX.out xss (by rw [if_neg hq]; exact hx))
      have hqs : qb.size ≤ 1048576 := by rw [← bytes_len, HQB.out]; exact HQL.out
      have CS2 := Lib.hid (split01_any qb 43 w2 (by omega))
      have e43 : ((43 : UInt8).toNat : Int) = 43 := rfl
      rw [e43, HQB.out] at CS2
      have HTOT := Lib.hid (readLs_total (splitU 43 q))
      rw [join_splitU] at HTOT
      have HLU := Lib.hid (show (splitU 43 q).length ≤ 1048577 from by
        rw [splitU_len]
        have := List.count_le_length (a := 43) (l := q)
        have := HQL.out
        omega)
      have HUL := Lib.hid (fun (t : List UInt8) (ht : t ∈ splitU 43 q) => show t.length ≤ 1048576 from by
        have : ∀ (L : List (List UInt8)), t ∈ L → t.length ≤ (Lib.join L [43]).length := by
          intro L
          induction L with
          | nil => intro h; cases h
          | cons a r ih =>
            intro h
            cases r with
            | nil =>
              rw [List.mem_singleton] at h
              subst h
              rw [Lib.join_one]; exact Nat.le_refl _
            | cons x r =>
              rw [join_cons2, List.length_append, List.length_cons]
              rcases List.mem_cons.1 h with rfl | h
              · omega
              · have := ih h; omega
        have h1 := this _ ht
        rw [join_splitU] at h1
        have := HQL.out
        omega)
      obtain ⟨us, hus⟩ : ∃ us, us = splitU 43 q := ⟨_, rfl⟩
      rw [← hus] at CS2 HTOT HLU HUL
      have HPZ := Lib.hid (fun xss (hx : xss = us.map readL) => HPY.out xss (by rw [← hus]; exact hx))
      obtain ⟨n2, hn2⟩ : ∃ n, n = us.length := ⟨_, rfl⟩
      have HN2 := Lib.hid hn2.symm
      have hn2l : n2 ≤ 1048577 := by rw [hn2]; exact HLU.out
      unfold RetSp at CS2
      rw [← hn2] at CS2
      clear hq hus hn2 e43 HPY
      go_wp2_with fail
      refine CV.out.mono ?_
      rintro e w1' ⟨rfl, rfl⟩
      go_wp2_with fail
      rw [← HW2.out, ← HBO.out]
      go_wp2_with fail
      refine CS2.out.mono ?_
      rintro e w3 ⟨A2, c2, rfl, ho3, hb3⟩
      have HV2 := Lib.hid ho3
      have B3 := Lib.hid hb3
      have hz3 : bo + 1 ≤ w3.heap.size := by rw [← hz2]; exact hb3.size
      have CO3 := Lib.hid (CO.out.below hb3)
      have BW3 := Lib.hid (BW2.out.trans (hb3.mono BW2.out.size))
      have HO3 : Hid (OwnL w3 w3.heap.size w3.heap.size none 0 0 []) := Lib.hid OwnL.nil
      have HM3 := Lib.hid (show Mid bo (bo + 1) w3 w3 from Mid.refl _ _ _)
      clear ho3 hb3
      go_wp2_with fail
      go_loopw [7] (fun i wr => ∃ (k c' : Nat) (A' : Option Addr) (acc : List (List Int)), k ≤ n2 ∧ i = .int .i64 k ∧ Hid (acc = (us.take k).map readL) ∧ Hid (Cells [(bo, 1, .slice A' k c'), (bo, 0, .int .i64 x)] wr) ∧ Hid (OwnL wr w3.heap.size wr.heap.size A' k c' acc) ∧ Hid (Mid bo (bo + 1) w3 wr)) (fun i _ => n2 - (intOf i).toNat)
      case atStart => exact ⟨0, 0, none, [], Nat.zero_le _, rfl, Lib.hid (by simp), CO3, HO3, HM3⟩
      case round =>
        clear CO3 HO3 HM3
        obtain ⟨k, c', A', acc, hk, rfl, HA, CK, HO, HM⟩ := hrel
        have hzr : w3.heap.size ≤ wr.heap.size := HM.out.size
        have BWR := Lib.hid (BW3.out.trans ((HM.out.below (by omega)).mono hbo0))
        by_cases hlt : k < n2
        · have HVr := Lib.hid (show OwnV wr w2.heap.size 9 A2 n2 c2 (us.map strB) from ⟨HV2.out.len, ownsRow_same HV2.out.own fun g hg => HM.out.block g (HV2.out.own.lt g hg).2 (.inr (by have := (HV2.out.own.lt g hg).1; omega))⟩)
          obtain ⟨ad2, v2, e1, _, hv2, hcx⟩ := HVr.out.rd.at_ hlt
          subst e1
          obtain ⟨t, ht⟩ : ∃ t, us[k]? = some t := ⟨_, List.getElem?_eq_getElem (by rw [HN2.out]; exact hlt)⟩
          have hv3 := hv2.out
          rw [List.getElem?_map, ht] at hv3
          obtain rfl := Option.some.inj hv3
          have HT := Lib.hid (show (us.take (k + 1)).map readL = acc ++ [readL t] from by rw [List.take_add_one, ht, HA.out]; simp)
          have htl : t.length ≤ 1048576 := HUL.out t (List.mem_of_getElem? ht)
          simp only [strB] at hcx
          obtain ⟨tb, htb⟩ : ∃ tb : ByteArray, tb = ⟨t.toArray⟩ := ⟨_, rfl⟩
          have htbs : tb.size ≤ 1048576 := by rw [htb]; exact htl
          have htbd : tb.data.toList = t := by rw [htb]
          rw [← htb] at hcx
          have CR := Lib.hid (read01_any tb 44 wr.drew (by omega))
          have e44 : ((44 : UInt8).toNat : Int) = 44 := rfl
          rw [e44, htbd] at CR
          rw [show (splitU 44 t).map valF = readL t from rfl] at CR
          obtain ⟨n6, hn6⟩ : ∃ n, n = (splitU 44 t).length := ⟨_, rfl⟩
          rw [← hn6] at CR
          clear hv2 hv3 ht htb htbd e44 hn6
          have k1 := CK.out.at_ (b := bo) (o := 1) (V := .slice A' k c') (by simp)
          have kf := CK.out.fr (b := bo) (o := 1) (V := .slice A' k c') (by simp)
          have hkn : (k : Int) < (n2 : Int) := by omega
          have Xd := Lib.hid (show Below wr.heap.size wr wr.drew from below_drewN (Below.refl _ _) 1)
          have hk3 : k ≤ 3000000000000 := by omega
          go_upto_region 10 with fail
          have hent : ∀ args w, (callFunc 21 args).run Tryz.prog w = .ok (.enter 21 args) w := enters_of Tryz.func21 (by kernel_rfl) rfl
          go_region_law
            (first
              | (refine step_fn2 21 (.tmp 38) (.const (.int .u8 44)) #[9, 5] rfl rfl hent rfl rfl CR.out ?_
                 rintro e u ⟨A6, c6, rfl, ho6, hb6⟩
                 refine ⟨_, rfl, ?_⟩
                 have N6 := Lib.hid (show OwnS u wr.heap.size A6 n6 c6 (readL t) from ho6)
                 have X6 := Lib.hid (Xd.out.trans hb6)
                 have S6 := Lib.hid (show StL wr w3.heap.size u wr.heap.size A' k c' acc from ⟨HO.out.below X6.out, X6.out.mono hzr, hzr, X6.out.size⟩)
                 have k16 := (CK.out.below X6.out).at_ (b := bo) (o := 1) (V := .slice A' k c') (by simp)
                 have k16a := (CK.out.below (X6.out.alloc X6.out.size (.cells #[.slice A6 n6 c6] 36))).at_ (b := bo) (o := 1) (V := .slice A' k c') (by simp)
                 clear ho6 hb6)
              | (refine step_pushL (by rfl) (.tmp 34) (.tmp 40) rfl rfl rfl rfl S6.out N6.out hk3 ?_
                 intro A7 c7 w7 hs7 _ _
                 have S7 := Lib.hid hs7
                 have C7 := Lib.hid (CK.out.belowB hs7.bel (by simp; omega))
                 have k17 := C7.out.at_ (b := bo) (o := 1) (V := .slice A' k c') (by simp)
                 have f17 := C7.out.fr (b := bo) (o := 1) (V := .slice A' k c') (by simp)
                 clear hs7))
          all_goals
            have CO6 := Lib.hid (show Cells [(bo, 1, .slice A7 (k + 1) c7), (bo, 0, .int .i64 x)] (w7.setCell ⟨bo, 1, none⟩ (.slice A7 (k + 1) c7)) from C7.out.set (by simp) _)
            have HO6 := Lib.hid (show OwnL (w7.setCell ⟨bo, 1, none⟩ (.slice A7 (k + 1) c7)) w3.heap.size (w7.setCell ⟨bo, 1, none⟩ (.slice A7 (k + 1) c7)).heap.size A7 (k + 1) c7 (acc ++ [readL t]) from
              (S7.out.own.mid (mid_setCell (p := ⟨bo, 1, none⟩) _ ⟨Nat.le_refl _, Nat.lt_succ_self _⟩) hz3).mono (Nat.le_refl _) (by simp [World.setCell]))
            have HM6 := Lib.hid (show Mid bo (bo + 1) w3 (w7.setCell ⟨bo, 1, none⟩ (.slice A7 (k + 1) c7)) from
              (⟨S7.out.bel.os.trans HM.out.os, S7.out.bel.tape.trans HM.out.tape, S7.out.bel.output.trans HM.out.output, Nat.le_trans HM.out.size S7.out.bel.size, fun i hi hh => (S7.out.bel.block i hi).trans (HM.out.block i hi hh)⟩ : Mid bo (bo + 1) w3 w7).trans (mid_setCell (p := ⟨bo, 1, none⟩) _ ⟨Nat.le_refl _, Nat.lt_succ_self _⟩))
            go_wp2_with fail
            go_roundw
            case rel => exact ⟨k + 1, c7, A7, _, by omega, by go_num, Lib.hid HT.out.symm, CO6, HO6, HM6⟩
            case measure => simp [intOf]; omega
        · obtain rfl : k = n2 := by omega
          have HAx := Lib.hid (show acc = us.map readL from by rw [HA.out, List.take_of_length_le (by rw [HN2.out]; exact Nat.le_refl _)])
          have HPW := Lib.hid (HPZ.out acc HAx.out)
          have k0 := CK.out.at_ (b := bo) (o := 0) (V := .int .i64 x) (by simp)
          have k1 := CK.out.at_ (b := bo) (o := 1) (V := .slice A' k c') (by simp)
          have CI := Lib.hid (l08Is_any x A' k c' acc wr.drew (HO.out.rd.drewN 1) (by omega) (by rw [HAx.out]; exact Nat.le_trans HTOT.out (by have := HQL.out; omega)))
          obtain ⟨ok, hok⟩ : ∃ ok, ok = polB x acc := ⟨_, rfl⟩
          rw [← hok] at CI HPW
          clear hok
          go_upto_region 11 with fail
          go_region_held3 (fun w' => w'.cell? ⟨bo, 0, none⟩ = some (.int .i64 x) ∧ w'.cell? ⟨bo, 1, none⟩ = some (.slice A' k c')) (first | exact ⟨k0, k1⟩ | exact ⟨p0, p1⟩ | (refine ⟨?_, ?_⟩ <;> (refine (World.cell?_setCell_far _ _ _ _ (Nat.ne_of_lt hb1b)).trans ((World.cell?_setCell_far _ _ _ _ (Nat.ne_of_lt hb1b)).trans ?_); assumption)))
            (first
              | (go_at_call 22
                 refine CI.out.mono ?_
                 rintro e u ⟨rfl, hbu⟩
                 have XU := Lib.hid (show Below wr.heap.size wr u from (below_drewN (Below.refl _ _) 1).trans hbu)
                 have CU := Lib.hid (CK.out.below XU.out)
                 have BU := Lib.hid (BWR.out.trans (XU.out.mono BWR.out.size))
                 have OU := Lib.hid (HO.out.below XU.out)
                 have p0 := CU.out.at_ (b := bo) (o := 0) (V := .int .i64 x) (by simp)
                 have p1 := CU.out.at_ (b := bo) (o := 1) (V := .slice A' k c') (by simp)
                 have q0 := (F0.out.below BU.out).at_ (b := b) (o := 0) (V := .int .i64 0) (by simp)
                 have q1 := (F0.out.below BU.out).at_ (b := b) (o := 1) (V := .slice none 0 0) (by simp)
                 have f0 := (F0.out.below BU.out).fr (b := b) (o := 0) (V := .int .i64 0) (by simp)
                 have f1 := (F0.out.below BU.out).fr (b := b) (o := 1) (V := .slice none 0 0) (by simp)))
          all_goals
            have hres := cells_end q0 q1 (.int .i64 x) (.slice A' k c')
            go_wp2_with fail
            refine bodyPost_ret (v := .tuple #[.agg #[.int .i64 x, .slice A' k c'], .bool ok]) (by simp [results, Tryz.results9, go_sem, hres.1, hres.2]) rfl ?_
            rw [HX.out]
            exact RetLR.mk (V := w3.heap.size) (B0.out.trans (BU.out.mono B0.out.size)) (by rw [Hbe.out]; exact Nat.le_refl _) (by omega) (OU.out.m XU.out.size) (Nat.le_refl _) HPW.out
  · have HV0 := Lib.hid (HP0.out (fun e => h2 (by rw [← HN.out]; exact e)))
    have hn2 : ((n : Int) == 2) = false := by simp; omega
    have hn3 : ((n : Int) != 2) = true := by simp; omega
    have q0 := (F0.out.below B1.out).at_ (b := b) (o := 0) (V := .int .i64 0) (by simp)
    have q1 := (F0.out.below B1.out).at_ (b := b) (o := 1) (V := .slice none 0 0) (by simp)
    have f0 := (F0.out.below B1.out).fr (b := b) (o := 0) (V := .int .i64 0) (by simp)
    have f1 := (F0.out.below B1.out).fr (b := b) (o := 1) (V := .slice none 0 0) (by simp)
    have hres := cells_end q0 q1 (.int .i64 0) (.slice none 0 0)
    clear h2
    go_wp2_with fail
    refine bodyPost_ret (v := .tuple #[.agg #[.int .i64 0, .slice none 0 0], .bool false]) (by simp [results, Tryz.results9, go_sem, hres.1, hres.2]) rfl ?_
    rw [HX.out]
    exact RetLR.mk (V := b + 1) (K := 0) (xss := []) (B0.out.trans (B1.out.mono B0.out.size)) (by rw [Hbe.out]; exact Nat.le_refl _) (Nat.lt_succ_self _) OwnM.nil (Nat.zero_le _) (by rw [HV0.out]; rfl)
theorem OwnM.len0 {w : World} {B K n c : Nat} {A : Option Addr} {xss : List (List Int)} (h : OwnM w B K A n c xss) : n = xss.length := h.own.len.symm
set_option maxRecDepth 100000 in
theorem sParsePoly (s : ByteArray) (w : World) (hs : s.size ≤ 1048576) : Calls Tryz.prog 4 #[.string s] w (RetNC (ppO s.data.toList).1 (ppO s.data.toList).2.1.length (ppO s.data.toList).2.1 (ppO s.data.toList).2.2 w) := by
  obtain ⟨w0, b, hw0, hbe, hb0, hz0, hF⟩ := start1 w (.int .i64 0) (.slice none 0 0) 24
  have F0 := Lib.hid hF
  have B0 := Lib.hid hb0
  have Hw := Lib.hid hw0
  have Hbe := Lib.hid hbe
  have HZ := Lib.hid hz0
  have CS := Lib.hid (read08_any s w0 hs)
  obtain ⟨l, hl⟩ : ∃ l, l = s.data.toList := ⟨_, rfl⟩
  rw [← hl] at CS ⊢
  obtain ⟨X, hX⟩ : ∃ X, X = RetNC (ppO l).1 (ppO l).2.1.length (ppO l).2.1 (ppO l).2.2 w := ⟨_, rfl⟩
  have HX := Lib.hid hX
  rw [← hX]
  unfold RetLR at CS
  clear hF hb0 hw0 hbe hz0 hl hX
  go_enter Tryz.func4, Tryz.ntmps4
  go_wp2_with fail
  rw [← Hw.out, ← Hbe.out]
  refine CS.out.mono ?_
  rintro e w1 ⟨v, n, c, A, xss, ok, rfl, ho, hb, hp⟩
  have HP := Lib.hid hp
  have B1 := Lib.hid hb
  have HO := Lib.hid ho
  clear ho hb hp
  obtain ⟨w2, hw2⟩ : ∃ W, W = w1.alloc (.cells #[.int .i64 v, .slice A n c] 24) := ⟨_, rfl⟩
  obtain ⟨bo, hbo⟩ : ∃ B, B = w1.heap.size := ⟨_, rfl⟩
  have hCo : Cells [(bo, 0, .int .i64 v), (bo, 1, .slice A n c)] w2 := by
    rw [hw2]
    exact Cells.nil.alloc2 (.int .i64 v) (.slice A n c) 24 hbo
  have hB12 : Below w1.heap.size w1 w2 := by rw [hw2]; exact (Below.refl _ _).alloc (Nat.le_refl _) _
  have B2 := Lib.hid (B1.out.trans (hB12.mono B1.out.size))
  have HO2 := Lib.hid (HO.out.below hB12)
  have HW2 := Lib.hid hw2
  have HBO := Lib.hid hbo
  have hz2 : w1.heap.size ≤ w2.heap.size := hB12.size
  clear hw2 hbo hB12
  have q0 := (F0.out.below B2.out).at_ (b := b) (o := 0) (V := .int .i64 0) (by simp)
  have q1 := (F0.out.below B2.out).at_ (b := b) (o := 1) (V := .slice none 0 0) (by simp)
  have f0 := (F0.out.below B2.out).fr (b := b) (o := 0) (V := .int .i64 0) (by simp)
  have f1 := (F0.out.below B2.out).fr (b := b) (o := 1) (V := .slice none 0 0) (by simp)
  rw [HW2.out] at q0 q1 f0 f1
  have k0 := hCo.at_ (b := bo) (o := 0) (V := .int .i64 v) (by simp)
  have k1 := hCo.at_ (b := bo) (o := 1) (V := .slice A n c) (by simp)
  rw [HW2.out, HBO.out] at k0 k1
  clear hCo
  cases ok
  · have HV := Lib.hid (show ppO l = (0, [], 6) from HP.out)
    have hres := cells_end q0 q1 (.int .i64 0) (.slice none 0 0)
    go_wp2_with fail
    refine bodyPost_ret (v := .tuple #[.agg #[.int .i64 0, .slice none 0 0], .int .i64 6]) (by simp [results, Tryz.results4, go_sem, hres.1, hres.2]) rfl ?_
    rw [HX.out, ← HW2.out]
    exact RetNC.bad (by rw [HV.out]) (by rw [HV.out]) (by rw [HV.out]) (B0.out.trans (B2.out.mono B0.out.size)) (by rw [Hbe.out]; exact Nat.le_refl _)
  · have HV := Lib.hid (show ppO l = (v, xss, 0) from HP.out)
    have hres := cells_end q0 q1 (.int .i64 v) (.slice A n c)
    go_wp2_with fail
    refine bodyPost_ret (v := .tuple #[.agg #[.int .i64 v, .slice A n c], .int .i64 0]) (by simp [results, Tryz.results4, go_sem, hres.1, hres.2]) rfl ?_
    rw [HX.out, ← HW2.out]
    exact RetNC.mk (V := w0.heap.size) (by rw [HV.out]) (by rw [HV.out]; exact HO.out.len0) (by rw [HV.out]) (by rw [HV.out]) (B0.out.trans (B2.out.mono B0.out.size)) (by rw [Hbe.out]; exact Nat.le_refl _) (by have := HZ.out; omega) HO2.out hz2
end Go.Proofs.YtbcchiaigincaaaGreatDoor
