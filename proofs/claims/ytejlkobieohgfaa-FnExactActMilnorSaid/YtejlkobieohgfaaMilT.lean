/- impl.splits, spec.l08Parts: all ways to part an exponent list. -/
import Derived.Test.YtejlkobieohgfaaPrt
import Derived.Deep.RegionHeld3
namespace Go.Proofs.Ytejlkobieohgfaa
open Go.RowKit
set_option linter.unusedVariables false

theorem step_pushI {w0 w : World} {ops : Array Oper} {o : Oper} {a : Act} {K : Act → World → Prop} {Q : Exit → Act → World → Prop} {E : Prop} (hgd : o.guard = none) (s x : Operand)
    (ho : o.op = .call { callee := .builtin .append, args := #[s, x], argTypes := #[29, 29] }) {B n c : Nat} {A : Option Addr} {xs : List Int} {y : Int} {H : Nat}
    (hs : a.eval s = .slice A n c) (hH : w.heap.size = H) (hx : a.eval x = .slice (some ⟨H, 0, Option.none⟩) 1 1) (hst : StS w0 B w A n c xs) (hn : n ≤ 2000000000000)
    (h : ∀ A2 c2 w', StS w0 B w' A2 (n + 1) c2 (xs ++ [y]) → K (a.put o.dst (.slice A2 (n + 1) c2)) w') :
    if Region.wanted o (yielded ops a.tmps) = true then Oper.wp Try.prog o a (w.alloc (.cells #[.int .i64 y] 2)) K Q else E := by
  subst hH
  exact step_joinI hgd s x ho hs hx (hst.call ((Below.refl _ _).alloc (Nat.le_refl _) _)) (rd_new w y 2) (by omega) fun A2 c2 w' h1 _ => h A2 c2 w' h1
theorem size_alloc1 (w : World) (o : Obj) : (w.alloc o).heap.size = w.heap.size + 1 := by simp
theorem below_al {wz W : World} (h : Below wz.heap.size wz W) (o : Obj) : Below wz.heap.size wz (W.alloc o) := h.alloc h.size o
theorem below_dr {wz W : World} (h : Below wz.heap.size wz W) : Below wz.heap.size wz W.drew := below_drewN h 1
theorem callStS {wr W u : World} {A : Option Addr} {n c : Nat} {xs : List Int} (h : Below wr.heap.size wr W) (ho : OwnS u W.heap.size A n c xs) (hb : Below W.heap.size W u) : StS wr wr.heap.size u A n c xs := ⟨ho.mono h.size, h.trans (hb.mono h.size), Nat.le_trans h.size hb.size⟩
theorem stS_al {wr W : World} {A : Option Addr} {n c : Nat} {xs : List Int} (h : StS wr wr.heap.size W A n c xs) (o : Obj) : StS wr wr.heap.size (W.alloc o) A n c xs := h.call ((Below.refl _ _).alloc (Nat.le_refl _) _)
/-- the cell of a literal of one number -/
def Cl (W : World) (H : Nat) (v : Value) : Prop := H < W.heap.size ∧ W.cell? ⟨H, 0, none⟩ = some v
theorem cl_new (W : World) (v : Value) (T : TypeId) : Cl (W.alloc (.cells #[v] T)) W.heap.size v := ⟨by simp, by simp⟩
theorem cl_below {W u : World} {H : Nat} {v : Value} (h : Cl W H v) (hb : Below W.heap.size W u) : Cl u H v := ⟨Nat.lt_of_lt_of_le h.1 hb.size, (hb.cell (p := ⟨H, 0, none⟩) h.1).trans h.2⟩
theorem cl_dr {W : World} {H : Nat} {v : Value} (h : Cl W H v) : Cl W.drew H v := h
theorem cl_al {W : World} {H : Nat} {v : Value} (h : Cl W H v) (o : Obj) : Cl (W.alloc o) H v := cl_below h ((Below.refl _ _).alloc (Nat.le_refl _) _)
theorem cl_new2 (W : World) (o : Obj) (v : Value) (T : TypeId) : Cl ((W.alloc o).alloc (.cells #[v] T)) (W.heap.size + 1) v := by
  have := cl_new (W.alloc o) v T
  rwa [size_alloc1] at this
theorem cl_grown {W w' : World} {H : Nat} {v : Value} {row : Option Nat} (hg : W.grownBy w' row) (h : Cl W H v) (hne : row ≠ some H) : Cl w' H v := by
  refine ⟨Nat.lt_of_lt_of_le h.1 hg.size, ?_⟩
  have := hg.block H h.1 (fun e => hne e.symm)
  rw [← h.2]
  simp only [World.cell?, this]
theorem ne_of {u W : World} {A : Option Addr} {n c H : Nat} {xs : List Int} (ho : OwnS u W.heap.size A n c xs) (h : H < W.heap.size) : Value.ownBlock (.slice A n c) ≠ some H := fun e => by
  have := (ho.own.lt H e).1
  omega
theorem ne_of2 {u : World} {B : Nat} {A : Option Addr} {n c H : Nat} {xs : List Int} (ho : OwnS u B A n c xs) (h : u.heap.size ≤ H) : Value.ownBlock (.slice A n c) ≠ some H := fun e => by
  have := (ho.own.lt H e).2
  omega
theorem rd_cl {W : World} {H : Nat} {x : Int} (h : Cl W H (.int .i64 x)) : RdS W (H + 1) (some ⟨H, 0, none⟩) 1 1 [x] :=
  ⟨rfl, Nat.le_refl _, fun j hj => ⟨_, rfl, Nat.lt_succ_self _, by
    have : j = 0 := by simpa using hj
    subst this
    simpa [Addr.add] using h.2⟩⟩
theorem start_prt (w : World) : StT w w.heap.size ((((w.alloc (.cells #[] 2)).alloc (.cells #[] 2)).alloc (.cells #[.slice (some ⟨w.heap.size, 0, none⟩) 0 0, .slice (some ⟨w.heap.size + 1, 0, none⟩) 0 0] 29)).alloc (.cells #[.slice (some ⟨w.heap.size + 1 + 1, 0, none⟩) 2 2] 22))
    (w.heap.size + 1 + 1 + 1 + 1) (some ⟨w.heap.size + 1 + 1 + 1, 0, none⟩) 1 1 ((prt []).map pr) := by
  have o1 := (own_empty w w.heap.size (Nat.le_refl _)).alloc (.cells #[] 2)
  have o2 := own_empty (w.alloc (.cells #[] 2)) (w.alloc (.cells #[] 2)).heap.size (Nat.le_refl _)
  have P := ownM_pair o1 (M := (w.alloc (.cells #[] 2)).heap.size) (fun g hg => by
    have e : some w.heap.size = some g := hg
    injection e with e
    simp; omega) o2 (by simp) (by simp; omega)
  have hb : Below w.heap.size w (((w.alloc (.cells #[] 2)).alloc (.cells #[] 2)).alloc (.cells #[.slice (some ⟨w.heap.size, 0, none⟩) 0 0, .slice (some ⟨(w.alloc (.cells #[] 2)).heap.size, 0, none⟩) 0 0] 29)) :=
    (((Below.refl _ _).alloc (Nat.le_refl _) _).alloc (by simp) _).alloc (by simp; omega) _
  have := stT_one hb (Nat.le_refl _) P (by simp) (by simp; omega)
  simpa [prt, pr] using this
theorem stT_down {w0 w1 w : World} {B K n c : Nat} {A : Option Addr} {ps : Lls} (h : StT w1 w1.heap.size w K A n c ps) (hb : Below B w0 w1) (hV : B ≤ w1.heap.size) : StT w0 B w K A n c ps := ⟨h.own.down hV, hb.trans (h.bel.mono hV), Nat.le_trans hV h.lo, h.hi⟩
theorem prT_set {PS : List (List Int × List Int)} {j : Nat} {e : List Int × List Int} (h : Hid (PS[j]? = some e)) : ((PS.take j).map prT ++ (PS.drop j).map pr).set j [trimL e.1, trimL e.2] = (PS.take (j + 1)).map prT ++ (PS.drop (j + 1)).map pr := by
  obtain ⟨hj, he⟩ := List.getElem?_eq_some_iff.1 h.out
  have hl : ((PS.take j).map prT).length = j := by rw [List.length_map, List.length_take]; omega
  rw [List.set_append_right _ _ (by omega), hl, Nat.sub_self, List.drop_eq_getElem_cons hj, he, List.map_cons, List.set_cons_zero, List.take_add_one, h.out, List.map_append]
  simp [prT]
theorem trim_step {w wr : World} {g lo hi K L c' c3 j m1 m2 c1 c2 : Nat} {A A1 A2 A3 : Option Addr} {PS : List (List Int × List Int)} {e : List Int × List Int} (HO : StT w w.heap.size wr K A L c' ((PS.take j).map prT ++ (PS.drop j).map pr)) (hlo : w.heap.size ≤ lo)
    (hset : ∀ (w2 : World) yss, OwnM w2 lo hi A3 2 c3 yss → Mid lo hi wr w2 → OwnT w2 w.heap.size K A L c' (((PS.take j).map prT ++ (PS.drop j).map pr).set j yss))
    (hcut : OwnM ((wr.setCell ⟨g, 0, none⟩ (.slice A1 m1 c1)).setCell ⟨g, 1, none⟩ (.slice A2 m2 c2)) lo hi A3 2 c3 [e.1.take m1, e.2.take m2] ∧ Mid lo hi wr ((wr.setCell ⟨g, 0, none⟩ (.slice A1 m1 c1)).setCell ⟨g, 1, none⟩ (.slice A2 m2 c2)))
    (hg : w.heap.size ≤ g) (he : Hid (PS[j]? = some e)) (h1 : trimL e.1 = e.1.take m1) (h2 : trimL e.2 = e.2.take m2) :
    StT w w.heap.size ((wr.setCell ⟨g, 0, none⟩ (.slice A1 m1 c1)).setCell ⟨g, 1, none⟩ (.slice A2 m2 c2)).drew K A L c' ((PS.take (j + 1)).map prT ++ (PS.drop (j + 1)).map pr) := by
  obtain ⟨X, hX⟩ : ∃ X, X = (wr.setCell ⟨g, 0, none⟩ (.slice A1 m1 c1)).setCell ⟨g, 1, none⟩ (.slice A2 m2 c2) := ⟨_, rfl⟩
  have hb : Below w.heap.size w X := by rw [hX]; exact (HO.bel.setCell (p := ⟨g, 0, none⟩) hg _).setCell (p := ⟨g, 1, none⟩) hg _
  have hs : X.heap.size = wr.heap.size := by rw [hX]; simp [World.setCell]
  rw [← hX] at hcut ⊢
  have hd : Below X.heap.size X X.drew := below_drewN (Below.refl _ _) 1
  have h3 := hset X.drew _ (hcut.1.below hd) (hcut.2.trans (Mid.of_below hd))
  rw [← h1, ← h2, prT_set he] at h3
  exact ⟨h3, hb.trans (hd.mono (by rw [hs]; exact HO.size)), HO.lo, by show K ≤ X.heap.size; rw [hs]; exact HO.hi⟩
/-- two rows, one laid behind the other, in a list -/
theorem pair_made {wr w7 w9 : World} {A7 A9 : Option Addr} {n7 c7 n9 c9 : Nat} {x y : List Int} (h7 : StS wr wr.heap.size w7 A7 n7 c7 x) (h9 : StS w7 w7.heap.size w9 A9 n9 c9 y) :
    OwnM (w9.alloc (.cells #[.slice A7 n7 c7, .slice A9 n9 c9] 29)) wr.heap.size (w9.heap.size + 1) (some ⟨w9.heap.size, 0, none⟩) 2 2 [x, y] :=
  ownM_pair (h7.own.below h9.bel) (fun g hg => (h7.own.own.lt g hg).2) h9.own h7.hi (Nat.le_trans h7.hi h9.hi)

set_option maxRecDepth 100000 in
set_option maxHeartbeats 4000000 in
theorem parts08_any (A : Option Addr) (n c B : Nat) (r : List Int) (w : World) (h : RdS w B A n c r) (hr : Row5 r) (hB : B ≤ w.heap.size) :
    Calls Try.prog 167 #[.slice A n c] w (RetPT ((prt r).map pr) w) := by
  have H := Lib.hid (h.mono hB)
  have HL := Lib.hid h.len
  have HR5 := Lib.hid hr
  have hn5 : n ≤ 5 := by rw [← h.len]; exact hr.len
  obtain ⟨R, hR⟩ : ∃ R, R = RetPT ((prt r).map pr) w := ⟨_, rfl⟩
  have HR := Lib.hid hR
  rw [← hR]
  obtain ⟨V, hV⟩ : ∃ V, V = w.heap.size := ⟨_, rfl⟩
  have S4 := start_prt w
  obtain ⟨w4, hw4⟩ : ∃ W, W = (((w.alloc (.cells #[] 2)).alloc (.cells #[] 2)).alloc (.cells #[.slice (some ⟨w.heap.size, 0, none⟩) 0 0, .slice (some ⟨w.heap.size + 1, 0, none⟩) 0 0] 29)).alloc (.cells #[.slice (some ⟨w.heap.size + 1 + 1, 0, none⟩) 2 2] 22) := ⟨_, rfl⟩
  rw [← hw4, ← hV] at S4
  rw [← hV] at hw4
  have HS4 := Lib.hid S4
  have HW4 := Lib.hid hw4
  have HV := Lib.hid hV
  clear h hr hB hR S4 hw4 hV
  go_enter Try.func167, Try.ntmps167
  go_wp2_with fail
  rw [← HV.out, ← HW4.out]
  go_loopw [3, 4] (fun o i wr => ∃ (k L c' K : Nat) (A' : Option Addr), k ≤ n ∧ i = .int .i64 k ∧ o = .slice A' L c' ∧ L ≤ 256 ∧ Hid (StT w V wr K A' L c' ((prt (r.take k)).map pr))) (fun _ i _ => n - (intOf i).toNat)
  case atStart => exact ⟨0, 1, 1, _, _, Nat.zero_le _, rfl, rfl, by omega, HS4⟩
  case round =>
    clear HS4
    obtain ⟨k, L, c', K, A', hk, rfl, rfl, hL, HO⟩ := hrel
    obtain ⟨wz, hwz⟩ : ∃ W : World, W = wr := ⟨_, rfl⟩
    subst hwz
    have BZ := Lib.hid (show Below w.heap.size w wz from by rw [← HV.out]; exact HO.out.bel)
    have hVz : w.heap.size ≤ wz.heap.size := BZ.out.size
    by_cases hlt : k < n
    · obtain ⟨ad, nk, rfl, hbr0, hx, hcr0⟩ := H.out.at_ hlt
      have hbr : (ad.add k).block < w.heap.size := by rw [block_of_add]; exact hbr0
      have hcr : w.cell? (ad.add k) = some (.int .i64 nk) := hcr0
      have hcz := (BZ.out.cell (p := ad.add k) hbr).trans hcr
      have hnk0 := (HR5.out.small nk (mem_of hx)).1
      have hnk40 := (HR5.out.small nk (mem_of hx)).2
      obtain ⟨m, hm⟩ : ∃ m : Nat, nk = m := ⟨nk.toNat, by omega⟩
      subst hm
      have HXK := Lib.hid hx.out
      have HPK := Lib.hid (show prt (r.take (k + 1)) = prtS (prt (r.take k)) (m : Int) from prt_take hx)
      have HRk := Lib.hid (HR5.out.pre k)
      obtain ⟨PS, hPS⟩ : ∃ PS, PS = prt (r.take k) := ⟨_, rfl⟩
      rw [← hPS] at HO HPK
      have HPS := Lib.hid hPS
      have HPl := Lib.hid (show PS.length = L from by have := HO.out.own.len; rwa [List.length_map] at this)
      have HPm := Lib.hid (show ∀ e ∈ PS, e.1.length ≤ 5 ∧ e.2.length ≤ 5 from fun e he => by
        have := (HRk.out.part (by rw [← hPS]; exact he))
        exact ⟨this.1.len, this.2.1.len⟩)
      have S0 := Lib.hid (StT.start (Below.refl wz.heap.size wz) (Nat.le_refl _))
      have hlt' : (k : Int) < (n : Int) := by omega
      have hk0 : (0 : Int) ≤ (k : Int) := by omega
      have HCR := Lib.hid (And.intro hbr hcr)
      clear hx hbr0 hcr0 hPS hbr hcr
      go_wp2_with fail
      go_loopw [5, 6] (fun v i wr => ∃ (j l2 c2 K2 : Nat) (A2 : Option Addr), j ≤ L ∧ i = .int .i64 j ∧ v = .slice A2 l2 c2 ∧ l2 ≤ j * 41 ∧ Hid (StT wz wz.heap.size wr K2 A2 l2 c2 ((prtS (PS.take j) (m : Int)).map pr))) (fun _ i _ => L - (intOf i).toNat)
      case atStart => exact ⟨0, 0, 0, _, _, Nat.zero_le _, rfl, rfl, Nat.zero_le _, S0⟩
      case round =>
        clear S0 hcz
        obtain ⟨j, l2, c2, K2, A2, hj, rfl, rfl, hl2, HN⟩ := hrel
        by_cases hjl : j < L
        · obtain ⟨g, A3, n3, c3, xss, rfl, hbg, hps, hcg, hrp⟩ := (HO.out.own.rd HO.out.hi).at_ hjl
          obtain ⟨e, he⟩ : ∃ e, PS[j]? = some e := ⟨PS[j]'(by rw [HPl.out]; exact hjl), List.getElem?_eq_getElem _⟩
          obtain rfl : pr e = xss := by have := hps.out; rw [List.getElem?_map, he] at this; exact Option.some.inj this
          have HE := Lib.hid he
          have hel := HPm.out e (List.mem_of_getElem? he)
          obtain rfl : 2 = n3 := hrp.len
          obtain ⟨ad1, B1, m1, c4, x1, rfl, hb1, hx1, hc1', hr1⟩ := hrp.at_ (k := 0) (by omega)
          obtain ⟨ad1', B2, m2, c5, x2, had, hb2', hx2, hc2', hr2⟩ := hrp.at_ (k := 1) (by omega)
          obtain rfl : ad1 = ad1' := by simpa using had
          obtain rfl : e.1 = x1 := by have := hx1.out; simpa [pr] using this
          obtain rfl : e.2 = x2 := by have := hx2.out; simpa [pr] using this
          have hc1 : wz.cell? ad1 = some (.slice B1 m1 c4) := by simpa [Addr.add] using hc1'
          have hc2 : wz.cell? ⟨ad1.block, ad1.off + 1, none⟩ = some (.slice B2 m2 c5) := hc2'
          have hb2 : ad1.block < wz.heap.size := hb1
          have hm1 : m1 ≤ 5 := by rw [← hr1.len]; exact hel.1
          have hm2 : m2 ≤ 5 := by rw [← hr2.len]; exact hel.2
          obtain ⟨hbr, hcr⟩ := HCR.out
          have HC := Lib.hid (fun (W : World) (hb : Below wz.heap.size wz W) => (show W.cell? ad1 = some (.slice B1 m1 c4) ∧ W.cell? ⟨ad1.block, ad1.off + 1, none⟩ = some (.slice B2 m2 c5) ∧ W.cell? ⟨g, j, none⟩ = some (.slice (some ad1) 2 c3) ∧ W.cell? (ad.add k) = some (.int .i64 (m : Int)) from ⟨(hb.cell (p := ad1) hb1).trans hc1, (hb.cell (p := ⟨ad1.block, ad1.off + 1, none⟩) hb2).trans hc2, (hb.cell (p := ⟨g, j, none⟩) hbg).trans hcg, ((BZ.out.trans (hb.mono hVz)).cell (p := ad.add k) hbr).trans hcr⟩))
          have R1 := Lib.hid hr1
          have R2 := Lib.hid hr2
          have HTK := Lib.hid (prtS_take (n := (m : Int)) HE)
          have HN1 := Lib.hid (show StT wz wz.heap.size wr K2 A2 l2 c2 ((prtS (PS.take j) (m : Int)).map pr ++ ((List.range 0).map (prX e (m : Int))).map pr) from by simpa using HN.out)
          obtain ⟨PB, hPB⟩ : ∃ PB, PB = (prtS (PS.take j) (m : Int)).map pr := ⟨_, rfl⟩
          rw [← hPB] at HN1
          have HPB := Lib.hid hPB
          have hjl' : (j : Int) < (L : Int) := by omega
          have hj0 : (0 : Int) ≤ (j : Int) := by omega
          have kw := (HN.out.bel.cell (p := ⟨g, j, none⟩) hbg).trans hcg
          clear hps he hel hrp hx1 hx2 had hb2' hc1' hc2' hr1 hr2 hc1 hc2 hb2 hbr hcr hPB hb1 hcg
          go_wp2_with fail
          go_loopw [5, 7] (fun v i wr => ∃ (x l3 c6 K3 : Nat) (A3 : Option Addr), x ≤ m + 1 ∧ i = .int .i64 x ∧ v = .slice A3 l3 c6 ∧ Hid (l3 = l2 + x) ∧ Hid (StT wz wz.heap.size wr K3 A3 l3 c6 (PB ++ ((List.range x).map (prX e (m : Int))).map pr))) (fun _ i _ => m + 1 - (intOf i).toNat)
          case atStart => exact ⟨0, l2, c2, K2, A2, Nat.zero_le _, rfl, rfl, Lib.hid rfl, HN1⟩
          case round =>
            clear HN1 HN kw
            obtain ⟨x, l3, c6, K3, A3, hx, rfl, rfl, hl3, HN⟩ := hrel
            have BN := Lib.hid HN.out.bel
            obtain ⟨k0, k1, k2, k3⟩ := HC.out wr BN.out
            by_cases hxm : x ≤ m
            · have hxm' : (x : Int) ≤ (m : Int) := by omega
              obtain ⟨y, hy⟩ : ∃ y : Int, y = (m : Int) - (x : Int) := ⟨_, rfl⟩
              have hwy : IntKind.i64.wrap ((m : Int) - (x : Int)) = y := by rw [hy, IntKind.wrap_i64]; omega
              have HY := Lib.hid hy
              have Ed := Lib.hid (Ext.drew (Ext.refl wr))
              have zw := HN.out.size
              have Bd := Lib.hid (show Below wz.heap.size wz wr.drew from below_drewN BN.out 1)
              have R1d := Lib.hid (R1.out.below Bd.out)
              have kd := HC.out _ Bd.out
              have hx0 : (0 : Int) ≤ (x : Int) := by omega
              have hbd1 : m1 ≤ 2000000000000 := by omega
              have hbd2 : m2 ≤ 2000000000000 := by omega
              have hbd1a : m1 + 1 ≤ 3000000000000 := by omega
              have hbd2a : m2 + 1 ≤ 3000000000000 := by omega
              have hbd3 : l3 ≤ 3000000000000 := by have := hl3.out; omega
              have hbd4 : m1 ≤ 1000000000000 := by omega
              have hbd5 : m2 ≤ 1000000000000 := by omega
              clear hy
              go_upto_region 12 with fail
              go_region_held3 (fun w' => w'.cell? ad1 = some (.slice B1 m1 c4) ∧ w'.cell? ⟨ad1.block, ad1.off + 1, none⟩ = some (.slice B2 m2 c5) ∧ w'.cell? ⟨g, j, none⟩ = some (.slice (some ad1) 2 c3) ∧ w'.cell? (ad.add k) = some (.int .i64 (m : Int))) (first | (with_reducible exact HC.out _ Bd.out) | (with_reducible exact HC.out _ (below_dr (below_al BN.out _))) | (with_reducible exact HC.out _ (below_dr (below_al (below_al BN.out _) _))) | (with_reducible exact HC.out _ B6.out) | (with_reducible exact HC.out _ (below_al B6.out _)) | (with_reducible exact HC.out _ (below_al (below_al B6.out _) _)) | (with_reducible exact HC.out _ B7.out) | (with_reducible exact HC.out _ (below_al B7.out _)) | (with_reducible exact HC.out _ (below_al (below_al B7.out _) _)) | (with_reducible exact HC.out _ B8.out) | (with_reducible exact HC.out _ (below_al B8.out _)) | (with_reducible exact HC.out _ (below_al (below_al B8.out _) _)) | (with_reducible exact HC.out _ B9.out) | (with_reducible exact HC.out _ (below_al B9.out _)) | (with_reducible exact HC.out _ (below_al (below_al B9.out _) _)) | (with_reducible exact kj) | fail)
                (first
                  | (go_at_call_of 132 B1
                     refine (own_st B1 m1 c4 _ e.1 _ (R1.out.below (by first | exact Bd.out | exact below_dr (below_al BN.out _) | exact below_dr (below_al (below_al BN.out _) _))) (Below.size (by first | exact Bd.out | exact below_dr (below_al BN.out _) | exact below_dr (below_al (below_al BN.out _) _))) hbd4).mono ?_
                     rintro e' u1 ⟨A6, c6', rfl, ho6, hb6⟩
                     have T6 := Lib.hid (callStS (wr := wr) (by first | exact Ed.out | exact below_dr (below_al (Below.refl _ _) _) | exact below_dr (below_al (below_al (Below.refl _ _) _) _)) ho6 hb6)
                     have B6 := Lib.hid (BN.out.trans (T6.out.bel.mono zw))
                     first
                       | have CX := Lib.hid (cl_below (cl_dr (cl_new wr (.int .i64 (x : Int)) 2)) hb6)
                       | have CX := Lib.hid (cl_below (cl_dr (cl_al (cl_new wr (.int .i64 (x : Int)) 2) _)) hb6)
                       | have CX := Lib.hid (cl_below (cl_dr (cl_new2 wr _ (.int .i64 (x : Int)) 2)) hb6)
                       | skip
                     first
                       | (have CY := Lib.hid (cl_below (cl_dr (cl_new wr (.int .i64 y) 2)) hb6)
                          have NY := Lib.hid (ne_of ho6 (cl_dr (cl_new wr (.int .i64 y) 2)).1))
                       | (have CY := Lib.hid (cl_below (cl_dr (cl_al (cl_new wr (.int .i64 y) 2) _)) hb6)
                          have NY := Lib.hid (ne_of ho6 (cl_dr (cl_al (cl_new wr (.int .i64 y) 2) _)).1))
                       | (have CY := Lib.hid (cl_below (cl_dr (cl_new2 wr _ (.int .i64 y) 2)) hb6)
                          have NY := Lib.hid (ne_of ho6 (cl_dr (cl_new2 wr _ (.int .i64 y) 2)).1))
                       | skip
                     clear ho6 hb6)
                  | (refine step_joinI (by rfl) (.tmp 40) (.tmp 42) (by rfl) (by rfl) (by rfl) (by first | exact T6.out | exact stS_al T6.out _ | exact stS_al (stS_al T6.out _) _) (rd_cl (x := (x : Int)) (by first | exact CX.out | exact cl_al CX.out _ | exact cl_new _ _ _ | exact cl_al (cl_new _ _ _) _ | exact cl_new2 _ _ _ _)) hbd1a ?_
                     intro A7 c7 w7 hs7 hg7
                     have T7 := Lib.hid hs7
                     have B7 := Lib.hid (BN.out.trans (T7.out.bel.mono zw))
                     first
                       | have CY7 := Lib.hid (cl_grown hg7 CY.out NY.out)
                       | have CY7 := Lib.hid (cl_grown hg7 (cl_al CY.out _) NY.out)
                       | have CY7 := Lib.hid (cl_grown hg7 (cl_new u1 (.int .i64 y) 2) (ne_of2 T6.out.own (Nat.le_refl _)))
                       | have CY7 := Lib.hid (cl_grown hg7 (cl_al (cl_new u1 (.int .i64 y) 2) _) (ne_of2 T6.out.own (Nat.le_refl _)))
                       | have CY7 := Lib.hid (cl_grown hg7 (cl_new2 u1 _ (.int .i64 y) 2) (ne_of2 T6.out.own (Nat.le_succ _)))
                       | skip
                     clear hs7 hg7)
                  | (go_at_call_of 132 B2
                     refine (own_st B2 m2 c5 _ e.2 _ (R2.out.below (by first | exact B7.out | exact below_al B7.out _)) (Below.size (by first | exact B7.out | exact below_al B7.out _)) hbd5).mono ?_
                     rintro e' u2 ⟨A8, c8, rfl, ho8, hb8⟩
                     have T8 := Lib.hid (callStS (wr := w7) (by first | exact Below.refl _ _ | exact below_al (Below.refl _ _) _) ho8 hb8)
                     have B8 := Lib.hid (B7.out.trans (T8.out.bel.mono B7.out.size))
                     first
                       | have CY8 := Lib.hid (cl_below CY7.out hb8)
                       | have CY8 := Lib.hid (cl_below (cl_new w7 (.int .i64 y) 2) hb8)
                       | skip
                     clear ho8 hb8)
                  | (refine step_joinI (by rfl) (.tmp 50) (.tmp 57) (by rfl) (by rfl) (by rfl) (by first | exact T8.out | exact stS_al T8.out _) (rd_cl (x := y) (by first | exact CY8.out | exact cl_new _ _ _)) hbd2a ?_
                     intro A9 c9 w9 hs9 _
                     have T9 := Lib.hid hs9
                     have B9 := Lib.hid (B7.out.trans (hs9.bel.mono B7.out.size))
                     have P9 := Lib.hid (pair_made T7.out T9.out)
                     have N9 := Lib.hid (HN.out.call (Below.trans (T7.out.bel.trans (hs9.bel.mono T7.out.bel.size)) ((Below.refl _ _).alloc (Nat.le_trans T7.out.bel.size hs9.bel.size) (.cells #[.slice A7 (m1 + 1) c7, .slice A9 (m2 + 1) c9] 29))))
                     have z9 := Nat.le_trans HN.out.hi (Nat.le_trans T7.out.bel.size hs9.bel.size)
                     have q9 : (w9.alloc (.cells #[.slice A7 (m1 + 1) c7, .slice A9 (m2 + 1) c9] 29)).heap.size = w9.heap.size + 1 := by simp
                     have y9 := Nat.le_of_eq q9.symm
                     have x9 : K3 ≤ w9.heap.size + 1 := Nat.le_succ_of_le z9
                     have P9 := Lib.hid (P9.out.mono HN.out.hi (Nat.le_refl _))
                     clear hs9)
                  | (refine step_pushT (by rfl) (.tmp 33) (.tmp 60) (by rfl) (by rfl) q9 (by rfl) N9.out P9.out x9 y9 hbd3 ?_
                     intro A10 c10 w10 hs10
                     have HS10 := Lib.hid hs10
                     have kj := HC.out _ hs10.bel
                     clear hs10))
              all_goals
                have HS11 := HS10.out
                rw [HY.out, List.append_assoc, ← range_snoc] at HS11
                have HS11 := Lib.hid HS11
                clear HS10 k0 k1 k2 k3
                go_wp2_with fail
                go_roundw
                case rel => exact ⟨x + 1, l3 + 1, c10, _, A10, by omega, by go_num, rfl, Lib.hid (by have := hl3.out; omega), HS11⟩
                case measure => simp [intOf]; omega
            · obtain rfl : x = m + 1 := by omega
              have hxm' : ¬ ((m + 1 : Nat) : Int) ≤ (m : Int) := by omega
              have hxd : decide (((m : Nat) : Int) + 1 ≤ (m : Int)) = false := decide_eq_false (by omega)
              have HS12 := Lib.hid (show StT wz wz.heap.size wr K3 A3 l3 c6 ((prtS (PS.take (j + 1)) (m : Int)).map pr) from by
                rw [HTK.out, List.map_append, ← HPB.out]; exact HN.out)
              go_wp2_with fail
              go_roundw
              case rel => exact ⟨j + 1, l3, c6, K3, A3, by omega, by go_num, rfl, by have := hl3.out; omega, HS12⟩
              case measure => simp [intOf]; omega
        · obtain rfl : j = L := by omega
          have hjl' : ¬ (j : Int) < (j : Int) := by omega
          have HS13 := Lib.hid (show StT w V wr K2 A2 l2 c2 ((prt (r.take (k + 1))).map pr) from by
            rw [HPK.out]
            have h1 := HN.out
            rw [List.take_of_length_le (by rw [HPl.out]; exact Nat.le_refl _)] at h1
            exact stT_down h1 HO.out.bel HO.out.size)
          have hl3 : l2 ≤ 256 := by
            have h1 := HS13.out.own.len
            rw [List.length_map] at h1
            rw [← h1]; exact (HR5.out.pre (k + 1)).count
          go_wp2_with fail
          go_roundw
          case rel => exact ⟨k + 1, l2, c2, K2, A2, by omega, by go_num, rfl, hl3, HS13⟩
          case measure => simp [intOf]; omega
    · obtain rfl : k = n := by omega
      have h5 := HO.out
      rw [List.take_of_length_le (by rw [HL.out]; exact Nat.le_refl _), HV.out] at h5
      have HO5 := Lib.hid h5
      clear h5 HO
      go_wp2_with fail
      rw [HR.out]
      exact RetPT.mk HO5.out rfl
end Go.Proofs.Ytejlkobieohgfaa
