/- A desk among a law's arguments, opened. -/
import Derived.Test.YtdpkhgkoeoiemaaGreatDeskL
import Derived.Test.YtdpkhgkoeoiemaaGreatOpen
import Derived.OpenShut
namespace Go.Proofs.YtdpkhgkoeoiemaaGreat
open Go.RowKit Go.WideShapes Go.ChangeShapes
set_option linter.unusedVariables false

theorem open_field {H : Type} {enc : TypeId × Value → H} {P : Program} {w : World} {base : Nat} {spare : Nat → Bool} {held : Bool} {t : TypeId} {fs : Array Field} {fuel : Nat} {cs : List Value} {x : DataW H × List MemPlace}
    (ht : P.underlying t = some (.struct fs)) (h : DataW.trod enc P w base spare held fuel t cs = some x) (i : Nat) (f : Field) (hf : fs[i]? = some f) :
    ∃ (n : Nat) (y : DataW H × List MemPlace), DataW.trod enc P w base spare held n f.type ((cs.drop f.offset).take (P.cellsOf f.type)) = some y := by
  obtain ⟨xs, n, _, _, _, hlen, hk⟩ := DataW.trod_struct ht h
  have hi : i < xs.length := by rw [hlen]; exact (Array.getElem?_eq_some_iff.1 hf).1
  exact ⟨n, xs[i], by rw [hk i f hf, List.getElem?_eq_getElem hi]⟩
set_option maxRecDepth 100000 in
set_option maxHeartbeats 2000000 in
theorem open_desk {H : Type} {enc : TypeId × Value → H} {w : World} {base : Nat} {held : Bool} {r : Reach} {b0 : Nat} {v : Value} {d : DataW H} {p : List MemPlace}
    (hv : Value.okWide Tryz.prog w r b0 34 v) (h : DataW.Trod enc Tryz.prog w base (fun _ => true) held 34 v d p) :
    ∃ (D : DV) (X : DD), v = .agg #[.slice D.m.A D.m.n D.m.c, .slice D.s.A D.s.n D.s.c, .slice D.d.A D.d.n D.d.c, .int .i64 X.v, .slice D.p.A D.p.n D.p.c, .slice D.g.A D.g.n D.g.c, .slice D.a.A D.a.n D.a.c, .slice D.l.A D.l.n D.l.c] ∧ RdDesk w w.heap.size D X ∧ LenD D X := by
  have cD : Tryz.prog.cellsOf 34 = 8 := by kernel_rfl
  have cL : Tryz.prog.cellsOf 22 = 1 := by kernel_rfl
  have cS : Tryz.prog.cellsOf 29 = 1 := by kernel_rfl
  have cI : Tryz.prog.cellsOf 2 = 1 := by kernel_rfl
  have km : Tryz.prog.cellsOf 24 = 1 := by kernel_rfl
  have ks : Tryz.prog.cellsOf 25 = 1 := by kernel_rfl
  have kd : Tryz.prog.cellsOf 26 = 1 := by kernel_rfl
  have kp : Tryz.prog.cellsOf 28 = 2 := by kernel_rfl
  have kga : Tryz.prog.cellsOf 31 = 2 := by kernel_rfl
  have kl : Tryz.prog.cellsOf 32 = 1 := by kernel_rfl
  obtain ⟨cs, rfl, hsz⟩ := okWide_struct Tryz.underlying34 hv
  obtain ⟨c0, c1, c2, c3, c4, c5, c6, c7, rfl⟩ : ∃ c0 c1 c2 c3 c4 c5 c6 c7, cs = #[c0, c1, c2, c3, c4, c5, c6, c7] := by
    obtain ⟨l⟩ := cs
    match l, hsz.trans cD with
    | [c0, c1, c2, c3, c4, c5, c6, c7], _ => exact ⟨c0, c1, c2, c3, c4, c5, c6, c7, rfl⟩
  obtain ⟨fuel, hf⟩ := h
  obtain ⟨n0, y0, h0⟩ := open_field Tryz.underlying34 hf 0 _ rfl
  replace h0 : DataW.trod enc Tryz.prog w base (fun _ => true) held n0 24 [c0] = some y0 := by simpa [Value.cells, km] using h0
  obtain ⟨n00, y00, h00⟩ := open_field Tryz.underlying24 h0 0 _ rfl
  replace h00 : DataW.trod enc Tryz.prog w base (fun _ => true) held n00 22 [c0] = some y00 := by simpa [cL] using h00
  obtain ⟨Am, nm, cm, xm, hcm, rm, lm, em, _⟩ := open_lists Tryz.underlying22 Tryz.underlying29 Tryz.underlying2 cS cI h00
  subst hcm
  obtain ⟨n1, y1, h1⟩ := open_field Tryz.underlying34 hf 1 _ rfl
  replace h1 : DataW.trod enc Tryz.prog w base (fun _ => true) held n1 25 [c1] = some y1 := by simpa [Value.cells, ks] using h1
  obtain ⟨n10, y10, h10⟩ := open_field Tryz.underlying25 h1 0 _ rfl
  replace h10 : DataW.trod enc Tryz.prog w base (fun _ => true) held n10 22 [c1] = some y10 := by simpa [cL] using h10
  obtain ⟨As, ns, cs, xs, hcs, rs, ls, es, _⟩ := open_lists Tryz.underlying22 Tryz.underlying29 Tryz.underlying2 cS cI h10
  subst hcs
  obtain ⟨n2, y2, h2⟩ := open_field Tryz.underlying34 hf 2 _ rfl
  replace h2 : DataW.trod enc Tryz.prog w base (fun _ => true) held n2 26 [c2] = some y2 := by simpa [Value.cells, kd] using h2
  obtain ⟨n20, y20, h20⟩ := open_field Tryz.underlying26 h2 0 _ rfl
  replace h20 : DataW.trod enc Tryz.prog w base (fun _ => true) held n20 22 [c2] = some y20 := by simpa [cL] using h20
  obtain ⟨Ad, nd, cd, xd, hcd, rd, ld, ed, _⟩ := open_lists Tryz.underlying22 Tryz.underlying29 Tryz.underlying2 cS cI h20
  subst hcd
  obtain ⟨n3, y3, h3⟩ := open_field Tryz.underlying34 hf 3 _ rfl
  replace h3 : DataW.trod enc Tryz.prog w base (fun _ => true) held n3 28 [c3, c4] = some y3 := by simpa [Value.cells, kp] using h3
  obtain ⟨n30, y30, h30⟩ := open_field Tryz.underlying28 h3 0 _ rfl
  replace h30 : DataW.trod enc Tryz.prog w base (fun _ => true) held n30 2 [c3] = some y30 := by simpa [cI] using h30
  obtain ⟨v3, e3, _, _⟩ := DataW.trod_int Tryz.underlying2 h30
  simp only [List.cons.injEq, and_true] at e3
  subst e3
  obtain ⟨n31, y31, h31⟩ := open_field Tryz.underlying28 h3 1 _ rfl
  replace h31 : DataW.trod enc Tryz.prog w base (fun _ => true) held n31 22 [c4] = some y31 := by simpa [cL] using h31
  obtain ⟨Ap, np, cp, xp, hcp, rp, lp, ep, _⟩ := open_lists Tryz.underlying22 Tryz.underlying29 Tryz.underlying2 cS cI h31
  subst hcp
  obtain ⟨n4, y4, h4⟩ := open_field Tryz.underlying34 hf 4 _ rfl
  replace h4 : DataW.trod enc Tryz.prog w base (fun _ => true) held n4 31 [c5, c6] = some y4 := by simpa [Value.cells, kga] using h4
  obtain ⟨n40, y40, h40⟩ := open_field Tryz.underlying31 h4 0 _ rfl
  replace h40 : DataW.trod enc Tryz.prog w base (fun _ => true) held n40 29 [c5] = some y40 := by simpa [cS] using h40
  obtain ⟨Ag, ng, cg, xg, hcg, rg, lg, _⟩ := open_row Tryz.underlying29 Tryz.underlying2 cI h40
  subst hcg
  obtain ⟨n41, y41, h41⟩ := open_field Tryz.underlying31 h4 1 _ rfl
  replace h41 : DataW.trod enc Tryz.prog w base (fun _ => true) held n41 22 [c6] = some y41 := by simpa [cL] using h41
  obtain ⟨Aa, na, ca, xa, hca, ra, la, ea, _⟩ := open_lists Tryz.underlying22 Tryz.underlying29 Tryz.underlying2 cS cI h41
  subst hca
  obtain ⟨n5, y5, h5⟩ := open_field Tryz.underlying34 hf 5 _ rfl
  replace h5 : DataW.trod enc Tryz.prog w base (fun _ => true) held n5 32 [c7] = some y5 := by simpa [Value.cells, kl] using h5
  obtain ⟨n50, y50, h50⟩ := open_field Tryz.underlying32 h5 0 _ rfl
  replace h50 : DataW.trod enc Tryz.prog w base (fun _ => true) held n50 22 [c7] = some y50 := by simpa [cL] using h50
  obtain ⟨Al, nl, cl, xl, hcl, rl, ll, el, _⟩ := open_lists Tryz.underlying22 Tryz.underlying29 Tryz.underlying2 cS cI h50
  subst hcl
  exact ⟨{ m := ⟨Am, nm, cm⟩, s := ⟨As, ns, cs⟩, d := ⟨Ad, nd, cd⟩, p := ⟨Ap, np, cp⟩, g := ⟨Ag, ng, cg⟩, a := ⟨Aa, na, ca⟩, l := ⟨Al, nl, cl⟩ }, { m := xm, s := xs, d := xd, p := xp, g := xg, a := xa, l := xl, v := v3 }, rfl, ⟨rm, rs, rd, rp, ra, rl, rg⟩, ⟨lm, ls, ld, lp, lg, la, ll, em, es, ed, ep, ea, el⟩⟩
end Go.Proofs.YtdpkhgkoeoiemaaGreat
