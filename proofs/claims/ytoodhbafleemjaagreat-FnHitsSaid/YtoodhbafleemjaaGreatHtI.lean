/- impl.counted, HitDimension, CohitDimension, AdmissibleMonomials, MonomialsOf. -/
import Derived.Test.YtoodhbafleemjaaGreatHtL
import Derived.Test.YtoodhbafleemjaaGreatNrmS
import Derived.Test.YtoodhbafleemjaaGreatHitI
import Derived.Test.YtoodhbafleemjaaGreatHitS
import Derived.Test.YtoodhbafleemjaaGreatPut
import Derived.Test.YtoodhbafleemjaaGreatPly
import Derived.Test.YtoodhbafleemjaaGreatAllL
import Derived.Test.YtoodhbafleemjaaGreatDrb
import Derived.Test.YtoodhbafleemjaaGreatTri
import Derived.Lib.SliceRun
import Derived.Test.YtoodhbafleemjaaGreatHitB
namespace Go.Proofs.YtoodhbafleemjaaGreat
open Go.RowKit
set_option linter.unusedVariables false

/-! ### how many rows the map holds -/
theorem places_of {M : Pol} (hM : Asc M) {f : Nat → Option Nat} : ∀ {rows : List Pol}, RowsOk rows → (∀ r ∈ rows, ∀ z ∈ r, z ∈ M) → (∀ r ∈ rows, ∀ i, M[i]? = some (lastL r) → ∃ v, f i = some v) →
    ∃ K : List Nat, K.length = rows.length ∧ K.Nodup ∧ (∀ i ∈ K, i < M.length ∧ (f i).isSome = true ∧ ∃ r ∈ rows, M[i]? = some (lastL r))
  | [], _, _, _ => ⟨[], rfl, List.nodup_nil, fun i hi => by cases hi⟩
  | r :: rs, h, hs, hf => by
    have h1 := h.each r (by simp)
    have hd := List.pairwise_cons.1 h.desc
    obtain ⟨K, k1, k2, k3⟩ := places_of hM (rows := rs) ⟨fun r hr => h.each r (List.mem_cons_of_mem _ hr), hd.2⟩ (fun r hr => hs r (List.mem_cons_of_mem _ hr)) (fun r hr => hf r (List.mem_cons_of_mem _ hr))
    obtain ⟨i, hi⟩ := List.mem_iff_getElem?.1 (hs r (by simp) (lastL r) (lastL_mem h1.2))
    obtain ⟨v, hv⟩ := hf r (by simp) i hi
    refine ⟨i :: K, by simp [k1], List.nodup_cons.2 ⟨fun hm => ?_, k2⟩, fun j hj => ?_⟩
    · obtain ⟨_, _, q, hq, e⟩ := k3 i hm
      rw [hi] at e
      have := hd.1 q hq
      rw [← Option.some.inj e, ltL_irrefl] at this
      cases this
    · rcases List.mem_cons.1 hj with rfl | hj
      · exact ⟨(List.getElem?_eq_some_iff.1 hi).1, by rw [hv]; rfl, r, by simp, hi⟩
      · obtain ⟨a, b, q, hq, e⟩ := k3 j hj
        exact ⟨a, b, q, List.mem_cons_of_mem _ hq, e⟩
theorem sizeW {w : World} {b : Nat} {f : Nat → Option Nat} {K : List Nat} {D : DataW Unit} {n : Nat} (h : w.ownsMap Tryz.prog 3 rdW b n D) (h3 : ∀ i : Nat, i < 1000 → Maps.has D (litI i) = (f i).isSome) (hK : K.Nodup) (hf : ∀ i ∈ K, i < 1000 ∧ (f i).isSome = true) : K.length ≤ Maps.size D := by
  have hap : ∃ l, D = .map l ∧ ∀ p ∈ l, ∃ x, p.1 = litI x := by
    obtain ⟨es, clock, _, F, _, rfl⟩ := h
    refine ⟨_, rfl, fun p hp => ?_⟩
    obtain ⟨v, hv⟩ := Maps.fit_keys F p (mem_sorted.1 hp)
    obtain ⟨x, _, e, _⟩ := Maps.keyOf_int_inv Tryz.underlying3 hv
    exact ⟨x, e⟩
  obtain ⟨l, rfl, hk⟩ := hap
  let num : Lit → Int := fun k => match k with | .int _ x => x | _ => 0
  have hsub : ∀ z ∈ K, z ∈ (l.map fun p => (num p.1).toNat) := by
    intro z hz
    obtain ⟨h1, h2⟩ := hf z hz
    rw [← h3 z h1, Maps.has_eq, List.any_eq_true] at h2
    obtain ⟨p, hp, hs⟩ := h2
    obtain ⟨x, hx⟩ := hk p hp
    rw [hx, litI_same] at hs
    refine List.mem_map.2 ⟨p, hp, ?_⟩
    have e : x = (z : Int) := by simpa using hs
    rw [hx]
    show x.toNat = z
    rw [e]; rfl
  have := hK.length_le_of_subset hsub
  rw [List.length_map] at this
  exact this
section
variable (w : World) {ops : Array Oper} {rest : List Oper} {o : Oper} {a : Act} {Q : Exit → Act → World → Prop}
theorem run_lenW {t : TypeId} (ht : Tryz.prog.underlying t = some (.map 3 104)) {b s N : Nat} {f : Nat → Option Nat} {K : List Nat} (h : OwnW w b s f)
    (hs : s ≤ N) (hK : K.Nodup) (hl : K.length = N) (hf : ∀ i ∈ K, i < 1000 ∧ (f i).isSome = true) (ty : TypeId) : (Builtin.len_ #[t] ty #[.map (some b)]).run Tryz.prog w = .ok (.int .i64 N) w := by
  obtain ⟨D, h1, h2, h3, _⟩ := h.map
  have e : Maps.size D = N := Nat.le_antisymm (Nat.le_trans h2 hs) (by rw [← hl]; exact sizeW h1 h3 hK hf)
  have := h1.len ht ty
  rw [e] at this
  exact this
theorem wpList_lenW (hg : o.guard = none) (m : Operand) {t : TypeId} (hop : o.op = Op.call { callee := Callee.builtin Builtin.len, args := #[m], argTypes := #[t] }) (ht : Tryz.prog.underlying t = some (.map 3 104)) {b s N : Nat} {f : Nat → Option Nat} {K : List Nat} (hm : a.eval m = .map (some b)) (h : OwnW w b s f)
    (hs : s ≤ N) (hK : K.Nodup) (hl : K.length = N) (hf : ∀ i ∈ K, i < 1000 ∧ (f i).isSome = true)
    (hK2 : wpList Tryz.prog ops Q rest (a.put o.dst (.int .i64 N)) w) : wpList Tryz.prog ops Q (o :: rest) a w := by
  obtain ⟨D, h1, h2, h3, _⟩ := h.map
  refine wpList_len_own w hg m t hop 3 104 ht rdW b (Maps.size D) D hm h1 ?_
  have e : Maps.size D = N := Nat.le_antisymm (Nat.le_trans h2 hs) (by rw [← hl]; exact sizeW h1 h3 hK hf)
  rw [e]
  exact hK2
end
/-- the places of the rows -/
theorem HitSt.places {w0 w : World} {H mb n c k d : Nat} {A : Option Addr} (h : HitSt w0 w H mb A n c (mons k d) (hitR k d)) (hM : (mons k d).length ≤ 100) :
    ∃ (s : Nat) (f : Nat → Option Nat) (K : List Nat), Hits w H mb s A n c (mons k d) f ∧ s ≤ (hitR k d).length ∧ K.Nodup ∧ K.length = (hitR k d).length ∧ (∀ i ∈ K, i < 1000 ∧ (f i).isSome = true) ∧ (∀ i z, (mons k d)[i]? = some z → ((f i).isSome = true ↔ z ∈ topL k d)) := by
  obtain ⟨s, f, h1, h2, _, h4⟩ := h.ex
  have hsub : ∀ r ∈ hitR k d, ∀ z ∈ r, z ∈ mons k d := fun r hr => (gens_hit.rows r hr).1.sub
  obtain ⟨K, k1, k2, k3⟩ := places_of (mons_asc k d) (hit_ok k d) hsub h2.has
  refine ⟨s, f, K, h1, h4, k2, k1, fun i hi => ⟨by have := (k3 i hi).1; omega, (k3 i hi).2.1⟩, fun i z hz => ?_⟩
  constructor
  · intro h5
    obtain ⟨v, hv⟩ := Option.isSome_iff_exists.1 h5
    obtain ⟨r, hr, e, _⟩ := h2.row i v hv
    rw [hz] at e
    exact List.mem_map.2 ⟨r, hr, (Option.some.inj e).symm⟩
  · intro h5
    obtain ⟨r, hr, rfl⟩ := List.mem_map.1 h5
    obtain ⟨v, hv⟩ := h2.has r hr i hz
    rw [hv]; rfl

/-! ### counted -/
def RetCt (v dd : Int) (w : World) (e : Ending) (w' : World) : Prop := (∃ c, c ≠ 0 ∧ cdO v dd = c ∧ e = .returned (.tuple #[.pointer none, .int .i64 c]) ∧ Below w.heap.size w w') ∨ ∃ k d, CdK v dd k d ∧ (mons k d).length ≤ 100 ∧ RetHi k d w e w'
set_option maxRecDepth 100000 in
theorem counted_any (v dd : Int) (w : World) : Calls Tryz.prog 80 #[.int .i64 v, .int .i64 dd] w (RetCt v dd w) := by
  obtain ⟨R, hR⟩ : ∃ R, R = RetCt v dd w := ⟨_, rfl⟩
  have HR := Lib.hid hR
  rw [← hR]
  clear hR
  cases h1 : inB v 1 4
  · have HV := Lib.hid (cdO_bad (v := v) (dd := dd) (by rw [h1]; simp))
    have H1 := Lib.hid h1
    clear h1
    go_enter Tryz.func80, Tryz.ntmps80
    go_wp2_with fail
    refine (isCount_any v _).mono ?_
    rintro e w1 ⟨rfl, rfl⟩
    rw [H1.out]
    go_wp2_with fail
    rw [HR.out]
    exact .inl ⟨2, by decide, HV.out, rfl, Below.refl _ _⟩
  · cases h2 : inB dd 0 40
    · have HV := Lib.hid (cdO_bad (v := v) (dd := dd) (by rw [h2]; simp))
      have H1 := Lib.hid h1
      have H2 := Lib.hid h2
      clear h1 h2
      go_enter Tryz.func80, Tryz.ntmps80
      go_wp2_with fail
      refine (isCount_any v _).mono ?_
      rintro e w1 ⟨rfl, rfl⟩
      rw [H1.out]
      go_wp2_with fail
      refine (isDegree_any dd _).mono ?_
      rintro e w1 ⟨rfl, rfl⟩
      rw [H2.out]
      go_wp2_with fail
      rw [HR.out]
      exact .inl ⟨2, by decide, HV.out, rfl, Below.refl _ _⟩
    · obtain ⟨k, d, hk⟩ := cdK_of h1 h2
      have HK := Lib.hid hk
      have H1 := Lib.hid h1
      have H2 := Lib.hid h2
      clear h1 h2 hk
      by_cases hl : 100 < (mons k d).length
      · have HC := Lib.hid (hitsNo_any k d v dd w HK.out.ev HK.out.ed HK.out.k3 HK.out.d40 hl)
        have HV := Lib.hid (HK.out.lim hl)
        clear hl
        go_enter Tryz.func80, Tryz.ntmps80
        go_wp2_with fail
        refine (isCount_any v _).mono ?_
        rintro e w1 ⟨rfl, rfl⟩
        rw [H1.out]
        go_wp2_with fail
        refine (isDegree_any dd _).mono ?_
        rintro e w1 ⟨rfl, rfl⟩
        rw [H2.out]
        go_wp2_with fail
        refine HC.out.mono ?_
        rintro e w1 ⟨rfl, hb⟩
        go_wp2_with fail
        rw [HR.out]
        exact .inl ⟨3, by decide, HV.out, rfl, hb⟩
      · have HC := Lib.hid (hitsOf_any k d v dd w HK.out.ev HK.out.ed HK.out.k3 HK.out.d40 (by omega))
        have HL := Lib.hid hl
        clear hl
        go_enter Tryz.func80, Tryz.ntmps80
        go_wp2_with fail
        refine (isCount_any v _).mono ?_
        rintro e w1 ⟨rfl, rfl⟩
        rw [H1.out]
        go_wp2_with fail
        refine (isDegree_any dd _).mono ?_
        rintro e w1 ⟨rfl, rfl⟩
        rw [H2.out]
        go_wp2_with fail
        refine HC.out.mono ?_
        rintro e w1 ⟨H, mb, n, c, A, rfl, hst⟩
        go_wp2_with fail
        rw [HR.out]
        exact .inr ⟨k, d, HK.out, by have := HL.out; omega, H, mb, n, c, A, rfl, hst⟩
set_option maxRecDepth 100000 in
theorem iHitDimension (v dd : Int) (w : World) : Calls Tryz.prog 28 #[.int .i64 v, .int .i64 dd] w (RetIIC (hdO v dd) (cdO v dd) w) := by
  obtain ⟨R, hR⟩ : ∃ R, R = RetIIC (hdO v dd) (cdO v dd) w := ⟨_, rfl⟩
  have HR := Lib.hid hR
  rw [← hR]
  clear hR
  go_enter Tryz.func28, Tryz.ntmps28
  go_wp2_with fail
  refine (counted_any v dd _).mono ?_
  rintro e w1 (⟨c, hc, hcd, rfl, hb⟩ | ⟨k, d, hk, hM, H, mb, n, cM, A, rfl, hst⟩)
  · have HV := Lib.hid hcd
    have hne : (c != 0) = true := by simpa using hc
    have HC := Lib.hid hc
    have HB := Lib.hid hb
    clear hc hcd hb
    go_wp2_with fail
    rw [HR.out]
    exact RetIIC.mk (hdO_no (by rw [HV.out]; exact HC.out)).symm HV.out.symm HB.out
  · obtain ⟨s, f, K, hh, hs, hK, hl, hf, _⟩ := hst.places hM
    have HB := Lib.hid hst.bel
    have HKd := Lib.hid hk
    have HM := Lib.hid hM
    have k0 := hh.c0
    have k1 := hh.c1
    have HO := Lib.hid hh.map
    obtain ⟨N, hN⟩ : ∃ N, N = (hitR k d).length := ⟨_, rfl⟩
    rw [← hN] at hs hl
    have HN := Lib.hid hN
    have hN100 : N ≤ 100 := by rw [hN]; exact Nat.le_trans gens_hit.len hM
    have HKn := Lib.hid hK
    have HKl := Lib.hid hl
    have HKf := Lib.hid hf
    have HS := Lib.hid hs
    clear hN hM hk hst hh hK hl hf hs
    go_wp2_with (at_len; refine wpList_lenW _ rfl (.tmp 20) rfl Tryz.underlying97 rfl HO.out HS.out HKn.out HKl.out HKf.out ?_)
    rw [HR.out]
    exact RetIIC.mk (by rw [HKd.out.hd (by have := HM.out; omega), HN.out]) (HKd.out.ok (by have := HM.out; omega)).symm HB.out
set_option maxRecDepth 100000 in
theorem iCohitDimension (v dd : Int) (w : World) : Calls Tryz.prog 26 #[.int .i64 v, .int .i64 dd] w (RetIIC (chO v dd) (cdO v dd) w) := by
  obtain ⟨R, hR⟩ : ∃ R, R = RetIIC (chO v dd) (cdO v dd) w := ⟨_, rfl⟩
  have HR := Lib.hid hR
  rw [← hR]
  clear hR
  go_enter Tryz.func26, Tryz.ntmps26
  go_wp2_with fail
  refine (counted_any v dd _).mono ?_
  rintro e w1 (⟨c, hc, hcd, rfl, hb⟩ | ⟨k, d, hk, hM, H, mb, n, cM, A, rfl, hst⟩)
  · have HV := Lib.hid hcd
    have hne : (c != 0) = true := by simpa using hc
    have HC := Lib.hid hc
    have HB := Lib.hid hb
    clear hc hcd hb
    go_wp2_with fail
    rw [HR.out]
    exact RetIIC.mk (chO_no (by rw [HV.out]; exact HC.out)).symm HV.out.symm HB.out
  · obtain ⟨s, f, K, hh, hs, hK, hl, hf, _⟩ := hst.places hM
    have HB := Lib.hid hst.bel
    have HKd := Lib.hid hk
    have HM := Lib.hid hM
    have k0 := hh.c0
    have k1 := hh.c1
    have HO := Lib.hid hh.map
    have HNl := Lib.hid hh.rd.len
    obtain ⟨N, hN⟩ : ∃ N, N = (hitR k d).length := ⟨_, rfl⟩
    rw [← hN] at hs hl
    have hcl := coh_len k d
    rw [← hN, hh.rd.len] at hcl
    have hn100 : n ≤ 100 := by rw [← hh.rd.len]; exact hM
    have hN100 : N ≤ n := by omega
    have hwr : IntKind.i64.wrap ((n : Int) - (N : Int)) = (n : Int) - (N : Int) := by rw [IntKind.wrap_i64]; omega
    have HCL := Lib.hid hcl
    have HKn := Lib.hid hK
    have HKl := Lib.hid hl
    have HKf := Lib.hid hf
    have HS := Lib.hid hs
    clear hN hM hk hst hh hK hl hf hs hcl
    have hln := fun ty => run_lenW w1.drew (t := 97) Tryz.underlying97 (HO.out.below (below_drewN (Below.refl _ _) 1)) HS.out HKn.out HKl.out HKf.out ty
    go_wp2_with fail
    go_region
    go_wp2_with fail
    rw [HR.out]
    exact RetIIC.mk (by rw [HKd.out.ch (by have := HM.out; omega)]; have := HCL.out; omega) (HKd.out.ok (by have := HM.out; omega)).symm (below_drewN HB.out 1)
theorem coh_end {k d : Nat} {ps : List (Value × List Int)} (h : ps.map (·.2) = mons k d) : (ps.filter fun p => decide (p.2 ∉ topL k d)).map (·.2) = cohL k d := by
  unfold cohL
  rw [← h, List.filter_map]
  rfl
set_option maxRecDepth 100000 in
set_option maxHeartbeats 1000000 in
theorem iAdmissibleMonomials (v dd : Int) (w : World) : Calls Tryz.prog 30 #[.int .i64 v, .int .i64 dd] w (RetLK (adO v dd) (cdO v dd) w) := by
  obtain ⟨R, hR⟩ : ∃ R, R = RetLK (adO v dd) (cdO v dd) w := ⟨_, rfl⟩
  have HR := Lib.hid hR
  rw [← hR]
  clear hR
  go_enter Tryz.func30, Tryz.ntmps30
  go_wp2_with fail
  refine (counted_any v dd _).mono ?_
  rintro e w1 (⟨c, hc, hcd, rfl, hb⟩ | ⟨k, d, hk, hM, H, mb, n, cM, A, rfl, hst⟩)
  · have HV := Lib.hid hcd
    have hne : (c != 0) = true := by simpa using hc
    have HC := Lib.hid hc
    have HB := Lib.hid hb
    clear hc hcd hb
    go_wp2_with fail
    rw [HR.out]
    exact RetLK.mk RdL.nil (adO_no (by rw [HV.out]; exact HC.out)).symm HV.out.symm HB.out
  · obtain ⟨s, f, K, hh, hs, hK, hl, hf, htop⟩ := hst.places hM
    have HB := Lib.hid hst.bel
    have HKd := Lib.hid hk
    have HM := Lib.hid hM
    have HTop := Lib.hid htop
    have k0 := hh.c0
    have HH := Lib.hid hh
    obtain ⟨ps, hps, hpv, hpr⟩ := hh.rd.vals
    have HPS := Lib.hid hps
    have HPV := Lib.hid hpv
    have HPR := Lib.hid hpr
    have hn100 : n ≤ 100 := by rw [← hh.rd.len]; exact hM
    have hpn : ps.length = n := by have := hpv.len; simpa using this
    have HPN := Lib.hid hpn
    have hb2 : Below w1.heap.size w1 (w1.alloc (.cells #[] 41)) := (Below.refl _ _).alloc (Nat.le_refl _) _
    have HB2 := Lib.hid hb2
    have HV2 := Lib.hid (ownV_start (w := w1) (Nat.le_refl _))
    clear hk hM hst hh hK hl hf hs htop hps hpv hpr hpn hb2 k0
    have k0 := (HH.out.below HB2.out).c0
    go_wp2_with fail
    go_loopw [8, 28] (fun o i wr => ∃ (m l c' : Nat) (A' : Option Addr) (qs : List (Value × List Int)), m ≤ n ∧ i = .int .i64 m ∧ o = .slice A' l c' ∧ l ≤ m ∧ Hid (qs = (ps.take m).filter (fun p => decide (p.2 ∉ topL k d))) ∧ Hid (OwnV wr w1.heap.size 41 A' l c' (qs.map (·.1))) ∧ Hid (Below w1.heap.size w1 wr)) (fun _ i _ => n - (intOf i).toNat)
    case atStart => exact ⟨0, 0, 0, _, [], Nat.zero_le _, rfl, rfl, Nat.le_refl _, Lib.hid (by simp), HV2, HB2⟩
    case round =>
      clear HV2 HB2 k0
      obtain ⟨m, l, c', A', qs, hm, rfl, rfl, hlm, HQ, HOV, HBr⟩ := hrel
      by_cases hlt : m < n
      · obtain ⟨p, hp⟩ : ∃ p, ps[m]? = some p := ⟨_, List.getElem?_eq_getElem (by have := HPN.out; omega)⟩
        obtain ⟨ad, y1, rfl, _, hy1, hcy⟩ := (HPV.out.below HBr.out).at_ hlt
        have hpy : y1 = p.1 := by
          have h1 := hy1.out
          rw [List.getElem?_map, hp] at h1
          exact (Option.some.inj h1).symm
        obtain ⟨A3, n3, c3, he, _⟩ := HPR.out p (List.mem_of_getElem? hp)
        rw [hpy, he] at hcy
        have hMm : (mons k d)[m]? = some p.2 := by rw [← HPS.out, List.getElem?_map, hp]; rfl
        have htp := HTop.out m p.2 hMm
        have HHr := Lib.hid (HH.out.below HBr.out)
        have c0 := HHr.out.c0
        have c1 := HHr.out.c1
        have HMp := Lib.hid HHr.out.map
        have HPm := Lib.hid hp
        have HPe := Lib.hid he
        clear hy1 hpy hp he hMm
        cases hfm : f m with
        | none =>
          have HF := Lib.hid hfm
          have HQ2 := Lib.hid (show qs ++ [p] = (ps.take (m + 1)).filter (fun p => decide (p.2 ∉ topL k d)) from by
            rw [List.take_add_one, HPm.out, List.filter_append, ← HQ.out]
            have : p.2 ∉ topL k d := fun h => by have := htp.2 h; rw [hfm] at this; cases this
            simp [this])
          clear hfm htp
          obtain ⟨W1, hW1⟩ : ∃ W, W = wr.alloc (.cells #[.int .u64 (loN 0 : Nat), .int .u64 (hiN 0 : Nat)] 104) := ⟨_, rfl⟩
          have hb8 : Below wr.heap.size wr (W1.alloc (.cells #[.slice A3 n3 c3] 41)) := by rw [hW1]; exact ((Below.refl _ _).alloc (Nat.le_refl _) _).alloc (by simp) _
          have V8 := Lib.hid (HOV.out.below hb8)
          have B8 := Lib.hid (HBr.out.trans (hb8.mono HBr.out.size))
          have N8 := Lib.hid (rdV_new W1 (.slice A3 n3 c3) 41)
          have ONE := Lib.hid (show ∀ z ∈ [Value.slice A3 n3 c3], z.oneCell' = true from fun z hz => by rw [List.mem_singleton.1 hz]; rfl)
          have hzW : W1.heap.size = wr.heap.size + 1 := by rw [hW1]; simp
          rw [hzW] at N8
          rw [hW1] at V8 B8 N8
          clear hb8 hW1 hzW
          go_wp2_with (first
            | (at_lookup; refine wpList_lookW _ rfl (.tmp 37) (.tmp 38) rfl Tryz.underlying97 rfl rfl HMp.out (by omega) ?_; rw [HF.out]; simp only [Option.getD_none, Option.isSome_none]; rw [wV_eq])
            | (at_builtin; refine wpList_appV eltL rfl (.tmp 44) (.tmp 46) rfl rfl rfl V8.out N8.out ONE.out (by omega) (by decide) B8.out.size ?_; intro A4 c4 w4 hv4 hg4 _; have V9 := Lib.hid hv4; have D9 := Lib.hid (B8.out.grown hg4 B8.out.size V8.out.row); clear hv4 hg4))
          have VE := Lib.hid (show OwnV w4 w1.heap.size 41 A4 (l + 1) c4 ((qs ++ [p]).map (·.1)) from by have h := V9.out; simpa [HPe.out] using h)
          go_roundw
          case rel => exact ⟨m + 1, l + 1, c4, A4, qs ++ [p], by omega, by go_num, rfl, by omega, HQ2, VE, D9⟩
          case measure => simp [intOf]; omega
        | some r =>
          have HF := Lib.hid hfm
          have HQ2 := Lib.hid (show qs = (ps.take (m + 1)).filter (fun p => decide (p.2 ∉ topL k d)) from by
            rw [List.take_add_one, HPm.out, List.filter_append, ← HQ.out]
            have : p.2 ∈ topL k d := htp.1 (by rw [hfm]; rfl)
            simp [this])
          clear hfm htp
          have hba : Below wr.heap.size wr (wr.alloc (.cells #[.int .u64 (loN r : Nat), .int .u64 (hiN r : Nat)] 104)) := (Below.refl _ _).alloc (Nat.le_refl _) _
          have V8 := Lib.hid (HOV.out.below hba)
          have B8 := Lib.hid (HBr.out.trans (hba.mono HBr.out.size))
          clear hba
          go_wp2_with (at_lookup; refine wpList_lookW _ rfl (.tmp 37) (.tmp 38) rfl Tryz.underlying97 rfl rfl HMp.out (by omega) ?_; rw [HF.out]; simp only [Option.getD_some, Option.isSome_some]; rw [wV_eq])
          go_roundw
          case rel => exact ⟨m + 1, l, c', A', qs, by omega, by go_num, rfl, by omega, HQ2, V8, B8⟩
          case measure => simp [intOf]; omega
      · have HE := Lib.hid (show qs.map (·.2) = cohL k d from by
          rw [HQ.out, List.take_of_length_le (by have := HPN.out; omega)]
          exact coh_end HPS.out)
        have HRd := Lib.hid (show RdL wr wr.heap.size A' l c' (qs.map (·.2)) from rdL_vals HOV.out.rd (fun p hp => by
          rw [HQ.out] at hp
          exact ((HPR.out p (List.mem_of_mem_take (List.mem_filter.1 hp).1)).below HBr.out).mono HBr.out.size))
        go_wp2_with fail
        rw [HR.out]
        exact RetLK.mk HRd.out (by rw [HE.out, HKd.out.ad (by have := HM.out; omega)]) (HKd.out.ok (by have := HM.out; omega)).symm (HB.out.trans (HBr.out.mono HB.out.size))
set_option maxRecDepth 100000 in
theorem iMonomialsOf (v dd : Int) (k d : Nat) (w : World) (h : CdK v dd k d) (hM : (mons k d).length ≤ 100) : Calls Tryz.prog 35 #[.int .i64 v, .int .i64 dd] w (RetLK (mons k d) 0 w) := by
  obtain ⟨R, hR⟩ : ∃ R, R = (RetLK (mons k d) 0 w) := ⟨_, rfl⟩
  have HR := Lib.hid hR
  rw [← hR]
  clear hR
  have HC := Lib.hid (monomials_any k v dd d w h.ev h.ed h.k3 h.d40)
  have H1 := Lib.hid h.in1
  have H2 := Lib.hid h.in2
  obtain ⟨M, hMe⟩ : ∃ M, M = mons k d := ⟨_, rfl⟩
  rw [← hMe] at HC hM HR
  obtain ⟨m, hm⟩ : ∃ m, m = M.length := ⟨_, rfl⟩
  rw [← hm] at HC hM
  have Hm := Lib.hid hm
  clear hMe hm h
  go_enter Tryz.func35, Tryz.ntmps35
  go_wp2_with fail
  refine (isCount_any v _).mono ?_
  rintro e w1 ⟨rfl, rfl⟩
  rw [H1.out]
  go_wp2_with fail
  refine (isDegree_any dd _).mono ?_
  rintro e w1 ⟨rfl, rfl⟩
  rw [H2.out]
  go_wp2_with fail
  refine HC.out.mono ?_
  rintro e w1 ⟨A, c, rfl, ho, hb⟩
  have HO := Lib.hid ho
  have HB := Lib.hid hb
  clear ho hb
  go_wp2_with fail
  rw [HR.out]
  exact RetLK.mk HO.out.rd rfl rfl HB.out
set_option maxRecDepth 100000 in
theorem ones64_any (n : Nat) (w : World) (hn : n < 104) : Calls Tryz.prog 126 #[.int .u64 n] w (fun e w' => e = .returned (.int .i64 (popN n)) ∧ w' = w) := by
  obtain ⟨R, hR⟩ : ∃ R, R = (fun (e : Ending) (w' : World) => e = .returned (.int .i64 (popN n)) ∧ w' = w) := ⟨_, rfl⟩
  have HR := Lib.hid hR
  rw [← hR]
  clear hR
  go_enter Tryz.func126, Tryz.ntmps126
  go_wp2_with fail
  rw [HR.out]
  refine ⟨(congrArg (fun x : Int => Ending.returned (Value.int .i64 x)) ?_ : _), rfl⟩
  clear HR R w
  revert n
  decide +kernel
theorem ones_any (n : Nat) (w : World) (hn : n < 104) : Calls Tryz.prog 92 #[.int .i64 n] w (fun e w' => e = .returned (.int .i64 (popN n)) ∧ w' = w) := by
  obtain ⟨R, hR⟩ : ∃ R, R = (fun (e : Ending) (w' : World) => e = .returned (.int .i64 (popN n)) ∧ w' = w) := ⟨_, rfl⟩
  have HR := Lib.hid hR
  rw [← hR]
  clear hR
  have hw : IntKind.u64.wrap (n : Int) = (n : Int) := by rw [IntKind.wrap_u64]; omega
  go_enter Tryz.func92, Tryz.ntmps92
  go_wp2_with fail
  refine (ones64_any n _ hn).mono ?_
  rintro e w1 ⟨rfl, rfl⟩
  go_wp2_with fail
  rw [HR.out]
  exact ⟨rfl, rfl⟩
theorem ls_ok : ∀ d, d < 41 → lsN d < 40 ∧ popN (d + lsN d) ≤ lsN d ∧ ∀ s, s < lsN d → s < popN (d + s) := by decide +kernel
theorem iLeastSpike (d : Nat) (dd : Int) (w : World) (hd : dd = d) (h40 : d ≤ 40) : Calls Tryz.prog 36 #[.int .i64 dd] w (RetIIC (lsN d) 0 w) := by
  subst hd
  have h1 := ls_ok d (by omega)
  obtain ⟨L, hL⟩ : ∃ L, L = lsN d := ⟨_, rfl⟩
  rw [← hL] at h1 ⊢
  obtain ⟨R, hR⟩ : ∃ R, R = RetIIC L 0 w := ⟨_, rfl⟩
  have HR := Lib.hid hR
  rw [← hR]
  clear hR
  have HL := Lib.hid h1
  have hL40 := h1.1
  have HI := Lib.hid (show inB (d : Int) 0 1000000 = true from inB_iff.2 ⟨by omega, by omega⟩)
  clear h1 hL
  go_enter Tryz.func36, Tryz.ntmps36
  go_wp2_with fail
  refine (in_any (d : Int) 0 1000000 _).mono ?_
  rintro e w1 ⟨rfl, rfl⟩
  rw [HI.out]
  go_wp2_with fail
  go_loopw [4] (fun s wr => ∃ k : Nat, k ≤ L ∧ s = .int .i64 k ∧ wr = w1) (fun s _ => 100 - (intOf s).toNat)
  case atStart => exact ⟨0, Nat.zero_le _, rfl, rfl⟩
  case round =>
    obtain ⟨k, hk, rfl, rfl⟩ := hrel
    have hwr : IntKind.i64.wrap ((d : Int) + (k : Int)) = ((d + k : Nat) : Int) := by rw [IntKind.wrap_i64]; omega
    have HO := Lib.hid (ones_any (d + k) wr (by omega))
    by_cases hlt : k < L
    · have hp := HL.out.2.2 k hlt
      obtain ⟨p, hp2⟩ : ∃ p, p = popN (d + k) := ⟨_, rfl⟩
      rw [← hp2] at hp HO
      have hdec : decide ((k : Int) < (p : Int)) = true := decide_eq_true (by omega)
      clear hp2
      go_wp2_with fail
      refine HO.out.mono ?_
      rintro e w2 ⟨rfl, rfl⟩
      go_wp2_with fail
      go_roundw
      case rel => exact ⟨k + 1, by omega, by go_num, trivial⟩
      case measure => simp [intOf]; omega
    · obtain rfl : k = L := by omega
      have hp := HL.out.2.1
      obtain ⟨p, hp2⟩ : ∃ p, p = popN (d + k) := ⟨_, rfl⟩
      rw [← hp2] at hp HO
      have hdec : decide ((k : Int) < (p : Int)) = false := decide_eq_false (by omega)
      clear hp2
      go_wp2_with fail
      refine HO.out.mono ?_
      rintro e w2 ⟨rfl, rfl⟩
      go_wp2_with fail
      rw [HR.out]
      exact RetIIC.mk rfl rfl (Ext.refl _)
end Go.Proofs.YtoodhbafleemjaaGreat

/- spec.l09Code, HitDimension, CohitDimension, AdmissibleMonomials, SpikeMonomials. -/
namespace Go.Proofs.YtoodhbafleemjaaGreat
open Go.RowKit
set_option linter.unusedVariables false

set_option maxRecDepth 100000 in
theorem code09_any (v dd : Int) (w : World) : Calls Tryz.prog 81 #[.int .i64 v, .int .i64 dd] w (RetI (cdO v dd) w) := by
  obtain ⟨R, hR⟩ : ∃ R, R = RetI (cdO v dd) w := ⟨_, rfl⟩
  have HR := Lib.hid hR
  rw [← hR]
  clear hR
  cases h1 : inB v 1 4
  · have HV := Lib.hid (cdO_bad (v := v) (dd := dd) (by rw [h1]; simp))
    have H1 := Lib.hid h1
    clear h1
    go_enter Tryz.func81, Tryz.ntmps81
    go_wp2_with fail
    refine (l01In_any v 1 4 _).mono ?_
    rintro e w1 ⟨rfl, rfl⟩
    rw [H1.out]
    go_wp2_with fail
    rw [HR.out, HV.out]
    exact ⟨rfl, rfl⟩
  · cases h2 : inB dd 0 40
    · have HV := Lib.hid (cdO_bad (v := v) (dd := dd) (by rw [h2]; simp))
      have H1 := Lib.hid h1
      have H2 := Lib.hid h2
      clear h1 h2
      go_enter Tryz.func81, Tryz.ntmps81
      go_wp2_with fail
      refine (l01In_any v 1 4 _).mono ?_
      rintro e w1 ⟨rfl, rfl⟩
      rw [H1.out]
      go_wp2_with fail
      refine (l01In_any dd 0 40 _).mono ?_
      rintro e w1 ⟨rfl, rfl⟩
      rw [H2.out]
      go_wp2_with fail
      rw [HR.out, HV.out]
      exact ⟨rfl, rfl⟩
    · obtain ⟨k, d, hk⟩ := cdK_of h1 h2
      have HK := Lib.hid hk
      have H1 := Lib.hid h1
      have H2 := Lib.hid h2
      have HC := fun W : World => Lib.hid (count09_any k d v dd W HK.out.ev HK.out.ed HK.out.k3 HK.out.d40)
      have HCd := Lib.hid HK.out.cd
      obtain ⟨m, hm⟩ : ∃ m, m = (mons k d).length := ⟨_, rfl⟩
      rw [← hm] at HC HCd
      clear h1 h2 hk hm
      by_cases hl : 100 < m
      · have hl2 : decide ((100 : Int) < (m : Int)) = true := decide_eq_true (by omega)
        have HV := HCd.out
        rw [if_pos hl] at HV
        have HV := Lib.hid HV
        go_enter Tryz.func81, Tryz.ntmps81
        go_wp2_with fail
        refine (l01In_any v 1 4 _).mono ?_
        rintro e w1 ⟨rfl, rfl⟩
        rw [H1.out]
        go_wp2_with fail
        refine (l01In_any dd 0 40 _).mono ?_
        rintro e w1 ⟨rfl, rfl⟩
        rw [H2.out]
        go_wp2_with fail
        refine (HC _).out.mono ?_
        rintro e w1 ⟨rfl, rfl⟩
        go_wp2_with fail
        rw [HR.out, HV.out]
        exact ⟨rfl, rfl⟩
      · have hl2 : decide ((100 : Int) < (m : Int)) = false := decide_eq_false (by omega)
        have HV := HCd.out
        rw [if_neg hl] at HV
        have HV := Lib.hid HV
        go_enter Tryz.func81, Tryz.ntmps81
        go_wp2_with fail
        refine (l01In_any v 1 4 _).mono ?_
        rintro e w1 ⟨rfl, rfl⟩
        rw [H1.out]
        go_wp2_with fail
        refine (l01In_any dd 0 40 _).mono ?_
        rintro e w1 ⟨rfl, rfl⟩
        rw [H2.out]
        go_wp2_with fail
        refine (HC _).out.mono ?_
        rintro e w1 ⟨rfl, rfl⟩
        go_wp2_with fail
        rw [HR.out, HV.out]
        exact ⟨rfl, rfl⟩

set_option maxRecDepth 100000 in
theorem sHitDimension (v dd : Int) (w : World) : Calls Tryz.prog 29 #[.int .i64 v, .int .i64 dd] w (RetIIC (hdO v dd) (cdO v dd) w) := by
  obtain ⟨R, hR⟩ : ∃ R, R = RetIIC (hdO v dd) (cdO v dd) w := ⟨_, rfl⟩
  have HR := Lib.hid hR
  rw [← hR]
  clear hR
  obtain ⟨c, hc⟩ : ∃ c, c = cdO v dd := ⟨_, rfl⟩
  have HC := Lib.hid (code09_any v dd w)
  have HCd := Lib.hid hc
  rw [← hc] at HC
  by_cases h0 : c = 0
  · obtain ⟨k, d, hk, hM⟩ := cdK_zero (hc.symm.trans h0)
    have HK := Lib.hid hk
    have HM := Lib.hid hM
    have HRo := fun W : World => Lib.hid (rows09_any k d v dd W HK.out.ev HK.out.ed HK.out.k3 HK.out.d40 (by omega))
    obtain ⟨rows, hrows⟩ : ∃ r, r = hitR k d := ⟨_, rfl⟩
    rw [← hrows] at HRo
    have HRw := Lib.hid hrows
    have hr100 : rows.length ≤ 100 := by rw [hrows]; exact Nat.le_trans gens_hit.len hM
    subst h0
    clear hc hk hM hrows
    go_enter Tryz.func29, Tryz.ntmps29
    go_wp2_with fail
    refine HC.out.mono ?_
    rintro e w1 ⟨rfl, rfl⟩
    go_wp2_with fail
    refine (HRo _).out.mono ?_
    rintro e w3 ⟨A3, c3, rfl, hr3, hb3⟩
    have HB3 := Lib.hid hb3
    clear hr3 hb3
    go_wp2_with fail
    rw [HR.out]
    exact RetIIC.mk (by rw [HK.out.hd (by have := HM.out; omega), HRw.out]) HCd.out HB3.out
  · have hne : (c != 0) = true := by simpa using h0
    have HN := Lib.hid h0
    clear hc h0
    go_enter Tryz.func29, Tryz.ntmps29
    go_wp2_with fail
    refine HC.out.mono ?_
    rintro e w1 ⟨rfl, rfl⟩
    go_wp2_with fail
    rw [HR.out]
    exact RetIIC.mk (hdO_no (by rw [← HCd.out]; exact HN.out)).symm HCd.out (Below.refl _ _)
set_option maxRecDepth 100000 in
theorem sCohitDimension (v dd : Int) (w : World) : Calls Tryz.prog 27 #[.int .i64 v, .int .i64 dd] w (RetIIC (chO v dd) (cdO v dd) w) := by
  obtain ⟨R, hR⟩ : ∃ R, R = RetIIC (chO v dd) (cdO v dd) w := ⟨_, rfl⟩
  have HR := Lib.hid hR
  rw [← hR]
  clear hR
  obtain ⟨c, hc⟩ : ∃ c, c = cdO v dd := ⟨_, rfl⟩
  have HC := Lib.hid (code09_any v dd w)
  have HCd := Lib.hid hc
  rw [← hc] at HC
  by_cases h0 : c = 0
  · obtain ⟨k, d, hk, hM⟩ := cdK_zero (hc.symm.trans h0)
    have HK := Lib.hid hk
    have HM := Lib.hid hM
    have HRo := fun W : World => Lib.hid (rows09_any k d v dd W HK.out.ev HK.out.ed HK.out.k3 HK.out.d40 (by omega))
    have HCo := fun W : World => Lib.hid (count09_any k d v dd W HK.out.ev HK.out.ed HK.out.k3 HK.out.d40)
    have hcl := coh_len k d
    obtain ⟨m, hm⟩ : ∃ m, m = (mons k d).length := ⟨_, rfl⟩
    rw [← hm] at HCo hcl hM
    obtain ⟨rows, hrows⟩ : ∃ r, r = hitR k d := ⟨_, rfl⟩
    rw [← hrows] at HRo hcl
    have HRw := Lib.hid hrows
    have hr100 : rows.length ≤ m := by omega
    have hwr : IntKind.i64.wrap ((m : Int) - (rows.length : Int)) = (m : Int) - (rows.length : Int) := by rw [IntKind.wrap_i64]; omega
    have HCL := Lib.hid hcl
    subst h0
    clear hc hk hrows hm hcl
    go_enter Tryz.func27, Tryz.ntmps27
    go_wp2_with fail
    refine HC.out.mono ?_
    rintro e w1 ⟨rfl, rfl⟩
    go_wp2_with fail
    refine (HCo _).out.mono ?_
    rintro e w2 ⟨rfl, rfl⟩
    go_wp2_with fail
    refine (HRo _).out.mono ?_
    rintro e w3 ⟨A3, c3, rfl, hr3, hb3⟩
    have B3 := Lib.hid hb3
    clear hr3 hb3
    go_wp2_with fail
    rw [HR.out]
    exact RetIIC.mk (by rw [HK.out.ch (by have := HM.out; omega)]; have := HCL.out; omega) HCd.out B3.out
  · have hne : (c != 0) = true := by simpa using h0
    have HN := Lib.hid h0
    clear hc h0
    go_enter Tryz.func27, Tryz.ntmps27
    go_wp2_with fail
    refine HC.out.mono ?_
    rintro e w1 ⟨rfl, rfl⟩
    go_wp2_with fail
    rw [HR.out]
    exact RetIIC.mk (chO_no (by rw [← HCd.out]; exact HN.out)).symm HCd.out (Below.refl _ _)
set_option maxRecDepth 100000 in
theorem spike09_any (A : Option Addr) (n c B : Nat) (xs : List Int) (w : World) (h : RdS w B A n c xs) (hn : n ≤ 100) (hx : ∀ z ∈ xs, 0 ≤ z ∧ z ≤ 40) :
    Calls Tryz.prog 90 #[.slice A n c] w (RetB (spkB xs) w) := by
  obtain ⟨R, hR⟩ : ∃ R, R = RetB (spkB xs) w := ⟨_, rfl⟩
  have HR := Lib.hid hR
  rw [← hR]
  clear hR
  have HL := Lib.hid h.len
  have HX := Lib.hid hx
  clear hx
  go_enter Tryz.func90, Tryz.ntmps90
  go_wp2_with fail
  go_loopw [3] (fun i wr => ∃ k : Nat, k ≤ n ∧ i = .int .i64 k ∧ Hid (spkB (xs.take k) = true) ∧ ∃ q, wr = w.drewN q) (fun i _ => n - (intOf i).toNat)
  case atStart => exact ⟨0, Nat.zero_le _, rfl, Lib.hid (by simp [spkB]), 0, rfl⟩
  case round =>
    obtain ⟨k, hk, rfl, HS, q, rfl⟩ := hrel
    by_cases hlt : k < n
    · obtain ⟨ad, x, rfl, _, hx, hc⟩ := h.at_ hlt
      have hx40 := HX.out x (mem_of hx)
      have hb := spk_bit hx40.1 hx40.2
      have HXk := Lib.hid hx.out
      obtain ⟨t, ht⟩ : ∃ t, t = (x.toNat &&& (x.toNat + 1) == 0) := ⟨_, rfl⟩
      rw [← ht] at hb
      have HT := Lib.hid ht
      clear hx ht
      cases t
      · have hne : (bits BinOp.and IntKind.i64 x (x + 1) != 0) = true := by rw [bne, hb]; rfl
        have HF := Lib.hid (show spkB xs = false from by
          unfold spkB
          rw [List.all_eq_false]
          exact ⟨x, List.mem_of_getElem? HXk.out, by rw [← HT.out]; decide⟩)
        clear hb
        go_wp2_with fail
        go_region
        go_wp2_with fail
        rw [HR.out, HF.out]
        exact ⟨rfl, (by first | exact ⟨_, rfl⟩ | exact ⟨_, World.drewN_drewN _ _ _⟩ | (simp only [World.drewN_drewN]; exact ⟨_, rfl⟩))⟩
      · have hne : (bits BinOp.and IntKind.i64 x (x + 1) != 0) = false := by rw [bne, hb]; rfl
        have HS2 := Lib.hid (show spkB (xs.take (k + 1)) = true from by
          have h1 := HS.out
          unfold spkB at h1 ⊢
          rw [List.take_add_one, HXk.out, List.all_append, h1]
          simp only [Option.toList_some, List.all_cons, List.all_nil, Bool.and_true, Bool.true_and]
          exact HT.out.symm)
        clear hb
        go_wp2_with fail
        go_region
        go_wp2_with fail
        go_roundw
        case rel => exact ⟨k + 1, by omega, by go_num, HS2, (by first | exact ⟨_, rfl⟩ | exact ⟨_, World.drewN_drewN _ _ _⟩ | (simp only [World.drewN_drewN]; exact ⟨_, rfl⟩))⟩
        case measure => simp [intOf]; omega
    · have HF := Lib.hid (show spkB xs = true from by
        have h1 := HS.out
        rwa [List.take_of_length_le (by have := HL.out; omega)] at h1)
      go_wp2_with fail
      rw [HR.out, HF.out]
      exact ⟨rfl, (by first | exact ⟨_, rfl⟩ | exact ⟨_, World.drewN_drewN _ _ _⟩ | (simp only [World.drewN_drewN]; exact ⟨_, rfl⟩))⟩
theorem spk_end {k d : Nat} {ps : List (Value × List Int)} (h : ps.map (·.2) = mons k d) : (ps.filter fun p => spkB p.2).map (·.2) = spkL k d := by
  unfold spkL
  rw [← h, List.filter_map]
  rfl
set_option maxRecDepth 100000 in
set_option maxHeartbeats 1000000 in
theorem sSpikeMonomials (v dd : Int) (w : World) : Calls Tryz.prog 34 #[.int .i64 v, .int .i64 dd] w (RetLK (spO v dd) (cdO v dd) w) := by
  obtain ⟨R, hR⟩ : ∃ R, R = RetLK (spO v dd) (cdO v dd) w := ⟨_, rfl⟩
  have HR := Lib.hid hR
  rw [← hR]
  clear hR
  obtain ⟨c, hc⟩ : ∃ c, c = cdO v dd := ⟨_, rfl⟩
  have HC := Lib.hid (code09_any v dd w)
  have HCd := Lib.hid hc
  rw [← hc] at HC
  by_cases h0 : c = 0
  · obtain ⟨k, d, hk, hM⟩ := cdK_zero (hc.symm.trans h0)
    have HK := Lib.hid hk
    have HM := Lib.hid hM
    have HA := Lib.hid (l08All_any k d v dd w HK.out.ev HK.out.ed HK.out.k3 HK.out.d40)
    obtain ⟨n, hn⟩ : ∃ n, n = (mons k d).length := ⟨_, rfl⟩
    rw [← hn] at HA
    have hn100 : n ≤ 100 := by rw [hn]; exact hM
    subst h0
    clear hc hk hM hn
    go_enter Tryz.func34, Tryz.ntmps34
    go_wp2_with fail
    refine HC.out.mono ?_
    rintro e w1 ⟨rfl, rfl⟩
    go_wp2_with fail
    refine HA.out.mono ?_
    rintro e w2 ⟨A, cM, rfl, ho, hb⟩
    have HB := Lib.hid hb
    obtain ⟨ps, hps, hpv, hpr⟩ := ho.rd.vals
    have HPS := Lib.hid hps
    have HPV := Lib.hid hpv
    have HPR := Lib.hid hpr
    have HPN := Lib.hid (show ps.length = n by have := hpv.len; simpa using this)
    have HB2 := Lib.hid (show Below w2.heap.size w2 (w2.alloc (.cells #[] 41)) from (Below.refl _ _).alloc (Nat.le_refl _) _)
    have HV2 := Lib.hid (ownV_start (w := w2) (Nat.le_refl _))
    clear ho hb hps hpv hpr
    go_wp2_with fail
    go_loopw [8, 9] (fun o i wr => ∃ (m l c' : Nat) (A' : Option Addr) (qs : List (Value × List Int)), m ≤ n ∧ i = .int .i64 m ∧ o = .slice A' l c' ∧ l ≤ m ∧ Hid (qs = (ps.take m).filter (fun p => spkB p.2)) ∧ Hid (OwnV wr w2.heap.size 41 A' l c' (qs.map (·.1))) ∧ Hid (Below w2.heap.size w2 wr)) (fun _ i _ => n - (intOf i).toNat)
    case atStart => exact ⟨0, 0, 0, _, [], Nat.zero_le _, rfl, rfl, Nat.le_refl _, Lib.hid (by simp), HV2, HB2⟩
    case round =>
      clear HV2 HB2
      obtain ⟨m, l, c', A', qs, hm, rfl, rfl, hlm, HQ, HOV, HBr⟩ := hrel
      by_cases hlt : m < n
      · obtain ⟨p, hp⟩ : ∃ p, ps[m]? = some p := ⟨_, List.getElem?_eq_getElem (by have := HPN.out; omega)⟩
        obtain ⟨ad, y1, rfl, _, hy1, hcy⟩ := (HPV.out.below HBr.out).at_ hlt
        have hpy : y1 = p.1 := by
          have h1 := hy1.out
          rw [List.getElem?_map, hp] at h1
          exact (Option.some.inj h1).symm
        obtain ⟨A3, n3, c3, he, hr3⟩ := (HPR.out.below HBr.out) p (List.mem_of_getElem? hp)
        rw [hpy, he] at hcy
        have hMm : p.2 ∈ mons k d := List.mem_of_getElem? (i := m) (by rw [← HPS.out, List.getElem?_map, hp]; rfl)
        have hmp := mons_pos HK.out.d40 p.2 hMm
        have HSp := Lib.hid (spike09_any A3 n3 c3 _ p.2 wr hr3 (by rw [← hr3.len, hmp.1]; have := HK.out.k3; omega) hmp.2)
        have HPm := Lib.hid hp
        have HPe := Lib.hid he
        obtain ⟨b, hb⟩ : ∃ b, b = spkB p.2 := ⟨_, rfl⟩
        rw [← hb] at HSp
        have HBb := Lib.hid hb
        clear hy1 hpy hp he hMm hr3 hmp hb
        cases b
        · have HQ2 := Lib.hid (show qs = (ps.take (m + 1)).filter (fun p => spkB p.2) from by
            rw [List.take_add_one, HPm.out, List.filter_append, ← HQ.out]
            simp [← HBb.out])
          go_wp2_with fail
          refine HSp.out.mono ?_
          rintro e w3 ⟨rfl, q, rfl⟩
          go_wp2_with fail
          go_roundw
          case rel => exact ⟨m + 1, l, c', A', qs, by omega, by go_num, rfl, by omega, HQ2, Lib.hid (HOV.out.drewN q), Lib.hid (below_drewN HBr.out q)⟩
          case measure => simp [intOf]; omega
        · have HQ2 := Lib.hid (show qs ++ [p] = (ps.take (m + 1)).filter (fun p => spkB p.2) from by
            rw [List.take_add_one, HPm.out, List.filter_append, ← HQ.out]
            simp [← HBb.out])
          go_wp2_with fail
          refine HSp.out.mono ?_
          rintro e w3 ⟨rfl, q, rfl⟩
          have hb8 : Below wr.heap.size wr ((wr.drewN q).alloc (.cells #[.slice A3 n3 c3] 41)) := (below_drewN (Below.refl _ _) q).alloc (Nat.le_refl _) _
          have V8 := Lib.hid (HOV.out.below hb8)
          have B8 := Lib.hid (HBr.out.trans (hb8.mono HBr.out.size))
          have N8 := Lib.hid (rdV_new (wr.drewN q) (.slice A3 n3 c3) 41)
          have ONE := Lib.hid (show ∀ z ∈ [Value.slice A3 n3 c3], z.oneCell' = true from fun z hz => by rw [List.mem_singleton.1 hz]; rfl)
          clear hb8
          go_wp2_with (at_builtin; refine wpList_appV eltL rfl (.tmp 31) (.tmp 36) rfl rfl rfl V8.out N8.out ONE.out (by omega) (by decide) B8.out.size ?_; intro A4 c4 w4 hv4 hg4 _; have V9 := Lib.hid hv4; have D9 := Lib.hid (B8.out.grown hg4 B8.out.size V8.out.row); clear hv4 hg4)
          have VE := Lib.hid (show OwnV w4 w2.heap.size 41 A4 (l + 1) c4 ((qs ++ [p]).map (·.1)) from by have h := V9.out; simpa [HPe.out] using h)
          go_roundw
          case rel => exact ⟨m + 1, l + 1, c4, A4, qs ++ [p], by omega, by go_num, rfl, by omega, HQ2, VE, D9⟩
          case measure => simp [intOf]; omega
      · have HE := Lib.hid (show qs.map (·.2) = spkL k d from by
          rw [HQ.out, List.take_of_length_le (by have := HPN.out; omega)]
          exact spk_end HPS.out)
        have HRd := Lib.hid (show RdL wr wr.heap.size A' l c' (qs.map (·.2)) from rdL_vals HOV.out.rd (fun p hp => by
          rw [HQ.out] at hp
          exact ((HPR.out p (List.mem_of_mem_take (List.mem_filter.1 hp).1)).below HBr.out).mono HBr.out.size))
        go_wp2_with fail
        rw [HR.out]
        exact RetLK.mk HRd.out (by rw [HE.out, HK.out.sp (by have := HM.out; omega)]) HCd.out (HB.out.trans (HBr.out.mono HB.out.size))
  · have hne : (c != 0) = true := by simpa using h0
    have HN := Lib.hid h0
    clear hc h0
    go_enter Tryz.func34, Tryz.ntmps34
    go_wp2_with fail
    refine HC.out.mono ?_
    rintro e w1 ⟨rfl, rfl⟩
    go_wp2_with fail
    rw [HR.out]
    exact RetLK.mk RdL.nil (spO_no (by rw [← HCd.out]; exact HN.out)).symm HCd.out (Below.refl _ _)
theorem coh_end' {k d : Nat} {ps : List (Value × List Int)} (h : ps.map (·.2) = mons k d) : (ps.filter fun p => decide (p.2 ∉ topL k d)).map (·.2) = cohL k d := by
  unfold cohL
  rw [← h, List.filter_map]
  rfl
theorem last_at {p : Pol} {x : List Int} (h : p[p.length - 1]? = some x) : x = lastL p := by
  unfold lastL
  rw [List.getLast?_eq_getElem?, h]; rfl
theorem Mid.push {B K : Nat} {w0 w w' : World} {row : Option Nat} (h : Mid B K w0 w) (hg : w.grownBy w' row) (hr : ∀ g, row = some g → (B ≤ g ∧ g < K) ∨ w0.heap.size ≤ g) : Mid B K w0 w' :=
  ⟨hg.os.trans h.os, hg.tape.trans h.tape, hg.output.trans h.output, Nat.le_trans h.size hg.size, fun i hi ho => (hg.block i (Nat.lt_of_lt_of_le hi h.size) fun e => by
    rcases hr i e.symm with ⟨a, b⟩ | a <;> omega).trans (h.block i hi ho)⟩
theorem Mid.grow {B K : Nat} {w0 w w' : World} (h : Mid B K w0 w) (hb : Below w.heap.size w w') : Mid B K w0 w' := h.push (grownBy_below hb) (by simp)
/-- whether a monomial is the greatest of one of the first rows -/
def gr8 (rows : List Pol) (j : Nat) (x : List Int) : Bool := (rows.take j).any fun r => decide (lastL r = x)
theorem gr8_step {rows : List Pol} {j : Nat} {x : List Int} {p : Pol} (h : rows[j]? = some p) : gr8 rows (j + 1) x = (gr8 rows j x || decide (lastL p = x)) := by
  unfold gr8
  rw [List.take_add_one, h, List.any_append]
  simp
theorem gr8_end {k d j : Nat} {x : List Int} (hj : (hitR k d).length ≤ j) : gr8 (hitR k d) j x = decide (x ∈ topL k d) := by
  unfold gr8 topL
  rw [List.take_of_length_le hj, Bool.eq_iff_iff, List.any_eq_true, decide_eq_true_iff, List.mem_map]
  simp only [decide_eq_true_eq]
set_option maxRecDepth 100000 in
set_option maxHeartbeats 1000000 in
theorem sAdmissibleMonomials (v dd : Int) (w : World) : Calls Tryz.prog 31 #[.int .i64 v, .int .i64 dd] w (RetLK (adO v dd) (cdO v dd) w) := by
  obtain ⟨R, hR⟩ : ∃ R, R = RetLK (adO v dd) (cdO v dd) w := ⟨_, rfl⟩
  have HR := Lib.hid hR
  rw [← hR]
  clear hR
  obtain ⟨c, hc⟩ : ∃ c, c = cdO v dd := ⟨_, rfl⟩
  have HC := Lib.hid (code09_any v dd w)
  have HCd := Lib.hid hc
  rw [← hc] at HC
  by_cases h0 : c = 0
  · obtain ⟨k, d, hk, hM⟩ := cdK_zero (hc.symm.trans h0)
    have HK := Lib.hid hk
    have HM := Lib.hid hM
    have HA := fun W : World => Lib.hid (l08All_any k d v dd W HK.out.ev HK.out.ed HK.out.k3 HK.out.d40)
    have HRo := fun W : World => Lib.hid (rows09_any k d v dd W HK.out.ev HK.out.ed HK.out.k3 HK.out.d40 (by omega))
    obtain ⟨rows, hrows⟩ : ∃ r, r = hitR k d := ⟨_, rfl⟩
    rw [← hrows] at HRo
    have HRw := Lib.hid hrows
    have hok := hit_ok k d
    rw [← hrows] at hok
    have HOk := Lib.hid hok
    have HSub := Lib.hid (show ∀ r ∈ rows, r.length ≤ 100 ∧ ∀ z ∈ r, z ∈ mons k d from fun r hr => by
      rw [hrows] at hr
      exact ⟨Nat.le_trans (asc_le (gens_hit.rows r hr).1.asc (gens_hit.rows r hr).1.sub) hM, hit_sub k d r hr⟩)
    obtain ⟨rn, hrn⟩ : ∃ rn, rn = rows.length := ⟨_, rfl⟩
    have HRn := Lib.hid hrn
    have hr100 : rn ≤ 100 := by rw [hrn, hrows]; exact Nat.le_trans gens_hit.len hM
    obtain ⟨n, hn⟩ : ∃ n, n = (mons k d).length := ⟨_, rfl⟩
    rw [← hn] at HA
    have hn100 : n ≤ 100 := by rw [hn]; exact hM
    subst h0
    clear hc hk hM hn hrows hok hrn
    go_enter Tryz.func31, Tryz.ntmps31
    go_wp2_with fail
    refine HC.out.mono ?_
    rintro e w1 ⟨rfl, rfl⟩
    go_wp2_with fail
    refine (HRo _).out.mono ?_
    rintro e w2 ⟨AR, cR, rfl, hrr, hb2⟩
    rw [← HRn.out] at hrr ⊢
    have HRR := Lib.hid hrr
    have HB2 := Lib.hid hb2
    have HBa := Lib.hid (show Below w2.heap.size w2 (w2.alloc (.cells #[] 41)) from (Below.refl _ _).alloc (Nat.le_refl _) _)
    have HV2 := Lib.hid (ownV_start (w := w2) (Nat.le_refl _))
    clear hrr hb2
    go_wp2_with fail
    refine (HA _).out.mono ?_
    rintro e w3 ⟨A, cM, rfl, ho, hb⟩
    have HB3 := Lib.hid (HBa.out.trans (hb.mono HBa.out.size))
    obtain ⟨N2, hN2⟩ : ∃ N, N = w2.heap.size := ⟨_, rfl⟩
    have hz2 : (w2.alloc (.cells #[] 41)).heap.size = N2 + 1 := by rw [hN2]; simp
    rw [hz2] at ho
    obtain ⟨ps, hpv, hps, hpr⟩ := ho.pairs
    have HPS := Lib.hid hps
    have HPV := Lib.hid hpv
    have HPR := Lib.hid hpr
    have HPN := Lib.hid (show ps.length = n by have := hpv.len; simpa using this)
    have HV3 := Lib.hid (HV2.out.below hb)
    have HR3 := Lib.hid (HRR.out.here HB3.out)
    have HM3 := Lib.hid (Mid.of_below (B := N2) (K := N2 + 1) (Below.refl w3.heap.size w3))
    have HNN := Lib.hid hN2
    have HO3 := Lib.hid (show ∀ g, Value.ownBlock (.slice (some ⟨w2.heap.size, 0, none⟩) 0 0) = some g → (N2 ≤ g ∧ g < N2 + 1) ∨ w3.heap.size ≤ g from fun g hg => by
      have : w2.heap.size = g := by simpa [Value.ownBlock] using hg
      omega)
    have HN3 := Lib.hid (show N2 + 1 ≤ w3.heap.size from by rw [← hz2]; exact hb.size)
    clear ho hb hps hpv hpr HV2 HBa hz2 hN2
    go_wp2_with fail
    go_loopw [8, 10] (fun o i wr => ∃ (m l c' : Nat) (A' : Option Addr) (qs : List (Value × List Int)), m ≤ n ∧ i = .int .i64 m ∧ o = .slice A' l c' ∧ l ≤ m ∧ Hid (qs = (ps.take m).filter (fun p => decide (p.2 ∉ topL k d))) ∧ Hid (OwnV wr w2.heap.size 41 A' l c' (qs.map (·.1))) ∧ Hid (Below w2.heap.size w2 wr) ∧ Hid (Mid N2 (N2 + 1) w3 wr) ∧ Hid (∀ g, Value.ownBlock (.slice A' l c') = some g → (N2 ≤ g ∧ g < N2 + 1) ∨ w3.heap.size ≤ g)) (fun _ i _ => n - (intOf i).toNat)
    case atStart => exact ⟨0, 0, 0, _, [], Nat.zero_le _, rfl, rfl, Nat.le_refl _, Lib.hid (by simp), HV3, HB3, HM3, HO3⟩
    case round =>
      clear HV3 HB3 HR3 HM3 HO3
      obtain ⟨m, l, c', A', qs, hm, rfl, rfl, hlm, HQ, HOV, HBr, HMr, HOr⟩ := hrel
      by_cases hlt : m < n
      · obtain ⟨p, hp⟩ : ∃ p, ps[m]? = some p := ⟨_, List.getElem?_eq_getElem (by have := HPN.out; omega)⟩
        obtain ⟨ad, y1, rfl, _, hy1, hcy⟩ := (HPV.out.mid HMr.out (Nat.le_refl _)).rd.at_ hlt
        have hpy : y1 = p.1 := by
          have h1 := hy1.out
          rw [List.getElem?_map, hp] at h1
          exact (Option.some.inj h1).symm
        obtain ⟨A3, n3, c3, he, ho3, _⟩ := HPR.out.each p (List.mem_of_getElem? hp)
        have hr3 := (ho3.mid HMr.out (Nat.le_refl _)).rd
        rw [hpy, he] at hcy
        have hMm : p.2 ∈ mons k d := List.mem_of_getElem? (i := m) (by rw [← HPS.out, List.getElem?_map, hp]; rfl)
        have hn3 : n3 ≤ 8 := by rw [← hr3.len, (mons_pos HK.out.d40 p.2 hMm).1]; have := HK.out.k3; omega
        have HR3 := Lib.hid hr3
        have HPm := Lib.hid hp
        have HPe := Lib.hid he
        obtain ⟨W, hW⟩ : ∃ W : World, W = wr := ⟨_, rfl⟩
        subst hW
        have HRr := Lib.hid (HRR.out.here HBr.out)
        clear hy1 hpy hp he hMm hr3 ho3
        go_wp2_with fail
        go_loopw [11, 12] (fun g j wz => ∃ (t q : Nat) (b : Bool), t ≤ rn ∧ j = .int .i64 t ∧ g = .bool b ∧ Hid (b = gr8 rows t p.2) ∧ wz = W.drewN q) (fun _ j _ => rn - (intOf j).toNat)
        case atStart => exact ⟨0, 0, false, Nat.zero_le _, rfl, rfl, Lib.hid rfl, rfl⟩
        case round =>
          obtain ⟨t, q, b, ht, rfl, rfl, HG, rfl⟩ := hrel
          by_cases hlt2 : t < rn
          · obtain ⟨adR, AR4, n4, c4, r4, rfl, _, hr4, hc4, hrl⟩ := HRr.out.at_ hlt2
            have hmem := List.mem_of_getElem? hr4.out
            have hne4 := (HOk.out.each r4 hmem).2
            have hl4 := hrl.len
            have hn4 : 0 < n4 := by
              rw [← hl4]
              exact List.length_pos_iff.2 hne4
            have hn4b : n4 ≤ 100 := by rw [← hl4]; exact (HSub.out r4 hmem).1
            obtain ⟨ad5, A5, n5, c5, x5, rfl, _, hx5, hc5, hr5⟩ := hrl.at_ (k := n4 - 1) (by omega)
            have hlast := last_at (p := r4) (x := x5) (by rw [hl4]; exact hx5.out)
            have hn5 : n5 ≤ 8 := by
              rw [← hr5.len, (mons_pos HK.out.d40 x5 ((HSub.out r4 hmem).2 x5 (List.mem_of_getElem? hx5.out))).1]; have := HK.out.k3; omega
            have hw5 : IntKind.i64.wrap ((n4 : Int) - 1) = ((n4 - 1 : Nat) : Int) := by rw [IntKind.wrap_i64]; omega
            have HSm := fun Q : Nat => Lib.hid (same_any A5 A3 c5 c3 n5 n3 _ _ x5 p.2 (W.drewN Q) (hr5.drewN Q) (HR3.out.drewN Q) (by omega) (by omega))
            have HST := Lib.hid (gr8_step (x := p.2) hr4.out)
            rw [← hlast, ← HG.out] at HST
            obtain ⟨e5, he5⟩ : ∃ e, e = decide (x5 = p.2) := ⟨_, rfl⟩
            rw [← he5] at HSm HST
            clear hmem hne4 hl4 hlast hr4 hrl hx5 hr5 he5
            cases b
            · go_wp2_with fail
              go_quiet ((go_at_call 85; first | exact Calls.quiet_of ((HSm _).out) | exact quiet_add ((HSm _).out)))
              go_wp2_with fail
              go_roundw
              case rel => exact ⟨t + 1, _, e5, by omega, by go_num, rfl, Lib.hid (by rw [HST.out]; rfl), rfl⟩
              case measure => simp [intOf]; omega
            · go_wp2_with fail
              go_quiet ((go_at_call 85; first | exact Calls.quiet_of ((HSm _).out) | exact quiet_add ((HSm _).out)))
              go_wp2_with fail
              go_roundw
              case rel => exact ⟨t + 1, _, true, by omega, by go_num, rfl, Lib.hid (by rw [HST.out]; rfl), rfl⟩
              case measure => simp [intOf]; omega
          · have HGE := Lib.hid (show b = decide (p.2 ∈ topL k d) from by rw [HG.out, HRw.out]; exact gr8_end (by rw [← HRw.out, ← HRn.out]; omega))
            have HVq := Lib.hid (HOV.out.drewN q)
            have HBq := Lib.hid (below_drewN HBr.out q)
            have HMq := Lib.hid (HMr.out.grow (below_drewN (Below.refl _ _) q))
            cases b
            · have HQ2 := Lib.hid (show qs ++ [p] = (ps.take (m + 1)).filter (fun p => decide (p.2 ∉ topL k d)) from by
                rw [List.take_add_one, HPm.out, List.filter_append, ← HQ.out]
                have : p.2 ∉ topL k d := of_decide_eq_false HGE.out.symm
                simp [this])
              have hb8 : Below (W.drewN q).heap.size (W.drewN q) ((W.drewN q).alloc (.cells #[.slice A3 n3 c3] 41)) := (Below.refl _ _).alloc (Nat.le_refl _) _
              have V8 := Lib.hid (HVq.out.below hb8)
              have B8 := Lib.hid (HBq.out.trans (hb8.mono HBq.out.size))
              have M8 := Lib.hid (HMq.out.grow hb8)
              have N8 := Lib.hid (rdV_new (W.drewN q) (.slice A3 n3 c3) 41)
              have ONE := Lib.hid (show ∀ z ∈ [Value.slice A3 n3 c3], z.oneCell' = true from fun z hz => by rw [List.mem_singleton.1 hz]; rfl)
              clear hb8
              go_wp2_with (at_builtin; refine wpList_appV eltL rfl (.tmp 60) (.tmp 65) rfl rfl rfl V8.out N8.out ONE.out (by omega) (by decide) B8.out.size ?_; intro A4 c4 w4 hv4 hg4 hw4; have V9 := Lib.hid hv4; have D9 := Lib.hid (B8.out.grown hg4 B8.out.size V8.out.row); have M9 := Lib.hid (M8.out.push hg4 HOr.out); have O9 := Lib.hid (show ∀ g, Value.ownBlock (.slice A4 (l + 1) c4) = some g → (N2 ≤ g ∧ g < N2 + 1) ∨ w3.heap.size ≤ g from fun g hg => (by rcases hw4 with e | e; (exact HOr.out g (e.symm.trans hg)); (right; have e2 := Option.some.inj (hg.symm.trans e); rw [e2]; exact M8.out.size))); clear hv4 hg4 hw4)
              have VE := Lib.hid (show OwnV w4 w2.heap.size 41 A4 (l + 1) c4 ((qs ++ [p]).map (·.1)) from by have h := V9.out; simpa [HPe.out] using h)
              go_roundw
              case rel => exact ⟨m + 1, l + 1, c4, A4, qs ++ [p], by omega, by go_num, rfl, by omega, HQ2, VE, D9, M9, O9⟩
              case measure => simp [intOf]; omega
            · have HQ2 := Lib.hid (show qs = (ps.take (m + 1)).filter (fun p => decide (p.2 ∉ topL k d)) from by
                rw [List.take_add_one, HPm.out, List.filter_append, ← HQ.out]
                have : p.2 ∈ topL k d := of_decide_eq_true HGE.out.symm
                simp [this])
              go_wp2_with fail
              go_roundw
              case rel => exact ⟨m + 1, l, c', A', qs, by omega, by go_num, rfl, by omega, HQ2, HVq, HBq, HMq, HOr⟩
              case measure => simp [intOf]; omega
      · have HE := Lib.hid (show qs.map (·.2) = cohL k d from by
          rw [HQ.out, List.take_of_length_le (by have := HPN.out; omega)]
          exact coh_end' HPS.out)
        have HRd := Lib.hid (show RdL wr wr.heap.size A' l c' (qs.map (·.2)) from rdL_vals HOV.out.rd (fun p hp => by
          rw [HQ.out] at hp
          obtain ⟨A3, n3, c3, he, ho3, _⟩ := HPR.out.each p (List.mem_of_mem_take (List.mem_filter.1 hp).1)
          exact ⟨A3, n3, c3, he, (ho3.mid HMr.out (Nat.le_refl _)).rd⟩))
        go_wp2_with fail
        rw [HR.out]
        exact RetLK.mk HRd.out (by rw [HE.out, HK.out.ad (by have := HM.out; omega)]) HCd.out (HB2.out.trans (HBr.out.mono HB2.out.size))
  · have hne : (c != 0) = true := by simpa using h0
    have HN := Lib.hid h0
    clear hc h0
    go_enter Tryz.func31, Tryz.ntmps31
    go_wp2_with fail
    refine HC.out.mono ?_
    rintro e w1 ⟨rfl, rfl⟩
    go_wp2_with fail
    rw [HR.out]
    exact RetLK.mk RdL.nil (adO_no (by rw [← HCd.out]; exact HN.out)).symm HCd.out (Below.refl _ _)
end Go.Proofs.YtoodhbafleemjaaGreat

/- slices.DeleteFunc at lists of lists; impl.SpikeMonomials. -/
namespace Go.Proofs.YtoodhbafleemjaaGreat
open Go.RowKit
set_option linter.unusedVariables false

/-- a call that hands back some of the rows of one's own, only to be read; from block B on anything may have turned -/
def RetDl (zs : Pol) (B : Nat) (w : World) (e : Ending) (w' : World) : Prop := ∃ A c, e = .returned (.slice A zs.length c) ∧ RdL w' w'.heap.size A zs.length c zs ∧ Below B w w'
/-- a condition on lists that answers q wherever it is called -/
structure CondQ (fid : Nat) (q : List Int → Bool) (ok : List Int → Prop) : Prop where
  enters : ∀ args w, (callFunc fid args).run Tryz.prog w = .ok (.enter fid args) w
  calls : ∀ (A : Option Addr) (n c : Nat) (xs : List Int) (w : World), RdS w w.heap.size A n c xs → n ≤ 100 → ok xs → Calls Tryz.prog fid #[.slice A n c] w (RetBb (q xs) w)
theorem firstB_cases (p : Nat → Bool) (n : Nat) : firstB p n = -1 ∧ (∀ j, j < n → p j = false) ∨ ∃ i : Nat, i < n ∧ firstB p n = i ∧ p i = true ∧ ∀ j, j < i → p j = false := by
  by_cases h : ∀ j, j < n → p j = false
  · exact .inl ⟨firstB_miss h, h⟩
  · have hex : ∃ i, i < n ∧ p i = true := by
      apply Classical.byContradiction
      intro hne
      exact h fun j hj => by
        cases e : p j with
        | false => rfl
        | true => exact absurd ⟨j, hj, e⟩ hne
    have key : ∀ m, (∃ i, i < m ∧ i < n ∧ p i = true) → ∃ i, i < n ∧ p i = true ∧ ∀ j, j < i → p j = false := by
      intro m
      induction m with
      | zero => rintro ⟨i, hi, _⟩; omega
      | succ m ih =>
        rintro ⟨i, hi, hn, hp⟩
        by_cases hm : ∃ i, i < m ∧ i < n ∧ p i = true
        · exact ih hm
        · refine ⟨i, hn, hp, fun j hj => ?_⟩
          cases e : p j with
          | false => rfl
          | true => exact absurd ⟨j, by omega, by omega, e⟩ hm
    obtain ⟨i, hi, hp⟩ := hex
    obtain ⟨i, h1, h2, h3⟩ := key (i + 1) ⟨i, by omega, hi, hp⟩
    exact .inr ⟨i, h1, firstB_hit h1 h3 h2, h2, h3⟩
theorem grown_setCells (b : Nat) : ∀ (vs : List Value) (o : Nat) (w : World), w.grownBy (w.setCells b o vs) (some b)
  | [], o, w => World.grownBy.refl _ _
  | v :: vs, o, w => (grown_set w b o v).trans (grown_setCells b vs (o + 1) _)
theorem Rows.put {w w' : World} {B K g : Nat} {ps : List (Value × List Int)} (h : Rows w B K ps) (hg : w.grownBy w' (some g)) (hne : ∀ p ∈ ps, ∀ h, p.1.ownBlock = some h → h ≠ g) : Rows w' B K ps :=
  ⟨fun p hp => (h.each p hp).grown hg fun q hq e => hne p hp q hq (Option.some.inj e), h.apart⟩
/-- what is known while elements are deleted: the first i cells hold what is kept of the first j, the cells from j on are the old ones -/
structure Dlt (w : World) (g n B K i j : Nat) (ps qs : List (Value × List Int)) : Prop where
  keep : ∀ t p, qs[t]? = some p → w.cell? ⟨g, t, none⟩ = some p.1
  old : ∀ t p, j ≤ t → ps[t]? = some p → w.cell? ⟨g, t, none⟩ = some p.1
  some_ : ∀ t, t < n → (w.cell? ⟨g, t, none⟩).isSome = true
  free : ∀ t, t < n → w.frozen? ⟨g, t, none⟩ = false
  rows : Rows w B K ps
  lt : g < w.heap.size
  len : qs.length = i
theorem Dlt.below {w w' : World} {g n B K i j : Nat} {ps qs : List (Value × List Int)} (h : Dlt w g n B K i j ps qs) (hb : Below w.heap.size w w') : Dlt w' g n B K i j ps qs :=
  ⟨fun t p hp => (hb.cell (p := ⟨g, t, none⟩) h.lt).trans (h.keep t p hp), fun t p ht hp => (hb.cell (p := ⟨g, t, none⟩) h.lt).trans (h.old t p ht hp),
    fun t ht => by rw [hb.cell (p := ⟨g, t, none⟩) h.lt]; exact h.some_ t ht, fun t ht => by rw [hb.frozen (p := ⟨g, t, none⟩) h.lt]; exact h.free t ht, h.rows.below hb, Nat.lt_of_lt_of_le h.lt hb.size, h.len⟩
theorem Dlt.skip {w : World} {g n B K i j : Nat} {ps qs : List (Value × List Int)} (h : Dlt w g n B K i j ps qs) : Dlt w g n B K i (j + 1) ps qs :=
  ⟨h.keep, fun t p ht hp => h.old t p (by omega) hp, h.some_, h.free, h.rows, h.lt, h.len⟩
theorem Dlt.put {w : World} {g n B K i j : Nat} {ps qs : List (Value × List Int)} {p : Value × List Int} (h : Dlt w g n B K i j ps qs) (hij : i ≤ j) (hj : j < n) (hne : ∀ p ∈ ps, ∀ h, p.1.ownBlock = some h → h ≠ g) : Dlt (w.setCell ⟨g, i, none⟩ p.1) g n B K (i + 1) (j + 1) ps (qs ++ [p]) := by
  obtain ⟨u, hu⟩ := Option.isSome_iff_exists.1 (h.some_ i (by omega))
  have hsame : (w.setCell ⟨g, i, none⟩ p.1).cell? ⟨g, i, none⟩ = some p.1 := World.cell?_setCell_same _ _ _ hu
  have hoth : ∀ t, t ≠ i → (w.setCell ⟨g, i, none⟩ p.1).cell? ⟨g, t, none⟩ = w.cell? ⟨g, t, none⟩ := fun t ht => World.cell?_setCell_other _ _ _ _ fun e => ht (by injection e with _ e2 _; exact e2.symm)
  refine ⟨fun t q hq => ?_, fun t q ht hq => ?_, fun t ht => ?_, fun t ht => ?_, h.rows.put (grown_set w g i p.1) hne, by simpa [World.setCell] using h.lt, by rw [List.length_append, h.len]; rfl⟩
  · by_cases e : t = i
    · subst e
      rw [List.getElem?_append_right (by rw [h.len]; exact Nat.le_refl _), h.len, Nat.sub_self] at hq
      simp only [List.getElem?_cons_zero, Option.some.injEq] at hq
      subst hq
      exact hsame
    · have ht : t < i := by
        have := (List.getElem?_eq_some_iff.1 hq).1
        rw [List.length_append, h.len] at this
        simp at this
        omega
      rw [List.getElem?_append_left (by rw [h.len]; exact ht)] at hq
      rw [hoth t e]
      exact h.keep t q hq
  · rw [hoth t (by omega)]
    exact h.old t q (by omega) hq
  · by_cases e : t = i
    · subst e; rw [hsame]; rfl
    · rw [hoth t e]; exact h.some_ t ht
  · rw [World.frozen?_setCell]; exact h.free t ht
theorem filt_take {ps : List (Value × List Int)} {p : Value × List Int} {j : Nat} {f : Value × List Int → Bool} (h : ps[j]? = some p) : (ps.take (j + 1)).filter f = (ps.take j).filter f ++ (if f p = true then [p] else []) := by
  rw [List.take_add_one, h, List.filter_append]
  by_cases hf : f p = true
  · rw [if_pos hf]; simp [hf]
  · rw [if_neg hf]; simp [hf]
theorem add0 (g t : Nat) : (⟨g, 0, none⟩ : Addr).add t = ⟨g, t, none⟩ := by
  cases t <;> simp [Addr.add]
theorem run_sufL2 (g n c i : Nat) (hi : i < n) (hc : n ≤ c) (W : World) : (Instr.sliceAt 24 (.slice (some ⟨g, 0, none⟩) n c) (some (.int .i64 (i : Int))) Option.none Option.none).run Tryz.prog W = .ok (.slice (some ⟨g, i, none⟩) (n - i) (c - i)) W := by
  have hne : ¬ c = i := by omega
  rw [run_sufL _ n c i (by omega) W]
  simp [sufA, hne, add0]
theorem zeroS (w : World) : (zeroValue 41).run Tryz.prog w = .ok (.slice none 0 0) w := by kernel_rfl
/-- what is left of the cells after the clearing -/
theorem Dlt.end_ {w : World} {g n c B K i j : Nat} {ps qs : List (Value × List Int)} {vs : List Value} (h : Dlt w g n B K i j ps qs) (hi : i ≤ n) (hc : i ≤ c) (hs : ∀ p ∈ qs, p ∈ ps) (hne : ∀ p ∈ ps, ∀ h, p.1.ownBlock = some h → h ≠ g) : RdL (w.setCells g i vs) (w.setCells g i vs).heap.size (some ⟨g, 0, none⟩) i c (qs.map (·.2)) := by
  have hg := grown_setCells g vs i w
  have hr := h.rows.put hg hne
  refine rdL_vals ⟨by rw [List.length_map]; exact h.len, hc, fun t ht => ?_⟩ fun p hp => (hr.each p (hs p hp)).rd
  have hl : t < qs.length := by simpa using ht
  refine ⟨⟨g, 0, none⟩, rfl, Nat.lt_of_lt_of_le h.lt hg.size, ?_⟩
  have h1 := h.keep t qs[t] (List.getElem?_eq_getElem hl)
  have h2 := World.cell?_setCells_out g vs i w ⟨g, t, none⟩ (fun _ _ => .inl (by have := h.len; show t < i; omega))
  rw [add0, h2, h1]
  simp
set_option maxRecDepth 100000 in
theorem deleteL_any (A : Option Addr) (n c B : Nat) (xss : Pol) (fid : Nat) (q : List Int → Bool) (w : World) (h : OwnL w B w.heap.size A n c xss) (hB : B ≤ w.heap.size) (hn : n ≤ 1000) {ok : List Int → Prop} (hx : ∀ x ∈ xss, x.length ≤ 100 ∧ ok x) (hq : CondQ fid q ok) :
    Calls Tryz.prog 87 #[.slice A n c, .func (.func fid) #[] #[]] w (RetDl (xss.filter fun x => !q x) B w) := by
  obtain ⟨R, hR⟩ : ∃ R, R = RetDl (xss.filter fun x => !q x) B w := ⟨_, rfl⟩
  have HR := Lib.hid hR
  rw [← hR]
  have hent := hq.enters
  have HQ := Lib.hid hq
  have HO := Lib.hid h
  have HX := Lib.hid hx
  have HL := Lib.hid h.len
  have HC : Hid (CondL fid #[] xss (fun j => q (xss[j]?.getD [])) w) := Lib.hid ⟨hq.enters, fun j A' n' c' xs hxs w' hw' hr => by
    have h1 := hq.calls A' n' c' xs w' hr (by rw [← hr.len]; exact (hx xs (List.mem_of_getElem? hxs)).1) (hx xs (List.mem_of_getElem? hxs)).2
    rw [hxs]
    exact h1⟩
  have HF := Lib.hid (firstB_cases (fun j => q (xss[j]?.getD [])) n)
  obtain ⟨fb, hfb⟩ : ∃ x, x = firstB (fun j => q (xss[j]?.getD [])) n := ⟨_, rfl⟩
  have HI := Lib.hid (indexL_any A n c xss fid #[] (fun j => q (xss[j]?.getD [])) w h.rd (by omega) HC.out)
  rw [← hfb] at HI HF
  clear hR hfb h hx hq
  rcases HF.out with ⟨hm, hall⟩ | ⟨i0, hi0, hm, hp0, hlow⟩
  · subst hm
    have HALL := Lib.hid hall
    clear hall HF
    go_enter Tryz.func87, Tryz.ntmps87
    go_wp2_with fail
    refine HI.out.mono ?_
    rintro e w1 ⟨rfl, hb1⟩
    go_wp2_with fail
    rw [HR.out]
    have e : xss.filter (fun x => !q x) = xss := List.filter_eq_self.2 fun x hx => by
      obtain ⟨j, hj⟩ := List.mem_iff_getElem?.1 hx
      have := HALL.out j (by rw [← HL.out]; exact (List.getElem?_eq_some_iff.1 hj).1)
      rw [hj] at this
      simpa using this
    rw [e]
    have e2 := HL.out
    subst e2
    exact ⟨A, c, rfl, rdL_stay HO.out.rd hb1, hb1.mono hB⟩
  · subst hm
    have HLow := Lib.hid hlow
    have HP0 := Lib.hid hp0
    clear hlow hp0 HF
    obtain ⟨ps, hv, hps, hrow⟩ := HO.out.pairs
    obtain ⟨g, cap, hform, hBg, hgl⟩ := hv.own.form (by omega)
    injection hform with hA _ hcc
    subst hA
    subst hcc
    have hcap := hv.cap.1
    have hpl : ps.length = n := by rw [← HL.out, ← hps, List.length_map]
    have HNE : Hid (∀ p ∈ ps, ∀ h, p.1.ownBlock = some h → h ≠ g) := Lib.hid fun p hp h hh e => by
      subst e
      obtain ⟨cs, hk⟩ := (hrow.each p hp).kind h hh
      obtain ⟨cs2, hk2⟩ := hv.kind h rfl
      rw [hk] at hk2
      injection hk2 with hk2
      injection hk2 with _ e2
      revert e2
      decide
    have HPL := Lib.hid hpl
    have HPS := Lib.hid hps
    have hpx : ∀ (j : Nat) (p : Value × List Int), ps[j]? = some p → xss[j]? = some p.2 := fun j p hp => by rw [← HPS.out, List.getElem?_map, hp]; rfl
    have HPX := Lib.hid hpx
    have hcell : ∀ (t : Nat) (p : Value × List Int), ps[t]? = some p → w.cell? ⟨g, t, none⟩ = some p.1 := fun t p hp => by
      have h1 := hv.own.cells (g := g) rfl t p.1 (by rw [List.getElem?_map, hp]; rfl)
      rwa [add0] at h1
    have hD0 : Dlt w g n B w.heap.size i0 (i0 + 1) ps ((ps.take i0)) := by
      refine ⟨fun t p hp => ?_, fun t p ht hp => ?_, fun t ht => ?_, fun t ht => hv.own.frozenAt t, hrow, hgl, by rw [List.length_take]; omega⟩
      · have ht := (List.getElem?_eq_some_iff.1 hp).1
        rw [List.length_take] at ht
        rw [List.getElem?_take_of_lt (by omega)] at hp
        exact hcell t p hp
      · exact hcell t p hp
      · obtain ⟨p, hp⟩ : ∃ p, ps[t]? = some p := ⟨_, List.getElem?_eq_getElem (by omega)⟩
        rw [hcell t p hp]; rfl
    have hQ0 : (ps.take (i0 + 1)).filter (fun p => !q p.2) = ps.take i0 := by
      obtain ⟨p, hp⟩ : ∃ p, ps[i0]? = some p := ⟨_, List.getElem?_eq_getElem (by omega)⟩
      rw [filt_take hp]
      have h1 := HP0.out
      simp only [HPX.out i0 p hp, Option.getD_some] at h1
      rw [if_neg (by simp [h1]), List.append_nil]
      refine List.filter_eq_self.2 fun p hp => ?_
      obtain ⟨j, hj⟩ := List.mem_iff_getElem?.1 hp
      have hjl := (List.getElem?_eq_some_iff.1 hj).1
      rw [List.length_take] at hjl
      rw [List.getElem?_take_of_lt (by omega)] at hj
      have h2 := HLow.out j (by omega)
      simp only [HPX.out j p hj, Option.getD_some] at h2
      rw [h2]; rfl
    have HD0 := Lib.hid hD0
    have HQ0 := Lib.hid hQ0
    obtain ⟨N0, hN0⟩ : ∃ N, N = w.heap.size := ⟨_, rfl⟩
    rw [← hN0] at HD0 hB
    have HN0 := Lib.hid hN0
    have HBg := Lib.hid hBg
    have HBB := Lib.hid hB
    clear hv hps hrow hcell hgl hpl hpx hD0 hQ0 hN0 HO
    go_enter Tryz.func87, Tryz.ntmps87
    go_wp2_with fail
    refine HI.out.mono ?_
    rintro e w1 ⟨rfl, hb1⟩
    have HD1 := Lib.hid (HD0.out.below hb1)
    have HB1 := Lib.hid (hb1.mono (Nat.le_trans HBB.out (Nat.le_of_eq HN0.out)))
    clear hb1 HD0
    have hne : ((i0 : Int) == -1) = false := by simp
    go_wp2_with fail
    clear hne
    go_loopw [5, 6] (fun i j wr => ∃ (i' j' : Nat) (qs : List (Value × List Int)), i' < j' ∧ j' ≤ n ∧ i = .int .i64 i' ∧ j = .int .i64 j' ∧ Hid (qs = (ps.take j').filter (fun p => !q p.2)) ∧ Hid (Dlt wr g n B N0 i' j' ps qs) ∧ Hid (Below B w wr)) (fun _ j _ => n - (intOf j).toNat)
    case atStart => exact ⟨i0, i0 + 1, _, by omega, by omega, rfl, by go_num, Lib.hid HQ0.out.symm, HD1, HB1⟩
    case round =>
      clear HD1 HB1 HQ0
      obtain ⟨i, j, qs, hij, hjn, rfl, rfl, HQs, HD, HB⟩ := hrel
      by_cases hlt : j < n
      · obtain ⟨p, hp⟩ : ∃ p, ps[j]? = some p := ⟨_, List.getElem?_eq_getElem (by have := HPL.out; omega)⟩
        have hcj := HD.out.old j p (Nat.le_refl _) hp
        obtain ⟨A3, n3, c3, he, ho3, _⟩ := HD.out.rows.each p (List.mem_of_getElem? hp)
        rw [he] at hcj
        have hmem : p.2 ∈ xss := List.mem_of_getElem? (HPX.out j p hp)
        have HCq := Lib.hid (HQ.out.calls A3 n3 c3 p.2 wr ho3.rd (by rw [← ho3.rd.len]; exact (HX.out _ hmem).1) (HX.out _ hmem).2)
        obtain ⟨b, hb⟩ : ∃ b, b = q p.2 := ⟨_, rfl⟩
        rw [← hb] at HCq
        have HPj := Lib.hid hp
        have HPe := Lib.hid he
        have HBb := Lib.hid hb
        clear hmem ho3 hp he hb
        cases b
        · have HQ2 := Lib.hid (show qs ++ [p] = (ps.take (j + 1)).filter (fun p => !q p.2) by rw [filt_take HPj.out, ← HQs.out, if_pos (by rw [← HBb.out]; rfl)])
          go_wp2_with fail
          refine HCq.out.mono ?_
          rintro e w2 ⟨rfl, hb2⟩
          have HD2 := Lib.hid (HD.out.below hb2)
          have HB2 := Lib.hid (HB.out.trans (hb2.mono (Nat.le_trans HBg.out (Nat.le_of_lt HD.out.lt))))
          obtain ⟨u, hu⟩ := Option.isSome_iff_exists.1 (HD2.out.some_ i (by omega))
          have hfr := HD2.out.free i (by omega)
          have HD3 := Lib.hid (HD2.out.put (p := p) (by omega) hlt HNE.out)
          rw [HPe.out] at HD3
          have HB3 := Lib.hid (HB2.out.setCell (p := ⟨g, i, none⟩) HBg.out (.slice A3 n3 c3))
          clear hb2 hcj
          go_wp2_with fail
          go_roundw
          case rel => exact ⟨i + 1, j + 1, qs ++ [p], by omega, by omega, by go_num, by go_num, HQ2, HD3, HB3⟩
          case measure => simp [intOf]; omega
        · have HQ2 := Lib.hid (show qs = (ps.take (j + 1)).filter (fun p => !q p.2) by rw [filt_take HPj.out, ← HQs.out, if_neg (by rw [← HBb.out]; decide), List.append_nil])
          go_wp2_with fail
          refine HCq.out.mono ?_
          rintro e w2 ⟨rfl, hb2⟩
          have HD2 := Lib.hid (HD.out.below hb2)
          have HB2 := Lib.hid (HB.out.trans (hb2.mono (Nat.le_trans HBg.out (Nat.le_of_lt HD.out.lt))))
          clear hb2 hcj
          go_wp2_with fail
          go_roundw
          case rel => exact ⟨i, j + 1, qs, by omega, by omega, rfl, by go_num, HQ2, Lib.hid HD2.out.skip, HB2⟩
          case measure => simp [intOf]; omega
      · obtain rfl : j = n := by omega
        have hss := fun W => run_sufL2 g j c i hij hcap W
        have hpp := fun W => run_preL (some ⟨g, 0, none⟩) j c i (by omega) W
        have hcl : ∀ ty, (Builtin.clear_ #[24] ty #[.slice (some ⟨g, i, none⟩) (j - i) (c - i)]).run Tryz.prog wr = .ok (.tuple #[]) (wr.setCells g i (List.replicate (j - i) (.slice none 0 0))) := fun ty =>
          Lib.run_clear_slice wr _ _ ty (.slice none 0 0) eltL.under zeroS rfl rfl g i (j - i) (c - i) (by omega) (fun t ht => HD.out.some_ (i + t) (by omega)) (fun t ht => HD.out.free (i + t) (by omega))
        have HE := Lib.hid (show qs.map (·.2) = xss.filter (fun x => !q x) from by
          rw [HQs.out, List.take_of_length_le (by have := HPL.out; omega), ← HPS.out, List.filter_map]
          rfl)
        have HRd := Lib.hid (HD.out.end_ (c := c) (vs := List.replicate (j - i) (.slice none 0 0)) (by omega) (by omega) (fun p hp => by rw [HQs.out] at hp; exact List.mem_of_mem_take (List.mem_filter.1 hp).1) HNE.out)
        have HB2 := Lib.hid (HB.out.grown (grown_setCells g (List.replicate (j - i) (.slice none 0 0)) i wr) (by have := HB.out.size; have := HBB.out; have := HN0.out; omega) (fun g' e => by rw [← Option.some.inj e]; exact HBg.out))
        have HLn := Lib.hid HD.out.len
        clear hcap
        go_wp2_with fail
        rw [HR.out, ← HE.out]
        have e : i = (qs.map (·.2)).length := by rw [List.length_map]; exact HLn.out.symm
        have h1 := HRd.out
        subst e
        exact ⟨_, c, rfl, h1, HB2.out⟩

/-! ### impl.SpikeMonomials -/
def spkI (n : Int) : Bool := bits .and .i64 n (IntKind.i64.wrap (n + 1)) == 0
theorem spkI_eq {xs : List Int} (h : ∀ z ∈ xs, 0 ≤ z ∧ z ≤ 40) : xs.all spkI = spkB xs := by
  unfold spkB
  induction xs with
  | nil => rfl
  | cons x xs ih =>
    have hx := h x (by simp)
    have hw : IntKind.i64.wrap (x + 1) = x + 1 := by rw [IntKind.wrap_i64]; omega
    rw [List.all_cons, List.all_cons, ih fun z hz => h z (List.mem_cons_of_mem _ hz)]
    congr 1
    unfold spkI
    rw [hw]
    exact spk_bit hx.1 hx.2
theorem spk11_any (n : Int) (w : World) : Calls Tryz.prog 89 #[.int .i64 n] w (RetP (spkI n) w) := by
  obtain ⟨R, hR⟩ : ∃ R, R = RetP (spkI n) w := ⟨_, rfl⟩
  have HR := Lib.hid hR
  rw [← hR]
  clear hR
  go_enter Tryz.func89, Tryz.ntmps89
  go_wp2_with fail
  rw [HR.out]
  exact RetP.mk (by unfold spkI; rw [show IntKind.i64.wrap (n + 1) = wrap64 (n + 1) from by rw [IntKind.wrap_i64]; unfold wrap64; rfl])
theorem spk1_any (A : Option Addr) (n c : Nat) (xs : List Int) (w : World) (h : RdS w w.heap.size A n c xs) (hn : n ≤ 100) (hx : ∀ z ∈ xs, 0 ≤ z ∧ z ≤ 40) : Calls Tryz.prog 88 #[.slice A n c] w (RetBb (!spkB xs) w) := by
  obtain ⟨R, hR⟩ : ∃ R, R = RetBb (!spkB xs) w := ⟨_, rfl⟩
  have HR := Lib.hid hR
  rw [← hR]
  clear hR
  have hl := h.len
  have HC := allI_any A n c xs _ _ _ w h (by omega) (cond_of spkI (enters_of Tryz.func89 (by kernel_rfl) rfl) spk11_any xs w)
  rw [all_range xs spkI _ n hl (fun j hj => by simp [List.getElem?_eq_getElem hj]), spkI_eq hx] at HC
  have HC := Lib.hid HC
  clear h hl hx
  go_enter Tryz.func88, Tryz.ntmps88
  go_wp2_with fail
  refine HC.out.mono ?_
  rintro e w1 ⟨rfl, hb1⟩
  go_wp2_with fail
  rw [HR.out]
  exact RetBb.mk rfl hb1
theorem spk_cond : CondQ 88 (fun x => !spkB x) (fun x => ∀ z ∈ x, 0 ≤ z ∧ z ≤ 40) :=
  ⟨enters_of Tryz.func88 (by kernel_rfl) rfl, fun A n c xs w h hn hx => spk1_any A n c xs w h hn hx⟩
set_option maxRecDepth 100000 in
theorem iSpikeMonomials (v dd : Int) (w : World) : Calls Tryz.prog 33 #[.int .i64 v, .int .i64 dd] w (RetLK (spO v dd) (cdO v dd) w) := by
  obtain ⟨R, hR⟩ : ∃ R, R = RetLK (spO v dd) (cdO v dd) w := ⟨_, rfl⟩
  have HR := Lib.hid hR
  rw [← hR]
  clear hR
  cases h1 : inB v 1 4
  · have HV := Lib.hid (cdO_bad (v := v) (dd := dd) (by rw [h1]; simp))
    have H1 := Lib.hid h1
    clear h1
    go_enter Tryz.func33, Tryz.ntmps33
    go_wp2_with fail
    refine (isCount_any v _).mono ?_
    rintro e w1 ⟨rfl, rfl⟩
    rw [H1.out]
    go_wp2_with fail
    rw [HR.out]
    exact RetLK.mk RdL.nil (spO_no (by rw [HV.out]; decide)).symm HV.out.symm (Below.refl _ _)
  · cases h2 : inB dd 0 40
    · have HV := Lib.hid (cdO_bad (v := v) (dd := dd) (by rw [h2]; simp))
      have H1 := Lib.hid h1
      have H2 := Lib.hid h2
      clear h1 h2
      go_enter Tryz.func33, Tryz.ntmps33
      go_wp2_with fail
      refine (isCount_any v _).mono ?_
      rintro e w1 ⟨rfl, rfl⟩
      rw [H1.out]
      go_wp2_with fail
      refine (isDegree_any dd _).mono ?_
      rintro e w1 ⟨rfl, rfl⟩
      rw [H2.out]
      go_wp2_with fail
      rw [HR.out]
      exact RetLK.mk RdL.nil (spO_no (by rw [HV.out]; decide)).symm HV.out.symm (Below.refl _ _)
    · obtain ⟨k, d, hk⟩ := cdK_of h1 h2
      have HK := Lib.hid hk
      have H1 := Lib.hid h1
      have H2 := Lib.hid h2
      have HC := Lib.hid (monomials_any k v dd d w hk.ev hk.ed hk.k3 hk.d40)
      have hnx : ∀ x ∈ mons k d, x.length ≤ 100 ∧ ∀ z ∈ x, 0 ≤ z ∧ z ≤ 40 := fun x hx => by
        have := mons_pos hk.d40 x hx
        have := hk.k3
        exact ⟨by omega, (mons_pos hk.d40 x hx).2⟩
      have HX := Lib.hid hnx
      obtain ⟨n, hn⟩ : ∃ n, n = (mons k d).length := ⟨_, rfl⟩
      have HN := Lib.hid hn
      have hnb : n ≤ 100000 := by rw [hn]; exact Nat.le_trans (mons_le hk.k3 hk.d40) (by decide)
      rw [← hn] at HC
      clear h1 h2 hk hnx hn
      by_cases hl : 100 < n
      · have HV := Lib.hid (HK.out.lim (by rw [← HN.out]; exact hl))
        have hl2 : decide ((100 : Int) < (n : Int)) = true := decide_eq_true (by omega)
        go_enter Tryz.func33, Tryz.ntmps33
        go_wp2_with fail
        refine (isCount_any v _).mono ?_
        rintro e w1 ⟨rfl, rfl⟩
        rw [H1.out]
        go_wp2_with fail
        refine (isDegree_any dd _).mono ?_
        rintro e w1 ⟨rfl, rfl⟩
        rw [H2.out]
        go_wp2_with fail
        refine HC.out.mono ?_
        rintro e w1 ⟨A, c, rfl, ho, hb⟩
        have HB := Lib.hid hb
        clear ho hb
        go_wp2_with fail
        rw [HR.out]
        exact RetLK.mk RdL.nil (spO_no (by rw [HV.out]; decide)).symm HV.out.symm HB.out
      · have HV := Lib.hid (HK.out.ok (by rw [← HN.out]; exact hl))
        have HSp := Lib.hid (HK.out.sp (by rw [← HN.out]; exact hl))
        have hl2 : decide ((100 : Int) < (n : Int)) = false := decide_eq_false (by omega)
        go_enter Tryz.func33, Tryz.ntmps33
        go_wp2_with fail
        refine (isCount_any v _).mono ?_
        rintro e w1 ⟨rfl, rfl⟩
        rw [H1.out]
        go_wp2_with fail
        refine (isDegree_any dd _).mono ?_
        rintro e w1 ⟨rfl, rfl⟩
        rw [H2.out]
        go_wp2_with fail
        refine HC.out.mono ?_
        rintro e w2 ⟨A, c, rfl, ho, hb⟩
        have HB := Lib.hid hb
        have hE : spkL k d = (mons k d).filter (fun x => !!spkB x) := by
          unfold spkL
          congr 1
          funext x
          exact (Bool.not_not _).symm
        obtain ⟨Z, hZ⟩ : ∃ Z, Z = spkL k d := ⟨_, rfl⟩
        have HZ := Lib.hid hZ
        have hD := deleteL_any A n c _ (mons k d) _ _ w2 ho hb.size (by omega) HX.out spk_cond
        rw [← hE, ← hZ] at hD
        have HD := Lib.hid hD
        clear hD hZ hE
        clear ho hb
        go_wp2_with fail
        refine HD.out.mono ?_
        rintro e w3 ⟨A3, c3, rfl, hr3, hb3⟩
        have HR3 := Lib.hid hr3
        have HB3 := Lib.hid hb3
        clear hr3 hb3
        go_wp2_with fail
        rw [HR.out]
        exact RetLK.mk HR3.out (by rw [HSp.out, HZ.out]) HV.out.symm (HB.out.trans HB3.out)
end Go.Proofs.YtoodhbafleemjaaGreat

/- Plain: what the law of hits compares. -/
namespace Go.Proofs.YtoodhbafleemjaaGreat
open Go.RowKit
set_option linter.unusedVariables false

/-! ### dimensions -/
theorem lim_small {k d : Nat} (hk : k ≤ 3) (hM : (mons k d).length ≤ 100) (hd : d ≤ 40) : chkH k d = true := by
  match k, hk with
  | 0, _ => exact chk0 d (by omega)
  | 1, _ => exact chk1 d (by omega)
  | 2, _ =>
    have h2 := mons_len2 d
    refine chk2 d ?_
    apply Classical.byContradiction
    intro h
    have h3 : 14 * 15 ≤ (d + 1) * (d + 2) := Nat.mul_le_mul (by omega) (by omega)
    omega
  | 3, _ =>
    have h2 := mons_len3 d
    refine chk3 d ?_
    apply Classical.byContradiction
    intro h
    have h3 : 8 * 9 * 10 ≤ (d + 1) * (d + 2) * (d + 3) := Nat.mul_le_mul (Nat.mul_le_mul (by omega) (by omega)) (by omega)
    omega
theorem dim_eq (k d : Nat) : dimN k d = (cohL k d).length := by
  unfold dimN
  have h1 := coh_len k d
  rw [hitN_len] at h1
  omega
theorem dims_ok {k d : Nat} (hk : k ≤ 3) (hM : (mons k d).length ≤ 100) (hd : d ≤ 40) :
    decide ((cohL k d).length = 0) = decide (k + 1 < lsN d) ∧ (∀ z ∈ spkL k d, z ∈ cohL k d) ∧ (lsN d = k + 1 → k + 1 < d → (cohL k ((d - (k + 1)) / 2)).length = (cohL k d).length) := by
  have h := lim_small hk hM hd
  unfold chkH at h
  rw [Bool.and_eq_true, Bool.and_eq_true] at h
  obtain ⟨⟨h1, h2⟩, h3⟩ := h
  refine ⟨?_, fun z hz => ?_, fun h4 h5 => ?_⟩
  · rw [dim_eq] at h1
    simpa using h1
  · obtain ⟨hm, hs⟩ := List.mem_filter.1 hz
    refine List.mem_filter.2 ⟨hm, decide_eq_true fun ht => ?_⟩
    obtain ⟨i, hi⟩ := List.mem_iff_getElem?.1 hm
    have h6 := spkC_at h2 i z hi hs
    rw [Nat.zero_add] at h6
    exact h6 ((MaskR.tops (mons_asc k d) hi (hitN_mask k d)).1 ht)
  · rw [if_pos ⟨h4, h5⟩] at h3
    rw [dim_eq, dim_eq] at h3
    simpa using h3
theorem cdK_half {v dd : Int} {k d : Nat} (h : CdK v dd k d) (e : Nat) (he : e ≤ d) (hM : (mons k d).length ≤ 100) : CdK v (e : Int) k e ∧ (mons k e).length ≤ 100 :=
  ⟨⟨h.ev, rfl, h.k3, by have := h.d40; omega, h.in1, inB_iff.2 ⟨by omega, by have := h.d40; omega⟩, h.kt, rfl⟩, Nat.le_trans (mons_mono k he) hM⟩

/-! ### normal forms -/
theorem redT_idem : ∀ {rows : List Pol} {t : Pol}, (∀ r ∈ rows, lastL r ∉ t) → redT rows t = t
  | [], t, _ => rfl
  | r :: rs, t, h => by
    show redT rs (if lastL r ∈ t then oddL (t ++ r) else t) = t
    rw [if_neg (h r (by simp))]
    exact redT_idem fun q hq => h q (List.mem_cons_of_mem _ hq)
theorem pol_of_within {v : Int} {k d : Nat} {t : Pol} (ht : Within (mons k d) t) (hv : v = ((k + 1 : Nat) : Int)) (hk : k ≤ 3) (hd : d ≤ 40) (hM : (mons k d).length ≤ 100) : PolF v t ∧ (0 < t.length → degL t = d) := by
  have hm : ∀ x ∈ t, (∀ a ∈ x, (0 : Int) ≤ a) ∧ x.sum = d ∧ x.length = k + 1 := fun x hx => (mons_mem k d x).1 (ht.sub x hx)
  have hF : PolF v t := by
    refine ⟨by omega, by omega, Nat.le_trans (asc_le ht.asc ht.sub) (by omega), fun x hx => ?_, ht.asc, fun x hx => ?_⟩
    · obtain ⟨a, b, c⟩ := hm x hx
      exact ⟨by omega, fun z hz => ⟨a z hz, by have := sum_ge_mem a z hz; omega⟩, by omega, by omega⟩
    · have h1 := (hm x hx).2.1
      have h2 : (t.headD []).sum = d := by
        cases t with
        | nil => cases hx
        | cons y ys => exact (hm y (by simp)).2.1
      rw [h1, h2]
  refine ⟨hF, fun h => ?_⟩
  rw [hF.deg.1]
  cases t with
  | nil => simp at h
  | cons y ys => exact (hm y (by simp)).2.1
theorem hit_void {v : Int} {f : Pol} (h : polB v f = true) (h0 : f.length = 0) : hitB v f = true ∧ (nrmO v f).2.2 = 0 := by
  unfold hitB
  rw [nrmO_void h h0]
  simp
/-- a polynomial and its normal form: their sum is hit, and the normal form is its own -/
theorem nrm_law {v u : Int} {f g : Pol} (h : nrmO v f = (u, g, 0)) : u = v ∧ adpO v f v g = (v, oddL (f ++ g), 0) ∧ hitB v (oddL (f ++ g)) = true ∧ (nrmO v (oddL (f ++ g))).2.2 = 0 ∧ nrmO v g = (v, g, 0) ∧ (oddL (f ++ g)).length ≤ 2000 ∧ totalL (oddL (f ++ g)) ≤ 8000 := by
  cases hp : polB v f with
  | false => rw [nrmO_bad hp] at h; simp at h
  | true =>
    have hF := polF_of hp
    by_cases h0 : f.length = 0
    · obtain rfl : f = [] := List.eq_nil_of_length_eq_zero h0
      rw [nrmO_void hp rfl] at h
      injection h with h1 h2
      injection h2 with h3 _
      subst h1; subst h3
      have e : oddL (([] : Pol) ++ []) = [] := rfl
      rw [e]
      exact ⟨rfl, by rw [adpO_ok hp hp rfl (.inl rfl)]; rfl, (hit_void hp rfl).1, (hit_void hp rfl).2, nrmO_void hp rfl, by simp, by simp [totalL]⟩
    · obtain ⟨k, d, hk, hd, hk3, hd40⟩ := pol_kd hF (by omega)
      by_cases hlim : 100 < (mons k d).length
      · rw [nrmO_lim hp (by omega) hk hd hlim] at h; simp at h
      · rw [nrmO_ok hp (by omega) hk hd hlim] at h
        injection h with h1 h2
        injection h2 with h3 _
        subst h1; subst h3
        have hM : (mons k d).length ≤ 100 := by omega
        have hW := pol_within' hF hk hd
        have hR : ∀ r ∈ hitR k d, Within (mons k d) r := fun r hr => (gens_hit.rows r hr).1
        have hT : Within (mons k d) (redT (hitR k d) f) := hW.redT hR
        obtain ⟨T, hTe⟩ : ∃ T, T = redT (hitR k d) f := ⟨_, rfl⟩
        rw [← hTe] at hT ⊢
        have hS : Within (mons k d) (oddL (f ++ T)) := ⟨oddL_asc _, fun z hz => by
          rcases List.mem_append.1 (oddL_mem hz) with hz | hz
          · exact hW.sub z hz
          · exact hT.sub z hz⟩
        obtain ⟨pT, dT⟩ := pol_of_within hT hk hk3 hd40 hM
        obtain ⟨pS, dS⟩ := pol_of_within hS hk hk3 hd40 hM
        have hSl : (oddL (f ++ T)).length ≤ 2000 := pS.len
        have hok := hit_ok k d
        have hin : redT (hitR k d) (oddL (f ++ T)) = [] := by
          rw [redT_in hok (oddL_asc _), hTe]
          exact (redT_sum (hitR k d) f).same (oddL_same _)
        have hhit : hitB v (oddL (f ++ T)) = true ∧ (nrmO v (oddL (f ++ T))).2.2 = 0 := by
          by_cases e0 : (oddL (f ++ T)).length = 0
          · exact hit_void (polB_of pS) e0
          · unfold hitB
            rw [nrmO_ok (polB_of pS) (by omega) hk (dS (by omega)) hlim, hin]
            simp
        refine ⟨rfl, ?_, hhit.1, hhit.2, ?_, hSl, pS.tot⟩
        · rw [adpO_ok hp (polB_of pT) rfl (by
            by_cases e0 : T.length = 0
            · exact .inr (.inl e0)
            · exact .inr (.inr (by rw [hd, dT (by omega)])))]
          unfold toldV
          rw [if_neg (by omega)]
        · by_cases e0 : T.length = 0
          · obtain rfl : T = [] := List.eq_nil_of_length_eq_zero e0
            exact nrmO_void (polB_of pT) rfl
          · rw [nrmO_ok (polB_of pT) (by omega) hk (dT (by omega)) hlim, redT_idem fun r hr => by rw [hTe]; exact redT_free _ hok hF.asc r hr]
theorem nrm_code {v u c : Int} {f g : Pol} (h : nrmO v f = (u, g, c)) (hc : c ≠ 0) : g = [] := by
  unfold nrmO at h
  split at h
  · split at h
    · injection h with _ h2; injection h2 with h3 h4; exact absurd h4.symm hc
    · split at h
      · injection h with _ h2; injection h2 with h3 _; exact h3.symm
      · injection h with _ h2; injection h2 with h3 h4; exact absurd h4.symm hc
  · injection h with _ h2; injection h2 with h3 _; exact h3.symm
end Go.Proofs.YtoodhbafleemjaaGreat
