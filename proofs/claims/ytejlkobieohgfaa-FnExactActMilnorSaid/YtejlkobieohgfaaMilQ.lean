/- What Milnor's elements make of polynomials; spec.l08Basis, spec.l08Milnor. -/
import Derived.Test.YtejlkobieohgfaaMilT
import Derived.Test.YtejlkobieohgfaaSqI
import Derived.Test.YtejlkobieohgfaaMon
import Derived.Lib.QuietBelow
namespace Go.Proofs.Ytejlkobieohgfaa
open Go.RowKit
set_option linter.unusedVariables false

def degT (r : List Int) : Int := degX r
def degM (a : List (List Int)) : Int := degT (a.headD [])
def milP (a f : List (List Int)) : List (List Int) := a.flatMap fun r => f.flatMap fun x => milW x r
/-- a basis element that acts on terms of degree d -/
structure OkR (d : Int) (r : List Int) : Prop where
  row : Row5 r
  tr : trimL r = r
  fit : d + deg r ≤ 63
structure MiR (a : List (List Int)) (r : List Int) : Prop where
  row : Row5 r
  tr : trimL r = r
  same : degT r = degM a
structure MiF (a : List (List Int)) : Prop where
  len : a.length ≤ 2000
  each : ∀ x ∈ a, MiR a x
theorem row_of {r : List Int} (h : milB r = true) : Row5 r ∧ trimL r = r := by
  unfold milB expB at h
  simp only [Bool.and_eq_true, decide_eq_true_eq] at h
  obtain ⟨⟨⟨h1, h2⟩, h3⟩, h4⟩ := h
  have hn : ∀ z ∈ r, (0 : Int) ≤ z ∧ z ≤ 1000000000000 := fun z hz => inB_iff.1 (List.all_eq_true.1 h2 z hz)
  have hn0 : ∀ z ∈ r, (0 : Int) ≤ z := fun z hz => (hn z hz).1
  rw [degX_eq h1 hn] at h4
  refine ⟨⟨?_, hn0, h4⟩, trimL_end r h3⟩
  rcases Nat.lt_or_ge 5 r.length with hl | hl
  · obtain ⟨z, hz⟩ : ∃ z, r[r.length - 1]? = some z := ⟨r[r.length - 1], List.getElem?_eq_getElem (by omega)⟩
    have hz0 : z ≠ 0 := by
      unfold endB at h3
      rw [decide_eq_false (by omega : ¬ r.length = 0), hz] at h3
      simpa using h3
    have hz1 := hn0 z (List.mem_of_getElem? hz)
    have h5 := entry_le hn0 hz
    have h6 : (64 : Int) ≤ 2 ^ (r.length - 1 + 1) := by
      have h7 : 2 ^ 6 ≤ 2 ^ (r.length - 1 + 1) := Nat.pow_le_pow_right (by decide) (by omega)
      have h8 : ((2 ^ 6 : Nat) : Int) ≤ ((2 ^ (r.length - 1 + 1) : Nat) : Int) := Int.ofNat_le.2 h7
      rw [Int.natCast_pow, Int.natCast_pow] at h8
      exact h8
    have h9 : 1 * ((2 : Int) ^ (r.length - 1 + 1) - 1) ≤ z * (2 ^ (r.length - 1 + 1) - 1) := Int.mul_le_mul_of_nonneg_right (by omega) (by omega)
    omega
  · exact hl
theorem miF_of {a : List (List Int)} (h : isMiB a = true) : MiF a := by
  unfold isMiB at h
  simp only [Bool.and_eq_true, decide_eq_true_eq] at h
  obtain ⟨⟨⟨h1, h2⟩, h3⟩, h4⟩ := h
  refine ⟨h1, fun x hx => ?_⟩
  have h5 := row_of (List.all_eq_true.1 h3 x hx)
  simp only [sameB, List.all_eq_true, decide_eq_true_eq] at h4
  exact ⟨h5.1, h5.2, h4 x hx⟩
theorem MiF.bound {a : List (List Int)} (h : MiF a) {x : List Int} (hx : x ∈ a) : 0 ≤ degM a ∧ degM a ≤ 40 := by
  have h1 := h.each x hx
  have h2 := h1.same
  have h3 := h1.row.degX
  have h4 := deg_nonneg h1.row.nn
  have h5 := h1.row.deg
  unfold degT at h2
  omega
theorem deg01_any (A : Option Addr) (n c B : Nat) (xs : List Int) (w : World) {a : List (List Int)} (h : RdS w B A n c xs) (hb : MiR a xs) : Calls Try.prog 105 #[.slice A n c] w (RetI (degT xs) w) :=
  spec.l01Degree_any A n c B xs w h (by have := hb.row.len; have := h.len; omega)
theorem milP_mono {k : Nat} {d : Int} {a f : List (List Int)} (hf : ∀ z ∈ f, Deg k d z) (ha : ∀ x ∈ a, OkR d x) : ∀ z ∈ milP a f, Mono k z := fun z hz => by
  obtain ⟨r, hr, hz⟩ := List.mem_flatMap.1 hz
  obtain ⟨x, hx, hz⟩ := List.mem_flatMap.1 hz
  exact (milW_deg x r k d (hf x hx) (ha r hr).row.nn z hz).mono (ha r hr).fit
theorem milP_zero (a : List (List Int)) : milP a [] = [] := by
  unfold milP
  induction a with
  | nil => rfl
  | cons x a ih => rw [List.flatMap_cons, ih]; rfl
def milO (v : Int) (a f : List (List Int)) : Int × List (List Int) × Int :=
  if isMiB a = true ∧ polB v f = true then (if 0 < a.length ∧ 0 < f.length ∧ 40 < degM a + degL f then (0, [], 3) else toldV v (oddL (milP a f))) else (0, [], 1)
theorem milO_bad1 {v : Int} {a f : List (List Int)} (h : isMiB a = false) : milO v a f = (0, [], 1) := by unfold milO; rw [if_neg (by rw [h]; simp)]
theorem milO_bad2 {v : Int} {a f : List (List Int)} (h : polB v f = false) : milO v a f = (0, [], 1) := by unfold milO; rw [if_neg (by rw [h]; simp)]
theorem milO_lim {v : Int} {a f : List (List Int)} (h1 : isMiB a = true) (h2 : polB v f = true) (x : 0 < a.length) (y : 0 < f.length) (z : 40 < degM a + degL f) : milO v a f = (0, [], 3) := by unfold milO; rw [if_pos ⟨h1, h2⟩, if_pos ⟨x, y, z⟩]
theorem milO_ok {v : Int} {a f : List (List Int)} (h1 : isMiB a = true) (h2 : polB v f = true) (h : a.length = 0 ∨ f.length = 0 ∨ degM a + degL f ≤ 40) : milO v a f = toldV v (oddL (milP a f)) := by
  unfold milO
  rw [if_pos ⟨h1, h2⟩, if_neg]
  rintro ⟨p, q, r⟩
  rcases h with h | h | h <;> omega
theorem milO_void {v : Int} {a f : List (List Int)} (h1 : isMiB a = true) (h2 : polB v f = true) (h : a.length = 0 ∨ f.length = 0) : milO v a f = (v, [], 0) := by
  rw [milO_ok h1 h2 (h.elim .inl fun h => .inr (.inl h))]
  have : milP a f = [] := by
    rcases h with h | h
    · rw [List.eq_nil_of_length_eq_zero h]; rfl
    · rw [List.eq_nil_of_length_eq_zero h]; exact milP_zero a
  rw [this]
  exact toldV_yes (by simp [oddL])
theorem milO_okW {v : Int} {k : Nat} {a f : List (List Int)} (h1 : isMiB a = true) (h2 : polB v f = true) (hk : v = k) (h : a.length = 0 ∨ f.length = 0 ∨ degM a + degL f ≤ 40) : (∀ z ∈ f, Deg k (degZ f) z) ∧ ∀ x ∈ a, OkR (degZ f) x := by
  have hp := polF_of h2
  have hs := miF_of h1
  refine ⟨fun z hz => ?_, fun x hx => ?_⟩
  · unfold degZ
    rw [if_neg (by intro e; rw [List.eq_nil_of_length_eq_zero e] at hz; cases hz)]
    exact hp.degs hk z hz
  · have h3 := hs.each x hx
    have h4 := h3.same
    have h5 := h3.row.degX
    have h6 := h3.row.deg
    unfold degT at h4
    refine ⟨h3.row, h3.tr, ?_⟩
    unfold degZ
    split
    · omega
    · rename_i hz
      rcases h with h | h | h
      · rw [List.eq_nil_of_length_eq_zero h] at hx; cases hx
      · exact absurd h hz
      · omega
/-- what l08Basis sums: a basis element on the exponents from p on, those ahead as they are -/
def basT (term : List Int) (p : Nat) (r : List Int) : List (List Int) := (milW (term.drop p) r).map (term.take p ++ ·)
def basF (term : List Int) (p : Nat) (x : Int) (e : List Int × List Int) : List (List Int) := if okP e.1 x = true then basT (term.set p (x + deg e.1)) (p + 1) e.2 else []
theorem set_drop {term : List Int} {p : Nat} {y : Int} : (term.set p y).drop (p + 1) = term.drop (p + 1) := by rw [List.drop_set]; simp
theorem set_take {term : List Int} {p : Nat} {y : Int} (hp : p < term.length) : (term.set p y).take (p + 1) = term.take p ++ [y] := by
  rw [List.take_add_one, List.take_set, List.getElem?_set_self (by simpa using hp), List.set_eq_of_length_le (by rw [List.length_take]; omega)]
  rfl
theorem basT_flat {term : List Int} {p : Nat} {x : Int} {r : List Int} (h : Hid (term[p]? = some x)) : basT term p r = (prt r).flatMap (basF term p x) := by
  obtain ⟨hp, e⟩ := List.getElem?_eq_some_iff.1 h.out
  unfold basT
  rw [List.drop_eq_getElem_cons hp, e, milW, List.map_flatMap]
  congr 1
  funext e
  unfold basF
  split
  · unfold basT
    rw [set_drop, set_take hp, List.map_map]
    congr 1
    funext z
    simp
  · rfl
theorem basT_end {term : List Int} {p : Nat} {x : Int} {r : List Int} (h : Hid (term[p]? = some x)) (hl : term.length = p + 1) (hr : ∀ z ∈ r, (0 : Int) ≤ z) : basT term p r = if okP r x = true then [term.set p (x + deg r)] else [] := by
  obtain ⟨hp, e⟩ := List.getElem?_eq_some_iff.1 h.out
  unfold basT
  rw [List.drop_eq_getElem_cons hp, e, List.drop_of_length_le (by omega), milW_one hr]
  split
  · have : (term.set p (x + deg r)).take (p + 1) = term.set p (x + deg r) := List.take_of_length_le (by rw [List.length_set]; omega)
    rw [List.map_cons, List.map_nil, ← this, set_take hp]
  · rfl
theorem basT_deg {term : List Int} {p : Nat} {r : List Int} (h0 : ∀ a ∈ term, (0 : Int) ≤ a) (hr : ∀ z ∈ r, (0 : Int) ≤ z) : ∀ z ∈ basT term p r, Deg term.length (term.sum + deg r) z := by
  intro z hz
  obtain ⟨y, hy, rfl⟩ := List.mem_map.1 hz
  have h1 := milW_deg (term.drop p) r (term.drop p).length (term.drop p).sum ⟨fun a ha => h0 a (List.mem_of_mem_drop ha), rfl, rfl⟩ hr y hy
  refine ⟨fun a ha => ?_, ?_, ?_⟩
  · rcases List.mem_append.1 ha with ha | ha
    · exact h0 a (List.mem_of_mem_take ha)
    · exact h1.1 a ha
  · have h3 : term.sum = (term.take p).sum + (term.drop p).sum := by rw [← List.sum_append, List.take_append_drop]
    rw [List.sum_append, h1.2.1]; omega
  · rw [List.length_append, h1.2.2, ← List.length_append, List.take_append_drop]
theorem sum_set {term : List Int} {p : Nat} {x d : Int} (h : Hid (term[p]? = some x)) : (term.set p (x + d)).sum = term.sum + d := by
  obtain ⟨hp, e⟩ := List.getElem?_eq_some_iff.1 h.out
  have h1 : term = term.take p ++ x :: term.drop (p + 1) := by rw [← e, ← List.drop_eq_getElem_cons hp, List.take_append_drop]
  have h2 : term.set p (x + d) = term.take p ++ (x + d) :: term.drop (p + 1) := by
    conv => lhs; rw [h1]
    rw [List.set_append_right _ _ (by rw [List.length_take]; omega), List.length_take, show p - min p term.length = 0 by omega]
    rfl
  rw [h2]
  conv => rhs; rw [h1]
  rw [List.sum_append, List.sum_append, List.sum_cons, List.sum_cons]
  omega
theorem basF_deg {term : List Int} {p : Nat} {x : Int} {r : List Int} {e : List Int × List Int} (h : Hid (term[p]? = some x)) (h0 : ∀ a ∈ term, (0 : Int) ≤ a) (he : PartOf r e) : ∀ z ∈ basF term p x e, Deg term.length (term.sum + deg r) z := by
  intro z hz
  unfold basF at hz
  split at hz
  · have hd := deg_nonneg he.n1
    have hx := h0 x (mem_of h)
    have := basT_deg (term := term.set p (x + deg e.1)) (p := p + 1) (fun a ha => by
      rcases List.mem_or_eq_of_mem_set ha with ha | ha
      · exact h0 a ha
      · omega) he.n2 z hz
    rw [sum_set h, List.length_set] at this
    rw [← he.deg, show term.sum + (deg e.1 + deg e.2) = term.sum + deg e.1 + deg e.2 by omega]
    exact this
  · cases hz
theorem flatT_succ {α β : Type} {l : List α} {F : α → List β} {k : Nat} {e : α} (h : Hid (l[k]? = some e)) : (l.take (k + 1)).flatMap F = (l.take k).flatMap F ++ F e := by
  rw [List.take_add_one, h.out, List.flatMap_append]; simp
theorem small_of {k : Nat} {L : List (List Int)} (h : ∀ z ∈ L, Mono k z) (hk : k ≤ 4) : (oddL L).length ≤ 16777216 ∧ totalL (oddL L) ≤ 67108864 := by
  have h1 := oddL_small h hk
  have h2 := totalL_oddL (c := 4) (fun z hz => by have := (h z hz).2; omega)
  omega

set_option maxRecDepth 100000 in
set_option maxHeartbeats 4000000 in
theorem bas_any : ∀ (m : Nat) (Ar At : Option Addr) (nr cr nt ct p : Nat) (r term : List Int) (w : World), nt = p + 1 + m → RdS w w.heap.size Ar nr cr r → RdS w w.heap.size At nt ct term → Row5 r → (∀ a ∈ term, (0 : Int) ≤ a) → term.sum + deg r ≤ 63 → nt ≤ 4 →
    Calls Try.prog 145 #[.slice Ar nr cr, .slice At nt ct, .int .i64 p] w (RetL (oddL (basT term p r)).length (oddL (basT term p r)) w)
  | 0, Ar, At, nr, cr, nt, ct, p, r, term, w, hm, hr, ht, h5, h0, hs, hn => by
    obtain ⟨ad, x, rfl, hbk, hx, hcx⟩ := ht.at_ (k := p) (by omega)
    have hx0 := h0 x (mem_of hx)
    have hdg := deg_nonneg h5.nn
    have hxs := sum_ge_mem h0 x (mem_of hx)
    have hC := power08_any Ar nr cr _ r x w hr h5 hx0 (by omega) (Nat.le_refl _)
    have hT := basT_end (r := r) hx (by rw [ht.len]; omega) h5.nn
    obtain ⟨ok, hok⟩ : ∃ o, o = okP r x := ⟨_, rfl⟩
    unfold RetPow at hC
    rw [← hok] at hT hC
    have HT0 := Lib.hid ht
    have hpn : ((p : Int) + 1 == (nt : Int)) = true := by simp; omega
    have hp1 : IntKind.i64.wrap ((p : Int) + 1) = (p : Int) + 1 := by rw [IntKind.wrap_i64]; omega
    have hp0 : (0 : Int) ≤ (p : Int) := by omega
    have hpl : (p : Int) < (nt : Int) := by omega
    have hpn' : p < nt := by omega
    cases ok
    · rw [if_neg (by simp)] at hT
      have HT : Hid (oddL (basT term p r) = []) := Lib.hid (by rw [hT]; rfl)
      rw [HT.out]
      have HC := Lib.hid hC
      clear hT hr ht h5 h0 hm hs hx hok hC
      go_enter Try.func145, Try.ntmps145
      go_wp2_with fail
      refine HC.out.mono ?_
      rintro e w1 ⟨rfl, hb1⟩
      have B1 := Lib.hid hb1
      clear hb1
      go_wp2_with fail
      go_ret
      exact ⟨none, 0, rfl, OwnL.nil, B1.out⟩
    · rw [if_pos rfl] at hT
      have HT : Hid (oddL (basT term p r) = [term.set p (x + deg r)]) := Lib.hid (by rw [hT]; simp [oddL, insX])
      rw [HT.out]
      have HC := Lib.hid hC
      clear hT hr ht h5 h0 hm hs hx hok hC
      go_enter Try.func145, Try.ntmps145
      go_wp2_with fail
      refine HC.out.mono ?_
      rintro e w1 ⟨rfl, hb1⟩
      have B1 := Lib.hid hb1
      clear hb1
      have C2 := Lib.hid (own_st (some ad) nt ct _ term w1 (HT0.out.below B1.out) B1.out.size (by omega))
      go_wp2_with fail
      refine C2.out.mono ?_
      rintro e w2 ⟨A2, c2, rfl, ho2, hb2⟩
      obtain ⟨g, x', rfl, hg0, hg1, hgx, hgc, hgf, hup⟩ := ho2.at_ (k := p) hpn'
      obtain ⟨ho3, hg3⟩ := hup (x + deg r)
      obtain ⟨w3, hw3⟩ : ∃ W, W = w2.setCell ⟨g, p, none⟩ (.int .i64 (x + deg r)) := ⟨_, rfl⟩
      rw [← hw3] at ho3 hg3
      have HW3 := Lib.hid hw3
      have O3 := Lib.hid ho3
      have B3 := Lib.hid (B1.out.trans ((hb2.grown hg3 hb2.size (by intro k hk; injection hk with hk; omega)).mono B1.out.size))
      have hz3 : w1.heap.size ≤ w3.heap.size := by rw [hw3]; simpa [World.setCell] using hb2.size
      have hcp : (Addr.add ⟨g, 0, none⟩ p) = ⟨g, p, none⟩ := by simp [Addr.add]; intro h; exact h.symm
      have hzw : w.heap.size ≤ w1.heap.size := B1.out.size
      have hzz : w3.heap.size = w2.heap.size := by rw [hw3]; simp [World.setCell]
      have OO := (ownL_one (O3.out.mono hzw) (Nat.le_trans hzw hz3)).mono (Nat.le_refl _) (show w3.heap.size ≤ (w3.alloc (.cells #[.slice (some ⟨g, 0, none⟩) nt c2] 29)).heap.size by simp)
      rw [hzz] at OO
      have HOO := Lib.hid OO
      clear ho2 hb2 hgx hw3 ho3 hg3 hup hzz OO
      go_wp2_with fail
      rw [← HW3.out]
      go_ret
      exact ⟨_, _, rfl, HOO.out, B3.out.alloc B3.out.size _⟩
  | m + 1, Ar, At, nr, cr, nt, ct, p, r, term, w, hm, hr, ht, h5, h0, hs, hn => by
    have IH := Lib.hid (bas_any m)
    obtain ⟨ad, x, rfl, hbk, hx, hcx⟩ := ht.at_ (k := p) (by omega)
    have hx0 := h0 x (mem_of hx)
    have hdg := deg_nonneg h5.nn
    have hxs := sum_ge_mem h0 x (mem_of hx)
    have HXI := Lib.hid hx
    have HF := Lib.hid (basT_flat (r := r) hx)
    obtain ⟨F, hF⟩ : ∃ F, F = basF term p x := ⟨_, rfl⟩
    have HFe := Lib.hid hF
    rw [← hF] at HF
    obtain ⟨PS, hPS⟩ : ∃ PS, PS = prt r := ⟨_, rfl⟩
    have HPm := Lib.hid (show ∀ e ∈ PS, Row5 e.1 ∧ Row5 e.2 ∧ PartOf r e from fun e he => h5.part (by rw [← hPS]; exact he))
    have HMo := Lib.hid (show ∀ e ∈ PS, ∀ z ∈ F e, Mono nt z from fun e he z hz => by
      have := (basF_deg hx h0 (HPm.out e he).2.2 z (by rw [← hF]; exact hz)).mono (by omega)
      rwa [ht.len] at this)
    have HMt := Lib.hid (show ∀ k : Nat, ∀ z ∈ (PS.take k).flatMap F, Mono nt z from fun k z hz => by
      obtain ⟨e, he, hz⟩ := List.mem_flatMap.1 hz
      exact HMo.out e (List.mem_of_mem_take he) z hz)
    obtain ⟨R, hR⟩ : ∃ R, R = RetL (oddL (basT term p r)).length (oddL (basT term p r)) w := ⟨_, rfl⟩
    have HRR := Lib.hid (show R = RetL (oddL (PS.flatMap F)).length (oddL (PS.flatMap F)) w from by rw [hR, HF.out, hPS])
    rw [← hR]
    obtain ⟨B, hB⟩ : ∃ B, B = w.heap.size := ⟨_, rfl⟩
    obtain ⟨w0, hw0⟩ : ∃ w0, w0 = w.alloc (.cells #[] 29) := ⟨_, rfl⟩
    have S0 := Lib.hid (show OwnL w0 B w0.heap.size (some ⟨B, 0, none⟩) 0 0 [] from by
      have := (StL.start (Below.refl w.heap.size w) (Nat.le_refl _)).own
      rw [hw0, hB]
      simpa using this)
    have B0 := Lib.hid (show Below B w w0 from by rw [hw0, hB]; exact (Below.refl _ _).alloc (Nat.le_refl _) _)
    have hPl : PS.length ≤ 256 := by rw [hPS]; exact h5.count
    have CP := parts08_any Ar nr cr B r w0 (by rw [hB]; exact hr.below (by rw [← hB]; exact B0.out)) h5 (by rw [hB]; exact (by have := B0.out; rw [hB] at this; exact this.size))
    rw [← hPS] at CP
    have CP := Lib.hid CP
    have HB := Lib.hid hB
    have HW0 := Lib.hid hw0
    have HTm := Lib.hid ht
    have H5 := Lib.hid h5
    have H0 := Lib.hid h0
    have HSm := Lib.hid hs
    have HM := Lib.hid hm
    have HBK := Lib.hid hbk
    have HCX := Lib.hid hcx
    have hx63 : x ≤ 63 := by omega
    have hpn : ((p : Int) + 1 == (nt : Int)) = false := by simp; omega
    have hpn' : p < nt := by omega
    have hp1 : IntKind.i64.wrap ((p : Int) + 1) = (p : Int) + 1 := by rw [IntKind.wrap_i64]; omega
    have hp0 : (0 : Int) ≤ (p : Int) := by omega
    have hpl : (p : Int) < (nt : Int) := by omega
    clear h5 h0 hr ht hx hR hB hw0 hF hPS hm hs hbk hcx hdg hxs
    go_enter Try.func145, Try.ntmps145
    go_wp2_with fail
    rw [← HB.out, ← HW0.out]
    refine CP.out.mono ?_
    rintro e0 w1 ⟨Ap, cp, rfl, hrt, hb1⟩
    obtain ⟨lp, hlp⟩ : ∃ l, l = (PS.map pr).length := ⟨_, rfl⟩
    rw [← hlp] at hrt ⊢
    have HLP := Lib.hid (show PS.length = lp by rw [hlp, List.length_map])
    have hl256 : lp ≤ 256 := by rw [← HLP.out]; exact hPl
    have RT := Lib.hid hrt
    have B1 := Lib.hid (show Below B w w1 from B0.out.trans (hb1.mono (by have := S0.out.row B rfl; have := B0.out.size; rw [HB.out]; exact this)))
    have S1 := Lib.hid ((S0.out.below hb1).mono (Nat.le_refl _) hb1.size)
    clear hrt hb1 hlp S0
    go_wp2_with fail
    go_loopw [10, 12] (fun v u wr => ∃ (k l c' : Nat) (A : Option Addr) (P : List (List Int)), k ≤ lp ∧ u = .int .i64 k ∧ v = .slice A l c' ∧ Hid (P = oddL ((PS.take k).flatMap F)) ∧ Hid (OwnL wr B wr.heap.size A l c' P) ∧ Hid (Below w1.heap.size w1 wr)) (fun _ u _ => lp - (intOf u).toNat)
    case atStart => exact ⟨0, 0, 0, _, [], Nat.zero_le _, rfl, rfl, Lib.hid rfl, S1, Lib.hid (Below.refl _ _)⟩
    case round =>
      clear S1
      obtain ⟨k, l, c', A, P, hk, rfl, rfl, HP, HO, HW⟩ := hrel
      have WW := Lib.hid (show Below B w wr from B1.out.trans (HW.out.mono (by have := B1.out.size; rw [HB.out]; exact this)))
      by_cases hlt : k < lp
      · obtain ⟨g, A3, n3, c3, xss, rfl, hbg, hps, hcg, hrp⟩ := (RT.out.below HW.out).at_ hlt
        obtain ⟨e, he⟩ : ∃ e, PS[k]? = some e := ⟨PS[k]'(by rw [HLP.out]; exact hlt), List.getElem?_eq_getElem _⟩
        obtain rfl : pr e = xss := by have := hps.out; rw [List.getElem?_map, he] at this; exact Option.some.inj this
        have HE := Lib.hid he
        obtain ⟨p5, q5, pq⟩ := HPm.out e (List.mem_of_getElem? he)
        obtain rfl : 2 = n3 := hrp.len
        obtain ⟨ad1, Bp, m1, c4, x1, rfl, hb1, hx1, hc1', hr1⟩ := hrp.at_ (k := 0) (by omega)
        obtain ⟨ad1', Bq, m2, c5, x2, had, hb2', hx2, hc2', hr2⟩ := hrp.at_ (k := 1) (by omega)
        obtain rfl : ad1 = ad1' := by simpa using had
        obtain rfl : e.1 = x1 := by have := hx1.out; simpa [pr] using this
        obtain rfl : e.2 = x2 := by have := hx2.out; simpa [pr] using this
        have hc1 : wr.cell? ad1 = some (.slice Bp m1 c4) := by simpa [Addr.add] using hc1'
        have hcw : wr.cell? (ad.add p) = some (.int .i64 x) := (WW.out.cell (p := ad.add p) (by rw [block_of_add, HB.out]; exact HBK.out)).trans HCX.out
        have R1 := Lib.hid hr1
        have R2 := Lib.hid hr2
        have P5 := Lib.hid p5
        have Q5 := Lib.hid q5
        have PQ := Lib.hid pq
        have C2 := Lib.hid (And.intro (show wr.cell? ⟨ad1.block, ad1.off + 1, none⟩ = some (.slice Bq m2 c5) from hc2') (And.intro hcg (Nat.lt_of_lt_of_le hb1 HW.out.size)))
        have HBG := Lib.hid (Nat.lt_of_lt_of_le hbg HW.out.size)
        have CW := fun (W : World) (hb : Below wr.heap.size wr W) => Lib.hid (power08_any Bp m1 c4 _ e.1 x W (R1.out.below (hb.mono HW.out.size)) P5.out hx0 hx63 (Nat.le_trans HW.out.size hb.size))
        obtain ⟨ok, hok⟩ : ∃ o, o = okP e.1 x := ⟨_, rfl⟩
        unfold RetPow at CW
        rw [← hok] at CW
        have HOK := Lib.hid hok
        have hlt' : (k : Int) < (lp : Int) := by omega
        have hk0 : (0 : Int) ≤ (k : Int) := by omega
        have g0 := cell_regrown hcg
        have g1 := cell_regrown hc1
        have g2 := cell_regrown hcw
        clear hps he hrp hx1 hx2 had hb2' hc1' hc2' hr1 hr2 p5 q5 pq hok
        go_wp2_with fail
        refine wp_region_quiet_below (by kernel_rfl) (by kernel_rfl) ?_
        repeat (go_big_quiet_step ((go_at_call 166; exact Calls.regrown_of ((CW _ (below_regrown _ _ _)).out))))
        refine wpQuiet_nil ?_
        intro _ hw'
        obtain ⟨⟨dq, osq⟩, hw''⟩ := hw'
        subst hw''
        have hb2 := below_regrown wr dq osq
        obtain ⟨w2, hwq⟩ : ∃ W, W = Sort.grow (redrawn wr dq) osq := ⟨_, rfl⟩
        rw [← hwq] at hb2 ⊢
        clear hwq
        have B2 := Lib.hid hb2
        clear g0 g1 g2 hb2 CW hcg hc1 hcw
        have O2 := Lib.hid (HO.out.below B2.out)
        have W2 := Lib.hid (HW.out.trans (B2.out.mono HW.out.size))
        cases ok
        · have HFe2 := Lib.hid (show F e = [] from by rw [HFe.out]; unfold basF; rw [if_neg (by rw [← HOK.out]; simp)])
          go_wp2_with fail
          go_roundw
          case rel => exact ⟨k + 1, l, c', A, P, by omega, by go_num, rfl, Lib.hid (by rw [flatT_succ HE, HFe2.out, List.append_nil]; exact HP.out), Lib.hid (O2.out.mono (Nat.le_refl _) B2.out.size), W2⟩
          case measure => simp [intOf]; omega
        · have HFe2 := Lib.hid (show F e = basT (term.set p (x + deg e.1)) (p + 1) e.2 from by rw [HFe.out]; unfold basF; rw [if_pos HOK.out.symm])
          have CT := Lib.hid (own_st (some ad) nt ct _ term w2 (HTm.out.below (by rw [← HB.out]; exact WW.out.trans (B2.out.mono (by have := WW.out.size; rw [HB.out]; exact this)))) (Nat.le_trans WW.out.size B2.out.size) (by omega))
          go_wp2_with fail
          refine CT.out.mono ?_
          rintro e3 w3 ⟨A3, c3', rfl, ho3, hb3⟩
          obtain ⟨gz, x', rfl, hz0, hz1, hzx, hzc, hzf, hup⟩ := ho3.at_ (k := p) hpn'
          have hxx : x' = x := by
            have h1 := HXI.out
            rw [hzx.out] at h1
            exact Option.some.inj h1
          subst hxx
          obtain ⟨ho4, hg4⟩ := hup (x' + deg e.1)
          obtain ⟨w4, hw4⟩ : ∃ W, W = w3.setCell ⟨gz, p, none⟩ (.int .i64 (x' + deg e.1)) := ⟨_, rfl⟩
          rw [← hw4] at ho4 hg4
          have HW4 := Lib.hid hw4
          have O4 := Lib.hid ho4
          have B4 := Lib.hid (hb3.grown hg4 hb3.size (by intro k hk; injection hk with hk; omega))
          have B24 := Lib.hid (B2.out.trans (B4.out.mono B2.out.size))
          have hcp : (Addr.add ⟨gz, 0, none⟩ p) = ⟨gz, p, none⟩ := by simp [Addr.add]; intro h; exact h.symm
          obtain ⟨kq, kg, hb1w⟩ := C2.out
          have kg4 := (B24.out.cell (p := ⟨g, k, none⟩) HBG.out).trans kg
          have kq4 := (B24.out.cell (p := ⟨ad1.block, ad1.off + 1, none⟩) hb1w).trans kq
          have hpd := deg_nonneg P5.out.nn
          have HI := IH.out Bq (some ⟨gz, 0, none⟩) m2 c5 nt c3' (p + 1) e.2 (term.set p (x' + deg e.1)) w4 (by have := HM.out; omega) ((R2.out.below (B24.out.mono HW.out.size)).mono (Nat.le_trans HW.out.size B24.out.size)) O4.out.rd Q5.out (fun a ha => by
            rcases List.mem_or_eq_of_mem_set ha with ha | ha
            · exact H0.out a ha
            · omega) (by rw [sum_set HXI]; have := PQ.out.deg; have := HSm.out; omega) hn
          have e1 : ((p + 1 : Nat) : Int) = (p : Int) + 1 := by omega
          rw [e1] at HI
          obtain ⟨Q, hQ⟩ : ∃ Q, Q = basT (term.set p (x' + deg e.1)) (p + 1) e.2 := ⟨_, rfl⟩
          rw [← hQ] at HI HFe2
          have HQm := Lib.hid (show ∀ z ∈ Q, Mono nt z from fun z hz => HMo.out e (List.mem_of_getElem? HE.out) z (by rw [HFe2.out]; exact hz))
          have HI := Lib.hid HI
          clear ho3 hb3 hzx hw4 ho4 hg4 e1 hQ hup kq kg hb1w C2 hpd
          rw [HW4.out] at kg4 kq4
          go_wp2_with fail
          rw [← HW4.out]
          refine HI.out.mono ?_
          rintro e4 w5 ⟨A4, c4', rfl, ho4, hb4⟩
          obtain ⟨lq, hlq⟩ : ∃ lq, lq = (oddL Q).length := ⟨_, rfl⟩
          rw [← hlq] at ho4 ⊢
          have W4 := Lib.hid (HW.out.trans (B24.out.mono HW.out.size))
          have W5 := Lib.hid (W4.out.trans (hb4.mono (Nat.le_trans HW.out.size B24.out.size)))
          have B25 := Lib.hid (B24.out.trans (hb4.mono B24.out.size))
          have hs1 := small_of (HMt.out k) hn
          rw [← HP.out] at hs1
          have hq1 := small_of HQm.out hn
          have HS := l01Sum_any A A4 l c' lq c4' P (oddL Q) w5 (HO.out.below B25.out).rd ho4.rd (by rw [← HO.out.len]; omega) (by rw [hlq]; omega) (by omega) (by omega) (by rw [HP.out]; exact oddL_asc _) (oddL_asc Q)
          have hE : oddL (P ++ oddL Q) = oddL ((PS.take (k + 1)).flatMap F) := by
            rw [flatT_succ HE, HFe2.out, HP.out]
            exact oddL_oddL _ _
          rw [hE] at HS
          have HS := Lib.hid HS
          have zB := Lib.hid (show B ≤ w5.heap.size from Nat.le_trans (by have := WW.out.size; rw [HB.out]; exact this) B25.out.size)
          clear ho4 hb4 hlq hs1 hq1 hE kg4 kq4
          go_wp2_with fail
          refine HS.out.mono ?_
          rintro e5 w6 ⟨A5, c5', rfl, ho5, hb5⟩
          obtain ⟨ls, hls⟩ : ∃ ls, ls = (oddL ((PS.take (k + 1)).flatMap F)).length := ⟨_, rfl⟩
          rw [← hls] at ho5 ⊢
          have W6 := Lib.hid (W5.out.trans (hb5.mono (Nat.le_trans HW.out.size B25.out.size)))
          have O5 := Lib.hid (ho5.mono zB.out (Nat.le_refl _))
          clear ho5 hb5 hls
          go_wp2_with fail
          go_roundw
          case rel => exact ⟨k + 1, ls, c5', A5, _, by omega, by go_num, rfl, Lib.hid rfl, O5, W6⟩
          case measure => simp [intOf]; omega
      · obtain rfl : k = lp := by omega
        have HPF := Lib.hid (show P = oddL (PS.flatMap F) from by rw [HP.out, List.take_of_length_le (by rw [HLP.out]; exact Nat.le_refl _)])
        go_wp2_with fail
        rw [HRR.out, ← HPF.out]
        rw [HB.out] at HO WW
        obtain rfl := HO.out.len
        exact ⟨A, c', rfl, HO.out, WW.out⟩
end Go.Proofs.Ytejlkobieohgfaa
