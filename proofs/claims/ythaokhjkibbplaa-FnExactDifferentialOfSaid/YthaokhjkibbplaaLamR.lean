/- The reference's way to the admissible form: l16Reduce. -/
import Derived.Test.YthaokhjkibbplaaLamW
import Derived.Test.YthaokhjkibbplaaLam3
import Derived.Test.YthaokhjkibbplaaLawK
import Derived.Test.YthaokhjkibbplaaLamF
namespace Go.Proofs.Ythaokhjkibbplaa
open Go.RowKit
set_option linter.unusedVariables false

/-- append: what was owned and what the source reads stand one behind the other, owned; only the old row may have been written. -/
theorem wp_appV {T E bytes : Nat} (ht : Elt T E bytes) {w : World} {o : Oper} {a : Act} {K : Act → World → Prop} {Q : Exit → Act → World → Prop} (s x : Operand)
    (ho : o.op = .call { callee := .builtin .append, args := #[s, x], argTypes := #[T, T] }) {B n c m d Bx : Nat} {A Ax : Option Addr} {vs us : List Value}
    (hs : a.eval s = .slice A n c) (hx : a.eval x = .slice Ax m d) (hown : OwnV w B E A n c vs) (hr : RdV w Bx Ax m d us) (h1 : ∀ u ∈ us, u.oneCell' = true)
    (hb : n + m ≤ 4000000000000) (hbytes : bytes ≤ 24) (hB : B ≤ w.heap.size)
    (h : ∀ A' c' w', OwnV w' B E A' (n + m) c' (vs ++ us) → w.grownBy w' (Value.ownBlock (.slice A n c)) → (Value.ownBlock (.slice A' (n + m) c') = Value.ownBlock (.slice A n c) ∨ Value.ownBlock (.slice A' (n + m) c') = some w.heap.size) →
      K (a.put o.dst (.slice A' (n + m) c')) w') : Oper.wp Try.prog o a w K Q := by
  have key : ∃ A' c' w', (Builtin.append_ #[T, T] o.type #[.slice A n c, .slice Ax m d]).run Try.prog w = .ok (.slice A' (n + m) c') w' ∧ OwnV w' B E A' (n + m) c' (vs ++ us) ∧ w.grownBy w' (Value.ownBlock (.slice A n c)) ∧
      (Value.ownBlock (.slice A' (n + m) c') = Value.ownBlock (.slice A n c) ∨ Value.ownBlock (.slice A' (n + m) c') = some w.heap.size) := by
    have hlen : (vs ++ us).length = n + m := by rw [List.length_append, hown.len, hr.len]
    rcases Ax with _ | ad
    · have hm : m = 0 := by
        rcases Nat.eq_zero_or_pos m with h0 | h0
        · exact h0
        · obtain ⟨ad, _, e, _⟩ := hr.at_ h0
          cases e
      subst hm
      have hus : us = [] := List.eq_nil_of_length_eq_zero hr.len
      subst hus
      exact ⟨A, c, w, by simpa using run_append_of_nil ht o.type hown.own d, by simpa using hown, World.grownBy.refl _ _, .inl rfl⟩
    · obtain ⟨i, z, hi, hz, hsz, hby, hzs⟩ := ht.info
      have hcells : ∀ j u, us[j]? = some u → w.cell? (ad.add j) = some u := by
        intro j u hu
        obtain ⟨hj, hju⟩ := List.getElem?_eq_some_iff.1 hu
        obtain ⟨ad', e, _, hc⟩ := hr.cell j hj
        injection e with e
        subst e
        rw [hc, hju]
      obtain ⟨v', w', hrun, h2, h3, _, h5⟩ := run_append_own_at (P := Try.prog) w B T o.type E i z 1 bytes ht.under hi hz hsz hby hzs (by decide) (.slice A n c) n vs hown.own ad m d us (by rw [hr.len]; omega) hcells h1 (by unfold maxLen; omega)
        (Nat.le_trans (Nat.mul_le_mul hb hbytes) (by omega)) hB
      have hv : ∃ A' c', v' = .slice A' (n + m) c' := by
        rcases h2.2 with ⟨rfl, h0⟩ | ⟨g, cap, _, rfl, _⟩
        · exact ⟨none, 0, by rw [h0]⟩
        · exact ⟨_, _, rfl⟩
      obtain ⟨A', c', rfl⟩ := hv
      exact ⟨A', c', w', hrun, ⟨hlen, h2⟩, h3, h5⟩
  obtain ⟨A', c', w', hrun, h2, h3, h4⟩ := key
  unfold Oper.wp execOp
  simp only [ho, resolve, invoke, builtin, Sem.run_bind, Sem.run_pure, Result.andThen_ok, List.map_toArray, List.map_cons, List.map_nil, hs, hx, hrun]
  exact h A' c' w' h2 h3 h4


/-- append of integers at a step of a region that draws its order -/
theorem step_joinI {w0 w : World} {ops : Array Oper} {o : Oper} {a : Act} {K : Act → World → Prop} {Q : Exit → Act → World → Prop} {E : Prop} (hgd : o.guard = none) (s x : Operand)
    (ho : o.op = .call { callee := .builtin .append, args := #[s, x], argTypes := #[40, 40] }) {B n c m d Bx : Nat} {A Ax : Option Addr} {xs ys : List Int}
    (hs : a.eval s = .slice A n c) (hx : a.eval x = .slice Ax m d) (hst : StS w0 B w A n c xs) (hr : RdS w Bx Ax m d ys) (hn : n + m ≤ 3000000000000)
    (h : ∀ A2 c2 w', StS w0 B w' A2 (n + m) c2 (xs ++ ys) → w.grownBy w' (Value.ownBlock (.slice A n c)) → K (a.put o.dst (.slice A2 (n + m) c2)) w') :
    if Region.wanted o (yielded ops a.tmps) = true then Oper.wp Try.prog o a w K Q else E := by
  have hw : Region.wanted o (yielded ops a.tmps) = true := by simp [Region.wanted, hgd]
  rw [if_pos hw]
  refine wp_appV eltI s x ho hs hx hst.own.v hr.v (ints_one ys) (by omega) (by decide) hst.hi fun A' c' w' h1 hg _ => ?_
  have h2 : OwnS w' B A' (n + m) c' (xs ++ ys) := OwnV.s (by simpa using h1)
  exact h A' c' w' ⟨h2, hst.bel.grown hg hst.hi hst.own.row, Nat.le_trans hst.hi hg.size⟩ hg

theorem bcellA {W w1 : World} (hb : Below W.heap.size W w1) {a : Addr} {v : Value} (h : a.block < W.heap.size) (hc : W.cell? a = some v) : w1.cell? a = some v := (hb.cell (p := a) h).trans hc
theorem old_atA {w : World} {o : Obj} {a : Addr} {v : Value} (hb : a.block < w.heap.size) (hv : w.cell? a = some v) : (w.alloc o).cell? a = some v := bcellA ((Below.refl _ _).alloc (Nat.le_refl _) _) hb hv
theorem rdL_one {w : World} {B n c : Nat} {A : Option Addr} {x : List Int} (h : RdS w B A n c x) (hB : B ≤ w.heap.size) : RdL (w.alloc (.cells #[.slice A n c] 40)) (w.alloc (.cells #[.slice A n c] 40)).heap.size (some ⟨w.heap.size, 0, none⟩) 1 1 [x] := by
  have hb : Below w.heap.size w (w.alloc (.cells #[.slice A n c] 40)) := (Below.refl _ _).alloc (Nat.le_refl _) _
  refine ⟨rfl, [.slice A n c], (rdV_newP w _ _).mono (by simp), fun j v xs hv hx => ?_⟩
  have : j = 0 := by
    have := (List.getElem?_eq_some_iff.1 hv).1
    simpa using this
  subst this
  simp only [List.getElem?_cons_zero, Option.some.injEq] at hv hx
  subst hv; subst hx
  exact ⟨A, n, c, rfl, ((h.mono hB).below hb).mono hb.size⟩

theorem take_pref {u v : List Int} {a b : Int} : (u ++ a :: b :: v).take u.length = u := by simp
theorem drop_suf {u v : List Int} {a b : Int} {k : Nat} (h : u.length = k) : (u ++ a :: b :: v).drop (k + 2) = v := by
  subst h
  rw [← List.drop_drop, List.drop_left]
  rfl

theorem RdS.pre {w : World} {B n c k : Nat} {A : Option Addr} {xs : List Int} (h : RdS w B A n c xs) (hk : k ≤ n) : RdS w B A k c (xs.take k) := by
  have hl := h.len
  have hc := h.cap
  refine ⟨by rw [List.length_take]; omega, by omega, fun j hj => ?_⟩
  rw [List.length_take] at hj
  obtain ⟨ad, e, hb, h1⟩ := h.cell j (by omega)
  exact ⟨ad, e, hb, by rw [h1, List.getElem_take]⟩
def sufA (A : Option Addr) (c m : Nat) : Option Addr := match A with
  | none => none
  | some ad => if c = m then some ad else some (ad.add m)
theorem RdS.suf {w : World} {B n c m : Nat} {A : Option Addr} {xs : List Int} (h : RdS w B A n c xs) (hm : m ≤ n) : RdS w B (sufA A c m) (n - m) (c - m) (xs.drop m) := by
  have hl := h.len
  have hc := h.cap
  refine ⟨by rw [List.length_drop]; omega, by omega, fun j hj => ?_⟩
  rw [List.length_drop] at hj
  obtain ⟨ad, rfl, hb, h1⟩ := h.cell (m + j) (by omega)
  refine ⟨ad.add m, ?_, by rw [block_of_add]; exact hb, ?_⟩
  · simp only [sufA]; rw [if_neg (by omega)]
  · rw [add_of_add, h1, List.getElem_drop]
theorem addr_add_zero (a : Addr) : a.add 0 = a := by simp [Addr.add]
theorem run_pre (A : Option Addr) (n c k : Nat) (hk : k ≤ c) (W : World) : (Instr.sliceAt 40 (.slice A n c) Option.none (some (.int .i64 (k : Int))) Option.none).run Try.prog W = .ok (.slice A k c) W := by
  have h : (k : Int) ≤ (c : Int) := by omega
  have e : A.map (·.add 0) = A := by cases A <;> simp [addr_add_zero]
  simp [go_sem, Try.underlying40, h, sliced]
theorem run_suf (A : Option Addr) (n c k m : Nat) (hm : m = k + 2) (hn : m ≤ n) (W : World) : (Instr.sliceAt 40 (.slice A n c) (some (.int .i64 ((k : Int) + 2))) Option.none Option.none).run Try.prog W = .ok (.slice (sufA A c m) (n - m) (c - m)) W := by
  subst hm
  have h : (k : Int) + 2 ≤ (n : Int) := by omega
  have h0 : (0 : Int) ≤ (k : Int) + 2 := by omega
  have e : ((k : Int) + 2).toNat = k + 2 := by omega
  simp only [sufA]
  cases A with
  | none => simp [go_sem, Try.underlying40, h, h0, e, sliced]
  | some ad =>
    by_cases hc : c = k + 2
    · simp [go_sem, Try.underlying40, h, h0, e, sliced, hc]
    · simp [go_sem, Try.underlying40, h, h0, e, sliced, hc]

theorem lt_allocA {w : World} {o : Obj} {a : Addr} (h : a.block < w.heap.size) : a.block < (w.alloc o).heap.size := by simp; omega
structure MoreInv (x : List Int) (R M : List (List Int)) (p : Nat) : Prop where
  asc : Asc M
  same : SameSum M (x :: R.take p)
  mem : ∀ y ∈ M, y = x ∨ y ∈ R
theorem MoreInv.start {x : List Int} {R : List (List Int)} : MoreInv x R [x] 0 := ⟨by simp [Asc], by simpa using SameSum.refl _, by simp⟩
theorem MoreInv.step {x z : List Int} {R M : List (List Int)} {p : Nat} (h : MoreInv x R M p) (hz : R[p]? = some z) : MoreInv x R (oddL (M ++ [z])) (p + 1) := by
  refine ⟨oddL_asc _, ?_, fun y hy => ?_⟩
  · refine (oddL_same _).trans ?_
    rw [List.take_add_one, hz, ← List.cons_append]
    exact h.same.append (SameSum.refl _)
  · rcases List.mem_append.1 (oddL_mem hy) with hy | hy
    · exact h.mem y hy
    · rw [List.mem_singleton.1 hy]; exact .inr (List.mem_of_getElem? hz)
theorem repl_at {u v y : List Int} {a b : Int} {p : Nat} (h : (relL a b)[p]? = some y) : (repl u v a b)[p]? = some (u ++ y ++ v) := by
  simp only [relL, repl, List.getElem?_map] at h ⊢
  cases hq : (relP a b)[p]? with
  | none => rw [hq] at h; cases h
  | some q =>
    rw [hq] at h
    simp only [Option.map_some, Option.some.injEq] at h ⊢
    subst h
    simp
/-- what comes back reads as the sum; it is either the slice that came in or all its own -/
def RetRed (A : Option Addr) (n c : Nat) (xss yss : List (List Int)) (w : World) (e : Ending) (w' : World) : Prop :=
  ∃ A' c', e = .returned (.slice A' yss.length c') ∧ RdL w' w'.heap.size A' yss.length c' yss ∧ (OwnL w' w.heap.size w'.heap.size A' yss.length c' yss ∨ (A' = A ∧ yss.length = n ∧ c' = c ∧ yss = xss)) ∧ Below w.heap.size w w'
theorem red_len {xss T : List (List Int)} {i : Nat} (h : RedInv xss T i) : T.length ≤ 75582 ∧ totalL T ≤ 529074 := by
  have h1 := asc_len h.asc h.ok
  have h2 := tot_le T 7 fun x hx => (h.ok x hx).1
  exact ⟨h1, by omega⟩

set_option maxRecDepth 100000 in
set_option maxHeartbeats 2000000 in
theorem reduce_any (A : Option Addr) (n c B : Nat) (xss : List (List Int)) (w : World) (h : RdL w B A n c xss) (hB : B ≤ w.heap.size) (ha : Asc xss) (hw : ∀ x ∈ xss, okW x) :
    Calls Try.prog 41 #[.slice A n c] w (RetRed A n c xss (formL xss) w) := by
  obtain ⟨V, hV⟩ : ∃ V, V = w.heap.size := ⟨_, rfl⟩
  have HVe := Lib.hid hV
  have H := Lib.hid (show RdL w V A n c xss from h.mono (by rw [hV]; exact hB))
  have Hl := Lib.hid h.len
  have HI0 := Lib.hid (RedInv.mk ha hw (SameSum.refl _) (fun j hj => absurd hj (by omega)) : RedInv xss xss 0)
  clear hV h ha hw
  go_enter Try.func41, Try.ntmps41
  go_wp2_with fail
  go_loopg [0, 3] (mu xss 0) (fun g t i wr => ∃ (T : List (List Int)) (At : Option Addr) (nt ct j : Nat), t = .slice At nt ct ∧ i = .int .i64 j ∧ j ≤ nt ∧ nt ≤ 75582 ∧ Hid (T.length = nt) ∧ Hid (RedInv xss T j) ∧ Hid (g = mu T j) ∧ Hid (RdL wr wr.heap.size At nt ct T) ∧ Hid (Below V w wr) ∧ Hid (V ≤ wr.heap.size) ∧ Hid (OwnL wr V wr.heap.size At nt ct T ∨ (At = A ∧ nt = n ∧ ct = c ∧ T = xss)))
  case atStart => exact ⟨xss, A, n, c, 0, rfl, rfl, Nat.zero_le _, by have := (red_len HI0.out).1; rw [Hl.out] at this; exact this, Hl, HI0, Lib.hid rfl, Lib.hid (H.out.mono (Nat.le_of_eq HVe.out)), Lib.hid (Below.refl _ _), Lib.hid (Nat.le_of_eq HVe.out), Lib.hid (.inr ⟨rfl, rfl, rfl, rfl⟩)⟩
  case round =>
    obtain ⟨T, At, nt, ct, j, rfl, rfl, hj, hnt, HTl, HI, HG, HR, HBl, HV, HO⟩ := hrel
    by_cases hlt : j < nt
    · obtain ⟨ad, A1, n1, c1, x, rfl, _, hx, hc, hr⟩ := HR.out.at_ hlt
      have hok := HI.out.ok x (List.mem_of_getElem? hx.out)
      have Hok := Lib.hid hok
      have Hn1 := Lib.hid hr.len
      have hn1 : n1 ≤ 7 := by rw [← hr.len]; exact hok.1
      have HRx := Lib.hid hr
      have Hf := Lib.hid (fault_any A1 n1 c1 _ x wr hr (by omega) (fun y hy => ⟨hok.2.1 y hy, by
        have h1 := sumZ_nonneg hok.2.1
        have h2 : y ≤ sumZ x := by
          have aux : ∀ l : List Int, nonN l → y ∈ l → y ≤ sumZ l := by
            intro l
            induction l with
            | nil => intro _ h; simp at h
            | cons z l ih =>
              intro hn hy
              have hl : nonN l := fun q hq => hn q (List.mem_cons_of_mem _ hq)
              have h3 := sumZ_nonneg hl
              have h4 := hn z (by simp)
              simp only [sumZ]
              rcases List.mem_cons.1 hy with rfl | hy
              · omega
              · have := ih hl hy; omega
          exact aux x hok.2.1 hy
        have := hok.2.2
        omega⟩))
      have hge := flt_ge x
      clear hok hr
      obtain ⟨fl, hfl⟩ : ∃ f, f = flt x := ⟨_, rfl⟩
      rw [← hfl] at Hf hge
      by_cases hneg : fl < 0
      · have HN := Lib.hid (HI.out.next hx.out (flt_neg (by rw [← hfl]; exact hneg)))
        clear hfl
        go_wp2_with fail
        refine Hf.out.mono ?_
        rintro e w1 ⟨rfl, q, rfl⟩
        go_wp2_with fail
        go_roundg (mu T (j + 1))
        case measure => rw [HG.out]; exact HN.out.2
        case rel => exact ⟨T, some ad, nt, ct, j + 1, rfl, by go_num, by omega, hnt, HTl, Lib.hid HN.out.1, Lib.hid rfl, Lib.hid (HR.out.drewN q), Lib.hid (below_drewN HBl.out q), HV, Lib.hid (by
          rcases HO.out with h | h
          · exact .inl (h.drewN q)
          · exact .inr h)⟩
      · obtain ⟨k, rfl⟩ := Int.eq_ofNat_of_zero_le (show 0 ≤ fl by omega)
        obtain ⟨u, a, b, v, hxe, hul, hab⟩ := flt_at hfl.symm
        have hlen : u.length + (v.length + 2) = n1 := by have := Hn1.out; rw [hxe] at this; simpa using this
        obtain ⟨m, hm⟩ : ∃ m, m = k + 1 := ⟨_, rfl⟩
        have hkn : k < n1 := by omega
        have hmn : m < n1 := by omega
        obtain ⟨ad1, a', rfl, hbk, ha', hca⟩ := HRx.out.at_ hkn
        obtain ⟨ad2, b', e2, _, hb', hcb⟩ := HRx.out.at_ hmn
        obtain rfl : ad1 = ad2 := by simpa using e2
        obtain rfl : a = a' := by have h1 := ha'.out; rw [hxe, ← hul] at h1; simpa using h1
        obtain rfl : b = b' := by
          have h1 := hb'.out
          rw [hxe, hm, ← hul, List.getElem?_append_right (by omega), show u.length + 1 - u.length = 1 from by omega] at h1
          simpa using h1
        have hokx := Hok.out
        rw [hxe] at hokx
        have ha0 : 0 ≤ a := hokx.2.1 a (by simp)
        have hb0 : 0 ≤ b := hokx.2.1 b (by simp)
        have hu0 : 0 ≤ sumZ u := sumZ_nonneg fun z hz => hokx.2.1 z (by simp [hz])
        have hv0 : 0 ≤ sumZ v := sumZ_nonneg fun z hz => hokx.2.1 z (by simp [hz])
        have hsab : a + b ≤ 11 := by have := hokx.2.2; rw [sumZ_append] at this; simp only [sumZ] at this; omega
        have HX := Lib.hid hxe
        have HU := Lib.hid hul
        have HM := Lib.hid hm
        have hwk : IntKind.i64.wrap ((k : Int) + 1) = (m : Int) := by rw [IntKind.wrap_i64]; omega
        have HWK := Lib.hid hwk
        clear hfl hxe hul hm hokx e2 hwk hu0 hv0 hlen
        go_wp2_with fail
        refine Hf.out.mono ?_
        rintro e w1 ⟨rfl, q, rfl⟩
        obtain ⟨wq, hwq⟩ : ∃ W, W = wr.drewN q := ⟨_, rfl⟩
        have HQ := Lib.hid (show Ext wr wq by rw [hwq]; exact below_drewN (Below.refl _ _) q)
        have HRq := Lib.hid (show RdL wq wq.heap.size (some ad) nt ct T by rw [hwq]; exact HR.out.drewN q)
        have HRxq := Lib.hid (show RdS wq wq.heap.size (some ad1) n1 c1 x by rw [hwq]; exact HRx.out.drewN q)
        have HOq := Lib.hid (show OwnL wq V wq.heap.size (some ad) nt ct T ∨ (some ad = A ∧ nt = n ∧ ct = c ∧ T = xss) by
          rcases HO.out with h | h
          · rw [hwq]; exact .inl (h.drewN q)
          · exact .inr h)
        have HBq := Lib.hid (show Below V w wq by rw [hwq]; exact below_drewN HBl.out q)
        have HVq := Lib.hid (show V ≤ wq.heap.size by rw [hwq]; exact HV.out)
        have hka : wq.cell? (ad1.add k) = some (.int .i64 a) := by rw [hwq]; exact hca
        have hkb : wq.cell? (ad1.add m) = some (.int .i64 b) := by rw [hwq]; exact hcb
        have hza : (ad1.add k).block < wq.heap.size := by rw [hwq, block_of_add]; exact hbk
        have hzb : (ad1.add m).block < wq.heap.size := by rw [hwq, block_of_add]; exact hbk
        rw [← hwq]
        clear hca hcb hc HR HRx HO HBl HV hwq
        go_upto_region 7 with fail
        go_cut [6, 7] (fun p q wc => ∃ (Ar : Option Addr) (cr : Nat) (gm : Nat), p = .slice Ar (relL a b).length cr ∧ q = .slice (some ⟨gm, 0, none⟩) 1 1 ∧ Hid (RdL wc wc.heap.size Ar (relL a b).length cr (relL a b) ∧ RdL wc wc.heap.size (some ⟨gm, 0, none⟩) 1 1 [x] ∧ Ext wq wc))
        case first =>
          have hwk := HWK.out
          have hkn0 : (0 : Int) ≤ (k : Int) := by omega
          have hd1 := Lib.hid (Ext.drew (Ext.refl wq))
          have hza' : (ad1.add k).block < wq.drew.heap.size := hza
          have hzb' : (ad1.add m).block < wq.drew.heap.size := hzb
          go_region_held3 (fun w' => w'.cell? (ad1.add k) = some (.int .i64 a) ∧ w'.cell? (ad1.add m) = some (.int .i64 b)) (first | exact ⟨hka, hkb⟩ | exact ⟨kac, kbc⟩ | exact ⟨old_atA hza' hka, old_atA hzb' hkb⟩ | exact ⟨old_atA zac kac, old_atA zbc kbc⟩)
            (first
              | (go_at_call 65
                 refine (relation_any a b _ ha0 hb0 hsab hab).mono ?_
                 rintro e u0 ⟨Ar, cr, rfl, hor, hbr⟩
                 have kac := bcellA hbr (by first | exact hza' | exact lt_allocA hza') (by first | exact hka | exact old_atA hza' hka)
                 have kbc := bcellA hbr (by first | exact hzb' | exact lt_allocA hzb') (by first | exact hkb | exact old_atA hzb' hkb)
                 have zac := Nat.lt_of_lt_of_le (by first | exact hza' | exact lt_allocA hza') hbr.size
                 have zbc := Nat.lt_of_lt_of_le (by first | exact hzb' | exact lt_allocA hzb') hbr.size
                 have HOr := Lib.hid (And.intro hor.rd hbr)
                 clear hor hbr))
          all_goals
            go_wp2_with fail
            go_meet
            first
              | exact ⟨Ar, cr, u0.heap.size, rfl, rfl, Lib.hid ⟨HOr.out.1.alloc _, rdL_one ((HRxq.out.below (Ext.trans hd1.out HOr.out.2)).mono (Ext.trans hd1.out HOr.out.2).size) (Nat.le_refl _), Ext.alloc (Ext.trans hd1.out HOr.out.2) _⟩⟩
              | exact ⟨Ar, cr, wq.heap.size, rfl, rfl, Lib.hid ⟨HOr.out.1, ((rdL_one HRxq.out (Nat.le_refl _)).drewN 1 |>.below HOr.out.2).mono HOr.out.2.size, Ext.trans (Ext.drew ((Ext.refl wq).alloc _)) HOr.out.2⟩⟩
        case rest =>
          obtain ⟨Ar, cr, gm, rfl, rfl, hv⟩ := hcut
          obtain ⟨hr1, hr2, hr3⟩ := hv.out
          obtain ⟨w2, hwe⟩ : ∃ W : World, W = wc := ⟨_, rfl⟩
          subst hwe
          have R1 := Lib.hid hr1
          have X2 := Lib.hid hr3
          have HM0 := Lib.hid hr2
          have HTq := Lib.hid (HRq.out.below hr3)
          clear hka hkb hza hzb hr1 hr2 hr3 hv
          have hlr : (relL a b).length ≤ 6 := by
            have h1 : (relL a b).length = ((List.range 6).filter (relC a b)).length := by simp [relL, relP_eq, relTo]
            have h2 := List.length_filter_le (relC a b) (List.range 6)
            rw [List.length_range] at h2
            omega
          obtain ⟨lr, hlre⟩ : ∃ l, l = (relL a b).length := ⟨_, rfl⟩
          have HLr := Lib.hid hlre
          rw [← hlre] at R1 hlr ⊢
          clear hlre
          have HMI := Lib.hid (MoreInv.start (x := x) (R := repl u v a b))
          obtain ⟨i2, hi2⟩ : ∃ i, i = k + 2 := ⟨_, rfl⟩
          have hi2n : i2 ≤ n1 := by have := HM.out; omega
          have hsl1 := fun W => run_pre (some ad1) n1 c1 k (by have := HRxq.out.cap; omega) W
          have hsl2 := fun W => run_suf (some ad1) n1 c1 k i2 hi2 hi2n W
          have HI2 := Lib.hid hi2
          clear hi2
          go_wp2_with fail
          go_loopw [7, 8] (fun mo i wz => ∃ (p lm cm : Nat) (Am : Option Addr) (M : List (List Int)), p ≤ lr ∧ i = .int .i64 p ∧ mo = .slice Am lm cm ∧ lm ≤ p + 1 ∧ Hid (M.length = lm) ∧ Hid (MoreInv x (repl u v a b) M p) ∧ Hid (RdL wz wz.heap.size Am lm cm M) ∧ Hid (Ext w2 wz)) (fun _ i _ => lr - (intOf i).toNat)
          case atStart => exact ⟨0, 1, 1, _, [x], Nat.zero_le _, rfl, rfl, by omega, Lib.hid rfl, HMI, HM0, Lib.hid (Ext.refl _)⟩
          case round =>
            clear HMI HM0
            obtain ⟨p, lm, cm, Am, M, hp, rfl, rfl, hlm, HLm, HMI, HMr, HX2⟩ := hrel
            obtain ⟨wz, hwz⟩ : ∃ W : World, W = wr := ⟨_, rfl⟩
            subst hwz
            by_cases hpl : p < lr
            · obtain ⟨adr, Ay, ny, cy, y, rfl, hbr, hy, hcy, hry⟩ := (R1.out.below HX2.out).at_ hpl
              have Hy := Lib.hid (repl_at (u := u) (v := v) hy.out)
              have hny : ny = 2 := by
                rw [← hry.len]
                obtain ⟨q, _, rfl⟩ := List.mem_map.1 (List.mem_of_getElem? hy.out)
                rfl
              subst hny
              have hzy : (adr.add p).block < wz.heap.size := by rw [block_of_add]; exact Nat.lt_of_lt_of_le hbr HX2.out.size
              have HRy := Lib.hid (hry.mono HX2.out.size)
              have HRw := Lib.hid ((HRxq.out.below (Ext.trans X2.out HX2.out)).mono (Ext.trans X2.out HX2.out).size)
              have Ed := Lib.hid (Ext.drew (Ext.refl wz))
              have hk0 : (0 : Int) ≤ (k : Int) := by omega
              have hp0 : (0 : Int) ≤ (p : Int) := by omega
              clear hbr hry
              go_wp2_with fail
              go_region_held3 (fun w' => w'.cell? (adr.add p) = some (.slice Ay 2 cy)) (first | exact hcy | exact kcy1 | exact kcy2)
                (first
                  | (go_at_call 58
                     refine (own_st (some ad1) k c1 _ (x.take k) _ ((HRw.out.below Ed.out).pre (Nat.le_of_lt hkn)) (Nat.le_refl _) (by omega)).mono ?_
                     rintro e u1 ⟨A5, c5, rfl, ho5, hb5⟩
                     have kcy1 := bcellA hb5 (show (adr.add p).block < wz.drew.heap.size from hzy) hcy
                     have hz1 := Nat.lt_of_lt_of_le (show (adr.add p).block < wz.drew.heap.size from hzy) hb5.size
                     have HS5 := Lib.hid (show StS wz wz.heap.size u1 A5 k c5 (x.take k) from ⟨ho5, Ext.trans Ed.out hb5, hb5.size⟩)
                     have HRy1 := Lib.hid (HRy.out.below (Ext.trans Ed.out hb5))
                     clear ho5 hb5)
                  | ((refine step_joinI (by rfl) (.tmp 45) (.tmp 49) (by rfl) (by rfl) (by rfl) HS5.out HRy1.out (by omega) ?_
                      intro A6 c6 w6 hs6 hg6
                      have kcy2 : w6.cell? (adr.add p) = some (.slice Ay 2 cy) := (hs6.bel.cell (p := adr.add p) hzy).trans hcy
                      have HS6 := Lib.hid hs6
                      clear hs6 hg6)))
              have HRs := Lib.hid ((HRw.out.below HS6.out.bel).suf hi2n)
              clear hcy kcy1 kcy2 hz1 HS5 HRy1
              go_wp2_with (at_builtin; refine wpList_joinI rfl (.tmp 52) (.tmp 56) rfl rfl rfl HS6.out HRs.out (by omega) ?_)
              intro A7 c7 w7 hs7 _
              have HS7 := Lib.hid hs7
              have HE7 : Hid (x.take k ++ y ++ x.drop i2 = u ++ y ++ v) := Lib.hid (by
                rw [HX.out, HI2.out, drop_suf HU.out]
                conv => lhs; rw [← HU.out, take_pref])
              have HOk := Lib.hid (repl_ok (show okW (u ++ a :: b :: v) by rw [← HX.out]; exact Hok.out))
              obtain ⟨z, hz⟩ : ∃ z, z = u ++ y ++ v := ⟨_, rfl⟩
              rw [← List.append_assoc, HE7.out, ← hz] at HS7
              rw [← hz] at Hy
              have hzl : z.length ≤ 7 := (HOk.out z (List.mem_of_getElem? Hy.out)).1.1
              clear hs7 hz HE7 HS6 HRs
              have HZ := Lib.hid (rdL_one HS7.out.own.rd (Nat.le_refl _))
              have HM7 := Lib.hid (((HMr.out.below HS7.out.bel).mono HS7.out.bel.size).alloc (.cells #[.slice A7 (k + 2 + (n1 - i2)) c7] 40))
              have HX7 := Lib.hid (Ext.alloc (Ext.trans HX2.out HS7.out.bel) (.cells #[.slice A7 (k + 2 + (n1 - i2)) c7] 40))
              have HMt : Hid (totalL M ≤ 49) := Lib.hid (by
                have := tot_le M 7 fun q hq => by
                  rcases HMI.out.mem q hq with e | e
                  · rw [e]; exact Hok.out.1
                  · exact (HOk.out q e).1.1
                rw [HLm.out] at this
                omega)
              have HMI2 := Lib.hid (HMI.out.step Hy.out)
              have hol := oddL_len (M ++ [z])
              rw [List.length_append, HLm.out] at hol
              have Hsum := Lib.hid (l01Sum_any Am _ lm cm 1 1 M [z] _ HM7.out HZ.out (by omega) (by omega) (by have := HMt.out; omega) (by simp [totalL]; omega) HMI.out.asc (by simp [Asc]))
              obtain ⟨M2, hM2⟩ : ∃ M2, M2 = oddL (M ++ [z]) := ⟨_, rfl⟩
              rw [← hM2] at Hsum HMI2 hol
              obtain ⟨l2, hl2⟩ : ∃ l, l = M2.length := ⟨_, rfl⟩
              rw [← hl2] at Hsum hol
              have HL2 := Lib.hid hl2.symm
              simp only [List.length_singleton] at hol
              clear hM2 hl2
              go_wp2_with fail
              refine Hsum.out.mono ?_
              rintro e w8 ⟨A8, c8, rfl, ho8, hb8⟩
              have HM8 := Lib.hid ho8.rd
              have HX8 := Lib.hid (Ext.trans HX7.out hb8)
              clear ho8 hb8
              go_wp2_with fail
              go_roundw
              case rel => exact ⟨p + 1, l2, c8, A8, M2, by omega, by go_num, rfl, by omega, HL2, HMI2, HM8, HX8⟩
              case measure => simp [intOf]; omega
            · obtain rfl : p = lr := by omega
              have HOk := Lib.hid (repl_ok (show okW (u ++ a :: b :: v) by rw [← HX.out]; exact Hok.out))
              have HMt : Hid (totalL M ≤ 49) := Lib.hid (by
                have := tot_le M 7 fun q hq => by
                  rcases HMI.out.mem q hq with e | e
                  · rw [e]; exact Hok.out.1
                  · exact (HOk.out q e).1.1
                rw [HLm.out] at this
                omega)
              have HSt := Lib.hid (HI.out.step (u := u) (v := v) (a := a) (b := b) (more := M) (by rw [← HX.out]; exact hx.out) hab HMI.out.asc (by
                have h1 := HMI.out.same
                rw [List.take_of_length_le (by rw [HLr.out]; simp [relL, repl])] at h1
                rw [← HX.out]; exact h1) (by rw [← HX.out]; exact HMI.out.mem))
              have HTt := Lib.hid (red_len HI.out)
              have HT2 := Lib.hid (red_len HSt.out.1)
              have HTr := Lib.hid ((HTq.out.below (HX2.out.mono X2.out.size)).mono (Ext.trans X2.out HX2.out).size)
              have Hsum := Lib.hid (l01Sum_any (some ad) Am nt ct lm cm T M _ HTr.out HMr.out (by omega) (by omega) (by have := HTt.out.2; omega) (by have := HMt.out; omega) HI.out.asc HMI.out.asc)
              obtain ⟨T2, hT2⟩ : ∃ T2, T2 = oddL (T ++ M) := ⟨_, rfl⟩
              rw [← hT2] at Hsum HSt HT2
              obtain ⟨l2, hl2⟩ : ∃ l, l = T2.length := ⟨_, rfl⟩
              have HL2 := Lib.hid hl2.symm
              rw [← hl2] at Hsum
              have hl2b : l2 ≤ 75582 := by rw [hl2]; exact HT2.out.1
              have HXa := Lib.hid (Ext.trans HQ.out (Ext.trans X2.out HX2.out))
              have HJ : Hid (j ≤ l2) := Lib.hid (by rw [hl2]; exact HSt.out.2.2)
              have hjb := HJ.out
              clear hT2 hl2
              go_wp2_with fail
              refine Hsum.out.mono ?_
              rintro e w8 ⟨A8, c8, rfl, ho8, hb8⟩
              have HXb := Lib.hid (Ext.trans X2.out (Ext.trans HX2.out hb8))
              have HO8 := Lib.hid (ho8.mono (B' := V) (Nat.le_trans HVq.out (Ext.trans X2.out HX2.out).size) (Nat.le_refl _))
              clear ho8 hb8
              go_wp2_with fail
              go_roundg (mu T2 j)
              case measure => rw [HG.out]; exact HSt.out.2.1
              case rel => exact ⟨T2, A8, l2, c8, j, rfl, rfl, hjb, hl2b, HL2, Lib.hid HSt.out.1, Lib.hid rfl, Lib.hid HO8.out.rd, Lib.hid (HBq.out.trans (HXb.out.mono HVq.out)), Lib.hid (Nat.le_trans HVq.out HXb.out.size), Lib.hid (.inl HO8.out)⟩
    · obtain rfl : j = nt := by omega
      have he := HI.out.end_ (Nat.le_of_eq HTl.out)
      have HE := Lib.hid he
      clear he
      go_wp2_with fail
      go_ret
      have hl : (formL xss).length = j := by rw [← HE.out, HTl.out]
      refine ⟨At, ct, by rw [hl]; rfl, ?_, ?_, ?_⟩
      · rw [hl, ← HE.out]; exact HR.out
      · rw [hl, ← HE.out, ← HVe.out]; exact HO.out
      · rw [← HVe.out]; exact HBl.out
end Go.Proofs.Ythaokhjkibbplaa
