/- spec.l01Same, spec.l01Put: a list put into an ascending list of lists, or taken out. -/
import Derived.Test.YtoodhbafleemjaaGreatStep
import Derived.Test.YtoodhbafleemjaaGreatOdd
import Derived.Test.YtoodhbafleemjaaGreatOwnR
import Derived.Test.YtoodhbafleemjaaGreatLex
namespace Go.Proofs.YtoodhbafleemjaaGreat
open Go.RowKit
set_option linter.unusedVariables false

theorem same_any (A1 A2 : Option Addr) (c1 c2 n m B1 B2 : Nat) (xs ys : List Int) (w : World)
   (h1 : RdS w B1 A1 n c1 xs) (h2 : RdS w B2 A2 m c2 ys) (hb1 : n ≤ 1000000000000) (hb2 : m ≤ 1000000000000) :
    Calls Tryz.prog 85 #[.slice A1 n c1, .slice A2 m c2] w (RetB (decide (xs = ys)) w) := by
  by_cases hl : n = m
  · subst hl
    go_enter Tryz.func85, Tryz.ntmps85
    go_wp2
    go_loopw [5] (fun i wr => ∃ k : Nat, k ≤ n ∧ i = .int .i64 k ∧ Hid (xs.take k = ys.take k) ∧ ∃ q, wr = w.drewN q) (fun i _ => n - (intOf i).toNat)
    case atStart => exact ⟨0, Nat.zero_le _, rfl, Lib.hid (by simp), 0, rfl⟩
    case round =>
      obtain ⟨k, hk, rfl, htk, q, rfl⟩ := hrel
      by_cases hlt : k < n
      · obtain ⟨ad1, x, rfl, _, hx, hc1⟩ := h1.at_ hlt
        obtain ⟨ad2, y, rfl, _, hy, hc2⟩ := h2.at_ hlt
        by_cases hxy : x = y
        · subst hxy
          have hne1 : (x != x) = false := by simp
          go_wp2
          go_quiet (fail)
          go_wp2
          go_roundw
          case rel => exact ⟨k+1, by omega, by go_num, Lib.hid (take_succ_eq htk hx hy), (by first | exact ⟨_, rfl⟩ | exact ⟨_, World.drewN_drewN _ _ _⟩ | (simp only [World.drewN_drewN]; exact ⟨_, rfl⟩))⟩
          case measure => simp [intOf]; omega
        · skip
          have hne1 : (x == y) = false := by simpa using hxy
          have hne2 : (x != y) = true := by simpa using hxy
          clear hxy
          go_wp2
          go_quiet (fail)
          go_wp2
          go_ret
          refine RetB.mk (b' := false) (decide_eq_false ?_).symm (by first | exact ⟨_, rfl⟩ | exact ⟨_, World.drewN_drewN _ _ _⟩ | (simp only [World.drewN_drewN]; exact ⟨_, rfl⟩))
          intro e
          subst e
          have h3 := hx.out
          rw [hy.out] at h3
          simp at h3
          simp [h3] at hne1
      · go_wp2
        go_ret
        refine RetB.mk (b' := true) (decide_eq_true ?_).symm (by first | exact ⟨_, rfl⟩ | exact ⟨_, World.drewN_drewN _ _ _⟩ | (simp only [World.drewN_drewN]; exact ⟨_, rfl⟩))
        obtain rfl : k = n := by omega
        have h3 := htk.out
        rw [List.take_of_length_le (by rw [h1.len]; omega), List.take_of_length_le (by rw [h2.len]; omega)] at h3
        exact h3
  · skip
    have hne1 : ((n : Int) == (m : Int)) = false := by simp; omega
    have hne2 : ((n : Int) != (m : Int)) = true := by simp; omega
    have hne3 : (n == m) = false := by simp; omega
    go_enter Tryz.func85, Tryz.ntmps85
    go_wp2
    go_ret
    refine RetB.mk (b' := false) (decide_eq_false ?_).symm ⟨0, rfl⟩
    intro e
    subst e
    exact hl (by rw [← h1.len, ← h2.len])

/-! ### rows of one's own, as pairs of a value and the list that it owns -/
structure Rows (w : World) (B K : Nat) (ps : List (Value × List Int)) : Prop where
  each : ∀ p ∈ ps, OwnVal w B K p.1 p.2
  apart : apartV (ps.map (·.1))
theorem OwnL.pairs {w : World} {B K n c : Nat} {A : Option Addr} {xss : List (List Int)} (h : OwnL w B K A n c xss) : ∃ ps : List (Value × List Int), OwnV w B 41 A n c (ps.map (·.1)) ∧ ps.map (·.2) = xss ∧ Rows w B K ps := by
  obtain ⟨vs, h1, h2, h3⟩ := h.rows
  have hl : vs.length = xss.length := by rw [h1.len, h.len]
  refine ⟨vs.zip xss, by rw [List.map_fst_zip (by omega)]; exact h1, List.map_snd_zip (by omega), fun p hp => ?_, by rw [List.map_fst_zip (by omega)]; exact apartV_iff.2 h3⟩
  obtain ⟨j, hj, rfl⟩ := List.getElem_of_mem hp
  rw [List.length_zip] at hj
  rw [List.getElem_zip]
  exact h2 j _ _ (List.getElem?_eq_getElem (by omega)) (List.getElem?_eq_getElem (by omega))
theorem Rows.ownL {w : World} {B K n c : Nat} {A : Option Addr} {ps : List (Value × List Int)} (h : Rows w B K ps) (hv : OwnV w B 41 A n c (ps.map (·.1))) : OwnL w B K A n c (ps.map (·.2)) := by
  refine ⟨by have := hv.len; simpa using this, ps.map (·.1), hv, fun j v xs hj hx => ?_, apartV_iff.1 h.apart⟩
  rw [List.getElem?_map, Option.map_eq_some_iff] at hj hx
  obtain ⟨p, hp, rfl⟩ := hj
  obtain ⟨q, hq, rfl⟩ := hx
  rw [hp] at hq
  obtain rfl := Option.some.inj hq
  exact h.each p (List.mem_of_getElem? hp)
theorem Rows.sub {w : World} {B K : Nat} {ps qs : List (Value × List Int)} (h : Rows w B K ps) (hs : qs.Sublist ps) : Rows w B K qs := ⟨fun p hp => h.each p (hs.subset hp), h.apart.sublist (hs.map _)⟩
theorem Rows.perm {w : World} {B K : Nat} {ps qs : List (Value × List Int)} (h : Rows w B K ps) (hp : qs.Perm ps) : Rows w B K qs := ⟨fun p hh => h.each p (hp.subset hh), apartV_perm (hp.map _) h.apart⟩
theorem Rows.below {w w' : World} {B K : Nat} {ps : List (Value × List Int)} (h : Rows w B K ps) (hb : Below w.heap.size w w') : Rows w' B K ps :=
  ⟨fun p hp => (h.each p hp).grown (grown_of_below hb none) (by simp), h.apart⟩
theorem Rows.mono {w : World} {B B' K K' : Nat} {ps : List (Value × List Int)} (h : Rows w B K ps) (hb : B' ≤ B) (hk : K ≤ K') : Rows w B' K' ps := ⟨fun p hp => (h.each p hp).mono hb hk, h.apart⟩
/-- a row of lists is written: the lists stay -/
theorem Rows.row {w w' : World} {B K B2 n c : Nat} {A : Option Addr} {vs : List Value} {ps : List (Value × List Int)} (h : Rows w B K ps) (hv : OwnV w B2 41 A n c vs) (hg : w.grownBy w' (Value.ownBlock (.slice A n c))) : Rows w' B K ps :=
  ⟨fun p hp => (h.each p hp).grown hg fun g hgb e => kinds_ne (by decide) ((h.each p hp).kind g hgb) (hv.kind g e.symm) rfl, h.apart⟩
theorem Rows.cons {w : World} {B K n c : Nat} {A : Option Addr} {x : List Int} {ps : List (Value × List Int)} (h : Rows w B K ps) (hx : OwnS w K A n c x) (hBK : B ≤ K) : Rows w B w.heap.size ((.slice A n c, x) :: ps) := by
  have hk : ∀ g, Value.ownBlock (.slice A n c) = some g → K ≤ g ∧ g < w.heap.size := fun g hg => hx.own.lt g hg
  refine ⟨fun p hp => ?_, ?_⟩
  · rcases List.mem_cons.1 hp with rfl | hp
    · exact ⟨A, n, c, rfl, hx.mono hBK, fun g hg => (hk g hg).2⟩
    · obtain ⟨A', n', c', e, ho, hl⟩ := h.each p hp
      refine ⟨A', n', c', e, ho, fun g hg => ?_⟩
      have hl2 := ho.own.lt g (by rw [e] at hg; exact hg)
      exact hl2.2
  · refine List.pairwise_cons.2 ⟨fun v hv g hg hgv => ?_, h.apart⟩
    obtain ⟨p, hp, rfl⟩ := List.mem_map.1 hv
    obtain ⟨A', n', c', e, ho, hl⟩ := h.each p hp
    have := hl g hgv
    have := (hk g hg).1
    omega
theorem RdV.pre {w : World} {B n c k : Nat} {A : Option Addr} {vs : List Value} (h : RdV w B A n c vs) (hk : k ≤ n) : RdV w B A k c (vs.take k) := by
  refine ⟨by rw [List.length_take, h.len]; omega, Nat.le_trans hk h.cap, fun j hj => ?_⟩
  rw [List.length_take] at hj
  obtain ⟨ad, e, hb, hc⟩ := h.cell j (by omega)
  exact ⟨ad, e, hb, by rw [List.getElem_take]; exact hc⟩
theorem RdV.suf {w : World} {B n c m : Nat} {A : Option Addr} {vs : List Value} (h : RdV w B A n c vs) (hm : m ≤ n) : RdV w B (sufA A c m) (n - m) (c - m) (vs.drop m) := by
  refine ⟨by rw [List.length_drop, h.len], by have := h.cap; omega, fun j hj => ?_⟩
  rw [List.length_drop] at hj
  obtain ⟨ad, e, hb, hc⟩ := h.cell (m + j) (by omega)
  subst e
  have hcm : c ≠ m := by have := h.cap; have := h.len; omega
  refine ⟨ad.add m, by simp [sufA, hcm], by rw [block_of_add]; exact hb, ?_⟩
  rw [add_of_add, List.getElem_drop]
  exact hc

/-- where a list is put: behind all that are less -/
theorem insX_at {x : List Int} : ∀ {xss : List (List Int)} {k : Nat}, k ≤ xss.length → (∀ j, j < k → ∀ y, xss[j]? = some y → ltL y x = true) → (∀ y, xss[k]? = some y → ltL y x = false) →
    insX x xss = if xss[k]? = some x then xss.take k ++ xss.drop (k + 1) else xss.take k ++ x :: xss.drop k
  | [], k, hk, h1, h2 => by
    have : k = 0 := by simpa using hk
    subst this; simp [insX]
  | y :: s, 0, hk, h1, h2 => by
    have := h2 y rfl
    simp only [List.getElem?_cons_zero, Option.some.injEq, List.take_zero, List.nil_append, List.drop_zero, List.drop_succ_cons]
    rw [insX]
    rcases ltL_tri x y with h | h | h
    · rw [if_pos h, if_neg (fun e => by subst e; rw [ltL_irrefl] at h; cases h)]
    · subst h
      rw [ltL_irrefl, if_neg (by simp), if_neg (by simp), if_pos rfl]
    · rw [this] at h; cases h
  | y :: s, k + 1, hk, h1, h2 => by
    have hy := h1 0 (Nat.succ_pos _) y rfl
    have ih := insX_at (x := x) (xss := s) (k := k) (by simpa using hk) (fun j hj z hz => h1 (j + 1) (by omega) z (by simpa using hz)) (fun z hz => h2 z (by simpa using hz))
    rw [insX, if_neg (by rw [ltL_asymm hy]; simp), if_pos hy, ih]
    simp only [List.getElem?_cons_succ, List.take_succ_cons, List.drop_succ_cons, List.cons_append]
    split <;> rfl
end Go.Proofs.YtoodhbafleemjaaGreat

/- The walk of spec.l01Put. -/
namespace Go.Proofs.YtoodhbafleemjaaGreat
open Go.RowKit
set_option linter.unusedVariables false

theorem run_preL (A : Option Addr) (n c k : Nat) (hk : k ≤ c) (W : World) : (Instr.sliceAt 24 (.slice A n c) Option.none (some (.int .i64 (k : Int))) Option.none).run Tryz.prog W = .ok (.slice A k c) W := by
  have h : (k : Int) ≤ (c : Int) := by omega
  have e : A.map (·.add 0) = A := by cases A <;> simp [addr_add_zero]
  simp [go_sem, Tryz.underlying24, h, sliced]
theorem run_sufL (A : Option Addr) (n c m : Nat) (hm : m ≤ n) (W : World) : (Instr.sliceAt 24 (.slice A n c) (some (.int .i64 (m : Int))) Option.none Option.none).run Tryz.prog W = .ok (.slice (sufA A c m) (n - m) (c - m)) W := by
  have h : (m : Int) ≤ (n : Int) := by omega
  simp only [sufA]
  cases A with
  | none => simp [go_sem, Tryz.underlying24, h, sliced]
  | some ad =>
    by_cases hc : c = m
    · simp [go_sem, Tryz.underlying24, h, sliced, hc]
    · simp [go_sem, Tryz.underlying24, h, sliced, hc]
theorem run_sufL' (A : Option Addr) (n c k : Nat) (hm : k + 1 ≤ n) (W : World) : (Instr.sliceAt 24 (.slice A n c) (some (.int .i64 ((k : Int) + 1))) Option.none Option.none).run Tryz.prog W = .ok (.slice (sufA A c (k + 1)) (n - (k + 1)) (c - (k + 1))) W := by
  have h := run_sufL A n c (k + 1) hm W
  have e : ((k + 1 : Nat) : Int) = (k : Int) + 1 := by omega
  rw [e] at h
  exact h
theorem OwnV.heap {w w' : World} {B E n c : Nat} {A : Option Addr} {vs : List Value} (h : OwnV w B E A n c vs) (e : w'.heap = w.heap) : OwnV w' B E A n c vs := ⟨h.len, by have := h.own; unfold World.ownsRow at this ⊢; rw [e]; exact this⟩
theorem RdV.heap {w w' : World} {B n c : Nat} {A : Option Addr} {vs : List Value} (h : RdV w B A n c vs) (e : w'.heap = w.heap) : RdV w' B A n c vs := ⟨h.len, h.cap, fun j hj => by
  obtain ⟨ad, h1, h2, h3⟩ := h.cell j hj
  exact ⟨ad, h1, h2, by rw [World.cell?_of_block (w := w) (by rw [e])]; exact h3⟩⟩
theorem step_of_wp {w : World} {ops : Array Oper} {o : Oper} {a : Act} {K : Act → World → Prop} {Q : Exit → Act → World → Prop} {E9 : Prop} (hgd : o.guard = none) (h : Oper.wp Tryz.prog o a w K Q) :
    if Region.wanted o (yielded ops a.tmps) = true then Oper.wp Tryz.prog o a w K Q else E9 := by
  have hw : Region.wanted o (yielded ops a.tmps) = true := by simp [Region.wanted, hgd]
  rw [if_pos hw]
  exact h

/-- the lists ys, of one's own from B on -/
def RetOL (B : Nat) (ys : List (List Int)) (w : World) (e : Ending) (w' : World) : Prop := ∃ A c, e = .returned (.slice A ys.length c) ∧ OwnL w' B w'.heap.size A ys.length c ys ∧ Below w.heap.size w w'
theorem RetOL.mk {B m n c : Nat} {A : Option Addr} {ys zs : List (List Int)} {w w' : World} (h : OwnL w' B w'.heap.size A m c zs) (hz : zs = ys) (hb : Below w.heap.size w w') (hm : n = m) : RetOL B ys w (.returned (.slice A n c)) w' := by
  subst hz; subst hm
  obtain rfl := h.len
  exact ⟨A, c, rfl, h, hb⟩
theorem one_of {v : Value} {x : List Int} {w : World} {B K : Nat} (h : OwnVal w B K v x) : v.oneCell' = true := by obtain ⟨A, n, c, rfl, _⟩ := h; rfl

theorem ownV_one (w : World) (v : Value) (E : TypeId) : OwnV (w.alloc (.cells #[v] E)) w.heap.size E (some ⟨w.heap.size, 0, none⟩) 1 1 [v] :=
  ⟨rfl, ⟨by simp, .inr ⟨w.heap.size, 1, #[v], rfl, Nat.le_refl _, heap_alloc_new w _, Nat.le_refl _, by decide, by simp, by simp⟩⟩⟩
set_option maxRecDepth 100000 in
set_option maxHeartbeats 1000000 in
theorem put_any (A A2 : Option Addr) (n c n2 c2 B K : Nat) (xss : List (List Int)) (x : List Int) (w : World) (h : OwnL w B K A n c xss) (hBK : B ≤ K) (hK : K ≤ w.heap.size) (hr : RdS w w.heap.size A2 n2 c2 x) (hn : n ≤ 1000000000) (hn2 : n2 ≤ 1000000000) (hx : ∀ y ∈ xss, y.length ≤ 1000000000) :
    Calls Tryz.prog 106 #[.slice A n c, .slice A2 n2 c2] w (RetOL B (insX x xss) w) := by
  obtain ⟨ps, hv, hps, hrow⟩ := h.pairs
  have HV := Lib.hid hv
  have HPS := Lib.hid hps
  have HROW := Lib.hid hrow
  have HRD := Lib.hid h.rd
  have HL := Lib.hid h.len
  have HR := Lib.hid hr
  have HX := Lib.hid hx
  have hcap := h.cap
  obtain ⟨R, hR⟩ : ∃ R, R = RetOL B (insX x xss) w := ⟨_, rfl⟩
  have HRR := Lib.hid hR
  rw [← hR]
  have hpl : ps.length = n := by rw [← h.len, ← hps, List.length_map]
  have HPL := Lib.hid hpl
  clear h hv hps hrow hr hx hR hpl
  go_enter Tryz.func106, Tryz.ntmps106
  go_wp2_with fail
  go_loopw [5] (fun i wr => ∃ k : Nat, k ≤ n ∧ i = .int .i64 k ∧ Hid (∀ j, j < k → ∀ y, xss[j]? = some y → ltL y x = true) ∧ ∃ q, wr = w.drewN q) (fun i _ => n - (intOf i).toNat)
  case atStart => exact ⟨0, Nat.zero_le _, rfl, Lib.hid (fun j hj => absurd hj (by omega)), 0, rfl⟩
  case round =>
    obtain ⟨k, hk, rfl, HP, q, rfl⟩ := hrel
    by_cases hlt : k < n
    · obtain ⟨ad, A3, n3, c3, y, rfl, hbk, hy, hcy, hr3⟩ := HRD.out.at_ hlt
      have hcy' : (w.drewN q).cell? (ad.add k) = some (.slice A3 n3 c3) := hcy
      have hn3 : n3 ≤ 1000000000 := by rw [← hr3.len]; exact HX.out y (List.mem_of_getElem? hy.out)
      have HC1 := Lib.hid (less_any A3 A2 c3 c2 n3 n2 _ _ y x (w.drewN q) (hr3.drewN q) (HR.out.drewN q) (by omega) (by omega))
      have HR3 := Lib.hid hr3
      obtain ⟨t, ht⟩ : ∃ t, t = ltL y x := ⟨_, rfl⟩
      have HT := Lib.hid ht
      rw [← ht] at HC1
      clear ht hr3 hcy
      cases t
      · go_wp2_with fail
        refine HC1.out.mono ?_
        rintro e w1 ⟨rfl, q1, hw1⟩
        obtain ⟨q2, hq2⟩ : ∃ q2, w1 = w.drewN q2 := by rw [hw1]; exact (by first | exact ⟨_, rfl⟩ | exact ⟨_, World.drewN_drewN _ _ _⟩ | (simp only [World.drewN_drewN]; exact ⟨_, rfl⟩))
        subst hq2
        have hcy2 : (w.drewN q2).cell? (ad.add k) = some (.slice A3 n3 c3) := hcy'
        clear hw1 hcy'
        have HC2 := Lib.hid (same_any A3 A2 c3 c2 n3 n2 _ _ y x (w.drewN q2) (HR3.out.drewN q2) (HR.out.drewN q2) (by omega) (by omega))
        have HI := insX_at (x := x) (xss := xss) (k := k) (by rw [HL.out]; exact hk) HP.out (fun z hz => by rw [hy.out] at hz; obtain rfl := Option.some.inj hz; exact HT.out.symm)
        rw [hy.out] at HI
        by_cases hxy : y = x
        · rw [if_pos (by rw [hxy])] at HI
          have HI := Lib.hid HI
          rw [decide_eq_true hxy] at HC2
          clear hxy
          go_wp2_with fail
          refine HC2.out.mono ?_
          rintro e w3 ⟨rfl, q3, hw3⟩
          obtain ⟨q4, hq4⟩ : ∃ q4, w3 = w.drewN q4 := by rw [hw3]; exact (by first | exact ⟨_, rfl⟩ | exact ⟨_, World.drewN_drewN _ _ _⟩ | (simp only [World.drewN_drewN]; exact ⟨_, rfl⟩))
          subst hq4
          clear hw3
          go_wp2_with fail
          have hp1 := fun W : World => run_preL (some ad) n c k (by omega) W
          have hs1 := fun W : World => run_sufL' (some ad) n c k (by omega) W
          have hwi : IntKind.i64.wrap ((k : Int) + 1) = (k : Int) + 1 := by rw [IntKind.wrap_i64]; omega
          have ba := (Below.refl w.heap.size w).alloc (Nat.le_refl _) (.cells #[] 41)
          have BA := Lib.hid ba
          have E1 := Lib.hid (ownV_empty w w.heap.size 41 (Nat.le_refl _))
          have P1 := Lib.hid ((HV.out.rd.pre hk).below ba)
          have P2 := Lib.hid (HV.out.rd.suf (m := k + 1) (by omega))
          have O1 := Lib.hid (show ∀ u ∈ ps.map (·.1), u.oneCell' = true from fun u hu => by obtain ⟨p, hp, rfl⟩ := List.mem_map.1 hu; exact one_of (HROW.out.each p hp))
          clear ba
          go_region_held3 (fun w' => 0 ≤ w'.heap.size) (exact Nat.zero_le _)
            (first
              | (rw [if_pos]
                 rotate_left
                 · rfl
                 refine wp_appV eltL (.tmp 33) (.tmp 36) rfl rfl rfl (E1.out.heap rfl) (P1.out.heap rfl) (fun u hu => O1.out u (List.mem_of_mem_take hu)) (by omega) (by decide) (Nat.le_of_lt (E1.out.lt rfl).2) ?_
                 intro A7 c7 w7 hv7 hg7 _
                 have V7 := Lib.hid hv7
                 have B7 : Hid (Below w.heap.size w w7) := Lib.hid (((below_drewN (Below.refl w.heap.size w) (q4 + 1)).alloc (Nat.le_refl _) (.cells #[] 41)).grown hg7 (Nat.le_of_lt (E1.out.lt rfl).2) E1.out.row)
                 clear hv7 hg7)
              | (rw [if_pos]
                 rotate_left
                 · rfl
                 refine wp_appV eltL (.tmp 37) (.tmp 41) rfl rfl rfl V7.out (P2.out.below B7.out) (fun u hu => O1.out u (List.mem_of_mem_drop hu)) (by omega) (by decide) B7.out.size ?_
                 intro A8 c8 w8 hv8 hg8 _
                 have V8 := Lib.hid hv8
                 have B8 := Lib.hid (B7.out.grown hg8 B7.out.size V7.out.row)
                 clear hv8 hg8))
          have hqs : (ps.take k ++ ps.drop (k + 1)).Sublist ps := by
            conv => rhs; rw [← List.take_append_drop k ps]
            refine List.Sublist.append (List.Sublist.refl _) ?_
            rw [← List.drop_drop]
            exact List.drop_sublist 1 _
          have R8 := ((HROW.out.sub hqs).below B8.out).mono (Nat.le_refl _) (Nat.le_trans hK B8.out.size)
          have V9 := V8.out.mono (Nat.le_trans hBK hK)
          rw [show [] ++ (ps.map (·.1)).take k ++ (ps.map (·.1)).drop (k + 1) = (ps.take k ++ ps.drop (k + 1)).map (·.1) from by simp [List.map_take, List.map_drop]] at V9
          have L8 := Lib.hid (R8.ownL V9)
          clear R8 V9 hqs hp1 hs1 hwi
          go_wp2_with fail
          rw [HRR.out]
          exact RetOL.mk L8.out (by rw [HI.out, ← HPS.out]; simp [List.map_take, List.map_drop]) B8.out (by omega)
        · rw [if_neg (fun e => hxy (Option.some.inj e))] at HI
          have HI := Lib.hid HI
          rw [decide_eq_false hxy] at HC2
          clear hxy
          go_wp2_with fail
          refine HC2.out.mono ?_
          rintro e w3 ⟨rfl, q3, hw3⟩
          obtain ⟨q4, hq4⟩ : ∃ q4, w3 = w.drewN q4 := by rw [hw3]; exact (by first | exact ⟨_, rfl⟩ | exact ⟨_, World.drewN_drewN _ _ _⟩ | (simp only [World.drewN_drewN]; exact ⟨_, rfl⟩))
          subst hq4
          clear hw3
          go_wp2_with fail
          have hs1 := fun W : World => run_sufL (some ad) n c k hk W
          have hp1 := fun W : World => run_preL (some ad) n c k (by omega) W
          have HOwn := fun (W : World) (hW : Below w.heap.size w W) => Lib.hid (own_st A2 n2 c2 _ x W (HR.out.below hW) hW.size (by omega))
          have O1 := Lib.hid (show ∀ u ∈ ps.map (·.1), u.oneCell' = true from fun u hu => by obtain ⟨p, hp, rfl⟩ := List.mem_map.1 hu; exact one_of (HROW.out.each p hp))
          go_region_held3 (fun w' => 0 ≤ w'.heap.size) (exact Nat.zero_le _)
            (first
              | (go_at_call 131
                 refine (HOwn _ (below_drewN (Below.refl _ _) _)).out.mono ?_
                 rintro e w5 ⟨A5, c5, rfl, ho5, hb5⟩
                 have B5 : Hid (Below w.heap.size w w5) := Lib.hid ((below_drewN (Below.refl w.heap.size w) (q4 + 1)).trans hb5)
                 have O5 : Hid (OwnS w5 w.heap.size A5 n2 c5 x) := Lib.hid ho5
                 have E45 := Lib.hid (ownV_one w5 (.slice A5 n2 c5) 41)
                 have B5a := Lib.hid (B5.out.alloc B5.out.size (.cells #[.slice A5 n2 c5] 41))
                 have P48 := Lib.hid ((HV.out.rd.suf (m := k) hk).below B5a.out)
                 clear ho5 hb5)
              | (rw [if_pos]
                 rotate_left
                 · rfl
                 refine wp_appV eltL (.tmp 45) (.tmp 48) rfl rfl rfl E45.out P48.out (fun u hu => O1.out u (List.mem_of_mem_drop hu)) (by omega) (by decide) (Nat.le_of_lt (E45.out.lt rfl).2) ?_
                 intro A6 c6 w6 hv6 hg6 _
                 have V6 := Lib.hid hv6
                 have B6 := Lib.hid (B5a.out.grown hg6 B5a.out.size (fun g hg => Nat.le_trans B5.out.size (E45.out.row g hg)))
                 have G6 : Hid (Below w5.heap.size w5 w6) := Lib.hid (((Below.refl w5.heap.size w5).alloc (Nat.le_refl _) _).grown hg6 (Nat.le_of_lt (E45.out.lt rfl).2) E45.out.row)
                 clear hv6 hg6))
          have E50 := Lib.hid (ownV_empty w6 w6.heap.size 41 (Nat.le_refl _))
          have B6a := Lib.hid (B6.out.alloc B6.out.size (.cells #[] 41))
          have G6a := Lib.hid ((Below.refl w6.heap.size w6).alloc (Nat.le_refl _) (.cells #[] 41))
          have P53 := Lib.hid ((HV.out.rd.pre hk).below B6a.out)
          have V6r := Lib.hid V6.out.rd
          have one6 := Lib.hid (show ∀ u ∈ [Value.slice A5 n2 c5] ++ (ps.map (·.1)).drop k, u.oneCell' = true from fun u hu => by
            rcases List.mem_append.1 hu with hu | hu
            · rw [List.mem_singleton.1 hu]; rfl
            · exact O1.out u (List.mem_of_mem_drop hu))
          go_wp2_with (first
            | (at_builtin; refine wpList_appV eltL rfl (.tmp 50) (.tmp 53) rfl rfl rfl E50.out P53.out (fun u hu => O1.out u (List.mem_of_mem_take hu)) (by omega) (by decide) (Nat.le_of_lt (E50.out.lt rfl).2) ?_; intro A7 c7 w7 hv7 hg7 _; rw [Nat.zero_add, List.nil_append] at hv7; have V7 := Lib.hid hv7; have B7 := Lib.hid (B6a.out.grown hg7 B6a.out.size (fun g hg => Nat.le_trans B6.out.size (E50.out.row g hg))); have G7 := Lib.hid (G6a.out.grown hg7 (Nat.le_of_lt (E50.out.lt rfl).2) E50.out.row); clear hv7 hg7)
            | (at_builtin; refine wpList_appV eltL rfl (.tmp 54) (.tmp 55) rfl rfl rfl V7.out (V6r.out.below G7.out) one6.out (by omega) (by decide) G7.out.size ?_; intro A8 c8 w8 hv8 hg8 _; have V8 := Lib.hid hv8; have B8 := Lib.hid (B7.out.grown hg8 B7.out.size (fun g hg => Nat.le_trans B6.out.size (V7.out.row g hg))); have G8 := Lib.hid (G7.out.grown hg8 G7.out.size V7.out.row); clear hv8 hg8))
          have R5 := ((HROW.out.below B5.out).cons (O5.out.mono hK) hBK).below (G6.out.trans (G8.out.mono G6.out.size))
          have R8 := (R5.perm (qs := ps.take k ++ (.slice A5 n2 c5, x) :: ps.drop k) (by
            refine List.perm_middle.trans ?_
            rw [List.take_append_drop])).mono (Nat.le_refl _) (Nat.le_trans G6.out.size G8.out.size)
          have V9 := V8.out.mono (Nat.le_trans hBK (Nat.le_trans hK B6.out.size))
          rw [show (ps.map (·.1)).take k ++ ([Value.slice A5 n2 c5] ++ (ps.map (·.1)).drop k) = (ps.take k ++ (.slice A5 n2 c5, x) :: ps.drop k).map (·.1) from by simp [List.map_take, List.map_drop]] at V9
          have L8 := R8.ownL V9
          rw [HRR.out]
          exact RetOL.mk L8 (by rw [HI.out, ← HPS.out]; simp [List.map_take, List.map_drop]) B8.out (by omega)
      · go_wp2_with fail
        refine HC1.out.mono ?_
        rintro e w1 ⟨rfl, q1, rfl⟩
        go_wp2_with fail
        go_roundw
        case rel => exact ⟨k + 1, by omega, by go_num, Lib.hid (fun j hj z hz => by
          rcases Nat.lt_succ_iff_lt_or_eq.1 hj with h | rfl
          · exact HP.out j h z hz
          · rw [hy.out] at hz
            obtain rfl := Option.some.inj hz
            exact HT.out.symm), (by first | exact ⟨_, rfl⟩ | exact ⟨_, World.drewN_drewN _ _ _⟩ | (simp only [World.drewN_drewN]; exact ⟨_, rfl⟩))⟩
        case measure => simp [intOf]; omega
    · have HKN := Lib.hid (show n ≤ k by omega)
      have HI := insX_at (x := x) (xss := xss) (k := k) (by rw [HL.out]; exact hk) HP.out (fun z hz => by rw [List.getElem?_eq_none (by rw [HL.out]; exact HKN.out)] at hz; cases hz)
      rw [List.getElem?_eq_none (by rw [HL.out]; exact HKN.out), if_neg (by simp)] at HI
      have HI := Lib.hid HI
      go_wp2_with fail
      have hs1 := fun W : World => run_sufL A n c k hk W
      have hp1 := fun W : World => run_preL A n c k (by omega) W
      have HOwn := fun (W : World) (hW : Below w.heap.size w W) => Lib.hid (own_st A2 n2 c2 _ x W (HR.out.below hW) hW.size (by omega))
      have O1 := Lib.hid (show ∀ u ∈ ps.map (·.1), u.oneCell' = true from fun u hu => by obtain ⟨p, hp, rfl⟩ := List.mem_map.1 hu; exact one_of (HROW.out.each p hp))
      go_region_held3 (fun w' => 0 ≤ w'.heap.size) (exact Nat.zero_le _)
        (first
          | (go_at_call 131
             refine (HOwn _ (below_drewN (Below.refl _ _) _)).out.mono ?_
             rintro e w5 ⟨A5, c5, rfl, ho5, hb5⟩
             have B5 : Hid (Below w.heap.size w w5) := Lib.hid ((below_drewN (Below.refl w.heap.size w) (q + 1)).trans hb5)
             have O5 : Hid (OwnS w5 w.heap.size A5 n2 c5 x) := Lib.hid ho5
             have E45 := Lib.hid (ownV_one w5 (.slice A5 n2 c5) 41)
             have B5a := Lib.hid (B5.out.alloc B5.out.size (.cells #[.slice A5 n2 c5] 41))
             have P48 := Lib.hid ((HV.out.rd.suf (m := k) hk).below B5a.out)
             clear ho5 hb5)
          | (rw [if_pos]
             rotate_left
             · rfl
             refine wp_appV eltL (.tmp 45) (.tmp 48) rfl rfl rfl E45.out P48.out (fun u hu => O1.out u (List.mem_of_mem_drop hu)) (by omega) (by decide) (Nat.le_of_lt (E45.out.lt rfl).2) ?_
             intro A6 c6 w6 hv6 hg6 _
             have V6 := Lib.hid hv6
             have B6 := Lib.hid (B5a.out.grown hg6 B5a.out.size (fun g hg => Nat.le_trans B5.out.size (E45.out.row g hg)))
             have G6 : Hid (Below w5.heap.size w5 w6) := Lib.hid (((Below.refl w5.heap.size w5).alloc (Nat.le_refl _) _).grown hg6 (Nat.le_of_lt (E45.out.lt rfl).2) E45.out.row)
             clear hv6 hg6))
      have E50 := Lib.hid (ownV_empty w6 w6.heap.size 41 (Nat.le_refl _))
      have B6a := Lib.hid (B6.out.alloc B6.out.size (.cells #[] 41))
      have G6a := Lib.hid ((Below.refl w6.heap.size w6).alloc (Nat.le_refl _) (.cells #[] 41))
      have P53 := Lib.hid ((HV.out.rd.pre hk).below B6a.out)
      have V6r := Lib.hid V6.out.rd
      have one6 := Lib.hid (show ∀ u ∈ [Value.slice A5 n2 c5] ++ (ps.map (·.1)).drop k, u.oneCell' = true from fun u hu => by
        rcases List.mem_append.1 hu with hu | hu
        · rw [List.mem_singleton.1 hu]; rfl
        · exact O1.out u (List.mem_of_mem_drop hu))
      go_wp2_with (first
        | (at_builtin; refine wpList_appV eltL rfl (.tmp 50) (.tmp 53) rfl rfl rfl E50.out P53.out (fun u hu => O1.out u (List.mem_of_mem_take hu)) (by omega) (by decide) (Nat.le_of_lt (E50.out.lt rfl).2) ?_; intro A7 c7 w7 hv7 hg7 _; rw [Nat.zero_add, List.nil_append] at hv7; have V7 := Lib.hid hv7; have B7 := Lib.hid (B6a.out.grown hg7 B6a.out.size (fun g hg => Nat.le_trans B6.out.size (E50.out.row g hg))); have G7 := Lib.hid (G6a.out.grown hg7 (Nat.le_of_lt (E50.out.lt rfl).2) E50.out.row); clear hv7 hg7)
        | (at_builtin; refine wpList_appV eltL rfl (.tmp 54) (.tmp 55) rfl rfl rfl V7.out (V6r.out.below G7.out) one6.out (by omega) (by decide) G7.out.size ?_; intro A8 c8 w8 hv8 hg8 _; have V8 := Lib.hid hv8; have B8 := Lib.hid (B7.out.grown hg8 B7.out.size (fun g hg => Nat.le_trans B6.out.size (V7.out.row g hg))); have G8 := Lib.hid (G7.out.grown hg8 G7.out.size V7.out.row); clear hv8 hg8))
      have R5 := ((HROW.out.below B5.out).cons (O5.out.mono hK) hBK).below (G6.out.trans (G8.out.mono G6.out.size))
      have R8 := (R5.perm (qs := ps.take k ++ (.slice A5 n2 c5, x) :: ps.drop k) (by
        refine List.perm_middle.trans ?_
        rw [List.take_append_drop])).mono (Nat.le_refl _) (Nat.le_trans G6.out.size G8.out.size)
      have V9 := V8.out.mono (Nat.le_trans hBK (Nat.le_trans hK B6.out.size))
      rw [show (ps.map (·.1)).take k ++ ([Value.slice A5 n2 c5] ++ (ps.map (·.1)).drop k) = (ps.take k ++ (.slice A5 n2 c5, x) :: ps.drop k).map (·.1) from by simp [List.map_take, List.map_drop]] at V9
      have L8 := R8.ownL V9
      rw [HRR.out]
      exact RetOL.mk L8 (by rw [HI.out, ← HPS.out]; simp [List.map_take, List.map_drop]) B8.out (by omega)
end Go.Proofs.YtoodhbafleemjaaGreat
