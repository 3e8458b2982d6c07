/- Elements in Milnor's basis on both sides: isExponents, degree, areTerms, IsMilnor; l01Exponents, l01Degree, l04Is. -/
import Derived.Test.YtejlkobieohgfaaIsSq
namespace Go.Proofs.Ytejlkobieohgfaa
open Go.RowKit
set_option linter.unusedVariables false

def numB (xs : List Int) : Bool := xs.all fun x => inB x 0 1000000000000
def endB (xs : List Int) : Bool := decide (xs.length = 0) || decide (xs[xs.length - 1]?.getD 0 ≠ 0)
/-- an exponent list -/
def expB (xs : List Int) : Bool := decide (xs.length ≤ 10) && numB xs && endB xs
/-- the degree of an exponent list, as both sides reckon it -/
def dxT (xs : List Int) : Nat → Int
  | 0 => 0
  | k + 1 => wrap64 (dxT xs k + wrap64 (xs[k]?.getD 0 * (2 ^ (k + 1) - 1)))
def degX (xs : List Int) : Int := dxT xs xs.length
def milB (xs : List Int) : Bool := expB xs && decide (degX xs ≤ 40)
theorem isNumber_any (n : Int) (w : World) : Calls Try.prog 191 #[.int .i64 n] w (RetP (inB n 0 1000000000000) w) := by
  go_enter Try.func191, Try.ntmps191
  go_wp2_with fail
  refine (in_any _ _ _ _).mono ?_
  rintro e w' ⟨rfl, rfl⟩
  go_wp2_with fail
  go_ret
  exact RetP.mk rfl
theorem numAll_any (A : Option Addr) (n c : Nat) (xs : List Int) (w : World) (h : RdS w w.heap.size A n c xs) (hn : n ≤ 2000000) :
    Calls Try.prog 113 #[.slice A n c, .func (.func 191) #[] #[]] w (RetBb (numB xs) w) := by
  have hl := h.len
  refine (allI_any A n c xs _ _ _ w h hn (cond_of (fun x => inB x 0 1000000000000) (enters_of Try.func191 (by kernel_rfl) rfl) isNumber_any xs w)).mono ?_
  intro e w' hw
  rw [all_range xs (fun x => inB x 0 1000000000000) _ n hl (fun j hj => by simp [List.getElem?_eq_getElem hj])] at hw
  exact hw
theorem expB_long {xs : List Int} (h : ¬ xs.length ≤ 10) : expB xs = false := by unfold expB; rw [decide_eq_false h]; rfl
theorem expB_num {xs : List Int} (h : numB xs = false) : expB xs = false := by unfold expB; rw [h]; simp
theorem expB_end {xs : List Int} (h : xs.length ≤ 10) (hn : numB xs = true) : expB xs = endB xs := by unfold expB; rw [hn, decide_eq_true h]; rfl
theorem endB_nil {xs : List Int} (h : xs.length = 0) : endB xs = true := by unfold endB; rw [decide_eq_true h]; rfl
theorem endB_last {xs : List Int} {n : Nat} {y : Int} (hl : xs.length = n) (h : 0 < n) (hy : xs[n - 1]? = some y) : endB xs = decide (y ≠ 0) := by
  unfold endB
  rw [decide_eq_false (by omega), hl, hy]; rfl
theorem isExp_any (A : Option Addr) (n c : Nat) (xs : List Int) (w : World) (h : RdS w w.heap.size A n c xs) (hn : n ≤ 2000000) :
    Calls Try.prog 169 #[.slice A n c] w (RetBb (expB xs) w) := by
  have Hl := Lib.hid h.len
  have H := Lib.hid h; clear h
  obtain ⟨R, hR⟩ : ∃ R, R = RetBb (expB xs) w := ⟨_, rfl⟩
  have HR := Lib.hid hR
  rw [← hR]
  clear hR
  by_cases h7 : n ≤ 10
  · have C := Lib.hid (numAll_any A n c xs w H.out (by omega))
    cases hf : numB xs
    · have HV := Lib.hid (expB_num hf)
      rw [hf] at C
      clear hf
      go_enter Try.func169, Try.ntmps169
      go_wp2_with fail
      refine C.out.mono ?_
      rintro e w1 ⟨rfl, hb1⟩
      have X1 := Lib.hid hb1; clear hb1
      go_wp2_with fail
      rw [HR.out]
      exact RetBb.mk HV.out.symm X1.out
    · have HV := Lib.hid (expB_end (by rw [Hl.out]; exact h7) hf)
      rw [hf] at C
      clear hf
      by_cases h0 : n = 0
      · subst h0
        have HE := Lib.hid (endB_nil Hl.out)
        go_enter Try.func169, Try.ntmps169
        go_wp2_with fail
        refine C.out.mono ?_
        rintro e w1 ⟨rfl, hb1⟩
        have X1 := Lib.hid hb1; clear hb1
        go_wp2_with fail
        rw [HR.out]
        exact RetBb.mk (by rw [HV.out, HE.out]) X1.out
      · obtain ⟨p, hp⟩ : ∃ p, p = n - 1 := ⟨_, rfl⟩
        have HZ := fun (W : World) (hB : Below w.heap.size w W) => (H.out.below hB).at_ (k := p) (by omega)
        have hwp : IntKind.i64.wrap ((n : Int) - 1) = (p : Int) := by rw [IntKind.wrap_i64]; omega
        have hpn : (p : Int) < (n : Int) := by omega
        have hp0 : (0 : Int) ≤ (p : Int) := by omega
        have hne1 : ((n : Int) == 0) = false := by simp; omega
        have hne2 : ¬ ((n : Int) = 0) := by omega
        have hne3 : (n == 0) = false := by simp; omega
        have hnn : n - 1 < n := by omega
        have HP := Lib.hid hp
        have HN0 := Lib.hid (show 0 < n from by omega)
        clear hp h0
        go_enter Try.func169, Try.ntmps169
        go_wp2_with fail
        refine C.out.mono ?_
        rintro e w1 ⟨rfl, hb1⟩
        have X1 := Lib.hid hb1
        obtain ⟨ad, y, rfl, _, hy, hcy⟩ := HZ w1 hb1
        have hcy2 : w1.cell? (ad.add (n - 1)) = some (.int .i64 y) := by rw [← HP.out]; exact hcy
        have HE := Lib.hid (endB_last Hl.out HN0.out (by rw [← HP.out]; exact hy.out))
        clear hb1 hy
        go_wp2_with fail
        rw [HR.out]
        exact RetBb.mk (by rw [HV.out, HE.out]; by_cases e : y = 0 <;> simp [e]) X1.out
  · have HV := Lib.hid (expB_long (by rw [Hl.out]; exact h7))
    go_enter Try.func169, Try.ntmps169
    go_wp2_with fail
    rw [HR.out]
    exact RetBb.mk HV.out.symm (Below.refl _ _)

theorem impl.degree_any (A : Option Addr) (n c B : Nat) (xs : List Int) (w : World) (h : RdS w B A n c xs) (hn : n ≤ 10) :
    Calls Try.prog 147 #[.slice A n c] w (RetI (degX xs) w) := by
  have H := Lib.hid h
  have HV := Lib.hid (show degX xs = dxT xs n from by unfold degX; rw [h.len])
  obtain ⟨R, hR⟩ : ∃ R, R = RetI (degX xs) w := ⟨_, rfl⟩
  have HR := Lib.hid hR
  rw [← hR]
  clear h hR
  go_enter Try.func147, Try.ntmps147
  go_wp2_with fail
  go_loop [3, 8] (fun t i => ∃ (k : Nat) (s : Int), k ≤ n ∧ i = .int .i64 k ∧ t = .int .i64 s ∧ Hid (s = dxT xs k)) (fun _ i => n - (intOf i).toNat)
  case atStart => exact ⟨0, 0, Nat.zero_le _, rfl, rfl, Lib.hid rfl⟩
  case round =>
    obtain ⟨k, s, hk, rfl, rfl, HS⟩ := hrel
    by_cases hlt : k < n
    · obtain ⟨ad, x, rfl, _, hx, hc⟩ := H.out.at_ hlt
      obtain ⟨j, hj⟩ : ∃ j, j = k + 1 := ⟨_, rfl⟩
      have hwk : IntKind.i64.wrap ((k : Int) + 1) = (j : Int) := by rw [IntKind.wrap_i64]; omega
      have hwk2 : (k : Int) + 1 = (j : Int) := by omega
      have hj64 : (j : Int) < 64 := by omega
      have hj0 : (0 : Int) ≤ (j : Int) := by omega
      have hlt' : (k : Int) < (n : Int) := by omega
      have hk0 : (0 : Int) ≤ (k : Int) := by omega
      obtain ⟨p, hp⟩ : ∃ p : Nat, p = 2 ^ j := ⟨_, rfl⟩
      have hpb : p < 131072 := by
        have h2 : (2 : Nat) ^ j ≤ 2 ^ 16 := Nat.pow_le_pow_right (by decide) (by omega)
        have e : (2 : Nat) ^ 16 = 65536 := by decide
        rw [e, ← hp] at h2
        omega
      have hpi : (2 : Int) ^ j = (p : Int) := by rw [hp]; push_cast; rfl
      have hw2 : wrap64 ((2 : Int) ^ j) = (p : Int) := by rw [hpi]; unfold wrap64; omega
      have hw3 : IntKind.i64.wrap ((p : Int) - 1) = (p : Int) - 1 := by rw [IntKind.wrap_i64]; omega
      have HX := Lib.hid (show wrap64 (s + wrap64 (x * ((p : Int) - 1))) = dxT xs (k + 1) from by
        rw [dxT, ← HS.out, hx.out, ← hj, hpi]; rfl)
      clear hx HS hj hp hpi
      go_wp2_with fail
      go_round
      case rel => exact ⟨k + 1, wrap64 (s + wrap64 (x * ((p : Int) - 1))), by omega, by go_num, rfl, HX⟩
      case measure => simp [intOf]; omega
    · obtain rfl : k = n := by omega
      go_wp2_with fail
      rw [HR.out]
      exact RetI.mk (y := s) (by rw [HV.out, HS.out])
theorem spec.l01Degree_any (A : Option Addr) (n c B : Nat) (xs : List Int) (w : World) (h : RdS w B A n c xs) (hn : n ≤ 10) :
    Calls Try.prog 105 #[.slice A n c] w (RetI (degX xs) w) := by
  have H := Lib.hid h
  have HV := Lib.hid (show degX xs = dxT xs n from by unfold degX; rw [h.len])
  obtain ⟨R, hR⟩ : ∃ R, R = RetI (degX xs) w := ⟨_, rfl⟩
  have HR := Lib.hid hR
  rw [← hR]
  clear h hR
  go_enter Try.func105, Try.ntmps105
  go_wp2_with fail
  go_loop [3, 4] (fun t i => ∃ (k : Nat) (s : Int), k ≤ n ∧ i = .int .i64 k ∧ t = .int .i64 s ∧ Hid (s = dxT xs k)) (fun _ i => n - (intOf i).toNat)
  case atStart => exact ⟨0, 0, Nat.zero_le _, rfl, rfl, Lib.hid rfl⟩
  case round =>
    obtain ⟨k, s, hk, rfl, rfl, HS⟩ := hrel
    by_cases hlt : k < n
    · obtain ⟨ad, x, rfl, _, hx, hc⟩ := H.out.at_ hlt
      obtain ⟨j, hj⟩ : ∃ j, j = k + 1 := ⟨_, rfl⟩
      have hwk : IntKind.i64.wrap ((k : Int) + 1) = (j : Int) := by rw [IntKind.wrap_i64]; omega
      have hwk2 : (k : Int) + 1 = (j : Int) := by omega
      have hj64 : (j : Int) < 64 := by omega
      have hj0 : (0 : Int) ≤ (j : Int) := by omega
      have hlt' : (k : Int) < (n : Int) := by omega
      have hk0 : (0 : Int) ≤ (k : Int) := by omega
      obtain ⟨p, hp⟩ : ∃ p : Nat, p = 2 ^ j := ⟨_, rfl⟩
      have hpb : p < 131072 := by
        have h2 : (2 : Nat) ^ j ≤ 2 ^ 16 := Nat.pow_le_pow_right (by decide) (by omega)
        have e : (2 : Nat) ^ 16 = 65536 := by decide
        rw [e, ← hp] at h2
        omega
      have hpi : (2 : Int) ^ j = (p : Int) := by rw [hp]; push_cast; rfl
      have hw2 : wrap64 ((2 : Int) ^ j) = (p : Int) := by rw [hpi]; unfold wrap64; omega
      have hw3 : IntKind.i64.wrap ((p : Int) - 1) = (p : Int) - 1 := by rw [IntKind.wrap_i64]; omega
      have HX := Lib.hid (show wrap64 (s + wrap64 (x * ((p : Int) - 1))) = dxT xs (k + 1) from by
        rw [dxT, ← HS.out, hx.out, ← hj, hpi]; rfl)
      clear hx HS hj hp hpi
      go_wp2_with fail
      go_round
      case rel => exact ⟨k + 1, wrap64 (s + wrap64 (x * ((p : Int) - 1))), by omega, by go_num, rfl, HX⟩
      case measure => simp [intOf]; omega
    · obtain rfl : k = n := by omega
      go_wp2_with fail
      rw [HR.out]
      exact RetI.mk (y := s) (by rw [HV.out, HS.out])

/-- a function of lists of a length at most N that is handed in -/
structure FunLN (fid N : Nat) (q : List Int → Int) : Prop where
  enters : ∀ args w, (callFunc fid args).run Try.prog w = .ok (.enter fid args) w
  calls : ∀ (A : Option Addr) (n c B : Nat) (xs : List Int) (w : World), RdS w B A n c xs → n ≤ N → Calls Try.prog fid #[.slice A n c] w (RetI (q xs) w)
theorem degFun : FunLN 147 10 degX := ⟨enters_of Try.func147 (by kernel_rfl) rfl, fun A n c B xs w h hn => impl.degree_any A n c B xs w h hn⟩
theorem sameDeg1D_any (g1 g2 : Nat) (A : Option Addr) (n c : Nat) (xss : List (List Int)) (A' : Option Addr) (n' c' : Nat) (xs : List Int) (w : World)
    (hc1 : w.cell? ⟨g1, 0, none⟩ = some (.func (.func 147) #[] #[])) (hc2 : w.cell? ⟨g2, 0, none⟩ = some (.slice A n c)) (h : RdL w w.heap.size A n c xss) (hn : 1 ≤ n) (hx : ∀ x ∈ xss, x.length ≤ 10)
    (hr : RdS w w.heap.size A' n' c' xs) (hn' : n' ≤ 10) :
    Calls Try.prog 159 #[.slice A' n' c', .pointer (some ⟨g1, 0, none⟩), .pointer (some ⟨g2, 0, none⟩)] w (RetB (decide (degX xs = degX (xss.headD []))) w) := by
  obtain ⟨ad, A3, n3, c3, x0, rfl, _, hx0, hc0, hr0⟩ := h.at_ hn
  have hn3 : n3 ≤ 10 := by rw [← hr0.len]; exact hx x0 (List.mem_of_getElem? hx0.out)
  have hh : xss.headD [] = x0 := by
    have := hx0.out
    cases xss with
    | nil => simp at this
    | cons y ys => simpa using this
  rw [hh]
  have hf : FunLN 147 10 degX := degFun
  have hent := hf.enters
  have Hc0 := fun W : Nat => Lib.hid (hf.calls A3 n3 c3 _ x0 (w.drewN W) (hr0.drewN W) hn3)
  have Hc1 := fun W : Nat => Lib.hid (hf.calls A' n' c' _ xs (w.drewN W) (hr.drewN W) hn')
  have hc00 : w.cell? ad = some (.slice A3 n3 c3) := by simpa [Addr.add] using hc0
  obtain ⟨v, hv⟩ : ∃ v, v = degX xs := ⟨_, rfl⟩
  obtain ⟨u, hu⟩ : ∃ u, u = degX x0 := ⟨_, rfl⟩
  rw [← hv, ← hu]
  rw [← hv] at Hc1
  rw [← hu] at Hc0
  have Hd0 := fun W : Nat => Lib.hid (show Calls Try.prog 147 #[.slice A3 n3 c3] (w.drewN W) (fun e w'' => e = .returned (.int .i64 u) ∧ ∃ m, w'' = w.drewN m) from (Hc0 W).out.mono fun e w' h => ⟨h.1, W, h.2⟩)
  have Hd1 := fun W : Nat => Lib.hid (show Calls Try.prog 147 #[.slice A' n' c'] (w.drewN W) (fun e w'' => e = .returned (.int .i64 v) ∧ ∃ m, w'' = w.drewN m) from (Hc1 W).out.mono fun e w' h => ⟨h.1, W, h.2⟩)
  clear hf h hr hr0 hv hu hx0 hc0 Hc0 Hc1
  go_enter Try.func159, Try.ntmps159
  go_wp2_with fail
  go_quiet (first | (go_at_call_of 147 n'; exact (Hd1 _).out) | (go_at_call_of 147 n3; exact (Hd0 _).out))
  go_wp2_with fail
  go_ret
  exact RetB.mk (b' := decide (v = u)) rfl (by first | exact ⟨_, rfl⟩ | exact ⟨_, World.drewN_drewN _ _ _⟩ | (simp only [World.drewN_drewN]; exact ⟨_, rfl⟩))

theorem sameDegD_cond (g1 g2 : Nat) (A : Option Addr) (n c : Nat) (xss : List (List Int)) (w : World)
    (hc1 : w.cell? ⟨g1, 0, none⟩ = some (.func (.func 147) #[] #[])) (hc2 : w.cell? ⟨g2, 0, none⟩ = some (.slice A n c)) (hg1 : g1 < w.heap.size) (hg2 : g2 < w.heap.size) (h : RdL w w.heap.size A n c xss) (hx : ∀ x ∈ xss, x.length ≤ 10) :
    CondL 159 #[.pointer (some ⟨g1, 0, none⟩), .pointer (some ⟨g2, 0, none⟩)] xss (fun j => decide (degX (xss[j]?.getD []) = degX (xss.headD []))) w := by
  refine ⟨enters_of Try.func159 (by kernel_rfl) rfl, fun j A' n' c' xs hv w' hb hr => ?_⟩
  have hgx : xss[j]?.getD [] = xs := by simp [hv]
  rw [hgx]
  have hn : 1 ≤ n := by rw [← h.len]; exact Nat.lt_of_le_of_lt (Nat.zero_le j) (List.getElem?_eq_some_iff.1 hv).1
  have hn' : n' ≤ 10 := by rw [← hr.len]; exact hx xs (List.mem_of_getElem? hv)
  exact (sameDeg1D_any g1 g2 A n c xss A' n' c' xs w' ((hb.cell (p := ⟨g1, 0, none⟩) hg1).trans hc1) ((hb.cell (p := ⟨g2, 0, none⟩) hg2).trans hc2) ((h.below hb).mono hb.size) hn hx hr hn').mono
    fun e w'' hh => ⟨hh.1, by obtain ⟨k, hk⟩ := hh.2; rw [hk]; exact below_drewN (Below.refl _ _) k⟩
theorem sameDegreeD_any (A : Option Addr) (n c : Nat) (xss : List (List Int)) (w : World) (h : RdL w w.heap.size A n c xss) (hn : n ≤ 2000000) (hx : ∀ x ∈ xss, x.length ≤ 10) :
    Calls Try.prog 130 #[.slice A n c, .func (.func 147) #[] #[]] w (RetBb (sameB degX xss) w) := by
  have hl := h.len
  have HE : Hid ((List.range n).all (fun j => decide (degX (xss[j]?.getD []) = degX (xss.headD []))) = sameB degX xss) := Lib.hid (allR_rows (fun y => decide (degX y = degX (xss.headD []))) hl)
  have hb1 : Below w.heap.size w (w.alloc (.cells #[.slice A n c] 22)) := (Below.refl _ _).alloc (Nat.le_refl _) _
  have hb2 : Below w.heap.size w ((w.alloc (.cells #[.slice A n c] 22)).alloc (.cells #[.func (.func 147) #[] #[]] 79)) := hb1.alloc hb1.size _
  have H := Lib.hid ((h.below hb2).mono hb2.size)
  have HC := Lib.hid (sameDegD_cond (w.heap.size + 1) w.heap.size A n c xss _ (by simp) (by simp) (by simp) (by simp; omega) H.out hx)
  have HB := Lib.hid hb2
  clear hb1 hb2 h hl
  go_enter Try.func130, Try.ntmps130
  go_wp2_with fail
  refine (allL_any A n c xss _ _ _ _ H.out hn HC.out).mono ?_
  rintro e w1 ⟨rfl, hb1⟩
  go_wp2_with fail
  go_ret
  exact RetBb.mk (by rw [← HE.out]; simp only [List.headD_eq_head?_getD]) (HB.out.trans (hb1.mono HB.out.size))

theorem milB_len {xs : List Int} (h : expB xs = true) : xs.length ≤ 10 := by
  unfold expB at h
  rw [Bool.and_eq_true, Bool.and_eq_true] at h
  exact of_decide_eq_true h.1.1
theorem terms1_any (A : Option Addr) (n c : Nat) (xs : List Int) (w : World) (h : RdS w w.heap.size A n c xs) (hn : n ≤ 2000000) :
    Calls Try.prog 168 #[.slice A n c] w (RetBb (milB xs) w) := by
  have H := Lib.hid h
  have C := Lib.hid (isExp_any A n c xs w h hn)
  have HL := Lib.hid h.len
  obtain ⟨R, hR⟩ : ∃ R, R = RetBb (milB xs) w := ⟨_, rfl⟩
  have HR := Lib.hid hR
  rw [← hR]
  clear hR h
  cases he : expB xs
  · have HV := Lib.hid (show milB xs = false from by unfold milB; rw [he]; rfl)
    rw [he] at C
    clear he
    go_enter Try.func168, Try.ntmps168
    go_wp2_with fail
    refine C.out.mono ?_
    rintro e w1 ⟨rfl, hb1⟩
    have X1 := Lib.hid hb1; clear hb1
    go_wp2_with fail
    rw [HR.out]
    exact RetBb.mk HV.out.symm X1.out
  · have hl := milB_len he
    rw [HL.out] at hl
    obtain ⟨t, ht⟩ : ∃ t, t = degX xs := ⟨_, rfl⟩
    have HV := Lib.hid (show milB xs = decide (t ≤ 40) from by unfold milB; rw [he, ht]; rfl)
    have C2 := fun (W : World) (hB : Below w.heap.size w W) => Lib.hid (impl.degree_any A n c _ xs W (H.out.below hB) hl)
    rw [← ht] at C2
    rw [he] at C
    clear he ht
    go_enter Try.func168, Try.ntmps168
    go_wp2_with fail
    refine C.out.mono ?_
    rintro e w1 ⟨rfl, hb1⟩
    have X1 := Lib.hid hb1; clear hb1
    go_wp2_with fail
    refine (C2 w1 X1.out).out.mono ?_
    rintro e w2 ⟨rfl, h2⟩
    rw [h2]
    clear h2
    go_wp2_with fail
    rw [HR.out]
    exact RetBb.mk (b' := decide (t ≤ 40)) HV.out.symm X1.out
theorem milAll_any (A : Option Addr) (n c : Nat) (xss : List (List Int)) (w : World) (h : RdL w w.heap.size A n c xss) (hn : n ≤ 2000000) (hx : ∀ x ∈ xss, x.length ≤ 2000000) :
    Calls Try.prog 127 #[.slice A n c, .func (.func 168) #[] #[]] w (RetBb (xss.all milB) w) := by
  have hl := h.len
  have := allL_any A n c xss _ _ _ w h hn (condL_of milB (enters_of Try.func168 (by kernel_rfl) rfl) xss (fun A n c xs w hm hr => terms1_any A n c xs w hr (by rw [← hr.len]; exact hx xs hm)) w)
  rw [allR_rows milB hl] at this
  exact this
def isMiB (xss : List (List Int)) : Bool := decide (xss.length ≤ 2000) && risB xss && xss.all milB && sameB degX xss
theorem mil_rows {xss : List (List Int)} (h : xss.all milB = true) : ∀ x ∈ xss, x.length ≤ 10 := fun x hx => by
  have := List.all_eq_true.1 h x hx
  unfold milB at this
  rw [Bool.and_eq_true] at this
  exact milB_len this.1
set_option maxHeartbeats 1000000 in
theorem areTerms_any (A : Option Addr) (n c : Nat) (xss : List (List Int)) (w : World) (h : RdL w w.heap.size A n c xss) (hn : n ≤ 2000000) (ht : totalL xss ≤ 2000000) :
    Calls Try.prog 146 #[.slice A n c] w (RetBb (isMiB xss) w) := by
  have hx : ∀ x ∈ xss, x.length ≤ 2000000 := fun x hx => Nat.le_trans (len_le_of_total hx) ht
  have HL := Lib.hid h.len
  have H := Lib.hid h
  have C1 := Lib.hid (milAll_any A n c xss w h hn hx)
  obtain ⟨R, hR⟩ : ∃ R, R = RetBb (isMiB xss) w := ⟨_, rfl⟩
  have HR := Lib.hid hR
  rw [← hR]
  clear hR h hx
  obtain ⟨m, hm⟩ : ∃ m, m = xss.all milB := ⟨_, rfl⟩
  have HM := Lib.hid hm
  rw [← hm] at C1
  clear hm
  by_cases h1 : n ≤ 2000
  · have C2 := fun (W : World) (hB : Below w.heap.size w W) => Lib.hid (rising_any A n c _ xss W ((H.out.below hB).mono hB.size) (by omega) (by omega))
    obtain ⟨r, hr⟩ : ∃ r, r = risB xss := ⟨_, rfl⟩
    have HRi := Lib.hid hr
    rw [← hr] at C2
    clear hr
    go_enter Try.func146, Try.ntmps146
    go_wp2_with fail
    refine C1.out.mono ?_
    rintro e w1 ⟨rfl, hb1⟩
    have X1 := Lib.hid hb1; clear hb1
    go_wp2_with fail
    refine (C2 w1 X1.out).out.mono ?_
    rintro e w2 ⟨rfl, q, rfl⟩
    have X2 := Lib.hid (below_drewN X1.out q)
    cases r
    · have HV := Lib.hid (show isMiB xss = false from by unfold isMiB; rw [← HRi.out]; simp)
      go_wp2_with fail
      rw [HR.out]
      exact RetBb.mk HV.out.symm X2.out
    · cases m
      · have HV := Lib.hid (show isMiB xss = false from by unfold isMiB; rw [← HM.out]; simp)
        go_wp2_with fail
        rw [HR.out]
        exact RetBb.mk HV.out.symm X2.out
      · have HV := Lib.hid (show isMiB xss = sameB degX xss from by unfold isMiB; rw [← HM.out, ← HRi.out, HL.out, decide_eq_true h1]; rfl)
        go_wp2_with fail
        refine (sameDegreeD_any A n c xss _ ((H.out.below X2.out).mono X2.out.size) hn (mil_rows HM.out.symm)).mono ?_
        rintro e w3 ⟨rfl, hb3⟩
        have X3 := Lib.hid (X2.out.trans (hb3.mono X2.out.size)); clear hb3
        go_wp2_with fail
        rw [HR.out]
        exact RetBb.mk HV.out.symm X3.out
  · have HV := Lib.hid (show isMiB xss = false from by unfold isMiB; rw [HL.out, decide_eq_false h1]; rfl)
    go_enter Try.func146, Try.ntmps146
    go_wp2_with fail
    refine C1.out.mono ?_
    rintro e w1 ⟨rfl, hb1⟩
    have X1 := Lib.hid hb1; clear hb1
    go_wp2_with fail
    rw [HR.out]
    exact RetBb.mk HV.out.symm X1.out
theorem isMilnor_any (A : Option Addr) (n c : Nat) (xss : List (List Int)) (w : World) (h : RdL w w.heap.size A n c xss) (hn : n ≤ 2000000) (ht : totalL xss ≤ 2000000) :
    Calls Try.prog 107 #[.agg #[.slice A n c]] w (RetBb (isMiB xss) w) := by
  have hb0 : Below w.heap.size w (w.alloc (.cells #[.slice A n c] 24)) := (Below.refl _ _).alloc (Nat.le_refl _) _
  have C := Lib.hid (areTerms_any A n c xss _ ((h.below hb0).mono hb0.size) hn ht)
  have Hb0 := Lib.hid hb0
  obtain ⟨r, hr⟩ : ∃ r, r = isMiB xss := ⟨_, rfl⟩
  rw [← hr] at C ⊢
  clear h hb0 hr
  go_enter Try.func107, Try.ntmps107
  go_wp2_with fail
  refine C.out.mono ?_
  rintro e w1 ⟨rfl, hb1⟩
  have X1 := Lib.hid (Hb0.out.trans (hb1.mono Hb0.out.size)); clear hb1
  go_wp2_with fail
  go_ret
  exact RetBb.mk rfl X1.out
set_option maxHeartbeats 1000000 in
theorem exp01_any (A : Option Addr) (n c B : Nat) (xs : List Int) (w : World) (h : RdS w B A n c xs) (hn : n ≤ 2000000) :
    Calls Try.prog 144 #[.slice A n c] w (RetP (expB xs) w) := by
  have Hl := Lib.hid h.len
  have H := Lib.hid h; clear h
  obtain ⟨R, hR⟩ : ∃ R, R = RetP (expB xs) w := ⟨_, rfl⟩
  have HR := Lib.hid hR
  rw [← hR]
  clear hR
  by_cases h7 : n ≤ 10
  · have h7' : ¬ (10 : Int) < (n : Int) := by omega
    have hd7 : decide ((10 : Int) < (n : Int)) = false := by simp; omega
    have HE0 : Hid (numB xs = true → expB xs = endB xs) := Lib.hid (fun hf => expB_end (by rw [Hl.out]; exact h7) hf)
    by_cases hend : endB xs = true
    · -- the loop
      have hwalk : ∀ k : Nat, True := fun _ => trivial
      have HV := Lib.hid (show numB xs = true → expB xs = true from fun hf => by rw [HE0.out hf, hend])
      by_cases h0 : n = 0
      · subst h0
        have HV2 := Lib.hid (HV.out (by unfold numB; rw [show xs = [] from List.eq_nil_of_length_eq_zero Hl.out]; rfl))
        go_enter Try.func144, Try.ntmps144
        go_wp2_with fail
        go_loop [3] (fun i => i = .int .i64 0) (fun i => 1 - (intOf i).toNat)
        case atStart => rfl
        case round =>
          subst hrel
          go_wp2_with fail
          rw [HR.out]
          exact RetP.mk HV2.out.symm
      · obtain ⟨p, hp⟩ : ∃ p, p = n - 1 := ⟨_, rfl⟩
        obtain ⟨ad, y, rfl, _, hy, hcy⟩ := H.out.at_ (k := p) (by omega)
        have hwp : IntKind.i64.wrap ((n : Int) - 1) = (p : Int) := by rw [IntKind.wrap_i64]; omega
        have hpn : (p : Int) < (n : Int) := by omega
        have hp0 : (0 : Int) ≤ (p : Int) := by omega
        have hn0 : (0 : Int) < (n : Int) := by omega
        have hnn : n - 1 < n := by omega
        have hy0 : y ≠ 0 := by
          rw [endB_last Hl.out (by omega) (by rw [← hp]; exact hy.out)] at hend
          exact of_decide_eq_true hend
        have hye : (y == 0) = false := by simpa using hy0
        have hcy2 : w.cell? (ad.add (n - 1)) = some (.int .i64 y) := by rw [← hp]; exact hcy
        clear hp h0 hy hend
        go_enter Try.func144, Try.ntmps144
        go_wp2_with fail
        clear hcy hcy2 hwp hnn
        go_loop [3] (fun i => ∃ k : Nat, k ≤ n ∧ i = .int .i64 k ∧ Hid (numB (xs.take k) = true)) (fun i => n - (intOf i).toNat)
        case atStart => exact ⟨0, Nat.zero_le _, rfl, Lib.hid rfl⟩
        case round =>
          obtain ⟨k, hk, rfl, HF⟩ := hrel
          by_cases hlt : k < n
          · obtain ⟨ad', x, had, _, hx, hc⟩ := H.out.at_ hlt
            obtain rfl : ad = ad' := by simpa using had
            clear had
            cases hi : inB x 0 1000000000000
            · have HI := Lib.hid hi; clear hi
              have HV2 := Lib.hid (show expB xs = false from expB_num (by unfold numB; rw [List.all_eq_false]; exact ⟨x, mem_of hx, by simp [HI.out]⟩))
              go_wp2_with fail
              refine (l01In_any _ _ _ _).mono ?_
              rintro e w' ⟨rfl, rfl⟩
              rw [HI.out]
              go_wp2_with fail
              rw [HR.out]
              exact RetP.mk HV2.out.symm
            · have HI := Lib.hid hi; clear hi
              go_wp2_with fail
              refine (l01In_any _ _ _ _).mono ?_
              rintro e w' ⟨rfl, rfl⟩
              rw [HI.out]
              go_wp2_with fail
              go_round
              case rel => exact ⟨k + 1, by omega, by go_num, Lib.hid (by
                have h1 := HF.out
                rw [take_succ_of hx]
                unfold numB at h1 ⊢
                rw [List.all_append, h1]
                simp [HI.out])⟩
              case measure => simp [intOf]; omega
          · obtain rfl : k = n := by omega
            have HV2 := Lib.hid (HV.out (by have h1 := HF.out; rwa [List.take_of_length_le (by rw [Hl.out]; omega)] at h1))
            go_wp2_with fail
            rw [HR.out]
            exact RetP.mk HV2.out.symm
    · have HV2 := Lib.hid (show expB xs = false from by unfold expB; simp at hend; rw [hend]; simp)
      have h0 : n ≠ 0 := fun h0 => hend (endB_nil (by rw [Hl.out, h0]))
      obtain ⟨p, hp⟩ : ∃ p, p = n - 1 := ⟨_, rfl⟩
      obtain ⟨ad, y, rfl, _, hy, hcy⟩ := H.out.at_ (k := p) (by omega)
      have hwp : IntKind.i64.wrap ((n : Int) - 1) = (p : Int) := by rw [IntKind.wrap_i64]; omega
      have hpn : (p : Int) < (n : Int) := by omega
      have hp0 : (0 : Int) ≤ (p : Int) := by omega
      have hn0 : (0 : Int) < (n : Int) := by omega
      have hnn : n - 1 < n := by omega
      have hy0 : y = 0 := by
        rw [endB_last Hl.out (by omega) (by rw [← hp]; exact hy.out)] at hend
        simpa using hend
      have hcy2 : w.cell? (ad.add (n - 1)) = some (.int .i64 y) := by rw [← hp]; exact hcy
      clear hp h0 hy hend
      subst hy0
      go_enter Try.func144, Try.ntmps144
      go_wp2_with fail
      rw [HR.out]
      exact RetP.mk HV2.out.symm
  · have h7' : (10 : Int) < (n : Int) := by omega
    have hd7 : decide ((10 : Int) < (n : Int)) = true := by simp; omega
    have HV := Lib.hid (expB_long (by rw [Hl.out]; exact h7))
    go_enter Try.func144, Try.ntmps144
    go_wp2_with fail
    rw [HR.out]
    exact RetP.mk HV.out.symm

def okmi (x0 x : List Int) : Bool := milB x && decide (degX x = degX x0)
theorem isMiB_eq (xss : List (List Int)) : isMiB xss = (decide (xss.length ≤ 2000) && risB xss && xss.all (okmi (xss.headD []))) := by
  have h : xss.all (okmi (xss.headD [])) = (xss.all milB && sameB degX xss) := by
    rw [Bool.eq_iff_iff]
    simp only [Bool.and_eq_true, List.all_eq_true, sameB, okmi]
    exact ⟨fun h => ⟨fun x hx => (h x hx).1, fun x hx => (h x hx).2⟩, fun h x hx => ⟨h.1 x hx, h.2 x hx⟩⟩
  rw [h]
  simp only [isMiB, Bool.and_assoc]

set_option maxHeartbeats 1000000 in
theorem l04Is_any (A : Option Addr) (n c : Nat) (xss : List (List Int)) (w : World) (h : RdL w w.heap.size A n c xss) (hn : n ≤ 2000000) (ht : totalL xss ≤ 2000000) :
    Calls Try.prog 104 #[.agg #[.slice A n c]] w (RetBb (isMiB xss) w) := by
  have HX := Lib.hid (fun (x : List Int) (hx : x ∈ xss) => Nat.le_trans (len_le_of_total hx) ht)
  have HT := Lib.hid ht; clear ht
  have HL := Lib.hid h.len
  obtain ⟨w0, hw0⟩ : ∃ w0, w0 = w.alloc (.cells #[.slice A n c] 24) := ⟨_, rfl⟩
  obtain ⟨b, hb⟩ : ∃ b, b = w.heap.size := ⟨_, rfl⟩
  have hB0 : Below w.heap.size w w0 := by rw [hw0]; exact (Below.refl _ _).alloc (Nat.le_refl _) _
  have hc1 : w0.cell? ⟨b, 0, none⟩ = some (.slice A n c) := by rw [hw0, hb]; simp
  have H := Lib.hid (h.below hB0); clear h
  have HB0 := Lib.hid hB0; clear hB0
  have Hw := Lib.hid hw0; clear hw0
  have Hbe := Lib.hid hb; clear hb
  rw [isMiB_eq]
  obtain ⟨R, hR⟩ : ∃ R, R = (decide (xss.length ≤ 2000) && risB xss && xss.all (okmi (xss.headD []))) := ⟨_, rfl⟩
  have HR := Lib.hid hR
  rw [← hR]
  clear hR
  by_cases h1 : n ≤ 2000
  · have hd1 : decide ((2000 : Int) < (n : Int)) = false := by simp; omega
    have HA := fun W : Nat => Lib.hid (ascending_any A n c _ xss (w0.drewN W) (H.out.drewN W) (by omega) (by have := HT.out; omega))
    cases hr : risB xss
    · have HV : Hid (R = false) := Lib.hid (by rw [HR.out, hr]; simp)
      rw [hr] at HA; clear hr
      go_enter Try.func104, Try.ntmps104
      go_wp2_with fail
      rw [← Hw.out, ← Hbe.out]
      go_wp2_with fail
      refine (HA 0).out.mono ?_
      rintro e w2 ⟨rfl, q, rfl⟩
      go_wp2_with fail
      go_ret
      exact RetBb.mk (b' := false) HV.out.symm (below_drewN HB0.out q)
    · have HV : Hid (R = xss.all (okmi (xss.headD []))) := Lib.hid (by rw [HR.out, hr, show decide (xss.length ≤ 2000) = true from by simp [HL.out, h1]]; rfl)
      rw [hr] at HA; clear hr
      go_enter Try.func104, Try.ntmps104
      go_wp2_with fail
      rw [← Hw.out, ← Hbe.out]
      go_wp2_with fail
      refine (HA 0).out.mono ?_
      rintro e w2 ⟨rfl, q0, rfl⟩
      go_wp2_with fail
      go_loopw [3] (fun i wr => ∃ k : Nat, k ≤ n ∧ i = .int .i64 k ∧ Hid ((xss.take k).all (okmi (xss.headD [])) = true) ∧ ∃ q, wr = w0.drewN q) (fun i _ => n - (intOf i).toNat)
      case atStart => exact ⟨0, Nat.zero_le _, rfl, Lib.hid (by simp), (by first | exact ⟨_, rfl⟩ | exact ⟨_, World.drewN_drewN _ _ _⟩ | (simp only [World.drewN_drewN]; exact ⟨_, rfl⟩))⟩
      case round =>
        obtain ⟨k, hk, rfl, HK, q, rfl⟩ := hrel
        clear HA
        by_cases hlt : k < n
        · obtain ⟨ad, A1, n1, c1, x, rfl, _, hx, hcr, hr1⟩ := H.out.at_ hlt
          obtain ⟨ad', A0, n0, c0, x0, had, _, hx0, hcr0, hr0⟩ := H.out.at_ (show 0 < n by omega)
          obtain rfl : ad = ad' := by simpa using had
          clear had
          have hc00 : w0.cell? ad = some (.slice A0 n0 c0) := by simpa [Addr.add] using hcr0
          clear hcr0
          have hh : xss.headD [] = x0 := by
            have := hx0.out
            cases xss with
            | nil => simp at this
            | cons y ys => simpa using this
          have hn1 : n1 ≤ 2000000 := by rw [← hr1.len]; exact HX.out x (List.mem_of_getElem? hx.out)
          have hn0 : n0 ≤ 2000000 := by rw [← hr0.len]; exact HX.out x0 (List.mem_of_getElem? hx0.out)
          have hpos : (0 : Int) < (n : Int) := by omega
          have Hw1 := fun W : Nat => Lib.hid (show Calls Try.prog 144 #[.slice A1 n1 c1] (w0.drewN W) (fun e w'' => e = .returned (.bool (expB x)) ∧ ∃ m, w'' = (w0.drewN W).drewN m) from (exp01_any A1 n1 c1 _ x (w0.drewN W) (hr1.drewN W) hn1).mono fun e w' h => ⟨h.1, 0, h.2⟩)
          rw [hh] at HV HK
          have Hh := Lib.hid hh
          clear hh
          cases hw : expB x
          · simp only [hw] at Hw1
            have HN : Hid (R = false) := Lib.hid (by rw [HV.out]; exact all_no hx (Lib.hid (by simp [okmi, milB, hw])))
            clear hw hr1 hr0
            go_wp2_with fail
            go_quiet ((go_at_call 144; first | exact Calls.quiet_of ((Hw1 _).out) | exact quiet_add ((Hw1 _).out)))
            go_wp2_with fail
            go_ret
            exact RetBb.mk (b' := false) HN.out.symm (by first | exact below_drewN HB0.out _ | exact below_drewN (below_drewN HB0.out _) _)
          · simp only [hw] at Hw1
            have hl1 : n1 ≤ 10 := by rw [← hr1.len]; exact milB_len hw
            have hl0 : n0 ≤ 10 := by
              rw [← hr0.len]
              by_cases hk0 : k = 0
              · subst hk0
                have e : x = x0 := Option.some.inj (hx.out.symm.trans hx0.out)
                rw [← e]; exact milB_len hw
              · have h1 := List.all_eq_true.1 HK.out x0 (List.mem_of_getElem? (i := 0) (by rw [List.getElem?_take, if_pos (by omega)]; exact hx0.out))
                simp only [okmi, milB, Bool.and_eq_true] at h1
                exact milB_len h1.1.1
            have Hs1 := fun W : Nat => Lib.hid (show Calls Try.prog 105 #[.slice A1 n1 c1] (w0.drewN W) (fun e w'' => e = .returned (.int .i64 (degX x)) ∧ ∃ m, w'' = (w0.drewN W).drewN m) from (spec.l01Degree_any A1 n1 c1 _ x (w0.drewN W) (hr1.drewN W) hl1).mono fun e w' h => ⟨h.1, 0, h.2⟩)
            have Hs0 := fun W : Nat => Lib.hid (show Calls Try.prog 105 #[.slice A0 n0 c0] (w0.drewN W) (fun e w'' => e = .returned (.int .i64 (degX x0)) ∧ ∃ m, w'' = (w0.drewN W).drewN m) from (spec.l01Degree_any A0 n0 c0 _ x0 (w0.drewN W) (hr0.drewN W) hl0).mono fun e w' h => ⟨h.1, 0, h.2⟩)
            clear hr1 hr0
            obtain ⟨v, hv⟩ : ∃ v, v = degX x := ⟨_, rfl⟩
            obtain ⟨u, hu⟩ : ∃ u, u = degX x0 := ⟨_, rfl⟩
            rw [← hv] at Hs1
            rw [← hu] at Hs0
            by_cases hv40 : v ≤ 40
            · have hd40 : decide ((40 : Int) < v) = false := by simp; omega
              have hd41 : ¬ (40 : Int) < v := by omega
              by_cases hvu : v = u
              · have HN : Hid (okmi x0 x = true) := Lib.hid (by simp [okmi, milB, hw, ← hv, ← hu, hvu]; omega)
                clear hw hv hu
                subst hvu
                have hne1 : (v == v) = true := by simp
                have hne2 : (v != v) = false := by simp
                go_wp2_with fail
                go_quiet (first | (go_at_call 144; first | exact Calls.quiet_of ((Hw1 _).out) | exact quiet_add ((Hw1 _).out)) | (go_at_call_of 105 A1; first | exact Calls.quiet_of ((Hs1 _).out) | exact quiet_add ((Hs1 _).out)) | (go_at_call_of 105 A0; first | exact Calls.quiet_of ((Hs0 _).out) | exact quiet_add ((Hs0 _).out)))
                go_wp2_with fail
                go_roundw
                case rel => exact ⟨k + 1, by omega, by go_num, Lib.hid (by rw [Hh.out]; exact all_take_succL hx HK HN), (by first | exact ⟨_, rfl⟩ | exact ⟨_, World.drewN_drewN _ _ _⟩ | (simp only [World.drewN_drewN]; exact ⟨_, rfl⟩))⟩
                case measure => simp [intOf]; omega
              · have HN : Hid (R = false) := Lib.hid (by rw [HV.out]; exact all_no hx (Lib.hid (by simp [okmi, milB, ← hv, ← hu, hvu])))
                clear hw hv hu
                have hne1 : (v == u) = false := by simpa using hvu
                have hne2 : (v != u) = true := by simpa using hvu
                clear hvu
                go_wp2_with fail
                go_quiet (first | (go_at_call 144; first | exact Calls.quiet_of ((Hw1 _).out) | exact quiet_add ((Hw1 _).out)) | (go_at_call_of 105 A1; first | exact Calls.quiet_of ((Hs1 _).out) | exact quiet_add ((Hs1 _).out)) | (go_at_call_of 105 A0; first | exact Calls.quiet_of ((Hs0 _).out) | exact quiet_add ((Hs0 _).out)))
                go_wp2_with fail
                go_ret
                exact RetBb.mk (b' := false) HN.out.symm (by first | exact below_drewN HB0.out _ | exact below_drewN (below_drewN HB0.out _) _)
            · have HN : Hid (R = false) := Lib.hid (by rw [HV.out]; exact all_no hx (Lib.hid (by simp [okmi, milB, ← hv, ← hu, hv40])))
              have hd40 : decide ((40 : Int) < v) = true := by simp; omega
              have hd41 : (40 : Int) < v := by omega
              clear hw hv hu
              go_wp2_with fail
              go_quiet (first | (go_at_call 144; first | exact Calls.quiet_of ((Hw1 _).out) | exact quiet_add ((Hw1 _).out)) | (go_at_call_of 105 A1; first | exact Calls.quiet_of ((Hs1 _).out) | exact quiet_add ((Hs1 _).out)) | (go_at_call_of 105 A0; first | exact Calls.quiet_of ((Hs0 _).out) | exact quiet_add ((Hs0 _).out)))
              go_wp2_with fail
              go_ret
              exact RetBb.mk (b' := false) HN.out.symm (by first | exact below_drewN HB0.out _ | exact below_drewN (below_drewN HB0.out _) _)
        · go_wp2_with fail
          go_ret
          obtain rfl : k = n := by omega
          exact RetBb.mk (b' := true) (by have h3 := HK.out; rw [List.take_of_length_le (by rw [HL.out]; omega)] at h3; rw [HV.out, h3]) (by first | exact below_drewN HB0.out _ | exact below_drewN (below_drewN HB0.out _) _)
  · have HV : Hid (R = false) := Lib.hid (by rw [HR.out]; simp [HL.out, h1])
    have hd1 : decide ((2000 : Int) < (n : Int)) = true := by simp; omega
    go_enter Try.func104, Try.ntmps104
    go_wp2_with fail
    rw [← Hw.out]
    go_ret
    exact RetBb.mk (b' := false) HV.out.symm HB0.out

end Go.Proofs.Ytejlkobieohgfaa
