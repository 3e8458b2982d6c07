/- impl: raised, formOf, power. -/
import Derived.Test.YtoodhbafleemjaaGreatLuc
import Derived.Test.YtoodhbafleemjaaGreatMlp
import Derived.Test.YtoodhbafleemjaaGreatHitP
import Derived.Test.YtoodhbafleemjaaGreatSqm
import Derived.Test.YtoodhbafleemjaaGreatHitS
namespace Go.Proofs.YtoodhbafleemjaaGreat
open Go.RowKit
open Go.ChangeMaps Go.MapKept Go.WideShapes
set_option linter.unusedVariables false

theorem mul_count (V : List Int) {p : Int} (hp : 1 ≤ p) (x : Int) : (V.map (· * p)).count (x * p) = V.count x := by
  induction V with
  | nil => rfl
  | cons a V ih =>
    rw [List.map_cons, List.count_cons, List.count_cons, ih]
    congr 1
    by_cases h : a = x
    · subst h; simp
    · have : ¬ a * p = x * p := fun e => h (Int.eq_of_mul_eq_mul_right (by omega) e)
      simp [h, this]
set_option maxRecDepth 100000 in
theorem raised_any (b1 : Nat) (p : Int) (L : List Int) (w : World) (hL : OwnP w b1 L) (fL : ∀ a ∈ L, 0 ≤ a ∧ a < 16777216) (hp : 1 ≤ p ∧ p ≤ 64) (nL : L.length ≤ 20000) :
    Calls Tryz.prog 136 #[.map (some b1), .int .i64 p] w (RetMp (L.map (· * p)) w) := by
  obtain ⟨R, hR⟩ : ∃ R, R = RetMp (L.map (· * p)) w := ⟨_, rfl⟩
  have HR := Lib.hid hR
  rw [← hR]
  have HL := Lib.hid hL
  have FL := Lib.hid fL
  have NL := Lib.hid nL
  have HP1 := Lib.hid hp
  obtain ⟨b, hb⟩ : ∃ b, b = w.heap.size := ⟨_, rfl⟩
  have lt1 := hL.lt
  rw [← hb] at lt1
  obtain ⟨w0, hw0⟩ : ∃ w0, w0 = w.alloc (.map #[] 0) := ⟨_, rfl⟩
  have hmm : ∀ t, (Instr.makeMap t none).run Tryz.prog w = .ok (.map (some b)) w0 := fun t => by rw [hb, hw0]; exact run_makeMap t w
  have B0 : Hid (Below b w w0) := Lib.hid (by rw [hw0, hb]; exact (Below.refl _ _).alloc (Nat.le_refl _) _)
  have O0 : Hid (OwnP w0 b []) := Lib.hid (by rw [hw0, hb]; exact OwnP.new w)
  have Z0 : Hid (w0.heap.size = b + 1) := Lib.hid (by rw [hw0, hb]; simp)
  have L0 : Hid (OwnP w0 b1 L) := Lib.hid (hL.below (by rw [← hb]; exact B0.out))
  have HB := Lib.hid hb
  have LT1 := Lib.hid lt1
  clear hL hR fL nL lt1 hb hw0 hp
  go_enter Tryz.func136, Tryz.ntmps136
  go_wp2_with (at_range; refine wpList_rangeP _ rfl (.tmp 8) rfl Tryz.underlying64 rfl L0.out ?_; intro w1 h0 h1 h2; have R1 := Lib.hid h0; have B1 := Lib.hid h1; have S1 := Lib.hid h2; clear h0 h1 h2)
  go_frame
  obtain ⟨r, hr⟩ : ∃ r, r = w0.heap.size := ⟨_, rfl⟩
  have HS : Hid (r = b + 1) := Lib.hid (hr.trans Z0.out)
  rw [← hr] at R1
  rw [← hr]
  clear hr
  have BW1 : Hid (Below b w w1) := Lib.hid (B0.out.trans (B1.out.mono (by rw [Z0.out]; omega)))
  have O1 := Lib.hid (O0.out.below B1.out)
  go_loopw [10] (fun _ wr => ∃ V : List Int, Hid (RanP wr b1 r L V) ∧ Hid (OwnP wr b (V.map (· * p))) ∧ Hid (Below b w wr)) (fun _ wr => wr.rangeLeft b1 r)
  case atStart => exact ⟨[], R1, O1, BW1⟩
  case round =>
    obtain ⟨V, HR1, HP, HW⟩ := hrel
    go_wp2_with (at_next; refine wpList_nextP _ rfl (.tmp 9) rfl rfl HR1.out ?_ ?_)
    · intro hd
      have HD := Lib.hid hd
      clear hd
      go_wp2_with fail
      rw [HR.out]
      exact RetMp.mk (b := b) (by rw [HB.out]; exact Nat.le_refl _) (HP.out.congr (((Par.of_perm HD.out).trans (oddI_par L)).map (· * p))) rfl (by rw [← HB.out]; exact HW.out)
    · intro x w2 hx ho h1 h2 h3 h4 h5
      have hbr : b ≠ r := by rw [HS.out]; omega
      have P2 := Lib.hid (HP.out.kept h3 (by simpa using hbr))
      have N1 := Lib.hid h1
      have N2 := Lib.hid h2
      have W2 := Lib.hid (HW.out.grown h3 (Nat.le_of_lt HP.out.lt) (by intro k hk; injection hk with hk; have := HS.out; omega))
      have FX := Lib.hid (FL.out x (mem_of_odd ho))
      have hpp := HP1.out
      have hx0 := FX.out
      have hm0 : 0 ≤ x * p := Int.mul_nonneg hx0.1 (by omega)
      have hm1 : x * p ≤ 16777216 * 64 := Int.le_trans (Int.mul_le_mul_of_nonneg_right (by omega) (by omega)) (Int.mul_le_mul_of_nonneg_left hpp.2 (by decide))
      have hw64 : wrap64 (x * p) = x * p := by unfold wrap64; omega
      have HW64 := Lib.hid hw64
      have HWF := Lib.hid (show wfI (wrap64 (x * p)) from by rw [hw64]; exact wfI_mk (by omega) (by omega))
      have HCN := Lib.hid (show (V.map (· * p)).count (wrap64 (x * p)) % 2 = 0 from by
        rw [hw64, mul_count V hpp.1]
        have hnd := h1.nodup
        rw [List.nodup_append] at hnd
        have : x ∉ V := fun hxV => hnd.2.2 x hxV x (by simp) rfl
        rw [List.count_eq_zero.2 this])
      have HLN := Lib.hid (show (V.map (· * p)).length < 1000000000000 from by
        rw [List.length_map]
        have := HR1.out.len
        have := NL.out
        omega)
      have HLb := Lib.hid (show b < w2.heap.size from P2.out.lt)
      clear h1 h2 h3 h4 hbr ho hm0 hm1 hx0 hpp hw64
      go_wp2_with (at_mapUpdate; refine wpList_putP _ rfl (.tmp 14) (.tmp 17) (.const (.bool true)) rfl Tryz.underlying64 rfl rfl rfl P2.out HWF.out HCN.out HLN.out ?_; intro w3 h1 hg hs; have H3 := Lib.hid h1; have HG := Lib.hid hg; have HS3 := Lib.hid hs; clear h1 hg hs)
      have hbr : b ≠ r := by rw [HS.out]; omega
      have a4 : b1 ≠ b := by have := LT1.out; omega
      have N3 := N1.out.kept HG.out (by simpa using a4) (by simpa using (Ne.symm hbr))
      have N31 := Lib.hid N3.1
      have N32 := Lib.hid (show w3.rangeLeft b1 r < wr.rangeLeft b1 r from by rw [N3.2]; exact N2.out)
      have H4 := Lib.hid (show OwnP w3 b ((V ++ [x]).map (· * p)) from by rw [List.map_append]; have h9 := H3.out; rw [HW64.out] at h9; exact h9)
      have W3 := Lib.hid (W2.out.grown HG.out (Nat.le_of_lt HLb.out) (by intro k hk; injection hk with hk; omega))
      clear N3
      go_frame
      go_roundw
      case rel => exact ⟨V ++ [x], N31, H4, W3⟩
      case measure => exact N32.out

theorem run_putP {w : World} {t : TypeId} (ht : Tryz.prog.underlying t = some (.map 2 4)) {b : Nat} {L : List Int} {k : Int} (h : OwnP w b L) (hw : wfI k) (hk : L.count k % 2 = 0) (hn : L.length < 1000000000000) :
    ∃ w', (Instr.mapUpdate t (.map (some b)) (.int .i64 k) (.bool true)).run Tryz.prog w = .ok () w' ∧ OwnP w' b (L ++ [k]) ∧ w.grownBy w' (some b) ∧ w'.heap.size = w.heap.size := by
  obtain ⟨D, h1, h2, h3⟩ := h.map
  have hsz := sizeP h1 h2
  have hlen : (oddI L).length ≤ L.length := (oddI_nodup L).length_le_of_subset fun z hz => oddI_sub hz
  have hhk : Maps.has D (litI k) = false := by rw [h2 k]; simp [odd?, hk]
  obtain ⟨w', hrun, h4, hturn⟩ := h1.store keyI ht (by rw [hsz]; exact Nat.lt_of_le_of_lt hlen (Nat.lt_trans hn (by decide))) (keyI_of hw) (rdB_mk true)
  have hg' := hturn.grown
  have hs' : w'.heap.size = w.heap.size := by obtain ⟨es, c, es', c', hb, rfl⟩ := hturn; simp [setBlock]
  refine ⟨w', hrun, ⟨D.put (litI k) tt, ?_, fun z => ?_, fun z zd hz => ?_⟩, hg', hs'⟩
  · rw [Maps.size_put (h1.tidy keyI), hhk]; exact h4
  · by_cases hz : z = k
    · subst hz
      rw [Maps.has_put_same h1.isMap (litI_key z)]
      simp [odd?, List.count_append]; omega
    · rw [Maps.has_put_other (fun e => hz (by injection e)), h2 z]
      have : (k == z) = false := by simpa using fun e => hz e.symm
      simp [odd?, List.count_append, List.count_cons, this]
  · by_cases hzk : z = k
    · subst hzk
      exact Maps.atKey_put_same h1.isMap (litI_key z) _ _
    · rw [Maps.atKey_put_other (fun e => hzk (by injection e))]
      rw [Maps.has_put_other (fun e => hzk (by injection e))] at hz
      exact h3 z zd hz
/-- the polynomial 1, as a new map -/
theorem one_map (w : World) : ∃ w1, (∀ t, (Instr.makeMap t none).run Tryz.prog w = .ok (.map (some w.heap.size)) (w.alloc (.map #[] 0))) ∧ (Instr.mapUpdate 64 (.map (some w.heap.size)) (.int .i64 0) (.bool true)).run Tryz.prog (w.alloc (.map #[] 0)) = .ok () w1 ∧ OwnP w1 w.heap.size [0] ∧ Below w.heap.size w w1 ∧ w1.heap.size = w.heap.size + 1 := by
  have h0 := OwnP.new w
  obtain ⟨w1, hrun, h1, h2, h3⟩ := run_putP (t := 64) (k := 0) Tryz.underlying64 h0 (wfI_mk (by decide) (by decide)) (by simp) (by simp)
  exact ⟨w1, fun t => run_makeMap t w, hrun, by simpa using h1, ((Below.refl _ _).alloc (Nat.le_refl _) _).grown h2 (by simp) (by intro g hg; injection hg with hg; omega), by rw [h3]; simp⟩

/-! ### powers -/
def mulW (c : Int) (x : List Int) : List Int := x.map (· * c)
def mulP (c : Int) (P : Pol) : Pol := P.map (mulW c)
theorem enc_mul (c : Int) : ∀ x : List Int, encP (mulW c x) = encP x * c
  | [] => by simp [mulW, encP]
  | a :: x => by
    have ih := enc_mul c x
    unfold mulW at ih ⊢
    rw [List.map_cons, encP, encP, ih]
    rw [Int.add_mul, Int.mul_assoc]
def pwT (k : Nat) (P : Pol) (n : Nat) : Nat → Pol
  | 0 => [List.replicate k 0]
  | t + 1 => if n.testBit t = true then prodsP (pwT k P n t) (mulP ((2 ^ t : Nat) : Int) P) else pwT k P n t
def pwB (k : Nat) (P : Pol) (n : Nat) : Pol := pwT k P n 6
theorem mulW_deg {k : Nat} {d c : Int} {x : List Int} (h : Deg k d x) (hc : 0 ≤ c) : Deg k (d * c) (mulW c x) := by
  refine ⟨fun a ha => ?_, ?_, by unfold mulW; rw [List.length_map]; exact h.2.2⟩
  · obtain ⟨y, hy, rfl⟩ := List.mem_map.1 ha
    exact Int.mul_nonneg (h.1 y hy) hc
  · rw [← h.2.1]
    clear h
    unfold mulW
    induction x with
    | nil => simp
    | cons a x ih => rw [List.map_cons, List.sum_cons, ih, List.sum_cons, Int.add_mul]
theorem mulP_hom {k : Nat} {d c : Int} {P : Pol} (h : Hom k d P) (hc : 0 ≤ c) : Hom k (d * c) (mulP c P) := fun x hx => by
  obtain ⟨y, hy, rfl⟩ := List.mem_map.1 hx
  exact mulW_deg (h y hy) hc
theorem zero_deg (k : Nat) : Deg k 0 (List.replicate k 0) := ⟨fun a ha => by have := List.eq_of_mem_replicate ha; omega, by simp, by simp⟩
theorem pwT_hom {k : Nat} {P : Pol} (h : Hom k 1 P) (n : Nat) : ∀ t : Nat, Hom k ((n % 2 ^ t : Nat) : Int) (pwT k P n t)
  | 0 => fun x hx => by
    have := List.mem_singleton.1 hx
    subst this
    have e : ((n % 2 ^ 0 : Nat) : Int) = 0 := by rw [Nat.pow_zero, Nat.mod_one]; rfl
    rw [e]
    exact zero_deg k
  | t + 1 => by
    have ih := pwT_hom h n t
    have hm : n % 2 ^ (t + 1) = n % 2 ^ t + 2 ^ t * (n.testBit t).toNat := by
      rw [Nat.pow_succ, Nat.mod_mul, Nat.testBit_eq_decide_div_mod_eq]
      congr 2
      rcases Nat.mod_two_eq_zero_or_one (n / 2 ^ t) with e | e <;> simp [e]
    rw [pwT]
    by_cases hb : n.testBit t = true
    · rw [if_pos hb]
      have h2 := mulP_hom (c := ((2 ^ t : Nat) : Int)) h (by omega)
      have h3 := prodsP_deg ih h2
      intro x hx
      have h4 := h3 x hx
      rw [hb] at hm
      have e : ((n % 2 ^ (t + 1) : Nat) : Int) = ((n % 2 ^ t : Nat) : Int) + 1 * ((2 ^ t : Nat) : Int) := by rw [hm]; simp
      rw [e]; exact h4
    · rw [if_neg hb]
      have hb' : n.testBit t = false := by simpa using hb
      rw [hb'] at hm
      have e : n % 2 ^ (t + 1) = n % 2 ^ t := by rw [hm]; simp
      rw [e]; exact ih
theorem pwT_len {k : Nat} {P : Pol} (h : P.length ≤ 4) (n : Nat) : ∀ t : Nat, (pwT k P n t).length ≤ 4 ^ t
  | 0 => by simp [pwT]
  | t + 1 => by
    have ih := pwT_len (k := k) h n t
    rw [pwT, Nat.pow_succ]
    split
    · rw [prodsP_len]
      unfold mulP
      rw [List.length_map]
      exact Nat.mul_le_mul ih h
    · have : 0 < 4 ^ t := Nat.pow_pos (by decide)
      omega
theorem pwT_end {k : Nat} {P : Pol} {n t : Nat} (ht : n < 2 ^ t) : ∀ m : Nat, pwT k P n (t + m) = pwT k P n t
  | 0 => rfl
  | m + 1 => by
    have hb : n.testBit (t + m) = false := Nat.testBit_lt_two_pow (Nat.lt_of_lt_of_le ht (Nat.pow_le_pow_right (by decide) (by omega)))
    show pwT k P n (t + m + 1) = _
    rw [pwT, hb, if_neg (by decide)]
    exact pwT_end ht m
theorem bit_test : ∀ n : Nat, n < 41 → ∀ t : Nat, t < 6 → (bits .and .i64 (n : Int) ((2 ^ t : Nat) : Int) != 0) = n.testBit t := by decide +kernel
theorem mono_of_hom {k : Nat} {d : Int} {P : Pol} (h : Hom k d P) (hd : d ≤ 63) : ∀ x ∈ P, Mono k x := fun x hx => (h x hx).mono hd
theorem prodI_enc {k : Nat} {d e : Int} {P Q : Pol} (h : Hom k d P) (g : Hom k e Q) : prodI (P.map encP) (Q.map encP) = (prodsP P Q).map encP :=
  (prodsP_enc (k := k) (fun x hx => (h x hx).2.2) (fun x hx => (g x hx).2.2)).symm
set_option maxRecDepth 100000 in
set_option maxHeartbeats 1000000 in
theorem power_any (b1 k n : Nat) (P : Pol) (w : World) (hO : OwnP w b1 (P.map encP)) (hP : Hom k 1 P) (nP : P.length ≤ 4) (hk : k ≤ 4) (hn : n ≤ 40) :
    Calls Tryz.prog 120 #[.map (some b1), .int .i64 n] w (RetMp ((pwB k P n).map encP) w) := by
  obtain ⟨R, hR⟩ : ∃ R, R = RetMp ((pwB k P n).map encP) w := ⟨_, rfl⟩
  have HR := Lib.hid hR
  rw [← hR]
  have HP := Lib.hid hP
  obtain ⟨w1, hmm, hrun, ho1, hb1, hz1⟩ := one_map w
  obtain ⟨b, hb⟩ : ∃ b, b = w.heap.size := ⟨_, rfl⟩
  obtain ⟨w0, hw0⟩ : ∃ w0, w0 = w.alloc (.map #[] 0) := ⟨_, rfl⟩
  rw [← hb, ← hw0] at hmm hrun
  rw [← hb] at ho1 hb1 hz1
  have HO := Lib.hid (hO.below (by rw [← hb]; exact hb1))
  have H1 := Lib.hid (show OwnP w1 b ((pwT k P n 0).map encP) from by
    have e : (pwT k P n 0).map encP = [0] := by
      show [encP (List.replicate k 0)] = [0]
      have : ∀ k : Nat, encP (List.replicate k 0) = 0 := fun k => by
        induction k with
        | zero => rfl
        | succ k ih => rw [List.replicate_succ, encP, ih]; rfl
      rw [this]
    rw [e]; exact ho1)
  have HB1 := Lib.hid hb1
  have HBe := Lib.hid hb
  have HLt := Lib.hid (show b1 < b from by rw [hb]; exact hO.lt)
  clear hR hO hP ho1 hb1 hz1 hb hw0
  go_enter Tryz.func120, Tryz.ntmps120
  go_wp2_with fail
  go_loopw [5, 6] (fun m p wr => ∃ t b' : Nat, t ≤ 6 ∧ m = .map (some b') ∧ p = .int .i64 ((2 ^ t : Nat) : Int) ∧ Hid (b ≤ b') ∧ Hid (OwnP wr b' ((pwT k P n t).map encP)) ∧ Hid (OwnP wr b1 (P.map encP)) ∧ Hid (Below b w wr)) (fun _ p _ => 100 - (intOf p).toNat)
  case atStart => exact ⟨0, b, by omega, rfl, rfl, Lib.hid (Nat.le_refl _), H1, HO, HB1⟩
  case round =>
    clear HO H1 HB1 hmm hrun
    obtain ⟨t, b', ht, rfl, rfl, HBb, HQ, HO, HBw⟩ := hrel
    by_cases hle : 2 ^ t ≤ n
    · have ht5 : t < 6 := by
        apply Classical.byContradiction
        intro h
        obtain rfl : t = 6 := by omega
        have e : (2 : Nat) ^ 6 = 64 := by decide
        omega
      have hbt := bit_test n (by omega) t ht5
      have hp1 : 1 ≤ 2 ^ t ∧ 2 ^ t ≤ 32 := ⟨Nat.one_le_two_pow, by
        have := Nat.pow_le_pow_right (n := 2) (by decide) (show t ≤ 5 by omega)
        have e : (2 : Nat) ^ 5 = 32 := by decide
        omega⟩
      have hpw : 2 ^ (t + 1) = 2 ^ t * 2 := Nat.pow_succ 2 t
      have HPW := Lib.hid hpw
      have HPS := Lib.hid (show pwT k P n (t + 1) = if n.testBit t = true then prodsP (pwT k P n t) (mulP ((2 ^ t : Nat) : Int) P) else pwT k P n t from rfl)
      have HM := Lib.hid (mulP_hom (c := ((2 ^ t : Nat) : Int)) HP.out (by omega))
      have HML := Lib.hid (show (mulP ((2 ^ t : Nat) : Int) P).length ≤ 4 from by unfold mulP; rw [List.length_map]; exact nP)
      have HTH := Lib.hid (pwT_hom HP.out n t)
      have HTL := Lib.hid (show (pwT k P n t).length ≤ 4096 from Nat.le_trans (pwT_len (k := k) nP n t) (by
        have := Nat.pow_le_pow_right (n := 4) (by decide) (show t ≤ 6 by omega)
        have e : (4 : Nat) ^ 6 = 4096 := by decide
        omega))
      have hmod : n % 2 ^ t ≤ 40 := Nat.le_trans (Nat.mod_le _ _) hn
      have HTM := Lib.hid (mono_of_hom HTH.out (by omega))
      have HMM := Lib.hid (mono_of_hom HM.out (by omega))
      have HEM := Lib.hid (show (P.map encP).map (· * ((2 ^ t : Nat) : Int)) = (mulP ((2 ^ t : Nat) : Int) P).map encP from by
        unfold mulP
        rw [List.map_map, List.map_map]
        congr 1
        funext x
        exact (enc_mul _ x).symm)
      have HEP := Lib.hid (prodI_enc HTH.out HM.out)
      have HP0 := Lib.hid (enc_small (mono_of_hom HP.out (by decide)) hk)
      obtain ⟨p, hp⟩ : ∃ p, p = 2 ^ t := ⟨_, rfl⟩
      rw [← hp] at hle hbt hp1 HPW HPS HM HML HMM HEM HEP
      obtain ⟨bt, hbte⟩ : ∃ bt, bt = n.testBit t := ⟨_, rfl⟩
      rw [← hbte] at hbt HPS
      rw [← hp]
      have hwm : IntKind.i64.wrap ((p : Int) * 2) = ((p * 2 : Nat) : Int) := by rw [IntKind.wrap_i64]; omega
      have hled : decide ((p : Int) ≤ (n : Int)) = true := decide_eq_true (by omega)
      clear hp hbte hpw
      cases bt
      · have HQ2 := Lib.hid (show OwnP wr b' ((pwT k P n (t + 1)).map encP) from by rw [HPS.out, if_neg (by decide)]; exact HQ.out)
        go_wp2_with fail
        go_roundw
        case rel => exact ⟨t + 1, b', by omega, rfl, by rw [HPW.out]; go_num, HBb, HQ2, HO, HBw⟩
        case measure => simp [intOf]; omega
      · have C1 := Lib.hid (raised_any b1 (p : Int) (P.map encP) wr HO.out HP0.out (by omega) (by rw [List.length_map]; omega))
        rw [HEM.out] at C1
        go_wp2_with fail
        refine C1.out.mono ?_
        rintro e w3 ⟨b3, rfl, hbb3, ho3, hb3⟩
        have HO3 := Lib.hid (HO.out.below hb3)
        have HQ3 := Lib.hid (HQ.out.below hb3)
        have HB3 := Lib.hid (HBw.out.trans (hb3.mono (Nat.le_trans HBb.out (Nat.le_of_lt HQ.out.lt))))
        have C2 := Lib.hid (times_any b' b3 _ _ w3 HQ3.out ho3 (enc_lt HTM.out hk) (enc_lt HMM.out hk) (by rw [List.length_map]; have := HTL.out; omega) (by rw [List.length_map]; have := HML.out; omega))
        rw [HEP.out] at C2
        have HLb := Lib.hid (show b ≤ w3.heap.size from by have := HQ3.out.lt; have := HBb.out; omega)
        clear hbb3 ho3 hb3
        go_wp2_with fail
        refine C2.out.mono ?_
        rintro e w4 ⟨b4, rfl, hbb4, ho4, hb4⟩
        have HQ4 := Lib.hid (show OwnP w4 b4 ((pwT k P n (t + 1)).map encP) from by rw [HPS.out]; (first | rw [if_pos rfl] | rw [if_pos trivial]); exact ho4)
        have HO4 := Lib.hid (HO3.out.below hb4)
        have HB4 := Lib.hid (HB3.out.trans (hb4.mono HLb.out))
        have HBb4 := Lib.hid (Nat.le_trans HLb.out hbb4)
        clear hbb4 ho4 hb4
        go_wp2_with fail
        go_roundw
        case rel => exact ⟨t + 1, b4, by omega, rfl, by rw [HPW.out]; go_num, HBb4, HQ4, HO4, HB4⟩
        case measure => simp [intOf]; omega
    · have HE := Lib.hid (show pwB k P n = pwT k P n t from by
        obtain ⟨m, hm⟩ : ∃ m, 6 = t + m := ⟨6 - t, by omega⟩
        unfold pwB
        rw [hm]
        exact pwT_end (by omega) m)
      have hled : decide (((2 ^ t : Nat) : Int) ≤ (n : Int)) = false := decide_eq_false (by omega)
      obtain ⟨p, hp⟩ : ∃ p, p = 2 ^ t := ⟨_, rfl⟩
      rw [← hp] at hled hle
      rw [← hp]
      clear hp
      go_wp2_with fail
      rw [HR.out]
      exact RetMp.mk (b := b') (by rw [← HBe.out]; exact HBb.out) HQ.out (by rw [HE.out]) (by rw [← HBe.out]; exact HBw.out)

/-! ### linear forms -/
def unitW (k j : Nat) : List Int := List.replicate j 0 ++ 1 :: List.replicate (k - j - 1) 0
def formT (k m : Nat) : Nat → Pol
  | 0 => []
  | j + 1 => if m.testBit j = true then formT k m j ++ [unitW k j] else formT k m j
def formP (k m : Nat) : Pol := formT k m 4
theorem enc_zeros : ∀ k : Nat, encP (List.replicate k 0) = 0
  | 0 => rfl
  | k + 1 => by rw [List.replicate_succ, encP, enc_zeros k]; rfl
theorem unit_enc (k : Nat) : ∀ j : Nat, encP (unitW (k + j) j) = ((64 ^ j : Nat) : Int) := fun j => by
  unfold unitW
  generalize k + j - j - 1 = r
  induction j with
  | zero => simp [encP, enc_zeros]
  | succ j ih =>
    rw [List.replicate_succ, List.cons_append, encP, ih, Nat.pow_succ]
    push_cast
    omega
theorem formT_len (k m : Nat) : ∀ j : Nat, (formT k m j).length ≤ j
  | 0 => Nat.le_refl _
  | j + 1 => by
    have ih := formT_len k m j
    rw [formT]
    split
    · rw [List.length_append]; simp; exact ih
    · omega
theorem formT_mem {k m : Nat} : ∀ {j : Nat} {x : List Int}, x ∈ formT k m j → ∃ i, i < j ∧ x = unitW k i ∧ m.testBit i = true
  | 0, x, h => by cases h
  | j + 1, x, h => by
    rw [formT] at h
    split at h
    · rename_i hb
      rcases List.mem_append.1 h with h | h
      · obtain ⟨i, hi, e⟩ := formT_mem h
        exact ⟨i, by omega, e⟩
      · exact ⟨j, by omega, List.mem_singleton.1 h, hb⟩
    · obtain ⟨i, hi, e⟩ := formT_mem h
      exact ⟨i, by omega, e⟩
theorem form_bit : ∀ m : Nat, m < 16 → ∀ j : Nat, j < 5 → (bits .and .i64 ((m : Int) / ((2 ^ j : Nat) : Int)) 1 == 1) = m.testBit j := by decide +kernel
theorem form_zero : ∀ m : Nat, m < 16 → ∀ j : Nat, j < 5 → (m : Int) / ((2 ^ j : Nat) : Int) ≤ 0 → ∀ i, i < 5 → j ≤ i → m.testBit i = false := by decide +kernel
theorem formT_end {k m j : Nat} (hj : j ≤ 4) (h : ∀ i, i < 5 → j ≤ i → m.testBit i = false) : formP k m = formT k m j := by
  have key : ∀ n, j ≤ n → n ≤ 5 → formT k m n = formT k m j := by
    intro n
    induction n with
    | zero => intro h1 _; rw [show j = 0 from by omega]
    | succ n ih =>
      intro h1 h2
      by_cases e : j = n + 1
      · rw [e]
      · rw [formT, h n (by omega) (by omega), if_neg (by decide)]
        exact ih (by omega) (by omega)
  unfold formP
  exact key 4 hj (by omega)
theorem unit_enc' {k j : Nat} (h : j < k) : encP (unitW k j) = ((64 ^ j : Nat) : Int) := by
  obtain ⟨r, rfl⟩ : ∃ r, k = r + j := ⟨k - j, by omega⟩
  exact unit_enc r j
theorem bit_lt {k m i : Nat} (h : m < 2 ^ k) (hb : m.testBit i = true) : i < k := by
  apply Classical.byContradiction
  intro hn
  rw [Nat.testBit_lt_two_pow (Nat.lt_of_lt_of_le h (Nat.pow_le_pow_right (by decide) (by omega)))] at hb
  cases hb
theorem form_cnt {k m : Nat} (h : m < 2 ^ k) (j : Nat) : ((formT k m j).map encP).count ((64 ^ j : Nat) : Int) % 2 = 0 := by
  have : ((64 ^ j : Nat) : Int) ∉ (formT k m j).map encP := fun hm => by
    obtain ⟨x, hx, e⟩ := List.mem_map.1 hm
    obtain ⟨i, hi, rfl, hb⟩ := formT_mem hx
    rw [unit_enc' (bit_lt h hb)] at e
    have h1 : 64 ^ i < 64 ^ j := Nat.pow_lt_pow_right (by decide) hi
    omega
  rw [List.count_eq_zero.2 this]
theorem form_snoc {k m j : Nat} (h : m < 2 ^ k) (hb : m.testBit j = true) : (formT k m (j + 1)).map encP = (formT k m j).map encP ++ [((64 ^ j : Nat) : Int)] := by
  rw [formT, hb, if_pos rfl, List.map_append]
  simp only [List.map_cons, List.map_nil]
  rw [unit_enc' (bit_lt h hb)]
set_option maxRecDepth 100000 in
theorem formOf_any (k m : Nat) (w : World) (hm : m < 16) (hk : m < 2 ^ k) :
    Calls Tryz.prog 119 #[.int .i64 m] w (RetMp ((formP k m).map encP) w) := by
  obtain ⟨R, hR⟩ : ∃ R, R = RetMp ((formP k m).map encP) w := ⟨_, rfl⟩
  have HR := Lib.hid hR
  rw [← hR]
  have HK := Lib.hid hk
  obtain ⟨b, hb⟩ : ∃ b, b = w.heap.size := ⟨_, rfl⟩
  obtain ⟨w0, hw0⟩ : ∃ w0, w0 = w.alloc (.map #[] 0) := ⟨_, rfl⟩
  have hmm : ∀ t, (Instr.makeMap t none).run Tryz.prog w = .ok (.map (some b)) w0 := fun t => by rw [hb, hw0]; exact run_makeMap t w
  have HB0 : Hid (Below b w w0) := Lib.hid (by rw [hw0, hb]; exact (Below.refl _ _).alloc (Nat.le_refl _) _)
  have O0 : Hid (OwnP w0 b ((formT k m 0).map encP)) := Lib.hid (by rw [hw0, hb]; exact OwnP.new w)
  have HBe := Lib.hid hb
  clear hR hk hb hw0
  go_enter Tryz.func119, Tryz.ntmps119
  go_wp2_with fail
  go_loopw [4] (fun i wr => ∃ j : Nat, j ≤ 4 ∧ i = .int .i64 j ∧ Hid (OwnP wr b ((formT k m j).map encP)) ∧ Hid (Below b w wr)) (fun i _ => 10 - (intOf i).toNat)
  case atStart => exact ⟨0, by omega, rfl, O0, HB0⟩
  case round =>
    clear O0 HB0 hmm
    obtain ⟨j, hj, rfl, HQ, HBw⟩ := hrel
    obtain rfl | rfl | rfl | rfl | rfl : j = 0 ∨ j = 1 ∨ j = 2 ∨ j = 3 ∨ j = 4 := by omega
    · have hbt := form_bit m hm 0 (by decide)
      have hz := form_zero m hm 0 (by decide)
      have e2 : ((2 ^ 0 : Nat) : Int) = 1 := by decide
      rw [e2, Int.ediv_one] at hbt hz
      by_cases hpos : 0 < m
      · have hpd : decide (0 < (m : Int)) = true := decide_eq_true (by omega)
        cases hb : m.testBit 0 with
        | false =>
          rw [hb] at hbt
          have HQ2 := Lib.hid (show OwnP wr b ((formT k m 1).map encP) from by rw [formT, hb]; exact HQ.out)
          clear hz hb
          go_wp2_with fail
          go_roundw
          case rel => exact ⟨1, by omega, by go_num, HQ2, HBw⟩
          case measure => simp [intOf]
        | true =>
          rw [hb] at hbt
          have HQE := Lib.hid (form_snoc HK.out hb)
          have e64 : ((64 ^ 0 : Nat) : Int) = 1 := by decide
          have HCN := Lib.hid (form_cnt HK.out 0)
          rw [e64] at HQE HCN
          have HLN := Lib.hid (show ((formT k m 0).map encP).length < 1000000000000 from by rw [List.length_map]; have := formT_len k m 0; omega)
          obtain ⟨w3, hrun3, ho3, hg3, hs3⟩ := run_putP (t := 64) (k := 1) Tryz.underlying64 HQ.out (wfI_mk (by decide) (by decide)) HCN.out HLN.out
          have HQ2 := Lib.hid (show OwnP w3 b ((formT k m 1).map encP) from by rw [HQE.out]; exact ho3)
          have HB2 := Lib.hid (HBw.out.grown hg3 (Nat.le_of_lt HQ.out.lt) (by intro g hg; injection hg with hg; omega))
          clear hz hb ho3 hg3 hs3 e64
          go_wp2_with fail
          go_roundw
          case rel => exact ⟨1, by omega, by go_num, HQ2, HB2⟩
          case measure => simp [intOf]
      · have hpd : decide (0 < (m : Int)) = false := decide_eq_false (by omega)
        have HE := Lib.hid (show formP k m = formT k m 0 from formT_end (by decide) (hz (by omega)))
        clear hz hbt
        go_wp2_with fail
        rw [HR.out]
        exact RetMp.mk (b := b) (by rw [HBe.out]; exact Nat.le_refl _) HQ.out (by rw [HE.out]) (by rw [← HBe.out]; exact HBw.out)
    · have hbt := form_bit m hm 1 (by decide)
      have hz := form_zero m hm 1 (by decide)
      have e2 : ((2 ^ 1 : Nat) : Int) = 2 := by decide
      rw [e2] at hbt hz
      by_cases hpos : 0 < (m : Int) / 2
      · have hpd : decide (0 < (m : Int) / 2) = true := decide_eq_true hpos
        cases hb : m.testBit 1 with
        | false =>
          rw [hb] at hbt
          have HQ2 := Lib.hid (show OwnP wr b ((formT k m 2).map encP) from by rw [formT, hb]; exact HQ.out)
          clear hz hb
          go_wp2_with fail
          go_roundw
          case rel => exact ⟨2, by omega, by go_num, HQ2, HBw⟩
          case measure => simp [intOf]
        | true =>
          rw [hb] at hbt
          have HQE := Lib.hid (form_snoc HK.out hb)
          have e64 : ((64 ^ 1 : Nat) : Int) = 64 := by decide
          have HCN := Lib.hid (form_cnt HK.out 1)
          rw [e64] at HQE HCN
          have HLN := Lib.hid (show ((formT k m 1).map encP).length < 1000000000000 from by rw [List.length_map]; have := formT_len k m 1; omega)
          obtain ⟨w3, hrun3, ho3, hg3, hs3⟩ := run_putP (t := 64) (k := 64) Tryz.underlying64 HQ.out (wfI_mk (by decide) (by decide)) HCN.out HLN.out
          have HQ2 := Lib.hid (show OwnP w3 b ((formT k m 2).map encP) from by rw [HQE.out]; exact ho3)
          have HB2 := Lib.hid (HBw.out.grown hg3 (Nat.le_of_lt HQ.out.lt) (by intro g hg; injection hg with hg; omega))
          clear hz hb ho3 hg3 hs3 e64
          go_wp2_with fail
          go_roundw
          case rel => exact ⟨2, by omega, by go_num, HQ2, HB2⟩
          case measure => simp [intOf]
      · have hpd : decide (0 < (m : Int) / 2) = false := decide_eq_false hpos
        have HE := Lib.hid (show formP k m = formT k m 1 from formT_end (by decide) (hz (by omega)))
        clear hz hbt
        go_wp2_with fail
        rw [HR.out]
        exact RetMp.mk (b := b) (by rw [HBe.out]; exact Nat.le_refl _) HQ.out (by rw [HE.out]) (by rw [← HBe.out]; exact HBw.out)
    · have hbt := form_bit m hm 2 (by decide)
      have hz := form_zero m hm 2 (by decide)
      have e2 : ((2 ^ 2 : Nat) : Int) = 4 := by decide
      rw [e2] at hbt hz
      by_cases hpos : 0 < (m : Int) / 4
      · have hpd : decide (0 < (m : Int) / 4) = true := decide_eq_true hpos
        cases hb : m.testBit 2 with
        | false =>
          rw [hb] at hbt
          have HQ2 := Lib.hid (show OwnP wr b ((formT k m 3).map encP) from by rw [formT, hb]; exact HQ.out)
          clear hz hb
          go_wp2_with fail
          go_roundw
          case rel => exact ⟨3, by omega, by go_num, HQ2, HBw⟩
          case measure => simp [intOf]
        | true =>
          rw [hb] at hbt
          have HQE := Lib.hid (form_snoc HK.out hb)
          have e64 : ((64 ^ 2 : Nat) : Int) = 4096 := by decide
          have HCN := Lib.hid (form_cnt HK.out 2)
          rw [e64] at HQE HCN
          have HLN := Lib.hid (show ((formT k m 2).map encP).length < 1000000000000 from by rw [List.length_map]; have := formT_len k m 2; omega)
          obtain ⟨w3, hrun3, ho3, hg3, hs3⟩ := run_putP (t := 64) (k := 4096) Tryz.underlying64 HQ.out (wfI_mk (by decide) (by decide)) HCN.out HLN.out
          have HQ2 := Lib.hid (show OwnP w3 b ((formT k m 3).map encP) from by rw [HQE.out]; exact ho3)
          have HB2 := Lib.hid (HBw.out.grown hg3 (Nat.le_of_lt HQ.out.lt) (by intro g hg; injection hg with hg; omega))
          clear hz hb ho3 hg3 hs3 e64
          go_wp2_with fail
          go_roundw
          case rel => exact ⟨3, by omega, by go_num, HQ2, HB2⟩
          case measure => simp [intOf]
      · have hpd : decide (0 < (m : Int) / 4) = false := decide_eq_false hpos
        have HE := Lib.hid (show formP k m = formT k m 2 from formT_end (by decide) (hz (by omega)))
        clear hz hbt
        go_wp2_with fail
        rw [HR.out]
        exact RetMp.mk (b := b) (by rw [HBe.out]; exact Nat.le_refl _) HQ.out (by rw [HE.out]) (by rw [← HBe.out]; exact HBw.out)
    · have hbt := form_bit m hm 3 (by decide)
      have hz := form_zero m hm 3 (by decide)
      have e2 : ((2 ^ 3 : Nat) : Int) = 8 := by decide
      rw [e2] at hbt hz
      by_cases hpos : 0 < (m : Int) / 8
      · have hpd : decide (0 < (m : Int) / 8) = true := decide_eq_true hpos
        cases hb : m.testBit 3 with
        | false =>
          rw [hb] at hbt
          have HQ2 := Lib.hid (show OwnP wr b ((formT k m 4).map encP) from by rw [formT, hb]; exact HQ.out)
          clear hz hb
          go_wp2_with fail
          go_roundw
          case rel => exact ⟨4, by omega, by go_num, HQ2, HBw⟩
          case measure => simp [intOf]
        | true =>
          rw [hb] at hbt
          have HQE := Lib.hid (form_snoc HK.out hb)
          have e64 : ((64 ^ 3 : Nat) : Int) = 262144 := by decide
          have HCN := Lib.hid (form_cnt HK.out 3)
          rw [e64] at HQE HCN
          have HLN := Lib.hid (show ((formT k m 3).map encP).length < 1000000000000 from by rw [List.length_map]; have := formT_len k m 3; omega)
          obtain ⟨w3, hrun3, ho3, hg3, hs3⟩ := run_putP (t := 64) (k := 262144) Tryz.underlying64 HQ.out (wfI_mk (by decide) (by decide)) HCN.out HLN.out
          have HQ2 := Lib.hid (show OwnP w3 b ((formT k m 4).map encP) from by rw [HQE.out]; exact ho3)
          have HB2 := Lib.hid (HBw.out.grown hg3 (Nat.le_of_lt HQ.out.lt) (by intro g hg; injection hg with hg; omega))
          clear hz hb ho3 hg3 hs3 e64
          go_wp2_with fail
          go_roundw
          case rel => exact ⟨4, by omega, by go_num, HQ2, HB2⟩
          case measure => simp [intOf]
      · have hpd : decide (0 < (m : Int) / 8) = false := decide_eq_false hpos
        have HE := Lib.hid (show formP k m = formT k m 3 from formT_end (by decide) (hz (by omega)))
        clear hz hbt
        go_wp2_with fail
        rw [HR.out]
        exact RetMp.mk (b := b) (by rw [HBe.out]; exact Nat.le_refl _) HQ.out (by rw [HE.out]) (by rw [← HBe.out]; exact HBw.out)
    · have hbt := form_bit m hm 4 (by decide)
      have hz := form_zero m hm 4 (by decide)
      have e2 : ((2 ^ 4 : Nat) : Int) = 16 := by decide
      rw [e2] at hbt hz
      by_cases hpos : 0 < (m : Int) / 16
      · omega
      · have hpd : decide (0 < (m : Int) / 16) = false := decide_eq_false hpos
        have HE := Lib.hid (show formP k m = formT k m 4 from formT_end (by decide) (hz (by omega)))
        clear hz hbt
        go_wp2_with fail
        rw [HR.out]
        exact RetMp.mk (b := b) (by rw [HBe.out]; exact Nat.le_refl _) HQ.out (by rw [HE.out]) (by rw [← HBe.out]; exact HBw.out)
end Go.Proofs.YtoodhbafleemjaaGreat

/- impl.substituted, SubstituteForms. -/
namespace Go.Proofs.YtoodhbafleemjaaGreat
open Go.RowKit
set_option linter.unusedVariables false

/-! ### plain: what substituted makes -/
def partF (k : Nat) (fs x : List Int) : Nat → Pol
  | 0 => [List.replicate k 0]
  | i + 1 => oddL (prodsP (partF k fs x i) (pwB k (formP k (fs[i]?.getD 0).toNat) (x[i]?.getD 0).toNat))
def outF (k : Nat) (fs : List Int) (xss : Pol) : Pol := xss.flatMap fun x => partF k fs x k
theorem outF_snoc (k : Nat) (fs : List Int) (xss : Pol) (x : List Int) : outF k fs (xss ++ [x]) = outF k fs xss ++ partF k fs x k := by unfold outF; rw [List.flatMap_append]; simp
theorem oddL_hom {k : Nat} {d : Int} {P : Pol} (h : Hom k d P) : Hom k d (oddL P) := fun x hx => h x (oddL_mem hx)
theorem unit_deg {k j : Nat} (h : j < k) : Deg k 1 (unitW k j) := by
  unfold unitW
  refine ⟨fun a ha => ?_, ?_, ?_⟩
  · rcases List.mem_append.1 ha with ha | ha
    · have := List.eq_of_mem_replicate ha; omega
    · rcases List.mem_cons.1 ha with rfl | ha
      · omega
      · have := List.eq_of_mem_replicate ha; omega
  · rw [List.sum_append, List.sum_cons]; simp
  · rw [List.length_append, List.length_cons, List.length_replicate, List.length_replicate]; omega
theorem formP_hom {k m : Nat} (h : m < 2 ^ k) : Hom k 1 (formP k m) := fun x hx => by
  obtain ⟨i, hi, rfl, hb⟩ := formT_mem hx
  exact unit_deg (bit_lt h hb)
theorem formP_len (k m : Nat) : (formP k m).length ≤ 4 := formT_len k m 4
theorem pwB_hom {k n : Nat} {P : Pol} (h : Hom k 1 P) (hn : n < 64) : Hom k n (pwB k P n) := by
  have h1 := pwT_hom h n 6
  rw [show n % 2 ^ 6 = n from Nat.mod_eq_of_lt (by have e : (2 : Nat) ^ 6 = 64 := by decide
                                                   omega)] at h1
  exact h1
theorem pwB_len {k n : Nat} {P : Pol} (h : P.length ≤ 4) : (pwB k P n).length ≤ 4096 := Nat.le_trans (pwT_len (k := k) h n 6) (by decide)
theorem take_sum_step {x : List Int} {i : Nat} {n : Int} (h : x[i]? = some n) : (x.take (i + 1)).sum = (x.take i).sum + n := by
  rw [List.take_add_one, h, List.sum_append]; simp
theorem take_sum_le {x : List Int} (h : ∀ a ∈ x, (0 : Int) ≤ a) (i : Nat) : (x.take i).sum ≤ x.sum := by
  have e := List.take_append_drop i x
  have h1 : x.sum = (x.take i).sum + (x.drop i).sum := by rw [← List.sum_append, e]
  have h2 := sum_nonneg' (x := x.drop i) fun a ha => h a (List.mem_of_mem_drop ha)
  omega
/-- what is known of forms and a term -/
structure SubK (k : Nat) (fs x : List Int) : Prop where
  k1 : 1 ≤ k
  k4 : k ≤ 4
  fl : fs.length = k
  fr : ∀ m ∈ fs, 0 ≤ m ∧ m.toNat < 2 ^ k
  xl : x.length = k
  xp : ∀ a ∈ x, (0 : Int) ≤ a
  xs : x.sum ≤ 40
theorem SubK.form {k : Nat} {fs x : List Int} (h : SubK k fs x) (i : Nat) : (fs[i]?.getD 0).toNat < 2 ^ k := by
  cases e : fs[i]? with
  | none => simpa using Nat.two_pow_pos k
  | some m => exact (h.fr m (List.mem_of_getElem? e)).2
theorem SubK.exp {k : Nat} {fs x : List Int} (h : SubK k fs x) (i : Nat) : (x[i]?.getD 0).toNat ≤ 40 := by
  cases e : x[i]? with
  | none => simp
  | some n =>
    have hm := List.mem_of_getElem? e
    have := sum_ge_mem h.xp n hm
    have := h.xs
    simp only [Option.getD_some]
    omega
theorem partF_hom {k : Nat} {fs x : List Int} (h : SubK k fs x) : ∀ i : Nat, i ≤ k → Hom k (x.take i).sum (partF k fs x i)
  | 0, _ => fun z hz => by
    have := List.mem_singleton.1 hz
    subst this
    rw [List.take_zero]
    exact zero_deg k
  | i + 1, hi => by
    have ih := partF_hom h i (by omega)
    obtain ⟨a, e⟩ : ∃ a, x[i]? = some a := ⟨_, List.getElem?_eq_getElem (show i < x.length by rw [h.xl]; omega)⟩
    have h0 : (0 : Int) ≤ a := h.xp _ (List.mem_of_getElem? e)
    have h2 := pwB_hom (formP_hom (h.form i)) (n := (x[i]?.getD 0).toNat) (by have := h.exp i; omega)
    have h3 := oddL_hom (prodsP_deg ih h2)
    rw [take_sum_step e]
    have e2 : (((x[i]?.getD 0).toNat : Nat) : Int) = a := by rw [e]; simp only [Option.getD_some]; omega
    rw [e2] at h3
    exact h3
theorem hom_len {k : Nat} {d : Int} {P : Pol} (h : Hom k d P) (ha : Asc P) (hk : 1 ≤ k) (hk4 : k ≤ 4) (h0 : 0 ≤ d) (hd : d ≤ 40) : P.length ≤ 12341 := by
  obtain ⟨j, rfl⟩ : ∃ j, k = j + 1 := ⟨k - 1, by omega⟩
  obtain ⟨D, rfl⟩ : ∃ D : Nat, d = D := ⟨d.toNat, by omega⟩
  refine Nat.le_trans (asc_le ha fun z hz => (mons_mem j D z).2 (h z hz)) (mons_le (by omega) (by omega))
theorem partF_asc {k : Nat} {fs x : List Int} : ∀ i : Nat, Asc (partF k fs x i)
  | 0 => by simp [partF, Asc]
  | i + 1 => oddL_asc _
theorem partF_len {k : Nat} {fs x : List Int} (h : SubK k fs x) (i : Nat) (hi : i ≤ k) : (partF k fs x i).length ≤ 12341 :=
  hom_len (partF_hom h i hi) (partF_asc i) h.k1 h.k4 (sum_nonneg' fun a ha => h.xp a (List.mem_of_mem_take ha)) (Int.le_trans (take_sum_le h.xp i) h.xs)
theorem partF_mono {k : Nat} {fs x : List Int} (h : SubK k fs x) (i : Nat) (hi : i ≤ k) : ∀ z ∈ partF k fs x i, Mono k z :=
  mono_of_hom (partF_hom h i hi) (by have := take_sum_le h.xp i; have := h.xs; omega)
theorem outF_len {k : Nat} {fs : List Int} : ∀ {xss : Pol}, (∀ x ∈ xss, SubK k fs x) → (outF k fs xss).length ≤ xss.length * 12341
  | [], _ => by simp [outF]
  | x :: xss, h => by
    have ih := outF_len (xss := xss) fun y hy => h y (List.mem_cons_of_mem _ hy)
    unfold outF at ih ⊢
    rw [List.flatMap_cons, List.length_append, List.length_cons]
    have := partF_len (h x (by simp)) k (Nat.le_refl _)
    omega
theorem outF_mono {k : Nat} {fs : List Int} {xss : Pol} (h : ∀ x ∈ xss, SubK k fs x) : ∀ z ∈ outF k fs xss, Mono k z := fun z hz => by
  obtain ⟨x, hx, hz⟩ := List.mem_flatMap.1 hz
  exact partF_mono (h x hx) k (Nat.le_refl _) z hz

/-! ### the walk of substituted -/
set_option maxRecDepth 100000 in
set_option maxHeartbeats 2000000 in
theorem substituted_any (A1 A2 : Option Addr) (n1 c1 n2 c2 k : Nat) (xss : Pol) (fs : List Int) (w : World) (h1 : RdL w w.heap.size A1 n1 c1 xss) (h2 : RdS w w.heap.size A2 n2 c2 fs) (hx : ∀ x ∈ xss, SubK k fs x) (hk : k ≤ 4) (hn : n1 ≤ 2000) :
    Calls Tryz.prog 77 #[.slice A1 n1 c1, .slice A2 n2 c2] w (RetMp ((outF k fs xss).map encP) w) := by
  obtain ⟨R, hR⟩ : ∃ R, R = RetMp ((outF k fs xss).map encP) w := ⟨_, rfl⟩
  have HR := Lib.hid hR
  rw [← hR]
  have HX := Lib.hid hx
  have HL1 := Lib.hid h1.len
  have HL2 := Lib.hid h2.len
  obtain ⟨b, hb⟩ : ∃ b, b = w.heap.size := ⟨_, rfl⟩
  rw [← hb] at h1 h2
  have H1 := Lib.hid h1
  have H2 := Lib.hid h2
  obtain ⟨w0, hw0⟩ : ∃ w0, w0 = w.alloc (.map #[] 0) := ⟨_, rfl⟩
  have hmm : ∀ t, (Instr.makeMap t none).run Tryz.prog w = .ok (.map (some b)) w0 := fun t => by rw [hb, hw0]; exact run_makeMap t w
  have HB0 : Hid (Below b w w0) := Lib.hid (by rw [hw0, hb]; exact (Below.refl _ _).alloc (Nat.le_refl _) _)
  have O0 : Hid (OwnP w0 b ((outF k fs (xss.take 0)).map encP)) := Lib.hid (by rw [hw0, hb]; exact OwnP.new w)
  have HBe := Lib.hid hb
  clear hR hx hb hw0 h1 h2
  go_enter Tryz.func77, Tryz.ntmps77
  go_wp2_with fail
  go_loopw [14] (fun i wr => ∃ t : Nat, t ≤ n1 ∧ i = .int .i64 t ∧ Hid (OwnP wr b ((outF k fs (xss.take t)).map encP)) ∧ Hid (Below b w wr)) (fun i _ => n1 - (intOf i).toNat)
  case atStart => exact ⟨0, by omega, rfl, O0, HB0⟩
  case round =>
    clear O0 HB0 hmm
    obtain ⟨t, ht, rfl, HQ, HBw⟩ := hrel
    by_cases hlt : t < n1
    · obtain ⟨ad3, A3, n3, c3, x, rfl, _, hxt, hc3, hr3⟩ := (H1.out.below HBw.out).at_ hlt
      have hK := HX.out x (List.mem_of_getElem? hxt.out)
      have HK := Lib.hid hK
      have hn3 : n3 = k := by rw [← hr3.len]; exact hK.xl
      have HR3 := Lib.hid hr3
      have HSn := Lib.hid (show outF k fs (xss.take (t + 1)) = outF k fs (xss.take t) ++ partF k fs x k from by
        rw [List.take_add_one, hxt.out]
        exact outF_snoc k fs _ x)
      have HOl := Lib.hid (show (outF k fs (xss.take t)).length ≤ 2000 * 12341 from by
        have h5 := outF_len (k := k) (fs := fs) (xss := xss.take t) fun y hy => HX.out y (List.mem_of_mem_take hy)
        have h6 : (xss.take t).length ≤ 2000 := by rw [List.length_take]; omega
        exact Nat.le_trans h5 (Nat.mul_le_mul_right _ h6))
      obtain ⟨W, hW⟩ : ∃ W : World, W = wr := ⟨_, rfl⟩
      subst hW
      obtain ⟨w1, hmm, hrun, ho1, hb1, hz1⟩ := one_map W
      obtain ⟨b1, hb1e⟩ : ∃ b1, b1 = W.heap.size := ⟨_, rfl⟩
      obtain ⟨w0', hw0'⟩ : ∃ w0', w0' = W.alloc (.map #[] 0) := ⟨_, rfl⟩
      rw [← hb1e, ← hw0'] at hmm hrun
      rw [← hb1e] at ho1
      have HBb1 := Lib.hid (show b < b1 from by rw [hb1e]; exact HQ.out.lt)
      have HP1 := Lib.hid (show OwnP w1 b1 ((partF k fs x 0).map encP) from by
        have e : (partF k fs x 0).map encP = [0] := by
          show [encP (List.replicate k 0)] = [0]
          rw [enc_zeros]
        rw [e]; exact ho1)
      have HQ1 := Lib.hid (HQ.out.below hb1)
      have HB1 := Lib.hid (hb1.mono (Nat.le_of_lt HQ.out.lt))
      subst hn3
      clear hK hr3 hxt ho1 hb1 hz1 hb1e hw0'
      go_wp2_with fail
      go_loopw [8, 22] (fun m i wz => ∃ u b' : Nat, u ≤ n3 ∧ i = .int .i64 u ∧ m = .map (some b') ∧ Hid (b < b') ∧ Hid (OwnP wz b' ((partF n3 fs x u).map encP)) ∧ Hid (OwnP wz b ((outF n3 fs (xss.take t)).map encP)) ∧ Hid (Below b W wz)) (fun _ i _ => n3 - (intOf i).toNat)
      case atStart => exact ⟨0, b1, by omega, rfl, rfl, HBb1, HP1, HQ1, HB1⟩
      case round =>
        clear HP1 HQ1 HB1 HBb1
        obtain ⟨u, b', hu, rfl, rfl, HBb, HP, HQz, HBi⟩ := hrel
        have HBz := Lib.hid (HBw.out.trans HBi.out)
        by_cases hlt2 : u < n3
        · obtain ⟨ad4, nx, rfl, _, hnx, hc4⟩ := (HR3.out.below HBi.out).at_ hlt2
          have hun : u < n2 := by rw [← HL2.out, HK.out.fl]; exact hlt2
          obtain ⟨ad5, mf, rfl, _, hmf, hc5⟩ := (H2.out.below HBz.out).at_ (k := u) hun
          have hnx0 := HK.out.xp nx (List.mem_of_getElem? hnx.out)
          have hmf0 := HK.out.fr mf (List.mem_of_getElem? hmf.out)
          have hxe := HK.out.exp u
          obtain ⟨N, rfl⟩ : ∃ N : Nat, nx = N := ⟨nx.toNat, by omega⟩
          obtain ⟨F, rfl⟩ : ∃ F : Nat, mf = F := ⟨mf.toNat, by omega⟩
          have hF : F < 2 ^ n3 := by have := hmf0.2; rwa [Int.toNat_natCast] at this
          have hF16 : F < 16 := Nat.lt_of_lt_of_le hF (Nat.le_trans (Nat.pow_le_pow_right (by decide) hk) (by decide))
          have hN40 : N ≤ 40 := by rw [hnx.out] at hxe; simpa using hxe
          have HPS := Lib.hid (show partF n3 fs x (u + 1) = oddL (prodsP (partF n3 fs x u) (pwB n3 (formP n3 F) N)) from by
            rw [partF, hnx.out, hmf.out]
            simp only [Option.getD_some, Int.toNat_natCast])
          have HFH := Lib.hid (formP_hom hF)
          have HPH := Lib.hid (pwB_hom HFH.out (n := N) (by omega))
          have HPaH := Lib.hid (partF_hom HK.out u hu)
          have HPaM := Lib.hid (partF_mono HK.out u hu)
          have HPaL := Lib.hid (partF_len HK.out u hu)
          have HPM := Lib.hid (mono_of_hom HPH.out (by omega))
          have HPL := Lib.hid (pwB_len (k := n3) (n := N) (formP_len n3 F))
          have HPE := Lib.hid (prodI_enc HPaH.out HPH.out)
          have C1 := Lib.hid (formOf_any n3 F wr hF16 hF)
          have HLw := Lib.hid (show b ≤ wr.heap.size from by have := HP.out.lt; have := HBb.out; omega)
          clear hnx hmf hmf0 hxe hF hF16 hnx0
          go_wp2_with fail
          refine C1.out.mono ?_
          rintro e w3 ⟨b3, rfl, hbb3, ho3, hb3⟩
          have HP3 := Lib.hid (HP.out.below hb3)
          have HQ3 := Lib.hid (HQz.out.below hb3)
          have HB3 := Lib.hid (HBi.out.trans (hb3.mono HLw.out))
          have HL3 := Lib.hid (Nat.le_trans HLw.out hb3.size)
          have C2 := Lib.hid (power_any b3 n3 N (formP n3 F) w3 ho3 HFH.out (formP_len n3 F) hk hN40)
          clear hbb3 ho3 hb3
          go_wp2_with fail
          refine C2.out.mono ?_
          rintro e w4 ⟨b4, rfl, hbb4, ho4, hb4⟩
          have HP4 := Lib.hid (HP3.out.below hb4)
          have HQ4 := Lib.hid (HQ3.out.below hb4)
          have HB4 := Lib.hid (HB3.out.trans (hb4.mono HL3.out))
          have HL4 := Lib.hid (Nat.le_trans HL3.out hb4.size)
          have C3 := Lib.hid (times_any b' b4 _ _ w4 HP4.out ho4 (enc_lt HPaM.out hk) (enc_lt HPM.out hk) (by rw [List.length_map]; have := HPaL.out; omega) (by rw [List.length_map]; have := HPL.out; omega))
          rw [HPE.out] at C3
          clear hbb4 ho4 hb4
          go_wp2_with fail
          refine C3.out.mono ?_
          rintro e w5 ⟨b5, rfl, hbb5, ho5, hb5⟩
          have HP5 := Lib.hid (show OwnP w5 b5 ((partF n3 fs x (u + 1)).map encP) from by rw [HPS.out]; exact ho5.odd)
          have HQ5 := Lib.hid (HQ4.out.below hb5)
          have HB5 := Lib.hid (HB4.out.trans (hb5.mono HL4.out))
          have HBb5 := Lib.hid (show b < b5 from by have := HP4.out.lt; have := HBb.out; omega)
          clear hbb5 ho5 hb5
          go_wp2_with fail
          go_roundw
          case rel => exact ⟨u + 1, b5, by omega, by go_num, rfl, HBb5, HP5, HQ5, HB5⟩
          case measure => simp [intOf]; omega
        · obtain rfl : u = n3 := by omega
          have HSn2 := Lib.hid (show (outF u fs (xss.take (t + 1))).map encP = (outF u fs (xss.take t)).map encP ++ (partF u fs x u).map encP from by rw [HSn.out, List.map_append])
          have C1 := Lib.hid (plus_any b b' _ _ wr HQz.out HP.out (Nat.ne_of_lt HBb.out) (by
            rw [List.length_map, List.length_map]
            have := HOl.out
            have := partF_len HK.out u (Nat.le_refl _)
            omega))
          rw [← HSn2.out] at C1
          go_wp2_with fail
          refine C1.out.mono ?_
          rintro e w5 ⟨rfl, ho5, hg5⟩
          have HQ5 := Lib.hid ho5
          have HB5 := Lib.hid (HBz.out.grown hg5 (Nat.le_of_lt HQz.out.lt) (by intro g hg; injection hg with hg; omega))
          clear ho5 hg5
          go_wp2_with fail
          go_roundw
          case rel => exact ⟨t + 1, by omega, by go_num, HQ5, HB5⟩
          case measure => simp [intOf]; omega
    · have HE := Lib.hid (show xss.take t = xss from List.take_of_length_le (by rw [HL1.out]; omega))
      go_wp2_with fail
      rw [HR.out]
      exact RetMp.mk (b := b) (by rw [HBe.out]; exact Nat.le_refl _) HQ.out (by rw [HE.out]) (by rw [← HBe.out]; exact HBw.out)

/-! ### impl.SubstituteForms -/
def frmB (v : Int) (fs : List Int) : Bool := fs.all fun m => inB m 0 (((2 ^ v.toNat : Nat) : Int) - 1)
def subO (v : Int) (f : Pol) (fs : List Int) : Int × Pol × Int :=
  if polB v f = true then (if (fs.length : Int) = v ∧ frmB v fs = true then toldV v (oddL (outF v.toNat fs f)) else (0, [], 2)) else (0, [], 1)
theorem subO_bad {v : Int} {f : Pol} {fs : List Int} (h : polB v f = false) : subO v f fs = (0, [], 1) := by unfold subO; rw [if_neg (by rw [h]; simp)]
theorem subO_range {v : Int} {f : Pol} {fs : List Int} (h : polB v f = true) (h2 : ¬ ((fs.length : Int) = v ∧ frmB v fs = true)) : subO v f fs = (0, [], 2) := by unfold subO; rw [if_pos h, if_neg h2]
theorem subO_ok {v : Int} {f : Pol} {fs : List Int} (h : polB v f = true) (h2 : (fs.length : Int) = v) (h3 : frmB v fs = true) : subO v f fs = toldV v (oddL (outF v.toNat fs f)) := by unfold subO; rw [if_pos h, if_pos ⟨h2, h3⟩]
theorem frm_each {v : Int} {fs : List Int} (h : frmB v fs = true) : ∀ m ∈ fs, 0 ≤ m ∧ m.toNat < 2 ^ v.toNat := fun m hm => by
  unfold frmB at h
  have h1 := inB_iff.1 (List.all_eq_true.1 h m hm)
  have := Nat.two_pow_pos v.toNat
  omega
theorem subK_of {v : Int} {f : Pol} {fs : List Int} (hF : PolF v f) (h2 : (fs.length : Int) = v) (h3 : frmB v fs = true) : ∀ x ∈ f, SubK v.toNat fs x := fun x hx => by
  obtain ⟨a, b, c, d⟩ := hF.each x hx
  have := hF.lo
  have := hF.hi
  exact ⟨by omega, by omega, by omega, frm_each h3, by omega, fun z hz => (b z hz).1, c⟩
theorem isForm_any (m v : Int) (w : World) (h1 : 1 ≤ v) (h4 : v ≤ 4) : Calls Tryz.prog 76 #[.int .i64 m, .int .i64 v] w (RetP (inB m 0 (((2 ^ v.toNat : Nat) : Int) - 1)) w) := by
  obtain rfl | rfl | rfl | rfl : v = 1 ∨ v = 2 ∨ v = 3 ∨ v = 4 := by omega
  all_goals
    go_enter Tryz.func76, Tryz.ntmps76
    go_wp2_with fail
    refine (in_any m 0 _ _).mono ?_
    rintro e w1 ⟨rfl, rfl⟩
    go_wp2_with fail
    go_ret
    exact RetP.mk rfl
theorem form1_any (q : Nat) (m v : Int) (w : World) (hc : w.cell? ⟨q, 0, none⟩ = some (.int .i64 v)) (h1 : 1 ≤ v) (h4 : v ≤ 4) : Calls Tryz.prog 75 #[.int .i64 m, .pointer (some ⟨q, 0, none⟩)] w (RetP (inB m 0 (((2 ^ v.toNat : Nat) : Int) - 1)) w) := by
  obtain ⟨R, hR⟩ : ∃ R, R = RetP (inB m 0 (((2 ^ v.toNat : Nat) : Int) - 1)) w := ⟨_, rfl⟩
  have HR := Lib.hid hR
  rw [← hR]
  clear hR
  go_enter Tryz.func75, Tryz.ntmps75
  go_wp2_with fail
  refine (isForm_any m v w h1 h4).mono ?_
  rintro e w1 ⟨rfl, rfl⟩
  go_wp2_with fail
  rw [HR.out]
  exact RetP.mk rfl
theorem forms_cond (q : Nat) (v : Int) (fs : List Int) (w : World) (hc : w.cell? ⟨q, 0, none⟩ = some (.int .i64 v)) (hq : q < w.heap.size) (h1 : 1 ≤ v) (h4 : v ≤ 4) : Cond 75 #[.pointer (some ⟨q, 0, none⟩)] (fs.map (.int .i64)) (fun j => inB (fs[j]?.getD 0) 0 (((2 ^ v.toNat : Nat) : Int) - 1)) w :=
  ⟨enters_of Tryz.func75 (by kernel_rfl) rfl, fun j x hx w' hb => by
    rw [List.getElem?_map, Option.map_eq_some_iff] at hx
    obtain ⟨m, hm, rfl⟩ := hx
    have h := form1_any q m v w' ((hb.cell (p := ⟨q, 0, none⟩) hq).trans hc) h1 h4
    rw [hm]
    exact h.mono fun e w2 h2 => by
      obtain ⟨rfl, rfl⟩ := h2
      exact RetBb.mk rfl (Below.refl _ _)⟩
set_option maxRecDepth 100000 in
set_option maxHeartbeats 2000000 in
theorem iSubstituteForms (v : Int) (A1 A2 : Option Addr) (n1 c1 n2 c2 : Nat) (xss : Pol) (fs : List Int) (w : World) (h1 : RdL w w.heap.size A1 n1 c1 xss) (h2 : RdS w w.heap.size A2 n2 c2 fs) (hn1 : n1 ≤ 2000000) (ht1 : totalL xss ≤ 2000000) (hn2 : n2 ≤ 2000000) :
    Calls Tryz.prog 20 #[.agg #[.int .i64 v, .slice A1 n1 c1], .slice A2 n2 c2] w (RetPl (subO v xss fs) w) := by
  obtain ⟨w0, b, hw0, hbe, hb0, hz0, hF⟩ := start22 w (.int .i64 v) (.slice A1 n1 c1) (.int .i64 0) (.slice none 0 0) 26 26
  have HL1 := Lib.hid h1.len
  have HL2 := Lib.hid h2.len
  have H1 := Lib.hid (rdL_here h1 hb0); clear h1
  have H2 := Lib.hid ((h2.below hb0).mono hb0.size); clear h2
  have Hw := Lib.hid hw0; clear hw0
  have Hbe := Lib.hid hbe; clear hbe
  have Hb0 := Lib.hid hb0; clear hb0
  have HZ := Lib.hid hz0; clear hz0
  have F0 := Lib.hid hF; clear hF
  have X0 := Lib.hid (Below.refl w0.heap.size w0)
  obtain ⟨r1, hr1⟩ : ∃ r, r = polB v xss := ⟨_, rfl⟩
  have HR1 := Lib.hid hr1; clear hr1
  obtain ⟨o, ho⟩ : ∃ o, o = subO v xss fs := ⟨_, rfl⟩
  have HO := Lib.hid ho
  rw [← ho]
  clear ho
  go_enter Tryz.func20, Tryz.ntmps20
  go_wp2_with fail
  rw [← Hw.out, ← Hbe.out]
  have k0 := (F0.out.below X0.out).at_ (b := b) (o := 0) (V := .int .i64 v) (by simp)
  have k1 := (F0.out.below X0.out).at_ (b := b) (o := 1) (V := .slice A1 n1 c1) (by simp)
  refine (iIsPoly v A1 n1 c1 xss _ H1.out hn1 ht1).mono ?_
  rintro e w1 ⟨rfl, hb1⟩
  rw [← HR1.out]
  have X1 := Lib.hid hb1; clear hb1 k0 k1
  have k0 := (F0.out.below X1.out).at_ (b := b) (o := 0) (V := .int .i64 v) (by simp)
  have k1 := (F0.out.below X1.out).at_ (b := b) (o := 1) (V := .slice A1 n1 c1) (by simp)
  cases r1
  · have HV := Lib.hid (HO.out.trans (subO_bad HR1.out.symm))
    have q0 := (F0.out.below X1.out).at_ (b := b + 1) (o := 0) (V := .int .i64 0) (by simp)
    have q1 := (F0.out.below X1.out).at_ (b := b + 1) (o := 1) (V := .slice none 0 0) (by simp)
    have f0 := (F0.out.below X1.out).fr (b := b + 1) (o := 0) (V := .int .i64 0) (by simp)
    have f1 := (F0.out.below X1.out).fr (b := b + 1) (o := 1) (V := .slice none 0 0) (by simp)
    have hres := cells_end q0 q1 (.int .i64 0) (.slice none 0 0)
    go_wp2_with fail
    refine bodyPost_ret (v := .tuple #[.agg #[.int .i64 0, .slice none 0 0], .int .i64 1]) (by simp [results, Tryz.results20, go_sem, hres.1, hres.2]) rfl ?_
    exact RetNC.bad (by rw [HV.out]) (by rw [HV.out]) (by rw [HV.out]) (Hb0.out.trans (X1.out.mono Hb0.out.size)) (by rw [Hbe.out]; omega)
  · have HP1 := Lib.hid (polF_of HR1.out.symm)
    by_cases hv : (n2 : Int) = v
    · have hnv : ((n2 : Int) != v) = false := by simpa using hv
      have HVv := Lib.hid (show (fs.length : Int) = v from by rw [HL2.out]; exact hv)
      have hv14 : 1 ≤ v ∧ v ≤ 4 := ⟨HP1.out.lo, HP1.out.hi⟩
      have hqz : b < w1.heap.size := by have := X1.out.size; have := HZ.out; omega
      have HCond := Lib.hid (forms_cond b v fs w1 k0 hqz hv14.1 hv14.2)
      have hAll := allI_any A2 n2 c2 fs _ _ _ w1 ((H2.out.below X1.out).mono X1.out.size) hn2 HCond.out
      rw [all_range fs (fun m => inB m 0 (((2 ^ v.toNat : Nat) : Int) - 1)) _ n2 HL2.out (fun j hj => by simp [List.getElem?_eq_getElem hj])] at hAll
      have HAll := Lib.hid (show Calls Tryz.prog 74 #[.slice A2 n2 c2, .func (.func 75) #[] #[.pointer (some ⟨b, 0, none⟩)]] w1 (RetBb (frmB v fs) w1) from hAll)
      obtain ⟨fb, hfb⟩ : ∃ x, x = frmB v fs := ⟨_, rfl⟩
      rw [← hfb] at HAll
      have HFb := Lib.hid hfb
      clear hAll HCond hfb hv
      go_wp2_with fail
      refine HAll.out.mono ?_
      rintro e w2 ⟨rfl, hb2⟩
      have X2 := Lib.hid (X1.out.trans (hb2.mono X1.out.size))
      clear hb2 k0 k1
      have k0 := (F0.out.below X2.out).at_ (b := b) (o := 0) (V := .int .i64 v) (by simp)
      have k1 := (F0.out.below X2.out).at_ (b := b) (o := 1) (V := .slice A1 n1 c1) (by simp)
      cases fb
      · have HV := Lib.hid (HO.out.trans (subO_range HR1.out.symm fun h => by rw [← HFb.out] at h; exact absurd h.2 (by decide)))
        have q0 := (F0.out.below X2.out).at_ (b := b + 1) (o := 0) (V := .int .i64 0) (by simp)
        have q1 := (F0.out.below X2.out).at_ (b := b + 1) (o := 1) (V := .slice none 0 0) (by simp)
        have f0 := (F0.out.below X2.out).fr (b := b + 1) (o := 0) (V := .int .i64 0) (by simp)
        have f1 := (F0.out.below X2.out).fr (b := b + 1) (o := 1) (V := .slice none 0 0) (by simp)
        have hres := cells_end q0 q1 (.int .i64 0) (.slice none 0 0)
        go_wp2_with fail
        refine bodyPost_ret (v := .tuple #[.agg #[.int .i64 0, .slice none 0 0], .int .i64 2]) (by simp [results, Tryz.results20, go_sem, hres.1, hres.2]) rfl ?_
        exact RetNC.bad (by rw [HV.out]) (by rw [HV.out]) (by rw [HV.out]) (Hb0.out.trans (X2.out.mono Hb0.out.size)) (by rw [Hbe.out]; omega)
      · have HV := Lib.hid (HO.out.trans (subO_ok HR1.out.symm HVv.out HFb.out.symm))
        have HSK := Lib.hid (subK_of HP1.out HVv.out HFb.out.symm)
        obtain ⟨k, hk⟩ : ∃ k : Nat, v = k := ⟨v.toNat, by have := HP1.out.lo; omega⟩
        have hk4 : k ≤ 4 := by have := HP1.out.hi; omega
        subst hk
        rw [Int.toNat_natCast] at HV HSK
        have HL2000 := Lib.hid (show n1 ≤ 2000 from by rw [← HL1.out]; exact HP1.out.len)
        have HOM := Lib.hid (outF_mono HSK.out)
        have HOL := Lib.hid (show (outF k fs xss).length ≤ 100000000 from by
          have h5 := outF_len HSK.out
          have h6 : xss.length ≤ 2000 := HP1.out.len
          exact Nat.le_trans h5 (Nat.le_trans (Nat.mul_le_mul_right _ h6) (by decide)))
        have Bd := Lib.hid (show Below w0.heap.size w0 w2.drew from below_drewN X2.out 1)
        have Cd := Lib.hid (F0.out.below Bd.out)
        have kd0 := Cd.out.at_ (b := b) (o := 0) (V := .int .i64 k) (by simp)
        have kd1 := Cd.out.at_ (b := b) (o := 1) (V := .slice A1 n1 c1) (by simp)
        have mm0 : b + 1 ≠ b := by omega
        clear k0 k1 hnv
        go_wp2_with fail
        go_region_held3 (fun w' => w'.cell? ⟨b, 0, none⟩ = some (.int .i64 k) ∧ w'.cell? ⟨b, 1, none⟩ = some (.slice A1 n1 c1))
          (first | (with_reducible exact ⟨kd0, kd1⟩) | (with_reducible exact ⟨ka0, ka1⟩) | (with_reducible exact ⟨ke0, ke1⟩) | (with_reducible exact ⟨two_far mm0 ke0, two_far mm0 ke1⟩))
          (first
            | (go_at_call 77
               refine (substituted_any A1 A2 n1 c1 n2 c2 k xss fs _ (rdL_here H1.out Bd.out) ((H2.out.below Bd.out).mono Bd.out.size) HSK.out hk4 HL2000.out).mono ?_
               rintro e w6 ⟨p, rfl, hp6, op6, hb6⟩
               have B6 := Lib.hid (Bd.out.trans (hb6.mono Bd.out.size))
               have C6 := Lib.hid (F0.out.below B6.out)
               have ka0 := C6.out.at_ (b := b) (o := 0) (V := .int .i64 k) (by simp)
               have ka1 := C6.out.at_ (b := b) (o := 1) (V := .slice A1 n1 c1) (by simp)
               have HT := told_any p k (outF k fs xss) w6 op6 HOM.out (by omega) HOL.out
               rw [← HV.out] at HT
               have HT := Lib.hid HT
               clear hp6 op6 hb6)
            | (go_at_call 48
               refine HT.out.mono ?_
               rintro e w9 ⟨A9, c9, rfl, om9, hb9⟩
               have X9 := Lib.hid (B6.out.trans (hb9.mono B6.out.size))
               have O9 := Lib.hid (om9.mono B6.out.size (Nat.le_refl _))
               have C9 := Lib.hid (F0.out.below X9.out)
               have ke0 := C9.out.at_ (b := b) (o := 0) (V := .int .i64 k) (by simp)
               have ke1 := C9.out.at_ (b := b) (o := 1) (V := .slice A1 n1 c1) (by simp)
               have q0 := C9.out.at_ (b := b + 1) (o := 0) (V := .int .i64 0) (by simp)
               have q1 := C9.out.at_ (b := b + 1) (o := 1) (V := .slice none 0 0) (by simp)
               have f0 := C9.out.fr (b := b + 1) (o := 0) (V := .int .i64 0) (by simp)
               have f1 := C9.out.fr (b := b + 1) (o := 1) (V := .slice none 0 0) (by simp)
               clear om9 hb9))
        have hres := cells_end q0 q1 (.int .i64 o.1) (.slice A9 o.2.1.length c9)
        go_wp2_with fail
        refine bodyPost_ret (v := .tuple #[.agg #[.int .i64 o.1, .slice A9 o.2.1.length c9], .int .i64 o.2.2]) (by simp [results, Tryz.results20, go_sem, hres.1, hres.2]) rfl ?_
        exact RetNC.mk (V := w0.heap.size) rfl rfl rfl rfl (Hb0.out.trans (X9.out.mono Hb0.out.size)) (by rw [Hbe.out]; omega) (by rw [HZ.out]; omega) O9.out (Nat.le_refl _)
    · have hnv : ((n2 : Int) != v) = true := by simpa using hv
      have HV := Lib.hid (HO.out.trans (subO_range HR1.out.symm fun h => hv (by rw [← HL2.out]; exact h.1)))
      clear hv
      have q0 := (F0.out.below X1.out).at_ (b := b + 1) (o := 0) (V := .int .i64 0) (by simp)
      have q1 := (F0.out.below X1.out).at_ (b := b + 1) (o := 1) (V := .slice none 0 0) (by simp)
      have f0 := (F0.out.below X1.out).fr (b := b + 1) (o := 0) (V := .int .i64 0) (by simp)
      have f1 := (F0.out.below X1.out).fr (b := b + 1) (o := 1) (V := .slice none 0 0) (by simp)
      have hres := cells_end q0 q1 (.int .i64 0) (.slice none 0 0)
      go_wp2_with fail
      refine bodyPost_ret (v := .tuple #[.agg #[.int .i64 0, .slice none 0 0], .int .i64 2]) (by simp [results, Tryz.results20, go_sem, hres.1, hres.2]) rfl ?_
      exact RetNC.bad (by rw [HV.out]) (by rw [HV.out]) (by rw [HV.out]) (Hb0.out.trans (X1.out.mono Hb0.out.size)) (by rw [Hbe.out]; omega)
end Go.Proofs.YtoodhbafleemjaaGreat
