/- SeriesOfInvariants on both sides. -/
import Derived.Test.YtgoefodemjelaaaMono
namespace Go.Proofs.Ytgoefodemjelaaa
open Go.RowKit
set_option linter.unusedVariables false

theorem timesIt_allR {e g j : Nat} {xs : List Int} (h : allR xs) : allR (timesIt e g j xs) := by
  induction j generalizing xs with
  | zero => exact h
  | succ j ih => exact ih (addFrom_allR h)
theorem monoAt_allR {e g : Nat} {ms xs : List Int} (h : allR xs) : allR (monoAt e ms g xs) := by
  induction ms generalizing g xs with
  | nil => exact h
  | cons m ms ih => exact ih (timesIt_allR h)
theorem timesIt_comm (e g p j : Nat) (hg : 1 ≤ g) (hp : 1 ≤ p) (xs : List Int) (hl : xs.length = e) (hr : allR xs) : timesIt e g j (addFrom p e xs p) = addFrom p e (timesIt e g j xs) p := by
  induction j generalizing xs with
  | zero => rfl
  | succ j ih => rw [timesIt, timesIt, addFrom_comm g p e hg hp xs hl hr, ih (addFrom g e xs g) (by rw [addFrom_length]; exact hl) (addFrom_allR hr)]
theorem monoAt_comm (e p : Nat) (hp : 1 ≤ p) (ms : List Int) (g : Nat) (hg : 1 ≤ g) (xs : List Int) (hl : xs.length = e) (hr : allR xs) : monoAt e ms g (addFrom p e xs p) = addFrom p e (monoAt e ms g xs) p := by
  induction ms generalizing g xs with
  | nil => rfl
  | cons m ms ih => rw [monoAt, monoAt, timesIt_comm e g p _ hg hp xs hl hr, ih (g + 1) (by omega) _ (by rw [timesIt_length]; exact hl) (timesIt_allR hr)]
theorem timesIt_succ (e g j : Nat) (hg : 1 ≤ g) (xs : List Int) (hl : xs.length = e) (hr : allR xs) : timesIt e g (j + 1) xs = addFrom g e (timesIt e g j xs) g := by
  rw [timesIt, timesIt_comm e g g j hg hg xs hl hr]
theorem monoAt_bump (e : Nat) (ms : List Int) (g j : Nat) (hg : 1 ≤ g) (x : Int) (hx : ms[j]? = some x) (h0 : 0 ≤ x) (xs : List Int) (hl : xs.length = e) (hr : allR xs) :
    monoAt e (ms.set j (x + 1)) g xs = addFrom (g + j) e (monoAt e ms g xs) (g + j) := by
  induction ms generalizing g j xs with
  | nil => simp at hx
  | cons m ms ih =>
    cases j with
    | zero =>
      have hm : m = x := by simpa using hx
      subst hm
      rw [List.set_cons_zero, monoAt, monoAt, show (m + 1).toNat = m.toNat + 1 from by omega, timesIt_succ e g _ hg xs hl hr,
        monoAt_comm e g hg ms (g + 1) (by omega) _ (by rw [timesIt_length]; exact hl) (timesIt_allR hr)]
      rfl
    | succ j =>
      rw [List.set_cons_succ, monoAt, monoAt, ih (g + 1) j (by omega) (by simpa using hx) _ (by rw [timesIt_length]; exact hl) (timesIt_allR hr)]
      rw [show g + 1 + j = g + (j + 1) from by omega]
theorem oneL_allR (n : Nat) : allR (oneL n) := by
  intro x hx
  unfold oneL at hx
  rcases List.mem_or_eq_of_mem_set hx with h | rfl
  · have := List.eq_of_mem_replicate h; subst this; unfold inR; omega
  · unfold inR; omega
/-- one generator more -/
theorem monoX_bump (gs : List Int) (p : Nat) (hp : 1 ≤ p) (x : Int) (hx : gs[p]? = some x) (h0 : 0 ≤ x) (hz : gs[0]? = some 0) : monoX (gs.set p (x + 1)) = addFrom p gs.length (monoX gs) p := by
  cases gs with
  | nil => simp at hz
  | cons m ms =>
    have hm : m = 0 := by simpa using hz
    subst hm
    obtain ⟨q, rfl⟩ : ∃ q, p = q + 1 := ⟨p - 1, by omega⟩
    unfold monoX
    rw [List.set_cons_succ, monoAt, monoAt, List.length_cons, List.length_cons, List.length_set]
    have h := monoAt_bump (ms.length + 1) ms (0 + 1) q (by omega) x (by simpa using hx) h0 (timesIt (ms.length + 1) 0 (0 : Int).toNat (oneL (ms.length + 1))) (by rw [timesIt_length, oneL_length]) (timesIt_allR (oneL_allR _))
    rw [h, show 0 + 1 + q = q + 1 from by omega]
theorem monoAt_zeros (e n g : Nat) (xs : List Int) : monoAt e (List.replicate n 0) g xs = xs := by
  induction n generalizing g with
  | zero => rfl
  | succ n ih => rw [List.replicate_succ, monoAt]; exact ih (g + 1)
theorem monoX_zeros (n : Nat) : monoX (List.replicate n 0) = oneL n := by
  unfold monoX; rw [monoAt_zeros, List.length_replicate]

/-- the factors of the invariants: 2^k - 2^i for i below some number -/
def invAt (e k : Nat) : Nat → List Int
  | 0 => oneL e
  | i + 1 => addFrom (2 ^ k - 2 ^ i) e (invAt e k i) (2 ^ k - 2 ^ i)
theorem invAt_length (e k i : Nat) : (invAt e k i).length = e := by
  induction i with
  | zero => exact oneL_length e
  | succ i ih => rw [invAt, addFrom_length]; exact ih

def iokB (k d : Int) : Bool := inB k 1 6 && inB d 0 300
def invX (k d : Int) : List Int := invAt (d.toNat + 1) k.toNat k.toNat
def invN (k d : Int) : Nat := if iokB k d = true ∧ (invX k d).all smallB = true then d.toNat + 1 else 0
def invL (k d : Int) : List Int := if iokB k d = true ∧ (invX k d).all smallB = true then invX k d else []
def invC (k d : Int) : Int := if iokB k d = true then if (invX k d).all smallB = true then 0 else 3 else 2

theorem sSeriesOfInvariants_no (k d : Int) (w : World) (h : iokB k d = false) : Calls Try.prog 36 #[.int .i64 k, .int .i64 d] w (RetSC (invN k d) (invL k d) (invC k d) w) := by
  have Hp := Lib.hid h; clear h
  cases hk : inB k 1 6
  · have Hk := Lib.hid hk; clear hk
    go_enter Try.func36, Try.ntmps36
    go_wp2_with fail
    refine (l01In_any _ _ _ _).mono ?_
    rintro e w' ⟨rfl, rfl⟩
    rw [Hk.out]
    go_wp2_with fail
    go_ret2
    exact RetSC.mk (k' := 2) (by simp [invC, Hp.out]) (by simp [invN, Hp.out]) OwnS.nil (by simp [invL, Hp.out]) (Below.refl _ _)
  · have Hk := Lib.hid hk; clear hk
    have Hd : Hid (inB d 0 300 = false) := Lib.hid (by have := Hp.out; simpa [iokB, Hk.out] using this)
    go_enter Try.func36, Try.ntmps36
    go_wp2_with fail
    refine (l01In_any _ _ _ _).mono ?_
    rintro e w' ⟨rfl, rfl⟩
    rw [Hk.out]
    go_wp2_with fail
    refine (l01In_any _ _ _ _).mono ?_
    rintro e w' ⟨rfl, rfl⟩
    rw [Hd.out]
    go_wp2_with fail
    go_ret2
    exact RetSC.mk (k' := 2) (by simp [invC, Hp.out]) (by simp [invN, Hp.out]) OwnS.nil (by simp [invL, Hp.out]) (Below.refl _ _)
theorem iSeriesOfInvariants_no (k d : Int) (w : World) (h : iokB k d = false) : Calls Try.prog 37 #[.int .i64 k, .int .i64 d] w (RetSC (invN k d) (invL k d) (invC k d) w) := by
  have Hp := Lib.hid h; clear h
  cases hk : inB k 1 6
  · have Hk := Lib.hid hk; clear hk
    go_enter Try.func37, Try.ntmps37
    go_wp2_with fail
    refine (in_any _ _ _ _).mono ?_
    rintro e w' ⟨rfl, rfl⟩
    rw [Hk.out]
    go_wp2_with fail
    go_ret2
    exact RetSC.mk (k' := 2) (by simp [invC, Hp.out]) (by simp [invN, Hp.out]) OwnS.nil (by simp [invL, Hp.out]) (Below.refl _ _)
  · have Hk := Lib.hid hk; clear hk
    have Hd : Hid (inB d 0 300 = false) := Lib.hid (by have := Hp.out; simpa [iokB, Hk.out] using this)
    go_enter Try.func37, Try.ntmps37
    go_wp2_with fail
    refine (in_any _ _ _ _).mono ?_
    rintro e w' ⟨rfl, rfl⟩
    rw [Hk.out]
    go_wp2_with fail
    refine (isPlaces_any _ _).mono ?_
    rintro e w' ⟨rfl, rfl⟩
    rw [Hd.out]
    go_wp2_with fail
    go_ret2
    exact RetSC.mk (k' := 2) (by simp [invC, Hp.out]) (by simp [invN, Hp.out]) OwnS.nil (by simp [invL, Hp.out]) (Below.refl _ _)

theorem pow_lt {k i : Nat} (hik : i < k) : (2 : Nat) ^ i < 2 ^ k := Nat.pow_lt_pow_right (by omega) hik
theorem pow_le6 {k : Nat} (hk : k ≤ 6) : (2 : Nat) ^ k ≤ 64 := Nat.pow_le_pow_right (n := 2) (by omega) hk
theorem shl_ab (a b : Nat) (h1 : b < a) (h2 : a ≤ 64) : wrap64 (wrap64 (a : Int) - wrap64 (b : Int)) = ((a - b : Nat) : Int) := by
  unfold wrap64; omega
theorem cast_pow2 (k : Nat) : ((2 ^ k : Nat) : Int) = (2 : Int) ^ k := Int.natCast_pow 2 k
theorem shl_fact {k i : Nat} (hk : k ≤ 6) (hik : i < k) : wrap64 (wrap64 (2 ^ k) - wrap64 (2 ^ i)) = ((2 ^ k - 2 ^ i : Nat) : Int) := by
  rw [← cast_pow2, ← cast_pow2]
  exact shl_ab _ _ (pow_lt hik) (pow_le6 hk)

theorem sSeriesOfInvariants_yes (k d : Nat) (w : World) (h : iokB k d = true) : Calls Try.prog 36 #[.int .i64 k, .int .i64 d] w (RetSC (invN k d) (invL k d) (invC k d) w) := by
  have hp : inB k 1 6 = true ∧ inB d 0 300 = true := by simpa [iokB] using h
  have hk := inB_iff.1 hp.1
  have hd := inB_iff.1 hp.2
  have Hk := Lib.hid hp.1
  have Hd := Lib.hid hp.2
  have Hp := Lib.hid h
  clear hp h
  go_enter Try.func36, Try.ntmps36
  go_wp2_with fail
  refine (l01In_any _ _ _ _).mono ?_
  rintro e w' ⟨rfl, rfl⟩
  rw [Hk.out]
  go_wp2_with fail
  refine (l01In_any _ _ _ _).mono ?_
  rintro e w' ⟨rfl, rfl⟩
  rw [Hd.out]
  go_wp2_with fail
  refine (l18One_any (d + 1) _ (by omega) (by omega)).mono ?_
  rintro e w1 ⟨A1, c1, rfl, ho, hb⟩
  obtain ⟨B, hB⟩ : ∃ B, B = w'.heap.size := ⟨_, rfl⟩
  rw [← hB] at ho hb
  have HO := Lib.hid ho; clear ho
  have HB := Lib.hid hb; clear hb
  have HBe := Lib.hid hB; clear hB
  go_wp2_with fail
  go_loopw [6, 7] (fun o r wr => ∃ (i c : Nat) (A : Option Addr), i ≤ k ∧ r = .int .i64 i ∧ o = .slice A (d + 1) c ∧ OwnS wr B A (d + 1) c (invAt (d + 1) k i) ∧ Below B w' wr) (fun _ r _ => k - (intOf r).toNat)
  case atStart => exact ⟨0, _, _, by omega, rfl, rfl, HO.out, HB.out⟩
  case round =>
    clear HO HB
    obtain ⟨i, c, A, hi, rfl, rfl, HO, HB⟩ := hrel
    have HO1 := Lib.hid HO; clear HO
    have HB1 := Lib.hid HB; clear HB
    by_cases hik : i < k
    · have hsh := Lib.hid (shl_fact (show k ≤ 6 by omega) hik)
      have hlt := pow_lt hik
      have hle := pow_le6 (show k ≤ 6 by omega)
      obtain ⟨p, hp⟩ : ∃ p, p = 2 ^ k - 2 ^ i := ⟨_, rfl⟩
      have hp1 : 1 ≤ p := by rw [hp]; exact Nat.sub_pos_of_lt hlt
      have hp2 : p ≤ 64 := by rw [hp]; exact Nat.le_trans (Nat.sub_le _ _) hle
      have HP := Lib.hid hp
      rw [← hp] at hsh
      clear hlt hle hp
      go_wp2_with fail
      rw [hsh.out]
      refine (l18With_any A (d + 1) c _ p _ HO1.out.rd (by omega) (by omega) (by omega)).mono ?_
      rintro e w3 ⟨A3, c3, rfl, ho3, hb3⟩
      have hBs : B ≤ wr.heap.size := by have := HB1.out.size; have := HBe.out; omega
      have HO3 := Lib.hid (ho3.mono hBs); clear ho3
      have HB3 := Lib.hid (HB1.out.trans (hb3.mono hBs)); clear hb3 hBs
      go_wp2_with fail
      go_roundw
      case rel => exact ⟨i + 1, _, _, by omega, by go_num, rfl, by rw [invAt, ← HP.out]; exact HO3.out, HB3.out⟩
      case measure => simp [intOf]; omega
    · obtain rfl : i = k := by omega
      obtain ⟨X, hX⟩ : ∃ X, X = invAt (d + 1) i i := ⟨_, rfl⟩
      rw [← hX] at HO1
      have HX : Hid (invX i d = X) := Lib.hid (by rw [hX]; simp [invX])
      clear hX
      go_wp2_with fail
      refine (l18Fit_any A (d + 1) c _ _ HO1.out.rd (by omega) (by omega)).mono ?_
      rintro e w3 ⟨⟨hp, rfl⟩ | ⟨hp, rfl⟩, hb3⟩
      all_goals
        have hp' := hp.out
        rw [← HX.out] at hp'
        have HB3 := Lib.hid (HB1.out.trans (hb3.mono (by have := HB1.out.size; have := HBe.out; omega)))
        have HO3 := Lib.hid (HO1.out.below hb3); clear hb3
        have Hp' := Lib.hid hp'; clear hp'
        go_wp2_with fail
        go_ret2
        first
          | exact RetSC.mk (k' := 0) (by simp [invC, Hp.out, Hp'.out]) (by simp [invN, Hp.out, Hp'.out]) (HBe.out ▸ HO3.out) (by simp [invL, Hp.out, Hp'.out]; exact HX.out.symm) (HBe.out ▸ HB3.out)
          | exact RetSC.mk (k' := 3) (by simp [invC, Hp.out, Hp'.out]) (by simp [invN, Hp.out, Hp'.out]) OwnS.nil (by simp [invL, Hp.out, Hp'.out]) (HBe.out ▸ HB3.out)

theorem iSeriesOfInvariants_yes (k d : Nat) (w : World) (h : iokB k d = true) : Calls Try.prog 37 #[.int .i64 k, .int .i64 d] w (RetSC (invN k d) (invL k d) (invC k d) w) := by
  have hp : inB k 1 6 = true ∧ inB d 0 300 = true := by simpa [iokB] using h
  have hk := inB_iff.1 hp.1
  have hd := inB_iff.1 hp.2
  have Hk := Lib.hid hp.1
  have Hd := Lib.hid hp.2
  have Hp := Lib.hid h
  clear hp h
  obtain ⟨i0, hi, hz0, hz1, hz2⟩ := info_parts Try.info_i64
  go_enter Try.func37, Try.ntmps37
  go_wp2_with fail
  refine (in_any _ _ _ _).mono ?_
  rintro e w' ⟨rfl, rfl⟩
  rw [Hk.out]
  go_wp2_with fail
  refine (isPlaces_any _ _).mono ?_
  rintro e w' ⟨rfl, rfl⟩
  rw [Hd.out]
  obtain ⟨B, hB⟩ : ∃ B, B = w'.heap.size := ⟨_, rfl⟩
  have hBge : B ≤ w'.heap.size := by omega
  have HBe := Lib.hid hB; clear hB
  go_wp2_with (at_make; refine wpList_make_full _ rfl _ _ 22 rfl B 2 i0 (.int .i64 0) 1 Try.underlying22 hi hz0 hz1 .i64 .i64 _ _ (d+1) rfl rfl (by omega) (by omega) ?b2 ?b3 hBge ?_)
  case b2 => rw [hz2]; omega
  case b3 => unfold maxLen; omega
  intro w1 hown hgr
  have HB := Lib.hid (show Below B w' w1 from (Below.refl _ _).grown hgr hBge (by simp))
  have HO := Lib.hid (made_own hown)
  obtain ⟨g, hg⟩ : ∃ g, g = w'.heap.size := ⟨_, rfl⟩
  rw [← hg] at HO ⊢
  clear hown hgr hg hBge hi hz0 hz1 hz2 i0
  go_wp2_with fail
  go_loopw [21] (fun r wr => ∃ (i : Nat) (gs : List Int), i ≤ k ∧ r = .int .i64 i ∧ OwnS wr B (some ⟨g, 0, none⟩) (d + 1) (d + 1) gs ∧ Below B w' wr ∧ Hid (gs[0]? = some 0 ∧ (∀ x ∈ gs, 0 ≤ x ∧ x ≤ (i : Int)) ∧ monoX gs = invAt (d + 1) k i)) (fun r _ => k - (intOf r).toNat)
  case atStart => exact ⟨0, _, by omega, rfl, HO.out, HB.out, Lib.hid ⟨by simp [List.replicate_succ], fun x hx => by have := List.eq_of_mem_replicate hx; omega, monoX_zeros _⟩⟩
  case round =>
    clear HO HB
    obtain ⟨i, gs, hi, rfl, HO, HB, HG⟩ := hrel
    have HO1 := Lib.hid HO; clear HO
    have HB1 := Lib.hid HB; clear HB
    by_cases hik : i < k
    · have hsh := Lib.hid (shl_fact (show k ≤ 6 by omega) hik)
      have hlt := pow_lt hik
      have hle := pow_le6 (show k ≤ 6 by omega)
      obtain ⟨p, hp⟩ : ∃ p, p = 2 ^ k - 2 ^ i := ⟨_, rfl⟩
      have hp1 : 1 ≤ p := by rw [hp]; exact Nat.sub_pos_of_lt hlt
      have hp2 : p ≤ 64 := by rw [hp]; exact Nat.le_trans (Nat.sub_le _ _) hle
      have HP := Lib.hid hp
      rw [← hp] at hsh
      clear hlt hle hp
      by_cases hpd : p ≤ d
      · obtain ⟨g', x, hg', hBg, _, hx, hc, hf, hset⟩ := HO1.out.at_ (show p < d + 1 by omega)
        obtain rfl : g = g' := by simpa using hg'
        obtain ⟨hz, hall, hmono⟩ := HG.out
        have hxb := hall x (mem_of hx)
        have HO2 := Lib.hid (hset (x + 1)).1
        have hp0 : p ≠ 0 := by omega
        have HG2 : Hid ((gs.set p (x + 1))[0]? = some 0 ∧ (∀ y ∈ gs.set p (x + 1), 0 ≤ y ∧ y ≤ ((i + 1 : Nat) : Int)) ∧ monoX (gs.set p (x + 1)) = invAt (d + 1) k (i + 1)) := Lib.hid ⟨by
          rw [List.getElem?_set_ne hp0]; exact hz, fun y hy => by
          rcases List.mem_or_eq_of_mem_set hy with h | rfl
          · have := hall y h; omega
          · omega, by
          rw [monoX_bump gs p hp1 x hx.out hxb.1 hz, hmono, HO1.out.len, invAt, ← HP.out]⟩
        have hx2 : x ≤ 1000 := by omega
        have hx3 := hxb.1
        clear hset hg' hz hall hmono hxb hp0 HG
        go_wp2_with fail
        go_region
        rw [hsh.out]
        go_wp2_with fail
        go_roundw
        case rel => exact ⟨i + 1, _, by omega, by go_num, HO2.out.drew, (HB1.out.setCell hBg _).drew, HG2⟩
        case measure => simp [intOf]; omega
      · have HG2 : Hid (gs[0]? = some 0 ∧ (∀ y ∈ gs, 0 ≤ y ∧ y ≤ ((i + 1 : Nat) : Int)) ∧ monoX gs = invAt (d + 1) k (i + 1)) := Lib.hid ⟨HG.out.1, fun y hy => by have := HG.out.2.1 y hy; omega, by
          rw [HG.out.2.2, invAt, ← HP.out, addFrom_far (by omega)]⟩
        clear HG
        go_wp2_with fail
        go_region
        rw [hsh.out]
        go_wp2_with fail
        go_roundw
        case rel => exact ⟨i + 1, gs, by omega, by go_num, HO1.out.drew, HB1.out.drew, HG2⟩
        case measure => simp [intOf]; omega
    · obtain rfl : i = k := by omega
      obtain ⟨_, hall, hmono⟩ := HG.out
      have Hall := Lib.hid (show ∀ x ∈ gs, 0 ≤ x ∧ x ≤ 2000000000000 from fun x hx => by have := hall x hx; omega)
      obtain ⟨X, hX⟩ : ∃ X, X = monoX gs := ⟨_, rfl⟩
      have HX : Hid (invX i d = X) := Lib.hid (by rw [hX, hmono]; simp [invX])
      have HXm := Lib.hid hX
      clear hall hmono HG hX
      go_wp2_with fail
      refine (monomialCounts_any _ (d + 1) (d + 1) gs _ HO1.out.rd (by omega) (by omega) Hall.out).mono ?_
      rintro e w3 ⟨A3, c3, rfl, ho3, hb3⟩
      rw [← HXm.out] at ho3
      have hBs : B ≤ wr.heap.size := by have := HB1.out.size; have := HBe.out; omega
      have HO3 := Lib.hid (ho3.mono hBs); clear ho3
      have HB3 := Lib.hid (HB1.out.trans (hb3.mono hBs)); clear hb3 hBs
      go_wp2_with fail
      refine (limited_any _ (d + 1) _ X _ HO3.out.rd (by omega)).mono ?_
      rintro e w4 ⟨⟨hp, rfl⟩ | ⟨hp, rfl⟩, hb4⟩
      all_goals
        have hp' := hp.out
        rw [← HX.out] at hp'
        have HB4 := Lib.hid (HB3.out.trans (hb4.mono (by have := HB3.out.size; have := HBe.out; omega)))
        have HO4 := Lib.hid (HO3.out.below hb4); clear hb4
        have Hp' := Lib.hid hp'; clear hp'
        go_wp2_with fail
        go_ret2
        first
          | exact RetSC.mk (k' := 0) (by simp [invC, Hp.out, Hp'.out]) (by simp [invN, Hp.out, Hp'.out]) (HBe.out ▸ HO4.out) (by simp [invL, Hp.out, Hp'.out]; exact HX.out.symm) (HBe.out ▸ HB4.out)
          | exact RetSC.mk (k' := 3) (by simp [invC, Hp.out, Hp'.out]) (by simp [invN, Hp.out, Hp'.out]) OwnS.nil (by simp [invL, Hp.out, Hp'.out]) (HBe.out ▸ HB4.out)

theorem SeriesOfInvariants_both (k d : Int) (_wk : (Lit.int .i64 k).wf = true) (_wd : (Lit.int .i64 d).wf = true) : ∃ (n : Nat) (xs : List Int) (c : Int), n ≤ 1000000 ∧
    (∀ w, Calls Try.prog 36 #[.int .i64 k, .int .i64 d] w (RetSC n xs c w)) ∧ (∀ w, Calls Try.prog 37 #[.int .i64 k, .int .i64 d] w (RetSC n xs c w)) := by
  refine ⟨invN k d, invL k d, invC k d, ?_, ?_⟩
  · unfold invN
    split
    · rename_i h
      have hp : inB k 1 6 = true ∧ inB d 0 300 = true := by simpa [iokB] using h.1
      have := inB_iff.1 hp.2
      omega
    · omega
  · cases h : iokB k d
    · exact ⟨fun w => sSeriesOfInvariants_no k d w h, fun w => iSeriesOfInvariants_no k d w h⟩
    · have hp : inB k 1 6 = true ∧ inB d 0 300 = true := by simpa [iokB] using h
      have hk := inB_iff.1 hp.1
      have hd := inB_iff.1 hp.2
      obtain ⟨k, rfl⟩ := Int.eq_ofNat_of_zero_le (show 0 ≤ k by omega)
      obtain ⟨d, rfl⟩ := Int.eq_ofNat_of_zero_le (show 0 ≤ d by omega)
      exact ⟨fun w => sSeriesOfInvariants_yes k d w h, fun w => iSeriesOfInvariants_yes k d w h⟩
end Go.Proofs.Ytgoefodemjelaaa
