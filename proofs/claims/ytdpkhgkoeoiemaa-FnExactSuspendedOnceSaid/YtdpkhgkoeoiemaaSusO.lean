/- SuspendedOnce on both sides. -/
import Derived.Test.YtdpkhgkoeoiemaaUnsO
import Derived.Lib.QuietBelow
namespace Go.Proofs.Ytdpkhgkoeoiemaa
open Go.RowKit
set_option linter.unusedVariables false

theorem tabB_mod {ds : List Int} {act : List (List Int)} (h : modB ds act = true) : tabB ds act = true := by
  unfold modB at h
  exact (Bool.and_eq_true_iff.1 h).1
theorem stem_mod {ds : List Int} {act : List (List Int)} (h : modB ds act = true) : ∀ d ∈ ds, 0 ≤ d ∧ d ≤ 20 := stem_mem (tab_sort (tabB_mod h)).2

def posB (ds : List Int) : Bool := ds.all fun d => decide (0 < d)
def zeroB (ds : List Int) : Bool := ds.all fun d => d == 0
/-- what doubling makes of a basis element -/
def dbF (ds : List Int) (T : List Tri) (v : Nat) : Nat := spA T (ds[v]?.getD 0).toNat (2 ^ v)
def dbTo (ds : List Int) (T : List Tri) (k : Nat) : List Int := (List.range k).map fun v => ((dbF ds T v : Nat) : Int)
def dbL (ds : List Int) (T : List Tri) : List Int := dbTo ds T ds.length
theorem dbTo_snoc (ds : List Int) (T : List Tri) (k : Nat) : dbTo ds T (k + 1) = dbTo ds T k ++ [((dbF ds T k : Nat) : Int)] := by
  unfold dbTo; rw [List.range_succ, List.map_append]; rfl
/-- no element of degree 0, and no double, among the first k -/
def suT (ds : List Int) (T : List Tri) (k : Nat) : Prop := ∀ v, v < k → ds[v]?.getD 0 ≠ 0 ∧ dbF ds T v = 0
theorem suT.start {ds : List Int} {T : List Tri} : suT ds T 0 := fun v hv => by omega
theorem suT.step {ds : List Int} {T : List Tri} {k : Nat} (h : suT ds T k) (h0 : ds[k]?.getD 0 ≠ 0) (h1 : dbF ds T k = 0) : suT ds T (k + 1) := fun v hv => by
  by_cases e : v = k
  · subst e; exact ⟨h0, h1⟩
  · exact h v (by omega)
theorem suT_iff {ds : List Int} {T : List Tri} (hd : ∀ d ∈ ds, 0 ≤ d ∧ d ≤ 20) : suT ds T ds.length ↔ (posB ds && zeroB (dbL ds T)) = true := by
  rw [Bool.and_eq_true]
  unfold posB zeroB dbL dbTo
  rw [List.all_eq_true, List.all_eq_true]
  constructor
  · intro h
    refine ⟨fun d hm => ?_, fun x hx => ?_⟩
    · obtain ⟨v, hv⟩ := List.getElem?_of_mem hm
      have h1 := (h v (List.getElem?_eq_some_iff.1 hv).1).1
      rw [hv] at h1
      have h2 := hd d hm
      simp at h1 ⊢
      omega
    · obtain ⟨v, hv, rfl⟩ := List.mem_map.1 hx
      have h1 := (h v (List.mem_range.1 hv)).2
      rw [h1]; rfl
  · intro ⟨h1, h2⟩ v hv
    have hm : ds[v] ∈ ds := List.getElem_mem hv
    have h3 := h1 _ hm
    have h4 := h2 _ (List.mem_map.2 ⟨v, List.mem_range.2 hv, rfl⟩)
    rw [List.getElem?_eq_getElem hv]
    refine ⟨?_, by simpa using h4⟩
    simp at h3 ⊢
    omega
/-- the answer of SuspendedOnce -/
noncomputable def suB (ds : List Int) (act : List (List Int)) : Bool := modB ds act && ((ufL ds (act.map toT)).isEmpty && posB ds && zeroB (dbL ds (act.map toT)))
theorem suB_no {ds : List Int} {act : List (List Int)} (h : modB ds act = false) : suB ds act = false := by unfold suB; rw [h]; rfl
theorem suB_uf {ds : List Int} {act : List (List Int)} {xs : List Int} (h : modB ds act = true) (hx : ufL ds (act.map toT) = xs) (he : xs.isEmpty = false) : suB ds act = false := by unfold suB; rw [h, hx, he]; rfl
theorem suB_pz {ds : List Int} {act : List (List Int)} {xs : List Int} (h : modB ds act = true) (hx : ufL ds (act.map toT) = xs) (he : xs.isEmpty = true) : suB ds act = (posB ds && zeroB (dbL ds (act.map toT))) := by unfold suB; rw [h, hx, he]; rfl
theorem suB_yes {ds : List Int} {act : List (List Int)} {xs : List Int} (h : modB ds act = true) (hx : ufL ds (act.map toT) = xs) (he : xs.isEmpty = true) (hs : suT ds (act.map toT) ds.length) : suB ds act = true := by
  rw [suB_pz h hx he]; exact (suT_iff (stem_mod h)).1 hs
theorem suB_bad {ds : List Int} {act : List (List Int)} {xs : List Int} (h : modB ds act = true) (hx : ufL ds (act.map toT) = xs) (he : xs.isEmpty = true) (hs : ¬ suT ds (act.map toT) ds.length) : suB ds act = false := by
  rw [suB_pz h hx he, ← Bool.not_eq_true]; exact fun k => hs ((suT_iff (stem_mod h)).2 k)

theorem loop1_any (n : Int) (w : World) : Calls Try.prog 42 #[.int .i64 n] w (RetP (decide (0 < n)) w) := by
  go_enter Try.func42, Try.ntmps42
  go_wp2_with fail
  go_ret
  exact RetP.mk rfl
theorem susp1_any (n : Int) (w : World) : Calls Try.prog 32 #[.int .i64 n] w (RetP (n == 0) w) := by
  go_enter Try.func32, Try.ntmps32
  go_wp2_with fail
  go_ret
  exact RetP.mk rfl
theorem posAll_any (A : Option Addr) (n c : Nat) (xs : List Int) (w : World) (h : RdS w w.heap.size A n c xs) (hn : n ≤ 2000000) :
    Calls Try.prog 30 #[.slice A n c, .func (.func 42) #[] #[]] w (RetBb (posB xs) w) := by
  have hl := h.len
  refine (allI_any A n c xs _ _ _ w h hn (cond_of (fun x => decide (0 < x)) (enters_of Try.func42 (by kernel_rfl) rfl) loop1_any xs w)).mono ?_
  intro e w' hw
  rw [all_range xs (fun x => decide (0 < x)) _ n hl (fun j hj => by simp [List.getElem?_eq_getElem hj])] at hw
  exact hw
theorem zeroAll_any (A : Option Addr) (n c : Nat) (xs : List Int) (w : World) (h : RdS w w.heap.size A n c xs) (hn : n ≤ 2000000) :
    Calls Try.prog 30 #[.slice A n c, .func (.func 32) #[] #[]] w (RetBb (zeroB xs) w) := by
  have hl := h.len
  refine (allI_any A n c xs _ _ _ w h hn (cond_of (fun x => x == 0) (enters_of Try.func32 (by kernel_rfl) rfl) susp1_any xs w)).mono ?_
  intro e w' hw
  rw [all_range xs (fun x => x == 0) _ n hl (fun j hj => by simp [List.getElem?_eq_getElem hj])] at hw
  exact hw

set_option maxRecDepth 100000 in
set_option maxHeartbeats 1000000 in
theorem isLooped_any (A1 A2 : Option Addr) (n1 c1 n2 c2 : Nat) (ds : List Int) (act : List (List Int)) (w : World) (h : RdMod w A1 n1 c1 ds A2 n2 c2 act) (ht : TabF ds act) (hn2 : n2 ≤ 2000000) :
    Calls Try.prog 29 #[.agg #[.slice A1 n1 c1, .slice A2 n2 c2]] w (RetBb ((ufL ds (act.map toT)).isEmpty && posB ds) w) := by
  obtain ⟨w0, b, hw0, hbe, hb0, hz0', hF⟩ := start1 w (.slice A1 n1 c1) (.slice A2 n2 c2) 29
  have hn : n1 ≤ 16 := by rw [← h.ds.len]; exact ht.len
  have H := Lib.hid (h.below hb0)
  have Hw := Lib.hid hw0
  have Hbe := Lib.hid hbe
  have Hb0 := Lib.hid hb0
  have k0 := hF.at_ (b := b) (o := 0) (V := .slice A1 n1 c1) (by simp)
  have k1 := hF.at_ (b := b) (o := 1) (V := .slice A2 n2 c2) (by simp)
  have F0 := Lib.hid hF
  have C1 := Lib.hid (unsFault_any A1 A2 n1 c1 n2 c2 ds act w0 H.out ht hn2)
  obtain ⟨xs, hx⟩ : ∃ xs, xs = ufL ds (act.map toT) := ⟨_, rfl⟩
  rw [← hx] at C1 ⊢
  obtain ⟨p, hp⟩ : ∃ p, p = posB ds := ⟨_, rfl⟩
  have C2 := fun (W : World) (hB : Below w0.heap.size w0 W) => Lib.hid (posAll_any A1 n1 c1 ds W (H.out.below hB).ds (by omega))
  rw [← hp] at C2 ⊢
  obtain ⟨R, hR⟩ : ∃ R, R = RetBb (xs.isEmpty && p) w := ⟨_, rfl⟩
  have HR := Lib.hid hR
  rw [← hR]
  clear h hw0 hbe hb0 hF hR ht hx hp
  have hnil := fun (a : Option Addr) (n c n' c' : Nat) (W : World) => nilS a n c n' c' W
  go_enter Try.func29, Try.ntmps29
  go_wp2_with fail
  rw [← Hw.out, ← Hbe.out]
  go_wp2_with fail
  refine C1.out.mono ?_
  rintro e w1 ⟨A, c, rfl, ho, hA, hb1⟩
  have X1 := Lib.hid hb1
  have k2 := (F0.out.below X1.out).at_ (b := b) (o := 0) (V := .slice A1 n1 c1) (by simp)
  clear hb1 ho k0 k1 C1
  by_cases hxe : xs = []
  · subst hxe
    obtain rfl : A = none := by cases A <;> simp at hA ⊢
    go_wp2_with fail
    refine (C2 w1 X1.out).out.mono ?_
    rintro e w2 ⟨rfl, hb2⟩
    have X2 := Lib.hid (Hb0.out.trans ((X1.out.trans (hb2.mono X1.out.size)).mono Hb0.out.size))
    clear hb2
    go_wp2_with fail
    rw [HR.out]
    exact RetBb.mk rfl X2.out
  · obtain ⟨g, rfl⟩ : ∃ g, A = some g := by
      cases A with
      | none => exact absurd (by simpa using hA.symm) hxe
      | some g => exact ⟨g, rfl⟩
    have hle : xs.isEmpty = false := by cases xs <;> simp at hxe ⊢
    have HE := Lib.hid (show false = (xs.isEmpty && p) from by rw [hle]; rfl)
    clear hA hle hxe
    go_wp2_with fail
    rw [HR.out]
    exact RetBb.mk HE.out (Hb0.out.trans (X1.out.mono Hb0.out.size))

set_option maxRecDepth 100000 in
set_option maxHeartbeats 2000000 in
theorem doubles_any (A1 A2 : Option Addr) (n1 c1 n2 c2 : Nat) (ds : List Int) (act : List (List Int)) (w : World) (h : RdMod w A1 n1 c1 ds A2 n2 c2 act) (ht : TabF ds act) (hst : ∀ d ∈ ds, 0 ≤ d ∧ d ≤ 20) (hn2 : n2 ≤ 2000000) :
    Calls Try.prog 31 #[.agg #[.slice A1 n1 c1, .slice A2 n2 c2]] w (RetO n1 (dbL ds (act.map toT)) w) := by
  obtain ⟨w0, b, hw0, hbe, hb0, hz0', hF⟩ := start1 w (.slice A1 n1 c1) (.slice A2 n2 c2) 29
  have hn : n1 ≤ 16 := by rw [← h.ds.len]; exact ht.len
  have HL1 := Lib.hid h.ds.len
  have H := Lib.hid (h.below hb0)
  have HT := Lib.hid ht
  have HST := Lib.hid hst
  have Hw := Lib.hid hw0
  have Hbe := Lib.hid hbe
  have Hb0 := Lib.hid hb0
  have F0 := Lib.hid hF
  have C0 := Lib.hid (tableOf_any A1 A2 n1 c1 n2 c2 ds act w0 H.out ht hn2)
  have k0 := F0.out.at_ (b := b) (o := 0) (V := .slice A1 n1 c1) (by simp)
  have k1 := F0.out.at_ (b := b) (o := 1) (V := .slice A2 n2 c2) (by simp)
  obtain ⟨R, hR⟩ : ∃ R, R = RetO n1 (dbL ds (act.map toT)) w := ⟨_, rfl⟩
  have HR := Lib.hid hR
  rw [← hR]
  clear h ht hw0 hbe hb0 hF hR hz0' hst
  go_enter Try.func31, Try.ntmps31
  go_wp2_with fail
  rw [← Hw.out, ← Hbe.out]
  go_wp2_with fail
  refine C0.out.mono ?_
  rintro e wt ⟨t, rfl, hT, hbt⟩
  have S0 := Lib.hid (StS.start (w0 := wt) (w := wt) (B := wt.heap.size) (Below.refl _ _) (Nat.le_refl _))
  have XT := Lib.hid (show Below w.heap.size w wt from Hb0.out.trans (hbt.mono Hb0.out.size))
  have hbs : Below wt.heap.size wt (wt.alloc (.cells #[] 2)) := (Below.refl _ _).alloc (Nat.le_refl _) _
  have FT := Lib.hid (F0.out.below hbt)
  have HT0 := Lib.hid (H.out.below hbt)
  have HT1 := Lib.hid hT
  have k2 := (FT.out.below hbs).at_ (b := b) (o := 0) (V := .slice A1 n1 c1) (by simp)
  clear k0 k1 hbt hT C0 hbs
  go_wp2_with fail
  clear k2
  go_loopw [4, 13] (fun x i wr => ∃ (k c : Nat) (A : Option Addr), k ≤ n1 ∧ i = .int .i64 k ∧ x = .slice A k c ∧ Hid (StS wt wt.heap.size wr A k c (dbTo ds (act.map toT) k))) (fun _ i _ => n1 - (intOf i).toNat)
  case atStart => exact ⟨0, 0, _, Nat.zero_le _, rfl, rfl, S0⟩
  case round =>
    clear S0
    obtain ⟨k, c, A, hk, rfl, rfl, HS⟩ := hrel
    have HTB := Lib.hid (HT1.out.below HS.out.bel)
    have HD := Lib.hid (HT0.out.below HS.out.bel).ds
    have k0 := (FT.out.below HS.out.bel).at_ (b := b) (o := 0) (V := .slice A1 n1 c1) (by simp)
    by_cases hlt : k < n1
    · obtain ⟨adx, f, rfl, _, hf, hcf⟩ := HD.out.at_ (k := k) hlt
      have hfm := List.mem_of_getElem? hf.out
      have hfb := HST.out f hfm
      obtain ⟨d, rfl⟩ : ∃ d : Nat, f = (d : Int) := ⟨f.toNat, by omega⟩
      have HF := Lib.hid (show ds[k]?.getD 0 = (d : Int) from by rw [hf.out]; rfl)
      obtain ⟨g, hg, hrow⟩ := HTB.out.row d (by omega)
      obtain ⟨adr, z, had, _, hz, hcz⟩ := hrow.at_ (k := k) hlt
      obtain rfl : ⟨g, 0, none⟩ = adr := by simpa using had
      obtain ⟨y, hy⟩ : ∃ y, y = dbF ds (act.map toT) k := ⟨_, rfl⟩
      have hzy : z = (y : Int) := by
        have := hz.out
        rw [List.getElem?_map, List.getElem?_range hlt] at this
        rw [hy, dbF, HF.out, Int.toNat_natCast, HT.out.tri.row (by rw [HL1.out]; exact hlt)]
        exact (Option.some.inj this).symm
      subst hzy
      have HY := Lib.hid hy
      have hga : wr.cell? (⟨t, 1 + d, none⟩ : Addr) = some (.slice (some ⟨g, 0, none⟩) n1 n1) := hg
      have hcz2 : wr.cell? (⟨g, k, none⟩ : Addr) = some (.int .i64 (y : Int)) := by by_cases e : k = 0 <;> simpa [Addr.add, e] using hcz
      have hlt' : (k : Int) < (n1 : Int) := by omega
      have hk0 : (0 : Int) ≤ (k : Int) := by omega
      have hd21 : (d : Int) < 21 := by omega
      have hd0 : (0 : Int) ≤ (d : Int) := by omega
      clear hf hfm hfb hrow had hz hy hg hcz
      have HK := Lib.hid (dbTo_snoc ds (act.map toT) k)
      rw [← HY.out] at HK
      go_wp2_with (at_builtin; refine wpList_pushI rfl (.tmp 18) (.tmp 28) rfl rfl rfl HS.out (by omega) ?_)
      intro A6 c6 w6 hs6 _
      rw [← HK.out] at hs6
      have HS6 := Lib.hid hs6
      clear hs6
      go_wp2_with fail
      go_roundw
      case rel => exact ⟨k + 1, c6, A6, by omega, by go_num, rfl, HS6⟩
      case measure => simp [intOf]; omega
    · obtain rfl : k = n1 := by omega
      go_wp2_with fail
      rw [HR.out]
      exact ⟨_, _, rfl, by unfold dbL; rw [HL1.out]; exact HS.out.own.mono XT.out.size, XT.out.trans (HS.out.bel.mono XT.out.size)⟩

set_option maxRecDepth 100000 in
set_option maxHeartbeats 1000000 in
theorem iSuspendedOnce_any (A1 A2 : Option Addr) (n1 c1 n2 c2 : Nat) (ds : List Int) (act : List (List Int)) (w : World) (h : RdMod w A1 n1 c1 ds A2 n2 c2 act) (hn1 : n1 ≤ 2000000) (hn2 : n2 ≤ 2000000) (ht : totalL act ≤ 2000000) :
    Calls Try.prog 12 #[.agg #[.slice A1 n1 c1, .slice A2 n2 c2]] w (RetBIC (suB ds act) (unK ds act) w) := by
  obtain ⟨w0, b, hw0, hbe, hb0, hz0', hF⟩ := start1 w (.slice A1 n1 c1) (.slice A2 n2 c2) 29
  have H := Lib.hid (h.below hb0)
  have Hw := Lib.hid hw0
  have Hbe := Lib.hid hbe
  have Hb0 := Lib.hid hb0
  have k0 := hF.at_ (b := b) (o := 0) (V := .slice A1 n1 c1) (by simp)
  have k1 := hF.at_ (b := b) (o := 1) (V := .slice A2 n2 c2) (by simp)
  have F0 := Lib.hid hF
  have C1 := Lib.hid (isModule_any A1 A2 n1 c1 n2 c2 ds act w0 H.out hn1 hn2 ht)
  obtain ⟨R, hR⟩ : ∃ R, R = RetBIC (suB ds act) (unK ds act) w := ⟨_, rfl⟩
  have HR := Lib.hid hR
  rw [← hR]
  clear h hw0 hbe hb0 hF hR ht
  obtain ⟨t, htt⟩ : ∃ t, t = modB ds act := ⟨_, rfl⟩
  rw [← htt] at C1
  cases t
  · have HV := Lib.hid htt.symm
    clear htt
    go_enter Try.func12, Try.ntmps12
    go_wp2_with fail
    rw [← Hw.out, ← Hbe.out]
    go_wp2_with fail
    refine C1.out.mono ?_
    rintro e w1 ⟨rfl, hb1⟩
    have X1 := Lib.hid (Hb0.out.trans (hb1.mono Hb0.out.size))
    clear hb1
    go_wp2_with fail
    rw [HR.out]
    exact RetBIC.mk (suB_no HV.out).symm (unK_no HV.out).symm X1.out
  · have HV := Lib.hid htt.symm
    have HTF := Lib.hid (tabF_mod htt.symm)
    have HST := Lib.hid (stem_mod htt.symm)
    have C2 := fun (W : World) (hB : Below w0.heap.size w0 W) => Lib.hid (isLooped_any A1 A2 n1 c1 n2 c2 ds act W (H.out.below hB) HTF.out hn2)
    have C3 := fun (W : World) (hB : Below w0.heap.size w0 W) => Lib.hid (doubles_any A1 A2 n1 c1 n2 c2 ds act W (H.out.below hB) HTF.out HST.out hn2)
    have C4 := fun (W : World) (A : Option Addr) (c : Nat) (hr : RdS W W.heap.size A n1 c (dbL ds (act.map toT))) => Lib.hid (zeroAll_any A n1 c _ W hr hn1)
    have HS := Lib.hid (show suB ds act = ((ufL ds (act.map toT)).isEmpty && posB ds && zeroB (dbL ds (act.map toT))) from by unfold suB; rw [htt.symm]; rfl)
    obtain ⟨zs, hz⟩ : ∃ zs, zs = dbL ds (act.map toT) := ⟨_, rfl⟩
    obtain ⟨p, hp⟩ : ∃ p, p = ((ufL ds (act.map toT)).isEmpty && posB ds) := ⟨_, rfl⟩
    obtain ⟨z, hzz⟩ : ∃ z, z = zeroB zs := ⟨_, rfl⟩
    rw [← hz] at C3 C4 HS
    rw [← hp] at C2 HS
    rw [← hzz] at C4 HS
    clear htt hz hp hzz
    go_enter Try.func12, Try.ntmps12
    go_wp2_with fail
    rw [← Hw.out, ← Hbe.out]
    go_wp2_with fail
    refine C1.out.mono ?_
    rintro e w1 ⟨rfl, hb1⟩
    have X1 := Lib.hid hb1
    have k2 := (F0.out.below X1.out).at_ (b := b) (o := 0) (V := .slice A1 n1 c1) (by simp)
    have k3 := (F0.out.below X1.out).at_ (b := b) (o := 1) (V := .slice A2 n2 c2) (by simp)
    clear hb1 k0 k1
    go_wp2_with fail
    refine (C2 w1 X1.out).out.mono ?_
    rintro e w2 ⟨rfl, hb2⟩
    have X2 := Lib.hid (X1.out.trans (hb2.mono X1.out.size))
    have k4 := (F0.out.below X2.out).at_ (b := b) (o := 0) (V := .slice A1 n1 c1) (by simp)
    have k5 := (F0.out.below X2.out).at_ (b := b) (o := 1) (V := .slice A2 n2 c2) (by simp)
    clear hb2 k2 k3
    cases p
    · go_wp2_with fail
      rw [HR.out]
      exact RetBIC.mk (by rw [HS.out]; rfl) (unK_yes HV.out).symm (Hb0.out.trans (X2.out.mono Hb0.out.size))
    · go_wp2_with fail
      refine (C3 w2 X2.out).out.mono ?_
      rintro e w3 ⟨A3, c3, rfl, ho3, hb3⟩
      have X3 := Lib.hid (X2.out.trans (hb3.mono X2.out.size))
      have C5 := C4 w3 A3 c3 ho3.rd
      clear ho3 hb3 k4 k5
      go_wp2_with fail
      refine C5.out.mono ?_
      rintro e w4 ⟨rfl, hb4⟩
      have X4 := Lib.hid (Hb0.out.trans ((X3.out.trans (hb4.mono X3.out.size)).mono Hb0.out.size))
      clear hb4
      go_wp2_with fail
      rw [HR.out]
      exact RetBIC.mk (by rw [HS.out]; rfl) (unK_yes HV.out).symm X4.out

set_option maxRecDepth 100000 in
set_option maxHeartbeats 2000000 in
theorem sSuspendedOnce_any (A1 A2 : Option Addr) (n1 c1 n2 c2 : Nat) (ds : List Int) (act : List (List Int)) (w : World) (h : RdMod w A1 n1 c1 ds A2 n2 c2 act) (hn1 : n1 ≤ 2000000) (hn2 : n2 ≤ 2000000) (ht : totalL act ≤ 2000000) :
    Calls Try.prog 11 #[.agg #[.slice A1 n1 c1, .slice A2 n2 c2]] w (RetBIC (suB ds act) (unK ds act) w) := by
  obtain ⟨w0, b, hw0, hbe, hb0, hz0', hF⟩ := start1 w (.slice A1 n1 c1) (.slice A2 n2 c2) 29
  have HL1 := Lib.hid h.ds.len
  have H := Lib.hid (h.below hb0)
  have Hw := Lib.hid hw0
  have Hbe := Lib.hid hbe
  have Hb0 := Lib.hid hb0
  have k0 := hF.at_ (b := b) (o := 0) (V := .slice A1 n1 c1) (by simp)
  have k1 := hF.at_ (b := b) (o := 1) (V := .slice A2 n2 c2) (by simp)
  have F0 := Lib.hid hF
  have C1 := Lib.hid (l11Is_any A1 A2 n1 c1 n2 c2 ds act w0 H.out hn1 hn2 ht)
  obtain ⟨R, hR⟩ : ∃ R, R = RetBIC (suB ds act) (unK ds act) w := ⟨_, rfl⟩
  have HR := Lib.hid hR
  rw [← hR]
  clear h hw0 hbe hb0 hF hR ht
  obtain ⟨t, htt⟩ : ∃ t, t = modB ds act := ⟨_, rfl⟩
  rw [← htt] at C1
  cases t
  · have HV := Lib.hid htt.symm
    clear htt
    go_enter Try.func11, Try.ntmps11
    go_wp2_with fail
    rw [← Hw.out, ← Hbe.out]
    go_wp2_with fail
    refine C1.out.mono ?_
    rintro e w1 ⟨rfl, hb1⟩
    have X1 := Lib.hid (Hb0.out.trans (hb1.mono Hb0.out.size))
    clear hb1
    go_wp2_with fail
    rw [HR.out]
    exact RetBIC.mk (suB_no HV.out).symm (unK_no HV.out).symm X1.out
  · have HV := Lib.hid htt.symm
    have HTF := Lib.hid (tabF_mod htt.symm)
    have HST := Lib.hid (stem_mod htt.symm)
    have hn : n1 ≤ 16 := by rw [← HL1.out]; exact HTF.out.len
    have C2 := fun (W : World) (hB : Below w0.heap.size w0 W) => Lib.hid (fault17_any A1 A2 n1 c1 n2 c2 ds act W (H.out.below hB) HTF.out hn2)
    obtain ⟨xs, hx⟩ : ∃ xs, xs = ufL ds (act.map toT) := ⟨_, rfl⟩
    rw [← hx] at C2
    have HU := Lib.hid hx.symm
    clear htt hx
    go_enter Try.func11, Try.ntmps11
    go_wp2_with fail
    rw [← Hw.out, ← Hbe.out]
    go_wp2_with fail
    refine C1.out.mono ?_
    rintro e w1 ⟨rfl, hb1⟩
    have X1 := Lib.hid hb1
    have k2 := (F0.out.below X1.out).at_ (b := b) (o := 0) (V := .slice A1 n1 c1) (by simp)
    have k3 := (F0.out.below X1.out).at_ (b := b) (o := 1) (V := .slice A2 n2 c2) (by simp)
    clear hb1 k0 k1
    go_wp2_with fail
    refine (C2 w1 X1.out).out.mono ?_
    rintro e w2 ⟨A, c, rfl, ho, hA, hb2⟩
    have X2 := Lib.hid (X1.out.trans (hb2.mono X1.out.size))
    clear hb2 ho hA k2 k3
    by_cases hxe : xs = []
    · subst hxe
      have R0 := Lib.hid (Below.refl w2.heap.size w2)
      go_wp2_with fail
      go_loopw [4] (fun i wr => ∃ v : Nat, v ≤ n1 ∧ i = .int .i64 v ∧ Hid (suT ds (act.map toT) v) ∧ Hid (Below w0.heap.size w0 wr)) (fun i _ => n1 - (intOf i).toNat)
      case atStart => exact ⟨0, Nat.zero_le _, rfl, Lib.hid suT.start, X2⟩
      case round =>
        clear X2 R0
        obtain ⟨v, hv, rfl, HN, HX⟩ := hrel
        have k0 := (F0.out.below HX.out).at_ (b := b) (o := 0) (V := .slice A1 n1 c1) (by simp)
        have k1 := (F0.out.below HX.out).at_ (b := b) (o := 1) (V := .slice A2 n2 c2) (by simp)
        by_cases hvn : v < n1
        · obtain ⟨adx, f, rfl, _, hf, hcf⟩ := (H.out.below HX.out).ds.at_ (k := v) hvn
          have hfb := HST.out f (List.mem_of_getElem? hf.out)
          obtain ⟨d, rfl⟩ : ∃ d : Nat, f = (d : Int) := ⟨f.toNat, by omega⟩
          have HF := Lib.hid (show ds[v]?.getD 0 = (d : Int) from by rw [hf.out]; rfl)
          have hv' : (v : Int) < (n1 : Int) := by omega
          have hv0 : (0 : Int) ≤ (v : Int) := by omega
          have hv64 : (v : Int) < 64 := by omega
          clear hf hfb
          go_wp2_with fail
          have g0 := cell_regrown k0
          have g1 := cell_regrown k1
          have g2 := cell_regrown hcf
          by_cases hd0 : d = 0
          · subst hd0
            have HBad := Lib.hid (suB_bad HV.out HU.out rfl (fun h => (h v (by rw [HL1.out]; exact hvn)).1 (by rw [HF.out]; rfl)))
            refine wp_region_quiet_below (by kernel_rfl) (by kernel_rfl) ?_
            repeat (go_big_quiet_step (fail))
            refine wpQuiet_nil ?_
            intro _ hw'
            obtain ⟨⟨dq, osq⟩, hw''⟩ := hw'
            subst hw''
            have hb3 := below_regrown wr dq osq
            obtain ⟨w3, hwq⟩ : ∃ W, W = Sort.grow (redrawn wr dq) osq := ⟨_, rfl⟩
            rw [← hwq] at hb3 ⊢
            clear hwq
            have X3 := Lib.hid (Hb0.out.trans ((HX.out.trans (hb3.mono HX.out.size)).mono Hb0.out.size))
            clear g0 g1 g2 k0 k1 hcf
            go_wp2_with fail
            rw [HR.out]
            exact RetBIC.mk HBad.out.symm (unK_yes HV.out).symm X3.out
          · obtain ⟨p2, hp2⟩ : ∃ p2, p2 = 2 ^ v := ⟨_, rfl⟩
            have hw2 : wrap64 ((2 : Int) ^ v) = (p2 : Int) := by rw [wrap_two (by omega), hp2]
            have hd1 : ((d : Int) == 0) = false := by simp; omega
            have hd2 : (d == 0) = false := by simp; omega
            have D1 := fun (W : World) (hB : Below wr.heap.size wr W) => Lib.hid (act12_any (some adx) A2 n1 c1 n2 c2 d p2 ds act W (H.out.below (HX.out.trans (hB.mono HX.out.size))) HTF.out hn2 (by rw [hp2]; exact two_pow_lt hvn))
            obtain ⟨y, hy⟩ : ∃ y, y = spA (act.map toT) d p2 := ⟨_, rfl⟩
            rw [← hy] at D1
            have HY := Lib.hid (show dbF ds (act.map toT) v = y from by rw [dbF, HF.out, hy, hp2]; rfl)
            clear hy hp2
            by_cases hy0 : y = 0
            · have HN2 := Lib.hid (HN.out.step (by rw [HF.out]; omega) (by rw [HY.out]; exact hy0))
              have hs1 : ((y : Int) == 0) = true := by simp [hy0]
              have hs2 : ((y : Int) != 0) = false := by simp [hy0]
              have hs3 : (y == 0) = true := by simp [hy0]
              clear hy0 HN
              refine wp_region_quiet_below (by kernel_rfl) (by kernel_rfl) ?_
              repeat (go_big_quiet_step ((go_at_call 28; exact Calls.regrown_of ((D1 _ (below_regrown _ _ _)).out))))
              refine wpQuiet_nil ?_
              intro _ hw'
              obtain ⟨⟨dq, osq⟩, hw''⟩ := hw'
              subst hw''
              have hb3 := below_regrown wr dq osq
              obtain ⟨w3, hwq⟩ : ∃ W, W = Sort.grow (redrawn wr dq) osq := ⟨_, rfl⟩
              rw [← hwq] at hb3 ⊢
              clear hwq
              have X3 := Lib.hid (HX.out.trans (hb3.mono HX.out.size))
              clear g0 g1 g2 k0 k1 hcf
              go_wp2_with fail
              go_roundw
              case rel => exact ⟨v + 1, by omega, by go_num, HN2, X3⟩
              case measure => simp [intOf]; omega
            · have HBad := Lib.hid (suB_bad HV.out HU.out rfl (fun h => hy0 (by rw [← HY.out]; exact (h v (by rw [HL1.out]; exact hvn)).2)))
              have hs1 : ((y : Int) == 0) = false := by simp; omega
              have hs2 : ((y : Int) != 0) = true := by simp; omega
              have hs3 : (y == 0) = false := by simp; omega
              clear hy0 HN
              refine wp_region_quiet_below (by kernel_rfl) (by kernel_rfl) ?_
              repeat (go_big_quiet_step ((go_at_call 28; exact Calls.regrown_of ((D1 _ (below_regrown _ _ _)).out))))
              refine wpQuiet_nil ?_
              intro _ hw'
              obtain ⟨⟨dq, osq⟩, hw''⟩ := hw'
              subst hw''
              have hb3 := below_regrown wr dq osq
              obtain ⟨w3, hwq⟩ : ∃ W, W = Sort.grow (redrawn wr dq) osq := ⟨_, rfl⟩
              rw [← hwq] at hb3 ⊢
              clear hwq
              have X3 := Lib.hid (Hb0.out.trans ((HX.out.trans (hb3.mono HX.out.size)).mono Hb0.out.size))
              clear g0 g1 g2 k0 k1 hcf
              go_wp2_with fail
              rw [HR.out]
              exact RetBIC.mk HBad.out.symm (unK_yes HV.out).symm X3.out
        · obtain rfl : v = n1 := by omega
          have HY := Lib.hid (suB_yes HV.out HU.out rfl (by rw [HL1.out]; exact HN.out))
          go_wp2_with fail
          rw [HR.out]
          exact RetBIC.mk HY.out.symm (unK_yes HV.out).symm (Hb0.out.trans (HX.out.mono Hb0.out.size))
    · obtain ⟨l, hl⟩ : ∃ l, l = xs.length := ⟨_, rfl⟩
      have hl0 : 0 < l := by rw [hl]; exact List.length_pos_iff.2 hxe
      have HE := Lib.hid (show xs.isEmpty = false from by cases xs <;> simp at hxe ⊢)
      rw [← hl]
      have hk3 : (0 : Int) < (l : Int) := by omega
      clear hxe hl
      go_wp2_with fail
      rw [HR.out]
      exact RetBIC.mk (suB_uf HV.out HU.out HE.out).symm (unK_yes HV.out).symm (Hb0.out.trans (X2.out.mono Hb0.out.size))
end Go.Proofs.Ytdpkhgkoeoiemaa
