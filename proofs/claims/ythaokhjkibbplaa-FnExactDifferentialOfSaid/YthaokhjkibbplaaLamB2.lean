/- lambdaBefore: a generator before an admissible word. -/
import Derived.Test.YthaokhjkibbplaaLamW
import Derived.Test.YthaokhjkibbplaaLawK
namespace Go.Proofs.Ythaokhjkibbplaa
open Go.RowKit
set_option linter.unusedVariables false

theorem It.grown {lo hi : Nat} {P : World → Prop} {w w' : World} {row : Option Nat} (h : It lo hi P w) (hg : w.grownBy w' row) (hr : ∀ g, row = some g → g < lo ∨ hi ≤ g) : It lo hi P w' :=
  h.to hg.size hg.os hg.tape hg.output fun g h1 h2 => hg.block g (Nat.lt_of_lt_of_le h2 h.le) fun e => by have := hr g e.symm; omega
theorem own_oneI (w : World) (x : Int) (K : Nat) (hK : K ≤ w.heap.size) : OwnS (w.alloc (.cells #[.int .i64 x] 2)) K (some ⟨w.heap.size, 0, none⟩) 1 1 [x] :=
  ⟨rfl, rfl, .inr ⟨w.heap.size, 1, _, rfl, hK, heap_alloc_new w _, Nat.le_refl _, by unfold maxLen; omega, rfl, rfl⟩⟩
theorem StS.one {w0 w : World} {B : Nat} (x : Int) (hb : Below B w0 w) (hB : B ≤ w.heap.size) : StS w0 B (w.alloc (.cells #[.int .i64 x] 2)) (some ⟨w.heap.size, 0, Option.none⟩) 1 1 [x] := ⟨own_oneI w x B hB, hb.alloc hB _, Nat.le_trans hB (by simp)⟩
theorem ownL_oneS {w : World} {B n c : Nat} {A : Option Addr} {xs : List Int} (h : OwnS w B A n c xs) (hB : B ≤ w.heap.size) : OwnL (w.alloc (.cells #[.slice A n c] 40)) B w.heap.size (some ⟨w.heap.size, 0, none⟩) 1 1 [xs] := by
  have hb : Below w.heap.size w (w.alloc (.cells #[.slice A n c] 40)) := (Below.refl _ _).alloc (Nat.le_refl _) _
  refine ⟨rfl, [.slice A n c], ⟨rfl, by simp, .inr ⟨w.heap.size, 1, _, rfl, hB, heap_alloc_new w _, Nat.le_refl _, by unfold maxLen; omega, rfl, rfl⟩⟩, fun j v ys hv hy => ?_, fun i j u v g hij hu hv _ => ?_⟩
  · have : j = 0 := by
      have := (List.getElem?_eq_some_iff.1 hv).1
      simpa using this
    subst this
    simp only [List.getElem?_cons_zero, Option.some.injEq] at hv hy
    subst hv; subst hy
    exact ⟨A, n, c, rfl, h.below hb, fun g hg => (h.own.lt g hg).2⟩
  · have h1 := (List.getElem?_eq_some_iff.1 hu).1
    have h2 := (List.getElem?_eq_some_iff.1 hv).1
    simp only [List.length_cons, List.length_nil] at h1 h2
    omega
theorem tot_le (xss : List (List Int)) (b : Nat) (h : ∀ r ∈ xss, r.length ≤ b) : totalL xss ≤ xss.length * b := by
  induction xss with
  | nil => simp [totalL]
  | cons x xs ih =>
    have h1 := h x (by simp)
    have h2 := ih fun r hr => h r (List.mem_cons_of_mem _ hr)
    simp only [totalL, List.map_cons, List.sum_cons, List.length_cons, Nat.add_mul, Nat.one_mul] at h2 ⊢
    omega
theorem oddL_single (x : List Int) : oddL [x] = [x] := oddL_of_asc (by simp [Asc])
def tailA (A : Option Addr) (c : Nat) : Option Addr := match A with
  | none => none
  | some ad => if c = 1 then some ad else some (ad.add 1)
theorem RdS.tail {w : World} {B n c : Nat} {A : Option Addr} {b : Int} {r : List Int} (h : RdS w B A n c (b :: r)) : RdS w B (tailA A c) (n - 1) (c - 1) r := by
  have hl := h.len
  have hc := h.cap
  simp only [List.length_cons] at hl
  obtain ⟨ad, rfl, hb, hcell⟩ := h.cell 0 (by simp)
  refine ⟨by omega, by omega, fun j hj => ?_⟩
  obtain ⟨ad', e, _, hc'⟩ := h.cell (j + 1) (by simp; omega)
  obtain rfl : ad = ad' := by simpa using e
  refine ⟨ad.add 1, ?_, by rw [block_of_add]; exact hb, ?_⟩
  · simp only [tailA]; rw [if_neg (by omega)]
  · rw [add_of_add, Nat.add_comm 1 j, hc']; simp

theorem run_tail (A : Option Addr) (n c : Nat) (hn : 1 ≤ n) (W : World) : (Instr.sliceAt 40 (.slice A n c) (some (.int .i64 1)) Option.none Option.none).run Try.prog W = .ok (.slice (tailA A c) (n - 1) (c - 1)) W := by
  have h : ((1 : Int)) ≤ (n : Int) := by omega
  simp only [tailA]
  cases A with
  | none => simp [go_sem, Try.underlying40, h, sliced]
  | some ad =>
    by_cases hc : c = 1
    · simp [go_sem, Try.underlying40, h, sliced, hc]
    · simp [go_sem, Try.underlying40, h, sliced, hc]
theorem lamBefore_any (f : Nat) : ∀ (a : Int) (A : Option Addr) (n c B : Nat) (xs : List Int) (w : World), meas a xs < f → 0 ≤ a → nonN xs → admB xs = true → a + sumZ xs ≤ 11 → xs.length ≤ 6 → RdS w B A n c xs → B ≤ w.heap.size →
    Calls Try.prog 66 #[.int .i64 a, .slice A n c] w (RetL (oddL (bef F a xs)).length (oddL (bef F a xs)) w) := by
  induction f with
  | zero => intro a A n c B xs w h; omega
  | succ f ih =>
    intro a A n c B xs w hm ha hn hadm hs hl h hB
    have H := Lib.hid h
    have Hl := Lib.hid h.len
    have hs0 := sumZ_nonneg hn
    have N1 := Lib.hid hn
    clear hn
    have HS1 := Lib.hid (StS.one a (Below.refl w.heap.size w) (Nat.le_refl _))
    have hb1 : Below w.heap.size w (w.alloc (.cells #[.int .i64 a] 2)) := (Below.refl _ _).alloc (Nat.le_refl _) _
    have HR1 := Lib.hid (h.below (hb1.mono hB))
    clear hb1 h
    cases xs with
    | nil =>
      have hn0 : n = 0 := by have := Hl.out; simpa using this.symm
      subst hn0
      have HV : Hid (oddL (bef F a []) = [[a]]) := Lib.hid (by rw [show bef F a [] = [[a]] from rfl, oddL_single])
      rw [HV.out]
      go_enter Try.func66, Try.ntmps66
      go_wp2_with (at_builtin; refine wpList_joinI rfl (.tmp 22) (.tmp 23) rfl rfl rfl HS1.out HR1.out (by omega) ?_)
      intro A2 c2 w2 hs2 _
      have HS2 := Lib.hid hs2; clear hs2
      go_wp2_with fail
      go_ret
      exact ⟨_, _, rfl, (ownL_oneS HS2.out.own HS2.out.hi).mono (Nat.le_refl _) (by simp), HS2.out.bel.alloc HS2.out.hi _⟩
    | cons b r =>
      have hlr : (b :: r).length = n := Hl.out
      simp only [List.length_cons] at hlr hl
      obtain ⟨ad, x, rfl, _, hx, hc0⟩ := H.out.at_ (show 0 < n by omega)
      obtain rfl : b = x := by have := hx.out; simpa using this
      have hb0 : 0 ≤ b := N1.out b (by simp)
      have Nr : Hid (nonN r) := Lib.hid (fun y hy => N1.out y (List.mem_cons_of_mem _ hy))
      have hr0 := sumZ_nonneg Nr.out
      simp only [sumZ] at hs hs0
      have hc00 : w.cell? ad = some (.int .i64 b) := by simpa [Addr.add] using hc0
      have hn0 : ((n : Int) == 0) = false := by simp; omega
      have hpos : (0 : Int) < (n : Int) := by omega
      clear hc0 hx
      by_cases hab : b ≤ 2 * a
      · have HV : Hid (oddL (bef F a (b :: r)) = [a :: b :: r]) := Lib.hid (by
          rw [show bef F a (b :: r) = [a :: b :: r] from by show bef (99 + 1) a (b :: r) = _; rw [bef, if_pos hab], oddL_single])
        rw [HV.out]
        go_enter Try.func66, Try.ntmps66
        go_wp2_with (at_builtin; refine wpList_joinI rfl (.tmp 22) (.tmp 23) rfl rfl rfl HS1.out HR1.out (by omega) ?_)
        intro A2 c2 w2 hs2 _
        have HS2 := Lib.hid hs2; clear hs2
        go_wp2_with fail
        go_ret
        exact ⟨_, _, rfl, (ownL_oneS HS2.out.own HS2.out.hi).mono (Nat.le_refl _) (by simp), HS2.out.bel.alloc HS2.out.hi _⟩
      · have hst := StL.start (Below.refl w.heap.size w) (Nat.le_refl _)
        obtain ⟨V, hV⟩ : ∃ V, V = w.heap.size := ⟨_, rfl⟩
        rw [← hV] at hst
        have HVe := Lib.hid hV; clear hV
        have HS := Lib.hid hst.here; clear hst
        obtain ⟨N, hN⟩ : ∃ N, N = b - 2 * a - 1 := ⟨_, rfl⟩
        have hN0 : 0 ≤ N := by omega
        have hN1 : N ≤ 10 := by omega
        have HN := Lib.hid hN; clear hN
        have hapos : 2 * a < b := by omega
        clear hab
        go_enter Try.func66, Try.ntmps66
        go_wp2_with fail
        rw [← HVe.out, ← HN.out]
        go_loopw [6, 7] (fun o i wr => ∃ (k l' c' : Nat) (A' : Option Addr) (acc : List (List Int)), k ≤ 6 ∧ i = .int .i64 k ∧ o = .slice A' l' c' ∧ l' ≤ k * 4096 ∧ Hid (acc.length = l') ∧ Hid (SameSum acc ((relTo a b k).flatMap fun p => (bef F p.2 r).flatMap fun u => bef F p.1 u)) ∧ Hid (∀ u ∈ acc, u.length ≤ 7) ∧ ∃ K, Hid (StL w V wr K A' l' c' acc)) (fun _ i _ => 7 - (intOf i).toNat)
        case atStart => exact ⟨0, 0, 0, _, [], by omega, rfl, rfl, Nat.zero_le _, Lib.hid rfl, Lib.hid (SameSum.refl _), Lib.hid (by simp), _, by rw [HVe.out]; rw [HVe.out] at HS; exact HS⟩
        case round =>
          obtain ⟨k, l', c', A', acc, hk, rfl, rfl, hlk, HL', HA, HW, K, HS⟩ := hrel
          have hlk2 : l' ≤ (k + 1) * 4096 := Nat.le_trans hlk (Nat.mul_le_mul_right _ (Nat.le_succ k))
          by_cases hlt : 2 * (k : Int) < N
          · have Hp := fun W : World => Lib.hid (choose_any (N - k - 1) k W (by omega) (by omega) (by omega) (by omega))
            have HC : Hid (relC a b k = parB (N - k - 1) k) := Lib.hid (by simp only [relC, ← HN.out, hlt, decide_true, Bool.true_and])
            cases hp : parB (N - (k : Int) - 1) (k : Int)
            · rw [hp] at Hp HC
              have HA2 : Hid (SameSum acc ((relTo a b (k + 1)).flatMap fun p => (bef F p.2 r).flatMap fun u => bef F p.1 u)) := Lib.hid (by rw [relTo_succ_no HC.out]; exact HA.out)
              clear hp
              go_wp2_with fail
              refine ((Hp _).out).mono ?_
              rintro e w' ⟨rfl, rfl⟩
              go_wp2_with fail
              go_roundw
              case rel => exact ⟨k + 1, l', c', A', acc, by omega, by go_num, rfl, hlk2, HL', HA2, HW, K, HS⟩
              case measure => simp [intOf]; omega
            · rw [hp] at Hp HC
              clear hp
              have hsl := fun W => run_tail (some ad) n c (by omega) W
              obtain ⟨p1, hp1⟩ : ∃ p, p = a + N - (k : Int) := ⟨_, rfl⟩
              obtain ⟨p2, hp2⟩ : ∃ p, p = 2 * a + 1 + (k : Int) := ⟨_, rfl⟩
              have Pb : Hid (a < p1 ∧ p1 + p2 = a + b ∧ 0 < p2) := Lib.hid (by have := HN.out; omega)
              have hpr : Hid (relTo a b (k + 1) = relTo a b k ++ [(p1, p2)]) := Lib.hid (by rw [relTo_succ_yes HC.out, hp1, hp2, HN.out]; rfl)
              have HP1 := Lib.hid hp1
              have HP2 := Lib.hid hp2
              clear hp1 hp2
              have Radm := Lib.hid (adm_tail hadm)
              have hrec := fun (W : World) (hW : RdS W V (tailA (some ad) c) (n - 1) (c - 1) r) (hV : V ≤ W.heap.size) => ih p2 (tailA (some ad) c) (n - 1) (c - 1) V r W (by have := Pb.out; simp only [meas, List.length_cons] at hm ⊢; omega) (by have := Pb.out; omega) Nr.out Radm.out (by have := Pb.out; omega) (by omega) hW hV
              have HREC := Lib.hid hrec
              have HRt := Lib.hid (H.out.tail.below (HS.out.bel.mono (by rw [HVe.out]; exact hB)))
              have HBV := Lib.hid (show B ≤ V by rw [HVe.out]; exact hB)
              have hws := bef_len (a := p2) (y := r) Radm.out (by have := Pb.out; omega) (by omega) Nr.out (by have := Pb.out; omega)
              have HWs : Hid (∀ u ∈ oddL (bef F p2 r), u.length = r.length + 1 ∧ sumZ u = p2 + sumZ r ∧ nonN u ∧ admB u = true) := Lib.hid (fun u hu => by
                have h1 := oddL_mem hu
                have h2 := bef_word h1 (by have := Pb.out; omega) Nr.out
                exact ⟨h2.1, h2.2.1, h2.2.2, bef_is_adm h1 Radm.out⟩)
              have HSw : Hid (SameSum (oddL (bef F p2 r)) (bef F p2 r)) := Lib.hid (oddL_same _)
              have hL := oddL_len (bef F p2 r)
              obtain ⟨ws, hwse⟩ : ∃ ws, ws = oddL (bef F p2 r) := ⟨_, rfl⟩
              rw [← hwse] at HREC HWs HSw hL
              obtain ⟨L, hLe⟩ : ∃ L, L = ws.length := ⟨_, rfl⟩
              have HLe := Lib.hid hLe
              rw [← hLe] at HREC hL
              have hL64 : L ≤ 64 := by omega
              clear hrec hwse hLe hws hL
              go_wp2_with fail
              refine ((Hp _).out).mono ?_
              rintro e w' ⟨rfl, hw'⟩
              subst hw'
              go_wp2_with fail
              rw [← HP2.out]
              refine (HREC.out _ (HRt.out.mono HBV.out) HS.out.size).mono ?_
              rintro e w1 ⟨A1, c1, rfl, ho1, hb1⟩
              obtain ⟨S, hS⟩ : ∃ S, S = w'.heap.size := ⟨_, rfl⟩
              obtain ⟨S2, hS2⟩ : ∃ S2, S2 = w1.heap.size := ⟨_, rfl⟩
              have HIW := Lib.hid (It.ownM (show OwnM w1 S S2 A1 L c1 ws by rw [hS, hS2]; exact ⟨ho1, ho1.lt⟩) (Nat.le_of_eq hS2))
              have HS5 := Lib.hid (HS.out.call hb1)
              have HN5 := Lib.hid (show ∀ g, Value.ownBlock (.slice A' l' c') = some g → g < S ∨ S2 ≤ g from fun g hg => .inl (by rw [hS]; exact HS.out.own.lt g hg))
              have HSz := Lib.hid (show S ≤ S2 by rw [hS, hS2]; exact hb1.size)
              have HSq := Lib.hid hS2
              clear hS hS2 ho1 hb1 hsl
              have hLm : L ≤ 9223372036854775807 := by omega
              go_wp2_with fail
              go_loopw [6, 56] (fun o i wr => ∃ (j l2 c2 : Nat) (A2 : Option Addr) (acc2 : List (List Int)) (K2 : Nat), j ≤ L ∧ i = .int .i64 j ∧ o = .slice A2 l2 c2 ∧ l2 ≤ l' + j * 64 ∧ Hid (acc2.length = l2) ∧ Hid (SameSum acc2 (acc ++ (ws.take j).flatMap (bef F p1))) ∧ Hid (∀ u ∈ acc2, u.length ≤ 7) ∧
                Hid (StL w V wr K2 A2 l2 c2 acc2) ∧ Hid (It S S2 (fun V => OwnM V S S2 A1 L c1 ws) wr) ∧ Hid (∀ g, Value.ownBlock (.slice A2 l2 c2) = some g → g < S ∨ S2 ≤ g)) (fun _ i _ => L - (intOf i).toNat)
              case atStart => exact ⟨0, l', c', A', acc, K, Nat.zero_le _, rfl, rfl, by omega, HL', Lib.hid (by simpa using SameSum.refl acc), HW, HS5, HIW, HN5⟩
              case round =>
                clear HS HL' HW HS5 HIW HN5
                obtain ⟨j, l2, c2, A2, acc2, K2, hj, rfl, rfl, hl2, HL2, HA2, HW2, HS2, HI2, HN2⟩ := hrel
                by_cases hjl : j < L
                · obtain ⟨ad3, A3, n3, c3, u, rfl, _, hu, hc3, hr3⟩ := HI2.out.holds.own.rd.at_ hjl
                  have hum : u ∈ ws := List.mem_of_getElem? hu.out
                  obtain ⟨ul, us, un, ua⟩ := HWs.out u hum
                  have Hr3 := Lib.hid (ih p1 A3 n3 c3 _ u _ (by have := Pb.out; simp only [meas, List.length_cons, ul] at hm ⊢; omega) (by have := Pb.out; omega) un ua (by have := Pb.out; omega) (by omega) hr3 (Nat.le_refl _))
                  have hbl := bef_len (a := p1) (y := u) ua (by have := Pb.out; omega) (by omega) un (by have := Pb.out; omega)
                  have hol := oddL_len (bef F p1 u)
                  have HB3 : Hid (∀ v ∈ oddL (bef F p1 u), v.length ≤ 7) := Lib.hid (fun v hv => by
                    have := (bef_word (oddL_mem hv) (by have := Pb.out; omega) un).1
                    omega)
                  have HB4 : Hid (SameSum (oddL (bef F p1 u)) (bef F p1 u)) := Lib.hid (oddL_same _)
                  obtain ⟨us2, hus2⟩ : ∃ s, s = oddL (bef F p1 u) := ⟨_, rfl⟩
                  rw [← hus2] at Hr3 HB3 HB4 hol
                  obtain ⟨l3, hl3⟩ : ∃ l, l = us2.length := ⟨_, rfl⟩
                  rw [← hl3] at Hr3 hol
                  have HL3 := Lib.hid hl3
                  have hl364 : l3 ≤ 64 := by omega
                  clear hus2 hl3 hol hbl hr3 hum ul us un ua
                  go_wp2_with fail
                  rw [← HP1.out]
                  refine Hr3.out.mono ?_
                  rintro e w3 ⟨A4, c4, rfl, ho4, hb4⟩
                  have HO4 := Lib.hid ho4
                  have HS4 := Lib.hid (HS2.out.here.call hb4)
                  have HI4 := Lib.hid (HI2.out.ext hb4)
                  clear ho4 hb4
                  go_wp2_with (at_builtin; refine wpList_joinL rfl (.tmp 60) (.tmp 67) rfl rfl rfl HS4.out HO4.out (Nat.le_refl _) (by omega) ?_)
                  intro A5 c5 w5 hs5 hg5 hr5
                  have HS5 := Lib.hid hs5
                  have HI5 := Lib.hid (HI4.out.grown hg5 HN2.out)
                  have HN5 : Hid (∀ g, Value.ownBlock (.slice A5 (l2 + l3) c5) = some g → g < S ∨ S2 ≤ g) := Lib.hid (fun g hg => by
                    rcases hr5 with h | h
                    · exact HN2.out g (h ▸ hg)
                    · exact .inr (Nat.le_trans HI4.out.le (h g hg)))
                  have HL5 : Hid ((acc2 ++ us2).length = l2 + l3) := Lib.hid (by rw [List.length_append, HL2.out, HL3.out])
                  have HA5 : Hid (SameSum (acc2 ++ us2) (acc ++ (ws.take (j + 1)).flatMap (bef F p1))) := Lib.hid (by
                    rw [List.take_add_one, hu.out]
                    simp only [Option.toList_some, List.flatMap_append, List.flatMap_cons, List.flatMap_nil, List.append_nil, ← List.append_assoc]
                    exact HA2.out.append HB4.out)
                  have HW5 : Hid (∀ v ∈ acc2 ++ us2, v.length ≤ 7) := Lib.hid (fun v hv => by
                    rcases List.mem_append.1 hv with h | h
                    · exact HW2.out v h
                    · exact HB3.out v h)
                  clear hs5 hg5 hr5
                  go_wp2_with fail
                  go_roundw
                  case rel => exact ⟨j + 1, l2 + l3, c5, A5, _, _, by omega, by go_num, rfl, by omega, HL5, HA5, HW5, HS5, HI5, HN5⟩
                  case measure => simp [intOf]; omega
                · obtain rfl : j = L := by omega
                  have HA5 : Hid (SameSum acc2 ((relTo a b (k + 1)).flatMap fun p => (bef F p.2 r).flatMap fun u => bef F p.1 u)) := Lib.hid (by
                    have h1 := HA2.out
                    rw [List.take_of_length_le (by rw [HLe.out]; exact Nat.le_refl _)] at h1
                    rw [hpr.out, List.flatMap_append]
                    refine h1.trans (SameSum.append HA.out ?_)
                    simpa using HSw.out.flat (bef F p1))
                  go_wp2_with fail
                  go_roundw
                  case rel => exact ⟨k + 1, l2, c2, A2, acc2, by omega, by go_num, rfl, by omega, HL2, HA5, HW2, K2, HS2⟩
                  case measure => simp [intOf]; omega
          · have hl4 : l' ≤ 24576 := by omega
            have HT : Hid (totalL acc ≤ 1000000000000) := Lib.hid (by
              have := tot_le acc 7 HW.out
              rw [HL'.out] at this
              omega)
            have Ho := Lib.hid (oddOnes_any A' l' c' acc wr HS.out.rd (by omega) HT.out)
            have HV : Hid (oddL acc = oddL (bef F a (b :: r))) := Lib.hid (by
              refine oddL_congr (HA.out.trans ?_)
              rw [relTo_end (by rw [← HN.out]; omega) hk, show bef F a (b :: r) = (relP a b).flatMap fun p => (bef F p.2 r).flatMap fun u => bef F p.1 u from by
                show bef (99 + 1) a (b :: r) = _
                rw [bef, if_neg (by omega)]
                refine flatMap_congrP fun p hp => ?_
                have hp' := relP_mem hp ha
                have e1 : bef 99 p.2 r = bef F p.2 r := bef_fuel (by simp only [meas]; omega) (by simp only [meas, F]; omega) (by omega) Nr.out (by omega)
                rw [e1]
                refine flatMap_congrL fun u hu => ?_
                obtain ⟨l1, s1, n1⟩ := bef_word hu (by omega) Nr.out
                exact bef_fuel (by simp only [meas, l1]; omega) (by simp only [meas, l1, F]; omega) (by omega) n1 (by rw [s1]; omega)]
              exact SameSum.refl _)
            go_wp2_with fail
            refine Ho.out.mono ?_
            rintro e w5 ⟨A5, c5, rfl, ho5, hb5⟩
            have O5 := Lib.hid (ho5.mono (B' := V) HS.out.size (Nat.le_refl _))
            have B5 := Lib.hid (HS.out.bel.trans (hb5.mono HS.out.size))
            have hz5 := Lib.hid hb5.size
            clear ho5 hb5
            go_wp2_with fail
            go_ret
            have h9 : StL w V w5 w5.heap.size A5 (oddL acc).length c5 (oddL acc) := ⟨O5.out, B5.out, Nat.le_trans HS.out.size hz5.out, Nat.le_refl _⟩
            rw [HVe.out] at h9
            exact RetL.mk (by rw [HV.out]) HV.out h9
end Go.Proofs.Ythaokhjkibbplaa
