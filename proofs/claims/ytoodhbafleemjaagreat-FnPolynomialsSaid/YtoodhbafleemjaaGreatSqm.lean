/- impl.squareMonomial, impl.square. -/
import Derived.Test.YtoodhbafleemjaaGreatMapP
import Derived.Test.YtoodhbafleemjaaGreatKeep
import Derived.Test.YtoodhbafleemjaaGreatStep
import Derived.ArgAppend
namespace Go.Proofs.YtoodhbafleemjaaGreat
open Go.RowKit
set_option linter.unusedVariables false

/-- append of one number onto a slice that is read and has no room: a new row -/
theorem wp_growI {w : World} {o : Oper} {a : Act} {K : Act → World → Prop} {Q : Exit → Act → World → Prop} (s x : Operand)
    (ho : o.op = .call { callee := .builtin .append, args := #[s, x], argTypes := #[41, 41] }) {B n d Bx : Nat} {A : Option Addr} {ad : Addr} {xs : List Int} {y : Int}
    (hs : a.eval s = .slice A n n) (hx : a.eval x = .slice (some ad) 1 d) (hr : RdS w B A n n xs) (hA : A = none → n = 0) (hy : RdS w Bx (some ad) 1 d [y]) (hb : n ≤ 1000000000)
    (h : ∀ A' c' w', OwnS w' w.heap.size A' (n + 1) c' (xs ++ [y]) → w.grownBy w' none → K (a.put o.dst (.slice A' (n + 1) c')) w') : Oper.wp Tryz.prog o a w K Q := by
  obtain ⟨i, z, hi, hz, hsz, hby, hzs⟩ := eltI.info
  have key : ∃ v' w', (Builtin.append_ #[41, 41] o.type #[.slice A n n, .slice (some ad) 1 d]).run Tryz.prog w = .ok v' w' ∧ w'.ownsRow w.heap.size 2 1 v' (n + 1) (xs.map (.int .i64) ++ [.int .i64 y]) ∧ w.grownBy w' none := by
    have hc : ∀ j u, [Value.int .i64 y][j]? = some u → w.cell? (ad.add j) = some u := by
      intro j u hu
      obtain ⟨hj, hju⟩ := List.getElem?_eq_some_iff.1 hu
      obtain ⟨ad', e, _, hcc⟩ := hy.cell j (by simpa using hj)
      have e := Option.some.inj e
      subst e
      rw [hcc, ← hju]
      have : j = 0 := by simpa using hj
      subst this; rfl
    rcases A with _ | b
    · have hn := hA rfl
      subst hn
      have hxs : xs = [] := List.eq_nil_of_length_eq_zero hr.len
      subst hxs
      obtain ⟨v', w', hrun, r1, r2, _⟩ := run_append_own (P := Tryz.prog) w w.heap.size 41 o.type 2 i z 1 8 eltI.under hi hz hsz hby hzs (by decide) (.slice none 0 0) 0 [] (World.ownsRow_nil w _ 2 1) ad 1 d [.int .i64 y] rfl hc (by intro u hu; rw [List.mem_singleton.1 hu]; rfl) (by decide) (by decide) (Nat.le_refl _)
      exact ⟨v', w', hrun, r1, r2⟩
    · have ho' : ∀ j u, (xs.map (Value.int .i64))[j]? = some u → w.cell? (b.add j) = some u := by
        intro j u hu
        obtain ⟨hj, hju⟩ := List.getElem?_eq_some_iff.1 hu
        obtain ⟨ad', e, _, hcc⟩ := hr.cell j (by simpa using hj)
        have e := Option.some.inj e
        subst e
        rw [hcc, ← hju]; simp
      exact run_append_arg_grows (P := Tryz.prog) w 41 o.type 2 i z 1 8 eltI.under hi hz hsz hby hzs (by decide) b n n (xs.map (.int .i64)) (by simpa using hr.len) ho' ad 1 d [.int .i64 y] rfl hc (by omega) (by unfold maxLen; omega) (by omega)
  obtain ⟨v', w', hrun, hown, hg⟩ := key
  obtain ⟨g, cap, hv, _, _⟩ := hown.form (by omega)
  subst hv
  have hO : OwnS w' w.heap.size (some ⟨g, 0, none⟩) (n + 1) cap (xs ++ [y]) := ⟨by simp [hr.len], by simpa using hown⟩
  unfold Oper.wp
  simp [execOp, ho, resolve, invoke, builtin, hs, hx, hrun, Result.andThen]
  exact h _ _ _ hO hg
end Go.Proofs.YtoodhbafleemjaaGreat

/- Plain: squares of monomials, as the recursion lays them out; lengths. Slices of a slice of integers. -/
namespace Go.Proofs.YtoodhbafleemjaaGreat
open Go.RowKit
set_option linter.unusedVariables false

def sqF (n : Int) (t : List Int) (i : Int) (done : List Int) (j : Nat) : List Int := if n.toNat &&& j = j then (sqW t (i - j)).map (fun z => encP (done ++ [n + j] ++ z)) else []
theorem sqW_enc (n : Int) (t : List Int) (i : Int) (done : List Int) : (sqW (n :: t) i).map (fun z => encP (done ++ z)) = (List.range (min n i + 1).toNat).flatMap (sqF n t i done) := by
  simp only [sqW]
  rw [List.map_flatMap]
  congr 1
  funext j
  unfold sqF
  split
  · rw [List.map_map]
    congr 1
    funext z
    simp
  · rfl
theorem flat_range_len {F : Nat → List Int} {c : Nat} : ∀ (m : Nat), (∀ j, j < m → (F j).length ≤ c) → ((List.range m).flatMap F).length ≤ m * c
  | 0, _ => by simp
  | m + 1, h => by
    rw [List.range_succ, List.flatMap_append, List.length_append, Nat.succ_mul]
    have h1 := flat_range_len m fun j hj => h j (by omega)
    have h2 := h m (Nat.lt_succ_self _)
    simp only [List.flatMap_cons, List.flatMap_nil, List.append_nil]
    omega
theorem flat_range_len' {F : Nat → List (List Int)} {c : Nat} : ∀ (m : Nat), (∀ j, j < m → (F j).length ≤ c) → ((List.range m).flatMap F).length ≤ m * c
  | 0, _ => by simp
  | m + 1, h => by
    rw [List.range_succ, List.flatMap_append, List.length_append, Nat.succ_mul]
    have h1 := flat_range_len' m fun j hj => h j (by omega)
    have h2 := h m (Nat.lt_succ_self _)
    simp only [List.flatMap_cons, List.flatMap_nil, List.append_nil]
    omega
theorem sqW_len : ∀ (t : List Int) (i : Int), i ≤ 63 → (sqW t i).length ≤ 64 ^ t.length
  | [], i, _ => by
    simp only [sqW]
    split <;> simp
  | n :: t, i, hi => by
    simp only [sqW, List.length_cons]
    refine Nat.le_trans (flat_range_len' (c := 64 ^ t.length) _ fun j hj => ?_) ?_
    · split
      · rw [List.length_map]
        exact sqW_len t (i - j) (by omega)
      · simp
    · rw [Nat.pow_succ, Nat.mul_comm]
      exact Nat.mul_le_mul (Nat.le_refl _) (by omega)
theorem sqF_len {n : Int} {t : List Int} {i : Int} {done : List Int} (hi : i ≤ 63) (j : Nat) : (sqF n t i done j).length ≤ 64 ^ t.length := by
  unfold sqF
  split
  · rw [List.length_map]; exact sqW_len t _ (by omega)
  · simp
theorem sqF_part {n : Int} {t : List Int} {i : Int} {done : List Int} (hi : i ≤ 63) (m : Nat) : ((List.range m).flatMap (sqF n t i done)).length ≤ m * 64 ^ t.length := flat_range_len m fun j _ => sqF_len hi j
theorem flat_succ {F : Nat → List Int} (j : Nat) : (List.range (j + 1)).flatMap F = (List.range j).flatMap F ++ F j := by
  rw [List.range_succ, List.flatMap_append]; simp
theorem run_sufI (A : Option Addr) (n c m : Nat) (hm : m ≤ n) (W : World) : (Instr.sliceAt 41 (.slice A n c) (some (.int .i64 (m : Int))) Option.none Option.none).run Tryz.prog W = .ok (.slice (sufA A c m) (n - m) (c - m)) W := by
  have h : (m : Int) ≤ (n : Int) := by omega
  simp only [sufA]
  cases A with
  | none => simp [go_sem, Tryz.underlying41, h, sliced]
  | some ad =>
    by_cases hc : c = m
    · simp [go_sem, Tryz.underlying41, h, sliced, hc]
    · simp [go_sem, Tryz.underlying41, h, sliced, hc]
theorem run_full (A : Option Addr) (n c : Nat) (hn : n ≤ c) (W : World) : (Instr.sliceAt 41 (.slice A n c) Option.none (some (.int .i64 (n : Int))) (some (.int .i64 (n : Int)))).run Tryz.prog W = .ok (.slice A n n) W := by
  have h : (n : Int) ≤ (c : Int) := by omega
  have e : A.map (·.add 0) = A := by cases A <;> simp [addr_add_zero]
  simp [go_sem, Tryz.underlying41, h, sliced]
theorem RdS.full {w : World} {B n c : Nat} {A : Option Addr} {xs : List Int} (h : RdS w B A n c xs) : RdS w B A n n xs := ⟨h.len, Nat.le_refl _, h.cell⟩
end Go.Proofs.YtoodhbafleemjaaGreat

/- The walks of impl.squareMonomial and impl.square. -/
namespace Go.Proofs.YtoodhbafleemjaaGreat
open Go.RowKit
set_option linter.unusedVariables false

theorem fit_of_sum {x : List Int} (h : ∀ a ∈ x, (0 : Int) ≤ a) (hs : x.sum ≤ 63) : fitP x := fun a ha => ⟨h a ha, by have := sum_ge_mem h a ha; omega⟩
set_option maxRecDepth 100000 in
set_option maxHeartbeats 1000000 in
theorem sqm_any : ∀ (term : List Int) (w : World) (b : Nat) (L : List Int) (Ad At : Option Addr) (nd cd nt ct : Nat) (done : List Int) (i : Int), OwnP w b L → RdS w w.heap.size Ad nd cd done → (Ad = none → nd = 0) → RdS w w.heap.size At nt ct term →
    (∀ a ∈ done, 0 ≤ a) → (∀ a ∈ term, 0 ≤ a) → 0 ≤ i → done.sum + term.sum + i ≤ 63 → nd + nt ≤ 4 → L.length + 64 ^ nt ≤ 900000000000 →
    Calls Tryz.prog 113 #[.map (some b), .slice Ad nd cd, .slice At nt ct, .int .i64 i] w (RetTw b (L ++ (sqW term i).map fun z => encP (done ++ z)) w)
  | [], w, b, L, Ad, At, nd, cd, nt, ct, done, i, hP, hd, hA, ht, h0d, h0t, hi, hs, hn, hL => by
    have hnt : nt = 0 := ht.len.symm
    subst hnt
    by_cases hi0 : i = 0
    · subst hi0
      have hf : fitP done := fit_of_sum h0d (by simp at hs; omega)
      have HC := Lib.hid (codeOf_any Ad nd cd _ done w hd hf (by omega))
      have HT := Lib.hid (toggle_any b (encP done) L w hP (wfI_enc hf (by rw [hd.len]; omega)) (by omega))
      have HE : Hid (L ++ (sqW [] 0).map (fun z => encP (done ++ z)) = L ++ [encP done]) := Lib.hid (by simp [sqW])
      rw [HE.out]
      clear hP hd hA ht h0d h0t hs hL hf
      go_enter Tryz.func113, Tryz.ntmps113
      go_wp2_with fail
      refine HC.out.mono ?_
      rintro e w1 ⟨rfl, rfl⟩
      go_wp2_with fail
      refine HT.out.mono ?_
      rintro e w2 ⟨rfl, hp2, hg2, hs2⟩
      have P2 := Lib.hid hp2
      have G2 := Lib.hid hg2
      clear hp2 hg2 hs2
      go_wp2_with fail
      refine bodyPost_ret (results_none rfl _ _ _) rfl ?_
      exact RetTw.mk P2.out (Par.refl _) G2.out
    · have HE : Hid (L ++ (sqW [] i).map (fun z => encP (done ++ z)) = L) := Lib.hid (by simp [sqW, hi0])
      rw [HE.out]
      have P := Lib.hid hP
      have hi1 : (i == 0) = false := by simpa using hi0
      clear hP hd hA ht h0d h0t hs hL hi0
      go_enter Tryz.func113, Tryz.ntmps113
      go_wp2_with fail
      refine bodyPost_ret (results_none rfl _ _ _) rfl ?_
      exact RetTw.mk P.out (Par.refl _) (World.grownBy.refl _ _)
  | n :: t, w, b, L, Ad, At, nd, cd, nt, ct, done, i, hP, hd, hA, ht, h0d, h0t, hi, hs, hn, hL => by
    have IH := Lib.hid (sqm_any t)
    have hnt : nt = t.length + 1 := by rw [← ht.len]; rfl
    obtain ⟨ad, x, rfl, hbk, hx, hcx⟩ := ht.at_ (k := 0) (by omega)
    have hxn : x = n := by have := hx.out; simp at this; exact this.symm
    subst hxn
    have hc0 : w.cell? ad = some (.int .i64 x) := by simpa [Addr.add] using hcx
    have hn0 := h0t x (by simp)
    have ht0 : ∀ a ∈ t, (0 : Int) ≤ a := fun a ha => h0t a (List.mem_cons_of_mem _ ha)
    have hsd := sum_nonneg' h0d
    have hst := sum_nonneg' ht0
    rw [List.sum_cons] at hs
    have hx63 : x ≤ 63 := by omega
    have hi63 : i ≤ 63 := by omega
    have HSD := Lib.hid (show done.sum + x + t.sum + i ≤ 63 by omega)
    have HST := Lib.hid hst
    have HSD0 := Lib.hid hsd
    have P := Lib.hid hP
    have D := Lib.hid hd
    have HA := Lib.hid hA
    have T := Lib.hid ht
    have H0D := Lib.hid h0d
    have H0T := Lib.hid ht0
    have HL := Lib.hid hL
    have HNT := Lib.hid hnt
    have hnt4 : nd + nt ≤ 4 := hn
    have hnt1 : 1 ≤ nt := by omega
    obtain ⟨F, hF⟩ : ∃ F, F = sqF x t i done := ⟨_, rfl⟩
    have HF := Lib.hid hF
    have HFl := Lib.hid (show ∀ m, ((List.range m).flatMap F).length ≤ m * 64 ^ t.length from fun m => by rw [hF]; exact sqF_part hi63 m)
    obtain ⟨R, hR⟩ : ∃ R, R = RetTw b (L ++ (sqW (x :: t) i).map fun z => encP (done ++ z)) w := ⟨_, rfl⟩
    have HR := Lib.hid (show R = RetTw b (L ++ (List.range (min x i + 1).toNat).flatMap F) w from by rw [hR, sqW_enc, hF])
    have NC := Lib.hid (hP.noCells)
    have HP64 := Lib.hid (show 64 ^ nt = 64 * 64 ^ t.length from by rw [hnt, Nat.pow_succ, Nat.mul_comm])
    rw [← hR]
    clear hP hd hA ht h0d h0t hs hn hL hF hR hsd hst ht0 hcx hnt hx
    have hz1 : ((nt : Int) == 0) = false := by simp; omega
    have hz2 : (nt == 0) = false := by simp; omega
    go_enter Tryz.func113, Tryz.ntmps113
    go_wp2_with fail
    go_loopw [9] (fun j wr => ∃ m : Nat, (m : Int) ≤ x + 1 ∧ (m : Int) ≤ i + 1 ∧ j = .int .i64 m ∧ Hid (OwnP wr b (L ++ (List.range m).flatMap F)) ∧ Hid (w.grownBy wr (some b))) (fun j _ => 100 - (intOf j).toNat)
    case atStart => exact ⟨0, by omega, by omega, rfl, Lib.hid (by simpa using P.out), Lib.hid (World.grownBy.refl _ _)⟩
    case round =>
      obtain ⟨m, hm1, hm2, rfl, HP, HG⟩ := hrel
      by_cases hin : (m : Int) ≤ x ∧ (m : Int) ≤ i
      · obtain ⟨hin1, hin2⟩ := hin
        obtain ⟨q, hq⟩ : ∃ q, q = decide (x.toNat &&& m = m) := ⟨_, rfl⟩
        have HQ := Lib.hid hq
        have hbit : (bits .and .i64 x (m : Int) == (m : Int)) = q := by
          have h := and_sub (n := x) (j := (m : Int)) hn0 (by omega) (by omega) (by omega)
          rw [hq]
          by_cases h2 : x.toNat &&& m = m
          · rw [decide_eq_true h2]
            simpa using h.2 (by simpa using h2)
          · rw [decide_eq_false h2]
            have : ¬ bits .and .i64 x (m : Int) = (m : Int) := fun e => h2 (by simpa using h.1 e)
            simpa using this
        clear hq
        by_cases hmn : i < x
        all_goals
          cases q
          · have HFm : Hid (F m = []) := Lib.hid (by
              have := HQ.out
              rw [HF.out]; unfold sqF; rw [if_neg (of_decide_eq_false this.symm)])
            go_wp2_with fail
            go_roundw
            case rel => exact ⟨m + 1, by omega, by omega, by go_num, Lib.hid (by rw [flat_succ, HFm.out, List.append_nil]; exact HP.out), HG⟩
            case measure => simp [intOf]; omega
          · have HFm : Hid (F m = (sqW t (i - m)).map fun z => encP (done ++ [x + m] ++ z)) := Lib.hid (by
              have := HQ.out
              rw [HF.out]; unfold sqF; rw [if_pos (of_decide_eq_true this.symm)])
            have hwn : IntKind.i64.wrap (x + (m : Int)) = x + (m : Int) := by rw [IntKind.wrap_i64]; omega
            have hwi : IntKind.i64.wrap (i - (m : Int)) = i - (m : Int) := by rw [IntKind.wrap_i64]; omega
            have hs1 := fun W : World => run_full Ad nd cd D.out.cap W
            have hs2 : ∀ W : World, (Instr.sliceAt 41 (.slice (some ad) nt ct) (some (.int .i64 1)) Option.none Option.none).run Tryz.prog W = .ok (.slice (sufA (some ad) ct 1) (nt - 1) (ct - 1)) W := fun W => run_sufI (some ad) nt ct 1 hnt1 W
            have KC := KeptC.of_grown HG.out NC.out
            have bal := (Below.refl wr.heap.size wr).alloc (Nat.le_refl _) (.cells #[.int .i64 (x + (m : Int))] 2)
            have RD := Lib.hid (show RdS (wr.alloc (.cells #[.int .i64 (x + (m : Int))] 2)).drew w.heap.size Ad nd nd done from ((D.out.full.keptC KC).below (bal.mono HG.out.size)).drewN 1)
            have RY := Lib.hid (show RdS (wr.alloc (.cells #[.int .i64 (x + (m : Int))] 2)).drew (wr.heap.size + 1) (some ⟨wr.heap.size, 0, none⟩) 1 1 [x + (m : Int)] from (rd_new wr (x + (m : Int)) _).drewN 1)
            have PW := Lib.hid (show OwnP (wr.alloc (.cells #[.int .i64 (x + (m : Int))] 2)).drew b (L ++ (List.range m).flatMap F) from HP.out.below (below_drewN bal 1))
            have GW := Lib.hid (show w.grownBy (wr.alloc (.cells #[.int .i64 (x + (m : Int))] 2)).drew (some b) from HG.out.trans ((grownBy_below (below_drewN bal 1)).but _))
            have TW := Lib.hid (show RdS (wr.alloc (.cells #[.int .i64 (x + (m : Int))] 2)).drew w.heap.size (sufA (some ad) ct 1) (nt - 1) (ct - 1) t from by
              have := (((T.out.keptC KC).below (bal.mono HG.out.size)).drewN 1).suf (m := 1) hnt1
              exact this)
            clear KC bal
            go_wp2_with fail
            go_region_held3 (fun w' => 0 ≤ w'.heap.size) (exact Nat.zero_le _)
              (first
                | (rw [if_pos]
                   rotate_left
                   · rfl
                   refine wp_growI (.tmp 40) (.tmp 44) rfl rfl rfl RD.out HA.out RY.out (by omega) ?_
                   intro A7 c7 w7 hs7 hg7
                   have S7 := Lib.hid hs7
                   have P7 := Lib.hid (PW.out.kept hg7 (by simp))
                   have G7 := Lib.hid (GW.out.trans (hg7.but _))
                   have T7 := Lib.hid ((TW.out.grown hg7 GW.out.size (by intro g hg; cases hg)).mono (Nat.le_trans GW.out.size hg7.size))
                   have A7s := Lib.hid (show A7 = none → nd + 1 = 0 from fun e => by
                     obtain ⟨g, cap, hv, _⟩ := hs7.own.form (by omega)
                     rw [e] at hv
                     injection hv with e1
                     cases e1)
                   clear hs7 hg7)
                | (go_at_call 113
                   refine (IH.out w7 b _ A7 (sufA (some ad) ct 1) (nd + 1) c7 (nt - 1) (ct - 1) (done ++ [x + (m : Int)]) (i - (m : Int)) P7.out S7.out.rd A7s.out T7.out (by
                     intro a ha
                     rcases List.mem_append.1 ha with ha | ha
                     · exact H0D.out a ha
                     · rw [List.mem_singleton.1 ha]; omega) H0T.out (by omega) (by rw [List.sum_append]; have := HSD.out; simp; omega) (by omega) (by
                     have h1 := HFl.out m
                     have h2 := HL.out
                     rw [HP64.out] at h2
                     have h3 : nt - 1 = t.length := by have := HNT.out; omega
                     rw [h3, List.length_append]
                     have h4 : m * 64 ^ t.length ≤ 63 * 64 ^ t.length := Nat.mul_le_mul (by omega) (Nat.le_refl _)
                     omega)).mono ?_
                   rintro e w8 ⟨rfl, hp8, hg8⟩
                   have P8 := Lib.hid hp8
                   have G8 := Lib.hid (G7.out.trans hg8)
                   clear hp8 hg8))
            go_wp2_with fail
            go_roundw
            case rel => exact ⟨m + 1, by omega, by omega, by go_num, Lib.hid (by rw [flat_succ, HFm.out, ← List.append_assoc]; exact P8.out), G8⟩
            case measure => simp [intOf]; omega
      · by_cases hmn : i < x
        all_goals
          have HME := Lib.hid (show (min x i + 1).toNat = m by omega)
          go_wp2_with fail
          go_end0
          rw [HR.out, HME.out]
          exact RetTw.mk HP.out (Par.refl _) HG.out

theorem enc_small {k : Nat} {xss : List (List Int)} (h : ∀ x ∈ xss, Mono k x) (hk : k ≤ 4) : ∀ a ∈ xss.map encP, 0 ≤ a ∧ a < 16777216 := by
  intro a ha
  obtain ⟨x, hx, rfl⟩ := List.mem_map.1 ha
  obtain ⟨h1, h2⟩ := h x hx
  have h3 := encP_lt h1
  have hp : (64 : Nat) ^ x.length ≤ 64 ^ 4 := Nat.pow_le_pow_right (by decide) (by omega)
  have e9 : (64 : Nat) ^ 4 = 16777216 := by decide
  have h4 : (64 : Int) ^ x.length ≤ 16777216 := by
    rw [show (64 : Int) ^ x.length = ((64 ^ x.length : Nat) : Int) from by rw [Int.natCast_pow]; rfl]
    omega
  exact ⟨encP_nonneg h1, by omega⟩
theorem oddI_small {L : List Int} (h : ∀ a ∈ L, 0 ≤ a ∧ a < 16777216) : (oddI L).length ≤ 16777216 := by
  have h1 : ∀ z ∈ oddI L, z ∈ (List.range 16777216).map (fun n : Nat => (n : Int)) := fun z hz => by
    have := h z (oddI_sub hz)
    exact List.mem_map.2 ⟨z.toNat, List.mem_range.2 (by omega), by omega⟩
  have := (oddI_nodup L).length_le_of_subset h1
  rw [List.length_map, List.length_range] at this
  exact this
theorem oddL_small {k : Nat} {xss : List (List Int)} (h : ∀ x ∈ xss, Mono k x) (hk : k ≤ 4) : (oddL xss).length ≤ 16777216 := by
  rw [← oddL_size h]
  exact oddI_small (enc_small h hk)
theorem OwnP.odd {w : World} {b : Nat} {xss : List (List Int)} (h : OwnP w b (xss.map encP)) : OwnP w b ((oddL xss).map encP) := h.congr ((oddL_same xss).symm.numbers encP)

set_option maxRecDepth 100000 in
theorem square_any (A : Option Addr) (n c k : Nat) (d i : Int) (xss : List (List Int)) (w : World) (h : RdL w w.heap.size A n c xss) (hx : ∀ x ∈ xss, Deg k d x) (hi : 0 ≤ i) (hd : d + i ≤ 63) (hk : k ≤ 4) (hn : n ≤ 100000000) :
    Calls Tryz.prog 65 #[.slice A n c, .int .i64 i] w (RetMp ((sqP xss i).map encP) w) := by
  have Hl := Lib.hid h.len
  have H := Lib.hid h
  have HX := Lib.hid hx
  have HM := Lib.hid (show ∀ x ∈ xss, ∀ z ∈ sqW x i, Mono k z from fun x hxx z hz => ((hx x hxx).sq z hz).mono hd)
  obtain ⟨R, hR⟩ : ∃ R, R = RetMp ((sqP xss i).map encP) w := ⟨_, rfl⟩
  have HR := Lib.hid hR
  rw [← hR]
  clear hx h hR
  obtain ⟨b, hb⟩ : ∃ b, b = w.heap.size := ⟨_, rfl⟩
  obtain ⟨w0, hw0⟩ : ∃ w0, w0 = w.alloc (.map #[] 0) := ⟨_, rfl⟩
  have O0 : Hid (OwnP w0 b []) := Lib.hid (by rw [hw0, hb]; exact OwnP.new w)
  have B0 : Hid (Below b w w0) := Lib.hid (by rw [hw0, hb]; exact (Below.refl _ _).alloc (Nat.le_refl _) _)
  have HB := Lib.hid hb
  have hmm : ∀ t, (Instr.makeMap t none).run Tryz.prog w = .ok (.map (some b)) w0 := fun t => by rw [hb, hw0]; exact run_makeMap t w
  clear hb hw0
  go_enter Tryz.func65, Tryz.ntmps65
  go_wp2_with fail
  go_loopw [11] (fun v wr => ∃ (m : Nat) (L : List Int), m ≤ n ∧ v = .int .i64 m ∧ Hid (OwnP wr b L) ∧ Hid (Par L ((sqP (xss.take m) i).map encP)) ∧ Hid (L.length ≤ 16777216) ∧ Hid (∀ a ∈ L, 0 ≤ a ∧ a < 16777216) ∧ Hid (Below b w wr)) (fun v _ => n - (intOf v).toNat)
  case atStart => exact ⟨0, [], Nat.zero_le _, rfl, O0, Lib.hid (Par.refl _), Lib.hid (by simp), Lib.hid (fun a ha => by cases ha), B0⟩
  case round =>
    obtain ⟨m, L, hm, rfl, HP, HQ, HN, HS, HW⟩ := hrel
    by_cases hlt : m < n
    · obtain ⟨ad, A', n', c', x, rfl, _, hxk, hc, hr⟩ := (H.out.below (by rw [← HB.out]; exact HW.out)).at_ hlt
      have hdg := HX.out x (List.mem_of_getElem? hxk.out)
      have hn' : n' = k := by rw [← hr.len]; exact hdg.2.2
      have hD0 := sum_nonneg' hdg.1
      have hmo := HM.out x (List.mem_of_getElem? hxk.out)
      have e64 : (64 : Nat) ^ 4 = 16777216 := by decide
      have h64 : (64 : Nat) ^ n' ≤ 16777216 := by rw [← e64]; exact Nat.pow_le_pow_right (by decide) (by omega)
      have HC := Lib.hid (sqm_any x wr b L none A' 0 0 n' c' [] i HP.out (RdS.nil) (fun _ => rfl) (hr.mono (by have := HW.out.size; exact this)) (by simp) hdg.1 hi (by have := hdg.2.1; simp; omega) (by omega) (by have := HN.out; omega))
      have SM := Lib.hid (show ∀ a ∈ L ++ (sqW x i).map (fun z => encP ([] ++ z)), 0 ≤ a ∧ a < 16777216 from fun a ha => by
        rcases List.mem_append.1 ha with ha | ha
        · exact HS.out a ha
        · exact enc_small hmo hk a (by simpa using ha))
      have PT := Lib.hid (show Par (oddI (L ++ (sqW x i).map (fun z => encP ([] ++ z)))) ((sqP (xss.take (m + 1)) i).map encP) from by
        refine (oddI_par _).trans ?_
        unfold sqP
        rw [List.take_add_one, hxk.out, List.flatMap_append, List.map_append]
        refine HQ.out.append ?_
        simp only [Option.toList_some, List.flatMap_cons, List.flatMap_nil, List.append_nil, List.nil_append]
        exact Par.refl _)
      clear hdg hn' hD0 hmo e64 h64 hr
      go_wp2_with fail
      refine HC.out.mono ?_
      rintro e w1 ⟨rfl, hp1, hg1⟩
      have P1 := Lib.hid (hp1.congr (oddI_par _).symm)
      have W1 := Lib.hid (HW.out.trans (below_grownBy hg1 (Nat.le_refl _) (Nat.le_of_lt HP.out.lt)))
      clear hp1 hg1
      go_wp2_with fail
      go_roundw
      case rel => exact ⟨m + 1, _, by omega, by go_num, P1, PT, Lib.hid (oddI_small SM.out), Lib.hid (fun a ha => SM.out a (oddI_sub ha)), W1⟩
      case measure => simp [intOf]; omega
    · obtain rfl : m = n := by omega
      go_wp2_with fail
      rw [HR.out]
      rw [HB.out] at HW
      exact RetMp.mk (b := b) (by rw [HB.out]; exact Nat.le_refl _) (HP.out.congr HQ.out) (by rw [List.take_of_length_le (by rw [Hl.out]; exact Nat.le_refl _)]) HW.out
end Go.Proofs.YtoodhbafleemjaaGreat
