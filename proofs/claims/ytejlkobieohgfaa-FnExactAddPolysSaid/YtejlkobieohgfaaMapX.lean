/- The walks of polyOf, plus, times. -/
import Derived.Test.YtejlkobieohgfaaMapW
import Derived.Test.YtejlkobieohgfaaTerm
namespace Go.Proofs.Ytejlkobieohgfaa
open Go.RowKit
set_option linter.unusedVariables false

/-- a new map -/
def RetMp (L : List Int) (w : World) (e : Ending) (w' : World) : Prop := ∃ b, e = .returned (.map (some b)) ∧ w.heap.size ≤ b ∧ OwnP w' b L ∧ Below w.heap.size w w'
theorem RetMp.mk {b : Nat} {L M : List Int} {w w' : World} (hb : w.heap.size ≤ b) (h : OwnP w' b M) (hl : M = L) (hw : Below w.heap.size w w') : RetMp L w (.returned (.map (some b))) w' := by subst hl; exact ⟨b, rfl, hb, h, hw⟩
theorem RetMp.par {L M : List Int} {w w' : World} {e : Ending} (h : RetMp L w e w') (hp : Par L M) : RetMp M w e w' := by
  obtain ⟨b, e, h1, h2, h3⟩ := h
  exact ⟨b, e, h1, h2.congr hp, h3⟩
theorem wfI_enc {x : List Int} (hf : fitP x) (hl : x.length ≤ 10) : wfI (encP x) := by
  have h1 := encP_lt hf
  have hp : (64 : Nat) ^ x.length ≤ 64 ^ 10 := Nat.pow_le_pow_right (by decide) hl
  have e9 : (64 : Nat) ^ 10 = 1152921504606846976 := by decide
  have h2 : (64 : Int) ^ x.length ≤ 1152921504606846976 := by
    rw [show (64 : Int) ^ x.length = ((64 ^ x.length : Nat) : Int) from by rw [Int.natCast_pow]; rfl]
    omega
  exact wfI_mk (by have := encP_nonneg hf; omega) (by omega)
theorem map_take_succ {xss : List (List Int)} {k : Nat} {x : List Int} (h : Hid (xss[k]? = some x)) : (xss.take (k+1)).map encP = (xss.take k).map encP ++ [encP x] := by
  rw [List.take_add_one, h.out, List.map_append]; rfl

set_option maxRecDepth 100000 in
theorem polyOf_any (A : Option Addr) (n c : Nat) (xss : List (List Int)) (w : World) (h : RdL w w.heap.size A n c xss) (hf : ∀ x ∈ xss, fitP x ∧ x.length ≤ 10) (hn : n ≤ 100000000) :
    Calls Try.prog 89 #[.slice A n c] w (RetMp (xss.map encP) w) := by
  have Hl := Lib.hid h.len
  have H := Lib.hid h
  have HF := Lib.hid hf
  obtain ⟨R, hR⟩ : ∃ R, R = RetMp (xss.map encP) w := ⟨_, rfl⟩
  have HR := Lib.hid hR
  rw [← hR]
  clear hf h hR
  obtain ⟨b, hb⟩ : ∃ b, b = w.heap.size := ⟨_, rfl⟩
  obtain ⟨w0, hw0⟩ : ∃ w0, w0 = w.alloc (.map #[] 0) := ⟨_, rfl⟩
  have O0 : Hid (OwnP w0 b []) := Lib.hid (by rw [hw0, hb]; exact OwnP.new w)
  have B0 : Hid (Below b w w0) := Lib.hid (by rw [hw0, hb]; exact (Below.refl _ _).alloc (Nat.le_refl _) _)
  have HB := Lib.hid hb
  have hmm : ∀ t, (Instr.makeMap t none).run Try.prog w = .ok (.map (some b)) w0 := fun t => by rw [hb, hw0]; exact run_makeMap t w
  clear hb hw0
  go_enter Try.func89, Try.ntmps89
  go_wp2_with fail
  go_loopw [9] (fun i wr => ∃ k : Nat, k ≤ n ∧ i = .int .i64 k ∧ Hid (OwnP wr b ((xss.take k).map encP)) ∧ Hid (Below b w wr)) (fun i _ => n - (intOf i).toNat)
  case atStart => exact ⟨0, Nat.zero_le _, rfl, O0, B0⟩
  case round =>
    obtain ⟨k, hk, rfl, HP, HW⟩ := hrel
    by_cases hlt : k < n
    · obtain ⟨ad, A', n', c', x, rfl, _, hx, hc, hr⟩ := (H.out.below (by rw [← HB.out]; exact HW.out)).at_ hlt
      have hc1 := codeOf_any A' n' c' _ x wr hr (HF.out x (List.mem_of_getElem? hx.out)).1 (by rw [← hr.len]; exact (HF.out x (List.mem_of_getElem? hx.out)).2)
      have HC1 := Lib.hid hc1
      have hw := HF.out x (List.mem_of_getElem? hx.out)
      have hc2 := toggle_any b (encP x) _ wr HP.out (wfI_enc hw.1 hw.2) (by rw [List.length_map, List.length_take]; omega)
      have HC2 := Lib.hid hc2
      clear hc1 hc2 hw hr
      go_wp2_with fail
      refine HC1.out.mono ?_
      rintro e w1 ⟨rfl, rfl⟩
      go_wp2_with fail
      refine HC2.out.mono ?_
      rintro e w1 ⟨rfl, hp1, hg1, hs1⟩
      have HP1 := Lib.hid hp1
      have HG1 := Lib.hid hg1
      clear hp1 hg1
      go_wp2_with fail
      go_roundw
      case rel => exact ⟨k+1, by omega, by go_num, Lib.hid (by rw [map_take_succ hx]; exact HP1.out), Lib.hid (HW.out.trans (below_grownBy HG1.out (Nat.le_refl _) (Nat.le_of_lt HP.out.lt)))⟩
      case measure => simp [intOf]; omega
    · go_wp2_with fail
      obtain rfl : k = n := by omega
      rw [HR.out]
      exact RetMp.mk (b := b) (by rw [HB.out]; exact Nat.le_refl _) HP.out (by rw [List.take_of_length_le (by rw [Hl.out]; omega)]) (by rw [← HB.out]; exact HW.out)

def RetTw (b : Nat) (L : List Int) (w : World) (e : Ending) (w' : World) : Prop := e = .returned (.tuple #[]) ∧ OwnP w' b L ∧ w.grownBy w' (some b)
theorem RetTw.mk {b : Nat} {L M : List Int} {w w' : World} (h : OwnP w' b M) (hp : Par M L) (hg : w.grownBy w' (some b)) : RetTw b L w (.returned (.tuple #[])) w' := ⟨rfl, h.congr hp, hg⟩
theorem grownBy_to {a b c : World} {B r : Nat} (h : a.grownBy b (some B)) (k : b.grownBy c (some r)) (hr : a.heap.size ≤ r) : a.grownBy c (some B) := h.andThen k fun j hj => by injection hj with hj; subst hj; exact .inl hr
theorem par_perm {V L M : List Int} (hp : V.Perm (oddI M)) : Par (L ++ V) (L ++ M) := (Par.refl L).append ((Par.of_perm hp).trans (oddI_par M))
theorem oddI_len (M : List Int) : (oddI M).length ≤ M.length := (oddI_nodup M).length_le_of_subset fun z hz => oddI_sub hz
theorem RanP.len {w : World} {b r : Nat} {L V : List Int} (h : RanP w b r L V) : V.length ≤ L.length :=
  Nat.le_trans (h.nodup.length_le_of_subset (l₂ := oddI L) fun z hz => oddI_mem.2 (h.sub z hz)) (oddI_len L)
set_option maxRecDepth 100000 in
theorem plus_any (b b2 : Nat) (L M : List Int) (w : World) (hL : OwnP w b L) (hM : OwnP w b2 M) (hne : b ≠ b2) (hn : L.length + M.length < 1000000000) :
    Calls Try.prog 90 #[.map (some b), .map (some b2)] w (RetTw b (L ++ M) w) := by
  obtain ⟨R, hR⟩ : ∃ R, R = RetTw b (L ++ M) w := ⟨_, rfl⟩
  have HR := Lib.hid hR
  rw [← hR]
  have HL := Lib.hid hL
  have HM := Lib.hid hM
  clear hL hM hR
  go_enter Try.func90, Try.ntmps90
  go_wp2_with (at_range; refine wpList_rangeP _ rfl (.tmp 5) rfl Try.underlying100 rfl HM.out ?_; intro w0 h0 h1 h2; have H0 := Lib.hid h0; have H1 := Lib.hid h1; clear h0 h1 h2)
  go_frame
  obtain ⟨r, hr⟩ : ∃ r, r = w.heap.size := ⟨_, rfl⟩
  have HS := Lib.hid hr
  rw [← hr] at H0
  rw [← hr]
  clear hr
  have G0 : Hid (w.grownBy w0 (some b)) := Lib.hid ((grownBy_below H1.out).but _)
  have HP0 : Hid (OwnP w0 b (L ++ [])) := Lib.hid (by rw [List.append_nil]; exact HL.out.below H1.out)
  go_loopw [7] (fun _ wr => ∃ V : List Int, Hid (RanP wr b2 r M V) ∧ Hid (OwnP wr b (L ++ V)) ∧ Hid (w.grownBy wr (some b))) (fun _ wr => wr.rangeLeft b2 r)
  case atStart => exact ⟨[], H0, HP0, G0⟩
  case round =>
    obtain ⟨V, HR1, HP, HG⟩ := hrel
    go_wp2_with (at_next; refine wpList_nextP _ rfl (.tmp 6) rfl rfl HR1.out ?_ ?_)
    · intro hd
      have HD := Lib.hid hd
      clear hd
      go_wp2_with fail
      go_end0
      rw [HR.out]
      exact RetTw.mk HP.out (par_perm HD.out) HG.out
    · intro x w1 hx ho h1 h2 h3 h4 h5
      have hbr : b ≠ r := HR1.out.noMap HP.out
      have P1 : OwnP w1 b (L ++ V) := HP.out.kept h3 (by simpa using hbr)
      have hlen : (L ++ V).length < 1000000000000 := by rw [List.length_append]; have := HR1.out.len; omega
      have HC := Lib.hid (toggle_any b x _ w1 P1 hx hlen)
      have N1 := Lib.hid h1
      have N2 := Lib.hid h2
      have N3 := Lib.hid h3
      have Hbr := Lib.hid hbr
      clear h1 h2 h3 h4 P1 hx hlen hbr
      go_wp2_with fail
      refine HC.out.mono ?_
      rintro e w2 ⟨rfl, hp2, hg2, hs2⟩
      have P2 := Lib.hid hp2
      have G2 := Lib.hid hg2
      clear hp2 hg2 hs2
      have K2 := Lib.hid (N1.out.kept G2.out (by simpa using hne.symm) (by simpa using Hbr.out.symm))
      go_wp2_with fail
      go_roundw
      case rel => exact ⟨V ++ [x], Lib.hid K2.out.1, Lib.hid (by rw [← List.append_assoc]; exact P2.out), Lib.hid ((grownBy_to HG.out N3.out (by rw [HS.out]; exact Nat.le_refl _)).trans G2.out)⟩
      case measure => rw [K2.out.2]; exact N2.out
end Go.Proofs.Ytejlkobieohgfaa
