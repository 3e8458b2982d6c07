/- ParsePoly: the reference's functions. -/
import Derived.Test.YtbcchiaigincaaaGreatDoorPsp
namespace Go.Proofs.YtbcchiaigincaaaGreatDoor
open Go.RowKit
set_option linter.unusedVariables false

theorem bytes_at (s : ByteArray) (k : Nat) (h : k < s.size) : s.data.toList[k]? = some (s[k]'h) := by
  rw [Array.getElem?_toList, Array.getElem?_eq_getElem (show k < s.data.size from h)]
  rfl
theorem bytes_len (s : ByteArray) : s.data.toList.length = s.size := rfl
theorem pow10_le {k : Nat} (h : k ≤ 8) : (10 : Int) ^ k ≤ 100000000 := by
  have : ∀ k : Fin 9, (10 : Int) ^ k.1 ≤ 100000000 := by decide
  exact this ⟨k, by omega⟩
set_option maxRecDepth 100000 in
theorem value_any (s : ByteArray) (w : World) : Calls Tryz.prog 20 #[.string s] w (RetI (valF s.data.toList) w) := by
  have HL := Lib.hid (bytes_len s)
  have HAT := Lib.hid (bytes_at s)
  by_cases h0 : s.size = 0
  · have HV := Lib.hid (show valF s.data.toList = -1 from by unfold valF; rw [if_pos (.inl (by rw [bytes_len]; exact h0))])
    have h0z : ((s.size : Int) == 0) = true := by rw [beq_iff_eq]; omega
    clear h0
    go_enter Tryz.func20, Tryz.ntmps20
    go_wp2_with fail
    go_ret
    exact RetI.mk (y := -1) HV.out.symm
  by_cases h9 : 9 < s.size
  · have HV := Lib.hid (show valF s.data.toList = -1 from by unfold valF; rw [if_pos (.inr (.inl (by rw [bytes_len]; exact h9)))])
    have h0z : ((s.size : Int) == 0) = false := beq_eq_false_iff_ne.2 (by omega)
    have h9z : (9 : Int) < (s.size : Int) := by omega
    clear h0
    go_enter Tryz.func20, Tryz.ntmps20
    go_wp2_with fail
    go_ret
    exact RetI.mk (y := -1) HV.out.symm
  have hp : 0 < s.size := by omega
  obtain ⟨c0, hc0⟩ : ∃ c, c = s[0]'hp := ⟨_, rfl⟩
  have hc0' := hc0.symm
  have HC0 := Lib.hid (show s.data.toList.headD 0 = c0 from by
    have := bytes_at s 0 hp
    rw [hc0']  at this
    cases hd : s.data.toList with
    | nil => rw [hd] at this; cases this
    | cons a r => rw [hd] at this; simpa using this)
  have h0z : ((s.size : Int) == 0) = false := beq_eq_false_iff_ne.2 (by omega)
  have h9z : ¬ (9 : Int) < (s.size : Int) := by omega
  by_cases hz : 1 < s.size ∧ c0 = 48
  · have HV := Lib.hid (show valF s.data.toList = -1 from by unfold valF; rw [if_pos (.inr (.inr ⟨by rw [bytes_len]; exact hz.1, by rw [HC0.out]; exact hz.2⟩))])
    have h1z : (1 : Int) < (s.size : Int) := by omega
    have hcz : ((c0.toNat : Int) == 48) = true := by rw [hz.2]; rfl
    clear h0 hz hc0 h9
    go_enter Tryz.func20, Tryz.ntmps20
    go_wp2_with fail
    go_ret
    exact RetI.mk (y := -1) HV.out.symm
  · have HV := Lib.hid (show valF s.data.toList = digF 0 s.data.toList from by
      unfold valF
      rw [if_neg fun h => ?_]
      rcases h with h | h | h
      · rw [bytes_len] at h; omega
      · rw [bytes_len] at h; omega
      · exact hz ⟨by rw [← bytes_len]; exact h.1, by rw [← HC0.out]; exact h.2⟩)
    obtain ⟨R, hR⟩ : ∃ R, R = RetI (valF s.data.toList) w := ⟨_, rfl⟩
    have HR := Lib.hid hR
    rw [← hR]
    have hcase : (¬ (1 : Int) < (s.size : Int)) ∨ ((1 : Int) < (s.size : Int) ∧ ((c0.toNat : Int) == 48) = false) := by
      by_cases h1 : 1 < s.size
      · refine .inr ⟨by omega, ?_⟩
        have : c0 ≠ 48 := fun e => hz ⟨h1, e⟩
        have h2 : c0.toNat ≠ 48 := fun e => this (UInt8.toNat_inj.1 (by rw [e]; rfl))
        simp; omega
      · exact .inl (by omega)
    clear h0 hz hc0 h9 hR
    rcases hcase with h1z | ⟨h1z, hcz⟩
    all_goals
      go_enter Tryz.func20, Tryz.ntmps20
      go_wp2_with fail
      clear hc0'
      go_loop [3, 4] (fun o i => ∃ (k : Nat) (n : Int), k ≤ s.size ∧ i = .int .i64 k ∧ o = .int .i64 n ∧ 0 ≤ n ∧ Hid (n < 10 ^ k) ∧ Hid (digF n (s.data.toList.drop k) = digF 0 s.data.toList)) (fun _ i => s.size - (intOf i).toNat)
      case atStart => exact ⟨0, 0, Nat.zero_le _, rfl, rfl, Int.le_refl _, Lib.hid (by decide), Lib.hid rfl⟩
      case round =>
        obtain ⟨k, n, hk, rfl, rfl, hn0, HN, HD⟩ := hrel
        by_cases hlt : k < s.size
        · have hk8 : k ≤ 8 := by omega
          have hn8 : n < 100000000 := Int.lt_of_lt_of_le HN.out (pow10_le hk8)
          have HS := Lib.hid (bytes_at s k hlt)
          obtain ⟨c, hc⟩ : ∃ c, s[k]'hlt = c := ⟨_, rfl⟩
          rw [hc] at HS
          have HDR := Lib.hid (show s.data.toList.drop k = c :: s.data.toList.drop (k + 1) from by
            have hk' := (List.getElem?_eq_some_iff.1 HS.out).1
            rw [List.drop_eq_getElem_cons hk']
            congr 1)
          have hkk : (k : Int) < (s.size : Int) := by omega
          by_cases hb : c.toNat < 48 ∨ 57 < c.toNat
          · have HE := Lib.hid (show digF 0 s.data.toList = -1 from by rw [← HD.out, HDR.out, digF, if_pos hb])
            rcases hb with hb | hb
            · have hb1 : (c.toNat : Int) < 48 := by omega
              go_wp2_with fail
              rw [HR.out]
              exact RetI.mk (y := -1) (by rw [HV.out, HE.out])
            · have hb1 : ¬ (c.toNat : Int) < 48 := by omega
              have hb2 : (57 : Int) < (c.toNat : Int) := by omega
              go_wp2_with fail
              rw [HR.out]
              exact RetI.mk (y := -1) (by rw [HV.out, HE.out])
          · have HE := Lib.hid (show digF (n * 10 + ((c.toNat : Int) - 48)) (s.data.toList.drop (k + 1)) = digF 0 s.data.toList from by rw [← HD.out, HDR.out, digF, if_neg hb])
            have hb1 : ¬ (c.toNat : Int) < 48 := by omega
            have hb2 : ¬ (57 : Int) < (c.toNat : Int) := by omega
            have hw1 : IntKind.i64.wrap (n * 10) = n * 10 := by rw [IntKind.wrap_i64]; omega
            have hw2 : IntKind.u8.wrap ((c.toNat : Int) - 48) = (c.toNat : Int) - 48 := by rw [IntKind.wrap_u8]; omega
            have hw3 : IntKind.i64.wrap ((c.toNat : Int) - 48) = (c.toNat : Int) - 48 := by rw [IntKind.wrap_i64]; omega
            have hw4 : IntKind.i64.wrap (n * 10 + ((c.toNat : Int) - 48)) = n * 10 + ((c.toNat : Int) - 48) := by rw [IntKind.wrap_i64]; omega
            go_wp2_with fail
            go_round
            case rel => exact ⟨k + 1, n * 10 + ((c.toNat : Int) - 48), by omega, by go_num, rfl, by omega, Lib.hid (by rw [Int.pow_succ]; have := HN.out; omega), HE⟩
            case measure => simp [intOf]; omega
        · obtain rfl : k = s.size := by omega
          have HE := Lib.hid (show n = digF 0 s.data.toList from by
            have := HD.out
            rw [List.drop_of_length_le (by rw [bytes_len]; exact Nat.le_refl _)] at this
            exact this)
          go_wp2_with fail
          rw [HR.out]
          exact RetI.mk (y := n) (by rw [HV.out, HE.out])
theorem extract_list (s : ByteArray) (a k : Nat) : s.extract a k = ⟨((s.data.toList.drop a).take (k - a)).toArray⟩ := by
  apply ByteArray.ext
  rw [ByteArray.data_extract]
  apply Array.toList_inj.1
  rw [Array.toList_extract]
abbrev strB (t : List UInt8) : Value := .string ⟨t.toArray⟩
/-- a slice of strings of one's own -/
def RetSp (ts : List (List UInt8)) (w : World) (e : Ending) (w' : World) : Prop := ∃ A c, e = .returned (.slice A ts.length c) ∧ OwnV w' w.heap.size 9 A ts.length c (ts.map strB) ∧ Below w.heap.size w w'
theorem RetSp.mk {ts us : List (List UInt8)} {A : Option Addr} {n c : Nat} {w w' : World} (h : us = ts) (hn : n = us.length) (ho : OwnV w' w.heap.size 9 A n c (us.map strB)) (hb : Below w.heap.size w w') : RetSp ts w (.returned (.slice A n c)) w' := by
  subst h; subst hn; exact ⟨A, c, rfl, ho, hb⟩
theorem split_hit {b : UInt8} {l : List UInt8} {a k : Nat} (hak : a ≤ k) (hk : l[k]? = some b) (hn : b ∉ (l.drop a).take (k - a)) : splitU b (l.drop a) = (l.drop a).take (k - a) :: splitU b (l.drop (k + 1)) := by
  have hkl := (List.getElem?_eq_some_iff.1 hk).1
  have e : l.drop a = (l.drop a).take (k - a) ++ b :: l.drop (k + 1) := by
    refine (List.take_append_drop (k - a) (l.drop a)).symm.trans ?_
    congr 1
    rw [List.drop_drop, show a + (k - a) = k from by omega, List.drop_eq_getElem_cons hkl]
    congr 1
    have := hk
    rw [List.getElem?_eq_getElem hkl] at this
    exact Option.some.inj this
  rw [e, splitU_app hn, ← e]
theorem not_step {b c : UInt8} {l : List UInt8} {a k : Nat} (hak : a ≤ k) (hk : l[k]? = some c) (hc : c ≠ b) (hn : b ∉ (l.drop a).take (k - a)) : b ∉ (l.drop a).take (k + 1 - a) := by
  rw [show k + 1 - a = (k - a) + 1 from by omega, List.take_add_one, List.getElem?_drop, show a + (k - a) = k from by omega, hk]
  intro hm
  rcases List.mem_append.1 hm with hm | hm
  · exact hn hm
  · simp at hm; exact hc hm.symm
set_option maxRecDepth 100000 in
theorem split01_any (s : ByteArray) (b : UInt8) (w : World) (hs : s.size ≤ 2000000) : Calls Tryz.prog 19 #[.string s, .int .u8 b.toNat] w (RetSp (splitU b s.data.toList) w) := by
  have HL := Lib.hid (bytes_len s)
  obtain ⟨R, hR⟩ : ∃ R, R = RetSp (splitU b s.data.toList) w := ⟨_, rfl⟩
  have HR := Lib.hid hR
  rw [← hR]
  have HO := Lib.hid (ownV_emptyS w w.heap.size (Nat.le_refl _))
  have HB := Lib.hid ((Below.refl w.heap.size w).alloc (Nat.le_refl _) (.cells #[] 9))
  clear hR
  go_enter Tryz.func19, Tryz.ntmps19
  go_wp2_with fail
  go_loopw [5, 6, 7] (fun o at_ i wr => ∃ (k a c' : Nat) (A' : Option Addr) (D : List (List UInt8)), k ≤ s.size ∧ a ≤ k ∧ D.length ≤ a ∧ i = .int .i64 k ∧ at_ = .int .i64 a ∧ o = .slice A' D.length c' ∧ Hid (OwnV wr w.heap.size 9 A' D.length c' (D.map strB)) ∧ Hid (Below w.heap.size w wr) ∧
    Hid (splitU b s.data.toList = D ++ splitU b (s.data.toList.drop a) ∧ b ∉ (s.data.toList.drop a).take (k - a))) (fun _ _ i _ => s.size - (intOf i).toNat)
  case atStart => exact ⟨0, 0, 0, _, [], Nat.zero_le _, Nat.le_refl _, Nat.zero_le _, rfl, rfl, rfl, HO, HB, Lib.hid ⟨rfl, by simp⟩⟩
  case round =>
    clear HO HB
    obtain ⟨k, a, c', A', D, hk, hak, hda, rfl, rfl, rfl, HO, HB, HD⟩ := hrel
    by_cases hlt : k < s.size
    · have HS := Lib.hid (bytes_at s k hlt)
      obtain ⟨c, hc⟩ : ∃ c, s[k]'hlt = c := ⟨_, rfl⟩
      rw [hc] at HS
      by_cases hcb : c = b
      · have hcz : ((c.toNat : Int) == (b.toNat : Int)) = true := by rw [hcb, beq_iff_eq]
        have HS' := Lib.hid (show s.data.toList[k]? = some b from by rw [HS.out, hcb])
        have HX := Lib.hid (extract_list s a k)
        obtain ⟨u, hu⟩ : ∃ u : ByteArray, u = s.extract a k := ⟨_, rfl⟩
        have hu' := hu.symm
        have HU := Lib.hid (show Value.string u = strB ((s.data.toList.drop a).take (k - a)) from by rw [hu, HX.out])
        have ONE := Lib.hid (show ∀ z ∈ [Value.string u], z.oneCell' = true from fun z hz => by rw [List.mem_singleton.1 hz]; rfl)
        have HR1 := Lib.hid (rdV_new wr (.string u) 9)
        have HO1 := Lib.hid (HO.out.alloc (.cells #[.string u] 9))
        have HB1 := Lib.hid (HB.out.alloc HB.out.size (.cells #[.string u] 9))
        clear hu hcb
        go_wp2_with (at_builtin; refine wpList_appV eltStr rfl (.tmp 20) (.tmp 25) rfl rfl rfl HO1.out HR1.out ONE.out (by omega) (by decide) HB1.out.size ?_; intro A4 c4 w4 hv4 hg4 _; have V9 := Lib.hid hv4; have D9 := Lib.hid (HB1.out.grown hg4 HB1.out.size HO1.out.row); clear hv4 hg4)
        go_roundw
        case rel => exact ⟨k + 1, k + 1, c4, A4, D ++ [(s.data.toList.drop a).take (k - a)], by omega, Nat.le_refl _, by simp; omega, by go_num, by go_num, by simp, by rw [List.map_append, List.length_append]; simp only [List.map_cons, List.map_nil, List.length_cons, List.length_nil]; rw [← HU.out]; exact V9, D9, Lib.hid ⟨by rw [HD.out.1, split_hit hak HS'.out HD.out.2]; simp, by simp⟩⟩
        case measure => simp [intOf]; omega
      · have hcz : ((c.toNat : Int) == (b.toNat : Int)) = false := beq_eq_false_iff_ne.2 (fun e => hcb (UInt8.toNat_inj.1 (by omega)))
        go_wp2_with fail
        go_roundw
        case rel => exact ⟨k + 1, a, c', A', D, by omega, by omega, hda, by go_num, rfl, rfl, HO, HB, Lib.hid ⟨HD.out.1, not_step hak HS.out hcb HD.out.2⟩⟩
        case measure => simp [intOf]; omega
    · obtain rfl : k = s.size := by omega
      have HX := Lib.hid (extract_list s a s.size)
      obtain ⟨u, hu⟩ : ∃ u : ByteArray, u = s.extract a s.size := ⟨_, rfl⟩
      have hu' := hu.symm
      have HTK := Lib.hid (show (s.data.toList.drop a).take (s.size - a) = s.data.toList.drop a from List.take_of_length_le (by rw [List.length_drop, HL.out]; exact Nat.le_refl _))
      have HU := Lib.hid (show Value.string u = strB (s.data.toList.drop a) from by rw [hu, HX.out, HTK.out])
      have HN := Lib.hid (show splitU b (s.data.toList.drop a) = [s.data.toList.drop a] from splitU_none (by have := HD.out.2; rwa [HTK.out] at this))
      have ONE := Lib.hid (show ∀ z ∈ [Value.string u], z.oneCell' = true from fun z hz => by rw [List.mem_singleton.1 hz]; rfl)
      have HR1 := Lib.hid (rdV_new wr (.string u) 9)
      have HO1 := Lib.hid (HO.out.alloc (.cells #[.string u] 9))
      have HB1 := Lib.hid (HB.out.alloc HB.out.size (.cells #[.string u] 9))
      clear hu
      go_wp2_with (at_builtin; refine wpList_appV eltStr rfl (.tmp 29) (.tmp 33) rfl rfl rfl HO1.out HR1.out ONE.out (by omega) (by decide) HB1.out.size ?_; intro A4 c4 w4 hv4 hg4 _; have V9 := Lib.hid hv4; have D9 := Lib.hid (HB1.out.grown hg4 HB1.out.size HO1.out.row); clear hv4 hg4)
      rw [HR.out]
      refine RetSp.mk (us := D ++ [s.data.toList.drop a]) (by rw [HD.out.1, HN.out]) (by simp) ?_ D9.out
      rw [List.map_append]
      simp only [List.map_cons, List.map_nil]
      rw [← HU.out]
      exact V9.out
set_option maxRecDepth 100000 in
theorem read01_any (s : ByteArray) (b : UInt8) (w : World) (hs : s.size ≤ 2000000) : Calls Tryz.prog 21 #[.string s, .int .u8 b.toNat] w (RetO (splitU b s.data.toList).length ((splitU b s.data.toList).map valF) w) := by
  have CS := Lib.hid (split01_any s b w hs)
  have HLN := Lib.hid (show (splitU b s.data.toList).length ≤ 2000001 from by
    rw [splitU_len]
    have := List.count_le_length (a := b) (l := s.data.toList)
    rw [bytes_len] at this
    omega)
  obtain ⟨ts, hts⟩ : ∃ ts, ts = splitU b s.data.toList := ⟨_, rfl⟩
  rw [← hts] at CS HLN ⊢
  obtain ⟨n, hn⟩ : ∃ n, n = ts.length := ⟨_, rfl⟩
  have hn2 : n ≤ 2000001 := by rw [hn]; exact HLN.out
  have HN := Lib.hid hn.symm
  obtain ⟨R, hR⟩ : ∃ R, R = RetO ts.length (ts.map valF) w := ⟨_, rfl⟩
  have HR := Lib.hid hR
  rw [← hR]
  unfold RetSp at CS
  rw [← hn] at CS
  clear hts hn hR
  go_enter Tryz.func21, Tryz.ntmps21
  go_wp2_with fail
  refine CS.out.mono ?_
  rintro e w1 ⟨A, c, rfl, ho, hb⟩
  have HV := Lib.hid (ho.rd)
  have B1 := Lib.hid hb
  have HS0 := Lib.hid (StS.start (Below.refl w1.heap.size w1) (Nat.le_refl _))
  clear ho hb
  go_wp2_with fail
  go_loopw [6, 7] (fun o i wr => ∃ (k c' : Nat) (A' : Option Addr) (acc : List Int), k ≤ n ∧ i = .int .i64 k ∧ o = .slice A' k c' ∧ Hid (acc = (ts.take k).map valF) ∧ Hid (StS w1 w1.heap.size wr A' k c' acc)) (fun _ i _ => n - (intOf i).toNat)
  case atStart => exact ⟨0, _, _, [], Nat.zero_le _, rfl, rfl, Lib.hid (by simp), HS0⟩
  case round =>
    clear HS0
    obtain ⟨k, c', A', acc, hk, rfl, rfl, HA, HS⟩ := hrel
    by_cases hlt : k < n
    · have Hr := Lib.hid (HV.out.below HS.out.bel)
      obtain ⟨ad, v, e1, _, hv, hcx⟩ := Hr.out.at_ hlt
      subst e1
      obtain ⟨t, ht⟩ : ∃ t, ts[k]? = some t := ⟨_, List.getElem?_eq_getElem (by rw [HN.out]; exact hlt)⟩
      have hv2 := hv.out
      rw [List.getElem?_map, ht] at hv2
      obtain rfl := Option.some.inj hv2
      have HT := Lib.hid (show (ts.take (k + 1)).map valF = acc ++ [valF t] from by rw [List.take_add_one, ht, HA.out]; simp)
      have CV := Lib.hid (value_any ⟨t.toArray⟩ wr)
      have e2 : (ByteArray.mk t.toArray).data.toList = t := rfl
      rw [e2] at CV
      obtain ⟨x, hx⟩ : ∃ x, x = valF t := ⟨_, rfl⟩
      rw [← hx] at CV HT
      clear hv hv2 ht e2 hx
      simp only [strB] at hcx
      obtain ⟨tb, htb⟩ : ∃ tb : ByteArray, tb = ⟨t.toArray⟩ := ⟨_, rfl⟩
      rw [← htb] at CV hcx
      clear htb
      go_wp2_with fail
      refine CV.out.mono ?_
      rintro e w2 ⟨rfl, rfl⟩
      go_wp2_with (at_builtin; refine wpList_pushI rfl (.tmp 18) (.tmp 24) rfl rfl rfl HS.out (by omega) ?_)
      intro A6 c6 w6 hs6 hg6
      have HS6 := Lib.hid hs6
      clear hs6 hg6
      go_wp2_with fail
      go_roundw
      case rel => exact ⟨k + 1, c6, A6, _, by omega, by go_num, rfl, Lib.hid HT.out.symm, HS6⟩
      case measure => simp [intOf]; omega
    · obtain rfl : k = n := by omega
      go_wp2_with fail
      rw [HR.out]
      refine RetO.mk2 (by rw [HN.out]) ?_ (⟨HS.out.own.mono B1.out.size, B1.out.trans (HS.out.bel.mono B1.out.size), Nat.le_trans B1.out.size HS.out.hi⟩ : StS w w.heap.size _ _ _ _ acc)
      rw [HA.out, List.take_of_length_le (by rw [HN.out]; exact Nat.le_refl _)]
end Go.Proofs.YtbcchiaigincaaaGreatDoor
