/- markPolyS, heldPolyS. -/
import Derived.Test.YtejlkobieohgfaaPlq
import Derived.Test.YtejlkobieohgfaaModT
namespace Go.Proofs.Ytejlkobieohgfaa
open Go.RowKit
set_option linter.unusedVariables false

theorem wpList_pushQH {w0 w : World} {ops : Array Oper} {rest : List Oper} {o : Oper} {a : Act} {Q : Exit → Act → World → Prop} (hgd : o.guard = none) (s x : Operand)
    (ho : o.op = .call { callee := .builtin .append, args := #[s, x], argTypes := #[53, 53] }) {B K K2 n c n' c' H : Nat} {A A' : Option Addr} {ps : Pls} {v : Int} {xss : List (List Int)}
    (hs : a.eval s = .slice A n c) (hH : w.heap.size = H) (hx : a.eval x = .slice (some ⟨H, 0, Option.none⟩) 1 1) (hst : StQ w0 B w K A n c ps) (hnew : OwnM w K K2 A' n' c' xss) (hK : K ≤ K2) (hK2 : K2 ≤ w.heap.size) (hn : n ≤ 1000000)
    (h : ∀ A2 c2 w', StQ w0 B w' w'.heap.size A2 (n + 1) c2 (ps ++ [(v, xss)]) → wpList Try.prog ops Q rest (a.put o.dst (.slice A2 (n + 1) c2)) w') :
    wpList Try.prog ops Q (o :: rest) a (w.alloc (.cells #[.int .i64 v, .slice A' n' c'] 28)) := by
  subst hH
  exact wpList_pushQ hgd s x ho hs hx hst hnew hK hK2 hn h
def marksQ : Int → Pls → Pls
  | _, [] => []
  | m, (_, x) :: ps => (m, marksL (m + 1) x) :: marksQ (m + 1 + totalL x) ps
theorem totalQ_cons (p : Int × List (List Int)) (ps : Pls) : totalQ (p :: ps) = 1 + totalL p.2 + totalQ ps := by simp [totalQ]
theorem marksQ_append : ∀ (ps qs : Pls) (m : Int), marksQ m (ps ++ qs) = marksQ m ps ++ marksQ (m + totalQ ps) qs
  | [], qs, m => by simp [marksQ, totalQ]
  | (v, x) :: ps, qs, m => by
    rw [List.cons_append, marksQ, marksQ, marksQ_append ps qs, totalQ_cons, List.cons_append]
    congr 3
    push_cast
    omega
theorem marksQ_length : ∀ (ps : Pls) (m : Int), (marksQ m ps).length = ps.length
  | [], m => rfl
  | (v, x) :: ps, m => by rw [marksQ, List.length_cons, List.length_cons, marksQ_length ps]
theorem totalQ_append (ps qs : Pls) : totalQ (ps ++ qs) = totalQ ps + totalQ qs := by simp [totalQ]
theorem totalQ_take_succ {ps : Pls} {k : Nat} {v : Int} {x : List (List Int)} (h : Hid (ps[k]? = some (v, x))) : totalQ (ps.take (k + 1)) = totalQ (ps.take k) + (1 + totalL x) := by
  rw [List.take_add_one, h.out, totalQ_append]; simp [totalQ]
theorem totalQ_len : ∀ ps : Pls, ps.length ≤ totalQ ps
  | [] => Nat.zero_le _
  | p :: ps => by have := totalQ_len ps; rw [totalQ_cons, List.length_cons]; omega
theorem totalQ_take_le (ps : Pls) (k : Nat) : totalQ (ps.take k) ≤ totalQ ps := by
  have h : totalQ (ps.take k ++ ps.drop k) = totalQ ps := by rw [List.take_append_drop]
  rw [totalQ_append] at h
  omega
theorem totalQ_mem {ps : Pls} {p : Int × List (List Int)} (h : p ∈ ps) : 1 + totalL p.2 ≤ totalQ ps := by
  obtain ⟨a, b, rfl⟩ := List.append_of_mem h
  rw [totalQ_append, totalQ_cons]
  omega
theorem marksQ_take_succ {ps : Pls} {k : Nat} {v m : Int} {x : List (List Int)} (h : Hid (ps[k]? = some (v, x))) : marksQ m (ps.take (k + 1)) = marksQ m (ps.take k) ++ [(m + totalQ (ps.take k), marksL (m + totalQ (ps.take k) + 1) x)] := by
  rw [List.take_add_one, h.out, Option.toList_some, marksQ_append]; rfl
theorem marksQ_get {ps : Pls} {k : Nat} {v m : Int} {x : List (List Int)} (h : Hid (ps[k]? = some (v, x))) : (marksQ m ps)[k]? = some (m + totalQ (ps.take k), marksL (m + totalQ (ps.take k) + 1) x) := by
  have hk : k < ps.length := (List.getElem?_eq_some_iff.1 h.out).1
  have e : ps = ps.take (k + 1) ++ ps.drop (k + 1) := (List.take_append_drop _ _).symm
  have hl : (marksQ m (ps.take k)).length = k := by rw [marksQ_length, List.length_take]; omega
  have : marksQ m ps = marksQ m (ps.take k) ++ ([(m + totalQ (ps.take k), marksL (m + totalQ (ps.take k) + 1) x)] ++ marksQ (m + totalQ (ps.take (k + 1))) (ps.drop (k + 1))) := by
    conv => lhs; rw [e]
    rw [marksQ_append, marksQ_take_succ h, List.append_assoc]
  rw [this, List.getElem?_append_right (by omega), hl, Nat.sub_self]
  rfl
theorem marksQ_set {ps : Pls} {k : Nat} {v m : Int} {x y : List (List Int)} {u : Int} (h : Hid (ps[k]? = some (v, x))) : (marksQ m (ps.take k) ++ ps.drop k).set k (u, y) = marksQ m (ps.take k) ++ (u, y) :: ps.drop (k + 1) := by
  have hk : k < ps.length := (List.getElem?_eq_some_iff.1 h.out).1
  have hl : (marksQ m (ps.take k)).length = k := by rw [marksQ_length, List.length_take]; omega
  rw [List.set_append_right _ _ (by omega), hl, Nat.sub_self, List.drop_eq_getElem_cons hk]
  rfl

def RetMarkQ (B K : Nat) (A : Option Addr) (n c : Nat) (ps : Pls) (x : Int) (w : World) (e : Ending) (w' : World) : Prop := e = .returned (.int .i64 x) ∧ OwnQ w' B K A n c ps ∧ Mid B K w w'
theorem RetMarkQ.mk {B K n c : Nat} {A : Option Addr} {ps : Pls} {x y : Int} {w w' : World} (h : y = x) (ho : OwnQ w' B K A n c ps) (hm : Mid B K w w') : RetMarkQ B K A n c ps x w (.returned (.int .i64 y)) w' := ⟨by rw [h], ho, hm⟩
set_option maxRecDepth 100000 in
set_option maxHeartbeats 2000000 in
theorem markPolyS_any (A : Option Addr) (c n : Nat) (ps : Pls) (w : World) (B K : Nat) (m : Int) (h : OwnQ w B K A n c ps) (hK : K ≤ w.heap.size) (ht : totalQ ps ≤ 100000000) (h0 : 0 ≤ m) (h1 : m ≤ 100000000) (hl : ∀ p ∈ ps, p.2.length ≤ 1000000000000) :
    Calls Try.prog 36 #[.slice A n c, .int .i64 m] w (RetMarkQ B K A n c (marksQ m ps) (m + totalQ ps) w) := by
  have Hl := Lib.hid h.len
  have hnn : n ≤ 100000000 := by rw [← h.len]; exact Nat.le_trans (totalQ_len ps) ht
  have HT := Lib.hid ht
  have HLn := Lib.hid hl
  obtain ⟨R, hR⟩ : ∃ R, R = RetMarkQ B K A n c (marksQ m ps) (m + totalQ ps) w := ⟨_, rfl⟩
  have HR := Lib.hid hR
  rw [← hR]
  have H0 := Lib.hid (show OwnQ w B K A n c (marksQ m (ps.take 0) ++ ps.drop 0) from by simpa [marksQ] using h)
  have HK := Lib.hid hK
  clear h ht hl hR hK
  have HM0 := Lib.hid (Mid.refl B K w)
  go_enter Try.func36, Try.ntmps36
  go_wp2_with fail
  go_loopw [1, 5] (fun v i wr => ∃ k t : Nat, k ≤ n ∧ i = .int .i64 k ∧ v = .int .i64 (m + t) ∧ t ≤ 100000000 ∧ Hid (t = totalQ (ps.take k)) ∧ Hid (OwnQ wr B K A n c (marksQ m (ps.take k) ++ ps.drop k)) ∧ Hid (Mid B K w wr)) (fun _ i _ => n - (intOf i).toNat)
  case atStart => exact ⟨0, 0, Nat.zero_le _, rfl, by go_num, by omega, Lib.hid rfl, H0, HM0⟩
  case round =>
    clear H0 HM0
    obtain ⟨k, t, hk, rfl, rfl, ht1, HTt, HO, HM⟩ := hrel
    have HKr := Lib.hid (Nat.le_trans HK.out HM.out.size)
    by_cases hlt : k < n
    · have hkl : k < ps.length := by rw [Hl.out]; exact hlt
      obtain ⟨v0, xs, hx⟩ : ∃ v xs, ps[k]? = some (v, xs) := ⟨ps[k].1, ps[k].2, List.getElem?_eq_getElem hkl⟩
      have HX := Lib.hid hx
      obtain ⟨g, v, A', n', c', xs', lo, hi, rfl, hgB, hgK, hp, hc1, hc2, hf1, _, _, _, _, hset, _⟩ := HO.out.at2 HKr.out hlt
      have hs1 := hset (m + t)
      obtain ⟨w1, hw1⟩ : ∃ W, W = wr.setCell ⟨g, k * 2, none⟩ (.int .i64 (m + t)) := ⟨_, rfl⟩
      rw [← hw1] at hs1
      have hz1 : w1.heap.size = wr.heap.size := by rw [hw1]; simp [World.setCell]
      have hM1 : Mid B K wr w1 := by rw [hw1]; exact mid_setCell (p := ⟨g, k * 2, none⟩) _ ⟨hgB, hgK⟩
      obtain ⟨g2, v2, A2, n2, c2, ys, lo2, hi2, hA2, _, _, hp2, _, hcy, _, hown, hlo, hlh, hhi, _, hset2⟩ := hs1.at2 (by rw [hz1]; exact HKr.out) hlt
      obtain rfl : g = g2 := by injection hA2 with e; injection e
      obtain rfl : xs = xs' := by
        have e1 := hp.out
        have hml : (marksQ m (ps.take k)).length = k := by rw [marksQ_length, List.length_take]; omega
        rw [List.getElem?_append_right (by omega), hml, Nat.sub_self, List.getElem?_drop, Nat.add_zero, hx] at e1
        injection e1 with e1; injection e1 with _ e1
      obtain ⟨rfl, rfl⟩ : v2 = m + t ∧ xs = ys := by
        have e1 := hp2.out
        rw [List.getElem?_set_self (by rw [List.length_append, marksQ_length, List.length_take, List.length_drop]; omega)] at e1
        injection e1 with e1; injection e1 with e2 e3; exact ⟨e2.symm, e3⟩
      have htm := totalQ_mem (List.mem_of_getElem? hx)
      have ht2 : totalL xs ≤ 100000000 := by have := HT.out; simp only at htm; omega
      have ht3 : Hid (t + (1 + totalL xs) = totalQ (ps.take (k + 1))) := Lib.hid (by rw [totalQ_take_succ HX, ← HTt.out])
      have ht4 : t + (1 + totalL xs) ≤ 100000000 := by rw [ht3.out]; exact Nat.le_trans (totalQ_take_le _ _) HT.out
      have hn2 : n2 ≤ 1000000000000 := by rw [← hown.own.len]; exact HLn.out _ (List.mem_of_getElem? hx)
      have C1 := Lib.hid (markM_any A2 c2 n2 xs w1 lo2 hi2 (m + t + 1) hown hn2 (by omega) (by omega) (by omega))
      have HS2 := Lib.hid hset2
      have HW1 := Lib.hid hw1
      have HMM := Lib.hid (HM.out.trans hM1)
      have HLo := Lib.hid hlo
      have HHi := Lib.hid hhi
      have hcy2 := hcy
      rw [hw1] at hcy2
      have hlt' : (k : Int) < (n : Int) := by omega
      have hk0 : (0 : Int) ≤ (k : Int) := by omega
      clear hx hp hc2 hset hs1 hz1 hM1 hA2 hp2 hcy hown hlo hlh hhi hset2 htm hw1 HM HO
      go_wp2_with fail
      rw [← HW1.out]
      refine C1.out.mono ?_
      rintro e w2 ⟨rfl, ho, hm⟩
      have HO2 := Lib.hid (show OwnQ w2 B K (some ⟨g, 0, none⟩) n c (marksQ m (ps.take (k + 1)) ++ ps.drop (k + 1)) from by
        have h1 := HS2.out w2 _ ho hm
        rw [List.set_set, marksQ_set HX] at h1
        rw [marksQ_take_succ HX, ← HTt.out, List.append_assoc]
        exact h1)
      have HM2 := Lib.hid (HMM.out.trans (hm.wide HLo.out HHi.out))
      clear ho hm hcy2 C1 hc1 hf1
      go_wp2_with fail
      go_roundw
      case rel => exact ⟨k + 1, t + (1 + totalL xs), by omega, by go_num, by go_num, ht4, ht3, HO2, HM2⟩
      case measure => simp [intOf]; omega
    · obtain rfl : k = n := by omega
      go_wp2_with fail
      rw [HR.out]
      have e1 := HTt.out
      rw [List.take_of_length_le (by rw [Hl.out]; omega)] at e1
      have h2 := HO.out
      rw [List.take_of_length_le (by rw [Hl.out]; omega), List.drop_of_length_le (by rw [Hl.out]; omega), List.append_nil] at h2
      exact RetMarkQ.mk (y := m + (t : Int)) (by rw [e1]) h2 HM.out

set_option maxRecDepth 100000 in
set_option maxHeartbeats 2000000 in
theorem heldPolyS_any (A : Option Addr) (c n : Nat) (ps : Pls) (w : World) (B : Nat) (m : Int) (h : RdQ w B A n c (marksQ m ps)) (hB : B ≤ w.heap.size) (ht : totalQ ps ≤ 100000000) (h0 : 0 ≤ m) (h1 : m ≤ 100000000) (hl : ∀ p ∈ ps, p.2.length ≤ 1000000000000) :
    Calls Try.prog 37 #[.slice A n c, .int .i64 m] w (RetIb (m + totalQ ps) w) := by
  have Hl := Lib.hid (show ps.length = n from by rw [← h.len, marksQ_length])
  have hnn : n ≤ 100000000 := by rw [← Hl.out]; exact Nat.le_trans (totalQ_len ps) ht
  have H := Lib.hid h
  have HT := Lib.hid ht
  have HLn := Lib.hid hl
  obtain ⟨R, hR⟩ : ∃ R, R = RetIb (m + totalQ ps) w := ⟨_, rfl⟩
  have HR := Lib.hid hR
  rw [← hR]
  clear h ht hl hR
  go_enter Try.func37, Try.ntmps37
  go_wp2_with fail
  go_loop [1, 5] (fun v i => ∃ k t : Nat, k ≤ n ∧ i = .int .i64 k ∧ v = .int .i64 (m + t) ∧ t ≤ 100000000 ∧ Hid (t = totalQ (ps.take k))) (fun _ i => n - (intOf i).toNat)
  case atStart => exact ⟨0, 0, Nat.zero_le _, rfl, by go_num, by omega, Lib.hid rfl⟩
  case round =>
    obtain ⟨k, t, hk, rfl, rfl, ht1, HTt⟩ := hrel
    by_cases hlt : k < n
    · have hkl : k < ps.length := by rw [Hl.out]; exact hlt
      obtain ⟨v0, xs, hx⟩ : ∃ v xs, ps[k]? = some (v, xs) := ⟨ps[k].1, ps[k].2, List.getElem?_eq_getElem hkl⟩
      have HX := Lib.hid hx
      obtain ⟨g, v, A', n', c', ys, rfl, hg, hp, hc1, hc2, hr⟩ := H.out.at_ hlt
      obtain ⟨rfl, rfl⟩ : v = m + t ∧ ys = marksL (m + t + 1) xs := by
        have e1 := hp.out
        rw [marksQ_get HX, ← HTt.out] at e1
        injection e1 with e1; injection e1 with e2 e3; exact ⟨e2.symm, e3.symm⟩
      have htm := totalQ_mem (List.mem_of_getElem? hx)
      have ht2 : totalL xs ≤ 100000000 := by have := HT.out; simp only at htm; omega
      have ht3 : Hid (t + (1 + totalL xs) = totalQ (ps.take (k + 1))) := Lib.hid (by rw [totalQ_take_succ HX, ← HTt.out])
      have ht4 : t + (1 + totalL xs) ≤ 100000000 := by rw [ht3.out]; exact Nat.le_trans (totalQ_take_le _ _) HT.out
      have hn2 : n' ≤ 1000000000000 := by rw [← hr.len, marksL_length]; exact HLn.out _ (List.mem_of_getElem? hx)
      have C1 := Lib.hid (heldL_any A' c' n' xs w B (m + t + 1) hr hn2 (by omega) (by omega) (by omega))
      have hlt' : (k : Int) < (n : Int) := by omega
      have hk0 : (0 : Int) ≤ (k : Int) := by omega
      have hne : ((m + (t : Int)) != (m + (t : Int))) = false := by simp
      have hs0 : 0 ≤ m + (t : Int) + 1 + (totalL xs : Int) := by omega
      clear hx hp hr hg htm
      go_wp2_with fail
      refine C1.out.mono ?_
      rintro e w2 ⟨rfl, h2⟩
      rw [h2]
      clear h2
      go_wp2_with fail
      go_round
      case rel => exact ⟨k + 1, t + (1 + totalL xs), by omega, by go_num, by go_num, ht4, ht3⟩
      case measure => simp [intOf]; omega
    · obtain rfl : k = n := by omega
      go_wp2_with fail
      rw [HR.out]
      have e1 := HTt.out
      rw [List.take_of_length_le (by rw [Hl.out]; omega)] at e1
      exact RetIb.mk (y := m + (t : Int)) (by rw [e1]) (Below.refl _ _)
end Go.Proofs.Ytejlkobieohgfaa
