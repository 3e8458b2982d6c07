/- Texts of sums: the program's functions lambdaText and sumText. -/
import Derived.Test.YtgmbbpaokcjnhaaGreatDoorTxtJ
import Derived.Lib.Replace
namespace Go.Proofs.YtgmbbpaokcjnhaaGreatDoor
open Go.RowKit
set_option linter.unusedVariables false

/-! strings.ReplaceAll of one byte by another one -/
theorem replK_step (o t : UInt8) (k : Nat) (b : UInt8) (l : List UInt8) : Lib.replaceK [o] [t] (k + 1) (b :: l) = if b = o then t :: Lib.replaceK [o] [t] k l else b :: Lib.replaceK [o] [t] (k + 1) l := by
  by_cases hb : b = o
  · subst hb
    rw [if_pos rfl, Lib.replaceK_hit [b] [t] k (b :: l) 0 (by simp [Lib.index])]
    simp
  · rw [if_neg hb]
    have hp : ([o] : List UInt8).isPrefixOf (b :: l) = false := by simp [List.isPrefixOf]; exact fun h => hb h.symm
    by_cases hm : Lib.index l [o] = -1
    · have hi : Lib.index (b :: l) [o] = -1 := by rw [Lib.index, if_neg (by rw [hp]; simp), if_pos (by simp [hm])]
      rw [Lib.replaceK, if_pos (by rw [hi]; rfl), Lib.replaceK, if_pos (by rw [hm]; rfl)]
    · have hge := Lib.index_ge l [o]
      obtain ⟨i, hi⟩ : ∃ i : Nat, Lib.index l [o] = i := ⟨(Lib.index l [o]).toNat, by omega⟩
      have hi2 : Lib.index (b :: l) [o] = ((i + 1 : Nat) : Int) := by rw [Lib.index, if_neg (by rw [hp]; simp), if_neg (by simp [hm]), hi]; push_cast; rfl
      rw [Lib.replaceK_hit [o] [t] k (b :: l) (i + 1) hi2, Lib.replaceK_hit [o] [t] k l i hi]
      simp
def swapB (o t b : UInt8) : UInt8 := if b = o then t else b
theorem replK_all (o t : UInt8) : ∀ (l : List UInt8) (k : Nat), l.count o ≤ k → Lib.replaceK [o] [t] k l = l.map (swapB o t) := by
  intro l
  induction l with
  | nil =>
    intro k _
    cases k with
    | zero => rfl
    | succ k => simp [Lib.replaceK, Lib.index]
  | cons b l ih =>
    intro k hk
    cases k with
    | zero =>
      have h0 := ih 0 (by rw [List.count_cons] at hk; omega)
      rw [Lib.replaceK] at h0 ⊢
      have hb : ¬ b = o := fun e => by subst e; rw [List.count_cons_self] at hk; omega
      rw [List.map_cons, ← h0, swapB, if_neg hb]
    | succ k =>
      rw [replK_step, List.map_cons]
      by_cases hb : b = o
      · subst hb
        rw [List.count_cons_self] at hk
        rw [if_pos rfl, ih k (by omega), swapB, if_pos rfl]
      · rw [List.count_cons_of_ne (by simpa using hb)] at hk
        rw [if_neg hb, ih (k + 1) hk, swapB, if_neg hb]
theorem replAll_eq (o t : UInt8) (h : o ≠ t) (l : List UInt8) : Lib.replaceAll l [o] [t] = l.map (swapB o t) := by
  unfold Lib.replaceAll Lib.replace Lib.replaceNum
  rw [if_neg (by simpa using h), if_pos (Or.inl (by decide)), Lib.count_one]
  exact replK_all o t l _ (Nat.le_refl _)
theorem decW_swap (n : Nat) (h : n < 100) : (decW n).map (swapB 44 46) = decW n := by
  have key : ∀ m : Fin 100, (decW m.1).map (swapB 44 46) = decW m.1 := by decide +kernel
  exact key ⟨n, h⟩
theorem numT_swap (xs : List Int) (hx : ∀ i ∈ xs, 0 ≤ i ∧ i < 100) : (numT [44] xs).map (swapB 44 46) = numT [46] xs := by
  have hd : ∀ i : Int, 0 ≤ i ∧ i < 100 → (decW i.toNat).map (swapB 44 46) = decW i.toNat := fun i hi => decW_swap _ (by omega)
  have hr : ∀ r : List Int, (∀ i ∈ r, 0 ≤ i ∧ i < 100) → (Lib.joinTail [44] (r.map fun i => decW i.toNat)).map (swapB 44 46) = Lib.joinTail [46] (r.map fun i => decW i.toNat) := by
    intro r
    induction r with
    | nil => intro _; rfl
    | cons a r ih =>
      intro h
      have h1 := ih fun i hi => h i (List.mem_cons_of_mem _ hi)
      have h2 := hd a (h a (by simp))
      simp only [Lib.joinTail, List.map_cons, List.flatten_cons, List.map_append] at h1 ⊢
      rw [h1, h2]
      rfl
  unfold numT
  cases xs with
  | nil => simp [Lib.join_nil]
  | cons x r =>
    rw [List.map_cons, Lib.join_cons, Lib.join_cons, List.map_append, hd x (hx x (by simp)), hr r fun i hi => hx i (List.mem_cons_of_mem _ hi)]
theorem join_len {K : Nat} {sp : UInt8} {ts : List (List UInt8)} (h : ∀ t ∈ ts, t.length ≤ K) : (Lib.join ts [sp]).length ≤ (K + 1) * ts.length := by
  have hr : ∀ r : List (List UInt8), (∀ t ∈ r, t.length ≤ K) → (Lib.joinTail [sp] r).length ≤ (K + 1) * r.length := by
    intro r
    induction r with
    | nil => intro _; simp [Lib.joinTail]
    | cons a r ih =>
      intro h
      have h1 := ih fun t ht => h t (List.mem_cons_of_mem _ ht)
      have h2 := h a (by simp)
      simp only [Lib.joinTail, List.map_cons, List.flatten_cons, List.length_append, List.length_cons, List.length_nil] at h1 ⊢
      have : (K + 1) * (r.length + 1) = (K + 1) * r.length + (K + 1) := by rw [Nat.mul_add, Nat.mul_one]
      omega
  cases ts with
  | nil => simp [Lib.join_nil]
  | cons t r =>
    rw [Lib.join_cons, List.length_append, List.length_cons]
    have h1 := hr r fun u hu => h u (List.mem_cons_of_mem _ hu)
    have h2 := h t (by simp)
    have : (K + 1) * (r.length + 1) = (K + 1) * r.length + (K + 1) := by rw [Nat.mul_add, Nat.mul_one]
    omega

/-- a function that tells texts of lists, handed in -/
structure FunT (fid : Nat) (q : List Int → List UInt8) (P : World → Prop) : Prop where
  enters : ∀ args w, (callFunc fid args).run Tryz.prog w = .ok (.enter fid args) w
  calls : ∀ (A : Option Addr) (n c B : Nat) (xs : List Int) (w : World), RdS w B A n c xs → B ≤ w.heap.size → (∀ i ∈ xs, 0 ≤ i ∧ i < 100) → n ≤ 1000 → P w → Calls Tryz.prog fid #[.slice A n c] w (RetTx (q xs) w)
def sumQ (q : List Int → List UInt8) (xss : List (List Int)) : List UInt8 := if xss = [] then [48] else Lib.join (xss.map q) [43]
set_option maxRecDepth 100000 in
theorem sumText_any (fid : Nat) (q : List Int → List UInt8) (P : World → Prop) (hf : FunT fid q P) (hP : ∀ (B : Nat) (w w' : World), B = w.heap.size → Below B w w' → P w → P w') (A : Option Addr) (n c : Nat) (xss : List (List Int)) (w : World) (h : RdL w w.heap.size A n c xss) (hp : P w)
    (hx : ∀ x ∈ xss, x.length ≤ 1000 ∧ ∀ i ∈ x, 0 ≤ i ∧ i < 100) (hq : ∀ x ∈ xss, (q x).length ≤ 10000) (hn : n ≤ 1000000) :
    Calls Tryz.prog 50 #[.slice A n c, .func (.func fid) #[] #[]] w (RetTx (sumQ q xss) w) := by
  have H := Lib.hid h
  have HX := Lib.hid hx
  have HL := Lib.hid h.len
  have HQ := Lib.hid hq
  obtain ⟨R, hR⟩ : ∃ R, R = RetTx (sumQ q xss) w := ⟨_, rfl⟩
  have HR := Lib.hid hR
  rw [← hR]
  have HP := Lib.hid (fun w' (hb : Below w.heap.size w w') => hP _ w w' rfl hb hp)
  have hent := hf.enters
  have HF := Lib.hid hf.calls
  clear h hx hR hq hP hp hf
  rcases Nat.eq_zero_or_pos n with rfl | hpos
  · have hnil : xss = [] := List.eq_nil_of_length_eq_zero HL.out
    have HS := Lib.hid (show sumQ q xss = [48] from by unfold sumQ; rw [if_pos hnil])
    clear hnil
    go_enter Tryz.func50, Tryz.ntmps50
    go_wp2_with fail
    rw [HR.out]
    exact RetTx.mk (s := ⟨#[48]⟩) (by rw [HS.out]) (Below.refl _ _)
  · have hne : xss ≠ [] := fun e => by have := HL.out; rw [e] at this; simp at this; omega
    have HS := Lib.hid (show sumQ q xss = Lib.join (xss.map q) [43] from by unfold sumQ; rw [if_neg hne])
    have hnz : ((n : Int) == 0) = false := by simp; omega
    clear hne
    have HO := Lib.hid (ownV_emptyS w w.heap.size (Nat.le_refl _))
    have HB := Lib.hid ((Below.refl w.heap.size w).alloc (Nat.le_refl _) (.cells #[] 9))
    go_enter Tryz.func50, Tryz.ntmps50
    go_wp2_with fail
    go_loopw [5, 14] (fun o i wr => ∃ (k c' : Nat) (A' : Option Addr), k ≤ n ∧ i = .int .i64 k ∧ o = .slice A' k c' ∧ Hid (OwnV wr w.heap.size 9 A' k c' ((xss.take k).map fun x => .string ⟨(q x).toArray⟩)) ∧ Hid (Below w.heap.size w wr)) (fun _ i _ => n - (intOf i).toNat)
    case atStart => exact ⟨0, 0, _, Nat.zero_le _, rfl, rfl, by simpa using HO, HB⟩
    case round =>
      clear HO HB
      obtain ⟨k, c', A', hk, rfl, rfl, HO, HB⟩ := hrel
      by_cases hlt : k < n
      · have Hr := Lib.hid (H.out.below HB.out)
        obtain ⟨ad, A3, n3, c3, x, rfl, hb, hx, hcx, hr3⟩ := Hr.out.at_ hlt
        have hxx := HX.out x (List.mem_of_getElem? hx.out)
        have hn3 : n3 ≤ 1000 := by rw [← hr3.len]; exact hxx.1
        have CD := Lib.hid (HF.out A3 n3 c3 _ x wr hr3 HB.out.size hxx.2 hn3 (HP.out _ HB.out))
        unfold RetTx at CD
        have HTK := Lib.hid (show (xss.take (k + 1)).map (fun x => Value.string ⟨(q x).toArray⟩) = (xss.take k).map (fun x => Value.string ⟨(q x).toArray⟩) ++ [.string ⟨(q x).toArray⟩] from by rw [List.take_add_one, hx.out]; simp)
        obtain ⟨t, ht⟩ : ∃ t : ByteArray, t = ⟨(q x).toArray⟩ := ⟨_, rfl⟩
        rw [← ht] at CD HTK
        have ONE := Lib.hid (show ∀ z ∈ [Value.string t], z.oneCell' = true from fun z hz => by rw [List.mem_singleton.1 hz]; rfl)
        clear ht hx hr3 hxx
        go_wp2_with fail
        refine CD.out.mono ?_
        rintro e w1 ⟨rfl, hb1⟩
        have HO0 := Lib.hid (HO.out.below hb1)
        have HB0 := Lib.hid (HB.out.trans (hb1.mono HB.out.size))
        have HR1 := Lib.hid (rdV_new w1 (.string t) 9)
        have HO1 := Lib.hid (HO0.out.alloc (.cells #[.string t] 9))
        have HB1 := Lib.hid (HB0.out.alloc HB0.out.size (.cells #[.string t] 9))
        clear hb1
        go_wp2_with (at_builtin; refine wpList_appV eltStr rfl (.tmp 18) (.tmp 22) rfl rfl rfl HO1.out HR1.out ONE.out (by omega) (by decide) HB1.out.size ?_; intro A4 c4 w4 hv4 hg4 _; have V9 := Lib.hid hv4; have D9 := Lib.hid (HB1.out.grown hg4 HB1.out.size HO1.out.row); clear hv4 hg4)
        go_roundw
        case rel => exact ⟨k + 1, c4, A4, by omega, by go_num, rfl, by rw [HTK.out]; exact V9, D9⟩
        case measure => simp [intOf]; omega
      · obtain rfl : k = n := by omega
        have CJ := Lib.hid (join_own A' k c' w.heap.size (xss.map q) 43 wr (by have := HO.out; rw [List.take_of_length_le (by rw [HL.out]; exact Nat.le_refl _)] at this; rw [List.map_map]; exact this) hn
          (Nat.le_trans (join_len (K := 10000) fun t ht => by obtain ⟨x, hx, rfl⟩ := List.mem_map.1 ht; exact HQ.out x hx) (by rw [List.length_map, HL.out]; omega)))
        unfold RetTx at CJ
        go_wp2_with fail
        refine CJ.out.mono ?_
        rintro e w2 ⟨rfl, hb2⟩
        have B2 := Lib.hid (HB.out.trans (hb2.mono HB.out.size))
        clear hb2
        go_wp2_with fail
        rw [HR.out]
        exact RetTx.mk (s := ⟨(Lib.join (xss.map q) [43]).toArray⟩) (by rw [HS.out]) B2.out
theorem numbersText_fun : FunT 76 (numT [44]) (fun _ => True) := ⟨enters_of Tryz.func76 (by kernel_rfl) rfl, fun A n c B xs w h hB hx hn _ => numbersText_all A n c B xs w h hB hx (by omega)⟩
end Go.Proofs.YtgmbbpaokcjnhaaGreatDoor
