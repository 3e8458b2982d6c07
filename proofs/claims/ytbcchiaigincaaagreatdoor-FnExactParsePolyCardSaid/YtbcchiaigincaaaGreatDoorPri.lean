/- ParsePoly: the program's functions. -/
import Derived.Test.YtbcchiaigincaaaGreatDoorPsp
import Derived.Test.YtbcchiaigincaaaGreatDoorShq
import Derived.Lib.AppendIntMem
import Derived.Lib.AtoiErrMem
namespace Go.Proofs.YtbcchiaigincaaaGreatDoor
open Go.RowKit
set_option linter.unusedVariables false

abbrev gMaxP : Nat := Tryz.splL_ren.g 1
abbrev gSyn : Nat := Tryz.prsL_ren.g 15
abbrev gRng : Nat := Tryz.prsL_ren.g 16
/-- what the library's variables hold -/
structure PP (w : World) : Prop where
  max : ∃ m : Int, w.cell? ⟨gMaxP, 0, none⟩ = some (.int .i64 m)
  syn : ∃ ev, w.cell? ⟨gSyn, 0, none⟩ = some ev ∧ (ev = .nilIface ∨ ∃ te pe, ev = .iface te pe)
  rng : ∃ ev, w.cell? ⟨gRng, 0, none⟩ = some ev ∧ (ev = .nilIface ∨ ∃ te pe, ev = .iface te pe)
  tab : Lib.TabIs Tryz.prog w "internal/strconv.uint64pow10" .u64 Lib.pow10Tab
theorem PP.below {w w' : World} (h : PP w) (hb : Below w.heap.size w w') : PP w' := by
  obtain ⟨⟨m, hm⟩, ⟨e1, h1, k1⟩, ⟨e2, h2, k2⟩, ht⟩ := h
  exact ⟨⟨m, bcell hb (World.block_lt_of_cell? w _ hm) hm⟩, ⟨e1, bcell hb (World.block_lt_of_cell? w _ h1) h1, k1⟩, ⟨e2, bcell hb (World.block_lt_of_cell? w _ h2) h2, k2⟩, Lib.tabBelow_of_tabIs ht w' hb⟩
theorem PP.pos {w : World} (h : PP w) : w.heap.size ≤ w.heap.size := Nat.le_refl _
theorem It.pp {w : World} {B : Nat} (h : PP w) (hB : B ≤ w.heap.size) (h1 : w.heap.size ≤ B) : It 0 B (fun V => PP V) w :=
  ⟨h, hB, fun w' k1 k2 k3 k4 k5 => h.below ⟨k2, k3, k4, k1, fun g hg => k5 g (Nat.zero_le _) (Nat.lt_of_lt_of_le hg h1)⟩⟩

/-! strings.Cut and strings.Split at one byte -/
theorem index_app {b : UInt8} {r : List UInt8} : ∀ {u : List UInt8}, b ∉ u → Lib.index (u ++ b :: r) [b] = (u.length : Int)
  | [], _ => by simp [Lib.index]
  | x :: u, h => by
    have hx : x ≠ b := fun e => h (by simp [e])
    have hp : ([b] : List UInt8).isPrefixOf (x :: (u ++ b :: r)) = false := by simp [List.isPrefixOf]; exact fun e => hx e.symm
    have ih := index_app (b := b) (r := r) fun hm => h (List.mem_cons_of_mem x hm)
    rw [List.cons_append, Lib.index, if_neg (by rw [hp]; simp), if_neg (by rw [ih, beq_iff_eq]; omega), ih]
    simp
theorem cut_app {b : UInt8} {u r : List UInt8} (h : b ∉ u) : Lib.cut (u ++ b :: r) [b] = (u, r, true) := by
  unfold Lib.cut
  rw [index_app h, if_pos (by omega)]
  simp
theorem cut_len (l : List UInt8) (b : UInt8) : (Lib.cut l [b]).1.length ≤ l.length ∧ (Lib.cut l [b]).2.1.length ≤ l.length := by
  unfold Lib.cut
  split
  · simp only [List.length_take, List.length_drop]
    omega
  · exact ⟨Nat.le_refl _, Nat.zero_le _⟩
theorem cut_any (s : ByteArray) (w : World) (hP : PP w) (hs : s.size ≤ 2000000) : Calls Tryz.prog 10 #[.string s, .string ⟨#[58]⟩] w
    (fun e w' => e = .returned (.tuple #[.string ⟨(Lib.cut s.data.toList [58]).1.toArray⟩, .string ⟨(Lib.cut s.data.toList [58]).2.1.toArray⟩, .bool (Lib.cut s.data.toList [58]).2.2]) ∧ Below w.heap.size w w') := by
  obtain ⟨m, hm⟩ := hP.max
  refine (Any.strings_Cut Tryz.cutL s ⟨#[58]⟩ m w (by omega) hm).mono fun e w' ⟨h1, n, h2⟩ => ⟨h1, ?_⟩
  rw [h2]
  exact below_drewN (Below.refl _ _) n
theorem rdV_fresh (w : World) (vs : List Value) (E : TypeId) (n : Nat) (hn : vs.length = n) : RdV (w.alloc (.cells vs.toArray E)) (w.alloc (.cells vs.toArray E)).heap.size (some ⟨w.heap.size, 0, Option.none⟩) n n vs :=
  ⟨hn, Nat.le_refl _, fun j hj => ⟨_, rfl, by simp, by
    have e : (Addr.add ⟨w.heap.size, 0, Option.none⟩ j) = ⟨w.heap.size, j, Option.none⟩ := by
      cases j <;> simp [Addr.add]
    rw [e]
    unfold World.cell?
    rw [heap_alloc_new]
    simp⟩⟩
/-- strings that read -/
def RetSr (ts : List (List UInt8)) (w : World) (e : Ending) (w' : World) : Prop := ∃ ad c, e = .returned (.slice (some ad) ts.length c) ∧ RdV w' w'.heap.size (some ad) ts.length c (ts.map fun t => .string ⟨t.toArray⟩) ∧ w.heap.size ≤ ad.block ∧ Below w.heap.size w w'
theorem RdV.grownNe {w w' : World} {B n c : Nat} {ad : Addr} {vs : List Value} {row : Option Nat} (h : RdV w B (some ad) n c vs) (hg : w.grownBy w' row) (hne : row ≠ some ad.block) : RdV w' B (some ad) n c vs :=
  ⟨h.len, h.cap, fun j hj => by
    obtain ⟨ad', e, hlt, hc⟩ := h.cell j hj
    injection e with e
    subst e
    refine ⟨_, rfl, hlt, ?_⟩
    have hb := World.block_lt_of_cell? w _ hc
    rw [block_of_add] at hb
    have h1 := hg.block ad.block hb (fun e => hne e.symm)
    rw [← hc]
    unfold World.cell?
    rw [block_of_add, h1]⟩
theorem split_any (s : ByteArray) (b : UInt8) (w : World) (hP : PP w) (hs : s.size ≤ 2000000) : Calls Tryz.prog 26 #[.string s, .string ⟨#[b]⟩] w (RetSr (splitU b s.data.toList) w) := by
  obtain ⟨m, hm⟩ := hP.max
  have hc : Lib.countB s ⟨#[b]⟩ = s.data.toList.count b := Lib.count_one b s.data.toList
  have hsp : (Lib.splitB ⟨#[b]⟩ 0 (Lib.countB s ⟨#[b]⟩) s).map Value.string = (splitU b s.data.toList).map fun t => Value.string ⟨t.toArray⟩ := by
    have h1 := Lib.splitB_data ⟨#[b]⟩ 0 (Lib.countB s ⟨#[b]⟩) s
    have h2 := splitK_all b s.data.toList (Lib.countB s ⟨#[b]⟩) (by rw [hc]; exact Nat.le_refl _)
    have h3 : (ByteArray.mk #[b]).data.toList = [b] := rfl
    rw [h3, h2] at h1
    rw [← h1, List.map_map]
    rfl
  have hl : (splitU b s.data.toList).length = Lib.countB s ⟨#[b]⟩ + 1 := by rw [splitU_len, hc]
  refine (Any.strings_Split { Tryz.splL with } Tryz.splL.i9 s ⟨#[b]⟩ m w (by omega) hm (show 1 ≤ (ByteArray.mk #[b]).size from Nat.le_refl 1)).mono fun e w' ⟨h1, h2⟩ => ?_
  rw [hsp] at h2
  refine ⟨⟨w.heap.size, 0, none⟩, (splitU b s.data.toList).length, by rw [h1, hl], ?_, Nat.le_refl _, ?_⟩
  · rw [h2]
    exact rdV_fresh w _ _ _ (by rw [List.length_map])
  · rw [h2]
    exact (Below.refl _ _).alloc (Nat.le_refl _) _
/-! decimal -/
theorem decimal_some (n : Int) (w : World) (hP : PP w) (h0 : 0 ≤ n) (h1 : n ≤ 9223372036854775807) : Calls Tryz.prog 25 #[.int .i64 n] w (fun e w' => ∃ t : ByteArray, e = .returned (.string t) ∧ Below w.heap.size w w') := by
  have C1 := Lib.hid (Any.strconv_FormatInt_10 Tryz.fmtM n (by omega) h1 w hP.tab)
  obtain ⟨t, ht⟩ : ∃ t : ByteArray, t = ⟨(Lib.itoa n).toArray⟩ := ⟨_, rfl⟩
  rw [← ht] at C1
  clear ht hP
  go_enter Tryz.func25, Tryz.ntmps25
  go_wp2_with fail
  refine C1.out.mono ?_
  rintro e w1 ⟨rfl, k, os, rfl⟩
  go_wp2_with fail
  go_ret
  exact ⟨t, rfl, Lib.below_grow _ _ (Nat.le_refl _) k os⟩
/-! readDecimal -/
def RetRD (l : List UInt8) (w : World) (e : Ending) (w' : World) : Prop := ∃ (n : Int) (b : Bool), e = .returned (.tuple #[.int .i64 n, .bool b]) ∧ (∀ m : Nat, m < 100 → l = decW m → n = m ∧ b = true) ∧ Below w.heap.size w w'
theorem RetRD.mk {l : List UInt8} {w w' : World} (n : Int) (b : Bool) (h : ∀ m : Nat, m < 100 → l = decW m → n = m ∧ b = true) (hb : Below w.heap.size w w') : RetRD l w (.returned (.tuple #[.int .i64 n, .bool b])) w' := ⟨n, b, rfl, h, hb⟩
theorem parse_dec {m : Nat} (h : m < 100) : Lib.parseIntB 64 (decW m) = .ok (m : Int) := by
  have key : ∀ m : Fin 100, Lib.parseIntB 64 (decW m.1) = .ok (m.1 : Int) := by decide +kernel
  exact key ⟨m, h⟩
theorem parse_hi {l : List UInt8} {v : Int} (h : Lib.parseIntB 64 l = .ok v) : v ≤ 9223372036854775807 := by
  unfold Lib.parseIntB at h
  split at h
  · cases h
  · simp only at h
    split at h
    · cases h
    · cases h
    · rename_i u _
      split at h
      · cases h
      · rename_i h1
        split at h
        · cases h
        · rename_i h2
          simp only [Lib.NumEnd.ok.injEq] at h
          subst h
          split
          · omega
          · rename_i h3
            have : ¬ 2 ^ (64 - 1) ≤ u := fun h4 => h1 ⟨h3, h4⟩
            simp at this
            omega
set_option maxRecDepth 100000 in
theorem readDec_any (s : ByteArray) (w : World) (hP : PP w) : Calls Tryz.prog 11 #[.string s] w (RetRD s.data.toList w) := by
  obtain ⟨l, hl⟩ : ∃ l, l = s.data.toList := ⟨_, rfl⟩
  rw [← hl]
  have hls : l.length = s.size := by rw [hl]; rfl
  obtain ⟨R, hR⟩ : ∃ R, R = RetRD l w := ⟨_, rfl⟩
  have HR := Lib.hid hR
  rw [← hR]
  by_cases hbig : 15 < s.size
  · have HN := Lib.hid (show ∀ m : Nat, m < 100 → l = decW m → (0 : Int) = m ∧ false = true from fun m hm e => by
      have := decW_len m
      rw [← e] at this; omega)
    have hb1 : (15 : Int) < (s.size : Int) := by omega
    clear hP hl hls hR
    go_enter Tryz.func11, Tryz.ntmps11
    go_wp2_with fail
    rw [HR.out]
    exact RetRD.mk 0 false HN.out (Below.refl _ _)
  · have hb1 : ¬ (15 : Int) < (s.size : Int) := by omega
    have HP := Lib.hid hP
    cases hp : Lib.parseIntB 64 l with
    | «syntax» =>
      have HN := Lib.hid (show ∀ m : Nat, m < 100 → l = decW m → (0 : Int) = m ∧ false = true from fun m hm e => by rw [e, parse_dec hm] at hp; cases hp)
      obtain ⟨ev, he, hev⟩ := hP.syn
      have C := Lib.hid (Any.strconv_ParseInt_10_at64_syntax Tryz.prsL s (by omega) (by rw [← hl]; exact hp) ev w he hev)
      clear hP hl hls hR hp he hev
      go_enter Tryz.func11, Tryz.ntmps11
      go_wp2_with fail
      refine C.out.mono ?_
      rintro e w1 ⟨N, rfl, _, _, hb⟩
      have B1 := Lib.hid hb
      clear hb
      go_wp2_with fail
      rw [HR.out]
      exact RetRD.mk 0 false HN.out B1.out
    | range =>
      have HN := Lib.hid (show ∀ (n : Int) (m : Nat), m < 100 → l = decW m → n = m ∧ false = true from fun n m hm e => by rw [e, parse_dec hm] at hp; cases hp)
      obtain ⟨ev, he, hev⟩ := hP.rng
      have C := Lib.hid (Any.strconv_ParseInt_10_at64_range Tryz.prsL s (by omega) (by rw [← hl]; exact hp) ev w he hev)
      obtain ⟨q, hq⟩ : ∃ q, q = Lib.intSat 64 s.data.toList := ⟨_, rfl⟩
      rw [← hq] at C
      clear hP hl hls hR hp he hev hq
      go_enter Tryz.func11, Tryz.ntmps11
      go_wp2_with fail
      refine C.out.mono ?_
      rintro e w1 ⟨N, rfl, _, _, hb⟩
      have B1 := Lib.hid hb
      clear hb
      go_wp2_with fail
      rw [HR.out]
      exact RetRD.mk q false (HN.out q) B1.out
    | ok v =>
      have C := Lib.hid (Any.strconv_ParseInt_10_at64_ok Tryz.prsL s (by omega) v (by rw [← hl]; exact hp) w)
      have hv1 := parse_hi hp
      have HBW := Lib.hid (Lib.bytesWorld_below w (Tryz.prsL_ren.t 5))
      by_cases hm : ∃ m : Nat, m < 100 ∧ l = decW m
      · obtain ⟨m, hm, e⟩ := hm
        have hvm : v = m := by
          rw [e, parse_dec hm] at hp
          injection hp with hp
          exact hp.symm
        subst hvm
        have HN := Lib.hid (show ∀ m' : Nat, m' < 100 → l = decW m' → (m : Int) = m' ∧ true = true from fun m' hm' e' => by
          have h1 := parse_dec hm'
          rw [← e', e, parse_dec hm] at h1
          injection h1 with h1
          exact ⟨h1, rfl⟩)
        have HD := Lib.hid (fun W => decimal_any m W hm)
        have HE := Lib.hid (show ((⟨(decW m).toArray⟩ : ByteArray).toList == s.toList) = true from by
          rw [ByteArray.toList_eq, ByteArray.toList_eq, ← hl, e, beq_iff_eq])
        obtain ⟨tb, htb⟩ : ∃ tb : ByteArray, tb = ⟨(decW m).toArray⟩ := ⟨_, rfl⟩
        rw [← htb] at HD HE
        have hE := HE.out
        clear hP hl hls hR hp e htb
        go_enter Tryz.func11, Tryz.ntmps11
        go_wp2_with fail
        refine C.out.mono ?_
        rintro e w1 ⟨rfl, hw⟩
        have B1 : Hid (Below w.heap.size w w1) := Lib.hid (by
          rcases hw with rfl | ⟨t, rfl⟩
          · exact Below.refl _ _
          · exact HBW.out t)
        clear hw
        have HD1 := Lib.hid (HD.out w1)
        have hm0 : (0 : Int) ≤ (m : Int) := by omega
        go_wp2_with fail
        refine HD1.out.mono ?_
        rintro e w2 ⟨rfl, rfl⟩
        go_wp2_with fail
        rw [HR.out]
        exact RetRD.mk (m : Int) true (fun m' h e => ⟨(HN.out m' h e).1, rfl⟩) B1.out
      · have HN := Lib.hid (show ∀ (b : Bool) (m : Nat), m < 100 → l = decW m → v = m ∧ b = true from fun b m h e => absurd ⟨m, h, e⟩ hm)
        by_cases hv0 : v < 0
        · have hv2 : ¬ (0 : Int) ≤ v := by omega
          clear hP hl hls hR hp hm
          go_enter Tryz.func11, Tryz.ntmps11
          go_wp2_with fail
          refine C.out.mono ?_
          rintro e w1 ⟨rfl, hw⟩
          have B1 : Hid (Below w.heap.size w w1) := Lib.hid (by
            rcases hw with rfl | ⟨t, rfl⟩
            · exact Below.refl _ _
            · exact HBW.out t)
          clear hw
          go_wp2_with fail
          rw [HR.out]
          exact RetRD.mk v false (HN.out false) B1.out
        · have hv2 : (0 : Int) ≤ v := by omega
          have HD := Lib.hid (fun W (hW : PP W) => decimal_some v W hW hv2 hv1)
          clear hP hl hls hR hp hm hv0
          go_enter Tryz.func11, Tryz.ntmps11
          go_wp2_with fail
          refine C.out.mono ?_
          rintro e w1 ⟨rfl, hw⟩
          have B1 : Hid (Below w.heap.size w w1) := Lib.hid (by
            rcases hw with rfl | ⟨t, rfl⟩
            · exact Below.refl _ _
            · exact HBW.out t)
          clear hw
          have HD1 := Lib.hid (HD.out w1 (HP.out.below B1.out))
          go_wp2_with fail
          refine HD1.out.mono ?_
          rintro e w2 ⟨t, rfl, hb2⟩
          have B2 := Lib.hid (B1.out.trans (hb2.mono B1.out.size))
          clear hb2
          go_wp2_with fail
          rw [HR.out]
          exact RetRD.mk v _ (HN.out _) B2.out
/-! readNumbers -/
def RetRN (l : List UInt8) (w : World) (e : Ending) (w' : World) : Prop := ∃ (xs : List Int) (n c : Nat) (A : Option Addr) (b : Bool), e = .returned (.tuple #[.slice A n c, .bool b]) ∧ OwnS w' w.heap.size A n c xs ∧ n ≤ l.length + 1 ∧
  (∀ x : List Int, (∀ i ∈ x, 0 ≤ i ∧ i < 100) → x ≠ [] → l = numT [44] x → b = true ∧ xs = x) ∧ Below w.heap.size w w'
theorem RetRN.mk {l : List UInt8} {w w' : World} {A : Option Addr} {n c : Nat} (xs : List Int) (b : Bool) (ho : OwnS w' w.heap.size A n c xs) (hn : n ≤ l.length + 1) (h : ∀ x : List Int, (∀ i ∈ x, 0 ≤ i ∧ i < 100) → x ≠ [] → l = numT [44] x → b = true ∧ xs = x) (hb : Below w.heap.size w w') :
    RetRN l w (.returned (.tuple #[.slice A n c, .bool b])) w' := ⟨xs, n, c, A, b, rfl, ho, hn, h, hb⟩
theorem words_of {l : List UInt8} {x : List Int} (hx : ∀ i ∈ x, 0 ≤ i ∧ i < 100) (h0 : x ≠ []) (h : l = numT [44] x) : splitU 44 l = x.map fun i => decW i.toNat := by
  rw [h]
  unfold numT
  exact splitU_join (by simpa using h0) fun t ht => by
    obtain ⟨i, hi, rfl⟩ := List.mem_map.1 ht
    exact decW_no 44 (by decide) _ (by have := hx i hi; omega)
/-- append of one integer; where the new row lies -/
theorem wpList_pushJ {w0 w : World} {ops : Array Oper} {rest : List Oper} {o : Oper} {a : Act} {Q : Exit → Act → World → Prop} (hgd : o.guard = none) (s x : Operand)
    (ho : o.op = .call { callee := .builtin .append, args := #[s, x], argTypes := #[36, 36] }) {B n c : Nat} {A : Option Addr} {xs : List Int} {y : Int}
    (hs : a.eval s = .slice A n c) (hx : a.eval x = .slice (some ⟨w.heap.size, 0, Option.none⟩) 1 1) (hst : StS w0 B w A n c xs) (hn : n ≤ 2000000000000)
    (h : ∀ A2 c2 w', StS w0 B w' A2 (n + 1) c2 (xs ++ [y]) → w.grownBy w' (Value.ownBlock (.slice A n c)) → (Value.ownBlock (.slice A2 (n + 1) c2) = Value.ownBlock (.slice A n c) ∨ Value.ownBlock (.slice A2 (n + 1) c2) = some (w.heap.size + 1)) → wpList Tryz.prog ops Q rest (a.put o.dst (.slice A2 (n + 1) c2)) w') : wpList Tryz.prog ops Q (o :: rest) a (w.alloc (.cells #[.int .i64 y] 2)) := by
  have hb : Below w.heap.size w (w.alloc (.cells #[.int .i64 y] 2)) := (Below.refl _ _).alloc (Nat.le_refl _) _
  have hst2 := hst.call hb
  refine wpList_appI hgd s x ho hs hx hst2.own (rd_new w y 2) (by omega) hst2.hi fun A2 c2 w' h1 hg hr => h A2 c2 w' ⟨h1, hst2.bel.grown hg hst2.hi hst2.own.row, Nat.le_trans hst2.hi hg.size⟩ (grownBy_trans (World.grownBy_alloc w _ _) hg) ?_
  rcases hr with h | h
  · exact .inl h
  · exact .inr (by rw [h]; simp)
set_option maxRecDepth 100000 in
theorem readNum_any (s : ByteArray) (w : World) (hP : PP w) (hs : s.size ≤ 2000000) : Calls Tryz.prog 13 #[.string s] w (RetRN s.data.toList w) := by
  obtain ⟨l, hl⟩ : ∃ l, l = s.data.toList := ⟨_, rfl⟩
  rw [← hl]
  have hls : l.length = s.size := by rw [hl]; rfl
  obtain ⟨R, hR⟩ : ∃ R, R = RetRN l w := ⟨_, rfl⟩
  have HR := Lib.hid hR
  rw [← hR]
  have HP := Lib.hid hP
  have HO := Lib.hid (show Below w.heap.size w (w.alloc (.cells #[] 2)) from (Below.refl _ _).alloc (Nat.le_refl _) _)
  have CS := Lib.hid (split_any s 44 _ (hP.below HO.out) hs)
  rw [← hl] at CS
  have HLT := Lib.hid (show (splitU 44 l).length ≤ l.length + 1 from by
    rw [splitU_len]
    have := List.count_le_length (a := 44) (l := l)
    omega)
  have HW := Lib.hid (fun x hx h0 h => words_of (l := l) (x := x) hx h0 h)
  obtain ⟨ts, hts⟩ : ∃ ts, ts = splitU 44 l := ⟨_, rfl⟩
  rw [← hts] at CS HLT HW
  obtain ⟨n, hn⟩ : ∃ n, n = ts.length := ⟨_, rfl⟩
  have HN := Lib.hid hn.symm
  have hnl : n ≤ s.size + 1 := by rw [hn, ← hls]; exact HLT.out
  unfold RetSr at CS
  rw [← hn] at CS
  have HS0 := Lib.hid (StS.start (Below.refl w.heap.size w) (Nat.le_refl _))
  have HLS := Lib.hid hls
  clear hP hl hls hR hts hn
  go_enter Tryz.func13, Tryz.ntmps13
  go_wp2_with fail
  refine CS.out.mono ?_
  rintro e w1 ⟨ad, c, rfl, hv, hab, hb⟩
  have HV := Lib.hid hv
  have HS1 := Lib.hid (HS0.out.call hb)
  have hz1 : w.heap.size ≤ w1.heap.size := HS1.out.hi
  have HNE := Lib.hid (show ∀ ad', (some ⟨w.heap.size, 0, none⟩ : Option Addr) = some ad' → ad'.block ≠ ad.block from fun ad' e => by
    obtain rfl := Option.some.inj e
    simp at hab
    simp only [ne_eq]; omega)
  clear hv hb HS0 hab
  go_wp2_with fail
  go_loopw [4, 13] (fun o i wr => ∃ (k c' : Nat) (A' : Option Addr) (acc : List Int), k ≤ n ∧ i = .int .i64 k ∧ o = .slice A' k c' ∧ Hid (StS w w.heap.size wr A' k c' acc) ∧ Hid (RdV wr w1.heap.size (some ad) n c (ts.map fun t => .string ⟨t.toArray⟩)) ∧ Hid (∀ ad', A' = some ad' → ad'.block ≠ ad.block) ∧
    w1.heap.size ≤ wr.heap.size ∧ Hid (∀ x : List Int, (∀ i ∈ x, 0 ≤ i ∧ i < 100) → x ≠ [] → l = numT [44] x → acc = x.take k)) (fun _ i _ => n - (intOf i).toNat)
  case atStart => exact ⟨0, _, _, [], Nat.zero_le _, rfl, rfl, HS1, HV, HNE, Nat.le_refl _, Lib.hid (fun _ _ _ _ => rfl)⟩
  case round =>
    clear HS1 HV HNE
    obtain ⟨k, c', A', acc, hk, rfl, rfl, HS, HV, HNE, hzr, HX⟩ := hrel
    by_cases hlt : k < n
    · obtain ⟨ad0, v, e1, _, hv, hcx⟩ := HV.out.at_ hlt
      injection e1 with e1
      subst e1
      obtain ⟨t, ht⟩ : ∃ t, ts[k]? = some t := ⟨_, List.getElem?_eq_getElem (by rw [HN.out]; exact hlt)⟩
      have hv2 := hv.out
      rw [List.getElem?_map, ht] at hv2
      obtain rfl := Option.some.inj hv2
      have CV := Lib.hid (readDec_any ⟨t.toArray⟩ wr (HP.out.below HS.out.bel))
      have e2 : (ByteArray.mk t.toArray).data.toList = t := rfl
      rw [e2] at CV
      have HTX := Lib.hid (show ∀ x : List Int, (∀ i ∈ x, 0 ≤ i ∧ i < 100) → x ≠ [] → l = numT [44] x → ∃ i : Int, x[k]? = some i ∧ 0 ≤ i ∧ i < 100 ∧ t = decW i.toNat from fun x hx h0 h => by
        have h1 := HW.out x hx h0 h
        rw [h1, List.getElem?_map, Option.map_eq_some_iff] at ht
        obtain ⟨i, hi, e⟩ := ht
        have := hx i (List.mem_of_getElem? hi)
        exact ⟨i, hi, this.1, this.2, e.symm⟩)
      obtain ⟨tb, htb⟩ : ∃ tb : ByteArray, tb = ⟨t.toArray⟩ := ⟨_, rfl⟩
      simp only at hcx
      rw [← htb] at CV hcx
      clear hv hv2 ht e2 htb
      unfold RetRD at CV
      go_wp2_with fail
      refine CV.out.mono ?_
      rintro e w2 ⟨x, b, rfl, hx, hb⟩
      have HD := Lib.hid hx
      have HS2 := Lib.hid (HS.out.call hb)
      have HV2 := Lib.hid (HV.out.below (hb.mono hzr))
      have hz2 : w1.heap.size ≤ w2.heap.size := Nat.le_trans hzr hb.size
      have BW := Lib.hid HS2.out.bel
      clear hx hb hcx
      cases b
      · go_wp2_with fail
        rw [HR.out]
        refine RetRN.mk [] false OwnS.nil (Nat.zero_le _) (fun x hx h0 h => ?_) BW.out
        obtain ⟨i, _, h1, h2, h3⟩ := HTX.out x hx h0 h
        have := (HD.out i.toNat (by omega) h3).2
        cases this
      · have HADL := Lib.hid (show ad.block < w2.heap.size from by
          have := HV2.out.at_ hlt
          obtain ⟨ad9, _, e9, _, _, hc9⟩ := this
          injection e9 with e9
          subst e9
          have := World.block_lt_of_cell? w2 _ hc9
          rwa [block_of_add] at this)
        go_wp2_with (at_builtin; refine wpList_pushJ rfl (.tmp 24) (.tmp 26) rfl rfl rfl HS2.out (by omega) ?_)
        intro A6 c6 w6 hs6 hg6 hr6
        have HS6 := Lib.hid hs6
        have hrow : Value.ownBlock (.slice A' k c') ≠ some ad.block := fun e => by
          cases A' with
          | none => cases e
          | some a0 => exact HNE.out a0 rfl (Option.some.inj e)
        have HV6 := Lib.hid (HV2.out.grownNe hg6 hrow)
        have HNE6 := Lib.hid (show ∀ ad', A6 = some ad' → ad'.block ≠ ad.block from fun ad' e => by
          subst e
          rcases hr6 with h | h
          · exact fun e => hrow (by rw [← h]; exact congrArg some e)
          · have h1 : ad'.block = w2.heap.size + 1 := Option.some.inj h
            have := HADL.out
            omega)
        have hz6 : w1.heap.size ≤ w6.heap.size := Nat.le_trans hz2 hg6.size
        have HX6 := Lib.hid (show ∀ x' : List Int, (∀ i ∈ x', 0 ≤ i ∧ i < 100) → x' ≠ [] → l = numT [44] x' → acc ++ [x] = x'.take (k + 1) from fun x' hx' h0 h => by
          obtain ⟨i, hi, h1, h2, h3⟩ := HTX.out x' hx' h0 h
          have h4 := (HD.out i.toNat (by omega) h3).1
          rw [HX.out x' hx' h0 h, List.take_add_one, hi, h4]
          have : ((i.toNat : Nat) : Int) = i := by omega
          rw [this]; rfl)
        clear hs6 hg6 hr6 hrow
        go_wp2_with fail
        go_roundw
        case rel => exact ⟨k + 1, c6, A6, _, by omega, by go_num, rfl, HS6, HV6, HNE6, hz6, HX6⟩
        case measure => simp [intOf]; omega
    · obtain rfl : k = n := by omega
      go_wp2_with fail
      rw [HR.out]
      refine RetRN.mk acc true HS.out.own (by rw [HLS.out]; exact hnl) (fun x hx h0 h => ⟨rfl, ?_⟩) HS.out.bel
      rw [HX.out x hx h0 h, List.take_of_length_le]
      have := HW.out x hx h0 h
      rw [← HN.out, this, List.length_map]
      exact Nat.le_refl _
/-! readSum -/
def wl (L : List (List UInt8)) : Nat := (L.map fun t => t.length + 1).sum
theorem wl_cons (t : List UInt8) (r : List (List UInt8)) : wl (t :: r) = t.length + 1 + wl r := by simp [wl]
theorem wl_take {L : List (List UInt8)} {k : Nat} {t : List UInt8} (h : L[k]? = some t) : wl (L.take (k + 1)) = wl (L.take k) + (t.length + 1) := by
  unfold wl
  rw [List.take_add_one, h]
  simp
theorem wl_le : ∀ (L : List (List UInt8)) (k : Nat), wl (L.take k) ≤ wl L
  | [], k => by simp
  | t :: r, 0 => by simp [wl]
  | t :: r, k + 1 => by
    rw [List.take_succ_cons, wl_cons, wl_cons]
    have := wl_le r k
    omega
theorem wl_join : ∀ (L : List (List UInt8)) (b : UInt8), L ≠ [] → wl L = (Lib.join L [b]).length + 1
  | [], _, h => absurd rfl h
  | [t], b, _ => by rw [Lib.join_one]; simp [wl]
  | t :: x :: r, b, _ => by
    rw [wl_cons, wl_join (x :: r) b (by simp), join_cons2, List.length_append, List.length_cons]
    omega
theorem wl_split (b : UInt8) (l : List UInt8) : wl (splitU b l) = l.length + 1 := by
  rw [wl_join _ b (splitU_ne b l), join_splitU]
def RetRS (l : List UInt8) (w : World) (e : Ending) (w' : World) : Prop := ∃ (xss : List (List Int)) (n c : Nat) (A : Option Addr) (b : Bool), e = .returned (.tuple #[.slice A n c, .bool b]) ∧ OwnM w' w.heap.size w'.heap.size A n c xss ∧ n ≤ l.length + 1 ∧ totalL xss ≤ l.length + 1 ∧
  (∀ (v : Int) (x : List (List Int)), PolX v x → x.length ≤ 2000 → x ≠ [] → l ≠ [48] → l = tailT x → b = true ∧ xss = x) ∧ Below w.heap.size w w'
theorem RetRS.mk {l : List UInt8} {w w' : World} {A : Option Addr} {n c : Nat} (xss : List (List Int)) (b : Bool) (ho : OwnM w' w.heap.size w'.heap.size A n c xss) (hn : n ≤ l.length + 1) (ht : totalL xss ≤ l.length + 1)
    (h : ∀ (v : Int) (x : List (List Int)), PolX v x → x.length ≤ 2000 → x ≠ [] → l ≠ [48] → l = tailT x → b = true ∧ xss = x) (hb : Below w.heap.size w w') :
    RetRS l w (.returned (.tuple #[.slice A n c, .bool b])) w' := ⟨xss, n, c, A, b, rfl, ho, hn, ht, h, hb⟩
theorem total_snoc (xss : List (List Int)) (x : List Int) : totalL (xss ++ [x]) = totalL xss + x.length := by simp [totalL]
set_option maxRecDepth 100000 in
set_option maxHeartbeats 1000000 in
theorem readSum_any (s : ByteArray) (w : World) (hP : PP w) (hs : s.size ≤ 1048576) : Calls Tryz.prog 12 #[.string s, .func (.func 13) #[] #[]] w (RetRS s.data.toList w) := by
  obtain ⟨l, hl⟩ : ∃ l, l = s.data.toList := ⟨_, rfl⟩
  rw [← hl]
  have hls : l.length = s.size := by rw [hl]; rfl
  obtain ⟨R, hR⟩ : ∃ R, R = RetRS l w := ⟨_, rfl⟩
  have HR := Lib.hid hR
  rw [← hR]
  have HP := Lib.hid hP
  have hent : ∀ args w, (callFunc 13 args).run Tryz.prog w = .ok (.enter 13 args) w := enters_of Tryz.func13 (by kernel_rfl) rfl
  have HO := Lib.hid (show Below w.heap.size w (w.alloc (.cells #[] 36)) from (Below.refl _ _).alloc (Nat.le_refl _) _)
  have CS := Lib.hid (split_any s 43 _ (hP.below HO.out) (by omega))
  rw [← hl] at CS
  have HLT := Lib.hid (show (splitU 43 l).length ≤ l.length + 1 from by
    rw [splitU_len]
    have := List.count_le_length (a := 43) (l := l)
    omega)
  have HWL := Lib.hid (wl_split 43 l)
  have HUL := Lib.hid (fun (t : List UInt8) (ht : t ∈ splitU 43 l) => show t.length ≤ l.length from by
    obtain ⟨j, hj⟩ := List.mem_iff_getElem?.1 ht
    have h1 := wl_take hj
    have h2 := wl_le (splitU 43 l) (j + 1)
    rw [wl_split] at h2
    omega)
  have HW := Lib.hid (show ∀ (v : Int) (x : List (List Int)), PolX v x → x ≠ [] → l = tailT x → splitU 43 l = x.map (numT [44]) from fun v x hx h0 h => by rw [h]; exact tail_read hx h0)
  have HE := Lib.hid (show (s.toList == [48]) = decide (l = [48]) from by
    rw [ByteArray.toList_eq, ← hl]
    by_cases h : l = [48]
    · rw [h]; rfl
    · rw [decide_eq_false h]; exact beq_eq_false_iff_ne.2 h)
  obtain ⟨ts, hts⟩ : ∃ ts, ts = splitU 43 l := ⟨_, rfl⟩
  rw [← hts] at CS HLT HW HWL HUL
  obtain ⟨n, hn⟩ : ∃ n, n = ts.length := ⟨_, rfl⟩
  have HN := Lib.hid hn.symm
  have hnl : n ≤ s.size + 1 := by rw [hn, ← hls]; exact HLT.out
  unfold RetSr at CS
  rw [← hn] at CS
  have HS0 := Lib.hid (StL.start (Below.refl w.heap.size w) (Nat.le_refl _)).here
  have HLS := Lib.hid hls
  clear hP hl hls hR hts hn
  by_cases h48 : l = [48]
  · have hE : (s.toList == [48]) = true := by rw [HE.out]; exact decide_eq_true h48
    have HH := Lib.hid h48
    clear h48
    go_enter Tryz.func12, Tryz.ntmps12
    go_wp2_with fail
    rw [HR.out]
    exact RetRS.mk [] true (HS0.out.own.m (Nat.le_refl _)) (Nat.zero_le _) (Nat.zero_le _) (fun v x _ _ _ h _ => absurd HH.out h) HS0.out.bel
  · have hE : (s.toList == [48]) = false := by rw [HE.out]; exact decide_eq_false h48
    clear h48
    go_enter Tryz.func12, Tryz.ntmps12
    go_wp2_with fail
    refine CS.out.mono ?_
    rintro e w1 ⟨ad, c, rfl, hv, hab, hb⟩
    have HV := Lib.hid hv
    have HS1 := Lib.hid (HS0.out.call hb).here
    have hz1 : w.heap.size ≤ w1.heap.size := HS1.out.size
    have HNE := Lib.hid (show ∀ ad', (some ⟨w.heap.size, 0, none⟩ : Option Addr) = some ad' → ad'.block ≠ ad.block from fun ad' e => by
      obtain rfl := Option.some.inj e
      simp at hab
      simp only [ne_eq]; omega)
    clear hv hb HS0 hab
    go_wp2_with fail
    go_loopw [6, 18] (fun o i wr => ∃ (k c' : Nat) (A' : Option Addr) (acc : List (List Int)), k ≤ n ∧ i = .int .i64 k ∧ o = .slice A' k c' ∧ Hid (StL w w.heap.size wr wr.heap.size A' k c' acc) ∧ Hid (RdV wr w1.heap.size (some ad) n c (ts.map fun t => .string ⟨t.toArray⟩)) ∧ Hid (∀ ad', A' = some ad' → ad'.block ≠ ad.block) ∧
      w1.heap.size ≤ wr.heap.size ∧ Hid (totalL acc ≤ wl (ts.take k)) ∧ Hid (∀ (v : Int) (x : List (List Int)), PolX v x → x.length ≤ 2000 → x ≠ [] → l ≠ [48] → l = tailT x → acc = x.take k)) (fun _ i _ => n - (intOf i).toNat)
    case atStart => exact ⟨0, _, _, [], Nat.zero_le _, rfl, rfl, HS1, HV, HNE, Nat.le_refl _, Lib.hid (Nat.zero_le _), Lib.hid (fun _ _ _ _ _ _ _ => rfl)⟩
    case round =>
      clear HS1 HV HNE
      obtain ⟨k, c', A', acc, hk, rfl, rfl, HS, HV, HNE, hzr, HTO, HX⟩ := hrel
      by_cases hlt : k < n
      · obtain ⟨ad0, v, e1, _, hv, hcx⟩ := HV.out.at_ hlt
        injection e1 with e1
        subst e1
        obtain ⟨t, ht⟩ : ∃ t, ts[k]? = some t := ⟨_, List.getElem?_eq_getElem (by rw [HN.out]; exact hlt)⟩
        have hv2 := hv.out
        rw [List.getElem?_map, ht] at hv2
        obtain rfl := Option.some.inj hv2
        have htl := HUL.out t (List.mem_of_getElem? ht)
        have CV := Lib.hid (readNum_any ⟨t.toArray⟩ wr (HP.out.below HS.out.bel) (show t.length ≤ 2000000 by rw [HLS.out] at htl; omega))
        have e2 : (ByteArray.mk t.toArray).data.toList = t := rfl
        rw [e2] at CV
        have HTK := Lib.hid (wl_take ht)
        have HTX := Lib.hid (show ∀ (v : Int) (x : List (List Int)), PolX v x → x ≠ [] → l = tailT x → n = x.length ∧ ∃ y : List Int, x[k]? = some y ∧ (∀ i ∈ y, 0 ≤ i ∧ i < 100) ∧ y ≠ [] ∧ t = numT [44] y from fun v x hx h0 h => by
          have h1 := HW.out v x hx h0 h
          refine ⟨by rw [← HN.out, h1, List.length_map], ?_⟩
          rw [h1, List.getElem?_map, Option.map_eq_some_iff] at ht
          obtain ⟨y, hy, e⟩ := ht
          have hm := List.mem_of_getElem? hy
          exact ⟨y, hy, hx.rng y hm, hx.ne y hm, e.symm⟩)
        obtain ⟨tb, htb⟩ : ∃ tb : ByteArray, tb = ⟨t.toArray⟩ := ⟨_, rfl⟩
        simp only at hcx
        rw [← htb] at CV hcx
        clear hv hv2 ht e2 htb
        unfold RetRN at CV
        go_wp2_with fail
        refine CV.out.mono ?_
        rintro e w2 ⟨xs, n3, c3, A3, b, rfl, ho3, hn3, hx, hb⟩
        have HD := Lib.hid hx
        have HS2 := Lib.hid (HS.out.call hb)
        have HV2 := Lib.hid (HV.out.below (hb.mono hzr))
        have hz2 : w1.heap.size ≤ w2.heap.size := Nat.le_trans hzr hb.size
        have BW := Lib.hid HS2.out.bel
        have HO3 := Lib.hid ho3
        have HL3 := Lib.hid ho3.len
        clear hx hb hcx ho3
        cases b
        · go_wp2_with fail
          rw [HR.out]
          refine RetRS.mk [] false OwnM.nil (Nat.zero_le _) (Nat.zero_le _) (fun v x hx _ h0 h4 h => ?_) BW.out
          obtain ⟨_, y, _, h1, h2, h3⟩ := HTX.out v x hx h0 h
          have := (HD.out y h1 h2 h3).1
          cases this
        · by_cases h2k : k = 2000
          · have hkz : ((k : Int) == 2000) = true := by rw [beq_iff_eq]; omega
            have HH := Lib.hid h2k
            clear h2k
            go_wp2_with fail
            rw [HR.out]
            refine RetRS.mk [] false OwnM.nil (Nat.zero_le _) (Nat.zero_le _) (fun v x hx hxl h0 h4 h => ?_) BW.out
            have := (HTX.out v x hx h0 h).1
            have := HH.out
            omega
          · have hkz : ((k : Int) == 2000) = false := beq_eq_false_iff_ne.2 (by omega)
            clear h2k
            have HADL := Lib.hid (show ad.block < w2.heap.size from by
              have := HV2.out.at_ hlt
              obtain ⟨ad9, _, e9, _, _, hc9⟩ := this
              injection e9 with e9
              subst e9
              have := World.block_lt_of_cell? w2 _ hc9
              rwa [block_of_add] at this)
            go_wp2_with (at_builtin; refine wpList_pushL rfl (.tmp 35) (.tmp 37) rfl rfl rfl HS2.out HO3.out (by omega) ?_)
            intro A6 c6 w6 hs6 hg6 hr6
            have HS6 := Lib.hid hs6
            have hrow : Value.ownBlock (.slice A' k c') ≠ some ad.block := fun e => by
              cases A' with
              | none => cases e
              | some a0 => exact HNE.out a0 rfl (Option.some.inj e)
            have HV6 := Lib.hid (HV2.out.grownNe hg6 hrow)
            have HNE6 := Lib.hid (show ∀ ad', A6 = some ad' → ad'.block ≠ ad.block from fun ad' e => by
              subst e
              rcases hr6 with h | h
              · exact fun e => hrow (by rw [← h]; exact congrArg some e)
              · have h1 := h ad'.block rfl
                have := HADL.out
                omega)
            have hz6 : w1.heap.size ≤ w6.heap.size := Nat.le_trans hz2 hg6.size
            have HTO6 := Lib.hid (show totalL (acc ++ [xs]) ≤ wl (ts.take (k + 1)) from by
              rw [total_snoc, HTK.out, HL3.out]
              have := HTO.out
              omega)
            have HX6 := Lib.hid (show ∀ (v : Int) (x : List (List Int)), PolX v x → x.length ≤ 2000 → x ≠ [] → l ≠ [48] → l = tailT x → acc ++ [xs] = x.take (k + 1) from fun v x hx hxl h0 h4 h => by
              obtain ⟨_, y, hy, h1, h2, h3⟩ := HTX.out v x hx h0 h
              rw [HX.out v x hx hxl h0 h4 h, List.take_add_one, hy, (HD.out y h1 h2 h3).2]
              rfl)
            clear hs6 hg6 hr6 hrow
            go_wp2_with fail
            go_roundw
            case rel => exact ⟨k + 1, c6, A6, _, by omega, by go_num, rfl, HS6, HV6, HNE6, hz6, HTO6, HX6⟩
            case measure => simp [intOf]; omega
      · obtain rfl : k = n := by omega
        go_wp2_with fail
        rw [HR.out]
        refine RetRS.mk acc true (HS.out.own.m (Nat.le_refl _)) (by rw [HLS.out]; exact hnl) ?_ (fun v x hx hxl h0 h4 h => ⟨rfl, ?_⟩) HS.out.bel
        · have h1 := HTO.out
          have h2 := wl_le ts k
          have := HWL.out
          omega
        · rw [HX.out v x hx hxl h0 h4 h, List.take_of_length_le]
          have := HW.out v x hx h0 h
          rw [← HN.out, this, List.length_map]
          exact Nat.le_refl _
end Go.Proofs.YtbcchiaigincaaaGreatDoor
