/- Texts of lambda words: the reference's functions. -/
import Derived.Test.YtgmbbpaokcjnhaaGreatDoorFrC
import Derived.Laws.IdiomStrings
import Derived.Deep.RegionWith
import Derived.Lib.Join
import Derived.Laws.Concat
namespace Go.Proofs.YtgmbbpaokcjnhaaGreatDoor
open Go.RowKit
set_option linter.unusedVariables false

def XCl (W : World) (H : Nat) (v : Value) : Prop := H < W.heap.size ∧ W.cell? ⟨H, 0, none⟩ = some v
theorem xcl_new (W : World) (v : Value) (T : TypeId) : XCl (W.alloc (.cells #[v] T)) W.heap.size v := ⟨by simp, by simp⟩
theorem xcl_below {W u : World} {H : Nat} {v : Value} (h : XCl W H v) (hb : Below W.heap.size W u) : XCl u H v := ⟨Nat.lt_of_lt_of_le h.1 hb.size, (hb.cell (p := ⟨H, 0, none⟩) h.1).trans h.2⟩
theorem xcl_dr {W : World} {H : Nat} {v : Value} (h : XCl W H v) : XCl W.drew H v := h
theorem xbelow_al {B : Nat} {wz W : World} (h : Below B wz W) (hB : B ≤ wz.heap.size) (o : Obj) : Below B wz (W.alloc o) := h.alloc (Nat.le_trans hB h.size) o
theorem xbelow_dr {B : Nat} {wz W : World} (h : Below B wz W) : Below B wz W.drew := below_drewN h 1
/-- the byte of a digit -/
def dg (n : Nat) : UInt8 := UInt8.ofNat (48 + n)
theorem dg_nat {n : Nat} (h : n < 10) : (dg n).toNat = 48 + n := by
  unfold dg
  rw [UInt8.toNat_ofNat']
  omega
theorem conv_dig (w : World) (g n : Nat) (h : n < 10) (hc : w.cell? ⟨g, 0, none⟩ = some (.int .u8 (48 + (n : Int)))) :
    (convert 22 9 (.slice (some ⟨g, 0, none⟩) 1 1)).run Tryz.prog w = .ok (.string ⟨#[dg n]⟩) w := by
  have := run_convert_bytes_back (P := Tryz.prog) w 22 9 5 ⟨g, 0, none⟩ 1 [dg n] Tryz.underlying22 Tryz.underlying5 Tryz.underlying9 (fun j hj => by
    have : j = 0 := by simpa using hj
    subst this
    show w.cell? ⟨g, 0, none⟩ = _
    rw [hc]
    show some (Value.int .u8 (48 + (n : Int))) = some (Value.int .u8 ((dg n).toNat : Int))
    rw [dg_nat h]
    push_cast
    rfl)
  exact this
def RetTx (t : List UInt8) (w : World) (e : Ending) (w' : World) : Prop := e = .returned (.string ⟨t.toArray⟩) ∧ Below w.heap.size w w'
theorem RetTx.mk {t : List UInt8} {s : ByteArray} {w w' : World} (h : s = ⟨t.toArray⟩) (hb : Below w.heap.size w w') : RetTx t w (.returned (.string s)) w' := by subst h; exact ⟨rfl, hb⟩
/-- an answer of a string and a code -/
def RetTSC (s : ByteArray) (k : Int) (w : World) (e : Ending) (w' : World) : Prop := e = .returned (.tuple #[.string s, .int .i64 k]) ∧ Below w.heap.size w w'
set_option maxRecDepth 100000 in
theorem dec1_any (n : Nat) (w : World) (h : n < 10) : Calls Tryz.prog 94 #[.int .i64 n] w (RetTx [dg n] w) := by
  have hn : (n : Int) < 10 := by omega
  have hc := conv_dig (w.alloc (.cells #[.int .u8 (48 + (n : Int))] 5)) w.heap.size n h (new_at rfl rfl)
  have HB := Lib.hid ((Below.refl w.heap.size w).alloc (Nat.le_refl _) (.cells #[.int .u8 (48 + (n : Int))] 5))
  have hw1 : IntKind.i64.wrap (48 + (n : Int)) = 48 + (n : Int) := by rw [IntKind.wrap_i64]; omega
  have hw2 : IntKind.u8.wrap (48 + (n : Int)) = 48 + (n : Int) := by rw [IntKind.wrap_u8]; omega
  go_enter Tryz.func94, Tryz.ntmps94
  go_wp2_with fail
  go_wp2_with (simp only [hc, Result.andThen])
  go_ret
  exact RetTx.mk (s := ⟨#[dg n]⟩) rfl HB.out
set_option maxRecDepth 100000 in
set_option maxHeartbeats 2000000 in
theorem dec2_any (n q r : Nat) (w : World) (hq : n = 10 * q + r) (h1 : 1 ≤ q) (h9 : q < 10) (hr : r < 10) : Calls Tryz.prog 94 #[.int .i64 n] w (RetTx [dg q, dg r] w) := by
  have hn : ¬ (n : Int) < 10 := by omega
  have htd : Int.tdiv (n : Int) 10 = (q : Int) := by rw [Int.tdiv_eq_ediv_of_nonneg (by omega)]; omega
  have htm : Int.tmod (n : Int) 10 = (r : Int) := by rw [Int.tmod_eq_emod_of_nonneg (by omega)]; omega
  have hwq : IntKind.i64.wrap (q : Int) = (q : Int) := by rw [IntKind.wrap_i64]; omega
  have hwr : IntKind.i64.wrap (r : Int) = (r : Int) := by rw [IntKind.wrap_i64]; omega
  have hw1 : IntKind.i64.wrap (48 + (r : Int)) = 48 + (r : Int) := by rw [IntKind.wrap_i64]; omega
  have hw2 : IntKind.u8.wrap (48 + (r : Int)) = 48 + (r : Int) := by rw [IntKind.wrap_u8]; omega
  obtain ⟨C, hC⟩ : ∃ C : Obj, C = .cells #[.int .u8 (48 + (r : Int))] 5 := ⟨_, rfl⟩
  have HA := Lib.hid (show Below w.heap.size w (w.alloc (.cells #[.int .u8 (48 + (r : Int))] 5)).drew from xbelow_dr (xbelow_al (Below.refl _ _) (Nat.le_refl _) _))
  have hcA := conv_dig (w.alloc (.cells #[.int .u8 (48 + (r : Int))] 5)).drew w.heap.size r hr (new_at rfl rfl)
  have CD := Lib.hid (fun W => dec1_any q W h9)
  have KA := Lib.hid (xcl_dr (xcl_new w (.int .u8 (48 + (r : Int))) 5))
  clear hq hC
  go_enter Tryz.func94, Tryz.ntmps94
  go_wp2_with fail
  go_upto_region 3 with fail
  go_region_with
    (first
      | (refine ((CD.out _).mono ?_)
         rintro e u ⟨rfl, hb⟩
         have Bu : Below w.heap.size w u := by first | exact HA.out.trans (hb.mono HA.out.size) | exact (xbelow_dr (Below.refl w.heap.size w)).trans hb
         try have hcB := conv_dig u w.heap.size r hr ((xcl_below KA.out hb).2)
         have hcC := conv_dig (u.alloc (.cells #[.int .u8 (48 + (r : Int))] 5)) u.heap.size r hr (new_at rfl rfl)
         have HBu := Lib.hid Bu
         have HBc := Lib.hid (Bu.alloc Bu.size (.cells #[.int .u8 (48 + (r : Int))] 5))
         clear Bu hb))
  all_goals
    go_wp2_with fail
    go_ret
    first
      | exact RetTx.mk (s := ⟨#[dg q]⟩ ++ ⟨#[dg r]⟩) rfl HBu.out
      | exact RetTx.mk (s := ⟨#[dg q]⟩ ++ ⟨#[dg r]⟩) rfl HBc.out
      | (trace_state; sorry)
/-- a number of at most two digits -/
def decW (n : Nat) : List UInt8 := if n < 10 then [dg n] else [dg (n / 10), dg (n % 10)]
theorem decW_len (n : Nat) : (decW n).length ≤ 2 := by unfold decW; split <;> simp
theorem dec_any (n : Nat) (w : World) (h : n < 100) : Calls Tryz.prog 94 #[.int .i64 n] w (RetTx (decW n) w) := by
  unfold decW
  split
  · exact dec1_any n w (by assumption)
  · exact dec2_any n (n / 10) (n % 10) w (by omega) (by omega) (by omega) (by omega)
theorem join_snoc (xs : List (List UInt8)) (y sep : List UInt8) : Lib.join (xs ++ [y]) sep = if xs = [] then y else Lib.join xs sep ++ sep ++ y := by
  cases xs with
  | nil => simp [Lib.join_one]
  | cons x r =>
    rw [if_neg (by simp), List.cons_append, Lib.join_cons, Lib.join_cons]
    have h : ∀ r : List (List UInt8), Lib.joinTail sep (r ++ [y]) = Lib.joinTail sep r ++ (sep ++ y) := by
      intro r
      induction r with
      | nil => simp [Lib.joinTail]
      | cons a r ih =>
        simp only [List.cons_append]
        simp [Lib.joinTail]
    rw [h]
    simp
/-- numbers, joined -/
def numT (sep : List UInt8) (xs : List Int) : List UInt8 := Lib.join (xs.map fun i => decW i.toNat) sep
theorem numT_take {sep : List UInt8} {xs : List Int} {k : Nat} {i : Int} (h : xs[k]? = some i) : numT sep (xs.take (k + 1)) = if k = 0 then numT sep (xs.take k) ++ decW i.toNat else numT sep (xs.take k) ++ sep ++ decW i.toNat := by
  unfold numT
  have hk := (List.getElem?_eq_some_iff.1 h).1
  rw [List.take_add_one, h, List.map_append]
  show Lib.join (_ ++ [decW i.toNat]) sep = _
  rw [join_snoc]
  by_cases h0 : k = 0
  · subst h0
    simp [Lib.join_nil]
  · rw [if_neg h0, if_neg (by
      intro e
      have h1 := congrArg List.length e
      rw [List.length_map, List.length_take] at h1
      simp only [List.length_nil] at h1
      omega)]
set_option maxRecDepth 100000 in
theorem list01_any (A : Option Addr) (n c B : Nat) (xs : List Int) (sp : UInt8) (w : World) (h : RdS w B A n c xs) (hB : B ≤ w.heap.size) (hx : ∀ i ∈ xs, 0 ≤ i ∧ i < 100) (hn : n ≤ 1000000) :
    Calls Tryz.prog 77 #[.slice A n c, .string ⟨#[sp]⟩] w (RetTx (numT [sp] xs) w) := by
  obtain ⟨sb, hsb⟩ : ∃ sb : ByteArray, sb = ⟨#[sp]⟩ := ⟨_, rfl⟩
  have hsb1 : sb.size = 1 := by rw [hsb]; rfl
  have HSB := Lib.hid hsb
  rw [← hsb]
  clear hsb
  have H := Lib.hid (h.mono hB)
  have HX := Lib.hid hx
  have HL := Lib.hid h.len
  obtain ⟨R, hR⟩ : ∃ R, R = RetTx (numT [sp] xs) w := ⟨_, rfl⟩
  have HR := Lib.hid hR
  rw [← hR]
  have HJ := Lib.hid (fun (x y : List UInt8) => ByteArray.mk_append_mk x y)
  clear h hx hR
  go_enter Tryz.func77, Tryz.ntmps77
  go_wp2_with fail
  go_loopw [5, 6] (fun o i wr => ∃ (k : Nat) (s : ByteArray), k ≤ n ∧ i = .int .i64 k ∧ o = .string s ∧ s.size ≤ 3 * k ∧ Hid (s = ⟨(numT [sp] (xs.take k)).toArray⟩) ∧ Hid (Below w.heap.size w wr)) (fun _ i _ => n - (intOf i).toNat)
  case atStart => exact ⟨0, ⟨#[]⟩, Nat.zero_le _, rfl, rfl, Nat.zero_le _, Lib.hid rfl, Lib.hid (Below.refl _ _)⟩
  case round =>
    obtain ⟨k, s, hk, rfl, rfl, hsz, HS, HB⟩ := hrel
    by_cases hlt : k < n
    · have Hr := Lib.hid ((H.out.below HB.out))
      obtain ⟨ad, x, rfl, hb, hx, hcx⟩ := Hr.out.at_ hlt
      have hx0 := HX.out x (List.mem_of_getElem? hx.out)
      obtain ⟨m, rfl⟩ : ∃ m : Nat, x = (m : Int) := ⟨x.toNat, by omega⟩
      have CD := Lib.hid (dec_any m wr (by omega))
      have HT := Lib.hid (numT_take (sep := [sp]) hx.out)
      rw [Int.toNat_natCast] at HT
      obtain ⟨t, ht⟩ : ∃ t, t = decW m := ⟨_, rfl⟩
      have htl : t.length ≤ 2 := by rw [ht]; exact decW_len m
      rw [← ht] at CD HT
      unfold RetTx at CD
      obtain ⟨tb, htb⟩ : ∃ tb : ByteArray, tb = ⟨t.toArray⟩ := ⟨_, rfl⟩
      have hts : tb.size ≤ 2 := by rw [htb]; exact htl
      rw [← htb] at CD
      have HTB := Lib.hid htb
      have hz1 : (s ++ tb).size = s.size + tb.size := ByteArray.size_append
      have hz2 : (s ++ sb).size = s.size + 1 := by rw [ByteArray.size_append, hsb1]
      have hz3 : ((s ++ sb) ++ tb).size = s.size + 1 + tb.size := by rw [ByteArray.size_append, hz2]
      have hz4 : 3 * (k + 1) = 3 * k + 3 := by omega
      clear ht hx htl htb
      by_cases h0 : k = 0
      · have HT0 := Lib.hid (show numT [sp] (xs.take (k + 1)) = numT [sp] (xs.take k) ++ t from by rw [HT.out, if_pos h0])
        have hk0 : ¬ (0 : Int) < (k : Int) := by omega
        clear h0
        go_wp2_with fail
        refine CD.out.mono ?_
        rintro e w1 ⟨rfl, hb1⟩
        have HB1 := Lib.hid (HB.out.trans (hb1.mono HB.out.size))
        clear hb1
        go_wp2_with fail
        go_roundw
        case rel => exact ⟨k + 1, _, by omega, by go_num, rfl, by omega, Lib.hid (by rw [HT0.out, HS.out, HTB.out, HJ.out]), HB1⟩
        case measure => simp [intOf]; omega
      · have HT0 := Lib.hid (show numT [sp] (xs.take (k + 1)) = numT [sp] (xs.take k) ++ [sp] ++ t from by rw [HT.out, if_neg h0])
        have hk0 : (0 : Int) < (k : Int) := by omega
        clear h0
        go_wp2_with fail
        refine CD.out.mono ?_
        rintro e w1 ⟨rfl, hb1⟩
        have HB1 := Lib.hid (HB.out.trans (hb1.mono HB.out.size))
        clear hb1
        go_wp2_with fail
        go_roundw
        case rel => exact ⟨k + 1, _, by omega, by go_num, rfl, by omega, Lib.hid (by rw [HT0.out, HS.out, HTB.out, HSB.out, ← HJ.out, ← HJ.out]), HB1⟩
        case measure => simp [intOf]; omega
    · have hkn := Lib.hid (show k = n by omega)
      go_wp2_with fail
      rw [HR.out]
      refine RetTx.mk (s := s) ?_ HB.out
      rw [HS.out, hkn.out, List.take_of_length_le (by rw [HL.out]; exact Nat.le_refl _)]
theorem numT_len (sp : UInt8) (xs : List Int) : (numT [sp] xs).length ≤ 3 * xs.length := by
  have h : ∀ r : List Int, (Lib.joinTail [sp] (r.map fun i => decW i.toNat)).length ≤ 3 * r.length := by
    intro r
    induction r with
    | nil => simp [Lib.joinTail]
    | cons a r ih =>
      have h1 := decW_len a.toNat
      simp only [Lib.joinTail, List.map_cons, List.flatten_cons, List.length_append, List.length_cons, List.length_nil] at ih ⊢
      omega
  unfold numT
  cases xs with
  | nil => simp [Lib.join_nil]
  | cons x r =>
    rw [List.map_cons, Lib.join_cons, List.length_append]
    have h1 := decW_len x.toNat
    have h2 := h r
    simp only [List.length_cons]
    omega
end Go.Proofs.YtgmbbpaokcjnhaaGreatDoor
