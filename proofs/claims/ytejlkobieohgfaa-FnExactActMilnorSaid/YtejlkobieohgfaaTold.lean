/- told: a polynomial that stands in a map, if it has not too many terms; l08Fit. -/
import Derived.Test.YtejlkobieohgfaaMapR
namespace Go.Proofs.Ytejlkobieohgfaa
open Go.RowKit
set_option linter.unusedVariables false

/-- what told answers: variables, terms, code -/
def toldV (v : Int) (s : List (List Int)) : Int × List (List Int) × Int := if 2000 < s.length then (0, [], 3) else (v, s, 0)
theorem toldV_no {v : Int} {s : List (List Int)} (h : 2000 < s.length) : toldV v s = (0, [], 3) := if_pos h
theorem toldV_yes {v : Int} {s : List (List Int)} (h : ¬ 2000 < s.length) : toldV v s = (v, s, 0) := if_neg h
abbrev RetPl (o : Int × List (List Int) × Int) (w : World) (e : Ending) (w' : World) : Prop := RetNC o.1 o.2.1.length o.2.1 o.2.2 w e w'
theorem terms_of {b k : Nat} {xss : List (List Int)} {w : World} (h : OwnP w b (xss.map encP)) (hx : ∀ x ∈ xss, Mono k x) (hk : k ≤ 10) (hn : xss.length ≤ 100000000) :
    Calls Try.prog 103 #[.map (some b), .int .i64 k] w (RetL (oddL xss).length (oddL xss) w) :=
  (terms_any b k (xss.map encP) w h (fun a ha => by obtain ⟨x, hx1, rfl⟩ := List.mem_map.1 ha; exact encP_nonneg (hx x hx1).1) hk (by rw [List.length_map]; exact hn)).mono fun e w' ⟨yss, h1, h2, h3⟩ => by
    have := terms_eq hx h2 h3
    subst this
    exact h1
set_option maxRecDepth 100000 in
theorem told_any (b k : Nat) (xss : List (List Int)) (w : World) (h : OwnP w b (xss.map encP)) (hx : ∀ x ∈ xss, Mono k x) (hk : k ≤ 10) (hn : xss.length ≤ 100000000) :
    Calls Try.prog 91 #[.int .i64 k, .map (some b)] w (RetPl (toldV k (oddL xss)) w) := by
  obtain ⟨w0, r, hw0, hbe, hb0, hz0, hF⟩ := start1 w (.int .i64 0) (.slice none 0 0) 28
  have H := Lib.hid (h.below hb0)
  have HX := Lib.hid hx
  have HN := Lib.hid hn
  have Hw := Lib.hid hw0
  have Hbe := Lib.hid hbe
  have Hb0 := Lib.hid hb0
  have HZ := Lib.hid hz0
  have F0 := Lib.hid hF
  obtain ⟨m, hm⟩ : ∃ m, m = (oddL xss).length := ⟨_, rfl⟩
  have HM := Lib.hid (show (oddI (xss.map encP)).length = m from by rw [hm]; exact oddL_size hx)
  obtain ⟨o, ho⟩ : ∃ o, o = toldV k (oddL xss) := ⟨_, rfl⟩
  have HO := Lib.hid ho
  have hcase : (Hid (2000 < m) ∧ Hid (o = (0, [], 3))) ∨ (Hid (¬ 2000 < m) ∧ Hid (o = ((k : Int), oddL xss, 0))) := by
    by_cases h1 : 2000 < m
    · exact .inl ⟨Lib.hid h1, Lib.hid (by rw [ho]; exact toldV_no (by omega))⟩
    · exact .inr ⟨Lib.hid h1, Lib.hid (by rw [ho]; exact toldV_yes (by omega))⟩
  rw [← ho]
  clear h hx hn hw0 hbe hb0 hz0 hF hm ho
  have q0 := F0.out.at_ (b := r) (o := 0) (V := .int .i64 0) (by simp)
  have q1 := F0.out.at_ (b := r) (o := 1) (V := .slice none 0 0) (by simp)
  have f0 := F0.out.fr (b := r) (o := 0) (V := .int .i64 0) (by simp)
  have f1 := F0.out.fr (b := r) (o := 1) (V := .slice none 0 0) (by simp)
  rcases hcase with ⟨hA, hV⟩ | ⟨hA, hV⟩
  · have hl : decide ((2000 : Int) < m) = true := decide_eq_true (by have := hA.out; omega)
    have hres := cells_end q0 q1 (.int .i64 0) (.slice none 0 0)
    go_enter Try.func91, Try.ntmps91
    go_wp2_with (at_len; rw [← Hw.out, ← Hbe.out]; refine wpList_lenP _ rfl (.tmp 6) rfl Try.underlying100 rfl H.out ?_; rw [HM.out])
    refine bodyPost_ret (v := .tuple #[.agg #[.int .i64 0, .slice none 0 0], .int .i64 3]) (by simp [results, Try.results91, go_sem, hres.1, hres.2]) rfl ?_
    exact RetNC.bad (by rw [hV.out]) (by rw [hV.out]) (by rw [hV.out]) Hb0.out (by rw [Hbe.out]; omega)
  · have hl : decide ((2000 : Int) < m) = false := decide_eq_false (by have := hA.out; omega)
    have HT := Lib.hid (terms_of H.out HX.out hk HN.out)
    go_enter Try.func91, Try.ntmps91
    go_wp2_with (at_len; rw [← Hw.out, ← Hbe.out]; refine wpList_lenP _ rfl (.tmp 6) rfl Try.underlying100 rfl H.out ?_; rw [HM.out])
    refine HT.out.mono ?_
    rintro e w2 ⟨A2, c2, rfl, ho2, hb2⟩
    have O2 := Lib.hid ho2
    have B2 := Lib.hid hb2
    clear ho2 hb2 q0 q1 f0 f1
    have q0 := (F0.out.below B2.out).at_ (b := r) (o := 0) (V := .int .i64 0) (by simp)
    have q1 := (F0.out.below B2.out).at_ (b := r) (o := 1) (V := .slice none 0 0) (by simp)
    have f0 := (F0.out.below B2.out).fr (b := r) (o := 0) (V := .int .i64 0) (by simp)
    have f1 := (F0.out.below B2.out).fr (b := r) (o := 1) (V := .slice none 0 0) (by simp)
    have hres := cells_end q0 q1 (.int .i64 k) (.slice A2 (oddL xss).length c2)
    go_wp2_with fail
    refine bodyPost_ret (v := .tuple #[.agg #[.int .i64 k, .slice A2 (oddL xss).length c2], .int .i64 0]) (by simp [results, Try.results91, go_sem, hres.1, hres.2]) rfl ?_
    exact RetNC.mk (V := w0.heap.size) (by rw [hV.out]) (by rw [hV.out]) (by rw [hV.out]) (by rw [hV.out]) (Hb0.out.trans (B2.out.mono Hb0.out.size)) (by rw [Hbe.out]; omega) (by rw [HZ.out]; omega) (O2.out.m (Nat.le_refl _)) (Nat.le_refl _)
end Go.Proofs.Ytejlkobieohgfaa
