/- impl.squareMonomial, impl.square. -/
import Derived.Test.YtejlkobieohgfaaMapP
import Derived.Test.YtejlkobieohgfaaKeep
import Derived.Test.YtejlkobieohgfaaStep
import Derived.ArgAppend
namespace Go.Proofs.Ytejlkobieohgfaa
open Go.RowKit
set_option linter.unusedVariables false

/-- append of one number onto a slice that is read and has no room: a new row -/
theorem wp_growI {w : World} {o : Oper} {a : Act} {K : Act → World → Prop} {Q : Exit → Act → World → Prop} (s x : Operand)
    (ho : o.op = .call { callee := .builtin .append, args := #[s, x], argTypes := #[29, 29] }) {B n d Bx : Nat} {A : Option Addr} {ad : Addr} {xs : List Int} {y : Int}
    (hs : a.eval s = .slice A n n) (hx : a.eval x = .slice (some ad) 1 d) (hr : RdS w B A n n xs) (hA : A = none → n = 0) (hy : RdS w Bx (some ad) 1 d [y]) (hb : n ≤ 1000000000)
    (h : ∀ A' c' w', OwnS w' w.heap.size A' (n + 1) c' (xs ++ [y]) → w.grownBy w' none → K (a.put o.dst (.slice A' (n + 1) c')) w') : Oper.wp Try.prog o a w K Q := by
  obtain ⟨i, z, hi, hz, hsz, hby, hzs⟩ := eltI.info
  have key : ∃ v' w', (Builtin.append_ #[29, 29] o.type #[.slice A n n, .slice (some ad) 1 d]).run Try.prog w = .ok v' w' ∧ w'.ownsRow w.heap.size 2 1 v' (n + 1) (xs.map (.int .i64) ++ [.int .i64 y]) ∧ w.grownBy w' none := by
    have hc : ∀ j u, [Value.int .i64 y][j]? = some u → w.cell? (ad.add j) = some u := by
      intro j u hu
      obtain ⟨hj, hju⟩ := List.getElem?_eq_some_iff.1 hu
      obtain ⟨ad', e, _, hcc⟩ := hy.cell j (by simpa using hj)
      have e := Option.some.inj e
      subst e
      rw [hcc, ← hju]
      have : j = 0 := by simpa using hj
      subst this; rfl
    rcases A with _ | b
    · have hn := hA rfl
      subst hn
      have hxs : xs = [] := List.eq_nil_of_length_eq_zero hr.len
      subst hxs
      obtain ⟨v', w', hrun, r1, r2, _⟩ := run_append_own (P := Try.prog) w w.heap.size 29 o.type 2 i z 1 8 eltI.under hi hz hsz hby hzs (by decide) (.slice none 0 0) 0 [] (World.ownsRow_nil w _ 2 1) ad 1 d [.int .i64 y] rfl hc (by intro u hu; rw [List.mem_singleton.1 hu]; rfl) (by decide) (by decide) (Nat.le_refl _)
      exact ⟨v', w', hrun, r1, r2⟩
    · have ho' : ∀ j u, (xs.map (Value.int .i64))[j]? = some u → w.cell? (b.add j) = some u := by
        intro j u hu
        obtain ⟨hj, hju⟩ := List.getElem?_eq_some_iff.1 hu
        obtain ⟨ad', e, _, hcc⟩ := hr.cell j (by simpa using hj)
        have e := Option.some.inj e
        subst e
        rw [hcc, ← hju]; simp
      exact run_append_arg_grows (P := Try.prog) w 29 o.type 2 i z 1 8 eltI.under hi hz hsz hby hzs (by decide) b n n (xs.map (.int .i64)) (by simpa using hr.len) ho' ad 1 d [.int .i64 y] rfl hc (by omega) (by unfold maxLen; omega) (by omega)
  obtain ⟨v', w', hrun, hown, hg⟩ := key
  obtain ⟨g, cap, hv, _, _⟩ := hown.form (by omega)
  subst hv
  have hO : OwnS w' w.heap.size (some ⟨g, 0, none⟩) (n + 1) cap (xs ++ [y]) := ⟨by simp [hr.len], by simpa using hown⟩
  unfold Oper.wp
  simp [execOp, ho, resolve, invoke, builtin, hs, hx, hrun, Result.andThen]
  exact h _ _ _ hO hg
end Go.Proofs.Ytejlkobieohgfaa
