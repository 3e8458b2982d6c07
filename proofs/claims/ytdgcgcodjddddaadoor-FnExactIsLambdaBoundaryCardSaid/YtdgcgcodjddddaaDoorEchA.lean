/- echelon.add. -/
import Derived.Test.YtdgcgcodjddddaaDoorEchI
import Derived.Deep.RegionLaw
namespace Go.Proofs.YtdgcgcodjddddaaDoor
open Go.RowKit
set_option linter.unusedVariables false

theorem Cells.grown {L : List (Nat × Nat × Value)} {w w' : World} {r : Option Nat} (h : Cells L w) (hg : w.grownBy w' r) (hn : ∀ x ∈ L, some x.1 ≠ r) : Cells L w' :=
  ⟨fun x hx => (World.cell?_of_block (a := ⟨x.1, x.2.1, none⟩) (hg.block _ (h.lt x hx) (hn x hx))).trans (h.c x hx), fun x hx => (World.frozen?_of_block (a := ⟨x.1, x.2.1, none⟩) (hg.block _ (h.lt x hx) (hn x hx))).trans (h.f x hx), fun x hx => Nat.lt_of_lt_of_le (h.lt x hx) hg.size⟩
theorem ownV_grown {w w' : World} {B E n c : Nat} {A r : Option Addr} {r : Option Nat} {vs : List Value} (h : OwnV w B E A n c vs) (hg : w.grownBy w' r) (hn : ∀ ad, A = some ad → some ad.block ≠ r) : OwnV w' B E A n c vs :=
  ⟨h.len, ownsRow_same h.own fun g e => by
    cases A with
    | none => cases e
    | some ad =>
      have hh := h.own.lt g e
      obtain rfl : ad.block = g := Option.some.inj e
      exact hg.block _ hh.2 (hn ad rfl)⟩
theorem ownU_gt {w : World} {B g nb v : Nat} (h : OwnU w B g nb v) (hn : 0 < nb) : B ≤ g ∧ g < w.heap.size := by
  have := h.at2 hn
  exact ⟨this.1, this.2.1⟩
theorem EchP.set {w w' : World} {E K nb n c c2 : Nat} {R gs : List Nat} {A A2 : Option Addr} {ws : List Value} (h : EchP w E K nb R A A2 n c c2 gs ws) {k g y : Nat} (hk : gs[k]? = some g) (hg : w.grownBy w' (some g)) (ho : OwnU w' (E + 1) g nb y) (hn : 0 < nb) : EchP w' E K nb (R.set k y) A A2 n c c2 gs ws := by
  have hEg := (ownU_gt ho hn).1
  have hm : g ∈ gs := List.mem_of_getElem? hk
  refine ⟨h.cs.grown hg ?_, ownV_grown (r := none) h.o1 hg ?_, ownV_grown (r := none) h.o2 hg ?_, h.em, by rw [List.length_set]; exact h.len, fun i g' v hg' hv => ?_, h.nod, h.k0, h.k1, h.k2, h.k3, h.ne, h.na, h.na2⟩
  · intro x hx e
    injection e with e
    simp only [List.mem_cons, List.not_mem_nil, or_false] at hx
    rcases hx with rfl | rfl <;> · dsimp only at e; omega
  · intro ad he e
    injection e with e
    exact h.na ad he (by rw [e]; exact hm)
  · intro ad he e
    injection e with e
    exact h.na2 ad he (by rw [e]; exact hm)
  · by_cases hik : i = k
    · subst hik
      rw [hk] at hg'
      obtain rfl := Option.some.inj hg'
      rw [List.getElem?_set_self' ] at hv
      cases hr : R[i]? with
      | none => rw [hr] at hv; cases hv
      | some z => rw [hr] at hv; obtain rfl := Option.some.inj hv; exact ho
    · rw [List.getElem?_set_ne (fun e => hik e.symm)] at hv
      refine ownV_grown (r := none) (h.row i g' v hg' hv) hg ?_
      intro ad he e
      injection he with he
      subst he
      injection e with e
      have hi := (List.getElem?_eq_some_iff.1 hg').1
      have hkl := (List.getElem?_eq_some_iff.1 hk).1
      exact hik ((List.getElem?_inj hi h.nod).1 (by rw [hg', hk]; exact congrArg some e))
/-- what stands when a row has been laid behind the rows, before the two stores -/
structure EchM (wr W : World) (E nb g : Nat) (A A2 A' A2' : Option Addr) (n c c2 c' c2' : Nat) (gs : List Nat) (ws : List Value) (u : Value) : Prop where
  cs : Cells [(E, 0, .slice A n c), (E, 1, .slice A2 n c2)] W
  o1 : OwnV W (E + 1) 59 A' (n + 1) c' (gs.map (rowV nb) ++ [rowV nb g])
  o2 : OwnV W (E + 1) 59 A2' (n + 1) c2' (ws ++ [u])
  ne : ∀ ad ad2, A' = some ad → A2' = some ad2 → ad.block ≠ ad2.block
  na : ∀ ad, A' = some ad → ad.block ∉ gs ++ [g]
  na2 : ∀ ad, A2' = some ad → ad.block ∉ gs ++ [g]
  blk : ∀ i ∈ gs ++ [g], W.heap[i]? = wr.heap[i]?
  bel : Below (E + 1) wr W
theorem ownV_lt {w : World} {B E n c : Nat} {A : Option Addr} {vs : List Value} (h : OwnV w B E A n c vs) {ad : Addr} (e : A = some ad) : B ≤ ad.block ∧ ad.block < w.heap.size := h.own.lt ad.block (by rw [e]; rfl)
theorem EchM.fin {wr W X : World} {E K nb g n c c2 c' c2' v : Nat} {A A2 A' A2' : Option Addr} {gs R : List Nat} {ws : List Value} {a9 : Option Addr} {d9 : Nat} (h : EchM wr W E nb g A A2 A' A2' n c c2 c' c2' gs ws (.slice a9 0 d9)) (hr : EchP wr E K nb R A A2 n c c2 gs ws) (ho : OwnU wr (E + 1) g nb v) (hK : K ≤ g) (hg : g < wr.heap.size) (hE : E < wr.heap.size) (hn0 : 0 < nb)
    (hsz : X.heap.size = W.heap.size) (hbo : ∀ i, i ≠ E → X.heap[i]? = W.heap[i]?) (hcs : Cells [(E, 1, .slice A2' (n + 1) c2'), (E, 0, .slice A' (n + 1) c')] X) (hbl : Below E wr X) :
    EchP X E X.heap.size nb (R ++ [v]) A' A2' (n + 1) c' c2' (gs ++ [g]) (ws ++ [.slice a9 0 d9]) := by
  have hsame : ∀ {B E' m d : Nat} {A0 : Option Addr} {vs : List Value}, OwnV W B E' A0 m d vs → (∀ ad, A0 = some ad → ad.block ≠ E) → OwnV X B E' A0 m d vs := fun h0 hne => ⟨h0.len, ownsRow_same h0.own fun b e => by
    rename_i A0 _
    cases A0 with
    | none => cases e
    | some ad =>
      obtain rfl : ad.block = b := Option.some.inj e
      exact hbo _ (hne ad rfl)⟩
  have hrows : ∀ (i g' x : Nat), (gs ++ [g])[i]? = some g' → (R ++ [v])[i]? = some x → OwnU wr (E + 1) g' nb x := fun i g' x h1 h2 => by
    by_cases hi : i < gs.length
    · rw [List.getElem?_append_left hi] at h1
      rw [List.getElem?_append_left (by rw [← hr.len]; exact hi)] at h2
      exact hr.row i g' x h1 h2
    · rw [List.getElem?_append_right (by omega), List.getElem?_singleton] at h1
      rw [List.getElem?_append_right (by rw [← hr.len]; omega), List.getElem?_singleton] at h2
      rw [hr.len] at h1
      split at h1
      · rename_i he
        rw [if_pos he] at h2
        obtain rfl := Option.some.inj h1
        obtain rfl := Option.some.inj h2
        exact ho
      · cases h1
  have hgne : ∀ i ∈ gs ++ [g], i < wr.heap.size ∧ i ≠ E ∧ E < i := fun i hi => by
    obtain ⟨j, hj⟩ := List.mem_iff_getElem?.1 hi
    have hjl := (List.getElem?_eq_some_iff.1 hj).1
    obtain ⟨x, hx⟩ : ∃ x, (R ++ [v])[j]? = some x := ⟨_, List.getElem?_eq_getElem (by rw [List.length_append, ← hr.len]; simpa using hjl)⟩
    have := ownU_gt (hrows j i x hj hx) hn0
    omega
  have h1 : OwnV X (E + 1) 59 A' (n + 1) c' (gs.map (rowV nb) ++ [rowV nb g]) := hsame h.o1 fun ad e => by have := (ownV_lt h.o1 e).1; omega
  have h2 : OwnV X (E + 1) 59 A2' (n + 1) c2' (ws ++ [.slice a9 0 d9]) := hsame h.o2 fun ad e => by have := (ownV_lt h.o2 e).1; omega
  refine ⟨?_, ?_, h2, ?_, ?_, fun i g' x hg' hx => ?_, ?_, ?_, ?_, ?_, ?_, h.ne, h.na, h.na2⟩
  · exact hcs.sub (by intro x hx; simp only [List.mem_cons, List.not_mem_nil, or_false] at hx ⊢; rcases hx with rfl | rfl <;> simp)
  · rw [List.map_append]
    exact h1
  · intro z hz
    rcases List.mem_append.1 hz with hz | hz
    · exact hr.em z hz
    · rw [List.mem_singleton.1 hz]; exact ⟨_, _, rfl⟩
  · rw [List.length_append, List.length_append, hr.len]; rfl
  · have h3 := hrows i g' x hg' hx
    have h4 := hgne g' (List.mem_of_getElem? hg')
    refine ⟨h3.len, ownsRow_same h3.own fun b e => ?_⟩
    obtain rfl : g' = b := Option.some.inj e
    rw [hbo g' h4.2.1]
    exact h.blk g' (List.mem_of_getElem? hg')
  · rw [List.nodup_append]
    refine ⟨hr.nod, by simp, fun a ha b hb e => ?_⟩
    have := hr.k3 a ha
    rw [List.mem_singleton] at hb
    omega
  · rw [hsz]; exact Nat.lt_of_lt_of_le hE h.bel.size
  · intro ad e
    rw [hsz]; exact (ownV_lt h.o1 e).2
  · intro ad e
    rw [hsz]; exact (ownV_lt h.o2 e).2
  · intro i hi
    rw [hsz]; exact Nat.lt_of_lt_of_le (hgne i hi).1 h.bel.size
/-- the answer of add: whether the row was new, and the rows then -/
def RetAd (E nb : Nat) (R : List Nat) (b : Bool) (w : World) (e : Ending) (w' : World) : Prop := e = .returned (.bool b) ∧ (∃ K A A2 n c c2 gs ws, EchP w' E K nb R A A2 n c c2 gs ws ∧ K ≤ w'.heap.size) ∧ Below E w w'
theorem EchM.two {w wr W : World} {E K nb g n c c2 c' c2' v : Nat} {A A2 A' A2' : Option Addr} {gs R : List Nat} {ws : List Value} {a9 : Option Addr} {d9 : Nat} (h : EchM wr W E nb g A A2 A' A2' n c c2 c' c2' gs ws (.slice a9 0 d9)) (hr : EchP wr E K nb R A A2 n c c2 gs ws) (ho : OwnU wr (E + 1) g nb v) (hK : K ≤ g) (hg : g < wr.heap.size) (hE : E < wr.heap.size) (hn0 : 0 < nb) (hb : Below E w wr) :
    RetAd E nb (R ++ [v]) true w (.returned (.bool true)) ((W.setCell ⟨E, 0, none⟩ (.slice A' (n + 1) c')).setCell ⟨E, 1, none⟩ (.slice A2' (n + 1) c2')) ∧
    RetAd E nb (R ++ [v]) true w (.returned (.bool true)) ((W.setCell ⟨E, 1, none⟩ (.slice A2' (n + 1) c2')).setCell ⟨E, 0, none⟩ (.slice A' (n + 1) c')) := by
  have hbl : ∀ u v, Below E wr ((W.setCell ⟨E, 0, none⟩ u).setCell ⟨E, 1, none⟩ v) := fun u v => ((h.bel.mono (Nat.le_succ E)).setCell (p := ⟨E, 0, none⟩) (Nat.le_refl _) _).setCell (p := ⟨E, 1, none⟩) (Nat.le_refl _) _
  have hbl2 : ∀ u v, Below E wr ((W.setCell ⟨E, 1, none⟩ u).setCell ⟨E, 0, none⟩ v) := fun u v => ((h.bel.mono (Nat.le_succ E)).setCell (p := ⟨E, 1, none⟩) (Nat.le_refl _) _).setCell (p := ⟨E, 0, none⟩) (Nat.le_refl _) _
  refine ⟨⟨rfl, ⟨_, _, _, _, _, _, _, _, h.fin hr ho hK hg hE hn0 (by simp [World.setCell]) (fun i hi => by rw [Below.heap_setCell _ _ _ _ (by exact hi), Below.heap_setCell _ _ _ _ (by exact hi)]) ?_ (hbl _ _), Nat.le_refl _⟩, hb.trans (by exact (hbl _ _))⟩,
    ⟨rfl, ⟨_, _, _, _, _, _, _, _, h.fin hr ho hK hg hE hn0 (by simp [World.setCell]) (fun i hi => by rw [Below.heap_setCell _ _ _ _ (by exact hi), Below.heap_setCell _ _ _ _ (by exact hi)]) ?_ (hbl2 _ _), Nat.le_refl _⟩, hb.trans (by exact (hbl2 _ _))⟩⟩
  · refine Cells.set (U := .slice A2 n c2) (Cells.sub (Cells.set (U := .slice A n c) (L := [(E, 1, .slice A2 n c2)]) h.cs (by simp) (.slice A' (n + 1) c')) ?_) (by simp) _
    intro x hx
    simp only [List.mem_cons, List.not_mem_nil, or_false] at hx ⊢
    rcases hx with rfl | rfl <;> simp
  · refine Cells.sub (Cells.set (U := .slice A n c) (L := [(E, 1, .slice A2' (n + 1) c2')]) (Cells.sub (Cells.set (U := .slice A2 n c2) (L := [(E, 0, .slice A n c)]) (h.cs.sub ?_) (by simp) (.slice A2' (n + 1) c2')) ?_) (by simp) (.slice A' (n + 1) c')) ?_
    · intro x hx
      simp only [List.mem_cons, List.not_mem_nil, or_false] at hx ⊢
      rcases hx with rfl | rfl <;> simp
    · intro x hx
      simp only [List.mem_cons, List.not_mem_nil, or_false] at hx ⊢
      rcases hx with rfl | rfl <;> simp
    · intro x hx
      simp only [List.mem_cons, List.not_mem_nil, or_false] at hx ⊢
      rcases hx with rfl | rfl <;> simp
theorem Tryd.info_row : (Tryd.prog.info? 59).map (fun i => (i.zero, i.size, i.bytes)) = some (some (.slice none 0 0), 1, 24) := by kernel_rfl
theorem eltRow : Elt 78 59 24 := elt_of Tryd.underlying78 Tryd.info_row rfl
theorem step_appV {T E bytes : Nat} (ht : Elt T E bytes) {w : World} {ops : Array Oper} {o : Oper} {a : Act} {K : Act → World → Prop} {Q : Exit → Act → World → Prop} {F : Prop} (hgd : o.guard = none) (s x : Operand)
    (ho : o.op = .call { callee := .builtin .append, args := #[s, x], argTypes := #[T, T] }) {B n c m d Bx : Nat} {A Ax : Option Addr} {vs us : List Value}
    (hs : a.eval s = .slice A n c) (hx : a.eval x = .slice Ax m d) (hown : OwnV w B E A n c vs) (hr : RdV w Bx Ax m d us) (h1 : ∀ u ∈ us, u.oneCell' = true)
    (hb : n + m ≤ 4000000000000) (hbytes : bytes ≤ 24) (hB : B ≤ w.heap.size)
    (h : ∀ A' c' w', OwnV w' B E A' (n + m) c' (vs ++ us) → w.grownBy w' (Value.ownBlock (.slice A n c)) → (Value.ownBlock (.slice A' (n + m) c') = Value.ownBlock (.slice A n c) ∨ Value.ownBlock (.slice A' (n + m) c') = some w.heap.size) →
      K (a.put o.dst (.slice A' (n + m) c')) w') : if Region.wanted o (yielded ops a.tmps) = true then Oper.wp Tryd.prog o a w K Q else F := by
  have hw : Region.wanted o (yielded ops a.tmps) = true := by simp [Region.wanted, hgd]
  rw [if_pos hw]
  exact wp_appV ht s x ho hs hx hown hr h1 hb hbytes hB h
/-- the cell of a literal of one value -/
def Cl (W : World) (H : Nat) (v : Value) : Prop := H < W.heap.size ∧ W.cell? ⟨H, 0, none⟩ = some v
theorem cl_new (W : World) (v : Value) (T : TypeId) : Cl (W.alloc (.cells #[v] T)) W.heap.size v := ⟨by simp, by simp⟩
theorem cl_below {W u : World} {H : Nat} {v : Value} (h : Cl W H v) (hb : Below W.heap.size W u) : Cl u H v := ⟨Nat.lt_of_lt_of_le h.1 hb.size, (hb.cell (p := ⟨H, 0, none⟩) h.1).trans h.2⟩
theorem cl_dr {W : World} {H : Nat} {v : Value} (h : Cl W H v) : Cl W.drew H v := h
theorem cl_al {W : World} {H : Nat} {v : Value} (h : Cl W H v) (o : Obj) : Cl (W.alloc o) H v := cl_below h ((Below.refl _ _).alloc (Nat.le_refl _) _)
theorem cl_new2 (W : World) (o : Obj) (v : Value) (T : TypeId) : Cl ((W.alloc o).alloc (.cells #[v] T)) (W.heap.size + 1) v := by
  have := cl_new (W.alloc o) v T
  simpa using this
theorem cl_grown {W w' : World} {H : Nat} {v : Value} {row : Option Nat} (hg : W.grownBy w' row) (h : Cl W H v) (hne : row ≠ some H) : Cl w' H v := by
  refine ⟨Nat.lt_of_lt_of_le h.1 hg.size, ?_⟩
  have := hg.block H h.1 (fun e => hne e.symm)
  rw [← h.2]
  simp only [World.cell?, this]
theorem rdv_cl {W : World} {H : Nat} {v : Value} (h : Cl W H v) : RdV W (H + 1) (some ⟨H, 0, none⟩) 1 1 [v] :=
  ⟨rfl, Nat.le_refl _, fun j hj => ⟨_, rfl, Nat.lt_succ_self _, by
    have : j = 0 := by simpa using hj
    subst this
    simpa [Addr.add] using h.2⟩⟩
theorem below_al {B : Nat} {wz W : World} (h : Below B wz W) (hB : B ≤ wz.heap.size) (o : Obj) : Below B wz (W.alloc o) := h.alloc (Nat.le_trans hB h.size) o
theorem below_dr {B : Nat} {wz W : World} (h : Below B wz W) : Below B wz W.drew := below_drewN h 1
/-- what stands behind the first append -/
structure EchN (wr W : World) (E nb g : Nat) (A A2 A' : Option Addr) (n c c2 c' : Nat) (gs : List Nat) : Prop where
  cs : Cells [(E, 0, .slice A n c), (E, 1, .slice A2 n c2)] W
  o1 : OwnV W (E + 1) 59 A' (n + 1) c' (gs.map (rowV nb) ++ [rowV nb g])
  own : Value.ownBlock (.slice A' (n + 1) c') = Value.ownBlock (.slice A n c) ∨ ∀ b, Value.ownBlock (.slice A' (n + 1) c') = some b → wr.heap.size ≤ b
  gr : wr.grownBy W (Value.ownBlock (.slice A n c))
theorem grown_of_bw {wr W : World} (h : Below wr.heap.size wr W) (r : Option Nat) : wr.grownBy W r := ⟨h.os, h.tape, h.output, h.size, fun j hj _ => h.block j hj⟩
theorem EchN.mk' {wr W0 W : World} {E K nb g n c c2 c' : Nat} {A A2 A' : Option Addr} {gs R : List Nat} {ws : List Value} (hr : EchP wr E K nb R A A2 n c c2 gs ws) (h0 : Below wr.heap.size wr W0) (h1 : OwnV W (E + 1) 59 A' (n + 1) c' (gs.map (rowV nb) ++ [rowV nb g])) (hg : W0.grownBy W (Value.ownBlock (.slice A n c)))
    (ho : Value.ownBlock (.slice A' (n + 1) c') = Value.ownBlock (.slice A n c) ∨ Value.ownBlock (.slice A' (n + 1) c') = some W0.heap.size) : EchN wr W E nb g A A2 A' n c c2 c' gs := by
  have hG := grownBy_trans (grown_of_bw h0 (Value.ownBlock (.slice A n c))) hg
  refine ⟨hr.cs.grown hG ?_, h1, ?_, hG⟩
  · intro x hx e
    have := hr.o1.row x.1 e.symm
    simp only [List.mem_cons, List.not_mem_nil, or_false] at hx
    rcases hx with rfl | rfl <;> · dsimp only at this; omega
  · rcases ho with h | h
    · exact .inl h
    · exact .inr fun b hb => by rw [h] at hb; injection hb with hb; have := h0.size; omega
theorem EchN.below {wr W W' : World} {E nb g n c c2 c' : Nat} {A A2 A' : Option Addr} {gs : List Nat} (h : EchN wr W E nb g A A2 A' n c c2 c' gs) (hb : Below W.heap.size W W') : EchN wr W' E nb g A A2 A' n c c2 c' gs :=
  ⟨h.cs.below hb, h.o1.below hb, h.own, grownBy_trans h.gr (grown_of_bw hb _)⟩
theorem EchN.second {wr W : World} {E K nb g n c c2 c' : Nat} {A A2 A' : Option Addr} {gs R : List Nat} {ws : List Value} (h : EchN wr W E nb g A A2 A' n c c2 c' gs) (hr : EchP wr E K nb R A A2 n c c2 gs ws) : OwnV W (E + 1) 59 A2 n c2 ws :=
  ownV_grown (r := none) hr.o2 h.gr fun ad e e' => by
    cases A with
    | none => cases e'
    | some a1 =>
      have e' : some ad.block = some a1.block := e'
      injection e' with e'
      exact hr.ne a1 ad rfl e e'.symm
theorem EchM.mk' {wr W1 W : World} {E K nb g n c c2 c' c2' : Nat} {A A2 A' A2' : Option Addr} {gs R : List Nat} {ws : List Value} {u : Value} (h : EchN wr W1 E nb g A A2 A' n c c2 c' gs) (hr : EchP wr E K nb R A A2 n c c2 gs ws) (hK : K ≤ g) (hg : g < wr.heap.size)
    (h2 : OwnV W (E + 1) 59 A2' (n + 1) c2' (ws ++ [u])) (hgr : W1.grownBy W (Value.ownBlock (.slice A2 n c2)))
    (ho : Value.ownBlock (.slice A2' (n + 1) c2') = Value.ownBlock (.slice A2 n c2) ∨ Value.ownBlock (.slice A2' (n + 1) c2') = some W1.heap.size) (hgE : ∀ x ∈ gs, E < x) (hEg : E < g) : EchM wr W E nb g A A2 A' A2' n c c2 c' c2' gs ws u := by
  have bA : ∀ b, Value.ownBlock (.slice A n c) = some b → b < K ∧ b ∉ gs ∧ E < b := fun b e => by
    cases A with
    | none => cases e
    | some ad =>
      obtain rfl : ad.block = b := Option.some.inj e
      exact ⟨hr.k1 ad rfl, hr.na ad rfl, (ownV_lt hr.o1 rfl).1⟩
  have bA2 : ∀ b, Value.ownBlock (.slice A2 n c2) = some b → b < K ∧ b ∉ gs ∧ E < b := fun b e => by
    cases A2 with
    | none => cases e
    | some ad =>
      obtain rfl : ad.block = b := Option.some.inj e
      exact ⟨hr.k2 ad rfl, hr.na2 ad rfl, (ownV_lt hr.o2 rfl).1⟩
  have hgK : ∀ x ∈ gs ++ [g], x < wr.heap.size ∧ E < x := fun x hx => by
    rcases List.mem_append.1 hx with h | h
    · exact ⟨by have := hr.k3 x h; omega, hgE x h⟩
    · rw [List.mem_singleton.1 h]; exact ⟨hg, hEg⟩
  have b1 : ∀ ad, A' = some ad → (Value.ownBlock (.slice A n c) = some ad.block ∨ wr.heap.size ≤ ad.block) ∧ ad.block < W1.heap.size := fun ad e => by
    subst e
    refine ⟨?_, (ownV_lt h.o1 rfl).2⟩
    rcases h.own with h | h
    · exact .inl h.symm
    · exact .inr (h ad.block rfl)
  have b2 : ∀ ad, A2' = some ad → (Value.ownBlock (.slice A2 n c2) = some ad.block ∨ ad.block = W1.heap.size) := fun ad e => by
    subst e
    rcases ho with h | h
    · exact .inl h.symm
    · exact .inr (Option.some.inj h)
  have hws : wr.heap.size ≤ W1.heap.size := h.gr.size
  refine ⟨h.cs.grown hgr ?_, ownV_grown (r := none) h.o1 hgr ?_, h2, ?_, ?_, ?_, ?_, ?_⟩
  · intro x hx e
    have := (bA2 x.1 e.symm).2.2
    simp only [List.mem_cons, List.not_mem_nil, or_false] at hx
    rcases hx with rfl | rfl <;> · dsimp only at this; omega
  · intro ad e e'
    have h3 := bA2 ad.block e'.symm
    rcases (b1 ad e).1 with h4 | h4
    · cases A with
      | none => cases h4
      | some a1 =>
        cases A2 with
        | none => cases e'
        | some a2 => exact hr.ne a1 a2 rfl rfl ((Option.some.inj h4).trans (Option.some.inj e'))
    · omega
  · intro ad ad2 e e2 he
    rcases b2 ad2 e2 with h4 | h4
    · have h3 := bA2 ad2.block h4
      rcases (b1 ad e).1 with h5 | h5
      · cases A with
        | none => cases h5
        | some a1 =>
          cases A2 with
          | none => cases h4
          | some a2 => exact hr.ne a1 a2 rfl rfl ((Option.some.inj h5).trans (he.trans (Option.some.inj h4).symm))
      · omega
    · have := (b1 ad e).2
      omega
  · intro ad e hm
    rcases (b1 ad e).1 with h5 | h5
    · have h3 := bA ad.block h5
      rcases List.mem_append.1 hm with h | h
      · exact h3.2.1 h
      · rw [List.mem_singleton] at h; omega
    · have := (hgK _ hm).1; omega
  · intro ad e hm
    rcases b2 ad e with h5 | h5
    · have h3 := bA2 ad.block h5
      rcases List.mem_append.1 hm with h | h
      · exact h3.2.1 h
      · rw [List.mem_singleton] at h; omega
    · have := (hgK _ hm).1; omega
  · intro i hi
    have hik := hgK i hi
    rw [hgr.block i (by omega) ?_, h.gr.block i hik.1 ?_]
    · intro e
      have := bA i e.symm
      rcases List.mem_append.1 hi with h | h
      · exact this.2.1 h
      · rw [List.mem_singleton] at h; omega
    · intro e
      have := bA2 i e.symm
      rcases List.mem_append.1 hi with h | h
      · exact this.2.1 h
      · rw [List.mem_singleton] at h; omega
  · refine ⟨hgr.os.trans h.gr.os, hgr.tape.trans h.gr.tape, hgr.output.trans h.gr.output, Nat.le_trans hws hgr.size, fun i hi => ?_⟩
    have hE := hr.k0
    rw [hgr.block i (by omega) (fun e => by have := (bA2 i e.symm).2.2; omega), h.gr.block i (by omega) (fun e => by have := (bA i e.symm).2.2; omega)]
theorem cut_at {R : List Nat} {v k x : Nat} (h : R[k]? = some x) : ((R.take k).map (cutB v) ++ R.drop k)[k]? = some x := by
  have hk := (List.getElem?_eq_some_iff.1 h).1
  have hl : ((R.take k).map (cutB v)).length = k := by rw [List.length_map, List.length_take]; omega
  rw [List.getElem?_append_right (by omega), hl, Nat.sub_self, List.getElem?_drop, Nat.add_zero, h]
theorem cut_set {R : List Nat} {v k x : Nat} (h : R[k]? = some x) : ((R.take k).map (cutB v) ++ R.drop k).set k (cutB v x) = (R.take (k + 1)).map (cutB v) ++ R.drop (k + 1) := by
  obtain ⟨hk, he⟩ := List.getElem?_eq_some_iff.1 h
  have hl : ((R.take k).map (cutB v)).length = k := by rw [List.length_map, List.length_take]; omega
  rw [List.set_append_right _ _ (by omega), hl, Nat.sub_self, List.drop_eq_getElem_cons hk, he, List.set_cons_zero, List.take_add_one, h, List.map_append]
  simp
theorem cut_keep {R : List Nat} {v k x : Nat} (h : R[k]? = some x) (hx : cutB v x = x) : (R.take k).map (cutB v) ++ R.drop k = (R.take (k + 1)).map (cutB v) ++ R.drop (k + 1) := by
  have := cut_set (v := v) h
  rw [hx] at this
  rw [← this]
  have hc := cut_at (v := v) h
  apply List.ext_getElem?
  intro j
  by_cases hj : j = k
  · subst hj
    rw [hc, List.getElem?_set_self (List.getElem?_eq_some_iff.1 hc).1]
  · rw [List.getElem?_set_ne (fun e => hj e.symm)]
set_option maxRecDepth 100000 in
set_option maxHeartbeats 8000000 in
theorem addU_any (E K nb g t c9 : Nat) (R : List Nat) (A9 : Option Addr) (w : World) {A A2 : Option Addr} {n c c2 : Nat} {gs : List Nat} {ws : List Value} (h : EchP w E K nb R A A2 n c c2 gs ws) (hr : OwnU w (E + 1) g nb t) (hg : K ≤ g) (hgs : g < w.heap.size)
    (hpos : ∀ r ∈ R, r ≠ 0) (hR : ∀ r ∈ R, r < 2 ^ (64 * nb)) (ht : t < 2 ^ (64 * nb)) (hnb : nb ≤ 1000000) (hn : n ≤ 1000000) (hT : Deb w) (hE : 1 ≤ E) :
    Calls Tryd.prog 75 #[.pointer (some ⟨E, 0, none⟩), .slice (some ⟨g, 0, none⟩) nb nb, .slice A9 0 c9] w (RetAd E nb (addB R t) (decide (red lowB R t ≠ 0)) w) := by
  have hgsz : K ≤ w.heap.size := Nat.le_of_lt (Nat.lt_of_le_of_lt hg hgs)
  have C0 := Lib.hid (reduceU_any E K nb g (E + 1) t 0 c9 R A9 w h hr hg hgs hpos hR ht hnb hn hT hE)
  obtain ⟨v, hv⟩ : ∃ v, v = red lowB R t := ⟨_, rfl⟩
  rw [← hv] at C0
  have hvw : v < 2 ^ (64 * nb) := by rw [hv]; exact red_width hR ht
  have HA := Lib.hid (show addB R t = if v = 0 then R else R.map (cutB v) ++ [v] from by rw [hv]; rfl)
  have HH := Lib.hid h
  have HT := Lib.hid hT
  have HVW := Lib.hid hvw
  have hEK := h.k0
  have hlen : gs.length = n := by have := h.o1.len; simpa using this
  have HLn := Lib.hid hlen
  obtain ⟨X, hX⟩ : ∃ X, X = RetAd E nb (addB R t) (decide (red lowB R t ≠ 0)) w := ⟨_, rfl⟩
  have HX := Lib.hid (show X = RetAd E nb (addB R t) (decide (v ≠ 0)) w from by rw [hX, hv])
  rw [← hX]
  clear h hr hpos hR ht hT hv hvw hX hlen
  go_enter Tryd.func75, Tryd.ntmps75
  go_wp2_with fail
  refine C0.out.mono ?_
  rintro e w1 ⟨rfl, ho1, hg1, hz1⟩
  have B1 := Lib.hid (below_g hg1 hg hgsz)
  have H1 := Lib.hid (HH.out.below B1.out)
  have T1 := Lib.hid (HT.out.belowB B1.out (by omega))
  have O1 := Lib.hid ho1
  have Z1 := Lib.hid hz1
  have C1 := Lib.hid (firstU_any _ g nb v w1 ho1.rd HVW.out hnb T1.out)
  clear ho1 hg1 hz1
  by_cases hv0 : v = 0
  · have hli : lowI v = -1 := by unfold lowI; rw [if_pos hv0]
    rw [hli] at C1
    have HXX := Lib.hid (show RetAd E nb R false w (.returned (.bool false)) w1 from ⟨rfl, ⟨K, _, _, _, _, _, _, _, H1.out, Nat.le_trans hgsz B1.out.size⟩, B1.out.mono (by omega)⟩)
    have HXe := Lib.hid (show X = RetAd E nb R false w from by rw [HX.out, HA.out, if_pos hv0]; simp [hv0])
    clear hv0 hli
    go_wp2_with fail
    refine C1.out.mono ?_
    rintro e w2 ⟨rfl, h2⟩
    rw [h2]
    go_wp2_with fail
    rw [HXe.out]
    exact HXX.out
  · have hli : lowI v = ((lowB v : Nat) : Int) := by unfold lowI; rw [if_neg hv0]
    have hlow : lowB v < 64 * nb := by
      have h1 := (lowB_bit hv0).1
      rcases Nat.lt_or_ge (lowB v) (64 * nb) with h | h
      · exact h
      · rw [Nat.testBit_lt_two_pow (Nat.lt_of_lt_of_le HVW.out (Nat.pow_le_pow_right (by decide) h))] at h1; cases h1
    rw [hli] at C1
    have hn0 : 0 < nb := by omega
    have HXe := Lib.hid (show X = RetAd E nb (R.map (cutB v) ++ [v]) true w from by rw [HX.out, HA.out, if_neg hv0]; simp [hv0])
    have HCU := Lib.hid (show ∀ x, cutB v x = if x.testBit (lowB v) = true then x ^^^ v else x from fun x => rfl)
    obtain ⟨p, hp⟩ : ∃ p, p = lowB v := ⟨_, rfl⟩
    rw [← hp] at C1 hlow HCU
    clear hv0 hli hp HX
    have k0 := H1.out.cs.at_ (b := E) (o := 0) (V := .slice A n c) (by simp)
    have k1 := H1.out.cs.at_ (b := E) (o := 1) (V := .slice A2 n c2) (by simp)
    go_wp2_with fail
    refine C1.out.mono ?_
    rintro e w2 ⟨rfl, h2⟩
    rw [h2]
    have hpz : ¬ ((p : Int) < 0) := by omega
    go_wp2_with fail
    clear k0 k1 hpz
    go_loopw [23] (fun i wr => ∃ k : Nat, k ≤ n ∧ i = .int .i64 k ∧ Hid (EchP wr E K nb ((R.take k).map (cutB v) ++ R.drop k) A A2 n c c2 gs ws) ∧ Hid (OwnU wr (E + 1) g nb v) ∧ Hid (Below (E + 1) w1 wr) ∧ Hid (wr.heap.size = w1.heap.size)) (fun i _ => n - (intOf i).toNat)
    case atStart => exact ⟨0, Nat.zero_le _, rfl, by simpa using H1, O1, Lib.hid (Below.refl _ _), Lib.hid rfl⟩
    case round =>
      obtain ⟨k, hk, rfl, HE, HO, HB, HZ⟩ := hrel
      have HZ1 := Lib.hid (HZ.out.trans Z1.out)
      by_cases hlt : k < n
      · obtain ⟨ad, v1, rfl, hbl, hv1, hcx⟩ := HE.out.o1.rd.at_ hlt
        obtain ⟨gk, hgk⟩ : ∃ gk, gs[k]? = some gk := ⟨_, List.getElem?_eq_getElem (by rw [HLn.out]; exact hlt)⟩
        have hv1' := hv1.out
        rw [List.getElem?_map, hgk] at hv1'
        obtain rfl := Option.some.inj hv1'
        obtain ⟨x, hx⟩ : ∃ x, R[k]? = some x := ⟨_, List.getElem?_eq_getElem (by rw [← HH.out.len, HLn.out]; exact hlt)⟩
        have HOk := Lib.hid (HE.out.row k gk x hgk (cut_at hx))
        have hgne : gk ≠ g := by have := HE.out.k3 gk (List.mem_of_getElem? hgk); omega
        obtain ⟨ad2, v2, rfl, hb2, hv2, hcw⟩ := HE.out.o2.rd.at_ hlt
        obtain ⟨a9, d9, he9⟩ := HE.out.em v2 (List.mem_of_getElem? hv2.out)
        subst he9
        have C2 := Lib.hid (hasU_any _ gk nb x p wr HOk.out.rd hlow hnb)
        have C3 := Lib.hid (plusU_any _ _ gk g nb x v wr HOk.out HO.out.rd hgne hnb)
        have HXk := Lib.hid hx
        have HGk := Lib.hid hgk
        have HC := Lib.hid (HCU.out x)
        have k0 := HE.out.cs.at_ (b := E) (o := 0) (V := .slice (some ad) n c) (by simp)
        have k1 := HE.out.cs.at_ (b := E) (o := 1) (V := .slice (some ad2) n c2) (by simp)
        have hw9 : wr.cell? (ad2.add k) = some (.slice a9 0 d9) := hcw
        obtain ⟨q, hq⟩ : ∃ q, q = x.testBit p := ⟨_, rfl⟩
        rw [← hq] at C2 HC
        clear hx hgk hv1' hq
        cases q
        · have HE2 := Lib.hid (show EchP wr E K nb ((R.take (k + 1)).map (cutB v) ++ R.drop (k + 1)) (some ad) (some ad2) n c c2 gs ws from by rw [← cut_keep HXk.out (by rw [HC.out]; rfl)]; exact HE.out)
          go_wp2_with fail
          refine C2.out.mono ?_
          rintro e w2 ⟨rfl, rfl⟩
          go_wp2_with fail
          go_roundw
          case rel => exact ⟨k + 1, by omega, by go_num, HE2, HO, HB, HZ⟩
          case measure => simp [intOf]; omega
        · go_wp2_with fail
          refine C2.out.mono ?_
          rintro e w2 ⟨rfl, rfl⟩
          go_wp2_with fail
          refine C3.out.mono ?_
          rintro e w3 ⟨rfl, ho3, hg3, hz3⟩
          have HE3 := Lib.hid (show EchP w3 E K nb ((R.take (k + 1)).map (cutB v) ++ R.drop (k + 1)) (some ad) (some ad2) n c c2 gs ws from by
            have := HE.out.set HGk.out hg3 (y := cutB v x) (by rw [HC.out]; exact ho3) hn0
            rwa [cut_set HXk.out] at this)
          have HO3 := Lib.hid (show OwnU w3 (E + 1) g nb v from ownV_grown (r := none) HO.out hg3 (fun ad e e' => by injection e with e; subst e; injection e' with e'; exact hgne e'.symm))
          have hgk1 := (ownU_gt ho3 hn0).1
          have HB3 := Lib.hid (show Below (E + 1) w1 w3 from HB.out.trans ⟨hg3.os, hg3.tape, hg3.output, hg3.size, fun j hj => hg3.block j (by have := HE.out.k0; have := HB.out.size; have := B1.out.size; omega) (by intro e'; injection e' with e'; omega)⟩)
          have HZ3 := Lib.hid (hz3.trans HZ.out)
          have k03 := HE3.out.cs.at_ (b := E) (o := 1) (V := .slice (some ad2) n c2) (by simp)
          have hcw3 : w3.cell? (ad2.add k) = some (.slice a9 0 d9) := by
            rw [← hw9]
            exact World.cell?_of_block (hg3.block _ (by rw [block_of_add]; exact hb2) (fun e => by
              rw [block_of_add] at e
              injection e with e
              exact HE.out.na2 ad2 rfl (by rw [e]; exact List.mem_of_getElem? HGk.out)))
          have C4 := Lib.hid (plus0_any a9 A9 0 d9 c9 w3)
          clear ho3 hg3 hz3 hgk1
          go_wp2_with fail
          refine C4.out.mono ?_
          rintro e w4 ⟨rfl, rfl⟩
          go_wp2_with fail
          go_roundw
          case rel => exact ⟨k + 1, by omega, by go_num, HE3, HO3, HB3, HZ3⟩
          case measure => simp [intOf]; omega
      · have HKn := Lib.hid (show k = n from by omega)
        have HE2 := Lib.hid (show EchP wr E K nb (R.map (cutB v)) A A2 n c c2 gs ws from by
          have := HE.out
          rw [HKn.out, List.take_of_length_le (by rw [← HH.out.len, HLn.out]; exact Nat.le_refl _), List.drop_of_length_le (by rw [← HH.out.len, HLn.out]; exact Nat.le_refl _), List.append_nil] at this
          exact this)
        have hnk : ¬ ((k : Int) < (n : Int)) := by omega
        clear HE
        have k0 := HE2.out.cs.at_ (b := E) (o := 0) (V := .slice A n c) (by simp)
        have k1 := HE2.out.cs.at_ (b := E) (o := 1) (V := .slice A2 n c2) (by simp)
        have f0 := HE2.out.cs.fr (b := E) (o := 0) (V := .slice A n c) (by simp)
        have f1 := HE2.out.cs.fr (b := E) (o := 1) (V := .slice A2 n c2) (by simp)
        have ONE1 := Lib.hid (show ∀ u ∈ [rowV nb g], u.oneCell' = true from fun u hu => by rw [List.mem_singleton.1 hu]; rfl)
        have ONE2 := Lib.hid (show ∀ u ∈ [Value.slice A9 0 c9], u.oneCell' = true from fun u hu => by rw [List.mem_singleton.1 hu]; rfl)
        have E1s := Lib.hid (show E + 1 ≤ wr.heap.size by rw [HZ1.out]; omega)
        have hn1 : n + 1 ≤ 4000000000000 := by omega
        have bb : (24 : Nat) ≤ 24 := by decide
        have BWE := Lib.hid (show Below E w wr from (B1.out.mono (Nat.le_of_lt hEK)).trans (HB.out.mono (Nat.le_succ E)))
        have hEwr : E < wr.heap.size := by rw [HZ1.out]; omega
        have hgwr : g < wr.heap.size := by rw [HZ1.out]; exact hgs
        have hKwr : K ≤ wr.heap.size := by rw [HZ1.out]; exact hgsz
        have Bd1 := Lib.hid (below_dr (below_al (Below.refl wr.heap.size wr) (Nat.le_refl _) (.cells #[rowV nb g] 59)))
        have Bd2 := Lib.hid (below_dr (below_al (below_al (Below.refl wr.heap.size wr) (Nat.le_refl _) (.cells #[rowV nb g] 59)) (Nat.le_refl _) (.cells #[.slice A9 0 c9] 59)))
        have Bd3 := Lib.hid (below_dr (below_al (below_al (Below.refl wr.heap.size wr) (Nat.le_refl _) (.cells #[.slice A9 0 c9] 59)) (Nat.le_refl _) (.cells #[rowV nb g] 59)))
        have RD1 := Lib.hid (rdv_cl (cl_dr (cl_new wr (rowV nb g) 59)))
        have RD2 := Lib.hid (rdv_cl (cl_dr (cl_al (cl_new wr (rowV nb g) 59) (.cells #[.slice A9 0 c9] 59))))
        have RD3 := Lib.hid (rdv_cl (cl_dr (cl_new2 wr (.cells #[.slice A9 0 c9] 59) (rowV nb g) 59)))
        have LC2 := Lib.hid (cl_dr (cl_new2 wr (.cells #[rowV nb g] 59) (.slice A9 0 c9) 59))
        have LC3 := Lib.hid (cl_dr (cl_al (cl_new wr (.slice A9 0 c9) 59) (.cells #[rowV nb g] 59)))
        have KC := Lib.hid (show ∀ W, Below wr.heap.size wr W → W.cell? ⟨E, 0, none⟩ = some (.slice A n c) ∧ W.cell? ⟨E, 1, none⟩ = some (.slice A2 n c2) from fun W hb => ⟨(hb.cell (p := ⟨E, 0, none⟩) hEwr).trans k0, (hb.cell (p := ⟨E, 1, none⟩) hEwr).trans k1⟩)
        have OWK := Lib.hid (show ∀ H, wr.heap.size ≤ H → Value.ownBlock (.slice A n c) ≠ some H from fun H hH e => by
          cases A with
          | none => cases e
          | some ad =>
            have := HE2.out.k1 ad rfl
            obtain rfl : ad.block = H := Option.some.inj e
            omega)
        have hgE := Lib.hid (show ∀ x ∈ gs, E < x from fun x hx => by
          obtain ⟨j, hj⟩ := List.mem_iff_getElem?.1 hx
          obtain ⟨y, hy⟩ : ∃ y, (R.map (cutB v))[j]? = some y := ⟨_, List.getElem?_eq_getElem (by rw [← HE2.out.len]; exact (List.getElem?_eq_some_iff.1 hj).1)⟩
          exact (ownU_gt (HE2.out.row j x y hj hy) hn0).1)
        have hEg := Lib.hid (show E < g from (ownU_gt HO.out hn0).1)
        have ka1 := KC.out _ Bd1.out
        have ka2 := KC.out _ Bd2.out
        have ka3 := KC.out _ Bd3.out
        have ka4 := KC.out _ (below_dr (below_al (Below.refl wr.heap.size wr) (Nat.le_refl _) (.cells #[.slice A9 0 c9] 59)))
        obtain ⟨ka10, ka11⟩ := ka1
        obtain ⟨ka20, ka21⟩ := ka2
        obtain ⟨ka30, ka31⟩ := ka3
        obtain ⟨ka40, ka41⟩ := ka4
        go_upto_region 12 with fail
        go_region_law
          (first
            | (first
                | (refine step_appV eltRow (by rfl) (.tmp 49) (.tmp 51) (by rfl) (by rfl) (by rfl) (HE2.out.o1.below Bd1.out) RD1.out ONE1.out hn1 bb (Nat.le_trans E1s.out Bd1.out.size) ?_
                   intro A' c' w5 h1 hg1 hr1
                   have N5 := Lib.hid (EchN.mk' HE2.out Bd1.out h1 hg1 hr1)
                   have LN5 := Lib.hid (cl_new w5 (.slice A9 0 c9) 59)
                   clear h1 hg1 hr1)
                | (refine step_appV eltRow (by rfl) (.tmp 49) (.tmp 51) (by rfl) (by rfl) (by rfl) (HE2.out.o1.below Bd2.out) RD2.out ONE1.out hn1 bb (Nat.le_trans E1s.out Bd2.out.size) ?_
                   intro A' c' w5 h1 hg1 hr1
                   have N5 := Lib.hid (EchN.mk' HE2.out Bd2.out h1 hg1 hr1)
                   have LO5 := Lib.hid (cl_grown hg1 LC2.out (OWK.out _ (Nat.le_succ _)))
                   clear h1 hg1 hr1)
                | (refine step_appV eltRow (by rfl) (.tmp 49) (.tmp 51) (by rfl) (by rfl) (by rfl) (HE2.out.o1.below Bd3.out) RD3.out ONE1.out hn1 bb (Nat.le_trans E1s.out Bd3.out.size) ?_
                   intro A' c' w5 h1 hg1 hr1
                   have N5 := Lib.hid (EchN.mk' HE2.out Bd3.out h1 hg1 hr1)
                   have LO5 := Lib.hid (cl_grown hg1 LC3.out (OWK.out _ (Nat.le_refl _)))
                   clear h1 hg1 hr1)
               have k10 := N5.out.cs.at_ (b := E) (o := 0) (V := .slice A n c) (by simp)
               have k11 := N5.out.cs.at_ (b := E) (o := 1) (V := .slice A2 n c2) (by simp)
               have N6 := Lib.hid (N5.out.below (below_al (Below.refl w5.heap.size w5) (Nat.le_refl _) (.cells #[.slice A9 0 c9] 59)))
               have k20 := N6.out.cs.at_ (b := E) (o := 0) (V := .slice A n c) (by simp)
               have k21 := N6.out.cs.at_ (b := E) (o := 1) (V := .slice A2 n c2) (by simp)
               have s5 := Lib.hid (Nat.le_trans E1s.out N5.out.gr.size)
               have s6 := Lib.hid (Nat.le_trans E1s.out N6.out.gr.size))
            | (first
                | (refine step_appV eltRow (by rfl) (.tmp 56) (.tmp 58) (by rfl) (by rfl) (by rfl) (N5.out.second HE2.out) (rdv_cl LO5.out) ONE2.out hn1 bb s5.out ?_
                   intro A2' c2' w7 h1 hg1 hr1
                   have M7 := Lib.hid (EchM.mk' N5.out HE2.out hg hgwr h1 hg1 hr1 hgE.out hEg.out)
                   clear h1 hg1 hr1)
                | (refine step_appV eltRow (by rfl) (.tmp 56) (.tmp 58) (by rfl) (by rfl) (by rfl) (N6.out.second HE2.out) (rdv_cl LN5.out) ONE2.out hn1 bb s6.out ?_
                   intro A2' c2' w7 h1 hg1 hr1
                   have M7 := Lib.hid (EchM.mk' N6.out HE2.out hg hgwr h1 hg1 hr1 hgE.out hEg.out)
                   clear h1 hg1 hr1)
               have k30 := M7.out.cs.at_ (b := E) (o := 0) (V := .slice A n c) (by simp)
               have k31 := M7.out.cs.at_ (b := E) (o := 1) (V := .slice A2 n c2) (by simp)
               have f30 := M7.out.cs.fr (b := E) (o := 0) (V := .slice A n c) (by simp)
               have f31 := M7.out.cs.fr (b := E) (o := 1) (V := .slice A2 n c2) (by simp)))
        all_goals
          have FIN := Lib.hid (M7.out.two HE2.out HO.out hg hgwr hEwr hn0 BWE.out)
          clear k0 k1 ka10 ka11 ka20 ka21 ka30 ka31 ka40 ka41 k10 k11 k20 k21 k30 k31 f0 f1 f30 f31
          go_wp2_with fail
          rw [HXe.out]
          first | exact FIN.out.1 | exact FIN.out.2
end Go.Proofs.YtdgcgcodjddddaaDoor
