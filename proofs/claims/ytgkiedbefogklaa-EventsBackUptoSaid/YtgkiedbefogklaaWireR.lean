/- What is proved: what the function that ReadEvents hands to caught answers, or how it panics; conditions: those typed. -/
import Derived.Test.YtgkiedbefogklaaWireQ
set_option linter.unusedSimpArgs false
set_option linter.unusedVariables false
namespace Go.Proofs.Ytgkiedbefogklaa
open Go.RowKit
set_option maxRecDepth 100000
set_option maxHeartbeats 8000000
section
variable {P : Program} {D : List PanicEntry → World → Prop} {ops : Array Oper} {I : Gh → World → Prop} {K : Act → Gh → Prop} {i : Nat} {o : Oper} {r : List Oper} {ss : List Ef} {a : Act} {γ : Gh}
theorem SeqG.callPE (use : List Nat) (res : Option Nat) (link : Gh → Value → Option (Nat × Obj) → Prop) (f : FuncId) (args : Array Value) (hlk : ∀ γ', Gh.agree use γ γ' → link γ' = link γ) (hw : Region.wanted o (yielded ops a.tmps) = true) (he : ∀ w, (execOp a.eval o).run P w = .ok (.enter f args) w) (hne : ∃ v x, link γ v x)
    (h : ∀ γ' w, Gh.agree use γ γ' → I γ' w → Calls P f args w fun e w' => (∃ v x, e = .returned v ∧ link γ v x ∧ I (γ'.set res x) w') ∨ ∃ c, e = .panicked c ∧ D c w') (k : ∀ v x, link γ v x → SeqG P D ops I K (i + 1) r ss (a.put o.dst v) (γ.set res x)) : SeqG P D ops I K i (o :: r) (.eff use res link :: ss) a γ :=
  ⟨⟨hlk, hw, hne, by
    intro γ' w hg hI
    unfold ResP
    rw [he w]
    refine (h γ' w hg hI).mono ?_
    rintro e w' (⟨v, x, rfl, h1, h2⟩ | h1)
    · exact .inl ⟨v, rfl, x, h1, h2⟩
    · exact .inr h1⟩, k⟩
theorem SeqG.valE (use : List Nat) (res : Option Nat) (link : Gh → Value → Option (Nat × Obj) → Prop) (hlk : ∀ γ', Gh.agree use γ γ' → link γ' = link γ) (hw : Region.wanted o (yielded ops a.tmps) = true) (hne : ∃ v x, link γ v x)
    (h : ∀ γ' w, Gh.agree use γ γ' → I γ' w → ∃ v x w', (execOp a.eval o).run P w = .ok (.value v) w' ∧ link γ v x ∧ I (γ'.set res x) w') (k : ∀ v x, link γ v x → SeqG P D ops I K (i + 1) r ss (a.put o.dst v) (γ.set res x)) : SeqG P D ops I K i (o :: r) (.eff use res link :: ss) a γ :=
  ⟨⟨hlk, hw, hne, by
    intro γ' w hg hI
    obtain ⟨v, x, w', hr, h1, h2⟩ := h γ' w hg hI
    unfold ResP
    rw [hr]
    exact ⟨x, h1, h2⟩⟩, k⟩
theorem SeqG.skipE (use : List Nat) (res : Option Nat) (link : Gh → Value → Option (Nat × Obj) → Prop) (hlk : ∀ γ', Gh.agree use γ γ' → link γ' = link γ) (hw : Region.wanted o (yielded ops a.tmps) = true) (hne : ∃ v x, link γ v x)
    (h : ∀ γ' w, Gh.agree use γ γ' → I γ' w → ∃ x w', (execOp a.eval o).run P w = .ok .skip w' ∧ link γ undef x ∧ I (γ'.set res x) w') (k : ∀ v x, link γ v x → SeqG P D ops I K (i + 1) r ss (a.put o.dst v) (γ.set res x)) : SeqG P D ops I K i (o :: r) (.eff use res link :: ss) a γ :=
  ⟨⟨hlk, hw, hne, by
    intro γ' w hg hI
    obtain ⟨x, w', hr, h1, h2⟩ := h γ' w hg hI
    unfold ResP
    rw [hr]
    exact ⟨x, h1, h2⟩⟩, k⟩
end
def gst (n : Nat) (cs : Array Value) : Option (Nat × Obj) := some (n, .cells cs 0 (0, 0))
def gv (i : Nat) : Option (Nat × Obj) → Value
  | some (_, .cells cs _ _) => cs.getD i undef
  | _ => undef
theorem gv_gst (i n : Nat) (cs : Array Value) : gv i (gst n cs) = cs.getD i undef := rfl
/-- What the list's variable holds. -/
def XC (X : Nat) (L : Value) (y : Option (Nat × Obj)) (W : World) : Prop :=
  match y with
  | some (_, .cells cs _ _) => W.heap[X]? = some (.cells #[cs.getD 0 undef] 22 (0, 0))
  | _ => W.heap[X]? = some (.cells #[L] 22 (0, 0))
theorem XC.keep {X : Nat} {L : Value} {y : Option (Nat × Obj)} {W W' : World} (h : XC X L y W) (hk : W'.heap[X]? = W.heap[X]?) : XC X L y W' := by
  unfold XC at h ⊢
  split at h
  · exact hk.trans h
  · exact hk.trans h
/-- Stages of a round. -/
def SG (Bv base : Nat) (b b2 : List Int) (e : Event) (L : Value) (P : List HE) (x : Option (Nat × Obj)) (W : World) : Prop :=
  match x with
  | some (n, .cells cs _ _) =>
    if n = 0 then Rd W Bv b ∧ OwE W base L P
    else if n = 1 then (evT b).1 = 0 ∧ Rd W Bv b2 ∧ OwE W base L P ∧ EvP W base ⟨e, cs.getD 0 undef⟩ ∧ ∀ q ∈ P, Apart q ⟨e, cs.getD 0 undef⟩
    else if n = 2 then (evT b).1 = 0 ∧ Rd W Bv b2 ∧ OwE W base L P ∧ EvP W base ⟨e, cs.getD 0 undef⟩ ∧ (∀ q ∈ P, Apart q ⟨e, cs.getD 0 undef⟩) ∧ ∃ Y, cs.getD 1 undef = .slice (some ⟨Y, 0, none⟩) 1 1 ∧ W.heap[Y]? = some (.cells (erow ⟨e, cs.getD 0 undef⟩) 48 (0, 0))
    else (evT b).1 = 0 ∧ Rd W Bv b2 ∧ OwE W base (cs.getD 1 undef) (P ++ [⟨e, cs.getD 0 undef⟩])
  | _ => False
def LE (w2 : World) (Bv X base : Nat) (b b2 : List Int) (e : Event) (L : Value) (P : List HE) (γ : Gh) (W : World) : Prop :=
  Inv w2 (fun g => g = Bv ∨ g = X) gh0 W ∧ XC X L (γ 1) W ∧ SG Bv base b b2 e L P (γ 0) W
def DL (w2 : World) (Bv X : Nat) (b : List Int) (c : List PanicEntry) (W : World) : Prop := (evT b).1 ≠ 0 ∧ c = panE (evT b).1 ∧ Inv w2 (fun g => g = Bv ∨ g = X) gh0 W
section
variable {w2 W W' : World} {Bv X base : Nat} {b b2 : List Int} {e : Event} {L : Value} {P : List HE} {γ : Gh}
theorem Inv.more {S : Nat → Prop} (h : Inv w2 S gh0 W) {x : Option Nat} (hg : W.grownBy W' x) (hS : ∀ g, x = some g → g < w2.heap.size → S g) : Inv w2 S gh0 W' :=
  h.then (Inv.ofGrown (S := fun g => x = some g) hg (fun g hg => hg)) (fun g hg hl => hS g hg hl)
theorem le_call (hb : evT b = ((evT b).1, e, b2)) (hX : X < w2.heap.size) (hXB : X ≠ Bv) (hbase : base = w2.heap.size) (hBw : Bv < w2.heap.size) (h0 : γ 0 = gst 0 #[]) (h : LE w2 Bv X base b b2 e L P γ W) :
    Calls Try.prog 41 #[.agg #[fun1 Bv, fun2 Bv, fun3 Bv]] W fun r w' => (∃ v x, r = .returned v ∧ (∃ A n c, v = .agg (erow ⟨e, .slice A n c⟩) ∧ x = gst 1 #[.slice A n c]) ∧ LE w2 Bv X base b b2 e L P (γ.set (some 0) x) w') ∨ ∃ c, r = .panicked c ∧ DL w2 Bv X b c w' := by
  obtain ⟨h1, h2, h3⟩ := h
  rw [h0] at h3
  obtain ⟨h4, h5⟩ : Rd W Bv b ∧ OwE W base L P := h3
  have hsz := h1.size
  refine (event_any Bv b W h4).mono ?_
  rintro r w' (⟨g0, u, rfl, g1, g2, g3⟩ | ⟨g0, rfl, g3⟩)
  · rw [hb] at g1 g2 ⊢
    dsimp only at g1 g2 ⊢
    obtain ⟨A, n, c, rfl⟩ := g1.own.form
    refine .inl ⟨_, gst 1 #[.slice A n c], rfl, ⟨A, n, c, rfl, rfl⟩, h1.more g3 (fun g hg _ => .inl (Option.some.inj hg).symm), ?_, ?_⟩
    · rw [Gh.set_far _ _ (by decide)]
      exact h2.keep (g3.block X (by omega) (fun e => hXB (Option.some.inj e)))
    · rw [Gh.set_here]
      exact ⟨g0, g2, h5.keep (fun q hq hl => g3.block q hl (fun e => by have := Option.some.inj e; omega)), g1.mono (by omega), h5.fresh g1 (Nat.le_refl _)⟩
  · exact .inr ⟨_, rfl, g0, rfl, h1.more g3 (fun g hg _ => .inl (Option.some.inj hg).symm)⟩
theorem le_new {u : Value} (hX : X < w2.heap.size) (h0 : γ 0 = gst 1 #[u]) (h : LE w2 Bv X base b b2 e L P γ W) (hBw : Bv < w2.heap.size) :
    LE w2 Bv X base b b2 e L P (γ.set (some 0) (gst 2 #[u, .slice (some ⟨W.heap.size, 0, none⟩) 1 1])) (W.alloc (.cells (erow ⟨e, u⟩) 48)) := by
  obtain ⟨h1, h2, h3⟩ := h
  rw [h0] at h3
  obtain ⟨g0, h4, h5, h6, h8⟩ : (evT b).1 = 0 ∧ Rd W Bv b2 ∧ OwE W base L P ∧ EvP W base ⟨e, u⟩ ∧ ∀ q ∈ P, Apart q ⟨e, u⟩ := h3
  have hb : Below W.heap.size W (W.alloc (.cells (erow ⟨e, u⟩) 48)) := Below.alloc (Below.refl _ _) (Nat.le_refl _) _
  have hsz := h1.size
  refine ⟨h1.more (grown_of_below (x := none) hb) (fun g hg _ => by cases hg), ?_, ?_⟩
  · rw [Gh.set_far _ _ (by decide)]
    exact h2.keep (hb.block X (by omega))
  · rw [Gh.set_here]
    exact ⟨g0, h4.below hb, h5.below hb, h6.below hb, h8, _, rfl, heap_alloc_last _ _⟩
theorem le_app {u : Value} {Y : Nat} {o : Oper} {a : Act} {s x : Operand} (ho : o.op = .call { callee := .builtin .append, args := #[s, x], argTypes := #[22, 22] }) (hs : a.eval s = L) (hx : a.eval x = .slice (some ⟨Y, 0, none⟩) 1 1)
    (hX : X < w2.heap.size) (hbase : base = w2.heap.size) (hBw : Bv < w2.heap.size) (hl : P.length ≤ 1000000) (h0 : γ 0 = gst 2 #[u, .slice (some ⟨Y, 0, none⟩) 1 1]) (h : LE w2 Bv X base b b2 e L P γ W) :
    ∃ v y w', (execOp a.eval o).run Try.prog W = .ok (.value v) w' ∧ (∃ A n c, v = .slice A n c ∧ y = gst 3 #[u, .slice A n c]) ∧ LE w2 Bv X base b b2 e L P (γ.set (some 0) y) w' := by
  obtain ⟨h1, h2, h3⟩ := h
  rw [h0] at h3
  obtain ⟨g0, h4, h5, h6, h8, Y', e1, h7⟩ : (evT b).1 = 0 ∧ Rd W Bv b2 ∧ OwE W base L P ∧ EvP W base ⟨e, u⟩ ∧ (∀ q ∈ P, Apart q ⟨e, u⟩) ∧ ∃ Y', Value.slice (some ⟨Y, 0, none⟩) 1 1 = .slice (some ⟨Y', 0, none⟩) 1 1 ∧ W.heap[Y']? = some (.cells (erow ⟨e, u⟩) 48 (0, 0)) := h3
  have e2 : Y = Y' := by simpa using e1
  subst e2
  have hsz := h1.size
  obtain ⟨v', w', g1, g2, g3, g4⟩ := exec_appE (o := o) ho hs hx h5 h7 h6 h8 (by omega) (by omega)
  obtain ⟨A, c, rfl⟩ := g2.form
  have hown : ∀ q, L.ownBlock = some q → w2.heap.size ≤ q := fun q hq => by rw [← hbase]; exact (own_typed h5.row hq).1
  refine ⟨_, _, w', g1, ⟨A, _, c, rfl, rfl⟩, h1.more g3 (fun g hg hl => by have := hown g hg; omega), ?_, ?_⟩
  · rw [Gh.set_far _ _ (by decide)]
    exact h2.keep (g3.block X (by omega) (fun e => by have := hown X e.symm; omega))
  · rw [Gh.set_here]
    exact ⟨g0, h4.low (fun g hg => g3.block g (by omega) (fun e => by have := hown g e.symm; omega)), g2⟩
theorem st_evs (A : Option Addr) (n c : Nat) (W : World) (a : Addr) (h1 : (W.cell? a).isSome = true) (h2 : W.frozen? a = false) : (Instr.storeAt 22 (.pointer (some a)) (.slice A n c)).run Try.prog W = .ok () (W.setCell a (.slice A n c)) := by
  obtain ⟨u, hu⟩ := Option.isSome_iff_exists.1 h1
  go_simp
theorem Rd.farX {bs : List Int} {t : TypeId} (h : Rd W Bv bs) (hX : W.heap[X]? = some (.cells #[L] t (0, 0))) (hL : ∃ A n c, L = .slice A n c) (hne : X ≠ Bv) (hk : ∀ g, g ≠ X → W'.heap[g]? = W.heap[g]?) : Rd W' Bv bs := by
  obtain ⟨v, hv, hb, hn1⟩ := h
  obtain ⟨A0, n0, c0, rfl⟩ := hL
  refine ⟨v, (hk Bv (fun e => hne e.symm)).trans hv, hb.keep fun b hn hvb hl => hk b (fun e => ?_), hn1⟩
  subst e
  obtain ⟨_, _, A, c, rfl, hr, _⟩ := hb
  obtain ⟨b', off, rfl, hc⟩ := hr.2 hn
  obtain rfl : b' = b := by simpa [Value.ownBlock] using hvb
  have := hc 0 hn
  rw [cell_of_row _ _ _ _ _ _ hX] at this
  match off, this with
  | 0, this => simp at this
  | n + 1, this => simp at this
theorem le_store {u v : Value} {o : Oper} {a : Act} {s x : Operand} (ho : o.op = .store 22 s x) (hs : a.eval s = .pointer (some ⟨X, 0, none⟩)) {A : Option Addr} {n c : Nat} (hv : v = .slice A n c) (hL : ∃ A n c, L = .slice A n c) (hx : a.eval x = v)
    (hX : X < w2.heap.size) (hbase : base = w2.heap.size) (hXB : X ≠ Bv) (h0 : γ 0 = gst 3 #[u, v]) (h1 : γ 1 = none) (h : LE w2 Bv X base b b2 e L P γ W) :
    ∃ y w', (execOp a.eval o).run Try.prog W = .ok .skip w' ∧ (undef = undef ∧ y = gst 4 #[v]) ∧ LE w2 Bv X base b b2 e L P (γ.set (some 1) y) w' := by
  obtain ⟨k1, k2, k3⟩ := h
  subst hv
  rw [h0] at k3
  rw [h1] at k2
  obtain ⟨g0, h4, h5⟩ : (evT b).1 = 0 ∧ Rd W Bv b2 ∧ OwE W base (.slice A n c) (P ++ [HE.mk e u]) := k3
  have hXc : W.heap[X]? = some (.cells #[L] 22 (0, 0)) := k2
  obtain ⟨w', r1, r2⟩ := exec_st1 (o := o) (a := a) (st_evs A n c) ho hs hx (by simp) (row' := #[.slice A n c]) (by simp) hXc
  have hg : W.grownBy w' (some X) := ⟨r2.os, r2.tape, r2.output, by rw [r2.size]; exact Nat.le_refl _, fun g _ hg => r2.far g (fun e => hg (by rw [e]))⟩
  refine ⟨_, w', r1, ⟨rfl, rfl⟩, k1.more hg (fun g hg _ => .inr (Option.some.inj hg).symm), ?_, ?_⟩
  · rw [Gh.set_here]
    exact r2.here
  · rw [Gh.set_far _ _ (by decide), h0]
    exact ⟨g0, h4.farX hXc hL hXB r2.far, h5.keep fun q hq hl => r2.far q (by omega)⟩
end
end Go.Proofs.Ytgkiedbefogklaa
