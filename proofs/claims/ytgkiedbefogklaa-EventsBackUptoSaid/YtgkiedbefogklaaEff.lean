/- What is proved: the steps of regions that make, write and grow memory, for the text OrderEff: a new block, a store, an append, a call that hands over new memory; no condition beyond those typed. -/
import Derived.Test.YtgkiedbefogklaaOrderEff
import Derived.Maps.AppendAt
set_option linter.unusedSimpArgs false
set_option linter.unusedVariables false
namespace Go.Proofs.Ytgkiedbefogklaa
open Go.RowKit
set_option maxRecDepth 100000
/-- The world since w0: blocks of S may have turned, the ghost tells what its resources hold. -/
structure Inv (w0 : World) (S : Nat → Prop) (γ : Gh) (w : World) : Prop where
  os : w.os = w0.os
  tape : w.tape = w0.tape
  output : w.output = w0.output
  size : w0.heap.size ≤ w.heap.size
  far : ∀ g, g < w0.heap.size → ¬ S g → w.heap[g]? = w0.heap[g]?
  here : ∀ t g o, γ t = some (g, o) → w.heap[g]? = some o ∧ (g < w0.heap.size → S g)
  apart : ∀ t t' g g' o o', γ t = some (g, o) → γ t' = some (g', o') → t ≠ t' → g ≠ g'
section
variable {w0 w w' : World} {S : Nat → Prop} {γ : Gh}
theorem Inv.start (w0 : World) (S : Nat → Prop) (γ : Gh) (h : ∀ t g o, γ t = some (g, o) → w0.heap[g]? = some o ∧ S g) (ha : ∀ t t' g g' o o', γ t = some (g, o) → γ t' = some (g', o') → t ≠ t' → g ≠ g') : Inv w0 S γ w0.drew :=
  ⟨rfl, rfl, rfl, Nat.le_refl _, fun _ _ _ => rfl, fun t g o ht => ⟨(h t g o ht).1, fun _ => (h t g o ht).2⟩, ha⟩
theorem Inv.below (h : Inv w0 S γ w) (hb : Below w.heap.size w w') : Inv w0 S γ w' :=
  ⟨hb.os.trans h.os, hb.tape.trans h.tape, hb.output.trans h.output, Nat.le_trans h.size hb.size, fun g hg hs => (hb.block g (Nat.lt_of_lt_of_le hg h.size)).trans (h.far g hg hs),
    fun t g o ht => ⟨(hb.block g (lt_of_heap (h.here t g o ht).1)).trans (h.here t g o ht).1, (h.here t g o ht).2⟩, h.apart⟩
/-- One resource turns: written in place, grown into a new block, or made. -/
theorem Inv.grown (h : Inv w0 S γ w) {row : Option Nat} (hg : w.grownBy w' row) (r : Nat) (hrow : ∀ g, row = some g → ∃ o, γ r = some (g, o)) {g : Nat} {o : Obj} (ho : w'.heap[g]? = some o) (hw : row = some g ∨ w.heap.size ≤ g) :
    Inv w0 S (γ.set (some r) (some (g, o))) w' := by
  have hS : g < w0.heap.size → S g := fun hlt => by
    rcases hw with hw | hw
    · obtain ⟨o', h1⟩ := hrow g hw
      exact (h.here r g o' h1).2 hlt
    · have := h.size; omega
  refine ⟨hg.os.trans h.os, hg.tape.trans h.tape, hg.output.trans h.output, Nat.le_trans h.size hg.size, fun k hk hs => ?_, fun t k ob ht => ?_, fun t t' k k' ob ob' ht ht' hne => ?_⟩
  · refine (hg.block k (Nat.lt_of_lt_of_le hk h.size) fun e => ?_).trans (h.far k hk hs)
    obtain ⟨o', h1⟩ := hrow k e.symm
    exact hs ((h.here r k o' h1).2 hk)
  · unfold Gh.set at ht
    split at ht
    · simp only [Option.some.injEq, Prod.mk.injEq] at ht
      obtain ⟨rfl, rfl⟩ := ht
      exact ⟨ho, hS⟩
    · rename_i e
      obtain ⟨h1, h2⟩ := h.here t k ob ht
      refine ⟨(hg.block k (lt_of_heap h1) fun e2 => ?_).trans h1, h2⟩
      obtain ⟨o', h3⟩ := hrow k e2.symm
      exact h.apart t r k k ob o' ht h3 (fun e3 => e (by rw [e3])) rfl
  · have fresh : ∀ q kq oq, q ≠ r → γ q = some (kq, oq) → g ≠ kq := fun q kq oq hq hk => by
      rcases hw with hw | hw
      · obtain ⟨o', h1⟩ := hrow g hw
        exact fun e => h.apart q r kq g oq o' hk h1 hq e.symm
      · have := lt_of_heap (h.here q kq oq hk).1
        omega
    unfold Gh.set at ht ht'
    split at ht
    · rename_i e
      rw [if_neg (fun e' => hne ((Option.some.inj e).trans (Option.some.inj e').symm))] at ht'
      simp only [Option.some.injEq, Prod.mk.injEq] at ht
      obtain ⟨rfl, rfl⟩ := ht
      exact fresh t' k' ob' (fun e' => hne ((Option.some.inj e).trans e'.symm)) ht'
    · rename_i e
      split at ht'
      · simp only [Option.some.injEq, Prod.mk.injEq] at ht'
        obtain ⟨rfl, rfl⟩ := ht'
        exact fun e' => fresh t k ob (fun e2 => e (by rw [e2])) ht e'.symm
      · exact h.apart t t' k k' ob ob' ht ht' hne
theorem Inv.free (h : Inv w0 S γ w) (r : Nat) : Inv w0 S (γ.set (some r) none) w := by
  refine ⟨h.os, h.tape, h.output, h.size, h.far, fun t g o ht => ?_, fun t t' g g' o o' ht ht' hne => ?_⟩
  · unfold Gh.set at ht
    split at ht
    · cases ht
    · exact h.here t g o ht
  · unfold Gh.set at ht ht'
    split at ht
    · cases ht
    · split at ht'
      · cases ht'
      · exact h.apart t t' g g' o o' ht ht' hne
theorem Gh.set_here (γ : Gh) (r : Nat) (x : Option (Nat × Obj)) : (γ.set (some r) x) r = x := if_pos rfl
theorem Gh.set_far (γ : Gh) {r t : Nat} (x : Option (Nat × Obj)) (h : t ≠ r) : (γ.set (some r) x) t = γ t := if_neg (fun e => h (Option.some.inj e))
def gh2 (x0 x1 : Option (Nat × Obj)) : Gh := fun t => if t = 0 then x0 else if t = 1 then x1 else none
theorem gh2_0 (x0 x1 : Option (Nat × Obj)) : gh2 x0 x1 0 = x0 := rfl
theorem gh2_1 (x0 x1 : Option (Nat × Obj)) : gh2 x0 x1 1 = x1 := rfl
theorem Inv.start2 {N : Nat} {o0 : Obj} {x1 : Option (Nat × Obj)} (h0 : w0.heap[N]? = some o0) (hN : S N) (h1 : ∀ g o, x1 = some (g, o) → w0.heap[g]? = some o ∧ g ≠ N ∧ S g) : Inv w0 S (gh2 (some (N, o0)) x1) w0.drew := by
  refine Inv.start w0 S _ (fun t g ob ht => ?_) (fun t t' g g' ob ob' ht ht' hne => ?_)
  · unfold gh2 at ht
    split at ht
    · simp only [Option.some.injEq, Prod.mk.injEq] at ht
      obtain ⟨rfl, rfl⟩ := ht
      exact ⟨h0, hN⟩
    · split at ht
      · exact ⟨(h1 g ob ht).1, (h1 g ob ht).2.2⟩
      · cases ht
  · unfold gh2 at ht ht'
    split at ht
    · rename_i e0
      rw [if_neg (fun e => hne (e0.trans e.symm))] at ht'
      simp only [Option.some.injEq, Prod.mk.injEq] at ht
      split at ht'
      · rw [← ht.1]
        exact fun e => (h1 g' ob' ht').2.1 e.symm
      · cases ht'
    · split at ht
      · rename_i e1
        split at ht'
        · simp only [Option.some.injEq, Prod.mk.injEq] at ht'
          rw [← ht'.1]
          exact (h1 g ob ht).2.1
        · rw [if_neg (fun e => hne (e1.trans e.symm))] at ht'
          cases ht'
      · cases ht
/-- What slice a resource holds. -/
def rowVal (size n : Nat) : Option (Nat × Obj) → Value
  | some (g, .cells cur _ _) => .slice (some ⟨g, 0, none⟩) n (cur.size / size)
  | _ => .slice none 0 0
/-- A slice that the call has made, with the block that holds it. -/
def OwX (e : TypeId) (size : Nat) (v : Value) (x : Option (Nat × Obj)) (n : Nat) (xs : List Value) : Prop :=
  xs.length = n * size ∧ ((v = .slice none 0 0 ∧ n = 0 ∧ x = none) ∨ ∃ g cap cur, v = .slice (some ⟨g, 0, none⟩) n cap ∧ x = some (g, .cells cur e (0, 0)) ∧ n ≤ cap ∧ cap ≤ maxLen ∧ cur.size = cap * size ∧ cur.toList.take (n * size) = xs)
variable {e : TypeId} {size n base : Nat} {v : Value} {x : Option (Nat × Obj)} {xs : List Value}
theorem OwX.val (h : OwX e size v x n xs) (hs : 0 < size) : v = rowVal size n x := by
  obtain ⟨_, ⟨h1, h2, h3⟩ | ⟨g, cap, cur, h1, h2, _, _, h3, _⟩⟩ := h
  · rw [h3]; exact h1
  · rw [h2]
    show v = .slice (some ⟨g, 0, none⟩) n (cur.size / size)
    rw [h1, h3, Nat.mul_div_cancel _ hs]
theorem OwX.form (h : OwX e size (rowVal size n x) x n xs) : ∃ A cap, rowVal size n x = .slice A n cap := by
  obtain ⟨_, ⟨h1, h2, h3⟩ | ⟨g, cap, cur, h1, h2, _⟩⟩ := h
  · exact ⟨none, 0, by rw [h1, h2]⟩
  · exact ⟨_, _, h1⟩
theorem OwX.owns (h : OwX e size v x n xs) (hx : ∀ g o, x = some (g, o) → base ≤ g ∧ w.heap[g]? = some o) : w.ownsRow base e size v n xs := by
  obtain ⟨hl, ⟨h1, h2, h3⟩ | ⟨g, cap, cur, h1, h2, h4, h5, h6, h7⟩⟩ := h
  · exact ⟨hl, .inl ⟨h1, h2⟩⟩
  · exact ⟨hl, .inr ⟨g, cap, cur, h1, (hx _ _ h2).1, (hx _ _ h2).2, h4, h5, h6, h7⟩⟩
theorem OwX.of (h : w.ownsRow base e size v n xs) : ∃ x, OwX e size v x n xs ∧ ∀ g o, x = some (g, o) → base ≤ g ∧ w.heap[g]? = some o ∧ v.ownBlock = some g := by
  obtain ⟨hl, ⟨h1, h2⟩ | ⟨g, cap, cur, h1, hb, hh, h4, h5, h6, h7⟩⟩ := h
  · exact ⟨none, ⟨hl, .inl ⟨h1, h2, rfl⟩⟩, by simp⟩
  · refine ⟨some (g, .cells cur e (0, 0)), ⟨hl, .inr ⟨g, cap, cur, h1, rfl, h4, h5, h6, h7⟩⟩, fun g' o he => ?_⟩
    simp only [Option.some.injEq, Prod.mk.injEq] at he
    obtain ⟨rfl, rfl⟩ := he
    exact ⟨hb, hh, by rw [h1]; rfl⟩
theorem OwX.block (h : OwX e size v x n xs) : v.ownBlock = x.map (·.1) := by
  obtain ⟨hl, ⟨h1, h2, h3⟩ | ⟨g, cap, cur, h1, h2, h4, h5, h6, h7⟩⟩ := h
  · rw [h1, h3]; rfl
  · rw [h1, h2]; rfl
end
section
variable {P : Program} {ops : Array Oper} {w0 : World} {S : Nat → Prop} {K : Act → Gh → Prop} {i : Nat} {o : Oper} {r : List Oper} {ss : List Ef} {a : Act} {γ : Gh}
/-- A new block. -/
theorem SeqF.new (use : List Nat) (t : Nat) (mk : Nat → Value) (ob : Gh → Obj) (hob : ∀ γ', Gh.agree use γ γ' → ob γ' = ob γ) (hw : Region.wanted o (yielded ops a.tmps) = true)
    (h : ∀ γ' w, Gh.agree use γ γ' → Inv w0 S γ' w → (execOp a.eval o).run P w = .ok (.value (mk w.heap.size)) (w.alloc (ob γ)))
    (k : ∀ g, w0.heap.size ≤ g → SeqF P ops (Inv w0 S) K (i + 1) r ss (a.put o.dst (mk g)) (γ.set (some t) (some (g, ob γ)))) :
    SeqF P ops (Inv w0 S) K i (o :: r) (.eff use (some t) (fun γ v x => ∃ g, w0.heap.size ≤ g ∧ v = mk g ∧ x = some (g, ob γ)) :: ss) a γ := by
  refine SeqF.eff use (some t) _ (fun γ' hg => by simp only [hob γ' hg]) hw (fun γ' w hg hI => ?_) ?_
  · exact ⟨_, _, _, .inl (h γ' w hg hI), ⟨w.heap.size, hI.size, rfl, rfl⟩, hI.grown (World.grownBy_alloc w _ none) t (by simp) (heap_alloc_last w _) (.inr (Nat.le_refl _))⟩
  · rintro v x ⟨g, hg, rfl, rfl⟩
    exact k g hg
/-- A store into a resource. -/
theorem SeqF.store (use : List Nat) (t g : Nat) (old : Obj) (hγ : γ t = some (g, old)) (ht : t ∈ use) (ob : Gh → Obj) (hob : ∀ γ', Gh.agree use γ γ' → ob γ' = ob γ) (hw : Region.wanted o (yielded ops a.tmps) = true)
    (h : ∀ γ' w, Gh.agree use γ γ' → Inv w0 S γ' w → w.heap[g]? = some old → ∃ w', (execOp a.eval o).run P w = .ok .skip w' ∧ Only g (ob γ) w w')
    (k : SeqF P ops (Inv w0 S) K (i + 1) r ss (a.put o.dst undef) (γ.set (some t) (some (g, ob γ)))) :
    SeqF P ops (Inv w0 S) K i (o :: r) (.eff use (some t) (fun γ v x => v = undef ∧ ∃ g old, γ t = some (g, old) ∧ x = some (g, ob γ)) :: ss) a γ := by
  refine SeqF.eff use (some t) _ (fun γ' hg => by funext v x; rw [hob γ' hg, hg t ht]) hw (fun γ' w hg hI => ?_) ?_
  · have hγ' : γ' t = some (g, old) := (hg t ht).trans hγ
    obtain ⟨h1, h2⟩ := hI.here t g old hγ'
    obtain ⟨w', h3, h4⟩ := h γ' w hg hI h1
    refine ⟨_, _, w', .inr ⟨h3, rfl⟩, ⟨rfl, g, old, hγ, rfl⟩, hI.grown (row := some g) ⟨h4.os, h4.tape, h4.output, by rw [h4.size]; exact Nat.le_refl _, fun q _ hq => h4.far q (fun e => hq (by rw [e]))⟩ t (fun q hq => ?_) h4.here (.inl rfl)⟩
    cases hq
    exact ⟨old, hγ'⟩
  · rintro v x ⟨rfl, g', old', h1, rfl⟩
    rw [hγ] at h1
    simp only [Option.some.injEq, Prod.mk.injEq] at h1
    obtain ⟨rfl, rfl⟩ := h1
    exact k
/-- A call that hands over a slice in new memory. -/
theorem SeqF.callNew (use : List Nat) (t : Nat) (e : TypeId) (size n : Nat) (xs : List Value) (f : FuncId) (args : Array Value) (hw : Region.wanted o (yielded ops a.tmps) = true) (he : ∀ w, (execOp a.eval o).run P w = .ok (.enter f args) w)
    (h : ∀ γ' w, Gh.agree use γ γ' → Inv w0 S γ' w → Calls P f args w fun en w' => (∃ v, en = .returned v ∧ w'.ownsRow w.heap.size e size v n xs) ∧ Below w.heap.size w w')
    (k : ∀ v x, OwX e size v x n xs → (∀ g o, x = some (g, o) → w0.heap.size ≤ g) → SeqF P ops (Inv w0 S) K (i + 1) r ss (a.put o.dst v) (γ.set (some t) x)) :
    SeqF P ops (Inv w0 S) K i (o :: r) (.eff use (some t) (fun _ v x => OwX e size v x n xs ∧ ∀ g o, x = some (g, o) → w0.heap.size ≤ g) :: ss) a γ := by
  refine SeqF.callE use (some t) _ f args (fun _ _ => rfl) hw he (fun γ' w hg hI => (h γ' w hg hI).mono ?_) (fun v x hx => k v x hx.1 hx.2)
  rintro en w' ⟨⟨v, rfl, ho⟩, hb⟩
  obtain ⟨x, hx, hx2⟩ := OwX.of ho
  have hI2 := hI.below hb
  refine ⟨v, x, rfl, ⟨hx, fun g o hgo => Nat.le_trans hI.size (hx2 g o hgo).1⟩, ?_⟩
  match x, hx2 with
  | none, _ => exact hI2.free t
  | some (g, ob), hx2 =>
    obtain ⟨h1, h2, h3⟩ := hx2 g ob rfl
    exact hI.grown (row := none) ⟨hb.os, hb.tape, hb.output, hb.size, fun q hq _ => hb.block q hq⟩ t (by simp) h2 (.inr h1)
/-- An append onto a slice of the call's own. -/
theorem SeqF.append (use : List Nat) (t : Nat) (ht : t ∈ use) (s x : Operand) (ty e : TypeId) (it : TypeInfo) (z : Value) (size bytes : Nat) (hgd : o.guard = none) (ho : o.op = .call { callee := .builtin .append, args := #[s, x], argTypes := #[ty, ty] })
    (hty : P.underlying ty = some (.slice e)) (hi : P.info? e = some it) (hz : it.zero = some z) (hsize : it.size = size) (hby : it.bytes = bytes) (hzs : z.cells.size = size) (hsz : 0 < size)
    (v : Value) (n : Nat) (xs : List Value) (hs : a.eval s = v) (hrow : OwX e size v (γ t) n xs) (ad : Addr) (m c : Nat) (news : List Value) (hx : a.eval x = .slice (some ad) m c) (hl : news.length = m * size)
    (hnews : ∀ γ' w, Gh.agree use γ γ' → Inv w0 S γ' w → ∀ j u, news[j]? = some u → w.cell? (ad.add j) = some u) (h1 : ∀ u ∈ news, u.oneCell' = true) (h63 : n + m ≤ maxLen) (hbytes : (n + m) * bytes ≤ 140737488355328)
    (ys : Gh → List Value) (hys : ∀ γ', Gh.agree use γ γ' → ys γ' = ys γ) (hye : ys γ = xs ++ news)
    (k : ∀ v' x', OwX e size v' x' (n + m) (xs ++ news) → (∀ g o, x' = some (g, o) → (∃ o', γ t = some (g, o')) ∨ w0.heap.size ≤ g) → SeqF P ops (Inv w0 S) K (i + 1) r ss (a.put o.dst v') (γ.set (some t) x')) :
    SeqF P ops (Inv w0 S) K i (o :: r) (.eff use (some t) (fun γ v' x' => OwX e size v' x' (n + m) (ys γ) ∧ ∀ g o, x' = some (g, o) → (∃ o', γ t = some (g, o')) ∨ w0.heap.size ≤ g) :: ss) a γ := by
  refine SeqF.eff use (some t) _ (fun γ' hg => by simp only [hys γ' hg, hg t ht]) (by simp [Region.wanted, hgd]) (fun γ' w hg hI => ?_) (fun v' x' hx' => k v' x' (by rw [← hye]; exact hx'.1) hx'.2)
  have hown : w.ownsRow 0 e size v n xs := hrow.owns fun g ob hgo => ⟨Nat.zero_le _, (hI.here t g ob ((hg t ht).trans hgo)).1⟩
  obtain ⟨v', w', hr, h2, h3, h4, h5⟩ := run_append_own_at (P := P) w 0 ty o.type e it z size bytes hty hi hz hsize hby hzs hsz v n xs hown ad m c news hl (hnews γ' w hg hI) h1 h63 hbytes (Nat.zero_le _)
  obtain ⟨x', hx', hx2⟩ := OwX.of h2
  refine ⟨v', x', w', .inl ?_, ⟨by rw [hye]; exact hx', fun g ob hgo => ?_⟩, ?_⟩
  · unfold execOp
    simp only [ho, resolve, invoke, builtin, Sem.run_bind, Sem.run_pure, Result.andThen_ok, List.map_toArray, List.map_cons, List.map_nil, hs, hx, hr]
  · obtain ⟨_, _, h8⟩ := hx2 g ob hgo
    rcases h5 with h5 | h5
    · rw [h8, hrow.block] at h5
      match hq : γ t, h5 with
      | some (g', o'), h5 =>
        simp only [Option.map_some, Option.some.injEq] at h5
        exact .inl ⟨o', by rw [h5]⟩
      | none, h5 => simp at h5
    · rw [h8] at h5
      simp only [Option.some.injEq] at h5
      exact .inr (by rw [h5]; exact hI.size)
  · have hrw : ∀ g, v.ownBlock = some g → ∃ ob, γ' t = some (g, ob) := fun g hgb => by
      rw [hrow.block] at hgb
      match hq : γ t, hgb with
      | some (g', o'), hgb =>
        simp only [Option.map_some, Option.some.injEq] at hgb
        exact ⟨o', by rw [hg t ht, hq, hgb]⟩
      | none, hgb => simp at hgb
    match x', hx', hx2 with
    | none, hx', _ =>
      have hn : v'.ownBlock = none := by rw [hx'.block]; rfl
      rcases h5 with h5 | h5
      · have hv : v.ownBlock = none := by rw [← h5]; exact hn
        rw [hv] at h3
        exact (hI.below (Below.grown (Below.refl _ _) h3 (Nat.le_refl _) (by simp))).free t
      · rw [hn] at h5
        cases h5
    | some (g, ob), hx', hx2 =>
      obtain ⟨_, h7, h8⟩ := hx2 g ob rfl
      refine hI.grown h3 t hrw h7 ?_
      rcases h5 with h5 | h5
      · exact .inl (by rw [← h5]; exact h8)
      · rw [h8] at h5
        simp only [Option.some.injEq] at h5
        exact .inr (by omega)
end
end Go.Proofs.Ytgkiedbefogklaa
