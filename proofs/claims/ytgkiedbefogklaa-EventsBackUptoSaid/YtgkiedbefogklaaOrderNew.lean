/- What is proved: the same as in the text Order, for regions that also make blocks and write into them: walked in the order of the text, whatever the new blocks' numbers; the condition 'orderly' is checked by the kernel at each use. -/
import Derived.Test.YtgkiedbefogklaaOrder
set_option linter.unusedSimpArgs false
set_option linter.unusedVariables false
namespace Go.Proofs.Ytgkiedbefogklaa
open Go.RowKit

/-- One block alone has turned. -/
structure Only (g : Nat) (o : Obj) (w w' : World) : Prop where
  os : w'.os = w.os
  tape : w'.tape = w.tape
  output : w'.output = w.output
  size : w'.heap.size = w.heap.size
  here : w'.heap[g]? = some o
  far : ∀ k, k ≠ g → w'.heap[k]? = w.heap[k]?

/-- What an operation does: it gives a value; it makes a block; it writes the block that operation t has made. -/
inductive Sp where
  | val (v : Value)
  | new (o : Obj)
  | put (t : Nat) (o : Obj)

/-- The blocks that were made: by which operation, their number, what they hold. -/
abbrev Made := Nat → Option (Nat × Obj)
def Made.with (R : Made) (i g : Nat) (o : Obj) : Made := fun k => if k = i then some (g, o) else R k
theorem Made.with_comm (R : Made) {i j g h : Nat} {o p : Obj} (hij : i ≠ j) : (R.with i g o).with j h p = (R.with j h p).with i g o := by
  funext k
  unfold Made.with
  by_cases h1 : k = i
  · by_cases h2 : k = j
    · exact absurd (h1.symm.trans h2) hij
    · simp [h1, hij]
  · simp [h1]

section
variable {P : Program} {ops : Array Oper} {F : World → Prop} {B : Nat}

/-- Operation i at the frame a, by what it does. -/
def OpR (P : Program) (ops : Array Oper) (F : World → Prop) (B : Nat) (i : Nat) (o : Oper) (a : Act) (R : Made) : Sp → Prop
  | .val v => if Region.wanted o (yielded ops a.tmps) then ∀ w, F w → Res P o a.eval w (fun v' w' => v' = v ∧ F w' ∧ Below w.heap.size w w') else v = undef
  | .new ob => Region.wanted o (yielded ops a.tmps) = true ∧ ∀ w, F w → (execOp a.eval o).run P w = .ok (.value (.pointer (some ⟨w.heap.size, 0, none⟩))) (w.alloc ob)
  | .put t ob => Region.wanted o (yielded ops a.tmps) = true ∧ ∃ g old, R t = some (g, old) ∧ ∀ w, F w → w.heap[g]? = some old → ∃ w', (execOp a.eval o).run P w = .ok .skip w' ∧ Only g ob w w'
/-- The frame and the blocks behind it, g: the number of a new block. -/
def outA (o : Oper) (a : Act) (g : Nat) : Sp → Act
  | .val v => a.put o.dst v
  | .new _ => a.put o.dst (.pointer (some ⟨g, 0, none⟩))
  | .put _ _ => a.put o.dst undef
def outR (i : Nat) (R : Made) (g : Nat) : Sp → Made
  | .val _ => R
  | .new ob => R.with i g ob
  | .put t ob => match R t with
    | some (h, _) => R.with t h ob
    | none => R

def SeqR (P : Program) (ops : Array Oper) (F : World → Prop) (B : Nat) (K : Act → Made → Prop) : List (Nat × Sp) → Act → Made → Prop
  | [], a, R => K a R
  | (i, s) :: r, a, R => ∃ o, ops[i]? = some o ∧ OpR P ops F B i o a R s ∧ ∀ g, B ≤ g → SeqR P ops F B K r (outA o a g s) (outR i R g s)

def usesR : Sp → Option Nat
  | .put t _ => some t
  | _ => none
/-- Two operations that may be carried out in either order. -/
def partB (ops : Array Oper) (x y : Nat × Sp) : Bool :=
  (match ops[x.1]?, ops[y.1]? with
  | some ox, some oy => ox.apart ops oy
  | _, _ => false) && (x.1 != y.1) && (usesR x.2 != some y.1) && (usesR y.2 != some x.1) && (match usesR x.2, usesR y.2 with | some s, some t => s != t | _, _ => true)

theorem wanted_eq {ox oy : Oper} {a : Act} {v : Value} (h : ox.apart ops oy = true) : Region.wanted oy (yielded ops (a.put ox.dst v).tmps) = Region.wanted oy (yielded ops a.tmps) :=
  wanted_put (ops := ops) oy a ox.dst v (Oper.apart_spec h).1
theorem wanted_eq' {ox oy : Oper} {a : Act} {v : Value} (h : ox.apart ops oy = true) : Region.wanted ox (yielded ops (a.put oy.dst v).tmps) = Region.wanted ox (yielded ops a.tmps) :=
  wanted_put (ops := ops) ox a oy.dst v (Oper.apart_spec h).2.2
theorem outA_put (o : Oper) (a : Act) (g : Nat) (s : Sp) : ∃ v, outA o a g s = a.put o.dst v := by
  cases s <;> exact ⟨_, rfl⟩

/-- What i does doesn't hang on a frame and on blocks that j has turned. -/
theorem OpR.congr {i : Nat} {o : Oper} {a a' : Act} {R R' : Made} {s : Sp} (hw : Region.wanted o (yielded ops a'.tmps) = Region.wanted o (yielded ops a.tmps)) (he : execOp a'.eval o = execOp a.eval o) (hR : ∀ t, usesR s = some t → R' t = R t)
    (h : OpR P ops F B i o a R s) : OpR P ops F B i o a' R' s := by
  cases s with
  | val v => unfold OpR Res at h ⊢; rw [hw, he]; exact h
  | new ob => unfold OpR at h ⊢; rw [hw, he]; exact h
  | put t ob =>
    have ht := hR t rfl
    simp only [OpR, hw, he, ht] at h ⊢
    exact h

theorem outR_far {i : Nat} {R : Made} {g : Nat} {s : Sp} {t : Nat} (h1 : t ≠ i) (h2 : usesR s ≠ some t) : outR i R g s t = R t := by
  cases s with
  | val v => rfl
  | new ob => simp [outR, Made.with, h1]
  | put k ob =>
    have hk : t ≠ k := fun e => h2 (by rw [e]; rfl)
    unfold outR
    simp only
    cases R k with
    | none => rfl
    | some x => simp [Made.with, hk]
theorem outR_comm {i j : Nat} {R : Made} {g h : Nat} {s u : Sp} (hij : i ≠ j) (h1 : usesR s ≠ some j) (h2 : usesR u ≠ some i) (h3 : ∀ x y, usesR s = some x → usesR u = some y → x ≠ y) :
    outR j (outR i R g s) h u = outR i (outR j R h u) g s := by
  cases s with
  | val v => rfl
  | new o =>
    cases u with
    | val v => rfl
    | new p => exact Made.with_comm R hij
    | put t p =>
      have ht : t ≠ i := fun e => h2 (by rw [← e]; rfl)
      unfold outR
      simp only
      rw [show (R.with i g o) t = R t by simp [Made.with, ht]]
      cases R t with
      | none => rfl
      | some x => exact Made.with_comm R (Ne.symm ht)
  | put s' o =>
    have hs : s' ≠ j := fun e => h1 (by rw [← e]; rfl)
    cases u with
    | val v => rfl
    | new p =>
      unfold outR
      simp only
      rw [show (R.with j h p) s' = R s' by simp [Made.with, hs]]
      cases R s' with
      | none => rfl
      | some x => exact Made.with_comm R hs
    | put t p =>
      have hst : s' ≠ t := h3 s' t rfl rfl
      unfold outR
      simp only
      cases e1 : R s' with
      | none =>
        simp only
        cases e2 : R t with
        | none => simp only [e1]
        | some y => simp only [Made.with, hst, if_false, e1]
      | some x =>
        simp only
        rw [show (R.with s' x.1 o) t = R t by simp [Made.with, Ne.symm hst]]
        cases e2 : R t with
        | none => simp only [e1]
        | some y =>
          simp only
          rw [show (R.with t y.1 p) s' = R s' by simp [Made.with, hst], e1]
          exact Made.with_comm R hst

theorem SeqR.front {K : Act → Made → Prop} (hsel : ∀ (j : Nat) (o : Oper) cs b, ops[j]? = some o → o.op ≠ .select cs b) {i : Nat} {s : Sp} {oi : Oper} (hi : ops[i]? = some oi) :
    ∀ (l m : List (Nat × Sp)) (a : Act) (R : Made), (∀ x ∈ l, partB ops x (i, s) = true) → SeqR P ops F B K (l ++ (i, s) :: m) a R →
      OpR P ops F B i oi a R s ∧ ∀ g, B ≤ g → SeqR P ops F B K (l ++ m) (outA oi a g s) (outR i R g s)
  | [], m, a, R, _, h => by
    obtain ⟨o, ho, h1, h2⟩ := h
    rw [hi] at ho
    cases ho
    exact ⟨h1, h2⟩
  | (j, u) :: l, m, a, R, hl, h => by
    obtain ⟨oj, hj, h1, h2⟩ := h
    have hp := hl (j, u) (List.mem_cons_self)
    simp only [partB, hj, hi, Bool.and_eq_true, bne_iff_ne, ne_eq] at hp
    obtain ⟨⟨⟨⟨hap, hne⟩, hu1⟩, hu2⟩, hu3⟩ := hp
    have h3 : ∀ g, B ≤ g → OpR P ops F B i oi (outA oj a g u) (outR j R g u) s ∧ ∀ g', B ≤ g' → SeqR P ops F B K (l ++ m) (outA oi (outA oj a g u) g' s) (outR i (outR j R g u) g' s) :=
      fun g hg => SeqR.front hsel hi l m _ _ (fun x hx => hl x (List.mem_cons_of_mem _ hx)) (h2 g hg)
    have hu3' : ∀ x y, usesR u = some x → usesR s = some y → x ≠ y := by
      intro x y hx hy
      rw [hx, hy] at hu3
      simpa using hu3
    refine ⟨?_, fun g hg => ⟨oj, hj, ?_, fun g' hg' => ?_⟩⟩
    · obtain ⟨v, hv⟩ := outA_put oj a B u
      refine OpR.congr ?_ ?_ ?_ (h3 B (Nat.le_refl _)).1
      · rw [hv]; exact (wanted_eq hap).symm
      · rw [hv]; exact (execOp_put (ops := ops) oi (fun cs b => hsel i oi cs b hi) a oj.dst v (Oper.apart_spec hap).1).symm
      · intro t ht
        exact (outR_far (fun e => hu2 (by rw [ht, e])) (fun e => hu3' t t e ht rfl)).symm
    · obtain ⟨v, hv⟩ := outA_put oi a g s
      refine OpR.congr ?_ ?_ ?_ h1
      · rw [hv]; exact wanted_eq' hap
      · rw [hv]; exact execOp_put (ops := ops) oj (fun cs b => hsel j oj cs b hj) a oi.dst v (Oper.apart_spec hap).2.2
      · intro t ht
        exact outR_far (fun e => hu1 (by rw [ht, e])) (fun e => hu3' t t ht e rfl)
    · have h4 := (h3 g' hg').2 g hg
      have e1 : outA oi (outA oj a g' u) g s = outA oj (outA oi a g s) g' u := by
        have hc := (Oper.apart_spec hap).2.1
        cases s <;> cases u <;> exact Act.put_comm a _ _ hc
      have e2 : outR i (outR j R g' u) g s = outR j (outR i R g s) g' u := outR_comm (Ne.symm (fun e => hne e.symm)) hu1 hu2 hu3'
      rw [e1, e2] at h4
      exact h4

/-- The blocks are there, each its own. -/
def Good (B : Nat) (R : Made) (w : World) : Prop :=
  (∀ t g o, R t = some (g, o) → B ≤ g ∧ w.heap[g]? = some o) ∧ ∀ t t' g g' o o', R t = some (g, o) → R t' = some (g', o') → t ≠ t' → g ≠ g'
theorem lt_of_heap {w : World} {g : Nat} {o : Obj} (h : w.heap[g]? = some o) : g < w.heap.size := (Array.getElem?_eq_some_iff.1 h).1
theorem Good.below {R : Made} {w w' : World} (h : Good B R w) (hb : Below w.heap.size w w') : Good B R w' :=
  ⟨fun t g o ht => by
    obtain ⟨h1, h2⟩ := h.1 t g o ht
    exact ⟨h1, (hb.block g (lt_of_heap h2)).trans h2⟩, h.2⟩
theorem Good.new {R : Made} {w : World} (h : Good B R w) (hB : B ≤ w.heap.size) (i : Nat) (o : Obj) : Good B (R.with i w.heap.size o) (w.alloc o) := by
  refine ⟨fun t g ob ht => ?_, fun t t' g g' ob ob' ht ht' hne => ?_⟩
  · unfold Made.with at ht
    split at ht
    · simp only [Option.some.injEq, Prod.mk.injEq] at ht
      obtain ⟨rfl, rfl⟩ := ht
      exact ⟨hB, heap_alloc_last w o⟩
    · obtain ⟨h1, h2⟩ := h.1 t g ob ht
      exact ⟨h1, (Below.heap_alloc w o g (lt_of_heap h2)).trans h2⟩
  · unfold Made.with at ht ht'
    split at ht
    · rename_i e
      rw [if_neg (fun e' => hne (e.trans e'.symm))] at ht'
      simp only [Option.some.injEq, Prod.mk.injEq] at ht
      have := lt_of_heap (h.1 _ _ _ ht').2
      omega
    · split at ht'
      · simp only [Option.some.injEq, Prod.mk.injEq] at ht'
        have := lt_of_heap (h.1 _ _ _ ht).2
        omega
      · exact h.2 t t' g g' ob ob' ht ht' hne
theorem Good.put {R : Made} {w w' : World} (h : Good B R w) {t g : Nat} {old o : Obj} (ht : R t = some (g, old)) (ho : Only g o w w') : Good B (R.with t g o) w' := by
  refine ⟨fun k g' ob hk => ?_, fun k k' g1 g2 ob ob' hk hk' hne => ?_⟩
  · unfold Made.with at hk
    split at hk
    · simp only [Option.some.injEq, Prod.mk.injEq] at hk
      obtain ⟨rfl, rfl⟩ := hk
      exact ⟨(h.1 t g old ht).1, ho.here⟩
    · rename_i e
      obtain ⟨h1, h2⟩ := h.1 k g' ob hk
      exact ⟨h1, by rw [ho.far g' (h.2 k t g' g ob old hk ht e)]; exact h2⟩
  · unfold Made.with at hk hk'
    split at hk
    · rename_i e
      rw [if_neg (fun e' => hne (e.trans e'.symm))] at hk'
      simp only [Option.some.injEq, Prod.mk.injEq] at hk
      obtain ⟨rfl, rfl⟩ := hk
      exact h.2 t k' g g2 old ob' ht hk' (fun e' => hne (e.trans e'))
    · rename_i e
      split at hk'
      · simp only [Option.some.injEq, Prod.mk.injEq] at hk'
        obtain ⟨rfl, rfl⟩ := hk'
        exact h.2 k t g1 g ob old hk ht e
      · exact h.2 k k' g1 g2 ob ob' hk hk' hne

/-- As 'orderly', with what the operations do. -/
def orderlyR (ops : Array Oper) (sp : Nat → Sp) : Bool :=
  Region.noSelect ops && ((List.range ops.size).all fun j =>
    (((ops[j]?).map fun o => o.after.all fun e => !Region.binds .any e || decide (e.on < j)).getD true) &&
    (List.range j).all fun i => follows ops i j || partB ops (i, sp i) (j, sp j))

theorem ready_rest (ho : ∀ j, j < ops.size → (((ops[j]?).map fun o => o.after.all fun e => !Region.binds .any e || decide (e.on < j)).getD true) = true) (listed : Array Bool) (hr : Region.ready .any ops listed = []) : rest ops listed = [] := by
  refine List.eq_nil_iff_forall_not_mem.2 fun i hi => ?_
  have key : ∀ n i, i < n → i < ops.size → listed.getD i true = true := by
    intro n
    induction n with
    | zero => intro i hi; omega
    | succ n ih =>
      intro i hi hlt
      by_cases hl : listed.getD i true = true
      · exact hl
      · exfalso
        have : i ∈ Region.ready .any ops listed := by
          rw [mem_ready]
          refine ⟨by simpa using hl, ops[i], Array.getElem?_eq_getElem hlt, fun e he hb => ?_⟩
          have h1 := ho i hlt
          rw [Array.getElem?_eq_getElem hlt] at h1
          simp only [Option.map_some, Option.getD_some] at h1
          have h2 := (Array.all_eq_true_iff_forall_mem.1 h1) e he
          simp only [hb, Bool.not_true, Bool.false_or, decide_eq_true_eq] at h2
          have h3 := ih e.on (by omega) (by omega)
          have h5 : i < listed.size := by
            rcases Nat.lt_or_ge i listed.size with h | h
            · exact h
            · simp [Array.getElem?_eq_none h] at hl
          have h4 : e.on < listed.size := by omega
          simpa [h4] using h3
        rw [hr] at this
        cases this
  simp only [rest, List.mem_filter, List.mem_range] at hi
  have := key (i + 1) i (by omega) hi.1
  rw [this] at hi
  simp at hi

theorem wpAny_seqR {Q : Exit → Act → World → Prop} {K : Act → Made → Prop} {w0 : World} (sp : Nat → Sp) (ho : orderlyR ops sp = true)
    (hQ : ∀ a R, K a R → ∀ w, Below w0.heap.size w0 w → Good w0.heap.size R w → Q .normal a w) :
    ∀ (fuel : Nat) (listed : Array Bool) (a : Act) (R : Made) (w : World), (rest ops listed).length ≤ fuel → Below w0.heap.size w0 w → Good w0.heap.size R w →
      SeqR P ops (fun w => Below w0.heap.size w0 w) w0.heap.size K ((rest ops listed).map fun i => (i, sp i)) a R → wpAny P .any ops Q fuel listed a w := by
  simp only [orderlyR, Bool.and_eq_true, List.all_eq_true, List.mem_range] at ho
  obtain ⟨hns, ho⟩ := ho
  have hsel := Region.noSelect_spec hns
  have hready := ready_rest (ops := ops) (fun j hj => (ho j hj).1)
  intro fuel
  induction fuel with
  | zero =>
    intro listed a R w hf hF hG hS
    have h0 : rest ops listed = [] := List.eq_nil_of_length_eq_zero (by omega)
    have hr : Region.ready .any ops listed = [] := by
      refine List.eq_nil_iff_forall_not_mem.2 fun i hi => ?_
      obtain ⟨h1, o, h2, _⟩ := mem_ready.1 hi
      have : i ∈ rest ops listed := by
        simp only [rest, List.mem_filter, List.mem_range]
        exact ⟨(Array.getElem?_eq_some_iff.1 h2).1, by rw [h1]; rfl⟩
      rw [h0] at this
      cases this
    rw [h0] at hS
    exact ⟨hr, hQ a R hS w hF hG⟩
  | succ fuel ih =>
    intro listed a R w hf hF hG hS
    refine ⟨fun hr => ?_, fun i hi => ?_⟩
    · rw [hready listed hr] at hS
      exact hQ a R hS w hF hG
    · obtain ⟨h1, oi, h2, h3⟩ := mem_ready.1 hi
      have hlt := (Array.getElem?_eq_some_iff.1 h2).1
      obtain ⟨e1, e2⟩ := rest_parts (ops := ops) hlt h1
      rw [e1, List.map_append, List.map_cons] at hS
      rw [e1] at hf
      have hfront : ∀ x ∈ ((List.range i).filter (fun j => !listed.getD j true)).map (fun i => (i, sp i)), partB ops x (i, sp i) = true := by
        intro x hx
        obtain ⟨j, hj, rfl⟩ := List.mem_map.1 hx
        simp only [List.mem_filter, List.mem_range, Bool.not_eq_true'] at hj
        have h4 := (ho i hlt).2 j hj.1
        simp only [Bool.or_eq_true] at h4
        rcases h4 with h4 | h4
        · exfalso
          unfold follows at h4
          rw [h2] at h4
          simp only [Option.map_some, Option.getD_some] at h4
          obtain ⟨e, he, hb⟩ := Array.any_eq_true'.1 h4
          simp only [Bool.and_eq_true, beq_iff_eq] at hb
          have h5 := h3 e he hb.1
          rw [hb.2] at h5
          have h6 := hj.2
          rcases Nat.lt_or_ge j listed.size with h | h
          · simp [h] at h5 h6
            rw [h6] at h5
            cases h5
          · simp [Array.getElem?_eq_none h] at h6
        · exact h4
      obtain ⟨h4, h5⟩ := SeqR.front hsel h2 _ _ a R hfront hS
      rw [← List.map_append, ← e2] at h5
      have hlen : (rest ops (listed.setIfInBounds i true)).length ≤ fuel := by
        rw [e2]
        simp only [List.length_append, List.length_cons] at hf ⊢
        omega
      unfold wpOp
      rw [h2]
      simp only
      cases hs : sp i with
      | val v =>
        rw [hs] at h4 h5
        simp only [OpR] at h4
        by_cases hw : Region.wanted oi (yielded ops a.tmps) = true
        · rw [if_pos hw] at h4 ⊢
          refine .inl ?_
          have h6 := h4 w hF
          refine Res.wp (F := fun w' => Below w0.heap.size w0 w' ∧ Below w.heap.size w w') h6 fun w' hF' => ?_
          exact ih _ _ R w' hlen hF'.1 (hG.below hF'.2) (h5 w0.heap.size (Nat.le_refl _))
        · rw [if_neg hw] at h4 ⊢
          subst h4
          exact ih _ _ R w hlen hF hG (h5 w0.heap.size (Nat.le_refl _))
      | new ob =>
        rw [hs] at h4 h5
        obtain ⟨hw, h6⟩ := h4
        rw [if_pos hw]
        refine .inl ?_
        unfold Oper.wp
        rw [h6 w hF]
        exact ih _ _ _ _ hlen (hF.alloc hF.size ob) (hG.new hF.size i ob) (h5 w.heap.size hF.size)
      | put t ob =>
        rw [hs] at h4 h5
        obtain ⟨hw, g, old, hR, h6⟩ := h4
        rw [if_pos hw]
        refine .inl ?_
        obtain ⟨hg, hh⟩ := hG.1 t g old hR
        obtain ⟨w', h7, h8⟩ := h6 w hF hh
        unfold Oper.wp
        rw [h7]
        have h9 := h5 w0.heap.size (Nat.le_refl _)
        have e3 : outR i R w0.heap.size (Sp.put t ob) = R.with t g ob := by unfold outR; simp only [hR]
        rw [e3] at h9
        refine ih _ _ _ _ hlen ⟨h8.os.trans hF.os, h8.tape.trans hF.tape, h8.output.trans hF.output, ?_, fun k hk => ?_⟩ (hG.put hR h8) h9
        · rw [h8.size]; exact hF.size
        · rw [h8.far k (by omega)]; exact hF.block k hk

/-- The same over the operations themselves. -/
def SeqN (P : Program) (ops : Array Oper) (F : World → Prop) (B : Nat) (K : Act → Made → Prop) : Nat → List Oper → List Sp → Act → Made → Prop
  | _, [], _, a, R => K a R
  | i, o :: r, s :: ss, a, R => OpR P ops F B i o a R s ∧ ∀ g, B ≤ g → SeqN P ops F B K (i + 1) r ss (outA o a g s) (outR i R g s)
  | _, _ :: _, [], _, _ => False
theorem SeqR.of_list {K : Act → Made → Prop} (sp : Nat → Sp) (l : List Oper) : ∀ (k : Nat) (ss : List Sp) (a : Act) (R : Made), (∀ j, l[j]? = ops[k + j]?) → (∀ j, j < l.length → ss[j]? = some (sp (k + j))) →
    SeqN P ops F B K k l ss a R → SeqR P ops F B K ((List.range' k l.length).map fun i => (i, sp i)) a R := by
  induction l with
  | nil => intro k ss a R _ _ h; cases ss <;> exact h
  | cons o l ih =>
    intro k ss a R hl hs h
    have h0 : ops[k]? = some o := by simpa using (hl 0).symm
    have hs0 := hs 0 (by simp)
    cases ss with
    | nil => exact h.elim
    | cons s ss =>
      simp only [List.getElem?_cons_zero, Option.some.injEq, Nat.add_zero] at hs0
      subst hs0
      obtain ⟨h1, h2⟩ := h
      rw [List.length_cons, List.range'_succ, List.map_cons]
      refine ⟨o, h0, h1, fun g hg => ih (k + 1) ss _ _ (fun j => ?_) (fun j hj => ?_) (h2 g hg)⟩
      · have := hl (j + 1)
        simpa [Nat.add_assoc, Nat.add_comm 1 j] using this
      · have := hs (j + 1) (by simpa using hj)
        simpa [Nat.add_assoc, Nat.add_comm 1 j] using this
/-- What follows the region. -/
def ThenN (w0 : World) (Q : Exit → Act → World → Prop) (a : Act) (R : Made) : Prop := ∀ w', Below w0.heap.size w0 w' → Good w0.heap.size R w' → Q .normal a w'
/-- A region that draws its order and makes blocks, walked in the order of the text. -/
theorem wp_region_made {Q : Exit → Act → World → Prop} {id : Nat} {a : Act} {w : World} {l : List Oper} (ss : List Sp) (hm : P.follows .mixedOrders = true) (hl : ss.length = l.length) (ho : orderlyR l.toArray (fun i => ss.getD i (.val undef)) = true)
    (h : SeqN P l.toArray (fun W => Below w.heap.size w W) w.heap.size (ThenN w Q) 0 l ss a (fun _ => none)) : (Code.region id l.toArray true).wp P Q a w := by
  have er : rest l.toArray (Array.replicate l.toArray.size false) = List.range l.toArray.size := by
    unfold rest
    refine List.filter_eq_self.2 fun i hi => ?_
    have : i < l.length := by simpa using List.mem_range.1 hi
    simp [this]
  refine wp_region_any hm ?_
  refine wpAny_seqR (P := P) (w0 := w) (K := ThenN w Q) (fun i => ss.getD i (.val undef)) ho (fun a R h w' h1 h2 => h w' h1 h2) l.toArray.size _ a (fun _ => none) _ (by rw [er]; simp) ⟨rfl, rfl, rfl, Nat.le_refl _, fun _ _ => rfl⟩ ⟨fun t g o ht => by simp at ht, fun t t' g g' o o' ht => by simp at ht⟩ ?_
  rw [er, List.range_eq_range']
  have := SeqR.of_list (ops := l.toArray) (F := fun W => Below w.heap.size w W) (B := w.heap.size) (P := P) (K := ThenN w Q) (fun i => ss.getD i (.val undef)) l 0 ss a (fun _ => none) (by simp) (fun j hj => by simp [List.getD_eq_getElem?_getD, List.getElem?_eq_getElem (show j < ss.length by omega)]) h
  simpa using this
section
variable {P : Program} {ops : Array Oper} {F : World → Prop} {B : Nat} {K : Act → Made → Prop} {i : Nat} {o : Oper} {r : List Oper} {ss : List Sp} {a : Act} {R : Made}
theorem SeqN.pure {v : Value} (hw : Region.wanted o (yielded ops a.tmps) = true) (h : ∀ w, (execOp a.eval o).run P w = .ok (.value v) w) (k : SeqN P ops F B K (i + 1) r ss (a.put o.dst v) R) : SeqN P ops F B K i (o :: r) (.val v :: ss) a R :=
  ⟨by simp only [OpR, Res]; rw [if_pos hw]; intro w hF; rw [h w]; exact ⟨rfl, hF, Below.refl _ _⟩, fun g _ => k⟩
theorem SeqN.skip (hw : Region.wanted o (yielded ops a.tmps) = false) (k : SeqN P ops F B K (i + 1) r ss (a.put o.dst undef) R) : SeqN P ops F B K i (o :: r) (.val undef :: ss) a R :=
  ⟨by simp only [OpR, Res]; rw [if_neg (by rw [hw]; decide)]; trivial, fun g _ => k⟩
theorem SeqN.read {v : Value} (hw : Region.wanted o (yielded ops a.tmps) = true) (h : ∀ w, F w → (execOp a.eval o).run P w = .ok (.value v) w) (k : SeqN P ops F B K (i + 1) r ss (a.put o.dst v) R) : SeqN P ops F B K i (o :: r) (.val v :: ss) a R :=
  ⟨by simp only [OpR, Res]; rw [if_pos hw]; intro w hF; rw [h w hF]; exact ⟨rfl, hF, Below.refl _ _⟩, fun g _ => k⟩
theorem SeqN.call {v : Value} (f : FuncId) (args : Array Value) (hw : Region.wanted o (yielded ops a.tmps) = true) (he : ∀ w, (execOp a.eval o).run P w = .ok (.enter f args) w)
    (h : ∀ w, F w → Calls P f args w fun e w' => e = .returned v ∧ F w' ∧ Below w.heap.size w w') (k : SeqN P ops F B K (i + 1) r ss (a.put o.dst v) R) : SeqN P ops F B K i (o :: r) (.val v :: ss) a R :=
  ⟨by
    simp only [OpR, Res]
    rw [if_pos hw]
    intro w hF
    rw [he w]
    exact (h w hF).mono fun e w' ⟨h1, h2⟩ => ⟨v, h1, rfl, h2⟩, fun g _ => k⟩
theorem SeqN.made {ob : Obj} (hw : Region.wanted o (yielded ops a.tmps) = true) (h : ∀ w, F w → (execOp a.eval o).run P w = .ok (.value (.pointer (some ⟨w.heap.size, 0, none⟩))) (w.alloc ob))
    (k : ∀ g, B ≤ g → SeqN P ops F B K (i + 1) r ss (a.put o.dst (.pointer (some ⟨g, 0, none⟩))) (R.with i g ob)) : SeqN P ops F B K i (o :: r) (.new ob :: ss) a R := ⟨⟨hw, h⟩, k⟩
theorem SeqN.wrote {t : Nat} {ob : Obj} (g : Nat) (old : Obj) (hw : Region.wanted o (yielded ops a.tmps) = true) (hR : R t = some (g, old)) (h : ∀ w, F w → w.heap[g]? = some old → ∃ w', (execOp a.eval o).run P w = .ok .skip w' ∧ Only g ob w w')
    (k : SeqN P ops F B K (i + 1) r ss (a.put o.dst undef) (R.with t g ob)) : SeqN P ops F B K i (o :: r) (.put t ob :: ss) a R :=
  ⟨⟨hw, g, old, hR, h⟩, fun _ _ => by simp only [outR, hR, outA]; exact k⟩
theorem SeqN.done {Q : Exit → Act → World → Prop} {w0 : World} (h : ∀ w', Below w0.heap.size w0 w' → Good w0.heap.size R w' → Q .normal a w') : SeqN P ops F B (ThenN w0 Q) i [] [] a R := h
/-- A struct or an array, whole, into a block. -/
theorem only_setRow {w : World} {g : Nat} {cs old : Array Value} {t : TypeId} (h : w.heap[g]? = some (.cells old t (0, 0))) : Only g (.cells cs t) w (w.setRow g cs) :=
  ⟨rfl, rfl, rfl, by simp, setRow_heap w g old cs t (0, 0) h, fun k hk => setRow_other w g k cs hk⟩
theorem exec_store {P : Program} {o : Oper} {a : Act} {ty : TypeId} {x y : Operand} {p v : Value} {w w' : World} (ho : o.op = .store ty x y) (hx : a.eval x = p) (hy : a.eval y = v) (h : (Instr.storeAt ty p v).run P w = .ok () w') : (execOp a.eval o).run P w = .ok .skip w' := by
  unfold execOp
  simp only [ho, hx, hy, Sem.run_bind, h, Result.andThen_ok, Sem.run_pure]
theorem run_store_whole (P : Program) (ty t : TypeId) (cells : Array Value) (hi : (P.info? ty).map (·.size) = some cells.size) (h1 : cells.all (·.oneCell') = true) (w : World) (g : Nat) (old : Array Value) (hg : w.heap[g]? = some (.cells old t (0, 0))) (ho : old.size = cells.size) :
    (Instr.storeAt ty (.pointer (some ⟨g, 0, none⟩)) (.agg cells)).run P w = .ok () (w.setRow g cells) := by
  simp only [Instr.storeAt, Instr.sureAddr, Sem.run_bind, Sem.run_pure, Result.andThen_ok, run_storeVar_row w g t ty old cells hg hi ho h1]
end
end
end Go.Proofs.Ytgkiedbefogklaa
