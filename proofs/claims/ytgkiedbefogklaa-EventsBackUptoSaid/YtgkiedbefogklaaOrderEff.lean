/- What is proved: as in the text Order, for regions whose operations also make, write and grow memory: walked in the order of the text, the memory told by a ghost that says of each resource what it holds; the condition 'orderlyE' is checked by the kernel at each use. -/
import Derived.Test.YtgkiedbefogklaaOrderNew
set_option linter.unusedSimpArgs false
set_option linter.unusedVariables false
namespace Go.Proofs.Ytgkiedbefogklaa
open Go.RowKit

/-- What each resource holds: a block and its contents, or nothing. -/
abbrev Gh := Nat → Option (Nat × Obj)
def Gh.set (γ : Gh) (r : Option Nat) (x : Option (Nat × Obj)) : Gh := fun k => if some k = r then x else γ k
def Gh.agree (use : List Nat) (γ γ' : Gh) : Prop := ∀ t, t ∈ use → γ' t = γ t
/-- What an operation does: it gives a value; or it turns a resource, and 'link' tells what value comes and what the resource then holds. -/
inductive Ef where
  | val (use : List Nat) (f : Gh → Value)
  | eff (use : List Nat) (res : Option Nat) (link : Gh → Value → Option (Nat × Obj) → Prop)
def Ef.use : Ef → List Nat
  | .val u _ => u
  | .eff u _ _ => u
def Ef.res : Ef → Option Nat
  | .val _ _ => none
  | .eff _ r _ => r

section
variable {P : Program} {ops : Array Oper} {I : Gh → World → Prop}

def OpE (P : Program) (ops : Array Oper) (I : Gh → World → Prop) (o : Oper) (a : Act) (γ : Gh) : Ef → Prop
  | .val use f => (∀ γ', Gh.agree use γ γ' → f γ' = f γ) ∧ if Region.wanted o (yielded ops a.tmps) then ∀ γ' w, Gh.agree use γ γ' → I γ' w → Res P o a.eval w (fun v' w' => v' = f γ ∧ I γ' w') else f γ = undef
  | .eff use res link => (∀ γ', Gh.agree use γ γ' → link γ' = link γ) ∧ Region.wanted o (yielded ops a.tmps) = true ∧ ∀ γ' w, Gh.agree use γ γ' → I γ' w → Res P o a.eval w (fun v' w' => ∃ x, link γ v' x ∧ I (γ'.set res x) w')

def SeqE (P : Program) (ops : Array Oper) (I : Gh → World → Prop) (K : Act → Gh → Prop) : List (Nat × Ef) → Act → Gh → Prop
  | [], a, γ => K a γ
  | (i, s) :: r, a, γ => ∃ o, ops[i]? = some o ∧ OpE P ops I o a γ s ∧ match s with
    | .val _ f => SeqE P ops I K r (a.put o.dst (f γ)) γ
    | .eff _ res link => ∀ v x, link γ v x → SeqE P ops I K r (a.put o.dst v) (γ.set res x)

/-- Two operations that may be carried out in either order. -/
def partE (ops : Array Oper) (x y : Nat × Ef) : Bool :=
  (match ops[x.1]?, ops[y.1]? with
  | some ox, some oy => ox.apart ops oy
  | _, _ => false) && (x.2.res.all fun r => !y.2.use.contains r) && (y.2.res.all fun r => !x.2.use.contains r) && (match x.2.res, y.2.res with | some s, some t => s != t | _, _ => true)

theorem agree_set {use : List Nat} {γ : Gh} {r : Option Nat} {x : Option (Nat × Obj)} (h : r.all (fun r => !use.contains r) = true) : Gh.agree use γ (γ.set r x) := by
  intro t ht
  unfold Gh.set
  rw [if_neg]
  rintro rfl
  simp at h
  exact h ht
theorem agree_trans {use : List Nat} {a b c : Gh} (h : Gh.agree use a b) (k : Gh.agree use b c) : Gh.agree use a c := fun t ht => (k t ht).trans (h t ht)
theorem agree_symm {use : List Nat} {a b : Gh} (h : Gh.agree use a b) : Gh.agree use b a := fun t ht => (h t ht).symm
theorem set_none (γ : Gh) (x : Option (Nat × Obj)) : γ.set none x = γ := by funext k; simp [Gh.set]
theorem set_comm {γ : Gh} {r s : Option Nat} {x y : Option (Nat × Obj)} (h : (match r, s with | some s, some t => s != t | _, _ => true) = true) : (γ.set r x).set s y = (γ.set s y).set r x := by
  cases r with
  | none => rw [set_none, set_none]
  | some r =>
    cases s with
    | none => rw [set_none, set_none]
    | some s =>
      have h : r ≠ s := by simpa using h
      funext k
      unfold Gh.set
      by_cases h1 : k = r
      · by_cases h2 : k = s
        · exact absurd (h1.symm.trans h2) h
        · simp [h1, h]
      · simp [h1]

/-- What i does doesn't hang on a frame and on resources that j has turned. -/
theorem OpE.congr {o : Oper} {a a' : Act} {γ γ1 : Gh} {s : Ef} (hw : Region.wanted o (yielded ops a'.tmps) = Region.wanted o (yielded ops a.tmps)) (he : execOp a'.eval o = execOp a.eval o) (hR : Gh.agree s.use γ γ1)
    (h : OpE P ops I o a γ s) : OpE P ops I o a' γ1 s := by
  cases s with
  | val use f =>
    obtain ⟨h1, h2⟩ := h
    have e := h1 γ1 hR
    refine ⟨fun γ' h => (h1 γ' (agree_trans hR h)).trans e.symm, ?_⟩
    unfold Res at h2 ⊢
    rw [hw, he, e]
    by_cases hw' : Region.wanted o (yielded ops a.tmps) = true
    · rw [if_pos hw'] at h2 ⊢
      exact fun γ' w h => h2 γ' w (agree_trans hR h)
    · rw [if_neg hw'] at h2 ⊢
      exact h2
  | eff use res link =>
    obtain ⟨h1, h2, h3⟩ := h
    have e := h1 γ1 hR
    refine ⟨fun γ' h => (h1 γ' (agree_trans hR h)).trans e.symm, by rw [hw]; exact h2, ?_⟩
    unfold Res at h3 ⊢
    rw [he, e]
    exact fun γ' w h => h3 γ' w (agree_trans hR h)
def Next_ (P : Program) (ops : Array Oper) (I : Gh → World → Prop) (K : Act → Gh → Prop) (r : List (Nat × Ef)) (o : Oper) (a : Act) (γ : Gh) : Ef → Prop
  | .val _ f => SeqE P ops I K r (a.put o.dst (f γ)) γ
  | .eff _ res link => ∀ v x, link γ v x → SeqE P ops I K r (a.put o.dst v) (γ.set res x)
theorem seqE_cons {K : Act → Gh → Prop} {i : Nat} {s : Ef} {r : List (Nat × Ef)} {a : Act} {γ : Gh} : SeqE P ops I K ((i, s) :: r) a γ ↔ ∃ o, ops[i]? = some o ∧ OpE P ops I o a γ s ∧ Next_ P ops I K r o a γ s := by
  cases s <;> rfl

theorem Res.some {o : Oper} {r : Operand → Value} {w : World} {R : Value → World → Prop} (h : Res P o r w R) : ∃ v w', R v w' := by
  unfold Res at h
  split at h
  · exact ⟨_, _, h⟩
  · exact ⟨_, _, h⟩
  · obtain ⟨e, w', _, ⟨v, _, hR⟩, _⟩ := h []
    exact ⟨v, w', hR⟩
  · exact h.elim
theorem partE_spec {i j : Nat} {s u : Ef} {oi oj : Oper} (hi : ops[i]? = some oi) (hj : ops[j]? = some oj) (h : partE ops (j, u) (i, s) = true) :
    oj.apart ops oi = true ∧ u.res.all (fun r => !s.use.contains r) = true ∧ s.res.all (fun r => !u.use.contains r) = true ∧ (match u.res, s.res with | some s, some t => s != t | _, _ => true) = true := by
  simp only [partE, hj, hi, Bool.and_eq_true] at h
  obtain ⟨⟨⟨h1, h2⟩, h3⟩, h4⟩ := h
  exact ⟨h1, h2, h3, h4⟩
/-- The operation i, ahead of those that it waits for none of, may be carried out now. -/
theorem SeqE.frontE {K : Act → Gh → Prop} (hsel : ∀ (j : Nat) (o : Oper) cs b, ops[j]? = some o → o.op ≠ .select cs b) {i : Nat} {s : Ef} {oi : Oper} (hi : ops[i]? = some oi) :
    ∀ (l m : List (Nat × Ef)) (a : Act) (γ : Gh), (∀ x ∈ l, partE ops x (i, s) = true) → SeqE P ops I K (l ++ (i, s) :: m) a γ → (∃ w, I γ w) → OpE P ops I oi a γ s
  | [], m, a, γ, _, h, _ => by
    obtain ⟨o, ho, h1, _⟩ := seqE_cons.1 h
    rw [hi] at ho
    cases ho
    exact h1
  | (j, u) :: l, m, a, γ, hl, h, hw => by
    obtain ⟨oj, hj, h1, h2⟩ := seqE_cons.1 h
    obtain ⟨hap, p1, p2, p3⟩ := partE_spec hi hj (hl (j, u) List.mem_cons_self)
    have hl' : ∀ x ∈ l, partE ops x (i, s) = true := fun x hx => hl x (List.mem_cons_of_mem _ hx)
    have back : ∀ (v : Value) (γ1 : Gh), Gh.agree s.use γ γ1 → OpE P ops I oi (a.put oj.dst v) γ1 s → OpE P ops I oi a γ s := fun v γ1 hg hE =>
      OpE.congr (wanted_eq hap).symm (execOp_put (ops := ops) oi (fun cs b => hsel i oi cs b hi) a oj.dst v (Oper.apart_spec hap).1).symm (agree_symm hg) hE
    cases u with
    | val use f =>
      exact back _ γ (fun _ _ => rfl) (SeqE.frontE hsel hi l m _ _ hl' h2 hw)
    | eff use res link =>
      obtain ⟨w, hI⟩ := hw
      obtain ⟨v, w', x, hx, hI'⟩ := (h1.2.2 γ w (fun _ _ => rfl) hI).some
      exact back v (γ.set res x) (agree_set p1) (SeqE.frontE hsel hi l m _ _ hl' (h2 v x hx) ⟨w', hI'⟩)
theorem SeqE.frontN {K : Act → Gh → Prop} (hsel : ∀ (j : Nat) (o : Oper) cs b, ops[j]? = some o → o.op ≠ .select cs b) {i : Nat} {s : Ef} {oi : Oper} (hi : ops[i]? = some oi) :
    ∀ (l m : List (Nat × Ef)) (a : Act) (γ : Gh), (∀ x ∈ l, partE ops x (i, s) = true) → OpE P ops I oi a γ s → SeqE P ops I K (l ++ (i, s) :: m) a γ → Next_ P ops I K (l ++ m) oi a γ s
  | [], m, a, γ, _, _, h => by
    obtain ⟨o, ho, _, h2⟩ := seqE_cons.1 h
    rw [hi] at ho
    cases ho
    exact h2
  | (j, u) :: l, m, a, γ, hl, hE, h => by
    obtain ⟨oj, hj, h1, h2⟩ := seqE_cons.1 h
    obtain ⟨hap, p1, p2, p3⟩ := partE_spec hi hj (hl (j, u) List.mem_cons_self)
    have hl' : ∀ x ∈ l, partE ops x (i, s) = true := fun x hx => hl x (List.mem_cons_of_mem _ hx)
    have fwd : ∀ (v : Value) (γ1 : Gh), Gh.agree s.use γ γ1 → OpE P ops I oi (a.put oj.dst v) γ1 s := fun v γ1 hg =>
      OpE.congr (wanted_eq hap) (execOp_put (ops := ops) oi (fun cs b => hsel i oi cs b hi) a oj.dst v (Oper.apart_spec hap).1) hg hE
    have fwj : ∀ (v : Value) (γ1 : Gh), Gh.agree u.use γ γ1 → OpE P ops I oj (a.put oi.dst v) γ1 u := fun v γ1 hg =>
      OpE.congr (wanted_eq' hap) (execOp_put (ops := ops) oj (fun cs b => hsel j oj cs b hj) a oi.dst v (Oper.apart_spec hap).2.2) hg h1
    have hc := (Oper.apart_spec hap).2.1
    cases u with
    | val use f =>
      have h3 := SeqE.frontN hsel hi l m _ _ hl' (fwd (f γ) γ (fun _ _ => rfl)) h2
      cases s with
      | val use' f' =>
        refine seqE_cons.2 ⟨oj, hj, fwj _ γ (fun _ _ => rfl), ?_⟩
        show SeqE P ops I K (l ++ m) ((a.put oi.dst (f' γ)).put oj.dst (f γ)) γ
        rw [← Act.put_comm a _ _ hc]
        exact h3
      | eff use' res' link' =>
        intro v x hx
        have hg : Gh.agree use γ (γ.set res' x) := agree_set p2
        refine seqE_cons.2 ⟨oj, hj, fwj v _ hg, ?_⟩
        show SeqE P ops I K (l ++ m) ((a.put oi.dst v).put oj.dst (f (γ.set res' x))) (γ.set res' x)
        rw [h1.1 _ hg, ← Act.put_comm a _ _ hc]
        exact h3 v x hx
    | eff use res link =>
      cases s with
      | val use' f' =>
        refine seqE_cons.2 ⟨oj, hj, fwj _ γ (fun _ _ => rfl), fun v x hx => ?_⟩
        have hg : Gh.agree use' γ (γ.set res x) := agree_set p1
        have h3 := SeqE.frontN hsel hi l m _ _ hl' (fwd v _ hg) (h2 v x hx)
        have h4 : SeqE P ops I K (l ++ m) ((a.put oj.dst v).put oi.dst (f' (γ.set res x))) (γ.set res x) := h3
        rw [hE.1 _ hg, Act.put_comm a _ _ hc] at h4
        exact h4
      | eff use' res' link' =>
        intro v' x' hx'
        have hgj : Gh.agree use γ (γ.set res' x') := agree_set p2
        refine seqE_cons.2 ⟨oj, hj, fwj v' _ hgj, fun v x hx => ?_⟩
        rw [h1.1 _ hgj] at hx
        have hg : Gh.agree use' γ (γ.set res x) := agree_set p1
        have h3 := SeqE.frontN hsel hi l m _ _ hl' (fwd v _ hg) (h2 v x hx)
        have h4 : SeqE P ops I K (l ++ m) ((a.put oj.dst v).put oi.dst v') ((γ.set res x).set res' x') := h3 v' x' (by rw [hE.1 _ hg]; exact hx')
        rw [Act.put_comm a _ _ hc, show (γ.set res x).set res' x' = (γ.set res' x').set res x from set_comm p3] at h4
        exact h4

/-- As 'orderly', with what the operations do. -/
def orderlyE (ops : Array Oper) (sp : Nat → Ef) : Bool :=
  Region.noSelect ops && ((List.range ops.size).all fun j =>
    (((ops[j]?).map fun o => o.after.all fun e => !Region.binds .any e || decide (e.on < j)).getD true) &&
    (List.range j).all fun i => follows ops i j || partE ops (i, sp i) (j, sp j))

theorem wpAny_seqE {Q : Exit → Act → World → Prop} {K : Act → Gh → Prop} (sp : Nat → Ef) (ho : orderlyE ops sp = true) (hQ : ∀ a γ, K a γ → ∀ w, I γ w → Q .normal a w) :
    ∀ (fuel : Nat) (listed : Array Bool) (a : Act) (γ : Gh) (w : World), (rest ops listed).length ≤ fuel → I γ w →
      SeqE P ops I K ((rest ops listed).map fun i => (i, sp i)) a γ → wpAny P .any ops Q fuel listed a w := by
  simp only [orderlyE, Bool.and_eq_true, List.all_eq_true, List.mem_range] at ho
  obtain ⟨hns, ho⟩ := ho
  have hsel := Region.noSelect_spec hns
  have hready := ready_rest (ops := ops) (fun j hj => (ho j hj).1)
  intro fuel
  induction fuel with
  | zero =>
    intro listed a γ w hf hG hS
    have h0 : rest ops listed = [] := List.eq_nil_of_length_eq_zero (by omega)
    have hr : Region.ready .any ops listed = [] := by
      refine List.eq_nil_iff_forall_not_mem.2 fun i hi => ?_
      obtain ⟨h1, o, h2, _⟩ := mem_ready.1 hi
      have : i ∈ rest ops listed := by
        simp only [rest, List.mem_filter, List.mem_range]
        exact ⟨(Array.getElem?_eq_some_iff.1 h2).1, by rw [h1]; rfl⟩
      rw [h0] at this
      cases this
    rw [h0] at hS
    exact ⟨hr, hQ a γ hS w hG⟩
  | succ fuel ih =>
    intro listed a γ w hf hG hS
    refine ⟨fun hr => ?_, fun i hi => ?_⟩
    · rw [hready listed hr] at hS
      exact hQ a γ hS w hG
    · obtain ⟨h1, oi, h2, h3⟩ := mem_ready.1 hi
      have hlt := (Array.getElem?_eq_some_iff.1 h2).1
      obtain ⟨e1, e2⟩ := rest_parts (ops := ops) hlt h1
      rw [e1, List.map_append, List.map_cons] at hS
      rw [e1] at hf
      have hfront : ∀ x ∈ ((List.range i).filter (fun j => !listed.getD j true)).map (fun i => (i, sp i)), partE ops x (i, sp i) = true := by
        intro x hx
        obtain ⟨j, hj, rfl⟩ := List.mem_map.1 hx
        simp only [List.mem_filter, List.mem_range, Bool.not_eq_true'] at hj
        have h4 := (ho i hlt).2 j hj.1
        simp only [Bool.or_eq_true] at h4
        rcases h4 with h4 | h4
        · exfalso
          unfold follows at h4
          rw [h2] at h4
          simp only [Option.map_some, Option.getD_some] at h4
          obtain ⟨e, he, hb⟩ := Array.any_eq_true'.1 h4
          simp only [Bool.and_eq_true, beq_iff_eq] at hb
          have h5 := h3 e he hb.1
          rw [hb.2] at h5
          have h6 := hj.2
          rcases Nat.lt_or_ge j listed.size with h | h
          · simp [h] at h5 h6
            rw [h6] at h5
            cases h5
          · simp [Array.getElem?_eq_none h] at h6
        · exact h4
      have h4 := SeqE.frontE hsel h2 _ _ a γ hfront hS ⟨w, hG⟩
      have h5 := SeqE.frontN hsel h2 _ _ a γ hfront h4 hS
      rw [← List.map_append, ← e2] at h5
      have hlen : (rest ops (listed.setIfInBounds i true)).length ≤ fuel := by
        rw [e2]
        simp only [List.length_append, List.length_cons] at hf ⊢
        omega
      unfold wpOp
      rw [h2]
      simp only
      cases hs : sp i with
      | val use f =>
        rw [hs] at h4 h5
        obtain ⟨_, h4⟩ := h4
        by_cases hw : Region.wanted oi (yielded ops a.tmps) = true
        · rw [if_pos hw] at h4 ⊢
          refine .inl ?_
          have h6 := h4 γ w (fun _ _ => rfl) hG
          exact Res.wp (F := fun w' => I γ w') h6 fun w' hF' => ih _ _ γ w' hlen hF' h5
        · rw [if_neg hw] at h4 ⊢
          have h5 : SeqE P ops I K _ (a.put oi.dst (f γ)) γ := h5
          rw [h4] at h5
          exact ih _ _ γ w hlen hG h5
      | eff use res link =>
        rw [hs] at h4 h5
        obtain ⟨_, hw, h4⟩ := h4
        rw [if_pos hw]
        refine .inl ?_
        have h6 := h4 γ w (fun _ _ => rfl) hG
        unfold Res at h6
        unfold Oper.wp
        generalize (execOp a.eval oi).run P w = q at h6 ⊢
        match q, h6 with
        | .ok (.value v') w', h6 =>
          obtain ⟨x, hx, hI⟩ := h6
          exact ih _ _ _ _ hlen hI (h5 v' x hx)
        | .ok .skip w', h6 =>
          obtain ⟨x, hx, hI⟩ := h6
          exact ih _ _ _ _ hlen hI (h5 undef x hx)
        | .ok (.enter f args) w', h6 =>
          refine Calls.mono h6 ?_
          rintro e w'' ⟨v', rfl, x, hx, hI⟩
          exact ih _ _ _ _ hlen hI (h5 v' x hx)

/-- The same over the operations themselves. -/
def SeqF (P : Program) (ops : Array Oper) (I : Gh → World → Prop) (K : Act → Gh → Prop) : Nat → List Oper → List Ef → Act → Gh → Prop
  | _, [], _, a, γ => K a γ
  | i, o :: r, s :: ss, a, γ => OpE P ops I o a γ s ∧ match s with
    | .val _ f => SeqF P ops I K (i + 1) r ss (a.put o.dst (f γ)) γ
    | .eff _ res link => ∀ v x, link γ v x → SeqF P ops I K (i + 1) r ss (a.put o.dst v) (γ.set res x)
  | _, _ :: _, [], _, _ => False
theorem SeqE.of_list {K : Act → Gh → Prop} (sp : Nat → Ef) (l : List Oper) : ∀ (k : Nat) (ss : List Ef) (a : Act) (γ : Gh), (∀ j, l[j]? = ops[k + j]?) → (∀ j, j < l.length → ss[j]? = some (sp (k + j))) →
    SeqF P ops I K k l ss a γ → SeqE P ops I K ((List.range' k l.length).map fun i => (i, sp i)) a γ := by
  induction l with
  | nil => intro k ss a γ _ _ h; cases ss <;> exact h
  | cons o l ih =>
    intro k ss a γ hl hs h
    have h0 : ops[k]? = some o := by simpa using (hl 0).symm
    have hs0 := hs 0 (by simp)
    cases ss with
    | nil => exact h.elim
    | cons s ss =>
      simp only [List.getElem?_cons_zero, Option.some.injEq, Nat.add_zero] at hs0
      rw [List.length_cons, List.range'_succ, List.map_cons]
      have step : ∀ a' γ', SeqF P ops I K (k + 1) l ss a' γ' → SeqE P ops I K ((List.range' (k + 1) l.length).map fun i => (i, sp i)) a' γ' := fun a' γ' h =>
        ih (k + 1) ss a' γ' (fun j => by have := hl (j + 1); simpa [Nat.add_assoc, Nat.add_comm 1 j] using this) (fun j hj => by have := hs (j + 1) (by simpa using hj); simpa [Nat.add_assoc, Nat.add_comm 1 j] using this) h
      rw [← hs0]
      cases s with
      | val use f =>
        obtain ⟨h1, h2⟩ := h
        exact ⟨o, h0, h1, step _ _ h2⟩
      | eff use res link =>
        obtain ⟨h1, h2⟩ := h
        exact ⟨o, h0, h1, fun v x hx => step _ _ (h2 v x hx)⟩
/-- What follows the region. -/
def ThenE (I : Gh → World → Prop) (Q : Exit → Act → World → Prop) (a : Act) (γ : Gh) : Prop := ∀ w', I γ w' → Q .normal a w'
/-- A region that draws its order, walked in the order of the text. -/
theorem wp_region_eff {Q : Exit → Act → World → Prop} {id : Nat} {a : Act} {w : World} {l : List Oper} (I : Gh → World → Prop) (γ : Gh) (hI : I γ w.drew) (ss : List Ef) (hm : P.follows .mixedOrders = true) (hl : ss.length = l.length) (ho : orderlyE l.toArray (fun i => ss.getD i (.val [] fun _ => undef)) = true)
    (h : SeqF P l.toArray I (ThenE I Q) 0 l ss a γ) : (Code.region id l.toArray true).wp P Q a w := by
  have er : rest l.toArray (Array.replicate l.toArray.size false) = List.range l.toArray.size := by
    unfold rest
    refine List.filter_eq_self.2 fun i hi => ?_
    have : i < l.length := by simpa using List.mem_range.1 hi
    simp [this]
  refine wp_region_any hm ?_
  refine wpAny_seqE (P := P) (I := I) (K := ThenE I Q) (fun i => ss.getD i (.val [] fun _ => undef)) ho (fun a γ h w' h1 => h w' h1) l.toArray.size _ a γ _ (by rw [er]; simp) hI ?_
  rw [er, List.range_eq_range']
  have := SeqE.of_list (ops := l.toArray) (I := I) (P := P) (K := ThenE I Q) (fun i => ss.getD i (.val [] fun _ => undef)) l 0 ss a γ (by simp) (fun j hj => by simp [List.getD_eq_getElem?_getD, List.getElem?_eq_getElem (show j < ss.length by omega)]) h
  simpa using this
section
variable {K : Act → Gh → Prop} {i : Nat} {o : Oper} {r : List Oper} {ss : List Ef} {a : Act} {γ : Gh}
theorem SeqF.pure {v : Value} (hw : Region.wanted o (yielded ops a.tmps) = true) (h : ∀ w, (execOp a.eval o).run P w = .ok (.value v) w) (k : SeqF P ops I K (i + 1) r ss (a.put o.dst v) γ) : SeqF P ops I K i (o :: r) (.val [] (fun _ => v) :: ss) a γ :=
  ⟨⟨fun _ _ => rfl, by rw [if_pos hw]; intro γ' w _ hI; unfold Res; rw [h w]; exact ⟨rfl, hI⟩⟩, k⟩
theorem SeqF.skip (hw : Region.wanted o (yielded ops a.tmps) = false) (k : SeqF P ops I K (i + 1) r ss (a.put o.dst undef) γ) : SeqF P ops I K i (o :: r) (.val [] (fun _ => undef) :: ss) a γ :=
  ⟨⟨fun _ _ => rfl, by rw [if_neg (by rw [hw]; decide)]⟩, k⟩
/-- Memory is read, some resources among it. -/
theorem SeqF.read {v : Value} (use : List Nat) (hw : Region.wanted o (yielded ops a.tmps) = true) (h : ∀ γ' w, Gh.agree use γ γ' → I γ' w → (execOp a.eval o).run P w = .ok (.value v) w) (k : SeqF P ops I K (i + 1) r ss (a.put o.dst v) γ) : SeqF P ops I K i (o :: r) (.val use (fun _ => v) :: ss) a γ :=
  ⟨⟨fun _ _ => rfl, by rw [if_pos hw]; intro γ' w hg hI; unfold Res; rw [h γ' w hg hI]; exact ⟨rfl, hI⟩⟩, k⟩
/-- A value that hangs on resources (a new block's address). -/
theorem SeqF.dyn (use : List Nat) (f : Gh → Value) (hf : ∀ γ', Gh.agree use γ γ' → f γ' = f γ) (hw : Region.wanted o (yielded ops a.tmps) = true) (h : ∀ γ' w, Gh.agree use γ γ' → I γ' w → (execOp a.eval o).run P w = .ok (.value (f γ)) w) (k : SeqF P ops I K (i + 1) r ss (a.put o.dst (f γ)) γ) : SeqF P ops I K i (o :: r) (.val use f :: ss) a γ :=
  ⟨⟨hf, by rw [if_pos hw]; intro γ' w hg hI; unfold Res; rw [h γ' w hg hI]; exact ⟨rfl, hI⟩⟩, k⟩
/-- A call that gives one value and leaves all resources. -/
theorem SeqF.call {v : Value} (use : List Nat) (f : FuncId) (args : Array Value) (hw : Region.wanted o (yielded ops a.tmps) = true) (he : ∀ w, (execOp a.eval o).run P w = .ok (.enter f args) w)
    (h : ∀ γ' w, Gh.agree use γ γ' → I γ' w → Calls P f args w fun e w' => e = .returned v ∧ I γ' w') (k : SeqF P ops I K (i + 1) r ss (a.put o.dst v) γ) : SeqF P ops I K i (o :: r) (.val use (fun _ => v) :: ss) a γ :=
  ⟨⟨fun _ _ => rfl, by
    rw [if_pos hw]
    intro γ' w hg hI
    unfold Res
    rw [he w]
    exact (h γ' w hg hI).mono fun e w' ⟨h1, h2⟩ => ⟨v, h1, rfl, h2⟩⟩, k⟩
/-- A call that turns a resource. -/
theorem SeqF.callE (use : List Nat) (res : Option Nat) (link : Gh → Value → Option (Nat × Obj) → Prop) (f : FuncId) (args : Array Value) (hlk : ∀ γ', Gh.agree use γ γ' → link γ' = link γ) (hw : Region.wanted o (yielded ops a.tmps) = true) (he : ∀ w, (execOp a.eval o).run P w = .ok (.enter f args) w)
    (h : ∀ γ' w, Gh.agree use γ γ' → I γ' w → Calls P f args w fun e w' => ∃ v x, e = .returned v ∧ link γ v x ∧ I (γ'.set res x) w') (k : ∀ v x, link γ v x → SeqF P ops I K (i + 1) r ss (a.put o.dst v) (γ.set res x)) : SeqF P ops I K i (o :: r) (.eff use res link :: ss) a γ :=
  ⟨⟨hlk, hw, by
    intro γ' w hg hI
    unfold Res
    rw [he w]
    exact (h γ' w hg hI).mono fun e w' ⟨v, x, h1, h2, h3⟩ => ⟨v, h1, x, h2, h3⟩⟩, k⟩
/-- An operation that turns a resource and gives a value. -/
theorem SeqF.eff (use : List Nat) (res : Option Nat) (link : Gh → Value → Option (Nat × Obj) → Prop) (hlk : ∀ γ', Gh.agree use γ γ' → link γ' = link γ) (hw : Region.wanted o (yielded ops a.tmps) = true)
    (h : ∀ γ' w, Gh.agree use γ γ' → I γ' w → ∃ v x w', ((execOp a.eval o).run P w = .ok (.value v) w' ∨ ((execOp a.eval o).run P w = .ok .skip w' ∧ v = undef)) ∧ link γ v x ∧ I (γ'.set res x) w') (k : ∀ v x, link γ v x → SeqF P ops I K (i + 1) r ss (a.put o.dst v) (γ.set res x)) : SeqF P ops I K i (o :: r) (.eff use res link :: ss) a γ :=
  ⟨⟨hlk, hw, by
    intro γ' w hg hI
    obtain ⟨v, x, w', hr, h2, h3⟩ := h γ' w hg hI
    unfold Res
    rcases hr with hr | ⟨hr, rfl⟩
    · rw [hr]; exact ⟨x, h2, h3⟩
    · rw [hr]; exact ⟨x, h2, h3⟩⟩, k⟩
theorem SeqF.done {Q : Exit → Act → World → Prop} (h : ∀ w', I γ w' → Q .normal a w') : SeqF P ops I (ThenE I Q) i [] [] a γ := h
end
end
end Go.Proofs.Ytgkiedbefogklaa
