/- What is proved: as in the text OrderTrail, for regions whose calls may panic: what holds then is told by a predicate on the panic and the world; the condition 'orderlyT' is checked by the kernel at each use. -/
import Derived.Test.YtgkiedbefogklaaOrderTrail
set_option linter.unusedSimpArgs false
set_option linter.unusedVariables false
namespace Go.Proofs.Ytgkiedbefogklaa
open Go.RowKit
set_option maxHeartbeats 2000000
section
variable {P : Program} {D : List PanicEntry → World → Prop} {ops : Array Oper} {I : Gh → World → Prop}
theorem put_defers (a : Act) (d : Option Tmp) (v : Value) : (a.put d v).defers = a.defers := by cases d <;> rfl
def ResP (P : Program) (D : List PanicEntry → World → Prop) (o : Oper) (r : Operand → Value) (w : World) (R : Value → World → Prop) : Prop :=
  match (execOp r o).run P w with
  | .ok (.value v) w' => R v w'
  | .ok .skip w' => R undef w'
  | .ok (.enter f args) w' => Calls P f args w' fun e w'' => (∃ v, e = .returned v ∧ R v w'') ∨ ∃ c, e = .panicked c ∧ D c w''
  | _ => False
def OpP (P : Program) (D : List PanicEntry → World → Prop) (ops : Array Oper) (I : Gh → World → Prop) (o : Oper) (a : Act) (γ : Gh) : Ef → Prop
  | .val use f => (∀ γ', Gh.agree use γ γ' → f γ' = f γ) ∧ if Region.wanted o (yielded ops a.tmps) then ∀ γ' w, Gh.agree use γ γ' → I γ' w → Res P o a.eval w (fun v' w' => v' = f γ ∧ I γ' w') else f γ = undef
  | .eff use res link => (∀ γ', Gh.agree use γ γ' → link γ' = link γ) ∧ Region.wanted o (yielded ops a.tmps) = true ∧ (∃ v x, link γ v x) ∧ ∀ γ' w, Gh.agree use γ γ' → I γ' w → ResP P D o a.eval w (fun v' w' => ∃ x, link γ v' x ∧ I (γ'.set res x) w')
def SeqP (P : Program) (D : List PanicEntry → World → Prop) (ops : Array Oper) (I : Gh → World → Prop) (K : Act → Gh → Prop) : List (Nat × Ef) → Act → Gh → Prop
  | [], a, γ => K a γ
  | (i, s) :: r, a, γ => ∃ o, ops[i]? = some o ∧ OpP P D ops I o a γ s ∧ match s with
    | .val _ f => SeqP P D ops I K r (a.put o.dst (f γ)) γ
    | .eff _ res link => ∀ v x, link γ v x → SeqP P D ops I K r (a.put o.dst v) (γ.set res x)
/-- What i does doesn't hang on a frame and on resources that j has turned. -/
theorem OpP.congr {o : Oper} {a a' : Act} {γ γ1 : Gh} {s : Ef} (hw : Region.wanted o (yielded ops a'.tmps) = Region.wanted o (yielded ops a.tmps)) (he : execOp a'.eval o = execOp a.eval o) (hR : Gh.agree s.use γ γ1)
    (h : OpP P D ops I o a γ s) : OpP P D ops I o a' γ1 s := by
  cases s with
  | val use f =>
    obtain ⟨h1, h2⟩ := h
    have e := h1 γ1 hR
    refine ⟨fun γ' h => (h1 γ' (agree_trans hR h)).trans e.symm, ?_⟩
    unfold Res at h2 ⊢
    rw [hw, he, e]
    by_cases hw' : Region.wanted o (yielded ops a.tmps) = true
    · rw [if_pos hw'] at h2 ⊢
      exact fun γ' w h => h2 γ' w (agree_trans hR h)
    · rw [if_neg hw'] at h2 ⊢
      exact h2
  | eff use res link =>
    obtain ⟨h1, h2, hne, h3⟩ := h
    have e := h1 γ1 hR
    refine ⟨fun γ' h => (h1 γ' (agree_trans hR h)).trans e.symm, by rw [hw]; exact h2, by rw [e]; exact hne, ?_⟩
    unfold ResP at h3 ⊢
    rw [he, e]
    exact fun γ' w h => h3 γ' w (agree_trans hR h)
def NextP (P : Program) (D : List PanicEntry → World → Prop) (ops : Array Oper) (I : Gh → World → Prop) (K : Act → Gh → Prop) (r : List (Nat × Ef)) (o : Oper) (a : Act) (γ : Gh) : Ef → Prop
  | .val _ f => SeqP P D ops I K r (a.put o.dst (f γ)) γ
  | .eff _ res link => ∀ v x, link γ v x → SeqP P D ops I K r (a.put o.dst v) (γ.set res x)
theorem seqP_cons {K : Act → Gh → Prop} {i : Nat} {s : Ef} {r : List (Nat × Ef)} {a : Act} {γ : Gh} : SeqP P D ops I K ((i, s) :: r) a γ ↔ ∃ o, ops[i]? = some o ∧ OpP P D ops I o a γ s ∧ NextP P D ops I K r o a γ s := by
  cases s <;> rfl

/-- The operation i, ahead of those that it waits for none of, may be carried out now. -/
theorem SeqP.frontE {K : Act → Gh → Prop} (hsel : ∀ (j : Nat) (o : Oper) cs b, ops[j]? = some o → o.op ≠ .select cs b) {i : Nat} {s : Ef} {oi : Oper} (hi : ops[i]? = some oi) :
    ∀ (l m : List (Nat × Ef)) (a : Act) (γ : Gh), (∀ x ∈ l, partE ops x (i, s) = true) → SeqP P D ops I K (l ++ (i, s) :: m) a γ → OpP P D ops I oi a γ s
  | [], m, a, γ, _, h => by
    obtain ⟨o, ho, h1, _⟩ := seqP_cons.1 h
    rw [hi] at ho
    cases ho
    exact h1
  | (j, u) :: l, m, a, γ, hl, h => by
    obtain ⟨oj, hj, h1, h2⟩ := seqP_cons.1 h
    obtain ⟨hap, p1, p2, p3⟩ := partE_spec hi hj (hl (j, u) List.mem_cons_self)
    have hl' : ∀ x ∈ l, partE ops x (i, s) = true := fun x hx => hl x (List.mem_cons_of_mem _ hx)
    have back : ∀ (v : Value) (γ1 : Gh), Gh.agree s.use γ γ1 → OpP P D ops I oi (a.put oj.dst v) γ1 s → OpP P D ops I oi a γ s := fun v γ1 hg hE =>
      OpP.congr (wanted_eq hap).symm (execOp_put (ops := ops) oi (fun cs b => hsel i oi cs b hi) a oj.dst v (Oper.apart_spec hap).1).symm (agree_symm hg) hE
    cases u with
    | val use f =>
      exact back _ γ (fun _ _ => rfl) (SeqP.frontE hsel hi l m _ _ hl' h2)
    | eff use res link =>
      obtain ⟨v, x, hx⟩ := h1.2.2.1
      exact back v (γ.set res x) (agree_set p1) (SeqP.frontE hsel hi l m _ _ hl' (h2 v x hx))
theorem SeqP.frontN {K : Act → Gh → Prop} (hsel : ∀ (j : Nat) (o : Oper) cs b, ops[j]? = some o → o.op ≠ .select cs b) {i : Nat} {s : Ef} {oi : Oper} (hi : ops[i]? = some oi) :
    ∀ (l m : List (Nat × Ef)) (a : Act) (γ : Gh), (∀ x ∈ l, partE ops x (i, s) = true) → OpP P D ops I oi a γ s → SeqP P D ops I K (l ++ (i, s) :: m) a γ → NextP P D ops I K (l ++ m) oi a γ s
  | [], m, a, γ, _, _, h => by
    obtain ⟨o, ho, _, h2⟩ := seqP_cons.1 h
    rw [hi] at ho
    cases ho
    exact h2
  | (j, u) :: l, m, a, γ, hl, hE, h => by
    obtain ⟨oj, hj, h1, h2⟩ := seqP_cons.1 h
    obtain ⟨hap, p1, p2, p3⟩ := partE_spec hi hj (hl (j, u) List.mem_cons_self)
    have hl' : ∀ x ∈ l, partE ops x (i, s) = true := fun x hx => hl x (List.mem_cons_of_mem _ hx)
    have fwd : ∀ (v : Value) (γ1 : Gh), Gh.agree s.use γ γ1 → OpP P D ops I oi (a.put oj.dst v) γ1 s := fun v γ1 hg =>
      OpP.congr (wanted_eq hap) (execOp_put (ops := ops) oi (fun cs b => hsel i oi cs b hi) a oj.dst v (Oper.apart_spec hap).1) hg hE
    have fwj : ∀ (v : Value) (γ1 : Gh), Gh.agree u.use γ γ1 → OpP P D ops I oj (a.put oi.dst v) γ1 u := fun v γ1 hg =>
      OpP.congr (wanted_eq' hap) (execOp_put (ops := ops) oj (fun cs b => hsel j oj cs b hj) a oi.dst v (Oper.apart_spec hap).2.2) hg h1
    have hc := (Oper.apart_spec hap).2.1
    cases u with
    | val use f =>
      have h3 := SeqP.frontN hsel hi l m _ _ hl' (fwd (f γ) γ (fun _ _ => rfl)) h2
      cases s with
      | val use' f' =>
        refine seqP_cons.2 ⟨oj, hj, fwj _ γ (fun _ _ => rfl), ?_⟩
        show SeqP P D ops I K (l ++ m) ((a.put oi.dst (f' γ)).put oj.dst (f γ)) γ
        rw [← Act.put_comm a _ _ hc]
        exact h3
      | eff use' res' link' =>
        intro v x hx
        have hg : Gh.agree use γ (γ.set res' x) := agree_set p2
        refine seqP_cons.2 ⟨oj, hj, fwj v _ hg, ?_⟩
        show SeqP P D ops I K (l ++ m) ((a.put oi.dst v).put oj.dst (f (γ.set res' x))) (γ.set res' x)
        rw [h1.1 _ hg, ← Act.put_comm a _ _ hc]
        exact h3 v x hx
    | eff use res link =>
      cases s with
      | val use' f' =>
        refine seqP_cons.2 ⟨oj, hj, fwj _ γ (fun _ _ => rfl), fun v x hx => ?_⟩
        have hg : Gh.agree use' γ (γ.set res x) := agree_set p1
        have h3 := SeqP.frontN hsel hi l m _ _ hl' (fwd v _ hg) (h2 v x hx)
        have h4 : SeqP P D ops I K (l ++ m) ((a.put oj.dst v).put oi.dst (f' (γ.set res x))) (γ.set res x) := h3
        rw [hE.1 _ hg, Act.put_comm a _ _ hc] at h4
        exact h4
      | eff use' res' link' =>
        intro v' x' hx'
        have hgj : Gh.agree use γ (γ.set res' x') := agree_set p2
        refine seqP_cons.2 ⟨oj, hj, fwj v' _ hgj, fun v x hx => ?_⟩
        rw [h1.1 _ hgj] at hx
        have hg : Gh.agree use' γ (γ.set res x) := agree_set p1
        have h3 := SeqP.frontN hsel hi l m _ _ hl' (fwd v _ hg) (h2 v x hx)
        have h4 : SeqP P D ops I K (l ++ m) ((a.put oj.dst v).put oi.dst v') ((γ.set res x).set res' x') := h3 v' x' (by rw [hE.1 _ hg]; exact hx')
        rw [Act.put_comm a _ _ hc, show (γ.set res x).set res' x' = (γ.set res' x').set res x from set_comm p3] at h4
        exact h4

theorem wpAny_seqP {Q : Exit → Act → World → Prop} {K : Act → Gh → Prop} (sp : Nat → Ef) (ho : orderlyT ops sp = true) (hQ : ∀ a γ, K a γ → ∀ w, I γ w → Q .normal a w) (hD : ∀ c a w, a.defers = [] → D c w → Q (.panic c) a w) :
    ∀ (fuel : Nat) (listed : Array Bool) (a : Act) (γ : Gh) (w : World), a.defers = [] → (rest ops listed).length ≤ fuel → Shut ops listed → I γ w →
      SeqP P D ops I K ((rest ops listed).map fun i => (i, sp i)) a γ → wpAny P .any ops Q fuel listed a w := by
  simp only [orderlyT, Bool.and_eq_true, List.all_eq_true, List.mem_range] at ho
  obtain ⟨hns, ho⟩ := ho
  have hsel := Region.noSelect_spec hns
  have hready := ready_rest (ops := ops) (fun j hj => (ho j hj).1)
  intro fuel
  induction fuel with
  | zero =>
    intro listed a γ w ha hf hSh hG hS
    have h0 : rest ops listed = [] := List.eq_nil_of_length_eq_zero (by omega)
    have hr : Region.ready .any ops listed = [] := by
      refine List.eq_nil_iff_forall_not_mem.2 fun i hi => ?_
      obtain ⟨h1, o, h2, _⟩ := mem_ready.1 hi
      have : i ∈ rest ops listed := by
        simp only [rest, List.mem_filter, List.mem_range]
        exact ⟨(Array.getElem?_eq_some_iff.1 h2).1, by rw [h1]; rfl⟩
      rw [h0] at this
      cases this
    rw [h0] at hS
    exact ⟨hr, hQ a γ hS w hG⟩
  | succ fuel ih =>
    intro listed a γ w ha hf hSh hG hS
    refine ⟨fun hr => ?_, fun i hi => ?_⟩
    · rw [hready listed hr] at hS
      exact hQ a γ hS w hG
    · obtain ⟨h1, oi, h2, h3⟩ := mem_ready.1 hi
      have hlt := (Array.getElem?_eq_some_iff.1 h2).1
      obtain ⟨e1, e2⟩ := rest_parts (ops := ops) hlt h1
      rw [e1, List.map_append, List.map_cons] at hS
      rw [e1] at hf
      have hfront : ∀ x ∈ ((List.range i).filter (fun j => !listed.getD j true)).map (fun i => (i, sp i)), partE ops x (i, sp i) = true := by
        intro x hx
        obtain ⟨j, hj, rfl⟩ := List.mem_map.1 hx
        simp only [List.mem_filter, List.mem_range, Bool.not_eq_true'] at hj
        have h4 := (ho i hlt).2 j hj.1
        simp only [Bool.or_eq_true] at h4
        rcases h4 with (h4 | h4) | h4
        · exfalso
          unfold follows at h4
          rw [h2] at h4
          simp only [Option.map_some, Option.getD_some] at h4
          obtain ⟨e, he, hb⟩ := Array.any_eq_true'.1 h4
          simp only [Bool.and_eq_true, beq_iff_eq] at hb
          have h5 := h3 e he hb.1
          rw [hb.2] at h5
          have h6 := hj.2
          rcases Nat.lt_or_ge j listed.size with h | h
          · simp [h] at h5 h6
            rw [h6] at h5
            cases h5
          · simp [Array.getElem?_eq_none h] at h6
        · exact h4
        · exfalso
          have h5 := hSh.trails 8 i oi h2 h3 h4
          have h6 := hj.2
          rcases Nat.lt_or_ge j listed.size with h | h
          · simp [h] at h5 h6
            rw [h6] at h5
            cases h5
          · simp [Array.getElem?_eq_none h] at h6
      have h4 := SeqP.frontE hsel h2 _ _ a γ hfront hS
      have h5 := SeqP.frontN hsel h2 _ _ a γ hfront h4 hS
      rw [← List.map_append, ← e2] at h5
      have hlen : (rest ops (listed.setIfInBounds i true)).length ≤ fuel := by
        rw [e2]
        simp only [List.length_append, List.length_cons] at hf ⊢
        omega
      have hSh2 := hSh.set h2 h3
      unfold wpOp
      rw [h2]
      simp only
      cases hs : sp i with
      | val use f =>
        rw [hs] at h4 h5
        obtain ⟨_, h4⟩ := h4
        by_cases hw : Region.wanted oi (yielded ops a.tmps) = true
        · rw [if_pos hw] at h4 ⊢
          refine .inl ?_
          have h6 := h4 γ w (fun _ _ => rfl) hG
          exact Res.wp (F := fun w' => I γ w') h6 fun w' hF' => ih _ _ γ w' ((put_defers _ _ _).trans ha) hlen hSh2 hF' h5
        · rw [if_neg hw] at h4 ⊢
          have h5 : SeqP P D ops I K _ (a.put oi.dst (f γ)) γ := h5
          rw [h4] at h5
          exact ih _ _ γ w ((put_defers _ _ _).trans ha) hlen hSh2 hG h5
      | eff use res link =>
        rw [hs] at h4 h5
        obtain ⟨_, hw, _, h4⟩ := h4
        rw [if_pos hw]
        refine .inl ?_
        have h6 := h4 γ w (fun _ _ => rfl) hG
        unfold ResP at h6
        unfold Oper.wp
        generalize (execOp a.eval oi).run P w = q at h6 ⊢
        match q, h6 with
        | .ok (.value v') w', h6 =>
          obtain ⟨x, hx, hI⟩ := h6
          exact ih _ _ _ _ ((put_defers _ _ _).trans ha) hlen hSh2 hI (h5 v' x hx)
        | .ok .skip w', h6 =>
          obtain ⟨x, hx, hI⟩ := h6
          exact ih _ _ _ _ ((put_defers _ _ _).trans ha) hlen hSh2 hI (h5 undef x hx)
        | .ok (.enter f args) w', h6 =>
          refine Calls.mono h6 ?_
          rintro e w'' (⟨v', rfl, x, hx, hI⟩ | ⟨c, rfl, hd⟩)
          · exact ih _ _ _ _ ((put_defers _ _ _).trans ha) hlen hSh2 hI (h5 v' x hx)
          · exact hD c a w'' ha hd

/-- The same over the operations themselves. -/
def SeqG (P : Program) (D : List PanicEntry → World → Prop) (ops : Array Oper) (I : Gh → World → Prop) (K : Act → Gh → Prop) : Nat → List Oper → List Ef → Act → Gh → Prop
  | _, [], _, a, γ => K a γ
  | i, o :: r, s :: ss, a, γ => OpP P D ops I o a γ s ∧ match s with
    | .val _ f => SeqG P D ops I K (i + 1) r ss (a.put o.dst (f γ)) γ
    | .eff _ res link => ∀ v x, link γ v x → SeqG P D ops I K (i + 1) r ss (a.put o.dst v) (γ.set res x)
  | _, _ :: _, [], _, _ => False
theorem SeqP.of_list {K : Act → Gh → Prop} (sp : Nat → Ef) (l : List Oper) : ∀ (k : Nat) (ss : List Ef) (a : Act) (γ : Gh), (∀ j, l[j]? = ops[k + j]?) → (∀ j, j < l.length → ss[j]? = some (sp (k + j))) →
    SeqG P D ops I K k l ss a γ → SeqP P D ops I K ((List.range' k l.length).map fun i => (i, sp i)) a γ := by
  induction l with
  | nil => intro k ss a γ _ _ h; cases ss <;> exact h
  | cons o l ih =>
    intro k ss a γ hl hs h
    have h0 : ops[k]? = some o := by simpa using (hl 0).symm
    have hs0 := hs 0 (by simp)
    cases ss with
    | nil => exact h.elim
    | cons s ss =>
      simp only [List.getElem?_cons_zero, Option.some.injEq, Nat.add_zero] at hs0
      rw [List.length_cons, List.range'_succ, List.map_cons]
      have step : ∀ a' γ', SeqG P D ops I K (k + 1) l ss a' γ' → SeqP P D ops I K ((List.range' (k + 1) l.length).map fun i => (i, sp i)) a' γ' := fun a' γ' h =>
        ih (k + 1) ss a' γ' (fun j => by have := hl (j + 1); simpa [Nat.add_assoc, Nat.add_comm 1 j] using this) (fun j hj => by have := hs (j + 1) (by simpa using hj); simpa [Nat.add_assoc, Nat.add_comm 1 j] using this) h
      rw [← hs0]
      cases s with
      | val use f =>
        obtain ⟨h1, h2⟩ := h
        exact ⟨o, h0, h1, step _ _ h2⟩
      | eff use res link =>
        obtain ⟨h1, h2⟩ := h
        exact ⟨o, h0, h1, fun v x hx => step _ _ (h2 v x hx)⟩
/-- A region that draws its order, walked in the order of the text. -/
theorem wp_region_pan {Q : Exit → Act → World → Prop} {id : Nat} {a : Act} {w : World} {l : List Oper} (D : List PanicEntry → World → Prop) (hD : ∀ c a w, a.defers = [] → D c w → Q (.panic c) a w) (ha : a.defers = []) (I : Gh → World → Prop) (γ : Gh) (hI : I γ w.drew) (ss : List Ef) (hm : P.follows .mixedOrders = true) (hl : ss.length = l.length) (ho : orderlyT l.toArray (fun i => ss.getD i (.val [] fun _ => undef)) = true)
    (h : SeqG P D l.toArray I (ThenE I Q) 0 l ss a γ) : (Code.region id l.toArray true).wp P Q a w := by
  have er : rest l.toArray (Array.replicate l.toArray.size false) = List.range l.toArray.size := by
    unfold rest
    refine List.filter_eq_self.2 fun i hi => ?_
    have : i < l.length := by simpa using List.mem_range.1 hi
    simp [this]
  refine wp_region_any hm ?_
  refine wpAny_seqP (P := P) (D := D) (I := I) (K := ThenE I Q) (fun i => ss.getD i (.val [] fun _ => undef)) ho (fun a γ h w' h1 => h w' h1) hD l.toArray.size _ a γ _ ha (by rw [er]; simp) (fun j o _ hj => by simp [Array.getElem?_replicate] at hj; split at hj <;> simp at hj) hI ?_
  rw [er, List.range_eq_range']
  have := SeqP.of_list (ops := l.toArray) (I := I) (P := P) (D := D) (K := ThenE I Q) (fun i => ss.getD i (.val [] fun _ => undef)) l 0 ss a γ (by simp) (fun j hj => by simp [List.getD_eq_getElem?_getD, List.getElem?_eq_getElem (show j < ss.length by omega)]) h
  simpa using this
section
variable {K : Act → Gh → Prop} {i : Nat} {o : Oper} {r : List Oper} {ss : List Ef} {a : Act} {γ : Gh}
theorem SeqG.pure {v : Value} (hw : Region.wanted o (yielded ops a.tmps) = true) (h : ∀ w, (execOp a.eval o).run P w = .ok (.value v) w) (k : SeqG P D ops I K (i + 1) r ss (a.put o.dst v) γ) : SeqG P D ops I K i (o :: r) (.val [] (fun _ => v) :: ss) a γ :=
  ⟨⟨fun _ _ => rfl, by rw [if_pos hw]; intro γ' w _ hI; unfold Res; rw [h w]; exact ⟨rfl, hI⟩⟩, k⟩
theorem SeqG.read {v : Value} (use : List Nat) (hw : Region.wanted o (yielded ops a.tmps) = true) (h : ∀ γ' w, Gh.agree use γ γ' → I γ' w → (execOp a.eval o).run P w = .ok (.value v) w) (k : SeqG P D ops I K (i + 1) r ss (a.put o.dst v) γ) : SeqG P D ops I K i (o :: r) (.val use (fun _ => v) :: ss) a γ :=
  ⟨⟨fun _ _ => rfl, by rw [if_pos hw]; intro γ' w hg hI; unfold Res; rw [h γ' w hg hI]; exact ⟨rfl, hI⟩⟩, k⟩
/-- A call that may panic, and turns a resource else; the value is told ahead. -/
theorem SeqG.callP {v : Value} (use : List Nat) (res : Option Nat) (x : Option (Nat × Obj)) (f : FuncId) (args : Array Value) (hw : Region.wanted o (yielded ops a.tmps) = true) (he : ∀ w, (execOp a.eval o).run P w = .ok (.enter f args) w)
    (h : ∀ γ' w, Gh.agree use γ γ' → I γ' w → Calls P f args w fun e w' => (e = .returned v ∧ I (γ'.set res x) w') ∨ ∃ c, e = .panicked c ∧ D c w') (k : SeqG P D ops I K (i + 1) r ss (a.put o.dst v) (γ.set res x)) : SeqG P D ops I K i (o :: r) (.eff use res (fun _ v' x' => v' = v ∧ x' = x) :: ss) a γ :=
  ⟨⟨fun _ _ => rfl, hw, ⟨v, x, rfl, rfl⟩, by
    intro γ' w hg hI
    unfold ResP
    rw [he w]
    refine (h γ' w hg hI).mono ?_
    rintro e w' (⟨rfl, h1⟩ | h1)
    · exact .inl ⟨v, rfl, x, ⟨rfl, rfl⟩, h1⟩
    · exact .inr h1⟩, by rintro v' x' ⟨rfl, rfl⟩; exact k⟩
/-- An operation that turns a resource. -/
theorem SeqG.skips (use : List Nat) (res : Option Nat) (x : Option (Nat × Obj)) (hw : Region.wanted o (yielded ops a.tmps) = true)
    (h : ∀ γ' w, Gh.agree use γ γ' → I γ' w → ∃ w', (execOp a.eval o).run P w = .ok .skip w' ∧ I (γ'.set res x) w') (k : SeqG P D ops I K (i + 1) r ss (a.put o.dst undef) (γ.set res x)) : SeqG P D ops I K i (o :: r) (.eff use res (fun _ v' x' => v' = undef ∧ x' = x) :: ss) a γ :=
  ⟨⟨fun _ _ => rfl, hw, ⟨undef, x, rfl, rfl⟩, by
    intro γ' w hg hI
    obtain ⟨w', hr, h1⟩ := h γ' w hg hI
    unfold ResP
    rw [hr]
    exact ⟨x, ⟨rfl, rfl⟩, h1⟩⟩, by rintro v' x' ⟨rfl, rfl⟩; exact k⟩
theorem SeqG.done {Q : Exit → Act → World → Prop} (h : ∀ w', I γ w' → Q .normal a w') : SeqG P D ops I (ThenE I Q) i [] [] a γ := h
end
end
end Go.Proofs.Ytgkiedbefogklaa
