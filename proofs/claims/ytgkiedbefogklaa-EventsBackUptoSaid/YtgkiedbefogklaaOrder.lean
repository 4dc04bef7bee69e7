/- What is proved: a region whose operations Go may carry out in more than one order comes to what the order of the text comes to, where each operation gives one value in every world that meets F and leaves F; the condition 'orderly' is checked by the kernel at each use. -/
import Derived.Test.YtgkiedbefogklaaBase
import Derived.RegionTactic
set_option linter.unusedSimpArgs false
set_option linter.unusedVariables false
namespace Go.Proofs.Ytgkiedbefogklaa
open Go.RowKit

section
variable {P : Program} {ops : Array Oper} {F : World → Prop}

/-- What one operation comes to, its operands read by r. -/
def Res (P : Program) (o : Oper) (r : Operand → Value) (w : World) (R : Value → World → Prop) : Prop :=
  match (execOp r o).run P w with
  | .ok (.value v) w' => R v w'
  | .ok .skip w' => R undef w'
  | .ok (.enter f args) w' => Calls P f args w' fun e w'' => ∃ v, e = .returned v ∧ R v w''
  | _ => False

/-- Operation o at the frame a gives v, in every world that meets F, and leaves F; or it isn't carried out. -/
def OpTo (P : Program) (ops : Array Oper) (F : World → Prop) (o : Oper) (a : Act) (v : Value) : Prop :=
  if Region.wanted o (yielded ops a.tmps) then ∀ w, F w → Res P o a.eval w (fun v' w' => v' = v ∧ F w') else v = undef

def dstOf (ops : Array Oper) (i : Nat) : Option Tmp := (ops[i]?).bind (·.dst)

/-- The operations one behind another. -/
def Seq (P : Program) (ops : Array Oper) (F : World → Prop) (K : Act → Prop) : List Nat → Act → Prop
  | [], a => K a
  | i :: r, a => ∃ o v, ops[i]? = some o ∧ OpTo P ops F o a v ∧ Seq P ops F K r (a.put o.dst v)

def follows (ops : Array Oper) (i j : Nat) : Bool := ((ops[j]?).map fun o => o.after.any fun e => Region.binds .any e && e.on == i).getD false
/-- Two operations don't touch one another, or the first one is carried out first. Edges lead back in the text. -/
def orderly (ops : Array Oper) : Bool :=
  Region.noSelect ops && ((List.range ops.size).all fun j =>
    (((ops[j]?).map fun o => o.after.all fun e => !Region.binds .any e || decide (e.on < j)).getD true) &&
    (List.range j).all fun i => follows ops i j || match ops[i]?, ops[j]? with
      | some oi, some oj => oi.apart ops oj
      | _, _ => true)

theorem OpTo.put {oi oj : Oper} {vi vj : Value} {a : Act} (hap : oi.apart ops oj = true) (hsj : ∀ cs b, oj.op ≠ .select cs b) :
    OpTo P ops F oj (a.put oi.dst vi) vj ↔ OpTo P ops F oj a vj := by
  obtain ⟨h1, h2, h3⟩ := Oper.apart_spec hap
  unfold OpTo Res
  rw [wanted_put (ops := ops) oj a oi.dst vi h1, execOp_put (ops := ops) oj hsj a oi.dst vi h1]
theorem OpTo.put' {oi oj : Oper} {vi vj : Value} {a : Act} (hap : oi.apart ops oj = true) (hsi : ∀ cs b, oi.op ≠ .select cs b) :
    OpTo P ops F oi (a.put oj.dst vj) vi ↔ OpTo P ops F oi a vi := by
  obtain ⟨h1, h2, h3⟩ := Oper.apart_spec hap
  unfold OpTo Res
  rw [wanted_put (ops := ops) oi a oj.dst vj h3, execOp_put (ops := ops) oi hsi a oj.dst vj h3]

/-- An operation that waits for none ahead of it may be carried out first. -/
theorem Seq.front {K : Act → Prop} (hsel : ∀ (j : Nat) (o : Oper) cs b, ops[j]? = some o → o.op ≠ .select cs b) {i : Nat} {oi : Oper} (hi : ops[i]? = some oi) :
    ∀ (l : List Nat) (m : List Nat) (a : Act), (∀ j ∈ l, ∀ oj, ops[j]? = some oj → oj.apart ops oi = true) → Seq P ops F K (l ++ i :: m) a →
      ∃ v, OpTo P ops F oi a v ∧ Seq P ops F K (l ++ m) (a.put oi.dst v)
  | [], m, a, _, h => by
    obtain ⟨o, v, ho, h1, h2⟩ := h
    rw [hi] at ho
    cases ho
    exact ⟨v, h1, h2⟩
  | j :: l, m, a, hl, h => by
    obtain ⟨oj, vj, hj, h1, h2⟩ := h
    have hap := hl j (List.mem_cons_self) oj hj
    obtain ⟨v, h3, h4⟩ := Seq.front hsel hi l m (a.put oj.dst vj) (fun k hk => hl k (List.mem_cons_of_mem _ hk)) h2
    refine ⟨v, (OpTo.put hap (fun cs b => hsel i oi cs b hi)).1 h3, oj, vj, hj, (OpTo.put' hap (fun cs b => hsel j oj cs b hj)).2 h1, ?_⟩
    have e := Act.put_comm a (x := oj.dst) (y := oi.dst) vj v (Oper.apart_spec hap).2.1
    rw [← e]
    exact h4

theorem Res.wp {o : Oper} {a : Act} {w : World} {v : Value} {Q : Exit → Act → World → Prop} {K : Act → World → Prop} (h : Res P o a.eval w (fun v' w' => v' = v ∧ F w')) (hK : ∀ w', F w' → K (a.put o.dst v) w') : o.wp P a w K Q := by
  unfold Res at h
  unfold Oper.wp
  generalize (execOp a.eval o).run P w = r at h ⊢
  match r, h with
  | .ok (.value v') w', h =>
    obtain ⟨rfl, hF⟩ := h
    exact hK _ hF
  | .ok .skip w', h =>
    obtain ⟨rfl, hF⟩ := h
    exact hK _ hF
  | .ok (.enter f args) w', h =>
    refine Calls.mono h ?_
    rintro e w'' ⟨v', rfl, rfl, hF⟩
    exact hK _ hF

/-- What has not been carried out yet, in the text's order. -/
def rest (ops : Array Oper) (listed : Array Bool) : List Nat := (List.range ops.size).filter fun i => !listed.getD i true

theorem rest_parts {listed : Array Bool} {i : Nat} (hi : i < ops.size) (hl : listed.getD i true = false) :
    rest ops listed = (List.range i).filter (fun j => !listed.getD j true) ++ i :: ((List.range' (i + 1) (ops.size - (i + 1))).filter fun j => !listed.getD j true) ∧
    rest ops (listed.setIfInBounds i true) = (List.range i).filter (fun j => !listed.getD j true) ++ ((List.range' (i + 1) (ops.size - (i + 1))).filter fun j => !listed.getD j true) := by
  have e : List.range ops.size = List.range i ++ i :: List.range' (i + 1) (ops.size - (i + 1)) := by
    rw [List.range_eq_range', List.range_eq_range']
    have h1 : List.range' 0 ops.size = List.range' 0 i ++ List.range' i (ops.size - i) := by
      rw [show List.range' i (ops.size - i) = List.range' (0 + 1 * i) (ops.size - i) by simp, List.range'_append, show i + (ops.size - i) = ops.size by omega]
    rw [h1, show ops.size - i = (ops.size - (i + 1)) + 1 by omega, List.range'_succ]
  have hlt : i < listed.size := by
    rcases Nat.lt_or_ge i listed.size with h | h
    · exact h
    · simp [Array.getElem?_eq_none h] at hl
  have far : ∀ j, j ≠ i → (listed.setIfInBounds i true).getD j true = listed.getD j true := fun j hj => getD_set_ne true (Ne.symm hj)
  have near : (listed.setIfInBounds i true).getD i true = true := by simp [hlt]
  constructor
  · unfold rest
    rw [e, List.filter_append, List.filter_cons, if_pos (by rw [hl]; rfl)]
  · unfold rest
    rw [e, List.filter_append, List.filter_cons, if_neg (by rw [near]; decide)]
    congr 1
    · refine List.filter_congr fun j hj => ?_
      rw [far j (by have := List.mem_range.1 hj; omega)]
    · refine List.filter_congr fun j hj => ?_
      rw [far j (by have := (List.mem_range'_1.1 hj).1; omega)]

theorem wpAny_seq {Q : Exit → Act → World → Prop} {K : Act → Prop} (ho : orderly ops = true) (hQ : ∀ a, K a → ∀ w, F w → Q .normal a w) :
    ∀ (fuel : Nat) (listed : Array Bool) (a : Act) (w : World), (rest ops listed).length ≤ fuel → F w → Seq P ops F K (rest ops listed) a → wpAny P .any ops Q fuel listed a w := by
  simp only [orderly, Bool.and_eq_true, List.all_eq_true, List.mem_range] at ho
  obtain ⟨hns, ho⟩ := ho
  have hsel := Region.noSelect_spec hns
  -- where nothing is ready nothing is left
  have hready : ∀ listed : Array Bool, Region.ready .any ops listed = [] → rest ops listed = [] := by
    intro listed hr
    refine List.eq_nil_iff_forall_not_mem.2 fun i hi => ?_
    have key : ∀ n i, i ≤ n → i < ops.size → listed.getD i true = true := by
      intro n
      induction n with
      | zero =>
        intro i hi hlt
        obtain rfl : i = 0 := by omega
        by_cases hl : listed.getD 0 true = true
        · exact hl
        · exfalso
          have : 0 ∈ Region.ready .any ops listed := by
            rw [mem_ready]
            refine ⟨by simpa using hl, ops[0], Array.getElem?_eq_getElem hlt, fun e he hb => ?_⟩
            have h1 := (ho 0 hlt).1
            rw [Array.getElem?_eq_getElem hlt] at h1
            simp only [Option.map_some, Option.getD_some] at h1
            have h2 := (Array.all_eq_true_iff_forall_mem.1 h1) e he
            simp [hb] at h2
          rw [hr] at this
          cases this
      | succ n ih =>
        intro i hi hlt
        by_cases hl : listed.getD i true = true
        · exact hl
        · exfalso
          have : i ∈ Region.ready .any ops listed := by
            rw [mem_ready]
            refine ⟨by simpa using hl, ops[i], Array.getElem?_eq_getElem hlt, fun e he hb => ?_⟩
            have h1 := (ho i hlt).1
            rw [Array.getElem?_eq_getElem hlt] at h1
            simp only [Option.map_some, Option.getD_some] at h1
            have h2 := (Array.all_eq_true_iff_forall_mem.1 h1) e he
            simp only [hb, Bool.not_true, Bool.false_or, decide_eq_true_eq] at h2
            have h3 := ih e.on (by omega) (by omega)
            have h5 : i < listed.size := by
              rcases Nat.lt_or_ge i listed.size with h | h
              · exact h
              · simp [Array.getElem?_eq_none h] at hl
            have h4 : e.on < listed.size := by omega
            simpa [h4] using h3
          rw [hr] at this
          cases this
    simp only [rest, List.mem_filter, List.mem_range] at hi
    have := key i i (Nat.le_refl _) hi.1
    rw [this] at hi
    simp at hi
  intro fuel
  induction fuel with
  | zero =>
    intro listed a w hf hF hS
    have h0 : rest ops listed = [] := List.eq_nil_of_length_eq_zero (by omega)
    have hr : Region.ready .any ops listed = [] := by
      refine List.eq_nil_iff_forall_not_mem.2 fun i hi => ?_
      obtain ⟨h1, o, h2, _⟩ := mem_ready.1 hi
      have : i ∈ rest ops listed := by
        simp only [rest, List.mem_filter, List.mem_range]
        exact ⟨(Array.getElem?_eq_some_iff.1 h2).1, by rw [h1]; rfl⟩
      rw [h0] at this
      cases this
    rw [h0] at hS
    exact ⟨hr, hQ a hS w hF⟩
  | succ fuel ih =>
    intro listed a w hf hF hS
    refine ⟨fun hr => ?_, fun i hi => ?_⟩
    · rw [hready listed hr] at hS
      exact hQ a hS w hF
    · obtain ⟨h1, oi, h2, h3⟩ := mem_ready.1 hi
      have hlt := (Array.getElem?_eq_some_iff.1 h2).1
      obtain ⟨e1, e2⟩ := rest_parts (ops := ops) hlt h1
      rw [e1] at hS hf
      have hfront : ∀ j ∈ (List.range i).filter (fun j => !listed.getD j true), ∀ oj, ops[j]? = some oj → oj.apart ops oi = true := by
        intro j hj oj hoj
        simp only [List.mem_filter, List.mem_range, Bool.not_eq_true'] at hj
        have h4 := (ho i hlt).2 j hj.1
        rw [hoj, h2] at h4
        simp only [Bool.or_eq_true] at h4
        rcases h4 with h4 | h4
        · exfalso
          unfold follows at h4
          rw [h2] at h4
          simp only [Option.map_some, Option.getD_some] at h4
          obtain ⟨e, he, hb⟩ := Array.any_eq_true'.1 h4
          simp only [Bool.and_eq_true, beq_iff_eq] at hb
          have h5 := h3 e he hb.1
          rw [hb.2] at h5
          have h6 := hj.2
          rcases Nat.lt_or_ge j listed.size with h | h
          · simp [h] at h5 h6
            rw [h6] at h5
            cases h5
          · simp [Array.getElem?_eq_none h] at h6
        · exact h4
      obtain ⟨v, h4, h5⟩ := Seq.front hsel h2 _ _ a hfront hS
      rw [← e2] at h5
      have hlen : (rest ops (listed.setIfInBounds i true)).length ≤ fuel := by
        rw [e2]
        simp only [List.length_append, List.length_cons] at hf ⊢
        omega
      unfold wpOp
      rw [h2]
      simp only
      unfold OpTo at h4
      by_cases hw : Region.wanted oi (yielded ops a.tmps) = true
      · rw [if_pos hw] at h4 ⊢
        exact .inl (Res.wp (h4 w hF) fun w' hF' => ih _ _ w' hlen hF' h5)
      · rw [if_neg hw] at h4 ⊢
        subst h4
        exact ih _ _ w hlen hF h5

/-- A region that draws its order, walked in the order of the text. -/
theorem wp_region_seq {Q : Exit → Act → World → Prop} {id : Nat} {a : Act} {w : World} (F : World → Prop) (K : Act → Prop) (hm : P.follows .mixedOrders = true) (ho : orderly ops = true) (hF : F w.drew)
    (hQ : ∀ a, K a → ∀ w, F w → Q .normal a w) (h : Seq P ops F K (List.range ops.size) a) : (Code.region id ops true).wp P Q a w := by
  have er : rest ops (Array.replicate ops.size false) = List.range ops.size := by
    unfold rest
    refine List.filter_eq_self.2 fun i hi => ?_
    have := List.mem_range.1 hi
    simp [this]
  refine wp_region_any hm ?_
  refine wpAny_seq ho hQ ops.size _ a _ (by rw [er]; simp) hF ?_
  rw [er]
  exact h

/-- The same over the operations themselves. -/
def SeqL (P : Program) (ops : Array Oper) (F : World → Prop) (K : Act → Prop) : List Oper → Act → Prop
  | [], a => K a
  | o :: r, a => ∃ v, OpTo P ops F o a v ∧ SeqL P ops F K r (a.put o.dst v)
theorem Seq.of_list {K : Act → Prop} (l : List Oper) : ∀ (k : Nat) (a : Act), (∀ j, l[j]? = ops[k + j]?) → SeqL P ops F K l a → Seq P ops F K (List.range' k l.length) a := by
  induction l with
  | nil => intro k a _ h; exact h
  | cons o l ih =>
    intro k a hl h
    obtain ⟨v, h1, h2⟩ := h
    have h0 : ops[k]? = some o := by simpa using (hl 0).symm
    rw [List.length_cons, List.range'_succ]
    exact ⟨o, v, h0, h1, ih (k + 1) _ (fun j => by have := hl (j + 1); simpa [Nat.add_assoc, Nat.add_comm 1 j] using this) h2⟩
/-- What follows the region, in whatever world that meets F. -/
def Then (F : World → Prop) (Q : Exit → Act → World → Prop) (a : Act) : Prop := ∀ w', F w' → Q .normal a w'
/-- A region that draws its order, walked in the order of the text. -/
theorem wp_region_text {Q : Exit → Act → World → Prop} {id : Nat} {a : Act} {w : World} {l : List Oper} (F : World → Prop) (hm : P.follows .mixedOrders = true) (ho : orderly l.toArray = true) (hF : F w.drew)
    (h : SeqL P l.toArray F (Then F Q) l a) : (Code.region id l.toArray true).wp P Q a w := by
  refine wp_region_seq F (Then F Q) hm ho hF (fun a h w hw => h w hw) ?_
  have := Seq.of_list (ops := l.toArray) (F := F) (P := P) l 0 a (by simp) h
  rw [List.range_eq_range']
  simpa using this
theorem SeqL.pure {K : Act → Prop} {o : Oper} {r : List Oper} {a : Act} (v : Value) (hw : Region.wanted o (yielded ops a.tmps) = true) (h : ∀ w, (execOp a.eval o).run P w = .ok (.value v) w) (k : SeqL P ops F K r (a.put o.dst v)) : SeqL P ops F K (o :: r) a :=
  ⟨v, by unfold OpTo Res; rw [if_pos hw]; intro w hF; rw [h w]; exact ⟨rfl, hF⟩, k⟩
theorem SeqL.skip {K : Act → Prop} {o : Oper} {r : List Oper} {a : Act} (hw : Region.wanted o (yielded ops a.tmps) = false) (k : SeqL P ops F K r (a.put o.dst undef)) : SeqL P ops F K (o :: r) a :=
  ⟨undef, by unfold OpTo; rw [if_neg (by rw [hw]; decide)], k⟩
/-- A call of a Go function. -/
theorem SeqL.call {K : Act → Prop} {o : Oper} {r : List Oper} {a : Act} (v : Value) (f : FuncId) (args : Array Value) (hw : Region.wanted o (yielded ops a.tmps) = true) (he : ∀ w, (execOp a.eval o).run P w = .ok (.enter f args) w)
    (h : ∀ w, F w → Calls P f args w fun e w' => e = .returned v ∧ F w') (k : SeqL P ops F K r (a.put o.dst v)) : SeqL P ops F K (o :: r) a :=
  ⟨v, by
    unfold OpTo Res
    rw [if_pos hw]
    intro w hF
    rw [he w]
    exact (h w hF).mono fun e w' ⟨h1, h2⟩ => ⟨v, h1, rfl, h2⟩, k⟩
/-- An operation that reads memory, in every world that meets F. -/
theorem SeqL.read {K : Act → Prop} {o : Oper} {r : List Oper} {a : Act} (v : Value) (hw : Region.wanted o (yielded ops a.tmps) = true) (h : ∀ w, F w → (execOp a.eval o).run P w = .ok (.value v) w) (k : SeqL P ops F K r (a.put o.dst v)) : SeqL P ops F K (o :: r) a :=
  ⟨v, by unfold OpTo Res; rw [if_pos hw]; intro w hF; rw [h w hF]; exact ⟨rfl, hF⟩, k⟩
/-- An operation that makes memory. -/
theorem SeqL.gen {K : Act → Prop} {o : Oper} {r : List Oper} {a : Act} (v : Value) (hw : Region.wanted o (yielded ops a.tmps) = true) (h : ∀ w, F w → ∃ w', (execOp a.eval o).run P w = .ok (.value v) w' ∧ F w') (k : SeqL P ops F K r (a.put o.dst v)) : SeqL P ops F K (o :: r) a :=
  ⟨v, by unfold OpTo Res; rw [if_pos hw]; intro w hF; obtain ⟨w', h1, h2⟩ := h w hF; rw [h1]; exact ⟨rfl, h2⟩, k⟩
theorem SeqL.done {Q : Exit → Act → World → Prop} {a : Act} (h : ∀ w', F w' → Q .normal a w') : SeqL P ops F (Then F Q) [] a := h
end
end Go.Proofs.Ytgkiedbefogklaa
