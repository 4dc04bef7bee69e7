/- What is proved: as in the text OrderEff; that one operation is carried out ahead of another may follow over several edges; the condition 'orderlyT' is checked by the kernel at each use. -/
import Derived.Test.YtgkiedbefogklaaOrderEff
set_option linter.unusedSimpArgs false
set_option linter.unusedVariables false
namespace Go.Proofs.Ytgkiedbefogklaa
open Go.RowKit
section
variable {P : Program} {ops : Array Oper} {I : Gh → World → Prop}
/-- Is the i-th carried out ahead of the j-th, over at most so many edges? -/
def trails (ops : Array Oper) (i : Nat) : Nat → Nat → Bool
  | 0, _ => false
  | f + 1, j => ((ops[j]?).map fun o => o.after.any fun e => Region.binds .any e && (e.on == i || trails ops i f e.on)).getD false
def orderlyT (ops : Array Oper) (sp : Nat → Ef) : Bool :=
  Region.noSelect ops && ((List.range ops.size).all fun j =>
    (((ops[j]?).map fun o => o.after.all fun e => !Region.binds .any e || decide (e.on < j)).getD true) &&
    (List.range j).all fun i => follows ops i j || partE ops (i, sp i) (j, sp j) || trails ops i 8 j)
/-- What has been carried out has all ahead of it carried out. -/
def Shut (ops : Array Oper) (listed : Array Bool) : Prop := ∀ (j : Nat) (o : Oper), ops[j]? = some o → listed.getD j false = true → ∀ e ∈ o.after, Region.binds .any e = true → listed.getD e.on false = true
theorem Shut.trails {listed : Array Bool} (h : Shut ops listed) {i : Nat} : ∀ (f j : Nat) (o : Oper), ops[j]? = some o → (∀ e ∈ o.after, Region.binds .any e = true → listed.getD e.on false = true) → trails ops i f j = true → listed.getD i false = true
  | 0, _, _, _, _, ht => by cases ht
  | f + 1, j, o, ho, hp, ht => by
    unfold Go.Proofs.Ytgkiedbefogklaa.trails at ht
    rw [ho] at ht
    simp only [Option.map_some, Option.getD_some] at ht
    obtain ⟨e, he, hb⟩ := Array.any_eq_true'.1 ht
    simp only [Bool.and_eq_true, Bool.or_eq_true, beq_iff_eq] at hb
    have h1 := hp e he hb.1
    rcases hb.2 with h2 | h2
    · rw [← h2]; exact h1
    · cases hq : ops[e.on]? with
      | none =>
        cases f with
        | zero => cases h2
        | succ f =>
          unfold Go.Proofs.Ytgkiedbefogklaa.trails at h2
          rw [hq] at h2
          cases h2
      | some o2 => exact h.trails f e.on o2 hq (h e.on o2 hq h1) h2
theorem Shut.set {listed : Array Bool} (h : Shut ops listed) {i : Nat} {oi : Oper} (hi : ops[i]? = some oi) (hp : ∀ e ∈ oi.after, Region.binds .any e = true → listed.getD e.on false = true) : Shut ops (listed.setIfInBounds i true) := by
  have up : ∀ k, listed.getD k false = true → (listed.setIfInBounds i true).getD k false = true := by
    intro k hk
    by_cases e : i = k
    · subst e
      have hlt : i < listed.size := by
        rcases Nat.lt_or_ge i listed.size with h | h
        · exact h
        · simp [Array.getElem?_eq_none h] at hk
      simp [hlt]
    · rw [getD_set_ne false e]
      exact hk
  intro j o ho hj e he hb
  by_cases hij : i = j
  · subst hij
    rw [hi] at ho
    obtain rfl := Option.some.inj ho
    exact up _ (hp e he hb)
  · rw [getD_set_ne false hij] at hj
    exact up _ (h j o ho hj e he hb)
theorem wpAny_seqT {Q : Exit → Act → World → Prop} {K : Act → Gh → Prop} (sp : Nat → Ef) (ho : orderlyT ops sp = true) (hQ : ∀ a γ, K a γ → ∀ w, I γ w → Q .normal a w) :
    ∀ (fuel : Nat) (listed : Array Bool) (a : Act) (γ : Gh) (w : World), (rest ops listed).length ≤ fuel → Shut ops listed → I γ w →
      SeqE P ops I K ((rest ops listed).map fun i => (i, sp i)) a γ → wpAny P .any ops Q fuel listed a w := by
  simp only [orderlyT, Bool.and_eq_true, List.all_eq_true, List.mem_range] at ho
  obtain ⟨hns, ho⟩ := ho
  have hsel := Region.noSelect_spec hns
  have hready := ready_rest (ops := ops) (fun j hj => (ho j hj).1)
  intro fuel
  induction fuel with
  | zero =>
    intro listed a γ w hf hSh hG hS
    have h0 : rest ops listed = [] := List.eq_nil_of_length_eq_zero (by omega)
    have hr : Region.ready .any ops listed = [] := by
      refine List.eq_nil_iff_forall_not_mem.2 fun i hi => ?_
      obtain ⟨h1, o, h2, _⟩ := mem_ready.1 hi
      have : i ∈ rest ops listed := by
        simp only [rest, List.mem_filter, List.mem_range]
        exact ⟨(Array.getElem?_eq_some_iff.1 h2).1, by rw [h1]; rfl⟩
      rw [h0] at this
      cases this
    rw [h0] at hS
    exact ⟨hr, hQ a γ hS w hG⟩
  | succ fuel ih =>
    intro listed a γ w hf hSh hG hS
    refine ⟨fun hr => ?_, fun i hi => ?_⟩
    · rw [hready listed hr] at hS
      exact hQ a γ hS w hG
    · obtain ⟨h1, oi, h2, h3⟩ := mem_ready.1 hi
      have hlt := (Array.getElem?_eq_some_iff.1 h2).1
      obtain ⟨e1, e2⟩ := rest_parts (ops := ops) hlt h1
      rw [e1, List.map_append, List.map_cons] at hS
      rw [e1] at hf
      have hfront : ∀ x ∈ ((List.range i).filter (fun j => !listed.getD j true)).map (fun i => (i, sp i)), partE ops x (i, sp i) = true := by
        intro x hx
        obtain ⟨j, hj, rfl⟩ := List.mem_map.1 hx
        simp only [List.mem_filter, List.mem_range, Bool.not_eq_true'] at hj
        have h4 := (ho i hlt).2 j hj.1
        simp only [Bool.or_eq_true] at h4
        rcases h4 with (h4 | h4) | h4
        · exfalso
          unfold follows at h4
          rw [h2] at h4
          simp only [Option.map_some, Option.getD_some] at h4
          obtain ⟨e, he, hb⟩ := Array.any_eq_true'.1 h4
          simp only [Bool.and_eq_true, beq_iff_eq] at hb
          have h5 := h3 e he hb.1
          rw [hb.2] at h5
          have h6 := hj.2
          rcases Nat.lt_or_ge j listed.size with h | h
          · simp [h] at h5 h6
            rw [h6] at h5
            cases h5
          · simp [Array.getElem?_eq_none h] at h6
        · exact h4
        · exfalso
          have h5 := hSh.trails 8 i oi h2 h3 h4
          have h6 := hj.2
          rcases Nat.lt_or_ge j listed.size with h | h
          · simp [h] at h5 h6
            rw [h6] at h5
            cases h5
          · simp [Array.getElem?_eq_none h] at h6
      have h4 := SeqE.frontE hsel h2 _ _ a γ hfront hS ⟨w, hG⟩
      have h5 := SeqE.frontN hsel h2 _ _ a γ hfront h4 hS
      rw [← List.map_append, ← e2] at h5
      have hlen : (rest ops (listed.setIfInBounds i true)).length ≤ fuel := by
        rw [e2]
        simp only [List.length_append, List.length_cons] at hf ⊢
        omega
      have hSh2 := hSh.set h2 h3
      unfold wpOp
      rw [h2]
      simp only
      cases hs : sp i with
      | val use f =>
        rw [hs] at h4 h5
        obtain ⟨_, h4⟩ := h4
        by_cases hw : Region.wanted oi (yielded ops a.tmps) = true
        · rw [if_pos hw] at h4 ⊢
          refine .inl ?_
          have h6 := h4 γ w (fun _ _ => rfl) hG
          exact Res.wp (F := fun w' => I γ w') h6 fun w' hF' => ih _ _ γ w' hlen hSh2 hF' h5
        · rw [if_neg hw] at h4 ⊢
          have h5 : SeqE P ops I K _ (a.put oi.dst (f γ)) γ := h5
          rw [h4] at h5
          exact ih _ _ γ w hlen hSh2 hG h5
      | eff use res link =>
        rw [hs] at h4 h5
        obtain ⟨_, hw, h4⟩ := h4
        rw [if_pos hw]
        refine .inl ?_
        have h6 := h4 γ w (fun _ _ => rfl) hG
        unfold Res at h6
        unfold Oper.wp
        generalize (execOp a.eval oi).run P w = q at h6 ⊢
        match q, h6 with
        | .ok (.value v') w', h6 =>
          obtain ⟨x, hx, hI⟩ := h6
          exact ih _ _ _ _ hlen hSh2 hI (h5 v' x hx)
        | .ok .skip w', h6 =>
          obtain ⟨x, hx, hI⟩ := h6
          exact ih _ _ _ _ hlen hSh2 hI (h5 undef x hx)
        | .ok (.enter f args) w', h6 =>
          refine Calls.mono h6 ?_
          rintro e w'' ⟨v', rfl, x, hx, hI⟩
          exact ih _ _ _ _ hlen hSh2 hI (h5 v' x hx)

/-- A region that draws its order, walked in the order of the text. -/
theorem wp_region_effT {Q : Exit → Act → World → Prop} {id : Nat} {a : Act} {w : World} {l : List Oper} (I : Gh → World → Prop) (γ : Gh) (hI : I γ w.drew) (ss : List Ef) (hm : P.follows .mixedOrders = true) (hl : ss.length = l.length) (ho : orderlyT l.toArray (fun i => ss.getD i (.val [] fun _ => undef)) = true)
    (h : SeqF P l.toArray I (ThenE I Q) 0 l ss a γ) : (Code.region id l.toArray true).wp P Q a w := by
  have er : rest l.toArray (Array.replicate l.toArray.size false) = List.range l.toArray.size := by
    unfold rest
    refine List.filter_eq_self.2 fun i hi => ?_
    have : i < l.length := by simpa using List.mem_range.1 hi
    simp [this]
  refine wp_region_any hm ?_
  refine wpAny_seqT (P := P) (I := I) (K := ThenE I Q) (fun i => ss.getD i (.val [] fun _ => undef)) ho (fun a γ h w' h1 => h w' h1) l.toArray.size _ a γ _ (by rw [er]; simp) (fun j o _ hj => by simp [Array.getElem?_replicate] at hj; split at hj <;> simp at hj) hI ?_
  rw [er, List.range_eq_range']
  have := SeqE.of_list (ops := l.toArray) (I := I) (P := P) (K := ThenE I Q) (fun i => ss.getD i (.val [] fun _ => undef)) l 0 ss a γ (by simp) (fun j hj => by simp [List.getD_eq_getElem?_getD, List.getElem?_eq_getElem (show j < ss.length by omega)]) h
  simpa using this
end
end Go.Proofs.Ytgkiedbefogklaa
