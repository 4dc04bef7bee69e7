/- What is proved: steps of regions that draw their order and grow a slice of bytes of the call's own, by an append or by a call; no condition beyond those typed. -/
import Derived.Test.YtgkiedbefogklaaEff
import Derived.Test.YtgkiedbefogklaaBytes
set_option linter.unusedSimpArgs false
set_option linter.unusedVariables false
namespace Go.Proofs.Ytgkiedbefogklaa
open Go.RowKit
set_option maxRecDepth 100000
/-- Bytes put behind bytes that the call owns: the run. -/
theorem run_appB {w : World} {base : Nat} {u v : Value} {xs ys : List Int} (ty : TypeId) (hown : OwB w base v xs) (hu : BB w u ys) (hl : xs.length + ys.length ≤ 140737488355328) (hbase : base ≤ w.heap.size) :
    ∃ v' w', (Builtin.append_ #[24, 24] ty #[v, u]).run Try.prog w = .ok v' w' ∧ OwB w' base v' (xs ++ ys) ∧ w.grownBy w' v.ownBlock ∧ (v'.ownBlock = v.ownBlock ∨ ∃ j, v'.ownBlock = some j ∧ w.heap.size ≤ j) := by
  obtain ⟨i, hi, hz, h1, h8⟩ : ∃ i, Try.prog.info? 5 = some i ∧ i.zero = some (.int .u8 0) ∧ i.size = 1 ∧ i.bytes = 1 := by
    obtain ⟨i, h, h2⟩ := Option.map_eq_some_iff.1 (show (Try.prog.info? 5).map (fun i => (i.zero, i.size, i.bytes)) = some (some (.int .u8 0), 1, 1) by kernel_rfl)
    simp only [Prod.mk.injEq] at h2
    exact ⟨i, h, h2⟩
  obtain ⟨k1, k2, A, cap, rfl, hr, k3, k4, k5⟩ := hu
  rcases A with _ | ad
  · obtain rfl := k3 rfl
    have hy : ys = [] := List.eq_nil_of_length_eq_zero (by omega)
    subst hy
    exact ⟨v, w, run_append_owned_none w base 24 ty 5 i 1 Try.underlying24 hi v _ _ hown, by rw [List.append_nil]; exact hown, ⟨rfl, rfl, rfl, Nat.le_refl _, fun _ _ _ => rfl⟩, .inl rfl⟩
  · obtain ⟨v', w', h2, h3, h4, _, h5⟩ := run_append_own_at (P := Try.prog) w base 24 ty 5 i _ 1 1 Try.underlying24 hi hz h1 h8 rfl (by decide) v _ _ hown ad ys.length cap (ys.map (Value.int .u8)) (by simp) (by
      intro j y hj
      rw [List.getElem?_map, Option.map_eq_some_iff] at hj
      obtain ⟨y, hj, rfl⟩ := hj
      have hjl : j < ys.length := (List.getElem?_eq_some_iff.1 hj).1
      obtain ⟨b, off, e, hc⟩ := hr.2 (by omega)
      obtain rfl := Option.some.inj e
      have e2 : (⟨b, off, none⟩ : Addr).add j = ⟨b, off + j, none⟩ := by unfold Addr.add; split <;> simp_all
      rw [e2, hc j hjl, List.getD_eq_getElem?_getD, hj]
      rfl) (by
      intro y hy
      obtain ⟨y, _, rfl⟩ := List.mem_map.1 hy
      rfl) (by unfold maxLen; omega) (by omega) hbase
    refine ⟨v', w', h2, ?_, h4, ?_⟩
    · unfold OwB
      rw [List.length_append, List.map_append]
      exact h3
    · rcases h5 with h5 | h5
      · exact .inl h5
      · exact .inr ⟨_, h5, Nat.le_refl _⟩
/-- Bytes of the call's own, with the block that holds them. -/
def OwXB (v : Value) (x : Option (Nat × Obj)) (xs : List Int) : Prop := OwX 5 1 v x xs.length (xs.map (Value.int .u8))
section
variable {P : Program} {ops : Array Oper} {w0 w w' : World} {S : Nat → Prop} {K : Act → Gh → Prop} {i : Nat} {o : Oper} {r : List Oper} {ss : List Ef} {a : Act} {γ γ' : Gh} {v v' : Value} {xs ys : List Int} {t base : Nat}
theorem OwXB.own (h : OwXB v (γ t) xs) (hI : Inv w0 S γ w) : OwB w 0 v xs := h.owns fun g ob hgo => ⟨Nat.zero_le _, (hI.here t g ob hgo).1⟩
/-- The bytes have grown. -/
theorem Inv.turned (hI : Inv w0 S γ w) (hrow : OwXB v (γ t) xs) (h3 : w.grownBy w' v.ownBlock) (h5 : v'.ownBlock = v.ownBlock ∨ ∃ j, v'.ownBlock = some j ∧ w.heap.size ≤ j) (h2 : OwB w' 0 v' ys) :
    ∃ x', OwXB v' x' ys ∧ Inv w0 S (γ.set (some t) x') w' ∧ ∀ g o, x' = some (g, o) → (∃ o', γ t = some (g, o')) ∨ w0.heap.size ≤ g := by
  obtain ⟨x', hx', hx2⟩ := OwX.of h2
  refine ⟨x', hx', ?_, fun g ob hgo => ?_⟩
  · have hrw : ∀ g, v.ownBlock = some g → ∃ ob, γ t = some (g, ob) := fun g hgb => by
      rw [hrow.block] at hgb
      match hq : γ t, hgb with
      | some (g', o'), hgb =>
        simp only [Option.map_some, Option.some.injEq] at hgb
        exact ⟨o', by rw [hgb]⟩
      | none, hgb => simp at hgb
    match x', hx', hx2 with
    | none, hx', _ =>
      have hn : v'.ownBlock = none := by rw [hx'.block]; rfl
      rcases h5 with h5 | ⟨j, h5, _⟩
      · have hv : v.ownBlock = none := by rw [← h5]; exact hn
        rw [hv] at h3
        exact (hI.below (Below.grown (Below.refl _ _) h3 (Nat.le_refl _) (by simp))).free t
      · rw [hn] at h5
        cases h5
    | some (g, ob), hx', hx2 =>
      obtain ⟨_, h7, h8⟩ := hx2 g ob rfl
      refine hI.grown h3 t hrw h7 ?_
      rcases h5 with h5 | ⟨j, h5, hj⟩
      · exact .inl (by rw [← h5]; exact h8)
      · rw [h8] at h5
        simp only [Option.some.injEq] at h5
        exact .inr (by omega)
  · obtain ⟨_, _, h8⟩ := hx2 g ob hgo
    rcases h5 with h5 | ⟨j, h5, hj⟩
    · rw [h8, hrow.block] at h5
      match hq : γ t, h5 with
      | some (g', o'), h5 =>
        simp only [Option.map_some, Option.some.injEq] at h5
        exact .inl ⟨o', by rw [h5]⟩
      | none, h5 => simp at h5
    · rw [h8] at h5
      simp only [Option.some.injEq] at h5
      exact .inr (by have := hI.size; omega)
/-- An operation that grows bytes of the call's own. -/
theorem SeqF.growB (use : List Nat) (t : Nat) (ht : t ∈ use) (v : Value) (xs ys : List Int) (hrow : OwXB v (γ t) xs) (hw : Region.wanted o (yielded ops a.tmps) = true)
    (h : ∀ γ' w, Gh.agree use γ γ' → Inv w0 S γ' w → OwB w 0 v xs → ∃ v' w', (execOp a.eval o).run P w = .ok (.value v') w' ∧ OwB w' 0 v' ys ∧ w.grownBy w' v.ownBlock ∧ (v'.ownBlock = v.ownBlock ∨ ∃ j, v'.ownBlock = some j ∧ w.heap.size ≤ j))
    (k : ∀ v' x', OwXB v' x' ys → (∀ g o, x' = some (g, o) → (∃ o', γ t = some (g, o')) ∨ w0.heap.size ≤ g) → SeqF P ops (Inv w0 S) K (i + 1) r ss (a.put o.dst v') (γ.set (some t) x')) :
    SeqF P ops (Inv w0 S) K i (o :: r) (.eff use (some t) (fun γ v' x' => OwXB v' x' ys ∧ ∀ g o, x' = some (g, o) → (∃ o', γ t = some (g, o')) ∨ w0.heap.size ≤ g) :: ss) a γ := by
  refine SeqF.eff use (some t) _ (fun γ' hg => by funext v x; rw [hg t ht]) hw (fun γ' w hg hI => ?_) (fun v' x' hx' => k v' x' hx'.1 hx'.2)
  have hrow' : OwXB v (γ' t) xs := by rw [hg t ht]; exact hrow
  obtain ⟨v', w', h1, h2, h3, h5⟩ := h γ' w hg hI (hrow'.own hI)
  obtain ⟨x', h6, h7, h8⟩ := hI.turned hrow' h3 h5 h2
  exact ⟨v', x', w', .inl h1, ⟨h6, fun g o hgo => by rw [← hg t ht]; exact h8 g o hgo⟩, h7⟩
/-- A call that grows bytes of the call's own. -/
theorem SeqF.growCall (use : List Nat) (t : Nat) (ht : t ∈ use) (v : Value) (xs ys : List Int) (f : FuncId) (args : Array Value) (hrow : OwXB v (γ t) xs) (hw : Region.wanted o (yielded ops a.tmps) = true) (he : ∀ w, (execOp a.eval o).run P w = .ok (.enter f args) w)
    (h : ∀ γ' w, Gh.agree use γ γ' → Inv w0 S γ' w → OwB w 0 v xs → Calls P f args w fun e w' => ∃ v', e = .returned v' ∧ OwB w' 0 v' ys ∧ w.grownBy w' v.ownBlock ∧ (v'.ownBlock = v.ownBlock ∨ ∃ j, v'.ownBlock = some j ∧ w.heap.size ≤ j))
    (k : ∀ v' x', OwXB v' x' ys → (∀ g o, x' = some (g, o) → (∃ o', γ t = some (g, o')) ∨ w0.heap.size ≤ g) → SeqF P ops (Inv w0 S) K (i + 1) r ss (a.put o.dst v') (γ.set (some t) x')) :
    SeqF P ops (Inv w0 S) K i (o :: r) (.eff use (some t) (fun γ v' x' => OwXB v' x' ys ∧ ∀ g o, x' = some (g, o) → (∃ o', γ t = some (g, o')) ∨ w0.heap.size ≤ g) :: ss) a γ := by
  refine SeqF.callE use (some t) _ f args (fun γ' hg => by funext v x; rw [hg t ht]) hw he (fun γ' w hg hI => ?_) (fun v' x' hx' => k v' x' hx'.1 hx'.2)
  have hrow' : OwXB v (γ' t) xs := by rw [hg t ht]; exact hrow
  refine (h γ' w hg hI (hrow'.own hI)).mono ?_
  rintro e w' ⟨v', rfl, h2, h3, h5⟩
  obtain ⟨x', h6, h7, h8⟩ := hI.turned hrow' h3 h5 h2
  exact ⟨v', x', rfl, ⟨h6, fun g o hgo => by rw [← hg t ht]; exact h8 g o hgo⟩, h7⟩
theorem OwXB.slice {x : Option (Nat × Obj)} (h : OwXB v x xs) : ∃ A c, v = .slice A xs.length c := by
  obtain ⟨_, ⟨h1, h2, _⟩ | ⟨g, cap, cur, h1, _⟩⟩ := h
  · exact ⟨none, 0, by rw [h2]; exact h1⟩
  · exact ⟨_, _, h1⟩
theorem OwB.slice (h : OwB w base v xs) : ∃ A c, v = .slice A xs.length c := by
  obtain ⟨x, hx, _⟩ := OwX.of h
  exact OwXB.slice (x := x) hx
/-- An append that grows bytes of the call's own. -/
theorem SeqF.appB {ops : Array Oper} {K : Act → Gh → Prop} (use : List Nat) (t : Nat) (ht : t ∈ use) (s x : Operand) (hgd : o.guard = none) (ho : o.op = .call { callee := .builtin .append, args := #[s, x], argTypes := #[24, 24] })
    (v u : Value) (xs zs ys : List Int) (hrow : OwXB v (γ t) xs) (hs : a.eval s = v) (hx : a.eval x = u) (hu : ∀ γ' W, Gh.agree use γ γ' → Inv w0 S γ' W → BB W u zs) (hl : xs.length + zs.length ≤ 140737488355328) (hy : xs ++ zs = ys)
    (k : ∀ v' x', OwXB v' x' ys → (∀ g o, x' = some (g, o) → (∃ o', γ t = some (g, o')) ∨ w0.heap.size ≤ g) → SeqF Try.prog ops (Inv w0 S) K (i + 1) r ss (a.put o.dst v') (γ.set (some t) x')) :
    SeqF Try.prog ops (Inv w0 S) K i (o :: r) (.eff use (some t) (fun γ v' x' => OwXB v' x' ys ∧ ∀ g o, x' = some (g, o) → (∃ o', γ t = some (g, o')) ∨ w0.heap.size ≤ g) :: ss) a γ := by
  refine SeqF.growB use t ht v xs ys hrow (by simp [Region.wanted, hgd]) (fun γ' w hg hI hown => ?_) k
  obtain ⟨v', w', hr, h2, h3, h4⟩ := run_appB o.type hown (hu γ' w hg hI) hl (Nat.zero_le _)
  refine ⟨v', w', ?_, by rw [← hy]; exact h2, h3, h4⟩
  unfold execOp
  simp only [ho, resolve, invoke, builtin, Sem.run_bind, Sem.run_pure, Result.andThen_ok, List.map_toArray, List.map_cons, List.map_nil, hs, hx, hr]
/-- At the region's end: the bytes are the call's own, and all else is as it was. -/
theorem Inv.ends (hI : Inv w (fun g => v.ownBlock = some g) γ w') (h : OwXB v' (γ t) ys) (hg : ∀ g o, γ t = some (g, o) → v.ownBlock = some g ∨ w.heap.size ≤ g) (hb : base ≤ w.heap.size) (hv : ∀ g, v.ownBlock = some g → base ≤ g) : OwB w' base v' ys ∧ w.grownBy w' v.ownBlock :=
  ⟨h.owns fun g ob hgo => ⟨(hg g ob hgo).elim (fun e => hv g e) (fun e => by omega), (hI.here t g ob hgo).1⟩,
    hI.os, hI.tape, hI.output, hI.size, fun q hq hne => hI.far q hq (fun e => hne e.symm)⟩
/-- A region that grows one slice of bytes begins. -/
theorem Inv.begins (h : OwB w base v xs) : ∃ x, OwXB v x xs ∧ Inv w (fun g => v.ownBlock = some g) (fun k => if k = 1 then x else none) w.drew ∧ ∀ g o, x = some (g, o) → v.ownBlock = some g := by
  obtain ⟨x, h1, h2⟩ := OwX.of h
  refine ⟨x, h1, Inv.start w _ _ (fun t g o ht => ?_) (fun t t' g g' o o' ht ht' hne => ?_), fun g o hgo => (h2 g o hgo).2.2⟩
  · by_cases h1 : t = 1
    · rw [if_pos h1] at ht
      exact ⟨(h2 g o ht).2.1, (h2 g o ht).2.2⟩
    · rw [if_neg h1] at ht
      cases ht
  · by_cases h1 : t = 1
    · by_cases h2 : t' = 1
      · exact absurd (h1.trans h2.symm) hne
      · rw [if_neg h2] at ht'
        cases ht'
    · rw [if_neg h1] at ht
      cases ht
end
end Go.Proofs.Ytgkiedbefogklaa
