/- What is proved: slices of events in the call's own memory: how they are kept, grown and read; conditions: those typed. -/
import Derived.Test.YtgkiedbefogklaaWireM
import Derived.Test.YtgkiedbefogklaaWireO
set_option linter.unusedSimpArgs false
set_option linter.unusedVariables false
namespace Go.Proofs.Ytgkiedbefogklaa
open Go.RowKit
set_option maxRecDepth 100000
set_option maxHeartbeats 4000000
/-- An event with the slice that holds its bytes. -/
structure HE where
  e : Event
  v : Value
def erow (p : HE) : Array Value := #[.int .u8 p.e.kind, p.v, .int .i64 p.e.cols, .int .i64 p.e.rows, .int .u8 p.e.arrow]
def flatE (P : List HE) : List Value := P.flatMap fun p => (erow p).toList
structure EvP (w : World) (base : Nat) (p : HE) : Prop where
  own : OwB w base p.v p.e.bs
  okb : okB p.e.bs
  len : p.e.bs.length ≤ 140737488355328
  ok : p.e.ok
/-- The bytes of two events lie in unlike blocks. -/
def Apart (p q : HE) : Prop := ∀ b, p.v.ownBlock = some b → q.v.ownBlock ≠ some b
structure OwE (w : World) (base : Nat) (v : Value) (P : List HE) : Prop where
  row : w.ownsRow base 48 5 v P.length (flatE P)
  ev : ∀ p ∈ P, EvP w base p
  sep : P.Pairwise Apart
theorem evInfo : (Try.prog.info? 48).map (·.size) = some 5 := by kernel_rfl
theorem evRow : ∃ d, Try.prog.underlying 48 = some d ∧ d.isRow = true := ⟨_, Try.underlying48, rfl⟩
theorem flatE_app (P Q : List HE) : flatE (P ++ Q) = flatE P ++ flatE Q := by simp [flatE]
theorem flatE_len (P : List HE) : (flatE P).length = P.length * 5 := by
  induction P with
  | nil => rfl
  | cons p P ih =>
    have e : flatE (p :: P) = (erow p).toList ++ flatE P := rfl
    rw [e, List.length_append, ih, List.length_cons]
    simp [erow]
    omega
theorem flatE_get : ∀ (P : List HE) (k j : Nat) (p : HE), P[k]? = some p → j < 5 → (flatE P)[k * 5 + j]? = (erow p)[j]?
  | [], k, j, p, h, _ => by simp at h
  | q :: P, k, j, p, h, hj => by
    have e : flatE (q :: P) = (erow q).toList ++ flatE P := rfl
    have hl : (erow q).toList.length = 5 := rfl
    rw [e]
    cases k with
    | zero =>
      simp only [List.getElem?_cons_zero, Option.some.injEq] at h
      subst h
      rw [List.getElem?_append_left (by rw [hl]; omega), Nat.zero_mul, Nat.zero_add, Array.getElem?_toList]
    | succ k =>
      rw [List.getElem?_append_right (by rw [hl]; omega), hl, show (k + 1) * 5 + j - 5 = k * 5 + j by omega]
      exact flatE_get P k j p (by simpa using h) hj
theorem own_typed {w : World} {base size n b : Nat} {e : TypeId} {v : Value} {xs : List Value} (h : w.ownsRow base e size v n xs) (hv : v.ownBlock = some b) : base ≤ b ∧ ∃ cur, w.heap[b]? = some (.cells cur e (0, 0)) := by
  obtain ⟨_, ⟨h1, _⟩ | ⟨g, cap, cur, h1, hb, hh, _⟩⟩ := h
  · rw [h1] at hv; cases hv
  · rw [h1] at hv
    obtain rfl : g = b := by simpa [Value.ownBlock] using hv
    exact ⟨hb, cur, hh⟩
theorem OwE.apart {w : World} {base b2 b : Nat} {v u : Value} {P : List HE} {xs : List Int} (h : OwE w base v P) (h2 : OwB w b2 u xs) (hu : u.ownBlock = some b) : v.ownBlock ≠ some b := by
  intro hv
  obtain ⟨_, c1, h3⟩ := own_typed h.row hv
  obtain ⟨_, c2, h4⟩ := own_typed h2 hu
  rw [h3] at h4
  simp at h4
theorem OwE.nil (w : World) (base : Nat) : OwE w base (.slice none 0 0) [] := ⟨World.ownsRow_nil _ _ _ _, by simp, List.Pairwise.nil⟩
theorem EvP.keep {w w1 : World} {base : Nat} {p : HE} (h : EvP w base p) (hk : ∀ b, base ≤ b → b < w.heap.size → p.v.ownBlock = some b → w1.heap[b]? = w.heap[b]?) : EvP w1 base p :=
  ⟨h.own.keep fun b hb hl => hk b (own_typed h.own hb).1 hl hb, h.okb, h.len, h.ok⟩
theorem EvP.below {w w1 : World} {base : Nat} {p : HE} (h : EvP w base p) (hb : Below w.heap.size w w1) : EvP w1 base p := h.keep fun b _ hl _ => hb.block b hl
theorem EvP.mono {w : World} {base b2 : Nat} {p : HE} (h : EvP w base p) (hb : b2 ≤ base) : EvP w b2 p := ⟨h.own.mono hb, h.okb, h.len, h.ok⟩
theorem OwE.keep {w w1 : World} {base : Nat} {v : Value} {P : List HE} (h : OwE w base v P) (hk : ∀ b, base ≤ b → b < w.heap.size → w1.heap[b]? = w.heap[b]?) : OwE w1 base v P :=
  ⟨owns_keep h.row (fun b hb hl => hk b (own_typed h.row hb).1 hl), fun p hp => (h.ev p hp).keep fun b hb hl _ => hk b hb hl, h.sep⟩
theorem OwE.below {w w1 : World} {base : Nat} {v : Value} {P : List HE} (h : OwE w base v P) (hb : Below w.heap.size w w1) : OwE w1 base v P := h.keep fun b _ hl => hb.block b hl
theorem OwE.mono {w : World} {base b2 : Nat} {v : Value} {P : List HE} (h : OwE w base v P) (hb : b2 ≤ base) : OwE w b2 v P := by
  refine ⟨?_, fun p hp => (h.ev p hp).mono hb, h.sep⟩
  obtain ⟨hl, h⟩ := h.row
  refine ⟨hl, ?_⟩
  rcases h with h | ⟨g, cap, cur, rfl, hg, r⟩
  · exact .inl h
  · exact .inr ⟨g, cap, cur, rfl, Nat.le_trans hb hg, r⟩
theorem OwE.form {w : World} {base : Nat} {v : Value} {P : List HE} (h : OwE w base v P) : ∃ A c, v = .slice A P.length c := by
  obtain ⟨_, ⟨h1, h2⟩ | ⟨g, cap, cur, h1, _⟩⟩ := h.row
  · exact ⟨none, 0, by rw [h1, h2]⟩
  · exact ⟨_, _, h1⟩
theorem OwB.one1 {w : World} {base : Nat} {v : Value} {xs : List Int} (h : OwB w base v xs) : v.oneCell' = true := by
  obtain ⟨A, n, c, rfl⟩ := h.form
  rfl
theorem erow_one {w : World} {base : Nat} {p : HE} (h : EvP w base p) : ∀ u ∈ (erow p).toList, u.oneCell' = true := by
  intro u hu
  have h1 := h.own.one1
  simp only [erow, List.mem_cons, List.not_mem_nil, or_false] at hu
  rcases hu with rfl | rfl | rfl | rfl | rfl
  · rfl
  · exact h1
  · rfl
  · rfl
  · rfl
/-- An event is put behind events. -/
theorem run_appE {w : World} {base X : Nat} {v : Value} {P : List HE} {p : HE} {t : TypeId} (ty : TypeId) (hown : OwE w base v P) (hX : w.heap[X]? = some (.cells (erow p) t (0, 0))) (hp : EvP w base p) (hq : ∀ q ∈ P, Apart q p) (hl : P.length ≤ 2513169434915) (hbase : base ≤ w.heap.size) :
    ∃ v' w', (Builtin.append_ #[22, 22] ty #[v, .slice (some ⟨X, 0, none⟩) 1 1]).run Try.prog w = .ok v' w' ∧ OwE w' base v' (P ++ [p]) ∧ w.grownBy w' v.ownBlock ∧ (v'.ownBlock = v.ownBlock ∨ v'.ownBlock = some w.heap.size) := by
  obtain ⟨i, hi, hz, h1, h8⟩ : ∃ i, Try.prog.info? 48 = some i ∧ i.zero = some (.agg #[.int .u8 0, .slice none 0 0, .int .i64 0, .int .i64 0, .int .u8 0]) ∧ i.size = 5 ∧ i.bytes = 56 := by
    obtain ⟨i, h, h2⟩ := Option.map_eq_some_iff.1 (show (Try.prog.info? 48).map (fun i => (i.zero, i.size, i.bytes)) = some (some (.agg #[.int .u8 0, .slice none 0 0, .int .i64 0, .int .i64 0, .int .u8 0]), 5, 56) by kernel_rfl)
    simp only [Prod.mk.injEq] at h2
    exact ⟨i, h, h2⟩
  obtain ⟨v', w', h2, h3, h4, _, h5⟩ := run_append_own_at (P := Try.prog) w base 22 ty 48 i _ 5 56 Try.underlying22 hi hz h1 h8 rfl (by decide) v _ _ hown.row ⟨X, 0, none⟩ 1 1 (erow p).toList rfl (by
    intro j u hj
    have e2 : (⟨X, 0, none⟩ : Addr).add j = ⟨X, 0 + j, none⟩ := by unfold Addr.add; split <;> simp_all
    rw [e2, cell_of_row _ _ _ _ _ _ hX, Nat.zero_add, ← Array.getElem?_toList]
    exact hj) (erow_one hp) (by unfold maxLen; omega) (by omega) hbase
  refine ⟨v', w', h2, ⟨?_, ?_, List.pairwise_append.2 ⟨hown.sep, List.pairwise_singleton _ _, fun a ha b hb => by obtain rfl := List.mem_singleton.1 hb; exact hq a ha⟩⟩, h4, h5⟩
  · rw [flatE_app, List.length_append]
    have e : flatE [p] = (erow p).toList := by simp [flatE]
    rw [e]
    exact h3
  · intro q hq
    rcases List.mem_append.1 hq with hq | hq
    · exact (hown.ev q hq).keep fun b _ hlt hb => h4.block b hlt (fun e => hown.apart (hown.ev q hq).own hb e.symm)
    · obtain rfl := List.mem_singleton.1 hq
      exact hp.keep fun b _ hlt hb => h4.block b hlt (fun e => hown.apart hp.own hb e.symm)
theorem exec_appE {o : Oper} {a : Act} {s x : Operand} {w : World} {base X : Nat} {v : Value} {P : List HE} {p : HE} {t : TypeId} (ho : o.op = .call { callee := .builtin .append, args := #[s, x], argTypes := #[22, 22] }) (hs : a.eval s = v) (hx : a.eval x = .slice (some ⟨X, 0, none⟩) 1 1)
    (hown : OwE w base v P) (hX : w.heap[X]? = some (.cells (erow p) t (0, 0))) (hp : EvP w base p) (hq : ∀ q ∈ P, Apart q p) (hl : P.length ≤ 2513169434915) (hbase : base ≤ w.heap.size) :
    ∃ v' w', (execOp a.eval o).run Try.prog w = .ok (.value v') w' ∧ OwE w' base v' (P ++ [p]) ∧ w.grownBy w' v.ownBlock ∧ (v'.ownBlock = v.ownBlock ∨ v'.ownBlock = some w.heap.size) := by
  obtain ⟨v', w', hr, h2, h3, h4⟩ := run_appE o.type hown hX hp hq hl hbase
  refine ⟨v', w', ?_, h2, h3, h4⟩
  unfold execOp
  simp only [ho, resolve, invoke, builtin, Sem.run_bind, Sem.run_pure, Result.andThen_ok, List.map_toArray, List.map_cons, List.map_nil, hs, hx, hr]
theorem wpList_appE {ops : Array Oper} {rest : List Oper} {o : Oper} {a : Act} {Q : Exit → Act → World → Prop} {w : World} {base X : Nat} {v : Value} {P : List HE} {p : HE} {t : TypeId} (hgd : o.guard = none) (s x : Operand) (ho : o.op = .call { callee := .builtin .append, args := #[s, x], argTypes := #[22, 22] }) (hs : a.eval s = v) (hx : a.eval x = .slice (some ⟨X, 0, none⟩) 1 1)
    (hown : OwE w base v P) (hX : w.heap[X]? = some (.cells (erow p) t (0, 0))) (hp : EvP w base p) (hq : ∀ q ∈ P, Apart q p) (hl : P.length ≤ 2513169434915) (hbase : base ≤ w.heap.size)
    (h : ∀ v' w', OwE w' base v' (P ++ [p]) → w.grownBy w' v.ownBlock → wpList Try.prog ops Q rest (a.put o.dst v') w') : wpList Try.prog ops Q (o :: rest) a w := by
  obtain ⟨v', w', h1, h2, h3, h4⟩ := exec_appE (o := o) ho hs hx hown hX hp hq hl hbase
  refine wpList_plain hgd fun K hK => ?_
  unfold Oper.wp
  rw [h1]
  exact hK _ _ (h v' w' h2 h3)
/-- An event of new bytes lies apart. -/
theorem OwE.fresh {w w' : World} {base b2 : Nat} {v : Value} {P : List HE} {p : HE} (h : OwE w base v P) (hp : EvP w' b2 p) (hb : w.heap.size ≤ b2) : ∀ q ∈ P, Apart q p := by
  intro q hq b hb1 hb2
  have h1 := (World.ownsRow.lt (h.ev q hq).own b hb1).2
  have h2 := (own_typed hp.own hb2).1
  omega
/-- Such a slice reads as its events. -/
theorem OwE.evl {w : World} {base : Nat} {v : Value} {P : List HE} (h : OwE w base v P) (hl : P.length ≤ 140737488355328) : EvL w v (P.map HE.e) := by
  have hrow := h.row
  refine ⟨by rw [List.length_map]; exact hl, ?_⟩
  obtain ⟨hfl, ⟨h1, h2⟩ | ⟨g, cap, cur, h1, hb, hh, h4, h5, h6, h7⟩⟩ := hrow
  · exact ⟨none, 0, by rw [h1, List.length_map, h2], fun _ => rfl, by rw [List.length_map, h2]; exact Nat.le_refl _, by simp [maxLen], fun i hi => by rw [List.length_map] at hi; omega⟩
  · refine ⟨_, cap, by rw [h1, List.length_map], (fun e => by cases e), by rw [List.length_map]; exact h4, h5, fun i hi => ⟨g, 0, rfl, ?_⟩⟩
    rw [List.length_map] at hi
    obtain ⟨p, hp⟩ : ∃ p, P[i]? = some p := ⟨_, List.getElem?_eq_getElem hi⟩
    have hmem := h.ev p (List.mem_of_getElem? hp)
    have he : (P.map HE.e).getD i zE = p.e := by rw [List.getD_eq_getElem?_getD, List.getElem?_map, hp]; rfl
    have hc : ∀ j, j < 5 → w.cell? ⟨g, 0 + i * 5 + j, none⟩ = (erow p)[j]? := fun j hj => by
      rw [cell_of_row _ _ _ _ _ _ hh, Nat.zero_add, ← flatE_get P i j p hp hj, ← Array.getElem?_toList]
      have h8 := congrArg (fun l => l[i * 5 + j]?) h7
      rw [List.getElem?_take] at h8
      rw [← h8, if_pos (by omega)]
    rw [he]
    exact ⟨p.v, hc 0 (by omega), hc 1 (by omega), hc 2 (by omega), hc 3 (by omega), hc 4 (by omega), hmem.own.rd hmem.okb hmem.len, hmem.ok⟩
/-- An event is loaded from where it stands. -/
theorem run_load_ev {w : World} {b o : Nat} {e : Event} (h : EvC w b o e) : ∃ u, BB w u e.bs ∧ e.ok ∧ ∀ w1 : World, w1.heap[b]? = w.heap[b]? → (Instr.loadAt 48 (.pointer (some ⟨b, o, none⟩))).run Try.prog w1 = .ok (.agg (erow ⟨e, u⟩)) w1 := by
  obtain ⟨u, q0, q1, q2, q3, q4, hu, he⟩ := h
  refine ⟨u, hu, he, fun w1 hb => ?_⟩
  obtain ⟨d, hd, hr⟩ := evRow
  have hc : ∀ j v, (erow ⟨e, u⟩).toList[j]? = some v → w1.cell? ⟨b, o + j, none⟩ = some v := fun j v hj => by
    have hj5 : j < 5 := (List.getElem?_eq_some_iff.1 hj).1
    rw [World.cell?_of_block hb]
    rcases (by omega : j = 0 ∨ j = 1 ∨ j = 2 ∨ j = 3 ∨ j = 4) with rfl | rfl | rfl | rfl | rfl
    · rw [← hj]; exact q0
    · rw [← hj]; exact q1
    · rw [← hj]; exact q2
    · rw [← hj]; exact q3
    · rw [← hj]; exact q4
  have := run_loadVar_mid (P := Try.prog) w1 b o 48 (erow ⟨e, u⟩).toList d hc hd hr (by rw [evInfo]; rfl)
  rw [Array.toArray_toList] at this
  simp only [Instr.loadAt, Instr.sureAddr, Sem.run_bind, Sem.run_pure, Result.andThen]
  exact this
end Go.Proofs.Ytgkiedbefogklaa
