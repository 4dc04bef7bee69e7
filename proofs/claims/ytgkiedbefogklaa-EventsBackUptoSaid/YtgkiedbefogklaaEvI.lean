/- What is proved: the law EventsBack returns true when it is called; conditions: the arguments read as they are said to, and hold at most 1048576 events. -/
import Derived.Test.YtgkiedbefogklaaEvF
set_option linter.unusedSimpArgs false
set_option linter.unusedVariables false
namespace Go.Proofs.Ytgkiedbefogklaa
open Go.RowKit
set_option maxRecDepth 100000
set_option maxHeartbeats 4000000
theorem uintF_big {f n : Nat} (h : 128 ≤ n) : uintF (f + 1) n = ((n : Int) % 128 + 128) :: uintF f (n / 128) := by
  show (if 128 ≤ n then _ else _) = _
  rw [if_pos h]
theorem uintF_mono : ∀ (f m n : Nat), m ≤ n → (uintF f m).length ≤ (uintF f n).length
  | 0, m, n, h => Nat.le_refl _
  | f + 1, m, n, h => by
    by_cases h1 : n < 128
    · rw [uintF_small (by omega), uintF_small (by omega)]; exact Nat.le_refl _
    · by_cases h2 : m < 128
      · rw [uintF_small (by omega), uintF_big (by omega)]; simp
      · rw [uintF_big (by omega), uintF_big (by omega)]
        have := uintF_mono f (m / 128) (n / 128) (Nat.div_le_div_right h)
        simp only [List.length_cons]
        omega
theorem mayL_iff {E : List Event} : mayL E = true ↔ E.length ≤ 4096 ∧ ∀ e ∈ E, mayS e = true := by
  unfold mayL
  simp [List.any_eq_true]
theorem writeEv_may {E : List Event} (h : ∀ e ∈ E, mayS e = true) : (writeEvS E).2 = 0 ∨ (writeEvS E).2 = 4 := by
  unfold writeEvS
  rw [if_neg (by
    intro h1
    obtain ⟨x, hx, hy⟩ := List.any_eq_true.1 h1
    rw [h x hx] at hy
    cases hy)]
  by_cases h2 : 65536 < (evP E E.length).length ∨ 4096 < E.length
  · rw [if_pos h2]; exact .inr rfl
  · rw [if_neg h2]; exact .inl rfl
theorem writeEv_less {E F : List Event} (h : (writeEvS E).2 = 0) (hm : ∀ e ∈ F, e ∈ E) (hl : F.length ≤ E.length) (hb : (F.flatMap evS).length ≤ (E.flatMap evS).length) : (writeEvS F).2 = 0 := by
  obtain ⟨h1, h2, h3, h4⟩ := writeEv_good h
  rcases writeEv_may (E := F) (fun e he => h1 e (hm e he)) with h5 | h5
  · exact h5
  · exfalso
    unfold writeEvS at h5
    rw [if_neg (by
      intro h1'
      obtain ⟨x, hx, hy⟩ := List.any_eq_true.1 h1'
      rw [h1 x (hm x hx)] at hy
      cases hy), if_neg (by
      have h6 : (evP F F.length).length ≤ (evP E E.length).length := by
        unfold evP
        rw [List.take_length, List.take_length, List.length_append, List.length_append]
        have := uintF_mono 10 F.length E.length hl
        unfold uintB
        omega
      omega)] at h5
    cases h5
theorem flat_len (E : List Event) (c : Nat) : ((E.take c).flatMap evS).length + ((E.drop c).flatMap evS).length = (E.flatMap evS).length := by
  rw [← List.length_append, ← List.flatMap_append, List.take_append_drop]
theorem begins_app (A M : List Event) : beginsL A (A ++ M) = true := by
  unfold beginsL
  rw [List.take_left, sameL_iff.2 rfl, List.length_append]
  simp
theorem diff_app {A M : List Event} (hA : mayL A = true) (hB : mayL (A ++ M) = true) : diffS A (A ++ M) = writeEvS M := by
  unfold diffS
  rw [if_neg (by rw [hA, hB]; simp), if_neg (by rw [begins_app]; simp), List.drop_left]
theorem apply_app {A M : List Event} (hA : mayL A = true) (hB : mayL (A ++ M) = true) (hb : ∀ e ∈ M, okB e.bs) (h : (writeEvS M).2 = 0) : applyS A (writeEvS M).1 = (0, A ++ M) := by
  have h1 := writeEv_back hb h
  have h2 := (mayL_iff.1 hB).1
  rw [List.length_append] at h2
  unfold applyS
  rw [if_neg (by rw [hA]; simp), h1, if_neg (by simp), if_neg (by simp only; omega)]
/-- What the law says of a log that goes on. -/
structure GoesOn (A M : List Event) (c : Nat) : Prop where
  app : applyS A (diffS A (A ++ M)).1 = (0, A ++ M)
  one : (diffS A (A ++ M.take c)).2 = 0
  two : (diffS (A ++ M.take c) (A ++ M)).2 = 0
  ap1 : applyS A (diffS A (A ++ M.take c)).1 = (0, A ++ M.take c)
  ap2 : applyS (A ++ M.take c) (diffS (A ++ M.take c) (A ++ M)).1 = (0, A ++ M)
theorem goes_on {A M : List Event} {c : Nat} (hb : ∀ e ∈ M, okB e.bs) (h : (diffS A (A ++ M)).2 = 0) : GoesOn A M c := by
  have hA : mayL A = true := by
    cases hm : mayL A with
    | true => rfl
    | false => unfold diffS at h; rw [if_pos (.inl hm)] at h; cases h
  have hB : mayL (A ++ M) = true := by
    cases hm : mayL (A ++ M) with
    | true => rfl
    | false => unfold diffS at h; rw [if_pos (.inr hm)] at h; cases h
  rw [diff_app hA hB] at h
  obtain ⟨b1, b2⟩ := mayL_iff.1 hB
  have hC : mayL (A ++ M.take c) = true := mayL_iff.2 ⟨by
    rw [List.length_append] at b1 ⊢
    have := List.length_take_le c M
    have := List.length_take_le' c M
    omega, fun e he => b2 e (by
      rcases List.mem_append.1 he with h1 | h1
      · exact List.mem_append_left _ h1
      · exact List.mem_append_right _ (List.mem_of_mem_take h1))⟩
  have hfl := flat_len M c
  have h1 : (writeEvS (M.take c)).2 = 0 := writeEv_less h (fun e he => List.mem_of_mem_take he) (List.length_take_le' c M) (by omega)
  have h2 : (writeEvS (M.drop c)).2 = 0 := writeEv_less h (fun e he => List.mem_of_mem_drop he) (by rw [List.length_drop]; omega) (by omega)
  have hs : (A ++ M.take c) ++ M.drop c = A ++ M := by rw [List.append_assoc, List.take_append_drop]
  have d1 := diff_app hA hC
  have d2 : diffS (A ++ M.take c) (A ++ M) = writeEvS (M.drop c) := by
    have := diff_app (A := A ++ M.take c) (M := M.drop c) hC (by rw [hs]; exact hB)
    rwa [hs] at this
  refine ⟨?_, ?_, ?_, ?_, ?_⟩
  · rw [diff_app hA hB]; exact apply_app hA hB hb h
  · rw [d1]; exact h1
  · rw [d2]; exact h2
  · rw [d1]; exact apply_app hA hC (fun e he => hb e (List.mem_of_mem_take he)) h1
  · rw [d2]
    have := apply_app (A := A ++ M.take c) (M := M.drop c) hC (by rw [hs]; exact hB) (fun e he => hb e (List.mem_of_mem_drop he)) h2
    rwa [hs] at this
theorem diff_er (A M : List Event) (h : (diffS A (A ++ M)).2 ≠ 0) : mayL A = false ∨ (mayL A = true ∧ mayL (A ++ M) = false) ∨ (mayL A = true ∧ mayL (A ++ M) = true ∧ (diffS A (A ++ M)).2 = 4) := by
  cases hA : mayL A with
  | false => exact .inl rfl
  | true =>
    cases hB : mayL (A ++ M) with
    | false => exact .inr (.inl ⟨rfl, rfl⟩)
    | true =>
      rw [diff_app hA hB] at h ⊢
      refine .inr (.inr ⟨rfl, rfl, ?_⟩)
      rcases writeEv_may (E := M) (fun e he => (mayL_iff.1 hB).2 e (List.mem_append_right _ he)) with h5 | h5
      · exact absurd h5 h
      · exact h5
theorem evl_of_row {w : World} {base : Nat} {v : Value} {P : List HE} (hrow : w.ownsRow base 48 5 v P.length (flatE P)) (hl : P.length ≤ 140737488355328) (he : ∀ p ∈ P, BB w p.v p.e.bs ∧ p.e.ok) : EvL w v (P.map HE.e) := by
  refine ⟨by rw [List.length_map]; exact hl, ?_⟩
  obtain ⟨hfl, ⟨h1, h2⟩ | ⟨g, cap, cur, h1, hb, hh, h4, h5, h6, h7⟩⟩ := hrow
  · exact ⟨none, 0, by rw [h1, List.length_map, h2], fun _ => rfl, by rw [List.length_map, h2]; exact Nat.le_refl _, by simp [maxLen], fun i hi => by rw [List.length_map] at hi; omega⟩
  · refine ⟨_, cap, by rw [h1, List.length_map], (fun e => by cases e), by rw [List.length_map]; exact h4, h5, fun i hi => ⟨g, 0, rfl, ?_⟩⟩
    rw [List.length_map] at hi
    obtain ⟨p, hp⟩ : ∃ p, P[i]? = some p := ⟨_, List.getElem?_eq_getElem hi⟩
    have hmem := he p (List.mem_of_getElem? hp)
    have he : (P.map HE.e).getD i zE = p.e := by rw [List.getD_eq_getElem?_getD, List.getElem?_map, hp]; rfl
    have hc : ∀ j, j < 5 → w.cell? ⟨g, 0 + i * 5 + j, none⟩ = (erow p)[j]? := fun j hj => by
      rw [cell_of_row _ _ _ _ _ _ hh, Nat.zero_add, ← flatE_get P i j p hp hj, ← Array.getElem?_toList]
      have h8 := congrArg (fun l => l[i * 5 + j]?) h7
      rw [List.getElem?_take] at h8
      rw [← h8, if_pos (by omega)]
    rw [he]
    exact ⟨p.v, hc 0 (by omega), hc 1 (by omega), hc 2 (by omega), hc 3 (by omega), hc 4 (by omega), hmem.1, hmem.2⟩
theorem BB.one1 {w : World} {v : Value} {xs : List Int} (h : BB w v xs) : v.oneCell' = true := by
  obtain ⟨_, _, A, c, rfl, _⟩ := h
  rfl
/-- Events that lie elsewhere are put behind events of the call's own. -/
theorem run_appEl {w0 w : World} {base : Nat} {v u : Value} {P : List HE} {M : List Event} (ty : TypeId) (hown : OwE w base v P) (hu : EvL w0 u M) (hb0 : Below w0.heap.size w0 w) (hlow : w0.heap.size ≤ base) (hl : P.length + M.length ≤ 2513169434916) (hbase : base ≤ w.heap.size) :
    ∃ v' w', (Builtin.append_ #[22, 22] ty #[v, u]).run Try.prog w = .ok v' w' ∧ EvL w' v' (P.map HE.e ++ M) ∧ Below w0.heap.size w0 w' := by
  obtain ⟨i, hi, hz, h1, h8⟩ : ∃ i, Try.prog.info? 48 = some i ∧ i.zero = some (.agg #[.int .u8 0, .slice none 0 0, .int .i64 0, .int .i64 0, .int .u8 0]) ∧ i.size = 5 ∧ i.bytes = 56 := by
    obtain ⟨i, h, h2⟩ := Option.map_eq_some_iff.1 (show (Try.prog.info? 48).map (fun i => (i.zero, i.size, i.bytes)) = some (some (.agg #[.int .u8 0, .slice none 0 0, .int .i64 0, .int .i64 0, .int .u8 0]), 5, 56) by kernel_rfl)
    simp only [Prod.mk.injEq] at h2
    exact ⟨i, h, h2⟩
  have hum := hu.below hb0
  obtain ⟨_, X, cap, rfl, hX0, hlc, hmc, hel⟩ := hu
  cases X with
  | none =>
    have hM : M = [] := List.eq_nil_of_length_eq_zero (by have := hX0 rfl; omega)
    subst hM
    obtain rfl : cap = 0 := hX0 rfl
    refine ⟨v, w, run_append_owned_none w base 22 ty 48 i 5 Try.underlying22 hi v _ _ hown.row, ?_, hb0⟩
    rw [List.append_nil]
    exact hown.evl (by simp at hl; omega)
  | some ad =>
    have hel2 : ∀ i, i < M.length → ∃ u, BB w0 u (M.getD i zE).bs ∧ (M.getD i zE).ok ∧ ∀ j x, (erow ⟨M.getD i zE, u⟩)[j]? = some x → w.cell? (ad.add (i * 5 + j)) = some x := by
      intro i hi
      obtain ⟨b, off, had, u, q0, q1, q2, q3, q4, hb, hok⟩ := hel i hi
      obtain rfl := Option.some.inj had
      refine ⟨u, hb, hok, fun j x hj => ?_⟩
      have hj5 : j < 5 := (Array.getElem?_eq_some_iff.1 hj).1
      have e2 : (⟨b, off, none⟩ : Addr).add (i * 5 + j) = ⟨b, off + i * 5 + j, none⟩ := by unfold Addr.add; split <;> simp_all [Nat.add_assoc]
      have hbl := block_lt_of_cell q0
      have k := fun o => (bcell hb0).1 b o hbl
      rw [e2, ← hj, k]
      rcases (by omega : j = 0 ∨ j = 1 ∨ j = 2 ∨ j = 3 ∨ j = 4) with rfl | rfl | rfl | rfl | rfl
      · exact q0
      · exact q1
      · exact q2
      · exact q3
      · exact q4
    obtain ⟨Q, hQ⟩ : ∃ Q : List HE, Q = (List.range M.length).map (fun i => if h : i < M.length then (⟨M.getD i zE, (hel2 i h).choose⟩ : HE) else ⟨zE, .slice none 0 0⟩) := ⟨_, rfl⟩
    have hQl : Q.length = M.length := by rw [hQ]; simp
    have hQi : ∀ i, i < M.length → ∃ u, Q[i]? = some ⟨M.getD i zE, u⟩ ∧ BB w0 u (M.getD i zE).bs ∧ (M.getD i zE).ok ∧ ∀ j x, (erow ⟨M.getD i zE, u⟩)[j]? = some x → w.cell? (ad.add (i * 5 + j)) = some x := by
      intro i hi
      refine ⟨(hel2 i hi).choose, ?_, (hel2 i hi).choose_spec⟩
      rw [hQ, List.getElem?_map, List.getElem?_range hi]
      show some (dite _ _ _) = _
      rw [dif_pos hi]
    have hQe : Q.map HE.e = M := by
      refine List.ext_getElem? fun i => ?_
      by_cases hi : i < M.length
      · obtain ⟨u, e, _⟩ := hQi i hi
        rw [List.getElem?_map, e, List.getElem?_eq_getElem hi, List.getD_eq_getElem?_getD, List.getElem?_eq_getElem hi]
        rfl
      · rw [List.getElem?_eq_none (by simp; omega), List.getElem?_eq_none (by omega)]
    have hmem : ∀ p ∈ Q, BB w0 p.v p.e.bs ∧ p.e.ok := by
      intro p hp
      obtain ⟨i, hi⟩ := List.getElem?_of_mem hp
      have hlt : i < M.length := by rw [← hQl]; exact (List.getElem?_eq_some_iff.1 hi).1
      obtain ⟨u, e, h1, h2, _⟩ := hQi i hlt
      obtain rfl := Option.some.inj (hi.symm.trans e)
      exact ⟨h1, h2⟩
    obtain ⟨v', w', h2, h3, h4, _, h5⟩ := run_append_own_at (P := Try.prog) w base 22 ty 48 i _ 5 56 Try.underlying22 hi hz h1 h8 rfl (by decide) v _ _ hown.row ad M.length cap (flatE Q) (by rw [flatE_len, hQl]) (by
      intro j x hj
      have hjl : j < M.length * 5 := by rw [← hQl, ← flatE_len]; exact (List.getElem?_eq_some_iff.1 hj).1
      obtain ⟨u, e, _, _, h3⟩ := hQi (j / 5) (by omega)
      have hm := flatE_get Q (j / 5) (j % 5) _ e (Nat.mod_lt _ (by decide))
      rw [show j / 5 * 5 + j % 5 = j by omega] at hm
      have h4 := h3 (j % 5) x (by rw [← hm]; exact hj)
      rw [show j / 5 * 5 + j % 5 = j by omega] at h4
      exact h4) (by
      intro x hx
      obtain ⟨p, hp, hx⟩ := List.mem_flatMap.1 hx
      have h1 := (hmem p hp).1.one1
      simp only [erow, List.mem_cons, List.not_mem_nil, or_false] at hx
      rcases hx with rfl | rfl | rfl | rfl | rfl
      · rfl
      · exact h1
      · rfl
      · rfl
      · rfl) (by unfold maxLen; omega) (by omega) hbase
    have hbel : Below w0.heap.size w0 w' := Below.grown hb0 h4 (Nat.le_trans hlow hbase) (fun b hb => Nat.le_trans hlow (own_typed hown.row hb).1)
    refine ⟨v', w', h2, ?_, hbel⟩
    have hr := evl_of_row (w := w') (base := base) (v := v') (P := P ++ Q) (by rw [List.length_append, hQl, flatE_app]; exact h3) (by rw [List.length_append, hQl]; omega) (by
      intro p hp
      rcases List.mem_append.1 hp with hp | hp
      · have h6 := hown.ev p hp
        exact ⟨(h6.own.keep fun b hb hlt => h4.block b hlt (fun e => hown.apart h6.own hb e.symm)).rd h6.okb h6.len, h6.ok⟩
      · obtain ⟨h6, h7⟩ := hmem p hp
        exact ⟨h6.below hbel, h7⟩)
    rw [List.map_append, hQe] at hr
    exact hr
theorem wpList_appEl {ops : Array Oper} {rest : List Oper} {o : Oper} {a : Act} {Q' : Exit → Act → World → Prop} {w0 w : World} {base : Nat} {v u : Value} {P : List HE} {M : List Event} (hgd : o.guard = none) (s x : Operand) (ho : o.op = .call { callee := .builtin .append, args := #[s, x], argTypes := #[22, 22] }) (hs : a.eval s = v) (hx : a.eval x = u)
    (hown : OwE w base v P) (hu : EvL w0 u M) (hb0 : Below w0.heap.size w0 w) (hlow : w0.heap.size ≤ base) (hl : P.length + M.length ≤ 2513169434916) (hbase : base ≤ w.heap.size)
    (h : ∀ v' w', EvL w' v' (P.map HE.e ++ M) → Below w0.heap.size w0 w' → wpList Try.prog ops Q' rest (a.put o.dst v') w') : wpList Try.prog ops Q' (o :: rest) a w := by
  obtain ⟨v', w', hr, h2, h3⟩ := run_appEl o.type hown hu hb0 hlow hl hbase
  refine wpList_plain hgd fun K hK => ?_
  have he : (execOp a.eval o).run Try.prog w = .ok (.value v') w' := by
    unfold execOp
    simp only [ho, resolve, invoke, builtin, Sem.run_bind, Sem.run_pure, Result.andThen_ok, List.map_toArray, List.map_cons, List.map_nil, hs, hx, hr]
  unfold Oper.wp
  rw [he]
  exact hK _ _ (h v' w' h2 h3)
theorem evl_evs {w : World} {v : Value} {E : List Event} (h : EvL w v E) : ∀ e ∈ E, okB e.bs ∧ e.ok ∧ e.bs.length ≤ 140737488355328 := by
  obtain ⟨_, A, c, rfl, _, _, _, hi⟩ := h
  intro e he
  obtain ⟨i, hil, rfl⟩ := List.mem_iff_getElem.1 he
  obtain ⟨b, off, _, u, _, _, _, _, _, hu, hok⟩ := hi i hil
  have e1 : E.getD i zE = E[i] := by rw [List.getD_eq_getElem?_getD, List.getElem?_eq_getElem hil]; rfl
  rw [e1] at hu hok
  exact ⟨hu.ok, hok, hu.len⟩
set_option maxHeartbeats 8000000
theorem evback_bad (A M B : List Event) (u v : Value) (n : Int) (w : World) (hu : EvL w u A) (hv : EvL w v M) (hA : A.length ≤ 1048576) (hM : M.length ≤ 1048576) (hn : 0 ≤ n ∧ n ≤ 255) (hB : A ++ M = B) (er : Nat) (her : er ≠ 0) (D : List Int)
    (HDK : Hid (∀ W c, EvL W c B → okB D ∧ D.length ≤ 140737488355328))
    (HD1 : Hid (∀ W c, EvL W u A → EvL W c B → Calls Try.prog 7 #[u, c] W fun e w' => (∃ q, e = .returned (.tuple #[q, .int .i64 er]) ∧ OwB w' W.heap.size q D) ∧ Below W.heap.size W w'))
    (ma mb : Bool) (HM1 : Hid (∀ W c, EvL W c A → Calls Try.prog 9 #[c] W fun e w' => e = .returned (.bool ma) ∧ Below W.heap.size W w'))
    (HM2 : Hid (∀ W c, EvL W c B → Calls Try.prog 9 #[c] W fun e w' => e = .returned (.bool mb) ∧ Below W.heap.size W w'))
    (hm : ma = false ∨ (ma = true ∧ mb = false) ∨ (ma = true ∧ mb = true ∧ er = 4)) :
    Calls Try.prog 3 #[u, v, .int .u8 n] w fun e w' => e = .returned (.bool true) ∧ Below w.heap.size w w' := by
  have HAM := Lib.hid hB
  clear hB
  obtain ⟨UN, hUN⟩ : ∃ n, A.length = n := ⟨_, rfl⟩
  obtain ⟨MN, hMN⟩ : ∃ n, M.length = n := ⟨_, rfl⟩
  have HUN := Lib.hid hUN
  have HMN := Lib.hid hMN
  rw [hUN] at hA
  rw [hMN] at hM
  obtain ⟨UA, UC, rfl⟩ : ∃ X c, u = .slice X UN c := by obtain ⟨_, X, c, h, _⟩ := hu; exact ⟨_, _, by rw [← hUN]; exact h⟩
  obtain ⟨VA, VC, rfl⟩ : ∃ X c, v = .slice X MN c := by obtain ⟨_, X, c, h, _⟩ := hv; exact ⟨_, _, by rw [← hMN]; exact h⟩
  have HU := Lib.hid hu
  have HV := Lib.hid hv
  have heri : ¬ (er : Int) = 0 := by omega
  clear hu hv
  go_enter Try.func3, Try.ntmps3
  go_wp2_with fail
  refine (rcopy_any A _ w HU.out (by rw [HUN.out]; omega)).mono ?_
  rintro e w1 ⟨⟨L, P, rfl, ho, hp⟩, hb⟩
  obtain ⟨LA, LC, hL⟩ := ho.form
  have hPl : P.length = A.length := by rw [← hp, List.length_map]
  rw [hPl, HUN.out] at hL
  subst hL
  have HO := Lib.hid ho
  have HB1 := Lib.hid hb
  have HPL : Hid (P.length = UN) := Lib.hid (hPl.trans HUN.out)
  have HPE := Lib.hid hp
  clear ho hb hp hPl
  go_wp2_with (at_builtin; refine wpList_appEl (w0 := w) (base := w.heap.size) (v := .slice LA UN LC) (u := .slice VA MN VC) (P := P) (M := M) rfl _ _ rfl rfl rfl ?_ ?_ ?_ ?_ ?_ ?_ ?_)
  · exact HO.out
  · exact HV.out
  · exact HB1.out
  · exact Nat.le_refl _
  · rw [HPL.out, HMN.out]; omega
  · exact HB1.out.size
  intro b0 w2 hel hb2
  rw [HPE.out, HAM.out] at hel
  have hBl : B.length = UN + MN := by rw [← HAM.out, List.length_append, HUN.out, HMN.out]
  obtain ⟨BA, BC, hbc, hcm, rfl⟩ : ∃ X c, UN + MN ≤ c ∧ c ≤ maxLen ∧ b0 = .slice X (UN + MN) c := by obtain ⟨_, X, c, h, _, h2, h3, _⟩ := hel; exact ⟨_, _, by rw [← hBl]; exact h2, h3, by rw [← hBl]; exact h⟩
  have HB2 := Lib.hid hb2
  have HEv := Lib.hid hel
  clear hel hb2
  go_wp2_with fail
  refine (HD1.out w2 _ (HU.out.below HB2.out) HEv.out).mono ?_
  rintro e w3 ⟨⟨q1, rfl, ho⟩, hb⟩
  have HQ1 := Lib.hid (ho.rd (HDK.out _ _ HEv.out).1 (HDK.out _ _ HEv.out).2)
  obtain ⟨Q1A, Q1N, Q1C, rfl⟩ := ho.form
  have HE3 := Lib.hid (HEv.out.below hb)
  have HB3 := Lib.hid (bl_then HB2.out HB2.out.size hb)
  clear ho hb
  go_wp2_with fail
  refine (anchored_any w3).mono ?_
  rintro e w4 ⟨rfl, hb⟩
  have HB4 := Lib.hid (bl_then HB3.out HB3.out.size hb)
  have HE4 := Lib.hid (HE3.out.below hb)
  clear hb
  go_wp2_with fail
  refine (HM1.out w4 _ (HU.out.below HB4.out)).mono ?_
  rintro e w5 ⟨rfl, hb⟩
  have HB5 := Lib.hid (bl_then HB4.out HB4.out.size hb)
  have HE5 := Lib.hid (HE4.out.below hb)
  clear hb
  rcases hm with rfl | ⟨rfl, rfl⟩ | ⟨rfl, rfl, rfl⟩
  · go_wp2_with fail
    go_ret
    exact ⟨rfl, HB5.out⟩
  · go_wp2_with fail
    refine (HM2.out w5 _ HE5.out).mono ?_
    rintro e w6 ⟨rfl, hb⟩
    have HB6 := Lib.hid (bl_then HB5.out HB5.out.size hb)
    clear hb
    go_wp2_with fail
    go_ret
    exact ⟨rfl, HB6.out⟩
  · go_wp2_with fail
    refine (HM2.out w5 _ HE5.out).mono ?_
    rintro e w6 ⟨rfl, hb⟩
    have HB6 := Lib.hid (bl_then HB5.out HB5.out.size hb)
    clear hb
    go_wp2_with fail
    go_ret
    exact ⟨rfl, HB6.out⟩
theorem evback_good (A M B C : List Event) (u v : Value) (n : Int) (k : Nat) (w : World) (hu : EvL w u A) (hv : EvL w v M) (hA : A.length ≤ 1048576) (hM : M.length ≤ 1048576) (hn : 0 ≤ n ∧ n ≤ 255) (hB : A ++ M = B)
    (hk : k = A.length + n.toNat % (M.length + 1)) (HC : Hid (B.take k = C)) (D X Y : List Int)
    (HDK : Hid (∀ W c, EvL W c B → okB D ∧ D.length ≤ 140737488355328)) (HXK : Hid (∀ W c, EvL W c C → okB X ∧ X.length ≤ 140737488355328)) (HYK : Hid (∀ W c, EvL W c B → okB Y ∧ Y.length ≤ 140737488355328))
    (HD1 : Hid (∀ W c, EvL W u A → EvL W c B → Calls Try.prog 7 #[u, c] W fun e w' => (∃ q, e = .returned (.tuple #[q, .int .i64 0]) ∧ OwB w' W.heap.size q D) ∧ Below W.heap.size W w'))
    (HD2 : Hid (∀ W c, EvL W u A → EvL W c C → Calls Try.prog 7 #[u, c] W fun e w' => (∃ q, e = .returned (.tuple #[q, .int .i64 0]) ∧ OwB w' W.heap.size q X) ∧ Below W.heap.size W w'))
    (HD3 : Hid (∀ W c d, EvL W c C → EvL W d B → Calls Try.prog 7 #[c, d] W fun e w' => (∃ q, e = .returned (.tuple #[q, .int .i64 0]) ∧ OwB w' W.heap.size q Y) ∧ Below W.heap.size W w'))
    (HA1 : Hid (∀ W d, EvL W u A → BB W d D → Calls Try.prog 10 #[u, d] W fun e w' => EsPost 0 B W.heap.size e w' ∧ Below W.heap.size W w'))
    (HA2 : Hid (∀ W d, EvL W u A → BB W d X → Calls Try.prog 10 #[u, d] W fun e w' => EsPost 0 C W.heap.size e w' ∧ Below W.heap.size W w'))
    (HA3 : Hid (∀ W c d, EvL W c C → BB W d Y → Calls Try.prog 10 #[c, d] W fun e w' => EsPost 0 B W.heap.size e w' ∧ Below W.heap.size W w'))
    (HBG : Hid (∀ W c, EvL W u A → EvL W c B → Calls Try.prog 12 #[u, c] W fun e w' => e = .returned (.bool true) ∧ Below W.heap.size W w'))
    (HLS : Hid (∀ W c d, EvL W c B → EvL W d B → Calls Try.prog 11 #[c, d] W fun e w' => e = .returned (.bool true) ∧ Below W.heap.size W w')) :
    Calls Try.prog 3 #[u, v, .int .u8 n] w fun e w' => e = .returned (.bool true) ∧ Below w.heap.size w w' := by
  have HAM := Lib.hid hB
  clear hB
  obtain ⟨UN, hUN⟩ : ∃ n, A.length = n := ⟨_, rfl⟩
  obtain ⟨MN, hMN⟩ : ∃ n, M.length = n := ⟨_, rfl⟩
  have HUN := Lib.hid hUN
  have HMN := Lib.hid hMN
  rw [hUN] at hA
  rw [hMN] at hM
  obtain ⟨UA, UC, rfl⟩ : ∃ X c, u = .slice X UN c := by obtain ⟨_, X, c, h, _⟩ := hu; exact ⟨_, _, by rw [← hUN]; exact h⟩
  obtain ⟨VA, VC, rfl⟩ : ∃ X c, v = .slice X MN c := by obtain ⟨_, X, c, h, _⟩ := hv; exact ⟨_, _, by rw [← hMN]; exact h⟩
  have HU := Lib.hid hu
  have HV := Lib.hid hv
  rw [hUN, hMN] at hk
  have hBl : B.length = UN + MN := by rw [← HAM.out, List.length_append, hUN, hMN]
  have HBL := Lib.hid hBl
  have hml : n.toNat % (MN + 1) ≤ MN := by have := Nat.mod_lt n.toNat (show 0 < MN + 1 by omega); omega
  have hkB : k ≤ UN + MN := by omega
  have hkB2 : (k : Int) ≤ (UN : Int) + (MN : Int) := by omega
  have hk0 : (0 : Int) ≤ (k : Int) := by omega
  have hki : wrap64 ((UN : Int) + n % ((MN : Int) + 1)) = (k : Int) := by
    obtain ⟨m, rfl⟩ := Int.eq_ofNat_of_zero_le hn.1
    rw [show (m : Int) % ((MN : Int) + 1) = ((m % (MN + 1) : Nat) : Int) from rfl]
    simp only [Int.toNat_natCast] at hk hml
    obtain ⟨r, hr⟩ : ∃ r, m % (MN + 1) = r := ⟨_, rfl⟩
    rw [hr] at hk hml ⊢
    subst hk
    unfold wrap64
    omega
  have hkc : ∀ c : Nat, UN + MN ≤ c → (k : Int) ≤ (c : Int) := fun c h => by omega
  clear hml hk hBl hUN hMN
  clear hu hv
  go_enter Try.func3, Try.ntmps3
  go_wp2_with fail
  refine (rcopy_any A _ w HU.out (by rw [HUN.out]; omega)).mono ?_
  rintro e w1 ⟨⟨L, P, rfl, ho, hp⟩, hb⟩
  obtain ⟨LA, LC, hL⟩ := ho.form
  have hPl : P.length = A.length := by rw [← hp, List.length_map]
  rw [hPl, HUN.out] at hL
  subst hL
  have HO := Lib.hid ho
  have HB1 := Lib.hid hb
  have HPL : Hid (P.length = UN) := Lib.hid (hPl.trans HUN.out)
  have HPE := Lib.hid hp
  clear ho hb hp hPl
  go_wp2_with (at_builtin; refine wpList_appEl (w0 := w) (base := w.heap.size) (v := .slice LA UN LC) (u := .slice VA MN VC) (P := P) (M := M) rfl _ _ rfl rfl rfl ?_ ?_ ?_ ?_ ?_ ?_ ?_)
  · exact HO.out
  · exact HV.out
  · exact HB1.out
  · exact Nat.le_refl _
  · rw [HPL.out, HMN.out]; omega
  · exact HB1.out.size
  intro b0 w2 hel hb2
  rw [HPE.out, HAM.out] at hel
  have hBl : B.length = UN + MN := by rw [← HAM.out, List.length_append, HUN.out, HMN.out]
  obtain ⟨BA, BC, hbc, hcm, rfl⟩ : ∃ X c, UN + MN ≤ c ∧ c ≤ maxLen ∧ b0 = .slice X (UN + MN) c := by obtain ⟨_, X, c, h, _, h2, h3, _⟩ := hel; exact ⟨_, _, by rw [← hBl]; exact h2, h3, by rw [← hBl]; exact h⟩
  have HB2 := Lib.hid hb2
  have HEv := Lib.hid hel
  have hkbc := hkc BC hbc
  have hkbn : k ≤ BC := by omega
  clear hkc
  clear hel hb2
  go_wp2_with fail
  refine (HD1.out w2 _ (HU.out.below HB2.out) HEv.out).mono ?_
  rintro e w3 ⟨⟨q1, rfl, ho⟩, hb⟩
  have HQ1 := Lib.hid (ho.rd (HDK.out _ _ HEv.out).1 (HDK.out _ _ HEv.out).2)
  obtain ⟨Q1A, Q1N, Q1C, rfl⟩ := ho.form
  have HE3 := Lib.hid (HEv.out.below hb)
  have HB3 := Lib.hid (bl_then HB2.out HB2.out.size hb)
  clear ho hb
  go_wp2_with fail
  refine (HA1.out w3 _ (HU.out.below HB3.out) HQ1.out).mono ?_
  rintro e w4 ⟨⟨L4, P4, rfl, ho, hp⟩, hb⟩
  have HL4 : Hid (EvL w4 L4 B) := Lib.hid (by
    have h9 := ho.evl (by rw [← List.length_map (f := HE.e), hp, HBL.out]; omega)
    rwa [hp] at h9)
  obtain ⟨L4A, L4C, hL⟩ := ho.form
  obtain ⟨L4N, hLN⟩ : ∃ n, P4.length = n := ⟨_, rfl⟩
  rw [hLN] at hL
  subst hL
  have HE4 := Lib.hid (HE3.out.below hb)
  have HB4 := Lib.hid (bl_then HB3.out HB3.out.size hb)
  clear ho hp hb hLN
  go_wp2_with fail
  refine (HLS.out w4 _ _ HL4.out HE4.out).mono ?_
  rintro e w5 ⟨rfl, hb⟩
  have HE5 := Lib.hid (HE4.out.below hb)
  have HL5 := Lib.hid (HL4.out.below hb)
  have HB5 := Lib.hid (bl_then HB4.out HB4.out.size hb)
  clear hb
  go_wp2_with fail
  refine (HBG.out w5 _ (HU.out.below HB5.out) HL5.out).mono ?_
  rintro e w6 ⟨rfl, hb⟩
  have HE6 := Lib.hid (HE5.out.below hb)
  have HB6 := Lib.hid (bl_then HB5.out HB5.out.size hb)
  clear hb
  go_wp2_with fail
  have HC6 : Hid (EvL w6 (.slice BA k k) C) := Lib.hid (by
    have := HE6.out.cut (m := k) (c2 := k) hkB (Nat.le_refl _) hkbn
    rwa [HC.out] at this)
  clear HL5 HE3 HE4 HE5
  refine (HD2.out w6 _ (HU.out.below HB6.out) HC6.out).mono ?_
  rintro e w7 ⟨⟨q2, rfl, ho⟩, hb⟩
  have HQ2 := Lib.hid (ho.rd (HXK.out _ _ HC6.out).1 (HXK.out _ _ HC6.out).2)
  obtain ⟨Q2A, Q2N, Q2C, rfl⟩ := ho.form
  have HE7 := Lib.hid (HE6.out.below hb)
  have HC7 := Lib.hid (HC6.out.below hb)
  have HB7 := Lib.hid (bl_then HB6.out HB6.out.size hb)
  clear ho hb
  go_wp2_with fail
  refine (HD3.out w7 _ _ HC7.out HE7.out).mono ?_
  rintro e w8 ⟨⟨q3, rfl, ho⟩, hb⟩
  have HQ3 := Lib.hid (ho.rd (HYK.out _ _ HE7.out).1 (HYK.out _ _ HE7.out).2)
  obtain ⟨Q3A, Q3N, Q3C, rfl⟩ := ho.form
  have HE8 := Lib.hid (HE7.out.below hb)
  have HQ28 := Lib.hid (HQ2.out.below hb)
  have HB8 := Lib.hid (bl_then HB7.out HB7.out.size hb)
  clear ho hb
  go_wp2_with fail
  refine (HA2.out w8 _ (HU.out.below HB8.out) HQ28.out).mono ?_
  rintro e w9 ⟨⟨L9, P9, rfl, ho, hp⟩, hb⟩
  have HL9 : Hid (EvL w9 L9 C) := Lib.hid (by
    have h9 := ho.evl (by rw [← List.length_map (f := HE.e), hp, ← HC.out]; have := List.length_take_le' k B; have := HBL.out; omega)
    rwa [hp] at h9)
  obtain ⟨L9A, L9C, hL⟩ := ho.form
  obtain ⟨L9N, hLN⟩ : ∃ n, P9.length = n := ⟨_, rfl⟩
  rw [hLN] at hL
  subst hL
  have HE9 := Lib.hid (HE8.out.below hb)
  have HQ39 := Lib.hid (HQ3.out.below hb)
  have HB9 := Lib.hid (bl_then HB8.out HB8.out.size hb)
  clear ho hp hb hLN
  go_wp2_with fail
  refine (HA3.out w9 _ _ HL9.out HQ39.out).mono ?_
  rintro e wA ⟨⟨LA2, PA2, rfl, ho, hp⟩, hb⟩
  have HLA : Hid (EvL wA LA2 B) := Lib.hid (by
    have h9 := ho.evl (by rw [← List.length_map (f := HE.e), hp, HBL.out]; omega)
    rwa [hp] at h9)
  obtain ⟨LA2A, LA2C, hL⟩ := ho.form
  obtain ⟨LA2N, hLN⟩ : ∃ n, PA2.length = n := ⟨_, rfl⟩
  rw [hLN] at hL
  subst hL
  have HEA := Lib.hid (HE9.out.below hb)
  have HBA := Lib.hid (bl_then HB9.out HB9.out.size hb)
  clear ho hp hb hLN
  go_wp2_with fail
  refine (anchored_any wA).mono ?_
  rintro e wB ⟨rfl, hb⟩
  have HEB := Lib.hid (HEA.out.below hb)
  have HLB := Lib.hid (HLA.out.below hb)
  have HBB := Lib.hid (bl_then HBA.out HBA.out.size hb)
  clear hb
  go_wp2_with fail
  refine (HLS.out wB _ _ HLB.out HEB.out).mono ?_
  rintro e wC ⟨rfl, hb⟩
  have HBC := Lib.hid (bl_then HBB.out HBB.out.size hb)
  clear hb
  go_wp2_with fail
  go_ret
  exact ⟨rfl, HBC.out⟩
theorem evback_law (A M : List Event) (u v : Value) (n : Int) (w : World) (hu : EvL w u A) (hv : EvL w v M) (hA : A.length ≤ 1048576) (hM : M.length ≤ 1048576) (hn : 0 ≤ n ∧ n ≤ 255) :
    Calls Try.prog 3 #[u, v, .int .u8 n] w fun e w' => e = .returned (.bool true) ∧ Below w.heap.size w w' := by
  by_cases h0 : (diffS A (A ++ M)).2 = 0
  · have G := goes_on (c := n.toNat % (M.length + 1)) (fun e he => (evl_evs hv e he).1) h0
    have hC : (A ++ M).take (A.length + n.toNat % (M.length + 1)) = A ++ M.take (n.toNat % (M.length + 1)) := by rw [List.take_append, List.take_of_length_le (by omega), Nat.add_sub_cancel_left]
    refine evback_good A M (A ++ M) (A ++ M.take (n.toNat % (M.length + 1))) u v n _ w hu hv hA hM hn rfl rfl (Lib.hid hC) (diffS A (A ++ M)).1 (diffS A (A ++ M.take (n.toNat % (M.length + 1)))).1 (diffS (A ++ M.take (n.toNat % (M.length + 1))) (A ++ M)).1
      (Lib.hid fun W c h => diffS_ok h) (Lib.hid fun W c h => diffS_ok h) (Lib.hid fun W c h => diffS_ok h) (Lib.hid fun W c h1 h2 => ?_) (Lib.hid fun W c h1 h2 => ?_) (Lib.hid fun W c d h1 h2 => ?_) (Lib.hid fun W d h1 h2 => ?_) (Lib.hid fun W d h1 h2 => ?_) (Lib.hid fun W c d h1 h2 => ?_) (Lib.hid fun W c h1 h2 => ?_) (Lib.hid fun W c d h1 h2 => ?_)
    · have := evdiff_any A (A ++ M) u c W h1 h2
      rwa [h0] at this
    · have := evdiff_any A (A ++ M.take (n.toNat % (M.length + 1))) u c W h1 h2
      rwa [G.one] at this
    · have := evdiff_any (A ++ M.take (n.toNat % (M.length + 1))) (A ++ M) c d W h1 h2
      rwa [G.two] at this
    · have := evapply_any A _ u d W h1 h2
      rwa [G.app] at this
    · have := evapply_any A _ u d W h1 h2
      rwa [G.ap1] at this
    · have := evapply_any _ _ c d W h1 h2
      rwa [G.ap2] at this
    · have := evbegins_any A (A ++ M) u c W h1 h2
      rwa [begins_app] at this
    · have := lists_dec (A ++ M) (A ++ M) c d W h1 h2
      rwa [sameL_iff.2 rfl] at this
  · exact evback_bad A M (A ++ M) u v n w hu hv hA hM hn rfl _ h0 (diffS A (A ++ M)).1 (Lib.hid fun W c h => diffS_ok h) (Lib.hid fun W c h1 h2 => evdiff_any A (A ++ M) u c W h1 h2) _ _ (Lib.hid fun W c h => revmay_any c A W h) (Lib.hid fun W c h => revmay_any c (A ++ M) W h) (diff_er A M h0)
end Go.Proofs.Ytgkiedbefogklaa
