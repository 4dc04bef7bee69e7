/- What is proved: plain laws of a parser's states, what a parser holds in memory and how it turns, slices of the call's own that grow by one number; conditions: those typed. -/
import Derived.Test.YtecgipccippddaaBlk
import Derived.Test.YtecgipccippddaaBytes
import Derived.Laws.AppendOwn
import Derived.Laws.AppendOwnNone
import Derived.Maps.AppendAt
set_option linter.unusedSimpArgs false
set_option linter.unusedVariables false
namespace Go.Proofs.Ytecgipccippddaa
open Go.RowKit
set_option maxRecDepth 100000
set_option maxHeartbeats 4000000
/-- A parser's state. -/
structure VS where
  st : Nat
  pv : Int
  mid : List Int
  ps : List Int
  tx : List Int
  bad : Bool
  more : Bool
/-- An action: kind, character, private, final, middle, parameters, text. -/
structure Ac where
  k : Int
  ch : Int
  pv : Int
  fi : Int
  mid : List Int
  ps : List Int
  tx : List Int
def freshS (n : Nat) : VS := ⟨n, 0, [], [], [], false, false⟩
def addS (s : VS) (c : Int) : VS := if 2 ≤ s.mid.length then { s with bad := true } else { s with mid := s.mid ++ [c] }
def ps0 (s : VS) : List Int := if s.ps.length = 0 then [0] else s.ps
def digitS (s : VS) (n : Int) : VS := if s.more then { s with ps := ps0 s } else { s with ps := (ps0 s).set ((ps0 s).length - 1) (min (10 * (ps0 s).getD ((ps0 s).length - 1) 0 + n) 9999) }
def anotherS (s : VS) : VS := if 16 ≤ (ps0 s).length then { s with ps := ps0 s, more := true } else { s with ps := ps0 s ++ [0] }
def badS (s : VS) : VS := { s with bad := s.bad || decide (0 < s.mid.length) }
def endR (s : VS) (a : Ac) : List Ac := bif s.bad then [] else [a]
def privS (s : VS) (c : Int) : VS := { s with bad := s.bad || (decide (s.pv ≠ 0) || (decide (0 < s.mid.length) || decide (0 < s.ps.length))), pv := c }
def controlS (s : VS) (c : Int) : VS × List Ac :=
  if 48 ≤ c ∧ c ≤ 57 then (digitS (badS s) (c - 48), [])
  else if c = 59 then (anotherS (badS s), [])
  else if c = 58 then ({ s with bad := true }, [])
  else if 60 ≤ c ∧ c ≤ 63 then (privS s c, [])
  else if 32 ≤ c ∧ c < 48 then (addS s c, [])
  else if 64 ≤ c ∧ c < 127 then (freshS 1, endR s ⟨4, 0, s.pv, c, s.mid, s.ps, []⟩)
  else if 128 ≤ c then (freshS 1, [])
  else (s, [])
def escapedS (s : VS) (c : Int) : VS × List Ac :=
  if 32 ≤ c ∧ c < 48 then (addS { s with st := 3 } c, [])
  else if s.st = 2 ∧ c = 91 then (freshS 4, [])
  else if s.st = 2 ∧ c = 93 then (freshS 5, [])
  else if s.st = 2 ∧ (c = 80 ∨ c = 88 ∨ c = 94 ∨ c = 95) then (freshS 6, [])
  else if 48 ≤ c ∧ c < 127 then (freshS 1, endR s ⟨3, 0, 0, c, s.mid, [], []⟩)
  else if 128 ≤ c then (freshS 1, [])
  else (s, [])
def takeS (s : VS) (c0 : Int) : VS × List Ac :=
  let c := if c0 < 0 then 127 else c0
  if c = 27 ∨ c = 24 ∨ c = 26 then (freshS (if c = 27 then 2 else 1), if s.st = 5 ∧ c = 27 then [⟨5, 0, 0, 0, [], [], s.tx⟩] else [])
  else if c < 32 ∧ s.st ≠ 5 ∧ s.st ≠ 6 then (s, [⟨2, c, 0, 0, [], [], []⟩])
  else if s.st = 1 then (s, if c < 127 ∨ 160 ≤ c then [⟨1, c, 0, 0, [], [], []⟩] else [])
  else if s.st = 2 ∨ s.st = 3 then escapedS s c
  else if s.st = 4 then controlS s c
  else if s.st = 5 then
    if c = 7 then (freshS 1, endR s ⟨5, 0, 0, 0, [], [], s.tx⟩)
    else if 32 ≤ c ∧ c ≠ 127 ∧ s.tx.length < 256 then ({ s with tx := s.tx ++ [c] }, [])
    else (s, [])
  else (s, [])
/-- States that come about. -/
structure VOk (s : VS) : Prop where
  st : 1 ≤ s.st ∧ s.st ≤ 6
  mid : s.mid.length ≤ 2 ∧ okB s.mid
  ps : s.ps.length ≤ 16 ∧ ∀ x ∈ s.ps, 0 ≤ x ∧ x ≤ 9999
  tx : s.tx.length ≤ 256 ∧ ∀ x ∈ s.tx, 0 ≤ x ∧ x ≤ 2147483647
  pv : 0 ≤ s.pv ∧ s.pv ≤ 255
theorem okB0 : okB ([] : List Int) := by intro x hx; simp at hx
theorem freshS_ok {n : Nat} (h : 1 ≤ n ∧ n ≤ 6) : VOk (freshS n) := ⟨h, ⟨by simp [freshS], okB0⟩, ⟨by simp [freshS], by simp [freshS]⟩, ⟨by simp [freshS], by simp [freshS]⟩, by simp [freshS]⟩
theorem okB1 {xs : List Int} {c : Int} (h : okB xs) (hc : 0 ≤ c ∧ c ≤ 255) : okB (xs ++ [c]) := by
  intro x hx
  rcases List.mem_append.1 hx with hx | hx
  · exact h x hx
  · obtain rfl := List.mem_singleton.1 hx
    exact hc
theorem addS_ok {s : VS} {c : Int} (h : VOk s) (hc : 0 ≤ c ∧ c ≤ 255) : VOk (addS s c) := by
  unfold addS
  split
  · exact ⟨h.st, h.mid, h.ps, h.tx, h.pv⟩
  · exact ⟨h.st, ⟨by simp; omega, okB1 h.mid.2 hc⟩, h.ps, h.tx, h.pv⟩
theorem ps0_ok {s : VS} (h : VOk s) : (ps0 s).length ≤ 16 ∧ 0 < (ps0 s).length ∧ ∀ x ∈ ps0 s, 0 ≤ x ∧ x ≤ 9999 := by
  unfold ps0
  split
  · simp
  · exact ⟨h.ps.1, by omega, h.ps.2⟩
theorem getD_ok {xs : List Int} {i : Nat} (h : ∀ x ∈ xs, 0 ≤ x ∧ x ≤ 9999) : 0 ≤ xs.getD i 0 ∧ xs.getD i 0 ≤ 9999 := by
  rw [List.getD_eq_getElem?_getD]
  by_cases hi : i < xs.length
  · rw [List.getElem?_eq_getElem hi]
    exact h _ (List.getElem_mem hi)
  · rw [List.getElem?_eq_none (by omega)]
    simp
theorem digitS_ok {s : VS} {n : Int} (h : VOk s) (hn : 0 ≤ n ∧ n ≤ 9) : VOk (digitS s n) := by
  have h0 := ps0_ok h
  unfold digitS
  split
  · exact ⟨h.st, h.mid, ⟨h0.1, h0.2.2⟩, h.tx, h.pv⟩
  · refine ⟨h.st, h.mid, ⟨by simpa using h0.1, fun x hx => ?_⟩, h.tx, h.pv⟩
    rcases List.mem_or_eq_of_mem_set hx with hx | rfl
    · exact h0.2.2 x hx
    · have := getD_ok (i := (ps0 s).length - 1) h0.2.2
      omega
theorem anotherS_ok {s : VS} (h : VOk s) : VOk (anotherS s) := by
  have h0 := ps0_ok h
  unfold anotherS
  split
  · exact ⟨h.st, h.mid, ⟨h0.1, h0.2.2⟩, h.tx, h.pv⟩
  · refine ⟨h.st, h.mid, ⟨by simp; omega, fun x hx => ?_⟩, h.tx, h.pv⟩
    rcases List.mem_append.1 hx with hx | hx
    · exact h0.2.2 x hx
    · obtain rfl := List.mem_singleton.1 hx
      omega
theorem badS_ok {s : VS} (h : VOk s) : VOk (badS s) := ⟨h.st, h.mid, h.ps, h.tx, h.pv⟩
theorem controlS_ok {s : VS} {c : Int} (h : VOk s) : VOk (controlS s c).1 := by
  unfold controlS
  split
  · exact digitS_ok (badS_ok h) (by omega)
  · split
    · exact anotherS_ok (badS_ok h)
    · split
      · exact ⟨h.st, h.mid, h.ps, h.tx, h.pv⟩
      · split
        · exact ⟨h.st, h.mid, h.ps, h.tx, by dsimp only [privS]; omega⟩
        · split
          · exact addS_ok h (by omega)
          · split
            · exact freshS_ok (by omega)
            · split
              · exact freshS_ok (by omega)
              · exact h
theorem escapedS_ok {s : VS} {c : Int} (h : VOk s) : VOk (escapedS s c).1 := by
  unfold escapedS
  split
  · exact addS_ok ⟨by simp, h.mid, h.ps, h.tx, h.pv⟩ (by omega)
  · split
    · exact freshS_ok (by omega)
    · split
      · exact freshS_ok (by omega)
      · split
        · exact freshS_ok (by omega)
        · split
          · exact freshS_ok (by omega)
          · split
            · exact freshS_ok (by omega)
            · exact h
theorem takeS_ok {s : VS} {c : Int} (h : VOk s) (hc : c ≤ 2147483647) : VOk (takeS s c).1 := by
  unfold takeS
  obtain ⟨c', hc'⟩ : ∃ c', (if c < 0 then 127 else c) = c' := ⟨_, rfl⟩
  have h2 : 0 ≤ c' ∧ c' ≤ 2147483647 := by split at hc' <;> omega
  simp only [hc']
  split
  · exact freshS_ok (by split <;> omega)
  · split
    · exact h
    · split
      · exact h
      · split
        · exact escapedS_ok h
        · split
          · exact controlS_ok h
          · split
            · split
              · exact freshS_ok (by omega)
              · split
                · refine ⟨h.st, h.mid, h.ps, ⟨by simp; omega, fun x hx => ?_⟩, h.pv⟩
                  rcases List.mem_append.1 hx with hx | hx
                  · exact h.tx.2 x hx
                  · obtain rfl := List.mem_singleton.1 hx
                    omega
                · exact h
            · exact h
/-- Whole numbers that the call has made. -/
def OwK (k : IntKind) (e : TypeId) (w : World) (base : Nat) (v : Value) (xs : List Int) : Prop := w.ownsRow base e 1 v xs.length (xs.map (Value.int k))
theorem OwK.nil (k : IntKind) (e : TypeId) (w : World) (base : Nat) : OwK k e w base (.slice none 0 0) [] := World.ownsRow_nil _ _ _ _
section
variable {k : IntKind} {e e2 : TypeId} {w w1 : World} {base : Nat} {v v2 : Value} {xs : List Int}
theorem OwK.keep (h : OwK k e w base v xs) (hk : ∀ b, v.ownBlock = some b → b < w.heap.size → w1.heap[b]? = w.heap[b]?) : OwK k e w1 base v xs := owns_keep h hk
theorem OwK.below (h : OwK k e w base v xs) (hb : Below w.heap.size w w1) : OwK k e w1 base v xs := h.keep fun b _ hlt => hb.block b hlt
theorem OwK.mono (h : OwK k e w base v xs) {b' : Nat} (hb : b' ≤ base) : OwK k e w b' v xs := by
  obtain ⟨hl, h⟩ := h
  refine ⟨hl, ?_⟩
  rcases h with h | ⟨g, cap, cur, rfl, hg, r⟩
  · exact .inl h
  · exact .inr ⟨g, cap, cur, rfl, Nat.le_trans hb hg, r⟩
theorem OwK.slice (h : OwK k e w base v xs) : ∃ A c, v = .slice A xs.length c := by
  obtain ⟨A, c, h1, _⟩ := RdI.of_ints rfl h
  exact ⟨A, c, h1⟩
theorem OwK.rdi (h : OwK k e w base v xs) : ∃ A c, v = .slice A xs.length c ∧ RdI w k A xs.length xs := by
  obtain ⟨A, c, h1, h2, _⟩ := RdI.of_ints rfl h
  exact ⟨A, c, h1, h2⟩
theorem OwK.blk (h : OwK k e w base v xs) {b : Nat} (hv : v.ownBlock = some b) : base ≤ b ∧ ∃ cur, w.heap[b]? = some (.cells cur e (0, 0)) := by
  obtain ⟨_, ⟨h1, _⟩ | ⟨g, cap, cur, h1, hb, hh, _⟩⟩ := h
  · rw [h1] at hv; cases hv
  · rw [h1] at hv
    obtain rfl : g = b := by simpa [Value.ownBlock] using hv
    exact ⟨hb, cur, hh⟩
theorem OwK.lt (h : OwK k e w base v xs) {b : Nat} (hv : v.ownBlock = some b) : b < w.heap.size := by
  obtain ⟨_, cur, hh⟩ := h.blk hv
  exact lt_of_heap hh
theorem OwK.cell (h : OwK k e w base v xs) {i : Nat} (hi : i < xs.length) : ∃ g cap, v = .slice (some ⟨g, 0, none⟩) xs.length cap ∧ w.cell? ⟨g, i, none⟩ = some (.int k (xs.getD i 0)) := by
  obtain ⟨hl, ⟨_, h2⟩ | ⟨g, cap, cur, h1, hb, hh, hc, hm, hs, ht⟩⟩ := h
  · omega
  · refine ⟨g, cap, h1, ?_⟩
    rw [cell_of_row w g i _ _ (0, 0) hh]
    have := congrArg (fun l => l[i]?) ht
    simp only [List.getElem?_take_of_lt (show i < xs.length * 1 by omega), Array.getElem?_toList, List.getElem?_map] at this
    rw [this, List.getD_eq_getElem?_getD, List.getElem?_eq_getElem hi]
    simp
/-- Another type's block is another block. -/
theorem OwK.ne (h : OwK k e w base v xs) {b : Nat} {cur : Array Value} (hv : v.ownBlock = some b) (hb : w.heap[b]? = some (.cells cur e2 (0, 0))) (hne : e ≠ e2) : False := by
  obtain ⟨_, cur2, hh⟩ := h.blk hv
  rw [hb] at hh
  simp only [Option.some.injEq, Obj.cells.injEq] at hh
  exact hne hh.2.1.symm
theorem OwK.one (w : World) (base : Nat) (hb : base ≤ w.heap.size) (x : Int) : OwK k e (w.alloc (.cells #[.int k x] e)) base (.slice (some ⟨w.heap.size, 0, none⟩) 1 1) [x] :=
  ⟨rfl, .inr ⟨w.heap.size, 1, _, rfl, hb, heap_alloc_last _ _, Nat.le_refl _, by simp [maxLen], rfl, rfl⟩⟩
end
/-- A number put behind those that the call owns. -/
theorem wpList_app_b {ops : Array Oper} {rest : List Oper} {o : Oper} {a : Act} {Q : Exit → Act → World → Prop} {w : World} {base : Nat} (hgd : o.guard = none) (s x : Operand)
    (ho : o.op = .call { callee := .builtin .append, args := #[s, x], argTypes := #[28, 28] }) (v : Value) (xs : List Int) (y : Int) (X : Nat) (hs : a.eval s = v) (hown : OwK .u8 5 w base v xs) (hx : a.eval x = .slice (some ⟨X, 0, none⟩) 1 1) (hX : w.heap[X]? = some (.cells #[.int .u8 y] 5 (0, 0)))
    (hl : xs.length ≤ 1000000) (hbase : base ≤ w.heap.size)
    (h : ∀ v' w', OwK .u8 5 w' base v' (xs ++ [y]) → w.grownBy w' v.ownBlock → (v'.ownBlock = v.ownBlock ∨ v'.ownBlock = some w.heap.size) → wpList Try.prog ops Q rest (a.put o.dst v') w') : wpList Try.prog ops Q (o :: rest) a w := by
  obtain ⟨i, hi, hz, h1, h8⟩ : ∃ i, Try.prog.info? 5 = some i ∧ i.zero = some (.int .u8 0) ∧ i.size = 1 ∧ i.bytes = 1 := by
    obtain ⟨i, h, h2⟩ := Option.map_eq_some_iff.1 (show (Try.prog.info? 5).map (fun i => (i.zero, i.size, i.bytes)) = some (some (.int .u8 0), 1, 1) by kernel_rfl)
    simp only [Prod.mk.injEq] at h2
    exact ⟨i, h, h2⟩
  refine wpList_append_own_at w hgd s x 28 ho base 5 i _ 1 1 Try.underlying28 hi hz h1 h8 rfl (by decide) v _ _ hs hown ⟨X, 0, none⟩ 1 1 [.int .u8 y] hx (by simp) ?_ ?_ (by unfold maxLen; omega) (by omega) hbase ?_
  · intro j u hj
    match j, hj with
    | 0, hj =>
      simp only [List.getElem?_cons_zero, Option.some.injEq] at hj
      subst hj
      have e2 : (⟨X, 0, none⟩ : Addr).add 0 = ⟨X, 0, none⟩ := by simp [Addr.add]
      rw [e2]
      exact (cell_of_row w X 0 _ _ (0, 0) hX).trans rfl
    | j + 1, hj => simp at hj
  · intro u hu
    obtain rfl := List.mem_singleton.1 hu
    rfl
  · intro v' w' h1 h2 _ h4
    refine h v' w' ?_ h2 h4
    unfold OwK
    rw [List.length_append, List.map_append]
    exact h1
/-- A number put behind those that the call owns. -/
theorem wpList_app_i {ops : Array Oper} {rest : List Oper} {o : Oper} {a : Act} {Q : Exit → Act → World → Prop} {w : World} {base : Nat} (hgd : o.guard = none) (s x : Operand)
    (ho : o.op = .call { callee := .builtin .append, args := #[s, x], argTypes := #[29, 29] }) (v : Value) (xs : List Int) (y : Int) (X : Nat) (hs : a.eval s = v) (hown : OwK .i64 3 w base v xs) (hx : a.eval x = .slice (some ⟨X, 0, none⟩) 1 1) (hX : w.heap[X]? = some (.cells #[.int .i64 y] 3 (0, 0)))
    (hl : xs.length ≤ 1000000) (hbase : base ≤ w.heap.size)
    (h : ∀ v' w', OwK .i64 3 w' base v' (xs ++ [y]) → w.grownBy w' v.ownBlock → (v'.ownBlock = v.ownBlock ∨ v'.ownBlock = some w.heap.size) → wpList Try.prog ops Q rest (a.put o.dst v') w') : wpList Try.prog ops Q (o :: rest) a w := by
  obtain ⟨i, hi, hz, h1, h8⟩ : ∃ i, Try.prog.info? 3 = some i ∧ i.zero = some (.int .i64 0) ∧ i.size = 1 ∧ i.bytes = 8 := by
    obtain ⟨i, h, h2⟩ := Option.map_eq_some_iff.1 (show (Try.prog.info? 3).map (fun i => (i.zero, i.size, i.bytes)) = some (some (.int .i64 0), 1, 8) by kernel_rfl)
    simp only [Prod.mk.injEq] at h2
    exact ⟨i, h, h2⟩
  refine wpList_append_own_at w hgd s x 29 ho base 3 i _ 1 8 Try.underlying29 hi hz h1 h8 rfl (by decide) v _ _ hs hown ⟨X, 0, none⟩ 1 1 [.int .i64 y] hx (by simp) ?_ ?_ (by unfold maxLen; omega) (by omega) hbase ?_
  · intro j u hj
    match j, hj with
    | 0, hj =>
      simp only [List.getElem?_cons_zero, Option.some.injEq] at hj
      subst hj
      have e2 : (⟨X, 0, none⟩ : Addr).add 0 = ⟨X, 0, none⟩ := by simp [Addr.add]
      rw [e2]
      exact (cell_of_row w X 0 _ _ (0, 0) hX).trans rfl
    | j + 1, hj => simp at hj
  · intro u hu
    obtain rfl := List.mem_singleton.1 hu
    rfl
  · intro v' w' h1 h2 _ h4
    refine h v' w' ?_ h2 h4
    unfold OwK
    rw [List.length_append, List.map_append]
    exact h1
/-- A number put behind those that the call owns. -/
theorem wpList_app_r {ops : Array Oper} {rest : List Oper} {o : Oper} {a : Act} {Q : Exit → Act → World → Prop} {w : World} {base : Nat} (hgd : o.guard = none) (s x : Operand)
    (ho : o.op = .call { callee := .builtin .append, args := #[s, x], argTypes := #[22, 22] }) (v : Value) (xs : List Int) (y : Int) (X : Nat) (hs : a.eval s = v) (hown : OwK .i32 21 w base v xs) (hx : a.eval x = .slice (some ⟨X, 0, none⟩) 1 1) (hX : w.heap[X]? = some (.cells #[.int .i32 y] 21 (0, 0)))
    (hl : xs.length ≤ 1000000) (hbase : base ≤ w.heap.size)
    (h : ∀ v' w', OwK .i32 21 w' base v' (xs ++ [y]) → w.grownBy w' v.ownBlock → (v'.ownBlock = v.ownBlock ∨ v'.ownBlock = some w.heap.size) → wpList Try.prog ops Q rest (a.put o.dst v') w') : wpList Try.prog ops Q (o :: rest) a w := by
  obtain ⟨i, hi, hz, h1, h8⟩ : ∃ i, Try.prog.info? 21 = some i ∧ i.zero = some (.int .i32 0) ∧ i.size = 1 ∧ i.bytes = 4 := by
    obtain ⟨i, h, h2⟩ := Option.map_eq_some_iff.1 (show (Try.prog.info? 21).map (fun i => (i.zero, i.size, i.bytes)) = some (some (.int .i32 0), 1, 4) by kernel_rfl)
    simp only [Prod.mk.injEq] at h2
    exact ⟨i, h, h2⟩
  refine wpList_append_own_at w hgd s x 22 ho base 21 i _ 1 4 Try.underlying22 hi hz h1 h8 rfl (by decide) v _ _ hs hown ⟨X, 0, none⟩ 1 1 [.int .i32 y] hx (by simp) ?_ ?_ (by unfold maxLen; omega) (by omega) hbase ?_
  · intro j u hj
    match j, hj with
    | 0, hj =>
      simp only [List.getElem?_cons_zero, Option.some.injEq] at hj
      subst hj
      have e2 : (⟨X, 0, none⟩ : Addr).add 0 = ⟨X, 0, none⟩ := by simp [Addr.add]
      rw [e2]
      exact (cell_of_row w X 0 _ _ (0, 0) hX).trans rfl
    | j + 1, hj => simp at hj
  · intro u hu
    obtain rfl := List.mem_singleton.1 hu
    rfl
  · intro v' w' h1 h2 _ h4
    refine h v' w' ?_ h2 h4
    unfold OwK
    rw [List.length_append, List.map_append]
    exact h1
def pcells (s : VS) (vm vp vt : Value) : Array Value := #[.int .u8 s.st, .int .u8 s.pv, vm, vp, vt, .bool s.bad, .bool s.more]
/-- The blocks that are a parser's. -/
def PB (P : Nat) (vm vp vt : Value) (g : Nat) : Prop := g = P ∨ vm.ownBlock = some g ∨ vp.ownBlock = some g ∨ vt.ownBlock = some g
/-- What a parser holds in memory. -/
structure PW (w : World) (P base : Nat) (s : VS) (vm vp vt : Value) : Prop where
  hP : w.heap[P]? = some (.cells (pcells s vm vp vt) 47 (0, 0))
  m : OwK .u8 5 w base vm s.mid
  p : OwK .i64 3 w base vp s.ps
  t : OwK .i32 21 w base vt s.tx
section
variable {w w1 : World} {P base : Nat} {s s' : VS} {vm vp vt : Value}
theorem PW.below (h : PW w P base s vm vp vt) (hb : Below w.heap.size w w1) : PW w1 P base s vm vp vt :=
  ⟨(hb.block P (lt_of_heap h.hP)).trans h.hP, h.m.below hb, h.p.below hb, h.t.below hb⟩
theorem PW.far (h : PW w P base s vm vp vt) {S : Nat → Prop} {γ : Gh} (hI : Inv w S γ w1) (hS : ∀ g, PB P vm vp vt g → ¬ S g) : PW w1 P base s vm vp vt :=
  ⟨(hI.far P (lt_of_heap h.hP) (hS P (.inl rfl))).trans h.hP, h.m.keep fun b h1 h2 => hI.far b h2 (hS b (.inr (.inl h1))), h.p.keep fun b h1 h2 => hI.far b h2 (hS b (.inr (.inr (.inl h1)))), h.t.keep fun b h1 h2 => hI.far b h2 (hS b (.inr (.inr (.inr h1))))⟩
theorem PW.cell (h : PW w P base s vm vp vt) {i : Nat} {u : Value} (hu : (pcells s vm vp vt)[i]? = some u) : w.cell? ⟨P, i, none⟩ = some u := (cell_of_row _ _ _ _ _ _ h.hP).trans hu
theorem PW.notP (h : PW w P base s vm vp vt) : vm.ownBlock ≠ some P ∧ vp.ownBlock ≠ some P ∧ vt.ownBlock ≠ some P :=
  ⟨fun e => h.m.ne e h.hP (by decide), fun e => h.p.ne e h.hP (by decide), fun e => h.t.ne e h.hP (by decide)⟩
theorem PW.lt (h : PW w P base s vm vp vt) {g : Nat} (hg : PB P vm vp vt g) : g < w.heap.size := by
  rcases hg with rfl | hg | hg | hg
  · exact lt_of_heap h.hP
  · exact h.m.lt hg
  · exact h.p.lt hg
  · exact h.t.lt hg
/-- One cell of the parser's block is written; the slices stand. -/
theorem PW.set (h : PW w P base s vm vp vt) {i : Nat} {u : Value} (hr : (pcells s vm vp vt).setIfInBounds i u = pcells s' vm vp vt) (h1 : s'.mid = s.mid) (h2 : s'.ps = s.ps) (h3 : s'.tx = s.tx) : PW (w.setCell ⟨P, i, none⟩ u) P base s' vm vp vt := by
  have hk : ∀ b, b ≠ P → (w.setCell ⟨P, i, none⟩ u).heap[b]? = w.heap[b]? := fun b hb => heap_setCell_other _ ⟨_, _, _⟩ _ _ (by simpa using hb)
  obtain ⟨n1, n2, n3⟩ := h.notP
  refine ⟨?_, ?_, ?_, ?_⟩
  · rw [← hr]; exact heap_setCell_same _ _ _ _ _ _ h.hP
  · rw [h1]; exact h.m.keep fun b hb _ => hk b (fun e => n1 (by rw [hb, e]))
  · rw [h2]; exact h.p.keep fun b hb _ => hk b (fun e => n2 (by rw [hb, e]))
  · rw [h3]; exact h.t.keep fun b hb _ => hk b (fun e => n3 (by rw [hb, e]))
end
theorem Inv.then {w0 w1 w2 : World} {S S' : Nat → Prop} {γ : Gh} (h : Inv w0 S gh0 w1) (k : Inv w1 S' γ w2) (hS : ∀ g, S' g → g < w0.heap.size → S g) : Inv w0 S gh0 w2 where
  os := k.os.trans h.os
  tape := k.tape.trans h.tape
  output := k.output.trans h.output
  size := Nat.le_trans h.size k.size
  far g hg hs := (k.far g (Nat.lt_of_lt_of_le hg h.size) (fun h' => hs (hS g h' hg))).trans (h.far g hg hs)
  here t g o e := by cases e
  apart t t' g g' o o' e := by cases e
theorem Inv.ofBelow {w w1 : World} {S : Nat → Prop} (hb : Below w.heap.size w w1) : Inv w S gh0 w1 where
  os := hb.os
  tape := hb.tape
  output := hb.output
  size := hb.size
  far g hg _ := hb.block g hg
  here t g o e := by cases e
  apart t t' g g' o o' e := by cases e
theorem Inv.ofSet {w : World} {S : Nat → Prop} {g i : Nat} {u : Value} (hS : S g) : Inv w S gh0 (w.setCell ⟨g, i, none⟩ u) where
  os := rfl
  tape := rfl
  output := rfl
  size := by simp
  far k _ hk := heap_setCell_other _ ⟨_, _, _⟩ _ _ (by intro e; subst e; exact hk hS)
  here t g o e := by cases e
  apart t t' g g' o o' e := by cases e
theorem Inv.ofSetRow {w : World} {S : Nat → Prop} {g : Nat} {r : Array Value} (hS : S g) : Inv w S gh0 (w.setRow g r) where
  os := rfl
  tape := rfl
  output := rfl
  size := by simp [size_setRow]
  far k _ hk := setRow_other _ _ _ _ (by intro e; subst e; exact hk hS)
  here t g o e := by cases e
  apart t t' g g' o o' e := by cases e
theorem Inv.ofGrown {w w1 : World} {S : Nat → Prop} {x : Option Nat} (h : w.grownBy w1 x) (hS : ∀ g, x = some g → S g) : Inv w S gh0 w1 where
  os := h.os
  tape := h.tape
  output := h.output
  size := h.size
  far k hk hn := h.block k hk (fun e => hn (hS k e.symm))
  here t g o e := by cases e
  apart t t' g g' o o' e := by cases e
/-- A parser has turned, and only what is its own. -/
def PStep (w w' : World) (P base : Nat) (s' : VS) (vm vp vt : Value) : Prop :=
  ∃ vm' vp' vt', PW w' P base s' vm' vp' vt' ∧ Inv w (PB P vm vp vt) gh0 w' ∧ ∀ g, PB P vm' vp' vt' g → PB P vm vp vt g ∨ w.heap.size ≤ g
theorem PStep.set {w : World} {P base : Nat} {s s' : VS} {vm vp vt : Value} (h : PW w P base s vm vp vt) {i : Nat} {u : Value} (hr : (pcells s vm vp vt).setIfInBounds i u = pcells s' vm vp vt) (h1 : s'.mid = s.mid) (h2 : s'.ps = s.ps) (h3 : s'.tx = s.tx) : PStep w (w.setCell ⟨P, i, none⟩ u) P base s' vm vp vt :=
  ⟨vm, vp, vt, h.set hr h1 h2 h3, Inv.ofSet (.inl rfl), fun g hg => .inl hg⟩
theorem PStep.refl {w : World} {P base : Nat} {s : VS} {vm vp vt : Value} (h : PW w P base s vm vp vt) : PStep w w P base s vm vp vt := ⟨vm, vp, vt, h, Inv.ofBelow (Below.refl _ _), fun g hg => .inl hg⟩
theorem PStep.then {w w1 w2 : World} {P base : Nat} {s2 : VS} {vm vp vt vm1 vp1 vt1 : Value} (hI : Inv w (PB P vm vp vt) gh0 w1) (hn : ∀ g, PB P vm1 vp1 vt1 g → PB P vm vp vt g ∨ w.heap.size ≤ g) (k : PStep w1 w2 P base s2 vm1 vp1 vt1) : PStep w w2 P base s2 vm vp vt := by
  obtain ⟨vm2, vp2, vt2, h1, h2, h3⟩ := k
  refine ⟨vm2, vp2, vt2, h1, hI.then h2 (fun g hg hl => (hn g hg).elim (fun h => h) (fun h => by omega)), fun g hg => ?_⟩
  rcases h3 g hg with h | h
  · exact hn g h
  · exact .inr (Nat.le_trans hI.size h)
end Go.Proofs.Ytecgipccippddaa
