/- What is proved: slices of bytes, those that are read and those that a call has made: how they read, stay, go into strings and grow; conditions: they read as they are said to. -/
import Derived.Test.YtgkiedbefogklaaBase
import Derived.Test.YtgkiedbefogklaaProg
import Derived.Laws.BytesArg
import Derived.Laws.AppendOwn
import Derived.Laws.AppendOwnNone
import Derived.Maps.AppendAt
set_option linter.unusedSimpArgs false
set_option linter.unusedVariables false
namespace Go.Proofs.Ytgkiedbefogklaa
open Go.RowKit
set_option maxRecDepth 100000
set_option maxHeartbeats 1000000
/-- Numbers that bytes hold. -/
def okB (xs : List Int) : Prop := ∀ x ∈ xs, 0 ≤ x ∧ x ≤ 255
theorem okB.nil : okB [] := by simp [okB]
theorem okB.app {xs ys : List Int} (h : okB xs) (k : okB ys) : okB (xs ++ ys) := fun x hx => (List.mem_append.1 hx).elim (h x) (k x)
theorem okB.take {xs : List Int} (h : okB xs) (n : Nat) : okB (xs.take n) := fun x hx => h x (List.mem_of_mem_take hx)
theorem okB.drop {xs : List Int} (h : okB xs) (n : Nat) : okB (xs.drop n) := fun x hx => h x (List.mem_of_mem_drop hx)
theorem okB.getD {xs : List Int} (h : okB xs) (n : Nat) : 0 ≤ xs.getD n 0 ∧ xs.getD n 0 ≤ 255 := by
  rw [List.getD_eq_getElem?_getD]
  rcases hk : xs[n]? with _ | x
  · simp
  · exact h x (List.mem_of_getElem? hk)
/-- A slice of bytes, read. -/
def BB (w : World) (v : Value) (xs : List Int) : Prop :=
  okB xs ∧ xs.length ≤ 140737488355328 ∧ ∃ A cap, v = .slice A xs.length cap ∧ RdI w .u8 A xs.length xs ∧ (A = none → cap = 0) ∧ xs.length ≤ cap ∧ cap ≤ maxLen
section
variable {w w1 : World} {v : Value} {xs ys : List Int} {base : Nat}
theorem BB.ok (h : BB w v xs) : okB xs := h.1
theorem BB.len (h : BB w v xs) : xs.length ≤ 140737488355328 := h.2.1
theorem BB.nil (w : World) : BB w (.slice none 0 0) [] := ⟨okB.nil, by simp, none, 0, rfl, RdI.nil, fun _ => rfl, Nat.le_refl _, by simp [maxLen]⟩
theorem RdI.blocks {k : IntKind} {A : Option Addr} {n : Nat} (h : RdI w k A n xs) (hk : ∀ b off, 0 < n → A = some ⟨b, off, none⟩ → w1.heap[b]? = w.heap[b]?) : RdI w1 k A n xs := by
  refine ⟨h.1, fun hn => ?_⟩
  obtain ⟨b, off, rfl, hc⟩ := h.2 hn
  exact ⟨b, off, rfl, fun j hj => (World.cell?_of_block (hk b off hn rfl)).trans (hc j hj)⟩
theorem BB.keep (h : BB w v xs) (hk : ∀ b, 0 < xs.length → v.ownBlock = some b → b < w.heap.size → w1.heap[b]? = w.heap[b]?) : BB w1 v xs := by
  obtain ⟨h1, h2, A, cap, rfl, hr, h3⟩ := h
  refine ⟨h1, h2, A, cap, rfl, hr.blocks fun b off hn hA => hk b hn ?_ (hr.lt_ hn hA), h3⟩
  subst hA
  rfl
theorem BB.below (h : BB w v xs) (hb : Below w.heap.size w w1) : BB w1 v xs := h.keep fun b _ _ hlt => hb.block b hlt
theorem BB.lt (h : BB w v xs) (hn : 0 < xs.length) {b : Nat} (hv : v.ownBlock = some b) : b < w.heap.size := by
  obtain ⟨h1, h2, A, cap, rfl, hr, h3⟩ := h
  obtain ⟨b', off, rfl, hc⟩ := hr.2 hn
  obtain rfl : b' = b := by simpa [Value.ownBlock] using hv
  exact hr.lt_ hn rfl
/-- An argument, as the row opens it. -/
theorem BB.arg {A : Option Addr} {n cap : Nat} (r : RdI w .u8 A n xs) (wf : ∀ z ∈ xs, (Lit.int .u8 z).wf = true) (nc : A = none → cap = 0) (lc : n ≤ cap) (cm : cap ≤ 9223372036854775807) (y : n ≤ 140737488355328) : BB w (.slice A n cap) xs := by
  obtain rfl := r.len
  exact ⟨fun x hx => wf_u8 (wf x hx), y, A, cap, rfl, r, nc, lc, by unfold maxLen; omega⟩
/-- A slice of bytes that the call has made, its block at 'base' or behind it. -/
def OwB (w : World) (base : Nat) (v : Value) (xs : List Int) : Prop := w.ownsRow base 5 1 v xs.length (xs.map (Value.int .u8))
theorem OwB.nil (w : World) (base : Nat) : OwB w base (.slice none 0 0) [] := World.ownsRow_nil _ _ _ _
theorem RdI.of_ints {k : IntKind} {e : TypeId} {n : Nat} (hn : xs.length = n) (h : w.ownsRow base e 1 v n (xs.map (Value.int k))) : ∃ A cap, v = .slice A n cap ∧ RdI w k A n xs ∧ (A = none → cap = 0) ∧ n ≤ cap ∧ cap ≤ maxLen := by
  obtain ⟨hl, h⟩ := h
  rcases h with ⟨rfl, rfl⟩ | ⟨g, cap, cur, rfl, hg, hh, hc, hm, hs, ht⟩
  · exact ⟨none, 0, rfl, ⟨hn, fun h => absurd h (by omega)⟩, fun _ => rfl, Nat.le_refl _, by simp [maxLen]⟩
  · refine ⟨_, cap, rfl, ⟨hn, fun _ => ⟨g, 0, rfl, fun j hj => ?_⟩⟩, fun h => by simp at h, hc, hm⟩
    rw [Nat.zero_add, cell_of_row w g j _ _ (0, 0) hh]
    have := congrArg (fun l => l[j]?) ht
    simp only [List.getElem?_take_of_lt (show j < n * 1 by omega), Array.getElem?_toList, List.getElem?_map] at this
    rw [this, List.getD_eq_getElem?_getD, List.getElem?_eq_getElem (by omega)]
    simp
theorem OwB.rd (h : OwB w base v xs) (hx : okB xs) (hl : xs.length ≤ 140737488355328) : BB w v xs := by
  obtain ⟨A, cap, rfl, hr, h3⟩ := RdI.of_ints rfl h
  exact ⟨hx, hl, A, cap, rfl, hr, h3⟩
theorem OwB.mono (h : OwB w base v xs) {b' : Nat} (hb : b' ≤ base) : OwB w b' v xs := by
  obtain ⟨hl, h⟩ := h
  refine ⟨hl, ?_⟩
  rcases h with h | ⟨g, cap, cur, rfl, hg, r⟩
  · exact .inl h
  · exact .inr ⟨g, cap, cur, rfl, Nat.le_trans hb hg, r⟩
theorem owns_keep {e : TypeId} {size n : Nat} {zs : List Value} (h : w.ownsRow base e size v n zs) (hk : ∀ b, v.ownBlock = some b → b < w.heap.size → w1.heap[b]? = w.heap[b]?) : w1.ownsRow base e size v n zs := by
  obtain ⟨hl, h⟩ := h
  refine ⟨hl, ?_⟩
  rcases h with h | ⟨g, cap, cur, rfl, hg, hh, r⟩
  · exact .inl h
  · exact .inr ⟨g, cap, cur, rfl, hg, (hk g rfl (Array.getElem?_eq_some_iff.1 hh).1).trans hh, r⟩
theorem OwB.keep (h : OwB w base v xs) (hk : ∀ b, v.ownBlock = some b → b < w.heap.size → w1.heap[b]? = w.heap[b]?) : OwB w1 base v xs := owns_keep h hk
theorem OwB.below (h : OwB w base v xs) (hb : Below w.heap.size w w1) : OwB w1 base v xs := h.keep fun b _ hlt => hb.block b hlt
/-- Bytes as a string. -/
theorem bytes_str (h : BB w v xs) : (convert 24 9 v).run Try.prog w = .ok (.string (strOfNums xs)) w := by
  obtain ⟨h1, h2, A, cap, rfl, hr, h3, h4, h5⟩ := h
  rcases Nat.eq_zero_or_pos xs.length with h0 | h0
  · have hx : xs = [] := List.eq_nil_of_length_eq_zero h0
    subst hx
    rcases A with _ | ⟨b, off, spot⟩
    · exact run_convert_bytes_nil w 24 5 Try.underlying24 Try.underlying5 0 cap 9 Try.underlying9
    · show (convert 24 9 (.slice (some ⟨b, off, spot⟩) 0 cap)).run Try.prog w = _
      rw [run_convert_bytes_string w 24 9 5 _ 0 cap Try.underlying24 Try.underlying5 Try.underlying9, run_bytesToString w _ 0 cap [] (by simp [loadCells, loadCellsFrom]), foldl_push_bytes]
      rfl
  · obtain ⟨b, off, rfl, hc⟩ := hr.2 h0
    exact run_convert_bytes_arg w 24 5 Try.underlying24 Try.underlying5 b off _ cap xs rfl hc 9 Try.underlying9
theorem str_inj (hx : okB xs) (hy : okB ys) : strOfNums xs = strOfNums ys ↔ xs = ys := by
  constructor
  · intro h
    have h := congrArg (fun s : ByteArray => s.data.toList) h
    simp only [strOfNums_data] at h
    have hl : xs.length = ys.length := by simpa using congrArg List.length h
    refine List.ext_getElem hl fun i h1 h2 => ?_
    have h3 := congrArg (fun l => l[i]?) h
    simp only [List.getElem?_map, List.getElem?_eq_getElem h1, List.getElem?_eq_getElem h2, Option.map_some, Option.some.injEq] at h3
    have a := hx _ (List.getElem_mem h1)
    have b := hy _ (List.getElem_mem h2)
    have h4 := congrArg UInt8.toNat h3
    simp only [UInt8.toNat_ofNat'] at h4
    omega
  · rintro rfl
    rfl
theorem strOfNums_max (h : xs.length ≤ 140737488355328) : (strOfNums xs).size ≤ maxLen := by rw [strOfNums_size]; unfold maxLen; omega
/-- Bytes put behind bytes that the call owns. -/
theorem wpList_appB {ops : Array Oper} {rest : List Oper} {o : Oper} {a : Act} {Q : Exit → Act → World → Prop} (hgd : o.guard = none) (s x : Operand)
    (ho : o.op = .call { callee := .builtin .append, args := #[s, x], argTypes := #[24, 24] }) (v u : Value) (xs ys : List Int) (hs : a.eval s = v) (hown : OwB w base v xs) (hx : a.eval x = u) (hu : BB w u ys)
    (hl : xs.length + ys.length ≤ 140737488355328) (hbase : base ≤ w.heap.size)
    (h : ∀ v' w', OwB w' base v' (xs ++ ys) → w.grownBy w' v.ownBlock → (v'.ownBlock = v.ownBlock ∨ v'.ownBlock = some w.heap.size) → wpList Try.prog ops Q rest (a.put o.dst v') w') : wpList Try.prog ops Q (o :: rest) a w := by
  obtain ⟨i, hi, hz, h1, h8⟩ : ∃ i, Try.prog.info? 5 = some i ∧ i.zero = some (.int .u8 0) ∧ i.size = 1 ∧ i.bytes = 1 := by
    obtain ⟨i, h, h2⟩ := Option.map_eq_some_iff.1 (show (Try.prog.info? 5).map (fun i => (i.zero, i.size, i.bytes)) = some (some (.int .u8 0), 1, 1) by kernel_rfl)
    simp only [Prod.mk.injEq] at h2
    exact ⟨i, h, h2⟩
  obtain ⟨k1, k2, A, cap, rfl, hr, k3, k4, k5⟩ := hu
  rcases A with _ | ad
  · obtain rfl := k3 rfl
    have hy : ys = [] := List.eq_nil_of_length_eq_zero (by omega)
    subst hy
    refine wpList_append_own_none hgd s x 24 ho base 5 i 1 Try.underlying24 hi v _ _ hs hown hx ?_
    exact h v w (by rw [List.append_nil]; exact hown) ⟨rfl, rfl, rfl, Nat.le_refl _, fun _ _ _ => rfl⟩ (.inl rfl)
  · refine wpList_append_own_at w hgd s x 24 ho base 5 i _ 1 1 Try.underlying24 hi hz h1 h8 rfl (by decide) v _ _ hs hown ad ys.length cap (ys.map (Value.int .u8)) hx (by simp) ?_ ?_ (by unfold maxLen; omega) (by omega) hbase ?_
    · intro j y hj
      rw [List.getElem?_map, Option.map_eq_some_iff] at hj
      obtain ⟨y, hj, rfl⟩ := hj
      have hjl : j < ys.length := (List.getElem?_eq_some_iff.1 hj).1
      obtain ⟨b, off, e, hc⟩ := hr.2 (by omega)
      obtain rfl := Option.some.inj e
      have e2 : (⟨b, off, none⟩ : Addr).add j = ⟨b, off + j, none⟩ := by unfold Addr.add; split <;> simp_all
      rw [e2, hc j hjl, List.getD_eq_getElem?_getD, hj]
      rfl
    · intro y hy
      obtain ⟨y, _, rfl⟩ := List.mem_map.1 hy
      rfl
    · intro v' w' h1 h2 _ h4
      refine h v' w' ?_ h2 h4
      unfold OwB
      rw [List.length_append, List.map_append]
      exact h1
end
end Go.Proofs.Ytgkiedbefogklaa
