/- What is proved: small general lemmas for the walks of this seat (operations run by the kernel, blocks known whole); no condition beyond those typed. -/
import Derived.WalkKit
import Derived.Outline
import Derived.KernelRfl
import Derived.Handy
import Derived.WalkLawsBesides
import Derived.Laws.Rows
import Derived.Laws.Tables
import Derived.Deep.WholeRow
import Derived.Lib.Hide
import Derived.Below
import Derived.Deep.Draws
import Derived.Laws.CopyOwn
import Derived.SizedLaws
import Derived.ChangeSlices
set_option linter.unusedSimpArgs false
set_option linter.unusedVariables false
namespace Go.Proofs.Ytgkiedbefogklaa
open Go.RowKit

/-- Operations one behind another, as long as each gives a value at once. -/
def evs (P : Program) (ops : Array Oper) : List Oper → Act → World → Option (Act × World)
  | [], a, w => some (a, w)
  | o :: r, a, w =>
    if Region.wanted o (yielded ops a.tmps) then
      match (execOp a.eval o).run P w with
      | .ok (.value v) w' => evs P ops r (a.put o.dst v) w'
      | .ok .skip w' => evs P ops r (a.put o.dst undef) w'
      | _ => none
    else evs P ops r (a.put o.dst undef) w

theorem wpList_evs {P : Program} {ops : Array Oper} {Q : Exit → Act → World → Prop} (r : List Oper) : ∀ (l : List Oper) (a : Act) (w : World) (a' : Act) (w' : World), evs P ops l a w = some (a', w') →
    wpList P ops Q r a' w' → wpList P ops Q (l ++ r) a w := by
  intro l
  induction l with
  | nil =>
    intro a w a' w' h k
    simp only [evs, Option.some.injEq, Prod.mk.injEq] at h
    obtain ⟨rfl, rfl⟩ := h
    exact k
  | cons o l ih =>
    intro a w a' w' h k
    show wpList P ops Q (o :: (l ++ r)) a w
    unfold wpList
    unfold evs at h
    split
    · rename_i hw
      rw [if_pos hw] at h
      refine .inl ?_
      unfold Oper.wp
      generalize (execOp a.eval o).run P w = x at h ⊢
      match x, h with
      | .ok (.value v) w1, h => exact ih _ _ _ _ h k
      | .ok .skip w1, h => exact ih _ _ _ _ h k
    · rename_i hw
      rw [if_neg hw] at h
      exact ih _ _ _ _ h k

/-- The first n operations, run by the kernel: they write slots alone; what is in the slots is asked for later. -/
def evA (P : Program) (ops : Array Oper) (l : List Oper) (a : Act) (w : World) : Act := ((evs P ops l a w).map (·.1)).getD a
theorem wpList_run {P : Program} {ops : Array Oper} {Q : Exit → Act → World → Prop} (n : Nat) {l : List Oper} {a : Act} {w : World} (w' : World) (h : (evs P ops (l.take n) a w).map (·.2) = some w')
    (k : wpList P ops Q (l.drop n) (evA P ops (l.take n) a w) w') : wpList P ops Q l a w := by
  obtain ⟨⟨a1, w1⟩, h1, h2⟩ := Option.map_eq_some_iff.1 h
  have e : evA P ops (l.take n) a w = a1 := by unfold evA; rw [h1]; rfl
  simp only at h2
  subst h2
  rw [e] at k
  have := wpList_evs (P := P) (ops := ops) (Q := Q) (l.drop n) (l.take n) a w a1 w1 h1 k
  rwa [List.take_append_drop] at this

theorem bcell {W w1 : World} (hb : Below W.heap.size W w1) : (∀ b o, b < W.heap.size → w1.cell? ⟨b, o, none⟩ = W.cell? ⟨b, o, none⟩) ∧ (∀ b o, b < W.heap.size → w1.frozen? ⟨b, o, none⟩ = W.frozen? ⟨b, o, none⟩) :=
  ⟨fun b o h => hb.cell (p := ⟨b, o, none⟩) h, fun b o h => hb.frozen (p := ⟨b, o, none⟩) h⟩

theorem heap_alloc_if (w : World) (o : Obj) (i : Nat) : (w.alloc o).heap[i]? = if i = w.heap.size then some o else w.heap[i]? := by
  show (w.heap.push o)[i]? = _
  rw [Array.getElem?_push]
theorem heap_setRow_if (w : World) (g : Nat) (cs : Array Value) (i : Nat) : (w.setRow g cs).heap[i]? = if i = g then (w.heap[g]?).map (fun | .cells _ e fz => .cells cs e fz | o => o) else w.heap[i]? := by
  by_cases h : i = g
  · subst h
    simp only [World.setRow, Array.getElem?_modify, if_pos]
    cases w.heap[i]? with
    | none => rfl
    | some o => cases o <;> rfl
  · rw [if_neg h]; exact setRow_other w g i cs h
theorem heap_setCell_if (w : World) (a : Addr) (v : Value) (i : Nat) : (w.setCell a v).heap[i]? = if i = a.block then (w.heap[a.block]?).map (fun | .cells c e fz => .cells (if a.spot.isSome then c else c.setIfInBounds a.off v) e fz | o => o) else w.heap[i]? := by
  by_cases h : i = a.block
  · subst h
    simp only [World.setCell, Array.getElem?_modify, if_pos]
    cases w.heap[a.block]? with
    | none => rfl
    | some o => cases o <;> rfl
  · rw [if_neg h]; exact heap_setCell_other w a i v h
theorem bl_drew {B : Nat} {w W : World} (h : Below B w W) : Below B w W.drew := ⟨h.os, h.tape, h.output, h.size, h.block⟩
theorem bl_drewN {B : Nat} {w W : World} (h : Below B w W) (n : Nat) : Below B w (W.drewN n) := ⟨h.os, h.tape, h.output, h.size, h.block⟩
/-- What is below a world that came later is below the first one. -/
theorem bl_then {B : Nat} {w w1 w2 : World} (h : Below B w w1) (hB : B ≤ w1.heap.size) (k : Below w1.heap.size w1 w2) : Below B w w2 := h.trans (k.mono hB)
theorem add_zero_addr (A : Option Addr) : A.map (·.add 0) = A := by cases A <;> simp [Addr.add]
/-- 's[:k:k]' of a slice. -/
theorem run_slice_to (P : Program) (t e : TypeId) (h : P.underlying t = some (.slice e)) (i : TypeInfo) (he : P.info? e = some i) (A : Option Addr) (n cap k : Nat) (hk : k ≤ cap) (W : World) :
    (Instr.slice t (.slice A n cap) none (some (.int .i64 (k : Int))) (some (.int .i64 (k : Int)))).run P W = .ok (.slice A k k) W := by
  have hk2 : (k : Int) ≤ cap := by omega
  simp [Instr.slice, run_underlying h, Instr.sliceBounds, run_sliceBound, sizeOf, typeInfo, he, hk2, add_zero_addr]
/-- 's[k:]' of a slice whose elements are of one cell. -/
theorem run_slice_from (P : Program) (t e : TypeId) (h : P.underlying t = some (.slice e)) (i : TypeInfo) (he : P.info? e = some i) (hs : i.size = 1) (A : Option Addr) (n cap k : Nat) (hk : k ≤ n) (W : World) :
    (Instr.slice t (.slice A n cap) (some (.int .i64 (k : Int))) none none).run P W = .ok (.slice (if cap = k then A else A.map (·.add k)) (n - k) (cap - k)) W := by
  have hk2 : (k : Int) ≤ n := by omega
  simp [Instr.slice, run_underlying h, Instr.sliceBounds, run_sliceBound, sizeOf, typeInfo, he, hk2, hs]
theorem ret_int {k : IntKind} {a b : Int} (h : a = b) : Ending.returned (.int k a) = .returned (.int k b) := by rw [h]
theorem ret_bool {a b : Bool} (h : a = b) : Ending.returned (.bool a) = .returned (.bool b) := by rw [h]

/-- A slice of whole numbers that is read: nil, empty and other slices alike. -/
def RdI (w : World) (k : IntKind) (A : Option Addr) (n : Nat) (xs : List Int) : Prop :=
  xs.length = n ∧ (0 < n → ∃ b off, A = some ⟨b, off, none⟩ ∧ ∀ j, j < n → w.cell? ⟨b, off + j, none⟩ = some (.int k (xs.getD j 0)))
/-- As the form's own reading of a slice of whole numbers gives it. -/
theorem RdI.of_row {w : World} {k : IntKind} {x : Addr} {len cap : Nat} {zs : List Int} (hl : len ≤ cap) (hz : zs.length = cap) (hc : ∀ i, i < zs.length → w.cell? (x.add i) = some (.int k (zs.getD i 0))) : RdI w k (some x) len (zs.take len) := by
  refine ⟨by rw [List.length_take]; omega, fun hn => ?_⟩
  have h0 := hc 0 (by omega)
  obtain ⟨b, off, spot⟩ := x
  have hs : spot = none := by
    cases spot with
    | none => rfl
    | some s =>
      exfalso
      have : (⟨b, off, some s⟩ : Addr).add 0 = ⟨b, off, some s⟩ := by simp [Addr.add]
      rw [this] at h0
      unfold World.cell? at h0
      split at h0 <;> simp at h0
  subst hs
  refine ⟨b, off, rfl, fun j hj => ?_⟩
  have := hc j (by omega)
  have e : (⟨b, off, none⟩ : Addr).add j = ⟨b, off + j, none⟩ := by unfold Addr.add; split <;> simp_all
  rw [e] at this
  rw [this]
  simp [List.getD_eq_getElem?_getD, List.getElem?_take, hj]
section
variable {w w1 : World} {k : IntKind} {A : Option Addr} {n : Nat} {xs : List Int}
theorem RdI.len (h : RdI w k A n xs) : xs.length = n := h.1
theorem RdI.nil : RdI w k none 0 [] := ⟨rfl, fun h => absurd h (by omega)⟩
theorem RdI.lt_ (h : RdI w k A n xs) {b off : Nat} (hn : 0 < n) (hA : A = some ⟨b, off, none⟩) : b < w.heap.size := by
  obtain ⟨b', off', hA', hc⟩ := h.2 hn
  rw [hA] at hA'
  injection hA' with hA'
  injection hA' with e1 e2
  subst e1 e2
  exact block_lt_of_cell (hc 0 hn)
theorem RdI.keep (h : RdI w k A n xs) (hk : ∀ b o, b < w.heap.size → w1.cell? ⟨b, o, none⟩ = w.cell? ⟨b, o, none⟩) : RdI w1 k A n xs := by
  refine ⟨h.1, fun hn => ?_⟩
  obtain ⟨b, off, rfl, hc⟩ := h.2 hn
  exact ⟨b, off, rfl, fun j hj => (hk b _ (h.lt_ hn rfl)).trans (hc j hj)⟩
theorem RdI.below (h : RdI w k A n xs) (hb : Below w.heap.size w w1) : RdI w1 k A n xs := h.keep (bcell hb).1
theorem RdI.new (w : World) (k : IntKind) (t : TypeId) (xs : List Int) (n : Nat) (hn : xs.length = n) : RdI (w.alloc (.cells (xs.map (Value.int k)).toArray t)) k (some ⟨w.heap.size, 0, none⟩) n xs := by
  refine ⟨hn, fun _ => ⟨_, 0, rfl, fun j hj => ?_⟩⟩
  rw [cell_of_row _ _ _ _ t (0, 0) (heap_alloc_last w _)]
  subst hn
  simp [List.getD_eq_getElem?_getD, List.getElem?_eq_getElem hj]
theorem RdI.take (h : RdI w k A n xs) {m : Nat} (hm : m ≤ n) : RdI w k A m (xs.take m) := by
  refine ⟨by rw [List.length_take, h.1]; omega, fun hn => ?_⟩
  obtain ⟨b, off, rfl, hc⟩ := h.2 (by omega)
  refine ⟨b, off, rfl, fun j hj => ?_⟩
  rw [hc j (by omega)]
  simp [List.getD_eq_getElem?_getD, List.getElem?_take, hj]
/-- The rest of a slice behind its first m cells, as the model has it (c: what the capacity is held against). -/
theorem RdI.drop (h : RdI w k A n xs) {m c : Nat} (hm : m ≤ n) (hc : n ≤ c) : RdI w k (if c = m then A else A.map (·.add m)) (n - m) (xs.drop m) := by
  refine ⟨by rw [List.length_drop, h.1], fun hn => ?_⟩
  obtain ⟨b, off, rfl, hcell⟩ := h.2 (by omega)
  rw [if_neg (by omega)]
  refine ⟨b, off + m, ?_, fun j hj => ?_⟩
  · simp only [Option.map_some, Addr.add]
    split
    · rename_i h0; subst h0; rfl
    · rfl
  · rw [show off + m + j = off + (m + j) by omega, hcell (m + j) (by omega)]
    simp [List.getD_eq_getElem?_getD]
end
/-- The kinds' bounds. -/
theorem wf_u8 {n : Int} (h : (Lit.int .u8 n).wf = true) : 0 ≤ n ∧ n ≤ 255 := by simpa [Lit.wf, IntKind.min, IntKind.max, IntKind.bits, IntKind.signed] using h
theorem wf_u16 {n : Int} (h : (Lit.int .u16 n).wf = true) : 0 ≤ n ∧ n ≤ 65535 := by simpa [Lit.wf, IntKind.min, IntKind.max, IntKind.bits, IntKind.signed] using h
theorem wf_u64 {n : Int} (h : (Lit.int .u64 n).wf = true) : 0 ≤ n ∧ n ≤ 18446744073709551615 := by simpa [Lit.wf, IntKind.min, IntKind.max, IntKind.bits, IntKind.signed] using h
theorem wf_i32 {n : Int} (h : (Lit.int .i32 n).wf = true) : -2147483648 ≤ n ∧ n ≤ 2147483647 := by simpa [Lit.wf, IntKind.min, IntKind.max, IntKind.bits, IntKind.signed] using h
theorem wf_i64' {n : Int} (h : (Lit.int .i64 n).wf = true) : -9223372036854775808 ≤ n ∧ n ≤ 9223372036854775807 := by simpa [Lit.wf, IntKind.min, IntKind.max, IntKind.bits, IntKind.signed] using h
theorem rng_u16 {xs : List Int} (h : ∀ n ∈ xs, (Lit.int .u16 n).wf = true) (i : Nat) : 0 ≤ xs.getD i 0 ∧ xs.getD i 0 ≤ 65535 := by
  rw [List.getD_eq_getElem?_getD]
  cases e : xs[i]? with
  | none => simp
  | some x => exact wf_u16 (h x (List.mem_of_getElem? e))
theorem rng_u8 {xs : List Int} (h : ∀ n ∈ xs, (Lit.int .u8 n).wf = true) (i : Nat) : 0 ≤ xs.getD i 0 ∧ xs.getD i 0 ≤ 255 := by
  rw [List.getD_eq_getElem?_getD]
  cases e : xs[i]? with
  | none => simp
  | some x => exact wf_u8 (h x (List.mem_of_getElem? e))
section
open Go.ChangeShapes Go.WideShapes
/-- A row's slice of whole numbers is no longer than its weight allows. -/
theorem sized_ints {H : Type} {enc : TypeId × Value → H} {P : Program} {W : World} {base : Nat} {spare : Nat → Bool} {held : Bool} {t e : TypeId} {k : IntKind} {a : Option Addr} {len cap : Nat} {d : DataW H} {ps : List MemPlace} {ts : List TypeId} {ds : List (DataW H)} {j : Nat}
    (hsz : (DataW.weightsEach P ts ds).all (· ≤ reachBytes) = true) (ht : ts[j]? = some t) (hd : ds[j]? = some d) (hu : P.underlying t = some (.slice e)) (he : P.underlying e = some (.int k)) (hc : P.cellsOf e = 1) {B : Nat} (hB : P.bytesOf e = B)
    (h : DataW.Trod enc P W base spare held t (.slice a len cap) d ps) : len * B ≤ 140737488351232 := by
  obtain ⟨fuel, hf⟩ := h
  rcases open_ints hu he hc hf with ⟨hcs, _⟩ | ⟨x, l, c, zs, hcs, _, hl, _, hz, hx, _, _⟩
  · simp [Value.cells] at hcs
    obtain ⟨rfl, rfl, rfl⟩ := hcs
    simp
  · simp [Value.cells] at hcs
    obtain ⟨rfl, rfl, rfl⟩ := hcs
    obtain ⟨hx, _⟩ := Prod.mk.inj hx
    subst hx
    have z := sized_slice hsz ht hd hu
    rw [hB] at z
    have hl2 : len ≤ zs.length := by
      rw [hz]
      split
      · exact hl
      · exact Nat.le_refl _
    have h1 : (lits (H := H) k (zs.take len)).length + (lits (H := H) k (zs.drop len)).length = zs.length := by
      simp [lits]
      omega
    rw [h1] at z
    exact Nat.le_trans (Nat.mul_le_mul_right _ hl2) z
end
end Go.Proofs.Ytgkiedbefogklaa
