/- What is proved: an argument that is a script of calls, of bounded bulk, opened to what it reads as; no condition beyond those typed. -/
import Derived.Test.YthebhbcfacoknaaRows
import Derived.Test.YthebhbcfacoknaaOpenRows
import Derived.Test.YthebhbcfacoknaaOpenFields
import Derived.Test.YthebhbcfacoknaaPlaysA
set_option linter.unusedVariables false
set_option linter.unusedSimpArgs false
namespace Go.Proofs.Ythebhbcfacoknaa
open Go.ChangeShapes Go.WideShapes Go.Deep Go.RowKit
theorem bulk_pos {H : Type} (d : DataW H) : 1 ≤ Rows.uptoBulk d := by
  cases d with
  | lit l => cases l <;> simp [Rows.uptoBulk]
  | _ => simp [Rows.uptoBulk]
theorem bulkAll_len {H : Type} : ∀ (l : List (DataW H)), l.length ≤ Rows.uptoBulkAll l
  | [] => by simp [Rows.uptoBulkAll]
  | d :: r => by
    have h1 := bulk_pos d
    have h2 := bulkAll_len r
    simp only [Rows.uptoBulkAll, List.length_cons]
    omega
theorem bulkAll_mem {H : Type} {d : DataW H} : ∀ {l : List (DataW H)}, d ∈ l → Rows.uptoBulk d ≤ Rows.uptoBulkAll l
  | [], h => by cases h
  | c :: r, h => by
    simp only [Rows.uptoBulkAll]
    rcases List.mem_cons.1 h with rfl | h
    · omega
    · have := bulkAll_mem h
      omega
theorem bulkAll_sum {H : Type} (f : Nat → DataW H) (g : Nat → Nat) : ∀ (l : List Nat), (∀ i ∈ l, g i ≤ Rows.uptoBulk (f i)) → (l.map g).sum ≤ Rows.uptoBulkAll (l.map f)
  | [], _ => by simp
  | i :: r, h => by
    have h1 := h i (List.mem_cons_self)
    have h2 := bulkAll_sum f g r (fun i hi => h i (List.mem_cons_of_mem _ hi))
    simp only [List.map_cons, List.sum_cons, Rows.uptoBulkAll]
    omega
theorem bulkBytes {H : Type} {enc : TypeId × Value → H} {W : World} {v : Value} {fuel : Nat} {x : DataW H × List MemPlace} (hf : DataW.trod enc Try.prog W 0 (fun _ => true) true fuel 25 [v] = some x) (hw : Rows.uptoBulk x.1 ≤ 1048576) :
    ∃ ys, BB W v ys := by
  rcases open_ints Try.underlying25 Try.underlying5 (by kernel_rfl) hf with ⟨hcs, _⟩ | ⟨a, l, c, zs, hcs, hx1, hl, hm, hz, hx2, hcell, hwz⟩
  · simp only [List.cons.injEq, and_true] at hcs
    subst hcs
    exact ⟨[], BB.nil W⟩
  · simp only [List.cons.injEq, and_true] at hcs
    subst hcs
    have hzc : zs.length = c := by simpa using hz
    have hb : l ≤ 1048576 := by
      rw [hx2] at hw
      simp only [Rows.uptoBulk] at hw
      have h1 := bulkAll_len (lits IntKind.u8 (List.take l zs) : List (DataW H))
      have h2 : (lits IntKind.u8 (List.take l zs) : List (DataW H)).length = l := by simp [lits]; omega
      omega
    have hlen : (zs.take l).length = l := by rw [List.length_take]; omega
    have hrd := RdI.of_row (w := W) (k := .u8) (x := a) hl hzc hcell
    exact ⟨zs.take l, ⟨fun n hn => wf_u8 (hwz n (List.mem_of_mem_take hn)), by omega, some a, c, by rw [hlen], by rw [hlen]; exact hrd, by simp, by omega, hm⟩⟩
theorem bulkRows {H : Type} {enc : TypeId × Value → H} {W : World} {v : Value} {fuel : Nat} {x : DataW H × List MemPlace} (hf : DataW.trod enc Try.prog W 0 (fun _ => true) true fuel 22 [v] = some x) (hw : Rows.uptoBulk x.1 ≤ 1048576) :
    ∃ L : List (List Int), LR W (fun _ => 0) v L ∧ L.length ≤ Rows.uptoBulk x.1 := by
  rcases open_slice Try.underlying22 hf with ⟨hcs, _⟩ | ⟨a, l, c, m, n, D, Pl, hcs, _, hl, hm, hmm, hx, hi⟩
  · simp only [List.cons.injEq, and_true] at hcs
    subst hcs
    exact ⟨[], ⟨none, 0, rfl, by simp, fun i hi => absurd hi (by simp)⟩, by simp⟩
  · simp only [List.cons.injEq, and_true] at hcs
    subst hcs
    have hmc : m = c := by simpa using hmm
    subst hmc
    have ce : Try.prog.cellsOf 25 = 1 := by kernel_rfl
    have hx1 : x.1 = .slice ((List.range l).map D) ((List.range (m - l)).map fun j => D (l + j)) := by rw [hx]
    rw [hx1] at hw ⊢
    simp only [Rows.uptoBulk] at hw ⊢
    have hlb := bulkAll_len ((List.range l).map D)
    simp only [List.length_map, List.length_range] at hlb
    have hel : ∀ i, i < l → ∃ p : Value × List Int, W.cell? (a.add i) = some p.1 ∧ BB W p.1 p.2 := by
      intro i hil
      obtain ⟨cs', hc, htr⟩ := hi i (by omega)
      rw [ce] at hc
      obtain ⟨_, hl1, hat⟩ := World.cells?_some hc
      obtain ⟨v, rfl⟩ : ∃ v, cs' = [v] := by
        match cs', hl1 with
        | [v], _ => exact ⟨v, rfl⟩
      have h0 := hat 0 (by omega)
      rw [Go.Deep.add_add, Nat.add_zero, Nat.mul_one] at h0
      have hbm := bulkAll_mem (d := D i) (l := (List.range l).map D) (List.mem_map.2 ⟨i, List.mem_range.2 hil, rfl⟩)
      obtain ⟨ys, hB⟩ := bulkBytes htr (by show Rows.uptoBulk (D i) ≤ _; omega)
      exact ⟨(v, ys), by simpa using h0, hB⟩
    have eL : ∀ i (hil : i < l), ((List.range l).map fun i => if h : i < l then (hel i h).choose.2 else []).getD i [] = (hel i hil).choose.2 := fun i hil => by
      rw [List.getD_eq_getElem?_getD, List.getElem?_map, List.getElem?_range hil]
      simp [hil]
    refine ⟨(List.range l).map fun i => if h : i < l then (hel i h).choose.2 else [], ⟨some a, m, by simp, by simp; omega, fun i hi => ?_⟩, by simp; omega⟩
    have hil : i < l := by simpa using hi
    have hs := (hel i hil).choose_spec
    rw [eL i hil]
    generalize (hel i hil).choose = y at hs ⊢
    obtain ⟨b, off, rfl⟩ := addr_plain (x := a) (w := W) (by have h0 := (hel 0 (by omega)).choose_spec.1; exact h0)
    rw [addr_add] at hs
    exact ⟨b, off, y.1, rfl, rfl, hs.1, hs.2, fun _ _ _ => rfl⟩
theorem openOps {H : Type} {enc : TypeId × Value → H} {W : World} {A : Option Addr} {len cap : Nat} {d : DataW H} {ps : List MemPlace}
    (hb : Rows.uptoBulk d ≤ 1048576) (h : DataW.Trod enc Try.prog W 0 (fun _ => true) true 38 (.slice A len cap) d ps) :
    ∃ O : List OpV, ROps W (.slice A len cap) O ∧ total O ≤ 1048576 := by
  obtain ⟨fuel, hf⟩ := h
  rcases open_slice_fields Try.underlying38 Try.underlying45 (by kernel_rfl) (by kernel_rfl) hf with ⟨hcs, _⟩ | ⟨a, l, c, m, D, Pl, hcs, _, hl, hm, hmm, hx, hi⟩
  · simp [Value.cells] at hcs
    obtain ⟨rfl, rfl, rfl⟩ := hcs
    exact ⟨[], ⟨none, 0, rfl, by simp, fun i hi => absurd hi (by simp)⟩, by simp [total]⟩
  · simp [Value.cells] at hcs
    obtain ⟨rfl, rfl, rfl⟩ := hcs
    have hmc : m = cap := by simpa using hmm
    subst hmc
    have hx1 : d = .slice ((List.range len).map D) ((List.range (m - len)).map fun j => D (len + j)) := (Prod.mk.inj hx).1
    rw [hx1] at hb
    simp only [Rows.uptoBulk] at hb
    have hlb := bulkAll_len ((List.range len).map D)
    simp only [List.length_map, List.length_range] at hlb
    have hel : ∀ i, i < len → ∃ (x : OpV) (u : Value), W.cell? (a.add (i * 4 + 0)) = some (.int .u8 x.call) ∧ W.cell? (a.add (i * 4 + 1)) = some (.int .u8 x.side) ∧ W.cell? (a.add (i * 4 + 2)) = some (.int .i64 x.num) ∧ W.cell? (a.add (i * 4 + 3)) = some u ∧
        LR W (fun _ => 0) u x.bytes ∧ (0 ≤ x.side ∧ x.side ≤ 255) ∧ (0 ≤ x.call ∧ x.call ≤ 255) ∧ (-9223372036854775808 ≤ x.num ∧ x.num ≤ 9223372036854775807) ∧ x.bytes.length ≤ Rows.uptoBulk (D i) := by
      intro i hil
      have hbm := bulkAll_mem (d := D i) (l := (List.range len).map D) (List.mem_map.2 ⟨i, List.mem_range.2 hil, rfl⟩)
      obtain ⟨ys, n, hD, _, hyl, hfield⟩ := hi i (by omega)
      obtain ⟨v0, y0, hc0, _, ht0⟩ := hfield 0 _ rfl
      obtain ⟨v1, y1, hc1, _, ht1⟩ := hfield 1 _ rfl
      obtain ⟨v2, y2, hc2, _, ht2⟩ := hfield 2 _ rfl
      obtain ⟨v3, y3, hc3, hy3, ht3⟩ := hfield 3 _ rfl
      obtain ⟨n0, e0, _, w0⟩ := DataW.trod_int Try.underlying5 ht0
      obtain ⟨n1, e1, _, w1⟩ := DataW.trod_int Try.underlying29 ht1
      obtain ⟨n2, e2, _, w2⟩ := DataW.trod_int Try.underlying3 ht2
      simp only [List.cons.injEq, and_true] at e0 e1 e2
      subst e0; subst e1; subst e2
      have h3 : Rows.uptoBulk y3.1 ≤ Rows.uptoBulk (D i) := by
        rw [hD]
        simp only [Rows.uptoBulk]
        have := bulkAll_mem (d := y3.1) (l := ys.map (·.1)) (List.mem_map.2 ⟨y3, List.mem_of_getElem? hy3, rfl⟩)
        omega
      obtain ⟨L, hL, hLl⟩ := bulkRows ht3 (by omega)
      exact ⟨⟨n0, n1, n2, L⟩, v3, hc0, hc1, hc2, hc3, hL, wf_u8 w1, wf_u8 w0, wf_i64' w2, by show L.length ≤ _; omega⟩
    have eL : ∀ i (hil : i < len), ((List.range len).map fun i => if h : i < len then (hel i h).choose else zOp).getD i zOp = (hel i hil).choose := fun i hil => by
      rw [List.getD_eq_getElem?_getD, List.getElem?_map, List.getElem?_range hil]
      simp [hil]
    refine ⟨(List.range len).map fun i => if h : i < len then (hel i h).choose else zOp, ⟨some a, m, by simp, by simp; omega, fun i hi => ?_⟩, ?_⟩
    · have hil : i < len := by simpa using hi
      have hs := (hel i hil).choose_spec
      rw [eL i hil]
      generalize (hel i hil).choose = y at hs ⊢
      obtain ⟨u, s0, s1, s2, s3, s4, s5, s6, s7, _⟩ := hs
      obtain ⟨b, off, rfl⟩ := addr_plain (x := a) (w := W) (by obtain ⟨_, h0, _⟩ := (hel 0 (by omega)).choose_spec; exact h0)
      rw [addr_add] at s0 s1 s2 s3
      exact ⟨b, off, u, rfl, s0, s1, s2, s3, s4, s5, s6, s7⟩
    · unfold total
      rw [List.map_map]
      have := bulkAll_sum D (fun i => (if h : i < len then (hel i h).choose else zOp).bytes.length) (List.range len) (fun i hi => by
        have hil : i < len := List.mem_range.1 hi
        rw [dif_pos hil]
        obtain ⟨_, _, _, _, _, _, _, _, _, h9⟩ := (hel i hil).choose_spec
        exact h9)
      exact Nat.le_trans this (by omega)
end Go.Proofs.Ythebhbcfacoknaa
