/- What is proved: arguments that are slices of bytes or of events, of bounded bulk, opened to what they read as; no condition beyond those typed. -/
import Derived.Test.YtgkiedbefogklaaRows
import Derived.Test.YtgkiedbefogklaaEvI
import Derived.Test.YtgkiedbefogklaaWireY
set_option linter.unusedVariables false
set_option linter.unusedSimpArgs false
namespace Go.Proofs.Ytgkiedbefogklaa
open Go Go.ChangeShapes Go.WideShapes Go.Deep Go.RowKit
set_option maxRecDepth 100000
theorem bulk_pos {H : Type} (d : DataW H) : 1 ≤ Rows.uptoBulk d := by
  cases d with
  | lit l => cases l <;> simp [Rows.uptoBulk]
  | _ => simp [Rows.uptoBulk]
theorem bulkAll_len {H : Type} : ∀ (l : List (DataW H)), l.length ≤ Rows.uptoBulkAll l
  | [] => by simp [Rows.uptoBulkAll]
  | d :: r => by
    have h1 := bulk_pos d
    have h2 := bulkAll_len r
    simp only [Rows.uptoBulkAll, List.length_cons]
    omega
theorem bulkBytes {H : Type} {enc : TypeId × Value → H} {W : World} {v : Value} {d : DataW H} {ps : List MemPlace} (h : DataW.Trod enc Try.prog W 0 (fun _ => true) true 24 v d ps) (hw : Rows.uptoBulk d ≤ 1048576) (hv : ∃ A n c, v = .slice A n c) :
    ∃ ys, BB W v ys ∧ ys.length ≤ 1048576 := by
  obtain ⟨fuel, hf⟩ := h
  obtain ⟨A, n, c', rfl⟩ := hv
  rcases open_ints Try.underlying24 Try.underlying5 (by kernel_rfl) hf with ⟨hcs, _⟩ | ⟨a, l, c, zs, hcs, hx1, hl, hm, hz, hx2, hcell, hwz⟩
  · simp [Value.cells] at hcs
    obtain ⟨rfl, rfl, rfl⟩ := hcs
    exact ⟨[], BB.nil W, by simp⟩
  · simp [Value.cells] at hcs
    obtain ⟨rfl, rfl, rfl⟩ := hcs
    have hzc : zs.length = c' := by simpa using hz
    have hb : n ≤ 1048576 := by
      obtain ⟨hx2, _⟩ := Prod.mk.inj hx2
      rw [hx2] at hw
      simp only [Rows.uptoBulk] at hw
      have h1 := bulkAll_len (lits IntKind.u8 (List.take n zs) : List (DataW H))
      have h2 : (lits IntKind.u8 (List.take n zs) : List (DataW H)).length = n := by simp [lits]; omega
      omega
    have hlen : (zs.take n).length = n := by rw [List.length_take]; omega
    have hrd := RdI.of_row (w := W) (k := .u8) (x := a) hl hzc hcell
    exact ⟨zs.take n, ⟨fun n hn => wf_u8 (hwz n (List.mem_of_mem_take hn)), by omega, some a, c', by rw [hlen], by rw [hlen]; exact hrd, by simp, by omega, hm⟩, by omega⟩
theorem bulkAll_mem {H : Type} {d : DataW H} : ∀ {l : List (DataW H)}, d ∈ l → Rows.uptoBulk d ≤ Rows.uptoBulkAll l
  | [], h => by cases h
  | c :: r, h => by
    simp only [Rows.uptoBulkAll]
    rcases List.mem_cons.1 h with rfl | h
    · omega
    · have := bulkAll_mem h
      omega
theorem fieldBytes {H : Type} {enc : TypeId × Value → H} {W : World} {v : Value} {fuel : Nat} {x : DataW H × List MemPlace} (hf : DataW.trod enc Try.prog W 0 (fun _ => true) true fuel 24 [v] = some x) (hw : Rows.uptoBulk x.1 ≤ 1048576) : ∃ ys, BB W v ys := by
  rcases open_ints Try.underlying24 Try.underlying5 (by kernel_rfl) hf with ⟨hcs, _⟩ | ⟨a, l, c, zs, hcs, hx1, hl, hm, hz, hx2, hcell, hwz⟩
  · simp only [List.cons.injEq, and_true] at hcs
    subst hcs
    exact ⟨[], BB.nil W⟩
  · simp only [List.cons.injEq, and_true] at hcs
    subst hcs
    have hzc : zs.length = c := by simpa using hz
    have hb : l ≤ 1048576 := by
      rw [hx2] at hw
      simp only [Rows.uptoBulk] at hw
      have h1 := bulkAll_len (lits IntKind.u8 (List.take l zs) : List (DataW H))
      have h2 : (lits IntKind.u8 (List.take l zs) : List (DataW H)).length = l := by simp [lits]; omega
      omega
    have hlen : (zs.take l).length = l := by rw [List.length_take]; omega
    have hrd := RdI.of_row (w := W) (k := .u8) (x := a) hl hzc hcell
    exact ⟨zs.take l, ⟨fun n hn => wf_u8 (hwz n (List.mem_of_mem_take hn)), by omega, some a, c, by rw [hlen], by rw [hlen]; exact hrd, by simp, by omega, hm⟩⟩
theorem openEventsU {H : Type} {enc : TypeId × Value → H} {W : World} {v : Value} {d : DataW H} {ps : List MemPlace}
    (h : DataW.Trod enc Try.prog W 0 (fun _ => true) true 22 v d ps) (hw : Rows.uptoBulk d ≤ 1048576) (hv : ∃ A n c, v = .slice A n c) :
    ∃ E : List Event, EvL W v E ∧ E.length ≤ 1048576 := by
  obtain ⟨A, len, cap, rfl⟩ := hv
  have hr2 : reachBytes ≤ 140737488351232 := by decide
  obtain ⟨fuel, hf⟩ := h
  rcases open_slice_fields Try.underlying22 Try.underlying48 (by kernel_rfl) (by kernel_rfl) hf with ⟨hcs, _⟩ | ⟨a, l, c, m, D, Pl, hcs, _, hl, hm, hmm, hx, hi⟩
  · simp [Value.cells] at hcs
    obtain ⟨rfl, rfl, rfl⟩ := hcs
    exact ⟨[], ⟨by simp, none, 0, rfl, fun _ => rfl, Nat.le_refl _, by simp [maxLen], fun i hi => by simp at hi⟩, by simp⟩
  · simp [Value.cells] at hcs
    obtain ⟨rfl, rfl, rfl⟩ := hcs
    have hmc : m = cap := by simpa using hmm
    subst hmc
    have hx1 : d = .slice ((List.range len).map D) ((List.range (m - len)).map fun j => D (len + j)) := (Prod.mk.inj hx).1
    rw [hx1] at hw
    simp only [Rows.uptoBulk] at hw
    have hlw : len ≤ 1048576 := by
      have h1 := bulkAll_len ((List.range len).map D)
      simp only [List.length_map, List.length_range] at h1
      omega
    have hel : ∀ i, i < len → ∃ e : Event, ∃ u, W.cell? (a.add (i * 5 + 0)) = some (.int .u8 e.kind) ∧ W.cell? (a.add (i * 5 + 1)) = some u ∧ W.cell? (a.add (i * 5 + 2)) = some (.int .i64 e.cols) ∧ W.cell? (a.add (i * 5 + 3)) = some (.int .i64 e.rows) ∧ W.cell? (a.add (i * 5 + 4)) = some (.int .u8 e.arrow) ∧ BB W u e.bs ∧ e.ok := by
      intro i hil
      obtain ⟨ys, n, hD, _, hyl, hfield⟩ := hi i (by omega)
      obtain ⟨v0, y0, hc0, _, ht0⟩ := hfield 0 _ rfl
      obtain ⟨v1, y1, hc1, hy1, ht1⟩ := hfield 1 _ rfl
      obtain ⟨v2, y2, hc2, _, ht2⟩ := hfield 2 _ rfl
      obtain ⟨v3, y3, hc3, _, ht3⟩ := hfield 3 _ rfl
      obtain ⟨v4, y4, hc4, _, ht4⟩ := hfield 4 _ rfl
      obtain ⟨n0, e0, _, w0⟩ := DataW.trod_int Try.underlying46 ht0
      simp only [List.cons.injEq, and_true] at e0
      subst e0
      obtain ⟨n2, e2, _, w2⟩ := DataW.trod_int Try.underlying3 ht2
      simp only [List.cons.injEq, and_true] at e2
      subst e2
      obtain ⟨n3, e3, _, w3⟩ := DataW.trod_int Try.underlying3 ht3
      simp only [List.cons.injEq, and_true] at e3
      subst e3
      obtain ⟨n4, e4, _, w4⟩ := DataW.trod_int Try.underlying5 ht4
      simp only [List.cons.injEq, and_true] at e4
      subst e4
      have hbk : Rows.uptoBulk y1.1 ≤ 1048576 := by
        have h1 : Rows.uptoBulk (D i) ≤ Rows.uptoBulkAll ((List.range len).map D) := bulkAll_mem (List.mem_map.2 ⟨i, List.mem_range.2 hil, rfl⟩)
        rw [hD] at h1
        simp only [Rows.uptoBulk] at h1
        have h2 : Rows.uptoBulk y1.1 ≤ Rows.uptoBulkAll (ys.map (·.1)) := bulkAll_mem (List.mem_map.2 ⟨y1, List.mem_of_getElem? hy1, rfl⟩)
        omega
      obtain ⟨bs, hb⟩ := fieldBytes ht1 hbk
      exact ⟨⟨n0, bs, n2, n3, n4⟩, v1, hc0, hc1, hc2, hc3, hc4, hb, wfb w0, wfi w2, wfi w3, wfb w4⟩
    obtain ⟨E, hE⟩ : ∃ E, (List.range len).map (fun i => if h : i < len then (hel i h).choose else zE) = E := ⟨_, rfl⟩
    have hEl : E.length = len := by rw [← hE]; simp
    refine ⟨E, ⟨by omega, some a, m, by rw [hEl], (fun e => by cases e), by omega, hm, fun i hil => ?_⟩, by omega⟩
    rw [hEl] at hil
    have hg : E.getD i zE = (hel i hil).choose := by
      rw [← hE, List.getD_eq_getElem?_getD, List.getElem?_map, List.getElem?_range hil]
      show (dite _ _ _) = _
      rw [dif_pos hil]
    rw [hg]
    have hs := (hel i hil).choose_spec
    generalize (hel i hil).choose = e at hs ⊢
    have h0 := (hel 0 (by omega)).choose_spec.choose_spec.1
    obtain ⟨b, off, rfl⟩ := addr_plain (x := a) (w := W) (by simpa using h0)
    simp only [addr_add] at hs
    obtain ⟨u, c0, c1, c2, c3, c4, hb, hok⟩ := hs
    refine ⟨b, off, rfl, u, ?_, ?_, ?_, ?_, ?_, hb, hok⟩
    · rw [show off + i * 5 = off + (i * 5 + 0) by omega]; exact c0
    · rw [Nat.add_assoc]; exact c1
    · rw [Nat.add_assoc]; exact c2
    · rw [Nat.add_assoc]; exact c3
    · rw [Nat.add_assoc]; exact c4
end Go.Proofs.Ytgkiedbefogklaa
