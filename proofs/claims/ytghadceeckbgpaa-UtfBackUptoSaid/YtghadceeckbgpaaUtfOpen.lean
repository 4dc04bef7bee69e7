/- What is proved: arguments that are slices of bytes or of runes, of bounded bulk, opened to what they read as; no condition beyond those typed. -/
import Derived.Test.YtghadceeckbgpaaRows
import Derived.Test.YtghadceeckbgpaaUtfA
set_option linter.unusedVariables false
set_option linter.unusedSimpArgs false
namespace Go.Proofs.Ytghadceeckbgpaa
open Go.ChangeShapes Go.WideShapes Go.RowKit
theorem bulk_pos {H : Type} (d : DataW H) : 1 ≤ Rows.uptoBulk d := by
  cases d with
  | lit l => cases l <;> simp [Rows.uptoBulk]
  | _ => simp [Rows.uptoBulk]
theorem bulkAll_len {H : Type} : ∀ (l : List (DataW H)), l.length ≤ Rows.uptoBulkAll l
  | [] => by simp [Rows.uptoBulkAll]
  | d :: r => by
    have h1 := bulk_pos d
    have h2 := bulkAll_len r
    simp only [Rows.uptoBulkAll, List.length_cons]
    omega
theorem bulkBytes {H : Type} {enc : TypeId × Value → H} {W : World} {v : Value} {d : DataW H} {ps : List MemPlace} (h : DataW.Trod enc Try.prog W 0 (fun _ => true) true 22 v d ps) (hw : Rows.uptoBulk d ≤ 1048576) (hv : ∃ A n c, v = .slice A n c) :
    ∃ ys, BB W v ys ∧ ys.length ≤ 1048576 := by
  obtain ⟨fuel, hf⟩ := h
  obtain ⟨A, n, c', rfl⟩ := hv
  rcases open_ints Try.underlying22 Try.underlying5 (by kernel_rfl) hf with ⟨hcs, _⟩ | ⟨a, l, c, zs, hcs, hx1, hl, hm, hz, hx2, hcell, hwz⟩
  · simp [Value.cells] at hcs
    obtain ⟨rfl, rfl, rfl⟩ := hcs
    exact ⟨[], BB.nil W, by simp⟩
  · simp [Value.cells] at hcs
    obtain ⟨rfl, rfl, rfl⟩ := hcs
    have hzc : zs.length = c' := by simpa using hz
    have hb : n ≤ 1048576 := by
      obtain ⟨hx2, _⟩ := Prod.mk.inj hx2
      rw [hx2] at hw
      simp only [Rows.uptoBulk] at hw
      have h1 := bulkAll_len (lits IntKind.u8 (List.take n zs) : List (DataW H))
      have h2 : (lits IntKind.u8 (List.take n zs) : List (DataW H)).length = n := by simp [lits]; omega
      omega
    have hlen : (zs.take n).length = n := by rw [List.length_take]; omega
    have hrd := RdI.of_row (w := W) (k := .u8) (x := a) hl hzc hcell
    exact ⟨zs.take n, ⟨fun n hn => wf_u8 (hwz n (List.mem_of_mem_take hn)), by omega, some a, c', by rw [hlen], by rw [hlen]; exact hrd, by simp, by omega, hm⟩, by omega⟩
theorem bulkRunes {H : Type} {enc : TypeId × Value → H} {W : World} {v : Value} {d : DataW H} {ps : List MemPlace} (h : DataW.Trod enc Try.prog W 0 (fun _ => true) true 23 v d ps) (hw : Rows.uptoBulk d ≤ 1048576) (hv : ∃ A n c, v = .slice A n c) :
    ∃ ys, RR W v ys ∧ ys.length ≤ 1048576 := by
  obtain ⟨fuel, hf⟩ := h
  obtain ⟨A, n, c', rfl⟩ := hv
  rcases open_ints Try.underlying23 Try.underlying21 (by kernel_rfl) hf with ⟨hcs, _⟩ | ⟨a, l, c, zs, hcs, hx1, hl, hm, hz, hx2, hcell, hwz⟩
  · simp [Value.cells] at hcs
    obtain ⟨rfl, rfl, rfl⟩ := hcs
    exact ⟨[], RR.nil W, by simp⟩
  · simp [Value.cells] at hcs
    obtain ⟨rfl, rfl, rfl⟩ := hcs
    have hzc : zs.length = c' := by simpa using hz
    have hb : n ≤ 1048576 := by
      obtain ⟨hx2, _⟩ := Prod.mk.inj hx2
      rw [hx2] at hw
      simp only [Rows.uptoBulk] at hw
      have h1 := bulkAll_len (lits IntKind.i32 (List.take n zs) : List (DataW H))
      have h2 : (lits IntKind.i32 (List.take n zs) : List (DataW H)).length = n := by simp [lits]; omega
      omega
    have hlen : (zs.take n).length = n := by rw [List.length_take]; omega
    have hrd := RdI.of_row (w := W) (k := .i32) (x := a) hl hzc hcell
    exact ⟨zs.take n, ⟨fun n hn => wf_i32 (hwz n (List.mem_of_mem_take hn)), by omega, some a, c', by rw [hlen], by rw [hlen]; exact hrd, by simp, by omega, hm⟩, by omega⟩
end Go.Proofs.Ytghadceeckbgpaa
