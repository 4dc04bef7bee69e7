/- What is proved: arguments that are slices of runes, of bounded bulk, opened to what they read as; no condition beyond those typed. -/
import Derived.Test.YtecgipccippddaaRows
import Derived.Test.YtecgipccippddaaVtC
import Derived.ProofKit
import Derived.OpenShut
import Derived.ChangeOld
set_option linter.unusedVariables false
set_option linter.unusedSimpArgs false
namespace Go.Proofs.Ytecgipccippddaa
open Go.ChangeShapes Go.WideShapes Go.RowKit
/-- Runes that are read. -/
def RV (W : World) (v : Value) (xs : List Int) : Prop := (∃ A c, v = .slice A xs.length c ∧ RdI W .i32 A xs.length xs) ∧ ∀ x ∈ xs, -2147483648 ≤ x ∧ x ≤ 2147483647
theorem bulk_pos {H : Type} (d : DataW H) : 1 ≤ Rows.uptoBulk d := by
  cases d with
  | lit l => cases l <;> simp [Rows.uptoBulk]
  | _ => simp [Rows.uptoBulk]
theorem bulkAll_len {H : Type} : ∀ (l : List (DataW H)), l.length ≤ Rows.uptoBulkAll l
  | [] => by simp [Rows.uptoBulkAll]
  | d :: r => by
    have h1 := bulk_pos d
    have h2 := bulkAll_len r
    simp only [Rows.uptoBulkAll, List.length_cons]
    omega
theorem bulkRunes {H : Type} {enc : TypeId × Value → H} {W : World} {v : Value} {d : DataW H} {ps : List MemPlace} (h : DataW.Trod enc Try.prog W 0 (fun _ => true) true 22 v d ps) (hw : Rows.uptoBulk d ≤ 1048576) (hv : ∃ A n c, v = .slice A n c) :
    ∃ ys, RV W v ys ∧ ys.length ≤ 1048576 := by
  obtain ⟨fuel, hf⟩ := h
  obtain ⟨A, n, c', rfl⟩ := hv
  rcases open_ints Try.underlying22 Try.underlying21 (by kernel_rfl) hf with ⟨hcs, _⟩ | ⟨a, l, c, zs, hcs, hx1, hl, hm, hz, hx2, hcell, hwz⟩
  · simp [Value.cells] at hcs
    obtain ⟨rfl, rfl, rfl⟩ := hcs
    exact ⟨[], ⟨⟨none, 0, rfl, RdI.nil⟩, by simp⟩, by simp⟩
  · simp [Value.cells] at hcs
    obtain ⟨rfl, rfl, rfl⟩ := hcs
    have hzc : zs.length = c' := by simpa using hz
    have hb : n ≤ 1048576 := by
      obtain ⟨hx2, _⟩ := Prod.mk.inj hx2
      rw [hx2] at hw
      simp only [Rows.uptoBulk] at hw
      have h1 := bulkAll_len (lits IntKind.i32 (List.take n zs) : List (DataW H))
      have h2 : (lits IntKind.i32 (List.take n zs) : List (DataW H)).length = n := by simp [lits]; omega
      omega
    have hlen : (zs.take n).length = n := by rw [List.length_take]; omega
    have hrd := RdI.of_row (w := W) (k := .i32) (x := a) hl hzc hcell
    exact ⟨zs.take n, ⟨⟨some a, c', by rw [hlen], by rw [hlen]; exact hrd⟩, fun x hx => wf_i32 (hwz x (List.mem_of_mem_take hx))⟩, by omega⟩
theorem bounds_law2 (v v2 : Value) (l m : List Int) (w : World) (h : RV w v l) (h2 : RV w v2 m) (hl : l.length ≤ 1048576) (hl2 : m.length ≤ 1048576) :
    Calls Try.prog 3 #[v, v2] w fun e w' => e = .returned (.bool true) ∧ Below w.heap.size w w' := by
  obtain ⟨⟨A, c, rfl, hr⟩, hx⟩ := h
  obtain ⟨⟨A2, c2, rfl, hr2⟩, hx2⟩ := h2
  exact bounds_law A A2 _ _ _ _ l m w hr hr2 hl hl2 (fun x h => (hx x h).2) (fun x h => (hx2 x h).2)
end Go.Proofs.Ytecgipccippddaa
