/- What is proved: an argument that is a slice of slices of bytes, opened to what it reads as; no condition beyond those typed. -/
import Derived.Test.YthebhbcfacoknaaNet5
import Derived.Deep.Slices
import Derived.SizedLaws
import Derived.ProofKit
import Derived.OpenShut
set_option linter.unusedVariables false
set_option linter.unusedSimpArgs false
namespace Go.Proofs.Ythebhbcfacoknaa
open Go.ChangeShapes Go.WideShapes Go.Deep Go.RowKit
theorem addr_plain {w : World} {x : Addr} {v : Value} (h0 : w.cell? (x.add 0) = some v) : ∃ b off, x = ⟨b, off, none⟩ := by
  obtain ⟨b, off, spot⟩ := x
  cases spot with
  | none => exact ⟨b, off, rfl⟩
  | some s =>
    exfalso
    have : (⟨b, off, some s⟩ : Addr).add 0 = ⟨b, off, some s⟩ := by simp [Addr.add]
    rw [this] at h0
    unfold World.cell? at h0
    split at h0 <;> simp at h0
theorem addr_add (b off j : Nat) : (⟨b, off, none⟩ : Addr).add j = ⟨b, off + j, none⟩ := by unfold Addr.add; split <;> simp_all
theorem weightsAll_mem {H : Type} {P : Program} {e : TypeId} {d : DataW H} {x : Nat} : ∀ {l : List (DataW H)}, d ∈ l → x ∈ d.weights P e → x ∈ DataW.weightsAll P e l
  | [], h, _ => by cases h
  | c :: r, h, hx => by
    unfold DataW.weightsAll
    rcases List.mem_cons.1 h with rfl | h
    · exact List.mem_append_left _ hx
    · exact List.mem_append_right _ (weightsAll_mem h hx)
theorem openBytes {H : Type} {enc : TypeId × Value → H} {W : World} {v : Value} {fuel : Nat} {x : DataW H × List MemPlace} (hf : DataW.trod enc Try.prog W 0 (fun _ => true) true fuel 25 [v] = some x) (hw : ∀ q ∈ x.1.weights Try.prog 25, q ≤ reachBytes) :
    ∃ ys, BB W v ys ∧ ys.length ≤ 140737488351232 := by
  have hreach := reachBytes_lt
  rcases open_ints Try.underlying25 Try.underlying5 (by kernel_rfl) hf with ⟨hcs, _⟩ | ⟨a, l, c, zs, hcs, hx1, hl, hm, hz, hx2, hcell, hwz⟩
  · simp only [List.cons.injEq, and_true] at hcs
    subst hcs
    exact ⟨[], BB.nil W, by simp⟩
  · simp only [List.cons.injEq, and_true] at hcs
    subst hcs
    have hzc : zs.length = c := by simpa using hz
    have hb : c * 1 ≤ reachBytes := by
      refine hw (c * 1) ?_
      rw [hx2]
      have e1 : (lits IntKind.u8 (List.take l zs) : List (DataW H)).length + (lits IntKind.u8 (List.drop l zs) : List (DataW H)).length = c := by simp [lits]; omega
      have e2 : Try.prog.bytesOf 5 = 1 := by kernel_rfl
      simp [DataW.weights, Try.underlying25, e1, e2]
    have hlen : (zs.take l).length = l := by rw [List.length_take]; omega
    have hrd := RdI.of_row (w := W) (k := .u8) (x := a) hl hzc hcell
    have hr2 : reachBytes ≤ 140737488351232 := by decide
    refine ⟨zs.take l, ⟨fun n hn => wf_u8 (hwz n (List.mem_of_mem_take hn)), by omega, some a, c, by rw [hlen], by rw [hlen]; exact hrd, by simp, by omega, hm⟩, by omega⟩
theorem openRows {H : Type} {enc : TypeId × Value → H} {W : World} {A : Option Addr} {len cap : Nat} {d : DataW H} {ps : List MemPlace} {ts : List TypeId} {ds : List (DataW H)} {j : Nat}
    (hsz : (DataW.weightsEach Try.prog ts ds).all (· ≤ reachBytes) = true) (ht : ts[j]? = some 22) (hd : ds[j]? = some d)
    (h : DataW.Trod enc Try.prog W 0 (fun _ => true) true 22 (.slice A len cap) d ps) :
    ∃ L : List (List Int), L.length = len ∧ LR W (fun _ => 0) (.slice A len cap) L ∧ len * 24 ≤ 140737488351232 ∧ ∀ i, i < len → (L.getD i []).length ≤ 140737488351232 := by
  have hr2 : reachBytes ≤ 140737488351232 := by decide
  obtain ⟨fuel, hf⟩ := h
  rcases open_slice Try.underlying22 hf with ⟨hcs, _⟩ | ⟨a, l, c, m, n, D, Pl, hcs, _, hl, hm, hmm, hx, hi⟩
  · simp [Value.cells] at hcs
    obtain ⟨rfl, rfl, rfl⟩ := hcs
    exact ⟨[], rfl, ⟨none, 0, rfl, by simp, fun i hi => absurd hi (by simp)⟩, by omega, fun i hi => absurd hi (by omega)⟩
  · simp [Value.cells] at hcs
    obtain ⟨rfl, rfl, rfl⟩ := hcs
    have hmc : m = cap := by simpa using hmm
    subst hmc
    have ce : Try.prog.cellsOf 25 = 1 := by kernel_rfl
    have hx1 : d = .slice ((List.range len).map D) ((List.range (m - len)).map fun j => D (len + j)) := (Prod.mk.inj hx).1
    have hel : ∀ i, i < len → ∃ p : Value × List Int, W.cell? (a.add i) = some p.1 ∧ BB W p.1 p.2 ∧ p.2.length ≤ 140737488351232 := by
      intro i hil
      obtain ⟨cs', hc, htr⟩ := hi i (by omega)
      rw [ce] at hc
      obtain ⟨_, hl1, hat⟩ := World.cells?_some hc
      obtain ⟨v, rfl⟩ : ∃ v, cs' = [v] := by
        match cs', hl1 with
        | [v], _ => exact ⟨v, rfl⟩
      have h0 := hat 0 (by omega)
      rw [Go.Deep.add_add, Nat.add_zero, Nat.mul_one] at h0
      obtain ⟨ys, hB, hl⟩ := openBytes htr (fun q hq => by
        refine of_decide_eq_true (List.all_eq_true.1 hsz q (DataW.weights_mem_each ht hd q ?_))
        rw [hx1]
        simp only [DataW.weights, Try.underlying22, List.mem_cons, List.mem_append]
        exact .inr (.inl (weightsAll_mem (List.mem_map.2 ⟨i, List.mem_range.2 hil, rfl⟩) hq)))
      exact ⟨(v, ys), by simpa using h0, hB, hl⟩
    have hsize : (len + (m - len)) * 24 ≤ reachBytes := by
      have h2 := sized_slice hsz ht (by rw [hd, hx1]) Try.underlying22
      rw [show Try.prog.bytesOf 25 = 24 from by kernel_rfl] at h2
      simp only [List.length_map, List.length_range] at h2
      exact h2
    have eL : ∀ i (hil : i < len), ((List.range len).map fun i => if h : i < len then (hel i h).choose.2 else []).getD i [] = (hel i hil).choose.2 := fun i hil => by
      rw [List.getD_eq_getElem?_getD, List.getElem?_map, List.getElem?_range hil]
      simp [hil]
    refine ⟨(List.range len).map fun i => if h : i < len then (hel i h).choose.2 else [], by simp, ⟨some a, m, by simp, by simp; omega, fun i hi => ?_⟩, by omega, fun i hil => ?_⟩
    · have hil : i < len := by simpa using hi
      have hs := (hel i hil).choose_spec
      rw [eL i hil]
      generalize (hel i hil).choose = y at hs ⊢
      obtain ⟨b, off, rfl⟩ := addr_plain (x := a) (w := W) (by have h0 := (hel 0 (by omega)).choose_spec.1; exact h0)
      rw [addr_add] at hs
      exact ⟨b, off, y.1, rfl, rfl, hs.1, hs.2.1, fun _ _ _ => rfl⟩
    · rw [eL i hil]
      exact (hel i hil).choose_spec.2.2
end Go.Proofs.Ythebhbcfacoknaa
