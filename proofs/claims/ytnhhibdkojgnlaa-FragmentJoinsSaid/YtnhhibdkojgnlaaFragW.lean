/- What is proved: an argument that is a slice of parts, opened to what it reads as; no condition beyond those typed. -/
import Derived.Test.YtnhhibdkojgnlaaFrag11
import Derived.Test.YtnhhibdkojgnlaaFragV
import Derived.Test.YtnhhibdkojgnlaaOpenFields
import Derived.Deep.Slices
import Derived.SizedLaws
import Derived.ProofKit
import Derived.OpenShut
set_option linter.unusedVariables false
set_option linter.unusedSimpArgs false
namespace Go.Proofs.Ytnhhibdkojgnlaa
open Go Go.ChangeShapes Go.WideShapes Go.Deep Go.RowKit
set_option maxRecDepth 100000
theorem openParts {H : Type} {enc : TypeId × Value → H} {W : World} {A : Option Addr} {len cap : Nat} {d : DataW H} {ps : List MemPlace} {ts : List TypeId} {ds : List (DataW H)} {j : Nat}
    (hsz : (DataW.weightsEach Try.prog ts ds).all (· ≤ reachBytes) = true) (ht : ts[j]? = some 22) (hd : ds[j]? = some d)
    (h : DataW.Trod enc Try.prog W 0 (fun _ => true) true 22 (.slice A len cap) d ps) :
    ∃ L : List PV, RPs W A len L ∧ len ≤ 140737488355328 := by
  have hr2 : reachBytes ≤ 140737488351232 := by decide
  obtain ⟨fuel, hf⟩ := h
  rcases open_slice_fields Try.underlying22 Try.underlying33 (by kernel_rfl) (by kernel_rfl) hf with ⟨hcs, _⟩ | ⟨a, l, c, m, D, Pl, hcs, _, hl, hm, hmm, hx, hi⟩
  · simp [Value.cells] at hcs
    obtain ⟨rfl, rfl, rfl⟩ := hcs
    exact ⟨[], ⟨rfl, by simp⟩, by omega⟩
  · simp [Value.cells] at hcs
    obtain ⟨rfl, rfl, rfl⟩ := hcs
    have hmc : m = cap := by simpa using hmm
    subst hmc
    have hx1 : d = .slice ((List.range len).map D) ((List.range (m - len)).map fun j => D (len + j)) := (Prod.mk.inj hx).1
    have hsize : (len + (m - len)) * 48 ≤ reachBytes := by
      have h2 := sized_slice hsz ht (by rw [hd, hx1]) Try.underlying22
      rw [show Try.prog.bytesOf 33 = 48 from by kernel_rfl] at h2
      simp only [List.length_map, List.length_range] at h2
      exact h2
    have hel : ∀ i, i < len → ∃ p : PV, W.cell? (a.add (i * 4 + 0)) = some (.int .u64 p.id) ∧ W.cell? (a.add (i * 4 + 1)) = some (.int .i64 p.n) ∧ W.cell? (a.add (i * 4 + 2)) = some (.bool p.last) ∧ W.cell? (a.add (i * 4 + 3)) = some p.v ∧ BB W p.v p.bs := by
      intro i hil
      obtain ⟨ys, n, hD, _, hyl, hfield⟩ := hi i (by omega)
      obtain ⟨v0, y0, hc0, _, ht0⟩ := hfield 0 _ rfl
      obtain ⟨v1, y1, hc1, _, ht1⟩ := hfield 1 _ rfl
      obtain ⟨v2, y2, hc2, _, ht2⟩ := hfield 2 _ rfl
      obtain ⟨v3, y3, hc3, hy3, ht3⟩ := hfield 3 _ rfl
      obtain ⟨n0, e0, _, w0⟩ := DataW.trod_int Try.underlying25 ht0
      simp only [List.cons.injEq, and_true] at e0
      subst e0
      obtain ⟨n1, e1, _, w1⟩ := DataW.trod_int Try.underlying3 ht1
      simp only [List.cons.injEq, and_true] at e1
      subst e1
      obtain ⟨b2, e2, _⟩ := DataW.trod_bool Try.underlying4 ht2
      simp only [List.cons.injEq, and_true] at e2
      subst e2
      obtain ⟨bs, hb, _⟩ := openBytes ht3 (fun q hq => by
        refine of_decide_eq_true (List.all_eq_true.1 hsz q (DataW.weights_mem_each ht hd q ?_))
        rw [hx1]
        simp only [DataW.weights, Try.underlying22, List.mem_cons, List.mem_append]
        refine .inr (.inl (weightsAll_mem (List.mem_map.2 ⟨i, List.mem_range.2 hil, rfl⟩) ?_))
        rw [hD]
        match ys, hyl, hy3 with
        | [x0, x1, x2, x3], _, hy3 =>
          simp only [List.getElem?_cons_succ, List.getElem?_cons_zero, Option.some.injEq] at hy3
          subst hy3
          simp only [DataW.weights, Try.underlying33, List.map_cons, List.map_nil, DataW.weightsEach, List.mem_append]
          exact .inr (.inr (.inr (.inl hq))))
      exact ⟨⟨n0, n1, b2, v3, bs⟩, hc0, hc1, hc2, hc3, hb⟩
    refine ⟨(List.range len).map fun i => if h : i < len then (hel i h).choose else ⟨0, 0, false, undef, []⟩, ⟨by simp, fun k p hp => ?_⟩, by omega⟩
    rw [List.getElem?_map] at hp
    obtain ⟨k', hk', hp⟩ := Option.map_eq_some_iff.1 hp
    have hkl : k < len := by
      have := (List.getElem?_eq_some_iff.1 hk').1
      simpa using this
    rw [List.getElem?_range hkl] at hk'
    obtain rfl := Option.some.inj hk'
    rw [dif_pos hkl] at hp
    have hs := (hel k hkl).choose_spec
    rw [hp] at hs
    have h0 := (hel 0 (by omega)).choose_spec.1
    obtain ⟨b, off, rfl⟩ := addr_plain (x := a) (w := W) (by simpa using h0)
    rw [addr_add, addr_add, addr_add, addr_add] at hs
    refine ⟨b, off, rfl, fun j u hu => ?_, hs.2.2.2.2⟩
    match j, hu with
    | 0, hu => simp only [PV.row, List.getElem?_cons_zero, Option.some.injEq] at hu; subst hu; rw [Nat.add_assoc]; exact hs.1
    | 1, hu => simp only [PV.row, List.getElem?_cons_succ, List.getElem?_cons_zero, Option.some.injEq] at hu; subst hu; rw [Nat.add_assoc]; exact hs.2.1
    | 2, hu => simp only [PV.row, List.getElem?_cons_succ, List.getElem?_cons_zero, Option.some.injEq] at hu; subst hu; rw [Nat.add_assoc]; exact hs.2.2.1
    | 3, hu => simp only [PV.row, List.getElem?_cons_succ, List.getElem?_cons_zero, Option.some.injEq] at hu; subst hu; rw [Nat.add_assoc]; exact hs.2.2.2.1
    | j + 4, hu => simp [PV.row] at hu
end Go.Proofs.Ytnhhibdkojgnlaa
