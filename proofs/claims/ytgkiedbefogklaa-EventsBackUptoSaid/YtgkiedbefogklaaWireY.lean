/- What is proved: an argument that is a slice of events, opened to what it reads as; no condition beyond those typed. -/
import Derived.Test.YtgkiedbefogklaaWireV
import Derived.Test.YtgkiedbefogklaaOpenFields
import Derived.Deep.Slices
import Derived.SizedLaws
import Derived.ProofKit
import Derived.OpenShut
set_option linter.unusedVariables false
set_option linter.unusedSimpArgs false
namespace Go.Proofs.Ytgkiedbefogklaa
open Go Go.ChangeShapes Go.WideShapes Go.Deep Go.RowKit
set_option maxRecDepth 100000
theorem wfi {n : Int} (h : (Lit.int .i64 n).wf = true) : -9223372036854775808 ≤ n ∧ n ≤ 9223372036854775807 := by
  simp [Lit.wf, IntKind.min, IntKind.max, IntKind.bits, IntKind.signed] at h
  omega
theorem openEvents {H : Type} {enc : TypeId × Value → H} {W : World} {A : Option Addr} {len cap : Nat} {d : DataW H} {ps : List MemPlace} {ts : List TypeId} {ds : List (DataW H)} {j : Nat}
    (hsz : (DataW.weightsEach Try.prog ts ds).all (· ≤ reachBytes) = true) (ht : ts[j]? = some 22) (hd : ds[j]? = some d)
    (h : DataW.Trod enc Try.prog W 0 (fun _ => true) true 22 (.slice A len cap) d ps) :
    ∃ E : List Event, EvL W (.slice A len cap) E ∧ E.length = len := by
  have hr2 : reachBytes ≤ 140737488351232 := by decide
  obtain ⟨fuel, hf⟩ := h
  rcases open_slice_fields Try.underlying22 Try.underlying48 (by kernel_rfl) (by kernel_rfl) hf with ⟨hcs, _⟩ | ⟨a, l, c, m, D, Pl, hcs, _, hl, hm, hmm, hx, hi⟩
  · simp [Value.cells] at hcs
    obtain ⟨rfl, rfl, rfl⟩ := hcs
    exact ⟨[], ⟨by simp, none, 0, rfl, fun _ => rfl, Nat.le_refl _, by simp [maxLen], fun i hi => by simp at hi⟩, rfl⟩
  · simp [Value.cells] at hcs
    obtain ⟨rfl, rfl, rfl⟩ := hcs
    have hmc : m = cap := by simpa using hmm
    subst hmc
    have hx1 : d = .slice ((List.range len).map D) ((List.range (m - len)).map fun j => D (len + j)) := (Prod.mk.inj hx).1
    have hsize : (len + (m - len)) * 56 ≤ reachBytes := by
      have h2 := sized_slice hsz ht (by rw [hd, hx1]) Try.underlying22
      rw [show Try.prog.bytesOf 48 = 56 from by kernel_rfl] at h2
      simp only [List.length_map, List.length_range] at h2
      exact h2
    have hel : ∀ i, i < len → ∃ e : Event, ∃ u, W.cell? (a.add (i * 5 + 0)) = some (.int .u8 e.kind) ∧ W.cell? (a.add (i * 5 + 1)) = some u ∧ W.cell? (a.add (i * 5 + 2)) = some (.int .i64 e.cols) ∧ W.cell? (a.add (i * 5 + 3)) = some (.int .i64 e.rows) ∧ W.cell? (a.add (i * 5 + 4)) = some (.int .u8 e.arrow) ∧ BB W u e.bs ∧ e.ok := by
      intro i hil
      obtain ⟨ys, n, hD, _, hyl, hfield⟩ := hi i (by omega)
      obtain ⟨v0, y0, hc0, _, ht0⟩ := hfield 0 _ rfl
      obtain ⟨v1, y1, hc1, hy1, ht1⟩ := hfield 1 _ rfl
      obtain ⟨v2, y2, hc2, _, ht2⟩ := hfield 2 _ rfl
      obtain ⟨v3, y3, hc3, _, ht3⟩ := hfield 3 _ rfl
      obtain ⟨v4, y4, hc4, _, ht4⟩ := hfield 4 _ rfl
      obtain ⟨n0, e0, _, w0⟩ := DataW.trod_int Try.underlying46 ht0
      simp only [List.cons.injEq, and_true] at e0
      subst e0
      obtain ⟨n2, e2, _, w2⟩ := DataW.trod_int Try.underlying3 ht2
      simp only [List.cons.injEq, and_true] at e2
      subst e2
      obtain ⟨n3, e3, _, w3⟩ := DataW.trod_int Try.underlying3 ht3
      simp only [List.cons.injEq, and_true] at e3
      subst e3
      obtain ⟨n4, e4, _, w4⟩ := DataW.trod_int Try.underlying5 ht4
      simp only [List.cons.injEq, and_true] at e4
      subst e4
      obtain ⟨bs, hb, _⟩ := openBytes ht1 (fun q hq => by
        refine of_decide_eq_true (List.all_eq_true.1 hsz q (DataW.weights_mem_each ht hd q ?_))
        rw [hx1]
        simp only [DataW.weights, Try.underlying22, List.mem_cons, List.mem_append]
        refine .inr (.inl (weightsAll_mem (List.mem_map.2 ⟨i, List.mem_range.2 hil, rfl⟩) ?_))
        rw [hD]
        match ys, hyl, hy1 with
        | [x0, x1, x2, x3, x4], _, hy1 =>
          simp only [List.getElem?_cons_succ, List.getElem?_cons_zero, Option.some.injEq] at hy1
          subst hy1
          simp only [DataW.weights, Try.underlying48, List.map_cons, List.map_nil, DataW.weightsEach, List.mem_append]
          exact .inr (.inl hq))
      exact ⟨⟨n0, bs, n2, n3, n4⟩, v1, hc0, hc1, hc2, hc3, hc4, hb, wfb w0, wfi w2, wfi w3, wfb w4⟩
    obtain ⟨E, hE⟩ : ∃ E, (List.range len).map (fun i => if h : i < len then (hel i h).choose else zE) = E := ⟨_, rfl⟩
    have hEl : E.length = len := by rw [← hE]; simp
    refine ⟨E, ⟨by omega, some a, m, by rw [hEl], (fun e => by cases e), by omega, hm, fun i hil => ?_⟩, hEl⟩
    rw [hEl] at hil
    have hg : E.getD i zE = (hel i hil).choose := by
      rw [← hE, List.getD_eq_getElem?_getD, List.getElem?_map, List.getElem?_range hil]
      show (dite _ _ _) = _
      rw [dif_pos hil]
    rw [hg]
    have hs := (hel i hil).choose_spec
    generalize (hel i hil).choose = e at hs ⊢
    have h0 := (hel 0 (by omega)).choose_spec.choose_spec.1
    obtain ⟨b, off, rfl⟩ := addr_plain (x := a) (w := W) (by simpa using h0)
    simp only [addr_add] at hs
    obtain ⟨u, c0, c1, c2, c3, c4, hb, hok⟩ := hs
    refine ⟨b, off, rfl, u, ?_, ?_, ?_, ?_, ?_, hb, hok⟩
    · rw [show off + i * 5 = off + (i * 5 + 0) by omega]; exact c0
    · rw [Nat.add_assoc]; exact c1
    · rw [Nat.add_assoc]; exact c2
    · rw [Nat.add_assoc]; exact c3
    · rw [Nat.add_assoc]; exact c4
end Go.Proofs.Ytgkiedbefogklaa
