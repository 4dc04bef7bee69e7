/- What is proved: an argument that asks (a diff and a number, by value), opened to what it reads as; no condition beyond those typed. -/
import Derived.Test.YtgkiedbefogklaaEvF
import Derived.Test.YtgkiedbefogklaaWireY
set_option linter.unusedVariables false
set_option linter.unusedSimpArgs false
namespace Go.Proofs.Ytgkiedbefogklaa
open Go Go.ChangeShapes Go.WideShapes Go.Deep Go.RowKit
set_option maxRecDepth 100000
theorem openAsk {H : Type} {enc : TypeId × Value → H} {W : World} {r : Reach} {b0 : Nat} {v : Value} {d : DataW H} {ps : List MemPlace} {ts : List TypeId} {ds : List (DataW H)} {j : Nat}
    (hsz : (DataW.weightsEach Try.prog ts ds).all (· ≤ reachBytes) = true) (ht : ts[j]? = some 35) (hd : ds[j]? = some d)
    (hv : Value.okWide Try.prog W r b0 35 v) (h : DataW.Trod enc Try.prog W 0 (fun _ => true) true 35 v d ps) :
    ∃ (u : Value) (k : Int) (bs : List Int), v = .agg #[u, .int .i64 k] ∧ BB W u bs := by
  obtain ⟨cs, rfl, hcs⟩ := okWide_struct Try.underlying35 hv
  have hct : Try.prog.cellsOf 35 = 2 := by kernel_rfl
  have ci : Try.prog.cellsOf 3 = 1 := by kernel_rfl
  have cx : Try.prog.cellsOf 24 = 1 := by kernel_rfl
  rw [hct] at hcs
  obtain ⟨fuel, hf⟩ := h
  obtain ⟨xs, n, _, hx, _, hlen, hg⟩ := DataW.trod_struct Try.underlying35 hf
  simp only [Prod.mk.injEq] at hx
  obtain ⟨l⟩ := cs
  match l, hcs with
  | [c0, c1], _ =>
    obtain ⟨y0, hy0⟩ : ∃ y, xs[0]? = some y := ⟨_, List.getElem?_eq_getElem (by rw [hlen]; decide)⟩
    have g0 := (hg 0 _ rfl).trans hy0
    simp [Value.cells, cx] at g0
    obtain ⟨y1, hy1⟩ : ∃ y, xs[1]? = some y := ⟨_, List.getElem?_eq_getElem (by rw [hlen]; decide)⟩
    have g1 := (hg 1 _ rfl).trans hy1
    simp [Value.cells, ci] at g1
    obtain ⟨n1, e1, _, w1⟩ := DataW.trod_int Try.underlying3 g1
    simp only [List.cons.injEq, and_true] at e1
    subst e1
    obtain ⟨bs, hb, _⟩ := openBytes g0 (fun q hq => by
      refine of_decide_eq_true (List.all_eq_true.1 hsz q (DataW.weights_mem_each ht hd q ?_))
      rw [hx.1]
      match xs, hlen, hy0 with
      | [x0, x1], _, hy0 =>
        simp only [List.getElem?_cons_zero, Option.some.injEq] at hy0
        subst hy0
        simp only [DataW.weights, Try.underlying35, List.map_cons, List.map_nil, DataW.weightsEach, List.mem_append]
        exact .inl hq)
    exact ⟨c0, n1, bs, rfl, hb⟩
end Go.Proofs.Ytgkiedbefogklaa
