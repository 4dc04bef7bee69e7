/- What is proved: an argument that is an instruction, by value, opened to what it reads as; no condition beyond those typed. -/
import Derived.Test.YtclnohifgjjngaaWireN
import Derived.Deep.Slices
import Derived.SizedLaws
import Derived.ProofKit
import Derived.OpenShut
import Derived.Laws.IdiomArrays
set_option linter.unusedVariables false
set_option linter.unusedSimpArgs false
namespace Go.Proofs.Ytclnohifgjjngaa
open Go Go.ChangeShapes Go.WideShapes Go.Deep Go.RowKit
set_option maxRecDepth 100000
theorem wfb {n : Int} (h : (Lit.int .u8 n).wf = true) : 0 ≤ n ∧ n ≤ 255 := by
  simp [Lit.wf, IntKind.min, IntKind.max, IntKind.bits, IntKind.signed] at h
  omega
theorem addr_plain {w : World} {x : Addr} {v : Value} (h0 : w.cell? (x.add 0) = some v) : ∃ b off, x = ⟨b, off, none⟩ := by
  obtain ⟨b, off, spot⟩ := x
  cases spot with
  | none => exact ⟨b, off, rfl⟩
  | some s =>
    exfalso
    have : (⟨b, off, some s⟩ : Addr).add 0 = ⟨b, off, some s⟩ := by simp [Addr.add]
    rw [this] at h0
    unfold World.cell? at h0
    split at h0 <;> simp at h0
theorem addr_add (b off j : Nat) : (⟨b, off, none⟩ : Addr).add j = ⟨b, off + j, none⟩ := by unfold Addr.add; split <;> simp_all
theorem weightsAll_mem {H : Type} {P : Program} {e : TypeId} {d : DataW H} {x : Nat} : ∀ {l : List (DataW H)}, d ∈ l → x ∈ d.weights P e → x ∈ DataW.weightsAll P e l
  | [], h, _ => by cases h
  | c :: r, h, hx => by
    unfold DataW.weightsAll
    rcases List.mem_cons.1 h with rfl | h
    · exact List.mem_append_left _ hx
    · exact List.mem_append_right _ (weightsAll_mem h hx)
theorem openBytes {H : Type} {enc : TypeId × Value → H} {W : World} {v : Value} {fuel : Nat} {x : DataW H × List MemPlace} (hf : DataW.trod enc Try.prog W 0 (fun _ => true) true fuel 23 [v] = some x) (hw : ∀ q ∈ x.1.weights Try.prog 23, q ≤ reachBytes) :
    ∃ ys, BB W v ys ∧ ys.length ≤ 140737488351232 := by
  have hreach := reachBytes_lt
  rcases open_ints Try.underlying23 Try.underlying5 (by kernel_rfl) hf with ⟨hcs, _⟩ | ⟨a, l, c, zs, hcs, hx1, hl, hm, hz, hx2, hcell, hwz⟩
  · simp only [List.cons.injEq, and_true] at hcs
    subst hcs
    exact ⟨[], BB.nil W, by simp⟩
  · simp only [List.cons.injEq, and_true] at hcs
    subst hcs
    have hzc : zs.length = c := by simpa using hz
    have hb : c * 1 ≤ reachBytes := by
      refine hw (c * 1) ?_
      rw [hx2]
      have e1 : (lits IntKind.u8 (List.take l zs) : List (DataW H)).length + (lits IntKind.u8 (List.drop l zs) : List (DataW H)).length = c := by simp [lits]; omega
      have e2 : Try.prog.bytesOf 5 = 1 := by kernel_rfl
      simp [DataW.weights, Try.underlying23, e1, e2]
    have hlen : (zs.take l).length = l := by rw [List.length_take]; omega
    have hrd := RdI.of_row (w := W) (k := .u8) (x := a) hl hzc hcell
    have hr2 : reachBytes ≤ 140737488351232 := by decide
    refine ⟨zs.take l, ⟨fun n hn => wfb (hwz n (List.mem_of_mem_take hn)), by omega, some a, c, by rw [hlen], by rw [hlen]; exact hrd, by simp, by omega, hm⟩, by omega⟩
theorem wf64 {n : Int} (h : (Lit.int .u64 n).wf = true) : 0 ≤ n ∧ n ≤ 18446744073709551615 := by
  simp [Lit.wf, IntKind.min, IntKind.max, IntKind.bits, IntKind.signed] at h
  omega
theorem openIns {H : Type} {enc : TypeId × Value → H} {W : World} {r : Reach} {b0 : Nat} {v : Value} {d : DataW H} {ps : List MemPlace} {ts : List TypeId} {ds : List (DataW H)} {j : Nat}
    (hsz : (DataW.weightsEach Try.prog ts ds).all (· ≤ reachBytes) = true) (ht : ts[j]? = some 34) (hd : ds[j]? = some d)
    (hv : Value.okWide Try.prog W r b0 34 v) (h : DataW.Trod enc Try.prog W 0 (fun _ => true) true 34 v d ps) :
    ∃ (o n a t : Nat) (u : Value) (bs : List Int), v = .agg #[.int .u64 o, .int .u64 n, .int .u64 a, .int .u64 t, u] ∧ BB W u bs ∧ o < 18446744073709551616 ∧ n < 18446744073709551616 ∧ a < 18446744073709551616 ∧ t < 18446744073709551616 := by
  obtain ⟨cs, rfl, hcs⟩ := okWide_struct Try.underlying34 hv
  have hct : Try.prog.cellsOf 34 = 5 := by kernel_rfl
  have cu : Try.prog.cellsOf 22 = 1 := by kernel_rfl
  have cx : Try.prog.cellsOf 23 = 1 := by kernel_rfl
  rw [hct] at hcs
  obtain ⟨fuel, hf⟩ := h
  obtain ⟨xs, n, _, hx, _, hlen, hg⟩ := DataW.trod_struct Try.underlying34 hf
  simp only [Prod.mk.injEq] at hx
  obtain ⟨l⟩ := cs
  match l, hcs with
  | [c0, c1, c2, c3, c4], _ =>
    obtain ⟨y0, hy0⟩ : ∃ y, xs[0]? = some y := ⟨_, List.getElem?_eq_getElem (by rw [hlen]; decide)⟩
    have g0 := (hg 0 _ rfl).trans hy0
    simp [Value.cells, cu] at g0
    obtain ⟨n0, e0, _, w0⟩ := DataW.trod_int Try.underlying22 g0
    simp only [List.cons.injEq, and_true] at e0
    subst e0
    have b0 := wf64 w0
    obtain ⟨m0, rfl⟩ := Int.eq_ofNat_of_zero_le b0.1
    obtain ⟨y1, hy1⟩ : ∃ y, xs[1]? = some y := ⟨_, List.getElem?_eq_getElem (by rw [hlen]; decide)⟩
    have g1 := (hg 1 _ rfl).trans hy1
    simp [Value.cells, cu] at g1
    obtain ⟨n1, e1, _, w1⟩ := DataW.trod_int Try.underlying22 g1
    simp only [List.cons.injEq, and_true] at e1
    subst e1
    have b1 := wf64 w1
    obtain ⟨m1, rfl⟩ := Int.eq_ofNat_of_zero_le b1.1
    obtain ⟨y2, hy2⟩ : ∃ y, xs[2]? = some y := ⟨_, List.getElem?_eq_getElem (by rw [hlen]; decide)⟩
    have g2 := (hg 2 _ rfl).trans hy2
    simp [Value.cells, cu] at g2
    obtain ⟨n2, e2, _, w2⟩ := DataW.trod_int Try.underlying22 g2
    simp only [List.cons.injEq, and_true] at e2
    subst e2
    have b2 := wf64 w2
    obtain ⟨m2, rfl⟩ := Int.eq_ofNat_of_zero_le b2.1
    obtain ⟨y3, hy3⟩ : ∃ y, xs[3]? = some y := ⟨_, List.getElem?_eq_getElem (by rw [hlen]; decide)⟩
    have g3 := (hg 3 _ rfl).trans hy3
    simp [Value.cells, cu] at g3
    obtain ⟨n3, e3, _, w3⟩ := DataW.trod_int Try.underlying22 g3
    simp only [List.cons.injEq, and_true] at e3
    subst e3
    have b3 := wf64 w3
    obtain ⟨m3, rfl⟩ := Int.eq_ofNat_of_zero_le b3.1
    obtain ⟨y4, hy4⟩ : ∃ y, xs[4]? = some y := ⟨_, List.getElem?_eq_getElem (by rw [hlen]; decide)⟩
    have g4 := (hg 4 _ rfl).trans hy4
    simp [Value.cells, cx] at g4
    obtain ⟨bs, hb, _⟩ := openBytes g4 (fun q hq => by
      refine of_decide_eq_true (List.all_eq_true.1 hsz q (DataW.weights_mem_each ht hd q ?_))
      rw [hx.1]
      match xs, hlen, hy4 with
      | [x0, x1, x2, x3, x4], _, hy4 =>
        simp only [List.getElem?_cons_succ, List.getElem?_cons_zero, Option.some.injEq] at hy4
        subst hy4
        simp only [DataW.weights, Try.underlying34, List.map_cons, List.map_nil, DataW.weightsEach, List.mem_append]
        exact .inr (.inr (.inr (.inr (.inl hq)))))
    exact ⟨m0, m1, m2, m3, c4, bs, rfl, hb, by omega, by omega, by omega, by omega⟩
end Go.Proofs.Ytclnohifgjjngaa
