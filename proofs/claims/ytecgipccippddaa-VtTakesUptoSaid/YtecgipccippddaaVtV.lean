/- What is proved: an argument that is an action, by value, of bounded bulk, opened to what it reads as; the law VtTakes of such arguments; no condition beyond those typed. -/
import Derived.Test.YtecgipccippddaaVtO
import Derived.Test.YtecgipccippddaaVtT
import Derived.Deep.Slices
import Derived.SizedLaws
import Derived.ProofKit
import Derived.OpenShut
import Derived.Laws.IdiomArrays
set_option linter.unusedVariables false
set_option linter.unusedSimpArgs false
namespace Go.Proofs.Ytecgipccippddaa
open Go Go.ChangeShapes Go.WideShapes Go.Deep Go.RowKit
set_option maxRecDepth 100000
theorem wfb {n : Int} (h : (Lit.int .u8 n).wf = true) : 0 ≤ n ∧ n ≤ 255 := by
  simp [Lit.wf, IntKind.min, IntKind.max, IntKind.bits, IntKind.signed] at h
  omega
theorem bulkAll_mem {H : Type} {d : DataW H} : ∀ {l : List (DataW H)}, d ∈ l → Rows.uptoBulk d ≤ Rows.uptoBulkAll l
  | [], h => by cases h
  | c :: r, h => by
    simp only [Rows.uptoBulkAll]
    rcases List.mem_cons.1 h with rfl | h
    · omega
    · have := bulkAll_mem h
      omega
theorem field_u8 {H : Type} {enc : TypeId × Value → H} {W : World} {v : Value} {fuel : Nat} {x : DataW H × List MemPlace} (hf : DataW.trod enc Try.prog W 0 (fun _ => true) true fuel 28 [v] = some x) (hw : Rows.uptoBulk x.1 ≤ 1048576) :
    ∃ A c ys, v = .slice A ys.length c ∧ RdI W .u8 A ys.length ys ∧ (∀ z ∈ ys, (Lit.int .u8 z).wf = true) ∧ (A = none → c = 0) ∧ ys.length ≤ c ∧ c ≤ maxLen ∧ ys.length ≤ 1048576 := by
  rcases open_ints Try.underlying28 Try.underlying5 (by kernel_rfl) hf with ⟨hcs, _⟩ | ⟨a, l, c, zs, hcs, hx1, hl, hm, hz, hx2, hcell, hwz⟩
  · simp only [List.cons.injEq, and_true] at hcs
    subst hcs
    exact ⟨none, 0, [], rfl, RdI.nil, by simp, fun _ => rfl, Nat.le_refl _, by simp [maxLen], by simp⟩
  · simp only [List.cons.injEq, and_true] at hcs
    subst hcs
    have hzc : zs.length = c := by simpa using hz
    have hb : l ≤ 1048576 := by
      rw [hx2] at hw
      simp only [Rows.uptoBulk] at hw
      have h1 := bulkAll_len (lits IntKind.u8 (List.take l zs) : List (DataW H))
      have h2 : (lits IntKind.u8 (List.take l zs) : List (DataW H)).length = l := by simp [lits]; omega
      omega
    have hlen : (zs.take l).length = l := by rw [List.length_take]; omega
    have hrd := RdI.of_row (w := W) (k := .u8) (x := a) hl hzc hcell
    exact ⟨some a, c, zs.take l, by rw [hlen], by rw [hlen]; exact hrd, fun n hn => hwz n (List.mem_of_mem_take hn), fun h => (by cases h), by omega, hm, by omega⟩
theorem field_i64 {H : Type} {enc : TypeId × Value → H} {W : World} {v : Value} {fuel : Nat} {x : DataW H × List MemPlace} (hf : DataW.trod enc Try.prog W 0 (fun _ => true) true fuel 29 [v] = some x) (hw : Rows.uptoBulk x.1 ≤ 1048576) :
    ∃ A c ys, v = .slice A ys.length c ∧ RdI W .i64 A ys.length ys ∧ (∀ z ∈ ys, (Lit.int .i64 z).wf = true) ∧ (A = none → c = 0) ∧ ys.length ≤ c ∧ c ≤ maxLen ∧ ys.length ≤ 1048576 := by
  rcases open_ints Try.underlying29 Try.underlying3 (by kernel_rfl) hf with ⟨hcs, _⟩ | ⟨a, l, c, zs, hcs, hx1, hl, hm, hz, hx2, hcell, hwz⟩
  · simp only [List.cons.injEq, and_true] at hcs
    subst hcs
    exact ⟨none, 0, [], rfl, RdI.nil, by simp, fun _ => rfl, Nat.le_refl _, by simp [maxLen], by simp⟩
  · simp only [List.cons.injEq, and_true] at hcs
    subst hcs
    have hzc : zs.length = c := by simpa using hz
    have hb : l ≤ 1048576 := by
      rw [hx2] at hw
      simp only [Rows.uptoBulk] at hw
      have h1 := bulkAll_len (lits IntKind.i64 (List.take l zs) : List (DataW H))
      have h2 : (lits IntKind.i64 (List.take l zs) : List (DataW H)).length = l := by simp [lits]; omega
      omega
    have hlen : (zs.take l).length = l := by rw [List.length_take]; omega
    have hrd := RdI.of_row (w := W) (k := .i64) (x := a) hl hzc hcell
    exact ⟨some a, c, zs.take l, by rw [hlen], by rw [hlen]; exact hrd, fun n hn => hwz n (List.mem_of_mem_take hn), fun h => (by cases h), by omega, hm, by omega⟩
theorem field_i32 {H : Type} {enc : TypeId × Value → H} {W : World} {v : Value} {fuel : Nat} {x : DataW H × List MemPlace} (hf : DataW.trod enc Try.prog W 0 (fun _ => true) true fuel 22 [v] = some x) (hw : Rows.uptoBulk x.1 ≤ 1048576) :
    ∃ A c ys, v = .slice A ys.length c ∧ RdI W .i32 A ys.length ys ∧ (∀ z ∈ ys, (Lit.int .i32 z).wf = true) ∧ (A = none → c = 0) ∧ ys.length ≤ c ∧ c ≤ maxLen ∧ ys.length ≤ 1048576 := by
  rcases open_ints Try.underlying22 Try.underlying21 (by kernel_rfl) hf with ⟨hcs, _⟩ | ⟨a, l, c, zs, hcs, hx1, hl, hm, hz, hx2, hcell, hwz⟩
  · simp only [List.cons.injEq, and_true] at hcs
    subst hcs
    exact ⟨none, 0, [], rfl, RdI.nil, by simp, fun _ => rfl, Nat.le_refl _, by simp [maxLen], by simp⟩
  · simp only [List.cons.injEq, and_true] at hcs
    subst hcs
    have hzc : zs.length = c := by simpa using hz
    have hb : l ≤ 1048576 := by
      rw [hx2] at hw
      simp only [Rows.uptoBulk] at hw
      have h1 := bulkAll_len (lits IntKind.i32 (List.take l zs) : List (DataW H))
      have h2 : (lits IntKind.i32 (List.take l zs) : List (DataW H)).length = l := by simp [lits]; omega
      omega
    have hlen : (zs.take l).length = l := by rw [List.length_take]; omega
    have hrd := RdI.of_row (w := W) (k := .i32) (x := a) hl hzc hcell
    exact ⟨some a, c, zs.take l, by rw [hlen], by rw [hlen]; exact hrd, fun n hn => hwz n (List.mem_of_mem_take hn), fun h => (by cases h), by omega, hm, by omega⟩
theorem openAct {H : Type} {enc : TypeId × Value → H} {W : World} {r : Reach} {b0 : Nat} {v : Value} {d : DataW H} {ps : List MemPlace}
    (hw : Rows.uptoBulk d ≤ 1048576) (hv : Value.okWide Try.prog W r b0 31 v) (h : DataW.Trod enc Try.prog W 0 (fun _ => true) true 31 v d ps) :
    ∃ a : HA, v = .agg (arow a) ∧ AR W a ∧ (∃ A n c, a.vm = .slice A n c) ∧ (∃ A n c, a.vp = .slice A n c) ∧ ∃ A n c, a.vt = .slice A n c := by
  obtain ⟨cs, rfl, hcs⟩ := okWide_struct Try.underlying31 hv
  have hct : Try.prog.cellsOf 31 = 7 := by kernel_rfl
  have q0 : Try.prog.cellsOf 27 = 1 := by kernel_rfl
  have q1 : Try.prog.cellsOf 21 = 1 := by kernel_rfl
  have q2 : Try.prog.cellsOf 5 = 1 := by kernel_rfl
  have q4 : Try.prog.cellsOf 28 = 1 := by kernel_rfl
  have q5 : Try.prog.cellsOf 29 = 1 := by kernel_rfl
  have q6 : Try.prog.cellsOf 22 = 1 := by kernel_rfl
  rw [hct] at hcs
  obtain ⟨fuel, hf⟩ := h
  obtain ⟨xs, n, _, hx, _, hlen, hg⟩ := DataW.trod_struct Try.underlying31 hf
  simp only [Prod.mk.injEq] at hx
  have hbulk : ∀ (i : Nat) (y : DataW H × List MemPlace), xs[i]? = some y → Rows.uptoBulk y.1 ≤ 1048576 := fun i y hy => by
    have h1 := bulkAll_mem (l := xs.map (·.1)) (d := y.1) (List.mem_map_of_mem (List.mem_of_getElem? hy))
    rw [hx.1] at hw
    simp only [Rows.uptoBulk] at hw
    omega
  obtain ⟨l⟩ := cs
  match l, hcs with
  | [c0, c1, c2, c3, c4, c5, c6], _ =>
    obtain ⟨y0, hy0⟩ : ∃ y, xs[0]? = some y := ⟨_, List.getElem?_eq_getElem (by rw [hlen]; decide)⟩
    have g0 := (hg 0 _ rfl).trans hy0
    simp [Value.cells, q0] at g0
    obtain ⟨n0, e0, _, w0⟩ := DataW.trod_int Try.underlying27 g0
    simp only [List.cons.injEq, and_true] at e0
    subst e0
    obtain ⟨y1, hy1⟩ : ∃ y, xs[1]? = some y := ⟨_, List.getElem?_eq_getElem (by rw [hlen]; decide)⟩
    have g1 := (hg 1 _ rfl).trans hy1
    simp [Value.cells, q1] at g1
    obtain ⟨n1, e1, _, w1⟩ := DataW.trod_int Try.underlying21 g1
    simp only [List.cons.injEq, and_true] at e1
    subst e1
    obtain ⟨y2, hy2⟩ : ∃ y, xs[2]? = some y := ⟨_, List.getElem?_eq_getElem (by rw [hlen]; decide)⟩
    have g2 := (hg 2 _ rfl).trans hy2
    simp [Value.cells, q2] at g2
    obtain ⟨n2, e2, _, w2⟩ := DataW.trod_int Try.underlying5 g2
    simp only [List.cons.injEq, and_true] at e2
    subst e2
    obtain ⟨y3, hy3⟩ : ∃ y, xs[3]? = some y := ⟨_, List.getElem?_eq_getElem (by rw [hlen]; decide)⟩
    have g3 := (hg 3 _ rfl).trans hy3
    simp [Value.cells, q2] at g3
    obtain ⟨n3, e3, _, w3⟩ := DataW.trod_int Try.underlying5 g3
    simp only [List.cons.injEq, and_true] at e3
    subst e3
    obtain ⟨y4, hy4⟩ : ∃ y, xs[4]? = some y := ⟨_, List.getElem?_eq_getElem (by rw [hlen]; decide)⟩
    have g4 := (hg 4 _ rfl).trans hy4
    simp [Value.cells, q4] at g4
    obtain ⟨A4, k4, z4, rfl, r4, f4, nc4, lc4, cm4, b4⟩ := field_u8 g4 (hbulk _ _ hy4)
    obtain ⟨y5, hy5⟩ : ∃ y, xs[5]? = some y := ⟨_, List.getElem?_eq_getElem (by rw [hlen]; decide)⟩
    have g5 := (hg 5 _ rfl).trans hy5
    simp [Value.cells, q5] at g5
    obtain ⟨A5, k5, z5, rfl, r5, f5, nc5, lc5, cm5, b5⟩ := field_i64 g5 (hbulk _ _ hy5)
    obtain ⟨y6, hy6⟩ : ∃ y, xs[6]? = some y := ⟨_, List.getElem?_eq_getElem (by rw [hlen]; decide)⟩
    have g6 := (hg 6 _ rfl).trans hy6
    simp [Value.cells, q6] at g6
    obtain ⟨A6, k6, z6, rfl, r6, f6, nc6, lc6, cm6, b6⟩ := field_i32 g6 (hbulk _ _ hy6)
    exact ⟨⟨n0, n1, n2, n3, _, _, _, z4, z5, z6⟩, rfl, ⟨⟨fun x hx => wfb (f4 x hx), by dsimp only; omega, A4, k4, rfl, r4, nc4, lc4, cm4⟩, ⟨by dsimp only; omega, A5, k5, rfl, r5⟩, ⟨by dsimp only; omega, A6, k6, rfl, r6⟩⟩, ⟨_, _, _, rfl⟩, ⟨_, _, _, rfl⟩, ⟨_, _, _, rfl⟩⟩
theorem takes_law2 (v : Value) (l : List Int) (x y : HA) (w : World) (h : RV w v l) (hl : l.length ≤ 1048576) (hx : AR w x) (hy : AR w y) (fx : (∃ A n c, x.vm = .slice A n c) ∧ (∃ A n c, x.vp = .slice A n c) ∧ ∃ A n c, x.vt = .slice A n c) (fy : (∃ A n c, y.vm = .slice A n c) ∧ (∃ A n c, y.vp = .slice A n c) ∧ ∃ A n c, y.vt = .slice A n c) :
    Calls Try.prog 7 #[v, .agg (arow x), .agg (arow y)] w fun e w' => e = .returned (.bool true) ∧ Below w.heap.size w w' := by
  obtain ⟨⟨A, c, rfl, hr⟩, hc⟩ := h
  exact takes_law A _ c l x y w hr hx hy hl (fun z hz => (hc z hz).2) fx fy
end Go.Proofs.Ytecgipccippddaa
