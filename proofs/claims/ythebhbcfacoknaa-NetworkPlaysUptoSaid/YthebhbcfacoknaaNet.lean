/- What is proved: what a network holds in memory, and what its methods that only read do when they are called; conditions: the network is there as it is said to be. -/
import Derived.Test.YthebhbcfacoknaaCopy
import Derived.Test.YthebhbcfacoknaaOrderNew
import Derived.Maps.Own
import Derived.Maps.Views
import Derived.DeepKeys4
set_option linter.unusedSimpArgs false
set_option linter.unusedVariables false
namespace Go.Proofs.Ythebhbcfacoknaa
open Go.RowKit
open Go.Maps (Keyed)
set_option maxRecDepth 100000
set_option maxHeartbeats 1000000
theorem net_laid : laidOutB Try.prog = true := by kernel_rfl
theorem keyT_row : 61 < Try.prog.types.size := of_decide_eq_true (by kernel_rfl)
theorem keyT_law : WideMaps.KeyLaw Try.prog 61 := deep_law_laid net_laid (m := 2) (by omega) keyT_row (by kernel_rfl) (by kernel_rfl)
theorem keyT : Keyed Try.prog 61 := Keyed.of_law keyT_law
/-- A datagram of a side, as a key. -/
def keyV (sd : Int) (xs : List Int) : Value := .agg #[.int .u8 sd, .string (strOfNums xs)]
def okKey (sd : Int) (xs : List Int) : Prop := (0 ≤ sd ∧ sd ≤ 255) ∧ okB xs ∧ xs.length ≤ 140737488355328
theorem key_some {sd : Int} {xs : List Int} (h : okKey sd xs) : ∃ l, keyOf Try.prog 61 (keyV sd xs) = some l := by
  obtain ⟨h1, h2, h3⟩ := h
  have hw : (Lit.int .u8 sd).wf = true := by simp [Lit.wf, IntKind.min, IntKind.max, IntKind.bits, IntKind.signed]; omega
  have hs := strOfNums_max h3
  have k1 : Try.prog.cellsOf 61 = 2 := by kernel_rfl
  have k2 : Try.prog.cellsOf 29 = 1 := by kernel_rfl
  have k3 : Try.prog.cellsOf 9 = 1 := by kernel_rfl
  have k4 : Try.prog.keyType 61 = true := by kernel_rfl
  generalize hS : strOfNums xs = S at hs
  unfold keyV
  rw [hS]
  have k5 : (Value.agg #[Value.int IntKind.u8 sd, Value.string S]).formed Try.prog 61 = true := by simp [Value.formed, Try.underlying61, k1]
  obtain ⟨d, hd⟩ : ∃ d, Try.prog.types.size + 1 = d + 2 := ⟨Try.prog.types.size - 1, by have h := keyT_row; have h2 : (0 : Nat) ≤ 61 := Nat.zero_le _; generalize Try.prog.types.size = z at *; change 61 < z at h; omega⟩
  unfold keyOf
  rw [Try.underlying61]
  simp only [k4, k5, Bool.and_self, if_true]
  rw [hd]
  simp [Program.keyLits, Try.underlying61, Try.underlying29, Try.underlying9, k1, k2, k3, Value.cells, hw, hs]
/-- The key's reading. -/
noncomputable def keyL (sd : Int) (xs : List Int) : Lit := (keyOf Try.prog 61 (keyV sd xs)).getD (.bool false)
theorem keyL_of {sd : Int} {xs : List Int} (h : okKey sd xs) : keyOf Try.prog 61 (keyV sd xs) = some (keyL sd xs) := by
  obtain ⟨l, hl⟩ := key_some h
  unfold keyL
  rw [hl]
  rfl
theorem keyL_inj {sd sd' : Int} {xs xs' : List Int} (h : okKey sd xs) (h' : okKey sd' xs') (e : keyL sd xs = keyL sd' xs') : sd = sd' ∧ xs = xs' := by
  have := keyT.inj (keyL_of h) (by rw [e]; exact keyL_of h')
  unfold keyV at this
  simp only [Value.agg.injEq, Array.mk.injEq, List.cons.injEq, Value.int.injEq, true_and, Value.string.injEq, and_true] at this
  exact ⟨this.1, (str_inj h.2.1 h'.2.1).1 this.2⟩
theorem keyL_is {sd : Int} {xs : List Int} (h : okKey sd xs) : WideAt.IsKeyLit (keyL sd xs) := keyT.key (keyL_of h)
/-- Both sides' datagrams, and how many of each have arrived. -/
structure NS where
  l0 : List (List Int)
  l1 : List (List Int)
  n0 : Nat
  n1 : Nat
def NS.mem (s : NS) (sd : Int) (xs : List Int) : Bool := if sd = 1 then decide (xs ∈ s.l0) else if sd = 2 then decide (xs ∈ s.l1) else false
/-- The map of all that ever was. -/
def EV (w : World) (M n : Nat) (f : Int → List Int → Bool) : Prop :=
  ∃ D : DataW Unit, Maps.IsMap D ∧ w.ownsMap Try.prog 61 (plainElem Try.prog 4) M n D ∧ ∀ sd xs, okKey sd xs → D.atKey (keyL sd xs) (.lit (.bool false)) = .lit (.bool (f sd xs))
theorem EV.made (w : World) : EV (w.alloc (.map #[] 0)) w.heap.size 0 (fun _ _ => false) :=
  ⟨.map [], Maps.isMap_empty, World.ownsMap_made w _ _ _, fun sd xs _ => Maps.atKey_of_not_has (by simp [Maps.has_eq]) _⟩
theorem EV.lookup {w : World} {M n : Nat} {f : Int → List Int → Bool} (h : EV w M n f) {sd : Int} {xs : List Int} (hk : okKey sd xs) : (Instr.lookup 54 (.map (some M)) (keyV sd xs) false).run Try.prog w = .ok (.bool (f sd xs)) w := by
  obtain ⟨D, hD, ho, hf⟩ := h
  obtain ⟨v, ps, hr, hv⟩ := ho.lookup keyT Try.underlying54 (z := .bool false) (by kernel_rfl) (zd := .lit (.bool false)) (zp := []) (plainElem_bool Try.underlying4 false) (keyL_of hk)
  rw [hf sd xs hk] at hv
  rw [hr]
  congr 1
  unfold plainElem at hv
  rw [Try.underlying4] at hv
  cases v <;> simp at hv
  rw [hv.1]
theorem EV.update {w : World} {M n : Nat} {f : Int → List Int → Bool} (h : EV w M n f) (hn : n < maxLen) {sd : Int} {xs : List Int} (hk : okKey sd xs) :
    ∃ w', (Instr.mapUpdate 54 (.map (some M)) (keyV sd xs) (.bool true)).run Try.prog w = .ok () w' ∧ EV w' M (n + 1) (fun s x => if s = sd ∧ x = xs then true else f s x) ∧ w.grownBy w' (some M) := by
  obtain ⟨D, hD, ho, hf⟩ := h
  obtain ⟨w', h1, h2, h3⟩ := ho.update keyT Try.underlying54 hn (val := .bool true) (d := .lit (.bool true)) (ps := []) (keyL_of hk) (plainElem_bool Try.underlying4 true)
  refine ⟨w', h1, ⟨_, hD.put _ _, h2, fun s x hsx => ?_⟩, h3⟩
  by_cases he : s = sd ∧ x = xs
  · obtain ⟨rfl, rfl⟩ := he
    show _ = DataW.lit (Lit.bool (if s = s ∧ x = x then true else f s x))
    rw [if_pos ⟨rfl, rfl⟩, Maps.atKey_put_same hD (keyL_is hk)]
  · show _ = DataW.lit (Lit.bool (if s = sd ∧ x = xs then true else f s x))
    rw [if_neg he, Maps.atKey_put_other (fun e => he (keyL_inj hsx hk e)), hf s x hsx]
theorem EV.keep {w w1 : World} {M n : Nat} {f : Int → List Int → Bool} (h : EV w M n f) (hk : w1.heap[M]? = w.heap[M]?) : EV w1 M n f := by
  obtain ⟨D, hD, ⟨es, clock, hb, r⟩, hf⟩ := h
  exact ⟨D, hD, ⟨es, clock, hk.trans hb, r⟩, hf⟩
theorem EV.lt {w : World} {M n : Nat} {f : Int → List Int → Bool} (h : EV w M n f) : M < w.heap.size := by
  obtain ⟨D, hD, ho, hf⟩ := h
  exact ho.lt
theorem EV.to {w : World} {M n n' : Nat} {f f' : Int → List Int → Bool} (h : EV w M n f) (hn : n ≤ n') (hf : ∀ s x, f s x = f' s x) : EV w M n' f' := by
  obtain ⟨D, hD, ho, hg⟩ := h
  exact ⟨D, hD, ho.mono hn, fun s x k => by rw [hg s x k, hf]⟩
/-- Rows of bytes: the row itself in blocks that bear the mark tr, the bytes in such that bear ti. -/
def Rows_ (w : World) (lab : Nat → Nat) (tr ti : Nat) (v : Value) (L : List (List Int)) : Prop :=
  ∃ vs : List Value, vs.length = L.length ∧ w.ownsRow 0 25 1 v L.length vs ∧ (∀ b, v.ownBlock = some b → lab b = tr) ∧
    ∀ i, i < L.length → BB w (vs.getD i undef) (L.getD i []) ∧ ∀ b, 0 < (L.getD i []).length → (vs.getD i undef).ownBlock = some b → lab b = ti
theorem Rows_.keep {w w1 : World} {lab lab1 : Nat → Nat} {tr ti : Nat} {v : Value} {L : List (List Int)} (h : Rows_ w lab tr ti v L) (hk : ∀ g, g < w.heap.size → lab g = tr ∨ lab g = ti → w1.heap[g]? = w.heap[g]?) (hl : ∀ g, g < w.heap.size → lab1 g = lab g) : Rows_ w1 lab1 tr ti v L := by
  obtain ⟨vs, h1, h2, h3, h4⟩ := h
  refine ⟨vs, h1, owns_keep h2 fun b hb hlt => hk b hlt (.inl (h3 b hb)), fun b hb => (hl b ?_).trans (h3 b hb), fun i hi => ?_⟩
  · exact (World.ownsRow.lt h2 b hb).2
  · obtain ⟨h5, h6⟩ := h4 i hi
    exact ⟨h5.keep fun b h0 hb hlt => hk b hlt (.inr (h6 b h0 hb)), fun b h0 hb => (hl b (h5.lt h0 hb)).trans (h6 b h0 hb)⟩
theorem Rows_.nil (w : World) (lab : Nat → Nat) (tr ti : Nat) : Rows_ w lab tr ti (.slice none 0 0) [] := ⟨[], rfl, World.ownsRow_nil _ _ _ _, by simp [Value.ownBlock], by simp⟩
/-- A network that is there, at N. -/
def Net (w : World) (lab : Nat → Nat) (N : Nat) (s : NS) : Prop :=
  ∃ v0 v1 M, lab N = 1 ∧ lab M = 2 ∧ w.heap[N]? = some (.cells #[v0, v1, .int .i64 s.n0, .int .i64 s.n1, .map (some M)] 58 (0, 0)) ∧
    Rows_ w lab 3 5 v0 s.l0 ∧ Rows_ w lab 4 5 v1 s.l1 ∧ EV w M (s.l0.length + s.l1.length) s.mem ∧ s.n0 ≤ s.l0.length ∧ s.n1 ≤ s.l1.length
theorem Net.keep {w w1 : World} {lab lab1 : Nat → Nat} {N : Nat} {s : NS} (h : Net w lab N s) (hk : ∀ g, g < w.heap.size → 1 ≤ lab g → lab g ≤ 5 → w1.heap[g]? = w.heap[g]?) (hl : ∀ g, g < w.heap.size → lab1 g = lab g) : Net w1 lab1 N s := by
  obtain ⟨v0, v1, M, h1, h2, h3, h4, h5, h6, h7, h8⟩ := h
  have hN : N < w.heap.size := (Array.getElem?_eq_some_iff.1 h3).1
  have hM := h6.lt
  refine ⟨v0, v1, M, (hl N hN).trans h1, (hl M hM).trans h2, (hk N hN (by omega) (by omega)).trans h3, h4.keep (fun g hg hgl => hk g hg (by omega) (by omega)) hl, h5.keep (fun g hg hgl => hk g hg (by omega) (by omega)) hl, h6.keep (hk M hM (by omega) (by omega)), h7, h8⟩
theorem Net.lt {w : World} {lab : Nat → Nat} {N : Nat} {s : NS} (h : Net w lab N s) : N < w.heap.size := by
  obtain ⟨v0, v1, M, h1, h2, h3, _⟩ := h
  exact (Array.getElem?_eq_some_iff.1 h3).1
end Go.Proofs.Ythebhbcfacoknaa
