/- What is proved: actions in memory, what a taken character tells; what escaped of package vt answers when it is called; conditions: those typed. -/
import Derived.Test.YtecgipccippddaaVt4
set_option linter.unusedSimpArgs false
set_option linter.unusedVariables false
namespace Go.Proofs.Ytecgipccippddaa
open Go.RowKit
set_option maxRecDepth 100000
set_option maxHeartbeats 8000000
/-- Whole numbers that are read, in a block of their own. -/
def RdO (k : IntKind) (e : TypeId) (w : World) (base : Nat) (v : Value) (xs : List Int) : Prop :=
  ∃ A c, v = .slice A xs.length c ∧ RdI w k A xs.length xs ∧ (A = none → c = 0) ∧ xs.length ≤ c ∧ c ≤ maxLen ∧ ∀ b, v.ownBlock = some b → base ≤ b ∧ ∃ cur, w.heap[b]? = some (.cells cur e (0, 0))
section
variable {k : IntKind} {e e2 : TypeId} {w w1 : World} {base : Nat} {v v2 : Value} {xs : List Int}
theorem OwK.rdo (h : OwK k e w base v xs) : RdO k e w base v xs := by
  obtain ⟨A, c, h1, h2, h3, h4, h5⟩ := RdI.of_ints rfl h
  exact ⟨A, c, h1, h2, h3, h4, h5, fun b hb => h.blk hb⟩
theorem RdO.nil (k : IntKind) (e : TypeId) (w : World) (base : Nat) : RdO k e w base (.slice none 0 0) [] := (OwK.nil k e w base).rdo
theorem RdO.lt (h : RdO k e w base v xs) {b : Nat} (hv : v.ownBlock = some b) : b < w.heap.size := by
  obtain ⟨_, _, _, _, _, _, _, h⟩ := h
  obtain ⟨_, cur, hh⟩ := h b hv
  exact lt_of_heap hh
theorem RdO.blk (h : RdO k e w base v xs) {b : Nat} (hv : v.ownBlock = some b) : base ≤ b ∧ ∃ cur, w.heap[b]? = some (.cells cur e (0, 0)) := by
  obtain ⟨_, _, _, _, _, _, _, h⟩ := h
  exact h b hv
theorem RdO.keep (h : RdO k e w base v xs) (hk : ∀ b, v.ownBlock = some b → b < w.heap.size → w1.heap[b]? = w.heap[b]?) : RdO k e w1 base v xs := by
  have hlt := fun b (hv : v.ownBlock = some b) => h.lt hv
  obtain ⟨A, c, h1, h2, h3, h4, h5, h6⟩ := h
  refine ⟨A, c, h1, ⟨h2.1, fun hn => ?_⟩, h3, h4, h5, fun b hb => ⟨(h6 b hb).1, ?_⟩⟩
  · obtain ⟨b, off, hA, hc⟩ := h2.2 hn
    have hb : v.ownBlock = some b := by rw [h1, hA]; rfl
    exact ⟨b, off, hA, fun j hj => (cell_same (hk b hb (hlt b hb))).trans (hc j hj)⟩
  · obtain ⟨_, cur, hh⟩ := h6 b hb
    exact ⟨cur, (hk b hb (hlt b hb)).trans hh⟩
theorem RdO.below (h : RdO k e w base v xs) (hb : Below w.heap.size w w1) : RdO k e w1 base v xs := h.keep fun b _ hlt => hb.block b hlt
theorem RdO.slice (h : RdO k e w base v xs) : ∃ A c, v = .slice A xs.length c := by
  obtain ⟨A, c, h1, _⟩ := h
  exact ⟨A, c, h1⟩
/-- 'xs[:len(xs):len(xs)]'. -/
theorem OwK.full (h : OwK k e w base v xs) : ∃ A c, v = .slice A xs.length c ∧ (A = none ∨ ∃ g, A = some ⟨g, 0, none⟩) ∧ xs.length ≤ c ∧ RdO k e w base (.slice A xs.length xs.length) xs := by
  have hr := h.rdo
  obtain ⟨hl, ⟨h1, h2⟩ | ⟨g, cap, cur, h1, hb, hh, h4, h5, h6, h7⟩⟩ := h
  · refine ⟨none, 0, by rw [h1, h2], .inl rfl, by omega, none, xs.length, rfl, ⟨rfl, fun h => by omega⟩, fun _ => h2, Nat.le_refl _, by unfold maxLen; omega, fun b hb => by cases hb⟩
  · obtain ⟨A, c, g1, g2, g3, g4, g5, g6⟩ := hr
    rw [h1] at g1
    simp only [Value.slice.injEq, true_and] at g1
    obtain ⟨rfl, rfl⟩ := g1
    refine ⟨_, cap, h1, .inr ⟨g, rfl⟩, h4, _, xs.length, rfl, g2, (fun h => by cases h), Nat.le_refl _, by omega, fun b hb2 => g6 b (by rw [h1]; exact hb2)⟩
end
theorem run_full (k : TypeId) (e : TypeId) (hu : Try.prog.underlying k = some (.slice e)) (hi : ∃ i, Try.prog.info? e = some i ∧ i.size = 1) (A : Option Addr) (hA : A = none ∨ ∃ g, A = some ⟨g, 0, none⟩) (n cap : Nat) (hn : n ≤ cap) (W : World) : (Instr.sliceAt k (.slice A n cap) none (some (.int .i64 n)) (some (.int .i64 n))).run Try.prog W = .ok (.slice A n n) W := by
  obtain ⟨i, hi, hz⟩ := hi
  have h1 : (0 : Int) ≤ n := by omega
  have h2 : (n : Int) ≤ cap := by omega
  rcases hA with rfl | ⟨g, rfl⟩
  · simp [Instr.sliceAt, Instr.slice, run_underlying hu, Instr.sliceBounds, run_sliceBound, sizeOf, typeInfo, hi, h1, h2, hz]
  · simp [Instr.sliceAt, Instr.slice, run_underlying hu, Instr.sliceBounds, run_sliceBound, sizeOf, typeInfo, hi, h1, h2, hz, Addr.add]
theorem run_fullI (A : Option Addr) (hA : A = none ∨ ∃ g, A = some ⟨g, 0, none⟩) (n cap : Nat) (hn : n ≤ cap) (W : World) : (Instr.sliceAt 29 (.slice A n cap) none (some (.int .i64 n)) (some (.int .i64 n))).run Try.prog W = .ok (.slice A n n) W :=
  run_full 29 3 Try.underlying29 (by
    obtain ⟨i, h, h2⟩ := Option.map_eq_some_iff.1 (show (Try.prog.info? 3).map (fun i => i.size) = some 1 by kernel_rfl)
    exact ⟨i, h, h2⟩) A hA n cap hn W
theorem run_fullB (A : Option Addr) (hA : A = none ∨ ∃ g, A = some ⟨g, 0, none⟩) (n cap : Nat) (hn : n ≤ cap) (W : World) : (Instr.sliceAt 28 (.slice A n cap) none (some (.int .i64 n)) (some (.int .i64 n))).run Try.prog W = .ok (.slice A n n) W :=
  run_full 28 5 Try.underlying28 (by
    obtain ⟨i, h, h2⟩ := Option.map_eq_some_iff.1 (show (Try.prog.info? 5).map (fun i => i.size) = some 1 by kernel_rfl)
    exact ⟨i, h, h2⟩) A hA n cap hn W
/-- An action, with its slices. -/
structure HA where
  k : Int
  ch : Int
  pv : Int
  fi : Int
  vm : Value
  vp : Value
  vt : Value
  mid : List Int
  ps : List Int
  tx : List Int
def HA.ac (a : HA) : Ac := ⟨a.k, a.ch, a.pv, a.fi, a.mid, a.ps, a.tx⟩
def arow (a : HA) : Array Value := #[.int .u8 a.k, .int .i32 a.ch, .int .u8 a.pv, .int .u8 a.fi, a.vm, a.vp, a.vt]
/-- An action's blocks. -/
def HB (a : HA) (b : Nat) : Prop := a.vm.ownBlock = some b ∨ a.vp.ownBlock = some b ∨ a.vt.ownBlock = some b
structure AW (w : World) (base : Nat) (a : HA) : Prop where
  m : RdO .u8 5 w base a.vm a.mid
  p : RdO .i64 3 w base a.vp a.ps
  t : RdO .i32 21 w base a.vt a.tx
theorem AW.keep {w w1 : World} {base : Nat} {a : HA} (h : AW w base a) (hk : ∀ b, HB a b → b < w.heap.size → w1.heap[b]? = w.heap[b]?) : AW w1 base a :=
  ⟨h.m.keep fun b h1 h2 => hk b (.inl h1) h2, h.p.keep fun b h1 h2 => hk b (.inr (.inl h1)) h2, h.t.keep fun b h1 h2 => hk b (.inr (.inr h1)) h2⟩
theorem AW.below {w w1 : World} {base : Nat} {a : HA} (h : AW w base a) (hb : Below w.heap.size w w1) : AW w1 base a := h.keep fun b _ hlt => hb.block b hlt
theorem AW.lt {w : World} {base : Nat} {a : HA} (h : AW w base a) {b : Nat} (hb : HB a b) : b < w.heap.size := by
  rcases hb with hb | hb | hb
  · exact h.m.lt hb
  · exact h.p.lt hb
  · exact h.t.lt hb
theorem AW.ge {w : World} {base : Nat} {a : HA} (h : AW w base a) {b : Nat} (hb : HB a b) : base ≤ b := by
  rcases hb with hb | hb | hb
  · exact (h.m.blk hb).1
  · exact (h.p.blk hb).1
  · exact (h.t.blk hb).1
theorem AW.one {w : World} {base : Nat} {a : HA} (h : AW w base a) : (arow a).all (·.oneCell') = true := by
  obtain ⟨_, _, h1⟩ := h.m.slice
  obtain ⟨_, _, h2⟩ := h.p.slice
  obtain ⟨_, _, h3⟩ := h.t.slice
  simp [arow, h1, h2, h3, Value.oneCell']
def flatA (L : List HA) : List Value := L.flatMap fun a => (arow a).toList
/-- Actions of the call's own. -/
structure OwA (w : World) (base : Nat) (v : Value) (L : List HA) : Prop where
  row : w.ownsRow base 31 7 v L.length (flatA L)
  acts : ∀ a ∈ L, AW w base a
theorem OwA.nil (w : World) (base : Nat) : OwA w base (.slice none 0 0) [] := ⟨World.ownsRow_nil _ _ _ _, by simp⟩
theorem flatA_app (L M : List HA) : flatA (L ++ M) = flatA L ++ flatA M := by simp [flatA]
theorem flatA_len (L : List HA) : (flatA L).length = L.length * 7 := by
  induction L with
  | nil => rfl
  | cons p L ih =>
    have e : flatA (p :: L) = (arow p).toList ++ flatA L := rfl
    rw [e, List.length_append, ih, List.length_cons]
    simp [arow]
    omega
theorem row_blk {w : World} {base size n : Nat} {e : TypeId} {v : Value} {xs : List Value} (h : w.ownsRow base e size v n xs) {b : Nat} (hv : v.ownBlock = some b) : base ≤ b ∧ ∃ cur, w.heap[b]? = some (.cells cur e (0, 0)) := by
  obtain ⟨_, ⟨h1, _⟩ | ⟨g, cap, cur, h1, hb, hh, _⟩⟩ := h
  · rw [h1] at hv; cases hv
  · rw [h1] at hv
    obtain rfl : g = b := by simpa [Value.ownBlock] using hv
    exact ⟨hb, cur, hh⟩
/-- One action in its own new block. -/
theorem OwA.one {w : World} {base X : Nat} {a : HA} (hb : base ≤ X) (hX : w.heap[X]? = some (.cells (arow a) 31 (0, 0))) (ha : AW w base a) : OwA w base (.slice (some ⟨X, 0, none⟩) 1 1) [a] :=
  ⟨⟨rfl, .inr ⟨X, 1, arow a, rfl, hb, hX, Nat.le_refl _, by simp [maxLen], rfl, rfl⟩⟩, fun x hx => by obtain rfl := List.mem_singleton.1 hx; exact ha⟩
/-- What taking a character tells. -/
def TakeOk (w w' : World) (P base : Nat) (r : VS × List Ac) (vm vp vt v : Value) : Prop :=
  ∃ vm' vp' vt' L, PW w' P base r.1 vm' vp' vt' ∧ Inv w (PB P vm vp vt) gh0 w' ∧ (∀ g, PB P vm' vp' vt' g → PB P vm vp vt g ∨ w.heap.size ≤ g) ∧ OwA w' base v L ∧ L.map HA.ac = r.2 ∧ L.length ≤ 1 ∧
    (∀ b, v.ownBlock = some b → w.heap.size ≤ b) ∧ ∀ a ∈ L, ∀ b, HB a b → (PB P vm vp vt b ∨ w.heap.size ≤ b) ∧ ¬ PB P vm' vp' vt' b
theorem TakeOk.no {w w' : World} {P base : Nat} {s' : VS} {vm vp vt : Value} (h : PStep w w' P base s' vm vp vt) : TakeOk w w' P base (s', []) vm vp vt (.slice none 0 0) := by
  obtain ⟨vm', vp', vt', h1, h2, h3⟩ := h
  exact ⟨vm', vp', vt', [], h1, h2, h3, OwA.nil _ _, rfl, by simp, fun b hb => (by cases hb), by simp⟩
theorem pb_nil {P g : Nat} (h : PB P (.slice none 0 0) (.slice none 0 0) (.slice none 0 0) g) : g = P := by
  rcases h with h | h | h | h
  · exact h
  · cases h
  · cases h
  · cases h
theorem TakeOk.ends {w w' : World} {P base : Nat} {s : VS} {a : HA} {vm vp vt v : Value} (h : PW w P base s vm vp vt) (he : EndOk w w' P base s.bad (arow a) v) (ha : AW w base a) (hb : ∀ b, HB a b → PB P vm vp vt b ∧ b ≠ P) (hbase : base ≤ w.heap.size) :
    TakeOk w w' P base (freshS 1, endR s a.ac) vm vp vt v := by
  have hI : Inv w (PB P vm vp vt) gh0 w' := he.inv.wide (fun g hg => .inl hg)
  have hn : ∀ g, PB P (.slice none 0 0) (.slice none 0 0) (.slice none 0 0) g → PB P vm vp vt g ∨ w.heap.size ≤ g := fun g hg => .inl (.inl (pb_nil hg))
  rcases he.res with ⟨h1, h2⟩ | ⟨h1, X, h2, h3, h4⟩
  · refine ⟨_, _, _, [], he.pw, hI, hn, by rw [h2]; exact OwA.nil _ _, by simp [endR, h1], by simp, fun b hb => (by rw [h2] at hb; cases hb), by simp⟩
  · refine ⟨_, _, _, [a], he.pw, hI, hn, ?_, by simp [endR, h1], by simp, fun b hb => ?_, fun x hx b hb2 => ?_⟩
    · rw [h2]
      exact OwA.one (by omega) h4 (ha.keep fun b h5 h6 => he.inv.far b h6 (hb b h5).2)
    · rw [h2] at hb
      obtain rfl : X = b := by simpa [Value.ownBlock] using hb
      exact h3
    · obtain rfl := List.mem_singleton.1 hx
      exact ⟨.inl (hb b hb2).1, fun h => (hb b hb2).2 (pb_nil h)⟩
theorem TakeOk.plain {w : World} {P base : Nat} {s : VS} {a : HA} {vm vp vt : Value} (h : PW w P base s vm vp vt) (ha : a.vm = .slice none 0 0 ∧ a.vp = .slice none 0 0 ∧ a.vt = .slice none 0 0 ∧ a.mid = [] ∧ a.ps = [] ∧ a.tx = []) (hbase : base ≤ w.heap.size) :
    TakeOk w (w.alloc (.cells (arow a) 31)) P base (s, [a.ac]) vm vp vt (.slice (some ⟨w.heap.size, 0, none⟩) 1 1) := by
  have hb : Below w.heap.size w (w.alloc (.cells (arow a) 31)) := by (repeat' (first | (with_reducible exact Below.refl _ _) | (with_reducible assumption) | (with_reducible refine Below.alloc ?_ ?_ _) | (with_reducible refine below_setRow ?_ ?_ _) | (with_reducible refine bl_drew ?_) | (with_reducible refine bl_drewN ?_ _) | (with_reducible refine Below.setCell ?_ ?_ _) | (with_reducible refine bl_then ?_ ?_ hb) | (with_reducible refine bl_then ?_ ?_ hb1) | (with_reducible refine bl_then ?_ ?_ hb2) | (with_reducible refine bl_then ?_ ?_ hb3) | (with_reducible refine bl_then ?_ ?_ hb4) | (with_reducible refine bl_then ?_ ?_ hb5) | (with_reducible refine bl_then ?_ ?_ hb6) | (with_reducible refine bl_then ?_ ?_ hb7) | (with_reducible refine bl_then ?_ ?_ hb8) | (with_reducible exact Nat.le_refl _) | omega | (simp only [World.size_alloc, World.size_setCell, World.size_drew, size_setRow]; omega) | (simp; omega) | (simp; done)))
  obtain ⟨h1, h2, h3, h4, h5, h6⟩ := ha
  have hno : ∀ b, ¬ HB a b := fun b hb => by
    rcases hb with hb | hb | hb
    · rw [h1] at hb; cases hb
    · rw [h2] at hb; cases hb
    · rw [h3] at hb; cases hb
  refine ⟨vm, vp, vt, [a], h.below hb, Inv.ofBelow hb, fun g hg => .inl hg, OwA.one hbase (heap_alloc_last _ _) ⟨?_, ?_, ?_⟩, rfl, by simp, fun b hb => ?_, fun x hx b hb2 => ?_⟩
  · rw [h1, h4]; exact RdO.nil _ _ _ _
  · rw [h2, h5]; exact RdO.nil _ _ _ _
  · rw [h3, h6]; exact RdO.nil _ _ _ _
  · obtain rfl : w.heap.size = b := by simpa [Value.ownBlock] using hb
    exact Nat.le_refl _
  · obtain rfl := List.mem_singleton.1 hx
    exact (hno b hb2).elim
theorem PStep.to {w w' : World} {P base n : Nat} {vm vp vt : Value} (hp : PW w' P base (freshS n) (.slice none 0 0) (.slice none 0 0) (.slice none 0 0)) (hI : Inv w (fun g => g = P) gh0 w') : PStep w w' P base (freshS n) vm vp vt :=
  ⟨_, _, _, hp, hI.wide (fun g hg => .inl hg), fun g hg => .inl (.inl (pb_nil hg))⟩
/-- What holds ahead also holds of the world in which something was made meanwhile. -/
theorem TakeOk.later {w w1 w' : World} {P base : Nat} {r : VS × List Ac} {vm vp vt v : Value} (hb : Below w.heap.size w w1) (k : TakeOk w1 w' P base r vm vp vt v) : TakeOk w w' P base r vm vp vt v := by
  obtain ⟨vm', vp', vt', L, h1, h2, h3, h4, h5, h6, h7, h8⟩ := k
  have hs := hb.size
  exact ⟨vm', vp', vt', L, h1, (Inv.ofBelow hb).then h2 (fun g hg _ => hg), fun g hg => (h3 g hg).imp (fun h => h) (fun h => by omega), h4, h5, h6, fun b hb => by have := h7 b hb; omega, fun a ha b hb => ⟨((h8 a ha b hb).1).imp (fun h => h) (fun h => by omega), (h8 a ha b hb).2⟩⟩
end Go.Proofs.Ytecgipccippddaa
