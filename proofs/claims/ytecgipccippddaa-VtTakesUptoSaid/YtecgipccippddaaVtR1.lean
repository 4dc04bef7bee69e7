/- What is proved: the reference's parser in memory: how it stays and turns, what it tells; conditions: those typed. -/
import Derived.Test.YtecgipccippddaaVtR0
set_option linter.unusedSimpArgs false
set_option linter.unusedVariables false
namespace Go.Proofs.Ytecgipccippddaa
open Go.RowKit
set_option maxRecDepth 100000
set_option maxHeartbeats 8000000
def qcells (s : RS) (vm vp vt : Value) : Array Value := #[.int .i64 s.st, .int .u8 s.pv, vm, vp, .int .i64 s.many, vt, .bool s.no]
/-- What a parser holds in memory. -/
structure QW (w : World) (P base : Nat) (s : RS) (vm vp vt : Value) : Prop where
  hP : w.heap[P]? = some (.cells (qcells s vm vp vt) 38 (0, 0))
  m : OwK .u8 5 w base vm s.mid
  p : OwK .i64 3 w base vp s.ps
  t : OwK .i32 21 w base vt s.tx
section
variable {w w1 : World} {P base : Nat} {s s' : RS} {vm vp vt : Value}
theorem QW.below (h : QW w P base s vm vp vt) (hb : Below w.heap.size w w1) : QW w1 P base s vm vp vt :=
  ⟨(hb.block P (lt_of_heap h.hP)).trans h.hP, h.m.below hb, h.p.below hb, h.t.below hb⟩
theorem QW.far (h : QW w P base s vm vp vt) {S : Nat → Prop} {γ : Gh} (hI : Inv w S γ w1) (hS : ∀ g, PB P vm vp vt g → ¬ S g) : QW w1 P base s vm vp vt :=
  ⟨(hI.far P (lt_of_heap h.hP) (hS P (.inl rfl))).trans h.hP, h.m.keep fun b h1 h2 => hI.far b h2 (hS b (.inr (.inl h1))), h.p.keep fun b h1 h2 => hI.far b h2 (hS b (.inr (.inr (.inl h1)))), h.t.keep fun b h1 h2 => hI.far b h2 (hS b (.inr (.inr (.inr h1))))⟩
theorem QW.cell (h : QW w P base s vm vp vt) {i : Nat} {u : Value} (hu : (qcells s vm vp vt)[i]? = some u) : w.cell? ⟨P, i, none⟩ = some u := (cell_of_row _ _ _ _ _ _ h.hP).trans hu
theorem QW.notP (h : QW w P base s vm vp vt) : vm.ownBlock ≠ some P ∧ vp.ownBlock ≠ some P ∧ vt.ownBlock ≠ some P :=
  ⟨fun e => h.m.ne e h.hP (by decide), fun e => h.p.ne e h.hP (by decide), fun e => h.t.ne e h.hP (by decide)⟩
theorem QW.lt (h : QW w P base s vm vp vt) {g : Nat} (hg : PB P vm vp vt g) : g < w.heap.size := by
  rcases hg with rfl | hg | hg | hg
  · exact lt_of_heap h.hP
  · exact h.m.lt hg
  · exact h.p.lt hg
  · exact h.t.lt hg
/-- One cell of the parser's block is written; the slices stand. -/
theorem QW.set (h : QW w P base s vm vp vt) {i : Nat} {u : Value} (hr : (qcells s vm vp vt).setIfInBounds i u = qcells s' vm vp vt) (h1 : s'.mid = s.mid) (h2 : s'.ps = s.ps) (h3 : s'.tx = s.tx) : QW (w.setCell ⟨P, i, none⟩ u) P base s' vm vp vt := by
  have hk : ∀ b, b ≠ P → (w.setCell ⟨P, i, none⟩ u).heap[b]? = w.heap[b]? := fun b hb => heap_setCell_other _ ⟨_, _, _⟩ _ _ (by simpa using hb)
  obtain ⟨n1, n2, n3⟩ := h.notP
  refine ⟨?_, ?_, ?_, ?_⟩
  · rw [← hr]; exact heap_setCell_same _ _ _ _ _ _ h.hP
  · rw [h1]; exact h.m.keep fun b hb _ => hk b (fun e => n1 (by rw [hb, e]))
  · rw [h2]; exact h.p.keep fun b hb _ => hk b (fun e => n2 (by rw [hb, e]))
  · rw [h3]; exact h.t.keep fun b hb _ => hk b (fun e => n3 (by rw [hb, e]))
end
/-- A parser has turned, and only what is its own. -/
def QStep (w w' : World) (P base : Nat) (s' : RS) (vm vp vt : Value) : Prop :=
  ∃ vm' vp' vt', QW w' P base s' vm' vp' vt' ∧ Inv w (PB P vm vp vt) gh0 w' ∧ ∀ g, PB P vm' vp' vt' g → PB P vm vp vt g ∨ w.heap.size ≤ g
theorem QStep.set {w : World} {P base : Nat} {s s' : RS} {vm vp vt : Value} (h : QW w P base s vm vp vt) {i : Nat} {u : Value} (hr : (qcells s vm vp vt).setIfInBounds i u = qcells s' vm vp vt) (h1 : s'.mid = s.mid) (h2 : s'.ps = s.ps) (h3 : s'.tx = s.tx) : QStep w (w.setCell ⟨P, i, none⟩ u) P base s' vm vp vt :=
  ⟨vm, vp, vt, h.set hr h1 h2 h3, Inv.ofSet (.inl rfl), fun g hg => .inl hg⟩
theorem QStep.refl {w : World} {P base : Nat} {s : RS} {vm vp vt : Value} (h : QW w P base s vm vp vt) : QStep w w P base s vm vp vt := ⟨vm, vp, vt, h, Inv.ofBelow (Below.refl _ _), fun g hg => .inl hg⟩
theorem QStep.then {w w1 w2 : World} {P base : Nat} {s2 : RS} {vm vp vt vm1 vp1 vt1 : Value} (hI : Inv w (PB P vm vp vt) gh0 w1) (hn : ∀ g, PB P vm1 vp1 vt1 g → PB P vm vp vt g ∨ w.heap.size ≤ g) (k : QStep w1 w2 P base s2 vm1 vp1 vt1) : QStep w w2 P base s2 vm vp vt := by
  obtain ⟨vm2, vp2, vt2, h1, h2, h3⟩ := k
  refine ⟨vm2, vp2, vt2, h1, hI.then h2 (fun g hg hl => (hn g hg).elim (fun h => h) (fun h => by omega)), fun g hg => ?_⟩
  rcases h3 g hg with h | h
  · exact hn g h
  · exact .inr (Nat.le_trans hI.size h)
theorem QStep.grow_m {w wa w' : World} {P base : Nat} {s : RS} {vm vp vt v' : Value} {y : Int} (h : QW w P base s vm vp vt) (hb : Below w.heap.size w wa) (k1 : OwK .u8 5 w' base v' (s.mid ++ [y])) (k2 : wa.grownBy w' vm.ownBlock) (k4 : ∀ b, v'.ownBlock = some b → vm.ownBlock = some b ∨ w.heap.size ≤ b) :
    w'.heap[P]? = some (.cells (qcells s vm vp vt) 38 (0, 0)) ∧ QW (w'.setCell ⟨P, 2, none⟩ v') P base { s with mid := s.mid ++ [y] } v' vp vt ∧ Inv w (PB P vm vp vt) gh0 (w'.setCell ⟨P, 2, none⟩ v') ∧ ∀ g, PB P v' vp vt g → PB P vm vp vt g ∨ w.heap.size ≤ g := by
  have hwa := h.below hb
  have n0 := hwa.notP
  have hP' : w'.heap[P]? = some (.cells (qcells s vm vp vt) 38 (0, 0)) := (k2.block P (lt_of_heap hwa.hP) (fun e => n0.1 e.symm)).trans hwa.hP
  have a1 : OwK .i64 3 w' base vp s.ps := hwa.p.keep fun b hb2 hl => k2.block b hl (fun e => by
    obtain ⟨_, cur, hh⟩ := hwa.p.blk hb2
    exact hwa.m.ne e.symm hh (by decide))
  have a2 : OwK .i32 21 w' base vt s.tx := hwa.t.keep fun b hb2 hl => k2.block b hl (fun e => by
    obtain ⟨_, cur, hh⟩ := hwa.t.blk hb2
    exact hwa.m.ne e.symm hh (by decide))
  have hk : ∀ b, b ≠ P → (w'.setCell ⟨P, 2, none⟩ v').heap[b]? = w'.heap[b]? := fun b hb => heap_setCell_other _ ⟨_, _, _⟩ _ _ (by simpa using hb)
  have ko : OwK .u8 5 (w'.setCell ⟨P, 2, none⟩ v') base v' (s.mid ++ [y]) := k1.keep fun b hb _ => hk b (fun e => k1.ne (by rw [hb, e]) hP' (by decide))
  have o1 : OwK .i64 3 (w'.setCell ⟨P, 2, none⟩ v') base vp s.ps := a1.keep fun b hb _ => hk b (fun e => a1.ne (by rw [hb, e]) hP' (by decide))
  have o2 : OwK .i32 21 (w'.setCell ⟨P, 2, none⟩ v') base vt s.tx := a2.keep fun b hb _ => hk b (fun e => a2.ne (by rw [hb, e]) hP' (by decide))
  refine ⟨hP', ⟨heap_setCell_same _ _ _ _ _ _ hP', ko, o1, o2⟩, ?_, ?_⟩
  · exact ((Inv.ofBelow hb).then (Inv.ofGrown k2 (S := fun g => vm.ownBlock = some g) (fun g e => e)) (fun g hg _ => .inr (.inl hg))).then (Inv.ofSet (S := fun g => g = P) rfl) (fun g hg _ => .inl hg)
  · intro g hg
    rcases hg with hg | hg | hg | hg
    · exact .inl (.inl hg)
    · exact (k4 g hg).elim (fun hg => .inl (.inr (.inl hg))) .inr
    · exact .inl (.inr (.inr (.inl hg)))
    · exact .inl (.inr (.inr (.inr hg)))
theorem QStep.grow_p {w wa w' : World} {P base : Nat} {s : RS} {vm vp vt v' : Value} {y : Int} (h : QW w P base s vm vp vt) (hb : Below w.heap.size w wa) (k1 : OwK .i64 3 w' base v' (s.ps ++ [y])) (k2 : wa.grownBy w' vp.ownBlock) (k4 : ∀ b, v'.ownBlock = some b → vp.ownBlock = some b ∨ w.heap.size ≤ b) :
    w'.heap[P]? = some (.cells (qcells s vm vp vt) 38 (0, 0)) ∧ QW (w'.setCell ⟨P, 3, none⟩ v') P base { s with ps := s.ps ++ [y] } vm v' vt ∧ Inv w (PB P vm vp vt) gh0 (w'.setCell ⟨P, 3, none⟩ v') ∧ ∀ g, PB P vm v' vt g → PB P vm vp vt g ∨ w.heap.size ≤ g := by
  have hwa := h.below hb
  have n0 := hwa.notP
  have hP' : w'.heap[P]? = some (.cells (qcells s vm vp vt) 38 (0, 0)) := (k2.block P (lt_of_heap hwa.hP) (fun e => n0.2.1 e.symm)).trans hwa.hP
  have a1 : OwK .u8 5 w' base vm s.mid := hwa.m.keep fun b hb2 hl => k2.block b hl (fun e => by
    obtain ⟨_, cur, hh⟩ := hwa.m.blk hb2
    exact hwa.p.ne e.symm hh (by decide))
  have a2 : OwK .i32 21 w' base vt s.tx := hwa.t.keep fun b hb2 hl => k2.block b hl (fun e => by
    obtain ⟨_, cur, hh⟩ := hwa.t.blk hb2
    exact hwa.p.ne e.symm hh (by decide))
  have hk : ∀ b, b ≠ P → (w'.setCell ⟨P, 3, none⟩ v').heap[b]? = w'.heap[b]? := fun b hb => heap_setCell_other _ ⟨_, _, _⟩ _ _ (by simpa using hb)
  have ko : OwK .i64 3 (w'.setCell ⟨P, 3, none⟩ v') base v' (s.ps ++ [y]) := k1.keep fun b hb _ => hk b (fun e => k1.ne (by rw [hb, e]) hP' (by decide))
  have o1 : OwK .u8 5 (w'.setCell ⟨P, 3, none⟩ v') base vm s.mid := a1.keep fun b hb _ => hk b (fun e => a1.ne (by rw [hb, e]) hP' (by decide))
  have o2 : OwK .i32 21 (w'.setCell ⟨P, 3, none⟩ v') base vt s.tx := a2.keep fun b hb _ => hk b (fun e => a2.ne (by rw [hb, e]) hP' (by decide))
  refine ⟨hP', ⟨heap_setCell_same _ _ _ _ _ _ hP', o1, ko, o2⟩, ?_, ?_⟩
  · exact ((Inv.ofBelow hb).then (Inv.ofGrown k2 (S := fun g => vp.ownBlock = some g) (fun g e => e)) (fun g hg _ => .inr (.inr (.inl hg)))).then (Inv.ofSet (S := fun g => g = P) rfl) (fun g hg _ => .inl hg)
  · intro g hg
    rcases hg with hg | hg | hg | hg
    · exact .inl (.inl hg)
    · exact .inl (.inr (.inl hg))
    · exact (k4 g hg).elim (fun hg => .inl (.inr (.inr (.inl hg)))) .inr
    · exact .inl (.inr (.inr (.inr hg)))
theorem QStep.grow_t {w wa w' : World} {P base : Nat} {s : RS} {vm vp vt v' : Value} {y : Int} (h : QW w P base s vm vp vt) (hb : Below w.heap.size w wa) (k1 : OwK .i32 21 w' base v' (s.tx ++ [y])) (k2 : wa.grownBy w' vt.ownBlock) (k4 : ∀ b, v'.ownBlock = some b → vt.ownBlock = some b ∨ w.heap.size ≤ b) :
    w'.heap[P]? = some (.cells (qcells s vm vp vt) 38 (0, 0)) ∧ QW (w'.setCell ⟨P, 5, none⟩ v') P base { s with tx := s.tx ++ [y] } vm vp v' ∧ Inv w (PB P vm vp vt) gh0 (w'.setCell ⟨P, 5, none⟩ v') ∧ ∀ g, PB P vm vp v' g → PB P vm vp vt g ∨ w.heap.size ≤ g := by
  have hwa := h.below hb
  have n0 := hwa.notP
  have hP' : w'.heap[P]? = some (.cells (qcells s vm vp vt) 38 (0, 0)) := (k2.block P (lt_of_heap hwa.hP) (fun e => n0.2.2 e.symm)).trans hwa.hP
  have a1 : OwK .u8 5 w' base vm s.mid := hwa.m.keep fun b hb2 hl => k2.block b hl (fun e => by
    obtain ⟨_, cur, hh⟩ := hwa.m.blk hb2
    exact hwa.t.ne e.symm hh (by decide))
  have a2 : OwK .i64 3 w' base vp s.ps := hwa.p.keep fun b hb2 hl => k2.block b hl (fun e => by
    obtain ⟨_, cur, hh⟩ := hwa.p.blk hb2
    exact hwa.t.ne e.symm hh (by decide))
  have hk : ∀ b, b ≠ P → (w'.setCell ⟨P, 5, none⟩ v').heap[b]? = w'.heap[b]? := fun b hb => heap_setCell_other _ ⟨_, _, _⟩ _ _ (by simpa using hb)
  have ko : OwK .i32 21 (w'.setCell ⟨P, 5, none⟩ v') base v' (s.tx ++ [y]) := k1.keep fun b hb _ => hk b (fun e => k1.ne (by rw [hb, e]) hP' (by decide))
  have o1 : OwK .u8 5 (w'.setCell ⟨P, 5, none⟩ v') base vm s.mid := a1.keep fun b hb _ => hk b (fun e => a1.ne (by rw [hb, e]) hP' (by decide))
  have o2 : OwK .i64 3 (w'.setCell ⟨P, 5, none⟩ v') base vp s.ps := a2.keep fun b hb _ => hk b (fun e => a2.ne (by rw [hb, e]) hP' (by decide))
  refine ⟨hP', ⟨heap_setCell_same _ _ _ _ _ _ hP', o1, o2, ko⟩, ?_, ?_⟩
  · exact ((Inv.ofBelow hb).then (Inv.ofGrown k2 (S := fun g => vt.ownBlock = some g) (fun g e => e)) (fun g hg _ => .inr (.inr (.inr hg)))).then (Inv.ofSet (S := fun g => g = P) rfl) (fun g hg _ => .inl hg)
  · intro g hg
    rcases hg with hg | hg | hg | hg
    · exact .inl (.inl hg)
    · exact .inl (.inr (.inl hg))
    · exact .inl (.inr (.inr (.inl hg)))
    · exact (k4 g hg).elim (fun hg => .inl (.inr (.inr (.inr hg)))) .inr
/-- A parameter is written in place. -/
theorem QStep.elem {w : World} {P base g cap i : Nat} {s : RS} {vm vp vt : Value} (h : QW w P base s vm vp vt) (hv : vp = .slice (some ⟨g, 0, none⟩) s.ps.length cap) (y : Int) : QStep w (w.setCell ⟨g, i, none⟩ (.int .i64 y)) P base { s with ps := s.ps.set i y } vm vp vt := by
  have ho : vp.ownBlock = some g := by rw [hv]; rfl
  obtain ⟨_, cur, hg⟩ := h.p.blk ho
  have hk : ∀ b, b ≠ g → (w.setCell ⟨g, i, none⟩ (.int .i64 y)).heap[b]? = w.heap[b]? := fun b hb => heap_setCell_other _ ⟨_, _, _⟩ _ _ (by simpa using hb)
  refine ⟨vm, vp, vt, ⟨(hk P (fun e => h.notP.2.1 (by rw [ho, e]))).trans h.hP, h.m.keep fun b hb _ => hk b (fun e => h.m.ne (by rw [hb, e]) hg (by decide)), h.p.set hv y, h.t.keep fun b hb _ => hk b (fun e => h.t.ne (by rw [hb, e]) hg (by decide))⟩, Inv.ofSet (.inr (.inr (.inl ho))), fun g hg => .inl hg⟩
/-- What taking a character tells. -/
def QTakeOk (w w' : World) (P base : Nat) (r : RS × List Ac) (vm vp vt v : Value) : Prop :=
  ∃ vm' vp' vt' L, QW w' P base r.1 vm' vp' vt' ∧ Inv w (PB P vm vp vt) gh0 w' ∧ (∀ g, PB P vm' vp' vt' g → PB P vm vp vt g ∨ w.heap.size ≤ g) ∧ OwA w' base v L ∧ L.map HA.ac = r.2 ∧ L.length ≤ 1 ∧
    (∀ b, v.ownBlock = some b → w.heap.size ≤ b) ∧ ∀ a ∈ L, ∀ b, HB a b → (PB P vm vp vt b ∨ w.heap.size ≤ b) ∧ ¬ PB P vm' vp' vt' b
theorem QTakeOk.no {w w' : World} {P base : Nat} {s' : RS} {vm vp vt : Value} (h : QStep w w' P base s' vm vp vt) : QTakeOk w w' P base (s', []) vm vp vt (.slice none 0 0) := by
  obtain ⟨vm', vp', vt', h1, h2, h3⟩ := h
  exact ⟨vm', vp', vt', [], h1, h2, h3, OwA.nil _ _, rfl, by simp, fun b hb => (by cases hb), by simp⟩
theorem QTakeOk.plain {w : World} {P base : Nat} {s : RS} {a : HA} {vm vp vt : Value} (h : QW w P base s vm vp vt) (ha : a.vm = .slice none 0 0 ∧ a.vp = .slice none 0 0 ∧ a.vt = .slice none 0 0 ∧ a.mid = [] ∧ a.ps = [] ∧ a.tx = []) (hbase : base ≤ w.heap.size) :
    QTakeOk w (w.alloc (.cells (arow a) 31)) P base (s, [a.ac]) vm vp vt (.slice (some ⟨w.heap.size, 0, none⟩) 1 1) := by
  have hb : Below w.heap.size w (w.alloc (.cells (arow a) 31)) := by (repeat' (first | (with_reducible exact Below.refl _ _) | (with_reducible assumption) | (with_reducible refine Below.alloc ?_ ?_ _) | (with_reducible refine below_setRow ?_ ?_ _) | (with_reducible refine bl_drew ?_) | (with_reducible refine bl_drewN ?_ _) | (with_reducible refine Below.setCell ?_ ?_ _) | (with_reducible refine bl_then ?_ ?_ hb) | (with_reducible refine bl_then ?_ ?_ hb1) | (with_reducible refine bl_then ?_ ?_ hb2) | (with_reducible refine bl_then ?_ ?_ hb3) | (with_reducible refine bl_then ?_ ?_ hb4) | (with_reducible refine bl_then ?_ ?_ hb5) | (with_reducible refine bl_then ?_ ?_ hb6) | (with_reducible refine bl_then ?_ ?_ hb7) | (with_reducible refine bl_then ?_ ?_ hb8) | (with_reducible exact Nat.le_refl _) | omega | (simp only [World.size_alloc, World.size_setCell, World.size_drew, size_setRow]; omega) | (simp; omega) | (simp; done)))
  obtain ⟨h1, h2, h3, h4, h5, h6⟩ := ha
  have hno : ∀ b, ¬ HB a b := fun b hb => by
    rcases hb with hb | hb | hb
    · rw [h1] at hb; cases hb
    · rw [h2] at hb; cases hb
    · rw [h3] at hb; cases hb
  refine ⟨vm, vp, vt, [a], h.below hb, Inv.ofBelow hb, fun g hg => .inl hg, OwA.one hbase (heap_alloc_last _ _) ⟨?_, ?_, ?_⟩, rfl, by simp, fun b hb => ?_, fun x hx b hb2 => ?_⟩
  · rw [h1, h4]; exact RdO.nil _ _ _ _
  · rw [h2, h5]; exact RdO.nil _ _ _ _
  · rw [h3, h6]; exact RdO.nil _ _ _ _
  · obtain rfl : w.heap.size = b := by simpa [Value.ownBlock] using hb
    exact Nat.le_refl _
  · obtain rfl := List.mem_singleton.1 hx
    exact (hno b hb2).elim
theorem QStep.to {w w' : World} {P base n : Nat} {vm vp vt : Value} (hp : QW w' P base (freshR n) (.slice none 0 0) (.slice none 0 0) (.slice none 0 0)) (hI : Inv w (fun g => g = P) gh0 w') : QStep w w' P base (freshR n) vm vp vt :=
  ⟨_, _, _, hp, hI.wide (fun g hg => .inl hg), fun g hg => .inl (.inl (pb_nil hg))⟩
/-- What holds ahead also holds of the world in which something was made meanwhile. -/
theorem QTakeOk.later {w w1 w' : World} {P base : Nat} {r : RS × List Ac} {vm vp vt v : Value} (hb : Below w.heap.size w w1) (k : QTakeOk w1 w' P base r vm vp vt v) : QTakeOk w w' P base r vm vp vt v := by
  obtain ⟨vm', vp', vt', L, h1, h2, h3, h4, h5, h6, h7, h8⟩ := k
  have hs := hb.size
  exact ⟨vm', vp', vt', L, h1, (Inv.ofBelow hb).then h2 (fun g hg _ => hg), fun g hg => (h3 g hg).imp (fun h => h) (fun h => by omega), h4, h5, h6, fun b hb => by have := h7 b hb; omega, fun a ha b hb => ⟨((h8 a ha b hb).1).imp (fun h => h) (fun h => by omega), (h8 a ha b hb).2⟩⟩
theorem QW.kind {w : World} {P base : Nat} {s : RS} {vm vp vt : Value} (h : QW w P base s vm vp vt) {g : Nat} (hg : PB P vm vp vt g) : ∃ cur e, w.heap[g]? = some (.cells cur e (0, 0)) ∧ e ≠ 31 := by
  rcases hg with rfl | hg | hg | hg
  · exact ⟨_, _, h.hP, by decide⟩
  · obtain ⟨_, cur, hc⟩ := h.m.blk hg; exact ⟨cur, _, hc, by decide⟩
  · obtain ⟨_, cur, hc⟩ := h.p.blk hg; exact ⟨cur, _, hc, by decide⟩
  · obtain ⟨_, cur, hc⟩ := h.t.blk hg; exact ⟨cur, _, hc, by decide⟩
theorem QW.ge {w : World} {P base : Nat} {s : RS} {vm vp vt : Value} (h : QW w P base s vm vp vt) (hP : base ≤ P) {g : Nat} (hg : PB P vm vp vt g) : base ≤ g := by
  rcases hg with rfl | hg | hg | hg
  · exact hP
  · exact (h.m.blk hg).1
  · exact (h.p.blk hg).1
  · exact (h.t.blk hg).1
/-- A parser and the actions that it has told. -/
structure QAllSt (w wr : World) (P base : Nat) (r : RS × List Ac) (vm vp vt v : Value) (L : List HA) (k : Nat) : Prop where
  pw : QW wr P base r.1 vm vp vt
  bel : Below base w wr
  own : OwA wr base v L
  acs : L.map HA.ac = r.2
  far : ∀ a ∈ L, ∀ b, HB a b → ¬ PB P vm vp vt b
  len : L.length ≤ k
  hb : base ≤ wr.heap.size
  hP : base ≤ P
theorem QAllSt.took {w wr w' : World} {P base k : Nat} {r : RS × List Ac} {vm vp vt v u : Value} {L : List HA} {c : Int} (h : QAllSt w wr P base r vm vp vt v L k) (hc : c ≤ 2147483647) (t : QTakeOk wr w' P base (rtakeS r.1 c) vm vp vt u) :
    ∃ vm' vp' vt' M, QAllSt w w' P base ((rtakeS r.1 c).1, r.2) vm' vp' vt' v L k ∧ NewAc w' P base (rtakeS r.1 c).2 vm' vp' vt' u M := by
  obtain ⟨vm', vp', vt', M, h1, h2, h3, h4, h5, h6, h7, h8⟩ := t
  refine ⟨vm', vp', vt', M, ⟨h1, h2.belowS h.bel h.hb fun g hg => h.pw.ge h.hP hg, h.own.keep fun b hb hlt => h2.far b hlt fun hp => ?_, h.acs, fun a ha b hb hp => ?_, h.len, Nat.le_trans h.hb h2.size, h.hP⟩, ⟨h4, h5, h6, fun a ha b hb => (h8 a ha b hb).2⟩⟩
  · rcases hb with hb | ⟨a, ha, hb⟩
    · obtain ⟨_, _, hc1, hne⟩ := h.pw.kind hp
      obtain ⟨_, _, hc2⟩ := h.own.blk hb
      exact blk_ne hc1 hc2 hne rfl
    · exact h.far a ha b hb hp
  · rcases h3 b hp with hp | hp
    · exact h.far a ha b hb hp
    · have := (h.own.acts a ha).lt hb
      omega
theorem QAllSt.app {w w' w2 : World} {P base k : Nat} {r : RS × List Ac} {acs : List Ac} {vm vp vt v u v2 : Value} {L M : List HA} (h : QAllSt w w' P base r vm vp vt v L k) (n : NewAc w' P base acs vm vp vt u M) (h1 : OwA w2 base v2 (L ++ M)) (h2 : w'.grownBy w2 v.ownBlock) :
    QAllSt w w2 P base (r.1, r.2 ++ acs) vm vp vt v2 (L ++ M) (k + 1) := by
  have hI : Inv w' (fun g => v.ownBlock = some g) gh0 w2 := Inv.ofGrown h2 (fun g hg => hg)
  refine ⟨h.pw.far hI fun g hg hv => ?_, hI.belowS h.bel h.hb fun g hg => (h.own.blk hg).1, h1, by rw [List.map_append, h.acs, n.acs], fun a ha => (List.mem_append.1 ha).elim (fun ha => h.far a ha) (fun ha => n.far a ha), by have := h.len; have := n.len; simp; omega, Nat.le_trans h.hb hI.size, h.hP⟩
  obtain ⟨_, _, hc1, hne⟩ := h.pw.kind hg
  obtain ⟨_, _, hc2⟩ := h.own.blk hv
  exact blk_ne hc1 hc2 hne rfl
theorem QAllSt.start (w : World) : QAllSt w (w.alloc (.cells (qcells (freshR 0) (.slice none 0 0) (.slice none 0 0) (.slice none 0 0)) 38)) w.heap.size w.heap.size (freshR 0, []) (.slice none 0 0) (.slice none 0 0) (.slice none 0 0) (.slice none 0 0) [] 0 :=
  ⟨⟨heap_alloc_last _ _, OwK.nil _ _ _ _, OwK.nil _ _ _ _, OwK.nil _ _ _ _⟩, Below.alloc (Below.refl _ _) (Nat.le_refl _) _, OwA.nil _ _, rfl, by simp, by simp, by simp, Nat.le_refl _⟩
end Go.Proofs.Ytecgipccippddaa
