/- What is proved: what a cipher's Encrypt of the reference answers when it is called; conditions: the cipher's table lies where it is said to. -/
import Derived.Test.YtppponobefljgaaAesR5
set_option linter.unusedSimpArgs false
set_option linter.unusedVariables false
namespace Go.Proofs.Ytppponobefljgaa
open Go.RowKit
set_option maxRecDepth 100000
set_option maxHeartbeats 8000000
theorem run_load_cells {w : World} {g o m : Nat} {G : Nat → Int} {ty : TypeId} (hT : RowT ty m) (hc : ∀ j, j < m → w.cell? ⟨g, o + j, none⟩ = some (.int .u8 (G j))) :
    (Instr.loadAt ty (.pointer (some ⟨g, o, none⟩))).run Try.prog w = .ok (.agg (rwb m G)) w := by
  obtain ⟨d, hu, hd⟩ := hT.und
  have h := run_loadVar_mid (P := Try.prog) w g o ty (rwb m G).toList d (fun j v hv => by
    have hj : j < m := by
      have := (List.getElem?_eq_some_iff.1 hv).1
      rwa [Array.length_toList, rwb_size] at this
    rw [Array.getElem?_toList, rwb_get _ hj] at hv
    rw [hc j hj]
    exact hv) hu hd (by rw [hT.size, Array.length_toList, rwb_size])
  rw [Array.toArray_toList] at h
  simp only [Instr.loadAt, Instr.sureAddr, Sem.run_bind, Sem.run_pure, Result.andThen]
  exact h
theorem wpList_ldc {ops : Array Oper} {rest : List Oper} {o : Oper} {a : Act} {Q : Exit → Act → World → Prop} {w : World} {g off m : Nat} {G : Nat → Int} {ty : TypeId} (hT : RowT ty m) (hgd : o.guard = none) (x : Operand) (ho : o.op = .load ty x)
    (hx : a.eval x = .pointer (some ⟨g, off, none⟩)) (hc : ∀ j, j < m → w.cell? ⟨g, off + j, none⟩ = some (.int .u8 (G j))) (h : wpList Try.prog ops Q rest (a.put o.dst (.agg (rwb m G))) w) : wpList Try.prog ops Q (o :: rest) a w := by
  refine wpList_plain hgd fun K hK => ?_
  have hr := exec_load (P := Try.prog) (o := o) (a := a) ho hx (run_load_cells hT hc)
  unfold Oper.wp
  rw [hr]
  exact hK _ _ h
theorem cell_crow {w : World} {g T : Nat} {K : Nat → Int} {t : TypeId} (h : w.heap[g]? = some (.cells (crow T K) t (0, 0))) {j : Nat} (hj : j < 176) : w.cell? ⟨g, 1 + j, none⟩ = some (.int .u8 (K j)) :=
  (cell_of_row w g (1 + j) _ _ (0, 0) h).trans (crow_get T K hj)
theorem cell_crow0 {w : World} {g T : Nat} {K : Nat → Int} {t : TypeId} (h : w.heap[g]? = some (.cells (crow T K) t (0, 0))) : w.cell? ⟨g, 0, none⟩ = some (.pointer (some ⟨T, 0, none⟩)) :=
  (cell_of_row w g 0 _ _ (0, 0) h).trans (crow_get0 T K)
theorem row_crow {w : World} {g T : Nat} {K : Nat → Int} {t : TypeId} (h : w.heap[g]? = some (.cells (crow T K) t (0, 0))) {r : Nat} (hr : r < 11) : ∀ j, j < 16 → w.cell? ⟨g, 1 + r * 16 + j, none⟩ = some (.int .u8 (K (16 * r + j))) := by
  intro j hj
  rw [show 1 + r * 16 + j = 1 + (16 * r + j) by omega]
  exact cell_crow h (by omega)
/-- What lies where while the reference encrypts: the table, the cipher, the block, the answer's place. -/
structure RE (w wr : World) (N T : Nat) (K g : Nat → Int) : Prop where
  hT : wr.heap[T]? = some (.cells (rwb 256 subI) 35 (0, 0))
  hC : wr.heap[N]? = some (.cells (crow T K) 47 (0, 0))
  hB : wr.heap[N + 1]? = some (.cells (rwb 16 g) 28 (0, 0))
  hR : wr.heap[N + 1 + 1]? = some (.cells (rwb 16 fun _ => 0) 28 (0, 0))
  hL : Below N w wr
  lt : T < N ∧ w.heap.size = N
/-- The same with a block more. -/
structure RS (w wr : World) (N T S : Nat) (K g s : Nat → Int) : Prop where
  e : RE w wr N T K g
  hS : wr.heap[S]? = some (.cells (rwb 16 s) 28 (0, 0))
  lt : N + 1 + 1 < S
/-- The same with two blocks more. -/
structure RM (w wr : World) (N T S M : Nat) (K g s m : Nat → Int) : Prop where
  r : RS w wr N T S K g s
  hM : wr.heap[M]? = some (.cells (rwb 16 m) 28 (0, 0))
  lt : S < M
section
variable {w wr w1 : World} {N T S M : Nat} {K g s m : Nat → Int} {γ : Gh}
theorem RE.keep (h : RE w wr N T K g) {q : Nat} (hI : Inv wr (fun x => x = q) γ w1) (hq : N + 1 + 1 < q) : RE w w1 N T K g :=
  have l := h.lt
  ⟨(hI.far T (lt_of_heap h.hT) (by omega)).trans h.hT, (hI.far N (lt_of_heap h.hC) (by omega)).trans h.hC, (hI.far (N + 1) (lt_of_heap h.hB) (by omega)).trans h.hB, (hI.far (N + 1 + 1) (lt_of_heap h.hR) (by omega)).trans h.hR, hI.belowS h.hL (by have := lt_of_heap h.hC; omega) (by rintro x rfl; omega), h.lt⟩
theorem RS.next (h : RS w wr N T S K g s) {s' : Nat → Int} (hI : Inv wr (fun x => x = S) γ w1) (hγ : γ 0 = some (S, .cells (rwb 16 s') 28 (0, 0))) : RS w w1 N T S K g s' :=
  ⟨h.e.keep hI h.lt, (hI.here 0 S _ hγ).1, h.lt⟩
theorem RM.next (h : RM w wr N T S M K g s m) {m' : Nat → Int} (hI : Inv wr (fun x => x = M) γ w1) (hγ : γ 0 = some (M, .cells (rwb 16 m') 28 (0, 0))) : RM w w1 N T S M K g s m' :=
  ⟨⟨h.r.e.keep hI (by have := h.r.lt; have := h.lt; omega), (hI.far S (lt_of_heap h.r.hS) (by have := h.lt; omega)).trans h.r.hS, h.r.lt⟩, (hI.here 0 M _ hγ).1, h.lt⟩
theorem RS.inv (h : RS w wr N T S K g s) : Inv wr (fun x => x = S) (gh2 (some (S, .cells (rwb 16 s) 28 (0, 0))) none) wr.drew := Inv.start2 h.hS rfl (by rintro g o h; cases h)
theorem RM.inv (h : RM w wr N T S M K g s m) : Inv wr (fun x => x = M) (gh2 (some (M, .cells (rwb 16 m) 28 (0, 0))) none) wr.drew := Inv.start2 h.hM rfl (by rintro g o h; cases h)
theorem RE.inv (h : RE w wr N T K g) : Inv wr (fun x => x = N + 1) (gh2 (some (N + 1, .cells (rwb 16 g) 28 (0, 0))) none) wr.drew := Inv.start2 h.hB rfl (by rintro g o h; cases h)
theorem RE.nextB (h : RE w wr N T K g) {g' : Nat → Int} (hI : Inv wr (fun x => x = N + 1) γ w1) (hγ : γ 0 = some (N + 1, .cells (rwb 16 g') 28 (0, 0))) : RE w w1 N T K g' :=
  have l := h.lt
  ⟨(hI.far T (lt_of_heap h.hT) (by omega)).trans h.hT, (hI.far N (lt_of_heap h.hC) (by omega)).trans h.hC, (hI.here 0 (N + 1) _ hγ).1, (hI.far (N + 1 + 1) (lt_of_heap h.hR) (by omega)).trans h.hR, hI.belowS h.hL (by have := lt_of_heap h.hC; omega) (by rintro x rfl; omega), h.lt⟩
theorem RE.alloc (h : RE w wr N T K g) (c : Obj) (hc : c = .cells (rwb 16 s) 28 (0, 0)) : RS w (wr.alloc c) N T wr.heap.size K g s := by
  subst hc
  have h1 := lt_of_heap h.hT
  have h2 := lt_of_heap h.hC
  have h3 := lt_of_heap h.hB
  have h4 := lt_of_heap h.hR
  refine ⟨⟨?_, ?_, ?_, ?_, h.hL.alloc (by omega) _, h.lt⟩, heap_alloc_last _ _, h4⟩
  · rw [heap_alloc_if, if_neg (by omega)]; exact h.hT
  · rw [heap_alloc_if, if_neg (by omega)]; exact h.hC
  · rw [heap_alloc_if, if_neg (by omega)]; exact h.hB
  · rw [heap_alloc_if, if_neg (by omega)]; exact h.hR
theorem RS.alloc (h : RS w wr N T S K g s) (c : Obj) (hc : c = .cells (rwb 16 m) 28 (0, 0)) : RM w (wr.alloc c) N T S wr.heap.size K g s m := by
  subst hc
  have h5 := lt_of_heap h.hS
  refine ⟨⟨(h.e.alloc (s := m) _ rfl).e, ?_, h.lt⟩, heap_alloc_last _ _, h5⟩
  rw [heap_alloc_if, if_neg (by omega)]; exact h.hS
theorem RS.congr (h : RS w wr N T S K g s) {s' : Nat → Int} (hs : ∀ j, j < 16 → s j = s' j) : RS w wr N T S K g s' := ⟨h.e, by rw [h.hS, rwb_congr hs], h.lt⟩
theorem RM.congr (h : RM w wr N T S M K g s m) {m' : Nat → Int} (hs : ∀ j, j < 16 → m j = m' j) : RM w wr N T S M K g s m' := ⟨h.r, by rw [h.hM, rwb_congr hs], h.lt⟩
theorem RM.setS (h : RM w wr N T S M K g s m) (s' : Nat → Int) : RS w (wr.setRow S (rwb 16 s')) N T S K g s' := by
  have l := h.r.lt
  have l2 := h.r.e.lt
  refine ⟨⟨?_, ?_, ?_, ?_, below_setRow h.r.e.hL (by omega) _, h.r.e.lt⟩, setRow_heap _ _ _ _ _ _ h.r.hS, l⟩
  · rw [heap_setRow_if, if_neg (by omega)]; exact h.r.e.hT
  · rw [heap_setRow_if, if_neg (by omega)]; exact h.r.e.hC
  · rw [heap_setRow_if, if_neg (by omega)]; exact h.r.e.hB
  · rw [heap_setRow_if, if_neg (by omega)]; exact h.r.e.hR
theorem RE.setB (h : RE w wr N T K g) (g' : Nat → Int) : RE w (wr.setRow (N + 1) (rwb 16 g')) N T K g' := by
  have l2 := h.lt
  refine ⟨?_, ?_, setRow_heap _ _ _ _ _ _ h.hB, ?_, below_setRow h.hL (by omega) _, h.lt⟩
  · rw [heap_setRow_if, if_neg (by omega)]; exact h.hT
  · rw [heap_setRow_if, if_neg (by omega)]; exact h.hC
  · rw [heap_setRow_if, if_neg (by omega)]; exact h.hR
end
/-- So many bytes of one row, noughts behind. -/
def upT (n : Nat) (f : Nat → Int) (j : Nat) : Int := if j < n then f j else 0
theorem upT_step {n : Nat} {f : Nat → Int} {z : Int} (hz : z = f n) (j : Nat) : upd (upT n f) n z j = upT (n + 1) f j := by
  unfold upd upT
  by_cases e : j = n
  · rw [if_pos e, if_pos (by omega), e, hz]
  · rw [if_neg e]
    by_cases h : j < n
    · rw [if_pos h, if_pos (by omega)]
    · rw [if_neg h, if_neg (by omega)]
theorem mul_3 (r : Nat) (h : r < 256) : mul r 3 = x2 r ^^^ r := by
  have key : ∀ r : Fin 256, mul r.val 3 = x2 r.val ^^^ r.val := by decide +kernel
  exact key ⟨r, h⟩
theorem ix1 {m k : Nat} (hm : m ≤ 12) (hk : k < 4) : (m + k < 16) ∧ ((m : Int) + (k : Int) < 16) ∧ (0 ≤ (m : Int) + (k : Int)) ∧ (((m : Int) + (k : Int)).toNat = m + k) ∧ (IntKind.i64.wrap ((m : Int) + (k : Int)) = (m : Int) + (k : Int)) :=
  ⟨by omega, by omega, by omega, by omega, IntWalk.i64_in _ (by omega)⟩
theorem ix2 {k k1 : Nat} (j : Nat) (hj : j < 4) (hk : k < 4) (h : (k + j) % 4 = k1) : (IntKind.i64.wrap ((k : Int) + (j : Int)) = (k : Int) + (j : Int)) ∧ (((k : Int) + (j : Int)).tmod 4 = (k1 : Int)) :=
  ⟨IntWalk.i64_in _ (by omega), by rw [Int.tmod_eq_emod_of_nonneg (by omega)]; omega⟩
theorem ix4 {c m k k1 k2 k3 : Nat} (hc4 : c < 4) (hcm : 4 * c = m) (hk4 : k < 4) (hk1 : (k + 1) % 4 = k1) (hk2 : (k + 2) % 4 = k2) (hk3 : (k + 3) % 4 = k3) : (m + k < 16) ∧ (m + k1 < 16) ∧ (m + k2 < 16) ∧ (m + k3 < 16) ∧ ((m : Int) + (k : Int) < 16) ∧ ((m : Int) + (k1 : Int) < 16) ∧ ((m : Int) + (k2 : Int) < 16) ∧ ((m : Int) + (k3 : Int) < 16) ∧ (0 ≤ (m : Int) + (k : Int)) ∧ (0 ≤ (m : Int) + (k1 : Int)) ∧ (0 ≤ (m : Int) + (k2 : Int)) ∧ (0 ≤ (m : Int) + (k3 : Int)) ∧ (((m : Int) + (k : Int)).toNat = m + k) ∧ (((m : Int) + (k1 : Int)).toNat = m + k1) ∧ (((m : Int) + (k2 : Int)).toNat = m + k2) ∧ (((m : Int) + (k3 : Int)).toNat = m + k3) ∧ (IntKind.i64.wrap (4 * (c : Int)) = (m : Int)) ∧ (IntKind.i64.wrap ((m : Int) + (k : Int)) = (m : Int) + (k : Int)) ∧ (IntKind.i64.wrap ((m : Int) + (k1 : Int)) = (m : Int) + (k1 : Int)) ∧ (IntKind.i64.wrap ((m : Int) + (k2 : Int)) = (m : Int) + (k2 : Int)) ∧ (IntKind.i64.wrap ((m : Int) + (k3 : Int)) = (m : Int) + (k3 : Int)) ∧ (IntKind.i64.wrap ((k : Int) + 1) = (k : Int) + 1) ∧ (IntKind.i64.wrap ((k : Int) + 2) = (k : Int) + 2) ∧ (IntKind.i64.wrap ((k : Int) + 3) = (k : Int) + 3) ∧ (((k : Int) + 1).tmod 4 = (k1 : Int)) ∧ (((k : Int) + 2).tmod 4 = (k2 : Int)) ∧ (((k : Int) + 3).tmod 4 = (k3 : Int)) := by
  have b1 : k1 < 4 := by omega
  have b2 : k2 < 4 := by omega
  have b3 : k3 < 4 := by omega
  have bm : m ≤ 12 := by omega
  obtain ⟨hb0, hi0, hj0, hn0, hw0⟩ := ix1 bm hk4
  obtain ⟨hb1, hi1, hj1, hn1, hw1⟩ := ix1 bm b1
  obtain ⟨hb2, hi2, hj2, hn2, hw2⟩ := ix1 bm b2
  obtain ⟨hb3, hi3, hj3, hn3, hw3⟩ := ix1 bm b3
  obtain ⟨hx1, ht1⟩ := ix2 1 (by decide) hk4 hk1
  obtain ⟨hx2, ht2⟩ := ix2 2 (by decide) hk4 hk2
  obtain ⟨hx3, ht3⟩ := ix2 3 (by decide) hk4 hk3
  have hwc : IntKind.i64.wrap (4 * (c : Int)) = (m : Int) := (IntWalk.i64_in _ (by clear hn0 hn1 hn2 hn3; omega)).trans (by clear hn0 hn1 hn2 hn3; omega)
  exact ⟨hb0, hb1, hb2, hb3, hi0, hi1, hi2, hi3, hj0, hj1, hj2, hj3, hn0, hn1, hn2, hn3, hwc, hw0, hw1, hw2, hw3, hx1, hx2, hx3, ht1, ht2, ht3⟩
theorem mixF_ref {s : Nat → Int} {m k : Nat} (hm : m % 4 = 0) (hk : k < 4) {k1 k2 k3 y0 y1 y2 y3 : Nat} (h1 : (k + 1) % 4 = k1) (h2 : (k + 2) % 4 = k2) (h3 : (k + 3) % 4 = k3) (e0 : s (m + k) = (y0 : Int)) (e1 : s (m + k1) = (y1 : Int)) (e2 : s (m + k2) = (y2 : Int)) (e3 : s (m + k3) = (y3 : Int))
    (l0 : y0 < 256) (l1 : y1 < 256) (l2 : y2 < 256) (l3 : y3 < 256) : bits .xor .u8 (bits .xor .u8 (bits .xor .u8 ((mul y0 2 : Nat) : Int) ((mul y1 3 : Nat) : Int)) (y2 : Int)) (y3 : Int) = mixF s (m + k) := by
  have q0 := x2_lt l0
  have q1 := x2_lt l1
  have e : bits .xor .u8 (bits .xor .u8 (bits .xor .u8 ((mul y0 2 : Nat) : Int) ((mul y1 3 : Nat) : Int)) (y2 : Int)) (y3 : Int) = ((((x2 y0 ^^^ (x2 y1 ^^^ y1)) ^^^ y2) ^^^ y3 : Nat) : Int) := by
    rw [mul_2 y0 l0, mul_3 y1 l1]
    show xr (xr (xr _ _) _) _ = _
    rw [xr_nat q0 (xor_lt q1 l1), xr_nat (xor_lt q0 (xor_lt q1 l1)) l2, xr_nat (xor_lt (xor_lt q0 (xor_lt q1 l1)) l2) l3]
  rw [e]
  obtain ⟨q, rfl⟩ : ∃ q, m = 4 * q := ⟨m / 4, by omega⟩
  have key : (x2 y0 ^^^ (x2 y1 ^^^ y1)) ^^^ y2 ^^^ y3 = M4 y0 y1 y2 y3 := by
    unfold M4
    rw [x2_xor _ _ l0 l1]
    have a1 : y0 ^^^ ((((y0 ^^^ y1) ^^^ y2) ^^^ y3) ^^^ (x2 y0 ^^^ x2 y1)) = (y0 ^^^ y0) ^^^ ((x2 y0 ^^^ (x2 y1 ^^^ y1)) ^^^ y2 ^^^ y3) := by ac_rfl
    rw [a1, Nat.xor_self, Nat.zero_xor]
  rw [key]
  rcases (by omega : k = 0 ∨ k = 1 ∨ k = 2 ∨ k = 3) with rfl | rfl | rfl | rfl
  · obtain rfl : k1 = 1 := by omega
    obtain rfl : k2 = 2 := by omega
    obtain rfl : k3 = 3 := by omega
    exact (mixF_col l0 l1 l2 l3 e0 e1 e2 e3).1.symm
  · obtain rfl : k1 = 2 := by omega
    obtain rfl : k2 = 3 := by omega
    obtain rfl : k3 = 0 := by omega
    exact (mixF_col l3 l0 l1 l2 e3 e0 e1 e2).2.1.symm
  · obtain rfl : k1 = 3 := by omega
    obtain rfl : k2 = 0 := by omega
    obtain rfl : k3 = 1 := by omega
    exact (mixF_col l2 l3 l0 l1 e2 e3 e0 e1).2.2.1.symm
  · obtain rfl : k1 = 0 := by omega
    obtain rfl : k2 = 1 := by omega
    obtain rfl : k3 = 2 := by omega
    exact (mixF_col l1 l2 l3 l0 e1 e2 e3 e0).2.2.2.symm
theorem rencm_any (N0 T : Nat) (K b : Nat → Int) (w : World) (hT : w.heap[T]? = some (.cells (rwb 256 subI) 35 (0, 0))) : Calls Try.prog 28 #[.agg (crow T K), .agg (rwb 16 b)] w fun e w' => e = .returned (.agg (rwb 16 (stF K b 10))) ∧ Below w.heap.size w w' := by
  have HTT := Lib.hid hT
  have hTl := lt_of_heap hT
  clear hT
  obtain ⟨N, hN⟩ : ∃ N, w.heap.size = N := ⟨_, rfl⟩
  obtain ⟨V, hV⟩ : ∃ V, ((w.alloc (.cells (crow T K) 47)).alloc (.cells (rwb 16 b) 28)).alloc (.cells (rwb 16 fun _ => 0) 28) = V := ⟨_, rfl⟩
  have hE : RE w V N T K b := by
    refine ⟨?_, ?_, ?_, ?_, ?_, by omega, hN⟩
    · rw [← hV, heap_alloc_if, if_neg (by simp; omega), heap_alloc_if, if_neg (by simp; omega), heap_alloc_if, if_neg (by omega)]; exact HTT.out
    · rw [← hV, ← hN]; (simp only [heap_setRow_if, heap_alloc_if, heap_setCell_if, World.size_alloc, size_setRow, World.size_setCell]; simp) <;> (intros; omega)
    · rw [← hV, ← hN]; (simp only [heap_setRow_if, heap_alloc_if, heap_setCell_if, World.size_alloc, size_setRow, World.size_setCell]; simp) <;> (intros; omega)
    · rw [← hV, ← hN]; (simp only [heap_setRow_if, heap_alloc_if, heap_setCell_if, World.size_alloc, size_setRow, World.size_setCell]; simp) <;> (intros; omega)
    · rw [← hV, ← hN]; (repeat' (first | (with_reducible exact Below.refl _ _) | (with_reducible assumption) | (with_reducible refine Below.alloc ?_ ?_ _) | (with_reducible refine below_setRow ?_ ?_ _) | (with_reducible refine bl_drew ?_) | (with_reducible refine bl_drewN ?_ _) | (with_reducible refine Below.setCell ?_ ?_ _) | (with_reducible refine bl_then ?_ ?_ hb) | (with_reducible refine bl_then ?_ ?_ hb1) | (with_reducible refine bl_then ?_ ?_ hb2) | (with_reducible refine bl_then ?_ ?_ hb3) | (with_reducible refine bl_then ?_ ?_ hb4) | (with_reducible refine bl_then ?_ ?_ hb5) | (with_reducible refine bl_then ?_ ?_ hb6) | (with_reducible refine bl_then ?_ ?_ hb7) | (with_reducible refine bl_then ?_ ?_ hb8) | (with_reducible exact Nat.le_refl _) | omega | (simp only [World.size_alloc, World.size_setCell, World.size_drew, size_setRow]; omega) | (simp; omega) | (simp; done)))
  rw [show rwb 16 (fun _ => 0) = _ from zeros16.symm] at hV
  clear HTT
  go_enter Try.func28, Try.ntmps28
  go_wp2_with (first | (with_reducible refine wpList_ld rowBlock rfl (.tmp 3) rfl rfl hE.hB (by omega) (G := b) (fun j _ => by rw [Nat.zero_add]) ?_) | (with_reducible refine wpList_ldc rowBlock rfl (.tmp 15) rfl rfl (G := K) (fun j hj => cell_crow hE.hC (by omega)) ?_))
  refine (ragainst_any b K V).mono ?_
  rintro e w1 ⟨rfl, hb⟩
  rw [show (fun j => bits .xor .u8 (b j) (K j)) = stF K b (1 - 1) from by
    funext j
    show _ = xr (b j) (K (16 * 0 + j))
    rw [show 16 * 0 + j = j by omega]
    rfl]
  have hE1 : RE w w1 N T K b := by
    have l := hE.lt
    exact ⟨(hb.block T (lt_of_heap hE.hT)).trans hE.hT, (hb.block N (lt_of_heap hE.hC)).trans hE.hC, (hb.block (N + 1) (lt_of_heap hE.hB)).trans hE.hB, (hb.block (N + 1 + 1) (lt_of_heap hE.hR)).trans hE.hR, bl_then hE.hL (by have := lt_of_heap hE.hC; omega) hb, l⟩
  clear hb hE hV
  have hE2 := hE1.setB (stF K b (1 - 1))
  go_wp2_with (with_reducible refine wpList_st rowBlock rfl (.tmp 3) (.tmp 17) rfl rfl rfl hE1.hB ?_)
  generalize w1.setRow (N + 1) (rwb 16 (stF K b (1 - 1))) = W1 at *
  clear hE1
  go_loopw [5] (fun i wr => ∃ R : Nat, 1 ≤ R ∧ R ≤ 11 ∧ i = .int .i64 R ∧ RE w wr N T K (stF K b (R - 1))) (fun i _ => 11 - (intOf i).toNat)
  case atStart => exact ⟨1, by omega, by omega, rfl, hE2⟩
  case round =>
    clear hE2
    obtain ⟨R, hR1, hr, rfl, hE⟩ := hrel
    obtain ⟨r, hRr⟩ : ∃ r, R - 1 = r := ⟨_, rfl⟩
    rw [hRr] at hE
    have HRr : Hid (R = r + 1) := Lib.hid (by omega)
    clear hRr
    by_cases hlt : R < 11
    · have hri : (R : Int) ≤ 10 := by omega
      have hri11 : (R : Int) < 11 := by omega
      have hr0 : (0 : Int) ≤ (R : Int) := by omega
      obtain ⟨g, hg⟩ : ∃ g, stF K b r = g := ⟨_, rfl⟩
      have HGB : Hid (∀ j, 0 ≤ g j ∧ g j ≤ 255) := Lib.hid (fun j => by rw [← hg]; exact stF_b K b r j)
      rw [hg] at hE
      have HG := Lib.hid hg
      clear hg
      obtain ⟨S, hSs⟩ : ∃ S, wr.heap.size = S := ⟨_, rfl⟩
      obtain ⟨V1, hV1⟩ : ∃ V1, wr.alloc (.cells (rwb 16 fun _ => 0) 28) = V1 := ⟨_, rfl⟩
      have hS : RS w V1 N T S K g (upT 0 (shF g)) := by
        rw [← hV1, ← hSs]
        exact (hE.alloc (s := fun _ => 0) _ rfl).congr (fun j _ => (if_neg (by omega)).symm)
      clear hE
      go_wp2_with fail
      try rw [zeros16]
      try rw [hV1]
      try rw [hSs]
      clear hV1 hSs
      go_loopw [7] (fun i wr => ∃ k : Nat, k ≤ 16 ∧ i = .int .i64 k ∧ RS w wr N T S K g (upT k (shF g))) (fun i _ => 16 - (intOf i).toNat)
      case atStart => exact ⟨0, by omega, rfl, hS⟩
      case round =>
        clear hS
        obtain ⟨k, hk, rfl, hS⟩ := hrel
        by_cases hk16 : k < 16
        · obtain ⟨ρ, hρ⟩ : ∃ x, k % 4 = x := ⟨_, rfl⟩
          obtain ⟨c, hc⟩ : ∃ x, k / 4 = x := ⟨_, rfl⟩
          obtain ⟨z, hz⟩ : ∃ x, (c + ρ) % 4 = x := ⟨_, rfl⟩
          obtain ⟨y, hy⟩ := Int.eq_ofNat_of_zero_le (HGB.out (4 * z + ρ)).1
          have hyl : y < 256 := by have := HGB.out (4 * z + ρ); omega
          have hyi : (y : Int) < 256 := by omega
          have HSH : Hid (subI y = shF g k) := Lib.hid (by
            unfold shF
            rw [hρ, hc, hz, hy]
            rfl)
          have hki : (k : Int) < 16 := by omega
          have hk0 : (0 : Int) ≤ (k : Int) := by omega
          have hrt : Int.tmod (k : Int) 4 = (ρ : Int) := by rw [Int.tmod_eq_emod_of_nonneg (by omega)]; omega
          have hre : (k : Int) % 4 = (ρ : Int) := by omega
          have hqt : Int.tdiv (k : Int) 4 = (c : Int) := by rw [Int.tdiv_eq_ediv_of_nonneg (by omega)]; omega
          have hqe : (k : Int) / 4 = (c : Int) := by omega
          have hwρ : IntKind.i64.wrap (ρ : Int) = (ρ : Int) := IntWalk.i64_in _ (by omega)
          have hwc : IntKind.i64.wrap (c : Int) = (c : Int) := IntWalk.i64_in _ (by omega)
          have hwcr : IntKind.i64.wrap ((c : Int) + (ρ : Int)) = (c : Int) + (ρ : Int) := IntWalk.i64_in _ (by omega)
          have hzt : ((c : Int) + (ρ : Int)).tmod 4 = (z : Int) := by rw [Int.tmod_eq_emod_of_nonneg (by omega)]; omega
          have hze : ((c : Int) + (ρ : Int)) % 4 = (z : Int) := by omega
          have hwz : IntKind.i64.wrap (z : Int) = (z : Int) := IntWalk.i64_in _ (by omega)
          have hw4 : IntKind.i64.wrap (4 * (z : Int)) = 4 * (z : Int) := IntWalk.i64_in _ (by omega)
          have hw5 : IntKind.i64.wrap (4 * (z : Int) + (ρ : Int)) = 4 * (z : Int) + (ρ : Int) := IntWalk.i64_in _ (by omega)
          have hi4 : 4 * (z : Int) + (ρ : Int) < 16 := by omega
          have hj4 : 0 ≤ 4 * (z : Int) + (ρ : Int) := by omega
          have hn4 : (4 * (z : Int) + (ρ : Int)).toNat = 4 * z + ρ := by omega
          have hb4 : 4 * z + ρ < 16 := by omega
          have HY := Lib.hid hy
          clear hρ hc hz hy
          go_wp2_with fail
          apply wp_region_eff _ _ hS.inv (hm := by kernel_rfl)
          case h =>
            (apply SeqF.pure; (focus (first | rfl | (go_simp; done) | (simp [Region.wanted, yielded]; done))); (focus (intro w; go_simp; with_reducible rfl)); go_simp)
            (apply SeqF.pure; (focus (first | rfl | (go_simp; done) | (simp [Region.wanted, yielded]; done))); (focus (intro w; go_simp; with_reducible rfl)); go_simp)
            apply SeqF.read (v := .pointer (some ⟨T, 0, none⟩)) []
            · (first | rfl | (go_simp; done) | (simp [Region.wanted, yielded]; done))
            · intro γ' W hg hI
              have x0 := cell_crow0 ((hI.far N (lt_of_heap hS.e.hC) (by have := hS.lt; omega)).trans hS.e.hC)
              go_simp
            go_simp
            (apply SeqF.pure; (focus (first | rfl | (go_simp; done) | (simp [Region.wanted, yielded]; done))); (focus (intro w; go_simp; with_reducible rfl)); go_simp)
            (apply SeqF.pure; (focus (first | rfl | (go_simp; done) | (simp [Region.wanted, yielded]; done))); (focus (intro w; go_simp; with_reducible rfl)); go_simp)
            (apply SeqF.pure; (focus (first | rfl | (go_simp; done) | (simp [Region.wanted, yielded]; done))); (focus (intro w; go_simp; with_reducible rfl)); go_simp)
            (apply SeqF.pure; (focus (first | rfl | (go_simp; done) | (simp [Region.wanted, yielded]; done))); (focus (intro w; go_simp; with_reducible rfl)); go_simp)
            (apply SeqF.pure; (focus (first | rfl | (go_simp; done) | (simp [Region.wanted, yielded]; done))); (focus (intro w; go_simp; with_reducible rfl)); go_simp)
            (apply SeqF.pure; (focus (first | rfl | (go_simp; done) | (simp [Region.wanted, yielded]; done))); (focus (intro w; go_simp; with_reducible rfl)); go_simp)
            (apply SeqF.pure; (focus (first | rfl | (go_simp; done) | (simp [Region.wanted, yielded]; done))); (focus (intro w; go_simp; with_reducible rfl)); go_simp)
            (apply SeqF.pure; (focus (first | rfl | (go_simp; done) | (simp [Region.wanted, yielded]; done))); (focus (intro w; go_simp; with_reducible rfl)); go_simp)
            apply SeqF.read (v := .int .u8 (y : Nat)) []
            · (first | rfl | (go_simp; done) | (simp [Region.wanted, yielded]; done))
            · intro γ' W hg hI
              have x0 := cell_rwb ((hI.far (N + 1) (lt_of_heap hS.e.hB) (by have := hS.lt; omega)).trans hS.e.hB) hb4
              rw [HY.out] at x0
              go_simp
            go_simp
            (apply SeqF.pure; (focus (first | rfl | (go_simp; done) | (simp [Region.wanted, yielded]; done))); (focus (intro w; go_simp; with_reducible rfl)); go_simp)
            (apply SeqF.pure; (focus (first | rfl | (go_simp; done) | (simp [Region.wanted, yielded]; done))); (focus (intro w; go_simp; with_reducible rfl)); go_simp)
            apply SeqF.read (v := .int .u8 (subI y)) []
            · (first | rfl | (go_simp; done) | (simp [Region.wanted, yielded]; done))
            · intro γ' W hg hI
              have x0 := cell_rwb ((hI.far T (lt_of_heap hS.e.hT) (by have := hS.lt; have := hS.e.lt; omega)).trans hS.e.hT) hyl
              go_simp
            go_simp
            (apply SeqF.pure; (focus (first | rfl | (go_simp; done) | (simp [Region.wanted, yielded]; done))); (focus (intro w; go_simp; with_reducible rfl)); go_simp)
            apply SeqF.store [0] 0 S (.cells (rwb 16 (upT k (shF g))) 28 (0, 0)) rfl (by simp) (fun _ => .cells (rwb 16 (upT (k + 1) (shF g))) 28 (0, 0))
            · exact fun _ _ => rfl
            · (first | rfl | (go_simp; done) | (simp [Region.wanted, yielded]; done))
            · exact fun γ' W hg hI hW => exec_stc rfl rfl rfl hk16 (fun j _ => upT_step HSH.out j) hW
            go_simp
            apply SeqF.done
            intro w9 hI9
            have hS9 := hS.next hI9 (Gh.set_here _ _ _)
            clear hI9 hS
            go_simp
            go_wp2_with fail
            go_roundw
            case rel =>
              first
                | exact ⟨k + 1, by omega, by go_num, hS9⟩
                | ((repeat apply Exists.intro); refine ⟨?_, rfl⟩; exact ⟨k + 1, by omega, by go_num, hS9⟩)
            case measure => first | (simp [intOf]; done) | (simp [intOf]; omega)
          case hl => rfl
          case ho => kernel_rfl
        · obtain rfl : k = 16 := by omega
          have hS2 := hS.congr (s' := shF g) (fun j hj => if_pos hj)
          clear hS
          obtain ⟨h, hh⟩ : ∃ h, shF g = h := ⟨_, rfl⟩
          have HHB : Hid (∀ j, 0 ≤ h j ∧ h j ≤ 255) := Lib.hid (fun j => by rw [← hh]; exact shF_b HGB.out j)
          rw [hh] at hS2
          have HH := Lib.hid hh
          clear hh
          by_cases hr10 : R < 10
          · have hr10i : (R : Int) < 10 := by omega
            obtain ⟨M, hMs⟩ : ∃ M, wr.heap.size = M := ⟨_, rfl⟩
            obtain ⟨V2, hV2⟩ : ∃ V2, wr.alloc (.cells (rwb 16 fun _ => 0) 28) = V2 := ⟨_, rfl⟩
            have hM : RM w V2 N T S M K g h (upT (4 * 0) (mixF h)) := by
              rw [← hV2, ← hMs]
              exact (hS2.alloc (m := fun _ => 0) _ rfl).congr (fun j _ => (if_neg (by omega)).symm)
            clear hS2
            go_wp2_with fail
            try rw [zeros16]
            try rw [hV2]
            try rw [hMs]
            clear hV2 hMs
            go_loopw [11] (fun i wr => ∃ c : Nat, c ≤ 4 ∧ i = .int .i64 c ∧ RM w wr N T S M K g h (upT (4 * c) (mixF h))) (fun i _ => 4 - (intOf i).toNat)
            case atStart => exact ⟨0, by omega, rfl, hM⟩
            case round =>
              clear hM
              obtain ⟨c, hc, rfl, hM⟩ := hrel
              by_cases hc4 : c < 4
              · have hci : (c : Int) < 4 := by omega
                have hc0 : (0 : Int) ≤ (c : Int) := by omega
                go_wp2_with fail
                go_loopw [12] (fun i wr => ∃ k : Nat, k ≤ 4 ∧ i = .int .i64 k ∧ RM w wr N T S M K g h (upT (4 * c + k) (mixF h))) (fun i _ => 4 - (intOf i).toNat)
                case atStart => exact ⟨0, by omega, rfl, hM⟩
                case round =>
                  clear hM
                  obtain ⟨k, hk, rfl, hM⟩ := hrel
                  by_cases hk4 : k < 4
                  · as_aux_lemma =>
                      have hki : (k : Int) < 4 := by omega
                      have hk0 : (0 : Int) ≤ (k : Int) := by omega
                      have hci : (c : Int) < 4 := by omega
                      obtain ⟨m, hcm⟩ : ∃ m, 4 * c = m := ⟨_, rfl⟩
                      rw [hcm] at hM
                      have HCM := Lib.hid hcm
                      obtain ⟨k1, hk1⟩ : ∃ t, (k + 1) % 4 = t := ⟨_, rfl⟩
                      obtain ⟨k2, hk2⟩ : ∃ t, (k + 2) % 4 = t := ⟨_, rfl⟩
                      obtain ⟨k3, hk3⟩ : ∃ t, (k + 3) % 4 = t := ⟨_, rfl⟩
                      obtain ⟨y0, hy0⟩ := Int.eq_ofNat_of_zero_le (HHB.out (m + k)).1
                      obtain ⟨y1, hy1⟩ := Int.eq_ofNat_of_zero_le (HHB.out (m + k1)).1
                      obtain ⟨y2, hy2⟩ := Int.eq_ofNat_of_zero_le (HHB.out (m + k2)).1
                      obtain ⟨y3, hy3⟩ := Int.eq_ofNat_of_zero_le (HHB.out (m + k3)).1
                      have hl0 : y0 < 256 := by have := HHB.out (m + k); omega
                      have hl1 : y1 < 256 := by have := HHB.out (m + k1); omega
                      have hl2 : y2 < 256 := by have := HHB.out (m + k2); omega
                      have hl3 : y3 < 256 := by have := HHB.out (m + k3); omega
                      have HZ0 := Lib.hid (mixF_ref (m := m) (by omega) hk4 hk1 hk2 hk3 hy0 hy1 hy2 hy3 hl0 hl1 hl2 hl3)
                      obtain ⟨q0, hq0⟩ : ∃ q, mul y0 2 = q := ⟨_, rfl⟩
                      obtain ⟨q1, hq1⟩ : ∃ q, mul y1 3 = q := ⟨_, rfl⟩
                      have HZ := Lib.hid HZ0.out
                      rw [hq0, hq1] at HZ
                      clear HZ0
                      have HY0 := Lib.hid hy0
                      have HY1 := Lib.hid hy1
                      have HY2 := Lib.hid hy2
                      have HY3 := Lib.hid hy3
                      have HQ0 := Lib.hid hq0
                      have HQ1 := Lib.hid hq1
                      obtain ⟨hb0, hb1, hb2, hb3, hi0, hi1, hi2, hi3, hj0, hj1, hj2, hj3, hn0, hn1, hn2, hn3, hwc, hw0, hw1, hw2, hw3, hx1, hx2, hx3, ht1, ht2, ht3⟩ := ix4 hc4 hcm hk4 hk1 hk2 hk3
                      clear hk1 hk2 hk3 hy0 hy1 hy2 hy3 hq0 hq1 hcm
                      go_wp2_with fail
                      apply wp_region_eff _ _ hM.inv (hm := by kernel_rfl)
                      case h =>
                        (apply SeqF.pure; (focus (first | rfl | (go_simp; done) | (simp [Region.wanted, yielded]; done))); (focus (intro w; go_simp; with_reducible rfl)); go_simp)
                        (apply SeqF.pure; (focus (first | rfl | (go_simp; done) | (simp [Region.wanted, yielded]; done))); (focus (intro w; go_simp; with_reducible rfl)); go_simp)
                        (apply SeqF.pure; (focus (first | rfl | (go_simp; done) | (simp [Region.wanted, yielded]; done))); (focus (intro w; go_simp; with_reducible rfl)); go_simp)
                        (apply SeqF.pure; (focus (first | rfl | (go_simp; done) | (simp [Region.wanted, yielded]; done))); (focus (intro w; go_simp; with_reducible rfl)); go_simp)
                        (apply SeqF.pure; (focus (first | rfl | (go_simp; done) | (simp [Region.wanted, yielded]; done))); (focus (intro w; go_simp; with_reducible rfl)); go_simp)
                        (apply SeqF.pure; (focus (first | rfl | (go_simp; done) | (simp [Region.wanted, yielded]; done))); (focus (intro w; go_simp; with_reducible rfl)); go_simp)
                        (apply SeqF.pure; (focus (first | rfl | (go_simp; done) | (simp [Region.wanted, yielded]; done))); (focus (intro w; go_simp; with_reducible rfl)); go_simp)
                        (apply SeqF.pure; (focus (first | rfl | (go_simp; done) | (simp [Region.wanted, yielded]; done))); (focus (intro w; go_simp; with_reducible rfl)); go_simp)
                        (apply SeqF.pure; (focus (first | rfl | (go_simp; done) | (simp [Region.wanted, yielded]; done))); (focus (intro w; go_simp; with_reducible rfl)); go_simp)
                        apply SeqF.read (v := .int .u8 (y0 : Nat)) []
                        · (first | rfl | (go_simp; done) | (simp [Region.wanted, yielded]; done))
                        · intro γ' W hg hI
                          have x0 : W.cell? ⟨S, m + k, none⟩ = some (.int .u8 (h (m + k))) := cell_rwb ((hI.far S (lt_of_heap hM.r.hS) (by have := hM.lt; omega)).trans hM.r.hS) hb0
                          rw [HY0.out] at x0
                          go_simp
                        go_simp
                        apply SeqF.call (v := .int .u8 (q0 : Nat)) [] 9 #[.int .u8 (y0 : Nat), .int .u8 2]
                        · (first | rfl | (go_simp; done) | (simp [Region.wanted, yielded]; done))
                        · intro w; kernel_rfl
                        · exact fun γ' W hg hI => (rtimes_any y0 2 W hl0 (by omega)).mono (by rintro e W' ⟨rfl, rfl⟩; exact ⟨by rw [HQ0.out], hI⟩)
                        go_simp
                        (apply SeqF.pure; (focus (first | rfl | (go_simp; done) | (simp [Region.wanted, yielded]; done))); (focus (intro w; go_simp; with_reducible rfl)); go_simp)
                        (apply SeqF.pure; (focus (first | rfl | (go_simp; done) | (simp [Region.wanted, yielded]; done))); (focus (intro w; go_simp; with_reducible rfl)); go_simp)
                        (apply SeqF.pure; (focus (first | rfl | (go_simp; done) | (simp [Region.wanted, yielded]; done))); (focus (intro w; go_simp; with_reducible rfl)); go_simp)
                        (apply SeqF.pure; (focus (first | rfl | (go_simp; done) | (simp [Region.wanted, yielded]; done))); (focus (intro w; go_simp; with_reducible rfl)); go_simp)
                        (apply SeqF.pure; (focus (first | rfl | (go_simp; done) | (simp [Region.wanted, yielded]; done))); (focus (intro w; go_simp; with_reducible rfl)); go_simp)
                        (apply SeqF.pure; (focus (first | rfl | (go_simp; done) | (simp [Region.wanted, yielded]; done))); (focus (intro w; go_simp; with_reducible rfl)); go_simp)
                        (apply SeqF.pure; (focus (first | rfl | (go_simp; done) | (simp [Region.wanted, yielded]; done))); (focus (intro w; go_simp; with_reducible rfl)); go_simp)
                        apply SeqF.read (v := .int .u8 (y1 : Nat)) []
                        · (first | rfl | (go_simp; done) | (simp [Region.wanted, yielded]; done))
                        · intro γ' W hg hI
                          have x0 : W.cell? ⟨S, m + k1, none⟩ = some (.int .u8 (h (m + k1))) := cell_rwb ((hI.far S (lt_of_heap hM.r.hS) (by have := hM.lt; omega)).trans hM.r.hS) hb1
                          rw [HY1.out] at x0
                          go_simp
                        go_simp
                        apply SeqF.call (v := .int .u8 (q1 : Nat)) [] 9 #[.int .u8 (y1 : Nat), .int .u8 3]
                        · (first | rfl | (go_simp; done) | (simp [Region.wanted, yielded]; done))
                        · intro w; kernel_rfl
                        · exact fun γ' W hg hI => (rtimes_any y1 3 W hl1 (by omega)).mono (by rintro e W' ⟨rfl, rfl⟩; exact ⟨by rw [HQ1.out], hI⟩)
                        go_simp
                        (apply SeqF.pure; (focus (first | rfl | (go_simp; done) | (simp [Region.wanted, yielded]; done))); (focus (intro w; go_simp; with_reducible rfl)); go_simp)
                        (apply SeqF.pure; (focus (first | rfl | (go_simp; done) | (simp [Region.wanted, yielded]; done))); (focus (intro w; go_simp; with_reducible rfl)); go_simp)
                        (apply SeqF.pure; (focus (first | rfl | (go_simp; done) | (simp [Region.wanted, yielded]; done))); (focus (intro w; go_simp; with_reducible rfl)); go_simp)
                        (apply SeqF.pure; (focus (first | rfl | (go_simp; done) | (simp [Region.wanted, yielded]; done))); (focus (intro w; go_simp; with_reducible rfl)); go_simp)
                        (apply SeqF.pure; (focus (first | rfl | (go_simp; done) | (simp [Region.wanted, yielded]; done))); (focus (intro w; go_simp; with_reducible rfl)); go_simp)
                        (apply SeqF.pure; (focus (first | rfl | (go_simp; done) | (simp [Region.wanted, yielded]; done))); (focus (intro w; go_simp; with_reducible rfl)); go_simp)
                        (apply SeqF.pure; (focus (first | rfl | (go_simp; done) | (simp [Region.wanted, yielded]; done))); (focus (intro w; go_simp; with_reducible rfl)); go_simp)
                        (apply SeqF.pure; (focus (first | rfl | (go_simp; done) | (simp [Region.wanted, yielded]; done))); (focus (intro w; go_simp; with_reducible rfl)); go_simp)
                        apply SeqF.read (v := .int .u8 (y2 : Nat)) []
                        · (first | rfl | (go_simp; done) | (simp [Region.wanted, yielded]; done))
                        · intro γ' W hg hI
                          have x0 : W.cell? ⟨S, m + k2, none⟩ = some (.int .u8 (h (m + k2))) := cell_rwb ((hI.far S (lt_of_heap hM.r.hS) (by have := hM.lt; omega)).trans hM.r.hS) hb2
                          rw [HY2.out] at x0
                          go_simp
                        go_simp
                        (apply SeqF.pure; (focus (first | rfl | (go_simp; done) | (simp [Region.wanted, yielded]; done))); (focus (intro w; go_simp; with_reducible rfl)); go_simp)
                        (apply SeqF.pure; (focus (first | rfl | (go_simp; done) | (simp [Region.wanted, yielded]; done))); (focus (intro w; go_simp; with_reducible rfl)); go_simp)
                        (apply SeqF.pure; (focus (first | rfl | (go_simp; done) | (simp [Region.wanted, yielded]; done))); (focus (intro w; go_simp; with_reducible rfl)); go_simp)
                        (apply SeqF.pure; (focus (first | rfl | (go_simp; done) | (simp [Region.wanted, yielded]; done))); (focus (intro w; go_simp; with_reducible rfl)); go_simp)
                        (apply SeqF.pure; (focus (first | rfl | (go_simp; done) | (simp [Region.wanted, yielded]; done))); (focus (intro w; go_simp; with_reducible rfl)); go_simp)
                        (apply SeqF.pure; (focus (first | rfl | (go_simp; done) | (simp [Region.wanted, yielded]; done))); (focus (intro w; go_simp; with_reducible rfl)); go_simp)
                        (apply SeqF.pure; (focus (first | rfl | (go_simp; done) | (simp [Region.wanted, yielded]; done))); (focus (intro w; go_simp; with_reducible rfl)); go_simp)
                        (apply SeqF.pure; (focus (first | rfl | (go_simp; done) | (simp [Region.wanted, yielded]; done))); (focus (intro w; go_simp; with_reducible rfl)); go_simp)
                        apply SeqF.read (v := .int .u8 (y3 : Nat)) []
                        · (first | rfl | (go_simp; done) | (simp [Region.wanted, yielded]; done))
                        · intro γ' W hg hI
                          have x0 : W.cell? ⟨S, m + k3, none⟩ = some (.int .u8 (h (m + k3))) := cell_rwb ((hI.far S (lt_of_heap hM.r.hS) (by have := hM.lt; omega)).trans hM.r.hS) hb3
                          rw [HY3.out] at x0
                          go_simp
                        go_simp
                        (apply SeqF.pure; (focus (first | rfl | (go_simp; done) | (simp [Region.wanted, yielded]; done))); (focus (intro w; go_simp; with_reducible rfl)); go_simp)
                        (apply SeqF.pure; (focus (first | rfl | (go_simp; done) | (simp [Region.wanted, yielded]; done))); (focus (intro w; go_simp; with_reducible rfl)); go_simp)
                        apply SeqF.store [0] 0 M (.cells (rwb 16 (upT (m + k) (mixF h))) 28 (0, 0)) rfl (by simp) (fun _ => .cells (rwb 16 (upT (m + k + 1) (mixF h))) 28 (0, 0))
                        · exact fun _ _ => rfl
                        · (first | rfl | (go_simp; done) | (simp [Region.wanted, yielded]; done))
                        · exact fun γ' W hg hI hW => exec_stc rfl rfl rfl hb0 (fun j _ => upT_step HZ.out j) hW
                        go_simp
                        apply SeqF.done
                        intro w9 hI9
                        have hM9 : RM w w9 N T S M K g h (upT (4 * c + (k + 1)) (mixF h)) := by
                          rw [HCM.out]
                          exact hM.next hI9 (Gh.set_here _ _ _)
                        clear hI9 hM
                        go_simp
                        go_wp2_with fail
                        go_roundw
                        case rel =>
                          first
                            | exact ⟨k + 1, by omega, by go_num, hM9⟩
                            | ((repeat apply Exists.intro); refine ⟨?_, rfl⟩; exact ⟨k + 1, by omega, by go_num, hM9⟩)
                        case measure => first | (simp [intOf]; done) | (simp [intOf]; omega)
                      case hl => rfl
                      case ho => kernel_rfl
                  · obtain rfl : k = 4 := by omega
                    have hM9 : RM w wr N T S M K g h (upT (4 * (c + 1)) (mixF h)) := by rw [show 4 * (c + 1) = 4 * c + 4 by omega]; exact hM
                    go_wp2_with fail
                    go_roundw
                    case rel =>
                      first
                        | exact ⟨c + 1, by omega, by go_num, hM9⟩
                        | ((repeat apply Exists.intro); refine ⟨?_, rfl⟩; exact ⟨c + 1, by omega, by go_num, hM9⟩)
                    case measure => first | (simp [intOf]; done) | (simp [intOf]; omega)
              · obtain rfl : c = 4 := by omega
                have hM2 := hM.congr (m' := mixF h) (fun j hj => if_pos (by omega))
                clear hM
                obtain ⟨h2, hh2⟩ : ∃ h2, mixF h = h2 := ⟨_, rfl⟩
                have HST : Hid (addF h2 K R = stF K b R) := Lib.hid (by
                  rw [← hh2, ← HH.out, ← HG.out, HRr.out]
                  show _ = addF (if r + 1 < 10 then mixF (shF (stF K b r)) else shF (stF K b r)) K (r + 1)
                  rw [if_pos (by have := HRr.out; omega)])
                rw [hh2] at hM2
                clear hh2
                go_wp2_with (first | (with_reducible refine wpList_ld rowBlock rfl (.tmp 10) rfl rfl hM2.hM (by omega) (G := h2) (fun j _ => by rw [Nat.zero_add]) ?_) | (with_reducible refine wpList_st rowBlock rfl (.tmp 6) (.tmp 96) rfl rfl rfl hM2.r.hS ?_))
                have hS := hM2.setS h2
                generalize wr.setRow S (rwb 16 h2) = W3 at *
                clear hM2
                go_wp2_with fail
                apply wp_region_eff _ _ hS.e.inv (hm := by kernel_rfl)
                case h =>
                  apply SeqF.read (v := .agg (rwb 16 h2)) []
                  · (first | rfl | (go_simp; done) | (simp [Region.wanted, yielded]; done))
                  · exact fun γ' W hg hI => exec_load rfl rfl (run_load_rwb rowBlock ((hI.far S (lt_of_heap hS.hS) (by have := hS.lt; omega)).trans hS.hS) (by omega) (fun j _ => by rw [Nat.zero_add]))
                  go_simp
                  (apply SeqF.pure; (focus (first | rfl | (go_simp; done) | (simp [Region.wanted, yielded]; done))); (focus (intro w; go_simp; with_reducible rfl)); go_simp)
                  (apply SeqF.pure; (focus (first | rfl | (go_simp; done) | (simp [Region.wanted, yielded]; done))); (focus (intro w; go_simp; with_reducible rfl)); go_simp)
                  (apply SeqF.pure; (focus (first | rfl | (go_simp; done) | (simp [Region.wanted, yielded]; done))); (focus (intro w; go_simp; with_reducible rfl)); go_simp)
                  apply SeqF.read (v := .agg (rwb 16 fun j => K (16 * R + j))) []
                  · (first | rfl | (go_simp; done) | (simp [Region.wanted, yielded]; done))
                  · exact fun γ' W hg hI => exec_load rfl rfl (run_load_cells rowBlock (row_crow ((hI.far N (lt_of_heap hS.e.hC) (by omega)).trans hS.e.hC) (r := R) (by omega)))
                  go_simp
                  apply SeqF.call (v := .agg (rwb 16 (stF K b R))) [] 29 #[.agg (rwb 16 h2), .agg (rwb 16 fun j => K (16 * R + j))]
                  · (first | rfl | (go_simp; done) | (simp [Region.wanted, yielded]; done))
                  · intro w; kernel_rfl
                  · exact fun γ' W hg hI => (ragainst_any _ _ W).mono (by rintro e W' ⟨rfl, hb⟩; exact ⟨by rw [← HST.out]; rfl, hI.below hb⟩)
                  go_simp
                  apply SeqF.store [0] 0 (N + 1) (.cells (rwb 16 g) 28 (0, 0)) rfl (by simp) (fun _ => .cells (rwb 16 (stF K b R)) 28 (0, 0))
                  · exact fun _ _ => rfl
                  · (first | rfl | (go_simp; done) | (simp [Region.wanted, yielded]; done))
                  · exact fun γ' W hg hI hW => ⟨_, exec_store rfl rfl rfl (run_store_rwb rowBlock hW), only_setRow hW⟩
                  go_simp
                  apply SeqF.done
                  intro w9 hI9
                  have hE9 : RE w w9 N T K (stF K b (R + 1 - 1)) := hS.e.nextB hI9 (Gh.set_here _ _ _)
                  clear hI9 hS
                  go_simp
                  go_wp2_with fail
                  go_roundw
                  case rel =>
                    first
                      | exact ⟨R + 1, by omega, by omega, by go_num, hE9⟩
                      | ((repeat apply Exists.intro); refine ⟨?_, rfl⟩; exact ⟨R + 1, by omega, by omega, by go_num, hE9⟩)
                  case measure => first | (simp [intOf]; done) | (simp [intOf]; omega)
                case hl => rfl
                case ho => kernel_rfl
          · have hr10i : ¬ (R : Int) < 10 := by omega
            have HST : Hid (addF h K R = stF K b R) := Lib.hid (by
              rw [← HH.out, ← HG.out, HRr.out]
              show _ = addF (if r + 1 < 10 then mixF (shF (stF K b r)) else shF (stF K b r)) K (r + 1)
              rw [if_neg (by have := HRr.out; omega)])
            obtain ⟨h2, hh2⟩ : ∃ h2, h = h2 := ⟨_, rfl⟩
            rw [hh2] at hS2 HST
            have hS := hS2
            clear hS2 hh2
            go_wp2_with fail
            apply wp_region_eff _ _ hS.e.inv (hm := by kernel_rfl)
            case h =>
              apply SeqF.read (v := .agg (rwb 16 h2)) []
              · (first | rfl | (go_simp; done) | (simp [Region.wanted, yielded]; done))
              · exact fun γ' W hg hI => exec_load rfl rfl (run_load_rwb rowBlock ((hI.far S (lt_of_heap hS.hS) (by have := hS.lt; omega)).trans hS.hS) (by omega) (fun j _ => by rw [Nat.zero_add]))
              go_simp
              (apply SeqF.pure; (focus (first | rfl | (go_simp; done) | (simp [Region.wanted, yielded]; done))); (focus (intro w; go_simp; with_reducible rfl)); go_simp)
              (apply SeqF.pure; (focus (first | rfl | (go_simp; done) | (simp [Region.wanted, yielded]; done))); (focus (intro w; go_simp; with_reducible rfl)); go_simp)
              (apply SeqF.pure; (focus (first | rfl | (go_simp; done) | (simp [Region.wanted, yielded]; done))); (focus (intro w; go_simp; with_reducible rfl)); go_simp)
              apply SeqF.read (v := .agg (rwb 16 fun j => K (16 * R + j))) []
              · (first | rfl | (go_simp; done) | (simp [Region.wanted, yielded]; done))
              · exact fun γ' W hg hI => exec_load rfl rfl (run_load_cells rowBlock (row_crow ((hI.far N (lt_of_heap hS.e.hC) (by omega)).trans hS.e.hC) (r := R) (by omega)))
              go_simp
              apply SeqF.call (v := .agg (rwb 16 (stF K b R))) [] 29 #[.agg (rwb 16 h2), .agg (rwb 16 fun j => K (16 * R + j))]
              · (first | rfl | (go_simp; done) | (simp [Region.wanted, yielded]; done))
              · intro w; kernel_rfl
              · exact fun γ' W hg hI => (ragainst_any _ _ W).mono (by rintro e W' ⟨rfl, hb⟩; exact ⟨by rw [← HST.out]; rfl, hI.below hb⟩)
              go_simp
              apply SeqF.store [0] 0 (N + 1) (.cells (rwb 16 g) 28 (0, 0)) rfl (by simp) (fun _ => .cells (rwb 16 (stF K b R)) 28 (0, 0))
              · exact fun _ _ => rfl
              · (first | rfl | (go_simp; done) | (simp [Region.wanted, yielded]; done))
              · exact fun γ' W hg hI hW => ⟨_, exec_store rfl rfl rfl (run_store_rwb rowBlock hW), only_setRow hW⟩
              go_simp
              apply SeqF.done
              intro w9 hI9
              have hE9 : RE w w9 N T K (stF K b (R + 1 - 1)) := hS.e.nextB hI9 (Gh.set_here _ _ _)
              clear hI9 hS
              go_simp
              go_wp2_with fail
              go_roundw
              case rel =>
                first
                  | exact ⟨R + 1, by omega, by omega, by go_num, hE9⟩
                  | ((repeat apply Exists.intro); refine ⟨?_, rfl⟩; exact ⟨R + 1, by omega, by omega, by go_num, hE9⟩)
              case measure => first | (simp [intOf]; done) | (simp [intOf]; omega)
            case hl => rfl
            case ho => kernel_rfl
    · obtain rfl : R = 11 := by omega
      obtain rfl : r = 10 := by have := HRr.out; omega
      go_wp2_with (first | (with_reducible refine wpList_ld rowBlock rfl (.tmp 3) rfl rfl hE.hB (by omega) (G := stF K b 10) (fun j _ => by rw [Nat.zero_add]) ?_) | (with_reducible refine wpList_st rowBlock rfl (.tmp 4) (.tmp 103) rfl rfl rfl hE.hR ?_))
      refine bodyPost_ret (v := .agg (rwb 16 (stF K b 10))) ?_ rfl ?_
      · exact results_cell (fn := Try.f28) Try.results28 rfl (run_loadVar_rwb rowBlock (setRow_heap _ _ _ _ _ _ hE.hR) (by omega) (fun j _ => by rw [Nat.zero_add]))
      · exact ⟨rfl, by have l := hE.lt; rw [l.2]; exact below_setRow hE.hL (by omega) _⟩
end Go.Proofs.Ytppponobefljgaa
