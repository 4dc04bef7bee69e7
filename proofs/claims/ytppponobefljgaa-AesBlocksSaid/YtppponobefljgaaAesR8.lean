/- What is proved: what Decrypt of the reference answers when it is called; conditions: the key and the block are sixteen bytes. -/
import Derived.Test.YtppponobefljgaaAesR7
set_option linter.unusedSimpArgs false
set_option linter.unusedVariables false
namespace Go.Proofs.Ytppponobefljgaa
open Go.RowKit
set_option maxRecDepth 100000
set_option maxHeartbeats 8000000
/-- What lies where while the reference decrypts: the table, the cipher, the table back, the block, the answer's place. -/
structure RD (w wr : World) (N T C U : Nat) (K g u : Nat → Int) : Prop where
  hT : wr.heap[T]? = some (.cells (rwb 256 subI) 35 (0, 0))
  hC : wr.heap[C]? = some (.cells (crow T K) 47 (0, 0))
  hU : wr.heap[U]? = some (.cells (rwb 256 u) 35 (0, 0))
  hB : wr.heap[N + 1]? = some (.cells (rwb 16 g) 28 (0, 0))
  hR : wr.heap[N + 1 + 1]? = some (.cells (rwb 16 fun _ => 0) 28 (0, 0))
  hL : Below N w wr
  lt : N + 1 + 1 < T ∧ T < C ∧ C < U ∧ w.heap.size = N
/-- The same with a block more. -/
structure RDS (w wr : World) (N T C U S : Nat) (K g u s : Nat → Int) : Prop where
  e : RD w wr N T C U K g u
  hS : wr.heap[S]? = some (.cells (rwb 16 s) 28 (0, 0))
  lt : U < S
/-- The same with two blocks more. -/
structure RDM (w wr : World) (N T C U S M : Nat) (K g u s m : Nat → Int) : Prop where
  r : RDS w wr N T C U S K g u s
  hM : wr.heap[M]? = some (.cells (rwb 16 m) 28 (0, 0))
  lt : S < M
section
variable {w wr w1 : World} {N T C U S M : Nat} {K g u s m : Nat → Int} {γ : Gh}
theorem RD.keep (h : RD w wr N T C U K g u) {P : Nat → Prop} (hI : Inv wr P γ w1) (hP : ∀ x, P x → U < x) : RD w w1 N T C U K g u := by
  have l := h.lt
  have no : ∀ x, x ≤ U → ¬ P x := fun x hx hp => by have := hP x hp; omega
  exact ⟨(hI.far T (lt_of_heap h.hT) (no _ (by omega))).trans h.hT, (hI.far C (lt_of_heap h.hC) (no _ (by omega))).trans h.hC, (hI.far U (lt_of_heap h.hU) (no _ (by omega))).trans h.hU, (hI.far (N + 1) (lt_of_heap h.hB) (no _ (by omega))).trans h.hB, (hI.far (N + 1 + 1) (lt_of_heap h.hR) (no _ (by omega))).trans h.hR, hI.belowS h.hL (by have := lt_of_heap h.hC; omega) (fun x hx => by have := hP x hx; omega), h.lt⟩
theorem RD.new (h : RD w wr N T C U K g u) (hI : Inv wr (fun _ => False) γ w1) (hS : wr.heap.size ≤ S) (hγ : γ 0 = some (S, .cells (rwb 16 s) 28 (0, 0))) : RDS w w1 N T C U S K g u s :=
  ⟨h.keep hI (fun _ hx => hx.elim), (hI.here 0 S _ hγ).1, by have := lt_of_heap h.hU; omega⟩
theorem RDM.next (h : RDM w wr N T C U S M K g u s m) {m' : Nat → Int} (hI : Inv wr (fun x => x = M) γ w1) (hγ : γ 0 = some (M, .cells (rwb 16 m') 28 (0, 0))) : RDM w w1 N T C U S M K g u s m' :=
  ⟨⟨h.r.e.keep hI (by rintro x rfl; have := h.r.lt; have := h.lt; omega), (hI.far S (lt_of_heap h.r.hS) (by have := h.lt; omega)).trans h.r.hS, h.r.lt⟩, (hI.here 0 M _ hγ).1, h.lt⟩
theorem RDM.inv (h : RDM w wr N T C U S M K g u s m) : Inv wr (fun x => x = M) (gh2 (some (M, .cells (rwb 16 m) 28 (0, 0))) none) wr.drew := Inv.start2 h.hM rfl (by rintro g o h; cases h)
theorem RDS.alloc (h : RDS w wr N T C U S K g u s) (c : Obj) (hc : c = .cells (rwb 16 m) 28 (0, 0)) : RDM w (wr.alloc c) N T C U S wr.heap.size K g u s m := by
  subst hc
  have l := h.e.lt
  have l2 := h.lt
  have h5 := lt_of_heap h.hS
  refine ⟨⟨⟨?_, ?_, ?_, ?_, ?_, h.e.hL.alloc (by omega) _, h.e.lt⟩, ?_, h.lt⟩, heap_alloc_last _ _, h5⟩
  · rw [heap_alloc_if, if_neg (by omega)]; exact h.e.hT
  · rw [heap_alloc_if, if_neg (by omega)]; exact h.e.hC
  · rw [heap_alloc_if, if_neg (by omega)]; exact h.e.hU
  · rw [heap_alloc_if, if_neg (by omega)]; exact h.e.hB
  · rw [heap_alloc_if, if_neg (by omega)]; exact h.e.hR
  · rw [heap_alloc_if, if_neg (by omega)]; exact h.hS
theorem RDS.congr (h : RDS w wr N T C U S K g u s) {g' : Nat → Int} (hs : ∀ j, j < 16 → g j = g' j) : RDS w wr N T C U S K g' u s := ⟨⟨h.e.hT, h.e.hC, h.e.hU, by rw [h.e.hB, rwb_congr hs], h.e.hR, h.e.hL, h.e.lt⟩, h.hS, h.lt⟩
theorem RD.congrU (h : RD w wr N T C U K g u) {u' : Nat → Int} (hs : ∀ j, j < 256 → u j = u' j) : RD w wr N T C U K g u' := ⟨h.hT, h.hC, by rw [h.hU, rwb_congr hs], h.hB, h.hR, h.hL, h.lt⟩
theorem RDM.congr (h : RDM w wr N T C U S M K g u s m) {m' : Nat → Int} (hs : ∀ j, j < 16 → m j = m' j) : RDM w wr N T C U S M K g u s m' := ⟨h.r, by rw [h.hM, rwb_congr hs], h.lt⟩
theorem RDM.setS (h : RDM w wr N T C U S M K g u s m) (s' : Nat → Int) : RDS w (wr.setRow S (rwb 16 s')) N T C U S K g u s' := by
  have l := h.r.lt
  have l2 := h.r.e.lt
  refine ⟨⟨?_, ?_, ?_, ?_, ?_, below_setRow h.r.e.hL (by omega) _, h.r.e.lt⟩, setRow_heap _ _ _ _ _ _ h.r.hS, l⟩
  · rw [heap_setRow_if, if_neg (by omega)]; exact h.r.e.hT
  · rw [heap_setRow_if, if_neg (by omega)]; exact h.r.e.hC
  · rw [heap_setRow_if, if_neg (by omega)]; exact h.r.e.hU
  · rw [heap_setRow_if, if_neg (by omega)]; exact h.r.e.hB
  · rw [heap_setRow_if, if_neg (by omega)]; exact h.r.e.hR
theorem far_cell {b o g : Nat} {x : Value} {ob : Obj} (h : wr.heap[g]? = some ob) (hne : g ≠ b) : (wr.setCell ⟨b, o, none⟩ x).heap[g]? = some ob := (heap_setCell_other _ ⟨_, _, _⟩ _ _ (fun e => hne (by simpa using e))).trans h
theorem RDS.setB (h : RDS w wr N T C U S K g u s) {i : Nat} {v : Int} {g' : Nat → Int} (hi : i < 16) (hG : ∀ j, j < 16 → upd g i v j = g' j) : RDS w (wr.setCell ⟨N + 1, i, none⟩ (.int .u8 v)) N T C U S K g' u s := by
  have l := h.e.lt
  have l2 := h.lt
  exact ⟨⟨far_cell h.e.hT (by omega), far_cell h.e.hC (by omega), far_cell h.e.hU (by omega), shut_row h.e.hB hi hG, far_cell h.e.hR (by omega), h.e.hL.setCell (by simp) _, l⟩, far_cell h.hS (by omega), l2⟩
theorem RD.setU (h : RD w wr N T C U K g u) {i : Nat} {v : Int} {u' : Nat → Int} (hi : i < 256) (hG : ∀ j, j < 256 → upd u i v j = u' j) : RD w (wr.setCell ⟨U, i, none⟩ (.int .u8 v)) N T C U K g u' := by
  have l := h.lt
  exact ⟨far_cell h.hT (by omega), far_cell h.hC (by omega), shut_row h.hU hi hG, far_cell h.hB (by omega), far_cell h.hR (by omega), h.hL.setCell (by show N ≤ U; omega) _, l⟩
end
/-- So many bytes turned back. -/
def bkP (g s : Nat → Int) (k j : Nat) : Int := if 4 * ((j / 4 + 4 - j % 4) % 4) + j % 4 < k then shU s j else g j
theorem bk_ix : ∀ j, j < 16 → ∀ k, k < 16 → (4 * ((j / 4 + 4 - j % 4) % 4) + j % 4 = k ↔ j = 4 * ((k / 4 + k % 4) % 4) + k % 4) := by decide +kernel
theorem bkP_step {g s : Nat → Int} {k p : Nat} {y : Nat} (hk : k < 16) (hp : 4 * ((k / 4 + k % 4) % 4) + k % 4 = p) (hy : s k = (y : Int)) (j : Nat) (hj : j < 16) : upd (bkP g s k) p (unsI y) j = bkP g s (k + 1) j := by
  have h1 := bk_ix j hj k hk
  unfold upd bkP
  by_cases e : j = p
  · rw [if_pos e]
    have h2 := h1.2 (by omega)
    rw [if_pos (by omega)]
    unfold shU
    rw [h2, hy]
    unfold unB
    rw [Int.toNat_natCast]
  · rw [if_neg e]
    have h2 : ¬ (4 * ((j / 4 + 4 - j % 4) % 4) + j % 4 = k) := fun h => e (by rw [← hp]; exact h1.1 h)
    by_cases h3 : 4 * ((j / 4 + 4 - j % 4) % 4) + j % 4 < k
    · rw [if_pos h3, if_pos (by omega)]
    · rw [if_neg h3, if_neg (by omega)]
theorem bkP_all {g s : Nat → Int} (j : Nat) (hj : j < 16) : bkP g s 16 j = shU s j := if_pos (by omega)
theorem rdec_any (key b : Nat → Int) (hk : By key) (hb : By b) (w : World) : Calls Try.prog 19 #[.agg (rwb 16 key), .agg (rwb 16 b)] w fun e w' => e = .returned (.agg (rwb 16 (decF key b))) ∧ Below w.heap.size w w' := by
  have hz1 := zero47
  have hz2 := zeros256
  have HBB := Lib.hid hb
  clear hb
  obtain ⟨K, hK⟩ : ∃ K, kw key = K := ⟨_, rfl⟩
  have HKK := Lib.hid hK
  obtain ⟨N, hN⟩ : ∃ N, w.heap.size = N := ⟨_, rfl⟩
  go_enter Try.func19, Try.ntmps19
  obtain ⟨V, hV⟩ : ∃ V, ((w.alloc (.cells (rwb 16 key) 28)).alloc (.cells (rwb 16 b) 28)).alloc (.cells (rwb 16 fun _ => 0) 28) = V := ⟨_, rfl⟩
  have HK0 : Hid (V.heap[N]? = some (.cells (rwb 16 key) 28 (0, 0))) := Lib.hid (by rw [← hV, ← hN]; (simp only [heap_setRow_if, heap_alloc_if, heap_setCell_if, World.size_alloc, size_setRow, World.size_setCell]; simp) <;> (intros; omega))
  have HB0 : Hid (V.heap[N + 1]? = some (.cells (rwb 16 b) 28 (0, 0))) := Lib.hid (by rw [← hV, ← hN]; (simp only [heap_setRow_if, heap_alloc_if, heap_setCell_if, World.size_alloc, size_setRow, World.size_setCell]; simp) <;> (intros; omega))
  have HR0 : Hid (V.heap[N + 1 + 1]? = some (.cells (rwb 16 fun _ => 0) 28 (0, 0))) := Lib.hid (by rw [← hV, ← hN]; (simp only [heap_setRow_if, heap_alloc_if, heap_setCell_if, World.size_alloc, size_setRow, World.size_setCell]; simp) <;> (intros; omega))
  have HL0 : Hid (Below N w V) := Lib.hid (by rw [← hV, ← hN]; (repeat' (first | (with_reducible exact Below.refl _ _) | (with_reducible assumption) | (with_reducible refine Below.alloc ?_ ?_ _) | (with_reducible refine below_setRow ?_ ?_ _) | (with_reducible refine bl_drew ?_) | (with_reducible refine bl_drewN ?_ _) | (with_reducible refine Below.setCell ?_ ?_ _) | (with_reducible refine bl_then ?_ ?_ hb) | (with_reducible refine bl_then ?_ ?_ hb1) | (with_reducible refine bl_then ?_ ?_ hb2) | (with_reducible refine bl_then ?_ ?_ hb3) | (with_reducible refine bl_then ?_ ?_ hb4) | (with_reducible refine bl_then ?_ ?_ hb5) | (with_reducible refine bl_then ?_ ?_ hb6) | (with_reducible refine bl_then ?_ ?_ hb7) | (with_reducible refine bl_then ?_ ?_ hb8) | (with_reducible exact Nat.le_refl _) | omega | (simp only [World.size_alloc, World.size_setCell, World.size_drew, size_setRow]; omega) | (simp; omega) | (simp; done))))
  rw [show rwb 16 (fun _ => 0) = _ from zeros16.symm] at hV
  go_wp2_with (with_reducible refine wpList_ld rowBlock rfl (.tmp 2) rfl rfl HK0.out (by omega) (G := key) (fun j _ => by rw [Nat.zero_add]) ?_)
  try rw [hV]
  refine (rnew_any key hk V).mono ?_
  rintro e w1 ⟨⟨T, rfl, hT1, hT2⟩, hb⟩
  rw [hK]
  have HT1 := Lib.hid hT2
  have hlT := lt_of_heap hT2
  have hlR := lt_of_heap HR0.out
  have HB1 := Lib.hid ((hb.block (N + 1) (lt_of_heap HB0.out)).trans HB0.out)
  have HR1 := Lib.hid ((hb.block (N + 1 + 1) (lt_of_heap HR0.out)).trans HR0.out)
  have HL1 := Lib.hid (bl_then HL0.out (by omega) hb)
  have hNT : N + 1 + 1 < T := by omega
  clear hb HK0 HB0 HR0 HL0 hT2 hlR hT1 hK
  obtain ⟨C, hC⟩ : ∃ C, w1.heap.size = C := ⟨_, rfl⟩
  rw [hC] at hlT
  have HA : Hid ((w1.alloc (.cells crow0 47)).heap[C]? = some (.cells crow0 47 (0, 0))) := Lib.hid (by rw [← hC]; exact heap_alloc_last _ _)
  have hD0 : Hid (RD w (((w1.alloc (.cells crow0 47)).setRow C (crow T K)).alloc (.cells (rwb 256 fun _ => 0) 35)) N T C (C + 1) K b (unsK 0)) := Lib.hid (by
    refine ⟨?_, ?_, ?_, ?_, ?_, ?_, hNT, hlT, by omega, hN⟩
    · rw [heap_alloc_if, if_neg (by simp; omega), heap_setRow_if, if_neg (by omega), heap_alloc_if, if_neg (by omega)]; exact HT1.out
    · rw [heap_alloc_if, if_neg (by simp; omega)]; exact setRow_heap _ _ _ _ _ _ HA.out
    · rw [heap_alloc_if, if_pos (by simp; omega), rwb_congr (f := unsK 0) (g := fun _ => 0) (fun j _ => if_neg (by omega))]
    · rw [heap_alloc_if, if_neg (by simp; omega), heap_setRow_if, if_neg (by omega), heap_alloc_if, if_neg (by omega)]; exact HB1.out
    · rw [heap_alloc_if, if_neg (by simp; omega), heap_setRow_if, if_neg (by omega), heap_alloc_if, if_neg (by omega)]; exact HR1.out
    · exact (below_setRow (HL1.out.alloc (by omega) _) (by omega) _).alloc (by simp; omega) _)
  have hsz2 : (((w1.alloc (.cells crow0 47)).setRow C (crow T K))).heap.size = C + 1 := by simp [hC]
  go_wp2_with (with_reducible refine wpList_stC rfl (.tmp 5) (.tmp 17) rfl rfl rfl HA.out crow0_size ?_)
  try rw [hsz2]
  clear HA HT1 HB1 HR1 HL1 hz1 hz2 hV
  generalize ((w1.alloc (.cells crow0 47)).setRow C (crow T K)).alloc (.cells (rwb 256 fun _ => 0) 35) = W at *
  clear hsz2 hC
  obtain ⟨U, hU⟩ : ∃ U, C + 1 = U := ⟨_, rfl⟩
  rw [hU] at hD0 ⊢
  clear hU
  go_loopw [7] (fun i wr => ∃ m : Nat, m ≤ 256 ∧ i = .int .i64 m ∧ RD w wr N T C U K b (unsK m)) (fun i _ => 256 - (intOf i).toNat)
  case atStart => exact ⟨0, by omega, rfl, hD0.out⟩
  case round =>
    clear hD0
    obtain ⟨m, hm, rfl, hD⟩ := hrel
    by_cases hmlt : m < 256
    · have hs2 := (tab_s m hmlt).1
      have HUK := Lib.hid (fun j (hj : j < 256) => unsK_step hmlt hj)
      have c0 := cell_crow0 hD.hC
      have cx : wr.cell? ⟨T, m, none⟩ = some (.int .u8 ((subT m : Nat) : Int)) := cell_rwb hD.hT hmlt
      have cx2 := cell_rwb hD.hU hs2
      have fx2 := frozen_of_row wr U (subT m) _ _ hD.hU
      have HD9 := Lib.hid (hD.setU hs2 HUK.out)
      have hmi : (m : Int) < 256 := by omega
      have hm0 : (0 : Int) ≤ (m : Int) := by omega
      have hw8 : IntKind.u8.wrap (m : Int) = (m : Int) := by rw [IntKind.wrap_u8']; omega
      clear HUK hD
      generalize unsK m (subT m) = old2 at *
      generalize subT m = s2 at *
      have hs2i : (s2 : Int) < 256 := by omega
      go_wp2_with fail
      go_roundw
      case rel =>
        first
          | exact ⟨m + 1, by omega, by go_num, HD9.out⟩
          | ((repeat apply Exists.intro); refine ⟨?_, rfl⟩; exact ⟨m + 1, by omega, by go_num, HD9.out⟩)
      case measure => first | (simp [intOf]; done) | (simp [intOf]; omega)
    · obtain rfl : m = 256 := by omega
      have hE0 : RD w wr N T C U K (dtF K b (10 - 10)) unsI := hD.congrU (fun j hj => unsK_all hj)
      clear hD
      go_wp2_with fail
      go_loopw [8] (fun i wr => ∃ R : Nat, R ≤ 10 ∧ i = .int .i64 R ∧ RD w wr N T C U K (dtF K b (10 - R)) unsI) (fun i _ => (intOf i).toNat)
      case atStart => exact ⟨10, by omega, rfl, hE0⟩
      case round =>
        clear hE0
        obtain ⟨R, hR, rfl, hE⟩ := hrel
        obtain ⟨g, hg⟩ : ∃ g, dtF K b (10 - R) = g := ⟨_, rfl⟩
        rw [hg] at hE
        have HG := Lib.hid hg
        clear hg
        by_cases hR1 : 1 ≤ R
        · have hRi : (1 : Int) ≤ (R : Int) := by omega
          have hR0 : (0 : Int) ≤ (R : Int) := by omega
          have hRl : (R : Int) < 11 := by omega
          obtain ⟨h, hh⟩ : ∃ h, addF g K R = h := ⟨_, rfl⟩
          have HHB : Hid (∀ j, 0 ≤ h j ∧ h j ≤ 255) := Lib.hid (fun j => by rw [← hh]; exact xr_b _ _)
          have HH := Lib.hid hh
          clear hh
          go_wp2_with fail
          apply wp_region_eff _ _ (Inv.start0 wr fun _ => False) (hm := by kernel_rfl)
          case h =>
            apply SeqF.read (v := .agg (rwb 16 g)) []
            · (first | rfl | (go_simp; done) | (simp [Region.wanted, yielded]; done))
            · exact fun γ' W hg hI => exec_load rfl rfl (run_load_rwb rowBlock ((hI.far (N + 1) (lt_of_heap hE.hB) id).trans hE.hB) (by omega) (fun j _ => by rw [Nat.zero_add]))
            go_simp
            (apply SeqF.pure; (focus (first | rfl | (go_simp; done) | (simp [Region.wanted, yielded]; done))); (focus (intro w; go_simp; with_reducible rfl)); go_simp)
            (apply SeqF.pure; (focus (first | rfl | (go_simp; done) | (simp [Region.wanted, yielded]; done))); (focus (intro w; go_simp; with_reducible rfl)); go_simp)
            (apply SeqF.pure; (focus (first | rfl | (go_simp; done) | (simp [Region.wanted, yielded]; done))); (focus (intro w; go_simp; with_reducible rfl)); go_simp)
            apply SeqF.read (v := .agg (rwb 16 fun j => K (16 * R + j))) []
            · (first | rfl | (go_simp; done) | (simp [Region.wanted, yielded]; done))
            · exact fun γ' W hg hI => exec_load rfl rfl (run_load_cells rowBlock (row_crow ((hI.far C (lt_of_heap hE.hC) id).trans hE.hC) (r := R) (by omega)))
            go_simp
            apply SeqF.call (v := .agg (rwb 16 h)) [] 29 #[.agg (rwb 16 g), .agg (rwb 16 fun j => K (16 * R + j))]
            · (first | rfl | (go_simp; done) | (simp [Region.wanted, yielded]; done))
            · intro w; kernel_rfl
            · exact fun γ' W hg hI => (ragainst_any _ _ W).mono (by rintro e W' ⟨rfl, hb⟩; exact ⟨by rw [← HH.out]; rfl, hI.below hb⟩)
            go_simp
            apply SeqF.new [] 0 (fun g => .pointer (some ⟨g, 0, none⟩)) (fun _ => .cells (rwb 16 fun _ => 0) 28 (0, 0))
            · intro γ' _; rfl
            · (first | rfl | (go_simp; done) | (simp [Region.wanted, yielded]; done))
            · intro γ' V hg hI; kernel_rfl
            intro S hSs
            go_simp
            apply SeqF.store [0] 0 S (.cells (rwb 16 fun _ => 0) 28 (0, 0)) (Gh.set_here _ _ _) (by simp) (fun _ => .cells (rwb 16 h) 28 (0, 0))
            · exact fun _ _ => rfl
            · (first | rfl | (go_simp; done) | (simp [Region.wanted, yielded]; done))
            · exact fun γ' W hg hI hW => ⟨_, exec_store rfl rfl rfl (run_store_rwb rowBlock hW), only_setRow hW⟩
            go_simp
            apply SeqF.done
            intro w9 hI9
            have hS := hE.new hI9 hSs (Gh.set_here _ _ _)
            clear hI9 hE hSs
            go_simp
            by_cases hr10 : R < 10
            · have hr10i : (R : Int) < 10 := by omega
              obtain ⟨M, hMs⟩ : ∃ M, w9.heap.size = M := ⟨_, rfl⟩
              obtain ⟨V2, hV2⟩ : ∃ V2, w9.alloc (.cells (rwb 16 fun _ => 0) 28) = V2 := ⟨_, rfl⟩
              have hM : RDM w V2 N T C U S M K g unsI h (upT (4 * 0) (mixU h)) := by
                rw [← hV2, ← hMs]
                exact (hS.alloc (m := fun _ => 0) _ rfl).congr (fun j _ => (if_neg (by omega)).symm)
              clear hS
              go_wp2_with fail
              try rw [zeros16]
              try rw [hV2]
              try rw [hMs]
              clear hV2 hMs
              go_loopw [11] (fun i wr => ∃ c : Nat, c ≤ 4 ∧ i = .int .i64 c ∧ RDM w wr N T C U S M K g unsI h (upT (4 * c) (mixU h))) (fun i _ => 4 - (intOf i).toNat)
              case atStart => exact ⟨0, by omega, rfl, hM⟩
              case round =>
                clear hM
                obtain ⟨c, hc, rfl, hM⟩ := hrel
                by_cases hc4 : c < 4
                · have hci : (c : Int) < 4 := by omega
                  have hc0 : (0 : Int) ≤ (c : Int) := by omega
                  go_wp2_with fail
                  go_loopw [12] (fun i wr => ∃ k : Nat, k ≤ 4 ∧ i = .int .i64 k ∧ RDM w wr N T C U S M K g unsI h (upT (4 * c + k) (mixU h))) (fun i _ => 4 - (intOf i).toNat)
                  case atStart => exact ⟨0, by omega, rfl, hM⟩
                  case round =>
                    clear hM
                    obtain ⟨k, hk, rfl, hM⟩ := hrel
                    by_cases hk4 : k < 4
                    · as_aux_lemma =>
                        have hki : (k : Int) < 4 := by omega
                        have hk0 : (0 : Int) ≤ (k : Int) := by omega
                        have hci : (c : Int) < 4 := by omega
                        obtain ⟨m, hcm⟩ : ∃ m, 4 * c = m := ⟨_, rfl⟩
                        rw [hcm] at hM
                        have HCM := Lib.hid hcm
                        obtain ⟨k1, hk1⟩ : ∃ t, (k + 1) % 4 = t := ⟨_, rfl⟩
                        obtain ⟨k2, hk2⟩ : ∃ t, (k + 2) % 4 = t := ⟨_, rfl⟩
                        obtain ⟨k3, hk3⟩ : ∃ t, (k + 3) % 4 = t := ⟨_, rfl⟩
                        obtain ⟨y0, hy0⟩ := Int.eq_ofNat_of_zero_le (HHB.out (m + k)).1
                        obtain ⟨y1, hy1⟩ := Int.eq_ofNat_of_zero_le (HHB.out (m + k1)).1
                        obtain ⟨y2, hy2⟩ := Int.eq_ofNat_of_zero_le (HHB.out (m + k2)).1
                        obtain ⟨y3, hy3⟩ := Int.eq_ofNat_of_zero_le (HHB.out (m + k3)).1
                        have hl0 : y0 < 256 := by have := HHB.out (m + k); omega
                        have hl1 : y1 < 256 := by have := HHB.out (m + k1); omega
                        have hl2 : y2 < 256 := by have := HHB.out (m + k2); omega
                        have hl3 : y3 < 256 := by have := HHB.out (m + k3); omega
                        obtain ⟨q0, hq0⟩ : ∃ q, mul y0 14 = q := ⟨_, rfl⟩
                        obtain ⟨q1, hq1⟩ : ∃ q, mul y1 11 = q := ⟨_, rfl⟩
                        obtain ⟨q2, hq2⟩ : ∃ q, mul y2 13 = q := ⟨_, rfl⟩
                        obtain ⟨q3, hq3⟩ : ∃ q, mul y3 9 = q := ⟨_, rfl⟩
                        have HZ := Lib.hid (mixU_at (m := m) (by omega) hk4 hk1 hk2 hk3 hy0 hy1 hy2 hy3 hq0 hq1 hq2 hq3)
                        have HY0 := Lib.hid hy0
                        have HY1 := Lib.hid hy1
                        have HY2 := Lib.hid hy2
                        have HY3 := Lib.hid hy3
                        have HQ0 := Lib.hid hq0
                        have HQ1 := Lib.hid hq1
                        have HQ2 := Lib.hid hq2
                        have HQ3 := Lib.hid hq3
                        obtain ⟨hb0, hb1, hb2, hb3, hi0, hi1, hi2, hi3, hj0, hj1, hj2, hj3, hn0, hn1, hn2, hn3, hwc, hw0, hw1, hw2, hw3, hx1, hx2, hx3, ht1, ht2, ht3⟩ := ix4 hc4 hcm hk4 hk1 hk2 hk3
                        clear hk1 hk2 hk3 hy0 hy1 hy2 hy3 hq0 hq1 hq2 hq3 hcm
                        go_wp2_with fail
                        apply wp_region_eff _ _ hM.inv (hm := by kernel_rfl)
                        case h =>
                          (apply SeqF.pure; (focus (first | rfl | (go_simp; done) | (simp [Region.wanted, yielded]; done))); (focus (intro w; go_simp; with_reducible rfl)); go_simp)
                          (apply SeqF.pure; (focus (first | rfl | (go_simp; done) | (simp [Region.wanted, yielded]; done))); (focus (intro w; go_simp; with_reducible rfl)); go_simp)
                          (apply SeqF.pure; (focus (first | rfl | (go_simp; done) | (simp [Region.wanted, yielded]; done))); (focus (intro w; go_simp; with_reducible rfl)); go_simp)
                          (apply SeqF.pure; (focus (first | rfl | (go_simp; done) | (simp [Region.wanted, yielded]; done))); (focus (intro w; go_simp; with_reducible rfl)); go_simp)
                          (apply SeqF.pure; (focus (first | rfl | (go_simp; done) | (simp [Region.wanted, yielded]; done))); (focus (intro w; go_simp; with_reducible rfl)); go_simp)
                          (apply SeqF.pure; (focus (first | rfl | (go_simp; done) | (simp [Region.wanted, yielded]; done))); (focus (intro w; go_simp; with_reducible rfl)); go_simp)
                          (apply SeqF.pure; (focus (first | rfl | (go_simp; done) | (simp [Region.wanted, yielded]; done))); (focus (intro w; go_simp; with_reducible rfl)); go_simp)
                          (apply SeqF.pure; (focus (first | rfl | (go_simp; done) | (simp [Region.wanted, yielded]; done))); (focus (intro w; go_simp; with_reducible rfl)); go_simp)
                          (apply SeqF.pure; (focus (first | rfl | (go_simp; done) | (simp [Region.wanted, yielded]; done))); (focus (intro w; go_simp; with_reducible rfl)); go_simp)
                          apply SeqF.read (v := .int .u8 (y0 : Nat)) []
                          · (first | rfl | (go_simp; done) | (simp [Region.wanted, yielded]; done))
                          · intro γ' W hg hI
                            have x0 : W.cell? ⟨S, m + k, none⟩ = some (.int .u8 (h (m + k))) := cell_rwb ((hI.far S (lt_of_heap hM.r.hS) (by have := hM.lt; omega)).trans hM.r.hS) hb0
                            rw [HY0.out] at x0
                            go_simp
                          go_simp
                          apply SeqF.call (v := .int .u8 (q0 : Nat)) [] 9 #[.int .u8 (y0 : Nat), .int .u8 14]
                          · (first | rfl | (go_simp; done) | (simp [Region.wanted, yielded]; done))
                          · intro w; kernel_rfl
                          · exact fun γ' W hg hI => (rtimes_any y0 14 W hl0 (by omega)).mono (by rintro e W' ⟨rfl, rfl⟩; exact ⟨by rw [HQ0.out], hI⟩)
                          go_simp
                          (apply SeqF.pure; (focus (first | rfl | (go_simp; done) | (simp [Region.wanted, yielded]; done))); (focus (intro w; go_simp; with_reducible rfl)); go_simp)
                          (apply SeqF.pure; (focus (first | rfl | (go_simp; done) | (simp [Region.wanted, yielded]; done))); (focus (intro w; go_simp; with_reducible rfl)); go_simp)
                          (apply SeqF.pure; (focus (first | rfl | (go_simp; done) | (simp [Region.wanted, yielded]; done))); (focus (intro w; go_simp; with_reducible rfl)); go_simp)
                          (apply SeqF.pure; (focus (first | rfl | (go_simp; done) | (simp [Region.wanted, yielded]; done))); (focus (intro w; go_simp; with_reducible rfl)); go_simp)
                          (apply SeqF.pure; (focus (first | rfl | (go_simp; done) | (simp [Region.wanted, yielded]; done))); (focus (intro w; go_simp; with_reducible rfl)); go_simp)
                          (apply SeqF.pure; (focus (first | rfl | (go_simp; done) | (simp [Region.wanted, yielded]; done))); (focus (intro w; go_simp; with_reducible rfl)); go_simp)
                          (apply SeqF.pure; (focus (first | rfl | (go_simp; done) | (simp [Region.wanted, yielded]; done))); (focus (intro w; go_simp; with_reducible rfl)); go_simp)
                          apply SeqF.read (v := .int .u8 (y1 : Nat)) []
                          · (first | rfl | (go_simp; done) | (simp [Region.wanted, yielded]; done))
                          · intro γ' W hg hI
                            have x0 : W.cell? ⟨S, m + k1, none⟩ = some (.int .u8 (h (m + k1))) := cell_rwb ((hI.far S (lt_of_heap hM.r.hS) (by have := hM.lt; omega)).trans hM.r.hS) hb1
                            rw [HY1.out] at x0
                            go_simp
                          go_simp
                          apply SeqF.call (v := .int .u8 (q1 : Nat)) [] 9 #[.int .u8 (y1 : Nat), .int .u8 11]
                          · (first | rfl | (go_simp; done) | (simp [Region.wanted, yielded]; done))
                          · intro w; kernel_rfl
                          · exact fun γ' W hg hI => (rtimes_any y1 11 W hl1 (by omega)).mono (by rintro e W' ⟨rfl, rfl⟩; exact ⟨by rw [HQ1.out], hI⟩)
                          go_simp
                          (apply SeqF.pure; (focus (first | rfl | (go_simp; done) | (simp [Region.wanted, yielded]; done))); (focus (intro w; go_simp; with_reducible rfl)); go_simp)
                          (apply SeqF.pure; (focus (first | rfl | (go_simp; done) | (simp [Region.wanted, yielded]; done))); (focus (intro w; go_simp; with_reducible rfl)); go_simp)
                          (apply SeqF.pure; (focus (first | rfl | (go_simp; done) | (simp [Region.wanted, yielded]; done))); (focus (intro w; go_simp; with_reducible rfl)); go_simp)
                          (apply SeqF.pure; (focus (first | rfl | (go_simp; done) | (simp [Region.wanted, yielded]; done))); (focus (intro w; go_simp; with_reducible rfl)); go_simp)
                          (apply SeqF.pure; (focus (first | rfl | (go_simp; done) | (simp [Region.wanted, yielded]; done))); (focus (intro w; go_simp; with_reducible rfl)); go_simp)
                          (apply SeqF.pure; (focus (first | rfl | (go_simp; done) | (simp [Region.wanted, yielded]; done))); (focus (intro w; go_simp; with_reducible rfl)); go_simp)
                          (apply SeqF.pure; (focus (first | rfl | (go_simp; done) | (simp [Region.wanted, yielded]; done))); (focus (intro w; go_simp; with_reducible rfl)); go_simp)
                          (apply SeqF.pure; (focus (first | rfl | (go_simp; done) | (simp [Region.wanted, yielded]; done))); (focus (intro w; go_simp; with_reducible rfl)); go_simp)
                          apply SeqF.read (v := .int .u8 (y2 : Nat)) []
                          · (first | rfl | (go_simp; done) | (simp [Region.wanted, yielded]; done))
                          · intro γ' W hg hI
                            have x0 : W.cell? ⟨S, m + k2, none⟩ = some (.int .u8 (h (m + k2))) := cell_rwb ((hI.far S (lt_of_heap hM.r.hS) (by have := hM.lt; omega)).trans hM.r.hS) hb2
                            rw [HY2.out] at x0
                            go_simp
                          go_simp
                          apply SeqF.call (v := .int .u8 (q2 : Nat)) [] 9 #[.int .u8 (y2 : Nat), .int .u8 13]
                          · (first | rfl | (go_simp; done) | (simp [Region.wanted, yielded]; done))
                          · intro w; kernel_rfl
                          · exact fun γ' W hg hI => (rtimes_any y2 13 W hl2 (by omega)).mono (by rintro e W' ⟨rfl, rfl⟩; exact ⟨by rw [HQ2.out], hI⟩)
                          go_simp
                          (apply SeqF.pure; (focus (first | rfl | (go_simp; done) | (simp [Region.wanted, yielded]; done))); (focus (intro w; go_simp; with_reducible rfl)); go_simp)
                          (apply SeqF.pure; (focus (first | rfl | (go_simp; done) | (simp [Region.wanted, yielded]; done))); (focus (intro w; go_simp; with_reducible rfl)); go_simp)
                          (apply SeqF.pure; (focus (first | rfl | (go_simp; done) | (simp [Region.wanted, yielded]; done))); (focus (intro w; go_simp; with_reducible rfl)); go_simp)
                          (apply SeqF.pure; (focus (first | rfl | (go_simp; done) | (simp [Region.wanted, yielded]; done))); (focus (intro w; go_simp; with_reducible rfl)); go_simp)
                          (apply SeqF.pure; (focus (first | rfl | (go_simp; done) | (simp [Region.wanted, yielded]; done))); (focus (intro w; go_simp; with_reducible rfl)); go_simp)
                          (apply SeqF.pure; (focus (first | rfl | (go_simp; done) | (simp [Region.wanted, yielded]; done))); (focus (intro w; go_simp; with_reducible rfl)); go_simp)
                          (apply SeqF.pure; (focus (first | rfl | (go_simp; done) | (simp [Region.wanted, yielded]; done))); (focus (intro w; go_simp; with_reducible rfl)); go_simp)
                          (apply SeqF.pure; (focus (first | rfl | (go_simp; done) | (simp [Region.wanted, yielded]; done))); (focus (intro w; go_simp; with_reducible rfl)); go_simp)
                          apply SeqF.read (v := .int .u8 (y3 : Nat)) []
                          · (first | rfl | (go_simp; done) | (simp [Region.wanted, yielded]; done))
                          · intro γ' W hg hI
                            have x0 : W.cell? ⟨S, m + k3, none⟩ = some (.int .u8 (h (m + k3))) := cell_rwb ((hI.far S (lt_of_heap hM.r.hS) (by have := hM.lt; omega)).trans hM.r.hS) hb3
                            rw [HY3.out] at x0
                            go_simp
                          go_simp
                          apply SeqF.call (v := .int .u8 (q3 : Nat)) [] 9 #[.int .u8 (y3 : Nat), .int .u8 9]
                          · (first | rfl | (go_simp; done) | (simp [Region.wanted, yielded]; done))
                          · intro w; kernel_rfl
                          · exact fun γ' W hg hI => (rtimes_any y3 9 W hl3 (by omega)).mono (by rintro e W' ⟨rfl, rfl⟩; exact ⟨by rw [HQ3.out], hI⟩)
                          go_simp
                          (apply SeqF.pure; (focus (first | rfl | (go_simp; done) | (simp [Region.wanted, yielded]; done))); (focus (intro w; go_simp; with_reducible rfl)); go_simp)
                          (apply SeqF.pure; (focus (first | rfl | (go_simp; done) | (simp [Region.wanted, yielded]; done))); (focus (intro w; go_simp; with_reducible rfl)); go_simp)
                          apply SeqF.store [0] 0 M (.cells (rwb 16 (upT (m + k) (mixU h))) 28 (0, 0)) rfl (by simp) (fun _ => .cells (rwb 16 (upT (m + k + 1) (mixU h))) 28 (0, 0))
                          · exact fun _ _ => rfl
                          · (first | rfl | (go_simp; done) | (simp [Region.wanted, yielded]; done))
                          · exact fun γ' W hg hI hW => exec_stc rfl rfl rfl hb0 (fun j _ => upT_step HZ.out j) hW
                          go_simp
                          apply SeqF.done
                          intro w9 hI9
                          have hM9 : RDM w w9 N T C U S M K g unsI h (upT (4 * c + (k + 1)) (mixU h)) := by
                            rw [HCM.out]
                            exact hM.next hI9 (Gh.set_here _ _ _)
                          clear hI9 hM
                          go_simp
                          go_wp2_with fail
                          go_roundw
                          case rel =>
                            first
                              | exact ⟨k + 1, by omega, by go_num, hM9⟩
                              | ((repeat apply Exists.intro); refine ⟨?_, rfl⟩; exact ⟨k + 1, by omega, by go_num, hM9⟩)
                          case measure => first | (simp [intOf]; done) | (simp [intOf]; omega)
                        case hl => rfl
                        case ho => kernel_rfl
                    · obtain rfl : k = 4 := by omega
                      have hM9 : RDM w wr N T C U S M K g unsI h (upT (4 * (c + 1)) (mixU h)) := by rw [show 4 * (c + 1) = 4 * c + 4 by omega]; exact hM
                      go_wp2_with fail
                      go_roundw
                      case rel =>
                        first
                          | exact ⟨c + 1, by omega, by go_num, hM9⟩
                          | ((repeat apply Exists.intro); refine ⟨?_, rfl⟩; exact ⟨c + 1, by omega, by go_num, hM9⟩)
                      case measure => first | (simp [intOf]; done) | (simp [intOf]; omega)
                · obtain rfl : c = 4 := by omega
                  have hM2 := hM.congr (m' := mixU h) (fun j hj => if_pos (by omega))
                  clear hM
                  obtain ⟨h2, hh2⟩ : ∃ h2, mixU h = h2 := ⟨_, rfl⟩
                  have HHB2 : Hid (∀ j, 0 ≤ h2 j ∧ h2 j ≤ 255) := Lib.hid (fun j => by rw [← hh2]; exact xr_b _ _)
                  have HST : Hid (dtF K b (10 - (R - 1)) = shU h2) := Lib.hid (by
                    rw [show 10 - (R - 1) = (10 - R) + 1 by omega, ← hh2, ← HH.out, ← HG.out]
                    show shU (if 10 - (10 - R) < 10 then mixU (addF (dtF K b (10 - R)) K (10 - (10 - R))) else addF (dtF K b (10 - R)) K (10 - (10 - R))) = _
                    rw [show 10 - (10 - R) = R by omega, if_pos hr10])
                  rw [hh2] at hM2
                  clear hh2
                  go_wp2_with (first | (with_reducible refine wpList_ld rowBlock rfl (.tmp 10) rfl rfl hM2.hM (by omega) (G := h2) (fun j _ => by rw [Nat.zero_add]) ?_) | (with_reducible refine wpList_st rowBlock rfl (.tmp 9) (.tmp 93) rfl rfl rfl hM2.r.hS ?_))
                  have hS : RDS w (wr.setRow S (rwb 16 h2)) N T C U S K (bkP g h2 0) unsI h2 := (hM2.setS h2).congr (fun j _ => (if_neg (by omega)).symm)
                  generalize wr.setRow S (rwb 16 h2) = W3 at *
                  clear hM2
                  go_wp2_with fail
                  go_loopw [13] (fun i wr => ∃ k : Nat, k ≤ 16 ∧ i = .int .i64 k ∧ RDS w wr N T C U S K (bkP g h2 k) unsI h2) (fun i _ => 16 - (intOf i).toNat)
                  case atStart => exact ⟨0, by omega, rfl, hS⟩
                  case round =>
                    clear hS
                    obtain ⟨k, hk, rfl, hS⟩ := hrel
                    by_cases hk16 : k < 16
                    · obtain ⟨ρ, hρ⟩ : ∃ x, k % 4 = x := ⟨_, rfl⟩
                      obtain ⟨c, hc⟩ : ∃ x, k / 4 = x := ⟨_, rfl⟩
                      obtain ⟨z, hz⟩ : ∃ x, (c + ρ) % 4 = x := ⟨_, rfl⟩
                      obtain ⟨p, hp⟩ : ∃ p, 4 * z + ρ = p := ⟨_, rfl⟩
                      obtain ⟨y, hy⟩ := Int.eq_ofNat_of_zero_le (HHB2.out k).1
                      have hyl : y < 256 := by have := HHB2.out k; omega
                      have hyi : (y : Int) < 256 := by omega
                      have HSH : Hid (∀ j, j < 16 → upd (bkP g h2 k) p (unsI y) j = bkP g h2 (k + 1) j) := Lib.hid (fun j hj => bkP_step hk16 (by rw [hρ, hc, hz, hp]) hy j hj)
                      have hki : (k : Int) < 16 := by omega
                      have hk0 : (0 : Int) ≤ (k : Int) := by omega
                      have hrt : Int.tmod (k : Int) 4 = (ρ : Int) := by rw [Int.tmod_eq_emod_of_nonneg (by omega)]; omega
                      have hre : (k : Int) % 4 = (ρ : Int) := by omega
                      have hqt : Int.tdiv (k : Int) 4 = (c : Int) := by rw [Int.tdiv_eq_ediv_of_nonneg (by omega)]; omega
                      have hqe : (k : Int) / 4 = (c : Int) := by omega
                      have hwρ : IntKind.i64.wrap (ρ : Int) = (ρ : Int) := IntWalk.i64_in _ (by omega)
                      have hwc : IntKind.i64.wrap (c : Int) = (c : Int) := IntWalk.i64_in _ (by omega)
                      have hwcr : IntKind.i64.wrap ((c : Int) + (ρ : Int)) = (c : Int) + (ρ : Int) := IntWalk.i64_in _ (by omega)
                      have hzt : ((c : Int) + (ρ : Int)).tmod 4 = (z : Int) := by rw [Int.tmod_eq_emod_of_nonneg (by omega)]; omega
                      have hze : ((c : Int) + (ρ : Int)) % 4 = (z : Int) := by omega
                      have hwz : IntKind.i64.wrap (z : Int) = (z : Int) := IntWalk.i64_in _ (by omega)
                      have hw4 : IntKind.i64.wrap (4 * (z : Int)) = 4 * (z : Int) := IntWalk.i64_in _ (by omega)
                      have hw5 : IntKind.i64.wrap (4 * (z : Int) + (ρ : Int)) = (p : Int) := (IntWalk.i64_in _ (by omega)).trans (by omega)
                      have hi4 : (p : Int) < 16 := by omega
                      have hj4 : 0 ≤ (p : Int) := by omega
                      have hb4 : p < 16 := by omega
                      have cs : wr.cell? ⟨S, k, none⟩ = some (.int .u8 (y : Nat)) := by rw [← hy]; exact cell_rwb hS.hS hk16
                      have cu := cell_rwb hS.e.hU hyl
                      have cb := cell_rwb hS.e.hB hb4
                      have fb := frozen_of_row wr (N + 1) p _ _ hS.e.hB
                      have hS9 := hS.setB hb4 HSH.out
                      have HS9 := Lib.hid hS9
                      obtain ⟨y2, hy2⟩ : ∃ x, unsI y = x := ⟨_, rfl⟩
                      rw [hy2] at cu HS9
                      generalize bkP g h2 k p = old at *
                      clear hρ hc hz hp hy hS HSH hS9 hy2
                      go_wp2_with fail
                      go_roundw
                      case rel =>
                        first
                          | exact ⟨k + 1, by omega, by go_num, HS9.out⟩
                          | ((repeat apply Exists.intro); refine ⟨?_, rfl⟩; exact ⟨k + 1, by omega, by go_num, HS9.out⟩)
                      case measure => first | (simp [intOf]; done) | (simp [intOf]; omega)
                    · obtain rfl : k = 16 := by omega
                      have hE9 : RD w wr N T C U K (dtF K b (10 - (R - 1))) unsI := by
                        rw [HST.out]
                        exact (hS.congr bkP_all).e
                      clear hS
                      have hwr : IntKind.i64.wrap ((R : Int) - 1) = ((R - 1 : Nat) : Int) := (IntWalk.i64_in _ (by omega)).trans (by omega)
                      go_wp2_with fail
                      go_roundw
                      case rel =>
                        first
                          | exact ⟨R - 1, by omega, rfl, hE9⟩
                          | ((repeat apply Exists.intro); refine ⟨?_, rfl⟩; exact ⟨R - 1, by omega, rfl, hE9⟩)
                      case measure => first | (simp [intOf]; done) | (simp [intOf]; omega)
            · have hr10i : ¬ (R : Int) < 10 := by omega
              have hST0 : dtF K b (10 - (R - 1)) = shU h := by
                rw [show 10 - (R - 1) = (10 - R) + 1 by omega, ← HH.out, ← HG.out]
                show shU (if 10 - (10 - R) < 10 then mixU (addF (dtF K b (10 - R)) K (10 - (10 - R))) else addF (dtF K b (10 - R)) K (10 - (10 - R))) = _
                rw [show 10 - (10 - R) = R by omega, if_neg hr10]
              obtain ⟨h2, hh2⟩ : ∃ h2, h = h2 := ⟨_, rfl⟩
              have HHB2 := HHB
              rw [hh2] at hST0 HHB2
              have HST := Lib.hid hST0
              have hS0 := hS
              rw [hh2] at hS0
              clear hST0 hS hh2
              have hS : RDS w w9 N T C U S K (bkP g h2 0) unsI h2 := hS0.congr (fun j _ => (if_neg (by omega)).symm)
              clear hS0
              go_wp2_with fail
              go_loopw [13] (fun i wr => ∃ k : Nat, k ≤ 16 ∧ i = .int .i64 k ∧ RDS w wr N T C U S K (bkP g h2 k) unsI h2) (fun i _ => 16 - (intOf i).toNat)
              case atStart => exact ⟨0, by omega, rfl, hS⟩
              case round =>
                clear hS
                obtain ⟨k, hk, rfl, hS⟩ := hrel
                by_cases hk16 : k < 16
                · obtain ⟨ρ, hρ⟩ : ∃ x, k % 4 = x := ⟨_, rfl⟩
                  obtain ⟨c, hc⟩ : ∃ x, k / 4 = x := ⟨_, rfl⟩
                  obtain ⟨z, hz⟩ : ∃ x, (c + ρ) % 4 = x := ⟨_, rfl⟩
                  obtain ⟨p, hp⟩ : ∃ p, 4 * z + ρ = p := ⟨_, rfl⟩
                  obtain ⟨y, hy⟩ := Int.eq_ofNat_of_zero_le (HHB2.out k).1
                  have hyl : y < 256 := by have := HHB2.out k; omega
                  have hyi : (y : Int) < 256 := by omega
                  have HSH : Hid (∀ j, j < 16 → upd (bkP g h2 k) p (unsI y) j = bkP g h2 (k + 1) j) := Lib.hid (fun j hj => bkP_step hk16 (by rw [hρ, hc, hz, hp]) hy j hj)
                  have hki : (k : Int) < 16 := by omega
                  have hk0 : (0 : Int) ≤ (k : Int) := by omega
                  have hrt : Int.tmod (k : Int) 4 = (ρ : Int) := by rw [Int.tmod_eq_emod_of_nonneg (by omega)]; omega
                  have hre : (k : Int) % 4 = (ρ : Int) := by omega
                  have hqt : Int.tdiv (k : Int) 4 = (c : Int) := by rw [Int.tdiv_eq_ediv_of_nonneg (by omega)]; omega
                  have hqe : (k : Int) / 4 = (c : Int) := by omega
                  have hwρ : IntKind.i64.wrap (ρ : Int) = (ρ : Int) := IntWalk.i64_in _ (by omega)
                  have hwc : IntKind.i64.wrap (c : Int) = (c : Int) := IntWalk.i64_in _ (by omega)
                  have hwcr : IntKind.i64.wrap ((c : Int) + (ρ : Int)) = (c : Int) + (ρ : Int) := IntWalk.i64_in _ (by omega)
                  have hzt : ((c : Int) + (ρ : Int)).tmod 4 = (z : Int) := by rw [Int.tmod_eq_emod_of_nonneg (by omega)]; omega
                  have hze : ((c : Int) + (ρ : Int)) % 4 = (z : Int) := by omega
                  have hwz : IntKind.i64.wrap (z : Int) = (z : Int) := IntWalk.i64_in _ (by omega)
                  have hw4 : IntKind.i64.wrap (4 * (z : Int)) = 4 * (z : Int) := IntWalk.i64_in _ (by omega)
                  have hw5 : IntKind.i64.wrap (4 * (z : Int) + (ρ : Int)) = (p : Int) := (IntWalk.i64_in _ (by omega)).trans (by omega)
                  have hi4 : (p : Int) < 16 := by omega
                  have hj4 : 0 ≤ (p : Int) := by omega
                  have hb4 : p < 16 := by omega
                  have cs : wr.cell? ⟨S, k, none⟩ = some (.int .u8 (y : Nat)) := by rw [← hy]; exact cell_rwb hS.hS hk16
                  have cu := cell_rwb hS.e.hU hyl
                  have cb := cell_rwb hS.e.hB hb4
                  have fb := frozen_of_row wr (N + 1) p _ _ hS.e.hB
                  have hS9 := hS.setB hb4 HSH.out
                  have HS9 := Lib.hid hS9
                  obtain ⟨y2, hy2⟩ : ∃ x, unsI y = x := ⟨_, rfl⟩
                  rw [hy2] at cu HS9
                  generalize bkP g h2 k p = old at *
                  clear hρ hc hz hp hy hS HSH hS9 hy2
                  go_wp2_with fail
                  go_roundw
                  case rel =>
                    first
                      | exact ⟨k + 1, by omega, by go_num, HS9.out⟩
                      | ((repeat apply Exists.intro); refine ⟨?_, rfl⟩; exact ⟨k + 1, by omega, by go_num, HS9.out⟩)
                  case measure => first | (simp [intOf]; done) | (simp [intOf]; omega)
                · obtain rfl : k = 16 := by omega
                  have hE9 : RD w wr N T C U K (dtF K b (10 - (R - 1))) unsI := by
                    rw [HST.out]
                    exact (hS.congr bkP_all).e
                  clear hS
                  have hwr : IntKind.i64.wrap ((R : Int) - 1) = ((R - 1 : Nat) : Int) := (IntWalk.i64_in _ (by omega)).trans (by omega)
                  go_wp2_with fail
                  go_roundw
                  case rel =>
                    first
                      | exact ⟨R - 1, by omega, rfl, hE9⟩
                      | ((repeat apply Exists.intro); refine ⟨?_, rfl⟩; exact ⟨R - 1, by omega, rfl, hE9⟩)
                  case measure => first | (simp [intOf]; done) | (simp [intOf]; omega)
          case hl => rfl
          case ho => kernel_rfl
        · obtain rfl : R = 0 := by omega
          have hl := hE.lt
          go_wp2_with (first | (with_reducible refine wpList_ld rowBlock rfl (.tmp 3) rfl rfl hE.hB (by omega) (G := g) (fun j _ => by rw [Nat.zero_add]) ?_) | (with_reducible refine wpList_ldc rowBlock rfl (.tmp 117) rfl rfl (G := K) (fun j hj => cell_crow hE.hC (by omega)) ?_))
          refine (ragainst_any g K _).mono ?_
          rintro e w9 ⟨rfl, hb⟩
          have HR9 := Lib.hid ((hb.block (N + 1 + 1) (lt_of_heap hE.hR)).trans hE.hR)
          have HL9 := Lib.hid (bl_then hE.hL (by have := lt_of_heap hE.hC; omega) hb)
          have HV : Hid ((fun j => bits .xor .u8 (g j) (K j)) = decF key b) := Lib.hid (by
            funext j
            show xr (g j) (K j) = addF (dtF (kw key) b 10) (kw key) 0 j
            rw [HKK.out, HG.out]
            show _ = xr (g j) (K (16 * 0 + j))
            rw [show 16 * 0 + j = j by omega])
          rw [HV.out]
          clear hb hE
          go_wp2_with (with_reducible refine wpList_st rowBlock rfl (.tmp 4) (.tmp 119) rfl rfl rfl HR9.out ?_)
          refine bodyPost_ret (v := .agg (rwb 16 (decF key b))) ?_ rfl ?_
          · exact results_cell (fn := Try.f19) Try.results19 rfl (run_loadVar_rwb rowBlock (setRow_heap _ _ _ _ _ _ HR9.out) (by omega) (fun j _ => by rw [Nat.zero_add]))
          · exact ⟨rfl, by rw [hl.2.2.2]; exact below_setRow HL9.out (by omega) _⟩
end Go.Proofs.Ytppponobefljgaa
