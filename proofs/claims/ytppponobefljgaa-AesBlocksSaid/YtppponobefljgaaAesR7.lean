/- What is proved: what Encrypt of the reference answers when it is called; conditions: the key is sixteen bytes. -/
import Derived.Test.YtppponobefljgaaAesR6
set_option linter.unusedSimpArgs false
set_option linter.unusedVariables false
namespace Go.Proofs.Ytppponobefljgaa
open Go.RowKit
set_option maxRecDepth 100000
set_option maxHeartbeats 8000000
def CphR (key : Nat → Int) : Gh → Value → Option (Nat × Obj) → Prop := fun _ v x => ∃ T, v = .agg (crow T (kw key)) ∧ x = some (T, .cells (rwb 256 subI) 35 (0, 0))
theorem renc_any (key b : Nat → Int) (hk : By key) (w : World) : Calls Try.prog 18 #[.agg (rwb 16 key), .agg (rwb 16 b)] w fun e w' => e = .returned (.agg (rwb 16 (encF key b))) ∧ Below w.heap.size w w' := by
  go_enter Try.func18, Try.ntmps18
  go_wp2_with fail
  rw [zeros16]
  obtain ⟨B, hB⟩ : ∃ B, w.heap.size = B := ⟨_, rfl⟩
  obtain ⟨V, hV⟩ : ∃ V, ((w.alloc (.cells (rwb 16 key) 28)).alloc (.cells (rwb 16 b) 28)).alloc (.cells (rwb 16 fun _ => 0) 28) = V := ⟨_, rfl⟩
  have HK0 : Hid (V.heap[B]? = some (.cells (rwb 16 key) 28 (0, 0))) := Lib.hid (by rw [← hV, ← hB]; (simp only [heap_setRow_if, heap_alloc_if, heap_setCell_if, World.size_alloc, size_setRow, World.size_setCell]; simp) <;> (intros; omega))
  have HB0 : Hid (V.heap[B + 1]? = some (.cells (rwb 16 b) 28 (0, 0))) := Lib.hid (by rw [← hV, ← hB]; (simp only [heap_setRow_if, heap_alloc_if, heap_setCell_if, World.size_alloc, size_setRow, World.size_setCell]; simp) <;> (intros; omega))
  have HR0 : Hid (V.heap[B + 1 + 1]? = some (.cells (rwb 16 fun _ => 0) 28 (0, 0))) := Lib.hid (by rw [← hV, ← hB]; (simp only [heap_setRow_if, heap_alloc_if, heap_setCell_if, World.size_alloc, size_setRow, World.size_setCell]; simp) <;> (intros; omega))
  have HL0 : Hid (Below w.heap.size w V) := Lib.hid (by rw [← hV]; (repeat' (first | (with_reducible exact Below.refl _ _) | (with_reducible assumption) | (with_reducible refine Below.alloc ?_ ?_ _) | (with_reducible refine below_setRow ?_ ?_ _) | (with_reducible refine bl_drew ?_) | (with_reducible refine bl_drewN ?_ _) | (with_reducible refine Below.setCell ?_ ?_ _) | (with_reducible refine bl_then ?_ ?_ hb) | (with_reducible refine bl_then ?_ ?_ hb1) | (with_reducible refine bl_then ?_ ?_ hb2) | (with_reducible refine bl_then ?_ ?_ hb3) | (with_reducible refine bl_then ?_ ?_ hb4) | (with_reducible refine bl_then ?_ ?_ hb5) | (with_reducible refine bl_then ?_ ?_ hb6) | (with_reducible refine bl_then ?_ ?_ hb7) | (with_reducible refine bl_then ?_ ?_ hb8) | (with_reducible exact Nat.le_refl _) | omega | (simp only [World.size_alloc, World.size_setCell, World.size_drew, size_setRow]; omega) | (simp; omega) | (simp; done))))
  have HI0 : Hid (Inv V (fun g => g = B + 1 + 1) (gh2 (some (B + 1 + 1, .cells (rwb 16 fun _ => 0) 28 (0, 0))) none) V.drew) := Lib.hid (Inv.start2 HR0.out rfl (by rintro g o h; cases h))
  rw [hV, hB]
  apply wp_region_eff _ _ HI0.out (hm := by kernel_rfl)
  case h =>
    (apply SeqF.read (v := .agg (rwb 16 key)) []; (focus (first | rfl | (go_simp; done) | (simp [Region.wanted, yielded]; done))); (focus (exact fun γ' W hg hI => exec_load rfl rfl (run_load_rwb rowBlock ((hI.far B (lt_of_heap HK0.out) (by omega)).trans HK0.out) (by omega) (fun j _ => by rw [Nat.zero_add])))); go_simp)
    apply SeqF.callE [1] (some 1) (CphR key) 27 #[.agg (rwb 16 key)]
    · exact fun _ _ => rfl
    · (first | rfl | (go_simp; done) | (simp [Region.wanted, yielded]; done))
    · intro w; kernel_rfl
    · exact fun γ' W hg hI => (rnew_any key hk W).mono (by rintro e W' ⟨⟨T, rfl, h2, h3⟩, hb⟩; exact ⟨_, _, rfl, ⟨T, rfl, rfl⟩, hI.new hb 1 T _ h2 h3 ((hg 1 (by simp)).trans rfl)⟩)
    rintro v x ⟨T, rfl, rfl⟩
    go_simp
    (apply SeqF.read (v := .agg (rwb 16 b)) []; (focus (first | rfl | (go_simp; done) | (simp [Region.wanted, yielded]; done))); (focus (exact fun γ' W hg hI => exec_load rfl rfl (run_load_rwb rowBlock ((hI.far (B + 1) (lt_of_heap HB0.out) (by omega)).trans HB0.out) (by omega) (fun j _ => by rw [Nat.zero_add])))); go_simp)
    apply SeqF.call (v := .agg (rwb 16 (encF key b))) [1] 28 #[.agg (crow T (kw key)), .agg (rwb 16 b)]
    · (first | rfl | (go_simp; done) | (simp [Region.wanted, yielded]; done))
    · intro w; kernel_rfl
    · exact fun γ' W hg hI => (rencm_any 0 T (kw key) b W (hI.here 1 T _ ((hg 1 (by simp)).trans rfl)).1).mono (by rintro e W' ⟨rfl, hb⟩; exact ⟨rfl, hI.below hb⟩)
    go_simp
    apply SeqF.store [0] 0 (B + 1 + 1) (.cells (rwb 16 fun _ => 0) 28 (0, 0)) rfl (by simp) (fun _ => .cells (rwb 16 (encF key b)) 28 (0, 0))
    · exact fun _ _ => rfl
    · (first | rfl | (go_simp; done) | (simp [Region.wanted, yielded]; done))
    · exact fun γ' W hg hI hW => ⟨_, exec_store rfl rfl rfl (run_store_rwb rowBlock hW), only_setRow hW⟩
    go_simp
    apply SeqF.done
    intro w9 hI9
    have HR9 := Lib.hid (hI9.here 0 (B + 1 + 1) _ (Gh.set_here _ _ _)).1
    have HL9 := Lib.hid (hI9.belowS HL0.out HL0.out.size (by rintro g rfl; omega))
    clear hI9
    go_simp
    go_wp2_with fail
    refine bodyPost_ret (v := .agg (rwb 16 (encF key b))) ?_ rfl ?_
    · exact results_cell (fn := Try.f18) Try.results18 rfl (run_loadVar_rwb rowBlock HR9.out (by omega) (fun j _ => by rw [Nat.zero_add]))
    · exact ⟨rfl, HL9.out⟩
  case hl => rfl
  case ho => kernel_rfl
end Go.Proofs.Ytppponobefljgaa
