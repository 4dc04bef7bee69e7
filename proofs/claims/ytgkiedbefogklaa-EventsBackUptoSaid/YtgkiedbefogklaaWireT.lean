/- What is proved: what ReadEvents of package wire answers when it is called; conditions: the slice reads as it is said to. -/
import Derived.Test.YtgkiedbefogklaaWireS
set_option linter.unusedSimpArgs false
set_option linter.unusedVariables false
namespace Go.Proofs.Ytgkiedbefogklaa
open Go.RowKit
set_option maxRecDepth 100000
set_option maxHeartbeats 8000000
/-- What ReadEvents answers. -/
def REPost (bs : List Int) (B0 : Nat) (e : Ending) (w' : World) : Prop := ∃ L P, e = .returned (.tuple #[L, .int .i64 ((readEvS bs).1 : Nat)]) ∧ OwE w' B0 L P ∧ P.map HE.e = (readEvS bs).2
theorem REPost.err {bs : List Int} {er : Nat} (h : (readEvS bs).1 = er) (h0 : er ≠ 0) (B0 : Nat) (w' : World) : REPost bs B0 (.returned (.tuple #[.slice none 0 0, .int .i64 er])) w' := by
  refine ⟨.slice none 0 0, [], by rw [h], OwE.nil _ _, ?_⟩
  unfold readEvS at h ⊢
  by_cases h1 : 65536 < bs.length
  · rw [if_pos h1]; rfl
  · rw [if_neg h1] at h ⊢
    by_cases h2 : (readS bs).2.2 ≠ 0
    · rw [if_pos h2]; rfl
    · rw [if_neg h2] at h ⊢
      by_cases h3 : 4096 < (readS bs).1
      · rw [if_pos h3]; rfl
      · rw [if_neg h3] at h ⊢
        by_cases h4 : (evsT (readS bs).1 (bs.drop (readS bs).2.1)).1 ≠ 0
        · rw [if_pos h4]; rfl
        · rw [if_neg h4] at h ⊢
          by_cases h5 : 0 < (evsT (readS bs).1 (bs.drop (readS bs).2.1)).2.2.length
          · rw [if_pos h5]; rfl
          · rw [if_neg h5] at h
            exact absurd h.symm h0
theorem readevents_any (v : Value) (bs : List Int) (w : World) (hv : BB w v bs) : Calls Try.prog 24 #[v] w fun e w' => REPost bs w.heap.size e w' ∧ Below w.heap.size w w' := by
  obtain ⟨B, hB⟩ : ∃ B, w.heap.size = B := ⟨_, rfl⟩
  have hmf : ∀ (fn : Fn) (first cap : Array Value) (w : World), (Instr.makeFunc fn first cap).run Try.prog w = .ok (.func fn first cap) w := fun _ _ _ _ => rfl
  have hcf : ∀ w, (callFunc 38 #[.pointer (some ⟨B, 0, none⟩), .pointer (some ⟨B + 1, 0, none⟩)]).run Try.prog w = .ok (.enter 38 #[.pointer (some ⟨B, 0, none⟩), .pointer (some ⟨B + 1, 0, none⟩)]) w := fun w => by kernel_rfl
  have HV := Lib.hid hv
  obtain ⟨_, hlen, A0, cp0, rfl, _, _, hlc, hcm⟩ := hv
  obtain ⟨n0, hn0⟩ : ∃ n, bs.length = n := ⟨_, rfl⟩
  have HN := Lib.hid hn0
  rw [hn0] at HV hlen hlc ⊢
  clear hn0
  obtain ⟨Wa, hWa⟩ : ∃ W, w.alloc (.cells #[.slice A0 n0 cp0] 24) = W := ⟨_, rfl⟩
  have hXa : Wa.heap.size = B + 1 := by rw [← hWa, ← hB]; simp
  have HBA : Hid (Below w.heap.size w Wa) := Lib.hid (by rw [← hWa]; exact Below.alloc (Below.refl _ _) (Nat.le_refl _) _)
  have HA0 : Hid (Wa.heap[B]? = some (.cells #[.slice A0 n0 cp0] 24 (0, 0))) := Lib.hid (by rw [← hWa, ← hB]; exact heap_alloc_last _ _)
  have a0 : Wa.cell? ⟨B, 0, none⟩ = some (.slice A0 n0 cp0) := (cell_of_row _ _ _ _ _ _ HA0.out).trans rfl
  by_cases hbig : 65536 < n0
  · have hbi : (65536 : Int) < (n0 : Int) := by omega
    have HP := Lib.hid (REPost.err (bs := bs) (er := 4) (by rw [rdE_long (by rw [HN.out]; exact hbig)]) (by decide) B Wa)
    go_enter Try.func24, Try.ntmps24
    go_wp2_with fail
    refine bodyPost_ret (v := .tuple #[.slice none 0 0, .int .i64 4]) (by simp [results, Try.results24, go_sem]) rfl ⟨?_, ?_⟩
    · first | exact HP.out | (rw [hB]; exact HP.out)
    · first | exact HBA.out | (rw [← hB]; exact HBA.out)
  · have hbi : ¬ (65536 : Int) < (n0 : Int) := by omega
    obtain ⟨Wb, hWb⟩ : ∃ W, Wa.alloc (.cells #[.slice none 0 0] 22) = W := ⟨_, rfl⟩
    have hXb : Wb.heap.size = B + 2 := by rw [← hWb]; simp [hXa]
    have HB0 : Hid (Wb.heap[B]? = some (.cells #[.slice A0 n0 cp0] 24 (0, 0))) := Lib.hid (by rw [← hWb, heap_alloc_old _ _ (by omega)]; exact HA0.out)
    have HB1 : Hid (Wb.heap[B + 1]? = some (.cells #[.slice none 0 0] 22 (0, 0))) := Lib.hid (by rw [← hWb, ← hXa]; exact heap_alloc_last _ _)
    have HBW : Hid (Below w.heap.size w Wb) := Lib.hid (by rw [← hWb]; exact Below.alloc HBA.out HBA.out.size _)
    obtain ⟨Wd, hWd⟩ : ∃ W, Wb.alloc (.cells #[.int .i64 0] 25) = W := ⟨_, rfl⟩
    have hXd : Wd.heap.size = B + 3 := by rw [← hWd]; simp [hXb]
    have HBD : Hid (Below Wb.heap.size Wb Wd) := Lib.hid (by rw [← hWd]; exact Below.alloc (Below.refl _ _) (Nat.le_refl _) _)
    have HE : Hid (Wd.heap[B + 2]? = some (.cells #[.int .i64 0] 25 (0, 0))) := Lib.hid (by rw [← hWd, ← hXb]; exact heap_alloc_last _ _)
    have HFAR : Hid (∀ w', Inv Wd (fun g => g = B + 1) gh0 w' → w'.heap[Wb.heap.size]? = some (.cells #[.int .i64 0] 25 (0, 0)) ∧ B + 3 ≤ w'.heap.size ∧ Below B w w') := Lib.hid (fun w' h => ⟨by
        rw [hXb]; exact (h.far (B + 2) (by omega) (by omega)).trans HE.out, by have := h.size; omega, by
        have hw : Below B w Wd := by have := bl_then HBW.out (by omega) HBD.out; rwa [hB] at this
        exact h.belowS hw (by omega) (fun g hg => by omega)⟩)
    have HCALL : Hid (Calls Try.prog 37 #[.func (.func 38) #[] #[.pointer (some ⟨B, 0, none⟩), .pointer (some ⟨B + 1, 0, none⟩)]] Wb (CaughtPost Wb (fun w' => (readEvS bs).1 = 0 ∧ EvW Wd (B + 1) (readEvS bs).2 w') (fun er w' => er = (readEvS bs).1 ∧ er ≠ 0 ∧ Inv Wd (fun g => g = B + 1) gh0 w'))) := Lib.hid (by
      refine caught_any _ _ Wb _ _ hcf ?_ (fun w' h => (HFAR.out w' h.2.inv).1) (fun er w' h => (HFAR.out w' h.2.2).1)
      rw [hWd]
      refine (re1_any B (B + 1) (.slice A0 n0 cp0) bs Wd ((HBD.out.block _ (by omega)).trans HB0.out) ((HV.out.below HBW.out).below HBD.out) ((HBD.out.block _ (by omega)).trans HB1.out) (by omega) (by rw [HN.out]; exact hbig)).mono ?_
      rintro e w' (⟨rfl, h0, h⟩ | ⟨er, rfl, h1, h2, h3⟩)
      · exact .inl ⟨rfl, h0, h⟩
      · exact .inr ⟨er, rfl, h1, h2, h3⟩)
    clear hcf
    rw [hB]
    go_enter Try.func24, Try.ntmps24
    go_wp2_with fail
    refine HCALL.out.mono ?_
    rintro e w1 (⟨w0, ⟨hok, hA⟩, rfl, hw1⟩ | ⟨er, w0, ⟨h1, h2, h3⟩, rfl, hw1⟩)
    · obtain ⟨hinv, L, P, hrow, hown, hPE⟩ := hA
      obtain ⟨g1, g3, g4⟩ := HFAR.out w0 hinv
      have hk : ∀ g, g ≠ B + 2 → w1.heap[g]? = w0.heap[g]? := fun g hg => by rw [hw1]; exact heap_setCell_other _ ⟨_, _, _⟩ _ _ (by rw [hXb]; exact hg)
      have hX1 : w1.heap[B + 1]? = some (.cells #[L] 22 (0, 0)) := (hk _ (by omega)).trans hrow
      obtain ⟨LA, LC, hL⟩ := hown.form
      obtain ⟨LN, hLN⟩ : ∃ n, P.length = n := ⟨_, rfl⟩
      rw [hLN] at hL
      subst hL
      have c1 : w1.cell? ⟨B + 1, 0, none⟩ = some (.slice LA LN LC) := (cell_of_row _ _ _ _ _ _ hX1).trans rfl
      have hXl := lt_of_heap hX1
      have HP : Hid (REPost bs B (.returned (.tuple #[.slice LA LN LC, .int .i64 0])) w1) := Lib.hid ⟨_, P, by rw [hok]; rfl, (hown.keep (fun q hq hl => hk q (by omega))).mono (by omega), hPE⟩
      have HL1 : Hid (Below B w w1) := Lib.hid (by rw [hw1]; exact g4.setCell (by rw [hXb]; show B ≤ B + 2; omega) _)
      clear hinv hok hrow hown g1 g3 g4 hk hw1 HCALL hX1 hPE hLN
      go_wp2_with fail
      exact bodyPost_ret (v := .tuple #[.slice LA LN LC, .int .i64 0]) (by simp [results, Try.results24, go_sem]) rfl ⟨HP.out, HL1.out⟩
    · obtain ⟨g1, g3, g4⟩ := HFAR.out w0 h3
      have HL1 : Hid (Below B w w1) := Lib.hid (by rw [hw1]; refine Below.alloc (g4.setCell (by rw [hXb]; show B ≤ B + 2; omega) _) (by rw [World.size_setCell]; omega) _)
      have hei : ¬ (er : Int) = 0 := by omega
      have HP : Hid (REPost bs B (.returned (.tuple #[.slice none 0 0, .int .i64 er])) w1) := Lib.hid (REPost.err h1.symm h2 _ _)
      clear h1 h2 h3 g1 g3 g4 hw1 HCALL
      go_wp2_with fail
      exact bodyPost_ret (v := .tuple #[.slice none 0 0, .int .i64 er]) (by simp [results, Try.results24, go_sem]) rfl ⟨HP.out, HL1.out⟩
end Go.Proofs.Ytgkiedbefogklaa
