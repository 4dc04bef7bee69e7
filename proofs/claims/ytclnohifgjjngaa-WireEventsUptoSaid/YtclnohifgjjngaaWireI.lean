/- What is proved: what Read of package wire answers when it is called; conditions: the slice reads as it is said to. -/
import Derived.Test.YtclnohifgjjngaaWireH
set_option linter.unusedSimpArgs false
set_option linter.unusedVariables false
namespace Go.Proofs.Ytclnohifgjjngaa
open Go.RowKit
set_option maxRecDepth 100000
set_option maxHeartbeats 8000000
theorem insInfo : (Try.prog.info? 34).map (·.size) = some 5 := by kernel_rfl
theorem insRow : ∃ d, Try.prog.underlying 34 = some d ∧ d.isRow = true := ⟨_, Try.underlying34, rfl⟩
theorem zero_ins (w : World) : (zeroValue 34).run Try.prog w = .ok (.agg #[.int .u64 0, .int .u64 0, .int .u64 0, .int .u64 0, .slice none 0 0]) w := by kernel_rfl
theorem results_cs {fn : Func} {p q : Tmp} {ty : TypeId} (h : fn.results = #[.cell p ty, .tmp q]) {tmps : Array Value} {w : World} {g : Nat} {v : Value} (hp : tmps.getD p undef = .pointer (some ⟨g, 0, none⟩)) (hl : (loadVar ty ⟨g, 0, none⟩).run Try.prog w = .ok v w) :
    (results fn tmps).run Try.prog w = .ok (.tuple #[v, tmps.getD q undef]) w := by
  have hp' : tmps[p]?.getD undef = .pointer (some ⟨g, 0, none⟩) := by rw [← hp]; simp
  simp only [results, h]
  simp [Sem.run_bind, Result.andThen, hp', asAddr, hl]
theorem xr_zero (bs : List Int) (u : Value) : xr bs 0 u = #[.int .u64 0, .int .u64 0, .int .u64 0, .int .u64 0, u] := by simp [xr]
theorem xr_four (bs : List Int) (u : Value) : xr bs 4 u = #[.int .u64 (nu bs 0 : Int), .int .u64 (nu bs 1 : Int), .int .u64 (nu bs 2 : Int), .int .u64 (nu bs 3 : Int), u] := by simp [xr]
/-- What Read answers. -/
def ReadPost (bs : List Int) (B0 : Nat) (e : Ending) (w' : World) : Prop :=
  ∃ u, e = .returned (.tuple #[.agg (xr bs (if readE bs = 0 then 4 else 0) u), .int .i64 (readE bs : Nat)]) ∧ OwB w' B0 u (if readE bs = 0 then (rs bs 5).take (nu bs 4) else [])
theorem ReadPost.err {bs : List Int} {er : Nat} (h : readE bs = er) (h0 : er ≠ 0) (B0 : Nat) (w' : World) : ReadPost bs B0 (.returned (.tuple #[.agg #[.int .u64 0, .int .u64 0, .int .u64 0, .int .u64 0, .slice none 0 0], .int .i64 er])) w' := by
  refine ⟨.slice none 0 0, ?_, ?_⟩
  · rw [h, if_neg h0, xr_zero]
  · rw [h, if_neg h0]; exact OwB.nil _ _
theorem ReadPost.good {bs : List Int} {B0 : Nat} {w' : World} {u : Value} (h : readE bs = 0) (ho : OwB w' B0 u ((rs bs 5).take (nu bs 4))) : ReadPost bs B0 (.returned (.tuple #[.agg (xr bs 4 u), .int .i64 0])) w' := by
  refine ⟨u, ?_, ?_⟩
  · rw [h, if_pos rfl]; rfl
  · rw [h, if_pos rfl]; exact ho
theorem OwB.form {w : World} {b : Nat} {u : Value} {xs : List Int} (h : OwB w b u xs) : ∃ A n c, u = .slice A n c := by
  obtain ⟨_, ⟨h1, _⟩ | ⟨g, cap, cur, h1, _⟩⟩ := h
  · exact ⟨none, 0, 0, h1⟩
  · exact ⟨_, _, _, h1⟩
theorem read_any (v : Value) (bs : List Int) (w : World) (hv : BB w v bs) : Calls Try.prog 17 #[v] w fun e w' => ReadPost bs w.heap.size e w' ∧ Below w.heap.size w w' := by
  have hsl : ∃ A n c, v = .slice A n c := by obtain ⟨_, _, A, c, h, _⟩ := hv; exact ⟨_, _, _, h⟩
  obtain ⟨B, hB⟩ : ∃ B, w.heap.size = B := ⟨_, rfl⟩
  have hmf : ∀ (fn : Fn) (first cap : Array Value) (w : World), (Instr.makeFunc fn first cap).run Try.prog w = .ok (.func fn first cap) w := fun _ _ _ _ => rfl
  have hcf : ∀ w, (callFunc 34 #[.pointer (some ⟨B, 0, none⟩), .pointer (some ⟨B + 2, 0, none⟩)]).run Try.prog w = .ok (.enter 34 #[.pointer (some ⟨B, 0, none⟩), .pointer (some ⟨B + 2, 0, none⟩)]) w := fun w => by kernel_rfl
  have hz : ∀ w, (zeroValue 34).run Try.prog w = .ok (.agg #[.int .u64 0, .int .u64 0, .int .u64 0, .int .u64 0, .slice none 0 0]) w := zero_ins
  have HV := Lib.hid hv
  clear hv
  obtain ⟨A0, n0, cp0, rfl⟩ := hsl
  obtain ⟨Wa, hWa⟩ : ∃ W, w.alloc (.cells #[.slice A0 n0 cp0] 23) = W := ⟨_, rfl⟩
  have hXa : Wa.heap.size = B + 1 := by rw [← hWa, ← hB]; simp
  obtain ⟨Wb, hWb⟩ : ∃ W, Wa.alloc (.cells #[.int .u64 0, .int .u64 0, .int .u64 0, .int .u64 0, .slice none 0 0] 34) = W := ⟨_, rfl⟩
  have hXb : Wb.heap.size = B + 2 := by rw [← hWb]; simp [hXa]
  obtain ⟨Wc, hWc⟩ : ∃ W, Wb.alloc (.cells #[.int .u64 0, .int .u64 0, .int .u64 0, .int .u64 0, .slice none 0 0] 34) = W := ⟨_, rfl⟩
  have hXc : Wc.heap.size = B + 3 := by rw [← hWc]; simp [hXb]
  have HB0 : Hid (Wc.heap[B]? = some (.cells #[.slice A0 n0 cp0] 23 (0, 0))) := Lib.hid (by rw [← hWc, heap_alloc_old _ _ (by omega), ← hWb, heap_alloc_old _ _ (by omega), ← hWa, ← hB]; exact heap_alloc_last _ _)
  have HB1 : Hid (Wc.heap[B + 1]? = some (.cells #[.int .u64 0, .int .u64 0, .int .u64 0, .int .u64 0, .slice none 0 0] 34 (0, 0))) := Lib.hid (by rw [← hWc, heap_alloc_old _ _ (by omega), ← hWb, ← hXa]; exact heap_alloc_last _ _)
  have HB2 : Hid (Wc.heap[B + 2]? = some (.cells #[.int .u64 0, .int .u64 0, .int .u64 0, .int .u64 0, .slice none 0 0] 34 (0, 0))) := Lib.hid (by rw [← hWc, ← hXb]; exact heap_alloc_last _ _)
  have HBW : Hid (Below w.heap.size w Wc) := Lib.hid (by
    have h0 : Below w.heap.size w Wa := by rw [← hWa]; exact Below.alloc (Below.refl _ _) (Nat.le_refl _) _
    have h1 : Below w.heap.size w Wb := by rw [← hWb]; exact Below.alloc h0 h0.size _
    rw [← hWc]; exact Below.alloc h1 h1.size _)
  rw [hB]
  obtain ⟨Wd, hWd⟩ : ∃ W, Wc.alloc (.cells #[.int .i64 0] 24) = W := ⟨_, rfl⟩
  have hXd : Wd.heap.size = B + 4 := by rw [← hWd]; simp [hXc]
  have hbd : Below Wc.heap.size Wc Wd := by rw [← hWd]; exact Below.alloc (Below.refl _ _) (Nat.le_refl _) _
  have HBD := Lib.hid hbd
  have HE : Hid (Wd.heap[B + 3]? = some (.cells #[.int .i64 0] 24 (0, 0))) := Lib.hid (by rw [← hWd, ← hXc]; exact heap_alloc_last _ _)
  have HFAR : Hid (∀ w', Inv Wd (fun g => g = B + 2) gh0 w' → w'.heap[Wc.heap.size]? = some (.cells #[.int .i64 0] 24 (0, 0)) ∧ w'.heap[B + 1]? = some (.cells #[.int .u64 0, .int .u64 0, .int .u64 0, .int .u64 0, .slice none 0 0] 34 (0, 0)) ∧ B + 4 ≤ w'.heap.size ∧ Below B w w') := Lib.hid (fun w' h => ⟨by
      rw [hXc]; exact (h.far (B + 3) (by omega) (by omega)).trans HE.out, by
      exact (h.far (B + 1) (by omega) (by omega)).trans ((HBD.out.block _ (by omega)).trans HB1.out), by have := h.size; omega, by
      have hw : Below B w Wd := by have := bl_then HBW.out (by omega) HBD.out; rwa [hB] at this
      exact h.belowS hw (by omega) (fun g hg => by omega)⟩)
  have HCALL : Hid (Calls Try.prog 33 #[.func (.func 34) #[] #[.pointer (some ⟨B, 0, none⟩), .pointer (some ⟨B + 2, 0, none⟩)]] Wc (CaughtPost Wc (ReadW Wd (B + 2) bs) (fun er w' => er = readE bs ∧ er ≠ 0 ∧ Inv Wd (fun g => g = B + 2) gh0 w'))) := Lib.hid (by
    refine caught_any _ _ Wc _ _ hcf ?_ (fun w' h => (HFAR.out w' h.inv).1) (fun er w' h => (HFAR.out w' h.2.2).1)
    rw [hWd]
    refine (read1_any B (B + 2) (.slice A0 n0 cp0) bs Wd ((HBD.out.block _ (by omega)).trans HB0.out) ((HV.out.below HBW.out).below HBD.out) ?_ (by omega)).mono ?_
    · rw [xr_zero]
      exact (HBD.out.block _ (by omega)).trans HB2.out
    · rintro e w' (⟨rfl, h⟩ | ⟨er, rfl, h1, h2, h3⟩)
      · exact .inl ⟨rfl, h⟩
      · exact .inr ⟨er, rfl, h1, h2, h3⟩)
  clear hbd hcf
  go_enter Try.func17, Try.ntmps17
  go_wp2_with fail
  refine HCALL.out.mono ?_
  rintro e w1 (⟨w0, hA, rfl, hw1⟩ | ⟨er, w0, ⟨h1, h2, h3⟩, rfl, hw1⟩)
  · obtain ⟨hinv, hok, u, hrow, hou⟩ := hA
    obtain ⟨g1, g2, g3, g4⟩ := HFAR.out w0 hinv
    have hk : ∀ g, g ≠ B + 3 → w1.heap[g]? = w0.heap[g]? := fun g hg => by rw [hw1]; exact heap_setCell_other _ ⟨_, _, _⟩ _ _ (by rw [hXc]; exact hg)
    have HX1 : Hid (w1.heap[B + 2]? = some (.cells (xr bs 4 u) 34 (0, 0))) := Lib.hid ((hk _ (by omega)).trans hrow)
    have HR1 : Hid (w1.heap[B + 1]? = some (.cells #[.int .u64 0, .int .u64 0, .int .u64 0, .int .u64 0, .slice none 0 0] 34 (0, 0))) := Lib.hid ((hk _ (by omega)).trans g2)
    have HO1 : Hid (OwB w1 (B + 4) u ((rs bs 5).take (nu bs 4))) := Lib.hid (by
      rw [hXd] at hou
      exact hou.keep fun q hq hl => hk q (fun e => by have := (World.ownsRow.lt hou q hq).1; omega))
    have HL1 : Hid (Below B w w1) := Lib.hid (by rw [hw1]; exact g4.setCell (by rw [hXc]; show B ≤ B + 3; omega) _)
    have HOK := Lib.hid hok
    obtain ⟨Au, nU, cu, rfl⟩ := hou.form
    obtain ⟨row, hr⟩ : ∃ row, xr bs 4 (.slice Au nU cu) = row := ⟨_, rfl⟩
    have hrs : row.size = 5 := by rw [← hr]; rfl
    have HONE : Hid (row.all (·.oneCell') = true) := Lib.hid (by rw [← hr]; simp [xr, Value.oneCell'])
    rw [hr] at HX1
    have HI : Hid ((Try.prog.info? 34).map (·.size) = some row.size) := Lib.hid (by rw [hrs]; exact insInfo)
    have HSZ : Hid ((#[Value.int .u64 0, .int .u64 0, .int .u64 0, .int .u64 0, .slice none 0 0] : Array Value).size = row.size) := Lib.hid (by rw [hrs]; rfl)
    have HRR := Lib.hid hr
    clear hinv hok hrow hou g1 g2 g3 g4 hk hw1 hr hrs HCALL
    go_wp2_with (first | (with_reducible refine wpList_ldB (row := row) HI.out insRow rfl (.tmp 4) rfl rfl HX1.out ?_) | (with_reducible refine wpList_stB (row := row) HI.out HONE.out rfl (.tmp 2) (.tmp 12) rfl rfl rfl HR1.out HSZ.out ?_))
    refine bodyPost_ret (v := .tuple #[.agg row, .int .i64 0]) ?_ rfl ⟨?_, below_setRow HL1.out (by omega) _⟩
    · exact results_cs (fn := Try.f17) Try.results17 rfl (run_loadVar_blk HI.out insRow (setRow_heap _ _ _ _ _ _ HR1.out))
    · rw [← HRR.out]
      exact ReadPost.good HOK.out ((HO1.out.keep fun g hg hlt => setRow_other _ _ _ _ (fun e => by have := (World.ownsRow.lt HO1.out g hg).1; omega)).mono (by omega))
  · obtain ⟨g1, g2, g3, g4⟩ := HFAR.out w0 h3
    have hb1 : Below (B + 3) (w0.setCell ⟨Wc.heap.size, 0, none⟩ (.int .i64 er)) w1 := by rw [hw1]; exact Below.alloc (Below.refl _ _) (by rw [World.size_setCell]; omega) _
    have HL1 : Hid (Below B w w1) := Lib.hid (by rw [hw1]; refine Below.alloc (g4.setCell (by rw [hXc]; show B ≤ B + 3; omega) _) (by rw [World.size_setCell]; omega) _)
    have HR1 : Hid (w1.heap[B + 1]? = some (.cells #[.int .u64 0, .int .u64 0, .int .u64 0, .int .u64 0, .slice none 0 0] 34 (0, 0))) := Lib.hid ((hb1.block _ (by omega)).trans ((heap_setCell_other _ ⟨_, _, _⟩ _ _ (by show B + 1 ≠ Wc.heap.size; omega)).trans g2))
    have hei : ¬ (er : Int) = 0 := by omega
    have HP := Lib.hid h1.symm
    have HN := Lib.hid h2
    clear h1 h2 h3 g1 g2 g3 g4 hb1 hw1 HCALL
    go_wp2_with (first | (with_reducible refine wpList_stB (row := #[.int .u64 0, .int .u64 0, .int .u64 0, .int .u64 0, .slice none 0 0]) insInfo (by simp [Value.oneCell']) rfl (.tmp 2) (.tmp 10) rfl rfl rfl HR1.out rfl ?_))
    refine bodyPost_ret (v := .tuple #[.agg #[.int .u64 0, .int .u64 0, .int .u64 0, .int .u64 0, .slice none 0 0], .int .i64 er]) ?_ rfl ⟨ReadPost.err HP.out HN.out _ _, below_setRow HL1.out (by omega) _⟩
    exact results_cs (fn := Try.f17) Try.results17 rfl (run_loadVar_blk insInfo insRow (setRow_heap _ _ _ _ _ _ HR1.out))
end Go.Proofs.Ytclnohifgjjngaa
