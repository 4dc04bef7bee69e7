/- What is proved: what over and caught answer when they are called; conditions: those typed. -/
import Derived.Test.YtgkiedbefogklaaWireE
set_option linter.unusedSimpArgs false
set_option linter.unusedVariables false
namespace Go.Proofs.Ytgkiedbefogklaa
open Go.RowKit
set_option maxRecDepth 100000
set_option maxHeartbeats 8000000
def fun1 (Bv : Nat) : Value := .func (.func 52) #[] #[.pointer (some ⟨Bv, 0, none⟩)]
def fun2 (Bv : Nat) : Value := .func (.func 54) #[] #[.pointer (some ⟨Bv, 0, none⟩)]
def fun3 (Bv : Nat) : Value := .func (.func 56) #[] #[.pointer (some ⟨Bv, 0, none⟩)]
theorem rdrInfo : (Try.prog.info? 64).map (·.size) = some 3 := by kernel_rfl
theorem rdrRow : ∃ d, Try.prog.underlying 64 = some d ∧ d.isRow = true := ⟨_, Try.underlying64, rfl⟩
theorem zero_rdr (w : World) : (zeroValue 64).run Try.prog w = .ok (.agg #[.nilFunc, .nilFunc, .nilFunc]) w := by kernel_rfl
theorem over_any (v : Value) (w : World) (hv : ∃ A n c, v = .slice A n c) : Calls Try.prog 39 #[v] w fun e w' => e = .returned (.agg #[fun1 w.heap.size, fun2 w.heap.size, fun3 w.heap.size]) ∧ Below w.heap.size w w' ∧ w'.heap[w.heap.size]? = some (.cells #[v] 24 (0, 0)) := by
  obtain ⟨A, n, c, rfl⟩ := hv
  have hmf : ∀ (fn : Fn) (first cap : Array Value) (w : World), (Instr.makeFunc fn first cap).run Try.prog w = .ok (.func fn first cap) w := fun _ _ _ _ => rfl
  have hz : ∀ w, (zeroValue 64).run Try.prog w = .ok (.agg #[.nilFunc, .nilFunc, .nilFunc]) w := zero_rdr
  obtain ⟨X, hX⟩ : ∃ X, w.heap.size = X := ⟨_, rfl⟩
  obtain ⟨Wa, hWa⟩ : ∃ W, w.alloc (.cells #[.slice A n c] 24) = W := ⟨_, rfl⟩
  have hXa : Wa.heap.size = X + 1 := by rw [← hWa, ← hX]; simp
  obtain ⟨Wb, hWb⟩ : ∃ W, Wa.alloc (.cells #[.nilFunc, .nilFunc, .nilFunc] 64) = W := ⟨_, rfl⟩
  have HA : Hid (Wb.heap[X + 1]? = some (.cells #[.nilFunc, .nilFunc, .nilFunc] 64 (0, 0))) := Lib.hid (by rw [← hWb, ← hXa]; exact heap_alloc_last _ _)
  have HX : Hid (Wb.heap[X]? = some (.cells #[.slice A n c] 24 (0, 0))) := Lib.hid (by rw [← hWb, heap_alloc_old _ _ (by omega), ← hWa, ← hX]; exact heap_alloc_last _ _)
  have hb0 : Below w.heap.size w Wa := by rw [← hWa]; exact Below.alloc (Below.refl _ _) (Nat.le_refl _) _
  have HB : Hid (Below w.heap.size w Wb) := Lib.hid (by rw [← hWb]; exact Below.alloc hb0 hb0.size _)
  have hXb : Wb.heap.size = X + 2 := by rw [← hWb]; simp [hXa]
  rw [hX]
  clear hb0
  go_enter Try.func39, Try.ntmps39
  go_wp2_with (with_reducible refine wpList_stB (row := #[fun1 X, fun2 X, fun3 X]) rdrInfo (by simp [Value.oneCell', fun1, fun2, fun3]) rfl (.tmp 2) (.tmp 6) rfl rfl rfl HA.out rfl ?_)
  refine bodyPost_ret (v := .agg #[fun1 X, fun2 X, fun3 X]) ?_ rfl ⟨rfl, ?_, ?_⟩
  · exact results_blk (fn := Try.f39) Try.results39 rfl (run_loadVar_blk rdrInfo rdrRow (setRow_heap _ _ _ _ _ _ HA.out))
  · have := below_setRow HB.out (show w.heap.size ≤ X + 1 by omega) #[fun1 X, fun2 X, fun3 X]
    first | exact this | (rw [hX] at this; exact this)
  · exact (setRow_other _ _ _ _ (by omega)).trans HX.out
theorem catch_idle (p : Addr) (w : World) :
    CallsD Try.prog 51 #[.pointer (some p)] .returning w fun e u' w' => e = .returned (.tuple #[]) ∧ u' = .returning ∧ w' = w := by
  refine callsD_of_wpS Try.func51 rfl fun c₀ cs hu => ?_
  apply wpS_seq
  apply wpS_region
  simp [wpOpsS, go_sem, recoverD, hu, Try.ntmps51, Exit.thenS]
  refine wpS_of_wp ?_
  go_wp2_with fail
  cases c₀
  simp_all [bodyPostS, results, Try.results51]
theorem catch_pan (Ev : Nat) (er : Nat) (x : Int) (w : World) (hE : w.heap[Ev]? = some (.cells #[.int .i64 x] 25 (0, 0))) :
    CallsD Try.prog 51 #[.pointer (some ⟨Ev, 0, none⟩)] (.panicking (panE er)) w fun e u' w' =>
      e = .returned (.tuple #[]) ∧ u' = .panicking [{ v := .iface 77 (.agg #[.int .i64 er]), recovered := true }] ∧ w' = (w.setCell ⟨Ev, 0, none⟩ (.int .i64 er)).alloc (.cells #[.int .i64 er] 77) := by
  have hta : ∀ w, (Instr.typeAssert (.iface 77 (.agg #[.int .i64 er])) 20 77 true).run Try.prog w = .ok (.tuple #[.agg #[.int .i64 er], .bool true]) w := fun w => by kernel_rfl
  have hz : ∀ w, (zeroValue 77).run Try.prog w = .ok (.agg #[.int .i64 0]) w := fun w => by kernel_rfl
  have c0 : w.cell? ⟨Ev, 0, none⟩ = some (.int .i64 x) := (cell_of_row _ _ _ _ _ _ hE).trans rfl
  have hf0 : w.frozen? ⟨Ev, 0, none⟩ = false := frozen_of_row w Ev 0 _ _ hE
  have hEl := lt_of_heap hE
  have hnE : ¬ w.heap.size = Ev := by omega
  unfold panE
  refine callsD_of_wpS Try.func51 rfl fun c₀ cs hu => ?_
  apply wpS_seq
  apply wpS_region
  simp [wpOpsS, go_sem, recoverD, hu, Try.ntmps51, Exit.thenS]
  refine wpS_of_wp ?_
  have e : (#[Value.pointer (some ⟨Ev, 0, none⟩)] ++ (((Array.replicate 16 undef).setIfInBounds 3 (Value.iface 77 (Value.agg #[Value.int IntKind.i64 ↑er]))).setIfInBounds 0 (Value.iface 77 (Value.agg #[Value.int IntKind.i64 ↑er])))) = #[Value.pointer (some ⟨Ev, 0, none⟩), Value.iface 77 (Value.agg #[Value.int IntKind.i64 ↑er]), undef, undef, Value.iface 77 (Value.agg #[Value.int IntKind.i64 ↑er]), undef, undef, undef, undef, undef, undef, undef, undef, undef, undef, undef, undef] := rfl
  rw [e]
  clear e
  go_wp2_with fail
  cases c₀
  exact ⟨rfl, _, rfl, .tuple #[], results_none rfl _ _ _, rfl, rfl, rfl⟩
/-- What caught answers. -/
def CaughtPost (w : World) (A : World → Prop) (B : Nat → World → Prop) (e : Ending) (w' : World) : Prop :=
  (∃ w1, A w1 ∧ e = .returned (.int .i64 0) ∧ w' = w1.setCell ⟨w.heap.size, 0, none⟩ (.int .i64 0)) ∨ ∃ er w1, B er w1 ∧ e = .returned (.int .i64 er) ∧ w' = (w1.setCell ⟨w.heap.size, 0, none⟩ (.int .i64 er)).alloc (.cells #[.int .i64 er] 77)
theorem caught_any (K : FuncId) (caps : Array Value) (w : World) (A : World → Prop) (B : Nat → World → Prop) (hcf : ∀ w, (callFunc K caps).run Try.prog w = .ok (.enter K caps) w)
    (hdo : Calls Try.prog K caps (w.alloc (.cells #[.int .i64 0] 25)) fun e w' => (e = .returned (.tuple #[]) ∧ A w') ∨ ∃ er, e = .panicked (panE er) ∧ B er w')
    (hA : ∀ w', A w' → w'.heap[w.heap.size]? = some (.cells #[.int .i64 0] 25 (0, 0))) (hB : ∀ er w', B er w' → w'.heap[w.heap.size]? = some (.cells #[.int .i64 0] 25 (0, 0))) :
    Calls Try.prog 37 #[.func (.func K) #[] caps] w (CaughtPost w A B) := by
  have hmf : ∀ (fn : Fn) (first cap : Array Value) (w : World), (Instr.makeFunc fn first cap).run Try.prog w = .ok (.func fn first cap) w := fun _ _ _ _ => rfl
  have HDO := Lib.hid hdo
  have HA := Lib.hid hA
  have HB := Lib.hid hB
  obtain ⟨X, hX⟩ : ∃ X, w.heap.size = X := ⟨_, rfl⟩
  obtain ⟨Wa, hWa⟩ : ∃ W, w.alloc (.cells #[.int .i64 0] 25) = W := ⟨_, rfl⟩
  rw [hWa] at HDO
  clear hdo hA hB
  go_enter_defers Try.func37, Try.ntmps37
  go_wp2_with fail
  refine HDO.out.mono ?_
  rintro e w1 (⟨rfl, hA⟩ | ⟨er, rfl, hB⟩)
  · have hE := HA.out w1 hA
    rw [hX] at hE
    have c0 : w1.cell? ⟨X, 0, none⟩ = some (.int .i64 0) := (cell_of_row _ _ _ _ _ _ hE).trans rfl
    have hf0 : w1.frozen? ⟨X, 0, none⟩ = false := frozen_of_row w1 X 0 _ _ hE
    have hEl := lt_of_heap hE
    have HA1 := Lib.hid hA
    have HE := Lib.hid hE
    clear hE hA
    go_wp2_with fail
    refine leaves_cons (f := 51) (args := #[.pointer (some ⟨X, 0, none⟩)]) (by simp) (by simp [go_sem]) ?_
    refine (catch_idle ⟨X, 0, none⟩ _).mono ?_
    rintro e u' w'' ⟨rfl, rfl, rfl⟩
    have c1 : (w1.setCell ⟨X, 0, none⟩ (.int .i64 0)).cell? ⟨X, 0, none⟩ = some (.int .i64 0) := (cell_of_row _ _ _ _ _ _ (heap_setCell_same _ _ _ _ _ _ HE.out)).trans rfl
    have HF : Hid (CaughtPost w A B (.returned (.int .i64 0)) (w1.setCell ⟨X, 0, none⟩ (.int .i64 0))) := Lib.hid (.inl ⟨w1, HA1.out, rfl, by rw [hX]⟩)
    simp [Leaves, settle, results, Try.results37, go_sem, c1]
    exact HF.out
  · have hE := HB.out er w1 hB
    rw [hX] at hE
    have HE := Lib.hid hE
    have HB1 := Lib.hid hB
    clear hE hB
    go_wp2_with fail
    refine leaves_cons (f := 51) (args := #[.pointer (some ⟨X, 0, none⟩)]) (by simp) (by simp [go_sem]) ?_
    refine (catch_pan X er 0 w1 HE.out).mono ?_
    rintro e u' w'' ⟨rfl, rfl, rfl⟩
    have hXl := lt_of_heap HE.out
    have c1 : ((w1.setCell ⟨X, 0, none⟩ (.int .i64 er)).alloc (.cells #[.int .i64 er] 77)).cell? ⟨X, 0, none⟩ = some (.int .i64 er) := by
      rw [World.cell?_alloc_lt _ _ _ (by simpa using hXl)]
      exact (cell_of_row _ _ _ _ _ _ (heap_setCell_same _ _ _ _ _ _ HE.out)).trans rfl
    have HF : Hid (CaughtPost w A B (.returned (.int .i64 er)) ((w1.setCell ⟨X, 0, none⟩ (.int .i64 er)).alloc (.cells #[.int .i64 er] 77))) := Lib.hid (.inr ⟨er, w1, HB1.out, rfl, by rw [hX]⟩)
    simp [Leaves, settle, results, Try.results37, go_sem, c1]
    exact HF.out
end Go.Proofs.Ytgkiedbefogklaa
