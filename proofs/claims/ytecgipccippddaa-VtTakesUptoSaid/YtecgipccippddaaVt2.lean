/- What is proved: what New, there, Ground, to, command, end of package vt answer when they are called; conditions: those typed. -/
import Derived.Test.YtecgipccippddaaVt1
set_option linter.unusedSimpArgs false
set_option linter.unusedVariables false
namespace Go.Proofs.Ytecgipccippddaa
open Go.RowKit
set_option maxRecDepth 100000
set_option maxHeartbeats 8000000
theorem parInfo : (Try.prog.info? 47).map (·.size) = some 7 := by kernel_rfl
theorem parRow : ∃ d, Try.prog.underlying 47 = some d ∧ d.isRow = true := ⟨_, Try.underlying47, rfl⟩
theorem actInfo : (Try.prog.info? 31).map (·.size) = some 7 := by kernel_rfl
theorem actRow : ∃ d, Try.prog.underlying 31 = some d ∧ d.isRow = true := ⟨_, Try.underlying31, rfl⟩
theorem zero_act (w : World) : (zeroValue 31).run Try.prog w = .ok (.agg #[.int .u8 0, .int .i32 0, .int .u8 0, .int .u8 0, (.slice none 0 0), (.slice none 0 0), (.slice none 0 0)]) w := by kernel_rfl
theorem zero_par (w : World) : (zeroValue 47).run Try.prog w = .ok (.agg #[.int .u8 0, .int .u8 0, (.slice none 0 0), (.slice none 0 0), (.slice none 0 0), .bool false, .bool false]) w := by kernel_rfl
theorem there_any (P base : Nat) (s : VS) (vm vp vt : Value) (w : World) (h : PW w P base s vm vp vt) (hs : 1 ≤ s.st ∧ s.st ≤ 6) : Calls Try.prog 20 #[.pointer (some ⟨P, 0, none⟩)] w fun e w' => e = .returned (.bool true) ∧ w' = w := by
  have c0 : w.cell? ⟨P, 0, none⟩ = some (.int .u8 s.st) := h.cell rfl
  have hne : ((s.st : Int) != 0) = true := by simp; omega
  go_enter Try.func20, Try.ntmps20
  go_wp2_with fail
  go_ret
  exact ⟨rfl, rfl⟩
theorem there_nil (w : World) : Calls Try.prog 20 #[.pointer none] w fun e w' => e = .returned (.bool false) ∧ w' = w := by
  go_enter Try.func20, Try.ntmps20
  go_wp2_with fail
  go_ret
  exact ⟨rfl, rfl⟩
theorem ground_any (P base : Nat) (s : VS) (vm vp vt : Value) (w : World) (h : PW w P base s vm vp vt) (hs : 1 ≤ s.st ∧ s.st ≤ 6) : Calls Try.prog 10 #[.pointer (some ⟨P, 0, none⟩)] w fun e w' => e = .returned (.bool (s.st == 1)) ∧ w' = w := by
  have c0 : w.cell? ⟨P, 0, none⟩ = some (.int .u8 s.st) := h.cell rfl
  obtain ⟨b, hb⟩ : ∃ b, (s.st == 1) = b := ⟨_, rfl⟩
  have hbi : ((s.st : Int) == 1) = b := by rw [← hb, Bool.eq_iff_iff]; simp; omega
  rw [hb]
  go_enter Try.func10, Try.ntmps10
  go_wp2_with fail
  refine (there_any P base s vm vp vt w h hs).mono ?_
  rintro e w1 ⟨rfl, rfl⟩
  go_wp2_with fail
  go_ret
  exact ⟨rfl, rfl⟩
theorem ground_nil (w : World) : Calls Try.prog 10 #[.pointer none] w fun e w' => e = .returned (.bool false) ∧ w' = w := by
  go_enter Try.func10, Try.ntmps10
  go_wp2_with fail
  refine (there_nil w).mono ?_
  rintro e w1 ⟨rfl, rfl⟩
  go_wp2_with fail
  go_ret
  exact ⟨rfl, rfl⟩
theorem new_any (w : World) : Calls Try.prog 8 #[] w fun e w' => e = .returned (.pointer (some ⟨w.heap.size, 0, none⟩)) ∧ w' = w.alloc (.cells (pcells (freshS 1) (.slice none 0 0) (.slice none 0 0) (.slice none 0 0)) 47) := by
  have hz : ∀ w, (zeroValue 47).run Try.prog w = .ok (.agg #[.int .u8 0, .int .u8 0, (.slice none 0 0), (.slice none 0 0), (.slice none 0 0), .bool false, .bool false]) w := zero_par
  go_enter Try.func8, Try.ntmps8
  go_wp2_with fail
  go_ret
  exact ⟨rfl, rfl⟩
theorem new_pw (w : World) (base : Nat) : PW (w.alloc (.cells (pcells (freshS 1) (.slice none 0 0) (.slice none 0 0) (.slice none 0 0)) 47)) w.heap.size base (freshS 1) (.slice none 0 0) (.slice none 0 0) (.slice none 0 0) :=
  ⟨heap_alloc_last _ _, OwK.nil _ _ _ _, OwK.nil _ _ _ _, OwK.nil _ _ _ _⟩
theorem to_any (P base n : Nat) (s : VS) (vm vp vt : Value) (w : World) (h : PW w P base s vm vp vt) : Calls Try.prog 22 #[.pointer (some ⟨P, 0, none⟩), .int .u8 n] w fun e w' => e = .returned (.tuple #[]) ∧ PW w' P base (freshS n) (.slice none 0 0) (.slice none 0 0) (.slice none 0 0) ∧ Inv w (fun g => g = P) gh0 w' := by
  have HP := Lib.hid h.hP
  have hz : ∀ w, (zeroValue 47).run Try.prog w = .ok (.agg #[.int .u8 0, .int .u8 0, (.slice none 0 0), (.slice none 0 0), (.slice none 0 0), .bool false, .bool false]) w := zero_par
  go_enter Try.func22, Try.ntmps22
  go_wp2_with (with_reducible refine wpList_stB (row := #[.int .u8 n, .int .u8 0, (.slice none 0 0), (.slice none 0 0), (.slice none 0 0), .bool false, .bool false]) parInfo (by simp [Value.oneCell']) rfl (.tmp 7) (.tmp 6) rfl rfl rfl HP.out rfl ?_)
  refine bodyPost_end (v := .tuple #[]) (results_none rfl _ _ _) rfl ⟨rfl, ⟨setRow_heap _ _ _ _ _ _ HP.out, OwK.nil _ _ _ _, OwK.nil _ _ _ _, OwK.nil _ _ _ _⟩, Inv.ofSetRow rfl⟩
theorem command_any (P base : Nat) (s : VS) (vm vp vt : Value) (w : World) (h : PW w P base s vm vp vt) : Calls Try.prog 21 #[.pointer (some ⟨P, 0, none⟩)] w fun e w' => e = .returned (.agg #[.int .u8 5, .int .i32 0, .int .u8 0, .int .u8 0, (.slice none 0 0), (.slice none 0 0), vt]) ∧ Below w.heap.size w w' := by
  obtain ⟨A, c, rfl⟩ := h.t.slice
  obtain ⟨n, hn⟩ : ∃ n, s.tx.length = n := ⟨_, rfl⟩
  rw [hn] at h ⊢
  have c4 : w.cell? ⟨P, 4, none⟩ = some (.slice A n c) := h.cell rfl
  have hPl := lt_of_heap h.hP
  obtain ⟨X, hX⟩ : ∃ X, w.heap.size = X := ⟨_, rfl⟩
  have hPX : P < X := by omega
  have c4' : (w.alloc (.cells #[.int .u8 0, .int .i32 0, .int .u8 0, .int .u8 0, (.slice none 0 0), (.slice none 0 0), (.slice none 0 0)] 31)).cell? ⟨P, 4, none⟩ = some (.slice A n c) := by rw [World.cell?_alloc_lt _ _ _ hPl]; exact c4
  have HX : Hid ((w.alloc (.cells #[.int .u8 0, .int .i32 0, .int .u8 0, .int .u8 0, (.slice none 0 0), (.slice none 0 0), (.slice none 0 0)] 31)).heap[X]? = some (.cells #[.int .u8 0, .int .i32 0, .int .u8 0, .int .u8 0, (.slice none 0 0), (.slice none 0 0), (.slice none 0 0)] 31 (0, 0))) := Lib.hid (by rw [← hX]; exact heap_alloc_last _ _)
  have hz : ∀ w, (zeroValue 31).run Try.prog w = .ok (.agg #[.int .u8 0, .int .i32 0, .int .u8 0, .int .u8 0, (.slice none 0 0), (.slice none 0 0), (.slice none 0 0)]) w := zero_act
  rw [hX]
  go_enter Try.func21, Try.ntmps21
  go_wp2_with (with_reducible refine wpList_stB (row := #[.int .u8 5, .int .i32 0, .int .u8 0, .int .u8 0, (.slice none 0 0), (.slice none 0 0), .slice A n c]) actInfo (by simp [Value.oneCell']) rfl (.tmp 2) (.tmp 8) rfl rfl rfl HX.out rfl ?_)
  refine bodyPost_ret (v := .agg #[.int .u8 5, .int .i32 0, .int .u8 0, .int .u8 0, (.slice none 0 0), (.slice none 0 0), .slice A n c]) ?_ rfl ⟨rfl, ?_⟩
  · exact results_blk (fn := Try.f21) Try.results21 rfl (run_loadVar_blk actInfo actRow (setRow_heap _ _ _ _ _ _ HX.out))
  · have hb : Below w.heap.size w ((w.alloc (.cells #[.int .u8 0, .int .i32 0, .int .u8 0, .int .u8 0, (.slice none 0 0), (.slice none 0 0), (.slice none 0 0)] 31)).setRow X #[.int .u8 5, .int .i32 0, .int .u8 0, .int .u8 0, (.slice none 0 0), (.slice none 0 0), .slice A n c]) := below_setRow (by (repeat' (first | (with_reducible exact Below.refl _ _) | (with_reducible assumption) | (with_reducible refine Below.alloc ?_ ?_ _) | (with_reducible refine below_setRow ?_ ?_ _) | (with_reducible refine bl_drew ?_) | (with_reducible refine bl_drewN ?_ _) | (with_reducible refine Below.setCell ?_ ?_ _) | (with_reducible refine bl_then ?_ ?_ hb) | (with_reducible refine bl_then ?_ ?_ hb1) | (with_reducible refine bl_then ?_ ?_ hb2) | (with_reducible refine bl_then ?_ ?_ hb3) | (with_reducible refine bl_then ?_ ?_ hb4) | (with_reducible refine bl_then ?_ ?_ hb5) | (with_reducible refine bl_then ?_ ?_ hb6) | (with_reducible refine bl_then ?_ ?_ hb7) | (with_reducible refine bl_then ?_ ?_ hb8) | (with_reducible exact Nat.le_refl _) | omega | (simp only [World.size_alloc, World.size_setCell, World.size_drew, size_setRow]; omega) | (simp; omega) | (simp; done)))) (by omega) _
    rw [hX] at hb
    exact hb
end Go.Proofs.Ytecgipccippddaa
