/- What is proved: what the helpers on bytes (Same, Copy, Spoil of the reference, Clone of the library) do when they are called; conditions: the slices read as they are said to. -/
import Derived.Test.YtgkiedbefogklaaBytes
import Derived.Laws.OwnMore
import Derived.Laws.StructEq
set_option linter.unusedSimpArgs false
set_option linter.unusedVariables false
namespace Go.Proofs.Ytgkiedbefogklaa
open Go.RowKit
set_option maxRecDepth 100000
set_option maxHeartbeats 1000000
theorem same_bytes (u v : Value) (xs ys : List Int) (w : World) (h : BB w u xs) (k : BB w v ys) :
    Calls Try.prog 17 #[u, v] w fun e w' => e = .returned (.bool (decide (xs = ys))) ∧ w = w' := by
  have e1 := bytes_str h
  have e2 := bytes_str k
  have e3 := str_inj h.ok k.ok
  have e4 : ((strOfNums xs).toList == (strOfNums ys).toList) = decide (xs = ys) := by
    rw [ByteArray.toList_eq, ByteArray.toList_eq]
    rw [Bool.eq_iff_iff, beq_iff_eq, decide_eq_true_iff, ← e3]
    exact ⟨fun h => by simpa [strOfNums] using h, fun h => by rw [h]⟩
  clear h k
  go_enter Try.func17, Try.ntmps17
  go_wp2_with fail
  go_ret
  exact ⟨rfl, rfl⟩
theorem OwB.made (w : World) : OwB (w.alloc (.cells #[] 5)) w.heap.size (.slice (some ⟨w.heap.size, 0, none⟩) 0 0) [] := World.ownsRow_made w #[] 0 (Nat.le_refl _) (by simp [maxLen]) rfl
theorem copy_bytes (u : Value) (xs : List Int) (w : World) (h : BB w u xs) :
    Calls Try.prog 20 #[u] w fun e w' => (∃ v, e = .returned v ∧ OwB w' w.heap.size v xs) ∧ Below w.heap.size w w' := by
  have H := Lib.hid h
  clear h
  go_enter Try.func20, Try.ntmps20
  go_wp2_with (at_builtin; refine wpList_appB (base := w.heap.size) rfl _ _ rfl (.slice (some ⟨w.heap.size, 0, none⟩) 0 0) u [] xs rfl ?_ rfl ?_ ?_ ?_ ?_)
  · exact OwB.made w
  · exact H.out.below (by (repeat' (first | (with_reducible exact Below.refl _ _) | (with_reducible assumption) | (with_reducible refine Below.alloc ?_ ?_ _) | (with_reducible refine below_setRow ?_ ?_ _) | (with_reducible refine bl_drew ?_) | (with_reducible refine bl_drewN ?_ _) | (with_reducible refine Below.setCell ?_ ?_ _) | (with_reducible refine bl_then ?_ ?_ hb) | (with_reducible refine bl_then ?_ ?_ hb1) | (with_reducible refine bl_then ?_ ?_ hb2) | (with_reducible refine bl_then ?_ ?_ hb3) | (with_reducible refine bl_then ?_ ?_ hb4) | (with_reducible refine bl_then ?_ ?_ hb5) | (with_reducible refine bl_then ?_ ?_ hb6) | (with_reducible refine bl_then ?_ ?_ hb7) | (with_reducible refine bl_then ?_ ?_ hb8) | (with_reducible exact Nat.le_refl _) | omega | (simp only [World.size_alloc, World.size_setCell, World.size_drew, size_setRow]; omega) | (simp; omega) | (simp; done))))
  · simpa using H.out.len
  · simp
  · intro v' w' h1 h2 _
    go_wp2
    go_ret
    exact ⟨⟨_, rfl, by simpa using h1⟩, Below.grown (w := w.alloc _) (by (repeat' (first | (with_reducible exact Below.refl _ _) | (with_reducible assumption) | (with_reducible refine Below.alloc ?_ ?_ _) | (with_reducible refine below_setRow ?_ ?_ _) | (with_reducible refine bl_drew ?_) | (with_reducible refine bl_drewN ?_ _) | (with_reducible refine Below.setCell ?_ ?_ _) | (with_reducible refine bl_then ?_ ?_ hb) | (with_reducible refine bl_then ?_ ?_ hb1) | (with_reducible refine bl_then ?_ ?_ hb2) | (with_reducible refine bl_then ?_ ?_ hb3) | (with_reducible refine bl_then ?_ ?_ hb4) | (with_reducible refine bl_then ?_ ?_ hb5) | (with_reducible refine bl_then ?_ ?_ hb6) | (with_reducible refine bl_then ?_ ?_ hb7) | (with_reducible refine bl_then ?_ ?_ hb8) | (with_reducible exact Nat.le_refl _) | omega | (simp only [World.size_alloc, World.size_setCell, World.size_drew, size_setRow]; omega) | (simp; omega) | (simp; done)))) h2 (by simp) (by simp [Value.ownBlock])⟩
theorem Bel_grown {w w' : World} {row : Option Nat} (h : w.grownBy w' row) (hr : row = none) : Below w.heap.size w w' := (Below.refl _ _).grown h (Nat.le_refl _) (by rw [hr]; simp)
theorem grown_below {w w1 w' : World} {row : Option Nat} (h : w.grownBy w1 row) (hb : Below w1.heap.size w1 w') : w.grownBy w' row :=
  ⟨hb.os.trans h.os, hb.tape.trans h.tape, hb.output.trans h.output, Nat.le_trans h.size hb.size, fun k hk hne => (hb.block k (Nat.lt_of_lt_of_le hk h.size)).trans (h.block k hk hne)⟩
/-- What is behind a world is not looked at: writing there is no growing of it. -/
theorem grown_new {w w1 w' : World} {row row' : Option Nat} (h : w.grownBy w1 row) (h' : w1.grownBy w' row') (hr : row' = row ∨ ∃ k, row' = some k ∧ w.heap.size ≤ k) : w.grownBy w' row := by
  refine ⟨h'.os.trans h.os, h'.tape.trans h.tape, h'.output.trans h.output, Nat.le_trans h.size h'.size, fun k hk hne => ?_⟩
  refine (h'.block k (Nat.lt_of_lt_of_le hk h.size) ?_).trans (h.block k hk hne)
  rcases hr with rfl | ⟨j, rfl, hj⟩
  · exact hne
  · intro e
    injection e with e
    omega
theorem spoil_bytes (v : Value) (xs : List Int) (m : Int) (base : Nat) (w : World) (h : OwB w base v xs) (hl : xs.length ≤ 140737488355325) (hm : 0 ≤ m ∧ m ≤ 255) (hb : base ≤ w.heap.size) :
    Calls Try.prog 21 #[v, .int .u8 m] w fun e w' => (∃ r, e = .returned r) ∧ w.grownBy w' v.ownBlock := by
  obtain ⟨A, cap, hv, hcs⟩ : ∃ A cap, v = .slice A xs.length cap ∧ (xs.length = 0 ∨ ∃ g, A = some ⟨g, 0, none⟩) := by
    obtain ⟨hl, h | ⟨g, cap, cur, h1, _⟩⟩ := h
    · exact ⟨none, 0, by rw [h.1, h.2], .inl h.2⟩
    · exact ⟨_, cap, h1, .inr ⟨g, rfl⟩⟩
  have H := Lib.hid h
  generalize hn : xs.length = n at *
  clear h
  subst hv
  go_enter Try.func21, Try.ntmps21
  go_wp2_with fail
  go_loopw [4] (fun i wr => ∃ k : Nat, k ≤ n ∧ i = .int .i64 k ∧ Hid (∃ zs, zs.length = n ∧ OwB wr base (.slice A n cap) zs) ∧ Hid (w.grownBy wr (Value.slice A n cap).ownBlock)) (fun i _ => n - (intOf i).toNat)
  case atStart => exact ⟨0, Nat.zero_le _, rfl, ⟨xs, hn, H.out⟩, ⟨rfl, rfl, rfl, Nat.le_refl _, fun _ _ _ => rfl⟩⟩
  case round =>
    obtain ⟨k, hk, rfl, HO, HG⟩ := hrel
    by_cases hlt : k < n
    · obtain ⟨g, rfl⟩ : ∃ g, A = some ⟨g, 0, none⟩ := hcs.resolve_left (by omega)
      obtain ⟨zs, hz, ho⟩ := HO.out
      have cA : wr.cell? ⟨g, k, none⟩ = some (.int .u8 (zs.getD k 0)) := by
        have := World.ownsRow.cellAt (by rw [← hz] at ho; exact ho) k (by omega)
        rw [this, List.getElem?_map, List.getD_eq_getElem?_getD, List.getElem?_eq_getElem (by omega)]
        rfl
      have fA : wr.frozen? ⟨g, k, none⟩ = false := World.ownsRow.frozenAt (by rw [← hz] at ho; exact ho) k
      have gl : g < wr.heap.size := block_lt_of_cell cA
      have HO2 := Lib.hid (fun x : Int => World.ownsRow.stored (n := n) (cap := cap) (g := g) (by subst hz; exact ho) k (.int .u8 x))
      go_wp2_with fail
      go_roundw
      case rel =>
        refine ⟨k + 1, by omega, by go_num, ?_, ?_⟩
        · refine ⟨zs.set k (bits BinOp.xor IntKind.u8 m (↑k % 256)), by simpa using hz, ?_⟩
          have := (HO2.out (bits BinOp.xor IntKind.u8 m (↑k % 256))).1
          rw [← List.map_set] at this
          unfold OwB
          rw [List.length_set, hz]
          exact this
        · exact grown_new HG.out (HO2.out _).2 (.inl rfl)
      case measure => simp [intOf] <;> omega
    · obtain ⟨zs, hz, ho⟩ := HO.out
      have HO1 := Lib.hid ho
      clear ho
      go_wp2_with (at_builtin; refine wpList_appB (base := base) rfl _ _ rfl (.slice A n cap) (.slice (some ⟨wr.heap.size, 0, none⟩) 3 3) zs [m, m, m] rfl ?_ rfl ?_ ?_ ?_ ?_)
      · refine (HO1.out.below (w1 := wr.alloc (.cells #[.int .u8 m, .int .u8 m, .int .u8 m] 5)) (by (repeat' (first | (with_reducible exact Below.refl _ _) | (with_reducible assumption) | (with_reducible refine Below.alloc ?_ ?_ _) | (with_reducible refine below_setRow ?_ ?_ _) | (with_reducible refine bl_drew ?_) | (with_reducible refine bl_drewN ?_ _) | (with_reducible refine Below.setCell ?_ ?_ _) | (with_reducible refine bl_then ?_ ?_ hb) | (with_reducible refine bl_then ?_ ?_ hb1) | (with_reducible refine bl_then ?_ ?_ hb2) | (with_reducible refine bl_then ?_ ?_ hb3) | (with_reducible refine bl_then ?_ ?_ hb4) | (with_reducible refine bl_then ?_ ?_ hb5) | (with_reducible refine bl_then ?_ ?_ hb6) | (with_reducible refine bl_then ?_ ?_ hb7) | (with_reducible refine bl_then ?_ ?_ hb8) | (with_reducible exact Nat.le_refl _) | omega | (simp only [World.size_alloc, World.size_setCell, World.size_drew, size_setRow]; omega) | (simp; omega) | (simp; done)))))
      · refine ⟨by intro x hx; simp at hx; omega, by simp, _, 3, rfl, RdI.new wr .u8 5 [m, m, m] 3 rfl, by simp, by simp, by simp [maxLen]⟩
      · simp; omega
      · have := HG.out.size
        simp
        omega
      · intro v' w' h1 h2 h3
        have HO3 := Lib.hid h1
        have hrow : v'.ownBlock = (Value.slice A n cap).ownBlock ∨ ∃ j, v'.ownBlock = some j ∧ w.heap.size ≤ j := by
          rcases h3 with h3 | h3
          · exact .inl h3
          · exact .inr ⟨_, h3, by have := HG.out.size; simp; omega⟩
        have HG3 := Lib.hid (grown_new (grown_below HG.out (w' := wr.alloc (.cells #[.int .u8 m, .int .u8 m, .int .u8 m] 5)) (by (repeat' (first | (with_reducible exact Below.refl _ _) | (with_reducible assumption) | (with_reducible refine Below.alloc ?_ ?_ _) | (with_reducible refine below_setRow ?_ ?_ _) | (with_reducible refine bl_drew ?_) | (with_reducible refine bl_drewN ?_ _) | (with_reducible refine Below.setCell ?_ ?_ _) | (with_reducible refine bl_then ?_ ?_ hb) | (with_reducible refine bl_then ?_ ?_ hb1) | (with_reducible refine bl_then ?_ ?_ hb2) | (with_reducible refine bl_then ?_ ?_ hb3) | (with_reducible refine bl_then ?_ ?_ hb4) | (with_reducible refine bl_then ?_ ?_ hb5) | (with_reducible refine bl_then ?_ ?_ hb6) | (with_reducible refine bl_then ?_ ?_ hb7) | (with_reducible refine bl_then ?_ ?_ hb8) | (with_reducible exact Nat.le_refl _) | omega | (simp only [World.size_alloc, World.size_setCell, World.size_drew, size_setRow]; omega) | (simp; omega) | (simp; done))))) h2 (.inl rfl))
        obtain ⟨B, cap2, hv', hcs2⟩ : ∃ A cap, v' = .slice A (n + 3) cap ∧ (n + 3 = 0 ∨ ∃ g, A = some ⟨g, 0, none⟩) := by
          obtain ⟨hl, h | ⟨g, cap, cur, h1, _⟩⟩ := h1
          · have := h.2
            simp [hz] at this
          · exact ⟨_, cap, by rw [h1]; simp [hz], .inr ⟨g, rfl⟩⟩
        obtain ⟨g, rfl⟩ := hcs2.resolve_left (by omega)
        have hz3 : (zs ++ [m, m, m]).length = n + 3 := by simp [hz]
        generalize zs ++ [m, m, m] = zs3 at HO3 hz3
        clear h1 h2 h3 HO1 HO
        subst hv'
        go_wp2_with fail
        go_loopw [5] (fun i wq => ∃ k : Nat, k ≤ n + 3 ∧ i = .int .i64 k ∧ Hid (∃ zs, zs.length = n + 3 ∧ OwB wq base (.slice (some ⟨g, 0, none⟩) (n + 3) cap2) zs) ∧ Hid (w.grownBy wq (Value.slice A n cap).ownBlock)) (fun i _ => n + 3 - (intOf i).toNat)
        case atStart => exact ⟨0, Nat.zero_le _, rfl, ⟨zs3, hz3, HO3.out⟩, HG3.out⟩
        case round =>
          obtain ⟨k, hk, rfl, HO, HG⟩ := hrel
          by_cases hlt : k < n + 3
          · obtain ⟨zs, hz, ho⟩ := HO.out
            have cA : wr.cell? ⟨g, k, none⟩ = some (.int .u8 (zs.getD k 0)) := by
              have := World.ownsRow.cellAt (by rw [← hz] at ho; exact ho) k (by omega)
              rw [this, List.getElem?_map, List.getD_eq_getElem?_getD, List.getElem?_eq_getElem (by omega)]
              rfl
            have fA : wr.frozen? ⟨g, k, none⟩ = false := World.ownsRow.frozenAt (by rw [← hz] at ho; exact ho) k
            have gl : g < wr.heap.size := block_lt_of_cell cA
            have hlt' : (k : Int) < (n : Int) + 3 := by omega
            have HO2 := Lib.hid (World.ownsRow.stored (n := n + 3) (cap := cap2) (g := g) (by have h := ho; unfold OwB at h; rw [hz] at h; exact h) k (.int .u8 m))
            go_wp2_with fail
            go_roundw
            case rel =>
              refine ⟨k + 1, by omega, by go_num, ?_, ?_⟩
              · refine ⟨zs.set k m, by simpa using hz, ?_⟩
                have := HO2.out.1
                rw [← List.map_set] at this
                unfold OwB
                rw [List.length_set, hz]
                exact this
              · exact grown_new HG.out HO2.out.2 hrow
            case measure => simp [intOf] <;> omega
          · have hlt' : ¬ (k : Int) < (n : Int) + 3 := by omega
            go_wp2_with fail
            exact ⟨rfl, .tuple #[], by simp [results, Try.results21, go_sem], ⟨_, rfl⟩, HG.out⟩
end Go.Proofs.Ytgkiedbefogklaa
