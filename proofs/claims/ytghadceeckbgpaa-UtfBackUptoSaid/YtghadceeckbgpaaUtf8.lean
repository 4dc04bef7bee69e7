/- What is proved: which runes may be, and what their forms are, of package utf and of its reference; conditions: the rune is within its bounds. -/
import Derived.Test.YtghadceeckbgpaaUtf7
set_option linter.unusedSimpArgs false
set_option linter.unusedVariables false
namespace Go.Proofs.Ytghadceeckbgpaa
open Go.RowKit
set_option maxRecDepth 100000
set_option maxHeartbeats 4000000
def mayC (c : Int) : Bool := decide (0 ≤ c ∧ c ≤ 1114111 ∧ (c < 55296 ∨ 57343 < c))
def formS (c : Int) : List Int :=
  if c < 128 then [c] else if c < 2048 then [192 + c / 64, 128 + c % 64] else if c < 65536 then [224 + c / 4096, 128 + c / 64 % 64, 128 + c % 64] else [240 + c / 262144, 128 + c / 4096 % 64, 128 + c / 64 % 64, 128 + c % 64]
theorem formS_ok {c : Int} (h : 0 ≤ c ∧ c ≤ 1114111) : okB (formS c) := by
  unfold formS
  split
  · intro x hx
    simp at hx
    omega
  · split
    · intro x hx
      simp at hx
      omega
    · split
      · intro x hx
        simp at hx
        omega
      · intro x hx
        simp at hx
        omega
theorem formS_len (c : Int) : 1 ≤ (formS c).length ∧ (formS c).length ≤ 4 := by
  unfold formS
  split
  · simp
  · split
    · simp
    · split <;> simp
theorem may_any (c : Int) (w : World) : Calls Try.prog 7 #[.int .i32 c] w fun e w' => e = .returned (.bool (mayC c)) ∧ w' = w := by
  (rcases (by omega : c < 0 ∨ 1114111 < c ∨ (0 ≤ c ∧ c < 55296) ∨ (55296 ≤ c ∧ c ≤ 57343) ∨ (57343 < c ∧ c ≤ 1114111)) with h | h | h | h | h)
  · rw [show mayC c = false by unfold mayC; simp; omega]
    go_enter Try.func7, Try.ntmps7
    go_wp2_with fail
    go_ret
    exact ⟨rfl, rfl⟩
  · rw [show mayC c = false by unfold mayC; simp; omega]
    go_enter Try.func7, Try.ntmps7
    go_wp2_with fail
    go_ret
    exact ⟨rfl, rfl⟩
  · rw [show mayC c = true by unfold mayC; simp; omega]
    go_enter Try.func7, Try.ntmps7
    go_wp2_with fail
    go_ret
    exact ⟨rfl, rfl⟩
  · rw [show mayC c = false by unfold mayC; simp; omega]
    go_enter Try.func7, Try.ntmps7
    go_wp2_with fail
    go_ret
    rw [show (decide (c < 55296) || decide (57343 < c)) = false by simp; omega]
    exact ⟨rfl, rfl⟩
  · rw [show mayC c = true by unfold mayC; simp; omega]
    go_enter Try.func7, Try.ntmps7
    go_wp2_with fail
    go_ret
    exact ⟨rfl, rfl⟩
theorem rmay_any (c : Int) (w : World) : Calls Try.prog 8 #[.int .i32 c] w fun e w' => e = .returned (.bool (mayC c)) ∧ w' = w := by
  (rcases (by omega : c < 0 ∨ 1114111 < c ∨ (0 ≤ c ∧ c < 55296) ∨ (55296 ≤ c ∧ c ≤ 57343) ∨ (57343 < c ∧ c ≤ 1114111)) with h | h | h | h | h)
  · rw [show mayC c = false by unfold mayC; simp; omega]
    go_enter Try.func8, Try.ntmps8
    go_wp2_with fail
    go_ret
    exact ⟨rfl, rfl⟩
  · rw [show mayC c = false by unfold mayC; simp; omega]
    go_enter Try.func8, Try.ntmps8
    go_wp2_with fail
    go_ret
    exact ⟨rfl, rfl⟩
  · rw [show mayC c = true by unfold mayC; simp; omega]
    go_enter Try.func8, Try.ntmps8
    go_wp2_with fail
    go_ret
    exact ⟨rfl, rfl⟩
  · rw [show mayC c = false by unfold mayC; simp; omega]
    go_enter Try.func8, Try.ntmps8
    go_wp2_with fail
    go_ret
    rw [show (decide (c < 55296) || decide (57343 < c)) = false by simp; omega]
    exact ⟨rfl, rfl⟩
  · rw [show mayC c = true by unfold mayC; simp; omega]
    go_enter Try.func8, Try.ntmps8
    go_wp2_with fail
    go_ret
    exact ⟨rfl, rfl⟩
theorem OwB.lit {w : World} {base g n : Nat} {xs : List Int} {cs : Array Value} (h : w.heap[g]? = some (.cells cs 5 (0, 0))) (hcs : cs = (xs.map (Value.int .u8)).toArray) (hn : xs.length = n) (hl : n ≤ 1000) (hb : base ≤ g) : OwB w base (.slice (some ⟨g, 0, none⟩) n n) xs := by
  subst hn hcs
  exact ⟨by simp, .inr ⟨g, xs.length, _, rfl, hb, h, Nat.le_refl _, by unfold maxLen; omega, by simp, by simp [List.take_of_length_le]⟩⟩
theorem low_any (by_ c : Int) (b : Nat) (w : World) (h : w.cell? ⟨b, 0, none⟩ = some (.int .i32 c)) (hc : 0 ≤ c ∧ c ≤ 1114111) (v : Int) (hb : (by_ = 0 ∧ v = 128 + c % 64) ∨ (by_ = 6 ∧ v = 128 + c / 64 % 64) ∨ (by_ = 12 ∧ v = 128 + c / 4096 % 64)) :
    Calls Try.prog 32 #[.int .i64 by_, .pointer (some ⟨b, 0, none⟩)] w fun e w' => e = .returned (.int .u8 v) ∧ w' = w := by
  rcases hb with ⟨rfl, rfl⟩ | ⟨rfl, rfl⟩ | ⟨rfl, rfl⟩
  all_goals
    go_enter Try.func32, Try.ntmps32
    go_wp2_with fail
    go_ret
    exact ⟨rfl, rfl⟩
theorem refform_any (c : Int) (w : World) (hc : 0 ≤ c ∧ c ≤ 1114111) : Calls Try.prog 26 #[.int .i32 c] w fun e w' => (∃ v, e = .returned v ∧ OwB w' w.heap.size v (formS c)) ∧ Below w.heap.size w w' := by
  rcases (by omega : c < 128 ∨ (128 ≤ c ∧ c < 2048) ∨ (2048 ≤ c ∧ c < 65536) ∨ 65536 ≤ c) with h | h | h | h
  · have HS : Hid (formS c = [c]) := Lib.hid (by unfold formS; rw [if_pos h])
    go_enter Try.func26, Try.ntmps26
    go_wp2_with fail
    go_ret
    rw [HS.out]
    exact ⟨⟨_, rfl, OwB.lit (heap_alloc_last w _) rfl rfl (by decide) (Nat.le_refl _)⟩, by (repeat' (first | (with_reducible exact Below.refl _ _) | (with_reducible assumption) | (with_reducible refine Below.alloc ?_ ?_ _) | (with_reducible refine below_setRow ?_ ?_ _) | (with_reducible refine bl_drew ?_) | (with_reducible refine bl_drewN ?_ _) | (with_reducible refine Below.setCell ?_ ?_ _) | (with_reducible refine bl_then ?_ ?_ hb) | (with_reducible refine bl_then ?_ ?_ hb1) | (with_reducible refine bl_then ?_ ?_ hb2) | (with_reducible refine bl_then ?_ ?_ hb3) | (with_reducible refine bl_then ?_ ?_ hb4) | (with_reducible refine bl_then ?_ ?_ hb5) | (with_reducible refine bl_then ?_ ?_ hb6) | (with_reducible refine bl_then ?_ ?_ hb7) | (with_reducible refine bl_then ?_ ?_ hb8) | (with_reducible exact Nat.le_refl _) | omega | (simp only [World.size_alloc, World.size_setCell, World.size_drew, size_setRow]; omega) | (simp; omega) | (simp; done)))⟩
  · have HS : Hid (formS c = [192 + c / 64, 128 + c % 64]) := Lib.hid (by unfold formS; rw [if_neg (by omega), if_pos (by omega)])
    go_enter Try.func26, Try.ntmps26
    go_wp2_with fail
    go_ret
    rw [HS.out]
    exact ⟨⟨_, rfl, OwB.lit (heap_alloc_last w _) rfl rfl (by decide) (Nat.le_refl _)⟩, by (repeat' (first | (with_reducible exact Below.refl _ _) | (with_reducible assumption) | (with_reducible refine Below.alloc ?_ ?_ _) | (with_reducible refine below_setRow ?_ ?_ _) | (with_reducible refine bl_drew ?_) | (with_reducible refine bl_drewN ?_ _) | (with_reducible refine Below.setCell ?_ ?_ _) | (with_reducible refine bl_then ?_ ?_ hb) | (with_reducible refine bl_then ?_ ?_ hb1) | (with_reducible refine bl_then ?_ ?_ hb2) | (with_reducible refine bl_then ?_ ?_ hb3) | (with_reducible refine bl_then ?_ ?_ hb4) | (with_reducible refine bl_then ?_ ?_ hb5) | (with_reducible refine bl_then ?_ ?_ hb6) | (with_reducible refine bl_then ?_ ?_ hb7) | (with_reducible refine bl_then ?_ ?_ hb8) | (with_reducible exact Nat.le_refl _) | omega | (simp only [World.size_alloc, World.size_setCell, World.size_drew, size_setRow]; omega) | (simp; omega) | (simp; done)))⟩
  · have HS : Hid (formS c = [224 + c / 4096, 128 + c / 64 % 64, 128 + c % 64]) := Lib.hid (by unfold formS; rw [if_neg (by omega), if_neg (by omega), if_pos (by omega)])
    go_enter Try.func26, Try.ntmps26
    go_wp2_with fail
    go_ret
    rw [HS.out]
    exact ⟨⟨_, rfl, OwB.lit (heap_alloc_last w _) rfl rfl (by decide) (Nat.le_refl _)⟩, by (repeat' (first | (with_reducible exact Below.refl _ _) | (with_reducible assumption) | (with_reducible refine Below.alloc ?_ ?_ _) | (with_reducible refine below_setRow ?_ ?_ _) | (with_reducible refine bl_drew ?_) | (with_reducible refine bl_drewN ?_ _) | (with_reducible refine Below.setCell ?_ ?_ _) | (with_reducible refine bl_then ?_ ?_ hb) | (with_reducible refine bl_then ?_ ?_ hb1) | (with_reducible refine bl_then ?_ ?_ hb2) | (with_reducible refine bl_then ?_ ?_ hb3) | (with_reducible refine bl_then ?_ ?_ hb4) | (with_reducible refine bl_then ?_ ?_ hb5) | (with_reducible refine bl_then ?_ ?_ hb6) | (with_reducible refine bl_then ?_ ?_ hb7) | (with_reducible refine bl_then ?_ ?_ hb8) | (with_reducible exact Nat.le_refl _) | omega | (simp only [World.size_alloc, World.size_setCell, World.size_drew, size_setRow]; omega) | (simp; omega) | (simp; done)))⟩
  · have HS : Hid (formS c = [240 + c / 262144, 128 + c / 4096 % 64, 128 + c / 64 % 64, 128 + c % 64]) := Lib.hid (by unfold formS; rw [if_neg (by omega), if_neg (by omega), if_neg (by omega)])
    go_enter Try.func26, Try.ntmps26
    go_wp2_with fail
    go_ret
    rw [HS.out]
    exact ⟨⟨_, rfl, OwB.lit (heap_alloc_last w _) rfl rfl (by decide) (Nat.le_refl _)⟩, by (repeat' (first | (with_reducible exact Below.refl _ _) | (with_reducible assumption) | (with_reducible refine Below.alloc ?_ ?_ _) | (with_reducible refine below_setRow ?_ ?_ _) | (with_reducible refine bl_drew ?_) | (with_reducible refine bl_drewN ?_ _) | (with_reducible refine Below.setCell ?_ ?_ _) | (with_reducible refine bl_then ?_ ?_ hb) | (with_reducible refine bl_then ?_ ?_ hb1) | (with_reducible refine bl_then ?_ ?_ hb2) | (with_reducible refine bl_then ?_ ?_ hb3) | (with_reducible refine bl_then ?_ ?_ hb4) | (with_reducible refine bl_then ?_ ?_ hb5) | (with_reducible refine bl_then ?_ ?_ hb6) | (with_reducible refine bl_then ?_ ?_ hb7) | (with_reducible refine bl_then ?_ ?_ hb8) | (with_reducible exact Nat.le_refl _) | omega | (simp only [World.size_alloc, World.size_setCell, World.size_drew, size_setRow]; omega) | (simp; omega) | (simp; done)))⟩
theorem Inv.self (w : World) : Inv w (fun _ => False) (fun _ => none) w.drew := Inv.start w _ _ (by simp) (by simp)
theorem Inv.belowOf {w0 w : World} {γ : Gh} (h : Inv w0 (fun _ => False) γ w) : Below w0.heap.size w0 w :=
  ⟨h.os, h.tape, h.output, h.size, fun b hb => h.far b hb (fun h => h)⟩
/-- The slice that lies in a resource's block. -/
def litVal (n : Nat) : Option (Nat × Obj) → Value
  | some (g, _) => .slice (some ⟨g, 0, none⟩) n n
  | none => undef
theorem or_hi (k : Nat) (b y : Int) (hk : 0 ≤ y ∧ y < (2 ^ k : Nat)) (hb : b = 192 ∧ k = 5 ∨ b = 224 ∧ k = 4 ∨ b = 240 ∧ k = 3) : bits .or .u8 b y = b + y := by
  obtain ⟨h0, h1⟩ := hk
  obtain ⟨y, rfl⟩ := Int.eq_ofNat_of_zero_le h0
  rcases hb with ⟨rfl, rfl⟩ | ⟨rfl, rfl⟩ | ⟨rfl, rfl⟩
  · have h := u8_or_nat 192 y (by omega) (by omega)
    rw [nat_join 5 192 y (by omega) (by omega)] at h
    simpa using h
  · have h := u8_or_nat 224 y (by omega) (by omega)
    rw [nat_join 4 224 y (by omega) (by omega)] at h
    simpa using h
  · have h := u8_or_nat 240 y (by omega) (by omega)
    rw [nat_join 3 240 y (by omega) (by omega)] at h
    simpa using h
theorem form_any (c : Int) (w : World) (hc : 0 ≤ c ∧ c ≤ 1114111) : Calls Try.prog 25 #[.int .i32 c] w fun e w' => (∃ v, e = .returned v ∧ OwB w' w.heap.size v (formS c)) ∧ Below w.heap.size w w' := by
  have hmf : ∀ (fn : Fn) (first cap : Array Value) (w : World), (Instr.makeFunc fn first cap).run Try.prog w = .ok (.func fn first cap) w := fun _ _ _ _ => rfl
  have HF : Hid (∀ W γ', Inv (w.alloc (.cells #[.int .i32 c] 21)) (fun _ => False) γ' W → W.cell? ⟨w.heap.size, 0, none⟩ = some (.int .i32 c)) := Lib.hid (fun W γ' hI => (World.cell?_of_block (hI.far w.heap.size (by simp) (fun h => h))).trans ((cell_of_row _ w.heap.size 0 _ _ (0, 0) (heap_alloc_last w _)).trans rfl))
  rcases (by omega : c < 128 ∨ (128 ≤ c ∧ c < 2048) ∨ (2048 ≤ c ∧ c < 65536) ∨ 65536 ≤ c) with h | h | h | h
  · have HS : Hid (formS c = [c]) := Lib.hid (by unfold formS; rw [if_pos h])
    go_enter Try.func25, Try.ntmps25
    go_wp2_with fail
    go_ret
    rw [HS.out]
    exact ⟨⟨_, rfl, OwB.lit (by simpa using heap_alloc_last (w.alloc (.cells #[.int .i32 c] 21)) (.cells #[.int .u8 c] 5)) rfl rfl (by decide) (by simp)⟩, by (repeat' (first | (with_reducible exact Below.refl _ _) | (with_reducible assumption) | (with_reducible refine Below.alloc ?_ ?_ _) | (with_reducible refine below_setRow ?_ ?_ _) | (with_reducible refine bl_drew ?_) | (with_reducible refine bl_drewN ?_ _) | (with_reducible refine Below.setCell ?_ ?_ _) | (with_reducible refine bl_then ?_ ?_ hb) | (with_reducible refine bl_then ?_ ?_ hb1) | (with_reducible refine bl_then ?_ ?_ hb2) | (with_reducible refine bl_then ?_ ?_ hb3) | (with_reducible refine bl_then ?_ ?_ hb4) | (with_reducible refine bl_then ?_ ?_ hb5) | (with_reducible refine bl_then ?_ ?_ hb6) | (with_reducible refine bl_then ?_ ?_ hb7) | (with_reducible refine bl_then ?_ ?_ hb8) | (with_reducible exact Nat.le_refl _) | omega | (simp only [World.size_alloc, World.size_setCell, World.size_drew, size_setRow]; omega) | (simp; omega) | (simp; done)))⟩
  · have HS : Hid (formS c = [192 + c / 64, 128 + c % 64]) := Lib.hid (by unfold formS; rw [if_neg (by omega), if_pos (by omega)])
    have hw : IntKind.u8.wrap (c / 64) = c / 64 := by rw [IntKind.wrap_u8']; omega
    have ho : bits .or .u8 192 (c / 64) = 192 + c / 64 := or_hi 5 _ _ (by omega) (by simp)
    go_enter Try.func25, Try.ntmps25
    go_wp2_with fail
    apply wp_region_eff (Inv (w.alloc (.cells #[.int .i32 c] 21)) (fun _ => False)) (fun _ => none) (Inv.self _) (hm := by kernel_rfl)
    case h =>
      (apply SeqF.read []; (focus (first | rfl | (go_simp; done) | (simp [Region.wanted, yielded]; done))); (focus (intro γ' W hg hI; have x0 := HF.out W γ' hI; go_simp; with_reducible rfl)); go_simp)
      (apply SeqF.pure; (focus (first | rfl | (go_simp; done) | (simp [Region.wanted, yielded]; done))); (focus (intro w; go_simp; with_reducible rfl)); go_simp)
      (apply SeqF.pure; (focus (first | rfl | (go_simp; done) | (simp [Region.wanted, yielded]; done))); (focus (intro w; go_simp; with_reducible rfl)); go_simp)
      (apply SeqF.pure; (focus (first | rfl | (go_simp; done) | (simp [Region.wanted, yielded]; done))); (focus (intro w; go_simp; with_reducible rfl)); go_simp)
      (apply SeqF.pure; (focus (first | rfl | (go_simp; done) | (simp [Region.wanted, yielded]; done))); (focus (intro w; go_simp; with_reducible rfl)); go_simp)
      (apply SeqF.call (v := .int .u8 (128 + c % 64)) [] 32 #[.int .i64 0, .pointer (some ⟨w.heap.size, 0, none⟩)]; (focus (first | rfl | (go_simp; done) | (simp [Region.wanted, yielded]; done))); (focus (intro w; kernel_rfl)); (focus (exact fun γ' W hg hI => (low_any 0 c _ W (HF.out W γ' hI) hc _ (by exact .inl ⟨rfl, rfl⟩)).mono (by rintro e W' ⟨rfl, rfl⟩; exact ⟨rfl, hI⟩))); go_simp)
      (apply SeqF.new [] 1 (fun g => .slice (some ⟨g, 0, none⟩) 2 2) (fun _ => .cells #[.int .u8 (192 + c / 64), .int .u8 (128 + c % 64)] 5 (0, 0)); (focus (intro γ' _; rfl)); (focus (first | rfl | (go_simp; done) | (simp [Region.wanted, yielded]; done))); (focus (intro γ' W hg hI; kernel_rfl)); intro g hgn; go_simp; apply SeqF.dyn [1] (fun γ => litVal 2 (γ 1)); (focus (intro γ' hg; simp only [hg 1 (by simp)])); (focus (first | rfl | (go_simp; done) | (simp [Region.wanted, yielded]; done))); (focus (intro γ' W hg hI; simp only [Gh.set_here, litVal]; go_simp)); simp only [Gh.set_here, litVal]; apply SeqF.done; intro w9 hI9; have ho9 := (hI9.here 1 g _ (Gh.set_here _ _ _)).1; have HB9 := Lib.hid hI9.belowOf; have HO9 := Lib.hid ho9; clear hI9 ho9; go_simp; go_wp2_with fail; go_ret; rw [HS.out]; exact ⟨⟨_, rfl, OwB.lit HO9.out rfl rfl (by decide) (by simp at hgn; omega)⟩, bl_then (show Below w.heap.size w (w.alloc _) by (repeat' (first | (with_reducible exact Below.refl _ _) | (with_reducible assumption) | (with_reducible refine Below.alloc ?_ ?_ _) | (with_reducible refine below_setRow ?_ ?_ _) | (with_reducible refine bl_drew ?_) | (with_reducible refine bl_drewN ?_ _) | (with_reducible refine Below.setCell ?_ ?_ _) | (with_reducible refine bl_then ?_ ?_ hb) | (with_reducible refine bl_then ?_ ?_ hb1) | (with_reducible refine bl_then ?_ ?_ hb2) | (with_reducible refine bl_then ?_ ?_ hb3) | (with_reducible refine bl_then ?_ ?_ hb4) | (with_reducible refine bl_then ?_ ?_ hb5) | (with_reducible refine bl_then ?_ ?_ hb6) | (with_reducible refine bl_then ?_ ?_ hb7) | (with_reducible refine bl_then ?_ ?_ hb8) | (with_reducible exact Nat.le_refl _) | omega | (simp only [World.size_alloc, World.size_setCell, World.size_drew, size_setRow]; omega) | (simp; omega) | (simp; done)))) (by simp) HB9.out⟩)
    case hl => rfl
    case ho => kernel_rfl
  · have HS : Hid (formS c = [224 + c / 4096, 128 + c / 64 % 64, 128 + c % 64]) := Lib.hid (by unfold formS; rw [if_neg (by omega), if_neg (by omega), if_pos (by omega)])
    have hw : IntKind.u8.wrap (c / 4096) = c / 4096 := by rw [IntKind.wrap_u8']; omega
    have ho : bits .or .u8 224 (c / 4096) = 224 + c / 4096 := or_hi 4 _ _ (by omega) (by simp)
    go_enter Try.func25, Try.ntmps25
    go_wp2_with fail
    apply wp_region_eff (Inv (w.alloc (.cells #[.int .i32 c] 21)) (fun _ => False)) (fun _ => none) (Inv.self _) (hm := by kernel_rfl)
    case h =>
      (apply SeqF.read []; (focus (first | rfl | (go_simp; done) | (simp [Region.wanted, yielded]; done))); (focus (intro γ' W hg hI; have x0 := HF.out W γ' hI; go_simp; with_reducible rfl)); go_simp)
      (apply SeqF.pure; (focus (first | rfl | (go_simp; done) | (simp [Region.wanted, yielded]; done))); (focus (intro w; go_simp; with_reducible rfl)); go_simp)
      (apply SeqF.pure; (focus (first | rfl | (go_simp; done) | (simp [Region.wanted, yielded]; done))); (focus (intro w; go_simp; with_reducible rfl)); go_simp)
      (apply SeqF.pure; (focus (first | rfl | (go_simp; done) | (simp [Region.wanted, yielded]; done))); (focus (intro w; go_simp; with_reducible rfl)); go_simp)
      (apply SeqF.pure; (focus (first | rfl | (go_simp; done) | (simp [Region.wanted, yielded]; done))); (focus (intro w; go_simp; with_reducible rfl)); go_simp)
      (apply SeqF.call (v := .int .u8 (128 + c / 64 % 64)) [] 32 #[.int .i64 6, .pointer (some ⟨w.heap.size, 0, none⟩)]; (focus (first | rfl | (go_simp; done) | (simp [Region.wanted, yielded]; done))); (focus (intro w; kernel_rfl)); (focus (exact fun γ' W hg hI => (low_any 6 c _ W (HF.out W γ' hI) hc _ (by exact .inr (.inl ⟨rfl, rfl⟩))).mono (by rintro e W' ⟨rfl, rfl⟩; exact ⟨rfl, hI⟩))); go_simp)
      (apply SeqF.pure; (focus (first | rfl | (go_simp; done) | (simp [Region.wanted, yielded]; done))); (focus (intro w; go_simp; with_reducible rfl)); go_simp)
      (apply SeqF.call (v := .int .u8 (128 + c % 64)) [] 32 #[.int .i64 0, .pointer (some ⟨w.heap.size, 0, none⟩)]; (focus (first | rfl | (go_simp; done) | (simp [Region.wanted, yielded]; done))); (focus (intro w; kernel_rfl)); (focus (exact fun γ' W hg hI => (low_any 0 c _ W (HF.out W γ' hI) hc _ (by exact .inl ⟨rfl, rfl⟩)).mono (by rintro e W' ⟨rfl, rfl⟩; exact ⟨rfl, hI⟩))); go_simp)
      (apply SeqF.new [] 1 (fun g => .slice (some ⟨g, 0, none⟩) 3 3) (fun _ => .cells #[.int .u8 (224 + c / 4096), .int .u8 (128 + c / 64 % 64), .int .u8 (128 + c % 64)] 5 (0, 0)); (focus (intro γ' _; rfl)); (focus (first | rfl | (go_simp; done) | (simp [Region.wanted, yielded]; done))); (focus (intro γ' W hg hI; kernel_rfl)); intro g hgn; go_simp; apply SeqF.dyn [1] (fun γ => litVal 3 (γ 1)); (focus (intro γ' hg; simp only [hg 1 (by simp)])); (focus (first | rfl | (go_simp; done) | (simp [Region.wanted, yielded]; done))); (focus (intro γ' W hg hI; simp only [Gh.set_here, litVal]; go_simp)); simp only [Gh.set_here, litVal]; apply SeqF.done; intro w9 hI9; have ho9 := (hI9.here 1 g _ (Gh.set_here _ _ _)).1; have HB9 := Lib.hid hI9.belowOf; have HO9 := Lib.hid ho9; clear hI9 ho9; go_simp; go_wp2_with fail; go_ret; rw [HS.out]; exact ⟨⟨_, rfl, OwB.lit HO9.out rfl rfl (by decide) (by simp at hgn; omega)⟩, bl_then (show Below w.heap.size w (w.alloc _) by (repeat' (first | (with_reducible exact Below.refl _ _) | (with_reducible assumption) | (with_reducible refine Below.alloc ?_ ?_ _) | (with_reducible refine below_setRow ?_ ?_ _) | (with_reducible refine bl_drew ?_) | (with_reducible refine bl_drewN ?_ _) | (with_reducible refine Below.setCell ?_ ?_ _) | (with_reducible refine bl_then ?_ ?_ hb) | (with_reducible refine bl_then ?_ ?_ hb1) | (with_reducible refine bl_then ?_ ?_ hb2) | (with_reducible refine bl_then ?_ ?_ hb3) | (with_reducible refine bl_then ?_ ?_ hb4) | (with_reducible refine bl_then ?_ ?_ hb5) | (with_reducible refine bl_then ?_ ?_ hb6) | (with_reducible refine bl_then ?_ ?_ hb7) | (with_reducible refine bl_then ?_ ?_ hb8) | (with_reducible exact Nat.le_refl _) | omega | (simp only [World.size_alloc, World.size_setCell, World.size_drew, size_setRow]; omega) | (simp; omega) | (simp; done)))) (by simp) HB9.out⟩)
    case hl => rfl
    case ho => kernel_rfl
  · have HS : Hid (formS c = [240 + c / 262144, 128 + c / 4096 % 64, 128 + c / 64 % 64, 128 + c % 64]) := Lib.hid (by unfold formS; rw [if_neg (by omega), if_neg (by omega), if_neg (by omega)])
    have hw : IntKind.u8.wrap (c / 262144) = c / 262144 := by rw [IntKind.wrap_u8']; omega
    have ho : bits .or .u8 240 (c / 262144) = 240 + c / 262144 := or_hi 3 _ _ (by omega) (by simp)
    go_enter Try.func25, Try.ntmps25
    go_wp2_with fail
    apply wp_region_eff (Inv (w.alloc (.cells #[.int .i32 c] 21)) (fun _ => False)) (fun _ => none) (Inv.self _) (hm := by kernel_rfl)
    case h =>
      (apply SeqF.read []; (focus (first | rfl | (go_simp; done) | (simp [Region.wanted, yielded]; done))); (focus (intro γ' W hg hI; have x0 := HF.out W γ' hI; go_simp; with_reducible rfl)); go_simp)
      (apply SeqF.pure; (focus (first | rfl | (go_simp; done) | (simp [Region.wanted, yielded]; done))); (focus (intro w; go_simp; with_reducible rfl)); go_simp)
      (apply SeqF.pure; (focus (first | rfl | (go_simp; done) | (simp [Region.wanted, yielded]; done))); (focus (intro w; go_simp; with_reducible rfl)); go_simp)
      (apply SeqF.pure; (focus (first | rfl | (go_simp; done) | (simp [Region.wanted, yielded]; done))); (focus (intro w; go_simp; with_reducible rfl)); go_simp)
      (apply SeqF.pure; (focus (first | rfl | (go_simp; done) | (simp [Region.wanted, yielded]; done))); (focus (intro w; go_simp; with_reducible rfl)); go_simp)
      (apply SeqF.call (v := .int .u8 (128 + c / 4096 % 64)) [] 32 #[.int .i64 12, .pointer (some ⟨w.heap.size, 0, none⟩)]; (focus (first | rfl | (go_simp; done) | (simp [Region.wanted, yielded]; done))); (focus (intro w; kernel_rfl)); (focus (exact fun γ' W hg hI => (low_any 12 c _ W (HF.out W γ' hI) hc _ (by exact .inr (.inr ⟨rfl, rfl⟩))).mono (by rintro e W' ⟨rfl, rfl⟩; exact ⟨rfl, hI⟩))); go_simp)
      (apply SeqF.pure; (focus (first | rfl | (go_simp; done) | (simp [Region.wanted, yielded]; done))); (focus (intro w; go_simp; with_reducible rfl)); go_simp)
      (apply SeqF.call (v := .int .u8 (128 + c / 64 % 64)) [] 32 #[.int .i64 6, .pointer (some ⟨w.heap.size, 0, none⟩)]; (focus (first | rfl | (go_simp; done) | (simp [Region.wanted, yielded]; done))); (focus (intro w; kernel_rfl)); (focus (exact fun γ' W hg hI => (low_any 6 c _ W (HF.out W γ' hI) hc _ (by exact .inr (.inl ⟨rfl, rfl⟩))).mono (by rintro e W' ⟨rfl, rfl⟩; exact ⟨rfl, hI⟩))); go_simp)
      (apply SeqF.pure; (focus (first | rfl | (go_simp; done) | (simp [Region.wanted, yielded]; done))); (focus (intro w; go_simp; with_reducible rfl)); go_simp)
      (apply SeqF.call (v := .int .u8 (128 + c % 64)) [] 32 #[.int .i64 0, .pointer (some ⟨w.heap.size, 0, none⟩)]; (focus (first | rfl | (go_simp; done) | (simp [Region.wanted, yielded]; done))); (focus (intro w; kernel_rfl)); (focus (exact fun γ' W hg hI => (low_any 0 c _ W (HF.out W γ' hI) hc _ (by exact .inl ⟨rfl, rfl⟩)).mono (by rintro e W' ⟨rfl, rfl⟩; exact ⟨rfl, hI⟩))); go_simp)
      (apply SeqF.new [] 1 (fun g => .slice (some ⟨g, 0, none⟩) 4 4) (fun _ => .cells #[.int .u8 (240 + c / 262144), .int .u8 (128 + c / 4096 % 64), .int .u8 (128 + c / 64 % 64), .int .u8 (128 + c % 64)] 5 (0, 0)); (focus (intro γ' _; rfl)); (focus (first | rfl | (go_simp; done) | (simp [Region.wanted, yielded]; done))); (focus (intro γ' W hg hI; kernel_rfl)); intro g hgn; go_simp; apply SeqF.dyn [1] (fun γ => litVal 4 (γ 1)); (focus (intro γ' hg; simp only [hg 1 (by simp)])); (focus (first | rfl | (go_simp; done) | (simp [Region.wanted, yielded]; done))); (focus (intro γ' W hg hI; simp only [Gh.set_here, litVal]; go_simp)); simp only [Gh.set_here, litVal]; apply SeqF.done; intro w9 hI9; have ho9 := (hI9.here 1 g _ (Gh.set_here _ _ _)).1; have HB9 := Lib.hid hI9.belowOf; have HO9 := Lib.hid ho9; clear hI9 ho9; go_simp; go_wp2_with fail; go_ret; rw [HS.out]; exact ⟨⟨_, rfl, OwB.lit HO9.out rfl rfl (by decide) (by simp at hgn; omega)⟩, bl_then (show Below w.heap.size w (w.alloc _) by (repeat' (first | (with_reducible exact Below.refl _ _) | (with_reducible assumption) | (with_reducible refine Below.alloc ?_ ?_ _) | (with_reducible refine below_setRow ?_ ?_ _) | (with_reducible refine bl_drew ?_) | (with_reducible refine bl_drewN ?_ _) | (with_reducible refine Below.setCell ?_ ?_ _) | (with_reducible refine bl_then ?_ ?_ hb) | (with_reducible refine bl_then ?_ ?_ hb1) | (with_reducible refine bl_then ?_ ?_ hb2) | (with_reducible refine bl_then ?_ ?_ hb3) | (with_reducible refine bl_then ?_ ?_ hb4) | (with_reducible refine bl_then ?_ ?_ hb5) | (with_reducible refine bl_then ?_ ?_ hb6) | (with_reducible refine bl_then ?_ ?_ hb7) | (with_reducible refine bl_then ?_ ?_ hb8) | (with_reducible exact Nat.le_refl _) | omega | (simp only [World.size_alloc, World.size_setCell, World.size_drew, size_setRow]; omega) | (simp; omega) | (simp; done)))) (by simp) HB9.out⟩)
    case hl => rfl
    case ho => kernel_rfl
end Go.Proofs.Ytghadceeckbgpaa
