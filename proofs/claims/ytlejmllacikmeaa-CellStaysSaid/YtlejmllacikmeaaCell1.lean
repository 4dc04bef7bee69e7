/- What is proved: styles by their flags' number, and what Plain, bits, ons, offs, flagged and colored of package cell answer when they are called; conditions: the numbers are within their bounds. -/
import Derived.Test.YtlejmllacikmeaaWidth
import Derived.Laws.BitsAllLaws
set_option linter.unusedSimpArgs false
set_option linter.unusedVariables false
namespace Go.Proofs.Ytlejmllacikmeaa
open Go.RowKit
set_option maxRecDepth 100000
set_option maxHeartbeats 4000000
/-- A style: two colours, and the flags as the bits of a number. -/
structure Sty where
  fg : Int
  bg : Int
  b : Nat
def tb (b i : Nat) : Bool := b / 2 ^ i % 2 == 1
def Sty.row (s : Sty) : Array Value := #[.int .i64 s.fg, .int .i64 s.bg, .bool (tb s.b 0), .bool (tb s.b 1), .bool (tb s.b 2), .bool (tb s.b 3), .bool (tb s.b 4), .bool (tb s.b 5), .bool (tb s.b 6), .bool (tb s.b 7)]
def Sty.val (s : Sty) : Value := .agg s.row
def plainS : Sty := ⟨-1, -1, 0⟩
def rowB (b : Nat) : Array Value := #[.bool (tb b 0), .bool (tb b 1), .bool (tb b 2), .bool (tb b 3), .bool (tb b 4), .bool (tb b 5), .bool (tb b 6), .bool (tb b 7)]
theorem run_index_flag {w : World} (b : Nat) {i : Nat} (h : i < 8) : (Instr.index 56 (.agg (rowB b)) (.int .i64 i)).run Try.prog w = .ok (.bool (tb b i)) w := by
  rcases (by omega : i = 0 ∨ i = 1 ∨ i = 2 ∨ i = 3 ∨ i = 4 ∨ i = 5 ∨ i = 6 ∨ i = 7) with rfl | rfl | rfl | rfl | rfl | rfl | rfl | rfl <;> kernel_rfl
def onT (i : Nat) : Int := if i = 0 then 1 else if i = 1 then 2 else if i = 2 then 3 else if i = 3 then 4 else if i = 4 then 5 else if i = 5 then 7 else if i = 6 then 8 else 9
def offT (i : Nat) : Int := if i = 0 then 22 else if i = 1 then 22 else if i = 2 then 23 else if i = 3 then 24 else if i = 4 then 25 else if i = 5 then 27 else if i = 6 then 28 else 29
def onA : Array Value := #[.int .i64 1, .int .i64 2, .int .i64 3, .int .i64 4, .int .i64 5, .int .i64 7, .int .i64 8, .int .i64 9]
def offA : Array Value := #[.int .i64 22, .int .i64 22, .int .i64 23, .int .i64 24, .int .i64 25, .int .i64 27, .int .i64 28, .int .i64 29]
theorem run_index_on {w : World} {i : Nat} (h : i < 8) : (Instr.index 45 (.agg onA) (.int .i64 i)).run Try.prog w = .ok (.int .i64 (onT i)) w := by
  rcases (by omega : i = 0 ∨ i = 1 ∨ i = 2 ∨ i = 3 ∨ i = 4 ∨ i = 5 ∨ i = 6 ∨ i = 7) with rfl | rfl | rfl | rfl | rfl | rfl | rfl | rfl <;> kernel_rfl
theorem run_index_off {w : World} {i : Nat} (h : i < 8) : (Instr.index 45 (.agg offA) (.int .i64 i)).run Try.prog w = .ok (.int .i64 (offT i)) w := by
  rcases (by omega : i = 0 ∨ i = 1 ∨ i = 2 ∨ i = 3 ∨ i = 4 ∨ i = 5 ∨ i = 6 ∨ i = 7) with rfl | rfl | rfl | rfl | rfl | rfl | rfl | rfl <;> kernel_rfl
theorem plain_any (w : World) : Calls Try.prog 15 #[] w fun e w' => e = .returned plainS.val ∧ Below w.heap.size w w' := by
  go_enter Try.func15, Try.ntmps15
  go_wp2_with fail
  refine bodyPost_ret (v := plainS.val) (by simp [results, Try.results15, go_sem]; rfl) rfl ⟨rfl, ?_⟩
  (repeat' (first | (with_reducible exact Below.refl _ _) | (with_reducible assumption) | (with_reducible refine Below.alloc ?_ ?_ _) | (with_reducible refine below_setRow ?_ ?_ _) | (with_reducible refine bl_drew ?_) | (with_reducible refine bl_drewN ?_ _) | (with_reducible refine Below.setCell ?_ ?_ _) | (with_reducible refine bl_then ?_ ?_ hb) | (with_reducible refine bl_then ?_ ?_ hb1) | (with_reducible refine bl_then ?_ ?_ hb2) | (with_reducible refine bl_then ?_ ?_ hb3) | (with_reducible refine bl_then ?_ ?_ hb4) | (with_reducible refine bl_then ?_ ?_ hb5) | (with_reducible refine bl_then ?_ ?_ hb6) | (with_reducible refine bl_then ?_ ?_ hb7) | (with_reducible refine bl_then ?_ ?_ hb8) | (with_reducible exact Nat.le_refl _) | omega | (simp only [World.size_alloc, World.size_setCell, World.size_drew, size_setRow]; omega) | (simp; omega) | (simp; done)))
theorem rplain_any (w : World) : Calls Try.prog 21 #[] w fun e w' => e = .returned plainS.val ∧ Below w.heap.size w w' := by
  go_enter Try.func21, Try.ntmps21
  go_wp2_with fail
  refine bodyPost_ret (v := plainS.val) (by simp [results, Try.results21, go_sem]; rfl) rfl ⟨rfl, ?_⟩
  (repeat' (first | (with_reducible exact Below.refl _ _) | (with_reducible assumption) | (with_reducible refine Below.alloc ?_ ?_ _) | (with_reducible refine below_setRow ?_ ?_ _) | (with_reducible refine bl_drew ?_) | (with_reducible refine bl_drewN ?_ _) | (with_reducible refine Below.setCell ?_ ?_ _) | (with_reducible refine bl_then ?_ ?_ hb) | (with_reducible refine bl_then ?_ ?_ hb1) | (with_reducible refine bl_then ?_ ?_ hb2) | (with_reducible refine bl_then ?_ ?_ hb3) | (with_reducible refine bl_then ?_ ?_ hb4) | (with_reducible refine bl_then ?_ ?_ hb5) | (with_reducible refine bl_then ?_ ?_ hb6) | (with_reducible refine bl_then ?_ ?_ hb7) | (with_reducible refine bl_then ?_ ?_ hb8) | (with_reducible exact Nat.le_refl _) | omega | (simp only [World.size_alloc, World.size_setCell, World.size_drew, size_setRow]; omega) | (simp; omega) | (simp; done)))
theorem ons_any (w : World) : Calls Try.prog 17 #[] w fun e w' => e = .returned (.agg onA) ∧ Below w.heap.size w w' := by
  go_enter Try.func17, Try.ntmps17
  go_wp2_with fail
  refine bodyPost_ret (v := .agg onA) (by simp [results, Try.results17, go_sem]; rfl) rfl ⟨rfl, ?_⟩
  (repeat' (first | (with_reducible exact Below.refl _ _) | (with_reducible assumption) | (with_reducible refine Below.alloc ?_ ?_ _) | (with_reducible refine below_setRow ?_ ?_ _) | (with_reducible refine bl_drew ?_) | (with_reducible refine bl_drewN ?_ _) | (with_reducible refine Below.setCell ?_ ?_ _) | (with_reducible refine bl_then ?_ ?_ hb) | (with_reducible refine bl_then ?_ ?_ hb1) | (with_reducible refine bl_then ?_ ?_ hb2) | (with_reducible refine bl_then ?_ ?_ hb3) | (with_reducible refine bl_then ?_ ?_ hb4) | (with_reducible refine bl_then ?_ ?_ hb5) | (with_reducible refine bl_then ?_ ?_ hb6) | (with_reducible refine bl_then ?_ ?_ hb7) | (with_reducible refine bl_then ?_ ?_ hb8) | (with_reducible exact Nat.le_refl _) | omega | (simp only [World.size_alloc, World.size_setCell, World.size_drew, size_setRow]; omega) | (simp; omega) | (simp; done)))
theorem offs_any (w : World) : Calls Try.prog 18 #[] w fun e w' => e = .returned (.agg offA) ∧ Below w.heap.size w w' := by
  go_enter Try.func18, Try.ntmps18
  go_wp2_with fail
  refine bodyPost_ret (v := .agg offA) (by simp [results, Try.results18, go_sem]; rfl) rfl ⟨rfl, ?_⟩
  (repeat' (first | (with_reducible exact Below.refl _ _) | (with_reducible assumption) | (with_reducible refine Below.alloc ?_ ?_ _) | (with_reducible refine below_setRow ?_ ?_ _) | (with_reducible refine bl_drew ?_) | (with_reducible refine bl_drewN ?_ _) | (with_reducible refine Below.setCell ?_ ?_ _) | (with_reducible refine bl_then ?_ ?_ hb) | (with_reducible refine bl_then ?_ ?_ hb1) | (with_reducible refine bl_then ?_ ?_ hb2) | (with_reducible refine bl_then ?_ ?_ hb3) | (with_reducible refine bl_then ?_ ?_ hb4) | (with_reducible refine bl_then ?_ ?_ hb5) | (with_reducible refine bl_then ?_ ?_ hb6) | (with_reducible refine bl_then ?_ ?_ hb7) | (with_reducible refine bl_then ?_ ?_ hb8) | (with_reducible exact Nat.le_refl _) | omega | (simp only [World.size_alloc, World.size_setCell, World.size_drew, size_setRow]; omega) | (simp; omega) | (simp; done)))
/-- What a parameter says of a colour. -/
def colF (n k : Int) : Int × Bool := if k ≤ n ∧ n < k + 8 then (n - k, true) else if k + 60 ≤ n ∧ n < k + 68 then (n - k - 52, true) else if n = k + 9 then (-1, true) else (0, false)
theorem colored_any (n k : Int) (w : World) (hn : (Lit.int .i64 n).wf = true) (hk : k = 30 ∨ k = 40) : Calls Try.prog 20 #[.int .i64 n, .int .i64 k] w fun e w' => e = .returned (.tuple #[.int .i64 (colF n k).1, .bool (colF n k).2]) ∧ w' = w := by
  have hb := wf_i64' hn
  obtain ⟨c, hc⟩ : ∃ c, colF n k = c := ⟨_, rfl⟩
  rw [hc]
  unfold colF at hc
  have h1 : IntKind.i64.wrap (k + 8) = k + 8 := IntWalk.i64_in _ (by omega)
  have h2 : IntKind.i64.wrap (k + 60) = k + 60 := IntWalk.i64_in _ (by omega)
  have h3 : IntKind.i64.wrap (k + 68) = k + 68 := IntWalk.i64_in _ (by omega)
  have h4 : IntKind.i64.wrap (k + 9) = k + 9 := IntWalk.i64_in _ (by omega)
  have ret : ∀ (a : Act) (w : World) (x : Int) (y : Bool), a.tmps.getD 4 undef = .int .i64 x → a.tmps.getD 5 undef = .bool y → a.defers = [] → (x, y) = c → bodyPost Try.prog Try.f20 (fun e w' => e = .returned (.tuple #[.int .i64 c.1, .bool c.2]) ∧ w' = w) Exit.ret a w := by
    rintro a w x y e1 e2 e3 rfl
    refine bodyPost_ret (v := .tuple #[.int .i64 x, .bool y]) ?_ e3 ⟨rfl, rfl⟩
    simp at e1 e2
    simp [results, Try.results20, go_sem, e1, e2]
  by_cases a1 : k ≤ n
  · have s1 : IntKind.i64.wrap (n - k) = n - k := IntWalk.i64_in _ (by omega)
    by_cases a2 : n < k + 8
    · rw [if_pos ⟨a1, a2⟩] at hc
      have HC := Lib.hid hc
      clear hc
      go_enter Try.func20, Try.ntmps20
      go_wp2_with fail
      exact ret _ _ _ _ rfl rfl rfl HC.out
    · rw [if_neg (fun h => a2 h.2)] at hc
      by_cases a3 : k + 60 ≤ n
      · have s2 : IntKind.i64.wrap (n - k - 52) = n - k - 52 := IntWalk.i64_in _ (by omega)
        by_cases a4 : n < k + 68
        · rw [if_pos ⟨a3, a4⟩] at hc
          have HC := Lib.hid hc
          clear hc
          go_enter Try.func20, Try.ntmps20
          go_wp2_with fail
          exact ret _ _ _ _ rfl rfl rfl HC.out
        · have a5 : ¬ n = k + 9 := by omega
          rw [if_neg (fun h => a4 h.2), if_neg a5] at hc
          have HC := Lib.hid hc
          clear hc
          go_enter Try.func20, Try.ntmps20
          go_wp2_with fail
          exact ret _ _ _ _ rfl rfl rfl HC.out
      · rw [if_neg (fun h => a3 h.1)] at hc
        by_cases a5 : n = k + 9
        · rw [if_pos a5] at hc
          have HC := Lib.hid hc
          clear hc
          go_enter Try.func20, Try.ntmps20
          go_wp2_with fail
          exact ret _ _ _ _ rfl rfl rfl HC.out
        · rw [if_neg a5] at hc
          have HC := Lib.hid hc
          clear hc
          go_enter Try.func20, Try.ntmps20
          go_wp2_with fail
          exact ret _ _ _ _ rfl rfl rfl HC.out
  · have a3 : ¬ k + 60 ≤ n := by omega
    have a5 : ¬ n = k + 9 := by omega
    rw [if_neg (fun h => a1 h.1), if_neg (fun h => a3 h.1), if_neg a5] at hc
    have HC := Lib.hid hc
    clear hc
    go_enter Try.func20, Try.ntmps20
    go_wp2_with fail
    exact ret _ _ _ _ rfl rfl rfl HC.out
theorem and_one : ∀ n : Nat, n < 256 → bits .and .i64 (n : Int) 1 = ((n % 2 : Nat) : Int) := by
  have key : ∀ n : Fin 256, bits .and .i64 (n.val : Int) 1 = ((n.val % 2 : Nat) : Int) := by decide +kernel
  exact fun n hn => key ⟨n, hn⟩
theorem is_any (b i g : Nat) (w : World) (hb : b < 256) (hi : i < 8) (hg : w.cell? ⟨g, 0, none⟩ = some (.int .i64 b)) : Calls Try.prog 28 #[.int .i64 i, .pointer (some ⟨g, 0, none⟩)] w fun e w' => e = .returned (.bool (tb b i)) ∧ w' = w := by
  have hi0 : (0 : Int) ≤ (i : Int) := by omega
  have hd : ((b : Int) / 2 ^ i) = ((b / 2 ^ i : Nat) : Int) := by simp
  obtain ⟨m, hm⟩ : ∃ m, b / 2 ^ i = m := ⟨_, rfl⟩
  have hml : m < 256 := by rw [← hm]; exact Nat.lt_of_le_of_lt (Nat.div_le_self _ _) hb
  have HT : Hid (tb b i = (m % 2 == 1)) := Lib.hid (by unfold tb; rw [hm])
  rw [hm] at hd
  have hand := and_one m hml
  rw [HT.out]
  clear hm
  go_enter Try.func28, Try.ntmps28
  go_wp2_with fail
  refine bodyPost_ret (v := .bool (((m % 2 : Nat) : Int) == 1)) (by simp [results, Try.results28, go_sem]) rfl ⟨?_, rfl⟩
  congr 2
  rcases (by omega : m % 2 = 0 ∨ m % 2 = 1) with h | h <;> rw [h] <;> rfl
theorem or_bit : ∀ n : Nat, n < 256 → ∀ i, i < 8 → bits .or .i64 (n : Int) ((2 ^ i : Nat) : Int) = ((n ||| 2 ^ i : Nat) : Int) ∧ bits .andNot .i64 (n : Int) ((2 ^ i : Nat) : Int) = ((n - (if tb n i then 2 ^ i else 0) : Nat) : Int) := by
  have key : ∀ n : Fin 256, ∀ i : Fin 8, bits .or .i64 (n.val : Int) ((2 ^ i.val : Nat) : Int) = ((n.val ||| 2 ^ i.val : Nat) : Int) ∧ bits .andNot .i64 (n.val : Int) ((2 ^ i.val : Nat) : Int) = ((n.val - (if tb n.val i.val then 2 ^ i.val else 0) : Nat) : Int) := by decide +kernel
  exact fun n hn i hi => key ⟨n, hn⟩ ⟨i, hi⟩
/-- A number's lowest bits, so many. -/
theorem low_step : ∀ b : Nat, b < 256 → ∀ i, i < 8 → b % 2 ^ (i + 1) = (if tb b i then b % 2 ^ i ||| 2 ^ i else b % 2 ^ i) := by
  have key : ∀ b : Fin 256, ∀ i : Fin 8, b.val % 2 ^ (i.val + 1) = (if tb b.val i.val then b.val % 2 ^ i.val ||| 2 ^ i.val else b.val % 2 ^ i.val) := by decide +kernel
  exact fun b hb i hi => key ⟨b, hb⟩ ⟨i, hi⟩
theorem shl_one : ∀ i : Nat, i < 8 → IntKind.i64.wrap (2 ^ i) = ((2 ^ i : Nat) : Int) ∧ (i : Int) < 64 := by
  intro i hi
  rcases (by omega : i = 0 ∨ i = 1 ∨ i = 2 ∨ i = 3 ∨ i = 4 ∨ i = 5 ∨ i = 6 ∨ i = 7) with rfl | rfl | rfl | rfl | rfl | rfl | rfl | rfl <;> exact ⟨by decide +kernel, by omega⟩
theorem bits_any (s : Sty) (hs : s.b < 256) (w : World) : Calls Try.prog 16 #[s.val] w fun e w' => e = .returned (.int .i64 s.b) ∧ Below w.heap.size w w' := by
  obtain ⟨fg, bg, b⟩ := s
  unfold Sty.val Sty.row
  have hb : b < 256 := hs
  clear hs
  go_enter Try.func16, Try.ntmps16
  go_wp2_with fail
  rw [show (#[.bool (tb b 0), .bool (tb b 1), .bool (tb b 2), .bool (tb b 3), .bool (tb b 4), .bool (tb b 5), .bool (tb b 6), .bool (tb b 7)] : Array Value) = rowB b from rfl]
  have HB0 : Hid (Below w.heap.size w (w.alloc (.cells #[.int .i64 fg, .int .i64 bg, .bool (tb b 0), .bool (tb b 1), .bool (tb b 2), .bool (tb b 3), .bool (tb b 4), .bool (tb b 5), .bool (tb b 6), .bool (tb b 7)] 23))) := Lib.hid (by (repeat' (first | (with_reducible exact Below.refl _ _) | (with_reducible assumption) | (with_reducible refine Below.alloc ?_ ?_ _) | (with_reducible refine below_setRow ?_ ?_ _) | (with_reducible refine bl_drew ?_) | (with_reducible refine bl_drewN ?_ _) | (with_reducible refine Below.setCell ?_ ?_ _) | (with_reducible refine bl_then ?_ ?_ hb) | (with_reducible refine bl_then ?_ ?_ hb1) | (with_reducible refine bl_then ?_ ?_ hb2) | (with_reducible refine bl_then ?_ ?_ hb3) | (with_reducible refine bl_then ?_ ?_ hb4) | (with_reducible refine bl_then ?_ ?_ hb5) | (with_reducible refine bl_then ?_ ?_ hb6) | (with_reducible refine bl_then ?_ ?_ hb7) | (with_reducible refine bl_then ?_ ?_ hb8) | (with_reducible exact Nat.le_refl _) | omega | (simp only [World.size_alloc, World.size_setCell, World.size_drew, size_setRow]; omega) | (simp; omega) | (simp; done))))
  generalize (w.alloc (.cells #[.int .i64 fg, .int .i64 bg, .bool (tb b 0), .bool (tb b 1), .bool (tb b 2), .bool (tb b 3), .bool (tb b 4), .bool (tb b 5), .bool (tb b 6), .bool (tb b 7)] 23)) = V at *
  generalize tb b 0 = b0
  generalize tb b 1 = b1
  generalize tb b 2 = b2
  generalize tb b 3 = b3
  generalize tb b 4 = b4
  generalize tb b 5 = b5
  generalize tb b 6 = b6
  generalize tb b 7 = b7
  go_loopw [3, 23] (fun n i wr => ∃ k : Nat, k ≤ 8 ∧ i = .int .i64 k ∧ n = .int .i64 (b % 2 ^ k : Nat) ∧ wr = V) (fun _ i _ => 8 - (intOf i).toNat)
  case atStart => exact ⟨0, by omega, rfl, by rw [show b % 2 ^ 0 = 0 by omega]; rfl, rfl⟩
  case round =>
    obtain ⟨k, hk, rfl, rfl, rfl⟩ := hrel
    by_cases hk8 : k < 8
    · have hki : (k : Int) < 8 := by omega
      have hk0 : (0 : Int) ≤ (k : Int) := by omega
      have hix : ∀ w, (Instr.index 56 (.agg (rowB b)) (.int .i64 k)).run Try.prog w = .ok (.bool (tb b k)) w := fun w => run_index_flag b hk8
      obtain ⟨hsh, hk64⟩ := shl_one k hk8
      have hst := low_step b hb k hk8
      obtain ⟨m, hm⟩ : ∃ m, b % 2 ^ k = m := ⟨_, rfl⟩
      have hml : m < 256 := by rw [← hm]; exact Nat.lt_of_le_of_lt (Nat.mod_le _ _) hb
      have hor := (or_bit m hml k hk8).1
      rw [hm] at hst ⊢
      clear hm
      obtain ⟨p, hp⟩ : ∃ p : Nat, 2 ^ k = p := ⟨_, rfl⟩
      rw [hp] at hst hsh hor
      have hpi : (2 : Int) ^ k = (p : Int) := by rw [← hp]; simp
      rw [hpi] at hsh
      clear hp
      have HST := Lib.hid hst
      clear hst
      by_cases ht : tb b k = true
      · rw [ht] at hix HST
        go_wp2_with fail
        exact ⟨⟨k + 1, by omega, by go_num, by rw [HST.out]; rfl, trivial⟩, by simp [intOf]; omega⟩
      · rw [Bool.not_eq_true] at ht
        rw [ht] at hix HST
        go_wp2_with fail
        exact ⟨⟨k + 1, by omega, by go_num, by rw [HST.out]; rfl, trivial⟩, by simp [intOf]; omega⟩
    · obtain rfl : k = 8 := by omega
      have hm : b % 2 ^ 8 = b := Nat.mod_eq_of_lt hb
      rw [hm]
      go_wp2_with fail
      refine bodyPost_ret (v := .int .i64 b) (by simp [results, Try.results16, go_sem]) rfl ⟨rfl, HB0.out⟩
theorem flagged_any (s : Sty) (n : Nat) (hn : n < 256) (w : World) : Calls Try.prog 19 #[s.val, .int .i64 n] w fun e w' => e = .returned (Sty.mk s.fg s.bg n).val ∧ Below w.heap.size w w' := by
  obtain ⟨fg, bg, b⟩ := s
  unfold Sty.val Sty.row
  obtain ⟨t0, h0⟩ : ∃ t, tb n 0 = t := ⟨_, rfl⟩
  obtain ⟨t1, h1⟩ : ∃ t, tb n 1 = t := ⟨_, rfl⟩
  obtain ⟨t2, h2⟩ : ∃ t, tb n 2 = t := ⟨_, rfl⟩
  obtain ⟨t3, h3⟩ : ∃ t, tb n 3 = t := ⟨_, rfl⟩
  obtain ⟨t4, h4⟩ : ∃ t, tb n 4 = t := ⟨_, rfl⟩
  obtain ⟨t5, h5⟩ : ∃ t, tb n 5 = t := ⟨_, rfl⟩
  obtain ⟨t6, h6⟩ : ∃ t, tb n 6 = t := ⟨_, rfl⟩
  obtain ⟨t7, h7⟩ : ∃ t, tb n 7 = t := ⟨_, rfl⟩
  generalize tb b 0 = b0
  generalize tb b 1 = b1
  generalize tb b 2 = b2
  generalize tb b 3 = b3
  generalize tb b 4 = b4
  generalize tb b 5 = b5
  generalize tb b 6 = b6
  generalize tb b 7 = b7
  show Calls Try.prog 19 _ w fun e w' => e = .returned (.agg #[.int .i64 fg, .int .i64 bg, .bool (tb n 0), .bool (tb n 1), .bool (tb n 2), .bool (tb n 3), .bool (tb n 4), .bool (tb n 5), .bool (tb n 6), .bool (tb n 7)]) ∧ Below w.heap.size w w'
  rw [h0, h1, h2, h3, h4, h5, h6, h7]
  have H0 := Lib.hid h0
  have H1 := Lib.hid h1
  have H2 := Lib.hid h2
  have H3 := Lib.hid h3
  have H4 := Lib.hid h4
  have H5 := Lib.hid h5
  have H6 := Lib.hid h6
  have H7 := Lib.hid h7
  clear h0 h1 h2 h3 h4 h5 h6 h7
  go_enter Try.func19, Try.ntmps19
  go_wp2_with fail
  refine (is_any n 0 (w.heap.size + 1) _ hn (by omega) (by first | (go_simp; done) | ((repeat rw [World.cell?_alloc_lt _ _ _ (by (try simp only [World.size_alloc]); omega)]); first | assumption | (go_simp; done)))).mono ?_
  rintro e w1 ⟨rfl, rfl⟩
  rw [H0.out]
  go_wp2_with fail
  refine (is_any n 1 (w.heap.size + 1) _ hn (by omega) (by first | (go_simp; done) | ((repeat rw [World.cell?_alloc_lt _ _ _ (by (try simp only [World.size_alloc]); omega)]); first | assumption | (go_simp; done)))).mono ?_
  rintro e w1 ⟨rfl, rfl⟩
  rw [H1.out]
  go_wp2_with fail
  refine (is_any n 2 (w.heap.size + 1) _ hn (by omega) (by first | (go_simp; done) | ((repeat rw [World.cell?_alloc_lt _ _ _ (by (try simp only [World.size_alloc]); omega)]); first | assumption | (go_simp; done)))).mono ?_
  rintro e w1 ⟨rfl, rfl⟩
  rw [H2.out]
  go_wp2_with fail
  refine (is_any n 3 (w.heap.size + 1) _ hn (by omega) (by first | (go_simp; done) | ((repeat rw [World.cell?_alloc_lt _ _ _ (by (try simp only [World.size_alloc]); omega)]); first | assumption | (go_simp; done)))).mono ?_
  rintro e w1 ⟨rfl, rfl⟩
  rw [H3.out]
  go_wp2_with fail
  refine (is_any n 4 (w.heap.size + 1) _ hn (by omega) (by first | (go_simp; done) | ((repeat rw [World.cell?_alloc_lt _ _ _ (by (try simp only [World.size_alloc]); omega)]); first | assumption | (go_simp; done)))).mono ?_
  rintro e w1 ⟨rfl, rfl⟩
  rw [H4.out]
  go_wp2_with fail
  refine (is_any n 5 (w.heap.size + 1) _ hn (by omega) (by first | (go_simp; done) | ((repeat rw [World.cell?_alloc_lt _ _ _ (by (try simp only [World.size_alloc]); omega)]); first | assumption | (go_simp; done)))).mono ?_
  rintro e w1 ⟨rfl, rfl⟩
  rw [H5.out]
  go_wp2_with fail
  refine (is_any n 6 (w.heap.size + 1) _ hn (by omega) (by first | (go_simp; done) | ((repeat rw [World.cell?_alloc_lt _ _ _ (by (try simp only [World.size_alloc]); omega)]); first | assumption | (go_simp; done)))).mono ?_
  rintro e w1 ⟨rfl, rfl⟩
  rw [H6.out]
  go_wp2_with fail
  refine (is_any n 7 (w.heap.size + 1) _ hn (by omega) (by first | (go_simp; done) | ((repeat rw [World.cell?_alloc_lt _ _ _ (by (try simp only [World.size_alloc]); omega)]); first | assumption | (go_simp; done)))).mono ?_
  rintro e w1 ⟨rfl, rfl⟩
  rw [H7.out]
  go_wp2_with fail
  refine bodyPost_ret (v := .agg #[.int .i64 fg, .int .i64 bg, .bool t0, .bool t1, .bool t2, .bool t3, .bool t4, .bool t5, .bool t6, .bool t7]) (by simp [results, Try.results19, go_sem]) rfl ⟨rfl, ?_⟩
  (repeat' (first | (with_reducible exact Below.refl _ _) | (with_reducible assumption) | (with_reducible refine Below.alloc ?_ ?_ _) | (with_reducible refine below_setRow ?_ ?_ _) | (with_reducible refine bl_drew ?_) | (with_reducible refine bl_drewN ?_ _) | (with_reducible refine Below.setCell ?_ ?_ _) | (with_reducible refine bl_then ?_ ?_ hb) | (with_reducible refine bl_then ?_ ?_ hb1) | (with_reducible refine bl_then ?_ ?_ hb2) | (with_reducible refine bl_then ?_ ?_ hb3) | (with_reducible refine bl_then ?_ ?_ hb4) | (with_reducible refine bl_then ?_ ?_ hb5) | (with_reducible refine bl_then ?_ ?_ hb6) | (with_reducible refine bl_then ?_ ?_ hb7) | (with_reducible refine bl_then ?_ ?_ hb8) | (with_reducible exact Nat.le_refl _) | omega | (simp only [World.size_alloc, World.size_setCell, World.size_drew, size_setRow]; omega) | (simp; omega) | (simp; done)))
/-- The flags behind a parameter, so many of them looked at. -/
def flB (n : Int) (b : Nat) : Nat → Nat
  | 0 => b
  | i + 1 => if offT i = n then (if onT i = n then flB n b i ||| 2 ^ i else flB n b i) - (if tb (if onT i = n then flB n b i ||| 2 ^ i else flB n b i) i then 2 ^ i else 0) else (if onT i = n then flB n b i ||| 2 ^ i else flB n b i)
theorem or_lt {n i : Nat} (hn : n < 256) (hi : i < 8) : n ||| 2 ^ i < 256 := by
  have key : ∀ n : Fin 256, ∀ i : Fin 8, n.val ||| 2 ^ i.val < 256 := by decide +kernel
  exact key ⟨n, hn⟩ ⟨i, hi⟩
theorem flB_lt {n : Int} {b : Nat} (hb : b < 256) : ∀ i, i ≤ 8 → flB n b i < 256
  | 0, _ => hb
  | i + 1, h => by
    have ih := flB_lt (n := n) hb i (by omega)
    have ho := or_lt ih (i := i) (by omega)
    have hc : (if onT i = n then flB n b i ||| 2 ^ i else flB n b i) < 256 := by split <;> assumption
    unfold flB
    split
    · exact Nat.lt_of_le_of_lt (Nat.sub_le _ _) hc
    · exact hc
def stepP (s : Sty) (n : Int) : Sty := ⟨if (colF n 30).2 then (colF n 30).1 else s.fg, if (colF n 40).2 then (colF n 40).1 else s.bg, flB n s.b 8⟩
/-- What parameters make of a style. -/
def aplF : Nat → Sty → List Int → Sty
  | 0, s, _ => s
  | _ + 1, s, [] => s
  | f + 1, s, n :: ps =>
    if n = 0 then aplF f plainS ps
    else if n = 38 ∨ n = 48 then
      (if 1 < ps.length ∧ ps.getD 0 0 = 5 then
        aplF f (if 0 ≤ ps.getD 1 0 ∧ ps.getD 1 0 ≤ 255 then (if n = 48 then ⟨s.fg, ps.getD 1 0, s.b⟩ else ⟨ps.getD 1 0, s.bg, s.b⟩) else s) (ps.drop 2)
      else if 0 < ps.length ∧ ps.getD 0 0 = 2 then aplF f s (ps.drop (min 4 ps.length))
      else aplF f s ps)
    else aplF f (stepP s n) ps
theorem aplF_fuel : ∀ (f g : Nat) (s : Sty) (l : List Int), l.length ≤ f → l.length ≤ g → aplF f s l = aplF g s l
  | 0, 0, _, _, _, _ => rfl
  | 0, g + 1, s, l, h, _ => by
    obtain rfl : l = [] := List.eq_nil_of_length_eq_zero (by omega)
    rfl
  | f + 1, 0, s, l, _, h => by
    obtain rfl : l = [] := List.eq_nil_of_length_eq_zero (by omega)
    rfl
  | f + 1, g + 1, s, [], _, _ => rfl
  | f + 1, g + 1, s, n :: ps, h1, h2 => by
    have l1 : ps.length ≤ f := by simpa using h1
    have l2 : ps.length ≤ g := by simpa using h2
    unfold aplF
    split
    · exact aplF_fuel f g _ _ l1 l2
    · split
      · split
        · exact aplF_fuel f g _ _ (by simp; omega) (by simp; omega)
        · split
          · exact aplF_fuel f g _ _ (by simp; omega) (by simp; omega)
          · exact aplF_fuel f g _ _ l1 l2
      · exact aplF_fuel f g _ _ l1 l2
def aplS (s : Sty) (l : List Int) : Sty := aplF l.length s l
/-- Apply of styles. -/
def applyS (s : Sty) (l : List Int) : Sty := if l.length = 0 then plainS else aplS s l
theorem stepP_lt {s : Sty} {n : Int} (h : s.b < 256) : (stepP s n).b < 256 := flB_lt h 8 (by omega)
end Go.Proofs.Ytlejmllacikmeaa
