/- What is proved: what the functions of package width do when they are called (the tables, the search, a character's width); no condition beyond those typed. -/
import Derived.Test.YtlejmllacikmeaaProg
import Derived.Test.YtlejmllacikmeaaBase
set_option linter.unusedSimpArgs false
set_option linter.unusedVariables false
namespace Go.Proofs.Ytlejmllacikmeaa
open Go.RowKit
set_option maxRecDepth 100000
set_option maxHeartbeats 1000000
def zeroT : List (Int × Int) := [(0x300, 0x36f), (0x483, 0x489), (0x591, 0x5bd), (0x5bf, 0x5bf), (0x5c1, 0x5c2), (0x610, 0x61a), (0x64b, 0x65f),
  (0x6d6, 0x6dc), (0x900, 0x902), (0x93c, 0x93c), (0x941, 0x948), (0x94d, 0x94d), (0xe31, 0xe31), (0xe34, 0xe3a),
  (0x1ab0, 0x1aff), (0x1dc0, 0x1dff), (0x200b, 0x200f), (0x202a, 0x202e), (0x2060, 0x2064), (0x20d0, 0x20ff),
  (0x302a, 0x302d), (0x3099, 0x309a), (0xfe00, 0xfe0f), (0xfe20, 0xfe2f), (0xfeff, 0xfeff), (0xe0100, 0xe01ef)]
def wideT : List (Int × Int) := [(0x1100, 0x115f), (0x231a, 0x231b), (0x2329, 0x232a), (0x23e9, 0x23ec), (0x25fd, 0x25fe), (0x2614, 0x2615),
  (0x2648, 0x2653), (0x26a1, 0x26a1), (0x26bd, 0x26be), (0x2705, 0x2705), (0x2728, 0x2728), (0x274c, 0x274c),
  (0x2753, 0x2755), (0x2795, 0x2797), (0x2b1b, 0x2b1c), (0x2b50, 0x2b50), (0x2e80, 0x303e), (0x3041, 0x33ff),
  (0x3400, 0x4dbf), (0x4e00, 0x9fff), (0xa000, 0xa4cf), (0xac00, 0xd7a3), (0xf900, 0xfaff), (0xfe30, 0xfe6f),
  (0xff01, 0xff60), (0xffe0, 0xffe6), (0x1f300, 0x1f320), (0x1f32d, 0x1f335), (0x1f337, 0x1f37c), (0x1f400, 0x1f43e),
  (0x1f440, 0x1f440), (0x1f442, 0x1f4fc), (0x1f600, 0x1f64f), (0x1f680, 0x1f6c5), (0x1f900, 0x1f9ff),
  (0x20000, 0x2fffd), (0x30000, 0x3fffd)]
/-- A table's cells. -/
def flatC (l : List (Int × Int)) : Array Value := (l.flatMap fun p => [Value.int .i32 p.1, Value.int .i32 p.2]).toArray

def zeros0 : Array Value := Array.replicate 52 (.int .i32 0)
theorem zeros_info : (Try.prog.info? 60).map (·.size) = some (flatC zeroT).size := by kernel_rfl
theorem zeros_size : zeros0.size = (flatC zeroT).size := by kernel_rfl
theorem zeros_one : (flatC zeroT).all (·.oneCell') = true := by kernel_rfl
theorem zeros_any (w : World) : Calls Try.prog 31 #[] w fun e w' => e = .returned (.agg (flatC zeroT)) ∧ w.alloc (.cells (flatC zeroT) 60) = w' := by
  go_enter Try.func31, Try.ntmps31
  refine wp_seq (wp_region_list (wpList_run 1 (w.alloc (.cells zeros0 60)) (by kernel_rfl) (wpList_nil ?_)))
  refine wp_seq (wp_region_list (wpList_run 27 (w.alloc (.cells zeros0 60)) (by kernel_rfl) ?_))
  refine wpList_store_row rfl 60 _ _ rfl w.heap.size (flatC zeroT) (by kernel_rfl) (by kernel_rfl) 60 zeros0 (heap_alloc_last w _) zeros_info zeros_size zeros_one ?_
  rw [World.setRow_alloc_new]
  refine wpList_nil (wp_ret ?_)
  exact bodyPost_ret (results_cell_row rfl _ _ w.heap.size 60 (flatC zeroT) (0, 0) (.array 26 57) (by kernel_rfl) (heap_alloc_last w _) (by kernel_rfl) rfl zeros_info) (by kernel_rfl) ⟨rfl, rfl⟩

def wides0 : Array Value := Array.replicate 74 (.int .i32 0)
theorem wides_info : (Try.prog.info? 58).map (·.size) = some (flatC wideT).size := by kernel_rfl
theorem wides_size : wides0.size = (flatC wideT).size := by kernel_rfl
theorem wides_one : (flatC wideT).all (·.oneCell') = true := by kernel_rfl
theorem wides_any (w : World) : Calls Try.prog 30 #[] w fun e w' => e = .returned (.agg (flatC wideT)) ∧ w.alloc (.cells (flatC wideT) 58) = w' := by
  go_enter Try.func30, Try.ntmps30
  refine wp_seq (wp_region_list (wpList_run 1 (w.alloc (.cells wides0 58)) (by kernel_rfl) (wpList_nil ?_)))
  refine wp_seq (wp_region_list (wpList_run 38 (w.alloc (.cells wides0 58)) (by kernel_rfl) ?_))
  refine wpList_store_row rfl 58 _ _ rfl w.heap.size (flatC wideT) (by kernel_rfl) (by kernel_rfl) 58 wides0 (heap_alloc_last w _) wides_info wides_size wides_one ?_
  rw [World.setRow_alloc_new]
  refine wpList_nil (wp_ret ?_)
  exact bodyPost_ret (results_cell_row rfl _ _ w.heap.size 58 (flatC wideT) (0, 0) (.array 37 57) (by kernel_rfl) (heap_alloc_last w _) (by kernel_rfl) rfl wides_info) (by kernel_rfl) ⟨rfl, rfl⟩

def inB (lo hi : Nat → Int) (n : Nat) (c : Int) : Bool := (List.range n).any fun i => decide (lo i ≤ c) && decide (c ≤ hi i)
theorem inB_true {lo hi : Nat → Int} {n : Nat} {c : Int} (i : Nat) (h : i < n) (h1 : lo i ≤ c) (h2 : c ≤ hi i) : inB lo hi n c = true := by
  unfold inB; rw [List.any_eq_true]; exact ⟨i, by simpa using h, by simp [h1, h2]⟩
theorem inB_false {lo hi : Nat → Int} {n : Nat} {c : Int} (h : ∀ i, i < n → c < lo i ∨ hi i < c) : inB lo hi n c = false := by
  unfold inB; rw [List.any_eq_false]; intro i hi; have := h i (by simpa using hi); simp; omega
theorem stands_any (g n : Nat) (lo hi : Nat → Int) (c : Int) (w : World) (hn : n ≤ 1000)
    (hlo : ∀ i, i < n → w.cell? ⟨g, i * 2, none⟩ = some (.int .i32 (lo i))) (hhi : ∀ i, i < n → w.cell? ⟨g, i * 2 + 1, none⟩ = some (.int .i32 (hi i))) 
    (hs : ∀ i, i < n → lo i ≤ hi i) (hr : ∀ i j, i < j → j < n → hi i < lo j) :
    Calls Try.prog 32 #[.slice (some ⟨g, 0, none⟩) n n, .int .i32 c] w fun e w' => e = .returned (.bool (inB lo hi n c)) ∧ w = w' := by
  have HS := Lib.hid hs
  have HR := Lib.hid hr
  have HLO := Lib.hid hlo
  have HHI := Lib.hid hhi
  clear hs hr hlo hhi
  go_enter Try.func32, Try.ntmps32
  go_wp2
  go_loop [5, 6] (fun l h => ∃ a b : Nat, a ≤ b ∧ b ≤ n ∧ l = .int .u64 a ∧ h = .int .u64 b ∧ Hid ((∀ i, i < a → hi i < c) ∧ (∀ i, b ≤ i → i < n → c < lo i))) (fun l h => ((intOf h).toNat - (intOf l).toNat))
  case atStart => exact ⟨0, n, by omega, by omega, rfl, rfl, fun i h => by omega, fun i h1 h2 => by omega⟩
  case round =>
    obtain ⟨a, b, hab, hbn, rfl, rfl, HI⟩ := hrel
    by_cases hlt : a < b
    · have hm : (a + b) / 2 < n := by omega
      have hl := HLO.out _ hm
      have hh := HHI.out _ hm
      go_wp2
      · go_round
        case rel =>
          refine ⟨a, (a + b) / 2, by omega, by omega, rfl, by go_num, HI.out.1, fun i h1 h2 => ?_⟩
          have h3 : c < lo ((a + b) / 2) := by assumption
          rcases Nat.lt_or_eq_of_le h1 with h | rfl
          · have := HR.out _ _ h h2; have := HS.out _ hm; omega
          · exact h3
        case measure => simp [intOf]; omega
      · go_round
        case rel =>
          refine ⟨(a + b) / 2 + 1, b, by omega, by omega, by go_num, rfl, fun i h1 => ?_, HI.out.2⟩
          have h3 : hi ((a + b) / 2) < c := by assumption
          rcases Nat.lt_or_eq_of_le (Nat.le_of_lt_succ h1) with h | rfl
          · have := HR.out _ _ h hm; have := HS.out _ hm; omega
          · exact h3
        case measure => simp [intOf]; omega
      · go_ret
        have h3 : lo ((a + b) / 2) ≤ c := by assumption
        have h4 : c ≤ hi ((a + b) / 2) := by assumption
        refine ⟨?_, rfl⟩
        rw [inB_true _ hm h3 h4]
        rfl
    · go_wp2
      go_ret
      refine ⟨?_, rfl⟩
      rw [inB_false (fun i hi => ?_)]
      · rfl
      rcases Nat.lt_or_ge i a with h | h
      · exact .inr (HI.out.1 i h)
      · exact .inl (HI.out.2 i (by omega) hi)

/-- Is a number in one of the pairs? -/
def inT (T : List (Int × Int)) (c : Int) : Bool := T.any fun p => decide (p.1 ≤ c) && decide (c ≤ p.2)
/-- Pairs that rise. -/
def risesT : List (Int × Int) → Bool
  | [] => true
  | [p] => decide (p.1 ≤ p.2)
  | p :: q :: r => decide (p.1 ≤ p.2) && decide (p.2 < q.1) && risesT (q :: r)
theorem zero_rises : risesT zeroT = true := by decide +kernel
theorem wide_rises : risesT wideT = true := by decide +kernel
theorem rises_le : ∀ (T : List (Int × Int)), risesT T = true → ∀ i, i < T.length → (T.getD i (0, 0)).1 ≤ (T.getD i (0, 0)).2
  | [], _, i, h => by simp at h
  | [p], h, i, hi => by
    obtain rfl : i = 0 := by simpa using hi
    simpa [risesT] using h
  | p :: q :: r, h, i, hi => by
    simp only [risesT, Bool.and_eq_true, decide_eq_true_eq] at h
    cases i with
    | zero => simpa using h.1.1
    | succ i => simpa using rises_le (q :: r) h.2 i (by simpa using hi)
theorem rises_next : ∀ (T : List (Int × Int)), risesT T = true → ∀ i, i + 1 < T.length → (T.getD i (0, 0)).2 < (T.getD (i + 1) (0, 0)).1
  | [], _, i, h => by simp at h
  | [p], h, i, hi => by simp at hi
  | p :: q :: r, h, i, hi => by
    simp only [risesT, Bool.and_eq_true, decide_eq_true_eq] at h
    cases i with
    | zero => simpa using h.1.2
    | succ i => simpa using rises_next (q :: r) h.2 i (by simpa using hi)
theorem rises_far (T : List (Int × Int)) (h : risesT T = true) (i d : Nat) : i + d + 1 < T.length → (T.getD i (0, 0)).2 < (T.getD (i + d + 1) (0, 0)).1 := by
  induction d with
  | zero => intro hi; exact rises_next T h i hi
  | succ d ih =>
    intro hi
    have h1 := ih (by omega)
    have h2 := rises_le T h (i + d + 1) (by omega)
    have h3 := rises_next T h (i + d + 1) (by omega)
    have e : i + (d + 1) + 1 = i + d + 1 + 1 := by omega
    rw [e]
    omega
theorem inB_inT (T : List (Int × Int)) (c : Int) : inB (fun i => (T.getD i (0, 0)).1) (fun i => (T.getD i (0, 0)).2) T.length c = inT T c := by
  rw [Bool.eq_iff_iff]
  unfold inB inT
  simp only [List.any_eq_true, List.mem_range, Bool.and_eq_true, decide_eq_true_eq]
  constructor
  · rintro ⟨i, hi, h1, h2⟩
    refine ⟨T[i], List.getElem_mem hi, ?_⟩
    simpa [List.getD_eq_getElem?_getD, List.getElem?_eq_getElem hi] using And.intro h1 h2
  · rintro ⟨p, hp, h⟩
    obtain ⟨i, hi, rfl⟩ := List.mem_iff_getElem.1 hp
    refine ⟨i, hi, ?_⟩
    simpa [List.getD_eq_getElem?_getD, List.getElem?_eq_getElem hi] using h
theorem flat_lo : ∀ (T : List (Int × Int)) (i : Nat), i < T.length → (flatC T)[i * 2]? = some (.int .i32 (T.getD i (0, 0)).1)
  | [], i, h => by simp at h
  | p :: r, i, h => by
    cases i with
    | zero => simp [flatC]
    | succ i =>
      have := flat_lo r i (by simpa using h)
      have e : (i + 1) * 2 = i * 2 + 1 + 1 := by omega
      simpa [flatC, e] using this
theorem flat_hi : ∀ (T : List (Int × Int)) (i : Nat), i < T.length → (flatC T)[i * 2 + 1]? = some (.int .i32 (T.getD i (0, 0)).2)
  | [], i, h => by simp at h
  | p :: r, i, h => by
    cases i with
    | zero => simp [flatC]
    | succ i =>
      have := flat_hi r i (by simpa using h)
      have e : (i + 1) * 2 = i * 2 + 1 + 1 := by omega
      simpa [flatC, e] using this
theorem stands_tab (T : List (Int × Int)) (n : Nat) (hn : T.length = n) (hT : risesT T = true) (hl : n ≤ 1000) (g : Nat) (t : TypeId) (c : Int) (w : World) (hg : w.heap[g]? = some (.cells (flatC T) t (0, 0))) :
    Calls Try.prog 32 #[.slice (some ⟨g, 0, none⟩) n n, .int .i32 c] w fun e w' => e = .returned (.bool (inT T c)) ∧ w = w' := by
  subst hn
  rw [← inB_inT]
  refine stands_any g T.length _ _ c w hl (fun i hi => ?_) (fun i hi => ?_) (rises_le T hT) (fun i j hij hj => ?_)
  · rw [cell_of_row w g _ _ t (0, 0) hg]; exact flat_lo T i hi
  · rw [cell_of_row w g _ _ t (0, 0) hg]; exact flat_hi T i hi
  · obtain ⟨d, rfl⟩ : ∃ d, j = i + d + 1 := ⟨j - i - 1, by omega⟩
    exact rises_far T hT i d hj

/-- Numbers without a width. -/
def badC (c : Int) : Bool := decide (c < 32) || (decide (127 ≤ c) && decide (c ≤ 159)) || decide (1114111 < c) || (decide (55296 ≤ c) && decide (c ≤ 57343))
def widthOf (c : Int) : Int := if badC c then -1 else if inT zeroT c then 0 else if inT wideT c then 2 else 1
theorem zeroval_wides (W : World) : (zeroValue 58).run Try.prog W = .ok (.agg wides0) W := by kernel_rfl
theorem zeroval_zeros (W : World) : (zeroValue 60).run Try.prog W = .ok (.agg zeros0) W := by kernel_rfl
theorem of_any (c : Int) (w : World) : Calls Try.prog 26 #[.int .i32 c] w fun e w' => e = .returned (.int .i64 (widthOf c)) ∧ Below w.heap.size w w' := by
  have hz39 := zeroval_wides
  have hz41 := zeroval_zeros
  have hcases : (c < 32 ∨ (32 ≤ c ∧ 127 ≤ c ∧ c ≤ 159) ∨ (159 < c ∧ 1114111 < c) ∨ (159 < c ∧ c ≤ 1114111 ∧ 55296 ≤ c ∧ c ≤ 57343)) ∨
      ((32 ≤ c ∧ c < 127) ∨ (159 < c ∧ c < 55296) ∨ (57343 < c ∧ c ≤ 1114111)) := by omega
  rcases hcases with h | h
  · have hb : badC c = true := by simp [badC]; omega
    have HF : widthOf c = -1 := by simp [widthOf, hb]
    have HF := Lib.hid HF
    clear hb
    rcases h with h | ⟨h1, h2, h3⟩ | ⟨h1, h2⟩ | ⟨h1, h2, h3, h4⟩
    all_goals
      go_enter Try.func26, Try.ntmps26; go_wp2_with fail; refine (wides_any _).mono ?_; rintro e w' ⟨rfl, rfl⟩; go_wp2_with fail; refine (zeros_any _).mono ?_; rintro e w' ⟨rfl, rfl⟩; go_wp2_with (first | ((with_reducible refine wpList_store_row rfl 58 _ _ rfl _ (flatC wideT) rfl rfl 58 wides0 ?_ wides_info wides_size wides_one ?_); · (simp only [heap_setRow_if, heap_alloc_if, heap_setCell_if, World.size_alloc, size_setRow, World.size_setCell]; simp)) | ((with_reducible refine wpList_store_row rfl 60 _ _ rfl _ (flatC zeroT) rfl rfl 60 zeros0 ?_ zeros_info zeros_size zeros_one ?_); · (simp only [heap_setRow_if, heap_alloc_if, heap_setCell_if, World.size_alloc, size_setRow, World.size_setCell]; simp)))
      go_ret
      refine ⟨ret_int HF.out.symm, ?_⟩
      (repeat' (first | (with_reducible exact Below.refl _ _) | (with_reducible assumption) | (with_reducible refine Below.alloc ?_ ?_ _) | (with_reducible refine below_setRow ?_ ?_ _) | (with_reducible refine bl_drew ?_) | (with_reducible refine bl_drewN ?_ _) | (with_reducible refine Below.setCell ?_ ?_ _) | (with_reducible refine bl_then ?_ ?_ hb) | (with_reducible refine bl_then ?_ ?_ hb1) | (with_reducible refine bl_then ?_ ?_ hb2) | (with_reducible refine bl_then ?_ ?_ hb3) | (with_reducible refine bl_then ?_ ?_ hb4) | (with_reducible refine bl_then ?_ ?_ hb5) | (with_reducible refine bl_then ?_ ?_ hb6) | (with_reducible refine bl_then ?_ ?_ hb7) | (with_reducible refine bl_then ?_ ?_ hb8) | (with_reducible exact Nat.le_refl _) | omega | (simp only [World.size_alloc, World.size_setCell, World.size_drew, size_setRow]; omega) | (simp; omega) | (simp; done)))
  · have hb : badC c = false := by simp [badC]; omega
    rcases hz : inT zeroT c with _ | _
    · rcases hw : inT wideT c with _ | _
      · have HF : widthOf c = 1 := by simp [widthOf, hb, hz, hw]
        have HF := Lib.hid HF
        clear hb
        rcases h with ⟨h1, h2⟩ | ⟨h1, h2⟩ | ⟨h1, h2⟩
        all_goals
          go_enter Try.func26, Try.ntmps26; go_wp2_with fail; refine (wides_any _).mono ?_; rintro e w' ⟨rfl, rfl⟩; go_wp2_with fail; refine (zeros_any _).mono ?_; rintro e w' ⟨rfl, rfl⟩; go_wp2_with (first | ((with_reducible refine wpList_store_row rfl 58 _ _ rfl _ (flatC wideT) rfl rfl 58 wides0 ?_ wides_info wides_size wides_one ?_); · (simp only [heap_setRow_if, heap_alloc_if, heap_setCell_if, World.size_alloc, size_setRow, World.size_setCell]; simp)) | ((with_reducible refine wpList_store_row rfl 60 _ _ rfl _ (flatC zeroT) rfl rfl 60 zeros0 ?_ zeros_info zeros_size zeros_one ?_); · (simp only [heap_setRow_if, heap_alloc_if, heap_setCell_if, World.size_alloc, size_setRow, World.size_setCell]; simp)))
          refine (stands_tab zeroT 26 rfl zero_rises (by omega) _ 60 c _ ?_).mono ?_
          · (simp only [heap_setRow_if, heap_alloc_if, heap_setCell_if, World.size_alloc, size_setRow, World.size_setCell]; simp)
          rintro e w' ⟨rfl, rfl⟩
          go_wp2_with fail
          refine (stands_tab wideT 37 rfl wide_rises (by omega) _ 58 c _ ?_).mono ?_
          · (simp only [heap_setRow_if, heap_alloc_if, heap_setCell_if, World.size_alloc, size_setRow, World.size_setCell]; simp)
          rintro e w' ⟨rfl, rfl⟩
          go_wp2_with fail
          go_ret
          refine ⟨ret_int HF.out.symm, ?_⟩
          (repeat' (first | (with_reducible exact Below.refl _ _) | (with_reducible assumption) | (with_reducible refine Below.alloc ?_ ?_ _) | (with_reducible refine below_setRow ?_ ?_ _) | (with_reducible refine bl_drew ?_) | (with_reducible refine bl_drewN ?_ _) | (with_reducible refine Below.setCell ?_ ?_ _) | (with_reducible refine bl_then ?_ ?_ hb) | (with_reducible refine bl_then ?_ ?_ hb1) | (with_reducible refine bl_then ?_ ?_ hb2) | (with_reducible refine bl_then ?_ ?_ hb3) | (with_reducible refine bl_then ?_ ?_ hb4) | (with_reducible refine bl_then ?_ ?_ hb5) | (with_reducible refine bl_then ?_ ?_ hb6) | (with_reducible refine bl_then ?_ ?_ hb7) | (with_reducible refine bl_then ?_ ?_ hb8) | (with_reducible exact Nat.le_refl _) | omega | (simp only [World.size_alloc, World.size_setCell, World.size_drew, size_setRow]; omega) | (simp; omega) | (simp; done)))
      · have HF : widthOf c = 2 := by simp [widthOf, hb, hz, hw]
        have HF := Lib.hid HF
        clear hb
        rcases h with ⟨h1, h2⟩ | ⟨h1, h2⟩ | ⟨h1, h2⟩
        all_goals
          go_enter Try.func26, Try.ntmps26; go_wp2_with fail; refine (wides_any _).mono ?_; rintro e w' ⟨rfl, rfl⟩; go_wp2_with fail; refine (zeros_any _).mono ?_; rintro e w' ⟨rfl, rfl⟩; go_wp2_with (first | ((with_reducible refine wpList_store_row rfl 58 _ _ rfl _ (flatC wideT) rfl rfl 58 wides0 ?_ wides_info wides_size wides_one ?_); · (simp only [heap_setRow_if, heap_alloc_if, heap_setCell_if, World.size_alloc, size_setRow, World.size_setCell]; simp)) | ((with_reducible refine wpList_store_row rfl 60 _ _ rfl _ (flatC zeroT) rfl rfl 60 zeros0 ?_ zeros_info zeros_size zeros_one ?_); · (simp only [heap_setRow_if, heap_alloc_if, heap_setCell_if, World.size_alloc, size_setRow, World.size_setCell]; simp)))
          refine (stands_tab zeroT 26 rfl zero_rises (by omega) _ 60 c _ ?_).mono ?_
          · (simp only [heap_setRow_if, heap_alloc_if, heap_setCell_if, World.size_alloc, size_setRow, World.size_setCell]; simp)
          rintro e w' ⟨rfl, rfl⟩
          go_wp2_with fail
          refine (stands_tab wideT 37 rfl wide_rises (by omega) _ 58 c _ ?_).mono ?_
          · (simp only [heap_setRow_if, heap_alloc_if, heap_setCell_if, World.size_alloc, size_setRow, World.size_setCell]; simp)
          rintro e w' ⟨rfl, rfl⟩
          go_wp2_with fail
          go_ret
          refine ⟨ret_int HF.out.symm, ?_⟩
          (repeat' (first | (with_reducible exact Below.refl _ _) | (with_reducible assumption) | (with_reducible refine Below.alloc ?_ ?_ _) | (with_reducible refine below_setRow ?_ ?_ _) | (with_reducible refine bl_drew ?_) | (with_reducible refine bl_drewN ?_ _) | (with_reducible refine Below.setCell ?_ ?_ _) | (with_reducible refine bl_then ?_ ?_ hb) | (with_reducible refine bl_then ?_ ?_ hb1) | (with_reducible refine bl_then ?_ ?_ hb2) | (with_reducible refine bl_then ?_ ?_ hb3) | (with_reducible refine bl_then ?_ ?_ hb4) | (with_reducible refine bl_then ?_ ?_ hb5) | (with_reducible refine bl_then ?_ ?_ hb6) | (with_reducible refine bl_then ?_ ?_ hb7) | (with_reducible refine bl_then ?_ ?_ hb8) | (with_reducible exact Nat.le_refl _) | omega | (simp only [World.size_alloc, World.size_setCell, World.size_drew, size_setRow]; omega) | (simp; omega) | (simp; done)))
    · have HF : widthOf c = 0 := by simp [widthOf, hb, hz]
      have HF := Lib.hid HF
      clear hb
      rcases h with ⟨h1, h2⟩ | ⟨h1, h2⟩ | ⟨h1, h2⟩
      all_goals
        go_enter Try.func26, Try.ntmps26; go_wp2_with fail; refine (wides_any _).mono ?_; rintro e w' ⟨rfl, rfl⟩; go_wp2_with fail; refine (zeros_any _).mono ?_; rintro e w' ⟨rfl, rfl⟩; go_wp2_with (first | ((with_reducible refine wpList_store_row rfl 58 _ _ rfl _ (flatC wideT) rfl rfl 58 wides0 ?_ wides_info wides_size wides_one ?_); · (simp only [heap_setRow_if, heap_alloc_if, heap_setCell_if, World.size_alloc, size_setRow, World.size_setCell]; simp)) | ((with_reducible refine wpList_store_row rfl 60 _ _ rfl _ (flatC zeroT) rfl rfl 60 zeros0 ?_ zeros_info zeros_size zeros_one ?_); · (simp only [heap_setRow_if, heap_alloc_if, heap_setCell_if, World.size_alloc, size_setRow, World.size_setCell]; simp)))
        refine (stands_tab zeroT 26 rfl zero_rises (by omega) _ 60 c _ ?_).mono ?_
        · (simp only [heap_setRow_if, heap_alloc_if, heap_setCell_if, World.size_alloc, size_setRow, World.size_setCell]; simp)
        rintro e w' ⟨rfl, rfl⟩
        go_wp2_with fail
        go_ret
        refine ⟨ret_int HF.out.symm, ?_⟩
        (repeat' (first | (with_reducible exact Below.refl _ _) | (with_reducible assumption) | (with_reducible refine Below.alloc ?_ ?_ _) | (with_reducible refine below_setRow ?_ ?_ _) | (with_reducible refine bl_drew ?_) | (with_reducible refine bl_drewN ?_ _) | (with_reducible refine Below.setCell ?_ ?_ _) | (with_reducible refine bl_then ?_ ?_ hb) | (with_reducible refine bl_then ?_ ?_ hb1) | (with_reducible refine bl_then ?_ ?_ hb2) | (with_reducible refine bl_then ?_ ?_ hb3) | (with_reducible refine bl_then ?_ ?_ hb4) | (with_reducible refine bl_then ?_ ?_ hb5) | (with_reducible refine bl_then ?_ ?_ hb6) | (with_reducible refine bl_then ?_ ?_ hb7) | (with_reducible refine bl_then ?_ ?_ hb8) | (with_reducible exact Nat.le_refl _) | omega | (simp only [World.size_alloc, World.size_setCell, World.size_drew, size_setRow]; omega) | (simp; omega) | (simp; done)))
end Go.Proofs.Ytlejmllacikmeaa
