/- What is proved: slices of whole numbers that a call has made, grown by append; what color, MayStyle, says of package cell and colour, MayStyle of its reference answer; conditions: those typed. -/
import Derived.Test.YtlejmllacikmeaaCell8
import Derived.Laws.AppendOwn
import Derived.Laws.AppendOwnNone
import Derived.Maps.AppendAt
set_option linter.unusedSimpArgs false
set_option linter.unusedVariables false
namespace Go.Proofs.Ytlejmllacikmeaa
open Go.RowKit
set_option maxRecDepth 100000
set_option maxHeartbeats 4000000
section
variable {w w1 : World} {base : Nat} {v : Value} {xs ys : List Int}
/-- A slice of whole numbers that the call has made. -/
def OwI (w : World) (base : Nat) (v : Value) (xs : List Int) : Prop := w.ownsRow base 3 1 v xs.length (xs.map (Value.int .i64))
theorem OwI.nil (w : World) (base : Nat) : OwI w base (.slice none 0 0) [] := World.ownsRow_nil _ _ _ _
theorem RdI.of_ints {k : IntKind} {e : TypeId} {n : Nat} (hn : xs.length = n) (h : w.ownsRow base e 1 v n (xs.map (Value.int k))) : ∃ A cap, v = .slice A n cap ∧ RdI w k A n xs ∧ (A = none → cap = 0) ∧ n ≤ cap ∧ cap ≤ maxLen := by
  obtain ⟨hl, h⟩ := h
  rcases h with ⟨rfl, rfl⟩ | ⟨g, cap, cur, rfl, hg, hh, hc, hm, hs, ht⟩
  · exact ⟨none, 0, rfl, ⟨hn, fun h => absurd h (by omega)⟩, fun _ => rfl, Nat.le_refl _, by simp [maxLen]⟩
  · refine ⟨_, cap, rfl, ⟨hn, fun _ => ⟨g, 0, rfl, fun j hj => ?_⟩⟩, fun h => by simp at h, hc, hm⟩
    rw [Nat.zero_add, cell_of_row w g j _ _ (0, 0) hh]
    have := congrArg (fun l => l[j]?) ht
    simp only [List.getElem?_take_of_lt (show j < n * 1 by omega), Array.getElem?_toList, List.getElem?_map] at this
    rw [this, List.getD_eq_getElem?_getD, List.getElem?_eq_getElem (by omega)]
    simp
theorem owns_keep {e : TypeId} {size n : Nat} {zs : List Value} (h : w.ownsRow base e size v n zs) (hk : ∀ b, v.ownBlock = some b → b < w.heap.size → w1.heap[b]? = w.heap[b]?) : w1.ownsRow base e size v n zs := by
  obtain ⟨hl, h⟩ := h
  refine ⟨hl, ?_⟩
  rcases h with h | ⟨g, cap, cur, rfl, hg, hh, r⟩
  · exact .inl h
  · exact .inr ⟨g, cap, cur, rfl, hg, (hk g rfl (Array.getElem?_eq_some_iff.1 hh).1).trans hh, r⟩
theorem OwI.below (h : OwI w base v xs) (hb : Below w.heap.size w w1) : OwI w1 base v xs := owns_keep h fun b _ hlt => hb.block b hlt
theorem OwI.mono (h : OwI w base v xs) {b' : Nat} (hb : b' ≤ base) : OwI w b' v xs := by
  obtain ⟨hl, h⟩ := h
  refine ⟨hl, ?_⟩
  rcases h with h | ⟨g, cap, cur, rfl, hg, r⟩
  · exact .inl h
  · exact .inr ⟨g, cap, cur, rfl, Nat.le_trans hb hg, r⟩
theorem OwI.new (w : World) (base : Nat) (hb : base ≤ w.heap.size) (xs : List Int) (n : Nat) (hn : xs.length = n) (hm : n ≤ maxLen) : OwI (w.alloc (.cells (xs.map (Value.int .i64)).toArray 3)) base (.slice (some ⟨w.heap.size, 0, none⟩) n n) xs := by
  subst hn
  exact ⟨by simp, .inr ⟨w.heap.size, _, _, rfl, hb, heap_alloc_last _ _, Nat.le_refl _, hm, by simp, List.take_of_length_le (by simp)⟩⟩
/-- Whole numbers put behind those that the call owns. -/
theorem wpList_appI {ops : Array Oper} {rest : List Oper} {o : Oper} {a : Act} {Q : Exit → Act → World → Prop} (hgd : o.guard = none) (s x : Operand)
    (ho : o.op = .call { callee := .builtin .append, args := #[s, x], argTypes := #[24, 24] }) (v u : Value) (xs ys : List Int) (hs : a.eval s = v) (hown : OwI w base v xs) (hx : a.eval x = u) (A : Option Addr) (m cap : Nat) (hu : u = .slice A m cap) (hr : RdI w .i64 A m ys) (hA : A = none → cap = 0)
    (hl : xs.length + ys.length ≤ 17592186044416) (hbase : base ≤ w.heap.size)
    (h : ∀ v' w', OwI w' base v' (xs ++ ys) → w.grownBy w' v.ownBlock → (v'.ownBlock = v.ownBlock ∨ v'.ownBlock = some w.heap.size) → wpList Try.prog ops Q rest (a.put o.dst v') w') : wpList Try.prog ops Q (o :: rest) a w := by
  obtain ⟨i, hi, hz, h1, h8⟩ : ∃ i, Try.prog.info? 3 = some i ∧ i.zero = some (.int .i64 0) ∧ i.size = 1 ∧ i.bytes = 8 := by
    obtain ⟨i, h, h2⟩ := Option.map_eq_some_iff.1 (show (Try.prog.info? 3).map (fun i => (i.zero, i.size, i.bytes)) = some (some (.int .i64 0), 1, 8) by kernel_rfl)
    simp only [Prod.mk.injEq] at h2
    exact ⟨i, h, h2⟩
  subst hu
  have hyl := hr.len
  rcases A with _ | ad
  · have hy : ys = [] := by
      rcases Nat.eq_zero_or_pos m with h0 | h0
      · exact List.eq_nil_of_length_eq_zero (by omega)
      · obtain ⟨_, _, h, _⟩ := hr.2 h0
        cases h
    subst hy
    obtain rfl := hA rfl
    obtain rfl : m = 0 := by simpa using hyl.symm
    refine wpList_append_own_none hgd s x 24 ho base 3 i 1 Try.underlying24 hi v _ _ hs hown hx ?_
    exact h v w (by rw [List.append_nil]; exact hown) ⟨rfl, rfl, rfl, Nat.le_refl _, fun _ _ _ => rfl⟩ (.inl rfl)
  · refine wpList_append_own_at w hgd s x 24 ho base 3 i _ 1 8 Try.underlying24 hi hz h1 h8 rfl (by decide) v _ _ hs hown ad m cap (ys.map (Value.int .i64)) hx (by simp; omega) ?_ ?_ (by unfold maxLen; omega) (by omega) hbase ?_
    · intro j y hj
      rw [List.getElem?_map, Option.map_eq_some_iff] at hj
      obtain ⟨y, hj, rfl⟩ := hj
      have hjl : j < ys.length := (List.getElem?_eq_some_iff.1 hj).1
      obtain ⟨b, off, e, hc⟩ := hr.2 (by omega)
      obtain rfl := Option.some.inj e
      have e2 : (⟨b, off, none⟩ : Addr).add j = ⟨b, off + j, none⟩ := by unfold Addr.add; split <;> simp_all
      rw [e2, hc j (by omega), List.getD_eq_getElem?_getD, hj]
      rfl
    · intro y hy
      obtain ⟨y, _, rfl⟩ := List.mem_map.1 hy
      rfl
    · intro v' w' h1 h2 _ h4
      refine h v' w' ?_ h2 h4
      unfold OwI
      rw [List.length_append, List.map_append, hyl]
      exact h1
end
def colB (n : Int) : Bool := decide (-1 ≤ n ∧ n ≤ 255)
def maySt (s : Sty) : Bool := colB s.fg && colB s.bg
theorem color_any (n : Int) (w : World) : Calls Try.prog 29 #[.int .i64 n] w fun e w' => e = .returned (.bool (colB n)) ∧ w' = w := by
  unfold colB
  by_cases h1 : -1 ≤ n
  · by_cases h2 : n ≤ 255
    · rw [decide_eq_true (show -1 ≤ n ∧ n ≤ 255 from ⟨h1, h2⟩)]
      go_enter Try.func29, Try.ntmps29
      go_wp2_with fail
      go_ret
      exact ⟨rfl, rfl⟩
    · rw [decide_eq_false (show ¬ (-1 ≤ n ∧ n ≤ 255) from fun h => h2 h.2)]
      go_enter Try.func29, Try.ntmps29
      go_wp2_with fail
      go_ret
      exact ⟨rfl, rfl⟩
  · rw [decide_eq_false (show ¬ (-1 ≤ n ∧ n ≤ 255) from fun h => h1 h.1)]
    go_enter Try.func29, Try.ntmps29
    go_wp2_with fail
    go_ret
    exact ⟨rfl, rfl⟩
theorem rcolour_any (n : Int) (w : World) : Calls Try.prog 25 #[.int .i64 n] w fun e w' => e = .returned (.bool (colB n)) ∧ w' = w := by
  unfold colB
  by_cases h1 : -1 ≤ n
  · by_cases h2 : n ≤ 255
    · rw [decide_eq_true (show -1 ≤ n ∧ n ≤ 255 from ⟨h1, h2⟩)]
      go_enter Try.func25, Try.ntmps25
      go_wp2_with fail
      go_ret
      exact ⟨rfl, rfl⟩
    · rw [decide_eq_false (show ¬ (-1 ≤ n ∧ n ≤ 255) from fun h => h2 h.2)]
      go_enter Try.func25, Try.ntmps25
      go_wp2_with fail
      go_ret
      exact ⟨rfl, rfl⟩
  · rw [decide_eq_false (show ¬ (-1 ≤ n ∧ n ≤ 255) from fun h => h1 h.1)]
    go_enter Try.func25, Try.ntmps25
    go_wp2_with fail
    go_ret
    exact ⟨rfl, rfl⟩
theorem maystyle_any (s : Sty) (w : World) : Calls Try.prog 23 #[s.val] w fun e w' => e = .returned (.bool (maySt s)) ∧ Below w.heap.size w w' := by
  (obtain ⟨fg, bg, b⟩ := s; unfold maySt Sty.val Sty.row; dsimp only; obtain ⟨c1, hc1⟩ : ∃ c, colB fg = c := ⟨_, rfl⟩; obtain ⟨c2, hc2⟩ : ∃ c, colB bg = c := ⟨_, rfl⟩; rw [hc1, hc2]; have H1 := Lib.hid hc1; have H2 := Lib.hid hc2; clear hc1 hc2)
  go_enter Try.func23, Try.ntmps23
  go_wp2_with fail
  refine (color_any fg _).mono ?_
  rintro e w1 ⟨rfl, rfl⟩
  rw [H1.out]
  cases c1
  · go_wp2_with fail
    go_ret
    exact ⟨rfl, by (repeat' (first | (with_reducible exact Below.refl _ _) | (with_reducible assumption) | (with_reducible refine Below.alloc ?_ ?_ _) | (with_reducible refine below_setRow ?_ ?_ _) | (with_reducible refine bl_drew ?_) | (with_reducible refine bl_drewN ?_ _) | (with_reducible refine Below.setCell ?_ ?_ _) | (with_reducible refine bl_then ?_ ?_ hb) | (with_reducible refine bl_then ?_ ?_ hb1) | (with_reducible refine bl_then ?_ ?_ hb2) | (with_reducible refine bl_then ?_ ?_ hb3) | (with_reducible refine bl_then ?_ ?_ hb4) | (with_reducible refine bl_then ?_ ?_ hb5) | (with_reducible refine bl_then ?_ ?_ hb6) | (with_reducible refine bl_then ?_ ?_ hb7) | (with_reducible refine bl_then ?_ ?_ hb8) | (with_reducible exact Nat.le_refl _) | omega | (simp only [World.size_alloc, World.size_setCell, World.size_drew, size_setRow]; omega) | (simp; omega) | (simp; done)))⟩
  · go_wp2_with fail
    refine (color_any bg _).mono ?_
    rintro e w1 ⟨rfl, rfl⟩
    rw [H2.out]
    cases c2
    · go_wp2_with fail
      go_ret
      exact ⟨rfl, by (repeat' (first | (with_reducible exact Below.refl _ _) | (with_reducible assumption) | (with_reducible refine Below.alloc ?_ ?_ _) | (with_reducible refine below_setRow ?_ ?_ _) | (with_reducible refine bl_drew ?_) | (with_reducible refine bl_drewN ?_ _) | (with_reducible refine Below.setCell ?_ ?_ _) | (with_reducible refine bl_then ?_ ?_ hb) | (with_reducible refine bl_then ?_ ?_ hb1) | (with_reducible refine bl_then ?_ ?_ hb2) | (with_reducible refine bl_then ?_ ?_ hb3) | (with_reducible refine bl_then ?_ ?_ hb4) | (with_reducible refine bl_then ?_ ?_ hb5) | (with_reducible refine bl_then ?_ ?_ hb6) | (with_reducible refine bl_then ?_ ?_ hb7) | (with_reducible refine bl_then ?_ ?_ hb8) | (with_reducible exact Nat.le_refl _) | omega | (simp only [World.size_alloc, World.size_setCell, World.size_drew, size_setRow]; omega) | (simp; omega) | (simp; done)))⟩
    · go_wp2_with fail
      go_ret
      exact ⟨rfl, by (repeat' (first | (with_reducible exact Below.refl _ _) | (with_reducible assumption) | (with_reducible refine Below.alloc ?_ ?_ _) | (with_reducible refine below_setRow ?_ ?_ _) | (with_reducible refine bl_drew ?_) | (with_reducible refine bl_drewN ?_ _) | (with_reducible refine Below.setCell ?_ ?_ _) | (with_reducible refine bl_then ?_ ?_ hb) | (with_reducible refine bl_then ?_ ?_ hb1) | (with_reducible refine bl_then ?_ ?_ hb2) | (with_reducible refine bl_then ?_ ?_ hb3) | (with_reducible refine bl_then ?_ ?_ hb4) | (with_reducible refine bl_then ?_ ?_ hb5) | (with_reducible refine bl_then ?_ ?_ hb6) | (with_reducible refine bl_then ?_ ?_ hb7) | (with_reducible refine bl_then ?_ ?_ hb8) | (with_reducible exact Nat.le_refl _) | omega | (simp only [World.size_alloc, World.size_setCell, World.size_drew, size_setRow]; omega) | (simp; omega) | (simp; done)))⟩
theorem rmaystyle_any (s : Sty) (w : World) : Calls Try.prog 10 #[s.val] w fun e w' => e = .returned (.bool (maySt s)) ∧ Below w.heap.size w w' := by
  (obtain ⟨fg, bg, b⟩ := s; unfold maySt Sty.val Sty.row; dsimp only; obtain ⟨c1, hc1⟩ : ∃ c, colB fg = c := ⟨_, rfl⟩; obtain ⟨c2, hc2⟩ : ∃ c, colB bg = c := ⟨_, rfl⟩; rw [hc1, hc2]; have H1 := Lib.hid hc1; have H2 := Lib.hid hc2; clear hc1 hc2)
  go_enter Try.func10, Try.ntmps10
  go_wp2_with fail
  refine (rcolour_any fg _).mono ?_
  rintro e w1 ⟨rfl, rfl⟩
  rw [H1.out]
  cases c1
  · go_wp2_with fail
    go_ret
    exact ⟨rfl, by (repeat' (first | (with_reducible exact Below.refl _ _) | (with_reducible assumption) | (with_reducible refine Below.alloc ?_ ?_ _) | (with_reducible refine below_setRow ?_ ?_ _) | (with_reducible refine bl_drew ?_) | (with_reducible refine bl_drewN ?_ _) | (with_reducible refine Below.setCell ?_ ?_ _) | (with_reducible refine bl_then ?_ ?_ hb) | (with_reducible refine bl_then ?_ ?_ hb1) | (with_reducible refine bl_then ?_ ?_ hb2) | (with_reducible refine bl_then ?_ ?_ hb3) | (with_reducible refine bl_then ?_ ?_ hb4) | (with_reducible refine bl_then ?_ ?_ hb5) | (with_reducible refine bl_then ?_ ?_ hb6) | (with_reducible refine bl_then ?_ ?_ hb7) | (with_reducible refine bl_then ?_ ?_ hb8) | (with_reducible exact Nat.le_refl _) | omega | (simp only [World.size_alloc, World.size_setCell, World.size_drew, size_setRow]; omega) | (simp; omega) | (simp; done)))⟩
  · go_wp2_with fail
    refine (rcolour_any bg _).mono ?_
    rintro e w1 ⟨rfl, rfl⟩
    rw [H2.out]
    cases c2
    · go_wp2_with fail
      go_ret
      exact ⟨rfl, by (repeat' (first | (with_reducible exact Below.refl _ _) | (with_reducible assumption) | (with_reducible refine Below.alloc ?_ ?_ _) | (with_reducible refine below_setRow ?_ ?_ _) | (with_reducible refine bl_drew ?_) | (with_reducible refine bl_drewN ?_ _) | (with_reducible refine Below.setCell ?_ ?_ _) | (with_reducible refine bl_then ?_ ?_ hb) | (with_reducible refine bl_then ?_ ?_ hb1) | (with_reducible refine bl_then ?_ ?_ hb2) | (with_reducible refine bl_then ?_ ?_ hb3) | (with_reducible refine bl_then ?_ ?_ hb4) | (with_reducible refine bl_then ?_ ?_ hb5) | (with_reducible refine bl_then ?_ ?_ hb6) | (with_reducible refine bl_then ?_ ?_ hb7) | (with_reducible refine bl_then ?_ ?_ hb8) | (with_reducible exact Nat.le_refl _) | omega | (simp only [World.size_alloc, World.size_setCell, World.size_drew, size_setRow]; omega) | (simp; omega) | (simp; done)))⟩
    · go_wp2_with fail
      go_ret
      exact ⟨rfl, by (repeat' (first | (with_reducible exact Below.refl _ _) | (with_reducible assumption) | (with_reducible refine Below.alloc ?_ ?_ _) | (with_reducible refine below_setRow ?_ ?_ _) | (with_reducible refine bl_drew ?_) | (with_reducible refine bl_drewN ?_ _) | (with_reducible refine Below.setCell ?_ ?_ _) | (with_reducible refine bl_then ?_ ?_ hb) | (with_reducible refine bl_then ?_ ?_ hb1) | (with_reducible refine bl_then ?_ ?_ hb2) | (with_reducible refine bl_then ?_ ?_ hb3) | (with_reducible refine bl_then ?_ ?_ hb4) | (with_reducible refine bl_then ?_ ?_ hb5) | (with_reducible refine bl_then ?_ ?_ hb6) | (with_reducible refine bl_then ?_ ?_ hb7) | (with_reducible refine bl_then ?_ ?_ hb8) | (with_reducible exact Nat.le_refl _) | omega | (simp only [World.size_alloc, World.size_setCell, World.size_drew, size_setRow]; omega) | (simp; omega) | (simp; done)))⟩
/-- The parameters that say a colour. -/
def saysS (c k : Int) : List Int := if c = -1 then [] else if c < 8 then [k + c] else if c < 16 then [k + 52 + c] else [k + 8, 5, c]
theorem says_any (c k : Int) (w : World) (hc : -1 ≤ c ∧ c ≤ 255) (hk : k = 30 ∨ k = 40) : Calls Try.prog 24 #[.int .i64 c, .int .i64 k] w fun e w' => (∃ v, e = .returned v ∧ OwI w' w.heap.size v (saysS c k)) ∧ Below w.heap.size w w' := by
  obtain ⟨l, hl⟩ : ∃ l, saysS c k = l := ⟨_, rfl⟩
  rw [hl]
  unfold saysS at hl
  have e1 : IntKind.i64.wrap (k + c) = k + c := IntWalk.i64_in _ (by omega)
  have e2 : IntKind.i64.wrap (k + 52) = k + 52 := IntWalk.i64_in _ (by omega)
  have e3 : IntKind.i64.wrap (k + 52 + c) = k + 52 + c := IntWalk.i64_in _ (by omega)
  have e4 : IntKind.i64.wrap (k + 8) = k + 8 := IntWalk.i64_in _ (by omega)
  by_cases h1 : c = -1
  · rw [if_pos h1] at hl
    have HL := Lib.hid hl
    clear hl
    subst h1
    go_enter Try.func24, Try.ntmps24
    go_wp2_with fail
    go_ret
    exact ⟨⟨_, rfl, by rw [← HL.out]; exact OwI.nil _ _⟩, Below.refl _ _⟩
  · have h1b : (c == -1) = false := by simpa using h1
    rw [if_neg h1] at hl
    by_cases h2 : c < 8
    · rw [if_pos h2] at hl
      have HL := Lib.hid hl
      clear hl h1
      go_enter Try.func24, Try.ntmps24
      go_wp2_with fail
      go_ret
      exact ⟨⟨_, rfl, by rw [← HL.out]; exact OwI.new w w.heap.size (Nat.le_refl _) [k + c] 1 rfl (by simp [maxLen])⟩, by (repeat' (first | (with_reducible exact Below.refl _ _) | (with_reducible assumption) | (with_reducible refine Below.alloc ?_ ?_ _) | (with_reducible refine below_setRow ?_ ?_ _) | (with_reducible refine bl_drew ?_) | (with_reducible refine bl_drewN ?_ _) | (with_reducible refine Below.setCell ?_ ?_ _) | (with_reducible refine bl_then ?_ ?_ hb) | (with_reducible refine bl_then ?_ ?_ hb1) | (with_reducible refine bl_then ?_ ?_ hb2) | (with_reducible refine bl_then ?_ ?_ hb3) | (with_reducible refine bl_then ?_ ?_ hb4) | (with_reducible refine bl_then ?_ ?_ hb5) | (with_reducible refine bl_then ?_ ?_ hb6) | (with_reducible refine bl_then ?_ ?_ hb7) | (with_reducible refine bl_then ?_ ?_ hb8) | (with_reducible exact Nat.le_refl _) | omega | (simp only [World.size_alloc, World.size_setCell, World.size_drew, size_setRow]; omega) | (simp; omega) | (simp; done)))⟩
    · rw [if_neg h2] at hl
      by_cases h3 : c < 16
      · rw [if_pos h3] at hl
        have HL := Lib.hid hl
        clear hl h1
        go_enter Try.func24, Try.ntmps24
        go_wp2_with fail
        go_ret
        exact ⟨⟨_, rfl, by rw [← HL.out]; exact OwI.new w w.heap.size (Nat.le_refl _) [k + 52 + c] 1 rfl (by simp [maxLen])⟩, by (repeat' (first | (with_reducible exact Below.refl _ _) | (with_reducible assumption) | (with_reducible refine Below.alloc ?_ ?_ _) | (with_reducible refine below_setRow ?_ ?_ _) | (with_reducible refine bl_drew ?_) | (with_reducible refine bl_drewN ?_ _) | (with_reducible refine Below.setCell ?_ ?_ _) | (with_reducible refine bl_then ?_ ?_ hb) | (with_reducible refine bl_then ?_ ?_ hb1) | (with_reducible refine bl_then ?_ ?_ hb2) | (with_reducible refine bl_then ?_ ?_ hb3) | (with_reducible refine bl_then ?_ ?_ hb4) | (with_reducible refine bl_then ?_ ?_ hb5) | (with_reducible refine bl_then ?_ ?_ hb6) | (with_reducible refine bl_then ?_ ?_ hb7) | (with_reducible refine bl_then ?_ ?_ hb8) | (with_reducible exact Nat.le_refl _) | omega | (simp only [World.size_alloc, World.size_setCell, World.size_drew, size_setRow]; omega) | (simp; omega) | (simp; done)))⟩
      · rw [if_neg h3] at hl
        have HL := Lib.hid hl
        clear hl h1
        go_enter Try.func24, Try.ntmps24
        go_wp2_with fail
        go_ret
        exact ⟨⟨_, rfl, by rw [← HL.out]; exact OwI.new w w.heap.size (Nat.le_refl _) [k + 8, 5, c] 3 rfl (by simp [maxLen])⟩, by (repeat' (first | (with_reducible exact Below.refl _ _) | (with_reducible assumption) | (with_reducible refine Below.alloc ?_ ?_ _) | (with_reducible refine below_setRow ?_ ?_ _) | (with_reducible refine bl_drew ?_) | (with_reducible refine bl_drewN ?_ _) | (with_reducible refine Below.setCell ?_ ?_ _) | (with_reducible refine bl_then ?_ ?_ hb) | (with_reducible refine bl_then ?_ ?_ hb1) | (with_reducible refine bl_then ?_ ?_ hb2) | (with_reducible refine bl_then ?_ ?_ hb3) | (with_reducible refine bl_then ?_ ?_ hb4) | (with_reducible refine bl_then ?_ ?_ hb5) | (with_reducible refine bl_then ?_ ?_ hb6) | (with_reducible refine bl_then ?_ ?_ hb7) | (with_reducible refine bl_then ?_ ?_ hb8) | (with_reducible exact Nat.le_refl _) | omega | (simp only [World.size_alloc, World.size_setCell, World.size_drew, size_setRow]; omega) | (simp; omega) | (simp; done)))⟩
end Go.Proofs.Ytlejmllacikmeaa
