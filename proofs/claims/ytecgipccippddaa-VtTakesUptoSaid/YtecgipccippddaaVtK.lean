/- What is proved: what slices.Clone answers on the three kinds of slices that a parser has; what Copy of package vt answers; conditions: those typed. -/
import Derived.Test.YtecgipccippddaaVtJ
import Derived.Laws.OwnMore
set_option linter.unusedSimpArgs false
set_option linter.unusedVariables false
namespace Go.Proofs.Ytecgipccippddaa
open Go.RowKit
set_option maxRecDepth 100000
set_option maxHeartbeats 8000000
theorem clone_u8 (v : Value) (xs : List Int) (base : Nat) (w : World) (h : OwK .u8 5 w base v xs) (hl : xs.length ≤ 1000000) :
    Calls Try.prog 26 #[v] w fun e w' => (∃ v, e = .returned v ∧ w'.ownsRow w.heap.size 5 1 v xs.length (xs.map (Value.int .u8))) ∧ Below w.heap.size w w' := by
  have hc := fun g hg => World.ownsRow.cells h (g := g) hg
  obtain ⟨hx, ⟨h1, h2⟩ | ⟨g, cap, cur, h1, hb, hh, h4, h5, h6, h7⟩⟩ := h
  · have hxn : xs = [] := List.eq_nil_of_length_eq_zero h2
    subst hxn h1
    clear hc
    have g1 : (eqGuard .eql 28 (.tmp 3) (.const (.slice none 0 0)) (.slice none 0 0) (.slice none 0 0)).run Try.prog w = .ok () w := by kernel_rfl
    have g2 : (binOp .eql 28 (.slice none 0 0) (.slice none 0 0)).run Try.prog w = .ok (.bool true) w := by kernel_rfl
    go_enter Try.func26, Try.ntmps26
    go_wp2_with fail
    go_ret
    exact ⟨⟨_, rfl, World.ownsRow_nil _ _ _ _⟩, Below.refl _ _⟩
  · subst h1
    obtain ⟨n, hn⟩ : ∃ n, xs.length = n := ⟨_, rfl⟩
    rw [hn] at hl hc ⊢
    have HC := Lib.hid (hc g rfl)
    have HN := Lib.hid hn
    have hgl := lt_of_heap hh
    clear hx hh h4 h5 h6 h7 hc hn
    have g1 : (eqGuard .eql 28 (.tmp 3) (.const (.slice none 0 0)) (.slice (some ⟨g, 0, none⟩) n cap) (.slice none 0 0)).run Try.prog w = .ok () w := by kernel_rfl
    have g2 : (binOp .eql 28 (.slice (some ⟨g, 0, none⟩) n cap) (.slice none 0 0)).run Try.prog w = .ok (.bool false) w := by kernel_rfl
    obtain ⟨i, hi, hz, h1, h8⟩ : ∃ i, Try.prog.info? 5 = some i ∧ i.zero = some (.int .u8 0) ∧ i.size = 1 ∧ i.bytes = 1 := by
      obtain ⟨i, h, h2⟩ := Option.map_eq_some_iff.1 (show (Try.prog.info? 5).map (fun i => (i.zero, i.size, i.bytes)) = some (some (.int .u8 0), 1, 1) by kernel_rfl)
      simp only [Prod.mk.injEq] at h2
      exact ⟨i, h, h2⟩
    have HI := Lib.hid (show Try.prog.info? 5 = some i ∧ i.zero = some (.int .u8 0) ∧ i.size = 1 ∧ i.bytes = 1 from ⟨hi, hz, h1, h8⟩)
    have HM : Hid ((w.alloc (.cells #[] 5)).ownsRow w.heap.size 5 1 (.slice (some ⟨w.heap.size, 0, none⟩) 0 0) 0 []) := Lib.hid (World.ownsRow_made w #[] 0 (Nat.le_refl _) (by simp [maxLen]) rfl)
    have HS : Hid ((xs.map (Value.int .u8)).length = n * 1) := Lib.hid (by rw [List.length_map, HN.out, Nat.mul_one])
    have HNW : Hid (∀ j u, (xs.map (Value.int .u8))[j]? = some u → (w.alloc (.cells #[] 5)).cell? ((⟨g, 0, none⟩ : Addr).add j) = some u) := Lib.hid (fun j u hj => by
      have := HC.out j u hj
      have e2 : (⟨g, 0, none⟩ : Addr).add j = ⟨g, j, none⟩ := by unfold Addr.add; split <;> simp_all
      rw [e2] at this ⊢
      rw [World.cell?_alloc_lt _ _ _ hgl]
      exact this)
    have HO : Hid (∀ u ∈ xs.map (Value.int .u8), u.oneCell' = true) := Lib.hid (fun u hu => by
      obtain ⟨y, _, rfl⟩ := List.mem_map.1 hu
      rfl)
    clear hi hz h1 h8
    go_enter Try.func26, Try.ntmps26
    go_wp2_with (at_builtin; refine wpList_append_own_at _ rfl _ _ 28 rfl w.heap.size 5 i _ 1 1 Try.underlying28 HI.out.1 HI.out.2.1 HI.out.2.2.1 HI.out.2.2.2 rfl (by decide) (.slice (some ⟨w.heap.size, 0, none⟩) 0 0) 0 [] rfl HM.out ⟨g, 0, none⟩ n cap (xs.map (Value.int .u8)) rfl HS.out HNW.out HO.out (by unfold maxLen; omega) (by omega) (by simp) ?_)
    intro v' w' k1 k2 _ _
    have HK : Hid (w'.ownsRow w.heap.size 5 1 v' n (xs.map (Value.int .u8))) := Lib.hid k1
    have HB : Hid (Below w.heap.size w w') := Lib.hid (Below.grown (w := w.alloc _) (by (repeat' (first | (with_reducible exact Below.refl _ _) | (with_reducible assumption) | (with_reducible refine Below.alloc ?_ ?_ _) | (with_reducible refine below_setRow ?_ ?_ _) | (with_reducible refine bl_drew ?_) | (with_reducible refine bl_drewN ?_ _) | (with_reducible refine Below.setCell ?_ ?_ _) | (with_reducible refine bl_then ?_ ?_ hb) | (with_reducible refine bl_then ?_ ?_ hb1) | (with_reducible refine bl_then ?_ ?_ hb2) | (with_reducible refine bl_then ?_ ?_ hb3) | (with_reducible refine bl_then ?_ ?_ hb4) | (with_reducible refine bl_then ?_ ?_ hb5) | (with_reducible refine bl_then ?_ ?_ hb6) | (with_reducible refine bl_then ?_ ?_ hb7) | (with_reducible refine bl_then ?_ ?_ hb8) | (with_reducible exact Nat.le_refl _) | omega | (simp only [World.size_alloc, World.size_setCell, World.size_drew, size_setRow]; omega) | (simp; omega) | (simp; done)))) k2 (by simp) (by simp [Value.ownBlock]))
    obtain ⟨A9, c9, hv9⟩ : ∃ A c, v' = .slice A n c := by
      obtain ⟨_, ⟨h1, h2⟩ | ⟨g, cap, cur, h1, _⟩⟩ := k1
      · exact ⟨none, 0, by rw [h1, h2]⟩
      · exact ⟨_, _, h1⟩
    clear k1 k2
    subst hv9
    go_wp2_with fail
    go_ret
    exact ⟨⟨_, rfl, HK.out⟩, HB.out⟩
theorem clone_i64 (v : Value) (xs : List Int) (base : Nat) (w : World) (h : OwK .i64 3 w base v xs) (hl : xs.length ≤ 1000000) :
    Calls Try.prog 27 #[v] w fun e w' => (∃ v, e = .returned v ∧ w'.ownsRow w.heap.size 3 1 v xs.length (xs.map (Value.int .i64))) ∧ Below w.heap.size w w' := by
  have hc := fun g hg => World.ownsRow.cells h (g := g) hg
  obtain ⟨hx, ⟨h1, h2⟩ | ⟨g, cap, cur, h1, hb, hh, h4, h5, h6, h7⟩⟩ := h
  · have hxn : xs = [] := List.eq_nil_of_length_eq_zero h2
    subst hxn h1
    clear hc
    have g1 : (eqGuard .eql 29 (.tmp 3) (.const (.slice none 0 0)) (.slice none 0 0) (.slice none 0 0)).run Try.prog w = .ok () w := by kernel_rfl
    have g2 : (binOp .eql 29 (.slice none 0 0) (.slice none 0 0)).run Try.prog w = .ok (.bool true) w := by kernel_rfl
    go_enter Try.func27, Try.ntmps27
    go_wp2_with fail
    go_ret
    exact ⟨⟨_, rfl, World.ownsRow_nil _ _ _ _⟩, Below.refl _ _⟩
  · subst h1
    obtain ⟨n, hn⟩ : ∃ n, xs.length = n := ⟨_, rfl⟩
    rw [hn] at hl hc ⊢
    have HC := Lib.hid (hc g rfl)
    have HN := Lib.hid hn
    have hgl := lt_of_heap hh
    clear hx hh h4 h5 h6 h7 hc hn
    have g1 : (eqGuard .eql 29 (.tmp 3) (.const (.slice none 0 0)) (.slice (some ⟨g, 0, none⟩) n cap) (.slice none 0 0)).run Try.prog w = .ok () w := by kernel_rfl
    have g2 : (binOp .eql 29 (.slice (some ⟨g, 0, none⟩) n cap) (.slice none 0 0)).run Try.prog w = .ok (.bool false) w := by kernel_rfl
    obtain ⟨i, hi, hz, h1, h8⟩ : ∃ i, Try.prog.info? 3 = some i ∧ i.zero = some (.int .i64 0) ∧ i.size = 1 ∧ i.bytes = 8 := by
      obtain ⟨i, h, h2⟩ := Option.map_eq_some_iff.1 (show (Try.prog.info? 3).map (fun i => (i.zero, i.size, i.bytes)) = some (some (.int .i64 0), 1, 8) by kernel_rfl)
      simp only [Prod.mk.injEq] at h2
      exact ⟨i, h, h2⟩
    have HI := Lib.hid (show Try.prog.info? 3 = some i ∧ i.zero = some (.int .i64 0) ∧ i.size = 1 ∧ i.bytes = 8 from ⟨hi, hz, h1, h8⟩)
    have HM : Hid ((w.alloc (.cells #[] 3)).ownsRow w.heap.size 3 1 (.slice (some ⟨w.heap.size, 0, none⟩) 0 0) 0 []) := Lib.hid (World.ownsRow_made w #[] 0 (Nat.le_refl _) (by simp [maxLen]) rfl)
    have HS : Hid ((xs.map (Value.int .i64)).length = n * 1) := Lib.hid (by rw [List.length_map, HN.out, Nat.mul_one])
    have HNW : Hid (∀ j u, (xs.map (Value.int .i64))[j]? = some u → (w.alloc (.cells #[] 3)).cell? ((⟨g, 0, none⟩ : Addr).add j) = some u) := Lib.hid (fun j u hj => by
      have := HC.out j u hj
      have e2 : (⟨g, 0, none⟩ : Addr).add j = ⟨g, j, none⟩ := by unfold Addr.add; split <;> simp_all
      rw [e2] at this ⊢
      rw [World.cell?_alloc_lt _ _ _ hgl]
      exact this)
    have HO : Hid (∀ u ∈ xs.map (Value.int .i64), u.oneCell' = true) := Lib.hid (fun u hu => by
      obtain ⟨y, _, rfl⟩ := List.mem_map.1 hu
      rfl)
    clear hi hz h1 h8
    go_enter Try.func27, Try.ntmps27
    go_wp2_with (at_builtin; refine wpList_append_own_at _ rfl _ _ 29 rfl w.heap.size 3 i _ 1 8 Try.underlying29 HI.out.1 HI.out.2.1 HI.out.2.2.1 HI.out.2.2.2 rfl (by decide) (.slice (some ⟨w.heap.size, 0, none⟩) 0 0) 0 [] rfl HM.out ⟨g, 0, none⟩ n cap (xs.map (Value.int .i64)) rfl HS.out HNW.out HO.out (by unfold maxLen; omega) (by omega) (by simp) ?_)
    intro v' w' k1 k2 _ _
    have HK : Hid (w'.ownsRow w.heap.size 3 1 v' n (xs.map (Value.int .i64))) := Lib.hid k1
    have HB : Hid (Below w.heap.size w w') := Lib.hid (Below.grown (w := w.alloc _) (by (repeat' (first | (with_reducible exact Below.refl _ _) | (with_reducible assumption) | (with_reducible refine Below.alloc ?_ ?_ _) | (with_reducible refine below_setRow ?_ ?_ _) | (with_reducible refine bl_drew ?_) | (with_reducible refine bl_drewN ?_ _) | (with_reducible refine Below.setCell ?_ ?_ _) | (with_reducible refine bl_then ?_ ?_ hb) | (with_reducible refine bl_then ?_ ?_ hb1) | (with_reducible refine bl_then ?_ ?_ hb2) | (with_reducible refine bl_then ?_ ?_ hb3) | (with_reducible refine bl_then ?_ ?_ hb4) | (with_reducible refine bl_then ?_ ?_ hb5) | (with_reducible refine bl_then ?_ ?_ hb6) | (with_reducible refine bl_then ?_ ?_ hb7) | (with_reducible refine bl_then ?_ ?_ hb8) | (with_reducible exact Nat.le_refl _) | omega | (simp only [World.size_alloc, World.size_setCell, World.size_drew, size_setRow]; omega) | (simp; omega) | (simp; done)))) k2 (by simp) (by simp [Value.ownBlock]))
    obtain ⟨A9, c9, hv9⟩ : ∃ A c, v' = .slice A n c := by
      obtain ⟨_, ⟨h1, h2⟩ | ⟨g, cap, cur, h1, _⟩⟩ := k1
      · exact ⟨none, 0, by rw [h1, h2]⟩
      · exact ⟨_, _, h1⟩
    clear k1 k2
    subst hv9
    go_wp2_with fail
    go_ret
    exact ⟨⟨_, rfl, HK.out⟩, HB.out⟩
theorem clone_i32 (v : Value) (xs : List Int) (base : Nat) (w : World) (h : OwK .i32 21 w base v xs) (hl : xs.length ≤ 1000000) :
    Calls Try.prog 28 #[v] w fun e w' => (∃ v, e = .returned v ∧ w'.ownsRow w.heap.size 21 1 v xs.length (xs.map (Value.int .i32))) ∧ Below w.heap.size w w' := by
  have hc := fun g hg => World.ownsRow.cells h (g := g) hg
  obtain ⟨hx, ⟨h1, h2⟩ | ⟨g, cap, cur, h1, hb, hh, h4, h5, h6, h7⟩⟩ := h
  · have hxn : xs = [] := List.eq_nil_of_length_eq_zero h2
    subst hxn h1
    clear hc
    have g1 : (eqGuard .eql 22 (.tmp 3) (.const (.slice none 0 0)) (.slice none 0 0) (.slice none 0 0)).run Try.prog w = .ok () w := by kernel_rfl
    have g2 : (binOp .eql 22 (.slice none 0 0) (.slice none 0 0)).run Try.prog w = .ok (.bool true) w := by kernel_rfl
    go_enter Try.func28, Try.ntmps28
    go_wp2_with fail
    go_ret
    exact ⟨⟨_, rfl, World.ownsRow_nil _ _ _ _⟩, Below.refl _ _⟩
  · subst h1
    obtain ⟨n, hn⟩ : ∃ n, xs.length = n := ⟨_, rfl⟩
    rw [hn] at hl hc ⊢
    have HC := Lib.hid (hc g rfl)
    have HN := Lib.hid hn
    have hgl := lt_of_heap hh
    clear hx hh h4 h5 h6 h7 hc hn
    have g1 : (eqGuard .eql 22 (.tmp 3) (.const (.slice none 0 0)) (.slice (some ⟨g, 0, none⟩) n cap) (.slice none 0 0)).run Try.prog w = .ok () w := by kernel_rfl
    have g2 : (binOp .eql 22 (.slice (some ⟨g, 0, none⟩) n cap) (.slice none 0 0)).run Try.prog w = .ok (.bool false) w := by kernel_rfl
    obtain ⟨i, hi, hz, h1, h8⟩ : ∃ i, Try.prog.info? 21 = some i ∧ i.zero = some (.int .i32 0) ∧ i.size = 1 ∧ i.bytes = 4 := by
      obtain ⟨i, h, h2⟩ := Option.map_eq_some_iff.1 (show (Try.prog.info? 21).map (fun i => (i.zero, i.size, i.bytes)) = some (some (.int .i32 0), 1, 4) by kernel_rfl)
      simp only [Prod.mk.injEq] at h2
      exact ⟨i, h, h2⟩
    have HI := Lib.hid (show Try.prog.info? 21 = some i ∧ i.zero = some (.int .i32 0) ∧ i.size = 1 ∧ i.bytes = 4 from ⟨hi, hz, h1, h8⟩)
    have HM : Hid ((w.alloc (.cells #[] 21)).ownsRow w.heap.size 21 1 (.slice (some ⟨w.heap.size, 0, none⟩) 0 0) 0 []) := Lib.hid (World.ownsRow_made w #[] 0 (Nat.le_refl _) (by simp [maxLen]) rfl)
    have HS : Hid ((xs.map (Value.int .i32)).length = n * 1) := Lib.hid (by rw [List.length_map, HN.out, Nat.mul_one])
    have HNW : Hid (∀ j u, (xs.map (Value.int .i32))[j]? = some u → (w.alloc (.cells #[] 21)).cell? ((⟨g, 0, none⟩ : Addr).add j) = some u) := Lib.hid (fun j u hj => by
      have := HC.out j u hj
      have e2 : (⟨g, 0, none⟩ : Addr).add j = ⟨g, j, none⟩ := by unfold Addr.add; split <;> simp_all
      rw [e2] at this ⊢
      rw [World.cell?_alloc_lt _ _ _ hgl]
      exact this)
    have HO : Hid (∀ u ∈ xs.map (Value.int .i32), u.oneCell' = true) := Lib.hid (fun u hu => by
      obtain ⟨y, _, rfl⟩ := List.mem_map.1 hu
      rfl)
    clear hi hz h1 h8
    go_enter Try.func28, Try.ntmps28
    go_wp2_with (at_builtin; refine wpList_append_own_at _ rfl _ _ 22 rfl w.heap.size 21 i _ 1 4 Try.underlying22 HI.out.1 HI.out.2.1 HI.out.2.2.1 HI.out.2.2.2 rfl (by decide) (.slice (some ⟨w.heap.size, 0, none⟩) 0 0) 0 [] rfl HM.out ⟨g, 0, none⟩ n cap (xs.map (Value.int .i32)) rfl HS.out HNW.out HO.out (by unfold maxLen; omega) (by omega) (by simp) ?_)
    intro v' w' k1 k2 _ _
    have HK : Hid (w'.ownsRow w.heap.size 21 1 v' n (xs.map (Value.int .i32))) := Lib.hid k1
    have HB : Hid (Below w.heap.size w w') := Lib.hid (Below.grown (w := w.alloc _) (by (repeat' (first | (with_reducible exact Below.refl _ _) | (with_reducible assumption) | (with_reducible refine Below.alloc ?_ ?_ _) | (with_reducible refine below_setRow ?_ ?_ _) | (with_reducible refine bl_drew ?_) | (with_reducible refine bl_drewN ?_ _) | (with_reducible refine Below.setCell ?_ ?_ _) | (with_reducible refine bl_then ?_ ?_ hb) | (with_reducible refine bl_then ?_ ?_ hb1) | (with_reducible refine bl_then ?_ ?_ hb2) | (with_reducible refine bl_then ?_ ?_ hb3) | (with_reducible refine bl_then ?_ ?_ hb4) | (with_reducible refine bl_then ?_ ?_ hb5) | (with_reducible refine bl_then ?_ ?_ hb6) | (with_reducible refine bl_then ?_ ?_ hb7) | (with_reducible refine bl_then ?_ ?_ hb8) | (with_reducible exact Nat.le_refl _) | omega | (simp only [World.size_alloc, World.size_setCell, World.size_drew, size_setRow]; omega) | (simp; omega) | (simp; done)))) k2 (by simp) (by simp [Value.ownBlock]))
    obtain ⟨A9, c9, hv9⟩ : ∃ A c, v' = .slice A n c := by
      obtain ⟨_, ⟨h1, h2⟩ | ⟨g, cap, cur, h1, _⟩⟩ := k1
      · exact ⟨none, 0, by rw [h1, h2]⟩
      · exact ⟨_, _, h1⟩
    clear k1 k2
    subst hv9
    go_wp2_with fail
    go_ret
    exact ⟨⟨_, rfl, HK.out⟩, HB.out⟩
theorem st_u8 (x : Value) (hx : ∃ A n c, x = .slice A n c) (W : World) (a : Addr) (h1 : (W.cell? a).isSome = true) (h2 : W.frozen? a = false) : (Instr.storeAt 28 (.pointer (some a)) x).run Try.prog W = .ok () (W.setCell a x) := by
  obtain ⟨A, n, c, rfl⟩ := hx
  obtain ⟨u, hu⟩ := Option.isSome_iff_exists.1 h1
  go_simp
theorem st_i64 (x : Value) (hx : ∃ A n c, x = .slice A n c) (W : World) (a : Addr) (h1 : (W.cell? a).isSome = true) (h2 : W.frozen? a = false) : (Instr.storeAt 29 (.pointer (some a)) x).run Try.prog W = .ok () (W.setCell a x) := by
  obtain ⟨A, n, c, rfl⟩ := hx
  obtain ⟨u, hu⟩ := Option.isSome_iff_exists.1 h1
  go_simp
theorem st_i32 (x : Value) (hx : ∃ A n c, x = .slice A n c) (W : World) (a : Addr) (h1 : (W.cell? a).isSome = true) (h2 : W.frozen? a = false) : (Instr.storeAt 22 (.pointer (some a)) x).run Try.prog W = .ok () (W.setCell a x) := by
  obtain ⟨A, n, c, rfl⟩ := hx
  obtain ⟨u, hu⟩ := Option.isSome_iff_exists.1 h1
  go_simp
theorem copy_any (P base : Nat) (s : VS) (vm vp vt : Value) (w : World) (h : PW w P base s vm vp vt) (ho : VOk s) :
    Calls Try.prog 14 #[.pointer (some ⟨P, 0, none⟩)] w fun e w' => (∃ Q vm2 vp2 vt2, e = .returned (.pointer (some ⟨Q, 0, none⟩)) ∧ w.heap.size ≤ Q ∧ PW w' Q w.heap.size s vm2 vp2 vt2) ∧ Below w.heap.size w w' := by
  obtain ⟨A1, c1, hvm⟩ := h.m.slice
  obtain ⟨A2, c2, hvp⟩ := h.p.slice
  obtain ⟨A3, c3, hvt⟩ := h.t.slice
  obtain ⟨n1, hn1⟩ : ∃ n, s.mid.length = n := ⟨_, rfl⟩
  obtain ⟨n2, hn2⟩ : ∃ n, s.ps.length = n := ⟨_, rfl⟩
  obtain ⟨n3, hn3⟩ : ∃ n, s.tx.length = n := ⟨_, rfl⟩
  rw [hn1] at hvm
  rw [hn2] at hvp
  rw [hn3] at hvt
  subst hvm hvp hvt
  have H := Lib.hid h
  have HOK := Lib.hid ho
  have HL := Lib.hid (show s.mid.length = n1 ∧ s.ps.length = n2 ∧ s.tx.length = n3 from ⟨hn1, hn2, hn3⟩)
  obtain ⟨st, hst⟩ : ∃ x : Nat, s.st = x := ⟨_, rfl⟩
  obtain ⟨pv, hpv⟩ : ∃ x, s.pv = x := ⟨_, rfl⟩
  obtain ⟨bd, hbd⟩ : ∃ x, s.bad = x := ⟨_, rfl⟩
  obtain ⟨mr, hmr⟩ : ∃ x, s.more = x := ⟨_, rfl⟩
  have HROW : Hid (pcells s (.slice A1 n1 c1) (.slice A2 n2 c2) (.slice A3 n3 c3) = #[.int .u8 st, .int .u8 pv, .slice A1 n1 c1, .slice A2 n2 c2, .slice A3 n3 c3, .bool bd, .bool mr]) := Lib.hid (by unfold pcells; rw [hst, hpv, hbd, hmr])
  have HSS : Hid (s.st = st ∧ s.pv = pv ∧ s.bad = bd ∧ s.more = mr) := Lib.hid ⟨hst, hpv, hbd, hmr⟩
  have HP : Hid (w.heap[P]? = some (.cells #[.int .u8 st, .int .u8 pv, .slice A1 n1 c1, .slice A2 n2 c2, .slice A3 n3 c3, .bool bd, .bool mr] 47 (0, 0))) := Lib.hid (by have := h.hP; rw [HROW.out] at this; exact this)
  have hPl := lt_of_heap h.hP
  obtain ⟨X, hX⟩ : ∃ X, w.heap.size = X := ⟨_, rfl⟩
  obtain ⟨Wa, hWa⟩ : ∃ W, w.alloc (.cells #[.int .u8 0, .int .u8 0, .slice none 0 0, .slice none 0 0, .slice none 0 0, .bool false, .bool false] 47) = W := ⟨_, rfl⟩
  have HXA : Hid (Wa.heap[X]? = some (.cells #[.int .u8 0, .int .u8 0, .slice none 0 0, .slice none 0 0, .slice none 0 0, .bool false, .bool false] 47 (0, 0))) := Lib.hid (by rw [← hWa, ← hX]; exact heap_alloc_last _ _)
  have hza : Wa.heap.size = X + 1 := by rw [← hWa, ← hX]; simp
  have hz : ∀ w, (zeroValue 47).run Try.prog w = .ok (.agg #[.int .u8 0, .int .u8 0, .slice none 0 0, .slice none 0 0, .slice none 0 0, .bool false, .bool false]) w := zero_par
  have HBA : Hid (Below w.heap.size w Wa) := Lib.hid (by rw [← hWa]; exact Below.alloc (Below.refl _ _) (Nat.le_refl _) _)
  have HPX : Hid (P < X ∧ X < X + 1) := Lib.hid ⟨by omega, by omega⟩
  clear h ho hn1 hn2 hn3 hst hpv hbd hmr
  go_enter Try.func14, Try.ntmps14
  go_wp2_with fail
  refine (there_any P base s _ _ _ w H.out HOK.out.st).mono ?_
  rintro e w1 ⟨rfl, hww⟩
  subst w1
  go_wp2_with (first | (with_reducible refine wpList_ldB (row := #[.int .u8 st, .int .u8 pv, .slice A1 n1 c1, .slice A2 n2 c2, .slice A3 n3 c3, .bool bd, .bool mr]) parInfo parRow rfl (.tmp 8) rfl rfl HP.out ?_) | (with_reducible refine wpList_stB (row := #[.int .u8 st, .int .u8 pv, .slice A1 n1 c1, .slice A2 n2 c2, .slice A3 n3 c3, .bool bd, .bool mr]) parInfo (by simp [Value.oneCell']) rfl (.tmp 3) (.tmp 9) rfl rfl rfl HXA.out rfl ?_))
  obtain ⟨W1, hW1⟩ : ∃ W, Wa.setRow X #[.int .u8 st, .int .u8 pv, .slice A1 n1 c1, .slice A2 n2 c2, .slice A3 n3 c3, .bool bd, .bool mr] = W := ⟨_, rfl⟩
  rw [hW1]
  have HX1 : Hid (W1.heap[X]? = some (.cells #[.int .u8 st, .int .u8 pv, .slice A1 n1 c1, .slice A2 n2 c2, .slice A3 n3 c3, .bool bd, .bool mr] 47 (0, 0))) := Lib.hid (by rw [← hW1]; exact setRow_heap _ _ _ _ _ _ HXA.out)
  have HB1 : Hid (Below w.heap.size w W1) := Lib.hid (by rw [← hW1]; exact below_setRow HBA.out (by omega) _)
  have HS1 : Hid (X < W1.heap.size) := Lib.hid (lt_of_heap HX1.out)
  have HPW := Lib.hid (H.out.below HB1.out)
  have D2 : Hid (W1.cell? ⟨P, 2, none⟩ = some (.slice A1 n1 c1)) := Lib.hid (HPW.out.cell rfl)
  have D3 : Hid (W1.cell? ⟨P, 3, none⟩ = some (.slice A2 n2 c2)) := Lib.hid (HPW.out.cell rfl)
  have D4 : Hid (W1.cell? ⟨P, 4, none⟩ = some (.slice A3 n3 c3)) := Lib.hid (HPW.out.cell rfl)
  have HLP : Hid (P < W1.heap.size) := Lib.hid (lt_of_heap HPW.out.hP)
  have hNX : ∀ b, (∃ vv xs k e, OwK k e W1 base vv xs ∧ vv.ownBlock = some b ∧ e ≠ 47) → b ≠ X := by
    rintro b ⟨vv, xs, k, e, ho, hv, hne⟩ rfl
    exact ho.ne hv HX1.out hne
  have HCL1 : Hid (∀ W, (∀ g, g < W1.heap.size → ¬ g = X → W.heap[g]? = W1.heap[g]?) → Calls Try.prog 26 #[.slice A1 n1 c1] W fun e w' => (∃ v, e = .returned v ∧ w'.ownsRow W.heap.size 5 1 v n1 (s.mid.map (Value.int .u8))) ∧ Below W.heap.size W w') := Lib.hid (fun W hk => by
    have := clone_u8 _ s.mid base W (HPW.out.m.keep fun b hb hl => hk b hl (hNX b ⟨_, _, _, _, HPW.out.m, hb, by decide⟩)) (by have := HOK.out.mid.1; omega)
    rw [HL.out.1] at this
    exact this)
  have HCL2 : Hid (∀ W, (∀ g, g < W1.heap.size → ¬ g = X → W.heap[g]? = W1.heap[g]?) → Calls Try.prog 27 #[.slice A2 n2 c2] W fun e w' => (∃ v, e = .returned v ∧ w'.ownsRow W.heap.size 3 1 v n2 (s.ps.map (Value.int .i64))) ∧ Below W.heap.size W w') := Lib.hid (fun W hk => by
    have := clone_i64 _ s.ps base W (HPW.out.p.keep fun b hb hl => hk b hl (hNX b ⟨_, _, _, _, HPW.out.p, hb, by decide⟩)) (by have := HOK.out.ps.1; omega)
    rw [HL.out.2.1] at this
    exact this)
  have HCL3 : Hid (∀ W, (∀ g, g < W1.heap.size → ¬ g = X → W.heap[g]? = W1.heap[g]?) → Calls Try.prog 28 #[.slice A3 n3 c3] W fun e w' => (∃ v, e = .returned v ∧ w'.ownsRow W.heap.size 21 1 v n3 (s.tx.map (Value.int .i32))) ∧ Below W.heap.size W w') := Lib.hid (fun W hk => by
    have := clone_i32 _ s.tx base W (HPW.out.t.keep fun b hb hl => hk b hl (hNX b ⟨_, _, _, _, HPW.out.t, hb, by decide⟩)) (by have := HOK.out.tx.1; omega)
    rw [HL.out.2.2] at this
    exact this)
  clear hNX hW1 hWa hz
  apply wp_region_effT _ _ (Inv.start2 HX1.out rfl (fun g o e => by cases e) : Inv W1 (fun g => g = X) (gh2 (some (X, .cells #[.int .u8 st, .int .u8 pv, .slice A1 n1 c1, .slice A2 n2 c2, .slice A3 n3 c3, .bool bd, .bool mr] 47 (0, 0))) none) W1.drew) (hm := by kernel_rfl)
  case h =>
    (apply SeqF.pure; (focus (first | rfl | (go_simp; done) | (simp [Region.wanted, yielded]; done))); (focus (intro w; go_simp; with_reducible rfl)); go_simp)
    (apply SeqF.pure; (focus (first | rfl | (go_simp; done) | (simp [Region.wanted, yielded]; done))); (focus (intro w; go_simp; with_reducible rfl)); go_simp)
    (apply SeqF.pure; (focus (first | rfl | (go_simp; done) | (simp [Region.wanted, yielded]; done))); (focus (intro w; go_simp; with_reducible rfl)); go_simp)
    (apply SeqF.pure; (focus (first | rfl | (go_simp; done) | (simp [Region.wanted, yielded]; done))); (focus (intro w; go_simp; with_reducible rfl)); go_simp)
    apply SeqF.read (v := .slice A1 n1 c1) []
    · (first | rfl | (go_simp; done) | (simp [Region.wanted, yielded]; done))
    · intro γ' W hg hI
      have x0 : W.cell? ⟨P, 2, none⟩ = some (.slice A1 n1 c1) := (cell_same (hI.far P HLP.out (by have := HPX.out; show ¬ P = X; omega))).trans D2.out
      go_simp
    go_simp
    apply SeqF.callNew [] 1 5 1 n1 (s.mid.map (Value.int .u8)) 26 #[.slice A1 n1 c1]
    · (first | rfl | (go_simp; done) | (simp [Region.wanted, yielded]; done))
    · intro w; kernel_rfl
    · intro γ' W hg hI
      exact HCL1.out W (fun g hg hn => hI.far g hg hn)
    intro v1 x1 hv1 hn1
    have HV1 := Lib.hid hv1
    have HN1 := Lib.hid hn1
    obtain rfl := hv1.val (by decide)
    clear hv1 hn1
    go_simp
    (apply SeqF.pure; (focus (first | rfl | (go_simp; done) | (simp [Region.wanted, yielded]; done))); (focus (intro w; go_simp; with_reducible rfl)); go_simp)
    (apply SeqF.pure; (focus (first | rfl | (go_simp; done) | (simp [Region.wanted, yielded]; done))); (focus (intro w; go_simp; with_reducible rfl)); go_simp)
    (apply SeqF.pure; (focus (first | rfl | (go_simp; done) | (simp [Region.wanted, yielded]; done))); (focus (intro w; go_simp; with_reducible rfl)); go_simp)
    (apply SeqF.pure; (focus (first | rfl | (go_simp; done) | (simp [Region.wanted, yielded]; done))); (focus (intro w; go_simp; with_reducible rfl)); go_simp)
    apply SeqF.read (v := .slice A2 n2 c2) []
    · (first | rfl | (go_simp; done) | (simp [Region.wanted, yielded]; done))
    · intro γ' W hg hI
      have x0 : W.cell? ⟨P, 3, none⟩ = some (.slice A2 n2 c2) := (cell_same (hI.far P HLP.out (by have := HPX.out; show ¬ P = X; omega))).trans D3.out
      go_simp
    go_simp
    apply SeqF.callNew [] 2 3 1 n2 (s.ps.map (Value.int .i64)) 27 #[.slice A2 n2 c2]
    · (first | rfl | (go_simp; done) | (simp [Region.wanted, yielded]; done))
    · intro w; kernel_rfl
    · intro γ' W hg hI
      exact HCL2.out W (fun g hg hn => hI.far g hg hn)
    intro v2 x2 hv2 hn2
    have HV2 := Lib.hid hv2
    have HN2 := Lib.hid hn2
    obtain rfl := hv2.val (by decide)
    clear hv2 hn2
    go_simp
    (apply SeqF.pure; (focus (first | rfl | (go_simp; done) | (simp [Region.wanted, yielded]; done))); (focus (intro w; go_simp; with_reducible rfl)); go_simp)
    (apply SeqF.pure; (focus (first | rfl | (go_simp; done) | (simp [Region.wanted, yielded]; done))); (focus (intro w; go_simp; with_reducible rfl)); go_simp)
    (apply SeqF.pure; (focus (first | rfl | (go_simp; done) | (simp [Region.wanted, yielded]; done))); (focus (intro w; go_simp; with_reducible rfl)); go_simp)
    (apply SeqF.pure; (focus (first | rfl | (go_simp; done) | (simp [Region.wanted, yielded]; done))); (focus (intro w; go_simp; with_reducible rfl)); go_simp)
    apply SeqF.read (v := .slice A3 n3 c3) []
    · (first | rfl | (go_simp; done) | (simp [Region.wanted, yielded]; done))
    · intro γ' W hg hI
      have x0 : W.cell? ⟨P, 4, none⟩ = some (.slice A3 n3 c3) := (cell_same (hI.far P HLP.out (by have := HPX.out; show ¬ P = X; omega))).trans D4.out
      go_simp
    go_simp
    apply SeqF.callNew [] 3 21 1 n3 (s.tx.map (Value.int .i32)) 28 #[.slice A3 n3 c3]
    · (first | rfl | (go_simp; done) | (simp [Region.wanted, yielded]; done))
    · intro w; kernel_rfl
    · intro γ' W hg hI
      exact HCL3.out W (fun g hg hn => hI.far g hg hn)
    intro v3 x3 hv3 hn3
    have HV3 := Lib.hid hv3
    have HN3 := Lib.hid hn3
    obtain rfl := hv3.val (by decide)
    clear hv3 hn3
    go_simp
    (apply SeqF.pure; (focus (first | rfl | (go_simp; done) | (simp [Region.wanted, yielded]; done))); (focus (intro w; go_simp; with_reducible rfl)); go_simp)
    (apply SeqF.pure; (focus (first | rfl | (go_simp; done) | (simp [Region.wanted, yielded]; done))); (focus (intro w; go_simp; with_reducible rfl)); go_simp)
    apply SeqF.store [0, 1] 0 X (.cells #[.int .u8 st, .int .u8 pv, .slice A1 n1 c1, .slice A2 n2 c2, .slice A3 n3 c3, .bool bd, .bool mr] 47 (0, 0)) (by simp [Gh.set, gh2]) (by simp) (fun γ => (.cells #[.int .u8 st, .int .u8 pv, rowVal 1 n1 (γ 1), .slice A2 n2 c2, .slice A3 n3 c3, .bool bd, .bool mr] 47 (0, 0)))
    · intro γ' hg; simp only [hg 1 (by simp)]
    · (first | rfl | (go_simp; done) | (simp [Region.wanted, yielded]; done))
    · intro γ' W hg hI hW
      simp only [Gh.set, gh2]
      exact exec_st1 (i := 2) (st_u8 _ (by obtain ⟨A9, c9, e9⟩ := HV1.out.form; exact ⟨_, _, _, e9⟩)) rfl rfl rfl (by simp) rfl hW
    go_simp
    (apply SeqF.pure; (focus (first | rfl | (go_simp; done) | (simp [Region.wanted, yielded]; done))); (focus (intro w; go_simp; with_reducible rfl)); go_simp)
    (apply SeqF.pure; (focus (first | rfl | (go_simp; done) | (simp [Region.wanted, yielded]; done))); (focus (intro w; go_simp; with_reducible rfl)); go_simp)
    apply SeqF.store [0, 1, 2] 0 X (.cells #[.int .u8 st, .int .u8 pv, rowVal 1 n1 x1, .slice A2 n2 c2, .slice A3 n3 c3, .bool bd, .bool mr] 47 (0, 0)) (by simp [Gh.set, gh2]) (by simp) (fun γ => (.cells #[.int .u8 st, .int .u8 pv, rowVal 1 n1 (γ 1), rowVal 1 n2 (γ 2), .slice A3 n3 c3, .bool bd, .bool mr] 47 (0, 0)))
    · intro γ' hg; simp only [hg 1 (by simp), hg 2 (by simp)]
    · (first | rfl | (go_simp; done) | (simp [Region.wanted, yielded]; done))
    · intro γ' W hg hI hW
      simp only [Gh.set, gh2]
      exact exec_st1 (i := 3) (st_i64 _ (by obtain ⟨A9, c9, e9⟩ := HV2.out.form; exact ⟨_, _, _, e9⟩)) rfl rfl rfl (by simp) rfl hW
    go_simp
    (apply SeqF.pure; (focus (first | rfl | (go_simp; done) | (simp [Region.wanted, yielded]; done))); (focus (intro w; go_simp; with_reducible rfl)); go_simp)
    (apply SeqF.pure; (focus (first | rfl | (go_simp; done) | (simp [Region.wanted, yielded]; done))); (focus (intro w; go_simp; with_reducible rfl)); go_simp)
    apply SeqF.store [0, 1, 2, 3] 0 X (.cells #[.int .u8 st, .int .u8 pv, rowVal 1 n1 x1, rowVal 1 n2 x2, .slice A3 n3 c3, .bool bd, .bool mr] 47 (0, 0)) (by simp [Gh.set, gh2]) (by simp) (fun γ => (.cells #[.int .u8 st, .int .u8 pv, rowVal 1 n1 (γ 1), rowVal 1 n2 (γ 2), rowVal 1 n3 (γ 3), .bool bd, .bool mr] 47 (0, 0)))
    · intro γ' hg; simp only [hg 1 (by simp), hg 2 (by simp), hg 3 (by simp)]
    · (first | rfl | (go_simp; done) | (simp [Region.wanted, yielded]; done))
    · intro γ' W hg hI hW
      simp only [Gh.set, gh2]
      exact exec_st1 (i := 4) (st_i32 _ (by obtain ⟨A9, c9, e9⟩ := HV3.out.form; exact ⟨_, _, _, e9⟩)) rfl rfl rfl (by simp) rfl hW
    go_simp
    apply SeqF.done
    intro w9 hI9
    have hX9 : w9.heap[X]? = some (.cells #[.int .u8 st, .int .u8 pv, rowVal 1 n1 x1, rowVal 1 n2 x2, rowVal 1 n3 x3, .bool bd, .bool mr] 47 (0, 0)) := (hI9.here 0 X _ (by simp [Gh.set, gh2])).1
    have hr1 : ∀ g o, x1 = some (g, o) → w.heap.size ≤ g ∧ w9.heap[g]? = some o := fun g o e => ⟨Nat.le_trans HB1.out.size (HN1.out g o e), (hI9.here 1 g o (by simp [Gh.set, gh2]; exact e)).1⟩
    have hr2 : ∀ g o, x2 = some (g, o) → w.heap.size ≤ g ∧ w9.heap[g]? = some o := fun g o e => ⟨Nat.le_trans HB1.out.size (HN2.out g o e), (hI9.here 2 g o (by simp [Gh.set, gh2]; exact e)).1⟩
    have hr3 : ∀ g o, x3 = some (g, o) → w.heap.size ≤ g ∧ w9.heap[g]? = some o := fun g o e => ⟨Nat.le_trans HB1.out.size (HN3.out g o e), (hI9.here 3 g o (by simp [Gh.set, gh2]; exact e)).1⟩
    have hbel : Below w.heap.size w w9 := hI9.belowS HB1.out HB1.out.size (fun g hg => by have e : g = X := hg; omega)
    have HF : Hid (PW w9 X w.heap.size s (rowVal 1 n1 x1) (rowVal 1 n2 x2) (rowVal 1 n3 x3)) := Lib.hid ⟨by
        rw [hX9]
        unfold pcells
        rw [HSS.out.1, HSS.out.2.1, HSS.out.2.2.1, HSS.out.2.2.2], by
        unfold OwK; rw [HL.out.1]; exact HV1.out.owns hr1, by
        unfold OwK; rw [HL.out.2.1]; exact HV2.out.owns hr2, by
        unfold OwK; rw [HL.out.2.2]; exact HV3.out.owns hr3⟩
    have HBE := Lib.hid hbel
    clear hX9 hr1 hr2 hr3 hbel hI9
    go_simp
    go_wp2_with fail
    go_ret
    exact ⟨⟨X, _, _, _, rfl, by omega, by first | exact HF.out | (rw [← hX]; exact HF.out)⟩, by first | exact HBE.out | (rw [← hX]; exact HBE.out)⟩
  case hl => rfl
  case ho => kernel_rfl
end Go.Proofs.Ytecgipccippddaa
