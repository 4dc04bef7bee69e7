/- What is proved: what need, and what the reader's three functions, answer when they are called, or how they panic; conditions: those typed. -/
import Derived.Test.YtgkiedbefogklaaWireD
import Derived.Test.YtgkiedbefogklaaBlk
import Derived.Defers
import Derived.Recover
set_option linter.unusedSimpArgs false
set_option linter.unusedVariables false
namespace Go.Proofs.Ytgkiedbefogklaa
open Go.RowKit
set_option maxRecDepth 100000
set_option maxHeartbeats 8000000
theorem clone_bytes (u : Value) (xs : List Int) (w : World) (h : BB w u xs) :
    Calls Try.prog 55 #[u] w fun e w' => (∃ v, e = .returned v ∧ OwB w' w.heap.size v xs) ∧ Below w.heap.size w w' := by
  have H := Lib.hid h
  obtain ⟨h1, h2, A, cap, rfl, hr, h3, h4, h5⟩ := h
  rcases A with _ | ad
  · obtain rfl := h3 rfl
    have hx : xs = [] := List.eq_nil_of_length_eq_zero (by omega)
    subst hx
    have g1 : (eqGuard .eql 24 (.tmp 3) (.const (.slice none 0 0)) (.slice none 0 0) (.slice none 0 0)).run Try.prog w = .ok () w := by kernel_rfl
    have g2 : (binOp .eql 24 (.slice none 0 0) (.slice none 0 0)).run Try.prog w = .ok (.bool true) w := by kernel_rfl
    go_enter Try.func55, Try.ntmps55
    go_wp2_with fail
    go_ret
    exact ⟨⟨_, rfl, OwB.nil _ _⟩, Below.refl _ _⟩
  · clear hr h3
    have g1 : (eqGuard .eql 24 (.tmp 3) (.const (.slice none 0 0)) (.slice (some ad) xs.length cap) (.slice none 0 0)).run Try.prog w = .ok () w := by kernel_rfl
    have g2 : (binOp .eql 24 (.slice (some ad) xs.length cap) (.slice none 0 0)).run Try.prog w = .ok (.bool false) w := by kernel_rfl
    go_enter Try.func55, Try.ntmps55
    go_wp2_with (at_builtin; refine wpList_appB (base := w.heap.size) rfl _ _ rfl (.slice (some ⟨w.heap.size, 0, none⟩) 0 0) (.slice (some ad) xs.length cap) [] xs rfl ?_ rfl ?_ ?_ ?_ ?_)
    · exact OwB.made w
    · exact H.out.below (by (repeat' (first | (with_reducible exact Below.refl _ _) | (with_reducible assumption) | (with_reducible refine Below.alloc ?_ ?_ _) | (with_reducible refine below_setRow ?_ ?_ _) | (with_reducible refine bl_drew ?_) | (with_reducible refine bl_drewN ?_ _) | (with_reducible refine Below.setCell ?_ ?_ _) | (with_reducible refine bl_then ?_ ?_ hb) | (with_reducible refine bl_then ?_ ?_ hb1) | (with_reducible refine bl_then ?_ ?_ hb2) | (with_reducible refine bl_then ?_ ?_ hb3) | (with_reducible refine bl_then ?_ ?_ hb4) | (with_reducible refine bl_then ?_ ?_ hb5) | (with_reducible refine bl_then ?_ ?_ hb6) | (with_reducible refine bl_then ?_ ?_ hb7) | (with_reducible refine bl_then ?_ ?_ hb8) | (with_reducible exact Nat.le_refl _) | omega | (simp only [World.size_alloc, World.size_setCell, World.size_drew, size_setRow]; omega) | (simp; omega) | (simp; done))))
    · simpa using H.out.len
    · simp
    · intro v' w' h1 h2 _
      go_wp2
      go_ret
      exact ⟨⟨_, rfl, by simpa using h1⟩, Below.grown (w := w.alloc _) (by (repeat' (first | (with_reducible exact Below.refl _ _) | (with_reducible assumption) | (with_reducible refine Below.alloc ?_ ?_ _) | (with_reducible refine below_setRow ?_ ?_ _) | (with_reducible refine bl_drew ?_) | (with_reducible refine bl_drewN ?_ _) | (with_reducible refine Below.setCell ?_ ?_ _) | (with_reducible refine bl_then ?_ ?_ hb) | (with_reducible refine bl_then ?_ ?_ hb1) | (with_reducible refine bl_then ?_ ?_ hb2) | (with_reducible refine bl_then ?_ ?_ hb3) | (with_reducible refine bl_then ?_ ?_ hb4) | (with_reducible refine bl_then ?_ ?_ hb5) | (with_reducible refine bl_then ?_ ?_ hb6) | (with_reducible refine bl_then ?_ ?_ hb7) | (with_reducible refine bl_then ?_ ?_ hb8) | (with_reducible exact Nat.le_refl _) | omega | (simp only [World.size_alloc, World.size_setCell, World.size_drew, size_setRow]; omega) | (simp; omega) | (simp; done)))) h2 (by simp) (by simp [Value.ownBlock])⟩
/-- How bytes are given up with an error. -/
def panE (e : Nat) : List PanicEntry := [{ v := .iface 77 (.agg #[.int .i64 e]), recovered := false }]
theorem need_ok (e : Nat) (w : World) : Calls Try.prog 40 #[.bool true, .int .i64 e] w fun r w' => r = .returned (.tuple #[]) ∧ w' = w := by
  go_enter Try.func40, Try.ntmps40
  go_wp2_with fail
  exact bodyPost_end (v := .tuple #[]) (results_none rfl _ _ _) rfl ⟨rfl, rfl⟩
theorem need_no (e : Nat) (w : World) : Calls Try.prog 40 #[.bool false, .int .i64 e] w fun r w' => r = .panicked (panE e) ∧ w' = w := by
  have hz : ∀ w, (zeroValue 77).run Try.prog w = .ok (.agg #[.int .i64 0]) w := fun w => by kernel_rfl
  go_enter Try.func40, Try.ntmps40
  go_wp2_with fail
  exact ⟨rfl, rfl, rfl⟩
/-- The bytes that are left, in a variable. -/
def Rd (w : World) (Bv : Nat) (bs : List Int) : Prop := ∃ v, w.heap[Bv]? = some (.cells #[v] 24 (0, 0)) ∧ BB w v bs ∧ (0 < bs.length → ∀ b, v.ownBlock = some b → b < Bv)
theorem Rd.keep {w w' : World} {Bv : Nat} {bs : List Int} (h : Rd w Bv bs) {row : Option Nat} (hg : w.grownBy w' row) (h1 : row ≠ some Bv) (h2 : ∀ v, w.heap[Bv]? = some (.cells #[v] 24 (0, 0)) → v.ownBlock = none ∨ v.ownBlock ≠ row) : Rd w' Bv bs := by
  obtain ⟨v, h3, h4, h5⟩ := h
  refine ⟨v, (hg.block Bv (lt_of_heap h3) (fun e => h1 e.symm)).trans h3, h4.keep fun b hn hb hl => hg.block b hl (fun e => ?_), h5⟩
  rcases h2 v h3 with h | h
  · rw [h] at hb; cases hb
  · exact h (by rw [hb, e])
theorem Rd.below {w w' : World} {Bv : Nat} {bs : List Int} (h : Rd w Bv bs) (hb : Below w.heap.size w w') : Rd w' Bv bs := by
  obtain ⟨v, h3, h4, h5⟩ := h
  exact ⟨v, (hb.block Bv (lt_of_heap h3)).trans h3, h4.below hb, h5⟩
theorem grown_set {w : World} {Bv : Nat} {v : Value} : w.grownBy (w.setCell ⟨Bv, 0, none⟩ v) (some Bv) :=
  ⟨rfl, rfl, rfl, by simp, fun k _ hk => heap_setCell_other _ ⟨_, _, _⟩ _ _ (by intro e; subst e; exact hk rfl)⟩
/-- The variable is given what stands behind. -/
theorem Rd.cutAt {w : World} {Bv : Nat} {A : Option Addr} {n cap sz : Nat} {bs : List Int} (hB : w.heap[Bv]? = some (.cells #[.slice A n cap] 24 (0, 0))) (h : BB w (.slice A n cap) bs) (hne : 0 < bs.length → ∀ b, (Value.slice A n cap).ownBlock = some b → b < Bv) (hs : sz ≤ bs.length) :
    Rd (w.setCell ⟨Bv, 0, none⟩ (.slice (restA A cap sz) (n - sz) (cap - sz))) Bv (bs.drop sz) := by
  have hb := restB h hs
  have hne2 : 0 < (bs.drop sz).length → ∀ b, (Value.slice (restA A cap sz) (n - sz) (cap - sz)).ownBlock = some b → b < Bv := by
    intro hd b hb2
    have hne := hne (by rw [List.length_drop] at hd; omega)
    unfold restA at hb2
    cases A with
    | none => split at hb2 <;> cases hb2
    | some a =>
      split at hb2
      · exact hne b hb2
      · refine hne b ?_
        have : (a.add sz).block = a.block := by unfold Addr.add; split <;> rfl
        simpa [Value.ownBlock, this] using hb2
  exact ⟨_, heap_setCell_same _ _ _ _ _ _ hB, hb.keep fun b hn hv _ => heap_setCell_other _ ⟨_, _, _⟩ _ _ (by intro e; subst e; exact absurd (hne2 hn _ hv) (Nat.lt_irrefl _)), hne2⟩
/-- What the reader's first function does. -/
def NumPost (w : World) (Bv : Nat) (bs : List Int) (e : Ending) (w' : World) : Prop :=
  ((readS bs).2.2 = 0 ∧ e = .returned (.int .u64 (readS bs).1) ∧ Rd w' Bv (bs.drop (readS bs).2.1) ∧ w.grownBy w' (some Bv)) ∨ ((readS bs).2.2 ≠ 0 ∧ e = .panicked (panE (readS bs).2.2) ∧ w' = w)
theorem number_any (Bv : Nat) (bs : List Int) (w : World) (h : Rd w Bv bs) : Calls Try.prog 52 #[.pointer (some ⟨Bv, 0, none⟩)] w (NumPost w Bv bs) := by
  obtain ⟨v, hB, hv, hne⟩ := h
  have hg := readS_good hv.ok
  have HR := Lib.hid (readuint_any v bs w hv)
  have hv0 := hv
  obtain ⟨hx, hl, A, cap, hve, hr, hnc, hlc, hcm⟩ := hv
  obtain ⟨n, hn⟩ : ∃ n, bs.length = n := ⟨_, rfl⟩
  rw [hn] at hve hl hlc hg
  subst hve
  obtain ⟨⟨nv, sz, er⟩, hR⟩ : ∃ r, readS bs = r := ⟨_, rfl⟩
  rw [hR] at hg HR
  dsimp only at hg HR
  have HRS := Lib.hid hR
  have HBB := Lib.hid hv0
  have HBL := Lib.hid hB
  have HN := Lib.hid hn
  have HNE := Lib.hid hne
  have c0 : w.cell? ⟨Bv, 0, none⟩ = some (.slice A n cap) := (cell_of_row _ _ _ _ _ _ hB).trans rfl
  have hf0 : w.frozen? ⟨Bv, 0, none⟩ = false := frozen_of_row w Bv 0 _ _ hB
  have hBl := lt_of_heap hB
  clear hv0 hB hR hn hr hx hne
  by_cases he : er = 0
  · subst he
    obtain ⟨g1, g2, g3, _⟩ := hg rfl
    clear hg
    have HNO := Lib.hid (need_ok 0 w)
    have HF : Hid (NumPost w Bv bs (.returned (.int .u64 nv)) (w.setCell ⟨Bv, 0, none⟩ (.slice (restA A cap sz) (n - sz) (cap - sz)))) := Lib.hid (.inl (by
      rw [HRS.out]
      exact ⟨rfl, rfl, Rd.cutAt HBL.out HBB.out HNE.out (by rw [HN.out]; exact g2), grown_set⟩))
    by_cases hcs : cap = sz
    · subst hcs
      have HF2 : Hid (NumPost w Bv bs (.returned (.int .u64 nv)) (w.setCell ⟨Bv, 0, none⟩ (.slice A 0 0))) := Lib.hid (by have := HF.out; unfold restA at this; rw [if_pos rfl, Nat.sub_self, show n - cap = 0 by omega] at this; exact this)
      clear HF
      go_enter Try.func52, Try.ntmps52
      go_wp2_with fail
      refine HR.out.mono ?_
      rintro e w1 ⟨rfl, hw1⟩
      subst w1
      go_wp2_with fail
      refine HNO.out.mono ?_
      rintro e w1 ⟨rfl, hw1⟩
      subst w1
      go_wp2_with fail
      go_ret
      exact HF2.out
    · have HF2 : Hid (NumPost w Bv bs (.returned (.int .u64 nv)) (w.setCell ⟨Bv, 0, none⟩ (.slice (A.map (·.add sz)) (n - sz) (cap - sz)))) := Lib.hid (by have := HF.out; unfold restA at this; rw [if_neg hcs] at this; exact this)
      clear HF
      go_enter Try.func52, Try.ntmps52
      go_wp2_with fail
      refine HR.out.mono ?_
      rintro e w1 ⟨rfl, hw1⟩
      subst w1
      go_wp2_with fail
      refine HNO.out.mono ?_
      rintro e w1 ⟨rfl, hw1⟩
      subst w1
      go_wp2_with fail
      go_ret
      exact HF2.out
  · have hei : ((er : Int) == 0) = false := by simpa using he
    have HNO := Lib.hid (need_no er w)
    clear hg
    go_enter Try.func52, Try.ntmps52
    go_wp2_with fail
    refine HR.out.mono ?_
    rintro e w1 ⟨rfl, hw1⟩
    subst w1
    go_wp2_with fail
    refine HNO.out.mono ?_
    rintro e w1 ⟨rfl, hw1⟩
    subst w1
    go_wp2_with fail
    exact ⟨rfl, .inr (by rw [HRS.out]; exact ⟨he, rfl, rfl⟩)⟩
/-- What the reader's second function does. -/
def BytesPost (w : World) (Bv k : Nat) (bs : List Int) (e : Ending) (w' : World) : Prop :=
  (k ≤ bs.length ∧ ∃ u, e = .returned u ∧ OwB w' w.heap.size u (bs.take k) ∧ Rd w' Bv (bs.drop k) ∧ w.grownBy w' (some Bv)) ∨ (bs.length < k ∧ e = .panicked (panE 7) ∧ w' = w)
theorem bytes_any (Bv k : Nat) (bs : List Int) (w : World) (h : Rd w Bv bs) (hk : k < 18446744073709551616) : Calls Try.prog 54 #[.int .u64 k, .pointer (some ⟨Bv, 0, none⟩)] w (BytesPost w Bv k bs) := by
  obtain ⟨v, hB, hv, hne⟩ := h
  have hv0 := hv
  obtain ⟨hx, hl, A, cap, hve, hr, hnc, hlc, hcm⟩ := hv
  obtain ⟨n, hn⟩ : ∃ n, bs.length = n := ⟨_, rfl⟩
  rw [hn] at hve hl hlc hr
  subst hve
  have HBB := Lib.hid hv0
  have HBL := Lib.hid hB
  have HN := Lib.hid hn
  have HNE := Lib.hid hne
  have c0 : w.cell? ⟨Bv, 0, none⟩ = some (.slice A n cap) := (cell_of_row _ _ _ _ _ _ hB).trans rfl
  have hf0 : w.frozen? ⟨Bv, 0, none⟩ = false := frozen_of_row w Bv 0 _ _ hB
  have hBl := lt_of_heap hB
  have hwn : IntKind.u64.wrap (n : Int) = (n : Int) := by rw [IntKind.wrap_u64]; omega
  by_cases hkn : k ≤ n
  · have hki : (k : Int) ≤ (n : Int) := by omega
    have hkc : k ≤ cap := by omega
    have HSUB : Hid (BB w (.slice A k cap) (bs.take k)) := Lib.hid ⟨hx.take k, by rw [List.length_take]; omega, A, cap, by rw [List.length_take, hn, Nat.min_eq_left hkn], by rw [List.length_take, hn, Nat.min_eq_left hkn]; exact hr.take hkn, hnc, by rw [List.length_take]; omega, hcm⟩
    have HCL := Lib.hid (clone_bytes (.slice A k cap) (bs.take k) w HSUB.out)
    have HNO := Lib.hid (need_ok 7 w)
    have HREST : Hid (∀ w1, Below w.heap.size w w1 → Rd (w1.setCell ⟨Bv, 0, none⟩ (.slice (restA A cap k) (n - k) (cap - k))) Bv (bs.drop k) ∧ w.grownBy (w1.setCell ⟨Bv, 0, none⟩ (.slice (restA A cap k) (n - k) (cap - k))) (some Bv)) := Lib.hid (fun w1 hb => ⟨Rd.cutAt ((hb.block Bv hBl).trans HBL.out) (HBB.out.below hb) HNE.out (by rw [HN.out]; exact hkn), ⟨hb.os, hb.tape, hb.output, by simpa using hb.size, fun q hq hne => (heap_setCell_other _ ⟨_, _, _⟩ _ _ (by intro e; subst e; exact hne rfl)).trans (hb.block q hq)⟩⟩)
    clear hv0 hB hn hr hx hne
    by_cases hcs : cap = k
    · subst hcs
      have HREST2 : Hid (∀ w1, Below w.heap.size w w1 → Rd (w1.setCell ⟨Bv, 0, none⟩ (.slice A 0 0)) Bv (bs.drop cap) ∧ w.grownBy (w1.setCell ⟨Bv, 0, none⟩ (.slice A 0 0)) (some Bv)) := Lib.hid (by have := HREST.out; unfold restA at this; simp only [if_true, Nat.sub_self, show n - cap = 0 by omega] at this; exact this)
      clear HREST
      go_enter Try.func54, Try.ntmps54
      go_wp2_with fail
      refine HNO.out.mono ?_
      rintro e w1 ⟨rfl, hw1⟩
      subst w1
      go_wp2_with fail
      refine HCL.out.mono ?_
      rintro e w1 ⟨⟨u, rfl, ho⟩, hb⟩
      have HO := Lib.hid ho
      have HB1 := Lib.hid hb
      have c1 : w1.cell? ⟨Bv, 0, none⟩ = some (.slice A n cap) := (cell_same (hb.block Bv hBl)).trans c0
      have hf1 : w1.frozen? ⟨Bv, 0, none⟩ = false := frozen_of_row w1 Bv 0 _ _ ((hb.block Bv hBl).trans HBL.out)
      have hBl1 : Bv < w1.heap.size := by have := hb.size; omega
      obtain ⟨A9, c9, hu⟩ : ∃ A c, u = .slice A (bs.take cap).length c := by
        obtain ⟨_, ⟨h1, h2⟩ | ⟨g, cap, cur, h1, _⟩⟩ := ho
        · exact ⟨none, 0, by rw [h1, h2]⟩
        · exact ⟨_, _, h1⟩
      obtain ⟨n9, hn9⟩ : ∃ n, (bs.take cap).length = n := ⟨_, rfl⟩
      rw [hn9] at hu
      subst hu
      clear ho hb hn9
      go_wp2_with fail
      go_ret
      refine .inl ⟨by rw [HN.out]; exact hkn, _, rfl, HO.out.keep fun q hq hl => heap_setCell_other _ ⟨_, _, _⟩ _ _ (fun e => ?_), HREST2.out w1 HB1.out⟩
      have e : q = Bv := by simpa using e
      have := (World.ownsRow.lt HO.out q hq).1
      omega
    · have HREST2 : Hid (∀ w1, Below w.heap.size w w1 → Rd (w1.setCell ⟨Bv, 0, none⟩ (.slice (A.map (·.add k)) (n - k) (cap - k))) Bv (bs.drop k) ∧ w.grownBy (w1.setCell ⟨Bv, 0, none⟩ (.slice (A.map (·.add k)) (n - k) (cap - k))) (some Bv)) := Lib.hid (by have := HREST.out; unfold restA at this; simp only [if_neg hcs] at this; exact this)
      clear HREST
      go_enter Try.func54, Try.ntmps54
      go_wp2_with fail
      refine HNO.out.mono ?_
      rintro e w1 ⟨rfl, hw1⟩
      subst w1
      go_wp2_with fail
      refine HCL.out.mono ?_
      rintro e w1 ⟨⟨u, rfl, ho⟩, hb⟩
      have HO := Lib.hid ho
      have HB1 := Lib.hid hb
      have c1 : w1.cell? ⟨Bv, 0, none⟩ = some (.slice A n cap) := (cell_same (hb.block Bv hBl)).trans c0
      have hf1 : w1.frozen? ⟨Bv, 0, none⟩ = false := frozen_of_row w1 Bv 0 _ _ ((hb.block Bv hBl).trans HBL.out)
      have hBl1 : Bv < w1.heap.size := by have := hb.size; omega
      obtain ⟨A9, c9, hu⟩ : ∃ A c, u = .slice A (bs.take k).length c := by
        obtain ⟨_, ⟨h1, h2⟩ | ⟨g, cap, cur, h1, _⟩⟩ := ho
        · exact ⟨none, 0, by rw [h1, h2]⟩
        · exact ⟨_, _, h1⟩
      obtain ⟨n9, hn9⟩ : ∃ n, (bs.take k).length = n := ⟨_, rfl⟩
      rw [hn9] at hu
      subst hu
      clear ho hb hn9
      go_wp2_with fail
      go_ret
      refine .inl ⟨by rw [HN.out]; exact hkn, _, rfl, HO.out.keep fun q hq hl => heap_setCell_other _ ⟨_, _, _⟩ _ _ (fun e => ?_), HREST2.out w1 HB1.out⟩
      have e : q = Bv := by simpa using e
      have := (World.ownsRow.lt HO.out q hq).1
      omega
  · have hki : ¬ (k : Int) ≤ (n : Int) := by omega
    have HNO := Lib.hid (need_no 7 w)
    clear hv0 hB hn hr hx hne
    go_enter Try.func54, Try.ntmps54
    go_wp2_with fail
    refine HNO.out.mono ?_
    rintro e w1 ⟨rfl, hw1⟩
    subst w1
    go_wp2_with fail
    exact ⟨rfl, .inr ⟨by rw [HN.out]; omega, rfl, rfl⟩⟩
/-- What the reader's third function does. -/
def EndPost (w : World) (bs : List Int) (e : Ending) (w' : World) : Prop := (bs = [] ∧ e = .returned (.tuple #[]) ∧ w' = w) ∨ (bs ≠ [] ∧ e = .panicked (panE 8) ∧ w' = w)
theorem end_any (Bv : Nat) (bs : List Int) (w : World) (h : Rd w Bv bs) : Calls Try.prog 56 #[.pointer (some ⟨Bv, 0, none⟩)] w (EndPost w bs) := by
  obtain ⟨v, hB, ⟨hx, hl, A, cap, hve, hr, hnc, hlc, hcm⟩, hne⟩ := h
  obtain ⟨n, hn⟩ : ∃ n, bs.length = n := ⟨_, rfl⟩
  rw [hn] at hve hl hlc
  subst hve
  have HN := Lib.hid hn
  have c0 : w.cell? ⟨Bv, 0, none⟩ = some (.slice A n cap) := (cell_of_row _ _ _ _ _ _ hB).trans rfl
  have hBl := lt_of_heap hB
  clear hB hn hr hx hne
  by_cases h0 : n = 0
  · subst h0
    have HNO := Lib.hid (need_ok 8 w)
    go_enter Try.func56, Try.ntmps56
    go_wp2_with fail
    refine HNO.out.mono ?_
    rintro e w1 ⟨rfl, hw1⟩
    subst w1
    go_wp2_with fail
    exact bodyPost_end (v := .tuple #[]) (results_none rfl _ _ _) rfl (.inl ⟨List.eq_nil_of_length_eq_zero HN.out, rfl, rfl⟩)
  · have h0i : ((n : Int) == 0) = false := by simpa using h0
    have HNO := Lib.hid (need_no 8 w)
    go_enter Try.func56, Try.ntmps56
    go_wp2_with fail
    refine HNO.out.mono ?_
    rintro e w1 ⟨rfl, hw1⟩
    subst w1
    go_wp2_with fail
    exact ⟨rfl, .inr ⟨fun e => h0 (by rw [← HN.out, e]; rfl), rfl, rfl⟩⟩
end Go.Proofs.Ytgkiedbefogklaa
