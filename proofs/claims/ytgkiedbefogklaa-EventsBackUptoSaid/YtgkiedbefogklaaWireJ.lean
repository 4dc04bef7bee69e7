/- What is proved: what the reference's reader answers: its next number, its next bytes, its end; conditions: those typed. -/
import Derived.Test.YtgkiedbefogklaaWireI
set_option linter.unusedSimpArgs false
set_option linter.unusedVariables false
namespace Go.Proofs.Ytgkiedbefogklaa
open Go.RowKit
set_option maxRecDepth 100000
set_option maxHeartbeats 8000000
/-- The reference's reader: the bytes that are left and the first error. -/
def RR (w : World) (R : Nat) (bs : List Int) (e : Nat) : Prop := ∃ v, w.heap[R]? = some (.cells #[v, .int .i64 e] 72 (0, 0)) ∧ BB w v bs ∧ (0 < bs.length → ∀ b, v.ownBlock = some b → b < R)
theorem RR.below {w w' : World} {R : Nat} {bs : List Int} {e : Nat} (h : RR w R bs e) (hb : Below w.heap.size w w') : RR w' R bs e := by
  obtain ⟨v, h3, h4, h5⟩ := h
  exact ⟨v, (hb.block R (lt_of_heap h3)).trans h3, h4.below hb, h5⟩
theorem RR.lt {w : World} {R : Nat} {bs : List Int} {e : Nat} (h : RR w R bs e) : R < w.heap.size := by obtain ⟨v, h3, _⟩ := h; exact lt_of_heap h3
theorem RR.ok {w : World} {R : Nat} {bs : List Int} {e : Nat} (h : RR w R bs e) : okB bs := by obtain ⟨v, _, h3, _⟩ := h; exact h3.ok
theorem RR.cutAt {w : World} {R e : Nat} {A : Option Addr} {n cap sz : Nat} {bs : List Int} (hB : w.heap[R]? = some (.cells #[.slice A n cap, .int .i64 e] 72 (0, 0))) (h : BB w (.slice A n cap) bs) (hne : 0 < bs.length → ∀ b, (Value.slice A n cap).ownBlock = some b → b < R) (hs : sz ≤ bs.length) :
    RR (w.setCell ⟨R, 0, none⟩ (.slice (restA A cap sz) (n - sz) (cap - sz))) R (bs.drop sz) e := by
  have hb := restB h hs
  have hne2 : 0 < (bs.drop sz).length → ∀ b, (Value.slice (restA A cap sz) (n - sz) (cap - sz)).ownBlock = some b → b < R := by
    intro hd b hb2
    have hne := hne (by rw [List.length_drop] at hd; omega)
    unfold restA at hb2
    cases A with
    | none => split at hb2 <;> cases hb2
    | some a =>
      split at hb2
      · exact hne b hb2
      · refine hne b ?_
        have : (a.add sz).block = a.block := by unfold Addr.add; split <;> rfl
        simpa [Value.ownBlock, this] using hb2
  exact ⟨_, heap_setCell_same _ _ _ _ _ _ hB, hb.keep fun b hn hv _ => heap_setCell_other _ ⟨_, _, _⟩ _ _ (by intro e; subst e; exact absurd (hne2 hn _ hv) (Nat.lt_irrefl _)), hne2⟩
theorem RR.errAt {w : World} {R e er : Nat} {v : Value} {bs : List Int} (hB : w.heap[R]? = some (.cells #[v, .int .i64 e] 72 (0, 0))) (h : BB w v bs) (hne : 0 < bs.length → ∀ b, v.ownBlock = some b → b < R) : RR (w.setCell ⟨R, 1, none⟩ (.int .i64 er)) R bs er :=
  ⟨v, heap_setCell_same _ _ _ _ _ _ hB, h.keep fun b hn hv _ => heap_setCell_other _ ⟨_, _, _⟩ _ _ (by intro e; subst e; exact absurd (hne hn _ hv) (Nat.lt_irrefl _)), hne⟩
theorem grown_at {w : World} {R i : Nat} {v : Value} : w.grownBy (w.setCell ⟨R, i, none⟩ v) (some R) :=
  ⟨rfl, rfl, rfl, by simp, fun k _ hk => heap_setCell_other _ ⟨_, _, _⟩ _ _ (by intro e; subst e; exact hk rfl)⟩
theorem grown_trans {w w1 w2 : World} {x : Option Nat} (h : w.grownBy w1 x) (k : w1.grownBy w2 x) : w.grownBy w2 x :=
  ⟨k.os.trans h.os, k.tape.trans h.tape, k.output.trans h.output, Nat.le_trans h.size k.size, fun q hq hx => (k.block q (Nat.lt_of_lt_of_le hq h.size) hx).trans (h.block q hq hx)⟩
theorem grown_of_below {w w1 : World} {x : Option Nat} (h : Below w.heap.size w w1) : w.grownBy w1 x := ⟨h.os, h.tape, h.output, h.size, fun q hq _ => h.block q hq⟩
/-- The next number. -/
def numV (bs : List Int) (e : Nat) : Nat := if e = 0 ∧ (readS bs).2.2 = 0 then (readS bs).1 else 0
def numB (bs : List Int) (e : Nat) : List Int := if e = 0 ∧ (readS bs).2.2 = 0 then bs.drop (readS bs).2.1 else bs
def numE (bs : List Int) (e : Nat) : Nat := if e = 0 then (readS bs).2.2 else e
def NumR (w : World) (R : Nat) (bs : List Int) (e : Nat) (r : Ending) (w' : World) : Prop := r = .returned (.int .u64 (numV bs e : Nat)) ∧ RR w' R (numB bs e) (numE bs e) ∧ w.grownBy w' (some R)
theorem numV_lt {bs : List Int} (h : okB bs) (e : Nat) : numV bs e < 18446744073709551616 := by
  unfold numV
  split
  · rename_i h0; exact (readS_good h h0.2).2.2.1
  · omega
theorem num_any (R : Nat) (bs : List Int) (e : Nat) (w : World) (h : RR w R bs e) : Calls Try.prog 47 #[.pointer (some ⟨R, 0, none⟩)] w (NumR w R bs e) := by
  obtain ⟨v, hB, hv, hne⟩ := h
  have hRl := lt_of_heap hB
  by_cases he : e = 0
  · subst he
    have hg := readS_good hv.ok
    have HR := Lib.hid (refread_any v bs w hv)
    have hv0 := hv
    obtain ⟨hx, hl, A, cap, hve, hr, hnc, hlc, hcm⟩ := hv
    obtain ⟨n, hn⟩ : ∃ n, bs.length = n := ⟨_, rfl⟩
    rw [hn] at hve hl hlc hg
    subst hve
    obtain ⟨⟨nv, sz, er⟩, hR⟩ : ∃ r, readS bs = r := ⟨_, rfl⟩
    have HP : Hid (∀ r w', r = .returned (.int .u64 ((if er = 0 then nv else 0 : Nat) : Int)) → RR w' R (if er = 0 then bs.drop sz else bs) er → w.grownBy w' (some R) → NumR w R bs 0 r w') := Lib.hid (fun r w' h1 h2 h3 => by
      unfold NumR numV numB numE
      rw [hR]
      simp only [true_and, if_true]
      exact ⟨h1, h2, h3⟩)
    rw [hR] at hg HR
    dsimp only at hg HR
    have HBB := Lib.hid hv0
    have HBL := Lib.hid hB
    have HN := Lib.hid hn
    have HNE := Lib.hid hne
    have c0 : w.cell? ⟨R, 1, none⟩ = some (.int .i64 0) := (cell_of_row _ _ _ _ _ _ hB).trans rfl
    have c9 : w.cell? ⟨R, 0, none⟩ = some (.slice A n cap) := (cell_of_row _ _ _ _ _ _ hB).trans rfl
    clear hv0 hB hR hn hr hx hne
    by_cases her : er = 0
    · subst her
      obtain ⟨g1, g2, g3, _⟩ := hg rfl
      have hrr : ∀ W, (Instr.sliceAt 24 (.slice A n cap) (some (.int .i64 sz)) none none).run Try.prog W = .ok (.slice (restA A cap sz) (n - sz) (cap - sz)) W := fun W => run_restAt A n cap sz g2 W
      clear hg
      go_enter Try.func47, Try.ntmps47
      go_wp2_with fail
      refine HR.out.mono ?_
      rintro e w1 ⟨rfl, hb⟩
      have HB1 := Lib.hid hb
      have HBL1 := Lib.hid ((hb.block R hRl).trans HBL.out)
      have c1 : w1.cell? ⟨R, 0, none⟩ = some (.slice A n cap) := (cell_same (hb.block R hRl)).trans c9
      have hf1 : w1.frozen? ⟨R, 0, none⟩ = false := frozen_of_row w1 R 0 _ _ HBL1.out
      have hRl1 : R < w1.heap.size := by have := hb.size; omega
      clear hb
      go_wp2_with fail
      go_ret
      refine HP.out _ _ rfl ?_ (grown_trans (grown_of_below HB1.out) grown_at)
      exact RR.cutAt HBL1.out (HBB.out.below HB1.out) HNE.out (by rw [HN.out]; exact g2)
    · have hei : ((er : Int) == 0) = false := by simpa using her
      have hei2 : ¬ (er : Int) = 0 := by omega
      clear hg
      go_enter Try.func47, Try.ntmps47
      go_wp2_with fail
      refine HR.out.mono ?_
      rintro e w1 ⟨rfl, hb⟩
      have HB1 := Lib.hid hb
      have HBL1 := Lib.hid ((hb.block R hRl).trans HBL.out)
      have c1 : w1.cell? ⟨R, 1, none⟩ = some (.int .i64 0) := (cell_same (hb.block R hRl)).trans c0
      have hf1 : w1.frozen? ⟨R, 1, none⟩ = false := frozen_of_row w1 R 1 _ _ HBL1.out
      have hRl1 : R < w1.heap.size := by have := hb.size; omega
      clear hb
      go_wp2_with fail
      go_ret
      refine HP.out _ _ (by rw [if_neg her]; rfl) ?_ (grown_trans (grown_of_below HB1.out) grown_at)
      rw [if_neg her]
      exact RR.errAt HBL1.out (HBB.out.below HB1.out) HNE.out
  · have HP : Hid (NumR w R bs e (.returned (.int .u64 0)) w) := Lib.hid (by
      unfold NumR numV numB numE
      rw [if_neg (fun h => he h.1), if_neg (fun h => he h.1), if_neg he]
      exact ⟨rfl, ⟨v, hB, hv, hne⟩, grown_of_below (Below.refl _ _)⟩)
    have c0 : w.cell? ⟨R, 1, none⟩ = some (.int .i64 e) := (cell_of_row _ _ _ _ _ _ hB).trans rfl
    have hei2 : ¬ (e : Int) = 0 := by omega
    have hei : ((e : Int) == 0) = false := by simpa using he
    clear hB hv hne
    go_enter Try.func47, Try.ntmps47
    go_wp2_with fail
    go_ret
    exact HP.out
/-- The reader's end. -/
def endE (bs : List Int) (e : Nat) : Nat := if e = 0 ∧ 0 < bs.length then 8 else e
def EndR (w : World) (R : Nat) (bs : List Int) (e : Nat) (r : Ending) (w' : World) : Prop := r = .returned (.int .i64 (endE bs e : Nat)) ∧ RR w' R bs (endE bs e) ∧ w.grownBy w' (some R)
theorem rend_any (R : Nat) (bs : List Int) (e : Nat) (w : World) (h : RR w R bs e) : Calls Try.prog 49 #[.pointer (some ⟨R, 0, none⟩)] w (EndR w R bs e) := by
  obtain ⟨v, hB, hv, hne⟩ := h
  have hRl := lt_of_heap hB
  have hf1 : w.frozen? ⟨R, 1, none⟩ = false := frozen_of_row w R 1 _ _ hB
  have c1 : w.cell? ⟨R, 1, none⟩ = some (.int .i64 e) := (cell_of_row _ _ _ _ _ _ hB).trans rfl
  by_cases he : e = 0
  · subst he
    have HBB := Lib.hid hv
    have HBL := Lib.hid hB
    have HNE := Lib.hid hne
    obtain ⟨hx, hl, A, cap, hve, hr, hnc, hlc, hcm⟩ := hv
    obtain ⟨n, hn⟩ : ∃ n, bs.length = n := ⟨_, rfl⟩
    rw [hn] at hve hl hlc
    subst hve
    have HN := Lib.hid hn
    have c0 : w.cell? ⟨R, 0, none⟩ = some (.slice A n cap) := (cell_of_row _ _ _ _ _ _ hB).trans rfl
    clear hB hn hr hx hne
    by_cases h0 : 0 < n
    · have h0i : (0 : Int) < (n : Int) := by omega
      have c2 : (w.setCell ⟨R, 1, none⟩ (.int .i64 8)).cell? ⟨R, 1, none⟩ = some (.int .i64 8) := (cell_of_row _ _ _ _ _ _ (heap_setCell_same _ _ _ _ _ _ HBL.out)).trans rfl
      go_enter Try.func49, Try.ntmps49
      go_wp2_with fail
      go_ret
      unfold EndR endE
      rw [HN.out, if_pos ⟨rfl, h0⟩]
      exact ⟨rfl, RR.errAt (er := 8) HBL.out HBB.out HNE.out, grown_at⟩
    · have h0i : ¬ (0 : Int) < (n : Int) := by omega
      go_enter Try.func49, Try.ntmps49
      go_wp2_with fail
      go_ret
      unfold EndR endE
      rw [HN.out, if_neg (fun h => h0 h.2)]
      exact ⟨rfl, ⟨_, HBL.out, HBB.out, HNE.out⟩, grown_of_below (Below.refl _ _)⟩
  · have HP : Hid (EndR w R bs e (.returned (.int .i64 e)) w) := Lib.hid (by
      unfold EndR endE
      rw [if_neg (fun h => he h.1)]
      exact ⟨rfl, ⟨v, hB, hv, hne⟩, grown_of_below (Below.refl _ _)⟩)
    have hei2 : ¬ (e : Int) = 0 := by omega
    have hei : ((e : Int) == 0) = false := by simpa using he
    clear hB hv hne
    go_enter Try.func49, Try.ntmps49
    go_wp2_with fail
    go_ret
    exact HP.out
end Go.Proofs.Ytgkiedbefogklaa
