/- What is proved: what the reference's reader answers when it is asked for bytes; conditions: those typed. -/
import Derived.Test.YtgkiedbefogklaaWireJ
set_option linter.unusedSimpArgs false
set_option linter.unusedVariables false
namespace Go.Proofs.Ytgkiedbefogklaa
open Go.RowKit
set_option maxRecDepth 100000
set_option maxHeartbeats 8000000
theorem run_restU (A : Option Addr) (l cap n : Nat) (hn : n ≤ l) (hc : l ≤ cap) (hm : cap ≤ maxLen) (W : World) : (Instr.sliceAt 24 (.slice A l cap) (some (.int .u64 n)) none none).run Try.prog W = .ok (.slice (restA A cap n) (l - n) (cap - n)) W := by
  unfold restA
  by_cases h : cap = n
  · subst h
    have : l = cap := by omega
    subst this
    go_simp
  · go_simp
/-- The reader's next bytes: the error, what is left, what is read. -/
def rawE (lo hi : Nat) (bs : List Int) (e : Nat) : Nat := if numE bs e ≠ 0 then numE bs e else if numV bs e < lo ∨ hi < numV bs e then 8 else if (numB bs e).length < numV bs e then 7 else 0
def rawB (lo hi : Nat) (bs : List Int) (e : Nat) : List Int := if rawE lo hi bs e = 0 then (numB bs e).drop (numV bs e) else numB bs e
def rawX (lo hi : Nat) (bs : List Int) (e : Nat) : List Int := if rawE lo hi bs e = 0 then (numB bs e).take (numV bs e) else []
def RawR (w : World) (R lo hi : Nat) (bs : List Int) (e : Nat) (r : Ending) (w' : World) : Prop := (∃ u, r = .returned u ∧ OwB w' w.heap.size u (rawX lo hi bs e)) ∧ RR w' R (rawB lo hi bs e) (rawE lo hi bs e) ∧ w.grownBy w' (some R)
theorem raw_any (R lo hi : Nat) (bs : List Int) (e : Nat) (w : World) (h : RR w R bs e) (hlo : lo < 18446744073709551616) (hhi : hi < 18446744073709551616) : Calls Try.prog 59 #[.pointer (some ⟨R, 0, none⟩), .int .u64 lo, .int .u64 hi] w (RawR w R lo hi bs e) := by
  have HNUM := Lib.hid (num_any R bs e w h)
  have hnl := numV_lt h.ok e
  have HP : Hid (∀ r w' er, rawE lo hi bs e = er → (∃ u, r = .returned u ∧ OwB w' w.heap.size u (if er = 0 then (numB bs e).take (numV bs e) else [])) → RR w' R (if er = 0 then (numB bs e).drop (numV bs e) else numB bs e) er → w.grownBy w' (some R) → RawR w R lo hi bs e r w') := Lib.hid (fun r w' er h0 h1 h2 h3 => by
    unfold RawR rawX rawB
    rw [h0]
    exact ⟨h1, h2, h3⟩)
  have HE : Hid (rawE lo hi bs e = if numE bs e ≠ 0 then numE bs e else if numV bs e < lo ∨ hi < numV bs e then 8 else if (numB bs e).length < numV bs e then 7 else 0) := Lib.hid rfl
  have HQ : Hid (∀ r w', NumR w R bs e r w' → r = .returned (.int .u64 (numV bs e : Nat)) ∧ RR w' R (numB bs e) (numE bs e) ∧ w.grownBy w' (some R)) := Lib.hid (fun r w' h => h)
  obtain ⟨n, hn⟩ : ∃ n, numV bs e = n := ⟨_, rfl⟩
  obtain ⟨b1, hb1⟩ : ∃ b, numB bs e = b := ⟨_, rfl⟩
  obtain ⟨e1, he1⟩ : ∃ x, numE bs e = x := ⟨_, rfl⟩
  rw [hn, hb1, he1] at HE HQ
  rw [hn, hb1] at HP
  rw [hn] at hnl
  clear h hn hb1 he1
  have HB0 : ∀ w1, RR w1 R b1 e1 → ∃ A l cap, l = b1.length ∧ w1.heap[R]? = some (.cells #[.slice A l cap, .int .i64 e1] 72 (0, 0)) ∧ BB w1 (.slice A l cap) b1 ∧ (0 < b1.length → ∀ b, (Value.slice A l cap).ownBlock = some b → b < R) ∧ l ≤ cap ∧ cap ≤ maxLen ∧ l ≤ 140737488355328 ∧ (A = none → cap = 0) ∧ okB b1 ∧ RdI w1 .u8 A l b1 := by
    rintro w1 ⟨v, h1, h2, h3⟩
    have h4 := h2
    obtain ⟨hx, hl, A, cap, rfl, hr, hnc, hlc, hcm⟩ := h2
    exact ⟨A, _, cap, rfl, h1, h4, h3, hlc, hcm, hl, hnc, hx, hr⟩
  have HB := Lib.hid HB0
  clear HB0
  by_cases he : e1 = 0
  · subst he
    by_cases hr : n < lo ∨ hi < n
    · have HE2 : Hid (rawE lo hi bs e = 8) := Lib.hid (by rw [HE.out, if_neg (by simp), if_pos hr])
      have hq : (n : Int) < lo ∨ ¬ (n : Int) < lo ∧ (hi : Int) < n := by omega
      clear HE hr
      rcases hq with hq | ⟨hq, hq2⟩
      all_goals
        go_enter Try.func59, Try.ntmps59
        go_wp2_with fail
        refine HNUM.out.mono ?_
        rintro r w1 hN
        obtain ⟨rfl, hRR, hg⟩ := HQ.out _ _ hN
        obtain ⟨A, l, cap, hl, hB, hv, hne, hlc, hcm, hlm, hnc, hok, hrd⟩ := HB.out w1 hRR
        have c0 : w1.cell? ⟨R, 0, none⟩ = some (.slice A l cap) := (cell_of_row _ _ _ _ _ _ hB).trans rfl
        have c1 : w1.cell? ⟨R, 1, none⟩ = some (.int .i64 0) := (cell_of_row _ _ _ _ _ _ hB).trans rfl
        have hf1 : w1.frozen? ⟨R, 1, none⟩ = false := frozen_of_row w1 R 1 _ _ hB
        have hRl := lt_of_heap hB
        have HBL := Lib.hid hB
        have HBB := Lib.hid hv
        have HNE := Lib.hid hne
        have HG := Lib.hid hg
        clear hN hRR hB hv hne hg hl hrd hok
        go_wp2_with fail
        go_ret
        refine HP.out _ _ 8 HE2.out ⟨_, rfl, OwB.nil _ _⟩ ?_ (grown_trans HG.out grown_at)
        exact RR.errAt (er := 8) HBL.out HBB.out HNE.out
    · have hq : ¬ (n : Int) < lo := by omega
      have hq2 : ¬ (hi : Int) < n := by omega
      by_cases hs : b1.length < n
      · have HE2 : Hid (rawE lo hi bs e = 7) := Lib.hid (by rw [HE.out, if_neg (by simp), if_neg hr, if_pos hs])
        clear HE hr
        go_enter Try.func59, Try.ntmps59
        go_wp2_with fail
        refine HNUM.out.mono ?_
        rintro r w1 hN
        obtain ⟨rfl, hRR, hg⟩ := HQ.out _ _ hN
        obtain ⟨A, l, cap, hl, hB, hv, hne, hlc, hcm, hlm, hnc, hok, hrd⟩ := HB.out w1 hRR
        have c0 : w1.cell? ⟨R, 0, none⟩ = some (.slice A l cap) := (cell_of_row _ _ _ _ _ _ hB).trans rfl
        have c1 : w1.cell? ⟨R, 1, none⟩ = some (.int .i64 0) := (cell_of_row _ _ _ _ _ _ hB).trans rfl
        have hf1 : w1.frozen? ⟨R, 1, none⟩ = false := frozen_of_row w1 R 1 _ _ hB
        have hRl := lt_of_heap hB
        have hwl : IntKind.u64.wrap (l : Int) = (l : Int) := by rw [IntKind.wrap_u64]; omega
        have hs2 : (l : Int) < n := by omega
        have HBL := Lib.hid hB
        have HBB := Lib.hid hv
        have HNE := Lib.hid hne
        have HG := Lib.hid hg
        clear hN hRR hB hv hne hg hl hrd hok hs
        go_wp2_with fail
        go_ret
        refine HP.out _ _ 7 HE2.out ⟨_, rfl, OwB.nil _ _⟩ ?_ (grown_trans HG.out grown_at)
        exact RR.errAt (er := 7) HBL.out HBB.out HNE.out
      · have HE2 : Hid (rawE lo hi bs e = 0) := Lib.hid (by rw [HE.out, if_neg (by simp), if_neg hr, if_neg hs])
        clear HE hr
        go_enter Try.func59, Try.ntmps59
        go_wp2_with fail
        refine HNUM.out.mono ?_
        rintro r w1 hN
        obtain ⟨rfl, hRR, hg⟩ := HQ.out _ _ hN
        obtain ⟨A, l, cap, hl, hB, hv, hne, hlc, hcm, hlm, hnc, hok, hrd⟩ := HB.out w1 hRR
        have c0 : w1.cell? ⟨R, 0, none⟩ = some (.slice A l cap) := (cell_of_row _ _ _ _ _ _ hB).trans rfl
        have c1 : w1.cell? ⟨R, 1, none⟩ = some (.int .i64 0) := (cell_of_row _ _ _ _ _ _ hB).trans rfl
        have hRl := lt_of_heap hB
        have hwl : IntKind.u64.wrap (l : Int) = (l : Int) := by rw [IntKind.wrap_u64]; omega
        have hs2 : ¬ (l : Int) < n := by omega
        have hnl2 : n ≤ l := by omega
        have hnc2 : n ≤ cap := by omega
        have hni : ¬ (cap : Int) < n := by omega
        have hrr : ∀ W, (Instr.sliceAt 24 (.slice A l cap) (some (.int .u64 n)) none none).run Try.prog W = .ok (.slice (restA A cap n) (l - n) (cap - n)) W := fun W => run_restU A l cap n hnl2 hlc hcm W
        have HSUB : Hid (BB w1 (.slice A n cap) (b1.take n)) := Lib.hid ⟨hok.take n, by rw [List.length_take]; omega, A, cap, by rw [List.length_take, ← hl, Nat.min_eq_left hnl2], by rw [List.length_take, ← hl, Nat.min_eq_left hnl2]; exact hrd.take hnl2, hnc, by rw [List.length_take]; omega, hcm⟩
        have HBL := Lib.hid hB
        have HBB := Lib.hid hv
        have HNE := Lib.hid hne
        have HG := Lib.hid hg
        have HLN := Lib.hid hl
        have hgs := hg.size
        clear hN hRR hB hv hne hg hl hrd hok hs
        go_wp2_with fail
        refine (copy_bytes _ _ w1 HSUB.out).mono ?_
        rintro r w2 ⟨⟨u, rfl, ho⟩, hb⟩
        have HB2 := Lib.hid hb
        have HO2 := Lib.hid ho
        have HBL2 := Lib.hid ((hb.block R hRl).trans HBL.out)
        have d0 : w2.cell? ⟨R, 0, none⟩ = some (.slice A l cap) := (cell_of_row _ _ _ _ _ _ HBL2.out).trans rfl
        have hf2 : w2.frozen? ⟨R, 0, none⟩ = false := frozen_of_row w2 R 0 _ _ HBL2.out
        have hRl2 : R < w2.heap.size := by have := hb.size; omega
        obtain ⟨A9, n9, c9, rfl⟩ := ho.form
        clear ho hb
        go_wp2_with fail
        go_ret
        refine HP.out _ _ 0 HE2.out ⟨_, rfl, ?_⟩ ?_ (grown_trans HG.out (grown_trans (grown_of_below HB2.out) grown_at))
        · refine (HO2.out.keep fun q hq hl => heap_setCell_other _ ⟨_, _, _⟩ _ _ (fun e => ?_)).mono hgs
          have e : q = R := by simpa using e
          have := (World.ownsRow.lt HO2.out q hq).1
          omega
        · exact RR.cutAt HBL2.out (HBB.out.below HB2.out) HNE.out (by rw [← HLN.out]; exact hnl2)
  · have HE2 : Hid (rawE lo hi bs e = e1) := Lib.hid (by rw [HE.out, if_pos he])
    have hei2 : ¬ (e1 : Int) = 0 := by omega
    have hei : ((e1 : Int) == 0) = false := by simpa using he
    clear HE
    go_enter Try.func59, Try.ntmps59
    go_wp2_with fail
    refine HNUM.out.mono ?_
    rintro r w1 hN
    obtain ⟨rfl, hRR, hg⟩ := HQ.out _ _ hN
    obtain ⟨A, l, cap, hl, hB, hv, hne, hlc, hcm, hlm, hnc, hok, hrd⟩ := HB.out w1 hRR
    have c1 : w1.cell? ⟨R, 1, none⟩ = some (.int .i64 e1) := (cell_of_row _ _ _ _ _ _ hB).trans rfl
    have hRl := lt_of_heap hB
    have HG := Lib.hid hg
    have HRR := Lib.hid hRR
    clear hN hRR hB hv hne hg hl hrd hok
    go_wp2_with fail
    go_ret
    refine HP.out _ _ e1 HE2.out ⟨_, rfl, ?_⟩ ?_ HG.out
    · rw [if_neg he]; exact OwB.nil _ _
    · rw [if_neg he]; exact HRR.out
end Go.Proofs.Ytgkiedbefogklaa
