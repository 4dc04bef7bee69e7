/- What is proved: the law FragmentJoins answers true; conditions: those typed. -/
import Derived.Test.YtnhhibdkojgnlaaFrag10
set_option linter.unusedSimpArgs false
set_option linter.unusedVariables false
namespace Go.Proofs.Ytnhhibdkojgnlaa
open Go.RowKit
set_option maxRecDepth 100000
set_option maxHeartbeats 8000000
/-- A part that came in. -/
structure PV where
  id : Int
  n : Int
  last : Bool
  v : Value
  bs : List Int
def PV.row (p : PV) : Array Value := #[.int .u64 p.id, .int .i64 p.n, .bool p.last, p.v]
/-- A slice of parts that came in. -/
def RPs (w : World) (A : Option Addr) (n : Nat) (L : List PV) : Prop := L.length = n ∧ ∀ k p, L[k]? = some p → ∃ g off, A = some ⟨g, off, none⟩ ∧ (∀ j u, p.row.toList[j]? = some u → w.cell? ⟨g, off + k * 4 + j, none⟩ = some u) ∧ BB w p.v p.bs
theorem RPs.below {w w1 : World} {A : Option Addr} {n : Nat} {L : List PV} (h : RPs w A n L) (hb : Below w.heap.size w w1) : RPs w1 A n L := by
  refine ⟨h.1, fun k p hp => ?_⟩
  obtain ⟨g, off, h1, h2, h3⟩ := h.2 k p hp
  exact ⟨g, off, h1, fun j u hu => ((bcell hb).1 g _ (block_lt_of_cell (h2 j u hu))).trans (h2 j u hu), h3.below hb⟩
theorem run_load_cs {w : World} {g q : Nat} {row : Array Value} {ty : TypeId} (hi : (Try.prog.info? ty).map (·.size) = some row.size) (hu : ∃ d, Try.prog.underlying ty = some d ∧ d.isRow = true)
    (hc : ∀ j u, row.toList[j]? = some u → w.cell? ⟨g, q + j, none⟩ = some u) : (Instr.loadAt ty (.pointer (some ⟨g, q, none⟩))).run Try.prog w = .ok (.agg row) w := by
  obtain ⟨d, hu, hd⟩ := hu
  have := run_loadVar_mid (P := Try.prog) w g q ty row.toList d hc hu hd (by rw [hi, Array.length_toList])
  rw [Array.toArray_toList] at this
  simp only [Instr.loadAt, Instr.sureAddr, Sem.run_bind, Sem.run_pure, Result.andThen]
  exact this
theorem wpList_ldC {ops : Array Oper} {rest : List Oper} {o : Oper} {a : Act} {Q : Exit → Act → World → Prop} {w : World} {g q : Nat} {row : Array Value} {ty : TypeId} (hi : (Try.prog.info? ty).map (·.size) = some row.size) (hu : ∃ d, Try.prog.underlying ty = some d ∧ d.isRow = true) (hgd : o.guard = none) (x : Operand) (ho : o.op = .load ty x)
    (hx : a.eval x = .pointer (some ⟨g, q, none⟩)) (hc : ∀ j u, row.toList[j]? = some u → w.cell? ⟨g, q + j, none⟩ = some u) (h : wpList Try.prog ops Q rest (a.put o.dst (.agg row)) w) : wpList Try.prog ops Q (o :: rest) a w := by
  refine wpList_plain hgd fun K hK => ?_
  have he := exec_load (P := Try.prog) (o := o) (a := a) ho hx (run_load_cs hi hu hc)
  unfold Oper.wp
  rw [he]
  exact hK _ _ h
theorem whole_ok {L : List HP} (hL : ∀ p ∈ L, okB p.bs ∧ p.bs.length ≤ 1024) : ∀ (f k : Nat) (acc r : List Int), okB acc → wholeF L f k acc = some r → okB r ∧ r.length ≤ acc.length + 1024 * f
  | 0, _, _, _, _, h => by cases h
  | f + 1, k, acc, r, ha, h => by
    unfold wholeF at h
    cases hf : findL (k : Int) L with
    | none => rw [hf] at h; cases h
    | some p =>
      rw [hf] at h
      have hp := hL p (findL_mem hf).1
      replace h : (if p.last then some (acc ++ p.bs) else wholeF L f (k + 1) (acc ++ p.bs)) = some r := h
      split at h
      · simp only [Option.some.injEq] at h
        rw [← h]
        exact ⟨ha.app hp.1, by rw [List.length_append]; omega⟩
      · have := whole_ok hL f (k + 1) (acc ++ p.bs) r (ha.app hp.1) h
        rw [List.length_append] at this
        exact ⟨this.1, by omega⟩
theorem takeR_ok {s : JS} {id : Int} {p : HP} (hs : JOk s) (hb : ∀ q ∈ s.L, okB q.bs) (hp : okB p.bs) : okB ((takeR s id p).getD []) ∧ ((takeR s id p).getD []).length ≤ 140737488355328 := by
  cases h : takeR s id p with
  | none => exact ⟨okB.nil, by simp⟩
  | some r =>
    unfold takeR at h
    split at h
    · rename_i hm
      simp only [mayB, Bool.and_eq_true, decide_eq_true_eq] at hm
      split at h
      · cases h
      · have hj := (hs.fresh id).add hm.2.2.1 hm.1 hm.2.1
        have hall : ∀ q ∈ (addS (freshS s id) p).L, okB q.bs ∧ q.bs.length ≤ 1024 := by
          intro q hq
          refine ⟨?_, (hj.part q hq).1⟩
          have hfr : ∀ q ∈ (freshS s id).L, okB q.bs := by
            unfold freshS
            split
            · exact hb
            · simp
          unfold addS at hq
          split at hq
          · exact hfr q hq
          · rcases List.mem_append.1 hq with hq | hq
            · exact hfr q hq
            · obtain rfl := List.mem_singleton.1 hq
              exact hp
        have := whole_ok hall 256 0 [] r okB.nil h
        exact ⟨this.1, by have h2 := this.2; simp at h2; show r.length ≤ _; omega⟩
    · cases h
/-- The two joiners, and what came in. -/
structure LJ (w wr : World) (J M R : Nat) (s t : JS) (v : Value) : Prop where
  hJ : JW wr J M s
  hR : RW wr R (R + 1) t v
  hs : JOk s
  ht : JOk t
  sim : erS s = erS t
  ap : ∀ p ∈ s.L, ∀ b, 0 < p.bs.length → p.v.ownBlock = some b → b ≠ R ∧ v.ownBlock ≠ some b
  lt : w.heap.size ≤ M ∧ M < J ∧ J < R
  hL : Below w.heap.size w wr
theorem LJ.below {w wr w1 : World} {J M R : Nat} {s t : JS} {v : Value} (h : LJ w wr J M R s t v) (hb : Below wr.heap.size wr w1) : LJ w w1 J M R s t v :=
  ⟨h.hJ.below hb, h.hR.below hb, h.hs, h.ht, h.sim, h.ap, h.lt, bl_then h.hL h.hL.size hb⟩
theorem JW.far {w w1 : World} {J M : Nat} {s : JS} {S : Nat → Prop} {γ : Gh} (h : JW w J M s) (hI : Inv w S γ w1) (hSJ : ¬ S J) (hSM : ¬ S M) (hSP : ∀ p ∈ s.L, ∀ b, 0 < p.bs.length → p.v.ownBlock = some b → ¬ S b) : JW w1 J M s := by
  obtain ⟨es, k, h1, h2⟩ := h.hM
  exact ⟨(hI.far J (lt_of_heap h.hJ) hSJ).trans h.hJ, ⟨es, k, (hI.far M (lt_of_heap h1) hSM).trans h1, h2⟩, fun p hp => ⟨(h.hP p hp).1.inv hI (hSP p hp), (h.hP p hp).2⟩, h.ne⟩
theorem RW.far {w w1 : World} {R : Nat} {s : JS} {v : Value} {S : Nat → Prop} {γ : Gh} (h : RW w R (R + 1) s v) (hI : Inv w S γ w1) (hS : ∀ g, S g → g < R) : RW w1 R (R + 1) s v :=
  ⟨(hI.far R (lt_of_heap h.hR) (fun e => by have := hS R e; omega)).trans h.hR, h.hP.inv hI (fun g hg => by have := hS g hg; omega), h.lt⟩
theorem joins_any (A : Option Addr) (n cap : Nat) (L : List PV) (w : World) (h : RPs w A n L) (hn : n ≤ 140737488355328) : Calls Try.prog 3 #[.slice A n cap] w fun e w' => e = .returned (.bool true) ∧ Below w.heap.size w w' := by
  have HP := Lib.hid h
  clear h
  obtain ⟨N, hN⟩ : ∃ N, w.heap.size = N := ⟨_, rfl⟩
  have hzj : ∀ w, (zeroValue 27).run Try.prog w = .ok (.agg #[.int .u64 0, .slice none 0 0, .bool false, .bool false]) w := fun w => by kernel_rfl
  go_enter Try.func3, Try.ntmps3
  go_wp2_with fail
  refine (new_any w).mono ?_
  rintro e w1 ⟨rfl, hj, hb1⟩
  have hlJ := lt_of_heap hj.hJ
  obtain ⟨R, hR⟩ : ∃ R, w1.heap.size = R := ⟨_, rfl⟩
  have h0 : LJ w (w1.alloc (.cells #[.int .u64 0, .slice none 0 0, .bool false, .bool false] 27)) (w.heap.size + 1) w.heap.size R s0 s0 (.slice none 0 0) := by
    have hba : Below w1.heap.size w1 (w1.alloc (.cells #[.int .u64 0, .slice none 0 0, .bool false, .bool false] 27)) := by (repeat' (first | (with_reducible exact Below.refl _ _) | (with_reducible assumption) | (with_reducible refine Below.alloc ?_ ?_ _) | (with_reducible refine below_setRow ?_ ?_ _) | (with_reducible refine bl_drew ?_) | (with_reducible refine bl_drewN ?_ _) | (with_reducible refine Below.setCell ?_ ?_ _) | (with_reducible refine bl_then ?_ ?_ hb) | (with_reducible refine bl_then ?_ ?_ hb1) | (with_reducible refine bl_then ?_ ?_ hb2) | (with_reducible refine bl_then ?_ ?_ hb3) | (with_reducible refine bl_then ?_ ?_ hb4) | (with_reducible refine bl_then ?_ ?_ hb5) | (with_reducible refine bl_then ?_ ?_ hb6) | (with_reducible refine bl_then ?_ ?_ hb7) | (with_reducible refine bl_then ?_ ?_ hb8) | (with_reducible exact Nat.le_refl _) | omega | (simp only [World.size_alloc, World.size_setCell, World.size_drew, size_setRow]; omega) | (simp; omega) | (simp; done)))
    exact ⟨hj.below hba, ⟨by rw [← hR]; exact heap_alloc_last _ _, OwP.nil _ _ _, by omega⟩, s0_ok, s0_ok, rfl, by simp [s0], ⟨by omega, by omega, by omega⟩, hb1.alloc hb1.size _⟩
  obtain ⟨M, hM⟩ : ∃ M, N = M := ⟨_, rfl⟩
  obtain ⟨J, hJ⟩ : ∃ J, N + 1 = J := ⟨_, rfl⟩
  rw [hN, hM] at h0
  rw [hM] at hJ
  rw [hJ] at h0
  clear hb1 hj hlJ
  go_wp2_with fail
  try rw [hN]
  try rw [hM]
  try rw [hJ]
  try rw [hR]
  generalize w1.alloc (.cells #[.int .u64 0, .slice none 0 0, .bool false, .bool false] 27) = V at *
  clear hR hzj
  go_loopw [5] (fun i wr => ∃ k : Nat, k ≤ n ∧ i = .int .i64 k ∧ ∃ s t v, LJ w wr J M R s t v) (fun i _ => n - (intOf i).toNat)
  case atStart => exact ⟨0, by omega, rfl, _, _, _, h0⟩
  case round =>
    clear h0
    obtain ⟨k, hk, rfl, s, t, v, hC⟩ := hrel
    by_cases hkn : k < n
    · have hki : (k : Int) < (n : Int) := by omega
      have hk0 : (0 : Int) ≤ (k : Int) := by omega
      obtain ⟨p, hp⟩ : ∃ p, L[k]? = some p := ⟨_, List.getElem?_eq_getElem (by rw [HP.out.1]; exact hkn)⟩
      obtain ⟨g, off, rfl, hrow0, hbb0⟩ := HP.out.2 k p hp
      obtain ⟨id, pn, last, u, bs⟩ := p
      have hlg : g < w.heap.size := block_lt_of_cell (hrow0 0 _ rfl)
      have hrow1 : ∀ j x, (PV.row ⟨id, pn, last, u, bs⟩).toList[j]? = some x → wr.cell? ⟨g, off + k * 4 + j, none⟩ = some x := fun j x hx => ((bcell hC.hL).1 g _ hlg).trans (hrow0 j x hx)
      have hbb1 : BB wr u bs := hbb0.below hC.hL
      have hub : ∀ b, 0 < bs.length → u.ownBlock = some b → b < N := fun b h1 h2 => by have := hbb0.lt h1 h2; omega
      have hlt := hC.lt
      have hC0 := Lib.hid hC
      have HROW := Lib.hid hrow0
      clear hp hrow0 hC
      go_wp2_with (with_reducible refine wpList_ldC (row := PV.row ⟨id, pn, last, u, bs⟩) partInfo partRow rfl (.tmp 29) rfl rfl hrow1 ?_)
      refine (take_any J M s id pn last u bs wr hC0.out.hJ hC0.out.hs hbb1).mono ?_
      rintro e w2 ⟨va, vc, rfl, hoa, hj2, hi2, hnew⟩
      have hsz2 := hi2.size
      have hlR := lt_of_heap hC0.out.hR.hR
      have hr2 : RW w2 R (R + 1) t v := hC0.out.hR.far hi2 (by rintro x (rfl | rfl) <;> omega)
      have hL2 : Below w.heap.size w w2 := hi2.belowS hC0.out.hL (hC0.out.hL.size) (by rintro x (rfl | rfl) <;> omega)
      have hbb2 : BB w2 u bs := hbb0.below hL2
      have hrow2 : ∀ j x, (PV.row ⟨id, pn, last, u, bs⟩).toList[j]? = some x → w2.cell? ⟨g, off + k * 4 + j, none⟩ = some x := fun j x hx => ((bcell hL2).1 g _ hlg).trans (HROW.out j x hx)
      have hvb : ∀ b, v.ownBlock = some b → R + 1 ≤ b ∧ b < wr.heap.size := fun b hb => rows_blk hC0.out.hR.hP.row hb
      have hap2 : ∀ q ∈ (takeS s id ⟨pn, last, vc, bs⟩).L, ∀ b, 0 < q.bs.length → q.v.ownBlock = some b → b ≠ R ∧ v.ownBlock ≠ some b := fun q hq b h1 h2 => by
        rcases hnew q hq with h3 | h3
        · exact hC0.out.ap q h3 b h1 h2
        · have := h3 b h2
          exact ⟨by omega, fun e => by have := (hvb b e).2; omega⟩
      obtain ⟨s', hs'⟩ : ∃ s', takeS s id ⟨pn, last, vc, bs⟩ = s' := ⟨_, rfl⟩
      obtain ⟨ra, hra⟩ : ∃ r, takeR s id ⟨pn, last, vc, bs⟩ = r := ⟨_, rfl⟩
      obtain ⟨er, her⟩ : ∃ r, errT (mayB pn last bs.length) = r := ⟨_, rfl⟩
      have hsok := hC0.out.hs.take id ⟨pn, last, vc, bs⟩
      rw [hs'] at hj2 hap2 hsok
      rw [hra] at hoa ⊢
      rw [her]
      have HS' := Lib.hid hs'
      have HRA := Lib.hid hra
      have HER := Lib.hid her
      clear hi2 hnew hrow1 hbb1 hs' hra her
      go_wp2_with (with_reducible refine wpList_ldC (row := PV.row ⟨id, pn, last, u, bs⟩) partInfo partRow rfl (.tmp 38) rfl rfl hrow2 ?_)
      refine (rtake_any R t v id pn last u bs w2 hr2 hC0.out.ht hbb2 (fun b h1 h2 => ⟨by have := hub b h1 h2; omega, fun e => by have := hub b h1 h2; have := (hvb b e).1; omega⟩)).mono ?_
      rintro e w3 ⟨vb, vd, v', rfl, hob, hr3, hi3, hvo⟩
      have hsim := take_sim hC0.out.sim id pn last vc vd bs
      rw [HS'.out, HRA.out] at hsim
      obtain ⟨t', ht'⟩ : ∃ t', takeS t id ⟨pn, last, vd, bs⟩ = t' := ⟨_, rfl⟩
      have htok := hC0.out.ht.take id ⟨pn, last, vd, bs⟩
      rw [ht'] at hr3 hsim htok
      rw [← hsim.2] at hob ⊢
      rw [HER.out]
      have hok := takeR_ok (id := id) (p := ⟨pn, last, vc, bs⟩) hC0.out.hs (fun q hq => (hC0.out.hJ.hP q hq).1.ok) hbb2.ok
      rw [HRA.out] at hok
      have hsz3 := hi3.size
      have hj3 : JW w3 J M s' := hj2.far hi3 (fun e => e.elim (fun e => by omega) (fun e => by have := (hvb J e).1; omega)) (fun e => e.elim (fun e => by omega) (fun e => by have := (hvb M e).1; omega)) (fun q hq b h1 h2 e => e.elim (hap2 q hq b h1 h2).1 (hap2 q hq b h1 h2).2)
      have hoa3 : OwB w3 wr.heap.size va (ra.getD []) := hoa.keep (fun b h1 h2 => hi3.far b h2 (fun e => by
        have h3 := (hoa.own_blk h1).1
        rcases e with e | e
        · omega
        · have := (hvb b e).2
          omega))
      have hL3 : Below w.heap.size w w3 := hi3.belowS hL2 hL2.size (by
        rintro x (e | e)
        · omega
        · have := (hvb x e).1
          omega)
      have hap3 : ∀ q ∈ s'.L, ∀ b, 0 < q.bs.length → q.v.ownBlock = some b → b ≠ R ∧ v'.ownBlock ≠ some b := fun q hq b h1 h2 => ⟨(hap2 q hq b h1 h2).1, fun e => by
        rcases hvo b e with h3 | h3
        · exact (hap2 q hq b h1 h2).2 h3
        · have := (hj2.hP q hq).1.lt h1 h2
          omega⟩
      have hBA := hoa3.rd hok.1 hok.2
      have hBB := hob.rd hok.1 hok.2
      have h3 : LJ w w3 J M R s' t' v' := ⟨hj3, hr3, hsok, htok, hsim.1, hap3, hlt, hL3⟩
      have e1 : t'.id = s'.id := (congrArg JS.id hsim.1).symm
      have e2 : t'.L.length = s'.L.length := by
        have := congrArg (fun s => s.L.length) hsim.1
        simpa [erS] using this.symm
      have e3 : t'.bytes = s'.bytes := (congrArg JS.bytes hsim.1).symm
      obtain ⟨A1, c1, hva⟩ := hoa3.slice
      obtain ⟨A2, c2, hvb2⟩ := hob.slice
      subst hva hvb2
      obtain ⟨xs, hxs⟩ : ∃ xs, ra.getD [] = xs := ⟨_, rfl⟩
      obtain ⟨fl, hfl⟩ : ∃ fl, ra.isSome = fl := ⟨_, rfl⟩
      rw [hxs] at hBA hBB ⊢
      rw [hfl]
      have HLJ := Lib.hid h3
      have HBA := Lib.hid hBA
      have HBB := Lib.hid hBB
      have HE := Lib.hid (And.intro e1 (And.intro e2 e3))
      clear hoa hoa3 hob hi3 hvo hsim ht' htok hr3 hok hj3 hL3 hap3 hBA hBB h3 e1 e2 e3 hj2 hap2 hsok hr2 hL2 hbb2 hrow2 hvb hub hC0 HROW HS' HRA HER hxs hfl hbb0 hlg
      go_wp2_with fail
      refine (holds_any J M s' w3 HLJ.out.hJ).mono ?_
      rintro e w4 ⟨rfl, hb4⟩
      have h4 := HLJ.out.below hb4
      have hBA4 := HBA.out.below hb4
      have hBB4 := HBB.out.below hb4
      clear hb4 HLJ HBA HBB
      go_wp2_with fail
      refine (rholds_any R (R + 1) t' v' w4 h4.hR h4.ht).mono ?_
      rintro e w5 ⟨rfl, hb5⟩
      have h5 := h4.below hb5
      have hBA5 := hBA4.below hb5
      have hBB5 := hBB4.below hb5
      rw [HE.out.1, HE.out.2.1, HE.out.2.2]
      clear hb5 h4 hBA4 hBB4 HE
      go_wp2_with fail
      refine (same_bytes _ _ xs xs w5 hBA5 hBB5).mono ?_
      rintro e w6 ⟨rfl, rfl⟩
      have H5 := Lib.hid h5
      clear h5 hBA5 hBB5
      go_wp2_with fail
      go_roundw
      case rel =>
        first
          | exact ⟨k + 1, by omega, by go_num, _, _, _, H5.out⟩
          | ((repeat apply Exists.intro); refine ⟨?_, rfl⟩; exact ⟨k + 1, by omega, by go_num, _, _, _, H5.out⟩)
      case measure => first | (simp [intOf]; done) | (simp [intOf]; omega)
    · have hki : ¬ (k : Int) < (n : Int) := by omega
      go_wp2_with fail
      refine (anchored_any _).mono ?_
      rintro e w4 ⟨rfl, hb⟩
      have h4 := hC.below hb
      clear hb hC
      go_wp2_with fail
      go_ret
      exact ⟨rfl, by (try rw [← hM]); (try rw [← hN]); exact h4.hL⟩
end Go.Proofs.Ytnhhibdkojgnlaa
