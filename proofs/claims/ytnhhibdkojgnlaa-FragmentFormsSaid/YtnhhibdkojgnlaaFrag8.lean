/- What is proved: what May, has and Holds of the reference answer when they are called; conditions: those typed. -/
import Derived.Test.YtnhhibdkojgnlaaFrag7
set_option linter.unusedSimpArgs false
set_option linter.unusedVariables false
namespace Go.Proofs.Ytnhhibdkojgnlaa
open Go.RowKit
set_option maxRecDepth 100000
set_option maxHeartbeats 8000000
theorem rmay_any (id n : Int) (last : Bool) (v : Value) (bs : List Int) (w : World) (hv : BB w v bs) : Calls Try.prog 22 #[partV id n last v] w fun e w' => e = .returned (.bool (mayB n last bs.length)) ∧ Below w.heap.size w w' := by
  obtain ⟨k1, k2, A, cap, rfl, hr, k3, k4, k5⟩ := hv
  clear hr k1
  unfold partV
  have fin : ∀ b : Bool, mayB n last bs.length = b → (Calls Try.prog 22 #[.agg #[.int .u64 id, .int .i64 n, .bool last, .slice A bs.length cap]] w fun e w' => e = .returned (.bool b) ∧ Below w.heap.size w w') → Calls Try.prog 22 #[.agg #[.int .u64 id, .int .i64 n, .bool last, .slice A bs.length cap]] w fun e w' => e = .returned (.bool (mayB n last bs.length)) ∧ Below w.heap.size w w' := fun b h1 h2 => by rw [h1]; exact h2
  obtain ⟨k, hk⟩ : ∃ k, bs.length = k := ⟨_, rfl⟩
  rw [hk] at fin ⊢
  by_cases h0 : 0 ≤ n
  · by_cases h1 : n < 256
    · by_cases h2 : k ≤ 1024
      · have h2i : (k : Int) ≤ 1024 := by omega
        cases last
        · by_cases h3 : 0 < k
          · have h3i : (0 : Int) < (k : Int) := by omega
            refine fin true (by simp [mayB, *]) ?_
            clear fin
            (go_enter Try.func22, Try.ntmps22; go_wp2_with fail; go_ret; exact ⟨rfl, by (repeat' (first | (with_reducible exact Below.refl _ _) | (with_reducible assumption) | (with_reducible refine Below.alloc ?_ ?_ _) | (with_reducible refine below_setRow ?_ ?_ _) | (with_reducible refine bl_drew ?_) | (with_reducible refine bl_drewN ?_ _) | (with_reducible refine Below.setCell ?_ ?_ _) | (with_reducible refine bl_then ?_ ?_ hb) | (with_reducible refine bl_then ?_ ?_ hb1) | (with_reducible refine bl_then ?_ ?_ hb2) | (with_reducible refine bl_then ?_ ?_ hb3) | (with_reducible refine bl_then ?_ ?_ hb4) | (with_reducible refine bl_then ?_ ?_ hb5) | (with_reducible refine bl_then ?_ ?_ hb6) | (with_reducible refine bl_then ?_ ?_ hb7) | (with_reducible refine bl_then ?_ ?_ hb8) | (with_reducible exact Nat.le_refl _) | omega | (simp only [World.size_alloc, World.size_setCell, World.size_drew, size_setRow]; omega) | (simp; omega) | (simp; done)))⟩)
          · have h3i : ¬ (0 : Int) < (k : Int) := by omega
            refine fin false (by simp [mayB]; omega) ?_
            clear fin
            (go_enter Try.func22, Try.ntmps22; go_wp2_with fail; go_ret; exact ⟨rfl, by (repeat' (first | (with_reducible exact Below.refl _ _) | (with_reducible assumption) | (with_reducible refine Below.alloc ?_ ?_ _) | (with_reducible refine below_setRow ?_ ?_ _) | (with_reducible refine bl_drew ?_) | (with_reducible refine bl_drewN ?_ _) | (with_reducible refine Below.setCell ?_ ?_ _) | (with_reducible refine bl_then ?_ ?_ hb) | (with_reducible refine bl_then ?_ ?_ hb1) | (with_reducible refine bl_then ?_ ?_ hb2) | (with_reducible refine bl_then ?_ ?_ hb3) | (with_reducible refine bl_then ?_ ?_ hb4) | (with_reducible refine bl_then ?_ ?_ hb5) | (with_reducible refine bl_then ?_ ?_ hb6) | (with_reducible refine bl_then ?_ ?_ hb7) | (with_reducible refine bl_then ?_ ?_ hb8) | (with_reducible exact Nat.le_refl _) | omega | (simp only [World.size_alloc, World.size_setCell, World.size_drew, size_setRow]; omega) | (simp; omega) | (simp; done)))⟩)
        · refine fin true (by simp [mayB, *]) ?_
          clear fin
          (go_enter Try.func22, Try.ntmps22; go_wp2_with fail; go_ret; exact ⟨rfl, by (repeat' (first | (with_reducible exact Below.refl _ _) | (with_reducible assumption) | (with_reducible refine Below.alloc ?_ ?_ _) | (with_reducible refine below_setRow ?_ ?_ _) | (with_reducible refine bl_drew ?_) | (with_reducible refine bl_drewN ?_ _) | (with_reducible refine Below.setCell ?_ ?_ _) | (with_reducible refine bl_then ?_ ?_ hb) | (with_reducible refine bl_then ?_ ?_ hb1) | (with_reducible refine bl_then ?_ ?_ hb2) | (with_reducible refine bl_then ?_ ?_ hb3) | (with_reducible refine bl_then ?_ ?_ hb4) | (with_reducible refine bl_then ?_ ?_ hb5) | (with_reducible refine bl_then ?_ ?_ hb6) | (with_reducible refine bl_then ?_ ?_ hb7) | (with_reducible refine bl_then ?_ ?_ hb8) | (with_reducible exact Nat.le_refl _) | omega | (simp only [World.size_alloc, World.size_setCell, World.size_drew, size_setRow]; omega) | (simp; omega) | (simp; done)))⟩)
      · have h2i : ¬ (k : Int) ≤ 1024 := by omega
        refine fin false (by simp [mayB]; omega) ?_
        clear fin
        (go_enter Try.func22, Try.ntmps22; go_wp2_with fail; go_ret; exact ⟨rfl, by (repeat' (first | (with_reducible exact Below.refl _ _) | (with_reducible assumption) | (with_reducible refine Below.alloc ?_ ?_ _) | (with_reducible refine below_setRow ?_ ?_ _) | (with_reducible refine bl_drew ?_) | (with_reducible refine bl_drewN ?_ _) | (with_reducible refine Below.setCell ?_ ?_ _) | (with_reducible refine bl_then ?_ ?_ hb) | (with_reducible refine bl_then ?_ ?_ hb1) | (with_reducible refine bl_then ?_ ?_ hb2) | (with_reducible refine bl_then ?_ ?_ hb3) | (with_reducible refine bl_then ?_ ?_ hb4) | (with_reducible refine bl_then ?_ ?_ hb5) | (with_reducible refine bl_then ?_ ?_ hb6) | (with_reducible refine bl_then ?_ ?_ hb7) | (with_reducible refine bl_then ?_ ?_ hb8) | (with_reducible exact Nat.le_refl _) | omega | (simp only [World.size_alloc, World.size_setCell, World.size_drew, size_setRow]; omega) | (simp; omega) | (simp; done)))⟩)
    · refine fin false (by simp [mayB]; omega) ?_
      clear fin
      (go_enter Try.func22, Try.ntmps22; go_wp2_with fail; go_ret; exact ⟨rfl, by (repeat' (first | (with_reducible exact Below.refl _ _) | (with_reducible assumption) | (with_reducible refine Below.alloc ?_ ?_ _) | (with_reducible refine below_setRow ?_ ?_ _) | (with_reducible refine bl_drew ?_) | (with_reducible refine bl_drewN ?_ _) | (with_reducible refine Below.setCell ?_ ?_ _) | (with_reducible refine bl_then ?_ ?_ hb) | (with_reducible refine bl_then ?_ ?_ hb1) | (with_reducible refine bl_then ?_ ?_ hb2) | (with_reducible refine bl_then ?_ ?_ hb3) | (with_reducible refine bl_then ?_ ?_ hb4) | (with_reducible refine bl_then ?_ ?_ hb5) | (with_reducible refine bl_then ?_ ?_ hb6) | (with_reducible refine bl_then ?_ ?_ hb7) | (with_reducible refine bl_then ?_ ?_ hb8) | (with_reducible exact Nat.le_refl _) | omega | (simp only [World.size_alloc, World.size_setCell, World.size_drew, size_setRow]; omega) | (simp; omega) | (simp; done)))⟩)
  · refine fin false (by simp [mayB]; omega) ?_
    clear fin
    (go_enter Try.func22, Try.ntmps22; go_wp2_with fail; go_ret; exact ⟨rfl, by (repeat' (first | (with_reducible exact Below.refl _ _) | (with_reducible assumption) | (with_reducible refine Below.alloc ?_ ?_ _) | (with_reducible refine below_setRow ?_ ?_ _) | (with_reducible refine bl_drew ?_) | (with_reducible refine bl_drewN ?_ _) | (with_reducible refine Below.setCell ?_ ?_ _) | (with_reducible refine bl_then ?_ ?_ hb) | (with_reducible refine bl_then ?_ ?_ hb1) | (with_reducible refine bl_then ?_ ?_ hb2) | (with_reducible refine bl_then ?_ ?_ hb3) | (with_reducible refine bl_then ?_ ?_ hb4) | (with_reducible refine bl_then ?_ ?_ hb5) | (with_reducible refine bl_then ?_ ?_ hb6) | (with_reducible refine bl_then ?_ ?_ hb7) | (with_reducible refine bl_then ?_ ?_ hb8) | (with_reducible exact Nat.le_refl _) | omega | (simp only [World.size_alloc, World.size_setCell, World.size_drew, size_setRow]; omega) | (simp; omega) | (simp; done)))⟩)
/-- The reference's joiner. -/
structure RW (w : World) (R base : Nat) (s : JS) (v : Value) : Prop where
  hR : w.heap[R]? = some (.cells #[.int .u64 s.id, v, .bool s.any, .bool s.ended] 27 (0, 0))
  hP : OwP w base v s.id s.L
  lt : R < base
theorem RW.below {w w1 : World} {R base : Nat} {s : JS} {v : Value} (h : RW w R base s v) (hb : Below w.heap.size w w1) : RW w1 R base s v :=
  ⟨(hb.block R (lt_of_heap h.hR)).trans h.hR, h.hP.below hb, h.lt⟩
theorem RW.cell {w : World} {R base : Nat} {s : JS} {v : Value} (h : RW w R base s v) : w.cell? ⟨R, 0, none⟩ = some (.int .u64 s.id) ∧ w.cell? ⟨R, 1, none⟩ = some v ∧ w.cell? ⟨R, 2, none⟩ = some (.bool s.any) ∧ w.cell? ⟨R, 3, none⟩ = some (.bool s.ended) :=
  ⟨(cell_of_row _ _ _ _ _ _ h.hR).trans rfl, (cell_of_row _ _ _ _ _ _ h.hR).trans rfl, (cell_of_row _ _ _ _ _ _ h.hR).trans rfl, (cell_of_row _ _ _ _ _ _ h.hR).trans rfl⟩
theorem OwP.slice {w : World} {base : Nat} {v : Value} {id : Int} {P : List HP} (h : OwP w base v id P) : ∃ A cap, v = .slice A P.length cap ∧ ∀ k p, P[k]? = some p → ∃ g cur, A = some ⟨g, 0, none⟩ ∧ w.heap[g]? = some (.cells cur 33 (0, 0)) ∧ ∀ j u, (prow id p).toList[j]? = some u → cur[k * 4 + j]? = some u := by
  rcases Nat.eq_zero_or_pos P.length with h0 | h0
  · obtain ⟨_, ⟨h1, h2⟩ | ⟨g, cap, cur, h1, _⟩⟩ := h.row
    · exact ⟨none, 0, by rw [h1, h2], fun k p hk => by rw [List.length_eq_zero_iff.1 h0] at hk; simp at hk⟩
    · exact ⟨_, _, h1, fun k p hk => by rw [List.length_eq_zero_iff.1 h0] at hk; simp at hk⟩
  · obtain ⟨g, cap, cur, h1, _, hh, hc⟩ := h.cells h0
    exact ⟨_, _, h1, fun k p hk => ⟨g, cur, rfl, hh, hc k p hk⟩⟩
theorem results_cs {fn : Func} {p q : Tmp} {ty : TypeId} (h : fn.results = #[.cell p ty, .tmp q]) {tmps : Array Value} {w : World} {g : Nat} {v : Value} (hp : tmps.getD p undef = .pointer (some ⟨g, 0, none⟩)) (hl : (loadVar ty ⟨g, 0, none⟩).run Try.prog w = .ok v w) :
    (results fn tmps).run Try.prog w = .ok (.tuple #[v, tmps.getD q undef]) w := by
  have hp' : tmps[p]?.getD undef = .pointer (some ⟨g, 0, none⟩) := by rw [← hp]; simp
  simp only [results, h]
  simp [Sem.run_bind, Result.andThen, hp', asAddr, hl]
def hasV (id : Int) : Option HP → Value
  | some p => .agg (prow id p)
  | none => .agg #[.int .u64 0, .int .i64 0, .bool false, .slice none 0 0]
theorem findL_drop {n : Int} {L : List HP} {i : Nat} {p : HP} (h : L[i]? = some p) : findL n (L.drop i) = if p.n = n then some p else findL n (L.drop (i + 1)) := by
  obtain ⟨hi, e⟩ := List.getElem?_eq_some_iff.1 h
  rw [List.drop_eq_getElem_cons hi, e]
  unfold findL
  rw [List.find?_cons]
  by_cases hn : p.n = n
  · simp [hn]
  · have : (p.n == n) = false := by simpa using hn
    rw [this, if_neg hn]
theorem rhas_any (R base : Nat) (s : JS) (v : Value) (n : Int) (w : World) (h : RW w R base s v) (hl : s.L.length ≤ 1000000) : Calls Try.prog 27 #[.pointer (some ⟨R, 0, none⟩), .int .i64 n] w fun e w' => e = .returned (.tuple #[hasV s.id (findL n s.L), .bool (findL n s.L).isSome]) ∧ Below w.heap.size w w' := by
  obtain ⟨r, hr⟩ : ∃ r, findL n s.L = r := ⟨_, rfl⟩
  rw [hr]
  obtain ⟨rv, hrv⟩ : ∃ rv, hasV s.id r = rv := ⟨_, rfl⟩
  rw [hrv]
  have HRV := Lib.hid hrv
  obtain ⟨q, hq⟩ : ∃ q, s.L.length = q := ⟨_, rfl⟩
  have HQ := Lib.hid hq
  obtain ⟨A, cap, hv, hrows⟩ := h.hP.slice
  rw [hq] at hv hl
  subst hv
  have H := Lib.hid h
  have HROW := Lib.hid hrows
  clear h hrows hq hrv
  obtain ⟨X, hX⟩ : ∃ X, w.heap.size = X := ⟨_, rfl⟩
  obtain ⟨V, hV⟩ : ∃ V, w.alloc (.cells #[.int .u64 0, .int .i64 0, .bool false, .slice none 0 0] 33) = V := ⟨_, rfl⟩
  have HB : Hid (Below w.heap.size w V) := Lib.hid (by rw [← hV]; (repeat' (first | (with_reducible exact Below.refl _ _) | (with_reducible assumption) | (with_reducible refine Below.alloc ?_ ?_ _) | (with_reducible refine below_setRow ?_ ?_ _) | (with_reducible refine bl_drew ?_) | (with_reducible refine bl_drewN ?_ _) | (with_reducible refine Below.setCell ?_ ?_ _) | (with_reducible refine bl_then ?_ ?_ hb) | (with_reducible refine bl_then ?_ ?_ hb1) | (with_reducible refine bl_then ?_ ?_ hb2) | (with_reducible refine bl_then ?_ ?_ hb3) | (with_reducible refine bl_then ?_ ?_ hb4) | (with_reducible refine bl_then ?_ ?_ hb5) | (with_reducible refine bl_then ?_ ?_ hb6) | (with_reducible refine bl_then ?_ ?_ hb7) | (with_reducible refine bl_then ?_ ?_ hb8) | (with_reducible exact Nat.le_refl _) | omega | (simp only [World.size_alloc, World.size_setCell, World.size_drew, size_setRow]; omega) | (simp; omega) | (simp; done))))
  have HXV : Hid (V.heap[X]? = some (.cells #[.int .u64 0, .int .i64 0, .bool false, .slice none 0 0] 33 (0, 0))) := Lib.hid (by rw [← hV, ← hX]; exact heap_alloc_last _ _)
  have c1 := (H.out.below HB.out).cell.2.1
  have hz : ∀ w, (zeroValue 33).run Try.prog w = .ok (.agg #[.int .u64 0, .int .i64 0, .bool false, .slice none 0 0]) w := zero_part
  go_enter Try.func27, Try.ntmps27
  go_wp2_with fail
  try rw [hV]
  try rw [hX]
  clear hV
  go_loopw [6] (fun i wr => ∃ k : Nat, k ≤ q ∧ i = .int .i64 k ∧ Hid (findL n (s.L.drop k) = r) ∧ wr = V) (fun i _ => q - (intOf i).toNat)
  case atStart => exact ⟨0, by omega, rfl, Lib.hid (by rw [List.drop_zero]; exact hr), rfl⟩
  case round =>
    obtain ⟨k, hk, rfl, HF, rfl⟩ := hrel
    clear hr
    by_cases hkq : k < q
    · have hki : (k : Int) < (q : Int) := by omega
      have hk0 : (0 : Int) ≤ (k : Int) := by omega
      obtain ⟨p, hp⟩ : ∃ p, s.L[k]? = some p := ⟨_, List.getElem?_eq_getElem (by rw [HQ.out]; exact hkq)⟩
      obtain ⟨g, cur, rfl, hg0, hc⟩ := HROW.out k p hp
      have hg := (HB.out.block g (lt_of_heap hg0)).trans hg0
      have HBP := Lib.hid (H.out.hP.bytes p (List.mem_of_getElem? hp))
      have dn : wr.cell? ⟨g, k * 4 + 1, none⟩ = some (.int .i64 p.n) := (cell_of_row _ _ _ _ _ _ hg).trans (hc 1 _ rfl)
      have hF2 := HF.out
      rw [findL_drop hp] at hF2
      by_cases hn : p.n = n
      · have hnb : (p.n == n) = true := by simpa using hn
        rw [if_pos hn] at hF2
        subst hF2
        have HO : Hid ((prow s.id p).all (·.oneCell') = true) := Lib.hid (prow_one (HBP.out.1.rd HBP.out.2.1 HBP.out.2.2))
        clear HF hp hg0 HBP hn
        go_wp2_with (first | (with_reducible refine wpList_ldM (row := prow s.id p) partInfo partRow rfl (.tmp 31) rfl rfl hg hc ?_) | (with_reducible refine wpList_stB (row := prow s.id p) partInfo HO.out rfl (.tmp 4) (.tmp 32) rfl rfl rfl HXV.out rfl ?_))
        refine bodyPost_ret (v := .tuple #[.agg (prow s.id p), .bool true]) ?_ rfl ⟨by rw [← HRV.out]; rfl, below_setRow HB.out (by omega) _⟩
        exact results_cs (fn := Try.f27) Try.results27 rfl (run_loadVar_blk partInfo partRow (setRow_heap _ _ _ _ _ _ HXV.out))
      · have hnb : (p.n == n) = false := by simpa using hn
        rw [if_neg hn] at hF2
        have HF2 := Lib.hid hF2
        clear HF hp hg0 HBP hn hF2 hc hg
        go_wp2_with fail
        go_roundw
        case rel =>
          first
            | exact ⟨k + 1, by omega, by go_num, HF2, rfl⟩
            | exact ⟨k + 1, by omega, by go_num, HF2, trivial⟩
            | ((repeat apply Exists.intro); refine ⟨?_, rfl⟩; exact ⟨k + 1, by omega, by go_num, HF2, rfl⟩)
        case measure => first | (simp [intOf]; done) | (simp [intOf]; omega)
    · have hki : ¬ (k : Int) < (q : Int) := by omega
      have hr2 : r = none := by
        rw [← HF.out, List.drop_eq_nil_iff.2 (by rw [HQ.out]; omega)]
        rfl
      subst hr2
      go_wp2_with (first | (with_reducible refine wpList_stB (row := #[.int .u64 0, .int .i64 0, .bool false, .slice none 0 0]) partInfo (by simp [Value.oneCell']) rfl (.tmp 4) (.tmp 33) rfl rfl rfl HXV.out rfl ?_))
      refine bodyPost_ret (v := .tuple #[.agg #[.int .u64 0, .int .i64 0, .bool false, .slice none 0 0], .bool false]) ?_ rfl ⟨by rw [← HRV.out]; rfl, below_setRow HB.out (by omega) _⟩
      exact results_cs (fn := Try.f27) Try.results27 rfl (run_loadVar_blk partInfo partRow (setRow_heap _ _ _ _ _ _ HXV.out))
end Go.Proofs.Ytnhhibdkojgnlaa
