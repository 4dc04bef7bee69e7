/- What is proved: what Holds of the reference answers when it is called; what a joiner holds, without its slices; conditions: what the joiner holds is held. -/
import Derived.Test.YtnhhibdkojgnlaaFrag9
set_option linter.unusedSimpArgs false
set_option linter.unusedVariables false
namespace Go.Proofs.Ytnhhibdkojgnlaa
open Go.RowKit
set_option maxRecDepth 100000
set_option maxHeartbeats 8000000
theorem sum_take {L : List HP} {k : Nat} {p : HP} (h : L[k]? = some p) : ((L.take (k + 1)).map (·.bs.length)).sum = ((L.take k).map (·.bs.length)).sum + p.bs.length := by
  rw [List.take_add_one, h]
  simp
theorem rholds_any (R base : Nat) (s : JS) (v : Value) (w : World) (h : RW w R base s v) (hs : JOk s) : Calls Try.prog 11 #[.pointer (some ⟨R, 0, none⟩)] w fun e w' => e = .returned (.tuple #[.int .u64 s.id, .int .i64 (s.L.length : Nat), .int .i64 s.bytes]) ∧ Below w.heap.size w w' := by
  obtain ⟨q, hq⟩ : ∃ q, s.L.length = q := ⟨_, rfl⟩
  obtain ⟨by_, hby⟩ : ∃ b, s.bytes = b := ⟨_, rfl⟩
  rw [hq, hby]
  have HQ := Lib.hid hq
  have hl := hs.len
  obtain ⟨A, cap, hv, hrows⟩ := h.hP.slice
  rw [hq] at hv hl
  subst hv
  have H := Lib.hid h
  have HROW := Lib.hid hrows
  have HSUM := Lib.hid (hs.sum.symm.trans hby)
  have HPART := Lib.hid hs.part
  clear h hrows hq hby hs
  have c1 := H.out.cell.2.1
  go_enter Try.func11, Try.ntmps11
  go_wp2_with fail
  go_loopw [6, 5] (fun i a wr => ∃ k : Nat, k ≤ q ∧ i = .int .i64 k ∧ a = .int .i64 ((((s.L.take k).map (·.bs.length)).sum : Nat) : Int) ∧ wr = w) (fun i _ _ => q - (intOf i).toNat)
  case atStart => exact ⟨0, by omega, rfl, by simp, rfl⟩
  case round =>
    obtain ⟨k, hk, rfl, rfl, rfl⟩ := hrel
    by_cases hkq : k < q
    · have hki : (k : Int) < (q : Int) := by omega
      have hk0 : (0 : Int) ≤ (k : Int) := by omega
      obtain ⟨p, hp⟩ : ∃ p, s.L[k]? = some p := ⟨_, List.getElem?_eq_getElem (by rw [HQ.out]; exact hkq)⟩
      obtain ⟨g, cur, rfl, hg, hc⟩ := HROW.out k p hp
      have hmem := List.mem_of_getElem? hp
      have dn : wr.cell? ⟨g, k * 4 + 3, none⟩ = some p.v := (cell_of_row _ _ _ _ _ _ hg).trans (hc 3 _ rfl)
      obtain ⟨A3, c3, hv3⟩ := (H.out.hP.bytes p hmem).1.slice
      rw [hv3] at dn
      have hsl : ((s.L.take k).map (·.bs.length)).sum ≤ 1024 * k := by
        have h1 := sum_le (L := s.L.take k) (fun p hp => (HPART.out p (List.mem_of_mem_take hp)).1)
        have h2 : (s.L.take k).length ≤ k := List.length_take_le _ _
        exact Nat.le_trans h1 (Nat.mul_le_mul_left _ h2)
      have hpl := (HPART.out p hmem).1
      have HST := Lib.hid (sum_take hp)
      generalize ((s.L.take k).map (·.bs.length)).sum = a at *
      obtain ⟨z, hz⟩ : ∃ z, p.bs.length = z := ⟨_, rfl⟩
      rw [hz] at dn HST hpl
      have hwr : IntKind.i64.wrap ((a : Int) + (z : Int)) = (a : Int) + (z : Int) := IntWalk.i64_in _ (by omega)
      clear hp hg hc hmem hv3 hz
      go_wp2_with fail
      go_roundw
      case rel =>
        first
          | exact ⟨k + 1, by omega, by go_num, by rw [HST.out]; go_num, rfl⟩
          | exact ⟨k + 1, by omega, by go_num, by rw [HST.out]; go_num, trivial⟩
          | ((repeat apply Exists.intro); refine ⟨?_, rfl⟩; exact ⟨k + 1, by omega, by go_num, by rw [HST.out]; go_num, rfl⟩)
      case measure => first | (simp [intOf]; done) | (simp [intOf]; omega)
    · have hki : ¬ (k : Int) < (q : Int) := by omega
      have hsum : ((((s.L.take k).map (·.bs.length)).sum : Nat) : Int) = by_ := by
        rw [List.take_of_length_le (by rw [HQ.out]; omega)]
        exact HSUM.out
      rw [hsum]
      clear hsum
      go_wp2_with fail
      apply wp_region_eff _ _ (Inv.start0 wr fun _ => False) (hm := by kernel_rfl)
      case h =>
        (apply SeqF.pure; (focus (first | rfl | (go_simp; done) | (simp [Region.wanted, yielded]; done))); (focus (intro w; go_simp; with_reducible rfl)); go_simp)
        (apply SeqF.pure; (focus (first | rfl | (go_simp; done) | (simp [Region.wanted, yielded]; done))); (focus (intro w; go_simp; with_reducible rfl)); go_simp)
        (apply SeqF.pure; (focus (first | rfl | (go_simp; done) | (simp [Region.wanted, yielded]; done))); (focus (intro w; go_simp; with_reducible rfl)); go_simp)
        apply SeqF.read (v := .int .u64 s.id) []
        · (first | rfl | (go_simp; done) | (simp [Region.wanted, yielded]; done))
        · intro γ' W hg hI
          have x0 := (H.out.below hI.belowOf).cell.1
          go_simp
        go_simp
        (apply SeqF.pure; (focus (first | rfl | (go_simp; done) | (simp [Region.wanted, yielded]; done))); (focus (intro w; go_simp; with_reducible rfl)); go_simp)
        (apply SeqF.pure; (focus (first | rfl | (go_simp; done) | (simp [Region.wanted, yielded]; done))); (focus (intro w; go_simp; with_reducible rfl)); go_simp)
        (apply SeqF.pure; (focus (first | rfl | (go_simp; done) | (simp [Region.wanted, yielded]; done))); (focus (intro w; go_simp; with_reducible rfl)); go_simp)
        apply SeqF.read (v := .slice A q cap) []
        · (first | rfl | (go_simp; done) | (simp [Region.wanted, yielded]; done))
        · intro γ' W hg hI
          have x0 := (H.out.below hI.belowOf).cell.2.1
          go_simp
        go_simp
        (apply SeqF.pure; (focus (first | rfl | (go_simp; done) | (simp [Region.wanted, yielded]; done))); (focus (intro w; go_simp; with_reducible rfl)); go_simp)
        (apply SeqF.pure; (focus (first | rfl | (go_simp; done) | (simp [Region.wanted, yielded]; done))); (focus (intro w; go_simp; with_reducible rfl)); go_simp)
        (apply SeqF.pure; (focus (first | rfl | (go_simp; done) | (simp [Region.wanted, yielded]; done))); (focus (intro w; go_simp; with_reducible rfl)); go_simp)
        (apply SeqF.pure; (focus (first | rfl | (go_simp; done) | (simp [Region.wanted, yielded]; done))); (focus (intro w; go_simp; with_reducible rfl)); go_simp)
        (apply SeqF.pure; (focus (first | rfl | (go_simp; done) | (simp [Region.wanted, yielded]; done))); (focus (intro w; go_simp; with_reducible rfl)); go_simp)
        apply SeqF.done
        intro w9 hI9
        have HB := Lib.hid hI9.belowOf
        clear hI9
        go_simp
        go_wp2_with fail
        exact bodyPost_ret (v := .tuple #[.int .u64 s.id, .int .i64 (q : Nat), .int .i64 by_]) (by simp [results, Try.results11, go_sem]) rfl ⟨rfl, HB.out⟩
      case hl => rfl
      case ho => kernel_rfl
/-- A part without its slice. -/
def HP.er (p : HP) : HP := { p with v := .slice none 0 0 }
def erS (s : JS) : JS := { s with L := s.L.map HP.er }
theorem findL_er (n : Int) (L : List HP) : findL n (L.map HP.er) = (findL n L).map HP.er := by
  unfold findL
  induction L with
  | nil => rfl
  | cons p L ih =>
    rw [List.map_cons, List.find?_cons, List.find?_cons]
    have e : (p.er.n == n) = (p.n == n) := rfl
    rw [e]
    cases p.n == n
    · exact ih
    · rfl
theorem wholeF_er (L : List HP) : ∀ (f k : Nat) (acc : List Int), wholeF (L.map HP.er) f k acc = wholeF L f k acc
  | 0, _, _ => rfl
  | f + 1, k, acc => by
    unfold wholeF
    rw [findL_er]
    cases findL (k : Int) L with
    | none => rfl
    | some p =>
      show (if p.last then some (acc ++ p.bs) else wholeF (L.map HP.er) f (k + 1) (acc ++ p.bs)) = _
      rw [wholeF_er L f (k + 1) (acc ++ p.bs)]
theorem addS_er (s : JS) (p : HP) : addS (erS s) p.er = erS (addS s p) := by
  unfold addS
  have e : findL p.er.n (erS s).L = (findL p.n s.L).map HP.er := findL_er p.n s.L
  rw [e]
  cases findL p.n s.L with
  | none => simp [erS, HP.er]
  | some q => rfl
theorem freshS_er (s : JS) (id : Int) : freshS (erS s) id = erS (freshS s id) := by
  unfold freshS
  have e1 : (erS s).any = s.any := rfl
  have e2 : (erS s).id = s.id := rfl
  rw [e1, e2]
  split <;> rfl
theorem endS_er (s : JS) : endS (erS s) = erS (endS s) := by
  unfold endS
  have e : wholeF (erS s).L 256 0 [] = wholeF s.L 256 0 [] := wholeF_er s.L 256 0 []
  rw [e]
  split <;> rfl
theorem takeS_er (s : JS) (id : Int) (p : HP) : takeS (erS s) id p.er = erS (takeS s id p) := by
  unfold takeS
  have e1 : mayB p.er.n p.er.last p.er.bs.length = mayB p.n p.last p.bs.length := rfl
  have e2 : staleS (erS s) id = staleS s id := rfl
  rw [e1, e2, freshS_er, addS_er, endS_er]
  split
  · split <;> rfl
  · rfl
theorem takeR_er (s : JS) (id : Int) (p : HP) : takeR (erS s) id p.er = takeR s id p := by
  unfold takeR
  have e1 : mayB p.er.n p.er.last p.er.bs.length = mayB p.n p.last p.bs.length := rfl
  have e2 : staleS (erS s) id = staleS s id := rfl
  have e3 : wholeF (addS (freshS (erS s) id) p.er).L 256 0 [] = wholeF (addS (freshS s id) p).L 256 0 [] := by
    rw [freshS_er, addS_er]
    exact wholeF_er _ _ _ _
  rw [e1, e2, e3]
theorem take_sim {s t : JS} (h : erS s = erS t) (id n : Int) (last : Bool) (u v : Value) (bs : List Int) : erS (takeS s id ⟨n, last, u, bs⟩) = erS (takeS t id ⟨n, last, v, bs⟩) ∧ takeR s id ⟨n, last, u, bs⟩ = takeR t id ⟨n, last, v, bs⟩ := by
  have e : (⟨n, last, u, bs⟩ : HP).er = (⟨n, last, v, bs⟩ : HP).er := rfl
  exact ⟨by rw [← takeS_er, ← takeS_er, h, e], by rw [← takeR_er, ← takeR_er t, h, e]⟩
theorem JOk.take {s : JS} (h : JOk s) (id : Int) (p : HP) : JOk (takeS s id p) := by
  unfold takeS
  split
  · rename_i hm
    split
    · exact h
    · simp only [mayB, Bool.and_eq_true, decide_eq_true_eq] at hm
      exact ((h.fresh id).add hm.2.2.1 hm.1 hm.2.1).ends
  · exact h
end Go.Proofs.Ytnhhibdkojgnlaa
