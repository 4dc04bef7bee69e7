/- What is proved: what digit, another of package vt and slices.Contains answer when they are called; conditions: those typed. -/
import Derived.Test.YtecgipccippddaaVt3
set_option linter.unusedSimpArgs false
set_option linter.unusedVariables false
namespace Go.Proofs.Ytecgipccippddaa
open Go.RowKit
set_option maxRecDepth 100000
set_option maxHeartbeats 8000000
theorem digitS_of {s s1 : VS} (h : s1 = { s with ps := ps0 s }) (n : Int) : digitS s n = if s1.more then s1 else { s1 with ps := s1.ps.set (s1.ps.length - 1) (min (10 * s1.ps.getD (s1.ps.length - 1) 0 + n) 9999) } := by
  subst h
  unfold digitS
  split <;> rfl
theorem anotherS_of {s s1 : VS} (h : s1 = { s with ps := ps0 s }) : anotherS s = if 16 ≤ s1.ps.length then { s1 with more := true } else { s1 with ps := s1.ps ++ [0] } := by
  subst h
  unfold anotherS
  split <;> rfl
theorem ps0_some {s : VS} (h : s.ps.length ≠ 0) : s = { s with ps := ps0 s } := by
  have : ps0 s = s.ps := if_neg h
  rw [this]
theorem ps0_nil {s : VS} (h : s.ps.length = 0) : { s with ps := s.ps ++ [0] } = { s with ps := ps0 s } := by
  have : ps0 s = [0] := if_pos h
  rw [this, List.eq_nil_of_length_eq_zero h]
  rfl
theorem digit_any (P base : Nat) (s : VS) (vm vp vt : Value) (d : Int) (hd : 0 ≤ d ∧ d ≤ 9) (w : World) (h : PW w P base s vm vp vt) (ho : VOk s) (hbase : base ≤ w.heap.size) :
    Calls Try.prog 38 #[.pointer (some ⟨P, 0, none⟩), .int .i64 d] w fun e w' => e = .returned (.tuple #[]) ∧ PStep w w' P base (digitS s d) vm vp vt := by
  obtain ⟨A, cp, hvp⟩ := h.p.slice
  obtain ⟨n, hn⟩ : ∃ n, s.ps.length = n := ⟨_, rfl⟩
  have hn16 : n ≤ 16 := by rw [← hn]; exact ho.ps.1
  have HN := Lib.hid hn
  rw [hn] at hvp
  have HVP := Lib.hid hvp
  have H := Lib.hid h
  have HBASE := Lib.hid hbase
  have c3 : w.cell? ⟨P, 3, none⟩ = some (.slice A n cp) := by rw [← hvp]; exact h.cell rfl
  have hPl := lt_of_heap h.hP
  have HOK := Lib.hid ho
  clear h hn hvp hbase ho
  by_cases h0 : n = 0
  · have h0i : ((n : Int) == 0) = true := by simp [h0]
    have HN0 : Hid (s.ps.length = 0) := Lib.hid (by rw [HN.out]; exact h0)
    have HSS : Hid ({ s with ps := s.ps ++ [0] } = { s with ps := ps0 s }) := Lib.hid (ps0_nil HN0.out)
    clear h0
    go_enter Try.func38, Try.ntmps38
    obtain ⟨X1, hX1⟩ : ∃ X, w.heap.size = X := ⟨_, rfl⟩
    have HBX1 : Hid (Below w.heap.size w (w.alloc (.cells #[.int .i64 0] 3))) := Lib.hid (by (repeat' (first | (with_reducible exact Below.refl _ _) | (with_reducible assumption) | (with_reducible refine Below.alloc ?_ ?_ _) | (with_reducible refine below_setRow ?_ ?_ _) | (with_reducible refine bl_drew ?_) | (with_reducible refine bl_drewN ?_ _) | (with_reducible refine Below.setCell ?_ ?_ _) | (with_reducible refine bl_then ?_ ?_ hb) | (with_reducible refine bl_then ?_ ?_ hb1) | (with_reducible refine bl_then ?_ ?_ hb2) | (with_reducible refine bl_then ?_ ?_ hb3) | (with_reducible refine bl_then ?_ ?_ hb4) | (with_reducible refine bl_then ?_ ?_ hb5) | (with_reducible refine bl_then ?_ ?_ hb6) | (with_reducible refine bl_then ?_ ?_ hb7) | (with_reducible refine bl_then ?_ ?_ hb8) | (with_reducible exact Nat.le_refl _) | omega | (simp only [World.size_alloc, World.size_setCell, World.size_drew, size_setRow]; omega) | (simp; omega) | (simp; done))))
    have HBS1 : Hid (base ≤ (w.alloc (.cells #[.int .i64 0] 3)).heap.size) := Lib.hid (by have := HBASE.out; simp; omega)
    have HX1 : Hid ((w.alloc (.cells #[.int .i64 0] 3)).heap[X1]? = some (.cells #[.int .i64 0] 3 (0, 0))) := Lib.hid (by rw [← hX1]; exact heap_alloc_last _ _)
    have HOWN1 : Hid (OwK .i64 3 (w.alloc (.cells #[.int .i64 0] 3)) base (.slice A n cp) s.ps) := Lib.hid (by first | exact H.out.p.below HBX1.out | (rw [← HVP.out]; exact H.out.p.below HBX1.out))
    have HLEN1 : Hid (s.ps.length ≤ 1000000) := Lib.hid (by have := HN.out; omega)
    go_wp2_with (at_builtin; refine wpList_app_i (base := base) rfl _ _ rfl (.slice A n cp) s.ps 0 X1 rfl HOWN1.out rfl HX1.out HLEN1.out HBS1.out ?_)
    intro v1 w1 k1 k2 k4
    try rw [← HVP.out] at k2 k4
    have G := PStep.grow_p H.out HBX1.out k1 k2 (fun b hb => k4.elim (fun e => .inl (e ▸ hb)) (fun e => .inr (by rw [e] at hb; simp only [Option.some.injEq] at hb; omega)))
    obtain ⟨A1, c1, hv1⟩ := k1.slice
    obtain ⟨n1, hn1⟩ : ∃ m, (s.ps ++ [0]).length = m := ⟨_, rfl⟩
    rw [hn1] at hv1
    subst hv1
    have d3 : w1.cell? ⟨P, 3, none⟩ = some vp := (cell_of_row _ _ _ _ _ _ G.1).trans rfl
    have hfz1 : w1.frozen? ⟨P, 3, none⟩ = false := frozen_of_row w1 P 3 _ _ G.1
    have HG1 := Lib.hid G.2
    clear k1 k2 k4 G
    obtain ⟨W1, hW1⟩ : ∃ W, w1.setCell ⟨P, 3, none⟩ (.slice A1 n1 c1) = W := ⟨_, rfl⟩
    have hg1 := HG1.out
    rw [hW1] at hg1
    obtain ⟨s1, hs1⟩ : ∃ s1 : VS, s1 = { s with ps := s.ps ++ [0] } := ⟨_, rfl⟩
    have hps1 : s1.ps = s.ps ++ [0] := by rw [hs1]
    rw [← hs1] at hg1 HSS
    have H1 : Hid (PW W1 P base s1 vm (.slice A1 n1 c1) vt) := Lib.hid hg1.1
    have HI : Hid (Inv w (PB P vm vp vt) gh0 W1) := Lib.hid hg1.2.1
    have HNB : Hid (∀ g, PB P vm (.slice A1 n1 c1) vt g → PB P vm vp vt g ∨ w.heap.size ≤ g) := Lib.hid hg1.2.2
    have HLP : Hid (s1.ps.length = n1 ∧ 0 < n1 ∧ n1 ≤ 17) := Lib.hid ⟨by rw [hps1]; exact hn1, by rw [← hn1]; simp, by rw [← hn1]; simp [HN.out]; omega⟩
    have HPS : Hid (∀ x ∈ s1.ps, 0 ≤ x ∧ x ≤ 9999) := Lib.hid (by
      intro x hx
      rw [hps1] at hx
      rcases List.mem_append.1 hx with hx | hx
      · exact HOK.out.ps.2 x hx
      · obtain rfl := List.mem_singleton.1 hx
        omega)
    clear hg1 HG1 hn1 hs1 hps1
    as_aux_lemma =>
      obtain ⟨b, hb⟩ : ∃ b, s1.more = b := ⟨_, rfl⟩
      have c6 : W1.cell? ⟨P, 6, none⟩ = some (.bool b) := by rw [← hb]; exact H1.out.cell rfl
      cases b with
      | true =>
        have HF : Hid (PStep w W1 P base (digitS s d) vm vp vt) := Lib.hid (by
          rw [digitS_of HSS.out d, if_pos hb]
          exact ⟨_, _, _, H1.out, HI.out, HNB.out⟩)
        clear hb
        go_wp2_with fail
        exact bodyPost_end (v := .tuple #[]) (results_none rfl _ _ _) rfl ⟨rfl, HF.out⟩
      | false =>
        obtain ⟨g, gc, hgv, hgc⟩ := H1.out.p.cell (i := s1.ps.length - 1) (by have := HLP.out; omega)
        obtain ⟨i, hi⟩ : ∃ i, s1.ps.length - 1 = i := ⟨_, rfl⟩
        have hnm : n1 = i + 1 := by have := HLP.out; omega
        have hn117 : n1 ≤ 17 := HLP.out.2.2
        obtain ⟨x, hx⟩ : ∃ x, s1.ps.getD i 0 = x := ⟨_, rfl⟩
        rw [hi, hx] at hgc
        have hgv' : (Value.slice A1 n1 c1) = .slice (some ⟨g, 0, none⟩) n1 gc := by rw [hgv]; congr 1 <;> exact HLP.out.1
        have hx9 : 0 ≤ x ∧ x ≤ 9999 := by rw [← hx]; exact getD_ok (HPS.out)
        obtain ⟨y, hy⟩ : ∃ y, min (10 * x + d) 9999 = y := ⟨_, rfl⟩
        have HB := Lib.hid hb
        have hy1 : (if (9999 : Int) < 10 * x + d then (9999 : Int) else 10 * x + d) = y := by rw [← hy]; split <;> omega
        have hy2 : (if 10 * x + d < (9999 : Int) then 10 * x + d else (9999 : Int)) = y := by rw [← hy]; split <;> omega
        have hw1 : IntKind.i64.wrap (10 * x) = 10 * x := IntWalk.i64_in _ (by omega)
        have hw2 : IntKind.i64.wrap (10 * x + d) = 10 * x + d := IntWalk.i64_in _ (by omega)
        have hwi : IntKind.i64.wrap ((n1 : Int) - 1) = (i : Int) := (IntWalk.i64_in _ (by omega)).trans (by omega)
        have hil : (i : Int) < (n1 : Int) := by omega
        have hi0 : (0 : Int) ≤ (i : Int) := by omega
        have HC3 : Hid (W1.cell? ⟨P, 3, none⟩ = some (.slice (some ⟨g, 0, none⟩) n1 gc)) := Lib.hid (by rw [← hgv']; exact H1.out.cell rfl)
        have c3' := HC3.out
        have hPW := lt_of_heap H1.out.hP
        have HGV := Lib.hid hgv
        have HGC := Lib.hid hgc
        have HXI : Hid (s1.ps.length - 1 = i ∧ s1.ps.getD i 0 = x ∧ min (10 * x + d) 9999 = y) := Lib.hid ⟨hi, hx, hy⟩
        clear hb hgv hgv' hi hnm hx hy hgc
        go_wp2_with fail
        apply wp_region_eff _ _ (Inv.start0 W1 fun _ => False) (hm := by kernel_rfl)
        case h =>
          (apply SeqF.pure; (focus (first | rfl | (go_simp; done) | (simp [Region.wanted, yielded]; done))); (focus (intro w; go_simp; with_reducible rfl)); go_simp)
          (apply SeqF.pure; (focus (first | rfl | (go_simp; done) | (simp [Region.wanted, yielded]; done))); (focus (intro w; go_simp; with_reducible rfl)); go_simp)
          (apply SeqF.pure; (focus (first | rfl | (go_simp; done) | (simp [Region.wanted, yielded]; done))); (focus (intro w; go_simp; with_reducible rfl)); go_simp)
          (apply SeqF.pure; (focus (first | rfl | (go_simp; done) | (simp [Region.wanted, yielded]; done))); (focus (intro w; go_simp; with_reducible rfl)); go_simp)
          apply SeqF.read (v := .slice (some ⟨g, 0, none⟩) n1 gc) []
          · (first | rfl | (go_simp; done) | (simp [Region.wanted, yielded]; done))
          · intro γ' W hg hI
            have x0 : W.cell? ⟨P, 3, none⟩ = some (.slice (some ⟨g, 0, none⟩) n1 gc) := (cell_same (hI.far P hPW (fun h => h))).trans HC3.out
            go_simp
          go_simp
          (apply SeqF.pure; (focus (first | rfl | (go_simp; done) | (simp [Region.wanted, yielded]; done))); (focus (intro w; go_simp; with_reducible rfl)); go_simp)
          (apply SeqF.pure; (focus (first | rfl | (go_simp; done) | (simp [Region.wanted, yielded]; done))); (focus (intro w; go_simp; with_reducible rfl)); go_simp)
          (apply SeqF.pure; (focus (first | rfl | (go_simp; done) | (simp [Region.wanted, yielded]; done))); (focus (intro w; go_simp; with_reducible rfl)); go_simp)
          (apply SeqF.pure; (focus (first | rfl | (go_simp; done) | (simp [Region.wanted, yielded]; done))); (focus (intro w; go_simp; with_reducible rfl)); go_simp)
          apply SeqF.read (v := .slice (some ⟨g, 0, none⟩) n1 gc) []
          · (first | rfl | (go_simp; done) | (simp [Region.wanted, yielded]; done))
          · intro γ' W hg hI
            have x0 : W.cell? ⟨P, 3, none⟩ = some (.slice (some ⟨g, 0, none⟩) n1 gc) := (cell_same (hI.far P hPW (fun h => h))).trans HC3.out
            go_simp
          go_simp
          (apply SeqF.pure; (focus (first | rfl | (go_simp; done) | (simp [Region.wanted, yielded]; done))); (focus (intro w; go_simp; with_reducible rfl)); go_simp)
          (apply SeqF.pure; (focus (first | rfl | (go_simp; done) | (simp [Region.wanted, yielded]; done))); (focus (intro w; go_simp; with_reducible rfl)); go_simp)
          (apply SeqF.pure; (focus (first | rfl | (go_simp; done) | (simp [Region.wanted, yielded]; done))); (focus (intro w; go_simp; with_reducible rfl)); go_simp)
          (apply SeqF.pure; (focus (first | rfl | (go_simp; done) | (simp [Region.wanted, yielded]; done))); (focus (intro w; go_simp; with_reducible rfl)); go_simp)
          apply SeqF.done
          intro w9 hI9
          have hbl := hI9.belowOf
          have H9 := H1.out.below hbl
          have HF : Hid (PStep w (w9.setCell ⟨g, i, none⟩ (.int .i64 y)) P base (digitS s d) vm vp vt) := Lib.hid (by
            rw [digitS_of HSS.out d, if_neg (by rw [HB.out]; simp), HXI.out.1, HXI.out.2.1, HXI.out.2.2]
            exact PStep.then (HI.out.then (Inv.ofBelow (S := fun _ => False) hbl) (fun g hg _ => hg.elim)) HNB.out (PStep.elem H9 HGV.out y))
          have dx : w9.cell? ⟨g, i, none⟩ = some (.int .i64 x) := ((bcell hbl).1 g _ (block_lt_of_cell HGC.out)).trans HGC.out
          have hfg : w9.frozen? ⟨g, i, none⟩ = false := by
            obtain ⟨_, cur, hh⟩ := H9.p.blk (b := g) (by rw [HGV.out]; rfl)
            exact frozen_of_row w9 g i _ _ hh
          clear hbl H9 hI9 c3' c6
          go_simp
          go_wp2_with fail
          exact bodyPost_end (v := .tuple #[]) (results_none rfl _ _ _) rfl ⟨rfl, HF.out⟩
        case hl => rfl
        case ho => kernel_rfl
  · have h0i : ((n : Int) == 0) = false := by simpa using h0
    have HSS : Hid (s = { s with ps := ps0 s }) := Lib.hid (ps0_some (by rw [HN.out]; exact h0))
    have HI : Hid (Inv w (PB P vm vp vt) gh0 w) := Lib.hid (Inv.ofBelow (Below.refl _ _))
    have HNB : Hid (∀ g, PB P vm vp vt g → PB P vm vp vt g ∨ w.heap.size ≤ g) := Lib.hid (fun g hg => .inl hg)
    have HLP : Hid (s.ps.length = n ∧ 0 < n ∧ n ≤ 17) := Lib.hid ⟨HN.out, by omega, by omega⟩
    have HPS : Hid (∀ x ∈ s.ps, 0 ≤ x ∧ x ≤ 9999) := Lib.hid HOK.out.ps.2
    go_enter Try.func38, Try.ntmps38
    as_aux_lemma =>
      obtain ⟨b, hb⟩ : ∃ b, s.more = b := ⟨_, rfl⟩
      have c6 : w.cell? ⟨P, 6, none⟩ = some (.bool b) := by rw [← hb]; exact H.out.cell rfl
      cases b with
      | true =>
        have HF : Hid (PStep w w P base (digitS s d) vm vp vt) := Lib.hid (by
          rw [digitS_of HSS.out d, if_pos hb]
          exact ⟨_, _, _, H.out, HI.out, HNB.out⟩)
        clear hb
        go_wp2_with fail
        exact bodyPost_end (v := .tuple #[]) (results_none rfl _ _ _) rfl ⟨rfl, HF.out⟩
      | false =>
        obtain ⟨g, gc, hgv, hgc⟩ := H.out.p.cell (i := s.ps.length - 1) (by have := HLP.out; omega)
        obtain ⟨i, hi⟩ : ∃ i, s.ps.length - 1 = i := ⟨_, rfl⟩
        have hnm : n = i + 1 := by have := HLP.out; omega
        have hn17 : n ≤ 17 := HLP.out.2.2
        obtain ⟨x, hx⟩ : ∃ x, s.ps.getD i 0 = x := ⟨_, rfl⟩
        rw [hi, hx] at hgc
        have hgv' : vp = .slice (some ⟨g, 0, none⟩) n gc := by rw [hgv]; congr 1 <;> exact HLP.out.1
        have hx9 : 0 ≤ x ∧ x ≤ 9999 := by rw [← hx]; exact getD_ok (HPS.out)
        obtain ⟨y, hy⟩ : ∃ y, min (10 * x + d) 9999 = y := ⟨_, rfl⟩
        have HB := Lib.hid hb
        have hy1 : (if (9999 : Int) < 10 * x + d then (9999 : Int) else 10 * x + d) = y := by rw [← hy]; split <;> omega
        have hy2 : (if 10 * x + d < (9999 : Int) then 10 * x + d else (9999 : Int)) = y := by rw [← hy]; split <;> omega
        have hw1 : IntKind.i64.wrap (10 * x) = 10 * x := IntWalk.i64_in _ (by omega)
        have hw2 : IntKind.i64.wrap (10 * x + d) = 10 * x + d := IntWalk.i64_in _ (by omega)
        have hwi : IntKind.i64.wrap ((n : Int) - 1) = (i : Int) := (IntWalk.i64_in _ (by omega)).trans (by omega)
        have hil : (i : Int) < (n : Int) := by omega
        have hi0 : (0 : Int) ≤ (i : Int) := by omega
        have HC3 : Hid (w.cell? ⟨P, 3, none⟩ = some (.slice (some ⟨g, 0, none⟩) n gc)) := Lib.hid (by rw [← hgv']; exact H.out.cell rfl)
        have c3' := HC3.out
        have hPW := lt_of_heap H.out.hP
        have HGV := Lib.hid hgv
        have HGC := Lib.hid hgc
        have HXI : Hid (s.ps.length - 1 = i ∧ s.ps.getD i 0 = x ∧ min (10 * x + d) 9999 = y) := Lib.hid ⟨hi, hx, hy⟩
        clear hb hgv hgv' hi hnm hx hy hgc
        go_wp2_with fail
        apply wp_region_eff _ _ (Inv.start0 w fun _ => False) (hm := by kernel_rfl)
        case h =>
          (apply SeqF.pure; (focus (first | rfl | (go_simp; done) | (simp [Region.wanted, yielded]; done))); (focus (intro w; go_simp; with_reducible rfl)); go_simp)
          (apply SeqF.pure; (focus (first | rfl | (go_simp; done) | (simp [Region.wanted, yielded]; done))); (focus (intro w; go_simp; with_reducible rfl)); go_simp)
          (apply SeqF.pure; (focus (first | rfl | (go_simp; done) | (simp [Region.wanted, yielded]; done))); (focus (intro w; go_simp; with_reducible rfl)); go_simp)
          (apply SeqF.pure; (focus (first | rfl | (go_simp; done) | (simp [Region.wanted, yielded]; done))); (focus (intro w; go_simp; with_reducible rfl)); go_simp)
          apply SeqF.read (v := .slice (some ⟨g, 0, none⟩) n gc) []
          · (first | rfl | (go_simp; done) | (simp [Region.wanted, yielded]; done))
          · intro γ' W hg hI
            have x0 : W.cell? ⟨P, 3, none⟩ = some (.slice (some ⟨g, 0, none⟩) n gc) := (cell_same (hI.far P hPW (fun h => h))).trans HC3.out
            go_simp
          go_simp
          (apply SeqF.pure; (focus (first | rfl | (go_simp; done) | (simp [Region.wanted, yielded]; done))); (focus (intro w; go_simp; with_reducible rfl)); go_simp)
          (apply SeqF.pure; (focus (first | rfl | (go_simp; done) | (simp [Region.wanted, yielded]; done))); (focus (intro w; go_simp; with_reducible rfl)); go_simp)
          (apply SeqF.pure; (focus (first | rfl | (go_simp; done) | (simp [Region.wanted, yielded]; done))); (focus (intro w; go_simp; with_reducible rfl)); go_simp)
          (apply SeqF.pure; (focus (first | rfl | (go_simp; done) | (simp [Region.wanted, yielded]; done))); (focus (intro w; go_simp; with_reducible rfl)); go_simp)
          apply SeqF.read (v := .slice (some ⟨g, 0, none⟩) n gc) []
          · (first | rfl | (go_simp; done) | (simp [Region.wanted, yielded]; done))
          · intro γ' W hg hI
            have x0 : W.cell? ⟨P, 3, none⟩ = some (.slice (some ⟨g, 0, none⟩) n gc) := (cell_same (hI.far P hPW (fun h => h))).trans HC3.out
            go_simp
          go_simp
          (apply SeqF.pure; (focus (first | rfl | (go_simp; done) | (simp [Region.wanted, yielded]; done))); (focus (intro w; go_simp; with_reducible rfl)); go_simp)
          (apply SeqF.pure; (focus (first | rfl | (go_simp; done) | (simp [Region.wanted, yielded]; done))); (focus (intro w; go_simp; with_reducible rfl)); go_simp)
          (apply SeqF.pure; (focus (first | rfl | (go_simp; done) | (simp [Region.wanted, yielded]; done))); (focus (intro w; go_simp; with_reducible rfl)); go_simp)
          (apply SeqF.pure; (focus (first | rfl | (go_simp; done) | (simp [Region.wanted, yielded]; done))); (focus (intro w; go_simp; with_reducible rfl)); go_simp)
          apply SeqF.done
          intro w9 hI9
          have hbl := hI9.belowOf
          have H9 := H.out.below hbl
          have HF : Hid (PStep w (w9.setCell ⟨g, i, none⟩ (.int .i64 y)) P base (digitS s d) vm vp vt) := Lib.hid (by
            rw [digitS_of HSS.out d, if_neg (by rw [HB.out]; simp), HXI.out.1, HXI.out.2.1, HXI.out.2.2]
            exact PStep.then (HI.out.then (Inv.ofBelow (S := fun _ => False) hbl) (fun g hg _ => hg.elim)) HNB.out (PStep.elem H9 HGV.out y))
          have dx : w9.cell? ⟨g, i, none⟩ = some (.int .i64 x) := ((bcell hbl).1 g _ (block_lt_of_cell HGC.out)).trans HGC.out
          have hfg : w9.frozen? ⟨g, i, none⟩ = false := by
            obtain ⟨_, cur, hh⟩ := H9.p.blk (b := g) (by rw [HGV.out]; rfl)
            exact frozen_of_row w9 g i _ _ hh
          clear hbl H9 hI9 c3' c6
          go_simp
          go_wp2_with fail
          exact bodyPost_end (v := .tuple #[]) (results_none rfl _ _ _) rfl ⟨rfl, HF.out⟩
        case hl => rfl
        case ho => kernel_rfl
theorem another_any (P base : Nat) (s : VS) (vm vp vt : Value) (w : World) (h : PW w P base s vm vp vt) (ho : VOk s) (hbase : base ≤ w.heap.size) :
    Calls Try.prog 39 #[.pointer (some ⟨P, 0, none⟩)] w fun e w' => e = .returned (.tuple #[]) ∧ PStep w w' P base (anotherS s) vm vp vt := by
  obtain ⟨A, cp, hvp⟩ := h.p.slice
  obtain ⟨n, hn⟩ : ∃ n, s.ps.length = n := ⟨_, rfl⟩
  have hn16 : n ≤ 16 := by rw [← hn]; exact ho.ps.1
  have HN := Lib.hid hn
  rw [hn] at hvp
  have HVP := Lib.hid hvp
  have H := Lib.hid h
  have HBASE := Lib.hid hbase
  have c3 : w.cell? ⟨P, 3, none⟩ = some (.slice A n cp) := by rw [← hvp]; exact h.cell rfl
  have hPl := lt_of_heap h.hP
  have HOK := Lib.hid ho
  clear h hn hvp hbase ho
  by_cases h0 : n = 0
  · have h0i : ((n : Int) == 0) = true := by simp [h0]
    have HN0 : Hid (s.ps.length = 0) := Lib.hid (by rw [HN.out]; exact h0)
    have HSS : Hid ({ s with ps := s.ps ++ [0] } = { s with ps := ps0 s }) := Lib.hid (ps0_nil HN0.out)
    clear h0
    go_enter Try.func39, Try.ntmps39
    obtain ⟨X1, hX1⟩ : ∃ X, w.heap.size = X := ⟨_, rfl⟩
    have HBX1 : Hid (Below w.heap.size w (w.alloc (.cells #[.int .i64 0] 3))) := Lib.hid (by (repeat' (first | (with_reducible exact Below.refl _ _) | (with_reducible assumption) | (with_reducible refine Below.alloc ?_ ?_ _) | (with_reducible refine below_setRow ?_ ?_ _) | (with_reducible refine bl_drew ?_) | (with_reducible refine bl_drewN ?_ _) | (with_reducible refine Below.setCell ?_ ?_ _) | (with_reducible refine bl_then ?_ ?_ hb) | (with_reducible refine bl_then ?_ ?_ hb1) | (with_reducible refine bl_then ?_ ?_ hb2) | (with_reducible refine bl_then ?_ ?_ hb3) | (with_reducible refine bl_then ?_ ?_ hb4) | (with_reducible refine bl_then ?_ ?_ hb5) | (with_reducible refine bl_then ?_ ?_ hb6) | (with_reducible refine bl_then ?_ ?_ hb7) | (with_reducible refine bl_then ?_ ?_ hb8) | (with_reducible exact Nat.le_refl _) | omega | (simp only [World.size_alloc, World.size_setCell, World.size_drew, size_setRow]; omega) | (simp; omega) | (simp; done))))
    have HBS1 : Hid (base ≤ (w.alloc (.cells #[.int .i64 0] 3)).heap.size) := Lib.hid (by have := HBASE.out; simp; omega)
    have HX1 : Hid ((w.alloc (.cells #[.int .i64 0] 3)).heap[X1]? = some (.cells #[.int .i64 0] 3 (0, 0))) := Lib.hid (by rw [← hX1]; exact heap_alloc_last _ _)
    have HOWN1 : Hid (OwK .i64 3 (w.alloc (.cells #[.int .i64 0] 3)) base (.slice A n cp) s.ps) := Lib.hid (by first | exact H.out.p.below HBX1.out | (rw [← HVP.out]; exact H.out.p.below HBX1.out))
    have HLEN1 : Hid (s.ps.length ≤ 1000000) := Lib.hid (by have := HN.out; omega)
    go_wp2_with (at_builtin; refine wpList_app_i (base := base) rfl _ _ rfl (.slice A n cp) s.ps 0 X1 rfl HOWN1.out rfl HX1.out HLEN1.out HBS1.out ?_)
    intro v1 w1 k1 k2 k4
    try rw [← HVP.out] at k2 k4
    have G := PStep.grow_p H.out HBX1.out k1 k2 (fun b hb => k4.elim (fun e => .inl (e ▸ hb)) (fun e => .inr (by rw [e] at hb; simp only [Option.some.injEq] at hb; omega)))
    obtain ⟨A1, c1, hv1⟩ := k1.slice
    obtain ⟨n1, hn1⟩ : ∃ m, (s.ps ++ [0]).length = m := ⟨_, rfl⟩
    rw [hn1] at hv1
    subst hv1
    have d3 : w1.cell? ⟨P, 3, none⟩ = some vp := (cell_of_row _ _ _ _ _ _ G.1).trans rfl
    have hfz1 : w1.frozen? ⟨P, 3, none⟩ = false := frozen_of_row w1 P 3 _ _ G.1
    have HG1 := Lib.hid G.2
    clear k1 k2 k4 G
    obtain ⟨W1, hW1⟩ : ∃ W, w1.setCell ⟨P, 3, none⟩ (.slice A1 n1 c1) = W := ⟨_, rfl⟩
    have hg1 := HG1.out
    rw [hW1] at hg1
    obtain ⟨s1, hs1⟩ : ∃ s1 : VS, s1 = { s with ps := s.ps ++ [0] } := ⟨_, rfl⟩
    have hps1 : s1.ps = s.ps ++ [0] := by rw [hs1]
    rw [← hs1] at hg1 HSS
    have H1 : Hid (PW W1 P base s1 vm (.slice A1 n1 c1) vt) := Lib.hid hg1.1
    have HI : Hid (Inv w (PB P vm vp vt) gh0 W1) := Lib.hid hg1.2.1
    have HNB : Hid (∀ g, PB P vm (.slice A1 n1 c1) vt g → PB P vm vp vt g ∨ w.heap.size ≤ g) := Lib.hid hg1.2.2
    have HLP : Hid (s1.ps.length = n1 ∧ 0 < n1 ∧ n1 ≤ 17) := Lib.hid ⟨by rw [hps1]; exact hn1, by rw [← hn1]; simp, by rw [← hn1]; simp [HN.out]; omega⟩
    have HPS : Hid (∀ x ∈ s1.ps, 0 ≤ x ∧ x ≤ 9999) := Lib.hid (by
      intro x hx
      rw [hps1] at hx
      rcases List.mem_append.1 hx with hx | hx
      · exact HOK.out.ps.2 x hx
      · obtain rfl := List.mem_singleton.1 hx
        omega)
    clear hg1 HG1 hn1 hs1 hps1
    have HN1 : Hid (s1.ps.length = n1) := Lib.hid HLP.out.1
    have HVP1 : Hid (Value.slice A1 n1 c1 = .slice A1 n1 c1) := Lib.hid rfl
    have HBASE1 : Hid (base ≤ W1.heap.size) := Lib.hid (Nat.le_trans HBASE.out HI.out.size)
    have c31 : W1.cell? ⟨P, 3, none⟩ = some (.slice A1 n1 c1) := H1.out.cell rfl
    have hPl1 := lt_of_heap H1.out.hP
    as_aux_lemma =>
      by_cases h16 : 16 ≤ n1
      · have h16i : (16 : Int) ≤ (n1 : Int) := by omega
        have HMO : Hid ((pcells s1 vm (Value.slice A1 n1 c1) vt).setIfInBounds 6 (.bool true) = pcells { s1 with more := true } vm (Value.slice A1 n1 c1) vt) := Lib.hid rfl
        have c6 : W1.cell? ⟨P, 6, none⟩ = some (.bool s1.more) := H1.out.cell rfl
        have hf6 : W1.frozen? ⟨P, 6, none⟩ = false := frozen_of_row W1 P 6 _ _ H1.out.hP
        have HF : Hid (PStep w (W1.setCell ⟨P, 6, none⟩ (.bool true)) P base (anotherS s) vm vp vt) := Lib.hid (by
          rw [anotherS_of HSS.out, if_pos (by rw [HLP.out.1]; exact h16)]
          exact PStep.then HI.out HNB.out (PStep.set H1.out HMO.out rfl rfl rfl))
        go_wp2_with fail
        exact bodyPost_ret (v := .tuple #[]) (results_none rfl _ _ _) rfl ⟨rfl, HF.out⟩
      · have h16i : ¬ (16 : Int) ≤ (n1 : Int) := by omega
        obtain ⟨X2, hX2⟩ : ∃ X, W1.heap.size = X := ⟨_, rfl⟩
        have HBX2 : Hid (Below W1.heap.size W1 (W1.alloc (.cells #[.int .i64 0] 3))) := Lib.hid (by (repeat' (first | (with_reducible exact Below.refl _ _) | (with_reducible assumption) | (with_reducible refine Below.alloc ?_ ?_ _) | (with_reducible refine below_setRow ?_ ?_ _) | (with_reducible refine bl_drew ?_) | (with_reducible refine bl_drewN ?_ _) | (with_reducible refine Below.setCell ?_ ?_ _) | (with_reducible refine bl_then ?_ ?_ hb) | (with_reducible refine bl_then ?_ ?_ hb1) | (with_reducible refine bl_then ?_ ?_ hb2) | (with_reducible refine bl_then ?_ ?_ hb3) | (with_reducible refine bl_then ?_ ?_ hb4) | (with_reducible refine bl_then ?_ ?_ hb5) | (with_reducible refine bl_then ?_ ?_ hb6) | (with_reducible refine bl_then ?_ ?_ hb7) | (with_reducible refine bl_then ?_ ?_ hb8) | (with_reducible exact Nat.le_refl _) | omega | (simp only [World.size_alloc, World.size_setCell, World.size_drew, size_setRow]; omega) | (simp; omega) | (simp; done))))
        have HBS2 : Hid (base ≤ (W1.alloc (.cells #[.int .i64 0] 3)).heap.size) := Lib.hid (by have := HBASE1.out; simp; omega)
        have HX2 : Hid ((W1.alloc (.cells #[.int .i64 0] 3)).heap[X2]? = some (.cells #[.int .i64 0] 3 (0, 0))) := Lib.hid (by rw [← hX2]; exact heap_alloc_last _ _)
        have HOWN2 : Hid (OwK .i64 3 (W1.alloc (.cells #[.int .i64 0] 3)) base (.slice A1 n1 c1) s1.ps) := Lib.hid (by first | exact H1.out.p.below HBX2.out | (rw [← HVP1.out]; exact H1.out.p.below HBX2.out))
        have HLEN2 : Hid (s1.ps.length ≤ 1000000) := Lib.hid (by have := HN1.out; omega)
        go_wp2_with (at_builtin; refine wpList_app_i (base := base) rfl _ _ rfl (.slice A1 n1 c1) s1.ps 0 X2 rfl HOWN2.out rfl HX2.out HLEN2.out HBS2.out ?_)
        intro v2 w2 k1 k2 k4
        try rw [← HVP1.out] at k2 k4
        have G := PStep.grow_p H1.out HBX2.out k1 k2 (fun b hb => k4.elim (fun e => .inl (e ▸ hb)) (fun e => .inr (by rw [e] at hb; simp only [Option.some.injEq] at hb; omega)))
        obtain ⟨A2, c2, hv2⟩ := k1.slice
        obtain ⟨n2, hn2⟩ : ∃ m, (s1.ps ++ [0]).length = m := ⟨_, rfl⟩
        rw [hn2] at hv2
        subst hv2
        have d3 : w2.cell? ⟨P, 3, none⟩ = some (Value.slice A1 n1 c1) := (cell_of_row _ _ _ _ _ _ G.1).trans rfl
        have hfz2 : w2.frozen? ⟨P, 3, none⟩ = false := frozen_of_row w2 P 3 _ _ G.1
        have HG2 := Lib.hid G.2
        clear k1 k2 k4 G
        have HF : Hid (PStep w (w2.setCell ⟨P, 3, none⟩ (.slice A2 n2 c2)) P base (anotherS s) vm vp vt) := Lib.hid (by
          rw [anotherS_of HSS.out, if_neg (by rw [HLP.out.1]; exact h16)]
          exact PStep.then HI.out HNB.out ⟨_, _, _, HG2.out⟩)
        go_wp2_with fail
        exact bodyPost_end (v := .tuple #[]) (results_none rfl _ _ _) rfl ⟨rfl, HF.out⟩
  · have h0i : ((n : Int) == 0) = false := by simpa using h0
    have HSS : Hid (s = { s with ps := ps0 s }) := Lib.hid (ps0_some (by rw [HN.out]; exact h0))
    have HI : Hid (Inv w (PB P vm vp vt) gh0 w) := Lib.hid (Inv.ofBelow (Below.refl _ _))
    have HNB : Hid (∀ g, PB P vm vp vt g → PB P vm vp vt g ∨ w.heap.size ≤ g) := Lib.hid (fun g hg => .inl hg)
    have HLP : Hid (s.ps.length = n ∧ 0 < n ∧ n ≤ 17) := Lib.hid ⟨HN.out, by omega, by omega⟩
    go_enter Try.func39, Try.ntmps39
    as_aux_lemma =>
      by_cases h16 : 16 ≤ n
      · have h16i : (16 : Int) ≤ (n : Int) := by omega
        have HMO : Hid ((pcells s vm vp vt).setIfInBounds 6 (.bool true) = pcells { s with more := true } vm vp vt) := Lib.hid rfl
        have c6 : w.cell? ⟨P, 6, none⟩ = some (.bool s.more) := H.out.cell rfl
        have hf6 : w.frozen? ⟨P, 6, none⟩ = false := frozen_of_row w P 6 _ _ H.out.hP
        have HF : Hid (PStep w (w.setCell ⟨P, 6, none⟩ (.bool true)) P base (anotherS s) vm vp vt) := Lib.hid (by
          rw [anotherS_of HSS.out, if_pos (by rw [HLP.out.1]; exact h16)]
          exact PStep.then HI.out HNB.out (PStep.set H.out HMO.out rfl rfl rfl))
        go_wp2_with fail
        exact bodyPost_ret (v := .tuple #[]) (results_none rfl _ _ _) rfl ⟨rfl, HF.out⟩
      · have h16i : ¬ (16 : Int) ≤ (n : Int) := by omega
        obtain ⟨X2, hX2⟩ : ∃ X, w.heap.size = X := ⟨_, rfl⟩
        have HBX2 : Hid (Below w.heap.size w (w.alloc (.cells #[.int .i64 0] 3))) := Lib.hid (by (repeat' (first | (with_reducible exact Below.refl _ _) | (with_reducible assumption) | (with_reducible refine Below.alloc ?_ ?_ _) | (with_reducible refine below_setRow ?_ ?_ _) | (with_reducible refine bl_drew ?_) | (with_reducible refine bl_drewN ?_ _) | (with_reducible refine Below.setCell ?_ ?_ _) | (with_reducible refine bl_then ?_ ?_ hb) | (with_reducible refine bl_then ?_ ?_ hb1) | (with_reducible refine bl_then ?_ ?_ hb2) | (with_reducible refine bl_then ?_ ?_ hb3) | (with_reducible refine bl_then ?_ ?_ hb4) | (with_reducible refine bl_then ?_ ?_ hb5) | (with_reducible refine bl_then ?_ ?_ hb6) | (with_reducible refine bl_then ?_ ?_ hb7) | (with_reducible refine bl_then ?_ ?_ hb8) | (with_reducible exact Nat.le_refl _) | omega | (simp only [World.size_alloc, World.size_setCell, World.size_drew, size_setRow]; omega) | (simp; omega) | (simp; done))))
        have HBS2 : Hid (base ≤ (w.alloc (.cells #[.int .i64 0] 3)).heap.size) := Lib.hid (by have := HBASE.out; simp; omega)
        have HX2 : Hid ((w.alloc (.cells #[.int .i64 0] 3)).heap[X2]? = some (.cells #[.int .i64 0] 3 (0, 0))) := Lib.hid (by rw [← hX2]; exact heap_alloc_last _ _)
        have HOWN2 : Hid (OwK .i64 3 (w.alloc (.cells #[.int .i64 0] 3)) base (.slice A n cp) s.ps) := Lib.hid (by first | exact H.out.p.below HBX2.out | (rw [← HVP.out]; exact H.out.p.below HBX2.out))
        have HLEN2 : Hid (s.ps.length ≤ 1000000) := Lib.hid (by have := HN.out; omega)
        go_wp2_with (at_builtin; refine wpList_app_i (base := base) rfl _ _ rfl (.slice A n cp) s.ps 0 X2 rfl HOWN2.out rfl HX2.out HLEN2.out HBS2.out ?_)
        intro v2 w2 k1 k2 k4
        try rw [← HVP.out] at k2 k4
        have G := PStep.grow_p H.out HBX2.out k1 k2 (fun b hb => k4.elim (fun e => .inl (e ▸ hb)) (fun e => .inr (by rw [e] at hb; simp only [Option.some.injEq] at hb; omega)))
        obtain ⟨A2, c2, hv2⟩ := k1.slice
        obtain ⟨n2, hn2⟩ : ∃ m, (s.ps ++ [0]).length = m := ⟨_, rfl⟩
        rw [hn2] at hv2
        subst hv2
        have d3 : w2.cell? ⟨P, 3, none⟩ = some vp := (cell_of_row _ _ _ _ _ _ G.1).trans rfl
        have hfz2 : w2.frozen? ⟨P, 3, none⟩ = false := frozen_of_row w2 P 3 _ _ G.1
        have HG2 := Lib.hid G.2
        clear k1 k2 k4 G
        have HF : Hid (PStep w (w2.setCell ⟨P, 3, none⟩ (.slice A2 n2 c2)) P base (anotherS s) vm vp vt) := Lib.hid (by
          rw [anotherS_of HSS.out, if_neg (by rw [HLP.out.1]; exact h16)]
          exact PStep.then HI.out HNB.out ⟨_, _, _, HG2.out⟩)
        go_wp2_with fail
        exact bodyPost_end (v := .tuple #[]) (results_none rfl _ _ _) rfl ⟨rfl, HF.out⟩
theorem index_any (A : Option Addr) (n cap : Nat) (xs : List Int) (c : Int) (w : World) (h : RdI w .i32 A n xs) (hl : n ≤ 1000) :
    Calls Try.prog 41 #[.slice A n cap, .int .i32 c] w fun e w' => (∃ r : Int, e = .returned (.int .i64 r) ∧ (0 ≤ r ↔ c ∈ xs)) ∧ w' = w := by
  have hn := h.len
  have HN := Lib.hid hn
  have H := Lib.hid h
  clear h hn
  go_enter Try.func41, Try.ntmps41
  go_wp2_with fail
  go_loop [8] (fun i => ∃ k : Nat, k ≤ n ∧ i = .int .i64 k ∧ Hid (∀ j, j < k → xs.getD j 0 ≠ c)) (fun i => n - (intOf i).toNat)
  case atStart => exact ⟨0, by omega, rfl, Lib.hid (fun j hj => by omega)⟩
  case round =>
    obtain ⟨k, hk, rfl, HK⟩ := hrel
    by_cases hkn : k < n
    · have hki : (k : Int) < (n : Int) := by omega
      have hk0 : (0 : Int) ≤ (k : Int) := by omega
      obtain ⟨b, off, hA, hc⟩ := H.out.2 (by omega)
      have dx := hc k hkn
      subst hA
      obtain ⟨x, hx0⟩ : ∃ x, xs.getD k 0 = x := ⟨_, rfl⟩
      rw [hx0] at dx
      have HX0 := Lib.hid hx0
      clear hx0
      by_cases hx : x = c
      · have hxe : (c == x) = true := by rw [hx]; simp
        have HM : Hid (c ∈ xs) := Lib.hid (by
          rw [← hx, ← HX0.out, List.getD_eq_getElem?_getD, List.getElem?_eq_getElem (by rw [HN.out]; exact hkn)]
          exact List.getElem_mem _)
        clear hc hx
        go_wp2_with fail
        go_ret
        exact ⟨⟨_, rfl, ⟨fun _ => HM.out, fun _ => by omega⟩⟩, rfl⟩
      · have hxe : (c == x) = false := by simpa using fun e => hx e.symm
        have HK2 : Hid (∀ j, j < k + 1 → xs.getD j 0 ≠ c) := Lib.hid (fun j hj => by
          rcases (by omega : j < k ∨ j = k) with h | rfl
          · exact HK.out j h
          · rw [HX0.out]; exact hx)
        clear hc hx
        go_wp2_with fail
        go_round
        case rel =>
          first
            | exact ⟨k + 1, by omega, by go_num, HK2⟩
            | ((repeat apply Exists.intro); refine ⟨?_, rfl⟩; exact ⟨k + 1, by omega, by go_num, HK2⟩)
        case measure => first | (simp [intOf]; done) | (simp [intOf]; omega)
    · have hki : ¬ (k : Int) < (n : Int) := by omega
      have HM : Hid (c ∉ xs) := Lib.hid (fun hm => by
        obtain ⟨j, hj, e⟩ := List.mem_iff_getElem.1 hm
        refine HK.out j (by have := HN.out; omega) ?_
        rw [List.getD_eq_getElem?_getD, List.getElem?_eq_getElem hj]
        exact e)
      go_wp2_with fail
      go_ret
      exact ⟨⟨_, rfl, ⟨fun h => by omega, fun h => (HM.out h).elim⟩⟩, rfl⟩
theorem contains_any (A : Option Addr) (n cap : Nat) (xs : List Int) (c : Int) (w : World) (h : RdI w .i32 A n xs) (hl : n ≤ 1000) :
    Calls Try.prog 37 #[.slice A n cap, .int .i32 c] w fun e w' => e = .returned (.bool (decide (c ∈ xs))) ∧ w' = w := by
  have H := Lib.hid h
  clear h
  obtain ⟨m, hm⟩ : ∃ m, decide (c ∈ xs) = m := ⟨_, rfl⟩
  rw [hm]
  have HM := Lib.hid hm
  clear hm
  go_enter Try.func37, Try.ntmps37
  go_wp2_with fail
  refine (index_any A n cap xs c w H.out hl).mono ?_
  rintro e w1 ⟨⟨r, rfl, hr⟩, rfl⟩
  by_cases h0 : 0 ≤ r
  · obtain rfl : m = true := by rw [← HM.out]; exact decide_eq_true (hr.1 h0)
    have hd : decide (0 ≤ r) = true := decide_eq_true h0
    clear hr HM
    go_wp2_with fail
    go_ret
    exact ⟨rfl, rfl⟩
  · obtain rfl : m = false := by rw [← HM.out]; exact decide_eq_false (fun h => h0 (hr.2 h))
    have hd : decide (0 ≤ r) = false := decide_eq_false h0
    clear hr HM
    go_wp2_with fail
    go_ret
    exact ⟨rfl, rfl⟩
end Go.Proofs.Ytecgipccippddaa
