/- What is proved: what WriteEvents of package wire answers when it is called; conditions: the events read as they are said to. -/
import Derived.Test.YtgkiedbefogklaaWire8
import Derived.Test.YtgkiedbefogklaaGrow
set_option linter.unusedSimpArgs false
set_option linter.unusedVariables false
namespace Go.Proofs.Ytgkiedbefogklaa
open Go.RowKit
set_option maxRecDepth 100000
set_option maxHeartbeats 4000000
/-- An event's form behind its kind. -/
def tailS (e : Event) : List Int :=
  if e.kind = 2 then uintB e.cols.toNat ++ uintB e.rows.toNat else if e.kind = 4 then [e.arrow] else uintB e.bs.length ++ e.bs
def evS (e : Event) : List Int := e.kind :: tailS e
/-- The bytes of a list of events, the first k of them. -/
def evP (E : List Event) (k : Nat) : List Int := uintB E.length ++ (E.take k).flatMap evS
theorem evP_next {E : List Event} {k : Nat} (h : k < E.length) : evP E (k + 1) = evP E k ++ evS (E.getD k zE) := by
  unfold evP
  rw [List.take_add_one, List.getElem?_eq_getElem h, List.getD_eq_getElem?_getD, List.getElem?_eq_getElem h, List.flatMap_append, ← List.append_assoc]
  simp
theorem evP_len {E : List Event} : ∀ (j k : Nat), k + j ≤ E.length → (evP E k).length ≤ (evP E (k + j)).length
  | 0, k, _ => Nat.le_refl _
  | j + 1, k, h => by
    have h1 := evP_len (E := E) j k (by omega)
    rw [← Nat.add_assoc, evP_next (by omega), List.length_append]
    omega
def writeEvS (E : List Event) : List Int × Nat :=
  if E.any (fun e => !mayS e) = true then ([], 2) else if 65536 < (evP E E.length).length ∨ 4096 < E.length then ([], 4) else (evP E E.length, 0)
theorem mayS_ok {e : Event} (h : mayS e = true) : (e.kind = 1 ∧ e.bs.length ≤ 4096) ∨ (e.kind = 2 ∧ (1 ≤ e.cols ∧ e.cols ≤ 512) ∧ 1 ≤ e.rows ∧ e.rows ≤ 512) ∨ (e.kind = 3 ∧ e.bs.length ≤ 4096) ∨ (e.kind = 4 ∧ 65 ≤ e.arrow ∧ e.arrow ≤ 68) := by
  unfold mayS mayB at h
  split at h
  · simp at h; omega
  · split at h
    · simp at h; omega
    · split at h
      · simp at h; omega
      · split at h
        · simp at h; omega
        · cases h
/-- A round of WriteEvents: the bytes, and the event's own block. -/
structure Round (w W : World) (Ob : Nat) (v : Value) (xs : List Int) (u : Value) (e : Event) : Prop where
  own : OwB W w.heap.size v xs
  apart : v.ownBlock ≠ some Ob
  blk : W.heap[Ob]? = some (.cells #[.int .u8 e.kind, u, .int .i64 e.cols, .int .i64 e.rows, .int .u8 e.arrow] 48 (0, 0))
  below : Below w.heap.size w W
  base : w.heap.size ≤ Ob
section
variable {w W W' : World} {Ob : Nat} {v v' u : Value} {xs ys : List Int} {e : Event}
theorem Round.lt (h : Round w W Ob v xs u e) : Ob < W.heap.size := lt_of_heap h.blk
theorem Round.ext (h : Round w W Ob v xs u e) (hb : Below W.heap.size W W') : Round w W' Ob v xs u e :=
  ⟨h.own.below hb, h.apart, (hb.block _ h.lt).trans h.blk, bl_then h.below h.below.size hb, h.base⟩
theorem Round.grown (h : Round w W Ob v xs u e) (hg : W.grownBy W' v.ownBlock) (ho : OwB W' w.heap.size v' ys) (hown : v'.ownBlock ≠ some Ob) : Round w W' Ob v' ys u e :=
  ⟨ho, hown, (hg.block _ h.lt (fun e => h.apart e.symm)).trans h.blk, h.below.grown hg h.below.size (fun q hq => (World.ownsRow.lt h.own q hq).1), h.base⟩
theorem Round.own1 (h : Round w W Ob v xs u e) (hown : v'.ownBlock = v.ownBlock ∨ v'.ownBlock = some W.heap.size) : v'.ownBlock ≠ some Ob := by
  have hlt := h.lt
  rcases hown with e | e
  · rw [e]; exact h.apart
  · rw [e]
    intro e2
    injection e2 with e2
    omega
theorem Round.own2 (h : Round w W Ob v xs u e) {x' : Option (Nat × Obj)} (hx : OwXB v' x' ys) (hown : ∀ g o, x' = some (g, o) → v.ownBlock = some g ∨ W.heap.size ≤ g) : v'.ownBlock ≠ some Ob := by
  have hlt := h.lt
  intro hh
  rw [hx.block] at hh
  match x', hh with
  | some (g, o), hh =>
    simp only [Option.map_some, Option.some.injEq] at hh
    subst hh
    rcases hown _ _ rfl with h1 | h1
    · exact h.apart h1
    · omega
theorem Round.cells (h : Round w W Ob v xs u e) : W.cell? ⟨Ob, 0, none⟩ = some (.int .u8 e.kind) ∧ W.cell? ⟨Ob, 1, none⟩ = some u ∧ W.cell? ⟨Ob, 2, none⟩ = some (.int .i64 e.cols) ∧ W.cell? ⟨Ob, 3, none⟩ = some (.int .i64 e.rows) ∧ W.cell? ⟨Ob, 4, none⟩ = some (.int .u8 e.arrow) :=
  ⟨(cell_of_row W Ob 0 _ _ (0, 0) h.blk).trans rfl, (cell_of_row W Ob 1 _ _ (0, 0) h.blk).trans rfl, (cell_of_row W Ob 2 _ _ (0, 0) h.blk).trans rfl, (cell_of_row W Ob 3 _ _ (0, 0) h.blk).trans rfl, (cell_of_row W Ob 4 _ _ (0, 0) h.blk).trans rfl⟩
end
theorem writeevents_any (v : Value) (E : List Event) (w : World) (h : EvL w v E) :
    Calls Try.prog 22 #[v] w fun e w' => (∃ u, e = .returned (.tuple #[u, .int .i64 (writeEvS E).2]) ∧ OwB w' w.heap.size u (writeEvS E).1) ∧ Below w.heap.size w w' := by
  have HE := Lib.hid h
  obtain ⟨hlen, A, cap, rfl, hnc, hlc, hcm, hi⟩ := h
  have HI := Lib.hid hi
  clear hi
  have hcf := fun W hW => containsfunc_any (.slice A E.length cap) E W hW
  by_cases hbad : E.any (fun e => !mayS e) = true
  · have HS : Hid (writeEvS E = ([], 2)) := Lib.hid (if_pos hbad)
    go_enter Try.func22, Try.ntmps22
    go_wp2_with fail
    refine (hcf _ HE.out).mono ?_
    rintro en w1 ⟨rfl, hb⟩
    have HB := Lib.hid hb
    clear hb
    rw [hbad]
    go_wp2_with fail
    refine bodyPost_ret (v := .tuple #[.slice none 0 0, .int .i64 2]) (by simp [results, Try.results22, go_sem]) rfl ?_
    rw [HS.out]
    exact ⟨⟨_, rfl, OwB.nil _ _⟩, HB.out⟩
  · have hgood : E.any (fun e => !mayS e) = false := by simpa using hbad
    have HG : Hid (∀ i, i < E.length → mayS (E.getD i zE) = true) := Lib.hid fun i hi => by
      have h := List.any_eq_false.1 hgood (E.getD i zE) (by rw [List.getD_eq_getElem?_getD, List.getElem?_eq_getElem hi]; exact List.getElem_mem hi)
      simpa using h
    have HS : Hid (writeEvS E = if 65536 < (evP E E.length).length ∨ 4096 < E.length then ([], 4) else (evP E E.length, 0)) := Lib.hid (if_neg hbad)
    go_enter Try.func22, Try.ntmps22
    go_wp2_with fail
    refine (hcf _ HE.out).mono ?_
    rintro en w1 ⟨rfl, hb⟩
    have HB := Lib.hid hb
    clear hb
    rw [hgood]
    go_wp2_with fail
    refine (uint_any E.length w1 (by omega)).mono ?_
    rintro en w2 ⟨⟨v4, rfl, ho⟩, hb⟩
    have HO : Hid (OwB w2 w.heap.size v4 (evP E 0)) := Lib.hid (by
      have := ho.mono HB.out.size
      unfold evP
      simpa using this)
    have HB2 := Lib.hid (bl_then HB.out HB.out.size hb)
    clear ho hb HB hcf
    go_wp2_with fail
    go_loopw [4, 15] (fun b i wr => ∃ k : Nat, k ≤ E.length ∧ i = .int .i64 k ∧ (evP E k).length ≤ 65536 ∧ Hid (okB (evP E k)) ∧ Hid (OwB wr w.heap.size b (evP E k)) ∧ Hid (Below w.heap.size w wr)) (fun _ i _ => E.length - (intOf i).toNat)
    case atStart =>
      refine ⟨0, Nat.zero_le _, rfl, ?_, Lib.hid ?_, HO, HB2⟩
      · have := uintB_len E.length
        simp [evP]
        omega
      · have h := uintB_ok (n := E.length) (by omega)
        simpa [evP] using h
    case round =>
      clear HO HB2
      obtain ⟨k, hk, rfl, hpk, HOK, HO, HB⟩ := hrel
      by_cases hlt : k < E.length
      · obtain ⟨b, off, rfl, u, q0, q1, q2, q3, q4, hu, he⟩ := HI.out k hlt
        have hbl := block_lt_of_cell q0
        have kb := fun o => (bcell HB.out).1 b o hbl
        have c0 := (kb _).trans q0
        have c1 := (kb _).trans q1
        have c2 := (kb _).trans q2
        have c3 := (kb _).trans q3
        have c4 := (kb _).trans q4
        clear q0 q1 q2 q3 q4 kb
        have hnx := evP_next hlt
        have hmay := mayS_ok (HG.out k hlt)
        have HNX := Lib.hid hnx
        have HL := Lib.hid (evP_len (E := E) (E.length - (k + 1)) (k + 1) (by omega))
        have HE1 := Lib.hid he
        have HU := Lib.hid hu
        have hbl : (E.getD k zE).bs.length ≤ 140737488355328 := hu.len
        obtain ⟨UA, uc, hue⟩ : ∃ UA uc, u = .slice UA (E.getD k zE).bs.length uc := ⟨_, _, hu.2.2.choose_spec.choose_spec.1⟩
        subst hue
        clear hnx he hu
        generalize E.getD k zE = e at *
        obtain ⟨⟨hk0, hk1⟩, hcr, hrr, har⟩ := HE1.out
        have hzw := HB.out.size
        have R0 : Round w (wr.alloc (.cells #[.int .u8 e.kind, .slice UA e.bs.length uc, .int .i64 e.cols, .int .i64 e.rows, .int .u8 e.arrow] 48)) wr.heap.size u4 (evP E k) (.slice UA e.bs.length uc) e := by
          have hb0 : Below wr.heap.size wr (wr.alloc (.cells #[.int .u8 e.kind, .slice UA e.bs.length uc, .int .i64 e.cols, .int .i64 e.rows, .int .u8 e.arrow] 48)) := by (repeat' (first | (with_reducible exact Below.refl _ _) | (with_reducible assumption) | (with_reducible refine Below.alloc ?_ ?_ _) | (with_reducible refine below_setRow ?_ ?_ _) | (with_reducible refine bl_drew ?_) | (with_reducible refine bl_drewN ?_ _) | (with_reducible refine Below.setCell ?_ ?_ _) | (with_reducible refine bl_then ?_ ?_ hb) | (with_reducible refine bl_then ?_ ?_ hb1) | (with_reducible refine bl_then ?_ ?_ hb2) | (with_reducible refine bl_then ?_ ?_ hb3) | (with_reducible refine bl_then ?_ ?_ hb4) | (with_reducible refine bl_then ?_ ?_ hb5) | (with_reducible refine bl_then ?_ ?_ hb6) | (with_reducible refine bl_then ?_ ?_ hb7) | (with_reducible refine bl_then ?_ ?_ hb8) | (with_reducible exact Nat.le_refl _) | omega | (simp only [World.size_alloc, World.size_setCell, World.size_drew, size_setRow]; omega) | (simp; omega) | (simp; done)))
          refine ⟨HO.out.below hb0, fun hh => ?_, heap_alloc_last wr _, bl_then HB.out HB.out.size hb0, HB.out.size⟩
          have := (World.ownsRow.lt HO.out _ hh).2
          omega
        have HR0 := Lib.hid R0
        clear R0
        go_wp2_with (at_builtin; refine wpList_appB (base := w.heap.size) rfl _ _ rfl u4 (.slice (some ⟨wr.heap.size + 1, 0, none⟩) 1 1) (evP E k) [e.kind] rfl ?_ rfl ?_ ?_ ?_ ?_)
        · exact HO.out.below (by (repeat' (first | (with_reducible exact Below.refl _ _) | (with_reducible assumption) | (with_reducible refine Below.alloc ?_ ?_ _) | (with_reducible refine below_setRow ?_ ?_ _) | (with_reducible refine bl_drew ?_) | (with_reducible refine bl_drewN ?_ _) | (with_reducible refine Below.setCell ?_ ?_ _) | (with_reducible refine bl_then ?_ ?_ hb) | (with_reducible refine bl_then ?_ ?_ hb1) | (with_reducible refine bl_then ?_ ?_ hb2) | (with_reducible refine bl_then ?_ ?_ hb3) | (with_reducible refine bl_then ?_ ?_ hb4) | (with_reducible refine bl_then ?_ ?_ hb5) | (with_reducible refine bl_then ?_ ?_ hb6) | (with_reducible refine bl_then ?_ ?_ hb7) | (with_reducible refine bl_then ?_ ?_ hb8) | (with_reducible exact Nat.le_refl _) | omega | (simp only [World.size_alloc, World.size_setCell, World.size_drew, size_setRow]; omega) | (simp; omega) | (simp; done))))
        · have h1 := BB.one (wr.alloc (.cells #[.int .u8 e.kind, .slice UA e.bs.length uc, .int .i64 e.cols, .int .i64 e.rows, .int .u8 e.arrow] 48)) e.kind ⟨hk0, hk1⟩
          simpa using h1
        · first | omega | (simp; omega)
        · first | omega | (simp; omega)
        · intro v7 w7 h1 h2 h3
          have hR0' := HR0.out.ext (W' := (wr.alloc (.cells #[.int .u8 e.kind, .slice UA e.bs.length uc, .int .i64 e.cols, .int .i64 e.rows, .int .u8 e.arrow] 48)).alloc (.cells #[.int .u8 e.kind] 5)) (by (repeat' (first | (with_reducible exact Below.refl _ _) | (with_reducible assumption) | (with_reducible refine Below.alloc ?_ ?_ _) | (with_reducible refine below_setRow ?_ ?_ _) | (with_reducible refine bl_drew ?_) | (with_reducible refine bl_drewN ?_ _) | (with_reducible refine Below.setCell ?_ ?_ _) | (with_reducible refine bl_then ?_ ?_ hb) | (with_reducible refine bl_then ?_ ?_ hb1) | (with_reducible refine bl_then ?_ ?_ hb2) | (with_reducible refine bl_then ?_ ?_ hb3) | (with_reducible refine bl_then ?_ ?_ hb4) | (with_reducible refine bl_then ?_ ?_ hb5) | (with_reducible refine bl_then ?_ ?_ hb6) | (with_reducible refine bl_then ?_ ?_ hb7) | (with_reducible refine bl_then ?_ ?_ hb8) | (with_reducible exact Nat.le_refl _) | omega | (simp only [World.size_alloc, World.size_setCell, World.size_drew, size_setRow]; omega) | (simp; omega) | (simp; done))))
          have HR := Lib.hid (hR0'.grown h2 h1 (hR0'.own1 (h3.imp_right fun h => h.trans (by simp))))
          clear h1 h2 h3 HR0 hR0' c0 c1 c2 c3 c4
          obtain ⟨d0, d1, d2, d3, d4⟩ := HR.out.cells
          have hHz := HR.out.lt
          have HUW := Lib.hid (HU.out.below HR.out.below)
          generalize wr.heap.size = Ob at *
          obtain ⟨kd, bs, cc, rr, aa⟩ := e
          simp only at *
          rcases hmay with ⟨rfl, hl4⟩ | ⟨rfl, hcr2, hrr2⟩ | ⟨rfl, hl4⟩ | ⟨rfl, haa⟩
          · as_aux_lemma =>
            have HY : Hid (((evP E k ++ [(1 : Int)]) ++ uintB bs.length) ++ bs = evP E (k + 1)) := Lib.hid (by rw [HNX.out]; simp [evS, tailS])
            have HOK7 : Hid (okB (evP E k ++ [(1 : Int)])) := Lib.hid (HOK.out.app (by intro x hx; obtain rfl := List.mem_singleton.1 hx; omega))
            have HOK9 : Hid (okB (evP E (k + 1))) := Lib.hid (by rw [← HY.out]; exact (HOK7.out.app (uintB_ok (by omega))).app HU.out.ok)
            have hul := uintB_len bs.length
            clear HNX d2 d3 d4
            obtain ⟨x, hx, hI0, hxo⟩ := Inv.begins HR.out.own
            have HX := Lib.hid hx
            have HXO := Lib.hid hxo
            clear hx hxo
            have HF0 : Hid (∀ W γ', Inv w7 (fun g => v7.ownBlock = some g) γ' W → W.cell? ⟨Ob, 1, none⟩ = some (.slice UA bs.length uc)) := Lib.hid (fun W γ' hI => (World.cell?_of_block (hI.far Ob HR.out.lt HR.out.apart)).trans d1)
            have hq1 : (fun k => if k = 1 then x else none : Gh) 1 = x := if_pos rfl
            generalize (fun k => if k = 1 then x else none : Gh) = γ0 at hI0 hq1
            have HI0 := Lib.hid hI0
            clear hI0
            go_wp2_with fail
            have hwn : IntKind.u64.wrap (bs.length : Int) = (bs.length : Int) := by rw [IntKind.wrap_u64]; omega
            apply wp_region_eff (Inv w7 (fun g => v7.ownBlock = some g)) γ0 HI0.out (hm := by kernel_rfl)
            case h =>
              (apply SeqF.pure; (focus (first | rfl | (go_simp; done) | (simp [Region.wanted, yielded]; done))); (focus (intro w; go_simp; with_reducible rfl)); go_simp)
              (apply SeqF.pure; (focus (first | rfl | (go_simp; done) | (simp [Region.wanted, yielded]; done))); (focus (intro w; go_simp; with_reducible rfl)); go_simp)
              (apply SeqF.read []; (focus (first | rfl | (go_simp; done) | (simp [Region.wanted, yielded]; done))); (focus (intro γ' W hg hI; have x0 := HF0.out W γ' hI; go_simp; with_reducible rfl)); go_simp)
              (apply SeqF.pure; (focus (first | rfl | (go_simp; done) | (simp [Region.wanted, yielded]; done))); (focus (intro w; go_simp; with_reducible rfl)); go_simp)
              (apply SeqF.pure; (focus (first | rfl | (go_simp; done) | (simp [Region.wanted, yielded]; done))); (focus (intro w; go_simp; with_reducible rfl)); go_simp)
              apply SeqF.growCall [1] 1 (by simp) v7 (evP E k ++ [1]) ((evP E k ++ [1]) ++ uintB bs.length) 36 #[v7, .int .u64 bs.length] (by rw [hq1]; exact HX.out)
              · (first | rfl | (go_simp; done) | (simp [Region.wanted, yielded]; done))
              · intro w; kernel_rfl
              · intro γ' W hg hI hO
                refine (put_any v7 (evP E k ++ [1]) bs.length 0 W hO HOK7.out (by simp; omega) (by omega) (Nat.zero_le _)).mono ?_
                rintro e w' ⟨v', rfl, g1, g2, g3⟩
                exact ⟨v', rfl, g1, g2, g3⟩
              intro v8 x8 hx8 hxn8
              have HX8 := Lib.hid hx8
              have HXN8 := Lib.hid hxn8
              clear hx8 hxn8
              go_simp
              (apply SeqF.pure; (focus (first | rfl | (go_simp; done) | (simp [Region.wanted, yielded]; done))); (focus (intro w; go_simp; with_reducible rfl)); go_simp)
              (apply SeqF.read []; (focus (first | rfl | (go_simp; done) | (simp [Region.wanted, yielded]; done))); (focus (intro γ' W hg hI; have x0 := HF0.out W γ' hI; go_simp; with_reducible rfl)); go_simp)
              apply SeqF.appB [1] 1 (by simp) (.tmp 34) (.tmp 36) rfl rfl v8 (.slice UA bs.length uc) ((evP E k ++ [1]) ++ uintB bs.length) bs (evP E (k + 1)) (by rw [Gh.set_here]; exact HX8.out) rfl rfl
              · exact fun γ' W hg hI => HUW.out.keep fun b _ hb hlt => hI.far b hlt (fun hh => by
                  have h1 := (World.ownsRow.lt HR.out.own b hh).1
                  have h2 := HU.out.lt (by omega) hb
                  omega)
              · simp; omega
              · exact HY.out
              intro v9 x9 hx9 hxn9
              obtain rfl := OwX.val hx9 (by decide)
              have HX9 := Lib.hid hx9
              have HXN9 := Lib.hid hxn9
              clear hx9 hxn9
              go_simp
              apply SeqF.dyn [1] (fun γ => rowVal 1 (evP E (k + 1)).length (γ 1))
              · intro γ' hg; simp only [hg 1 (by simp)]
              · (first | rfl | (go_simp; done) | (simp [Region.wanted, yielded]; done))
              · intro γ' W hg hI
                simp only [Gh.set_here]
                go_simp
              simp only [Gh.set_here]
              apply SeqF.done
              intro w9 hI9
              have hown9 : ∀ g o, x9 = some (g, o) → v7.ownBlock = some g ∨ w7.heap.size ≤ g := by
                intro g o hgo
                rcases HXN9.out g o hgo with ⟨o', h1⟩ | h1
                · rw [Gh.set_here] at h1
                  rcases HXN8.out g o' h1 with ⟨o'', h2⟩ | h2
                  · rw [hq1] at h2
                    exact .inl (HXO.out g o'' h2)
                  · exact .inr h2
                · exact .inr h1
              obtain ⟨ho9, hg9⟩ := hI9.ends (t := 1) (v' := rowVal 1 (evP E (k + 1)).length x9) (ys := evP E (k + 1)) (by rw [Gh.set_here]; exact HX9.out) (by intro g o hgo; rw [Gh.set_here] at hgo; exact hown9 g o hgo) HR.out.below.size (fun g hg => (World.ownsRow.lt HR.out.own g hg).1)
              have HR9 := Lib.hid (HR.out.grown hg9 ho9 (HR.out.own2 HX9.out hown9))
              clear hI9 ho9 hg9 hown9
              go_simp
              generalize rowVal 1 (evP E (k + 1)).length x9 = v9 at *
              (obtain ⟨A9, c9, rfl⟩ := HR9.out.own.slice; have HN := Lib.hid (evP_len (E := E) (E.length - (k + 1)) (k + 1) (by omega)); by_cases hbig : 65536 < (evP E (k + 1)).length; (focus (go_wp2_with fail; refine bodyPost_ret (v := .tuple #[.slice none 0 0, .int .i64 4]) (by simp [results, Try.results22, go_sem]) rfl ?_; rw [HS.out, if_pos (.inl (Nat.lt_of_lt_of_le hbig (by have h := HN.out; rw [show k + 1 + (E.length - (k + 1)) = E.length by omega] at h; exact h)))]; exact ⟨⟨_, rfl, OwB.nil _ _⟩, HR9.out.below⟩)); (focus (go_wp2_with fail; go_roundw; (focus (case rel => exact ⟨k + 1, by omega, by go_num, by omega, HOK9, Lib.hid HR9.out.own, Lib.hid HR9.out.below⟩)); (focus (case measure => simp [intOf] <;> omega)))))
            case hl => rfl
            case ho => kernel_rfl
          · as_aux_lemma =>
            obtain ⟨cn, rfl⟩ := Int.eq_ofNat_of_zero_le (show 0 ≤ cc by omega)
            obtain ⟨rn, rfl⟩ := Int.eq_ofNat_of_zero_le (show 0 ≤ rr by omega)
            have HY : Hid (((evP E k ++ [(2 : Int)]) ++ uintB cn) ++ uintB rn = evP E (k + 1)) := Lib.hid (by rw [HNX.out]; simp [evS, tailS])
            have HOK7 : Hid (okB (evP E k ++ [(2 : Int)])) := Lib.hid (HOK.out.app (by intro x hx; obtain rfl := List.mem_singleton.1 hx; omega))
            have HOK8 : Hid (okB ((evP E k ++ [(2 : Int)]) ++ uintB cn)) := Lib.hid (HOK7.out.app (uintB_ok (by omega)))
            have HOK9 : Hid (okB (evP E (k + 1))) := Lib.hid (by rw [← HY.out]; exact HOK8.out.app (uintB_ok (by omega)))
            have hul := uintB_len cn
            clear HNX d1 d4
            obtain ⟨x, hx, hI0, hxo⟩ := Inv.begins HR.out.own
            have HX := Lib.hid hx
            have HXO := Lib.hid hxo
            clear hx hxo
            have HF0 : Hid (∀ W γ', Inv w7 (fun g => v7.ownBlock = some g) γ' W → W.cell? ⟨Ob, 2, none⟩ = some (.int .i64 cn)) := Lib.hid (fun W γ' hI => (World.cell?_of_block (hI.far Ob HR.out.lt HR.out.apart)).trans d2)
            have HF1 : Hid (∀ W γ', Inv w7 (fun g => v7.ownBlock = some g) γ' W → W.cell? ⟨Ob, 3, none⟩ = some (.int .i64 rn)) := Lib.hid (fun W γ' hI => (World.cell?_of_block (hI.far Ob HR.out.lt HR.out.apart)).trans d3)
            have hq1 : (fun k => if k = 1 then x else none : Gh) 1 = x := if_pos rfl
            generalize (fun k => if k = 1 then x else none : Gh) = γ0 at hI0 hq1
            have HI0 := Lib.hid hI0
            clear hI0
            go_wp2_with fail
            have hwn : IntKind.u64.wrap (cn : Int) = (cn : Int) := by rw [IntKind.wrap_u64]; omega
            have hwn2 : IntKind.u64.wrap (rn : Int) = (rn : Int) := by rw [IntKind.wrap_u64]; omega
            apply wp_region_eff (Inv w7 (fun g => v7.ownBlock = some g)) γ0 HI0.out (hm := by kernel_rfl)
            case h =>
              (apply SeqF.pure; (focus (first | rfl | (go_simp; done) | (simp [Region.wanted, yielded]; done))); (focus (intro w; go_simp; with_reducible rfl)); go_simp)
              (apply SeqF.pure; (focus (first | rfl | (go_simp; done) | (simp [Region.wanted, yielded]; done))); (focus (intro w; go_simp; with_reducible rfl)); go_simp)
              (apply SeqF.read []; (focus (first | rfl | (go_simp; done) | (simp [Region.wanted, yielded]; done))); (focus (intro γ' W hg hI; have x0 := HF0.out W γ' hI; go_simp; with_reducible rfl)); go_simp)
              (apply SeqF.pure; (focus (first | rfl | (go_simp; done) | (simp [Region.wanted, yielded]; done))); (focus (intro w; go_simp; with_reducible rfl)); go_simp)
              apply SeqF.growCall [1] 1 (by simp) v7 (evP E k ++ [2]) ((evP E k ++ [2]) ++ uintB cn) 36 #[v7, .int .u64 cn] (by rw [hq1]; exact HX.out)
              · (first | rfl | (go_simp; done) | (simp [Region.wanted, yielded]; done))
              · intro w; kernel_rfl
              · intro γ' W hg hI hO
                refine (put_any v7 (evP E k ++ [2]) cn 0 W hO HOK7.out (by simp; omega) (by omega) (Nat.zero_le _)).mono ?_
                rintro e w' ⟨v', rfl, g1, g2, g3⟩
                exact ⟨v', rfl, g1, g2, g3⟩
              intro v8 x8 hx8 hxn8
              have HX8 := Lib.hid hx8
              have HXN8 := Lib.hid hxn8
              clear hx8 hxn8
              go_simp
              (apply SeqF.pure; (focus (first | rfl | (go_simp; done) | (simp [Region.wanted, yielded]; done))); (focus (intro w; go_simp; with_reducible rfl)); go_simp)
              (apply SeqF.read []; (focus (first | rfl | (go_simp; done) | (simp [Region.wanted, yielded]; done))); (focus (intro γ' W hg hI; have x0 := HF1.out W γ' hI; go_simp; with_reducible rfl)); go_simp)
              (apply SeqF.pure; (focus (first | rfl | (go_simp; done) | (simp [Region.wanted, yielded]; done))); (focus (intro w; go_simp; with_reducible rfl)); go_simp)
              apply SeqF.growCall [1] 1 (by simp) v8 ((evP E k ++ [2]) ++ uintB cn) (evP E (k + 1)) 36 #[v8, .int .u64 rn] (by rw [Gh.set_here]; exact HX8.out)
              · (first | rfl | (go_simp; done) | (simp [Region.wanted, yielded]; done))
              · intro w; kernel_rfl
              · intro γ' W hg hI hO
                refine (put_any v8 ((evP E k ++ [2]) ++ uintB cn) rn 0 W hO HOK8.out (by simp; omega) (by omega) (Nat.zero_le _)).mono ?_
                rintro e w' ⟨v', rfl, g1, g2, g3⟩
                exact ⟨v', rfl, by rw [← HY.out]; exact g1, g2, g3⟩
              intro v9 x9 hx9 hxn9
              obtain rfl := OwX.val hx9 (by decide)
              have HX9 := Lib.hid hx9
              have HXN9 := Lib.hid hxn9
              clear hx9 hxn9
              go_simp
              apply SeqF.dyn [1] (fun γ => rowVal 1 (evP E (k + 1)).length (γ 1))
              · intro γ' hg; simp only [hg 1 (by simp)]
              · (first | rfl | (go_simp; done) | (simp [Region.wanted, yielded]; done))
              · intro γ' W hg hI
                simp only [Gh.set_here]
                go_simp
              simp only [Gh.set_here]
              apply SeqF.done
              intro w9 hI9
              have hown9 : ∀ g o, x9 = some (g, o) → v7.ownBlock = some g ∨ w7.heap.size ≤ g := by
                intro g o hgo
                rcases HXN9.out g o hgo with ⟨o', h1⟩ | h1
                · rw [Gh.set_here] at h1
                  rcases HXN8.out g o' h1 with ⟨o'', h2⟩ | h2
                  · rw [hq1] at h2
                    exact .inl (HXO.out g o'' h2)
                  · exact .inr h2
                · exact .inr h1
              obtain ⟨ho9, hg9⟩ := hI9.ends (t := 1) (v' := rowVal 1 (evP E (k + 1)).length x9) (ys := evP E (k + 1)) (by rw [Gh.set_here]; exact HX9.out) (by intro g o hgo; rw [Gh.set_here] at hgo; exact hown9 g o hgo) HR.out.below.size (fun g hg => (World.ownsRow.lt HR.out.own g hg).1)
              have HR9 := Lib.hid (HR.out.grown hg9 ho9 (HR.out.own2 HX9.out hown9))
              clear hI9 ho9 hg9 hown9
              go_simp
              generalize rowVal 1 (evP E (k + 1)).length x9 = v9 at *
              (obtain ⟨A9, c9, rfl⟩ := HR9.out.own.slice; have HN := Lib.hid (evP_len (E := E) (E.length - (k + 1)) (k + 1) (by omega)); by_cases hbig : 65536 < (evP E (k + 1)).length; (focus (go_wp2_with fail; refine bodyPost_ret (v := .tuple #[.slice none 0 0, .int .i64 4]) (by simp [results, Try.results22, go_sem]) rfl ?_; rw [HS.out, if_pos (.inl (Nat.lt_of_lt_of_le hbig (by have h := HN.out; rw [show k + 1 + (E.length - (k + 1)) = E.length by omega] at h; exact h)))]; exact ⟨⟨_, rfl, OwB.nil _ _⟩, HR9.out.below⟩)); (focus (go_wp2_with fail; go_roundw; (focus (case rel => exact ⟨k + 1, by omega, by go_num, by omega, HOK9, Lib.hid HR9.out.own, Lib.hid HR9.out.below⟩)); (focus (case measure => simp [intOf] <;> omega)))))
            case hl => rfl
            case ho => kernel_rfl
          · as_aux_lemma =>
            have HY : Hid (((evP E k ++ [(3 : Int)]) ++ uintB bs.length) ++ bs = evP E (k + 1)) := Lib.hid (by rw [HNX.out]; simp [evS, tailS])
            have HOK7 : Hid (okB (evP E k ++ [(3 : Int)])) := Lib.hid (HOK.out.app (by intro x hx; obtain rfl := List.mem_singleton.1 hx; omega))
            have HOK9 : Hid (okB (evP E (k + 1))) := Lib.hid (by rw [← HY.out]; exact (HOK7.out.app (uintB_ok (by omega))).app HU.out.ok)
            have hul := uintB_len bs.length
            clear HNX d2 d3 d4
            obtain ⟨x, hx, hI0, hxo⟩ := Inv.begins HR.out.own
            have HX := Lib.hid hx
            have HXO := Lib.hid hxo
            clear hx hxo
            have HF0 : Hid (∀ W γ', Inv w7 (fun g => v7.ownBlock = some g) γ' W → W.cell? ⟨Ob, 1, none⟩ = some (.slice UA bs.length uc)) := Lib.hid (fun W γ' hI => (World.cell?_of_block (hI.far Ob HR.out.lt HR.out.apart)).trans d1)
            have hq1 : (fun k => if k = 1 then x else none : Gh) 1 = x := if_pos rfl
            generalize (fun k => if k = 1 then x else none : Gh) = γ0 at hI0 hq1
            have HI0 := Lib.hid hI0
            clear hI0
            go_wp2_with fail
            have hwn : IntKind.u64.wrap (bs.length : Int) = (bs.length : Int) := by rw [IntKind.wrap_u64]; omega
            apply wp_region_eff (Inv w7 (fun g => v7.ownBlock = some g)) γ0 HI0.out (hm := by kernel_rfl)
            case h =>
              (apply SeqF.pure; (focus (first | rfl | (go_simp; done) | (simp [Region.wanted, yielded]; done))); (focus (intro w; go_simp; with_reducible rfl)); go_simp)
              (apply SeqF.pure; (focus (first | rfl | (go_simp; done) | (simp [Region.wanted, yielded]; done))); (focus (intro w; go_simp; with_reducible rfl)); go_simp)
              (apply SeqF.read []; (focus (first | rfl | (go_simp; done) | (simp [Region.wanted, yielded]; done))); (focus (intro γ' W hg hI; have x0 := HF0.out W γ' hI; go_simp; with_reducible rfl)); go_simp)
              (apply SeqF.pure; (focus (first | rfl | (go_simp; done) | (simp [Region.wanted, yielded]; done))); (focus (intro w; go_simp; with_reducible rfl)); go_simp)
              (apply SeqF.pure; (focus (first | rfl | (go_simp; done) | (simp [Region.wanted, yielded]; done))); (focus (intro w; go_simp; with_reducible rfl)); go_simp)
              apply SeqF.growCall [1] 1 (by simp) v7 (evP E k ++ [3]) ((evP E k ++ [3]) ++ uintB bs.length) 36 #[v7, .int .u64 bs.length] (by rw [hq1]; exact HX.out)
              · (first | rfl | (go_simp; done) | (simp [Region.wanted, yielded]; done))
              · intro w; kernel_rfl
              · intro γ' W hg hI hO
                refine (put_any v7 (evP E k ++ [3]) bs.length 0 W hO HOK7.out (by simp; omega) (by omega) (Nat.zero_le _)).mono ?_
                rintro e w' ⟨v', rfl, g1, g2, g3⟩
                exact ⟨v', rfl, g1, g2, g3⟩
              intro v8 x8 hx8 hxn8
              have HX8 := Lib.hid hx8
              have HXN8 := Lib.hid hxn8
              clear hx8 hxn8
              go_simp
              (apply SeqF.pure; (focus (first | rfl | (go_simp; done) | (simp [Region.wanted, yielded]; done))); (focus (intro w; go_simp; with_reducible rfl)); go_simp)
              (apply SeqF.read []; (focus (first | rfl | (go_simp; done) | (simp [Region.wanted, yielded]; done))); (focus (intro γ' W hg hI; have x0 := HF0.out W γ' hI; go_simp; with_reducible rfl)); go_simp)
              apply SeqF.appB [1] 1 (by simp) (.tmp 34) (.tmp 36) rfl rfl v8 (.slice UA bs.length uc) ((evP E k ++ [3]) ++ uintB bs.length) bs (evP E (k + 1)) (by rw [Gh.set_here]; exact HX8.out) rfl rfl
              · exact fun γ' W hg hI => HUW.out.keep fun b _ hb hlt => hI.far b hlt (fun hh => by
                  have h1 := (World.ownsRow.lt HR.out.own b hh).1
                  have h2 := HU.out.lt (by omega) hb
                  omega)
              · simp; omega
              · exact HY.out
              intro v9 x9 hx9 hxn9
              obtain rfl := OwX.val hx9 (by decide)
              have HX9 := Lib.hid hx9
              have HXN9 := Lib.hid hxn9
              clear hx9 hxn9
              go_simp
              apply SeqF.dyn [1] (fun γ => rowVal 1 (evP E (k + 1)).length (γ 1))
              · intro γ' hg; simp only [hg 1 (by simp)]
              · (first | rfl | (go_simp; done) | (simp [Region.wanted, yielded]; done))
              · intro γ' W hg hI
                simp only [Gh.set_here]
                go_simp
              simp only [Gh.set_here]
              apply SeqF.done
              intro w9 hI9
              have hown9 : ∀ g o, x9 = some (g, o) → v7.ownBlock = some g ∨ w7.heap.size ≤ g := by
                intro g o hgo
                rcases HXN9.out g o hgo with ⟨o', h1⟩ | h1
                · rw [Gh.set_here] at h1
                  rcases HXN8.out g o' h1 with ⟨o'', h2⟩ | h2
                  · rw [hq1] at h2
                    exact .inl (HXO.out g o'' h2)
                  · exact .inr h2
                · exact .inr h1
              obtain ⟨ho9, hg9⟩ := hI9.ends (t := 1) (v' := rowVal 1 (evP E (k + 1)).length x9) (ys := evP E (k + 1)) (by rw [Gh.set_here]; exact HX9.out) (by intro g o hgo; rw [Gh.set_here] at hgo; exact hown9 g o hgo) HR.out.below.size (fun g hg => (World.ownsRow.lt HR.out.own g hg).1)
              have HR9 := Lib.hid (HR.out.grown hg9 ho9 (HR.out.own2 HX9.out hown9))
              clear hI9 ho9 hg9 hown9
              go_simp
              generalize rowVal 1 (evP E (k + 1)).length x9 = v9 at *
              (obtain ⟨A9, c9, rfl⟩ := HR9.out.own.slice; have HN := Lib.hid (evP_len (E := E) (E.length - (k + 1)) (k + 1) (by omega)); by_cases hbig : 65536 < (evP E (k + 1)).length; (focus (go_wp2_with fail; refine bodyPost_ret (v := .tuple #[.slice none 0 0, .int .i64 4]) (by simp [results, Try.results22, go_sem]) rfl ?_; rw [HS.out, if_pos (.inl (Nat.lt_of_lt_of_le hbig (by have h := HN.out; rw [show k + 1 + (E.length - (k + 1)) = E.length by omega] at h; exact h)))]; exact ⟨⟨_, rfl, OwB.nil _ _⟩, HR9.out.below⟩)); (focus (go_wp2_with fail; go_roundw; (focus (case rel => exact ⟨k + 1, by omega, by go_num, by omega, HOK9, Lib.hid HR9.out.own, Lib.hid HR9.out.below⟩)); (focus (case measure => simp [intOf] <;> omega)))))
            case hl => rfl
            case ho => kernel_rfl
          · as_aux_lemma =>
            have HY : Hid ((evP E k ++ [(4 : Int)]) ++ [aa] = evP E (k + 1)) := Lib.hid (by rw [HNX.out]; simp [evS, tailS])
            have HOK9 : Hid (okB (evP E (k + 1))) := Lib.hid (by rw [← HY.out]; exact (HOK.out.app (by intro x hx; obtain rfl := List.mem_singleton.1 hx; omega)).app (by intro x hx; obtain rfl := List.mem_singleton.1 hx; omega))
            have hzw7 := HR.out.below.size
            have hpl : (evP E k ++ [(4 : Int)]).length ≤ 65537 := by simp; omega
            clear HNX d1 d2 d3
            go_wp2_with (at_builtin; refine wpList_appB (base := w.heap.size) rfl _ _ rfl v7 (.slice (some ⟨w7.heap.size, 0, none⟩) 1 1) (evP E k ++ [4]) [aa] rfl ?_ rfl ?_ ?_ ?_ ?_)
            · exact HR.out.own.below (by (repeat' (first | (with_reducible exact Below.refl _ _) | (with_reducible assumption) | (with_reducible refine Below.alloc ?_ ?_ _) | (with_reducible refine below_setRow ?_ ?_ _) | (with_reducible refine bl_drew ?_) | (with_reducible refine bl_drewN ?_ _) | (with_reducible refine Below.setCell ?_ ?_ _) | (with_reducible refine bl_then ?_ ?_ hb) | (with_reducible refine bl_then ?_ ?_ hb1) | (with_reducible refine bl_then ?_ ?_ hb2) | (with_reducible refine bl_then ?_ ?_ hb3) | (with_reducible refine bl_then ?_ ?_ hb4) | (with_reducible refine bl_then ?_ ?_ hb5) | (with_reducible refine bl_then ?_ ?_ hb6) | (with_reducible refine bl_then ?_ ?_ hb7) | (with_reducible refine bl_then ?_ ?_ hb8) | (with_reducible exact Nat.le_refl _) | omega | (simp only [World.size_alloc, World.size_setCell, World.size_drew, size_setRow]; omega) | (simp; omega) | (simp; done))))
            · exact BB.one w7 aa (by omega)
            · first | omega | (simp at hpl ⊢; omega)
            · first | omega | (simp; omega)
            · intro v9 w9 h1 h2 h3
              replace h1 : OwB w9 w.heap.size v9 (evP E (k + 1)) := by rw [← HY.out]; simpa using h1
              have hR0' := HR.out.ext (W' := w7.alloc (.cells #[.int .u8 aa] 5)) (by (repeat' (first | (with_reducible exact Below.refl _ _) | (with_reducible assumption) | (with_reducible refine Below.alloc ?_ ?_ _) | (with_reducible refine below_setRow ?_ ?_ _) | (with_reducible refine bl_drew ?_) | (with_reducible refine bl_drewN ?_ _) | (with_reducible refine Below.setCell ?_ ?_ _) | (with_reducible refine bl_then ?_ ?_ hb) | (with_reducible refine bl_then ?_ ?_ hb1) | (with_reducible refine bl_then ?_ ?_ hb2) | (with_reducible refine bl_then ?_ ?_ hb3) | (with_reducible refine bl_then ?_ ?_ hb4) | (with_reducible refine bl_then ?_ ?_ hb5) | (with_reducible refine bl_then ?_ ?_ hb6) | (with_reducible refine bl_then ?_ ?_ hb7) | (with_reducible refine bl_then ?_ ?_ hb8) | (with_reducible exact Nat.le_refl _) | omega | (simp only [World.size_alloc, World.size_setCell, World.size_drew, size_setRow]; omega) | (simp; omega) | (simp; done))))
              have HR9 := Lib.hid (hR0'.grown h2 h1 (hR0'.own1 (h3.imp_right fun h => h.trans (by simp))))
              clear h1 h2 h3 hR0'
              (obtain ⟨A9, c9, rfl⟩ := HR9.out.own.slice; have HN := Lib.hid (evP_len (E := E) (E.length - (k + 1)) (k + 1) (by omega)); by_cases hbig : 65536 < (evP E (k + 1)).length; (focus (go_wp2_with fail; refine bodyPost_ret (v := .tuple #[.slice none 0 0, .int .i64 4]) (by simp [results, Try.results22, go_sem]) rfl ?_; rw [HS.out, if_pos (.inl (Nat.lt_of_lt_of_le hbig (by have h := HN.out; rw [show k + 1 + (E.length - (k + 1)) = E.length by omega] at h; exact h)))]; exact ⟨⟨_, rfl, OwB.nil _ _⟩, HR9.out.below⟩)); (focus (go_wp2_with fail; go_roundw; (focus (case rel => exact ⟨k + 1, by omega, by go_num, by omega, HOK9, Lib.hid HR9.out.own, Lib.hid HR9.out.below⟩)); (focus (case measure => simp [intOf] <;> omega)))))
      · obtain rfl : k = E.length := by omega
        obtain ⟨A9, c9, rfl⟩ := HO.out.slice
        by_cases h4096 : 4096 < E.length
        · go_wp2_with fail
          refine bodyPost_ret (v := .tuple #[.slice none 0 0, .int .i64 4]) (by simp [results, Try.results22, go_sem]) rfl ?_
          rw [HS.out, if_pos (.inr h4096)]
          exact ⟨⟨_, rfl, OwB.nil _ _⟩, HB.out⟩
        · go_wp2_with fail
          refine bodyPost_ret (v := .tuple #[.slice A9 (evP E E.length).length c9, .int .i64 0]) (by simp [results, Try.results22, go_sem]) rfl ?_
          rw [HS.out, if_neg (by omega)]
          exact ⟨⟨_, rfl, HO.out⟩, HB.out⟩
end Go.Proofs.Ytgkiedbefogklaa
