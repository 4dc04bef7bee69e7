/- What is proved: what the law UtfReads answers when it is called; conditions: the slices read as they are said to. -/
import Derived.Test.YtghadceeckbgpaaUtfR4
import Derived.Test.YtghadceeckbgpaaOrderTrail
set_option linter.unusedSimpArgs false
set_option linter.unusedVariables false
namespace Go.Proofs.Ytghadceeckbgpaa
open Go.RowKit
set_option maxRecDepth 100000
set_option maxHeartbeats 4000000
/-- Both readers keep these bytes. -/
structure Both (w w' : World) (R T : Nat) (v : Value) (ks : List Int) : Prop where
  kp : Keeps w' R ks
  rf : RefS w' T v ks
  ap : v.ownBlock ≠ some R
  bel : Below w.heap.size w w'
theorem Both.below {w w' w1 : World} {R T : Nat} {v : Value} {ks : List Int} (h : Both w w' R T v ks) (hb : Below w'.heap.size w' w1) : Both w w1 R T v ks :=
  ⟨h.kp.below hb, h.rf.below hb, h.ap, bl_then h.bel h.bel.size hb⟩
theorem RefS.far {w w' : World} {R T : Nat} {v : Value} {ks : List Int} (h : RefS w T v ks) (hg : w.grownBy w' (some R)) (hne : R ≠ T) (ha : v.ownBlock ≠ some R) : RefS w' T v ks :=
  ⟨(hg.block T h.lt (fun e => hne (Option.some.inj e).symm)).trans h.blk, h.rd.grown hg ha, h.apart⟩
theorem Keeps.far {w w' : World} {R T : Nat} {ks : List Int} (h : Keeps w R ks) (hg : w.grownBy w' (some T)) (hne : R ≠ T) : Keeps w' R ks := h.keep (hg.block R h.lt (fun e => hne (Option.some.inj e)))
theorem OwR.far {w w' : World} {base T : Nat} {u : Value} {xs : List Int} (h : OwR w base u xs) (hg : w.grownBy w' (some T)) (hT : T < base) : OwR w' base u xs :=
  h.keep fun q hq hlt => hg.block q hlt (fun e => by have := (World.ownsRow.lt h q hq).1; have := Option.some.inj e; omega)
/-- Both take a byte; or both end. -/
def P1 (w wr W : World) (R T : Nat) (v0 : Value) (ks ks' rs : List Int) (u1 : Value) : Prop := Keeps W R ks' ∧ RefS W T v0 ks ∧ OwR W wr.heap.size u1 rs
def P2 (w wr W : World) (R T : Nat) (ks' rs : List Int) (u1 u2 vt : Value) : Prop := Both w W R T vt ks' ∧ OwR W wr.heap.size u1 rs ∧ OwR W wr.heap.size u2 rs
def LawI (w wr : World) (R T : Nat) (v0 : Value) (ks ks' rs : List Int) (γ : Gh) (W : World) : Prop :=
  Below w.heap.size w W ∧ wr.heap.size ≤ W.heap.size ∧ match γ 0 with
  | some (n, .cells cs _ _) => if n = 0 then Both w W R T v0 ks else if n = 1 then P1 w wr W R T v0 ks ks' rs (cs.getD 0 undef) else P2 w wr W R T ks' rs (cs.getD 0 undef) (cs.getD 1 undef) (cs.getD 2 undef)
  | _ => False
def gst (n : Nat) (cs : Array Value) : Option (Nat × Obj) := some (n, .cells cs 0 (0, 0))
theorem lawI0 {w wr W : World} {R T : Nat} {v0 : Value} {ks ks' rs : List Int} {γ : Gh} {cs : Array Value} (h : γ 0 = gst 0 cs) : LawI w wr R T v0 ks ks' rs γ W ↔ Below w.heap.size w W ∧ wr.heap.size ≤ W.heap.size ∧ Both w W R T v0 ks := by
  unfold LawI
  rw [h]
  exact Iff.rfl
theorem lawI1 {w wr W : World} {R T : Nat} {v0 : Value} {ks ks' rs : List Int} {γ : Gh} {u1 : Value} (h : γ 0 = gst 1 #[u1]) : LawI w wr R T v0 ks ks' rs γ W ↔ Below w.heap.size w W ∧ wr.heap.size ≤ W.heap.size ∧ P1 w wr W R T v0 ks ks' rs u1 := by
  unfold LawI
  rw [h]
  exact Iff.rfl
theorem lawI2 {w wr W : World} {R T : Nat} {v0 : Value} {ks ks' rs : List Int} {γ : Gh} {u1 u2 vt : Value} (h : γ 0 = gst 2 #[u1, u2, vt]) : LawI w wr R T v0 ks ks' rs γ W ↔ Below w.heap.size w W ∧ wr.heap.size ≤ W.heap.size ∧ P2 w wr W R T ks' rs u1 u2 vt := by
  unfold LawI
  rw [h]
  exact Iff.rfl
/-- A slice of bools that is read. -/
def RdO (w : World) (A : Option Addr) (n : Nat) (es : List Bool) : Prop :=
  es.length = n ∧ (0 < n → ∃ b off, A = some ⟨b, off, none⟩ ∧ b < w.heap.size ∧ ∀ j, j < n → w.cell? ⟨b, off + j, none⟩ = some (.bool (es.getD j false)))
def gvt : Option (Nat × Obj) → Value
  | some (_, .cells cs _ _) => cs.getD 2 undef
  | _ => undef
def gu1 : Option (Nat × Obj) → Value
  | some (_, .cells cs _ _) => cs.getD 0 undef
  | _ => undef
theorem gu1_gst (n : Nat) (v : Value) (cs : List Value) : gu1 (gst n ((v :: cs).toArray)) = v := rfl
theorem gvt_gst (n : Nat) (u v x : Value) : gvt (gst n #[u, v, x]) = x := rfl
theorem reads_law (vb : Value) (bs : List Int) (EA : Option Addr) (en ec : Nat) (es : List Bool) (w : World) (h : BB w vb bs) (he : RdO w EA en es) (hen : en ≤ 9223372036854775807) : Calls Try.prog 5 #[vb, .slice EA en ec] w fun e w' => e = .returned (.bool true) ∧ Below w.heap.size w w' := by
  have hlen := h.len
  obtain ⟨hok, _, A, cap, rfl, hr, _⟩ := h
  have HX := Lib.hid hr
  have HOK := Lib.hid hok
  have HES := Lib.hid he
  clear hr hok he
  go_enter Try.func5, Try.ntmps5
  go_wp2_with fail
  refine (new_any w).mono ?_
  rintro e w1 ⟨rfl, hk1, hb1⟩
  have hRl := hk1.lt
  have hz1 := hb1.size
  have HB1 : Hid (Both w (w1.alloc (.cells #[.slice none 0 0] 40)) w.heap.size w1.heap.size (.slice none 0 0) []) := Lib.hid
    ⟨hk1.below (by (repeat' (first | (with_reducible exact Below.refl _ _) | (with_reducible assumption) | (with_reducible refine Below.alloc ?_ ?_ _) | (with_reducible refine below_setRow ?_ ?_ _) | (with_reducible refine bl_drew ?_) | (with_reducible refine bl_drewN ?_ _) | (with_reducible refine Below.setCell ?_ ?_ _) | (with_reducible refine bl_then ?_ ?_ hb) | (with_reducible refine bl_then ?_ ?_ hb1) | (with_reducible refine bl_then ?_ ?_ hb2) | (with_reducible refine bl_then ?_ ?_ hb3) | (with_reducible refine bl_then ?_ ?_ hb4) | (with_reducible refine bl_then ?_ ?_ hb5) | (with_reducible refine bl_then ?_ ?_ hb6) | (with_reducible refine bl_then ?_ ?_ hb7) | (with_reducible refine bl_then ?_ ?_ hb8) | (with_reducible exact Nat.le_refl _) | omega | (simp only [World.size_alloc, World.size_setCell, World.size_drew, size_setRow]; omega) | (simp; omega) | (simp; done)))), ⟨heap_alloc_last w1 _, BB.nil _, by simp [Value.ownBlock]⟩, by simp [Value.ownBlock], bl_then hb1 hz1 (by (repeat' (first | (with_reducible exact Below.refl _ _) | (with_reducible assumption) | (with_reducible refine Below.alloc ?_ ?_ _) | (with_reducible refine below_setRow ?_ ?_ _) | (with_reducible refine bl_drew ?_) | (with_reducible refine bl_drewN ?_ _) | (with_reducible refine Below.setCell ?_ ?_ _) | (with_reducible refine bl_then ?_ ?_ hb) | (with_reducible refine bl_then ?_ ?_ hb1) | (with_reducible refine bl_then ?_ ?_ hb2) | (with_reducible refine bl_then ?_ ?_ hb3) | (with_reducible refine bl_then ?_ ?_ hb4) | (with_reducible refine bl_then ?_ ?_ hb5) | (with_reducible refine bl_then ?_ ?_ hb6) | (with_reducible refine bl_then ?_ ?_ hb7) | (with_reducible refine bl_then ?_ ?_ hb8) | (with_reducible exact Nat.le_refl _) | omega | (simp only [World.size_alloc, World.size_setCell, World.size_drew, size_setRow]; omega) | (simp; omega) | (simp; done))))⟩
  obtain ⟨R, hR⟩ : ∃ R, w.heap.size = R := ⟨_, rfl⟩
  obtain ⟨T, hT⟩ : ∃ T, w1.heap.size = T := ⟨_, rfl⟩
  clear hk1 hb1
  rw [hT, hR] at HB1
  go_wp2_with fail
  (try rw [hT])
  (try rw [hR])
  have hRT : R ≠ T := by omega
  have hRw : w.heap.size ≤ R := by omega
  have hTw : w.heap.size ≤ T := by omega
  have HRT := Lib.hid (And.intro hRT (And.intro hRw hTw))
  clear hRT hRw hTw hR hz1 hRl
  go_loopw [7] (fun i wr => ∃ (k : Nat) (ks : List Int) (v : Value), k ≤ bs.length ∧ i = .int .i64 k ∧ ks.length ≤ 3 ∧ Hid (Both w wr R T v ks)) (fun i _ => bs.length - (intOf i).toNat)
  case atStart => exact ⟨0, [], .slice none 0 0, Nat.zero_le _, rfl, by simp, HB1⟩
  case round =>
    clear HB1 hT
    obtain ⟨k, ks, v0, hk, rfl, hks, HBo⟩ := hrel
    obtain ⟨hRT, hRw, hTw⟩ := HRT.out
    by_cases hlt : k < bs.length
    · obtain ⟨b, off, rfl, hc⟩ := HX.out.2 (by omega)
      have hbl := HX.out.lt_ (by omega) rfl
      have hcc := hc k hlt
      have hc0 := HOK.out.getD k
      have HF : Hid (∀ W, Below w.heap.size w W → W.cell? ⟨b, off + k, none⟩ = some (.int .u8 (bs.getD k 0))) := Lib.hid (fun W hI => ((bcell hI).1 b _ hbl).trans hcc)
      clear hc hcc
      generalize bs.getD k 0 = c at *
      obtain ⟨ls, hls⟩ : ∃ ls, ks ++ [c] = ls := ⟨_, rfl⟩
      have hll : ls.length ≤ 4 := by rw [← hls]; simp; omega
      have hlo : okB ls := by
        rw [← hls]
        refine HBo.out.kp.ok.1.app ?_
        intro x hx
        obtain rfl := List.mem_singleton.1 hx
        exact hc0
      obtain ⟨t1, t2, t3, t4⟩ := tkS_rest ls.length ls (Nat.le_refl _) hlo
      have HTk : Hid (∀ W, Keeps W R ks → Calls Try.prog 17 #[.pointer (some ⟨R, 0, none⟩), .int .u8 c] W fun e w' => (∃ u, e = .returned u ∧ OwR w' W.heap.size u (tkS ls).1) ∧ Keeps w' R (tkS ls).2 ∧ W.grownBy w' (some R)) := Lib.hid (fun W hW => by have := take_any R c ks W hW hks hc0; rw [hls] at this; exact this)
      have HTf : Hid (∀ W, RefR W T ks → Calls Try.prog 21 #[.pointer (some ⟨T, 0, none⟩), .int .u8 c] W fun e w' => (∃ u, e = .returned u ∧ OwR w' W.heap.size u (tkS ls).1) ∧ (∃ v, RefS w' T v (tkS ls).2 ∧ ∀ q, v.ownBlock = some q → W.heap.size ≤ q) ∧ W.grownBy w' (some T)) := Lib.hid (fun W hW => by have := reftake_any T c ks W hW hks hc0; rw [hls] at this; exact this)
      have HT4 := Lib.hid t4
      clear hls t2 t4
      generalize (tkS ls).1 = rs at *
      generalize (tkS ls).2 = ks2 at *
      have hRl := HBo.out.kp.lt
      have hTl := HBo.out.rf.lt
      have HI0 : Hid (LawI w wr R T v0 ks ks2 rs (fun _ => gst 0 #[]) wr.drew) := Lib.hid ((lawI0 rfl).2 ⟨bl_drew HBo.out.bel, Nat.le_refl _, HBo.out.kp.keep rfl, ⟨HBo.out.rf.blk, HBo.out.rf.rd.keep (fun _ _ _ _ => rfl), HBo.out.rf.apart⟩, HBo.out.ap, bl_drew HBo.out.bel⟩)
      have HAP := Lib.hid HBo.out.ap
      clear HBo
      go_wp2_with fail
      apply wp_region_effT (LawI w wr R T v0 ks ks2 rs) (fun _ => gst 0 #[]) HI0.out (hm := by kernel_rfl)
      case h =>
        (apply SeqF.pure; (focus (first | rfl | (go_simp; done) | (simp [Region.wanted, yielded]; done))); (focus (intro w; go_simp; with_reducible rfl)); go_simp)
        (apply SeqF.pure; (focus (first | rfl | (go_simp; done) | (simp [Region.wanted, yielded]; done))); (focus (intro w; go_simp; with_reducible rfl)); go_simp)
        (apply SeqF.pure; (focus (first | rfl | (go_simp; done) | (simp [Region.wanted, yielded]; done))); (focus (intro w; go_simp; with_reducible rfl)); go_simp)
        (apply SeqF.pure; (focus (first | rfl | (go_simp; done) | (simp [Region.wanted, yielded]; done))); (focus (intro w; go_simp; with_reducible rfl)); go_simp)
        (apply SeqF.read []; (focus (first | rfl | (go_simp; done) | (simp [Region.wanted, yielded]; done))); (focus (intro γ' W hg hI; have x0 := HF.out W hI.1; go_simp; with_reducible rfl)); go_simp)
        apply SeqF.callE [0] (some 0) (fun _ v x => x = gst 1 #[v] ∧ ∃ A n m, v = .slice A n m) 17 #[.pointer (some ⟨R, 0, none⟩), .int .u8 c]
        · exact fun _ _ => rfl
        · (first | rfl | (go_simp; done) | (simp [Region.wanted, yielded]; done))
        · intro w; kernel_rfl
        · intro γ' W hg hI
          obtain ⟨i1, i2, i3⟩ := (lawI0 (hg 0 (by simp))).1 hI
          refine (HTk.out W i3.kp).mono ?_
          rintro e w' ⟨⟨u, rfl, ho⟩, hkp, hgr⟩
          obtain ⟨A9, c9, e9⟩ := ho.slice
          refine ⟨u, gst 1 #[u], rfl, ⟨rfl, _, _, _, e9⟩, (lawI1 (Gh.set_here _ _ _)).2 ⟨i1.grown hgr (Nat.le_trans i1.size (Nat.le_refl _)) (fun q hq => by obtain rfl := Option.some.inj hq; exact hRw), Nat.le_trans i2 hgr.size, hkp, i3.rf.far hgr hRT i3.ap, ho.mono i2⟩⟩
        rintro u1 x1 ⟨rfl, A1, n1, m1, rfl⟩
        go_simp
        (apply SeqF.pure; (focus (first | rfl | (go_simp; done) | (simp [Region.wanted, yielded]; done))); (focus (intro w; go_simp; with_reducible rfl)); go_simp)
        (apply SeqF.pure; (focus (first | rfl | (go_simp; done) | (simp [Region.wanted, yielded]; done))); (focus (intro w; go_simp; with_reducible rfl)); go_simp)
        (apply SeqF.pure; (focus (first | rfl | (go_simp; done) | (simp [Region.wanted, yielded]; done))); (focus (intro w; go_simp; with_reducible rfl)); go_simp)
        (apply SeqF.read []; (focus (first | rfl | (go_simp; done) | (simp [Region.wanted, yielded]; done))); (focus (intro γ' W hg hI; have x0 := HF.out W hI.1; go_simp; with_reducible rfl)); go_simp)
        apply SeqF.callE [0] (some 0) (fun γ v x => ∃ vt, x = gst 2 #[gu1 (γ 0), v, vt] ∧ (∃ A n m, v = .slice A n m) ∧ ∃ A m, vt = .slice A ks2.length m) 21 #[.pointer (some ⟨T, 0, none⟩), .int .u8 c]
        · exact fun γ' hg => by rw [hg 0 (by simp)]
        · (first | rfl | (go_simp; done) | (simp [Region.wanted, yielded]; done))
        · intro w; kernel_rfl
        · intro γ' W hg hI
          have hg0 := hg 0 (by simp)
          rw [Gh.set_here] at hg0
          obtain ⟨i1, i2, i3, i4, i5⟩ := (lawI1 hg0).1 hI
          refine (HTf.out W ⟨_, i4⟩).mono ?_
          rintro e w' ⟨⟨u, rfl, ho⟩, ⟨vt, hrf, hvt⟩, hgr⟩
          obtain ⟨A9, c9, e9⟩ := ho.slice
          obtain ⟨A8, c8, e8⟩ := hrf.slice
          have hbel := i1.grown hgr (Nat.le_trans i1.size (Nat.le_refl _)) (fun q hq => by obtain rfl := Option.some.inj hq; exact hTw)
          refine ⟨u, gst 2 #[.slice A1 n1 m1, u, vt], rfl, ⟨vt, rfl, ⟨_, _, _, e9⟩, _, _, e8⟩, (lawI2 (Gh.set_here _ _ _)).2 ⟨hbel, Nat.le_trans i2 hgr.size, ⟨i3.far hgr hRT, hrf, fun hh => ?_, hbel⟩, i5.far hgr hTl, ho.mono i2⟩⟩
          have := hvt R hh
          omega
        rintro u2 x2 ⟨vt, rfl, ⟨A2, n2, m2, rfl⟩, A3, m3, rfl⟩
        simp only [Gh.set_here, gu1_gst]
        go_simp
        apply SeqF.call (v := .bool true) [0] 9 #[.slice A1 n1 m1, .slice A2 n2 m2]
        · (first | rfl | (go_simp; done) | (simp [Region.wanted, yielded]; done))
        · intro w; kernel_rfl
        · intro γ' W hg hI
          have hg0 := hg 0 (by simp)
          rw [Gh.set_here] at hg0
          obtain ⟨i1, i2, i3, i4, i5⟩ := (lawI2 hg0).1 hI
          refine (same_runes _ _ rs rs W (i4.rd HT4.out (by omega)) (i5.rd HT4.out (by omega))).mono ?_
          rintro e w' ⟨rfl, hb⟩
          exact ⟨by simp, (lawI2 hg0).2 ⟨bl_then i1 i1.size hb, Nat.le_trans i2 hb.size, i3.below hb, i4.below hb, i5.below hb⟩⟩
        go_simp
        (apply SeqF.pure; (focus (first | rfl | (go_simp; done) | (simp [Region.wanted, yielded]; done))); (focus (intro w; go_simp; with_reducible rfl)); go_simp)
        (apply SeqF.pure; (focus (first | rfl | (go_simp; done) | (simp [Region.wanted, yielded]; done))); (focus (intro w; go_simp; with_reducible rfl)); go_simp)
        (apply SeqF.pure; (focus (first | rfl | (go_simp; done) | (simp [Region.wanted, yielded]; done))); (focus (intro w; go_simp; with_reducible rfl)); go_simp)
        apply SeqF.call (v := .int .i64 ks2.length) [0] 19 #[.pointer (some ⟨R, 0, none⟩)]
        · (first | rfl | (go_simp; done) | (simp [Region.wanted, yielded]; done))
        · intro w; kernel_rfl
        · intro γ' W hg hI
          have hg0 := hg 0 (by simp)
          rw [Gh.set_here] at hg0
          obtain ⟨i1, i2, i3, i4, i5⟩ := (lawI2 hg0).1 hI
          refine (waits_any R ks2 W i3.kp).mono ?_
          rintro e w' ⟨rfl, rfl⟩
          exact ⟨rfl, hI⟩
        go_simp
        (apply SeqF.pure; (focus (first | rfl | (go_simp; done) | (simp [Region.wanted, yielded]; done))); (focus (intro w; go_simp; with_reducible rfl)); go_simp)
        apply SeqF.dyn [0] (fun γ => gvt (γ 0))
        · intro γ' hg; rw [hg 0 (by simp)]
        · (first | rfl | (go_simp; done) | (simp [Region.wanted, yielded]; done))
        · intro γ' W hg hI
          have hg0 := hg 0 (by simp)
          rw [Gh.set_here] at hg0
          obtain ⟨i1, i2, i3, i4, i5⟩ := (lawI2 hg0).1 hI
          have ct : W.cell? ⟨T, 0, none⟩ = some (.slice A3 ks2.length m3) := (cell_of_row W T 0 _ _ (0, 0) i3.rf.blk).trans rfl
          simp only [Gh.set_here, gvt_gst]
          clear i1 i2 i3 i4 i5 hg0 hg hI
          go_simp
        simp only [Gh.set_here, gvt_gst]
        go_simp
        (apply SeqF.pure; (focus (first | rfl | (go_simp; done) | (simp [Region.wanted, yielded]; done))); (focus (intro w; go_simp; with_reducible rfl)); go_simp)
        (apply SeqF.pure; (focus (first | rfl | (go_simp; done) | (simp [Region.wanted, yielded]; done))); (focus (intro w; go_simp; with_reducible rfl)); go_simp)
        (apply SeqF.pure; (focus (first | rfl | (go_simp; done) | (simp [Region.wanted, yielded]; done))); (focus (intro w; go_simp; with_reducible rfl)); go_simp)
        apply SeqF.done
        intro w9 hI9
        obtain ⟨i1, i2, i3, i4, i5⟩ := (lawI2 (Gh.set_here _ _ _)).1 hI9
        have HB9 := Lib.hid i3
        clear i1 i2 i3 i4 i5 hI9
        go_simp
        have hk2 : (k : Int) < (bs.length : Int) := by omega
        have HDO := Lib.hid (decS_okR ks2 HB9.out.kp.ok.1)
        have hdl := decS_len ks2.length ks2 (Nat.le_refl _)
        have HN9 := Lib.hid (And.intro hRT (And.intro hRw hTw))
        clear hRT hRw hTw
        rcases (by omega : ¬ k < en ∨ k < en) with h5 | h5
        · have h5i : ¬ (k : Int) < (en : Int) := by omega
          go_wp2_with fail
          go_roundw
          case rel =>
            first
              | exact ⟨k + 1, ks2, _, by omega, by go_num, t1, HB9⟩
              | ((repeat apply Exists.intro); refine ⟨?_, rfl⟩; exact ⟨k + 1, ks2, _, by omega, by go_num, t1, HB9⟩)
          case measure =>
            simp [intOf]
            omega
        · obtain ⟨eb, eo, rfl, hel, hec⟩ := HES.out.2 (by omega)
          have ce : w9.cell? ⟨eb, eo + k, none⟩ = some (.bool (es.getD k false)) := ((bcell HB9.out.bel).1 eb _ hel).trans (hec k h5)
          clear hec
          have h5i : (k : Int) < (en : Int) := by omega
          generalize es.getD k false = ev at *
          cases ev
          · go_wp2_with fail
            go_roundw
            case rel =>
              first
                | exact ⟨k + 1, ks2, _, by omega, by go_num, t1, HB9⟩
                | ((repeat apply Exists.intro); refine ⟨?_, rfl⟩; exact ⟨k + 1, ks2, _, by omega, by go_num, t1, HB9⟩)
            case measure =>
              simp [intOf]
              omega
          · obtain ⟨ds, hds⟩ : ∃ ds, decS ks2 = ds := ⟨_, rfl⟩
            rw [hds] at HDO hdl
            have HDS := Lib.hid hds
            clear hds
            go_wp2_with fail
            (refine (end_any R ks2 w9 HB9.out.kp).mono ?_; rintro e w10 ⟨⟨ue, rfl, ho⟩, hkp, hgr⟩; rw [HDS.out] at ho; have hbel := HB9.out.bel.grown hgr HB9.out.bel.size (fun q hq => by obtain rfl := Option.some.inj hq; exact HN9.out.2.1); have HKP := Lib.hid hkp; have HRF := Lib.hid (HB9.out.rf.far hgr HN9.out.1 HB9.out.ap); have HOE := Lib.hid ho; have HBE := Lib.hid hbel; have htl := HB9.out.rf.lt; clear hkp hgr ho hbel; go_wp2_with fail; refine (refend_any T ks2 w10 ⟨_, HRF.out⟩ (by omega)).mono ?_; rintro e w11 ⟨⟨uf, rfl, ho⟩, hrf, hgr⟩; rw [HDS.out] at ho; have HB11 := Lib.hid (Both.mk (w := w) (HKP.out.far hgr HN9.out.1) hrf (by simp [Value.ownBlock]) (HBE.out.grown hgr HBE.out.size (fun q hq => by obtain rfl := Option.some.inj hq; exact HN9.out.2.2))); have HOE2 := Lib.hid (HOE.out.far hgr htl); have HOF := Lib.hid ho; clear hrf hgr ho HKP HRF HBE HOE; go_wp2_with fail; refine (same_runes _ _ ds ds w11 (HOE2.out.rd HDO.out (by omega)) (HOF.out.rd HDO.out (by omega))).mono ?_; rintro e w12 ⟨rfl, hb⟩; have HB12 := Lib.hid (HB11.out.below hb); clear hb HB11 HOE2 HOF; simp only [decide_true])
            go_wp2_with fail
            go_roundw
            case rel =>
              first
                | exact ⟨k + 1, [], _, by omega, by go_num, by simp, HB12⟩
                | ((repeat apply Exists.intro); refine ⟨?_, rfl⟩; exact ⟨k + 1, [], _, by omega, by go_num, by simp, HB12⟩)
            case measure =>
              simp [intOf]
              omega
      case hl => rfl
      case ho => kernel_rfl
    · have hi : ¬ (k : Int) < (bs.length : Int) := by omega
      have HN9 := Lib.hid (And.intro hRT (And.intro hRw hTw))
      clear hRT hRw hTw
      go_wp2_with fail
      refine (anchored_any wr).mono ?_
      rintro e w9 ⟨rfl, hb⟩
      have HB9 := Lib.hid (HBo.out.below hb)
      have HDO := Lib.hid (decS_okR ks HB9.out.kp.ok.1)
      have hdl := decS_len ks.length ks (Nat.le_refl _)
      clear hb HBo
      obtain ⟨ds, hds⟩ : ∃ ds, decS ks = ds := ⟨_, rfl⟩
      rw [hds] at HDO hdl
      have HDS := Lib.hid hds
      clear hds
      go_wp2_with fail
      (refine (end_any R ks w9 HB9.out.kp).mono ?_; rintro e w10 ⟨⟨ue, rfl, ho⟩, hkp, hgr⟩; rw [HDS.out] at ho; have hbel := HB9.out.bel.grown hgr HB9.out.bel.size (fun q hq => by obtain rfl := Option.some.inj hq; exact HN9.out.2.1); have HKP := Lib.hid hkp; have HRF := Lib.hid (HB9.out.rf.far hgr HN9.out.1 HB9.out.ap); have HOE := Lib.hid ho; have HBE := Lib.hid hbel; have htl := HB9.out.rf.lt; clear hkp hgr ho hbel; go_wp2_with fail; refine (refend_any T ks w10 ⟨_, HRF.out⟩ (by omega)).mono ?_; rintro e w11 ⟨⟨uf, rfl, ho⟩, hrf, hgr⟩; rw [HDS.out] at ho; have HB11 := Lib.hid (Both.mk (w := w) (HKP.out.far hgr HN9.out.1) hrf (by simp [Value.ownBlock]) (HBE.out.grown hgr HBE.out.size (fun q hq => by obtain rfl := Option.some.inj hq; exact HN9.out.2.2))); have HOE2 := Lib.hid (HOE.out.far hgr htl); have HOF := Lib.hid ho; clear hrf hgr ho HKP HRF HBE HOE; go_wp2_with fail; refine (same_runes _ _ ds ds w11 (HOE2.out.rd HDO.out (by omega)) (HOF.out.rd HDO.out (by omega))).mono ?_; rintro e w12 ⟨rfl, hb⟩; have HB12 := Lib.hid (HB11.out.below hb); clear hb HB11 HOE2 HOF; simp only [decide_true])
      go_wp2_with fail
      refine (waits_any R [] w12 HB12.out.kp).mono ?_
      rintro e w13 ⟨rfl, rfl⟩
      go_wp2_with fail
      go_ret
      exact ⟨rfl, HB12.out.bel⟩
end Go.Proofs.Ytghadceeckbgpaa
