/- What is proved: what Take of the reference answers when it is called; conditions: what the joiner holds is held. -/
import Derived.Test.YtnhhibdkojgnlaaFrag8
set_option linter.unusedSimpArgs false
set_option linter.unusedVariables false
namespace Go.Proofs.Ytnhhibdkojgnlaa
open Go.RowKit
set_option maxRecDepth 100000
set_option maxHeartbeats 8000000
theorem OwP.inv {w w1 : World} {base : Nat} {v : Value} {id : Int} {P : List HP} {S : Nat → Prop} {γ : Gh} (h : OwP w base v id P) (hI : Inv w S γ w1) (hS : ∀ g, S g → g < base) : OwP w1 base v id P :=
  ⟨owns_keep h.row (fun b hb hl => hI.far b hl (fun hs => by have := (rows_blk h.row hb).1; have := hS b hs; omega)),
   fun p hp => ⟨(h.bytes p hp).1.keep (fun b hb hl => hI.far b hl (fun hs => by have := ((h.bytes p hp).1.own_blk hb).1; have := hS b hs; omega)), (h.bytes p hp).2⟩, h.ap⟩
/-- What lies where while the reference takes a part. -/
structure TR (w wr : World) (R B : Nat) (v0 : Value) (s : JS) (v : Value) (row : Array Value) : Prop where
  r : RW wr R (R + 1) s v
  hB : wr.heap[B]? = some (.cells row 33 (0, 0))
  fr : Inv w (fun g => g = R ∨ v0.ownBlock = some g) gh0 wr
  lt : w.heap.size = B ∧ R < B
  ap : v.ownBlock ≠ some B ∧ ∀ p ∈ s.L, ∀ b, p.v.ownBlock = some b → b ≠ B
  vo : ∀ b, v.ownBlock = some b → v0.ownBlock = some b ∨ w.heap.size ≤ b
section
variable {w wr w1 : World} {R B : Nat} {v0 v : Value} {s s' : JS} {row row' : Array Value}
theorem TR.below (h : TR w wr R B v0 s v row) (hb : Below wr.heap.size wr w1) : TR w w1 R B v0 s v row :=
  ⟨h.r.below hb, (hb.block B (lt_of_heap h.hB)).trans h.hB, h.fr.below hb, h.lt, h.ap, h.vo⟩
theorem TR.cellB (h : TR w wr R B v0 s v row) {i : Nat} {u : Value} (hu : row[i]? = some u) : wr.cell? ⟨B, i, none⟩ = some u := (cell_of_row _ _ _ _ _ _ h.hB).trans hu
/-- The joiner is laid anew, with no part. -/
theorem TR.reset (h : TR w wr R B v0 s v row) (hs : s'.L = []) : TR w (wr.setRow R #[.int .u64 s'.id, .slice none 0 0, .bool s'.any, .bool s'.ended]) R B v0 s' (.slice none 0 0) row := by
  have hI := (only_setRow (cs := #[.int .u64 s'.id, .slice none 0 0, .bool s'.any, .bool s'.ended]) h.r.hR).inv h.r.hR
  refine ⟨⟨(hI.here 0 R _ rfl).1, by rw [hs]; exact OwP.nil _ _ _, by omega⟩, (hI.far B (lt_of_heap h.hB) (by have := h.lt; omega)).trans h.hB, h.fr.then hI (fun g hg _ => .inl hg), h.lt, ⟨by simp [Value.ownBlock], by rw [hs]; simp⟩, by simp [Value.ownBlock]⟩
theorem TR.setB {i : Nat} {u : Value} (h : TR w wr R B v0 s v row) (hr : row.setIfInBounds i u = row') : TR w (wr.setCell ⟨B, i, none⟩ u) R B v0 s v row' := by
  subst hr
  have hI := (only_setCell (i := i) (v := u) h.hB).inv h.hB
  have hl := h.lt
  refine ⟨⟨(hI.far R (lt_of_heap h.r.hR) (by omega)).trans h.r.hR, ⟨owns_keep h.r.hP.row (fun b hb hl2 => hI.far b hl2 (fun e => h.ap.1 (by rw [hb, e]))), fun p hp => ⟨(h.r.hP.bytes p hp).1.keep (fun b hb hl2 => hI.far b hl2 (fun e => h.ap.2 p hp b hb e)), (h.r.hP.bytes p hp).2⟩, h.r.hP.ap⟩, by omega⟩, (hI.here 0 B _ rfl).1, h.fr.then hI (fun g hg hl2 => by omega), h.lt, h.ap, h.vo⟩
theorem addr_add' (b j : Nat) : (⟨b, 0, none⟩ : Addr).add j = ⟨b, 0 + j, none⟩ := by unfold Addr.add; split <;> simp_all
/-- What the reference's Take answers. -/
def RTake (R : Nat) (s : JS) (v : Value) (id n : Int) (last : Bool) (bs : List Int) (w : World) (e : Ending) (w' : World) : Prop :=
  ∃ vr vc v', e = .returned (.tuple #[vr, .bool (takeR s id ⟨n, last, vc, bs⟩).isSome, .int .i64 (errT (mayB n last bs.length))]) ∧ OwB w' w.heap.size vr ((takeR s id ⟨n, last, vc, bs⟩).getD []) ∧ RW w' R (R + 1) (takeS s id ⟨n, last, vc, bs⟩) v' ∧ Inv w (fun g => g = R ∨ v.ownBlock = some g) gh0 w' ∧ ∀ b, v'.ownBlock = some b → v.ownBlock = some b ∨ w.heap.size ≤ b
theorem RTake.intro {R : Nat} {s : JS} {v : Value} {id n : Int} {last : Bool} {bs : List Int} {w : World} {e : Ending} {w' : World} (vr vc v' : Value) (h1 : e = .returned (.tuple #[vr, .bool (takeR s id ⟨n, last, vc, bs⟩).isSome, .int .i64 (errT (mayB n last bs.length))])) (h2 : OwB w' w.heap.size vr ((takeR s id ⟨n, last, vc, bs⟩).getD [])) (h3 : RW w' R (R + 1) (takeS s id ⟨n, last, vc, bs⟩) v') (h4 : Inv w (fun g => g = R ∨ v.ownBlock = some g) gh0 w') (h5 : ∀ b, v'.ownBlock = some b → v.ownBlock = some b ∨ w.heap.size ≤ b) : RTake R s v id n last bs w e w' := ⟨vr, vc, v', h1, h2, h3, h4, h5⟩
theorem joinInfo : (Try.prog.info? 27).map (·.size) = some 4 := by kernel_rfl
theorem st_sl (x : Value) (hx : ∃ A n c, x = .slice A n c) (W : World) (a : Addr) (h1 : (W.cell? a).isSome = true) (h2 : W.frozen? a = false) : (Instr.storeAt 22 (.pointer (some a)) x).run Try.prog W = .ok () (W.setCell a x) := by
  obtain ⟨A, n, c, rfl⟩ := hx
  obtain ⟨u, hu⟩ := Option.isSome_iff_exists.1 h1
  go_simp
end
theorem rtake_any (R : Nat) (s : JS) (v : Value) (id n : Int) (last : Bool) (u : Value) (bs : List Int) (w : World) (h : RW w R (R + 1) s v) (hs : JOk s) (hv : BB w u bs) (hun : ∀ b, 0 < bs.length → u.ownBlock = some b → b ≠ R ∧ v.ownBlock ≠ some b) :
    Calls Try.prog 9 #[.pointer (some ⟨R, 0, none⟩), partV id n last u] w (RTake R s v id n last bs w) := by
  obtain ⟨B, hB⟩ : ∃ B, w.heap.size = B := ⟨_, rfl⟩
  obtain ⟨V, hV⟩ : ∃ V, w.alloc (.cells #[.int .u64 id, .int .i64 n, .bool last, u] 33) = V := ⟨_, rfl⟩
  have hb1 : Below w.heap.size w V := by rw [← hV]; (repeat' (first | (with_reducible exact Below.refl _ _) | (with_reducible assumption) | (with_reducible refine Below.alloc ?_ ?_ _) | (with_reducible refine below_setRow ?_ ?_ _) | (with_reducible refine bl_drew ?_) | (with_reducible refine bl_drewN ?_ _) | (with_reducible refine Below.setCell ?_ ?_ _) | (with_reducible refine bl_then ?_ ?_ hb) | (with_reducible refine bl_then ?_ ?_ hb1) | (with_reducible refine bl_then ?_ ?_ hb2) | (with_reducible refine bl_then ?_ ?_ hb3) | (with_reducible refine bl_then ?_ ?_ hb4) | (with_reducible refine bl_then ?_ ?_ hb5) | (with_reducible refine bl_then ?_ ?_ hb6) | (with_reducible refine bl_then ?_ ?_ hb7) | (with_reducible refine bl_then ?_ ?_ hb8) | (with_reducible exact Nat.le_refl _) | omega | (simp only [World.size_alloc, World.size_setCell, World.size_drew, size_setRow]; omega) | (simp; omega) | (simp; done)))
  have hlR := lt_of_heap h.hR
  have HT : Hid (TR w V R B v s v #[.int .u64 id, .int .i64 n, .bool last, u]) := Lib.hid ⟨h.below hb1, by rw [← hV, ← hB]; exact heap_alloc_last _ _, Inv.ofBelow hb1, ⟨hB, by omega⟩, ⟨fun e => by have := (rows_blk h.hP.row e).2; omega, fun p hp b h2 => by have := ((h.hP.bytes p hp).1.own_blk h2).2; omega⟩, fun b hb => .inl hb⟩
  have HV := Lib.hid (hv.below hb1)
  have HVN : Hid (∀ b, 0 < bs.length → u.ownBlock = some b → ¬ b = R) := Lib.hid (fun b h1 h2 => (hun b h1 h2).1)
  have HS := Lib.hid hs
  clear h hs hv hb1 hlR hun
  have e1 : partV id n last u = .agg #[.int .u64 id, .int .i64 n, .bool last, u] := rfl
  rw [e1]
  clear e1
  go_enter Try.func9, Try.ntmps9
  go_wp2_with (with_reducible refine wpList_ldB (row := #[.int .u64 id, .int .i64 n, .bool last, u]) partInfo partRow rfl (.tmp 3) rfl rfl HT.out.hB ?_)
  refine (rmay_any id n last u bs _ HV.out).mono ?_
  rintro e w2 ⟨rfl, hb2⟩
  have hT2 := HT.out.below hb2
  have HV2 := Lib.hid (HV.out.below hb2)
  clear HT HV hb2 hV
  have HT := Lib.hid hT2
  have HV := HV2
  clear hT2 HV2
  obtain ⟨any, id0, ended, bytes, L⟩ := s
  cases hmay : mayB n last bs.length with
  | false =>
    have HM := Lib.hid hmay
    clear hmay
    go_wp2_with fail
    refine bodyPost_ret (v := .tuple #[.slice none 0 0, .bool false, .int .i64 2]) (by simp [results, Try.results9, go_sem]) rfl (RTake.intro (.slice none 0 0) u v ?_ ?_ ?_ HT.out.fr HT.out.vo)
    · simp [takeR, HM.out, errT]
    · simp only [takeR, HM.out]; exact OwB.nil _ _
    · simp only [takeS, HM.out]; exact HT.out.r
  | true =>
    have HM := Lib.hid hmay
    clear hmay
    go_wp2_with fail
    cases any
    · have HST : Hid (staleS ⟨false, id0, ended, bytes, L⟩ id = false) := Lib.hid (by simp [staleS])
      have HF : Hid (freshS ⟨false, id0, ended, bytes, L⟩ id = ⟨true, id, false, 0, []⟩) := Lib.hid (by simp [freshS])
      apply wp_region_eff _ _ (Inv.start0 _ fun _ => False) (hm := by kernel_rfl)
      case h =>
        (apply SeqF.pure; (focus (first | rfl | (go_simp; done) | (simp [Region.wanted, yielded]; done))); (focus (intro w; go_simp; with_reducible rfl)); go_simp)
        (apply SeqF.pure; (focus (first | rfl | (go_simp; done) | (simp [Region.wanted, yielded]; done))); (focus (intro w; go_simp; with_reducible rfl)); go_simp)
        (apply SeqF.pure; (focus (first | rfl | (go_simp; done) | (simp [Region.wanted, yielded]; done))); (focus (intro w; go_simp; with_reducible rfl)); go_simp)
        apply SeqF.read (v := .bool false) []
        · (first | rfl | (go_simp; done) | (simp [Region.wanted, yielded]; done))
        · intro γ' W hg hI
          have x0 := (HT.out.r.below hI.belowOf).cell.2.2.1
          go_simp
        go_simp
        (apply SeqF.pure; (focus (first | rfl | (go_simp; done) | (simp [Region.wanted, yielded]; done))); (focus (intro w; go_simp; with_reducible rfl)); go_simp)
        (apply SeqF.skip; (focus (first | rfl | (go_simp; done) | (simp [Region.wanted, yielded]; done))); go_simp)
        (apply SeqF.skip; (focus (first | rfl | (go_simp; done) | (simp [Region.wanted, yielded]; done))); go_simp)
        (apply SeqF.skip; (focus (first | rfl | (go_simp; done) | (simp [Region.wanted, yielded]; done))); go_simp)
        (apply SeqF.skip; (focus (first | rfl | (go_simp; done) | (simp [Region.wanted, yielded]; done))); go_simp)
        (apply SeqF.skip; (focus (first | rfl | (go_simp; done) | (simp [Region.wanted, yielded]; done))); go_simp)
        (apply SeqF.skip; (focus (first | rfl | (go_simp; done) | (simp [Region.wanted, yielded]; done))); go_simp)
        (apply SeqF.skip; (focus (first | rfl | (go_simp; done) | (simp [Region.wanted, yielded]; done))); go_simp)
        (apply SeqF.skip; (focus (first | rfl | (go_simp; done) | (simp [Region.wanted, yielded]; done))); go_simp)
        (apply SeqF.skip; (focus (first | rfl | (go_simp; done) | (simp [Region.wanted, yielded]; done))); go_simp)
        (apply SeqF.skip; (focus (first | rfl | (go_simp; done) | (simp [Region.wanted, yielded]; done))); go_simp)
        (apply SeqF.skip; (focus (first | rfl | (go_simp; done) | (simp [Region.wanted, yielded]; done))); go_simp)
        (apply SeqF.skip; (focus (first | rfl | (go_simp; done) | (simp [Region.wanted, yielded]; done))); go_simp)
        (apply SeqF.skip; (focus (first | rfl | (go_simp; done) | (simp [Region.wanted, yielded]; done))); go_simp)
        (apply SeqF.skip; (focus (first | rfl | (go_simp; done) | (simp [Region.wanted, yielded]; done))); go_simp)
        (apply SeqF.skip; (focus (first | rfl | (go_simp; done) | (simp [Region.wanted, yielded]; done))); go_simp)
        (apply SeqF.skip; (focus (first | rfl | (go_simp; done) | (simp [Region.wanted, yielded]; done))); go_simp)
        (apply SeqF.skip; (focus (first | rfl | (go_simp; done) | (simp [Region.wanted, yielded]; done))); go_simp)
        (apply SeqF.skip; (focus (first | rfl | (go_simp; done) | (simp [Region.wanted, yielded]; done))); go_simp)
        (apply SeqF.skip; (focus (first | rfl | (go_simp; done) | (simp [Region.wanted, yielded]; done))); go_simp)
        (apply SeqF.skip; (focus (first | rfl | (go_simp; done) | (simp [Region.wanted, yielded]; done))); go_simp)
        (apply SeqF.skip; (focus (first | rfl | (go_simp; done) | (simp [Region.wanted, yielded]; done))); go_simp)
        (apply SeqF.skip; (focus (first | rfl | (go_simp; done) | (simp [Region.wanted, yielded]; done))); go_simp)
        (apply SeqF.pure; (focus (first | rfl | (go_simp; done) | (simp [Region.wanted, yielded]; done))); (focus (intro w; go_simp; with_reducible rfl)); go_simp)
        apply SeqF.done
        intro w9 hI9
        have hT9 := HT.out.below hI9.belowOf
        have hV9 := HV.out.below hI9.belowOf
        clear hI9 HT HV
        have HT := Lib.hid hT9
        have HV := Lib.hid hV9
        clear hT9 hV9
        go_simp
        go_wp2_with fail
        apply wp_region_eff _ _ (Inv.start0 _ fun _ => False) (hm := by kernel_rfl)
        case h =>
          (apply SeqF.pure; (focus (first | rfl | (go_simp; done) | (simp [Region.wanted, yielded]; done))); (focus (intro w; go_simp; with_reducible rfl)); go_simp)
          (apply SeqF.pure; (focus (first | rfl | (go_simp; done) | (simp [Region.wanted, yielded]; done))); (focus (intro w; go_simp; with_reducible rfl)); go_simp)
          (apply SeqF.pure; (focus (first | rfl | (go_simp; done) | (simp [Region.wanted, yielded]; done))); (focus (intro w; go_simp; with_reducible rfl)); go_simp)
          apply SeqF.read (v := .bool false) []
          · (first | rfl | (go_simp; done) | (simp [Region.wanted, yielded]; done))
          · intro γ' W hg hI
            have x0 := (HT.out.r.below hI.belowOf).cell.2.2.1
            go_simp
          go_simp
          (apply SeqF.pure; (focus (first | rfl | (go_simp; done) | (simp [Region.wanted, yielded]; done))); (focus (intro w; go_simp; with_reducible rfl)); go_simp)
          (apply SeqF.pure; (focus (first | rfl | (go_simp; done) | (simp [Region.wanted, yielded]; done))); (focus (intro w; go_simp; with_reducible rfl)); go_simp)
          (apply SeqF.skip; (focus (first | rfl | (go_simp; done) | (simp [Region.wanted, yielded]; done))); go_simp)
          (apply SeqF.skip; (focus (first | rfl | (go_simp; done) | (simp [Region.wanted, yielded]; done))); go_simp)
          (apply SeqF.skip; (focus (first | rfl | (go_simp; done) | (simp [Region.wanted, yielded]; done))); go_simp)
          (apply SeqF.skip; (focus (first | rfl | (go_simp; done) | (simp [Region.wanted, yielded]; done))); go_simp)
          (apply SeqF.skip; (focus (first | rfl | (go_simp; done) | (simp [Region.wanted, yielded]; done))); go_simp)
          (apply SeqF.skip; (focus (first | rfl | (go_simp; done) | (simp [Region.wanted, yielded]; done))); go_simp)
          (apply SeqF.skip; (focus (first | rfl | (go_simp; done) | (simp [Region.wanted, yielded]; done))); go_simp)
          (apply SeqF.pure; (focus (first | rfl | (go_simp; done) | (simp [Region.wanted, yielded]; done))); (focus (intro w; go_simp; with_reducible rfl)); go_simp)
          apply SeqF.done
          intro w9 hI9
          have hT9 := HT.out.below hI9.belowOf
          have hV9 := HV.out.below hI9.belowOf
          clear hI9 HT HV
          have HT := Lib.hid hT9
          have HV := Lib.hid hV9
          clear hT9 hV9
          go_simp
          have b0 := HT.out.cellB (i := 0) rfl
          have hR9 := HT.out.r.hR
          have hT9 := HT.out.reset (s' := ⟨true, id, false, 0, []⟩) rfl
          have hV9 := HV.out.inv ((only_setRow (cs := #[.int .u64 id, .slice none 0 0, .bool true, .bool false]) hR9).inv hR9) (fun b h1 h2 => HVN.out b h1 h2)
          have b1 := hT9.cellB (i := 1) rfl
          go_wp2_with (with_reducible refine wpList_stB (row := #[.int .u64 id, .slice none 0 0, .bool true, .bool false]) joinInfo (by simp [Value.oneCell']) rfl (.tmp 62) (.tmp 61) rfl rfl rfl hR9 rfl ?_)
          try dsimp only at hT9
          generalize World.setRow _ R #[.int .u64 id, .slice none 0 0, .bool true, .bool false] = wz at *
          clear b0 hR9 HT HV b1
          have HT := Lib.hid hT9
          have HV := Lib.hid hV9
          clear hT9 hV9
          obtain ⟨v1, hv1⟩ : ∃ v1, v1 = Value.slice none 0 0 := ⟨_, rfl⟩
          rw [← hv1] at HT
          obtain ⟨s1, hs1⟩ : ∃ s1, s1 = (⟨true, id, false, 0, []⟩ : JS) := ⟨_, rfl⟩
          have HID : Hid (s1.id = id) := Lib.hid (by rw [hs1])
          have HAE : Hid (s1.any = true ∧ s1.ended = false) := Lib.hid (by rw [hs1]; exact ⟨rfl, rfl⟩)
          rw [← hs1] at HT HF
          have HS1 : Hid (JOk s1) := Lib.hid (by rw [← HF.out]; exact HS.out.fresh id)
          clear hs1 hv1
          as_aux_lemma =>
            refine (rhas_any R (R + 1) s1 v1 n wz HT.out.r (by have := HS1.out.len; omega)).mono ?_
            rintro e wa ⟨rfl, hb⟩
            have HTa := Lib.hid (HT.out.below hb)
            have HVa := Lib.hid (HV.out.below hb)
            clear HT HV hb
            cases hfd : findL n s1.L with
            | some q =>
              have HBQ := HTa.out.r.hP.bytes q (findL_mem hfd).1
              have HO : Hid ((prow s1.id q).all (·.oneCell') = true) := Lib.hid (prow_one (HBQ.1.rd HBQ.2.1 HBQ.2.2))
              have HAD0 : Hid (∀ vc, addS s1 ⟨n, last, vc, bs⟩ = s1) := Lib.hid (fun vc => by simp [addS, hfd])
              try rw [hfd]
              dsimp only [hasV, Option.isSome]
              clear hfd HBQ
              obtain ⟨Y, hY⟩ : ∃ Y, wa.heap.size = Y := ⟨_, rfl⟩
              have HA0 : Hid ((wa.alloc (.cells #[.int .u64 0, .int .i64 0, .bool false, .slice none 0 0] 33)).heap[Y]? = some (.cells #[.int .u64 0, .int .i64 0, .bool false, .slice none 0 0] 33 (0, 0))) := Lib.hid (by rw [← hY]; exact heap_alloc_last _ _)
              have hbl : Below wa.heap.size wa ((wa.alloc (.cells #[.int .u64 0, .int .i64 0, .bool false, .slice none 0 0] 33)).setRow Y (prow s1.id q)) := below_setRow (by (repeat' (first | (with_reducible exact Below.refl _ _) | (with_reducible assumption) | (with_reducible refine Below.alloc ?_ ?_ _) | (with_reducible refine below_setRow ?_ ?_ _) | (with_reducible refine bl_drew ?_) | (with_reducible refine bl_drewN ?_ _) | (with_reducible refine Below.setCell ?_ ?_ _) | (with_reducible refine bl_then ?_ ?_ hb) | (with_reducible refine bl_then ?_ ?_ hb1) | (with_reducible refine bl_then ?_ ?_ hb2) | (with_reducible refine bl_then ?_ ?_ hb3) | (with_reducible refine bl_then ?_ ?_ hb4) | (with_reducible refine bl_then ?_ ?_ hb5) | (with_reducible refine bl_then ?_ ?_ hb6) | (with_reducible refine bl_then ?_ ?_ hb7) | (with_reducible refine bl_then ?_ ?_ hb8) | (with_reducible exact Nat.le_refl _) | omega | (simp only [World.size_alloc, World.size_setCell, World.size_drew, size_setRow]; omega) | (simp; omega) | (simp; done)))) (by omega) _
              have hA1 : ((wa.alloc (.cells #[.int .u64 0, .int .i64 0, .bool false, .slice none 0 0] 33)).setRow Y (prow s1.id q)).heap[Y]? = some (.cells (prow s1.id q) 33 (0, 0)) := setRow_heap _ _ _ _ _ _ HA0.out
              go_wp2_with (with_reducible refine wpList_stB (row := (prow s1.id q)) partInfo HO.out rfl (.tmp 7) (.tmp 68) rfl rfl rfl HA0.out rfl ?_)
              try rw [hY]
              generalize (wa.alloc (.cells #[.int .u64 0, .int .i64 0, .bool false, .slice none 0 0] 33)).setRow Y (prow s1.id q) = wm at *

              have HT := Lib.hid (HTa.out.below hbl)
              clear hbl hA1 HA0 HTa HVa HO hY
              obtain ⟨s2, hs2⟩ : ∃ s2, s1 = s2 := ⟨_, rfl⟩
              obtain ⟨v2, hv2⟩ : ∃ v2, v1 = v2 := ⟨_, rfl⟩
              obtain ⟨vc, hvc⟩ : ∃ vc, u = vc := ⟨_, rfl⟩
              obtain ⟨row, hrow⟩ : ∃ row : Array Value, row = #[.int .u64 id, .int .i64 n, .bool last, u] := ⟨_, rfl⟩
              have HRW : Hid (row[0]? = some (.int .u64 id)) := Lib.hid (by rw [hrow]; rfl)
              have HAD : Hid (addS s1 ⟨n, last, vc, bs⟩ = s2) := Lib.hid ((HAD0.out vc).trans hs2)
              rw [hs2, hv2, ← hrow] at HT
              have HAE0 := HAE
              have HAE : Hid (s2.any = true) := Lib.hid (by rw [← hs2]; exact HAE0.out.1)
              rw [hs2] at HID
              have HS2 : Hid (JOk s2) := Lib.hid (by rw [← hs2]; exact HS1.out)
              clear HAD0 hs2 hv2 hvc hrow HAE0
              obtain ⟨r, hr⟩ : ∃ r, wholeF s2.L 256 0 [] = r := ⟨_, rfl⟩
              have HW := Lib.hid hr
              clear hr
              have hsz : w.heap.size ≤ wm.heap.size := HT.out.fr.size
              have hRB := HT.out.lt
              go_loopw [10, 9] (fun i vv wr => ∃ k : Nat, k ≤ 256 ∧ i = .int .i64 k ∧ ∃ acc, OwB wr wm.heap.size vv acc ∧ okB acc ∧ acc.length ≤ 1024 * k ∧ Hid (wholeF s2.L (256 - k) k acc = r) ∧ Below wm.heap.size wm wr) (fun i _ _ => 256 - (intOf i).toNat)
              case atStart => exact ⟨0, by omega, rfl, [], OwB.nil _ _, okB.nil, by simp, HW, Below.refl _ _⟩
              case round =>
                obtain ⟨k, hk, rfl, acc, hacc, hok, hal, HWK, hL⟩ := hrel
                obtain ⟨A0, c0, hv0⟩ := hacc.slice
                subst hv0
                by_cases hk2 : k < 256
                · have hki : (k : Int) < 256 := by omega
                  have hk0 : (0 : Int) ≤ (k : Int) := by omega
                  obtain ⟨f, hf⟩ : ∃ f, 256 - k = f + 1 := ⟨255 - k, by omega⟩
                  have hf2 : f = 256 - (k + 1) := by omega
                  have HWO := HWK.out
                  rw [hf] at HWO
                  clear HWK hf
                  have HA := Lib.hid hacc
                  have HL := Lib.hid hL
                  have HT1 := Lib.hid (HT.out.below hL)
                  clear hacc hL
                  go_wp2_with fail
                  refine (rhas_any R (R + 1) s2 v2 (k : Int) _ HT1.out.r (by have := HS2.out.len; omega)).mono ?_
                  rintro e wb ⟨rfl, hb⟩
                  have HTb := Lib.hid (HT1.out.below hb)
                  have HAb := Lib.hid (HA.out.below hb)
                  have HLb := Lib.hid (bl_then HL.out HL.out.size hb)
                  clear HT1 HA HL hb
                  cases hfd : findL (k : Int) s2.L with
                  | none =>
                    have HR : Hid (r = none) := Lib.hid (by rw [← HWO]; simp [wholeF, hfd])
                    have HE : Hid (endS s2 = s2) := Lib.hid (by simp [endS, HW.out, HR.out])
                    clear HWO
                    try rw [hfd]
                    dsimp only [hasV, Option.isSome]
                    clear hfd
                    obtain ⟨Y, hY⟩ : ∃ Y, wb.heap.size = Y := ⟨_, rfl⟩
                    have HA0 : Hid ((wb.alloc (.cells #[.int .u64 0, .int .i64 0, .bool false, .slice none 0 0] 33)).heap[Y]? = some (.cells #[.int .u64 0, .int .i64 0, .bool false, .slice none 0 0] 33 (0, 0))) := Lib.hid (by rw [← hY]; exact heap_alloc_last _ _)
                    have hbl : Below wb.heap.size wb ((wb.alloc (.cells #[.int .u64 0, .int .i64 0, .bool false, .slice none 0 0] 33)).setRow Y #[.int .u64 0, .int .i64 0, .bool false, .slice none 0 0]) := below_setRow (by (repeat' (first | (with_reducible exact Below.refl _ _) | (with_reducible assumption) | (with_reducible refine Below.alloc ?_ ?_ _) | (with_reducible refine below_setRow ?_ ?_ _) | (with_reducible refine bl_drew ?_) | (with_reducible refine bl_drewN ?_ _) | (with_reducible refine Below.setCell ?_ ?_ _) | (with_reducible refine bl_then ?_ ?_ hb) | (with_reducible refine bl_then ?_ ?_ hb1) | (with_reducible refine bl_then ?_ ?_ hb2) | (with_reducible refine bl_then ?_ ?_ hb3) | (with_reducible refine bl_then ?_ ?_ hb4) | (with_reducible refine bl_then ?_ ?_ hb5) | (with_reducible refine bl_then ?_ ?_ hb6) | (with_reducible refine bl_then ?_ ?_ hb7) | (with_reducible refine bl_then ?_ ?_ hb8) | (with_reducible exact Nat.le_refl _) | omega | (simp only [World.size_alloc, World.size_setCell, World.size_drew, size_setRow]; omega) | (simp; omega) | (simp; done)))) (by omega) _
                    have hA1 : ((wb.alloc (.cells #[.int .u64 0, .int .i64 0, .bool false, .slice none 0 0] 33)).setRow Y #[.int .u64 0, .int .i64 0, .bool false, .slice none 0 0]).heap[Y]? = some (.cells #[.int .u64 0, .int .i64 0, .bool false, .slice none 0 0] 33 (0, 0)) := setRow_heap _ _ _ _ _ _ HA0.out
                    go_wp2_with (with_reducible refine wpList_stB (row := #[.int .u64 0, .int .i64 0, .bool false, .slice none 0 0]) partInfo (by simp [Value.oneCell']) rfl (.tmp 11) (.tmp 94) rfl rfl rfl HA0.out rfl ?_)
                    try rw [hY]
                    generalize (wb.alloc (.cells #[.int .u64 0, .int .i64 0, .bool false, .slice none 0 0] 33)).setRow Y #[.int .u64 0, .int .i64 0, .bool false, .slice none 0 0] = wc at *

                    have HTc := Lib.hid (HTb.out.below hbl)
                    clear hbl hA1 HA0 HTb HAb
                    refine bodyPost_ret (v := .tuple #[.slice none 0 0, .bool false, .int .i64 0]) (by simp [results, Try.results9, go_sem]) rfl (RTake.intro (.slice none 0 0) vc (v2) ?_ ?_ ?_ HTc.out.fr HTc.out.vo)
                    · simp [takeR, HM.out, HST.out, errT, HF.out, HAD.out, HW.out, HR.out]
                    · simp only [takeR, HM.out, HST.out, HF.out, HAD.out, HW.out, HR.out]
                      exact OwB.nil _ _
                    · simp only [takeS, HM.out, HST.out, HF.out, HAD.out]
                      simp only [if_true, Bool.false_eq_true, if_false, HE.out]
                      exact HTc.out.r
                  | some p =>
                    have hmem := findL_mem hfd
                    have HBP := Lib.hid (HTb.out.r.hP.bytes p hmem.1)
                    have hbb := HBP.out.1.rd HBP.out.2.1 HBP.out.2.2
                    have HPL := Lib.hid (HS2.out.part p hmem.1).1
                    have HO : Hid ((prow s2.id p).all (·.oneCell') = true) := Lib.hid (prow_one hbb)
                    have HW2 : Hid ((if p.last then some (acc ++ p.bs) else wholeF s2.L f (k + 1) (acc ++ p.bs)) = r) := Lib.hid (by rw [← HWO]; simp [wholeF, hfd])
                    clear HWO hmem
                    try rw [hfd]
                    dsimp only [hasV, Option.isSome]
                    clear hfd
                    obtain ⟨Y, hY⟩ : ∃ Y, wb.heap.size = Y := ⟨_, rfl⟩
                    have HA0 : Hid ((wb.alloc (.cells #[.int .u64 0, .int .i64 0, .bool false, .slice none 0 0] 33)).heap[Y]? = some (.cells #[.int .u64 0, .int .i64 0, .bool false, .slice none 0 0] 33 (0, 0))) := Lib.hid (by rw [← hY]; exact heap_alloc_last _ _)
                    have hbl : Below wb.heap.size wb ((wb.alloc (.cells #[.int .u64 0, .int .i64 0, .bool false, .slice none 0 0] 33)).setRow Y (prow s2.id p)) := below_setRow (by (repeat' (first | (with_reducible exact Below.refl _ _) | (with_reducible assumption) | (with_reducible refine Below.alloc ?_ ?_ _) | (with_reducible refine below_setRow ?_ ?_ _) | (with_reducible refine bl_drew ?_) | (with_reducible refine bl_drewN ?_ _) | (with_reducible refine Below.setCell ?_ ?_ _) | (with_reducible refine bl_then ?_ ?_ hb) | (with_reducible refine bl_then ?_ ?_ hb1) | (with_reducible refine bl_then ?_ ?_ hb2) | (with_reducible refine bl_then ?_ ?_ hb3) | (with_reducible refine bl_then ?_ ?_ hb4) | (with_reducible refine bl_then ?_ ?_ hb5) | (with_reducible refine bl_then ?_ ?_ hb6) | (with_reducible refine bl_then ?_ ?_ hb7) | (with_reducible refine bl_then ?_ ?_ hb8) | (with_reducible exact Nat.le_refl _) | omega | (simp only [World.size_alloc, World.size_setCell, World.size_drew, size_setRow]; omega) | (simp; omega) | (simp; done)))) (by omega) _
                    have hA1 : ((wb.alloc (.cells #[.int .u64 0, .int .i64 0, .bool false, .slice none 0 0] 33)).setRow Y (prow s2.id p)).heap[Y]? = some (.cells (prow s2.id p) 33 (0, 0)) := setRow_heap _ _ _ _ _ _ HA0.out
                    have c3 : ((wb.alloc (.cells #[.int .u64 0, .int .i64 0, .bool false, .slice none 0 0] 33)).setRow Y (prow s2.id p)).cell? ⟨Y, 3, none⟩ = some p.v := (cell_of_row _ _ _ _ _ _ hA1).trans rfl
                    have HBc := Lib.hid (hbb.below hbl)
                    have HAc := Lib.hid (HAb.out.below hbl)
                    have HLc := Lib.hid (bl_then HLb.out HLb.out.size hbl)
                    have HYL : Hid (∀ b, (Value.slice A0 acc.length c0).ownBlock = some b → b < Y) := Lib.hid (fun b h => by rw [← hY]; exact (HAb.out.own_blk h).2)
                    clear hbb hbl HAb HTb HLb HBP
                    go_wp2_with (first | (with_reducible refine wpList_stB (row := prow s2.id p) partInfo HO.out rfl (.tmp 11) (.tmp 94) rfl rfl rfl HA0.out rfl ?_) | (at_builtin; refine wpList_appB (base := wm.heap.size) rfl _ _ rfl (.slice A0 acc.length c0) p.v acc p.bs rfl ?_ rfl ?_ ?_ ?_ ?_))
                    · exact HAc.out
                    · exact HBc.out
                    · have := HPL.out; omega
                    · exact HLc.out.size
                    · intro v' w' h1 h2 h3
                      have hYb := h2.block Y (lt_of_heap hA1) (by
                        intro e
                        have := HYL.out Y e.symm
                        omega)
                      have c2 : w'.cell? ⟨Y, 2, none⟩ = some (.bool p.last) := (cell_of_row _ _ _ _ _ _ (hYb.trans hA1)).trans rfl
                      have HL2 := Lib.hid (HLc.out.grown h2 HLc.out.size (fun q hq => (HAc.out.own_blk hq).1))
                      have H1 := Lib.hid h1
                      have HT2 := Lib.hid (HT.out.below HL2.out)
                      have hok2 : okB (acc ++ p.bs) := hok.app HBc.out.ok
                      have hal2 : (acc ++ p.bs).length ≤ 1024 * (k + 1) := by have := HPL.out; rw [List.length_append]; omega
                      obtain ⟨A1, c1, hv1⟩ := h1.slice
                      subst hv1
                      clear hYb c3 hA1 HA0 h1 h2 h3 HLc HAc HBc HPL HO HYL hY hok hal
                      cases hpl : p.last
                      · rw [hpl] at c2
                        have HW3 : Hid (wholeF s2.L (256 - (k + 1)) (k + 1) (acc ++ p.bs) = r) := Lib.hid (by rw [← HW2.out, hpl, hf2]; rfl)
                        clear HW2 hpl HT2
                        go_wp2_with fail
                        go_roundw
                        case rel =>
                          first
                            | exact ⟨k + 1, by omega, by go_num, _, H1.out, hok2, hal2, HW3, HL2.out⟩
                            | ((repeat apply Exists.intro); refine ⟨?_, rfl⟩; exact ⟨k + 1, by omega, by go_num, _, H1.out, hok2, hal2, HW3, HL2.out⟩)
                        case measure => first | (simp [intOf]; done) | (simp [intOf]; omega)
                      · rw [hpl] at c2
                        have HR : Hid (r = some (acc ++ p.bs)) := Lib.hid (by rw [← HW2.out, hpl]; rfl)
                        have HE : Hid (endS s2 = { s2 with L := [], ended := true, bytes := 0 }) := Lib.hid (by simp [endS, HW.out, HR.out])
                        have b0 := HT2.out.cellB (i := 0) HRW.out
                        have hR9 := HT2.out.r.hR
                        have hT9 := HT2.out.reset (s' := { s2 with L := [], ended := true, bytes := 0 }) rfl
                        try dsimp only at hT9
                        rw [HID.out, HAE.out] at hT9
                        have HO9 : Hid (OwB (w'.setRow R #[.int .u64 id, .slice none 0 0, .bool true, .bool true]) wm.heap.size (.slice A1 (acc ++ p.bs).length c1) (acc ++ p.bs)) := Lib.hid (H1.out.keep fun b h1 h2 => by
                          have := (H1.out.own_blk h1).1
                          have hlB := lt_of_heap HT.out.hB
                          rw [heap_setRow_if, if_neg (by omega)])
                        have HT9 := Lib.hid hT9
                        clear HW2 hpl HT2 hT9 H1
                        go_wp2_with (with_reducible refine wpList_stB (row := #[.int .u64 id, .slice none 0 0, .bool true, .bool true]) joinInfo (by simp [Value.oneCell']) rfl (.tmp 108) (.tmp 107) rfl rfl rfl hR9 rfl ?_)
                        refine bodyPost_ret (v := .tuple #[.slice A1 (acc ++ p.bs).length c1, .bool true, .int .i64 0]) (by simp [results, Try.results9, go_sem]) rfl (RTake.intro (.slice A1 (acc ++ p.bs).length c1) vc (.slice none 0 0) ?_ ?_ ?_ HT9.out.fr HT9.out.vo)
                        · simp [takeR, HM.out, HST.out, errT, HF.out, HAD.out, HW.out, HR.out]
                        · simp only [takeR, HM.out, HST.out, HF.out, HAD.out, HW.out, HR.out]
                          exact HO9.out.mono (by omega)
                        · simp only [takeS, HM.out, HST.out, HF.out, HAD.out]
                          simp only [if_true, Bool.false_eq_true, if_false, HE.out]
                          rw [HID.out, HAE.out]
                          exact HT9.out.r
                · obtain rfl : k = 256 := by omega
                  have HR : Hid (r = none) := Lib.hid (by rw [← HWK.out]; rfl)
                  have HE : Hid (endS s2 = s2) := Lib.hid (by simp [endS, HW.out, HR.out])
                  have HT1 := Lib.hid (HT.out.below hL)
                  clear HWK hacc hL
                  go_wp2_with fail
                  refine bodyPost_ret (v := .tuple #[.slice none 0 0, .bool false, .int .i64 0]) (by simp [results, Try.results9, go_sem]) rfl (RTake.intro (.slice none 0 0) vc (v2) ?_ ?_ ?_ HT1.out.fr HT1.out.vo)
                  · simp [takeR, HM.out, HST.out, errT, HF.out, HAD.out, HW.out, HR.out]
                  · simp only [takeR, HM.out, HST.out, HF.out, HAD.out, HW.out, HR.out]
                    exact OwB.nil _ _
                  · simp only [takeS, HM.out, HST.out, HF.out, HAD.out]
                    simp only [if_true, Bool.false_eq_true, if_false, HE.out]
                    exact HT1.out.r
            | none =>
              have HFD := Lib.hid hfd
              try rw [hfd]
              dsimp only [hasV, Option.isSome]
              clear hfd
              obtain ⟨Y, hY⟩ : ∃ Y, wa.heap.size = Y := ⟨_, rfl⟩
              have HA0 : Hid ((wa.alloc (.cells #[.int .u64 0, .int .i64 0, .bool false, .slice none 0 0] 33)).heap[Y]? = some (.cells #[.int .u64 0, .int .i64 0, .bool false, .slice none 0 0] 33 (0, 0))) := Lib.hid (by rw [← hY]; exact heap_alloc_last _ _)
              have hbl : Below wa.heap.size wa ((wa.alloc (.cells #[.int .u64 0, .int .i64 0, .bool false, .slice none 0 0] 33)).setRow Y #[.int .u64 0, .int .i64 0, .bool false, .slice none 0 0]) := below_setRow (by (repeat' (first | (with_reducible exact Below.refl _ _) | (with_reducible assumption) | (with_reducible refine Below.alloc ?_ ?_ _) | (with_reducible refine below_setRow ?_ ?_ _) | (with_reducible refine bl_drew ?_) | (with_reducible refine bl_drewN ?_ _) | (with_reducible refine Below.setCell ?_ ?_ _) | (with_reducible refine bl_then ?_ ?_ hb) | (with_reducible refine bl_then ?_ ?_ hb1) | (with_reducible refine bl_then ?_ ?_ hb2) | (with_reducible refine bl_then ?_ ?_ hb3) | (with_reducible refine bl_then ?_ ?_ hb4) | (with_reducible refine bl_then ?_ ?_ hb5) | (with_reducible refine bl_then ?_ ?_ hb6) | (with_reducible refine bl_then ?_ ?_ hb7) | (with_reducible refine bl_then ?_ ?_ hb8) | (with_reducible exact Nat.le_refl _) | omega | (simp only [World.size_alloc, World.size_setCell, World.size_drew, size_setRow]; omega) | (simp; omega) | (simp; done)))) (by omega) _
              have hTy := HTa.out.below hbl
              have HVy := Lib.hid (HVa.out.below hbl)
              have b3 := hTy.cellB (i := 3) rfl
              have HTy := Lib.hid hTy
              clear hTy hbl HTa HVa
              go_wp2_with (with_reducible refine wpList_stB (row := #[.int .u64 0, .int .i64 0, .bool false, .slice none 0 0]) partInfo (by simp [Value.oneCell']) rfl (.tmp 7) (.tmp 68) rfl rfl rfl HA0.out rfl ?_)
              generalize (wa.alloc (.cells #[.int .u64 0, .int .i64 0, .bool false, .slice none 0 0] 33)).setRow Y #[.int .u64 0, .int .i64 0, .bool false, .slice none 0 0] = wy at *
              refine (copy_bytes u bs wy HVy.out).mono ?_
              rintro e wc ⟨⟨vc, rfl, ho⟩, hb⟩
              have hTc := HTy.out.below hb
              have HBC : Hid (BB wc vc bs) := Lib.hid (ho.rd HVy.out.ok HVy.out.len)
              have HOwn : Hid (OwB wc wy.heap.size vc bs) := Lib.hid ho
              have hsz9 : B < wy.heap.size := lt_of_heap HTy.out.hB
              have hlt := hTc.lt
              have HVB : Hid (∀ b, v1.ownBlock = some b → b < wy.heap.size) := Lib.hid (fun b h => (rows_blk HTy.out.r.hP.row h).2)
              obtain ⟨A3, c3, hv3⟩ := ho.slice
              clear hb b3 HTy HA0 hY ho
              have b3 := hTc.cellB (i := 3) rfl
              have g3 := frozen_of_row wc B 3 _ _ hTc.hB
              have HTd := Lib.hid (hTc.setB (i := 3) (u := vc) (row' := #[.int .u64 id, .int .i64 n, .bool last, vc]) rfl)
              have HOd : Hid (OwB (wc.setCell ⟨B, 3, none⟩ vc) wy.heap.size vc bs) := Lib.hid (HOwn.out.keep fun b h1 h2 => heap_setCell_other _ ⟨_, _, _⟩ _ _ (by have := (HOwn.out.own_blk h1).1; show b ≠ B; omega))
              have HKB := Lib.hid (And.intro HVy.out.ok HVy.out.len)
              subst hv3
              clear hTc HBC HOwn HVy
              go_wp2_with fail
              generalize wc.setCell ⟨B, 3, none⟩ (.slice A3 bs.length c3) = W2 at *
              have HT := HTd
              clear HTd g3 b3
              obtain ⟨x, hx, hx2⟩ := OwX.of HT.out.r.hP.row
              have hbk : v1.ownBlock = x.map (·.1) := hx.block
              have hbm : ∀ g o, x = some (g, o) → v1.ownBlock = some g := fun g o e => by rw [hbk, e]; rfl
              have HV1 : Hid (v1 = rowVal 4 s1.L.length x) := Lib.hid (hx.val (by decide))
              have hsl : ∃ A c, v1 = .slice A s1.L.length c := by have h := hx; rw [HV1.out] at h ⊢; exact h.form
              obtain ⟨it, hit, hzr, hs1z, hs8⟩ : ∃ i, Try.prog.info? 33 = some i ∧ i.zero = some (partV 0 0 false (.slice none 0 0)) ∧ i.size = 4 ∧ i.bytes = 48 := by
                obtain ⟨i, h, h2⟩ := Option.map_eq_some_iff.1 (show (Try.prog.info? 33).map (fun i => (i.zero, i.size, i.bytes)) = some (some (partV 0 0 false (.slice none 0 0)), 4, 48) by kernel_rfl)
                simp only [Prod.mk.injEq] at h2
                exact ⟨i, h, h2.1, h2.2.1, h2.2.2⟩
              have hR1 := HT.out.r.hR
              rw [HID.out, HAE.out.1, HAE.out.2] at hR1
              clear hbk
              have hl256 := HS1.out.len
              apply wp_region_eff _ _ (Inv.start2 hR1 (.inl rfl) (fun g o e => ⟨(hx2 g o e).2.1, by have := (hx2 g o e).1; omega, .inr (hbm g o e)⟩) : Inv W2 (fun g => g = R ∨ v1.ownBlock = some g) (gh2 (some (R, .cells #[.int .u64 id, v1, .bool true, .bool false] 27 (0, 0))) x) W2.drew) (hm := by kernel_rfl)
              case h =>
                (apply SeqF.pure; (focus (first | rfl | (go_simp; done) | (simp [Region.wanted, yielded]; done))); (focus (intro w; go_simp; with_reducible rfl)); go_simp)
                (apply SeqF.pure; (focus (first | rfl | (go_simp; done) | (simp [Region.wanted, yielded]; done))); (focus (intro w; go_simp; with_reducible rfl)); go_simp)
                (apply SeqF.pure; (focus (first | rfl | (go_simp; done) | (simp [Region.wanted, yielded]; done))); (focus (intro w; go_simp; with_reducible rfl)); go_simp)
                (apply SeqF.pure; (focus (first | rfl | (go_simp; done) | (simp [Region.wanted, yielded]; done))); (focus (intro w; go_simp; with_reducible rfl)); go_simp)
                apply SeqF.read (v := v1) [0]
                · (first | rfl | (go_simp; done) | (simp [Region.wanted, yielded]; done))
                · intro γ' W hg hI
                  have x0 : W.cell? ⟨R, 1, none⟩ = some v1 := (cell_of_row _ _ _ _ _ _ (hI.here 0 R _ ((hg 0 (by simp)).trans rfl)).1).trans rfl
                  obtain ⟨A9, c9, e9⟩ := hsl
                  subst e9
                  go_simp
                go_simp
                apply SeqF.read (v := .agg #[.int .u64 id, .int .i64 n, .bool last, .slice A3 bs.length c3]) []
                · (first | rfl | (go_simp; done) | (simp [Region.wanted, yielded]; done))
                · exact fun γ' W hg hI => exec_load rfl rfl (run_load_blk partInfo partRow ((hI.far B (lt_of_heap HT.out.hB) (fun e => e.elim (fun e => by omega) HT.out.ap.1)).trans HT.out.hB))
                go_simp
                apply SeqF.new [] 2 (fun g => .slice (some ⟨g, 0, none⟩) 1 1) (fun _ => .cells #[.int .u64 id, .int .i64 n, .bool last, .slice A3 bs.length c3] 33 (0, 0))
                · intro γ' _; rfl
                · (first | rfl | (go_simp; done) | (simp [Region.wanted, yielded]; done))
                · intro γ' V hg hI; kernel_rfl
                intro X hX
                go_simp
                apply SeqF.append [1, 2] 1 (by simp) (.tmp 80) (.tmp 82) 22 33 it _ 4 48 rfl rfl Try.underlying22 hit hzr hs1z hs8 rfl (by decide) v1 s1.L.length (flatP s1.id s1.L) rfl hx ⟨X, 0, none⟩ 1 1 (prow id ⟨n, last, .slice A3 bs.length c3, bs⟩).toList rfl rfl ?n1 ?n2 ?n3 ?n4 (fun _ => flatP s1.id s1.L ++ (prow id ⟨n, last, .slice A3 bs.length c3, bs⟩).toList) ?n5 ?n6 ?n7
                case n1 =>
                  intro γ' V hg hI j u hj
                  have hh := (hI.here 2 X _ ((hg 2 (by simp)).trans (Gh.set_here _ _ _))).1
                  rw [addr_add', cell_of_row _ _ _ _ _ _ hh, Nat.zero_add, ← Array.getElem?_toList]
                  exact hj
                case n2 =>
                  intro y hy
                  simp only [prow, List.mem_cons, List.not_mem_nil, or_false] at hy
                  rcases hy with rfl | rfl | rfl | rfl <;> rfl
                case n3 => unfold maxLen; omega
                case n4 => omega
                case n5 => intro γ' hg; rfl
                case n6 => rfl
                case n7 =>
                  intro v' x' hu hx'
                  obtain rfl := hu.val (by decide)
                  go_simp
                  (apply SeqF.pure; (focus (first | rfl | (go_simp; done) | (simp [Region.wanted, yielded]; done))); (focus (intro w; go_simp; with_reducible rfl)); go_simp)
                  (apply SeqF.pure; (focus (first | rfl | (go_simp; done) | (simp [Region.wanted, yielded]; done))); (focus (intro w; go_simp; with_reducible rfl)); go_simp)
                  apply SeqF.store [0, 1] 0 R (.cells #[.int .u64 id, v1, .bool true, .bool false] 27 (0, 0)) rfl (by simp) (fun γ => .cells #[.int .u64 id, rowVal 4 (s1.L.length + 1) (γ 1), .bool true, .bool false] 27 (0, 0))
                  · intro γ' hg; simp only [hg 1 (by simp)]
                  · (first | rfl | (go_simp; done) | (simp [Region.wanted, yielded]; done))
                  · intro γ' W hg hI hW
                    simp only [Gh.set_here]
                    exact exec_st1 (i := 1) (st_sl _ (by obtain ⟨A9, c9, e9⟩ := hu.form; exact ⟨_, _, _, e9⟩)) rfl rfl rfl (by simp) rfl hW
                  go_simp
                  apply SeqF.done
                  intro wm hI9
                  have hR9 := (hI9.here 0 R _ (Gh.set_here _ _ _)).1
                  simp only [Gh.set_here] at hR9
                  have hX1 : ∀ g o, x' = some (g, o) → wm.heap[g]? = some o := fun g o e => (hI9.here 1 g o (by rw [Gh.set_far _ _ (by decide), Gh.set_here]; exact e)).1
                  have hxo : ∀ g o, x' = some (g, o) → v1.ownBlock = some g ∨ W2.heap.size ≤ g := fun g o e => by
                    rcases hx' g o e with ⟨o', h⟩ | h
                    · exact .inl (hbm g o' (by simpa [Gh.set, gh2] using h))
                    · exact .inr h
                  have hbl2 : (rowVal 4 (s1.L.length + 1) x').ownBlock = x'.map (·.1) := hu.block
                  have hxo2 : ∀ b, (rowVal 4 (s1.L.length + 1) x').ownBlock = some b → v1.ownBlock = some b ∨ W2.heap.size ≤ b := fun b h => by
                    rw [hbl2] at h
                    obtain ⟨⟨g, o⟩, e, rfl⟩ := Option.map_eq_some_iff.1 h
                    exact hxo g o e
                  have hlR := lt_of_heap hR1
                  have hlB := lt_of_heap HT.out.hB
                  have hrow9 : wm.ownsRow (R + 1) 33 4 (rowVal 4 (s1.L.length + 1) x') (s1.L.length + 1) (flatP s1.id s1.L ++ (prow id ⟨n, last, .slice A3 bs.length c3, bs⟩).toList) := hu.owns fun g o e => ⟨by
                    rcases hxo g o e with h | h
                    · exact (rows_blk HT.out.r.hP.row h).1
                    · omega, hX1 g o e⟩
                  have hOm : OwB wm (R + 1) (.slice A3 bs.length c3) bs := (HOd.out.keep (fun b h1 h2 => hI9.far b h2 (fun e => by
                    have h3 := (HOd.out.own_blk h1).1
                    rcases e with e | e
                    · omega
                    · have := HVB.out b e
                      omega))).mono (by omega)
                  have hNB : ∀ b, (Value.slice A3 bs.length c3).ownBlock = some b → wy.heap.size ≤ b ∧ b < W2.heap.size := fun b h => HOd.out.own_blk h
                  have hP9 : OwP wm (R + 1) (rowVal 4 (s1.L.length + 1) x') s1.id (s1.L ++ [⟨n, last, .slice A3 bs.length c3, bs⟩]) := by
                    refine ⟨?_, ?_, ?_⟩
                    · rw [flatP_app, List.length_append]
                      have e : flatP s1.id [⟨n, last, .slice A3 bs.length c3, bs⟩] = (prow id ⟨n, last, .slice A3 bs.length c3, bs⟩).toList := by rw [HID.out]; simp [flatP]
                      rw [e]
                      exact hrow9
                    · intro q hq
                      rcases List.mem_append.1 hq with hq | hq
                      · exact ⟨(HT.out.r.hP.bytes q hq).1.keep (fun b h1 h2 => hI9.far b h2 (fun e => by
                          have h3 := ((HT.out.r.hP.bytes q hq).1.own_blk h1).1
                          rcases e with e | e
                          · omega
                          · exact HT.out.r.hP.ap q hq b h1 e)), (HT.out.r.hP.bytes q hq).2⟩
                      · obtain rfl := List.mem_singleton.1 hq
                        exact ⟨hOm, HKB.out⟩
                    · intro q hq b h1 h2
                      rcases List.mem_append.1 hq with hq | hq
                      · rcases hxo2 b h2 with h3 | h3
                        · exact HT.out.r.hP.ap q hq b h1 h3
                        · have := ((HT.out.r.hP.bytes q hq).1.own_blk h1).2
                          omega
                      · obtain rfl := List.mem_singleton.1 hq
                        have h4 := hNB b h1
                        rcases hxo2 b h2 with h3 | h3
                        · have := HVB.out b h3
                          omega
                        · omega
                  have hTm : TR w wm R B v { s1 with L := s1.L ++ [⟨n, last, .slice A3 bs.length c3, bs⟩], bytes := s1.bytes + (bs.length : Int) } (rowVal 4 (s1.L.length + 1) x') #[.int .u64 id, .int .i64 n, .bool last, .slice A3 bs.length c3] := by
                    refine ⟨⟨?_, hP9, by omega⟩, (hI9.far B hlB (fun e => e.elim (fun e => by omega) HT.out.ap.1)).trans HT.out.hB, HT.out.fr.then hI9 (fun g hg hl => hg.elim .inl (fun h => (HT.out.vo g h).elim .inr (fun h => by omega))), HT.out.lt, ⟨fun h => ?_, ?_⟩, ?_⟩
                    · dsimp only
                      rw [HID.out, HAE.out.1, HAE.out.2]
                      exact hR9
                    · rcases hxo2 B h with h3 | h3
                      · exact HT.out.ap.1 h3
                      · omega
                    · intro q hq b h1
                      rcases List.mem_append.1 hq with hq | hq
                      · exact HT.out.ap.2 q hq b h1
                      · obtain rfl := List.mem_singleton.1 hq
                        have h4 := hNB b h1
                        omega
                    · intro b h
                      rcases hxo2 b h with h3 | h3
                      · exact HT.out.vo b h3
                      · have := HT.out.fr.size
                        exact .inr (by omega)
                  have hbl3 : bs.length ≤ 1024 ∧ 0 ≤ n ∧ n < 256 := by
                    have h := HM.out
                    simp only [mayB, Bool.and_eq_true, decide_eq_true_eq] at h
                    exact ⟨h.2.2.1, h.1, h.2.1⟩
                  have HAD0 : Hid (addS s1 ⟨n, last, .slice A3 bs.length c3, bs⟩ = { s1 with L := s1.L ++ [⟨n, last, .slice A3 bs.length c3, bs⟩], bytes := s1.bytes + (bs.length : Int) }) := Lib.hid (by simp [addS, HFD.out])
                  have HS2 : Hid (JOk { s1 with L := s1.L ++ [⟨n, last, .slice A3 bs.length c3, bs⟩], bytes := s1.bytes + (bs.length : Int) }) := Lib.hid (by rw [← HAD0.out]; exact HS1.out.add hbl3.1 hbl3.2.1 hbl3.2.2)
                  clear hI9 HT hR9 hX1 hxo hbl2 hxo2 hrow9 hOm hNB hP9 hbl3 hx' hu hlR hlB hR1 hbm hx hx2 HOd
                  have HT := Lib.hid hTm
                  clear hTm
                  obtain ⟨v2, hv2⟩ : ∃ v2, rowVal 4 (s1.L.length + 1) x' = v2 := ⟨_, rfl⟩
                  obtain ⟨s2, hs2⟩ : ∃ s2, ({ s1 with L := s1.L ++ [⟨n, last, .slice A3 bs.length c3, bs⟩], bytes := s1.bytes + (bs.length : Int) } : JS) = s2 := ⟨_, rfl⟩
                  obtain ⟨vc, hvc⟩ : ∃ vc, Value.slice A3 bs.length c3 = vc := ⟨_, rfl⟩
                  obtain ⟨row, hrow⟩ : ∃ row : Array Value, row = #[.int .u64 id, .int .i64 n, .bool last, .slice A3 bs.length c3] := ⟨_, rfl⟩
                  have HRW : Hid (row[0]? = some (.int .u64 id)) := Lib.hid (by rw [hrow]; rfl)
                  have HAE0 := HAE
                  have HAE : Hid (s2.any = true) := Lib.hid (by rw [← hs2]; exact HAE0.out.1)
                  have HID0 := HID
                  have HID : Hid (s2.id = id) := Lib.hid (by rw [← hs2]; exact HID0.out)
                  rw [hs2] at HS2 HAD0 HT
                  rw [← hrow, hv2] at HT
                  have HAD : Hid (addS s1 ⟨n, last, vc, bs⟩ = s2) := Lib.hid (by rw [← hvc]; exact HAD0.out)
                  go_simp
                  clear HAD0 hs2 hvc hrow HAE0 HID0 hv2 HFD HKB HVB
                  go_wp2_with fail
                  obtain ⟨r, hr⟩ : ∃ r, wholeF s2.L 256 0 [] = r := ⟨_, rfl⟩
                  have HW := Lib.hid hr
                  clear hr
                  have hsz : w.heap.size ≤ wm.heap.size := HT.out.fr.size
                  have hRB := HT.out.lt
                  go_loopw [10, 9] (fun i vv wr => ∃ k : Nat, k ≤ 256 ∧ i = .int .i64 k ∧ ∃ acc, OwB wr wm.heap.size vv acc ∧ okB acc ∧ acc.length ≤ 1024 * k ∧ Hid (wholeF s2.L (256 - k) k acc = r) ∧ Below wm.heap.size wm wr) (fun i _ _ => 256 - (intOf i).toNat)
                  case atStart => exact ⟨0, by omega, rfl, [], OwB.nil _ _, okB.nil, by simp, HW, Below.refl _ _⟩
                  case round =>
                    obtain ⟨k, hk, rfl, acc, hacc, hok, hal, HWK, hL⟩ := hrel
                    obtain ⟨A0, c0, hv0⟩ := hacc.slice
                    subst hv0
                    by_cases hk2 : k < 256
                    · have hki : (k : Int) < 256 := by omega
                      have hk0 : (0 : Int) ≤ (k : Int) := by omega
                      obtain ⟨f, hf⟩ : ∃ f, 256 - k = f + 1 := ⟨255 - k, by omega⟩
                      have hf2 : f = 256 - (k + 1) := by omega
                      have HWO := HWK.out
                      rw [hf] at HWO
                      clear HWK hf
                      have HA := Lib.hid hacc
                      have HL := Lib.hid hL
                      have HT1 := Lib.hid (HT.out.below hL)
                      clear hacc hL
                      go_wp2_with fail
                      refine (rhas_any R (R + 1) s2 v2 (k : Int) _ HT1.out.r (by have := HS2.out.len; omega)).mono ?_
                      rintro e wb ⟨rfl, hb⟩
                      have HTb := Lib.hid (HT1.out.below hb)
                      have HAb := Lib.hid (HA.out.below hb)
                      have HLb := Lib.hid (bl_then HL.out HL.out.size hb)
                      clear HT1 HA HL hb
                      cases hfd : findL (k : Int) s2.L with
                      | none =>
                        have HR : Hid (r = none) := Lib.hid (by rw [← HWO]; simp [wholeF, hfd])
                        have HE : Hid (endS s2 = s2) := Lib.hid (by simp [endS, HW.out, HR.out])
                        clear HWO
                        try rw [hfd]
                        dsimp only [hasV, Option.isSome]
                        clear hfd
                        obtain ⟨Y, hY⟩ : ∃ Y, wb.heap.size = Y := ⟨_, rfl⟩
                        have HA0 : Hid ((wb.alloc (.cells #[.int .u64 0, .int .i64 0, .bool false, .slice none 0 0] 33)).heap[Y]? = some (.cells #[.int .u64 0, .int .i64 0, .bool false, .slice none 0 0] 33 (0, 0))) := Lib.hid (by rw [← hY]; exact heap_alloc_last _ _)
                        have hbl : Below wb.heap.size wb ((wb.alloc (.cells #[.int .u64 0, .int .i64 0, .bool false, .slice none 0 0] 33)).setRow Y #[.int .u64 0, .int .i64 0, .bool false, .slice none 0 0]) := below_setRow (by (repeat' (first | (with_reducible exact Below.refl _ _) | (with_reducible assumption) | (with_reducible refine Below.alloc ?_ ?_ _) | (with_reducible refine below_setRow ?_ ?_ _) | (with_reducible refine bl_drew ?_) | (with_reducible refine bl_drewN ?_ _) | (with_reducible refine Below.setCell ?_ ?_ _) | (with_reducible refine bl_then ?_ ?_ hb) | (with_reducible refine bl_then ?_ ?_ hb1) | (with_reducible refine bl_then ?_ ?_ hb2) | (with_reducible refine bl_then ?_ ?_ hb3) | (with_reducible refine bl_then ?_ ?_ hb4) | (with_reducible refine bl_then ?_ ?_ hb5) | (with_reducible refine bl_then ?_ ?_ hb6) | (with_reducible refine bl_then ?_ ?_ hb7) | (with_reducible refine bl_then ?_ ?_ hb8) | (with_reducible exact Nat.le_refl _) | omega | (simp only [World.size_alloc, World.size_setCell, World.size_drew, size_setRow]; omega) | (simp; omega) | (simp; done)))) (by omega) _
                        have hA1 : ((wb.alloc (.cells #[.int .u64 0, .int .i64 0, .bool false, .slice none 0 0] 33)).setRow Y #[.int .u64 0, .int .i64 0, .bool false, .slice none 0 0]).heap[Y]? = some (.cells #[.int .u64 0, .int .i64 0, .bool false, .slice none 0 0] 33 (0, 0)) := setRow_heap _ _ _ _ _ _ HA0.out
                        go_wp2_with (with_reducible refine wpList_stB (row := #[.int .u64 0, .int .i64 0, .bool false, .slice none 0 0]) partInfo (by simp [Value.oneCell']) rfl (.tmp 11) (.tmp 94) rfl rfl rfl HA0.out rfl ?_)
                        try rw [hY]
                        generalize (wb.alloc (.cells #[.int .u64 0, .int .i64 0, .bool false, .slice none 0 0] 33)).setRow Y #[.int .u64 0, .int .i64 0, .bool false, .slice none 0 0] = wc at *

                        have HTc := Lib.hid (HTb.out.below hbl)
                        clear hbl hA1 HA0 HTb HAb
                        refine bodyPost_ret (v := .tuple #[.slice none 0 0, .bool false, .int .i64 0]) (by simp [results, Try.results9, go_sem]) rfl (RTake.intro (.slice none 0 0) vc (v2) ?_ ?_ ?_ HTc.out.fr HTc.out.vo)
                        · simp [takeR, HM.out, HST.out, errT, HF.out, HAD.out, HW.out, HR.out]
                        · simp only [takeR, HM.out, HST.out, HF.out, HAD.out, HW.out, HR.out]
                          exact OwB.nil _ _
                        · simp only [takeS, HM.out, HST.out, HF.out, HAD.out]
                          simp only [if_true, Bool.false_eq_true, if_false, HE.out]
                          exact HTc.out.r
                      | some p =>
                        have hmem := findL_mem hfd
                        have HBP := Lib.hid (HTb.out.r.hP.bytes p hmem.1)
                        have hbb := HBP.out.1.rd HBP.out.2.1 HBP.out.2.2
                        have HPL := Lib.hid (HS2.out.part p hmem.1).1
                        have HO : Hid ((prow s2.id p).all (·.oneCell') = true) := Lib.hid (prow_one hbb)
                        have HW2 : Hid ((if p.last then some (acc ++ p.bs) else wholeF s2.L f (k + 1) (acc ++ p.bs)) = r) := Lib.hid (by rw [← HWO]; simp [wholeF, hfd])
                        clear HWO hmem
                        try rw [hfd]
                        dsimp only [hasV, Option.isSome]
                        clear hfd
                        obtain ⟨Y, hY⟩ : ∃ Y, wb.heap.size = Y := ⟨_, rfl⟩
                        have HA0 : Hid ((wb.alloc (.cells #[.int .u64 0, .int .i64 0, .bool false, .slice none 0 0] 33)).heap[Y]? = some (.cells #[.int .u64 0, .int .i64 0, .bool false, .slice none 0 0] 33 (0, 0))) := Lib.hid (by rw [← hY]; exact heap_alloc_last _ _)
                        have hbl : Below wb.heap.size wb ((wb.alloc (.cells #[.int .u64 0, .int .i64 0, .bool false, .slice none 0 0] 33)).setRow Y (prow s2.id p)) := below_setRow (by (repeat' (first | (with_reducible exact Below.refl _ _) | (with_reducible assumption) | (with_reducible refine Below.alloc ?_ ?_ _) | (with_reducible refine below_setRow ?_ ?_ _) | (with_reducible refine bl_drew ?_) | (with_reducible refine bl_drewN ?_ _) | (with_reducible refine Below.setCell ?_ ?_ _) | (with_reducible refine bl_then ?_ ?_ hb) | (with_reducible refine bl_then ?_ ?_ hb1) | (with_reducible refine bl_then ?_ ?_ hb2) | (with_reducible refine bl_then ?_ ?_ hb3) | (with_reducible refine bl_then ?_ ?_ hb4) | (with_reducible refine bl_then ?_ ?_ hb5) | (with_reducible refine bl_then ?_ ?_ hb6) | (with_reducible refine bl_then ?_ ?_ hb7) | (with_reducible refine bl_then ?_ ?_ hb8) | (with_reducible exact Nat.le_refl _) | omega | (simp only [World.size_alloc, World.size_setCell, World.size_drew, size_setRow]; omega) | (simp; omega) | (simp; done)))) (by omega) _
                        have hA1 : ((wb.alloc (.cells #[.int .u64 0, .int .i64 0, .bool false, .slice none 0 0] 33)).setRow Y (prow s2.id p)).heap[Y]? = some (.cells (prow s2.id p) 33 (0, 0)) := setRow_heap _ _ _ _ _ _ HA0.out
                        have c3 : ((wb.alloc (.cells #[.int .u64 0, .int .i64 0, .bool false, .slice none 0 0] 33)).setRow Y (prow s2.id p)).cell? ⟨Y, 3, none⟩ = some p.v := (cell_of_row _ _ _ _ _ _ hA1).trans rfl
                        have HBc := Lib.hid (hbb.below hbl)
                        have HAc := Lib.hid (HAb.out.below hbl)
                        have HLc := Lib.hid (bl_then HLb.out HLb.out.size hbl)
                        have HYL : Hid (∀ b, (Value.slice A0 acc.length c0).ownBlock = some b → b < Y) := Lib.hid (fun b h => by rw [← hY]; exact (HAb.out.own_blk h).2)
                        clear hbb hbl HAb HTb HLb HBP
                        go_wp2_with (first | (with_reducible refine wpList_stB (row := prow s2.id p) partInfo HO.out rfl (.tmp 11) (.tmp 94) rfl rfl rfl HA0.out rfl ?_) | (at_builtin; refine wpList_appB (base := wm.heap.size) rfl _ _ rfl (.slice A0 acc.length c0) p.v acc p.bs rfl ?_ rfl ?_ ?_ ?_ ?_))
                        · exact HAc.out
                        · exact HBc.out
                        · have := HPL.out; omega
                        · exact HLc.out.size
                        · intro v' w' h1 h2 h3
                          have hYb := h2.block Y (lt_of_heap hA1) (by
                            intro e
                            have := HYL.out Y e.symm
                            omega)
                          have c2 : w'.cell? ⟨Y, 2, none⟩ = some (.bool p.last) := (cell_of_row _ _ _ _ _ _ (hYb.trans hA1)).trans rfl
                          have HL2 := Lib.hid (HLc.out.grown h2 HLc.out.size (fun q hq => (HAc.out.own_blk hq).1))
                          have H1 := Lib.hid h1
                          have HT2 := Lib.hid (HT.out.below HL2.out)
                          have hok2 : okB (acc ++ p.bs) := hok.app HBc.out.ok
                          have hal2 : (acc ++ p.bs).length ≤ 1024 * (k + 1) := by have := HPL.out; rw [List.length_append]; omega
                          obtain ⟨A1, c1, hv1⟩ := h1.slice
                          subst hv1
                          clear hYb c3 hA1 HA0 h1 h2 h3 HLc HAc HBc HPL HO HYL hY hok hal
                          cases hpl : p.last
                          · rw [hpl] at c2
                            have HW3 : Hid (wholeF s2.L (256 - (k + 1)) (k + 1) (acc ++ p.bs) = r) := Lib.hid (by rw [← HW2.out, hpl, hf2]; rfl)
                            clear HW2 hpl HT2
                            go_wp2_with fail
                            go_roundw
                            case rel =>
                              first
                                | exact ⟨k + 1, by omega, by go_num, _, H1.out, hok2, hal2, HW3, HL2.out⟩
                                | ((repeat apply Exists.intro); refine ⟨?_, rfl⟩; exact ⟨k + 1, by omega, by go_num, _, H1.out, hok2, hal2, HW3, HL2.out⟩)
                            case measure => first | (simp [intOf]; done) | (simp [intOf]; omega)
                          · rw [hpl] at c2
                            have HR : Hid (r = some (acc ++ p.bs)) := Lib.hid (by rw [← HW2.out, hpl]; rfl)
                            have HE : Hid (endS s2 = { s2 with L := [], ended := true, bytes := 0 }) := Lib.hid (by simp [endS, HW.out, HR.out])
                            have b0 := HT2.out.cellB (i := 0) HRW.out
                            have hR9 := HT2.out.r.hR
                            have hT9 := HT2.out.reset (s' := { s2 with L := [], ended := true, bytes := 0 }) rfl
                            try dsimp only at hT9
                            rw [HID.out, HAE.out] at hT9
                            have HO9 : Hid (OwB (w'.setRow R #[.int .u64 id, .slice none 0 0, .bool true, .bool true]) wm.heap.size (.slice A1 (acc ++ p.bs).length c1) (acc ++ p.bs)) := Lib.hid (H1.out.keep fun b h1 h2 => by
                              have := (H1.out.own_blk h1).1
                              have hlB := lt_of_heap HT.out.hB
                              rw [heap_setRow_if, if_neg (by omega)])
                            have HT9 := Lib.hid hT9
                            clear HW2 hpl HT2 hT9 H1
                            go_wp2_with (with_reducible refine wpList_stB (row := #[.int .u64 id, .slice none 0 0, .bool true, .bool true]) joinInfo (by simp [Value.oneCell']) rfl (.tmp 108) (.tmp 107) rfl rfl rfl hR9 rfl ?_)
                            refine bodyPost_ret (v := .tuple #[.slice A1 (acc ++ p.bs).length c1, .bool true, .int .i64 0]) (by simp [results, Try.results9, go_sem]) rfl (RTake.intro (.slice A1 (acc ++ p.bs).length c1) vc (.slice none 0 0) ?_ ?_ ?_ HT9.out.fr HT9.out.vo)
                            · simp [takeR, HM.out, HST.out, errT, HF.out, HAD.out, HW.out, HR.out]
                            · simp only [takeR, HM.out, HST.out, HF.out, HAD.out, HW.out, HR.out]
                              exact HO9.out.mono (by omega)
                            · simp only [takeS, HM.out, HST.out, HF.out, HAD.out]
                              simp only [if_true, Bool.false_eq_true, if_false, HE.out]
                              rw [HID.out, HAE.out]
                              exact HT9.out.r
                    · obtain rfl : k = 256 := by omega
                      have HR : Hid (r = none) := Lib.hid (by rw [← HWK.out]; rfl)
                      have HE : Hid (endS s2 = s2) := Lib.hid (by simp [endS, HW.out, HR.out])
                      have HT1 := Lib.hid (HT.out.below hL)
                      clear HWK hacc hL
                      go_wp2_with fail
                      refine bodyPost_ret (v := .tuple #[.slice none 0 0, .bool false, .int .i64 0]) (by simp [results, Try.results9, go_sem]) rfl (RTake.intro (.slice none 0 0) vc (v2) ?_ ?_ ?_ HT1.out.fr HT1.out.vo)
                      · simp [takeR, HM.out, HST.out, errT, HF.out, HAD.out, HW.out, HR.out]
                      · simp only [takeR, HM.out, HST.out, HF.out, HAD.out, HW.out, HR.out]
                        exact OwB.nil _ _
                      · simp only [takeS, HM.out, HST.out, HF.out, HAD.out]
                        simp only [if_true, Bool.false_eq_true, if_false, HE.out]
                        exact HT1.out.r
              case hl => rfl
              case ho => kernel_rfl
        case hl => rfl
        case ho => kernel_rfl
      case hl => rfl
      case ho => kernel_rfl
    · by_cases hlt : id < id0
      · have HST : Hid (staleS ⟨true, id0, ended, bytes, L⟩ id = true) := Lib.hid (by simp [staleS, hlt])
        apply wp_region_eff _ _ (Inv.start0 _ fun _ => False) (hm := by kernel_rfl)
        case h =>
          (apply SeqF.pure; (focus (first | rfl | (go_simp; done) | (simp [Region.wanted, yielded]; done))); (focus (intro w; go_simp; with_reducible rfl)); go_simp)
          (apply SeqF.pure; (focus (first | rfl | (go_simp; done) | (simp [Region.wanted, yielded]; done))); (focus (intro w; go_simp; with_reducible rfl)); go_simp)
          (apply SeqF.pure; (focus (first | rfl | (go_simp; done) | (simp [Region.wanted, yielded]; done))); (focus (intro w; go_simp; with_reducible rfl)); go_simp)
          apply SeqF.read (v := .bool true) []
          · (first | rfl | (go_simp; done) | (simp [Region.wanted, yielded]; done))
          · intro γ' W hg hI
            have x0 := (HT.out.r.below hI.belowOf).cell.2.2.1
            go_simp
          go_simp
          (apply SeqF.pure; (focus (first | rfl | (go_simp; done) | (simp [Region.wanted, yielded]; done))); (focus (intro w; go_simp; with_reducible rfl)); go_simp)
          (apply SeqF.pure; (focus (first | rfl | (go_simp; done) | (simp [Region.wanted, yielded]; done))); (focus (intro w; go_simp; with_reducible rfl)); go_simp)
          apply SeqF.read (v := .int .u64 id) []
          · (first | rfl | (go_simp; done) | (simp [Region.wanted, yielded]; done))
          · intro γ' W hg hI
            have x0 : W.cell? ⟨B, 0, none⟩ = some (.int .u64 id) := (cell_of_row _ _ _ _ _ _ (HT.out.below hI.belowOf).hB).trans rfl
            go_simp
          go_simp
          (apply SeqF.pure; (focus (first | rfl | (go_simp; done) | (simp [Region.wanted, yielded]; done))); (focus (intro w; go_simp; with_reducible rfl)); go_simp)
          (apply SeqF.pure; (focus (first | rfl | (go_simp; done) | (simp [Region.wanted, yielded]; done))); (focus (intro w; go_simp; with_reducible rfl)); go_simp)
          (apply SeqF.pure; (focus (first | rfl | (go_simp; done) | (simp [Region.wanted, yielded]; done))); (focus (intro w; go_simp; with_reducible rfl)); go_simp)
          apply SeqF.read (v := .int .u64 id0) []
          · (first | rfl | (go_simp; done) | (simp [Region.wanted, yielded]; done))
          · intro γ' W hg hI
            have x0 := (HT.out.r.below hI.belowOf).cell.1
            go_simp
          go_simp
          (apply SeqF.pure; (focus (first | rfl | (go_simp; done) | (simp [Region.wanted, yielded]; done))); (focus (intro w; go_simp; with_reducible rfl)); go_simp)
          (apply SeqF.pure; (focus (first | rfl | (go_simp; done) | (simp [Region.wanted, yielded]; done))); (focus (intro w; go_simp; with_reducible rfl)); go_simp)
          (apply SeqF.skip; (focus (first | rfl | (go_simp; done) | (simp [Region.wanted, yielded]; done))); go_simp)
          (apply SeqF.skip; (focus (first | rfl | (go_simp; done) | (simp [Region.wanted, yielded]; done))); go_simp)
          (apply SeqF.skip; (focus (first | rfl | (go_simp; done) | (simp [Region.wanted, yielded]; done))); go_simp)
          (apply SeqF.skip; (focus (first | rfl | (go_simp; done) | (simp [Region.wanted, yielded]; done))); go_simp)
          (apply SeqF.skip; (focus (first | rfl | (go_simp; done) | (simp [Region.wanted, yielded]; done))); go_simp)
          (apply SeqF.skip; (focus (first | rfl | (go_simp; done) | (simp [Region.wanted, yielded]; done))); go_simp)
          (apply SeqF.skip; (focus (first | rfl | (go_simp; done) | (simp [Region.wanted, yielded]; done))); go_simp)
          (apply SeqF.skip; (focus (first | rfl | (go_simp; done) | (simp [Region.wanted, yielded]; done))); go_simp)
          (apply SeqF.skip; (focus (first | rfl | (go_simp; done) | (simp [Region.wanted, yielded]; done))); go_simp)
          (apply SeqF.skip; (focus (first | rfl | (go_simp; done) | (simp [Region.wanted, yielded]; done))); go_simp)
          (apply SeqF.skip; (focus (first | rfl | (go_simp; done) | (simp [Region.wanted, yielded]; done))); go_simp)
          (apply SeqF.skip; (focus (first | rfl | (go_simp; done) | (simp [Region.wanted, yielded]; done))); go_simp)
          (apply SeqF.skip; (focus (first | rfl | (go_simp; done) | (simp [Region.wanted, yielded]; done))); go_simp)
          (apply SeqF.pure; (focus (first | rfl | (go_simp; done) | (simp [Region.wanted, yielded]; done))); (focus (intro w; go_simp; with_reducible rfl)); go_simp)
          (apply SeqF.pure; (focus (first | rfl | (go_simp; done) | (simp [Region.wanted, yielded]; done))); (focus (intro w; go_simp; with_reducible rfl)); go_simp)
          apply SeqF.done
          intro w9 hI9
          have hT9 := HT.out.below hI9.belowOf
          have hV9 := HV.out.below hI9.belowOf
          clear hI9 HT HV
          have HT := Lib.hid hT9
          have HV := Lib.hid hV9
          clear hT9 hV9
          go_simp
          go_wp2_with fail
          refine bodyPost_ret (v := .tuple #[.slice none 0 0, .bool false, .int .i64 0]) (by simp [results, Try.results9, go_sem]) rfl (RTake.intro (.slice none 0 0) u v ?_ ?_ ?_ HT.out.fr HT.out.vo)
          · simp [takeR, HM.out, HST.out, errT]
          · simp only [takeR, HM.out, HST.out]; exact OwB.nil _ _
          · simp only [takeS, HM.out, HST.out]; exact HT.out.r
        case hl => rfl
        case ho => kernel_rfl
      · by_cases heq : id = id0
        · subst heq
          cases ended
          · have HST : Hid (staleS ⟨true, id, false, bytes, L⟩ id = false) := Lib.hid (by simp [staleS])
            apply wp_region_eff _ _ (Inv.start0 _ fun _ => False) (hm := by kernel_rfl)
            case h =>
              (apply SeqF.pure; (focus (first | rfl | (go_simp; done) | (simp [Region.wanted, yielded]; done))); (focus (intro w; go_simp; with_reducible rfl)); go_simp)
              (apply SeqF.pure; (focus (first | rfl | (go_simp; done) | (simp [Region.wanted, yielded]; done))); (focus (intro w; go_simp; with_reducible rfl)); go_simp)
              (apply SeqF.pure; (focus (first | rfl | (go_simp; done) | (simp [Region.wanted, yielded]; done))); (focus (intro w; go_simp; with_reducible rfl)); go_simp)
              apply SeqF.read (v := .bool true) []
              · (first | rfl | (go_simp; done) | (simp [Region.wanted, yielded]; done))
              · intro γ' W hg hI
                have x0 := (HT.out.r.below hI.belowOf).cell.2.2.1
                go_simp
              go_simp
              (apply SeqF.pure; (focus (first | rfl | (go_simp; done) | (simp [Region.wanted, yielded]; done))); (focus (intro w; go_simp; with_reducible rfl)); go_simp)
              (apply SeqF.pure; (focus (first | rfl | (go_simp; done) | (simp [Region.wanted, yielded]; done))); (focus (intro w; go_simp; with_reducible rfl)); go_simp)
              apply SeqF.read (v := .int .u64 id) []
              · (first | rfl | (go_simp; done) | (simp [Region.wanted, yielded]; done))
              · intro γ' W hg hI
                have x0 : W.cell? ⟨B, 0, none⟩ = some (.int .u64 id) := (cell_of_row _ _ _ _ _ _ (HT.out.below hI.belowOf).hB).trans rfl
                go_simp
              go_simp
              (apply SeqF.pure; (focus (first | rfl | (go_simp; done) | (simp [Region.wanted, yielded]; done))); (focus (intro w; go_simp; with_reducible rfl)); go_simp)
              (apply SeqF.pure; (focus (first | rfl | (go_simp; done) | (simp [Region.wanted, yielded]; done))); (focus (intro w; go_simp; with_reducible rfl)); go_simp)
              (apply SeqF.pure; (focus (first | rfl | (go_simp; done) | (simp [Region.wanted, yielded]; done))); (focus (intro w; go_simp; with_reducible rfl)); go_simp)
              apply SeqF.read (v := .int .u64 id) []
              · (first | rfl | (go_simp; done) | (simp [Region.wanted, yielded]; done))
              · intro γ' W hg hI
                have x0 := (HT.out.r.below hI.belowOf).cell.1
                go_simp
              go_simp
              (apply SeqF.pure; (focus (first | rfl | (go_simp; done) | (simp [Region.wanted, yielded]; done))); (focus (intro w; go_simp; with_reducible rfl)); go_simp)
              (apply SeqF.pure; (focus (first | rfl | (go_simp; done) | (simp [Region.wanted, yielded]; done))); (focus (intro w; go_simp; with_reducible rfl)); go_simp)
              (apply SeqF.pure; (focus (first | rfl | (go_simp; done) | (simp [Region.wanted, yielded]; done))); (focus (intro w; go_simp; with_reducible rfl)); go_simp)
              apply SeqF.read (v := .int .u64 id) []
              · (first | rfl | (go_simp; done) | (simp [Region.wanted, yielded]; done))
              · intro γ' W hg hI
                have x0 : W.cell? ⟨B, 0, none⟩ = some (.int .u64 id) := (cell_of_row _ _ _ _ _ _ (HT.out.below hI.belowOf).hB).trans rfl
                go_simp
              go_simp
              (apply SeqF.pure; (focus (first | rfl | (go_simp; done) | (simp [Region.wanted, yielded]; done))); (focus (intro w; go_simp; with_reducible rfl)); go_simp)
              (apply SeqF.pure; (focus (first | rfl | (go_simp; done) | (simp [Region.wanted, yielded]; done))); (focus (intro w; go_simp; with_reducible rfl)); go_simp)
              (apply SeqF.pure; (focus (first | rfl | (go_simp; done) | (simp [Region.wanted, yielded]; done))); (focus (intro w; go_simp; with_reducible rfl)); go_simp)
              apply SeqF.read (v := .int .u64 id) []
              · (first | rfl | (go_simp; done) | (simp [Region.wanted, yielded]; done))
              · intro γ' W hg hI
                have x0 := (HT.out.r.below hI.belowOf).cell.1
                go_simp
              go_simp
              (apply SeqF.pure; (focus (first | rfl | (go_simp; done) | (simp [Region.wanted, yielded]; done))); (focus (intro w; go_simp; with_reducible rfl)); go_simp)
              (apply SeqF.pure; (focus (first | rfl | (go_simp; done) | (simp [Region.wanted, yielded]; done))); (focus (intro w; go_simp; with_reducible rfl)); go_simp)
              (apply SeqF.pure; (focus (first | rfl | (go_simp; done) | (simp [Region.wanted, yielded]; done))); (focus (intro w; go_simp; with_reducible rfl)); go_simp)
              (apply SeqF.pure; (focus (first | rfl | (go_simp; done) | (simp [Region.wanted, yielded]; done))); (focus (intro w; go_simp; with_reducible rfl)); go_simp)
              (apply SeqF.pure; (focus (first | rfl | (go_simp; done) | (simp [Region.wanted, yielded]; done))); (focus (intro w; go_simp; with_reducible rfl)); go_simp)
              apply SeqF.read (v := .bool false) []
              · (first | rfl | (go_simp; done) | (simp [Region.wanted, yielded]; done))
              · intro γ' W hg hI
                have x0 := (HT.out.r.below hI.belowOf).cell.2.2.2
                go_simp
              go_simp
              (apply SeqF.pure; (focus (first | rfl | (go_simp; done) | (simp [Region.wanted, yielded]; done))); (focus (intro w; go_simp; with_reducible rfl)); go_simp)
              (apply SeqF.pure; (focus (first | rfl | (go_simp; done) | (simp [Region.wanted, yielded]; done))); (focus (intro w; go_simp; with_reducible rfl)); go_simp)
              (apply SeqF.pure; (focus (first | rfl | (go_simp; done) | (simp [Region.wanted, yielded]; done))); (focus (intro w; go_simp; with_reducible rfl)); go_simp)
              apply SeqF.done
              intro w9 hI9
              have hT9 := HT.out.below hI9.belowOf
              have hV9 := HV.out.below hI9.belowOf
              clear hI9 HT HV
              have HT := Lib.hid hT9
              have HV := Lib.hid hV9
              clear hT9 hV9
              go_simp
              go_wp2_with fail
              apply wp_region_eff _ _ (Inv.start0 _ fun _ => False) (hm := by kernel_rfl)
              case h =>
                (apply SeqF.pure; (focus (first | rfl | (go_simp; done) | (simp [Region.wanted, yielded]; done))); (focus (intro w; go_simp; with_reducible rfl)); go_simp)
                (apply SeqF.pure; (focus (first | rfl | (go_simp; done) | (simp [Region.wanted, yielded]; done))); (focus (intro w; go_simp; with_reducible rfl)); go_simp)
                (apply SeqF.pure; (focus (first | rfl | (go_simp; done) | (simp [Region.wanted, yielded]; done))); (focus (intro w; go_simp; with_reducible rfl)); go_simp)
                apply SeqF.read (v := .bool true) []
                · (first | rfl | (go_simp; done) | (simp [Region.wanted, yielded]; done))
                · intro γ' W hg hI
                  have x0 := (HT.out.r.below hI.belowOf).cell.2.2.1
                  go_simp
                go_simp
                (apply SeqF.pure; (focus (first | rfl | (go_simp; done) | (simp [Region.wanted, yielded]; done))); (focus (intro w; go_simp; with_reducible rfl)); go_simp)
                (apply SeqF.pure; (focus (first | rfl | (go_simp; done) | (simp [Region.wanted, yielded]; done))); (focus (intro w; go_simp; with_reducible rfl)); go_simp)
                (apply SeqF.pure; (focus (first | rfl | (go_simp; done) | (simp [Region.wanted, yielded]; done))); (focus (intro w; go_simp; with_reducible rfl)); go_simp)
                apply SeqF.read (v := .int .u64 id) []
                · (first | rfl | (go_simp; done) | (simp [Region.wanted, yielded]; done))
                · intro γ' W hg hI
                  have x0 : W.cell? ⟨B, 0, none⟩ = some (.int .u64 id) := (cell_of_row _ _ _ _ _ _ (HT.out.below hI.belowOf).hB).trans rfl
                  go_simp
                go_simp
                (apply SeqF.pure; (focus (first | rfl | (go_simp; done) | (simp [Region.wanted, yielded]; done))); (focus (intro w; go_simp; with_reducible rfl)); go_simp)
                (apply SeqF.pure; (focus (first | rfl | (go_simp; done) | (simp [Region.wanted, yielded]; done))); (focus (intro w; go_simp; with_reducible rfl)); go_simp)
                (apply SeqF.pure; (focus (first | rfl | (go_simp; done) | (simp [Region.wanted, yielded]; done))); (focus (intro w; go_simp; with_reducible rfl)); go_simp)
                apply SeqF.read (v := .int .u64 id) []
                · (first | rfl | (go_simp; done) | (simp [Region.wanted, yielded]; done))
                · intro γ' W hg hI
                  have x0 := (HT.out.r.below hI.belowOf).cell.1
                  go_simp
                go_simp
                (apply SeqF.pure; (focus (first | rfl | (go_simp; done) | (simp [Region.wanted, yielded]; done))); (focus (intro w; go_simp; with_reducible rfl)); go_simp)
                (apply SeqF.pure; (focus (first | rfl | (go_simp; done) | (simp [Region.wanted, yielded]; done))); (focus (intro w; go_simp; with_reducible rfl)); go_simp)
                apply SeqF.done
                intro w9 hI9
                have hT9 := HT.out.below hI9.belowOf
                have hV9 := HV.out.below hI9.belowOf
                clear hI9 HT HV
                have HT := Lib.hid hT9
                have HV := Lib.hid hV9
                clear hT9 hV9
                go_simp
                have b1 := HT.out.cellB (i := 1) rfl
                go_wp2_with fail
                clear b1
                obtain ⟨wz, hwz⟩ : ∃ wz, wz = w9 := ⟨_, rfl⟩
                obtain ⟨v1, hv1⟩ : ∃ v1, v = v1 := ⟨_, rfl⟩
                obtain ⟨s1, hs1⟩ : ∃ s1, s1 = (⟨true, id, false, bytes, L⟩ : JS) := ⟨_, rfl⟩
                have HID : Hid (s1.id = id) := Lib.hid (by rw [hs1])
                have HAE : Hid (s1.any = true ∧ s1.ended = false) := Lib.hid (by rw [hs1]; exact ⟨rfl, rfl⟩)
                rw [← hs1] at HT
                have HF : Hid (freshS ⟨true, id, false, bytes, L⟩ id = s1) := Lib.hid (by rw [hs1]; simp [freshS])
                have HS1 : Hid (JOk s1) := Lib.hid (by rw [← HF.out]; exact HS.out.fresh id)
                have HT1 : Hid (TR w w9 R B v s1 v1 #[.int .u64 id, .int .i64 n, .bool last, u]) := Lib.hid (by rw [← hv1]; exact HT.out)
                clear hs1 HT
                have HT := HT1
                clear HT1
                subst hwz
                as_aux_lemma =>
                  refine (rhas_any R (R + 1) s1 v1 n wz HT.out.r (by have := HS1.out.len; omega)).mono ?_
                  rintro e wa ⟨rfl, hb⟩
                  have HTa := Lib.hid (HT.out.below hb)
                  have HVa := Lib.hid (HV.out.below hb)
                  clear HT HV hb
                  cases hfd : findL n s1.L with
                  | some q =>
                    have HBQ := HTa.out.r.hP.bytes q (findL_mem hfd).1
                    have HO : Hid ((prow s1.id q).all (·.oneCell') = true) := Lib.hid (prow_one (HBQ.1.rd HBQ.2.1 HBQ.2.2))
                    have HAD0 : Hid (∀ vc, addS s1 ⟨n, last, vc, bs⟩ = s1) := Lib.hid (fun vc => by simp [addS, hfd])
                    try rw [hfd]
                    dsimp only [hasV, Option.isSome]
                    clear hfd HBQ
                    obtain ⟨Y, hY⟩ : ∃ Y, wa.heap.size = Y := ⟨_, rfl⟩
                    have HA0 : Hid ((wa.alloc (.cells #[.int .u64 0, .int .i64 0, .bool false, .slice none 0 0] 33)).heap[Y]? = some (.cells #[.int .u64 0, .int .i64 0, .bool false, .slice none 0 0] 33 (0, 0))) := Lib.hid (by rw [← hY]; exact heap_alloc_last _ _)
                    have hbl : Below wa.heap.size wa ((wa.alloc (.cells #[.int .u64 0, .int .i64 0, .bool false, .slice none 0 0] 33)).setRow Y (prow s1.id q)) := below_setRow (by (repeat' (first | (with_reducible exact Below.refl _ _) | (with_reducible assumption) | (with_reducible refine Below.alloc ?_ ?_ _) | (with_reducible refine below_setRow ?_ ?_ _) | (with_reducible refine bl_drew ?_) | (with_reducible refine bl_drewN ?_ _) | (with_reducible refine Below.setCell ?_ ?_ _) | (with_reducible refine bl_then ?_ ?_ hb) | (with_reducible refine bl_then ?_ ?_ hb1) | (with_reducible refine bl_then ?_ ?_ hb2) | (with_reducible refine bl_then ?_ ?_ hb3) | (with_reducible refine bl_then ?_ ?_ hb4) | (with_reducible refine bl_then ?_ ?_ hb5) | (with_reducible refine bl_then ?_ ?_ hb6) | (with_reducible refine bl_then ?_ ?_ hb7) | (with_reducible refine bl_then ?_ ?_ hb8) | (with_reducible exact Nat.le_refl _) | omega | (simp only [World.size_alloc, World.size_setCell, World.size_drew, size_setRow]; omega) | (simp; omega) | (simp; done)))) (by omega) _
                    have hA1 : ((wa.alloc (.cells #[.int .u64 0, .int .i64 0, .bool false, .slice none 0 0] 33)).setRow Y (prow s1.id q)).heap[Y]? = some (.cells (prow s1.id q) 33 (0, 0)) := setRow_heap _ _ _ _ _ _ HA0.out
                    go_wp2_with (with_reducible refine wpList_stB (row := (prow s1.id q)) partInfo HO.out rfl (.tmp 7) (.tmp 68) rfl rfl rfl HA0.out rfl ?_)
                    try rw [hY]
                    generalize (wa.alloc (.cells #[.int .u64 0, .int .i64 0, .bool false, .slice none 0 0] 33)).setRow Y (prow s1.id q) = wm at *

                    have HT := Lib.hid (HTa.out.below hbl)
                    clear hbl hA1 HA0 HTa HVa HO hY
                    obtain ⟨s2, hs2⟩ : ∃ s2, s1 = s2 := ⟨_, rfl⟩
                    obtain ⟨v2, hv2⟩ : ∃ v2, v1 = v2 := ⟨_, rfl⟩
                    obtain ⟨vc, hvc⟩ : ∃ vc, u = vc := ⟨_, rfl⟩
                    obtain ⟨row, hrow⟩ : ∃ row : Array Value, row = #[.int .u64 id, .int .i64 n, .bool last, u] := ⟨_, rfl⟩
                    have HRW : Hid (row[0]? = some (.int .u64 id)) := Lib.hid (by rw [hrow]; rfl)
                    have HAD : Hid (addS s1 ⟨n, last, vc, bs⟩ = s2) := Lib.hid ((HAD0.out vc).trans hs2)
                    rw [hs2, hv2, ← hrow] at HT
                    have HAE0 := HAE
                    have HAE : Hid (s2.any = true) := Lib.hid (by rw [← hs2]; exact HAE0.out.1)
                    rw [hs2] at HID
                    have HS2 : Hid (JOk s2) := Lib.hid (by rw [← hs2]; exact HS1.out)
                    clear HAD0 hs2 hv2 hvc hrow HAE0
                    obtain ⟨r, hr⟩ : ∃ r, wholeF s2.L 256 0 [] = r := ⟨_, rfl⟩
                    have HW := Lib.hid hr
                    clear hr
                    have hsz : w.heap.size ≤ wm.heap.size := HT.out.fr.size
                    have hRB := HT.out.lt
                    go_loopw [10, 9] (fun i vv wr => ∃ k : Nat, k ≤ 256 ∧ i = .int .i64 k ∧ ∃ acc, OwB wr wm.heap.size vv acc ∧ okB acc ∧ acc.length ≤ 1024 * k ∧ Hid (wholeF s2.L (256 - k) k acc = r) ∧ Below wm.heap.size wm wr) (fun i _ _ => 256 - (intOf i).toNat)
                    case atStart => exact ⟨0, by omega, rfl, [], OwB.nil _ _, okB.nil, by simp, HW, Below.refl _ _⟩
                    case round =>
                      obtain ⟨k, hk, rfl, acc, hacc, hok, hal, HWK, hL⟩ := hrel
                      obtain ⟨A0, c0, hv0⟩ := hacc.slice
                      subst hv0
                      by_cases hk2 : k < 256
                      · have hki : (k : Int) < 256 := by omega
                        have hk0 : (0 : Int) ≤ (k : Int) := by omega
                        obtain ⟨f, hf⟩ : ∃ f, 256 - k = f + 1 := ⟨255 - k, by omega⟩
                        have hf2 : f = 256 - (k + 1) := by omega
                        have HWO := HWK.out
                        rw [hf] at HWO
                        clear HWK hf
                        have HA := Lib.hid hacc
                        have HL := Lib.hid hL
                        have HT1 := Lib.hid (HT.out.below hL)
                        clear hacc hL
                        go_wp2_with fail
                        refine (rhas_any R (R + 1) s2 v2 (k : Int) _ HT1.out.r (by have := HS2.out.len; omega)).mono ?_
                        rintro e wb ⟨rfl, hb⟩
                        have HTb := Lib.hid (HT1.out.below hb)
                        have HAb := Lib.hid (HA.out.below hb)
                        have HLb := Lib.hid (bl_then HL.out HL.out.size hb)
                        clear HT1 HA HL hb
                        cases hfd : findL (k : Int) s2.L with
                        | none =>
                          have HR : Hid (r = none) := Lib.hid (by rw [← HWO]; simp [wholeF, hfd])
                          have HE : Hid (endS s2 = s2) := Lib.hid (by simp [endS, HW.out, HR.out])
                          clear HWO
                          try rw [hfd]
                          dsimp only [hasV, Option.isSome]
                          clear hfd
                          obtain ⟨Y, hY⟩ : ∃ Y, wb.heap.size = Y := ⟨_, rfl⟩
                          have HA0 : Hid ((wb.alloc (.cells #[.int .u64 0, .int .i64 0, .bool false, .slice none 0 0] 33)).heap[Y]? = some (.cells #[.int .u64 0, .int .i64 0, .bool false, .slice none 0 0] 33 (0, 0))) := Lib.hid (by rw [← hY]; exact heap_alloc_last _ _)
                          have hbl : Below wb.heap.size wb ((wb.alloc (.cells #[.int .u64 0, .int .i64 0, .bool false, .slice none 0 0] 33)).setRow Y #[.int .u64 0, .int .i64 0, .bool false, .slice none 0 0]) := below_setRow (by (repeat' (first | (with_reducible exact Below.refl _ _) | (with_reducible assumption) | (with_reducible refine Below.alloc ?_ ?_ _) | (with_reducible refine below_setRow ?_ ?_ _) | (with_reducible refine bl_drew ?_) | (with_reducible refine bl_drewN ?_ _) | (with_reducible refine Below.setCell ?_ ?_ _) | (with_reducible refine bl_then ?_ ?_ hb) | (with_reducible refine bl_then ?_ ?_ hb1) | (with_reducible refine bl_then ?_ ?_ hb2) | (with_reducible refine bl_then ?_ ?_ hb3) | (with_reducible refine bl_then ?_ ?_ hb4) | (with_reducible refine bl_then ?_ ?_ hb5) | (with_reducible refine bl_then ?_ ?_ hb6) | (with_reducible refine bl_then ?_ ?_ hb7) | (with_reducible refine bl_then ?_ ?_ hb8) | (with_reducible exact Nat.le_refl _) | omega | (simp only [World.size_alloc, World.size_setCell, World.size_drew, size_setRow]; omega) | (simp; omega) | (simp; done)))) (by omega) _
                          have hA1 : ((wb.alloc (.cells #[.int .u64 0, .int .i64 0, .bool false, .slice none 0 0] 33)).setRow Y #[.int .u64 0, .int .i64 0, .bool false, .slice none 0 0]).heap[Y]? = some (.cells #[.int .u64 0, .int .i64 0, .bool false, .slice none 0 0] 33 (0, 0)) := setRow_heap _ _ _ _ _ _ HA0.out
                          go_wp2_with (with_reducible refine wpList_stB (row := #[.int .u64 0, .int .i64 0, .bool false, .slice none 0 0]) partInfo (by simp [Value.oneCell']) rfl (.tmp 11) (.tmp 94) rfl rfl rfl HA0.out rfl ?_)
                          try rw [hY]
                          generalize (wb.alloc (.cells #[.int .u64 0, .int .i64 0, .bool false, .slice none 0 0] 33)).setRow Y #[.int .u64 0, .int .i64 0, .bool false, .slice none 0 0] = wc at *

                          have HTc := Lib.hid (HTb.out.below hbl)
                          clear hbl hA1 HA0 HTb HAb
                          refine bodyPost_ret (v := .tuple #[.slice none 0 0, .bool false, .int .i64 0]) (by simp [results, Try.results9, go_sem]) rfl (RTake.intro (.slice none 0 0) vc (v2) ?_ ?_ ?_ HTc.out.fr HTc.out.vo)
                          · simp [takeR, HM.out, HST.out, errT, HF.out, HAD.out, HW.out, HR.out]
                          · simp only [takeR, HM.out, HST.out, HF.out, HAD.out, HW.out, HR.out]
                            exact OwB.nil _ _
                          · simp only [takeS, HM.out, HST.out, HF.out, HAD.out]
                            simp only [if_true, Bool.false_eq_true, if_false, HE.out]
                            exact HTc.out.r
                        | some p =>
                          have hmem := findL_mem hfd
                          have HBP := Lib.hid (HTb.out.r.hP.bytes p hmem.1)
                          have hbb := HBP.out.1.rd HBP.out.2.1 HBP.out.2.2
                          have HPL := Lib.hid (HS2.out.part p hmem.1).1
                          have HO : Hid ((prow s2.id p).all (·.oneCell') = true) := Lib.hid (prow_one hbb)
                          have HW2 : Hid ((if p.last then some (acc ++ p.bs) else wholeF s2.L f (k + 1) (acc ++ p.bs)) = r) := Lib.hid (by rw [← HWO]; simp [wholeF, hfd])
                          clear HWO hmem
                          try rw [hfd]
                          dsimp only [hasV, Option.isSome]
                          clear hfd
                          obtain ⟨Y, hY⟩ : ∃ Y, wb.heap.size = Y := ⟨_, rfl⟩
                          have HA0 : Hid ((wb.alloc (.cells #[.int .u64 0, .int .i64 0, .bool false, .slice none 0 0] 33)).heap[Y]? = some (.cells #[.int .u64 0, .int .i64 0, .bool false, .slice none 0 0] 33 (0, 0))) := Lib.hid (by rw [← hY]; exact heap_alloc_last _ _)
                          have hbl : Below wb.heap.size wb ((wb.alloc (.cells #[.int .u64 0, .int .i64 0, .bool false, .slice none 0 0] 33)).setRow Y (prow s2.id p)) := below_setRow (by (repeat' (first | (with_reducible exact Below.refl _ _) | (with_reducible assumption) | (with_reducible refine Below.alloc ?_ ?_ _) | (with_reducible refine below_setRow ?_ ?_ _) | (with_reducible refine bl_drew ?_) | (with_reducible refine bl_drewN ?_ _) | (with_reducible refine Below.setCell ?_ ?_ _) | (with_reducible refine bl_then ?_ ?_ hb) | (with_reducible refine bl_then ?_ ?_ hb1) | (with_reducible refine bl_then ?_ ?_ hb2) | (with_reducible refine bl_then ?_ ?_ hb3) | (with_reducible refine bl_then ?_ ?_ hb4) | (with_reducible refine bl_then ?_ ?_ hb5) | (with_reducible refine bl_then ?_ ?_ hb6) | (with_reducible refine bl_then ?_ ?_ hb7) | (with_reducible refine bl_then ?_ ?_ hb8) | (with_reducible exact Nat.le_refl _) | omega | (simp only [World.size_alloc, World.size_setCell, World.size_drew, size_setRow]; omega) | (simp; omega) | (simp; done)))) (by omega) _
                          have hA1 : ((wb.alloc (.cells #[.int .u64 0, .int .i64 0, .bool false, .slice none 0 0] 33)).setRow Y (prow s2.id p)).heap[Y]? = some (.cells (prow s2.id p) 33 (0, 0)) := setRow_heap _ _ _ _ _ _ HA0.out
                          have c3 : ((wb.alloc (.cells #[.int .u64 0, .int .i64 0, .bool false, .slice none 0 0] 33)).setRow Y (prow s2.id p)).cell? ⟨Y, 3, none⟩ = some p.v := (cell_of_row _ _ _ _ _ _ hA1).trans rfl
                          have HBc := Lib.hid (hbb.below hbl)
                          have HAc := Lib.hid (HAb.out.below hbl)
                          have HLc := Lib.hid (bl_then HLb.out HLb.out.size hbl)
                          have HYL : Hid (∀ b, (Value.slice A0 acc.length c0).ownBlock = some b → b < Y) := Lib.hid (fun b h => by rw [← hY]; exact (HAb.out.own_blk h).2)
                          clear hbb hbl HAb HTb HLb HBP
                          go_wp2_with (first | (with_reducible refine wpList_stB (row := prow s2.id p) partInfo HO.out rfl (.tmp 11) (.tmp 94) rfl rfl rfl HA0.out rfl ?_) | (at_builtin; refine wpList_appB (base := wm.heap.size) rfl _ _ rfl (.slice A0 acc.length c0) p.v acc p.bs rfl ?_ rfl ?_ ?_ ?_ ?_))
                          · exact HAc.out
                          · exact HBc.out
                          · have := HPL.out; omega
                          · exact HLc.out.size
                          · intro v' w' h1 h2 h3
                            have hYb := h2.block Y (lt_of_heap hA1) (by
                              intro e
                              have := HYL.out Y e.symm
                              omega)
                            have c2 : w'.cell? ⟨Y, 2, none⟩ = some (.bool p.last) := (cell_of_row _ _ _ _ _ _ (hYb.trans hA1)).trans rfl
                            have HL2 := Lib.hid (HLc.out.grown h2 HLc.out.size (fun q hq => (HAc.out.own_blk hq).1))
                            have H1 := Lib.hid h1
                            have HT2 := Lib.hid (HT.out.below HL2.out)
                            have hok2 : okB (acc ++ p.bs) := hok.app HBc.out.ok
                            have hal2 : (acc ++ p.bs).length ≤ 1024 * (k + 1) := by have := HPL.out; rw [List.length_append]; omega
                            obtain ⟨A1, c1, hv1⟩ := h1.slice
                            subst hv1
                            clear hYb c3 hA1 HA0 h1 h2 h3 HLc HAc HBc HPL HO HYL hY hok hal
                            cases hpl : p.last
                            · rw [hpl] at c2
                              have HW3 : Hid (wholeF s2.L (256 - (k + 1)) (k + 1) (acc ++ p.bs) = r) := Lib.hid (by rw [← HW2.out, hpl, hf2]; rfl)
                              clear HW2 hpl HT2
                              go_wp2_with fail
                              go_roundw
                              case rel =>
                                first
                                  | exact ⟨k + 1, by omega, by go_num, _, H1.out, hok2, hal2, HW3, HL2.out⟩
                                  | ((repeat apply Exists.intro); refine ⟨?_, rfl⟩; exact ⟨k + 1, by omega, by go_num, _, H1.out, hok2, hal2, HW3, HL2.out⟩)
                              case measure => first | (simp [intOf]; done) | (simp [intOf]; omega)
                            · rw [hpl] at c2
                              have HR : Hid (r = some (acc ++ p.bs)) := Lib.hid (by rw [← HW2.out, hpl]; rfl)
                              have HE : Hid (endS s2 = { s2 with L := [], ended := true, bytes := 0 }) := Lib.hid (by simp [endS, HW.out, HR.out])
                              have b0 := HT2.out.cellB (i := 0) HRW.out
                              have hR9 := HT2.out.r.hR
                              have hT9 := HT2.out.reset (s' := { s2 with L := [], ended := true, bytes := 0 }) rfl
                              try dsimp only at hT9
                              rw [HID.out, HAE.out] at hT9
                              have HO9 : Hid (OwB (w'.setRow R #[.int .u64 id, .slice none 0 0, .bool true, .bool true]) wm.heap.size (.slice A1 (acc ++ p.bs).length c1) (acc ++ p.bs)) := Lib.hid (H1.out.keep fun b h1 h2 => by
                                have := (H1.out.own_blk h1).1
                                have hlB := lt_of_heap HT.out.hB
                                rw [heap_setRow_if, if_neg (by omega)])
                              have HT9 := Lib.hid hT9
                              clear HW2 hpl HT2 hT9 H1
                              go_wp2_with (with_reducible refine wpList_stB (row := #[.int .u64 id, .slice none 0 0, .bool true, .bool true]) joinInfo (by simp [Value.oneCell']) rfl (.tmp 108) (.tmp 107) rfl rfl rfl hR9 rfl ?_)
                              refine bodyPost_ret (v := .tuple #[.slice A1 (acc ++ p.bs).length c1, .bool true, .int .i64 0]) (by simp [results, Try.results9, go_sem]) rfl (RTake.intro (.slice A1 (acc ++ p.bs).length c1) vc (.slice none 0 0) ?_ ?_ ?_ HT9.out.fr HT9.out.vo)
                              · simp [takeR, HM.out, HST.out, errT, HF.out, HAD.out, HW.out, HR.out]
                              · simp only [takeR, HM.out, HST.out, HF.out, HAD.out, HW.out, HR.out]
                                exact HO9.out.mono (by omega)
                              · simp only [takeS, HM.out, HST.out, HF.out, HAD.out]
                                simp only [if_true, Bool.false_eq_true, if_false, HE.out]
                                rw [HID.out, HAE.out]
                                exact HT9.out.r
                      · obtain rfl : k = 256 := by omega
                        have HR : Hid (r = none) := Lib.hid (by rw [← HWK.out]; rfl)
                        have HE : Hid (endS s2 = s2) := Lib.hid (by simp [endS, HW.out, HR.out])
                        have HT1 := Lib.hid (HT.out.below hL)
                        clear HWK hacc hL
                        go_wp2_with fail
                        refine bodyPost_ret (v := .tuple #[.slice none 0 0, .bool false, .int .i64 0]) (by simp [results, Try.results9, go_sem]) rfl (RTake.intro (.slice none 0 0) vc (v2) ?_ ?_ ?_ HT1.out.fr HT1.out.vo)
                        · simp [takeR, HM.out, HST.out, errT, HF.out, HAD.out, HW.out, HR.out]
                        · simp only [takeR, HM.out, HST.out, HF.out, HAD.out, HW.out, HR.out]
                          exact OwB.nil _ _
                        · simp only [takeS, HM.out, HST.out, HF.out, HAD.out]
                          simp only [if_true, Bool.false_eq_true, if_false, HE.out]
                          exact HT1.out.r
                  | none =>
                    have HFD := Lib.hid hfd
                    try rw [hfd]
                    dsimp only [hasV, Option.isSome]
                    clear hfd
                    obtain ⟨Y, hY⟩ : ∃ Y, wa.heap.size = Y := ⟨_, rfl⟩
                    have HA0 : Hid ((wa.alloc (.cells #[.int .u64 0, .int .i64 0, .bool false, .slice none 0 0] 33)).heap[Y]? = some (.cells #[.int .u64 0, .int .i64 0, .bool false, .slice none 0 0] 33 (0, 0))) := Lib.hid (by rw [← hY]; exact heap_alloc_last _ _)
                    have hbl : Below wa.heap.size wa ((wa.alloc (.cells #[.int .u64 0, .int .i64 0, .bool false, .slice none 0 0] 33)).setRow Y #[.int .u64 0, .int .i64 0, .bool false, .slice none 0 0]) := below_setRow (by (repeat' (first | (with_reducible exact Below.refl _ _) | (with_reducible assumption) | (with_reducible refine Below.alloc ?_ ?_ _) | (with_reducible refine below_setRow ?_ ?_ _) | (with_reducible refine bl_drew ?_) | (with_reducible refine bl_drewN ?_ _) | (with_reducible refine Below.setCell ?_ ?_ _) | (with_reducible refine bl_then ?_ ?_ hb) | (with_reducible refine bl_then ?_ ?_ hb1) | (with_reducible refine bl_then ?_ ?_ hb2) | (with_reducible refine bl_then ?_ ?_ hb3) | (with_reducible refine bl_then ?_ ?_ hb4) | (with_reducible refine bl_then ?_ ?_ hb5) | (with_reducible refine bl_then ?_ ?_ hb6) | (with_reducible refine bl_then ?_ ?_ hb7) | (with_reducible refine bl_then ?_ ?_ hb8) | (with_reducible exact Nat.le_refl _) | omega | (simp only [World.size_alloc, World.size_setCell, World.size_drew, size_setRow]; omega) | (simp; omega) | (simp; done)))) (by omega) _
                    have hTy := HTa.out.below hbl
                    have HVy := Lib.hid (HVa.out.below hbl)
                    have b3 := hTy.cellB (i := 3) rfl
                    have HTy := Lib.hid hTy
                    clear hTy hbl HTa HVa
                    go_wp2_with (with_reducible refine wpList_stB (row := #[.int .u64 0, .int .i64 0, .bool false, .slice none 0 0]) partInfo (by simp [Value.oneCell']) rfl (.tmp 7) (.tmp 68) rfl rfl rfl HA0.out rfl ?_)
                    generalize (wa.alloc (.cells #[.int .u64 0, .int .i64 0, .bool false, .slice none 0 0] 33)).setRow Y #[.int .u64 0, .int .i64 0, .bool false, .slice none 0 0] = wy at *
                    refine (copy_bytes u bs wy HVy.out).mono ?_
                    rintro e wc ⟨⟨vc, rfl, ho⟩, hb⟩
                    have hTc := HTy.out.below hb
                    have HBC : Hid (BB wc vc bs) := Lib.hid (ho.rd HVy.out.ok HVy.out.len)
                    have HOwn : Hid (OwB wc wy.heap.size vc bs) := Lib.hid ho
                    have hsz9 : B < wy.heap.size := lt_of_heap HTy.out.hB
                    have hlt := hTc.lt
                    have HVB : Hid (∀ b, v1.ownBlock = some b → b < wy.heap.size) := Lib.hid (fun b h => (rows_blk HTy.out.r.hP.row h).2)
                    obtain ⟨A3, c3, hv3⟩ := ho.slice
                    clear hb b3 HTy HA0 hY ho
                    have b3 := hTc.cellB (i := 3) rfl
                    have g3 := frozen_of_row wc B 3 _ _ hTc.hB
                    have HTd := Lib.hid (hTc.setB (i := 3) (u := vc) (row' := #[.int .u64 id, .int .i64 n, .bool last, vc]) rfl)
                    have HOd : Hid (OwB (wc.setCell ⟨B, 3, none⟩ vc) wy.heap.size vc bs) := Lib.hid (HOwn.out.keep fun b h1 h2 => heap_setCell_other _ ⟨_, _, _⟩ _ _ (by have := (HOwn.out.own_blk h1).1; show b ≠ B; omega))
                    have HKB := Lib.hid (And.intro HVy.out.ok HVy.out.len)
                    subst hv3
                    clear hTc HBC HOwn HVy
                    go_wp2_with fail
                    generalize wc.setCell ⟨B, 3, none⟩ (.slice A3 bs.length c3) = W2 at *
                    have HT := HTd
                    clear HTd g3 b3
                    obtain ⟨x, hx, hx2⟩ := OwX.of HT.out.r.hP.row
                    have hbk : v1.ownBlock = x.map (·.1) := hx.block
                    have hbm : ∀ g o, x = some (g, o) → v1.ownBlock = some g := fun g o e => by rw [hbk, e]; rfl
                    have HV1 : Hid (v1 = rowVal 4 s1.L.length x) := Lib.hid (hx.val (by decide))
                    have hsl : ∃ A c, v1 = .slice A s1.L.length c := by have h := hx; rw [HV1.out] at h ⊢; exact h.form
                    obtain ⟨it, hit, hzr, hs1z, hs8⟩ : ∃ i, Try.prog.info? 33 = some i ∧ i.zero = some (partV 0 0 false (.slice none 0 0)) ∧ i.size = 4 ∧ i.bytes = 48 := by
                      obtain ⟨i, h, h2⟩ := Option.map_eq_some_iff.1 (show (Try.prog.info? 33).map (fun i => (i.zero, i.size, i.bytes)) = some (some (partV 0 0 false (.slice none 0 0)), 4, 48) by kernel_rfl)
                      simp only [Prod.mk.injEq] at h2
                      exact ⟨i, h, h2.1, h2.2.1, h2.2.2⟩
                    have hR1 := HT.out.r.hR
                    rw [HID.out, HAE.out.1, HAE.out.2] at hR1
                    clear hbk
                    have hl256 := HS1.out.len
                    apply wp_region_eff _ _ (Inv.start2 hR1 (.inl rfl) (fun g o e => ⟨(hx2 g o e).2.1, by have := (hx2 g o e).1; omega, .inr (hbm g o e)⟩) : Inv W2 (fun g => g = R ∨ v1.ownBlock = some g) (gh2 (some (R, .cells #[.int .u64 id, v1, .bool true, .bool false] 27 (0, 0))) x) W2.drew) (hm := by kernel_rfl)
                    case h =>
                      (apply SeqF.pure; (focus (first | rfl | (go_simp; done) | (simp [Region.wanted, yielded]; done))); (focus (intro w; go_simp; with_reducible rfl)); go_simp)
                      (apply SeqF.pure; (focus (first | rfl | (go_simp; done) | (simp [Region.wanted, yielded]; done))); (focus (intro w; go_simp; with_reducible rfl)); go_simp)
                      (apply SeqF.pure; (focus (first | rfl | (go_simp; done) | (simp [Region.wanted, yielded]; done))); (focus (intro w; go_simp; with_reducible rfl)); go_simp)
                      (apply SeqF.pure; (focus (first | rfl | (go_simp; done) | (simp [Region.wanted, yielded]; done))); (focus (intro w; go_simp; with_reducible rfl)); go_simp)
                      apply SeqF.read (v := v1) [0]
                      · (first | rfl | (go_simp; done) | (simp [Region.wanted, yielded]; done))
                      · intro γ' W hg hI
                        have x0 : W.cell? ⟨R, 1, none⟩ = some v1 := (cell_of_row _ _ _ _ _ _ (hI.here 0 R _ ((hg 0 (by simp)).trans rfl)).1).trans rfl
                        obtain ⟨A9, c9, e9⟩ := hsl
                        subst e9
                        go_simp
                      go_simp
                      apply SeqF.read (v := .agg #[.int .u64 id, .int .i64 n, .bool last, .slice A3 bs.length c3]) []
                      · (first | rfl | (go_simp; done) | (simp [Region.wanted, yielded]; done))
                      · exact fun γ' W hg hI => exec_load rfl rfl (run_load_blk partInfo partRow ((hI.far B (lt_of_heap HT.out.hB) (fun e => e.elim (fun e => by omega) HT.out.ap.1)).trans HT.out.hB))
                      go_simp
                      apply SeqF.new [] 2 (fun g => .slice (some ⟨g, 0, none⟩) 1 1) (fun _ => .cells #[.int .u64 id, .int .i64 n, .bool last, .slice A3 bs.length c3] 33 (0, 0))
                      · intro γ' _; rfl
                      · (first | rfl | (go_simp; done) | (simp [Region.wanted, yielded]; done))
                      · intro γ' V hg hI; kernel_rfl
                      intro X hX
                      go_simp
                      apply SeqF.append [1, 2] 1 (by simp) (.tmp 80) (.tmp 82) 22 33 it _ 4 48 rfl rfl Try.underlying22 hit hzr hs1z hs8 rfl (by decide) v1 s1.L.length (flatP s1.id s1.L) rfl hx ⟨X, 0, none⟩ 1 1 (prow id ⟨n, last, .slice A3 bs.length c3, bs⟩).toList rfl rfl ?n1 ?n2 ?n3 ?n4 (fun _ => flatP s1.id s1.L ++ (prow id ⟨n, last, .slice A3 bs.length c3, bs⟩).toList) ?n5 ?n6 ?n7
                      case n1 =>
                        intro γ' V hg hI j u hj
                        have hh := (hI.here 2 X _ ((hg 2 (by simp)).trans (Gh.set_here _ _ _))).1
                        rw [addr_add', cell_of_row _ _ _ _ _ _ hh, Nat.zero_add, ← Array.getElem?_toList]
                        exact hj
                      case n2 =>
                        intro y hy
                        simp only [prow, List.mem_cons, List.not_mem_nil, or_false] at hy
                        rcases hy with rfl | rfl | rfl | rfl <;> rfl
                      case n3 => unfold maxLen; omega
                      case n4 => omega
                      case n5 => intro γ' hg; rfl
                      case n6 => rfl
                      case n7 =>
                        intro v' x' hu hx'
                        obtain rfl := hu.val (by decide)
                        go_simp
                        (apply SeqF.pure; (focus (first | rfl | (go_simp; done) | (simp [Region.wanted, yielded]; done))); (focus (intro w; go_simp; with_reducible rfl)); go_simp)
                        (apply SeqF.pure; (focus (first | rfl | (go_simp; done) | (simp [Region.wanted, yielded]; done))); (focus (intro w; go_simp; with_reducible rfl)); go_simp)
                        apply SeqF.store [0, 1] 0 R (.cells #[.int .u64 id, v1, .bool true, .bool false] 27 (0, 0)) rfl (by simp) (fun γ => .cells #[.int .u64 id, rowVal 4 (s1.L.length + 1) (γ 1), .bool true, .bool false] 27 (0, 0))
                        · intro γ' hg; simp only [hg 1 (by simp)]
                        · (first | rfl | (go_simp; done) | (simp [Region.wanted, yielded]; done))
                        · intro γ' W hg hI hW
                          simp only [Gh.set_here]
                          exact exec_st1 (i := 1) (st_sl _ (by obtain ⟨A9, c9, e9⟩ := hu.form; exact ⟨_, _, _, e9⟩)) rfl rfl rfl (by simp) rfl hW
                        go_simp
                        apply SeqF.done
                        intro wm hI9
                        have hR9 := (hI9.here 0 R _ (Gh.set_here _ _ _)).1
                        simp only [Gh.set_here] at hR9
                        have hX1 : ∀ g o, x' = some (g, o) → wm.heap[g]? = some o := fun g o e => (hI9.here 1 g o (by rw [Gh.set_far _ _ (by decide), Gh.set_here]; exact e)).1
                        have hxo : ∀ g o, x' = some (g, o) → v1.ownBlock = some g ∨ W2.heap.size ≤ g := fun g o e => by
                          rcases hx' g o e with ⟨o', h⟩ | h
                          · exact .inl (hbm g o' (by simpa [Gh.set, gh2] using h))
                          · exact .inr h
                        have hbl2 : (rowVal 4 (s1.L.length + 1) x').ownBlock = x'.map (·.1) := hu.block
                        have hxo2 : ∀ b, (rowVal 4 (s1.L.length + 1) x').ownBlock = some b → v1.ownBlock = some b ∨ W2.heap.size ≤ b := fun b h => by
                          rw [hbl2] at h
                          obtain ⟨⟨g, o⟩, e, rfl⟩ := Option.map_eq_some_iff.1 h
                          exact hxo g o e
                        have hlR := lt_of_heap hR1
                        have hlB := lt_of_heap HT.out.hB
                        have hrow9 : wm.ownsRow (R + 1) 33 4 (rowVal 4 (s1.L.length + 1) x') (s1.L.length + 1) (flatP s1.id s1.L ++ (prow id ⟨n, last, .slice A3 bs.length c3, bs⟩).toList) := hu.owns fun g o e => ⟨by
                          rcases hxo g o e with h | h
                          · exact (rows_blk HT.out.r.hP.row h).1
                          · omega, hX1 g o e⟩
                        have hOm : OwB wm (R + 1) (.slice A3 bs.length c3) bs := (HOd.out.keep (fun b h1 h2 => hI9.far b h2 (fun e => by
                          have h3 := (HOd.out.own_blk h1).1
                          rcases e with e | e
                          · omega
                          · have := HVB.out b e
                            omega))).mono (by omega)
                        have hNB : ∀ b, (Value.slice A3 bs.length c3).ownBlock = some b → wy.heap.size ≤ b ∧ b < W2.heap.size := fun b h => HOd.out.own_blk h
                        have hP9 : OwP wm (R + 1) (rowVal 4 (s1.L.length + 1) x') s1.id (s1.L ++ [⟨n, last, .slice A3 bs.length c3, bs⟩]) := by
                          refine ⟨?_, ?_, ?_⟩
                          · rw [flatP_app, List.length_append]
                            have e : flatP s1.id [⟨n, last, .slice A3 bs.length c3, bs⟩] = (prow id ⟨n, last, .slice A3 bs.length c3, bs⟩).toList := by rw [HID.out]; simp [flatP]
                            rw [e]
                            exact hrow9
                          · intro q hq
                            rcases List.mem_append.1 hq with hq | hq
                            · exact ⟨(HT.out.r.hP.bytes q hq).1.keep (fun b h1 h2 => hI9.far b h2 (fun e => by
                                have h3 := ((HT.out.r.hP.bytes q hq).1.own_blk h1).1
                                rcases e with e | e
                                · omega
                                · exact HT.out.r.hP.ap q hq b h1 e)), (HT.out.r.hP.bytes q hq).2⟩
                            · obtain rfl := List.mem_singleton.1 hq
                              exact ⟨hOm, HKB.out⟩
                          · intro q hq b h1 h2
                            rcases List.mem_append.1 hq with hq | hq
                            · rcases hxo2 b h2 with h3 | h3
                              · exact HT.out.r.hP.ap q hq b h1 h3
                              · have := ((HT.out.r.hP.bytes q hq).1.own_blk h1).2
                                omega
                            · obtain rfl := List.mem_singleton.1 hq
                              have h4 := hNB b h1
                              rcases hxo2 b h2 with h3 | h3
                              · have := HVB.out b h3
                                omega
                              · omega
                        have hTm : TR w wm R B v { s1 with L := s1.L ++ [⟨n, last, .slice A3 bs.length c3, bs⟩], bytes := s1.bytes + (bs.length : Int) } (rowVal 4 (s1.L.length + 1) x') #[.int .u64 id, .int .i64 n, .bool last, .slice A3 bs.length c3] := by
                          refine ⟨⟨?_, hP9, by omega⟩, (hI9.far B hlB (fun e => e.elim (fun e => by omega) HT.out.ap.1)).trans HT.out.hB, HT.out.fr.then hI9 (fun g hg hl => hg.elim .inl (fun h => (HT.out.vo g h).elim .inr (fun h => by omega))), HT.out.lt, ⟨fun h => ?_, ?_⟩, ?_⟩
                          · dsimp only
                            rw [HID.out, HAE.out.1, HAE.out.2]
                            exact hR9
                          · rcases hxo2 B h with h3 | h3
                            · exact HT.out.ap.1 h3
                            · omega
                          · intro q hq b h1
                            rcases List.mem_append.1 hq with hq | hq
                            · exact HT.out.ap.2 q hq b h1
                            · obtain rfl := List.mem_singleton.1 hq
                              have h4 := hNB b h1
                              omega
                          · intro b h
                            rcases hxo2 b h with h3 | h3
                            · exact HT.out.vo b h3
                            · have := HT.out.fr.size
                              exact .inr (by omega)
                        have hbl3 : bs.length ≤ 1024 ∧ 0 ≤ n ∧ n < 256 := by
                          have h := HM.out
                          simp only [mayB, Bool.and_eq_true, decide_eq_true_eq] at h
                          exact ⟨h.2.2.1, h.1, h.2.1⟩
                        have HAD0 : Hid (addS s1 ⟨n, last, .slice A3 bs.length c3, bs⟩ = { s1 with L := s1.L ++ [⟨n, last, .slice A3 bs.length c3, bs⟩], bytes := s1.bytes + (bs.length : Int) }) := Lib.hid (by simp [addS, HFD.out])
                        have HS2 : Hid (JOk { s1 with L := s1.L ++ [⟨n, last, .slice A3 bs.length c3, bs⟩], bytes := s1.bytes + (bs.length : Int) }) := Lib.hid (by rw [← HAD0.out]; exact HS1.out.add hbl3.1 hbl3.2.1 hbl3.2.2)
                        clear hI9 HT hR9 hX1 hxo hbl2 hxo2 hrow9 hOm hNB hP9 hbl3 hx' hu hlR hlB hR1 hbm hx hx2 HOd
                        have HT := Lib.hid hTm
                        clear hTm
                        obtain ⟨v2, hv2⟩ : ∃ v2, rowVal 4 (s1.L.length + 1) x' = v2 := ⟨_, rfl⟩
                        obtain ⟨s2, hs2⟩ : ∃ s2, ({ s1 with L := s1.L ++ [⟨n, last, .slice A3 bs.length c3, bs⟩], bytes := s1.bytes + (bs.length : Int) } : JS) = s2 := ⟨_, rfl⟩
                        obtain ⟨vc, hvc⟩ : ∃ vc, Value.slice A3 bs.length c3 = vc := ⟨_, rfl⟩
                        obtain ⟨row, hrow⟩ : ∃ row : Array Value, row = #[.int .u64 id, .int .i64 n, .bool last, .slice A3 bs.length c3] := ⟨_, rfl⟩
                        have HRW : Hid (row[0]? = some (.int .u64 id)) := Lib.hid (by rw [hrow]; rfl)
                        have HAE0 := HAE
                        have HAE : Hid (s2.any = true) := Lib.hid (by rw [← hs2]; exact HAE0.out.1)
                        have HID0 := HID
                        have HID : Hid (s2.id = id) := Lib.hid (by rw [← hs2]; exact HID0.out)
                        rw [hs2] at HS2 HAD0 HT
                        rw [← hrow, hv2] at HT
                        have HAD : Hid (addS s1 ⟨n, last, vc, bs⟩ = s2) := Lib.hid (by rw [← hvc]; exact HAD0.out)
                        go_simp
                        clear HAD0 hs2 hvc hrow HAE0 HID0 hv2 HFD HKB HVB
                        go_wp2_with fail
                        obtain ⟨r, hr⟩ : ∃ r, wholeF s2.L 256 0 [] = r := ⟨_, rfl⟩
                        have HW := Lib.hid hr
                        clear hr
                        have hsz : w.heap.size ≤ wm.heap.size := HT.out.fr.size
                        have hRB := HT.out.lt
                        go_loopw [10, 9] (fun i vv wr => ∃ k : Nat, k ≤ 256 ∧ i = .int .i64 k ∧ ∃ acc, OwB wr wm.heap.size vv acc ∧ okB acc ∧ acc.length ≤ 1024 * k ∧ Hid (wholeF s2.L (256 - k) k acc = r) ∧ Below wm.heap.size wm wr) (fun i _ _ => 256 - (intOf i).toNat)
                        case atStart => exact ⟨0, by omega, rfl, [], OwB.nil _ _, okB.nil, by simp, HW, Below.refl _ _⟩
                        case round =>
                          obtain ⟨k, hk, rfl, acc, hacc, hok, hal, HWK, hL⟩ := hrel
                          obtain ⟨A0, c0, hv0⟩ := hacc.slice
                          subst hv0
                          by_cases hk2 : k < 256
                          · have hki : (k : Int) < 256 := by omega
                            have hk0 : (0 : Int) ≤ (k : Int) := by omega
                            obtain ⟨f, hf⟩ : ∃ f, 256 - k = f + 1 := ⟨255 - k, by omega⟩
                            have hf2 : f = 256 - (k + 1) := by omega
                            have HWO := HWK.out
                            rw [hf] at HWO
                            clear HWK hf
                            have HA := Lib.hid hacc
                            have HL := Lib.hid hL
                            have HT1 := Lib.hid (HT.out.below hL)
                            clear hacc hL
                            go_wp2_with fail
                            refine (rhas_any R (R + 1) s2 v2 (k : Int) _ HT1.out.r (by have := HS2.out.len; omega)).mono ?_
                            rintro e wb ⟨rfl, hb⟩
                            have HTb := Lib.hid (HT1.out.below hb)
                            have HAb := Lib.hid (HA.out.below hb)
                            have HLb := Lib.hid (bl_then HL.out HL.out.size hb)
                            clear HT1 HA HL hb
                            cases hfd : findL (k : Int) s2.L with
                            | none =>
                              have HR : Hid (r = none) := Lib.hid (by rw [← HWO]; simp [wholeF, hfd])
                              have HE : Hid (endS s2 = s2) := Lib.hid (by simp [endS, HW.out, HR.out])
                              clear HWO
                              try rw [hfd]
                              dsimp only [hasV, Option.isSome]
                              clear hfd
                              obtain ⟨Y, hY⟩ : ∃ Y, wb.heap.size = Y := ⟨_, rfl⟩
                              have HA0 : Hid ((wb.alloc (.cells #[.int .u64 0, .int .i64 0, .bool false, .slice none 0 0] 33)).heap[Y]? = some (.cells #[.int .u64 0, .int .i64 0, .bool false, .slice none 0 0] 33 (0, 0))) := Lib.hid (by rw [← hY]; exact heap_alloc_last _ _)
                              have hbl : Below wb.heap.size wb ((wb.alloc (.cells #[.int .u64 0, .int .i64 0, .bool false, .slice none 0 0] 33)).setRow Y #[.int .u64 0, .int .i64 0, .bool false, .slice none 0 0]) := below_setRow (by (repeat' (first | (with_reducible exact Below.refl _ _) | (with_reducible assumption) | (with_reducible refine Below.alloc ?_ ?_ _) | (with_reducible refine below_setRow ?_ ?_ _) | (with_reducible refine bl_drew ?_) | (with_reducible refine bl_drewN ?_ _) | (with_reducible refine Below.setCell ?_ ?_ _) | (with_reducible refine bl_then ?_ ?_ hb) | (with_reducible refine bl_then ?_ ?_ hb1) | (with_reducible refine bl_then ?_ ?_ hb2) | (with_reducible refine bl_then ?_ ?_ hb3) | (with_reducible refine bl_then ?_ ?_ hb4) | (with_reducible refine bl_then ?_ ?_ hb5) | (with_reducible refine bl_then ?_ ?_ hb6) | (with_reducible refine bl_then ?_ ?_ hb7) | (with_reducible refine bl_then ?_ ?_ hb8) | (with_reducible exact Nat.le_refl _) | omega | (simp only [World.size_alloc, World.size_setCell, World.size_drew, size_setRow]; omega) | (simp; omega) | (simp; done)))) (by omega) _
                              have hA1 : ((wb.alloc (.cells #[.int .u64 0, .int .i64 0, .bool false, .slice none 0 0] 33)).setRow Y #[.int .u64 0, .int .i64 0, .bool false, .slice none 0 0]).heap[Y]? = some (.cells #[.int .u64 0, .int .i64 0, .bool false, .slice none 0 0] 33 (0, 0)) := setRow_heap _ _ _ _ _ _ HA0.out
                              go_wp2_with (with_reducible refine wpList_stB (row := #[.int .u64 0, .int .i64 0, .bool false, .slice none 0 0]) partInfo (by simp [Value.oneCell']) rfl (.tmp 11) (.tmp 94) rfl rfl rfl HA0.out rfl ?_)
                              try rw [hY]
                              generalize (wb.alloc (.cells #[.int .u64 0, .int .i64 0, .bool false, .slice none 0 0] 33)).setRow Y #[.int .u64 0, .int .i64 0, .bool false, .slice none 0 0] = wc at *

                              have HTc := Lib.hid (HTb.out.below hbl)
                              clear hbl hA1 HA0 HTb HAb
                              refine bodyPost_ret (v := .tuple #[.slice none 0 0, .bool false, .int .i64 0]) (by simp [results, Try.results9, go_sem]) rfl (RTake.intro (.slice none 0 0) vc (v2) ?_ ?_ ?_ HTc.out.fr HTc.out.vo)
                              · simp [takeR, HM.out, HST.out, errT, HF.out, HAD.out, HW.out, HR.out]
                              · simp only [takeR, HM.out, HST.out, HF.out, HAD.out, HW.out, HR.out]
                                exact OwB.nil _ _
                              · simp only [takeS, HM.out, HST.out, HF.out, HAD.out]
                                simp only [if_true, Bool.false_eq_true, if_false, HE.out]
                                exact HTc.out.r
                            | some p =>
                              have hmem := findL_mem hfd
                              have HBP := Lib.hid (HTb.out.r.hP.bytes p hmem.1)
                              have hbb := HBP.out.1.rd HBP.out.2.1 HBP.out.2.2
                              have HPL := Lib.hid (HS2.out.part p hmem.1).1
                              have HO : Hid ((prow s2.id p).all (·.oneCell') = true) := Lib.hid (prow_one hbb)
                              have HW2 : Hid ((if p.last then some (acc ++ p.bs) else wholeF s2.L f (k + 1) (acc ++ p.bs)) = r) := Lib.hid (by rw [← HWO]; simp [wholeF, hfd])
                              clear HWO hmem
                              try rw [hfd]
                              dsimp only [hasV, Option.isSome]
                              clear hfd
                              obtain ⟨Y, hY⟩ : ∃ Y, wb.heap.size = Y := ⟨_, rfl⟩
                              have HA0 : Hid ((wb.alloc (.cells #[.int .u64 0, .int .i64 0, .bool false, .slice none 0 0] 33)).heap[Y]? = some (.cells #[.int .u64 0, .int .i64 0, .bool false, .slice none 0 0] 33 (0, 0))) := Lib.hid (by rw [← hY]; exact heap_alloc_last _ _)
                              have hbl : Below wb.heap.size wb ((wb.alloc (.cells #[.int .u64 0, .int .i64 0, .bool false, .slice none 0 0] 33)).setRow Y (prow s2.id p)) := below_setRow (by (repeat' (first | (with_reducible exact Below.refl _ _) | (with_reducible assumption) | (with_reducible refine Below.alloc ?_ ?_ _) | (with_reducible refine below_setRow ?_ ?_ _) | (with_reducible refine bl_drew ?_) | (with_reducible refine bl_drewN ?_ _) | (with_reducible refine Below.setCell ?_ ?_ _) | (with_reducible refine bl_then ?_ ?_ hb) | (with_reducible refine bl_then ?_ ?_ hb1) | (with_reducible refine bl_then ?_ ?_ hb2) | (with_reducible refine bl_then ?_ ?_ hb3) | (with_reducible refine bl_then ?_ ?_ hb4) | (with_reducible refine bl_then ?_ ?_ hb5) | (with_reducible refine bl_then ?_ ?_ hb6) | (with_reducible refine bl_then ?_ ?_ hb7) | (with_reducible refine bl_then ?_ ?_ hb8) | (with_reducible exact Nat.le_refl _) | omega | (simp only [World.size_alloc, World.size_setCell, World.size_drew, size_setRow]; omega) | (simp; omega) | (simp; done)))) (by omega) _
                              have hA1 : ((wb.alloc (.cells #[.int .u64 0, .int .i64 0, .bool false, .slice none 0 0] 33)).setRow Y (prow s2.id p)).heap[Y]? = some (.cells (prow s2.id p) 33 (0, 0)) := setRow_heap _ _ _ _ _ _ HA0.out
                              have c3 : ((wb.alloc (.cells #[.int .u64 0, .int .i64 0, .bool false, .slice none 0 0] 33)).setRow Y (prow s2.id p)).cell? ⟨Y, 3, none⟩ = some p.v := (cell_of_row _ _ _ _ _ _ hA1).trans rfl
                              have HBc := Lib.hid (hbb.below hbl)
                              have HAc := Lib.hid (HAb.out.below hbl)
                              have HLc := Lib.hid (bl_then HLb.out HLb.out.size hbl)
                              have HYL : Hid (∀ b, (Value.slice A0 acc.length c0).ownBlock = some b → b < Y) := Lib.hid (fun b h => by rw [← hY]; exact (HAb.out.own_blk h).2)
                              clear hbb hbl HAb HTb HLb HBP
                              go_wp2_with (first | (with_reducible refine wpList_stB (row := prow s2.id p) partInfo HO.out rfl (.tmp 11) (.tmp 94) rfl rfl rfl HA0.out rfl ?_) | (at_builtin; refine wpList_appB (base := wm.heap.size) rfl _ _ rfl (.slice A0 acc.length c0) p.v acc p.bs rfl ?_ rfl ?_ ?_ ?_ ?_))
                              · exact HAc.out
                              · exact HBc.out
                              · have := HPL.out; omega
                              · exact HLc.out.size
                              · intro v' w' h1 h2 h3
                                have hYb := h2.block Y (lt_of_heap hA1) (by
                                  intro e
                                  have := HYL.out Y e.symm
                                  omega)
                                have c2 : w'.cell? ⟨Y, 2, none⟩ = some (.bool p.last) := (cell_of_row _ _ _ _ _ _ (hYb.trans hA1)).trans rfl
                                have HL2 := Lib.hid (HLc.out.grown h2 HLc.out.size (fun q hq => (HAc.out.own_blk hq).1))
                                have H1 := Lib.hid h1
                                have HT2 := Lib.hid (HT.out.below HL2.out)
                                have hok2 : okB (acc ++ p.bs) := hok.app HBc.out.ok
                                have hal2 : (acc ++ p.bs).length ≤ 1024 * (k + 1) := by have := HPL.out; rw [List.length_append]; omega
                                obtain ⟨A1, c1, hv1⟩ := h1.slice
                                subst hv1
                                clear hYb c3 hA1 HA0 h1 h2 h3 HLc HAc HBc HPL HO HYL hY hok hal
                                cases hpl : p.last
                                · rw [hpl] at c2
                                  have HW3 : Hid (wholeF s2.L (256 - (k + 1)) (k + 1) (acc ++ p.bs) = r) := Lib.hid (by rw [← HW2.out, hpl, hf2]; rfl)
                                  clear HW2 hpl HT2
                                  go_wp2_with fail
                                  go_roundw
                                  case rel =>
                                    first
                                      | exact ⟨k + 1, by omega, by go_num, _, H1.out, hok2, hal2, HW3, HL2.out⟩
                                      | ((repeat apply Exists.intro); refine ⟨?_, rfl⟩; exact ⟨k + 1, by omega, by go_num, _, H1.out, hok2, hal2, HW3, HL2.out⟩)
                                  case measure => first | (simp [intOf]; done) | (simp [intOf]; omega)
                                · rw [hpl] at c2
                                  have HR : Hid (r = some (acc ++ p.bs)) := Lib.hid (by rw [← HW2.out, hpl]; rfl)
                                  have HE : Hid (endS s2 = { s2 with L := [], ended := true, bytes := 0 }) := Lib.hid (by simp [endS, HW.out, HR.out])
                                  have b0 := HT2.out.cellB (i := 0) HRW.out
                                  have hR9 := HT2.out.r.hR
                                  have hT9 := HT2.out.reset (s' := { s2 with L := [], ended := true, bytes := 0 }) rfl
                                  try dsimp only at hT9
                                  rw [HID.out, HAE.out] at hT9
                                  have HO9 : Hid (OwB (w'.setRow R #[.int .u64 id, .slice none 0 0, .bool true, .bool true]) wm.heap.size (.slice A1 (acc ++ p.bs).length c1) (acc ++ p.bs)) := Lib.hid (H1.out.keep fun b h1 h2 => by
                                    have := (H1.out.own_blk h1).1
                                    have hlB := lt_of_heap HT.out.hB
                                    rw [heap_setRow_if, if_neg (by omega)])
                                  have HT9 := Lib.hid hT9
                                  clear HW2 hpl HT2 hT9 H1
                                  go_wp2_with (with_reducible refine wpList_stB (row := #[.int .u64 id, .slice none 0 0, .bool true, .bool true]) joinInfo (by simp [Value.oneCell']) rfl (.tmp 108) (.tmp 107) rfl rfl rfl hR9 rfl ?_)
                                  refine bodyPost_ret (v := .tuple #[.slice A1 (acc ++ p.bs).length c1, .bool true, .int .i64 0]) (by simp [results, Try.results9, go_sem]) rfl (RTake.intro (.slice A1 (acc ++ p.bs).length c1) vc (.slice none 0 0) ?_ ?_ ?_ HT9.out.fr HT9.out.vo)
                                  · simp [takeR, HM.out, HST.out, errT, HF.out, HAD.out, HW.out, HR.out]
                                  · simp only [takeR, HM.out, HST.out, HF.out, HAD.out, HW.out, HR.out]
                                    exact HO9.out.mono (by omega)
                                  · simp only [takeS, HM.out, HST.out, HF.out, HAD.out]
                                    simp only [if_true, Bool.false_eq_true, if_false, HE.out]
                                    rw [HID.out, HAE.out]
                                    exact HT9.out.r
                          · obtain rfl : k = 256 := by omega
                            have HR : Hid (r = none) := Lib.hid (by rw [← HWK.out]; rfl)
                            have HE : Hid (endS s2 = s2) := Lib.hid (by simp [endS, HW.out, HR.out])
                            have HT1 := Lib.hid (HT.out.below hL)
                            clear HWK hacc hL
                            go_wp2_with fail
                            refine bodyPost_ret (v := .tuple #[.slice none 0 0, .bool false, .int .i64 0]) (by simp [results, Try.results9, go_sem]) rfl (RTake.intro (.slice none 0 0) vc (v2) ?_ ?_ ?_ HT1.out.fr HT1.out.vo)
                            · simp [takeR, HM.out, HST.out, errT, HF.out, HAD.out, HW.out, HR.out]
                            · simp only [takeR, HM.out, HST.out, HF.out, HAD.out, HW.out, HR.out]
                              exact OwB.nil _ _
                            · simp only [takeS, HM.out, HST.out, HF.out, HAD.out]
                              simp only [if_true, Bool.false_eq_true, if_false, HE.out]
                              exact HT1.out.r
                    case hl => rfl
                    case ho => kernel_rfl
              case hl => rfl
              case ho => kernel_rfl
            case hl => rfl
            case ho => kernel_rfl
          · have HST : Hid (staleS ⟨true, id, true, bytes, L⟩ id = true) := Lib.hid (by simp [staleS])
            apply wp_region_eff _ _ (Inv.start0 _ fun _ => False) (hm := by kernel_rfl)
            case h =>
              (apply SeqF.pure; (focus (first | rfl | (go_simp; done) | (simp [Region.wanted, yielded]; done))); (focus (intro w; go_simp; with_reducible rfl)); go_simp)
              (apply SeqF.pure; (focus (first | rfl | (go_simp; done) | (simp [Region.wanted, yielded]; done))); (focus (intro w; go_simp; with_reducible rfl)); go_simp)
              (apply SeqF.pure; (focus (first | rfl | (go_simp; done) | (simp [Region.wanted, yielded]; done))); (focus (intro w; go_simp; with_reducible rfl)); go_simp)
              apply SeqF.read (v := .bool true) []
              · (first | rfl | (go_simp; done) | (simp [Region.wanted, yielded]; done))
              · intro γ' W hg hI
                have x0 := (HT.out.r.below hI.belowOf).cell.2.2.1
                go_simp
              go_simp
              (apply SeqF.pure; (focus (first | rfl | (go_simp; done) | (simp [Region.wanted, yielded]; done))); (focus (intro w; go_simp; with_reducible rfl)); go_simp)
              (apply SeqF.pure; (focus (first | rfl | (go_simp; done) | (simp [Region.wanted, yielded]; done))); (focus (intro w; go_simp; with_reducible rfl)); go_simp)
              apply SeqF.read (v := .int .u64 id) []
              · (first | rfl | (go_simp; done) | (simp [Region.wanted, yielded]; done))
              · intro γ' W hg hI
                have x0 : W.cell? ⟨B, 0, none⟩ = some (.int .u64 id) := (cell_of_row _ _ _ _ _ _ (HT.out.below hI.belowOf).hB).trans rfl
                go_simp
              go_simp
              (apply SeqF.pure; (focus (first | rfl | (go_simp; done) | (simp [Region.wanted, yielded]; done))); (focus (intro w; go_simp; with_reducible rfl)); go_simp)
              (apply SeqF.pure; (focus (first | rfl | (go_simp; done) | (simp [Region.wanted, yielded]; done))); (focus (intro w; go_simp; with_reducible rfl)); go_simp)
              (apply SeqF.pure; (focus (first | rfl | (go_simp; done) | (simp [Region.wanted, yielded]; done))); (focus (intro w; go_simp; with_reducible rfl)); go_simp)
              apply SeqF.read (v := .int .u64 id) []
              · (first | rfl | (go_simp; done) | (simp [Region.wanted, yielded]; done))
              · intro γ' W hg hI
                have x0 := (HT.out.r.below hI.belowOf).cell.1
                go_simp
              go_simp
              (apply SeqF.pure; (focus (first | rfl | (go_simp; done) | (simp [Region.wanted, yielded]; done))); (focus (intro w; go_simp; with_reducible rfl)); go_simp)
              (apply SeqF.pure; (focus (first | rfl | (go_simp; done) | (simp [Region.wanted, yielded]; done))); (focus (intro w; go_simp; with_reducible rfl)); go_simp)
              (apply SeqF.pure; (focus (first | rfl | (go_simp; done) | (simp [Region.wanted, yielded]; done))); (focus (intro w; go_simp; with_reducible rfl)); go_simp)
              apply SeqF.read (v := .int .u64 id) []
              · (first | rfl | (go_simp; done) | (simp [Region.wanted, yielded]; done))
              · intro γ' W hg hI
                have x0 : W.cell? ⟨B, 0, none⟩ = some (.int .u64 id) := (cell_of_row _ _ _ _ _ _ (HT.out.below hI.belowOf).hB).trans rfl
                go_simp
              go_simp
              (apply SeqF.pure; (focus (first | rfl | (go_simp; done) | (simp [Region.wanted, yielded]; done))); (focus (intro w; go_simp; with_reducible rfl)); go_simp)
              (apply SeqF.pure; (focus (first | rfl | (go_simp; done) | (simp [Region.wanted, yielded]; done))); (focus (intro w; go_simp; with_reducible rfl)); go_simp)
              (apply SeqF.pure; (focus (first | rfl | (go_simp; done) | (simp [Region.wanted, yielded]; done))); (focus (intro w; go_simp; with_reducible rfl)); go_simp)
              apply SeqF.read (v := .int .u64 id) []
              · (first | rfl | (go_simp; done) | (simp [Region.wanted, yielded]; done))
              · intro γ' W hg hI
                have x0 := (HT.out.r.below hI.belowOf).cell.1
                go_simp
              go_simp
              (apply SeqF.pure; (focus (first | rfl | (go_simp; done) | (simp [Region.wanted, yielded]; done))); (focus (intro w; go_simp; with_reducible rfl)); go_simp)
              (apply SeqF.pure; (focus (first | rfl | (go_simp; done) | (simp [Region.wanted, yielded]; done))); (focus (intro w; go_simp; with_reducible rfl)); go_simp)
              (apply SeqF.pure; (focus (first | rfl | (go_simp; done) | (simp [Region.wanted, yielded]; done))); (focus (intro w; go_simp; with_reducible rfl)); go_simp)
              (apply SeqF.pure; (focus (first | rfl | (go_simp; done) | (simp [Region.wanted, yielded]; done))); (focus (intro w; go_simp; with_reducible rfl)); go_simp)
              (apply SeqF.pure; (focus (first | rfl | (go_simp; done) | (simp [Region.wanted, yielded]; done))); (focus (intro w; go_simp; with_reducible rfl)); go_simp)
              apply SeqF.read (v := .bool true) []
              · (first | rfl | (go_simp; done) | (simp [Region.wanted, yielded]; done))
              · intro γ' W hg hI
                have x0 := (HT.out.r.below hI.belowOf).cell.2.2.2
                go_simp
              go_simp
              (apply SeqF.pure; (focus (first | rfl | (go_simp; done) | (simp [Region.wanted, yielded]; done))); (focus (intro w; go_simp; with_reducible rfl)); go_simp)
              (apply SeqF.pure; (focus (first | rfl | (go_simp; done) | (simp [Region.wanted, yielded]; done))); (focus (intro w; go_simp; with_reducible rfl)); go_simp)
              (apply SeqF.pure; (focus (first | rfl | (go_simp; done) | (simp [Region.wanted, yielded]; done))); (focus (intro w; go_simp; with_reducible rfl)); go_simp)
              apply SeqF.done
              intro w9 hI9
              have hT9 := HT.out.below hI9.belowOf
              have hV9 := HV.out.below hI9.belowOf
              clear hI9 HT HV
              have HT := Lib.hid hT9
              have HV := Lib.hid hV9
              clear hT9 hV9
              go_simp
              go_wp2_with fail
              refine bodyPost_ret (v := .tuple #[.slice none 0 0, .bool false, .int .i64 0]) (by simp [results, Try.results9, go_sem]) rfl (RTake.intro (.slice none 0 0) u v ?_ ?_ ?_ HT.out.fr HT.out.vo)
              · simp [takeR, HM.out, HST.out, errT]
              · simp only [takeR, HM.out, HST.out]; exact OwB.nil _ _
              · simp only [takeS, HM.out, HST.out]; exact HT.out.r
            case hl => rfl
            case ho => kernel_rfl
        · have hgt : id0 < id := by omega
          have HST : Hid (staleS ⟨true, id0, ended, bytes, L⟩ id = false) := Lib.hid (by simp [staleS, hlt, heq])
          have HF : Hid (freshS ⟨true, id0, ended, bytes, L⟩ id = ⟨true, id, false, 0, []⟩) := Lib.hid (by simp [freshS, hgt])
          apply wp_region_eff _ _ (Inv.start0 _ fun _ => False) (hm := by kernel_rfl)
          case h =>
            (apply SeqF.pure; (focus (first | rfl | (go_simp; done) | (simp [Region.wanted, yielded]; done))); (focus (intro w; go_simp; with_reducible rfl)); go_simp)
            (apply SeqF.pure; (focus (first | rfl | (go_simp; done) | (simp [Region.wanted, yielded]; done))); (focus (intro w; go_simp; with_reducible rfl)); go_simp)
            (apply SeqF.pure; (focus (first | rfl | (go_simp; done) | (simp [Region.wanted, yielded]; done))); (focus (intro w; go_simp; with_reducible rfl)); go_simp)
            apply SeqF.read (v := .bool true) []
            · (first | rfl | (go_simp; done) | (simp [Region.wanted, yielded]; done))
            · intro γ' W hg hI
              have x0 := (HT.out.r.below hI.belowOf).cell.2.2.1
              go_simp
            go_simp
            (apply SeqF.pure; (focus (first | rfl | (go_simp; done) | (simp [Region.wanted, yielded]; done))); (focus (intro w; go_simp; with_reducible rfl)); go_simp)
            (apply SeqF.pure; (focus (first | rfl | (go_simp; done) | (simp [Region.wanted, yielded]; done))); (focus (intro w; go_simp; with_reducible rfl)); go_simp)
            apply SeqF.read (v := .int .u64 id) []
            · (first | rfl | (go_simp; done) | (simp [Region.wanted, yielded]; done))
            · intro γ' W hg hI
              have x0 : W.cell? ⟨B, 0, none⟩ = some (.int .u64 id) := (cell_of_row _ _ _ _ _ _ (HT.out.below hI.belowOf).hB).trans rfl
              go_simp
            go_simp
            (apply SeqF.pure; (focus (first | rfl | (go_simp; done) | (simp [Region.wanted, yielded]; done))); (focus (intro w; go_simp; with_reducible rfl)); go_simp)
            (apply SeqF.pure; (focus (first | rfl | (go_simp; done) | (simp [Region.wanted, yielded]; done))); (focus (intro w; go_simp; with_reducible rfl)); go_simp)
            (apply SeqF.pure; (focus (first | rfl | (go_simp; done) | (simp [Region.wanted, yielded]; done))); (focus (intro w; go_simp; with_reducible rfl)); go_simp)
            apply SeqF.read (v := .int .u64 id0) []
            · (first | rfl | (go_simp; done) | (simp [Region.wanted, yielded]; done))
            · intro γ' W hg hI
              have x0 := (HT.out.r.below hI.belowOf).cell.1
              go_simp
            go_simp
            (apply SeqF.pure; (focus (first | rfl | (go_simp; done) | (simp [Region.wanted, yielded]; done))); (focus (intro w; go_simp; with_reducible rfl)); go_simp)
            (apply SeqF.pure; (focus (first | rfl | (go_simp; done) | (simp [Region.wanted, yielded]; done))); (focus (intro w; go_simp; with_reducible rfl)); go_simp)
            (apply SeqF.pure; (focus (first | rfl | (go_simp; done) | (simp [Region.wanted, yielded]; done))); (focus (intro w; go_simp; with_reducible rfl)); go_simp)
            apply SeqF.read (v := .int .u64 id) []
            · (first | rfl | (go_simp; done) | (simp [Region.wanted, yielded]; done))
            · intro γ' W hg hI
              have x0 : W.cell? ⟨B, 0, none⟩ = some (.int .u64 id) := (cell_of_row _ _ _ _ _ _ (HT.out.below hI.belowOf).hB).trans rfl
              go_simp
            go_simp
            (apply SeqF.pure; (focus (first | rfl | (go_simp; done) | (simp [Region.wanted, yielded]; done))); (focus (intro w; go_simp; with_reducible rfl)); go_simp)
            (apply SeqF.pure; (focus (first | rfl | (go_simp; done) | (simp [Region.wanted, yielded]; done))); (focus (intro w; go_simp; with_reducible rfl)); go_simp)
            (apply SeqF.pure; (focus (first | rfl | (go_simp; done) | (simp [Region.wanted, yielded]; done))); (focus (intro w; go_simp; with_reducible rfl)); go_simp)
            apply SeqF.read (v := .int .u64 id0) []
            · (first | rfl | (go_simp; done) | (simp [Region.wanted, yielded]; done))
            · intro γ' W hg hI
              have x0 := (HT.out.r.below hI.belowOf).cell.1
              go_simp
            go_simp
            (apply SeqF.pure; (focus (first | rfl | (go_simp; done) | (simp [Region.wanted, yielded]; done))); (focus (intro w; go_simp; with_reducible rfl)); go_simp)
            (apply SeqF.pure; (focus (first | rfl | (go_simp; done) | (simp [Region.wanted, yielded]; done))); (focus (intro w; go_simp; with_reducible rfl)); go_simp)
            (apply SeqF.skip; (focus (first | rfl | (go_simp; done) | (simp [Region.wanted, yielded]; done))); go_simp)
            (apply SeqF.skip; (focus (first | rfl | (go_simp; done) | (simp [Region.wanted, yielded]; done))); go_simp)
            (apply SeqF.skip; (focus (first | rfl | (go_simp; done) | (simp [Region.wanted, yielded]; done))); go_simp)
            (apply SeqF.skip; (focus (first | rfl | (go_simp; done) | (simp [Region.wanted, yielded]; done))); go_simp)
            (apply SeqF.pure; (focus (first | rfl | (go_simp; done) | (simp [Region.wanted, yielded]; done))); (focus (intro w; go_simp; with_reducible rfl)); go_simp)
            (apply SeqF.pure; (focus (first | rfl | (go_simp; done) | (simp [Region.wanted, yielded]; done))); (focus (intro w; go_simp; with_reducible rfl)); go_simp)
            (apply SeqF.pure; (focus (first | rfl | (go_simp; done) | (simp [Region.wanted, yielded]; done))); (focus (intro w; go_simp; with_reducible rfl)); go_simp)
            apply SeqF.done
            intro w9 hI9
            have hT9 := HT.out.below hI9.belowOf
            have hV9 := HV.out.below hI9.belowOf
            clear hI9 HT HV
            have HT := Lib.hid hT9
            have HV := Lib.hid hV9
            clear hT9 hV9
            go_simp
            go_wp2_with fail
            apply wp_region_eff _ _ (Inv.start0 _ fun _ => False) (hm := by kernel_rfl)
            case h =>
              (apply SeqF.pure; (focus (first | rfl | (go_simp; done) | (simp [Region.wanted, yielded]; done))); (focus (intro w; go_simp; with_reducible rfl)); go_simp)
              (apply SeqF.pure; (focus (first | rfl | (go_simp; done) | (simp [Region.wanted, yielded]; done))); (focus (intro w; go_simp; with_reducible rfl)); go_simp)
              (apply SeqF.pure; (focus (first | rfl | (go_simp; done) | (simp [Region.wanted, yielded]; done))); (focus (intro w; go_simp; with_reducible rfl)); go_simp)
              apply SeqF.read (v := .bool true) []
              · (first | rfl | (go_simp; done) | (simp [Region.wanted, yielded]; done))
              · intro γ' W hg hI
                have x0 := (HT.out.r.below hI.belowOf).cell.2.2.1
                go_simp
              go_simp
              (apply SeqF.pure; (focus (first | rfl | (go_simp; done) | (simp [Region.wanted, yielded]; done))); (focus (intro w; go_simp; with_reducible rfl)); go_simp)
              (apply SeqF.pure; (focus (first | rfl | (go_simp; done) | (simp [Region.wanted, yielded]; done))); (focus (intro w; go_simp; with_reducible rfl)); go_simp)
              (apply SeqF.pure; (focus (first | rfl | (go_simp; done) | (simp [Region.wanted, yielded]; done))); (focus (intro w; go_simp; with_reducible rfl)); go_simp)
              apply SeqF.read (v := .int .u64 id) []
              · (first | rfl | (go_simp; done) | (simp [Region.wanted, yielded]; done))
              · intro γ' W hg hI
                have x0 : W.cell? ⟨B, 0, none⟩ = some (.int .u64 id) := (cell_of_row _ _ _ _ _ _ (HT.out.below hI.belowOf).hB).trans rfl
                go_simp
              go_simp
              (apply SeqF.pure; (focus (first | rfl | (go_simp; done) | (simp [Region.wanted, yielded]; done))); (focus (intro w; go_simp; with_reducible rfl)); go_simp)
              (apply SeqF.pure; (focus (first | rfl | (go_simp; done) | (simp [Region.wanted, yielded]; done))); (focus (intro w; go_simp; with_reducible rfl)); go_simp)
              (apply SeqF.pure; (focus (first | rfl | (go_simp; done) | (simp [Region.wanted, yielded]; done))); (focus (intro w; go_simp; with_reducible rfl)); go_simp)
              apply SeqF.read (v := .int .u64 id0) []
              · (first | rfl | (go_simp; done) | (simp [Region.wanted, yielded]; done))
              · intro γ' W hg hI
                have x0 := (HT.out.r.below hI.belowOf).cell.1
                go_simp
              go_simp
              (apply SeqF.pure; (focus (first | rfl | (go_simp; done) | (simp [Region.wanted, yielded]; done))); (focus (intro w; go_simp; with_reducible rfl)); go_simp)
              (apply SeqF.pure; (focus (first | rfl | (go_simp; done) | (simp [Region.wanted, yielded]; done))); (focus (intro w; go_simp; with_reducible rfl)); go_simp)
              apply SeqF.done
              intro w9 hI9
              have hT9 := HT.out.below hI9.belowOf
              have hV9 := HV.out.below hI9.belowOf
              clear hI9 HT HV
              have HT := Lib.hid hT9
              have HV := Lib.hid hV9
              clear hT9 hV9
              go_simp
              have b0 := HT.out.cellB (i := 0) rfl
              have hR9 := HT.out.r.hR
              have hT9 := HT.out.reset (s' := ⟨true, id, false, 0, []⟩) rfl
              have hV9 := HV.out.inv ((only_setRow (cs := #[.int .u64 id, .slice none 0 0, .bool true, .bool false]) hR9).inv hR9) (fun b h1 h2 => HVN.out b h1 h2)
              have b1 := hT9.cellB (i := 1) rfl
              go_wp2_with (with_reducible refine wpList_stB (row := #[.int .u64 id, .slice none 0 0, .bool true, .bool false]) joinInfo (by simp [Value.oneCell']) rfl (.tmp 62) (.tmp 61) rfl rfl rfl hR9 rfl ?_)
              try dsimp only at hT9
              generalize World.setRow _ R #[.int .u64 id, .slice none 0 0, .bool true, .bool false] = wz at *
              clear b0 hR9 HT HV b1
              have HT := Lib.hid hT9
              have HV := Lib.hid hV9
              clear hT9 hV9
              obtain ⟨v1, hv1⟩ : ∃ v1, v1 = Value.slice none 0 0 := ⟨_, rfl⟩
              rw [← hv1] at HT
              obtain ⟨s1, hs1⟩ : ∃ s1, s1 = (⟨true, id, false, 0, []⟩ : JS) := ⟨_, rfl⟩
              have HID : Hid (s1.id = id) := Lib.hid (by rw [hs1])
              have HAE : Hid (s1.any = true ∧ s1.ended = false) := Lib.hid (by rw [hs1]; exact ⟨rfl, rfl⟩)
              rw [← hs1] at HT HF
              have HS1 : Hid (JOk s1) := Lib.hid (by rw [← HF.out]; exact HS.out.fresh id)
              clear hs1 hv1
              as_aux_lemma =>
                refine (rhas_any R (R + 1) s1 v1 n wz HT.out.r (by have := HS1.out.len; omega)).mono ?_
                rintro e wa ⟨rfl, hb⟩
                have HTa := Lib.hid (HT.out.below hb)
                have HVa := Lib.hid (HV.out.below hb)
                clear HT HV hb
                cases hfd : findL n s1.L with
                | some q =>
                  have HBQ := HTa.out.r.hP.bytes q (findL_mem hfd).1
                  have HO : Hid ((prow s1.id q).all (·.oneCell') = true) := Lib.hid (prow_one (HBQ.1.rd HBQ.2.1 HBQ.2.2))
                  have HAD0 : Hid (∀ vc, addS s1 ⟨n, last, vc, bs⟩ = s1) := Lib.hid (fun vc => by simp [addS, hfd])
                  try rw [hfd]
                  dsimp only [hasV, Option.isSome]
                  clear hfd HBQ
                  obtain ⟨Y, hY⟩ : ∃ Y, wa.heap.size = Y := ⟨_, rfl⟩
                  have HA0 : Hid ((wa.alloc (.cells #[.int .u64 0, .int .i64 0, .bool false, .slice none 0 0] 33)).heap[Y]? = some (.cells #[.int .u64 0, .int .i64 0, .bool false, .slice none 0 0] 33 (0, 0))) := Lib.hid (by rw [← hY]; exact heap_alloc_last _ _)
                  have hbl : Below wa.heap.size wa ((wa.alloc (.cells #[.int .u64 0, .int .i64 0, .bool false, .slice none 0 0] 33)).setRow Y (prow s1.id q)) := below_setRow (by (repeat' (first | (with_reducible exact Below.refl _ _) | (with_reducible assumption) | (with_reducible refine Below.alloc ?_ ?_ _) | (with_reducible refine below_setRow ?_ ?_ _) | (with_reducible refine bl_drew ?_) | (with_reducible refine bl_drewN ?_ _) | (with_reducible refine Below.setCell ?_ ?_ _) | (with_reducible refine bl_then ?_ ?_ hb) | (with_reducible refine bl_then ?_ ?_ hb1) | (with_reducible refine bl_then ?_ ?_ hb2) | (with_reducible refine bl_then ?_ ?_ hb3) | (with_reducible refine bl_then ?_ ?_ hb4) | (with_reducible refine bl_then ?_ ?_ hb5) | (with_reducible refine bl_then ?_ ?_ hb6) | (with_reducible refine bl_then ?_ ?_ hb7) | (with_reducible refine bl_then ?_ ?_ hb8) | (with_reducible exact Nat.le_refl _) | omega | (simp only [World.size_alloc, World.size_setCell, World.size_drew, size_setRow]; omega) | (simp; omega) | (simp; done)))) (by omega) _
                  have hA1 : ((wa.alloc (.cells #[.int .u64 0, .int .i64 0, .bool false, .slice none 0 0] 33)).setRow Y (prow s1.id q)).heap[Y]? = some (.cells (prow s1.id q) 33 (0, 0)) := setRow_heap _ _ _ _ _ _ HA0.out
                  go_wp2_with (with_reducible refine wpList_stB (row := (prow s1.id q)) partInfo HO.out rfl (.tmp 7) (.tmp 68) rfl rfl rfl HA0.out rfl ?_)
                  try rw [hY]
                  generalize (wa.alloc (.cells #[.int .u64 0, .int .i64 0, .bool false, .slice none 0 0] 33)).setRow Y (prow s1.id q) = wm at *

                  have HT := Lib.hid (HTa.out.below hbl)
                  clear hbl hA1 HA0 HTa HVa HO hY
                  obtain ⟨s2, hs2⟩ : ∃ s2, s1 = s2 := ⟨_, rfl⟩
                  obtain ⟨v2, hv2⟩ : ∃ v2, v1 = v2 := ⟨_, rfl⟩
                  obtain ⟨vc, hvc⟩ : ∃ vc, u = vc := ⟨_, rfl⟩
                  obtain ⟨row, hrow⟩ : ∃ row : Array Value, row = #[.int .u64 id, .int .i64 n, .bool last, u] := ⟨_, rfl⟩
                  have HRW : Hid (row[0]? = some (.int .u64 id)) := Lib.hid (by rw [hrow]; rfl)
                  have HAD : Hid (addS s1 ⟨n, last, vc, bs⟩ = s2) := Lib.hid ((HAD0.out vc).trans hs2)
                  rw [hs2, hv2, ← hrow] at HT
                  have HAE0 := HAE
                  have HAE : Hid (s2.any = true) := Lib.hid (by rw [← hs2]; exact HAE0.out.1)
                  rw [hs2] at HID
                  have HS2 : Hid (JOk s2) := Lib.hid (by rw [← hs2]; exact HS1.out)
                  clear HAD0 hs2 hv2 hvc hrow HAE0
                  obtain ⟨r, hr⟩ : ∃ r, wholeF s2.L 256 0 [] = r := ⟨_, rfl⟩
                  have HW := Lib.hid hr
                  clear hr
                  have hsz : w.heap.size ≤ wm.heap.size := HT.out.fr.size
                  have hRB := HT.out.lt
                  go_loopw [10, 9] (fun i vv wr => ∃ k : Nat, k ≤ 256 ∧ i = .int .i64 k ∧ ∃ acc, OwB wr wm.heap.size vv acc ∧ okB acc ∧ acc.length ≤ 1024 * k ∧ Hid (wholeF s2.L (256 - k) k acc = r) ∧ Below wm.heap.size wm wr) (fun i _ _ => 256 - (intOf i).toNat)
                  case atStart => exact ⟨0, by omega, rfl, [], OwB.nil _ _, okB.nil, by simp, HW, Below.refl _ _⟩
                  case round =>
                    obtain ⟨k, hk, rfl, acc, hacc, hok, hal, HWK, hL⟩ := hrel
                    obtain ⟨A0, c0, hv0⟩ := hacc.slice
                    subst hv0
                    by_cases hk2 : k < 256
                    · have hki : (k : Int) < 256 := by omega
                      have hk0 : (0 : Int) ≤ (k : Int) := by omega
                      obtain ⟨f, hf⟩ : ∃ f, 256 - k = f + 1 := ⟨255 - k, by omega⟩
                      have hf2 : f = 256 - (k + 1) := by omega
                      have HWO := HWK.out
                      rw [hf] at HWO
                      clear HWK hf
                      have HA := Lib.hid hacc
                      have HL := Lib.hid hL
                      have HT1 := Lib.hid (HT.out.below hL)
                      clear hacc hL
                      go_wp2_with fail
                      refine (rhas_any R (R + 1) s2 v2 (k : Int) _ HT1.out.r (by have := HS2.out.len; omega)).mono ?_
                      rintro e wb ⟨rfl, hb⟩
                      have HTb := Lib.hid (HT1.out.below hb)
                      have HAb := Lib.hid (HA.out.below hb)
                      have HLb := Lib.hid (bl_then HL.out HL.out.size hb)
                      clear HT1 HA HL hb
                      cases hfd : findL (k : Int) s2.L with
                      | none =>
                        have HR : Hid (r = none) := Lib.hid (by rw [← HWO]; simp [wholeF, hfd])
                        have HE : Hid (endS s2 = s2) := Lib.hid (by simp [endS, HW.out, HR.out])
                        clear HWO
                        try rw [hfd]
                        dsimp only [hasV, Option.isSome]
                        clear hfd
                        obtain ⟨Y, hY⟩ : ∃ Y, wb.heap.size = Y := ⟨_, rfl⟩
                        have HA0 : Hid ((wb.alloc (.cells #[.int .u64 0, .int .i64 0, .bool false, .slice none 0 0] 33)).heap[Y]? = some (.cells #[.int .u64 0, .int .i64 0, .bool false, .slice none 0 0] 33 (0, 0))) := Lib.hid (by rw [← hY]; exact heap_alloc_last _ _)
                        have hbl : Below wb.heap.size wb ((wb.alloc (.cells #[.int .u64 0, .int .i64 0, .bool false, .slice none 0 0] 33)).setRow Y #[.int .u64 0, .int .i64 0, .bool false, .slice none 0 0]) := below_setRow (by (repeat' (first | (with_reducible exact Below.refl _ _) | (with_reducible assumption) | (with_reducible refine Below.alloc ?_ ?_ _) | (with_reducible refine below_setRow ?_ ?_ _) | (with_reducible refine bl_drew ?_) | (with_reducible refine bl_drewN ?_ _) | (with_reducible refine Below.setCell ?_ ?_ _) | (with_reducible refine bl_then ?_ ?_ hb) | (with_reducible refine bl_then ?_ ?_ hb1) | (with_reducible refine bl_then ?_ ?_ hb2) | (with_reducible refine bl_then ?_ ?_ hb3) | (with_reducible refine bl_then ?_ ?_ hb4) | (with_reducible refine bl_then ?_ ?_ hb5) | (with_reducible refine bl_then ?_ ?_ hb6) | (with_reducible refine bl_then ?_ ?_ hb7) | (with_reducible refine bl_then ?_ ?_ hb8) | (with_reducible exact Nat.le_refl _) | omega | (simp only [World.size_alloc, World.size_setCell, World.size_drew, size_setRow]; omega) | (simp; omega) | (simp; done)))) (by omega) _
                        have hA1 : ((wb.alloc (.cells #[.int .u64 0, .int .i64 0, .bool false, .slice none 0 0] 33)).setRow Y #[.int .u64 0, .int .i64 0, .bool false, .slice none 0 0]).heap[Y]? = some (.cells #[.int .u64 0, .int .i64 0, .bool false, .slice none 0 0] 33 (0, 0)) := setRow_heap _ _ _ _ _ _ HA0.out
                        go_wp2_with (with_reducible refine wpList_stB (row := #[.int .u64 0, .int .i64 0, .bool false, .slice none 0 0]) partInfo (by simp [Value.oneCell']) rfl (.tmp 11) (.tmp 94) rfl rfl rfl HA0.out rfl ?_)
                        try rw [hY]
                        generalize (wb.alloc (.cells #[.int .u64 0, .int .i64 0, .bool false, .slice none 0 0] 33)).setRow Y #[.int .u64 0, .int .i64 0, .bool false, .slice none 0 0] = wc at *

                        have HTc := Lib.hid (HTb.out.below hbl)
                        clear hbl hA1 HA0 HTb HAb
                        refine bodyPost_ret (v := .tuple #[.slice none 0 0, .bool false, .int .i64 0]) (by simp [results, Try.results9, go_sem]) rfl (RTake.intro (.slice none 0 0) vc (v2) ?_ ?_ ?_ HTc.out.fr HTc.out.vo)
                        · simp [takeR, HM.out, HST.out, errT, HF.out, HAD.out, HW.out, HR.out]
                        · simp only [takeR, HM.out, HST.out, HF.out, HAD.out, HW.out, HR.out]
                          exact OwB.nil _ _
                        · simp only [takeS, HM.out, HST.out, HF.out, HAD.out]
                          simp only [if_true, Bool.false_eq_true, if_false, HE.out]
                          exact HTc.out.r
                      | some p =>
                        have hmem := findL_mem hfd
                        have HBP := Lib.hid (HTb.out.r.hP.bytes p hmem.1)
                        have hbb := HBP.out.1.rd HBP.out.2.1 HBP.out.2.2
                        have HPL := Lib.hid (HS2.out.part p hmem.1).1
                        have HO : Hid ((prow s2.id p).all (·.oneCell') = true) := Lib.hid (prow_one hbb)
                        have HW2 : Hid ((if p.last then some (acc ++ p.bs) else wholeF s2.L f (k + 1) (acc ++ p.bs)) = r) := Lib.hid (by rw [← HWO]; simp [wholeF, hfd])
                        clear HWO hmem
                        try rw [hfd]
                        dsimp only [hasV, Option.isSome]
                        clear hfd
                        obtain ⟨Y, hY⟩ : ∃ Y, wb.heap.size = Y := ⟨_, rfl⟩
                        have HA0 : Hid ((wb.alloc (.cells #[.int .u64 0, .int .i64 0, .bool false, .slice none 0 0] 33)).heap[Y]? = some (.cells #[.int .u64 0, .int .i64 0, .bool false, .slice none 0 0] 33 (0, 0))) := Lib.hid (by rw [← hY]; exact heap_alloc_last _ _)
                        have hbl : Below wb.heap.size wb ((wb.alloc (.cells #[.int .u64 0, .int .i64 0, .bool false, .slice none 0 0] 33)).setRow Y (prow s2.id p)) := below_setRow (by (repeat' (first | (with_reducible exact Below.refl _ _) | (with_reducible assumption) | (with_reducible refine Below.alloc ?_ ?_ _) | (with_reducible refine below_setRow ?_ ?_ _) | (with_reducible refine bl_drew ?_) | (with_reducible refine bl_drewN ?_ _) | (with_reducible refine Below.setCell ?_ ?_ _) | (with_reducible refine bl_then ?_ ?_ hb) | (with_reducible refine bl_then ?_ ?_ hb1) | (with_reducible refine bl_then ?_ ?_ hb2) | (with_reducible refine bl_then ?_ ?_ hb3) | (with_reducible refine bl_then ?_ ?_ hb4) | (with_reducible refine bl_then ?_ ?_ hb5) | (with_reducible refine bl_then ?_ ?_ hb6) | (with_reducible refine bl_then ?_ ?_ hb7) | (with_reducible refine bl_then ?_ ?_ hb8) | (with_reducible exact Nat.le_refl _) | omega | (simp only [World.size_alloc, World.size_setCell, World.size_drew, size_setRow]; omega) | (simp; omega) | (simp; done)))) (by omega) _
                        have hA1 : ((wb.alloc (.cells #[.int .u64 0, .int .i64 0, .bool false, .slice none 0 0] 33)).setRow Y (prow s2.id p)).heap[Y]? = some (.cells (prow s2.id p) 33 (0, 0)) := setRow_heap _ _ _ _ _ _ HA0.out
                        have c3 : ((wb.alloc (.cells #[.int .u64 0, .int .i64 0, .bool false, .slice none 0 0] 33)).setRow Y (prow s2.id p)).cell? ⟨Y, 3, none⟩ = some p.v := (cell_of_row _ _ _ _ _ _ hA1).trans rfl
                        have HBc := Lib.hid (hbb.below hbl)
                        have HAc := Lib.hid (HAb.out.below hbl)
                        have HLc := Lib.hid (bl_then HLb.out HLb.out.size hbl)
                        have HYL : Hid (∀ b, (Value.slice A0 acc.length c0).ownBlock = some b → b < Y) := Lib.hid (fun b h => by rw [← hY]; exact (HAb.out.own_blk h).2)
                        clear hbb hbl HAb HTb HLb HBP
                        go_wp2_with (first | (with_reducible refine wpList_stB (row := prow s2.id p) partInfo HO.out rfl (.tmp 11) (.tmp 94) rfl rfl rfl HA0.out rfl ?_) | (at_builtin; refine wpList_appB (base := wm.heap.size) rfl _ _ rfl (.slice A0 acc.length c0) p.v acc p.bs rfl ?_ rfl ?_ ?_ ?_ ?_))
                        · exact HAc.out
                        · exact HBc.out
                        · have := HPL.out; omega
                        · exact HLc.out.size
                        · intro v' w' h1 h2 h3
                          have hYb := h2.block Y (lt_of_heap hA1) (by
                            intro e
                            have := HYL.out Y e.symm
                            omega)
                          have c2 : w'.cell? ⟨Y, 2, none⟩ = some (.bool p.last) := (cell_of_row _ _ _ _ _ _ (hYb.trans hA1)).trans rfl
                          have HL2 := Lib.hid (HLc.out.grown h2 HLc.out.size (fun q hq => (HAc.out.own_blk hq).1))
                          have H1 := Lib.hid h1
                          have HT2 := Lib.hid (HT.out.below HL2.out)
                          have hok2 : okB (acc ++ p.bs) := hok.app HBc.out.ok
                          have hal2 : (acc ++ p.bs).length ≤ 1024 * (k + 1) := by have := HPL.out; rw [List.length_append]; omega
                          obtain ⟨A1, c1, hv1⟩ := h1.slice
                          subst hv1
                          clear hYb c3 hA1 HA0 h1 h2 h3 HLc HAc HBc HPL HO HYL hY hok hal
                          cases hpl : p.last
                          · rw [hpl] at c2
                            have HW3 : Hid (wholeF s2.L (256 - (k + 1)) (k + 1) (acc ++ p.bs) = r) := Lib.hid (by rw [← HW2.out, hpl, hf2]; rfl)
                            clear HW2 hpl HT2
                            go_wp2_with fail
                            go_roundw
                            case rel =>
                              first
                                | exact ⟨k + 1, by omega, by go_num, _, H1.out, hok2, hal2, HW3, HL2.out⟩
                                | ((repeat apply Exists.intro); refine ⟨?_, rfl⟩; exact ⟨k + 1, by omega, by go_num, _, H1.out, hok2, hal2, HW3, HL2.out⟩)
                            case measure => first | (simp [intOf]; done) | (simp [intOf]; omega)
                          · rw [hpl] at c2
                            have HR : Hid (r = some (acc ++ p.bs)) := Lib.hid (by rw [← HW2.out, hpl]; rfl)
                            have HE : Hid (endS s2 = { s2 with L := [], ended := true, bytes := 0 }) := Lib.hid (by simp [endS, HW.out, HR.out])
                            have b0 := HT2.out.cellB (i := 0) HRW.out
                            have hR9 := HT2.out.r.hR
                            have hT9 := HT2.out.reset (s' := { s2 with L := [], ended := true, bytes := 0 }) rfl
                            try dsimp only at hT9
                            rw [HID.out, HAE.out] at hT9
                            have HO9 : Hid (OwB (w'.setRow R #[.int .u64 id, .slice none 0 0, .bool true, .bool true]) wm.heap.size (.slice A1 (acc ++ p.bs).length c1) (acc ++ p.bs)) := Lib.hid (H1.out.keep fun b h1 h2 => by
                              have := (H1.out.own_blk h1).1
                              have hlB := lt_of_heap HT.out.hB
                              rw [heap_setRow_if, if_neg (by omega)])
                            have HT9 := Lib.hid hT9
                            clear HW2 hpl HT2 hT9 H1
                            go_wp2_with (with_reducible refine wpList_stB (row := #[.int .u64 id, .slice none 0 0, .bool true, .bool true]) joinInfo (by simp [Value.oneCell']) rfl (.tmp 108) (.tmp 107) rfl rfl rfl hR9 rfl ?_)
                            refine bodyPost_ret (v := .tuple #[.slice A1 (acc ++ p.bs).length c1, .bool true, .int .i64 0]) (by simp [results, Try.results9, go_sem]) rfl (RTake.intro (.slice A1 (acc ++ p.bs).length c1) vc (.slice none 0 0) ?_ ?_ ?_ HT9.out.fr HT9.out.vo)
                            · simp [takeR, HM.out, HST.out, errT, HF.out, HAD.out, HW.out, HR.out]
                            · simp only [takeR, HM.out, HST.out, HF.out, HAD.out, HW.out, HR.out]
                              exact HO9.out.mono (by omega)
                            · simp only [takeS, HM.out, HST.out, HF.out, HAD.out]
                              simp only [if_true, Bool.false_eq_true, if_false, HE.out]
                              rw [HID.out, HAE.out]
                              exact HT9.out.r
                    · obtain rfl : k = 256 := by omega
                      have HR : Hid (r = none) := Lib.hid (by rw [← HWK.out]; rfl)
                      have HE : Hid (endS s2 = s2) := Lib.hid (by simp [endS, HW.out, HR.out])
                      have HT1 := Lib.hid (HT.out.below hL)
                      clear HWK hacc hL
                      go_wp2_with fail
                      refine bodyPost_ret (v := .tuple #[.slice none 0 0, .bool false, .int .i64 0]) (by simp [results, Try.results9, go_sem]) rfl (RTake.intro (.slice none 0 0) vc (v2) ?_ ?_ ?_ HT1.out.fr HT1.out.vo)
                      · simp [takeR, HM.out, HST.out, errT, HF.out, HAD.out, HW.out, HR.out]
                      · simp only [takeR, HM.out, HST.out, HF.out, HAD.out, HW.out, HR.out]
                        exact OwB.nil _ _
                      · simp only [takeS, HM.out, HST.out, HF.out, HAD.out]
                        simp only [if_true, Bool.false_eq_true, if_false, HE.out]
                        exact HT1.out.r
                | none =>
                  have HFD := Lib.hid hfd
                  try rw [hfd]
                  dsimp only [hasV, Option.isSome]
                  clear hfd
                  obtain ⟨Y, hY⟩ : ∃ Y, wa.heap.size = Y := ⟨_, rfl⟩
                  have HA0 : Hid ((wa.alloc (.cells #[.int .u64 0, .int .i64 0, .bool false, .slice none 0 0] 33)).heap[Y]? = some (.cells #[.int .u64 0, .int .i64 0, .bool false, .slice none 0 0] 33 (0, 0))) := Lib.hid (by rw [← hY]; exact heap_alloc_last _ _)
                  have hbl : Below wa.heap.size wa ((wa.alloc (.cells #[.int .u64 0, .int .i64 0, .bool false, .slice none 0 0] 33)).setRow Y #[.int .u64 0, .int .i64 0, .bool false, .slice none 0 0]) := below_setRow (by (repeat' (first | (with_reducible exact Below.refl _ _) | (with_reducible assumption) | (with_reducible refine Below.alloc ?_ ?_ _) | (with_reducible refine below_setRow ?_ ?_ _) | (with_reducible refine bl_drew ?_) | (with_reducible refine bl_drewN ?_ _) | (with_reducible refine Below.setCell ?_ ?_ _) | (with_reducible refine bl_then ?_ ?_ hb) | (with_reducible refine bl_then ?_ ?_ hb1) | (with_reducible refine bl_then ?_ ?_ hb2) | (with_reducible refine bl_then ?_ ?_ hb3) | (with_reducible refine bl_then ?_ ?_ hb4) | (with_reducible refine bl_then ?_ ?_ hb5) | (with_reducible refine bl_then ?_ ?_ hb6) | (with_reducible refine bl_then ?_ ?_ hb7) | (with_reducible refine bl_then ?_ ?_ hb8) | (with_reducible exact Nat.le_refl _) | omega | (simp only [World.size_alloc, World.size_setCell, World.size_drew, size_setRow]; omega) | (simp; omega) | (simp; done)))) (by omega) _
                  have hTy := HTa.out.below hbl
                  have HVy := Lib.hid (HVa.out.below hbl)
                  have b3 := hTy.cellB (i := 3) rfl
                  have HTy := Lib.hid hTy
                  clear hTy hbl HTa HVa
                  go_wp2_with (with_reducible refine wpList_stB (row := #[.int .u64 0, .int .i64 0, .bool false, .slice none 0 0]) partInfo (by simp [Value.oneCell']) rfl (.tmp 7) (.tmp 68) rfl rfl rfl HA0.out rfl ?_)
                  generalize (wa.alloc (.cells #[.int .u64 0, .int .i64 0, .bool false, .slice none 0 0] 33)).setRow Y #[.int .u64 0, .int .i64 0, .bool false, .slice none 0 0] = wy at *
                  refine (copy_bytes u bs wy HVy.out).mono ?_
                  rintro e wc ⟨⟨vc, rfl, ho⟩, hb⟩
                  have hTc := HTy.out.below hb
                  have HBC : Hid (BB wc vc bs) := Lib.hid (ho.rd HVy.out.ok HVy.out.len)
                  have HOwn : Hid (OwB wc wy.heap.size vc bs) := Lib.hid ho
                  have hsz9 : B < wy.heap.size := lt_of_heap HTy.out.hB
                  have hlt := hTc.lt
                  have HVB : Hid (∀ b, v1.ownBlock = some b → b < wy.heap.size) := Lib.hid (fun b h => (rows_blk HTy.out.r.hP.row h).2)
                  obtain ⟨A3, c3, hv3⟩ := ho.slice
                  clear hb b3 HTy HA0 hY ho
                  have b3 := hTc.cellB (i := 3) rfl
                  have g3 := frozen_of_row wc B 3 _ _ hTc.hB
                  have HTd := Lib.hid (hTc.setB (i := 3) (u := vc) (row' := #[.int .u64 id, .int .i64 n, .bool last, vc]) rfl)
                  have HOd : Hid (OwB (wc.setCell ⟨B, 3, none⟩ vc) wy.heap.size vc bs) := Lib.hid (HOwn.out.keep fun b h1 h2 => heap_setCell_other _ ⟨_, _, _⟩ _ _ (by have := (HOwn.out.own_blk h1).1; show b ≠ B; omega))
                  have HKB := Lib.hid (And.intro HVy.out.ok HVy.out.len)
                  subst hv3
                  clear hTc HBC HOwn HVy
                  go_wp2_with fail
                  generalize wc.setCell ⟨B, 3, none⟩ (.slice A3 bs.length c3) = W2 at *
                  have HT := HTd
                  clear HTd g3 b3
                  obtain ⟨x, hx, hx2⟩ := OwX.of HT.out.r.hP.row
                  have hbk : v1.ownBlock = x.map (·.1) := hx.block
                  have hbm : ∀ g o, x = some (g, o) → v1.ownBlock = some g := fun g o e => by rw [hbk, e]; rfl
                  have HV1 : Hid (v1 = rowVal 4 s1.L.length x) := Lib.hid (hx.val (by decide))
                  have hsl : ∃ A c, v1 = .slice A s1.L.length c := by have h := hx; rw [HV1.out] at h ⊢; exact h.form
                  obtain ⟨it, hit, hzr, hs1z, hs8⟩ : ∃ i, Try.prog.info? 33 = some i ∧ i.zero = some (partV 0 0 false (.slice none 0 0)) ∧ i.size = 4 ∧ i.bytes = 48 := by
                    obtain ⟨i, h, h2⟩ := Option.map_eq_some_iff.1 (show (Try.prog.info? 33).map (fun i => (i.zero, i.size, i.bytes)) = some (some (partV 0 0 false (.slice none 0 0)), 4, 48) by kernel_rfl)
                    simp only [Prod.mk.injEq] at h2
                    exact ⟨i, h, h2.1, h2.2.1, h2.2.2⟩
                  have hR1 := HT.out.r.hR
                  rw [HID.out, HAE.out.1, HAE.out.2] at hR1
                  clear hbk
                  have hl256 := HS1.out.len
                  apply wp_region_eff _ _ (Inv.start2 hR1 (.inl rfl) (fun g o e => ⟨(hx2 g o e).2.1, by have := (hx2 g o e).1; omega, .inr (hbm g o e)⟩) : Inv W2 (fun g => g = R ∨ v1.ownBlock = some g) (gh2 (some (R, .cells #[.int .u64 id, v1, .bool true, .bool false] 27 (0, 0))) x) W2.drew) (hm := by kernel_rfl)
                  case h =>
                    (apply SeqF.pure; (focus (first | rfl | (go_simp; done) | (simp [Region.wanted, yielded]; done))); (focus (intro w; go_simp; with_reducible rfl)); go_simp)
                    (apply SeqF.pure; (focus (first | rfl | (go_simp; done) | (simp [Region.wanted, yielded]; done))); (focus (intro w; go_simp; with_reducible rfl)); go_simp)
                    (apply SeqF.pure; (focus (first | rfl | (go_simp; done) | (simp [Region.wanted, yielded]; done))); (focus (intro w; go_simp; with_reducible rfl)); go_simp)
                    (apply SeqF.pure; (focus (first | rfl | (go_simp; done) | (simp [Region.wanted, yielded]; done))); (focus (intro w; go_simp; with_reducible rfl)); go_simp)
                    apply SeqF.read (v := v1) [0]
                    · (first | rfl | (go_simp; done) | (simp [Region.wanted, yielded]; done))
                    · intro γ' W hg hI
                      have x0 : W.cell? ⟨R, 1, none⟩ = some v1 := (cell_of_row _ _ _ _ _ _ (hI.here 0 R _ ((hg 0 (by simp)).trans rfl)).1).trans rfl
                      obtain ⟨A9, c9, e9⟩ := hsl
                      subst e9
                      go_simp
                    go_simp
                    apply SeqF.read (v := .agg #[.int .u64 id, .int .i64 n, .bool last, .slice A3 bs.length c3]) []
                    · (first | rfl | (go_simp; done) | (simp [Region.wanted, yielded]; done))
                    · exact fun γ' W hg hI => exec_load rfl rfl (run_load_blk partInfo partRow ((hI.far B (lt_of_heap HT.out.hB) (fun e => e.elim (fun e => by omega) HT.out.ap.1)).trans HT.out.hB))
                    go_simp
                    apply SeqF.new [] 2 (fun g => .slice (some ⟨g, 0, none⟩) 1 1) (fun _ => .cells #[.int .u64 id, .int .i64 n, .bool last, .slice A3 bs.length c3] 33 (0, 0))
                    · intro γ' _; rfl
                    · (first | rfl | (go_simp; done) | (simp [Region.wanted, yielded]; done))
                    · intro γ' V hg hI; kernel_rfl
                    intro X hX
                    go_simp
                    apply SeqF.append [1, 2] 1 (by simp) (.tmp 80) (.tmp 82) 22 33 it _ 4 48 rfl rfl Try.underlying22 hit hzr hs1z hs8 rfl (by decide) v1 s1.L.length (flatP s1.id s1.L) rfl hx ⟨X, 0, none⟩ 1 1 (prow id ⟨n, last, .slice A3 bs.length c3, bs⟩).toList rfl rfl ?n1 ?n2 ?n3 ?n4 (fun _ => flatP s1.id s1.L ++ (prow id ⟨n, last, .slice A3 bs.length c3, bs⟩).toList) ?n5 ?n6 ?n7
                    case n1 =>
                      intro γ' V hg hI j u hj
                      have hh := (hI.here 2 X _ ((hg 2 (by simp)).trans (Gh.set_here _ _ _))).1
                      rw [addr_add', cell_of_row _ _ _ _ _ _ hh, Nat.zero_add, ← Array.getElem?_toList]
                      exact hj
                    case n2 =>
                      intro y hy
                      simp only [prow, List.mem_cons, List.not_mem_nil, or_false] at hy
                      rcases hy with rfl | rfl | rfl | rfl <;> rfl
                    case n3 => unfold maxLen; omega
                    case n4 => omega
                    case n5 => intro γ' hg; rfl
                    case n6 => rfl
                    case n7 =>
                      intro v' x' hu hx'
                      obtain rfl := hu.val (by decide)
                      go_simp
                      (apply SeqF.pure; (focus (first | rfl | (go_simp; done) | (simp [Region.wanted, yielded]; done))); (focus (intro w; go_simp; with_reducible rfl)); go_simp)
                      (apply SeqF.pure; (focus (first | rfl | (go_simp; done) | (simp [Region.wanted, yielded]; done))); (focus (intro w; go_simp; with_reducible rfl)); go_simp)
                      apply SeqF.store [0, 1] 0 R (.cells #[.int .u64 id, v1, .bool true, .bool false] 27 (0, 0)) rfl (by simp) (fun γ => .cells #[.int .u64 id, rowVal 4 (s1.L.length + 1) (γ 1), .bool true, .bool false] 27 (0, 0))
                      · intro γ' hg; simp only [hg 1 (by simp)]
                      · (first | rfl | (go_simp; done) | (simp [Region.wanted, yielded]; done))
                      · intro γ' W hg hI hW
                        simp only [Gh.set_here]
                        exact exec_st1 (i := 1) (st_sl _ (by obtain ⟨A9, c9, e9⟩ := hu.form; exact ⟨_, _, _, e9⟩)) rfl rfl rfl (by simp) rfl hW
                      go_simp
                      apply SeqF.done
                      intro wm hI9
                      have hR9 := (hI9.here 0 R _ (Gh.set_here _ _ _)).1
                      simp only [Gh.set_here] at hR9
                      have hX1 : ∀ g o, x' = some (g, o) → wm.heap[g]? = some o := fun g o e => (hI9.here 1 g o (by rw [Gh.set_far _ _ (by decide), Gh.set_here]; exact e)).1
                      have hxo : ∀ g o, x' = some (g, o) → v1.ownBlock = some g ∨ W2.heap.size ≤ g := fun g o e => by
                        rcases hx' g o e with ⟨o', h⟩ | h
                        · exact .inl (hbm g o' (by simpa [Gh.set, gh2] using h))
                        · exact .inr h
                      have hbl2 : (rowVal 4 (s1.L.length + 1) x').ownBlock = x'.map (·.1) := hu.block
                      have hxo2 : ∀ b, (rowVal 4 (s1.L.length + 1) x').ownBlock = some b → v1.ownBlock = some b ∨ W2.heap.size ≤ b := fun b h => by
                        rw [hbl2] at h
                        obtain ⟨⟨g, o⟩, e, rfl⟩ := Option.map_eq_some_iff.1 h
                        exact hxo g o e
                      have hlR := lt_of_heap hR1
                      have hlB := lt_of_heap HT.out.hB
                      have hrow9 : wm.ownsRow (R + 1) 33 4 (rowVal 4 (s1.L.length + 1) x') (s1.L.length + 1) (flatP s1.id s1.L ++ (prow id ⟨n, last, .slice A3 bs.length c3, bs⟩).toList) := hu.owns fun g o e => ⟨by
                        rcases hxo g o e with h | h
                        · exact (rows_blk HT.out.r.hP.row h).1
                        · omega, hX1 g o e⟩
                      have hOm : OwB wm (R + 1) (.slice A3 bs.length c3) bs := (HOd.out.keep (fun b h1 h2 => hI9.far b h2 (fun e => by
                        have h3 := (HOd.out.own_blk h1).1
                        rcases e with e | e
                        · omega
                        · have := HVB.out b e
                          omega))).mono (by omega)
                      have hNB : ∀ b, (Value.slice A3 bs.length c3).ownBlock = some b → wy.heap.size ≤ b ∧ b < W2.heap.size := fun b h => HOd.out.own_blk h
                      have hP9 : OwP wm (R + 1) (rowVal 4 (s1.L.length + 1) x') s1.id (s1.L ++ [⟨n, last, .slice A3 bs.length c3, bs⟩]) := by
                        refine ⟨?_, ?_, ?_⟩
                        · rw [flatP_app, List.length_append]
                          have e : flatP s1.id [⟨n, last, .slice A3 bs.length c3, bs⟩] = (prow id ⟨n, last, .slice A3 bs.length c3, bs⟩).toList := by rw [HID.out]; simp [flatP]
                          rw [e]
                          exact hrow9
                        · intro q hq
                          rcases List.mem_append.1 hq with hq | hq
                          · exact ⟨(HT.out.r.hP.bytes q hq).1.keep (fun b h1 h2 => hI9.far b h2 (fun e => by
                              have h3 := ((HT.out.r.hP.bytes q hq).1.own_blk h1).1
                              rcases e with e | e
                              · omega
                              · exact HT.out.r.hP.ap q hq b h1 e)), (HT.out.r.hP.bytes q hq).2⟩
                          · obtain rfl := List.mem_singleton.1 hq
                            exact ⟨hOm, HKB.out⟩
                        · intro q hq b h1 h2
                          rcases List.mem_append.1 hq with hq | hq
                          · rcases hxo2 b h2 with h3 | h3
                            · exact HT.out.r.hP.ap q hq b h1 h3
                            · have := ((HT.out.r.hP.bytes q hq).1.own_blk h1).2
                              omega
                          · obtain rfl := List.mem_singleton.1 hq
                            have h4 := hNB b h1
                            rcases hxo2 b h2 with h3 | h3
                            · have := HVB.out b h3
                              omega
                            · omega
                      have hTm : TR w wm R B v { s1 with L := s1.L ++ [⟨n, last, .slice A3 bs.length c3, bs⟩], bytes := s1.bytes + (bs.length : Int) } (rowVal 4 (s1.L.length + 1) x') #[.int .u64 id, .int .i64 n, .bool last, .slice A3 bs.length c3] := by
                        refine ⟨⟨?_, hP9, by omega⟩, (hI9.far B hlB (fun e => e.elim (fun e => by omega) HT.out.ap.1)).trans HT.out.hB, HT.out.fr.then hI9 (fun g hg hl => hg.elim .inl (fun h => (HT.out.vo g h).elim .inr (fun h => by omega))), HT.out.lt, ⟨fun h => ?_, ?_⟩, ?_⟩
                        · dsimp only
                          rw [HID.out, HAE.out.1, HAE.out.2]
                          exact hR9
                        · rcases hxo2 B h with h3 | h3
                          · exact HT.out.ap.1 h3
                          · omega
                        · intro q hq b h1
                          rcases List.mem_append.1 hq with hq | hq
                          · exact HT.out.ap.2 q hq b h1
                          · obtain rfl := List.mem_singleton.1 hq
                            have h4 := hNB b h1
                            omega
                        · intro b h
                          rcases hxo2 b h with h3 | h3
                          · exact HT.out.vo b h3
                          · have := HT.out.fr.size
                            exact .inr (by omega)
                      have hbl3 : bs.length ≤ 1024 ∧ 0 ≤ n ∧ n < 256 := by
                        have h := HM.out
                        simp only [mayB, Bool.and_eq_true, decide_eq_true_eq] at h
                        exact ⟨h.2.2.1, h.1, h.2.1⟩
                      have HAD0 : Hid (addS s1 ⟨n, last, .slice A3 bs.length c3, bs⟩ = { s1 with L := s1.L ++ [⟨n, last, .slice A3 bs.length c3, bs⟩], bytes := s1.bytes + (bs.length : Int) }) := Lib.hid (by simp [addS, HFD.out])
                      have HS2 : Hid (JOk { s1 with L := s1.L ++ [⟨n, last, .slice A3 bs.length c3, bs⟩], bytes := s1.bytes + (bs.length : Int) }) := Lib.hid (by rw [← HAD0.out]; exact HS1.out.add hbl3.1 hbl3.2.1 hbl3.2.2)
                      clear hI9 HT hR9 hX1 hxo hbl2 hxo2 hrow9 hOm hNB hP9 hbl3 hx' hu hlR hlB hR1 hbm hx hx2 HOd
                      have HT := Lib.hid hTm
                      clear hTm
                      obtain ⟨v2, hv2⟩ : ∃ v2, rowVal 4 (s1.L.length + 1) x' = v2 := ⟨_, rfl⟩
                      obtain ⟨s2, hs2⟩ : ∃ s2, ({ s1 with L := s1.L ++ [⟨n, last, .slice A3 bs.length c3, bs⟩], bytes := s1.bytes + (bs.length : Int) } : JS) = s2 := ⟨_, rfl⟩
                      obtain ⟨vc, hvc⟩ : ∃ vc, Value.slice A3 bs.length c3 = vc := ⟨_, rfl⟩
                      obtain ⟨row, hrow⟩ : ∃ row : Array Value, row = #[.int .u64 id, .int .i64 n, .bool last, .slice A3 bs.length c3] := ⟨_, rfl⟩
                      have HRW : Hid (row[0]? = some (.int .u64 id)) := Lib.hid (by rw [hrow]; rfl)
                      have HAE0 := HAE
                      have HAE : Hid (s2.any = true) := Lib.hid (by rw [← hs2]; exact HAE0.out.1)
                      have HID0 := HID
                      have HID : Hid (s2.id = id) := Lib.hid (by rw [← hs2]; exact HID0.out)
                      rw [hs2] at HS2 HAD0 HT
                      rw [← hrow, hv2] at HT
                      have HAD : Hid (addS s1 ⟨n, last, vc, bs⟩ = s2) := Lib.hid (by rw [← hvc]; exact HAD0.out)
                      go_simp
                      clear HAD0 hs2 hvc hrow HAE0 HID0 hv2 HFD HKB HVB
                      go_wp2_with fail
                      obtain ⟨r, hr⟩ : ∃ r, wholeF s2.L 256 0 [] = r := ⟨_, rfl⟩
                      have HW := Lib.hid hr
                      clear hr
                      have hsz : w.heap.size ≤ wm.heap.size := HT.out.fr.size
                      have hRB := HT.out.lt
                      go_loopw [10, 9] (fun i vv wr => ∃ k : Nat, k ≤ 256 ∧ i = .int .i64 k ∧ ∃ acc, OwB wr wm.heap.size vv acc ∧ okB acc ∧ acc.length ≤ 1024 * k ∧ Hid (wholeF s2.L (256 - k) k acc = r) ∧ Below wm.heap.size wm wr) (fun i _ _ => 256 - (intOf i).toNat)
                      case atStart => exact ⟨0, by omega, rfl, [], OwB.nil _ _, okB.nil, by simp, HW, Below.refl _ _⟩
                      case round =>
                        obtain ⟨k, hk, rfl, acc, hacc, hok, hal, HWK, hL⟩ := hrel
                        obtain ⟨A0, c0, hv0⟩ := hacc.slice
                        subst hv0
                        by_cases hk2 : k < 256
                        · have hki : (k : Int) < 256 := by omega
                          have hk0 : (0 : Int) ≤ (k : Int) := by omega
                          obtain ⟨f, hf⟩ : ∃ f, 256 - k = f + 1 := ⟨255 - k, by omega⟩
                          have hf2 : f = 256 - (k + 1) := by omega
                          have HWO := HWK.out
                          rw [hf] at HWO
                          clear HWK hf
                          have HA := Lib.hid hacc
                          have HL := Lib.hid hL
                          have HT1 := Lib.hid (HT.out.below hL)
                          clear hacc hL
                          go_wp2_with fail
                          refine (rhas_any R (R + 1) s2 v2 (k : Int) _ HT1.out.r (by have := HS2.out.len; omega)).mono ?_
                          rintro e wb ⟨rfl, hb⟩
                          have HTb := Lib.hid (HT1.out.below hb)
                          have HAb := Lib.hid (HA.out.below hb)
                          have HLb := Lib.hid (bl_then HL.out HL.out.size hb)
                          clear HT1 HA HL hb
                          cases hfd : findL (k : Int) s2.L with
                          | none =>
                            have HR : Hid (r = none) := Lib.hid (by rw [← HWO]; simp [wholeF, hfd])
                            have HE : Hid (endS s2 = s2) := Lib.hid (by simp [endS, HW.out, HR.out])
                            clear HWO
                            try rw [hfd]
                            dsimp only [hasV, Option.isSome]
                            clear hfd
                            obtain ⟨Y, hY⟩ : ∃ Y, wb.heap.size = Y := ⟨_, rfl⟩
                            have HA0 : Hid ((wb.alloc (.cells #[.int .u64 0, .int .i64 0, .bool false, .slice none 0 0] 33)).heap[Y]? = some (.cells #[.int .u64 0, .int .i64 0, .bool false, .slice none 0 0] 33 (0, 0))) := Lib.hid (by rw [← hY]; exact heap_alloc_last _ _)
                            have hbl : Below wb.heap.size wb ((wb.alloc (.cells #[.int .u64 0, .int .i64 0, .bool false, .slice none 0 0] 33)).setRow Y #[.int .u64 0, .int .i64 0, .bool false, .slice none 0 0]) := below_setRow (by (repeat' (first | (with_reducible exact Below.refl _ _) | (with_reducible assumption) | (with_reducible refine Below.alloc ?_ ?_ _) | (with_reducible refine below_setRow ?_ ?_ _) | (with_reducible refine bl_drew ?_) | (with_reducible refine bl_drewN ?_ _) | (with_reducible refine Below.setCell ?_ ?_ _) | (with_reducible refine bl_then ?_ ?_ hb) | (with_reducible refine bl_then ?_ ?_ hb1) | (with_reducible refine bl_then ?_ ?_ hb2) | (with_reducible refine bl_then ?_ ?_ hb3) | (with_reducible refine bl_then ?_ ?_ hb4) | (with_reducible refine bl_then ?_ ?_ hb5) | (with_reducible refine bl_then ?_ ?_ hb6) | (with_reducible refine bl_then ?_ ?_ hb7) | (with_reducible refine bl_then ?_ ?_ hb8) | (with_reducible exact Nat.le_refl _) | omega | (simp only [World.size_alloc, World.size_setCell, World.size_drew, size_setRow]; omega) | (simp; omega) | (simp; done)))) (by omega) _
                            have hA1 : ((wb.alloc (.cells #[.int .u64 0, .int .i64 0, .bool false, .slice none 0 0] 33)).setRow Y #[.int .u64 0, .int .i64 0, .bool false, .slice none 0 0]).heap[Y]? = some (.cells #[.int .u64 0, .int .i64 0, .bool false, .slice none 0 0] 33 (0, 0)) := setRow_heap _ _ _ _ _ _ HA0.out
                            go_wp2_with (with_reducible refine wpList_stB (row := #[.int .u64 0, .int .i64 0, .bool false, .slice none 0 0]) partInfo (by simp [Value.oneCell']) rfl (.tmp 11) (.tmp 94) rfl rfl rfl HA0.out rfl ?_)
                            try rw [hY]
                            generalize (wb.alloc (.cells #[.int .u64 0, .int .i64 0, .bool false, .slice none 0 0] 33)).setRow Y #[.int .u64 0, .int .i64 0, .bool false, .slice none 0 0] = wc at *

                            have HTc := Lib.hid (HTb.out.below hbl)
                            clear hbl hA1 HA0 HTb HAb
                            refine bodyPost_ret (v := .tuple #[.slice none 0 0, .bool false, .int .i64 0]) (by simp [results, Try.results9, go_sem]) rfl (RTake.intro (.slice none 0 0) vc (v2) ?_ ?_ ?_ HTc.out.fr HTc.out.vo)
                            · simp [takeR, HM.out, HST.out, errT, HF.out, HAD.out, HW.out, HR.out]
                            · simp only [takeR, HM.out, HST.out, HF.out, HAD.out, HW.out, HR.out]
                              exact OwB.nil _ _
                            · simp only [takeS, HM.out, HST.out, HF.out, HAD.out]
                              simp only [if_true, Bool.false_eq_true, if_false, HE.out]
                              exact HTc.out.r
                          | some p =>
                            have hmem := findL_mem hfd
                            have HBP := Lib.hid (HTb.out.r.hP.bytes p hmem.1)
                            have hbb := HBP.out.1.rd HBP.out.2.1 HBP.out.2.2
                            have HPL := Lib.hid (HS2.out.part p hmem.1).1
                            have HO : Hid ((prow s2.id p).all (·.oneCell') = true) := Lib.hid (prow_one hbb)
                            have HW2 : Hid ((if p.last then some (acc ++ p.bs) else wholeF s2.L f (k + 1) (acc ++ p.bs)) = r) := Lib.hid (by rw [← HWO]; simp [wholeF, hfd])
                            clear HWO hmem
                            try rw [hfd]
                            dsimp only [hasV, Option.isSome]
                            clear hfd
                            obtain ⟨Y, hY⟩ : ∃ Y, wb.heap.size = Y := ⟨_, rfl⟩
                            have HA0 : Hid ((wb.alloc (.cells #[.int .u64 0, .int .i64 0, .bool false, .slice none 0 0] 33)).heap[Y]? = some (.cells #[.int .u64 0, .int .i64 0, .bool false, .slice none 0 0] 33 (0, 0))) := Lib.hid (by rw [← hY]; exact heap_alloc_last _ _)
                            have hbl : Below wb.heap.size wb ((wb.alloc (.cells #[.int .u64 0, .int .i64 0, .bool false, .slice none 0 0] 33)).setRow Y (prow s2.id p)) := below_setRow (by (repeat' (first | (with_reducible exact Below.refl _ _) | (with_reducible assumption) | (with_reducible refine Below.alloc ?_ ?_ _) | (with_reducible refine below_setRow ?_ ?_ _) | (with_reducible refine bl_drew ?_) | (with_reducible refine bl_drewN ?_ _) | (with_reducible refine Below.setCell ?_ ?_ _) | (with_reducible refine bl_then ?_ ?_ hb) | (with_reducible refine bl_then ?_ ?_ hb1) | (with_reducible refine bl_then ?_ ?_ hb2) | (with_reducible refine bl_then ?_ ?_ hb3) | (with_reducible refine bl_then ?_ ?_ hb4) | (with_reducible refine bl_then ?_ ?_ hb5) | (with_reducible refine bl_then ?_ ?_ hb6) | (with_reducible refine bl_then ?_ ?_ hb7) | (with_reducible refine bl_then ?_ ?_ hb8) | (with_reducible exact Nat.le_refl _) | omega | (simp only [World.size_alloc, World.size_setCell, World.size_drew, size_setRow]; omega) | (simp; omega) | (simp; done)))) (by omega) _
                            have hA1 : ((wb.alloc (.cells #[.int .u64 0, .int .i64 0, .bool false, .slice none 0 0] 33)).setRow Y (prow s2.id p)).heap[Y]? = some (.cells (prow s2.id p) 33 (0, 0)) := setRow_heap _ _ _ _ _ _ HA0.out
                            have c3 : ((wb.alloc (.cells #[.int .u64 0, .int .i64 0, .bool false, .slice none 0 0] 33)).setRow Y (prow s2.id p)).cell? ⟨Y, 3, none⟩ = some p.v := (cell_of_row _ _ _ _ _ _ hA1).trans rfl
                            have HBc := Lib.hid (hbb.below hbl)
                            have HAc := Lib.hid (HAb.out.below hbl)
                            have HLc := Lib.hid (bl_then HLb.out HLb.out.size hbl)
                            have HYL : Hid (∀ b, (Value.slice A0 acc.length c0).ownBlock = some b → b < Y) := Lib.hid (fun b h => by rw [← hY]; exact (HAb.out.own_blk h).2)
                            clear hbb hbl HAb HTb HLb HBP
                            go_wp2_with (first | (with_reducible refine wpList_stB (row := prow s2.id p) partInfo HO.out rfl (.tmp 11) (.tmp 94) rfl rfl rfl HA0.out rfl ?_) | (at_builtin; refine wpList_appB (base := wm.heap.size) rfl _ _ rfl (.slice A0 acc.length c0) p.v acc p.bs rfl ?_ rfl ?_ ?_ ?_ ?_))
                            · exact HAc.out
                            · exact HBc.out
                            · have := HPL.out; omega
                            · exact HLc.out.size
                            · intro v' w' h1 h2 h3
                              have hYb := h2.block Y (lt_of_heap hA1) (by
                                intro e
                                have := HYL.out Y e.symm
                                omega)
                              have c2 : w'.cell? ⟨Y, 2, none⟩ = some (.bool p.last) := (cell_of_row _ _ _ _ _ _ (hYb.trans hA1)).trans rfl
                              have HL2 := Lib.hid (HLc.out.grown h2 HLc.out.size (fun q hq => (HAc.out.own_blk hq).1))
                              have H1 := Lib.hid h1
                              have HT2 := Lib.hid (HT.out.below HL2.out)
                              have hok2 : okB (acc ++ p.bs) := hok.app HBc.out.ok
                              have hal2 : (acc ++ p.bs).length ≤ 1024 * (k + 1) := by have := HPL.out; rw [List.length_append]; omega
                              obtain ⟨A1, c1, hv1⟩ := h1.slice
                              subst hv1
                              clear hYb c3 hA1 HA0 h1 h2 h3 HLc HAc HBc HPL HO HYL hY hok hal
                              cases hpl : p.last
                              · rw [hpl] at c2
                                have HW3 : Hid (wholeF s2.L (256 - (k + 1)) (k + 1) (acc ++ p.bs) = r) := Lib.hid (by rw [← HW2.out, hpl, hf2]; rfl)
                                clear HW2 hpl HT2
                                go_wp2_with fail
                                go_roundw
                                case rel =>
                                  first
                                    | exact ⟨k + 1, by omega, by go_num, _, H1.out, hok2, hal2, HW3, HL2.out⟩
                                    | ((repeat apply Exists.intro); refine ⟨?_, rfl⟩; exact ⟨k + 1, by omega, by go_num, _, H1.out, hok2, hal2, HW3, HL2.out⟩)
                                case measure => first | (simp [intOf]; done) | (simp [intOf]; omega)
                              · rw [hpl] at c2
                                have HR : Hid (r = some (acc ++ p.bs)) := Lib.hid (by rw [← HW2.out, hpl]; rfl)
                                have HE : Hid (endS s2 = { s2 with L := [], ended := true, bytes := 0 }) := Lib.hid (by simp [endS, HW.out, HR.out])
                                have b0 := HT2.out.cellB (i := 0) HRW.out
                                have hR9 := HT2.out.r.hR
                                have hT9 := HT2.out.reset (s' := { s2 with L := [], ended := true, bytes := 0 }) rfl
                                try dsimp only at hT9
                                rw [HID.out, HAE.out] at hT9
                                have HO9 : Hid (OwB (w'.setRow R #[.int .u64 id, .slice none 0 0, .bool true, .bool true]) wm.heap.size (.slice A1 (acc ++ p.bs).length c1) (acc ++ p.bs)) := Lib.hid (H1.out.keep fun b h1 h2 => by
                                  have := (H1.out.own_blk h1).1
                                  have hlB := lt_of_heap HT.out.hB
                                  rw [heap_setRow_if, if_neg (by omega)])
                                have HT9 := Lib.hid hT9
                                clear HW2 hpl HT2 hT9 H1
                                go_wp2_with (with_reducible refine wpList_stB (row := #[.int .u64 id, .slice none 0 0, .bool true, .bool true]) joinInfo (by simp [Value.oneCell']) rfl (.tmp 108) (.tmp 107) rfl rfl rfl hR9 rfl ?_)
                                refine bodyPost_ret (v := .tuple #[.slice A1 (acc ++ p.bs).length c1, .bool true, .int .i64 0]) (by simp [results, Try.results9, go_sem]) rfl (RTake.intro (.slice A1 (acc ++ p.bs).length c1) vc (.slice none 0 0) ?_ ?_ ?_ HT9.out.fr HT9.out.vo)
                                · simp [takeR, HM.out, HST.out, errT, HF.out, HAD.out, HW.out, HR.out]
                                · simp only [takeR, HM.out, HST.out, HF.out, HAD.out, HW.out, HR.out]
                                  exact HO9.out.mono (by omega)
                                · simp only [takeS, HM.out, HST.out, HF.out, HAD.out]
                                  simp only [if_true, Bool.false_eq_true, if_false, HE.out]
                                  rw [HID.out, HAE.out]
                                  exact HT9.out.r
                        · obtain rfl : k = 256 := by omega
                          have HR : Hid (r = none) := Lib.hid (by rw [← HWK.out]; rfl)
                          have HE : Hid (endS s2 = s2) := Lib.hid (by simp [endS, HW.out, HR.out])
                          have HT1 := Lib.hid (HT.out.below hL)
                          clear HWK hacc hL
                          go_wp2_with fail
                          refine bodyPost_ret (v := .tuple #[.slice none 0 0, .bool false, .int .i64 0]) (by simp [results, Try.results9, go_sem]) rfl (RTake.intro (.slice none 0 0) vc (v2) ?_ ?_ ?_ HT1.out.fr HT1.out.vo)
                          · simp [takeR, HM.out, HST.out, errT, HF.out, HAD.out, HW.out, HR.out]
                          · simp only [takeR, HM.out, HST.out, HF.out, HAD.out, HW.out, HR.out]
                            exact OwB.nil _ _
                          · simp only [takeS, HM.out, HST.out, HF.out, HAD.out]
                            simp only [if_true, Bool.false_eq_true, if_false, HE.out]
                            exact HT1.out.r
                  case hl => rfl
                  case ho => kernel_rfl
            case hl => rfl
            case ho => kernel_rfl
          case hl => rfl
          case ho => kernel_rfl
end Go.Proofs.Ytnhhibdkojgnlaa
