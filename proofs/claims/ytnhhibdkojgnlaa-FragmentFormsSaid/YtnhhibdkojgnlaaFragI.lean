/- What is proved: what Same of the reference answers on like parts; the law FragmentForms answers true; conditions: those typed. -/
import Derived.Test.YtnhhibdkojgnlaaFragH
set_option linter.unusedSimpArgs false
set_option linter.unusedVariables false
namespace Go.Proofs.Ytnhhibdkojgnlaa
open Go.RowKit
set_option maxRecDepth 100000
set_option maxHeartbeats 8000000
theorem sg_eq {p q : HP} (h : p.sg = q.sg) : p.n = q.n ∧ p.last = q.last ∧ p.bs = q.bs := by
  unfold HP.sg at h
  simpa using h
theorem rsameP_any (id : Int) (b1 b2 : Nat) (v1 v2 : Value) (P1 P2 : List HP) (w : World) (h1 : OwP w b1 v1 id P1) (h2 : OwP w b2 v2 id P2) (hs : P1.map HP.sg = P2.map HP.sg) (hl : P1.length ≤ 1000000) :
    Calls Try.prog 21 #[v1, v2] w fun e w' => e = .returned (.bool true) ∧ Below w.heap.size w w' := by
  obtain ⟨n, hn⟩ : ∃ n, P1.length = n := ⟨_, rfl⟩
  have hn2 : P2.length = n := by have := congrArg List.length hs; simpa [hn] using this.symm
  obtain ⟨A1, c1, hv1, hr1⟩ := h1.slice
  obtain ⟨A2, c2, hv2, hr2⟩ := h2.slice
  rw [hn] at hv1 hl
  rw [hn2] at hv2
  subst hv1
  subst hv2
  have H1 := Lib.hid h1
  have H2 := Lib.hid h2
  have HR1 := Lib.hid hr1
  have HR2 := Lib.hid hr2
  have HS := Lib.hid hs
  have HN := Lib.hid hn
  have HN2 := Lib.hid hn2
  clear h1 h2 hr1 hr2 hs hn hn2
  go_enter Try.func21, Try.ntmps21
  go_wp2_with fail
  go_loopw [5] (fun i wr => ∃ k : Nat, k ≤ n ∧ i = .int .i64 k ∧ Hid (Below w.heap.size w wr)) (fun i _ => n - (intOf i).toNat)
  case atStart => exact ⟨0, by omega, rfl, Lib.hid (Below.refl _ _)⟩
  case round =>
    obtain ⟨k, hk, rfl, HB⟩ := hrel
    by_cases hkn : k < n
    · have hki : (k : Int) < (n : Int) := by omega
      have hk0 : (0 : Int) ≤ (k : Int) := by omega
      obtain ⟨p, hp⟩ : ∃ p, P1[k]? = some p := ⟨_, List.getElem?_eq_getElem (by rw [HN.out]; exact hkn)⟩
      obtain ⟨q, hq⟩ : ∃ q, P2[k]? = some q := ⟨_, List.getElem?_eq_getElem (by rw [HN2.out]; exact hkn)⟩
      have hpq : p.sg = q.sg := by
        have h := congrArg (fun l => l[k]?) HS.out
        simp only [List.getElem?_map, hp, hq, Option.map_some, Option.some.injEq] at h
        exact h
      obtain ⟨e1, e2, e3⟩ := sg_eq hpq
      obtain ⟨g1, cur1, rfl, hg1, hc1⟩ := HR1.out k p hp
      obtain ⟨g2, cur2, rfl, hg2, hc2⟩ := HR2.out k q hq
      have b1 := H1.out.bytes p (List.mem_of_getElem? hp)
      have b2 := H2.out.bytes q (List.mem_of_getElem? hq)
      have HB1 := Lib.hid (b1.1.rd b1.2.1 b1.2.2)
      have HB2 := Lib.hid (b2.1.rd b2.2.1 b2.2.2)
      have HG1 := Lib.hid hg1
      have HG2 := Lib.hid hg2
      have HC1 := Lib.hid hc1
      have HC2 := Lib.hid hc2
      have HE : Hid (p.n = q.n ∧ p.last = q.last ∧ p.bs = q.bs) := Lib.hid ⟨e1, e2, e3⟩
      clear hp hq hpq e1 e2 e3 b1 b2 hg1 hg2 hc1 hc2
      go_wp2_with fail
      apply wp_region_effT _ _ (Inv.start0 wr fun _ => False) (hm := by kernel_rfl)
      case h =>
        (apply SeqF.pure; (focus (first | rfl | (go_simp; done) | (simp [Region.wanted, yielded]; done))); (focus (intro w; go_simp; with_reducible rfl)); go_simp)
        (apply SeqF.pure; (focus (first | rfl | (go_simp; done) | (simp [Region.wanted, yielded]; done))); (focus (intro w; go_simp; with_reducible rfl)); go_simp)
        (apply SeqF.pure; (focus (first | rfl | (go_simp; done) | (simp [Region.wanted, yielded]; done))); (focus (intro w; go_simp; with_reducible rfl)); go_simp)
        apply SeqF.read (v := .agg (prow id p)) []
        · (first | rfl | (go_simp; done) | (simp [Region.wanted, yielded]; done))
        · exact fun γ' W hg hI => exec_load rfl rfl (run_load_at partInfo partRow ((hI.far g1 (by have := lt_of_heap HG1.out; have := HB.out.size; omega) (fun h => h)).trans ((HB.out.block g1 (lt_of_heap HG1.out)).trans HG1.out)) HC1.out)
        go_simp
        (apply SeqF.pure; (focus (first | rfl | (go_simp; done) | (simp [Region.wanted, yielded]; done))); (focus (intro w; go_simp; with_reducible rfl)); go_simp)
        (apply SeqF.pure; (focus (first | rfl | (go_simp; done) | (simp [Region.wanted, yielded]; done))); (focus (intro w; go_simp; with_reducible rfl)); go_simp)
        (apply SeqF.pure; (focus (first | rfl | (go_simp; done) | (simp [Region.wanted, yielded]; done))); (focus (intro w; go_simp; with_reducible rfl)); go_simp)
        apply SeqF.read (v := .agg (prow id q)) []
        · (first | rfl | (go_simp; done) | (simp [Region.wanted, yielded]; done))
        · exact fun γ' W hg hI => exec_load rfl rfl (run_load_at partInfo partRow ((hI.far g2 (by have := lt_of_heap HG2.out; have := HB.out.size; omega) (fun h => h)).trans ((HB.out.block g2 (lt_of_heap HG2.out)).trans HG2.out)) HC2.out)
        go_simp
        apply SeqF.call (v := .bool true) [] 20 #[.agg (prow id p), .agg (prow id q)]
        · (first | rfl | (go_simp; done) | (simp [Region.wanted, yielded]; done))
        · intro w; kernel_rfl
        · intro γ' U hg hI
          have hU : Below w.heap.size w U := hI.belowS HB.out HB.out.size (fun _ h => h.elim)
          refine (one_any id p.n p.last p.v p.bs id q.n q.last q.v q.bs U (HB1.out.below hU) (HB2.out.below hU)).mono ?_
          rintro e w' ⟨rfl, hb⟩
          exact ⟨by rw [decide_eq_true ⟨rfl, HE.out.1, HE.out.2.1, HE.out.2.2⟩], hI.below hb⟩
        go_simp
        (apply SeqF.pure; (focus (first | rfl | (go_simp; done) | (simp [Region.wanted, yielded]; done))); (focus (intro w; go_simp; with_reducible rfl)); go_simp)
        apply SeqF.done
        intro w9 hI9
        have HB9 := Lib.hid (hI9.belowS HB.out HB.out.size (fun _ h => h.elim))
        clear hI9
        go_simp
        go_wp2_with fail
        go_roundw
        case rel =>
          first
            | exact ⟨k + 1, by omega, by go_num, HB9⟩
            | ((repeat apply Exists.intro); refine ⟨?_, rfl⟩; exact ⟨k + 1, by omega, by go_num, HB9⟩)
        case measure => first | (simp [intOf]; done) | (simp [intOf]; omega)
      case hl => rfl
      case ho => kernel_rfl
    · have hki : ¬ (k : Int) < (n : Int) := by omega
      go_wp2_with fail
      go_ret
      exact ⟨rfl, HB.out⟩
def splitE (l : Nat) (size : Int) : Int := if size < 1 ∨ 1024 < size then 2 else if 256 < splitN l size.toNat then 4 else 0
def splitL (bs : List Int) (size : Int) : List (Int × Bool × List Int) := if size < 1 ∨ 1024 < size then [] else if 256 < splitN bs.length size.toNat then [] else (List.range (splitN bs.length size.toNat)).map (partS bs size.toNat)
theorem SplitOk.parts {w' : World} {base : Nat} {id : Int} {bs : List Int} {size : Int} {vr : Value} {er : Int} (h : SplitOk w' base id bs size vr er) : er = splitE bs.length size ∧ ∃ P, OwP w' base vr id P ∧ P.map HP.sg = splitL bs size ∧ P.length ≤ 256 := by
  rcases h with ⟨h1, rfl, rfl⟩ | ⟨z, rfl, h0, h1, h2⟩
  · exact ⟨by unfold splitE; rw [if_pos h1], [], OwP.nil _ _ _, by unfold splitL; rw [if_pos h1]; rfl, by simp⟩
  · have hn : ¬ ((z : Int) < 1 ∨ 1024 < (z : Int)) := by omega
    rcases h2 with ⟨h2, rfl, rfl⟩ | ⟨h2, rfl, P, hP, hs⟩
    · exact ⟨by unfold splitE; rw [if_neg hn, Int.toNat_natCast, if_pos h2], [], OwP.nil _ _ _, by unfold splitL; rw [if_neg hn, Int.toNat_natCast, if_pos h2]; rfl, by simp⟩
    · refine ⟨by unfold splitE; rw [if_neg hn, Int.toNat_natCast, if_neg (by omega)], P, hP, by unfold splitL; rw [if_neg hn, Int.toNat_natCast, if_neg (by omega), hs], ?_⟩
      have := congrArg List.length hs
      simp at this
      omega
theorem readV_ok {bs : List Int} (h : okB bs) : okB ((readPF bs).2.getD (0, 0, false, [])).2.2.2 ∧ ((readPF bs).2.getD (0, 0, false, [])).2.2.2.length ≤ bs.length := by
  have h0 : okB ([] : List Int) := by intro x hx; simp at hx
  unfold readPF
  split
  · exact ⟨h0, by simp⟩
  · split
    · exact ⟨h0, by simp⟩
    · split
      · refine ⟨h.drop _, ?_⟩
        simp
      · exact ⟨h0, by simp⟩
theorem writeR_ok {id : Nat} {n : Int} {last : Bool} {bs : List Int} (hid : id < 18446744073709551616) (hx : okB bs) : okB (writeR (mayB n last bs.length) id n.toNat last bs) ∧ (writeR (mayB n last bs.length) id n.toNat last bs).length ≤ 140737488355328 := by
  cases hm : mayB n last bs.length with
  | false => exact ⟨by intro x hx; simp [writeR] at hx, by simp [writeR]⟩
  | true =>
    have hm' := hm
    simp only [mayB, Bool.and_eq_true, decide_eq_true_eq] at hm'
    obtain ⟨m, rfl⟩ := Int.eq_ofNat_of_zero_le hm'.1
    exact writeF_ok hid hm hx
theorem forms_law (id : Nat) (n : Int) (last : Bool) (v u : Value) (bs cs : List Int) (size : Int) (w : World) (hv : BB w v bs) (hu : BB w u cs) (hid : id < 18446744073709551616) :
    Calls Try.prog 5 #[partV id n last v, u, .int .i64 size] w fun e w' => e = .returned (.bool true) ∧ Below w.heap.size w w' := by
  obtain ⟨B, hB⟩ : ∃ B, w.heap.size = B := ⟨_, rfl⟩
  rw [hB]
  obtain ⟨w0, hw0⟩ : ∃ w0, w.alloc (.cells #[.int .u64 id, .int .i64 n, .bool last, v] 33) = w0 := ⟨_, rfl⟩
  have FP : Hid (FB w w0 B #[.int .u64 id, .int .i64 n, .bool last, v] v u bs cs) := Lib.hid {
    hB := by rw [← hw0, ← hB]; exact heap_alloc_last _ _
    bv := hv.below (by rw [← hw0]; (repeat' (first | (with_reducible exact Below.refl _ _) | (with_reducible assumption) | (with_reducible refine Below.alloc ?_ ?_ _) | (with_reducible refine below_setRow ?_ ?_ _) | (with_reducible refine bl_drew ?_) | (with_reducible refine bl_drewN ?_ _) | (with_reducible refine Below.setCell ?_ ?_ _) | (with_reducible refine bl_then ?_ ?_ hb) | (with_reducible refine bl_then ?_ ?_ hb1) | (with_reducible refine bl_then ?_ ?_ hb2) | (with_reducible refine bl_then ?_ ?_ hb3) | (with_reducible refine bl_then ?_ ?_ hb4) | (with_reducible refine bl_then ?_ ?_ hb5) | (with_reducible refine bl_then ?_ ?_ hb6) | (with_reducible refine bl_then ?_ ?_ hb7) | (with_reducible refine bl_then ?_ ?_ hb8) | (with_reducible exact Nat.le_refl _) | omega | (simp only [World.size_alloc, World.size_setCell, World.size_drew, size_setRow]; omega) | (simp; omega) | (simp; done))))
    bu := hu.below (by rw [← hw0]; (repeat' (first | (with_reducible exact Below.refl _ _) | (with_reducible assumption) | (with_reducible refine Below.alloc ?_ ?_ _) | (with_reducible refine below_setRow ?_ ?_ _) | (with_reducible refine bl_drew ?_) | (with_reducible refine bl_drewN ?_ _) | (with_reducible refine Below.setCell ?_ ?_ _) | (with_reducible refine bl_then ?_ ?_ hb) | (with_reducible refine bl_then ?_ ?_ hb1) | (with_reducible refine bl_then ?_ ?_ hb2) | (with_reducible refine bl_then ?_ ?_ hb3) | (with_reducible refine bl_then ?_ ?_ hb4) | (with_reducible refine bl_then ?_ ?_ hb5) | (with_reducible refine bl_then ?_ ?_ hb6) | (with_reducible refine bl_then ?_ ?_ hb7) | (with_reducible refine bl_then ?_ ?_ hb8) | (with_reducible exact Nat.le_refl _) | omega | (simp only [World.size_alloc, World.size_setCell, World.size_drew, size_setRow]; omega) | (simp; omega) | (simp; done))))
    bel := by rw [← hw0, ← hB]; (repeat' (first | (with_reducible exact Below.refl _ _) | (with_reducible assumption) | (with_reducible refine Below.alloc ?_ ?_ _) | (with_reducible refine below_setRow ?_ ?_ _) | (with_reducible refine bl_drew ?_) | (with_reducible refine bl_drewN ?_ _) | (with_reducible refine Below.setCell ?_ ?_ _) | (with_reducible refine bl_then ?_ ?_ hb) | (with_reducible refine bl_then ?_ ?_ hb1) | (with_reducible refine bl_then ?_ ?_ hb2) | (with_reducible refine bl_then ?_ ?_ hb3) | (with_reducible refine bl_then ?_ ?_ hb4) | (with_reducible refine bl_then ?_ ?_ hb5) | (with_reducible refine bl_then ?_ ?_ hb6) | (with_reducible refine bl_then ?_ ?_ hb7) | (with_reducible refine bl_then ?_ ?_ hb8) | (with_reducible exact Nat.le_refl _) | omega | (simp only [World.size_alloc, World.size_setCell, World.size_drew, size_setRow]; omega) | (simp; omega) | (simp; done))) }
  have hz : ∀ w, (zeroValue 33).run Try.prog w = .ok (.agg #[.int .u64 0, .int .i64 0, .bool false, .slice none 0 0]) w := zero_part
  have HWK := Lib.hid (writeR_ok (n := n) (last := last) hid hv.ok)
  obtain ⟨ws, hws⟩ : ∃ ws, writeR (mayB n last bs.length) id n.toNat last bs = ws := ⟨_, rfl⟩
  obtain ⟨er, her⟩ : ∃ er, errT (mayB n last bs.length) = er := ⟨_, rfl⟩
  have HVK := Lib.hid (readV_ok hu.ok)
  have HUL := Lib.hid hu.len
  obtain ⟨⟨id5, n5, l5, b5⟩, hR⟩ : ∃ x, (readPF cs).2.getD (0, 0, false, []) = x := ⟨_, rfl⟩
  obtain ⟨er5, her5⟩ : ∃ x, (readPF cs).1 = x := ⟨_, rfl⟩
  rw [hws] at HWK
  rw [hR] at HVK
  have HX1 := Lib.hid hws
  have HX2 := Lib.hid her
  have HX3 := Lib.hid hR
  have HX4 := Lib.hid her5
  obtain ⟨es, hes⟩ : ∃ x, splitE cs.length size = x := ⟨_, rfl⟩
  obtain ⟨ss, hss⟩ : ∃ x, splitL cs size = x := ⟨_, rfl⟩
  have HX5 := Lib.hid hes
  have HX6 := Lib.hid hss
  clear hv hu hws her hR her5 hes hss
  have e1 : partV id n last v = .agg #[.int .u64 id, .int .i64 n, .bool last, v] := rfl
  rw [e1]
  clear e1
  go_enter Try.func5, Try.ntmps5
  go_wp2_with (with_reducible refine wpList_ldB (row := #[.int .u64 id, .int .i64 n, .bool last, v]) partInfo partRow rfl (.tmp 3) rfl rfl FP.out.hB ?_)
  refine (write_any id n last v bs _ FP.out.bv hid).mono ?_
  rintro e w1 ⟨⟨vx, rfl, ho⟩, hb⟩
  rw [HX1.out] at ho
  rw [HX2.out]
  have FP' := Lib.hid (FP.out.below hb)
  clear FP
  have FP := FP'
  clear FP'
  have HX := Lib.hid (ho.rd HWK.out.1 HWK.out.2)
  clear ho hb hw0 hB
  go_wp2_with (with_reducible refine wpList_ldB (row := #[.int .u64 id, .int .i64 n, .bool last, v]) partInfo partRow rfl (.tmp 3) rfl rfl FP.out.hB ?_)
  refine (rwrite_any id n last v bs _ FP.out.bv hid).mono ?_
  rintro e w2 ⟨⟨vy, rfl, ho⟩, hb⟩
  rw [HX1.out] at ho
  rw [HX2.out]
  have FP' := Lib.hid (FP.out.below hb)
  have HX' := Lib.hid (HX.out.below hb)
  clear FP HX
  have FP := FP'
  clear FP'
  have HX := HX'
  clear HX'
  have HY := Lib.hid (ho.rd HWK.out.1 HWK.out.2)
  clear ho hb
  go_wp2_with fail
  refine (read_any u cs _ FP.out.bu).mono ?_
  rintro e w3 ⟨⟨vq, rfl, ho⟩, hb⟩
  rw [HX3.out] at ho ⊢
  rw [HX4.out]
  dsimp only at ho ⊢
  have FP' := Lib.hid (FP.out.below hb)
  have HX' := Lib.hid (HX.out.below hb)
  have HY' := Lib.hid (HY.out.below hb)
  clear FP HX HY
  have FP := FP'
  clear FP'
  have HX := HX'
  clear HX'
  have HY := HY'
  clear HY'
  clear hb
  obtain ⟨XQ, hXQ⟩ : ∃ X, w3.heap.size = X := ⟨_, rfl⟩
  have HAXQ : Hid ((w3.alloc (.cells #[.int .u64 0, .int .i64 0, .bool false, .slice none 0 0] 33)).heap[XQ]? = some (.cells #[.int .u64 0, .int .i64 0, .bool false, .slice none 0 0] 33 (0, 0))) := Lib.hid (by rw [← hXQ]; exact heap_alloc_last _ _)
  have HONEXQ := Lib.hid (one_row (id5 : Int) (n5 : Int) l5 ho)
  have hb : Below w3.heap.size w3 ((w3.alloc (.cells #[.int .u64 0, .int .i64 0, .bool false, .slice none 0 0] 33)).setRow XQ #[.int .u64 id5, .int .i64 n5, .bool l5, vq]) := by rw [← hXQ]; exact below_new _ _ _
  have HQV := Lib.hid ((ho.below hb).rd HVK.out.1 (Nat.le_trans HVK.out.2 HUL.out))
  have HQB : Hid (((w3.alloc (.cells #[.int .u64 0, .int .i64 0, .bool false, .slice none 0 0] 33)).setRow XQ #[.int .u64 id5, .int .i64 n5, .bool l5, vq]).heap[XQ]? = some (.cells #[.int .u64 id5, .int .i64 n5, .bool l5, vq] 33 (0, 0))) := Lib.hid (by rw [← hXQ]; exact heap_new _ _ _)
  have HPEXQ : Hid (partV (id5 : Int) (n5 : Int) l5 vq = .agg #[.int .u64 id5, .int .i64 n5, .bool l5, vq]) := Lib.hid rfl
  rw [HPEXQ.out]
  have FP' := Lib.hid (FP.out.below hb)
  have HX' := Lib.hid (HX.out.below hb)
  have HY' := Lib.hid (HY.out.below hb)
  clear FP HX HY
  have FP := FP'
  clear FP'
  have HX := HX'
  clear HX'
  have HY := HY'
  clear HY'
  clear hb ho
  go_wp2_with (with_reducible refine wpList_stB (row := #[.int .u64 id5, .int .i64 n5, .bool l5, vq]) partInfo HONEXQ.out rfl (.tmp 11) (.tmp 32) rfl rfl rfl HAXQ.out rfl ?_)
  refine (rread_any u cs _ FP.out.bu).mono ?_
  rintro e w4 ⟨⟨vr, rfl, ho⟩, hb⟩
  rw [HX3.out] at ho ⊢
  rw [HX4.out]
  dsimp only at ho ⊢
  have FP' := Lib.hid (FP.out.below hb)
  have HX' := Lib.hid (HX.out.below hb)
  have HY' := Lib.hid (HY.out.below hb)
  have HQB' := Lib.hid ((hb.block _ (lt_of_heap HQB.out)).trans HQB.out)
  have HQV' := Lib.hid (HQV.out.below hb)
  clear FP HX HY HQB HQV
  have FP := FP'
  clear FP'
  have HX := HX'
  clear HX'
  have HY := HY'
  clear HY'
  have HQB := HQB'
  clear HQB'
  have HQV := HQV'
  clear HQV'
  clear hb
  obtain ⟨XR, hXR⟩ : ∃ X, w4.heap.size = X := ⟨_, rfl⟩
  have HAXR : Hid ((w4.alloc (.cells #[.int .u64 0, .int .i64 0, .bool false, .slice none 0 0] 33)).heap[XR]? = some (.cells #[.int .u64 0, .int .i64 0, .bool false, .slice none 0 0] 33 (0, 0))) := Lib.hid (by rw [← hXR]; exact heap_alloc_last _ _)
  have HONEXR := Lib.hid (one_row (id5 : Int) (n5 : Int) l5 ho)
  have hb : Below w4.heap.size w4 ((w4.alloc (.cells #[.int .u64 0, .int .i64 0, .bool false, .slice none 0 0] 33)).setRow XR #[.int .u64 id5, .int .i64 n5, .bool l5, vr]) := by rw [← hXR]; exact below_new _ _ _
  have HRV := Lib.hid ((ho.below hb).rd HVK.out.1 (Nat.le_trans HVK.out.2 HUL.out))
  have HRB : Hid (((w4.alloc (.cells #[.int .u64 0, .int .i64 0, .bool false, .slice none 0 0] 33)).setRow XR #[.int .u64 id5, .int .i64 n5, .bool l5, vr]).heap[XR]? = some (.cells #[.int .u64 id5, .int .i64 n5, .bool l5, vr] 33 (0, 0))) := Lib.hid (by rw [← hXR]; exact heap_new _ _ _)
  have HPEXR : Hid (partV (id5 : Int) (n5 : Int) l5 vr = .agg #[.int .u64 id5, .int .i64 n5, .bool l5, vr]) := Lib.hid rfl
  rw [HPEXR.out]
  have FP' := Lib.hid (FP.out.below hb)
  have HX' := Lib.hid (HX.out.below hb)
  have HY' := Lib.hid (HY.out.below hb)
  have HQB' := Lib.hid ((hb.block _ (lt_of_heap HQB.out)).trans HQB.out)
  have HQV' := Lib.hid (HQV.out.below hb)
  clear FP HX HY HQB HQV
  have FP := FP'
  clear FP'
  have HX := HX'
  clear HX'
  have HY := HY'
  clear HY'
  have HQB := HQB'
  clear HQB'
  have HQV := HQV'
  clear HQV'
  clear hb ho
  have d0 : ((w4.alloc (.cells #[.int .u64 0, .int .i64 0, .bool false, .slice none 0 0] 33)).setRow XR #[.int .u64 id5, .int .i64 n5, .bool l5, vr]).cell? ⟨B, 0, none⟩ = some (.int .u64 id) := (cell_of_row _ _ _ _ _ _ FP.out.hB).trans rfl
  go_wp2_with (with_reducible refine wpList_stB (row := #[.int .u64 id5, .int .i64 n5, .bool l5, vr]) partInfo HONEXR.out rfl (.tmp 13) (.tmp 37) rfl rfl rfl HAXR.out rfl ?_)
  refine (split_any id u cs size _ FP.out.bu).mono ?_
  rintro e w5 ⟨⟨vs, ers, rfl, hs⟩, hb⟩
  obtain ⟨hes, P1, hP1, hsg1, hl1⟩ := hs.parts
  rw [HX5.out] at hes
  subst hes
  have FP' := Lib.hid (FP.out.below hb)
  have HX' := Lib.hid (HX.out.below hb)
  have HY' := Lib.hid (HY.out.below hb)
  have HQB' := Lib.hid ((hb.block _ (lt_of_heap HQB.out)).trans HQB.out)
  have HQV' := Lib.hid (HQV.out.below hb)
  have HRB' := Lib.hid ((hb.block _ (lt_of_heap HRB.out)).trans HRB.out)
  have HRV' := Lib.hid (HRV.out.below hb)
  clear FP HX HY HQB HQV HRB HRV
  have FP := FP'
  clear FP'
  have HX := HX'
  clear HX'
  have HY := HY'
  clear HY'
  have HQB := HQB'
  clear HQB'
  have HQV := HQV'
  clear HQV'
  have HRB := HRB'
  clear HRB'
  have HRV := HRV'
  clear HRV'
  have HP1 := Lib.hid hP1
  have HS1 := Lib.hid hsg1
  clear hb hP1 hsg1 hs d0
  have d0 : w5.cell? ⟨B, 0, none⟩ = some (.int .u64 id) := (cell_of_row _ _ _ _ _ _ FP.out.hB).trans rfl
  go_wp2_with fail
  refine (rsplit_any id u cs size _ FP.out.bu).mono ?_
  rintro e w6 ⟨⟨vt, ert, rfl, hs⟩, hb⟩
  obtain ⟨het, P2, hP2, hsg2, hl2⟩ := hs.parts
  rw [HX5.out] at het
  subst het
  have FP' := Lib.hid (FP.out.below hb)
  have HX' := Lib.hid (HX.out.below hb)
  have HY' := Lib.hid (HY.out.below hb)
  have HQB' := Lib.hid ((hb.block _ (lt_of_heap HQB.out)).trans HQB.out)
  have HQV' := Lib.hid (HQV.out.below hb)
  have HRB' := Lib.hid ((hb.block _ (lt_of_heap HRB.out)).trans HRB.out)
  have HRV' := Lib.hid (HRV.out.below hb)
  have HP1' := Lib.hid (HP1.out.below hb)
  clear FP HX HY HQB HQV HRB HRV HP1
  have FP := FP'
  clear FP'
  have HX := HX'
  clear HX'
  have HY := HY'
  clear HY'
  have HQB := HQB'
  clear HQB'
  have HQV := HQV'
  clear HQV'
  have HRB := HRB'
  clear HRB'
  have HRV := HRV'
  clear HRV'
  have HP1 := HP1'
  clear HP1'
  have HP2 := Lib.hid hP2
  have HS2 := Lib.hid hsg2
  clear hb hP2 hsg2 hs d0
  go_wp2_with fail
  refine (same_bytes vx vy ws ws _ HX.out HY.out).mono ?_
  rintro e wq ⟨rfl, rfl⟩
  have HD1 : Hid (decide (ws = ws) = true) := Lib.hid (by simp)
  rw [HD1.out]
  go_wp2_with (first | (with_reducible refine wpList_ldBh (row := #[.int .u64 id5, .int .i64 n5, .bool l5, vq]) partInfo partRow (by simp [Region.wanted, yielded, Act.put]) (.tmp 11) rfl rfl HQB.out ?_) | (with_reducible refine wpList_ldBh (row := #[.int .u64 id5, .int .i64 n5, .bool l5, vr]) partInfo partRow (by simp [Region.wanted, yielded, Act.put]) (.tmp 13) rfl rfl HRB.out ?_))
  refine (one_any id5 n5 l5 vq b5 id5 n5 l5 vr b5 _ HQV.out HRV.out).mono ?_
  rintro e w7 ⟨rfl, hb⟩
  have HD2 : Hid (decide ((id5 : Int) = id5 ∧ (n5 : Int) = n5 ∧ l5 = l5 ∧ b5 = b5) = true) := Lib.hid (by simp)
  rw [HD2.out]
  have FP' := Lib.hid (FP.out.below hb)
  have HX' := Lib.hid (HX.out.below hb)
  have HY' := Lib.hid (HY.out.below hb)
  have HQB' := Lib.hid ((hb.block _ (lt_of_heap HQB.out)).trans HQB.out)
  have HQV' := Lib.hid (HQV.out.below hb)
  have HRB' := Lib.hid ((hb.block _ (lt_of_heap HRB.out)).trans HRB.out)
  have HRV' := Lib.hid (HRV.out.below hb)
  have HP1' := Lib.hid (HP1.out.below hb)
  have HP2' := Lib.hid (HP2.out.below hb)
  clear FP HX HY HQB HQV HRB HRV HP1 HP2
  have FP := FP'
  clear FP'
  have HX := HX'
  clear HX'
  have HY := HY'
  clear HY'
  have HQB := HQB'
  clear HQB'
  have HQV := HQV'
  clear HQV'
  have HRB := HRB'
  clear HRB'
  have HRV := HRV'
  clear HRV'
  have HP1 := HP1'
  clear HP1'
  have HP2 := HP2'
  clear HP2'
  clear hb
  go_wp2_with fail
  refine (rsameP_any id _ _ vs vt P1 P2 _ HP1.out HP2.out (by rw [HS1.out, HS2.out]) (by omega)).mono ?_
  rintro e w8 ⟨rfl, hb⟩
  have FP' := Lib.hid (FP.out.below hb)
  have HX' := Lib.hid (HX.out.below hb)
  have HY' := Lib.hid (HY.out.below hb)
  have HQB' := Lib.hid ((hb.block _ (lt_of_heap HQB.out)).trans HQB.out)
  have HQV' := Lib.hid (HQV.out.below hb)
  have HRB' := Lib.hid ((hb.block _ (lt_of_heap HRB.out)).trans HRB.out)
  have HRV' := Lib.hid (HRV.out.below hb)
  have HP1' := Lib.hid (HP1.out.below hb)
  have HP2' := Lib.hid (HP2.out.below hb)
  clear FP HX HY HQB HQV HRB HRV HP1 HP2
  have FP := FP'
  clear FP'
  have HX := HX'
  clear HX'
  have HY := HY'
  clear HY'
  have HQB := HQB'
  clear HQB'
  have HQV := HQV'
  clear HQV'
  have HRB := HRB'
  clear HRB'
  have HRV := HRV'
  clear HRV'
  have HP1 := HP1'
  clear HP1'
  have HP2 := HP2'
  clear HP2'
  clear hb
  go_wp2_with fail
  refine (anchored_any _).mono ?_
  rintro e w9 ⟨rfl, hb⟩
  have FP' := Lib.hid (FP.out.below hb)
  have HX' := Lib.hid (HX.out.below hb)
  have HY' := Lib.hid (HY.out.below hb)
  have HQB' := Lib.hid ((hb.block _ (lt_of_heap HQB.out)).trans HQB.out)
  have HQV' := Lib.hid (HQV.out.below hb)
  have HRB' := Lib.hid ((hb.block _ (lt_of_heap HRB.out)).trans HRB.out)
  have HRV' := Lib.hid (HRV.out.below hb)
  have HP1' := Lib.hid (HP1.out.below hb)
  have HP2' := Lib.hid (HP2.out.below hb)
  clear FP HX HY HQB HQV HRB HRV HP1 HP2
  have FP := FP'
  clear FP'
  have HX := HX'
  clear HX'
  have HY := HY'
  clear HY'
  have HQB := HQB'
  clear HQB'
  have HQV := HQV'
  clear HQV'
  have HRB := HRB'
  clear HRB'
  have HRV := HRV'
  clear HRV'
  have HP1 := HP1'
  clear HP1'
  have HP2 := HP2'
  clear HP2'
  clear hb
  go_wp2_with fail
  go_ret
  exact ⟨rfl, FP.out.bel⟩
theorem forms_lawI (id n : Int) (last : Bool) (v u : Value) (bs cs : List Int) (size : Int) (w : World) (hv : BB w v bs) (hu : BB w u cs) (hid : 0 ≤ id ∧ id ≤ 18446744073709551615) :
    Calls Try.prog 5 #[partV id n last v, u, .int .i64 size] w fun e w' => e = .returned (.bool true) ∧ Below w.heap.size w w' := by
  obtain ⟨m, rfl⟩ := Int.eq_ofNat_of_zero_le hid.1
  exact forms_law m n last v u bs cs size w hv hu (by omega)
end Go.Proofs.Ytnhhibdkojgnlaa
