/- What is proved: what the function that ReadEvents hands to caught answers, or how it panics (the walk); conditions: those typed. -/
import Derived.Test.YtgkiedbefogklaaWireR
set_option linter.unusedSimpArgs false
set_option linter.unusedVariables false
namespace Go.Proofs.Ytgkiedbefogklaa
open Go.RowKit
set_option maxRecDepth 100000
set_option maxHeartbeats 8000000
/-- What the function leaves behind when all went well. -/
structure EvW (w : World) (X : Nat) (E : List Event) (W : World) : Prop where
  inv : Inv w (fun g => g = X) gh0 W
  row : ∃ L P, W.heap[X]? = some (.cells #[L] 22 (0, 0)) ∧ OwE W w.heap.size L P ∧ P.map HE.e = E
def RE1Post (w : World) (X : Nat) (bs : List Int) (e : Ending) (w' : World) : Prop := (e = .returned (.tuple #[]) ∧ (readEvS bs).1 = 0 ∧ EvW w X (readEvS bs).2 w') ∨ ∃ er, e = .panicked (panE er) ∧ er = (readEvS bs).1 ∧ er ≠ 0 ∧ Inv w (fun g => g = X) gh0 w'
/-- A round of the loop. -/
structure LS (w2 : World) (Bv X n : Nat) (r0 b : List Int) (L : Value) (P : List HE) (W : World) : Prop where
  inv : Inv w2 (fun g => g = Bv ∨ g = X) gh0 W
  rd : Rd W Bv b
  xb : W.heap[X]? = some (.cells #[L] 22 (0, 0))
  own : OwE W w2.heap.size L P
  eq : evsT n r0 = ((evsT (n - P.length) b).1, P.map HE.e ++ (evsT (n - P.length) b).2.1, (evsT (n - P.length) b).2.2)
theorem re1_pan {w W2 w' : World} {Bv X er : Nat} {bs : List Int} (hb : Below w.heap.size w W2) (hB : w.heap.size ≤ Bv) (h1 : (readEvS bs).1 = er) (h0 : er ≠ 0) (h2 : Inv W2 (fun g => g = Bv ∨ g = X) gh0 w') : RE1Post w X bs (.panicked (panE er)) w' :=
  .inr ⟨_, rfl, h1.symm, h0, (Inv.ofBelow hb).then h2 (fun g hg hl => hg.elim (fun e => by omega) (fun e => e))⟩
theorem LS.bad {w2 W : World} {Bv X n : Nat} {r0 b : List Int} {L : Value} {P : List HE} (h : LS w2 Bv X n r0 b L P W) (hk : P.length < n) (he : (evT b).1 ≠ 0) : (evsT n r0).1 = (evT b).1 := by
  obtain ⟨m, hm⟩ : ∃ m, n - P.length = m + 1 := ⟨n - P.length - 1, by omega⟩
  rw [h.eq, hm, evsT_bad he]
theorem LS.next {w2 W W' : World} {Bv X n : Nat} {r0 b : List Int} {L L' u : Value} {P : List HE} (h : LS w2 Bv X n r0 b L P W) (hk : P.length < n) (he : (evT b).1 = 0) (h1 : Inv w2 (fun g => g = Bv ∨ g = X) gh0 W') (h2 : Rd W' Bv (evT b).2.2) (h3 : W'.heap[X]? = some (.cells #[L'] 22 (0, 0))) (h4 : OwE W' w2.heap.size L' (P ++ [⟨(evT b).2.1, u⟩])) :
    LS w2 Bv X n r0 (evT b).2.2 L' (P ++ [⟨(evT b).2.1, u⟩]) W' := by
  obtain ⟨m, hm⟩ : ∃ m, n - P.length = m + 1 := ⟨n - P.length - 1, by omega⟩
  refine ⟨h1, h2, h3, h4, ?_⟩
  have e : n - (P ++ [HE.mk (evT b).2.1 u]).length = m := by rw [List.length_append, List.length_singleton]; omega
  rw [h.eq, hm, evsT_next he, e, List.map_append]
  simp
theorem re1_any (B0 X : Nat) (v0 : Value) (bs : List Int) (w : World) (hB : w.heap[B0]? = some (.cells #[v0] 24 (0, 0))) (hv : BB w v0 bs) (hX : w.heap[X]? = some (.cells #[.slice none 0 0] 22 (0, 0))) (hBX : B0 ≠ X) (hlen : ¬ 65536 < bs.length) :
    Calls Try.prog 38 #[.pointer (some ⟨B0, 0, none⟩), .pointer (some ⟨X, 0, none⟩)] w (RE1Post w X bs) := by
  have hsl : ∃ A n c, v0 = .slice A n c := by obtain ⟨_, _, A, c, h, _⟩ := hv; exact ⟨_, _, _, h⟩
  have HV := Lib.hid hv
  have HB0 := Lib.hid hB
  have HX0 := Lib.hid hX
  have HLEN := Lib.hid hlen
  have HOV := Lib.hid (over_any v0 w hsl)
  obtain ⟨A0, n0, cp0, rfl⟩ := hsl
  have c0 : w.cell? ⟨B0, 0, none⟩ = some (.slice A0 n0 cp0) := (cell_of_row _ _ _ _ _ _ hB).trans rfl
  have hB0l := lt_of_heap hB
  have hXl := lt_of_heap hX
  obtain ⟨Bv, hBv⟩ : ∃ B, w.heap.size = B := ⟨_, rfl⟩
  rw [hBv] at HOV
  have hz : ∀ w, (zeroValue 64).run Try.prog w = .ok (.agg #[.nilFunc, .nilFunc, .nilFunc]) w := zero_rdr
  clear hB hv hX hlen
  go_enter Try.func38, Try.ntmps38
  go_wp2_with fail
  refine HOV.out.mono ?_
  rintro e w1 ⟨rfl, hb, hBh⟩
  have HBE := Lib.hid hb
  have HBH := Lib.hid hBh
  obtain ⟨Rv, hRv⟩ : ∃ R, w1.heap.size = R := ⟨_, rfl⟩
  have hBRl : Bv < Rv := by rw [← hRv]; exact lt_of_heap hBh
  obtain ⟨Wa, hWa⟩ : ∃ W, w1.alloc (.cells #[.nilFunc, .nilFunc, .nilFunc] 64) = W := ⟨_, rfl⟩
  have HWA : Hid (Wa.heap[Rv]? = some (.cells #[.nilFunc, .nilFunc, .nilFunc] 64 (0, 0))) := Lib.hid (by rw [← hWa, ← hRv]; exact heap_alloc_last _ _)
  have hba : Below w1.heap.size w1 Wa := by rw [← hWa]; exact Below.alloc (Below.refl _ _) (Nat.le_refl _) _
  have HBA := Lib.hid hba
  clear hb hBh hba
  obtain ⟨W2, hW2⟩ : ∃ W, Wa.setRow Rv #[fun1 Bv, fun2 Bv, fun3 Bv] = W := ⟨_, rfl⟩
  have HR : Hid (W2.heap[Rv]? = some (.cells #[fun1 Bv, fun2 Bv, fun3 Bv] 64 (0, 0))) := Lib.hid (by rw [← hW2]; exact setRow_heap _ _ _ _ _ _ HWA.out)
  have hk2 : ∀ g, g < w1.heap.size → W2.heap[g]? = w1.heap[g]? := fun g hg => by rw [← hW2]; exact (setRow_other _ _ _ _ (by omega)).trans (HBA.out.block g hg)
  have HB2 : Hid (Below w1.heap.size w1 W2) := Lib.hid (by rw [← hW2]; exact below_setRow HBA.out (by omega) _)
  have HBW : Hid (Below w.heap.size w W2) := Lib.hid (by rw [hBv]; exact bl_then HBE.out (by have := HBE.out.size; omega) HB2.out)
  have HRD2 : Hid (Rd W2 Bv bs) := Lib.hid ⟨_, (hk2 Bv (by omega)).trans HBH.out, HV.out.below HBW.out, fun hn b e => by have := HV.out.lt hn e; omega⟩
  have HX2 : Hid (W2.heap[X]? = some (.cells #[.slice none 0 0] 22 (0, 0))) := Lib.hid ((HBW.out.block X hXl).trans HX0.out)
  have hXB : X ≠ Bv := by omega
  have HBl2 : Hid (Bv < W2.heap.size ∧ Rv < W2.heap.size ∧ X < W2.heap.size) := Lib.hid ⟨by have := HB2.out.size; omega, lt_of_heap HR.out, by have := HBW.out.size; omega⟩
  have HRF : Hid (∀ W, Inv W2 (fun g => g = Bv ∨ g = X) gh0 W → W.heap[Rv]? = some (.cells #[fun1 Bv, fun2 Bv, fun3 Bv] 64 (0, 0)) ∧ Rv < W.heap.size ∧ X < W.heap.size) := Lib.hid (fun W h => ⟨(h.far Rv HBl2.out.2.1 (by omega)).trans HR.out, by have := h.size; have := HBl2.out; omega, by have := h.size; have := HBl2.out; omega⟩)
  have z0 : W2.cell? ⟨Rv, 0, none⟩ = some (.func (.func 52) #[] #[.pointer (some ⟨Bv, 0, none⟩)]) := (cell_of_row _ _ _ _ _ _ HR.out).trans rfl
  obtain ⟨⟨n, c, er⟩, hs⟩ : ∃ s, readS bs = s := ⟨_, rfl⟩
  obtain ⟨r0, hr0⟩ : ∃ q, bs.drop c = q := ⟨_, rfl⟩
  have HRS := Lib.hid (show readS bs = (n, c, er) ∧ bs.drop c = r0 from ⟨hs, hr0⟩)
  have HNUM := Lib.hid (number_n hs hr0 HRD2.out)
  clear hk2 hs hr0
  go_wp2_with (with_reducible refine wpList_stB (row := #[fun1 Bv, fun2 Bv, fun3 Bv]) rdrInfo (by simp [Value.oneCell', fun1, fun2, fun3]) rfl (.tmp 2) (.tmp 5) rfl rfl rfl HWA.out rfl ?_)
  try rw [hW2]
  refine HNUM.out.mono ?_
  rintro e w3 (⟨rfl, rfl, hrd, hgr, hn64⟩ | ⟨he, rfl, rfl⟩)
  · have HI3 : Hid (Inv W2 (fun g => g = Bv ∨ g = X) gh0 w3) := Lib.hid (Inv.ofGrown hgr (fun g hg => .inl (Option.some.inj hg).symm))
    have HRD3 := Lib.hid hrd
    have HX3 : Hid (w3.heap[X]? = some (.cells #[.slice none 0 0] 22 (0, 0))) := Lib.hid ((hgr.block X HBl2.out.2.2 (fun e => hXB (Option.some.inj e))).trans HX2.out)
    clear hrd hgr HNUM hW2 z0 hWa
    by_cases hb : n ≤ 4096
    · have hbi : (n : Int) ≤ 4096 := by omega
      have hbd : decide ((n : Int) ≤ 4096) = true := decide_eq_true hbi
      have HREST : Hid (readEvS bs = if (evsT n r0).1 ≠ 0 then ((evsT n r0).1, []) else if 0 < (evsT n r0).2.2.length then (8, []) else (0, (evsT n r0).2.1)) := Lib.hid (rdE_rest HLEN.out HRS.out.1 HRS.out.2 (by omega))
      have HL0 : Hid (LS W2 Bv X n r0 r0 (.slice none 0 0) [] w3) := Lib.hid ⟨HI3.out, HRD3.out, HX3.out, OwE.nil _ _, by simp⟩
      clear HRD3 HX3 HI3
      go_wp2_with fail
      refine (need_ok 8 w3).mono ?_
      rintro e wz ⟨rfl, hwz⟩
      subst wz
      go_wp2_with fail
      go_loopw [13] (fun i wr => ∃ (k : Nat) (b : List Int) (L : Value) (P : List HE), k ≤ n ∧ i = .int .u64 k ∧ P.length = k ∧ Hid (LS W2 Bv X n r0 b L P wr)) (fun i _ => n - (intOf i).toNat)
      case atStart => exact ⟨0, r0, .slice none 0 0, [], by omega, rfl, rfl, HL0⟩
      case round =>
        clear HL0
        obtain ⟨k, b, L, P, hk, rfl, hPl, HLS⟩ := hrel
        by_cases hlt : k < n
        · have hki : (k : Int) < (n : Int) := by omega
          obtain ⟨⟨ek, eb, ec, err, ea⟩, hev⟩ : ∃ e, (evT b).2.1 = e := ⟨_, rfl⟩
          obtain ⟨b2, hb2⟩ : ∃ q, (evT b).2.2 = q := ⟨_, rfl⟩
          have HEV : Hid (evT b = ((evT b).1, ⟨ek, eb, ec, err, ea⟩, b2)) := Lib.hid (by rw [← hev, ← hb2])
          have HEV2 := Lib.hid (show (evT b).2.1 = ⟨ek, eb, ec, err, ea⟩ ∧ (evT b).2.2 = b2 from ⟨hev, hb2⟩)
          clear hev hb2
          obtain ⟨LA, LN, LC, hL⟩ : ∃ A n c, L = .slice A n c := by obtain ⟨A, c, h⟩ := HLS.out.own.form; exact ⟨_, _, _, h⟩
          subst hL
          have HJ0 : Hid (LE W2 Bv X W2.heap.size b b2 ⟨ek, eb, ec, err, ea⟩ (.slice LA LN LC) P (fun t => if t = 0 then gst 0 #[] else none) wr.drew) := Lib.hid ⟨HLS.out.inv.more (grown_of_below (x := none) (Below.drew (Below.refl _ _))) (fun g hg _ => by cases hg), HLS.out.xb, HLS.out.rd.below (Below.drew (Below.refl _ _)), HLS.out.own.below (Below.drew (Below.refl _ _))⟩
          obtain ⟨γ0, hγ⟩ : ∃ γ : Gh, (fun t => if t = 0 then gst 0 #[] else none) = γ := ⟨_, rfl⟩
          have hq0 : γ0 0 = gst 0 #[] := by rw [← hγ]; rfl
          have hq1 : γ0 1 = none := by rw [← hγ]; rfl
          rw [hγ] at HJ0
          clear hγ
          go_wp2_with fail
          apply wp_region_pan (DL W2 Bv X b) (fun c a W ha h => ?pan) rfl (LE W2 Bv X W2.heap.size b b2 ⟨ek, eb, ec, err, ea⟩ (.slice LA LN LC) P) γ0 HJ0.out (hm := by kernel_rfl)
          case pan =>
            obtain ⟨d1, rfl, d2⟩ := h
            have e1 := HLS.out.bad (by omega) d1
            exact ⟨ha, re1_pan HBW.out (by omega) (by rw [HREST.out, if_pos (by rw [e1]; exact d1), e1]) d1 d2⟩
          case h =>
            apply SeqG.read (v := .slice LA LN LC) [1]
            · (first | rfl | (go_simp; done) | (simp [Region.wanted, yielded]; done))
            · intro γ' W hg hI
              have hx : W.heap[X]? = some (.cells #[.slice LA LN LC] 22 (0, 0)) := by
                have := hI.2.1
                rw [hg 1 (by simp), hq1] at this
                exact this
              have x0 : W.cell? ⟨X, 0, none⟩ = some (.slice LA LN LC) := (cell_of_row _ _ _ _ _ _ hx).trans rfl
              go_simp
            go_simp
            apply SeqG.read (v := .agg #[fun1 Bv, fun2 Bv, fun3 Bv]) []
            · (first | rfl | (go_simp; done) | (simp [Region.wanted, yielded]; done))
            · exact fun γ' W hg hI => exec_load rfl rfl (run_load_blk rdrInfo rdrRow (HRF.out W hI.1).1)
            go_simp
            apply SeqG.callPE [0] (some 0) (fun _ v x => ∃ A n c, v = .agg (erow ⟨⟨ek, eb, ec, err, ea⟩, .slice A n c⟩) ∧ x = gst 1 #[.slice A n c]) 41 #[.agg #[fun1 Bv, fun2 Bv, fun3 Bv]]
            · exact fun _ _ => rfl
            · (first | rfl | (go_simp; done) | (simp [Region.wanted, yielded]; done))
            · intro w; kernel_rfl
            · exact ⟨_, _, none, 0, 0, rfl, rfl⟩
            · exact fun γ' W hg hI => le_call HEV.out HBl2.out.2.2 hXB rfl HBl2.out.1 ((hg 0 (by simp)).trans hq0) hI
            rintro v1 x1 ⟨A1, n1, c1, rfl, rfl⟩
            unfold erow
            go_simp
            apply SeqG.valE [0] (some 0) (fun γ v x => ∃ Y, v = .slice (some ⟨Y, 0, none⟩) 1 1 ∧ x = gst 2 #[gv 0 (γ 0), v])
            · exact fun γ' hg => by rw [hg 0 (by simp)]
            · (first | rfl | (go_simp; done) | (simp [Region.wanted, yielded]; done))
            · exact ⟨_, _, 0, rfl, rfl⟩
            · intro γ' W hg hI
              have h0 : γ' 0 = gst 1 #[.slice A1 n1 c1] := (hg 0 (by simp)).trans (Gh.set_here _ _ _)
              refine ⟨_, _, W.alloc (.cells (erow ⟨⟨ek, eb, ec, err, ea⟩, .slice A1 n1 c1⟩) 48), ?_, ⟨W.heap.size, rfl, rfl⟩, ?_⟩
              · kernel_rfl
              · rw [Gh.set_here]
                exact le_new HBl2.out.2.2 h0 hI HBl2.out.1
            rintro v2 x2 ⟨Y, rfl, rfl⟩
            rw [Gh.set_here]
            go_simp
            apply SeqG.valE [0] (some 0) (fun γ v x => ∃ A n c, v = .slice A n c ∧ x = gst 3 #[gv 0 (γ 0), .slice A n c])
            · exact fun γ' hg => by rw [hg 0 (by simp)]
            · (first | rfl | (go_simp; done) | (simp [Region.wanted, yielded]; done))
            · exact ⟨_, _, none, 0, 0, rfl, rfl⟩
            · intro γ' W hg hI
              have h0 : γ' 0 = gst 2 #[.slice A1 n1 c1, .slice (some ⟨Y, 0, none⟩) 1 1] := (hg 0 (by simp)).trans (Gh.set_here _ _ _)
              rw [Gh.set_here]
              exact le_app (P := P) (s := .tmp 15) (x := .tmp 18) rfl rfl rfl HBl2.out.2.2 rfl HBl2.out.1 (by omega) h0 hI
            rintro v3 x3 ⟨A3, n3, c3, rfl, rfl⟩
            rw [Gh.set_here]
            go_simp
            apply SeqG.skipE [0, 1] (some 1) (fun γ v x => v = undef ∧ x = gst 4 #[gv 1 (γ 0)])
            · exact fun γ' hg => by rw [hg 0 (by simp)]
            · (first | rfl | (go_simp; done) | (simp [Region.wanted, yielded]; done))
            · exact ⟨_, _, rfl, rfl⟩
            · intro γ' W hg hI
              have h0 : γ' 0 = gst 3 #[.slice A1 n1 c1, .slice A3 n3 c3] := (hg 0 (by simp)).trans (Gh.set_here _ _ _)
              have h1 : γ' 1 = none := (hg 1 (by simp)).trans (by rw [Gh.set_far _ _ (by decide), Gh.set_far _ _ (by decide), Gh.set_far _ _ (by decide)]; exact hq1)
              rw [Gh.set_here]
              exact le_store (P := P) (v := .slice A3 n3 c3) (s := .tmp 1) (x := .tmp 19) rfl rfl rfl ⟨_, _, _, rfl⟩ rfl HBl2.out.2.2 rfl hXB h0 h1 hI
            rintro v4 x4 ⟨rfl, rfl⟩
            rw [Gh.set_here]
            go_simp
            apply SeqG.done
            intro w9 hI9
            obtain ⟨i1, i2, i3⟩ := hI9
            rw [Gh.set_here] at i2
            rw [Gh.set_far _ _ (by decide), Gh.set_here] at i3
            obtain ⟨j0, j1, j2⟩ : (evT b).1 = 0 ∧ Rd w9 Bv b2 ∧ OwE w9 W2.heap.size (.slice A3 n3 c3) (P ++ [HE.mk ⟨ek, eb, ec, err, ea⟩ (.slice A1 n1 c1)]) := i3
            have HNX : Hid (LS W2 Bv X n r0 b2 (.slice A3 n3 c3) (P ++ [HE.mk ⟨ek, eb, ec, err, ea⟩ (.slice A1 n1 c1)]) w9) := Lib.hid (by
              have := HLS.out.next (L' := .slice A3 n3 c3) (u := .slice A1 n1 c1) (W' := w9) (by omega) j0 i1 (by rw [HEV2.out.2]; exact j1) i2 (by rw [HEV2.out.1]; exact j2)
              rw [HEV2.out.1, HEV2.out.2] at this
              exact this)
            clear i1 i2 j0 j1 j2 HLS HJ0 hq0 hq1
            go_simp
            go_wp2_with fail
            go_roundw
            case rel => exact ⟨k + 1, b2, _, _, by omega, by go_num, by rw [List.length_append, hPl]; rfl, HNX⟩
            case measure => simp [intOf] <;> omega
          case hl => rfl
          case ho => kernel_rfl
        · obtain rfl : k = n := by omega
          have hki : ¬ (k : Int) < (k : Int) := by omega
          have z2 : wr.cell? ⟨Rv, 2, none⟩ = some (.func (.func 56) #[] #[.pointer (some ⟨Bv, 0, none⟩)]) := (cell_of_row _ _ _ _ _ _ (HRF.out wr HLS.out.inv).1).trans rfl
          have hRl := (HRF.out wr HLS.out.inv).2.1
          have HEQ : Hid (evsT k r0 = (0, P.map HE.e, b)) := Lib.hid (by
            have := HLS.out.eq
            rw [show k - P.length = 0 by omega] at this
            rw [this]
            simp [evsT])
          go_wp2_with fail
          refine (end_any Bv _ wr HLS.out.rd).mono ?_
          rintro e wD (⟨g1, rfl, rfl⟩ | ⟨g1, rfl, rfl⟩)
          · have HP : Hid (RE1Post w X bs (.returned (.tuple #[])) wD) := Lib.hid (by
              have e1 : readEvS bs = (0, P.map HE.e) := by rw [HREST.out, HEQ.out]; simp [g1]
              refine .inl ⟨rfl, by rw [e1], ?_⟩
              rw [e1]
              exact ⟨(Inv.ofBelow HBW.out).then HLS.out.inv (fun g hg hl => hg.elim (fun e => by omega) (fun e => e)), _, P, HLS.out.xb, HLS.out.own.mono HBW.out.size, rfl⟩)
            clear g1
            go_wp2_with fail
            exact bodyPost_end (v := .tuple #[]) (results_none rfl _ _ _) rfl HP.out
          · have HP : Hid (RE1Post w X bs (.panicked (panE 8)) wD) := Lib.hid (re1_pan HBW.out (by omega) (by
              rw [HREST.out, HEQ.out]
              simp [List.length_pos_iff, g1]) (by decide) HLS.out.inv)
            clear g1
            go_wp2_with fail
            exact ⟨rfl, HP.out⟩
    · have hbi : ¬ (n : Int) ≤ 4096 := by omega
      have hbd : decide ((n : Int) ≤ 4096) = false := decide_eq_false hbi
      have HP : Hid (RE1Post w X bs (.panicked (panE 8)) w3) := Lib.hid (re1_pan HBW.out (by omega) (by rw [rdE_many HLEN.out HRS.out.1 (by omega)]) (by decide) HI3.out)
      go_wp2_with fail
      refine (need_no 8 w3).mono ?_
      rintro e wz ⟨rfl, hwz⟩
      subst wz
      go_wp2_with fail
      exact ⟨rfl, HP.out⟩
  · have HP : Hid (RE1Post w X bs (.panicked (panE er)) w3) := Lib.hid (re1_pan (Bv := Bv) HBW.out (by omega) (by rw [rdE_num HLEN.out HRS.out.1 he]) he (Inv.ofBelow (Below.refl _ _)))
    clear he
    go_wp2_with fail
    exact ⟨rfl, HP.out⟩
end Go.Proofs.Ytgkiedbefogklaa
