/- What is proved: what the law UtfBack answers when it is called; conditions: the slices read as they are said to, and are of at most 1048576 elements. -/
import Derived.Test.YtghadceeckbgpaaUtfB1
set_option linter.unusedSimpArgs false
set_option linter.unusedVariables false
namespace Go.Proofs.Ytghadceeckbgpaa
open Go.RowKit
set_option maxRecDepth 100000
set_option maxHeartbeats 8000000
def flt (l : List Int) (k : Nat) : List Int := (l.take k).filter mayC
theorem flt_next {l : List Int} {k : Nat} (h : k < l.length) : flt l (k + 1) = if mayC (l.getD k 0) = true then flt l k ++ [l.getD k 0] else flt l k := by
  unfold flt
  rw [List.take_add_one, List.getElem?_eq_getElem h, List.getD_eq_getElem?_getD, List.getElem?_eq_getElem h, List.filter_append]
  simp only [Option.toList_some, Option.getD_some]
  cases hm : mayC l[k] <;> simp [List.filter, hm]
theorem flt_len (l : List Int) (k : Nat) : (flt l k).length ≤ l.length := by
  unfold flt
  have h1 := List.length_filter_le mayC (l.take k)
  have h2 : (l.take k).length ≤ l.length := by simp; omega
  omega
theorem flt_ok {l : List Int} (h : okR l) (k : Nat) : okR (flt l k) := fun x hx => h x (List.mem_of_mem_take (List.mem_filter.1 hx).1)
theorem flt_may (l : List Int) (k : Nat) : ∀ c ∈ flt l k, mayC c = true := fun c hc => (List.mem_filter.1 hc).2
def allW (ds : List Int) (k : Nat) : Bool := (ds.take k).all (fun c => c != 65533)
theorem allW_next {ds : List Int} {k : Nat} (h : k < ds.length) : allW ds (k + 1) = (allW ds k && (ds.getD k 0 != 65533)) := by
  unfold allW
  rw [List.take_add_one, List.getElem?_eq_getElem h, List.getD_eq_getElem?_getD, List.getElem?_eq_getElem h, List.all_append]
  simp
theorem allW_all {ds : List Int} (h : allW ds ds.length = true) : ∀ c ∈ ds, c ≠ 65533 := by
  unfold allW at h
  rw [List.take_length] at h
  intro c hc
  have := List.all_eq_true.1 h c hc
  simpa using this
theorem back_law (vl vb : Value) (l bs : List Int) (w : World) (h : RR w vl l) (h2 : BB w vb bs) (hl : l.length ≤ 1048576) (hb : bs.length ≤ 1048576) : Calls Try.prog 6 #[vl, vb] w fun e w' => e = .returned (.bool true) ∧ Below w.heap.size w w' := by
  have HBB := Lib.hid h2
  have HLO := Lib.hid h.ok
  obtain ⟨hok, _, A, cap, rfl, hr, _⟩ := h
  obtain ⟨A2, cap2, rfl⟩ : ∃ A cap, vb = .slice A bs.length cap := by
    obtain ⟨_, _, A, cap, e, _⟩ := h2
    exact ⟨A, cap, e⟩
  have HX := Lib.hid hr
  have hflen := flt_len l
  have HFL := Lib.hid hflen
  clear hr hok h2 hflen
  go_enter Try.func6, Try.ntmps6
  go_wp2_with fail
  go_loopw [5, 6] (fun cv i wr => ∃ k : Nat, k ≤ l.length ∧ i = .int .i64 k ∧ Hid (OwR wr w.heap.size cv (flt l k)) ∧ Hid (Below w.heap.size w wr)) (fun _ i _ => l.length - (intOf i).toNat)
  case atStart => exact ⟨0, Nat.zero_le _, rfl, Lib.hid (OwR.nil _ _), Lib.hid (Below.refl _ _)⟩
  case round =>
    obtain ⟨k, hk, rfl, HO, HB⟩ := hrel
    by_cases hlt : k < l.length
    · obtain ⟨b, off, rfl, hc⟩ := HX.out.2 (by omega)
      have hbl := HX.out.lt_ (by omega) rfl
      have cx : wr.cell? ⟨b, off + k, none⟩ = some (.int .i32 (l.getD k 0)) := ((bcell HB.out).1 b _ hbl).trans (hc k hlt)
      clear hc
      have HNX := Lib.hid (flt_next hlt)
      have hcr := HLO.out.getD k
      have HM := Lib.hid (fun W => rmay_any (l.getD k 0) W)
      have hfk := HFL.out k
      have hz := HB.out.size
      generalize mayC (l.getD k 0) = m at *
      generalize l.getD k 0 = c at *
      go_wp2_with fail
      refine (HM.out wr).mono ?_
      rintro e w0 ⟨rfl, rfl⟩
      cases m
      · have HN2 := Lib.hid (HNX.out.trans (if_neg (by simp)))
        clear HNX HM
        go_wp2_with fail
        go_roundw
        case rel =>
          first
            | exact ⟨k + 1, by omega, by go_num, by rw [HN2.out]; exact HO, HB⟩
            | ((repeat apply Exists.intro); refine ⟨?_, rfl⟩; exact ⟨k + 1, by omega, by go_num, by rw [HN2.out]; exact HO, HB⟩)
        case measure =>
          simp [intOf]
          omega
      · have HN2 := Lib.hid (HNX.out.trans (if_pos rfl))
        clear HNX HM
        go_wp2_with (at_builtin; refine wpList_appR (base := w.heap.size) rfl (.tmp 24) (.tmp 29) rfl u5 (.slice (some ⟨w0.heap.size, 0, none⟩) 1 1) (flt l k) [c] rfl ?_ rfl ?_ ?_ ?_ ?_)
        · exact HO.out.below (w1 := w0.alloc (.cells #[.int .i32 c] 21)) (by (repeat' (first | (with_reducible exact Below.refl _ _) | (with_reducible assumption) | (with_reducible refine Below.alloc ?_ ?_ _) | (with_reducible refine below_setRow ?_ ?_ _) | (with_reducible refine bl_drew ?_) | (with_reducible refine bl_drewN ?_ _) | (with_reducible refine Below.setCell ?_ ?_ _) | (with_reducible refine bl_then ?_ ?_ hb) | (with_reducible refine bl_then ?_ ?_ hb1) | (with_reducible refine bl_then ?_ ?_ hb2) | (with_reducible refine bl_then ?_ ?_ hb3) | (with_reducible refine bl_then ?_ ?_ hb4) | (with_reducible refine bl_then ?_ ?_ hb5) | (with_reducible refine bl_then ?_ ?_ hb6) | (with_reducible refine bl_then ?_ ?_ hb7) | (with_reducible refine bl_then ?_ ?_ hb8) | (with_reducible exact Nat.le_refl _) | omega | (simp only [World.size_alloc, World.size_setCell, World.size_drew, size_setRow]; omega) | (simp; omega) | (simp; done))))
        · exact RR.made w0 hcr
        · simp; omega
        · simp; omega
        · intro v7 w7 h1 h2 h3
          have HO7 := Lib.hid h1
          have HB7 := Lib.hid ((HB.out.alloc hz (.cells #[.int .i32 c] 21)).grown h2 (by simp; omega) (fun q hq => (World.ownsRow.lt HO.out q hq).1))
          clear h1 h2 h3 cx
          go_wp2_with fail
          go_roundw
          case rel =>
            first
              | exact ⟨k + 1, by omega, by go_num, by rw [HN2.out]; exact HO7, HB7⟩
              | ((repeat apply Exists.intro); refine ⟨?_, rfl⟩; exact ⟨k + 1, by omega, by go_num, by rw [HN2.out]; exact HO7, HB7⟩)
          case measure =>
            simp [intOf]
            omega
    · have hkl : k = l.length := by omega
      subst hkl
      have hi : ¬ ((l.length : Int) < (l.length : Int)) := by omega
      have HFO := Lib.hid (flt_ok HLO.out l.length)
      have hfn := HFL.out l.length
      have HDE := Lib.hid (dec_enc _ (flt_may l l.length))
      have hel := encS_len (flt l l.length)
      have HEO := Lib.hid (encS_ok (flt l l.length))
      generalize flt l l.length = cl at *
      have HENC := Lib.hid (fun v W hv => encode_any v cl W hv)
      generalize encS cl = ec at *
      go_wp2_with fail
      refine (HENC.out _ _ (HO.out.rd HFO.out (by omega))).mono ?_
      rintro e w1 ⟨⟨e1, rfl, ho⟩, hb1⟩
      have HE1 := Lib.hid (ho.rd HEO.out (by omega))
      have HO1 := Lib.hid (HO.out.below hb1)
      have HB1 := Lib.hid (bl_then HB.out HB.out.size hb1)
      clear ho hb1 HO HB HENC
      go_wp2_with fail
      refine (decode_any _ ec _ HE1.out (by omega)).mono ?_
      rw [HDE.out]
      rintro e w2 ⟨⟨d1, rfl, ho⟩, hb2⟩
      have HD2 := Lib.hid ho
      have HO2 := Lib.hid (HO1.out.below hb2)
      have HB2 := Lib.hid (bl_then HB1.out HB1.out.size hb2)
      clear ho hb2 HO1 HB1 HE1
      go_wp2_with fail
      refine (same_runes _ _ cl cl w2 (HD2.out.rd HFO.out (by omega)) (HO2.out.rd HFO.out (by omega))).mono ?_
      rintro e w3 ⟨rfl, hb3⟩
      have HB3 := Lib.hid (bl_then HB2.out HB2.out.size hb3)
      clear hb3 HO2 HB2 HD2
      simp only [decide_true]
      go_wp2_with fail
      refine (new_any w3).mono ?_
      rintro e w4 ⟨rfl, hkp, hb4⟩
      have hRw : w.heap.size ≤ w3.heap.size := HB3.out.size
      have hR4 : w3.heap.size < w4.heap.size := hkp.lt
      have HK4 := Lib.hid hkp
      have HB4 := Lib.hid (bl_then HB3.out hRw hb4)
      clear hkp hb4 HB3 HEO HDE HFO
      obtain ⟨R, hR⟩ : ∃ R, w3.heap.size = R := ⟨_, rfl⟩
      rw [hR] at hRw hR4 HK4
      have HDL := Lib.hid (decS_len bs.length bs (Nat.le_refl _))
      have HDO := Lib.hid (decS_okR bs HBB.out.ok)
      have HED := Lib.hid (enc_dec bs.length bs (Nat.le_refl _) HBB.out.ok)
      have HDB := Lib.hid (fun v W hv => decode_any v bs W hv (by omega))
      have HS0 : Hid (([] : List Int) ++ decS ([] ++ bs.drop 0) = decS bs) := Lib.hid rfl
      have HTD := Lib.hid (fun (ks : List Int) (c : Int) (r : List Int) => take_dec (ks ++ [c]).length (ks ++ [c]) r (Nat.le_refl _))
      go_wp2_with fail
      (try rw [hR])
      have HR := Lib.hid hR
      clear hR
      go_loopw [8, 9] (fun gv i wr => ∃ (k : Nat) (ks g : List Int), k ≤ bs.length ∧ i = .int .i64 k ∧ ks.length ≤ 3 ∧ Hid (Keeps wr R ks) ∧ Hid (OwR wr w4.heap.size gv g) ∧ Hid (g ++ decS (ks ++ bs.drop k) = decS bs) ∧ Hid (okR g) ∧ Hid (Below w.heap.size w wr) ∧ w4.heap.size ≤ wr.heap.size) (fun _ i _ => bs.length - (intOf i).toNat)
      case atStart => exact ⟨0, [], [], Nat.zero_le _, rfl, by simp, HK4, Lib.hid (OwR.nil _ _), HS0, Lib.hid okR.nil, HB4, Nat.le_refl _⟩
      case round =>
        clear HK4 HB4 HS0
        obtain ⟨k, ks, g, hk, rfl, hks, HK, HG, HE, HGO, HB, hz⟩ := hrel
        have hgl : g.length ≤ bs.length := by
          have h := congrArg List.length HE.out
          rw [List.length_append] at h
          have := HDL.out
          omega
        by_cases hlt : k < bs.length
        · obtain ⟨_, _, _, _, e9, hr9, _⟩ := HBB.out
          simp only [Value.slice.injEq] at e9
          obtain ⟨rfl, _, rfl⟩ := e9
          obtain ⟨b, off, rfl, hc⟩ := hr9.2 (by omega)
          have hbl := hr9.lt_ (by omega) rfl
          have cx : wr.cell? ⟨b, off + k, none⟩ = some (.int .u8 (bs.getD k 0)) := ((bcell HB.out).1 b _ hbl).trans (hc k hlt)
          have hc0 := HBB.out.ok.getD k
          clear hc hr9
          have hdk : bs.drop k = bs.getD k 0 :: bs.drop (k + 1) := by
            rw [List.drop_eq_getElem_cons hlt, List.getD_eq_getElem?_getD, List.getElem?_eq_getElem hlt]
            rfl
          have HTK := Lib.hid (fun W hW => take_any R (bs.getD k 0) ks W hW hks hc0)
          have htd := HTD.out ks (bs.getD k 0) (bs.drop (k + 1))
          obtain ⟨ls, hls⟩ : ∃ ls, ks ++ [bs.getD k 0] = ls := ⟨_, rfl⟩
          have hllen : ls.length ≤ 4 := by rw [← hls]; simp; omega
          have hlo : okB ls := by
            rw [← hls]
            refine HK.out.ok.1.app ?_
            intro x hx
            obtain rfl := List.mem_singleton.1 hx
            exact hc0
          have HE2 : Hid (g ++ (tkS ls).1 ++ decS ((tkS ls).2 ++ bs.drop (k + 1)) = decS bs) := Lib.hid (by
            rw [← HE.out, hdk, List.append_assoc]
            congr 1
            rw [← hls, ← htd, List.append_assoc]
            rfl)
          rw [hls] at HTK
          obtain ⟨t1, t2, t3, t4⟩ := tkS_rest ls.length ls (Nat.le_refl _) hlo
          have HT4 := Lib.hid t4
          clear htd hls hdk hlo t2 t4 HE
          generalize (tkS ls).1 = rs at *
          generalize (tkS ls).2 = ks2 at *
          generalize bs.getD k 0 = c at *
          go_wp2_with fail
          refine (HTK.out wr HK.out).mono ?_
          rintro e w5 ⟨⟨u, rfl, ho⟩, hkp, hgr⟩
          have HG5 := Lib.hid (HG.out.far hgr hR4)
          have HU5 := Lib.hid (ho.rd HT4.out (by omega))
          have HB5 := Lib.hid (HB.out.grown hgr HB.out.size (fun q hq => by obtain rfl := Option.some.inj hq; exact hRw))
          have HK5 := Lib.hid hkp
          have hz5 := hgr.size
          clear ho hkp hgr HTK HG HB HK cx
          go_wp2_with (at_builtin; refine wpList_appR (base := w4.heap.size) rfl (.tmp 44) (.tmp 50) rfl u8 u g rs rfl HG5.out rfl HU5.out (by omega) (by omega) ?_)
          intro v6 w6 h1 h2 h3
          have HG6 := Lib.hid h1
          have HK6 := Lib.hid (HK5.out.keep (h2.block R HK5.out.lt (fun e => by have := (World.ownsRow.lt HG5.out R e.symm).1; omega)))
          have HB6 := Lib.hid (HB5.out.grown h2 HB5.out.size (fun q hq => by have := (World.ownsRow.lt HG5.out q hq).1; omega))
          have hz6 := h2.size
          have HGO6 := Lib.hid (HGO.out.app HT4.out)
          clear h1 h2 h3 HG5 HK5 HB5 HU5
          go_wp2_with fail
          refine (waits_any R ks2 w6 HK6.out).mono ?_
          rintro e w7 ⟨rfl, rfl⟩
          have h3i : ¬ (3 : Int) < (ks2.length : Int) := by omega
          go_wp2_with fail
          go_roundw
          case rel =>
            first
              | exact ⟨k + 1, ks2, g ++ rs, by omega, by go_num, t1, HK6, HG6, HE2, HGO6, HB6, by omega⟩
              | ((repeat apply Exists.intro); refine ⟨?_, rfl⟩; exact ⟨k + 1, ks2, g ++ rs, by omega, by go_num, t1, HK6, HG6, HE2, HGO6, HB6, by omega⟩)
          case measure =>
            simp [intOf]
            omega
        · have hkb : k = bs.length := by omega
          subst hkb
          have hi2 : ¬ ((bs.length : Int) < (bs.length : Int)) := by omega
          have HE2 : Hid (g ++ decS ks = decS bs) := Lib.hid (by have h := HE.out; rw [List.drop_length, List.append_nil] at h; exact h)
          have HKO := Lib.hid (decS_okR ks HK.out.ok.1)
          have hkl2 := decS_len ks.length ks (Nat.le_refl _)
          have HEN := Lib.hid (end_any R ks wr HK.out)
          clear HE HTD
          generalize decS ks = dk at *
          generalize decS bs = ds at *
          have hdl := HDL.out
          go_wp2_with fail
          refine HEN.out.mono ?_
          rintro e w5 ⟨⟨u, rfl, ho⟩, hkp, hgr⟩
          have HG5 := Lib.hid (HG.out.far hgr hR4)
          have HU5 := Lib.hid (ho.rd HKO.out (by omega))
          have HB5 := Lib.hid (HB.out.grown hgr HB.out.size (fun q hq => by obtain rfl := Option.some.inj hq; exact hRw))
          have hz5 := hgr.size
          clear ho hkp hgr HEN HG HB HK
          go_wp2_with (at_builtin; refine wpList_appR (base := w4.heap.size) rfl (.tmp 55) (.tmp 57) rfl u8 u g dk rfl HG5.out rfl HU5.out (by omega) (by omega) ?_)
          intro v6 w6 h1 h2 h3
          rw [HE2.out] at h1
          have HG6 := Lib.hid (h1.rd HDO.out (by omega))
          have HB6 := Lib.hid (HB5.out.grown h2 HB5.out.size (fun q hq => by have := (World.ownsRow.lt HG5.out q hq).1; omega))
          clear h1 h2 h3 HG5 HB5 HU5
          go_wp2_with fail
          refine (HDB.out _ w6 (HBB.out.below HB6.out)).mono ?_
          rintro e w7 ⟨⟨u7, rfl, ho⟩, hb7⟩
          have HA7 := Lib.hid (ho.rd HDO.out (by omega))
          have HG7 := Lib.hid (HG6.out.below hb7)
          have HB7 := Lib.hid (bl_then HB6.out HB6.out.size hb7)
          clear ho hb7 HG6 HB6 HDB
          obtain ⟨A7, c7, rfl⟩ : ∃ A cap, u7 = .slice A ds.length cap := by
            obtain ⟨_, _, A, cap, e, _⟩ := HA7.out
            exact ⟨A, cap, e⟩
          go_wp2_with fail
          go_loop [11, 12] (fun wh i => ∃ k : Nat, k ≤ ds.length ∧ i = .int .i64 k ∧ wh = .bool (allW ds k)) (fun _ i => ds.length - (intOf i).toNat)
          case atStart => exact ⟨0, Nat.zero_le _, rfl, rfl⟩
          case round =>
            obtain ⟨k, hk, rfl, rfl⟩ := hrel
            by_cases hlt : k < ds.length
            · obtain ⟨_, _, _, _, e9, hr9, _⟩ := HA7.out
              simp only [Value.slice.injEq] at e9
              obtain ⟨rfl, _, rfl⟩ := e9
              obtain ⟨b, off, rfl, hc⟩ := hr9.2 (by omega)
              have cx := hc k hlt
              clear hc hr9
              have HNX := Lib.hid (allW_next hlt)
              generalize allW ds k = aw at *
              generalize ds.getD k 0 = c at *
              cases aw
              · go_wp2_with fail
                go_round
                case rel => 
                  refine ⟨k + 1, by omega, by go_num, ?_⟩
                  rw [HNX.out]
                  rfl
                case measure =>
                  simp [intOf]
                  omega
              · go_wp2_with fail
                go_round
                case rel => 
                  refine ⟨k + 1, by omega, by go_num, ?_⟩
                  rw [HNX.out]
                  rw [Bool.true_and]
                case measure =>
                  simp [intOf]
                  omega
            · have hkd : k = ds.length := by omega
              subst hkd
              have hi3 : ¬ ((ds.length : Int) < (ds.length : Int)) := by omega
              have HAW := Lib.hid (allW_all (ds := ds))
              generalize allW ds ds.length = aw at *
              go_wp2_with fail
              refine (anchored_any w7).mono ?_
              rintro e w8 ⟨rfl, hb8⟩
              have HA8 := Lib.hid (HA7.out.below hb8)
              have HG8 := Lib.hid (HG7.out.below hb8)
              have HB8 := Lib.hid (bl_then HB7.out HB7.out.size hb8)
              clear hb8 HA7 HG7 HB7
              go_wp2_with fail
              refine (same_runes _ _ ds ds w8 HG8.out HA8.out).mono ?_
              rintro e w9 ⟨rfl, hb9⟩
              have HA9 := Lib.hid (HA8.out.below hb9)
              have HB9 := Lib.hid (bl_then HB8.out HB8.out.size hb9)
              clear hb9 HA8 HG8 HB8
              simp only [decide_true]
              cases aw
              · go_wp2_with fail
                go_ret
                exact ⟨rfl, HB9.out⟩
              · have HEE := Lib.hid (HED.out (HAW.out rfl))
                go_wp2_with fail
                refine (encode_any _ ds w9 HA9.out).mono ?_
                rw [HEE.out]
                rintro e w10 ⟨⟨u10, rfl, ho⟩, hb10⟩
                have HO10 := Lib.hid (ho.rd HBB.out.ok (by omega))
                have HB10 := Lib.hid (bl_then HB9.out HB9.out.size hb10)
                clear ho hb10 HA9 HB9
                go_wp2_with fail
                refine (same_bytes _ _ bs bs w10 HO10.out (HBB.out.below HB10.out)).mono ?_
                rintro e w11 ⟨rfl, rfl⟩
                simp only [decide_true]
                go_wp2_with fail
                go_ret
                exact ⟨rfl, HB10.out⟩
end Go.Proofs.Ytghadceeckbgpaa
