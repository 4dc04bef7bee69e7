/- What is proved: what ReadEvents of the reference answers: the same as ReadEvents of package wire; conditions: the slice reads as it is said to. -/
import Derived.Test.YtgkiedbefogklaaWireZ
import Derived.Test.YtgkiedbefogklaaWireT
set_option linter.unusedSimpArgs false
set_option linter.unusedVariables false
namespace Go.Proofs.Ytgkiedbefogklaa
open Go.RowKit
set_option maxRecDepth 100000
set_option maxHeartbeats 8000000
/-- A round of the loop. -/
structure LR (w : World) (R n : Nat) (r0 bs : List Int) (k : Nat) (b : List Int) (e : Nat) (L : Value) (P : List HE) (W : World) : Prop where
  bel : Below R w W
  rr : RR W R b e
  own : OwE W (R + 1) L P
  st : (e = 0 ∧ k ≤ n ∧ n ≤ 4096 ∧ P.length = k ∧ evsT n r0 = ((evsT (n - P.length) b).1, P.map HE.e ++ (evsT (n - P.length) b).2.1, (evsT (n - P.length) b).2.2) ∧ readEvS bs = if (evsT n r0).1 ≠ 0 then ((evsT n r0).1, []) else if 0 < (evsT n r0).2.2.length then (8, []) else (0, (evsT n r0).2.1)) ∨ (e ≠ 0 ∧ (readEvS bs).1 = e)
theorem LR.next {w W W' : World} {R n k : Nat} {r0 bs b b' : List Int} {L L' : Value} {P : List HE} {p : HE} (h : LR w R n r0 bs k b 0 L P W) (hk : k < n) (hbel : Below R w W') (hr : RR W' R b' (evT b).1) (ho : OwE W' (R + 1) L' (P ++ [p])) (he : (evT b).1 = 0 → p.e = (evT b).2.1 ∧ b' = (evT b).2.2) : LR w R n r0 bs (k + 1) b' (evT b).1 L' (P ++ [p]) W' := by
  refine ⟨hbel, hr, ho, ?_⟩
  obtain ⟨_, h1, h2, h3, h4, h5⟩ | ⟨h0, _⟩ := h.st
  · obtain ⟨m, hm⟩ : ∃ m, n - P.length = m + 1 := ⟨n - P.length - 1, by omega⟩
    by_cases h0 : (evT b).1 = 0
    · obtain ⟨g1, g2⟩ := he h0
      refine .inl ⟨h0, by omega, h2, by rw [List.length_append, h3]; rfl, ?_, h5⟩
      have e : n - (P ++ [p]).length = m := by rw [List.length_append, List.length_singleton]; omega
      rw [h4, hm, evsT_next h0, e, List.map_append, g2]
      simp [g1]
    · refine .inr ⟨h0, ?_⟩
      have e1 : (evsT n r0).1 = (evT b).1 := by rw [h4, hm, evsT_bad h0]
      rw [h5, if_pos (by rw [e1]; exact h0), e1]
  · exact absurd rfl h0
theorem rreadevents_any (v : Value) (bs : List Int) (w : World) (hv : BB w v bs) : Calls Try.prog 30 #[v] w fun e w' => REPost bs w.heap.size e w' ∧ Below w.heap.size w w' := by
  obtain ⟨R, hR⟩ : ∃ B, w.heap.size = B := ⟨_, rfl⟩
  have HV := Lib.hid hv
  have HOK := Lib.hid hv.ok
  obtain ⟨_, hlen, A0, cp0, rfl, _, _, hlc, hcm⟩ := hv
  obtain ⟨n0, hn0⟩ : ∃ n, bs.length = n := ⟨_, rfl⟩
  have HN := Lib.hid hn0
  rw [hn0] at HV hlen hlc ⊢
  clear hn0
  by_cases hbig : 65536 < n0
  · have hbi : (65536 : Int) < (n0 : Int) := by omega
    have HP := Lib.hid (REPost.err (bs := bs) (er := 4) (by rw [rdE_long (by rw [HN.out]; exact hbig)]) (by decide) w.heap.size w)
    go_enter Try.func30, Try.ntmps30
    go_wp2_with fail
    exact bodyPost_ret (v := .tuple #[.slice none 0 0, .int .i64 4]) (by simp [results, Try.results30, go_sem]) rfl ⟨HP.out, Below.refl _ _⟩
  · have hbi : ¬ (65536 : Int) < (n0 : Int) := by omega
    have hlong : ¬ 65536 < bs.length := by rw [HN.out]; exact hbig
    obtain ⟨Wa, hWa⟩ : ∃ W, w.alloc (.cells #[.slice A0 n0 cp0, .int .i64 0] 72) = W := ⟨_, rfl⟩
    have hBA : Below w.heap.size w Wa := by rw [← hWa]; exact Below.alloc (Below.refl _ _) (Nat.le_refl _) _
    have HBA := Lib.hid hBA
    have HRR0 : Hid (RR Wa R bs 0) := Lib.hid ⟨_, by rw [← hWa, ← hR]; exact heap_alloc_last _ _, HV.out.below hBA, fun hn b e => by have := HV.out.lt hn e; omega⟩
    obtain ⟨n, hn⟩ : ∃ n, numV bs 0 = n := ⟨_, rfl⟩
    obtain ⟨e0, he0⟩ : ∃ n, numE bs 0 = n := ⟨_, rfl⟩
    obtain ⟨r0, hr0⟩ : ∃ n, numB bs 0 = n := ⟨_, rfl⟩
    have HNUM : Hid (∀ e w', NumR Wa R bs 0 e w' → e = .returned (.int .u64 n) ∧ RR w' R r0 e0 ∧ Wa.grownBy w' (some R)) := Lib.hid (fun e w' h => by unfold NumR at h; rwa [hn, he0, hr0] at h)
    have hn64 : n < 18446744073709551616 := by rw [← hn]; exact numV_lt HOK.out 0
    have HSP : Hid ((e0 = 0 → n ≤ 4096 → readEvS bs = if (evsT n r0).1 ≠ 0 then ((evsT n r0).1, []) else if 0 < (evsT n r0).2.2.length then (8, []) else (0, (evsT n r0).2.1)) ∧ (e0 ≠ 0 → (readEvS bs).1 = e0) ∧ (e0 = 0 → 4096 < n → (readEvS bs).1 = 8)) := Lib.hid (by
      obtain ⟨⟨n1, c1, er⟩, hs⟩ : ∃ s, readS bs = s := ⟨_, rfl⟩
      have k3 : numE bs 0 = er := by unfold numE; rw [hs]; exact if_pos rfl
      rw [k3] at he0
      subst he0
      by_cases he : er = 0
      · subst he
        have k1 : numV bs 0 = n1 := by unfold numV; rw [hs]; exact if_pos ⟨rfl, rfl⟩
        have k2 : numB bs 0 = bs.drop c1 := by unfold numB; rw [hs]; exact if_pos ⟨rfl, rfl⟩
        rw [k1] at hn
        rw [k2] at hr0
        subst hn
        exact ⟨fun _ hn => rdE_rest hlong hs hr0 (by omega), fun h => absurd rfl h, fun _ hn => by rw [rdE_many hlong hs hn]⟩
      · exact ⟨fun h => absurd h he, fun _ => by rw [rdE_num hlong hs he], fun h => absurd h he⟩)
    clear hn he0 hr0 hlong hBA
    rw [hR]
    go_enter Try.func30, Try.ntmps30
    go_wp2_with fail
    try rw [hWa]
    refine (num_any R bs 0 Wa HRR0.out).mono ?_
    rintro e w1 hN
    obtain ⟨rfl, hrr, hg⟩ := HNUM.out _ _ hN
    have HRR1 := Lib.hid hrr
    have HB1 : Hid (Below R w w1) := Lib.hid (by have := HBA.out.grown hg HBA.out.size (fun q hq => by obtain rfl := Option.some.inj hq; omega); rwa [hR] at this)
    have i1 : w1.cell? ⟨R, 1, none⟩ = some (.int .i64 e0) := by obtain ⟨v, hv, _⟩ := hrr; exact (cell_of_row _ _ _ _ _ _ hv).trans rfl
    have if1 : w1.frozen? ⟨R, 1, none⟩ = false := by obtain ⟨v, hv, _⟩ := hrr; exact frozen_of_row w1 R 1 _ _ hv
    have il := hrr.lt
    clear hN hrr hg
    by_cases he : e0 = 0
    · subst he
      by_cases hb : 4096 < n
      · have hbi2 : (4096 : Int) < (n : Int) := by omega
        obtain ⟨w2, hw2⟩ : ∃ W, w1.setCell ⟨R, 1, none⟩ (.int .i64 8) = W := ⟨_, rfl⟩
        have HL0 : Hid (LR w R n r0 bs 0 r0 8 (.slice none 0 0) [] w2) := Lib.hid (by
          obtain ⟨v, h1, h2, h3⟩ := HRR1.out
          refine ⟨?_, ?_, OwE.nil _ _, .inr ⟨by decide, HSP.out.2.2 rfl hb⟩⟩
          · rw [← hw2]; exact HB1.out.setCell (by show R ≤ R; omega) _
          · rw [← hw2]; exact RR.errAt h1 h2 h3)
        clear HSP HRR1 HB1 hb
        go_wp2_with fail
        go_loopw [6, 7] (fun L i wr => ∃ (k : Nat) (b : List Int) (e : Nat) (P : List HE), k ≤ n ∧ i = .int .u64 k ∧ Hid (LR w R n r0 bs k b e L P wr)) (fun _ i _ => n - (intOf i).toNat)
        case atStart => exact ⟨0, r0, 8, [], by omega, rfl, HL0⟩
        case round =>
          clear HL0
          obtain ⟨k, b, e, P, hk, rfl, HLR⟩ := hrel
          obtain ⟨LA, LN, LC, hL⟩ : ∃ A n c, u6 = .slice A n c := by obtain ⟨A, c, h⟩ := HLR.out.own.form; exact ⟨_, _, _, h⟩
          subst hL
          have y1 : wr.cell? ⟨R, 1, none⟩ = some (.int .i64 e) := by obtain ⟨v, hv, _⟩ := HLR.out.rr; exact (cell_of_row _ _ _ _ _ _ hv).trans rfl
          have yl := HLR.out.rr.lt
          by_cases hlt : k < n
          · have hki : (k : Int) < (n : Int) := by omega
            by_cases he : e = 0
            · subst he
              have hkl : k ≤ 4096 ∧ P.length = k := by
                obtain ⟨_, h1, h2, h3, _⟩ | ⟨h0, _⟩ := HLR.out.st
                · omega
                · exact absurd rfl h0
              have hwk : IntKind.u64.wrap ((k : Int) + 1) = (k : Int) + 1 := by rw [IntKind.wrap_u64]; omega
              go_wp2_with fail
              refine (revent_any R b wr HLR.out.rr).mono ?_
              rintro r w2 ⟨⟨⟨ek, eb, ec, er, ea⟩, pv⟩, b', rfl, hp, hpe, hrr, hg⟩
              obtain ⟨PA, PN, PC, hpv⟩ := hp.own.form
              dsimp only at hpv
              subst hpv
              unfold erow
              have hLb : ∀ q, (Value.slice LA LN LC).ownBlock = some q → R + 1 ≤ q := fun q hq => (own_typed HLR.out.own.row hq).1
              have HO2 : Hid (OwE w2 (R + 1) (.slice LA LN LC) P) := Lib.hid (HLR.out.own.keep fun q hq hl => hg.block q hl (fun e => by have := Option.some.inj e; omega))
              have hbn : Below w2.heap.size w2 (w2.alloc (.cells #[.int .u8 ek, .slice PA PN PC, .int .i64 ec, .int .i64 er, .int .u8 ea] 48)) := Below.alloc (Below.refl _ _) (Nat.le_refl _) _
              have HP2 : Hid (EvP (w2.alloc (.cells #[.int .u8 ek, .slice PA PN PC, .int .i64 ec, .int .i64 er, .int .u8 ea] 48)) (R + 1) ⟨⟨ek, eb, ec, er, ea⟩, .slice PA PN PC⟩) := Lib.hid ((hp.mono (by omega)).below hbn)
              have HRR2 := Lib.hid (hrr.below hbn)
              have HB2 : Hid (Below R w (w2.alloc (.cells #[.int .u8 ek, .slice PA PN PC, .int .i64 ec, .int .i64 er, .int .u8 ea] 48))) := Lib.hid (bl_then (HLR.out.bel.grown hg (by have := HLR.out.bel.size; omega) (fun q hq => by obtain rfl := Option.some.inj hq; omega)) (by have := hg.size; omega) hbn)
              have HPE := Lib.hid hpe
              have HAP := Lib.hid (HLR.out.own.fresh hp (Nat.le_refl _))
              have hz2 : R < w2.heap.size := by have := hg.size; omega
              have HLB := Lib.hid hLb
              clear hp hpe hrr hg hLb
              go_wp2_with (at_builtin; refine wpList_appE (base := R + 1) (X := w2.heap.size) (v := .slice LA LN LC) (P := P) (p := ⟨⟨ek, eb, ec, er, ea⟩, .slice PA PN PC⟩) (t := 48) rfl _ _ rfl rfl rfl ?_ ?_ ?_ ?_ ?_ ?_ ?_)
              · exact HO2.out.below hbn
              · exact heap_alloc_last _ _
              · exact HP2.out
              · exact HAP.out
              · omega
              · simp; omega
              · intro v3 w3 h1 h2
                have HB3 : Hid (Below R w w3) := Lib.hid (HB2.out.grown h2 (by simp; omega) (fun q hq => by have := HLB.out q hq; omega))
                have HRR3 : Hid (RR w3 R b' (evT b).1) := Lib.hid (HRR2.out.low fun g hg => h2.block g (by simp; omega) (fun e => by have := HLB.out g e.symm; omega))
                have HNX : Hid (LR w R n r0 bs (k + 1) b' (evT b).1 v3 (P ++ [⟨⟨ek, eb, ec, er, ea⟩, .slice PA PN PC⟩]) w3) := Lib.hid (HLR.out.next hlt HB3.out HRR3.out h1 HPE.out)
                clear h1 h2 HO2 HP2 HRR2 HB2 HPE hbn HLR
                go_wp2_with fail
                go_roundw
                case rel => exact ⟨k + 1, b', (evT b).1, _, by omega, by go_num, HNX⟩
                case measure => simp [intOf] <;> omega
            · have hei : ¬ (e : Int) = 0 := by omega
              have heb : ((e : Int) == 0) = false := by simpa using he
              have HPO : Hid ((readEvS bs).1 = e) := Lib.hid (by
                obtain ⟨h0, _⟩ | ⟨_, h1⟩ := HLR.out.st
                · exact absurd h0 he
                · exact h1)
              have HNE := Lib.hid he
              go_wp2_with fail
              refine (rend_any R b e wr HLR.out.rr).mono ?_
              rintro r w2 hN
              have hN2 : r = .returned (.int .i64 (endE b e : Nat)) ∧ RR w2 R b (endE b e) ∧ wr.grownBy w2 (some R) := hN
              obtain ⟨rfl, _, hg⟩ := hN2
              rw [endE_err HNE.out]
              have HB2 : Hid (Below R w w2) := Lib.hid (HLR.out.bel.grown hg (by have := HLR.out.bel.size; omega) (fun q hq => by obtain rfl := Option.some.inj hq; omega))
              have HP : Hid (REPost bs R (.returned (.tuple #[.slice none 0 0, .int .i64 e])) w2) := Lib.hid (REPost.err HPO.out HNE.out _ _)
              clear hN hg
              go_wp2_with fail
              exact bodyPost_ret (v := .tuple #[.slice none 0 0, .int .i64 e]) (by simp [results, Try.results30, go_sem]) rfl ⟨HP.out, HB2.out⟩
          · have hki : ¬ (k : Int) < (n : Int) := by omega
            by_cases he : e = 0
            · subst he
              obtain ⟨_, h1, h2, h3, h4, h5⟩ | ⟨h0, _⟩ := HLR.out.st
              · have e4 : evsT n r0 = (0, P.map HE.e, b) := by
                  rw [h4, show n - P.length = 0 by omega]
                  simp [evsT]
                rw [e4] at h5
                have HF : Hid (readEvS bs = if 0 < b.length then (8, []) else (0, P.map HE.e)) := Lib.hid (by rw [h5]; simp)
                clear h4 h5 e4 h1 h2 h3
                go_wp2_with fail
                refine (rend_any R b 0 wr HLR.out.rr).mono ?_
                rintro r w2 hN
                obtain ⟨er, her⟩ : ∃ er, endE b 0 = er := ⟨_, rfl⟩
                have hN2 : r = .returned (.int .i64 (endE b 0 : Nat)) ∧ RR w2 R b (endE b 0) ∧ wr.grownBy w2 (some R) := hN
                obtain ⟨rfl, _, hg⟩ := hN2
                rw [her]
                have HB2 : Hid (Below R w w2) := Lib.hid (HLR.out.bel.grown hg (by have := HLR.out.bel.size; omega) (fun q hq => by obtain rfl := Option.some.inj hq; omega))
                have HO2 : Hid (OwE w2 (R + 1) (.slice LA LN LC) P) := Lib.hid (HLR.out.own.keep fun q hq hl => hg.block q hl (fun e => by have := Option.some.inj e; omega))
                clear hN hg
                by_cases hbl : 0 < b.length
                · have h8 : er = 8 := by rw [← her]; unfold endE; exact if_pos ⟨rfl, hbl⟩
                  subst h8
                  have HP : Hid (REPost bs R (.returned (.tuple #[.slice none 0 0, .int .i64 8])) w2) := Lib.hid (REPost.err (er := 8) (by rw [HF.out, if_pos hbl]) (by decide) _ _)
                  clear hbl her
                  go_wp2_with fail
                  exact bodyPost_ret (v := .tuple #[.slice none 0 0, .int .i64 8]) (by simp [results, Try.results30, go_sem]) rfl ⟨HP.out, HB2.out⟩
                · have h8 : er = 0 := by rw [← her]; unfold endE; exact if_neg (fun h => hbl h.2)
                  subst h8
                  have HP : Hid (REPost bs R (.returned (.tuple #[.slice LA LN LC, .int .i64 0])) w2) := Lib.hid ⟨_, P, by rw [HF.out, if_neg hbl]; rfl, HO2.out.mono (by omega), by rw [HF.out, if_neg hbl]⟩
                  clear hbl her
                  go_wp2_with fail
                  exact bodyPost_ret (v := .tuple #[.slice LA LN LC, .int .i64 0]) (by simp [results, Try.results30, go_sem]) rfl ⟨HP.out, HB2.out⟩
              · exact absurd rfl h0
            · have hei : ¬ (e : Int) = 0 := by omega
              have heb : ((e : Int) == 0) = false := by simpa using he
              have HPO : Hid ((readEvS bs).1 = e) := Lib.hid (by
                obtain ⟨h0, _⟩ | ⟨_, h1⟩ := HLR.out.st
                · exact absurd h0 he
                · exact h1)
              have HNE := Lib.hid he
              go_wp2_with fail
              refine (rend_any R b e wr HLR.out.rr).mono ?_
              rintro r w2 hN
              have hN2 : r = .returned (.int .i64 (endE b e : Nat)) ∧ RR w2 R b (endE b e) ∧ wr.grownBy w2 (some R) := hN
              obtain ⟨rfl, _, hg⟩ := hN2
              rw [endE_err HNE.out]
              have HB2 : Hid (Below R w w2) := Lib.hid (HLR.out.bel.grown hg (by have := HLR.out.bel.size; omega) (fun q hq => by obtain rfl := Option.some.inj hq; omega))
              have HP : Hid (REPost bs R (.returned (.tuple #[.slice none 0 0, .int .i64 e])) w2) := Lib.hid (REPost.err HPO.out HNE.out _ _)
              clear hN hg
              go_wp2_with fail
              exact bodyPost_ret (v := .tuple #[.slice none 0 0, .int .i64 e]) (by simp [results, Try.results30, go_sem]) rfl ⟨HP.out, HB2.out⟩
      · have hbi2 : ¬ (4096 : Int) < (n : Int) := by omega
        have HL0 : Hid (LR w R n r0 bs 0 r0 0 (.slice none 0 0) [] w1) := Lib.hid ⟨HB1.out, HRR1.out, OwE.nil _ _, .inl ⟨rfl, by omega, by omega, rfl, by simp, HSP.out.1 rfl (by omega)⟩⟩
        clear HSP HRR1 HB1 hb
        go_wp2_with fail
        go_loopw [6, 7] (fun L i wr => ∃ (k : Nat) (b : List Int) (e : Nat) (P : List HE), k ≤ n ∧ i = .int .u64 k ∧ Hid (LR w R n r0 bs k b e L P wr)) (fun _ i _ => n - (intOf i).toNat)
        case atStart => exact ⟨0, r0, 0, [], by omega, rfl, HL0⟩
        case round =>
          clear HL0
          obtain ⟨k, b, e, P, hk, rfl, HLR⟩ := hrel
          obtain ⟨LA, LN, LC, hL⟩ : ∃ A n c, u6 = .slice A n c := by obtain ⟨A, c, h⟩ := HLR.out.own.form; exact ⟨_, _, _, h⟩
          subst hL
          have y1 : wr.cell? ⟨R, 1, none⟩ = some (.int .i64 e) := by obtain ⟨v, hv, _⟩ := HLR.out.rr; exact (cell_of_row _ _ _ _ _ _ hv).trans rfl
          have yl := HLR.out.rr.lt
          by_cases hlt : k < n
          · have hki : (k : Int) < (n : Int) := by omega
            by_cases he : e = 0
            · subst he
              have hkl : k ≤ 4096 ∧ P.length = k := by
                obtain ⟨_, h1, h2, h3, _⟩ | ⟨h0, _⟩ := HLR.out.st
                · omega
                · exact absurd rfl h0
              have hwk : IntKind.u64.wrap ((k : Int) + 1) = (k : Int) + 1 := by rw [IntKind.wrap_u64]; omega
              go_wp2_with fail
              refine (revent_any R b wr HLR.out.rr).mono ?_
              rintro r w2 ⟨⟨⟨ek, eb, ec, er, ea⟩, pv⟩, b', rfl, hp, hpe, hrr, hg⟩
              obtain ⟨PA, PN, PC, hpv⟩ := hp.own.form
              dsimp only at hpv
              subst hpv
              unfold erow
              have hLb : ∀ q, (Value.slice LA LN LC).ownBlock = some q → R + 1 ≤ q := fun q hq => (own_typed HLR.out.own.row hq).1
              have HO2 : Hid (OwE w2 (R + 1) (.slice LA LN LC) P) := Lib.hid (HLR.out.own.keep fun q hq hl => hg.block q hl (fun e => by have := Option.some.inj e; omega))
              have hbn : Below w2.heap.size w2 (w2.alloc (.cells #[.int .u8 ek, .slice PA PN PC, .int .i64 ec, .int .i64 er, .int .u8 ea] 48)) := Below.alloc (Below.refl _ _) (Nat.le_refl _) _
              have HP2 : Hid (EvP (w2.alloc (.cells #[.int .u8 ek, .slice PA PN PC, .int .i64 ec, .int .i64 er, .int .u8 ea] 48)) (R + 1) ⟨⟨ek, eb, ec, er, ea⟩, .slice PA PN PC⟩) := Lib.hid ((hp.mono (by omega)).below hbn)
              have HRR2 := Lib.hid (hrr.below hbn)
              have HB2 : Hid (Below R w (w2.alloc (.cells #[.int .u8 ek, .slice PA PN PC, .int .i64 ec, .int .i64 er, .int .u8 ea] 48))) := Lib.hid (bl_then (HLR.out.bel.grown hg (by have := HLR.out.bel.size; omega) (fun q hq => by obtain rfl := Option.some.inj hq; omega)) (by have := hg.size; omega) hbn)
              have HPE := Lib.hid hpe
              have HAP := Lib.hid (HLR.out.own.fresh hp (Nat.le_refl _))
              have hz2 : R < w2.heap.size := by have := hg.size; omega
              have HLB := Lib.hid hLb
              clear hp hpe hrr hg hLb
              go_wp2_with (at_builtin; refine wpList_appE (base := R + 1) (X := w2.heap.size) (v := .slice LA LN LC) (P := P) (p := ⟨⟨ek, eb, ec, er, ea⟩, .slice PA PN PC⟩) (t := 48) rfl _ _ rfl rfl rfl ?_ ?_ ?_ ?_ ?_ ?_ ?_)
              · exact HO2.out.below hbn
              · exact heap_alloc_last _ _
              · exact HP2.out
              · exact HAP.out
              · omega
              · simp; omega
              · intro v3 w3 h1 h2
                have HB3 : Hid (Below R w w3) := Lib.hid (HB2.out.grown h2 (by simp; omega) (fun q hq => by have := HLB.out q hq; omega))
                have HRR3 : Hid (RR w3 R b' (evT b).1) := Lib.hid (HRR2.out.low fun g hg => h2.block g (by simp; omega) (fun e => by have := HLB.out g e.symm; omega))
                have HNX : Hid (LR w R n r0 bs (k + 1) b' (evT b).1 v3 (P ++ [⟨⟨ek, eb, ec, er, ea⟩, .slice PA PN PC⟩]) w3) := Lib.hid (HLR.out.next hlt HB3.out HRR3.out h1 HPE.out)
                clear h1 h2 HO2 HP2 HRR2 HB2 HPE hbn HLR
                go_wp2_with fail
                go_roundw
                case rel => exact ⟨k + 1, b', (evT b).1, _, by omega, by go_num, HNX⟩
                case measure => simp [intOf] <;> omega
            · have hei : ¬ (e : Int) = 0 := by omega
              have heb : ((e : Int) == 0) = false := by simpa using he
              have HPO : Hid ((readEvS bs).1 = e) := Lib.hid (by
                obtain ⟨h0, _⟩ | ⟨_, h1⟩ := HLR.out.st
                · exact absurd h0 he
                · exact h1)
              have HNE := Lib.hid he
              go_wp2_with fail
              refine (rend_any R b e wr HLR.out.rr).mono ?_
              rintro r w2 hN
              have hN2 : r = .returned (.int .i64 (endE b e : Nat)) ∧ RR w2 R b (endE b e) ∧ wr.grownBy w2 (some R) := hN
              obtain ⟨rfl, _, hg⟩ := hN2
              rw [endE_err HNE.out]
              have HB2 : Hid (Below R w w2) := Lib.hid (HLR.out.bel.grown hg (by have := HLR.out.bel.size; omega) (fun q hq => by obtain rfl := Option.some.inj hq; omega))
              have HP : Hid (REPost bs R (.returned (.tuple #[.slice none 0 0, .int .i64 e])) w2) := Lib.hid (REPost.err HPO.out HNE.out _ _)
              clear hN hg
              go_wp2_with fail
              exact bodyPost_ret (v := .tuple #[.slice none 0 0, .int .i64 e]) (by simp [results, Try.results30, go_sem]) rfl ⟨HP.out, HB2.out⟩
          · have hki : ¬ (k : Int) < (n : Int) := by omega
            by_cases he : e = 0
            · subst he
              obtain ⟨_, h1, h2, h3, h4, h5⟩ | ⟨h0, _⟩ := HLR.out.st
              · have e4 : evsT n r0 = (0, P.map HE.e, b) := by
                  rw [h4, show n - P.length = 0 by omega]
                  simp [evsT]
                rw [e4] at h5
                have HF : Hid (readEvS bs = if 0 < b.length then (8, []) else (0, P.map HE.e)) := Lib.hid (by rw [h5]; simp)
                clear h4 h5 e4 h1 h2 h3
                go_wp2_with fail
                refine (rend_any R b 0 wr HLR.out.rr).mono ?_
                rintro r w2 hN
                obtain ⟨er, her⟩ : ∃ er, endE b 0 = er := ⟨_, rfl⟩
                have hN2 : r = .returned (.int .i64 (endE b 0 : Nat)) ∧ RR w2 R b (endE b 0) ∧ wr.grownBy w2 (some R) := hN
                obtain ⟨rfl, _, hg⟩ := hN2
                rw [her]
                have HB2 : Hid (Below R w w2) := Lib.hid (HLR.out.bel.grown hg (by have := HLR.out.bel.size; omega) (fun q hq => by obtain rfl := Option.some.inj hq; omega))
                have HO2 : Hid (OwE w2 (R + 1) (.slice LA LN LC) P) := Lib.hid (HLR.out.own.keep fun q hq hl => hg.block q hl (fun e => by have := Option.some.inj e; omega))
                clear hN hg
                by_cases hbl : 0 < b.length
                · have h8 : er = 8 := by rw [← her]; unfold endE; exact if_pos ⟨rfl, hbl⟩
                  subst h8
                  have HP : Hid (REPost bs R (.returned (.tuple #[.slice none 0 0, .int .i64 8])) w2) := Lib.hid (REPost.err (er := 8) (by rw [HF.out, if_pos hbl]) (by decide) _ _)
                  clear hbl her
                  go_wp2_with fail
                  exact bodyPost_ret (v := .tuple #[.slice none 0 0, .int .i64 8]) (by simp [results, Try.results30, go_sem]) rfl ⟨HP.out, HB2.out⟩
                · have h8 : er = 0 := by rw [← her]; unfold endE; exact if_neg (fun h => hbl h.2)
                  subst h8
                  have HP : Hid (REPost bs R (.returned (.tuple #[.slice LA LN LC, .int .i64 0])) w2) := Lib.hid ⟨_, P, by rw [HF.out, if_neg hbl]; rfl, HO2.out.mono (by omega), by rw [HF.out, if_neg hbl]⟩
                  clear hbl her
                  go_wp2_with fail
                  exact bodyPost_ret (v := .tuple #[.slice LA LN LC, .int .i64 0]) (by simp [results, Try.results30, go_sem]) rfl ⟨HP.out, HB2.out⟩
              · exact absurd rfl h0
            · have hei : ¬ (e : Int) = 0 := by omega
              have heb : ((e : Int) == 0) = false := by simpa using he
              have HPO : Hid ((readEvS bs).1 = e) := Lib.hid (by
                obtain ⟨h0, _⟩ | ⟨_, h1⟩ := HLR.out.st
                · exact absurd h0 he
                · exact h1)
              have HNE := Lib.hid he
              go_wp2_with fail
              refine (rend_any R b e wr HLR.out.rr).mono ?_
              rintro r w2 hN
              have hN2 : r = .returned (.int .i64 (endE b e : Nat)) ∧ RR w2 R b (endE b e) ∧ wr.grownBy w2 (some R) := hN
              obtain ⟨rfl, _, hg⟩ := hN2
              rw [endE_err HNE.out]
              have HB2 : Hid (Below R w w2) := Lib.hid (HLR.out.bel.grown hg (by have := HLR.out.bel.size; omega) (fun q hq => by obtain rfl := Option.some.inj hq; omega))
              have HP : Hid (REPost bs R (.returned (.tuple #[.slice none 0 0, .int .i64 e])) w2) := Lib.hid (REPost.err HPO.out HNE.out _ _)
              clear hN hg
              go_wp2_with fail
              exact bodyPost_ret (v := .tuple #[.slice none 0 0, .int .i64 e]) (by simp [results, Try.results30, go_sem]) rfl ⟨HP.out, HB2.out⟩
    · have hei : ¬ (e0 : Int) = 0 := by omega
      have heb : ((e0 : Int) == 0) = false := by simpa using he
      have HL0 : Hid (LR w R n r0 bs 0 r0 e0 (.slice none 0 0) [] w1) := Lib.hid ⟨HB1.out, HRR1.out, OwE.nil _ _, .inr ⟨he, HSP.out.2.1 he⟩⟩
      clear HSP HRR1 HB1
      go_wp2_with fail
      go_loopw [6, 7] (fun L i wr => ∃ (k : Nat) (b : List Int) (e : Nat) (P : List HE), k ≤ n ∧ i = .int .u64 k ∧ Hid (LR w R n r0 bs k b e L P wr)) (fun _ i _ => n - (intOf i).toNat)
      case atStart => exact ⟨0, r0, e0, [], by omega, rfl, HL0⟩
      case round =>
        clear HL0
        obtain ⟨k, b, e, P, hk, rfl, HLR⟩ := hrel
        obtain ⟨LA, LN, LC, hL⟩ : ∃ A n c, u6 = .slice A n c := by obtain ⟨A, c, h⟩ := HLR.out.own.form; exact ⟨_, _, _, h⟩
        subst hL
        have y1 : wr.cell? ⟨R, 1, none⟩ = some (.int .i64 e) := by obtain ⟨v, hv, _⟩ := HLR.out.rr; exact (cell_of_row _ _ _ _ _ _ hv).trans rfl
        have yl := HLR.out.rr.lt
        by_cases hlt : k < n
        · have hki : (k : Int) < (n : Int) := by omega
          by_cases he : e = 0
          · subst he
            have hkl : k ≤ 4096 ∧ P.length = k := by
              obtain ⟨_, h1, h2, h3, _⟩ | ⟨h0, _⟩ := HLR.out.st
              · omega
              · exact absurd rfl h0
            have hwk : IntKind.u64.wrap ((k : Int) + 1) = (k : Int) + 1 := by rw [IntKind.wrap_u64]; omega
            go_wp2_with fail
            refine (revent_any R b wr HLR.out.rr).mono ?_
            rintro r w2 ⟨⟨⟨ek, eb, ec, er, ea⟩, pv⟩, b', rfl, hp, hpe, hrr, hg⟩
            obtain ⟨PA, PN, PC, hpv⟩ := hp.own.form
            dsimp only at hpv
            subst hpv
            unfold erow
            have hLb : ∀ q, (Value.slice LA LN LC).ownBlock = some q → R + 1 ≤ q := fun q hq => (own_typed HLR.out.own.row hq).1
            have HO2 : Hid (OwE w2 (R + 1) (.slice LA LN LC) P) := Lib.hid (HLR.out.own.keep fun q hq hl => hg.block q hl (fun e => by have := Option.some.inj e; omega))
            have hbn : Below w2.heap.size w2 (w2.alloc (.cells #[.int .u8 ek, .slice PA PN PC, .int .i64 ec, .int .i64 er, .int .u8 ea] 48)) := Below.alloc (Below.refl _ _) (Nat.le_refl _) _
            have HP2 : Hid (EvP (w2.alloc (.cells #[.int .u8 ek, .slice PA PN PC, .int .i64 ec, .int .i64 er, .int .u8 ea] 48)) (R + 1) ⟨⟨ek, eb, ec, er, ea⟩, .slice PA PN PC⟩) := Lib.hid ((hp.mono (by omega)).below hbn)
            have HRR2 := Lib.hid (hrr.below hbn)
            have HB2 : Hid (Below R w (w2.alloc (.cells #[.int .u8 ek, .slice PA PN PC, .int .i64 ec, .int .i64 er, .int .u8 ea] 48))) := Lib.hid (bl_then (HLR.out.bel.grown hg (by have := HLR.out.bel.size; omega) (fun q hq => by obtain rfl := Option.some.inj hq; omega)) (by have := hg.size; omega) hbn)
            have HPE := Lib.hid hpe
            have HAP := Lib.hid (HLR.out.own.fresh hp (Nat.le_refl _))
            have hz2 : R < w2.heap.size := by have := hg.size; omega
            have HLB := Lib.hid hLb
            clear hp hpe hrr hg hLb
            go_wp2_with (at_builtin; refine wpList_appE (base := R + 1) (X := w2.heap.size) (v := .slice LA LN LC) (P := P) (p := ⟨⟨ek, eb, ec, er, ea⟩, .slice PA PN PC⟩) (t := 48) rfl _ _ rfl rfl rfl ?_ ?_ ?_ ?_ ?_ ?_ ?_)
            · exact HO2.out.below hbn
            · exact heap_alloc_last _ _
            · exact HP2.out
            · exact HAP.out
            · omega
            · simp; omega
            · intro v3 w3 h1 h2
              have HB3 : Hid (Below R w w3) := Lib.hid (HB2.out.grown h2 (by simp; omega) (fun q hq => by have := HLB.out q hq; omega))
              have HRR3 : Hid (RR w3 R b' (evT b).1) := Lib.hid (HRR2.out.low fun g hg => h2.block g (by simp; omega) (fun e => by have := HLB.out g e.symm; omega))
              have HNX : Hid (LR w R n r0 bs (k + 1) b' (evT b).1 v3 (P ++ [⟨⟨ek, eb, ec, er, ea⟩, .slice PA PN PC⟩]) w3) := Lib.hid (HLR.out.next hlt HB3.out HRR3.out h1 HPE.out)
              clear h1 h2 HO2 HP2 HRR2 HB2 HPE hbn HLR
              go_wp2_with fail
              go_roundw
              case rel => exact ⟨k + 1, b', (evT b).1, _, by omega, by go_num, HNX⟩
              case measure => simp [intOf] <;> omega
          · have hei : ¬ (e : Int) = 0 := by omega
            have heb : ((e : Int) == 0) = false := by simpa using he
            have HPO : Hid ((readEvS bs).1 = e) := Lib.hid (by
              obtain ⟨h0, _⟩ | ⟨_, h1⟩ := HLR.out.st
              · exact absurd h0 he
              · exact h1)
            have HNE := Lib.hid he
            go_wp2_with fail
            refine (rend_any R b e wr HLR.out.rr).mono ?_
            rintro r w2 hN
            have hN2 : r = .returned (.int .i64 (endE b e : Nat)) ∧ RR w2 R b (endE b e) ∧ wr.grownBy w2 (some R) := hN
            obtain ⟨rfl, _, hg⟩ := hN2
            rw [endE_err HNE.out]
            have HB2 : Hid (Below R w w2) := Lib.hid (HLR.out.bel.grown hg (by have := HLR.out.bel.size; omega) (fun q hq => by obtain rfl := Option.some.inj hq; omega))
            have HP : Hid (REPost bs R (.returned (.tuple #[.slice none 0 0, .int .i64 e])) w2) := Lib.hid (REPost.err HPO.out HNE.out _ _)
            clear hN hg
            go_wp2_with fail
            exact bodyPost_ret (v := .tuple #[.slice none 0 0, .int .i64 e]) (by simp [results, Try.results30, go_sem]) rfl ⟨HP.out, HB2.out⟩
        · have hki : ¬ (k : Int) < (n : Int) := by omega
          by_cases he : e = 0
          · subst he
            obtain ⟨_, h1, h2, h3, h4, h5⟩ | ⟨h0, _⟩ := HLR.out.st
            · have e4 : evsT n r0 = (0, P.map HE.e, b) := by
                rw [h4, show n - P.length = 0 by omega]
                simp [evsT]
              rw [e4] at h5
              have HF : Hid (readEvS bs = if 0 < b.length then (8, []) else (0, P.map HE.e)) := Lib.hid (by rw [h5]; simp)
              clear h4 h5 e4 h1 h2 h3
              go_wp2_with fail
              refine (rend_any R b 0 wr HLR.out.rr).mono ?_
              rintro r w2 hN
              obtain ⟨er, her⟩ : ∃ er, endE b 0 = er := ⟨_, rfl⟩
              have hN2 : r = .returned (.int .i64 (endE b 0 : Nat)) ∧ RR w2 R b (endE b 0) ∧ wr.grownBy w2 (some R) := hN
              obtain ⟨rfl, _, hg⟩ := hN2
              rw [her]
              have HB2 : Hid (Below R w w2) := Lib.hid (HLR.out.bel.grown hg (by have := HLR.out.bel.size; omega) (fun q hq => by obtain rfl := Option.some.inj hq; omega))
              have HO2 : Hid (OwE w2 (R + 1) (.slice LA LN LC) P) := Lib.hid (HLR.out.own.keep fun q hq hl => hg.block q hl (fun e => by have := Option.some.inj e; omega))
              clear hN hg
              by_cases hbl : 0 < b.length
              · have h8 : er = 8 := by rw [← her]; unfold endE; exact if_pos ⟨rfl, hbl⟩
                subst h8
                have HP : Hid (REPost bs R (.returned (.tuple #[.slice none 0 0, .int .i64 8])) w2) := Lib.hid (REPost.err (er := 8) (by rw [HF.out, if_pos hbl]) (by decide) _ _)
                clear hbl her
                go_wp2_with fail
                exact bodyPost_ret (v := .tuple #[.slice none 0 0, .int .i64 8]) (by simp [results, Try.results30, go_sem]) rfl ⟨HP.out, HB2.out⟩
              · have h8 : er = 0 := by rw [← her]; unfold endE; exact if_neg (fun h => hbl h.2)
                subst h8
                have HP : Hid (REPost bs R (.returned (.tuple #[.slice LA LN LC, .int .i64 0])) w2) := Lib.hid ⟨_, P, by rw [HF.out, if_neg hbl]; rfl, HO2.out.mono (by omega), by rw [HF.out, if_neg hbl]⟩
                clear hbl her
                go_wp2_with fail
                exact bodyPost_ret (v := .tuple #[.slice LA LN LC, .int .i64 0]) (by simp [results, Try.results30, go_sem]) rfl ⟨HP.out, HB2.out⟩
            · exact absurd rfl h0
          · have hei : ¬ (e : Int) = 0 := by omega
            have heb : ((e : Int) == 0) = false := by simpa using he
            have HPO : Hid ((readEvS bs).1 = e) := Lib.hid (by
              obtain ⟨h0, _⟩ | ⟨_, h1⟩ := HLR.out.st
              · exact absurd h0 he
              · exact h1)
            have HNE := Lib.hid he
            go_wp2_with fail
            refine (rend_any R b e wr HLR.out.rr).mono ?_
            rintro r w2 hN
            have hN2 : r = .returned (.int .i64 (endE b e : Nat)) ∧ RR w2 R b (endE b e) ∧ wr.grownBy w2 (some R) := hN
            obtain ⟨rfl, _, hg⟩ := hN2
            rw [endE_err HNE.out]
            have HB2 : Hid (Below R w w2) := Lib.hid (HLR.out.bel.grown hg (by have := HLR.out.bel.size; omega) (fun q hq => by obtain rfl := Option.some.inj hq; omega))
            have HP : Hid (REPost bs R (.returned (.tuple #[.slice none 0 0, .int .i64 e])) w2) := Lib.hid (REPost.err HPO.out HNE.out _ _)
            clear hN hg
            go_wp2_with fail
            exact bodyPost_ret (v := .tuple #[.slice none 0 0, .int .i64 e]) (by simp [results, Try.results30, go_sem]) rfl ⟨HP.out, HB2.out⟩
end Go.Proofs.Ytgkiedbefogklaa
