/- What is proved: what WriteEvents of the reference answers when it is called; conditions: the events read as they are said to and are not too many. -/
import Derived.Test.YtgkiedbefogklaaWireRC
set_option linter.unusedSimpArgs false
set_option linter.unusedVariables false
namespace Go.Proofs.Ytgkiedbefogklaa
open Go.RowKit
set_option maxRecDepth 100000
set_option maxHeartbeats 8000000
theorem wpList_ldE {ops : Array Oper} {rest : List Oper} {o : Oper} {a : Act} {Q : Exit → Act → World → Prop} {w : World} {p : Value} {v : Value} (hgd : o.guard = none) (x : Operand) (ho : o.op = .load 48 x)
    (hx : a.eval x = p) (hr : (Instr.loadAt 48 p).run Try.prog w = .ok v w) (h : wpList Try.prog ops Q rest (a.put o.dst v) w) : wpList Try.prog ops Q (o :: rest) a w := by
  refine wpList_plain hgd fun K hK => ?_
  have he := exec_load (P := Try.prog) (o := o) (a := a) ho hx hr
  unfold Oper.wp
  rw [he]
  exact hK _ _ h
theorem evP_bound {E : List Event} : ∀ k, (∀ j, j < k → mayS (E.getD j zE) = true) → k ≤ E.length → (evP E k).length ≤ 11 + k * 4120
  | 0, _, _ => by
    have := uintB_len E.length
    simp [evP]
    omega
  | k + 1, h, hk => by
    have h1 := evP_bound k (fun j hj => h j (by omega)) (by omega)
    have h2 := evS_len (h k (by omega))
    rw [evP_next (by omega), List.length_append]
    omega
theorem evP_okB {E : List Event} (hl : E.length < 18446744073709551616) (he : ∀ j, j < E.length → okB (E.getD j zE).bs ∧ (E.getD j zE).ok) : ∀ k, (∀ j, j < k → mayS (E.getD j zE) = true) → k ≤ E.length → okB (evP E k)
  | 0, _, _ => by
    have h := uintB_ok hl
    simpa [evP] using h
  | k + 1, h, hk => by
    rw [evP_next (by omega)]
    have h1 := he k (by omega)
    refine (evP_okB hl he k (fun j hj => h j (by omega)) (by omega)).app ?_
    have hm := h k (by omega)
    have h4 := mayS_ok hm
    generalize E.getD k zE = e at *
    obtain ⟨hk0, _, _, ha⟩ := h1.2
    have h5 : okB [e.kind] := by intro x hx; obtain rfl := List.mem_singleton.1 hx; exact hk0
    show okB ([e.kind] ++ tailS e)
    refine h5.app ?_
    unfold tailS
    split
    · exact (uintB_ok (by omega)).app (uintB_ok (by omega))
    · split
      · intro x hx; obtain rfl := List.mem_singleton.1 hx; exact ha
      · have := mayS_len hm
        exact (uintB_ok (by omega)).app h1.1
theorem rwriteevents_any (v : Value) (E : List Event) (w : World) (h : EvL w v E) (hlE : E.length ≤ 1048576) :
    Calls Try.prog 29 #[v] w fun e w' => (∃ u, e = .returned (.tuple #[u, .int .i64 (writeEvS E).2]) ∧ OwB w' w.heap.size u (writeEvS E).1) ∧ Below w.heap.size w w' := by
  obtain ⟨hlen, A, cap, rfl, hnc, hlc, hcm, hi⟩ := h
  have HI := Lib.hid hi
  have HEOK : Hid (∀ j, j < E.length → okB (E.getD j zE).bs ∧ (E.getD j zE).ok) := Lib.hid (fun j hj => by obtain ⟨b, off, _, u, _, _, _, _, _, hu, hok⟩ := hi j hj; exact ⟨hu.ok, hok⟩)
  obtain ⟨n, hn⟩ : ∃ n, E.length = n := ⟨_, rfl⟩
  have HN := Lib.hid hn
  rw [hn] at HI HEOK hlen hlc hlE ⊢
  clear hi hn
  have hwn : IntKind.u64.wrap (n : Int) = (n : Int) := by rw [IntKind.wrap_u64]; omega
  have HU : Hid (Calls Try.prog 45 #[.int .u64 n] w fun e w' => (∃ v, e = .returned v ∧ OwB w' w.heap.size v (evP E 0)) ∧ Below w.heap.size w w') := Lib.hid (by
    have h1 := ruint_any n w (by omega)
    have h2 : evP E 0 = uintB n := by simp [evP, HN.out]
    rw [h2]
    exact h1)
  go_enter Try.func29, Try.ntmps29
  go_wp2_with fail
  refine HU.out.mono ?_
  rintro e w1 ⟨⟨u, rfl, ho⟩, hb⟩
  have HO1 := Lib.hid ho
  have HB1 := Lib.hid hb
  clear ho hb HU
  go_wp2_with fail
  go_loopw [4, 5] (fun b i wr => ∃ k : Nat, k ≤ n ∧ i = .int .i64 k ∧ Hid (∀ j, j < k → mayS (E.getD j zE) = true) ∧ Hid (OwB wr w.heap.size b (evP E k)) ∧ Hid (Below w.heap.size w wr)) (fun _ i _ => n - (intOf i).toNat)
  case atStart => exact ⟨0, Nat.zero_le _, rfl, Lib.hid (fun j hj => by omega), HO1, HB1⟩
  case round =>
    clear HO1 HB1
    obtain ⟨k, hk, rfl, HM, HO, HB⟩ := hrel
    have hbl := evP_bound (E := E) k HM.out (by rw [HN.out]; exact hk)
    by_cases hlt : k < n
    · have hki : (k : Int) < (n : Int) := by omega
      have hk0 : (0 : Int) ≤ (k : Int) := by omega
      obtain ⟨b, off, rfl, hec⟩ := HI.out k hlt
      have hb0 : b < w.heap.size := by obtain ⟨u, q0, _⟩ := hec; exact block_lt_of_cell q0
      obtain ⟨x, hx, hok, hr⟩ := run_load_ev hec
      have HNX := Lib.hid (evP_next (E := E) (k := k) (by rw [HN.out]; exact hlt))
      obtain ⟨e, he⟩ : ∃ e, E.getD k zE = e := ⟨_, rfl⟩
      have HEK := Lib.hid he
      rw [he] at hx hok hr HNX
      obtain ⟨m, hm⟩ : ∃ m, mayS e = m := ⟨_, rfl⟩
      have HX := Lib.hid hx
      have HR := Lib.hid hr
      have HMM := Lib.hid hm
      have HKK := Lib.hid hok
      obtain ⟨_, hxl, XA, XC, hxv, _, _, hxlc, hxcm⟩ := hx
      have hxk : e.ok := hok
      have HXB := Lib.hid (HX.out.below HB.out)
      have HFO : Hid (∀ W, BB W x e.bs → mayS e = true → Calls Try.prog 46 #[.agg (erow ⟨e, x⟩)] W fun r w' => (∃ u, r = .returned u ∧ OwB w' W.heap.size u (evS e)) ∧ Below W.heap.size W w') := Lib.hid (fun W h1 h2 => form_any e x W h1 hok h2)
      have HSL : Hid (mayS e = true → okB (evS e) ∧ (evS e).length ≤ 4120) := Lib.hid (fun h => by
        refine ⟨?_, evS_len h⟩
        have h4 := mayS_ok h
        obtain ⟨hk0, _, _, ha⟩ := hok
        have h5 : okB [e.kind] := by intro x hx; obtain rfl := List.mem_singleton.1 hx; exact hk0
        show okB ([e.kind] ++ tailS e)
        refine h5.app ?_
        unfold tailS
        split
        · exact (uintB_ok (by omega)).app (uintB_ok (by omega))
        · split
          · intro x hx; obtain rfl := List.mem_singleton.1 hx; exact ha
          · have := mayS_len h
            exact (uintB_ok (by omega)).app HX.out.ok)
      obtain ⟨ek, eb, ec, er, ea⟩ := e
      have HMB : Hid (mayB ek (eb.length : Nat) ec er ea = m) := Lib.hid hm
      obtain ⟨el, hel⟩ : ∃ l, eb.length = l := ⟨_, rfl⟩
      dsimp only at hxv hxl hxlc
      rw [hel] at hxv hxl hxlc HMB
      subst hxv
      obtain ⟨hek, _, _, hea⟩ := hxk
      dsimp only at hek
      unfold erow at HR HFO
      dsimp only at HR HFO
      have hrun := HR.out wr (HB.out.block b hb0)
      have HRUN := Lib.hid hrun
      clear hec hok hr he hm hel hrun
      go_wp2_with (with_reducible refine wpList_ldE (p := .pointer (some ⟨b, off + k * 5, none⟩)) rfl (.tmp 18) rfl rfl HRUN.out ?_)
      refine (rmay_any ek ec er ea XA el XC wr hek hxl hxcm hxlc).mono ?_
      rintro e w2 ⟨rfl, hb⟩
      rw [HMB.out]
      have HB2 := Lib.hid (bl_then HB.out HB.out.size hb)
      have HO2 := Lib.hid (HO.out.below hb)
      have HX2 := Lib.hid (HX.out.below HB2.out)
      have HRUN2 := Lib.hid (HR.out w2 (HB2.out.block b hb0))
      clear hb HRUN
      cases m with
      | false =>
        have HF : Hid (writeEvS E = ([], 2)) := Lib.hid (by
          unfold writeEvS
          rw [if_pos]
          refine List.any_eq_true.2 ⟨E.getD k zE, ?_, ?_⟩
          · rw [List.getD_eq_getElem?_getD, List.getElem?_eq_getElem (by rw [HN.out]; exact hlt)]; exact List.getElem_mem _
          · rw [HEK.out]
            rw [HMM.out]
            rfl)
        go_wp2_with fail
        refine bodyPost_ret (v := .tuple #[.slice none 0 0, .int .i64 2]) (by simp [results, Try.results29, go_sem]) rfl ?_
        rw [HF.out]
        exact ⟨⟨_, rfl, OwB.nil _ _⟩, HB2.out⟩
      | true =>
        have HM2 : Hid (∀ j, j < k + 1 → mayS (E.getD j zE) = true) := Lib.hid (fun j hj => by
          rcases (by omega : j < k ∨ j = k) with h | rfl
          · exact HM.out j h
          · rw [HEK.out]; exact HMM.out)
        have hsl := (HSL.out HMM.out).2
        go_wp2_with (with_reducible refine wpList_ldE (p := .pointer (some ⟨b, off + k * 5, none⟩)) rfl (.tmp 25) rfl rfl HRUN2.out ?_)
        refine (HFO.out w2 HX2.out HMM.out).mono ?_
        rintro e w3 ⟨⟨u, rfl, ho⟩, hb⟩
        have HO3 := Lib.hid (HO2.out.below hb)
        have HB3 := Lib.hid (bl_then HB2.out HB2.out.size hb)
        have HOF := Lib.hid (ho.rd (HSL.out HMM.out).1 (by omega))
        obtain ⟨UA, UN, UC, rfl⟩ := ho.form
        clear ho hb HO2 HRUN2
        go_wp2_with (at_builtin; refine wpList_appB (base := w.heap.size) rfl _ _ rfl u4 (.slice UA UN UC) (evP E k) (evS ⟨ek, eb, ec, er, ea⟩) rfl ?_ rfl ?_ ?_ ?_ ?_)
        · exact HO3.out
        · exact HOF.out
        · omega
        · exact HB3.out.size
        · intro v' w' h1 h2 h3
          rw [← HNX.out] at h1
          have HO4 := Lib.hid h1
          have HB4 := Lib.hid (HB3.out.grown h2 HB3.out.size (fun q hq => (World.ownsRow.lt HO3.out q hq).1))
          clear h1 h2 h3
          go_wp2_with fail
          go_roundw
          case rel => exact ⟨k + 1, by omega, by go_num, HM2, HO4, HB4⟩
          case measure => simp [intOf] <;> omega
    · obtain rfl : k = n := by omega
      have hki : ¬ (k : Int) < (k : Int) := by omega
      obtain ⟨BA, BC, hbv⟩ := OwB.slice HO.out
      obtain ⟨l, hl⟩ : ∃ l, (evP E k).length = l := ⟨_, rfl⟩
      rw [hl] at hbv
      have HW : Hid (writeEvS E = if 65536 < l ∨ 4096 < k then ([], 4) else (evP E k, 0)) := Lib.hid (by
        unfold writeEvS
        rw [if_neg (by
          intro h
          obtain ⟨x, hx, hy⟩ := List.any_eq_true.1 h
          obtain ⟨i, hi, rfl⟩ := List.mem_iff_getElem.1 hx
          have := HM.out i (by rw [← HN.out]; exact hi)
          rw [List.getD_eq_getElem?_getD, List.getElem?_eq_getElem hi] at this
          rw [show mayS E[i] = true from this] at hy
          cases hy), HN.out, hl])
      subst hbv
      clear hl hbl
      by_cases hc : 4096 < k
      · have hci : (4096 : Int) < (k : Int) := by omega
        go_wp2_with fail
        refine bodyPost_ret (v := .tuple #[.slice none 0 0, .int .i64 4]) (by simp [results, Try.results29, go_sem]) rfl ?_
        rw [HW.out, if_pos (.inr hc)]
        exact ⟨⟨_, rfl, OwB.nil _ _⟩, HB.out⟩
      · have hci : ¬ (4096 : Int) < (k : Int) := by omega
        by_cases hc2 : 65536 < l
        · have hci2 : (65536 : Int) < (l : Int) := by omega
          go_wp2_with fail
          refine bodyPost_ret (v := .tuple #[.slice none 0 0, .int .i64 4]) (by simp [results, Try.results29, go_sem]) rfl ?_
          rw [HW.out, if_pos (.inl hc2)]
          exact ⟨⟨_, rfl, OwB.nil _ _⟩, HB.out⟩
        · have hci2 : ¬ (65536 : Int) < (l : Int) := by omega
          go_wp2_with fail
          refine bodyPost_ret (v := .tuple #[.slice BA l BC, .int .i64 0]) (by simp [results, Try.results29, go_sem]) rfl ?_
          rw [HW.out, if_neg (by omega)]
          exact ⟨⟨_, rfl, HO.out⟩, HB.out⟩
end Go.Proofs.Ytgkiedbefogklaa
