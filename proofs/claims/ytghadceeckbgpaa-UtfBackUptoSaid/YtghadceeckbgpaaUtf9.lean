/- What is proved: what Encode of package utf, and of its reference, answer when they are called; conditions: the slice reads as it is said to. -/
import Derived.Test.YtghadceeckbgpaaUtf8
set_option linter.unusedSimpArgs false
set_option linter.unusedVariables false
namespace Go.Proofs.Ytghadceeckbgpaa
open Go.RowKit
set_option maxRecDepth 100000
set_option maxHeartbeats 4000000
/-- A rune as it is encoded. -/
def putC (c : Int) : Int := if mayC c = true then c else 65533
def encS (l : List Int) : List Int := l.flatMap fun c => formS (putC c)
theorem putC_b (c : Int) : 0 ≤ putC c ∧ putC c ≤ 1114111 := by
  unfold putC
  split
  · rename_i h
    unfold mayC at h
    simp at h
    omega
  · omega
theorem encS_next {l : List Int} {k : Nat} (h : k < l.length) : encS (l.take (k + 1)) = encS (l.take k) ++ formS (putC (l.getD k 0)) := by
  unfold encS
  rw [List.take_add_one, List.getElem?_eq_getElem h, List.getD_eq_getElem?_getD, List.getElem?_eq_getElem h, List.flatMap_append]
  simp
theorem encS_len (l : List Int) : (encS l).length ≤ 4 * l.length := by
  induction l with
  | nil => simp [encS]
  | cons c l ih =>
    have h := (formS_len (putC c)).2
    unfold encS at *
    rw [List.flatMap_cons, List.length_append, List.length_cons]
    omega
theorem encS_ok (l : List Int) : okB (encS l) := by
  intro x hx
  unfold encS at hx
  obtain ⟨c, _, h⟩ := List.mem_flatMap.1 hx
  exact formS_ok (putC_b c) x h
theorem encode_any (v : Value) (l : List Int) (w : World) (h : RR w v l) : Calls Try.prog 13 #[v] w fun e w' => (∃ u, e = .returned u ∧ OwB w' w.heap.size u (encS l)) ∧ Below w.heap.size w w' := by
  have hlen := h.len
  obtain ⟨hok, _, A, cap, rfl, hr, hnc, hlc, hcm⟩ := h
  have HR := Lib.hid hr
  have HOK := Lib.hid hok
  clear hr hok hnc
  go_enter Try.func13, Try.ntmps13
  go_wp2_with fail
  go_loopw [3, 8] (fun b i wr => ∃ k : Nat, k ≤ l.length ∧ i = .int .i64 k ∧ Hid (OwB wr w.heap.size b (encS (l.take k))) ∧ Hid (Below w.heap.size w wr)) (fun _ i _ => l.length - (intOf i).toNat)
  case atStart => exact ⟨0, Nat.zero_le _, rfl, Lib.hid (OwB.nil _ _), Lib.hid (Below.refl _ _)⟩
  case round =>
    obtain ⟨k, hk, rfl, HO, HB⟩ := hrel
    by_cases hlt : k < l.length
    · obtain ⟨b, off, rfl, hc⟩ := HR.out.2 (by omega)
      have hbl := HR.out.lt_ (by omega) rfl
      have cx : wr.cell? ⟨b, off + k, none⟩ = some (.int .i32 (l.getD k 0)) := ((bcell HB.out).1 b _ hbl).trans (hc k hlt)
      clear hc
      have HNX := Lib.hid (encS_next hlt)
      have hel := encS_len (l.take k)
      have hlk : (l.take k).length = k := by simp; omega
      rw [hlk] at hel
      have hcr := HOK.out.getD k
      have hpb := putC_b (l.getD k 0)
      have HFO := Lib.hid (formS_ok hpb)
      have hfl := formS_len (putC (l.getD k 0))
      have HFA := Lib.hid (fun W => form_any (putC (l.getD k 0)) W hpb)
      obtain ⟨m, hm⟩ : ∃ m, mayC (l.getD k 0) = m := ⟨_, rfl⟩
      have HMA : Hid (∀ W, Calls Try.prog 7 #[.int .i32 (l.getD k 0)] W fun e w' => e = .returned (.bool m) ∧ w' = W) := Lib.hid (fun W => by rw [← hm]; exact may_any _ W)
      have HPC : Hid (putC (l.getD k 0) = if m = true then l.getD k 0 else 65533) := Lib.hid (by unfold putC; rw [hm])
      clear hm hlk hpb
      have hz := HB.out.size
      generalize l.getD k 0 = c at *
      generalize putC c = d at *
      go_wp2_with fail
      refine (HMA.out _).mono ?_
      rintro e w0 ⟨rfl, rfl⟩
      cases m
      · obtain rfl : d = 65533 := by rw [HPC.out]; simp
        clear HPC HMA
        generalize formS 65533 = fs at *
        obtain ⟨es, hes⟩ : ∃ es, encS (l.take (k + 1)) = es := ⟨_, rfl⟩
        rw [hes] at HNX
        have HES := Lib.hid hes
        clear hes
        generalize encS (l.take k) = es0 at *
        go_wp2_with fail
        refine (HFA.out w0).mono ?_
        rintro e w1 ⟨⟨u, rfl, hu⟩, hb1⟩
        have HU := Lib.hid hu
        have HO1 := Lib.hid (HO.out.below hb1)
        have HB1 := Lib.hid (bl_then HB.out HB.out.size hb1)
        have hz1 := HB1.out.size
        clear hu hb1 HFA HO
        go_wp2_with (at_builtin; refine wpList_appB (base := w.heap.size) rfl _ _ rfl u3 u es0 fs rfl HO1.out rfl (HU.out.rd HFO.out (by omega)) (by omega) (by omega) ?_)
        intro v2 w2 h1 h2 h3
        have HO2 : Hid (OwB w2 w.heap.size v2 es) := Lib.hid (by rw [HNX.out]; exact h1)
        have HB2 := Lib.hid (HB1.out.grown h2 HB1.out.size (fun q hq => (World.ownsRow.lt HO1.out q hq).1))
        clear h1 h2 h3
        go_wp2_with fail
        go_roundw
        case rel => exact ⟨k + 1, by omega, by go_num, by rw [HES.out]; exact HO2, HB2⟩
        case measure =>
          simp [intOf]
          omega
      · obtain rfl : d = c := by rw [HPC.out]; simp
        clear HPC HMA
        generalize formS d = fs at *
        obtain ⟨es, hes⟩ : ∃ es, encS (l.take (k + 1)) = es := ⟨_, rfl⟩
        rw [hes] at HNX
        have HES := Lib.hid hes
        clear hes
        generalize encS (l.take k) = es0 at *
        go_wp2_with fail
        refine (HFA.out w0).mono ?_
        rintro e w1 ⟨⟨u, rfl, hu⟩, hb1⟩
        have HU := Lib.hid hu
        have HO1 := Lib.hid (HO.out.below hb1)
        have HB1 := Lib.hid (bl_then HB.out HB.out.size hb1)
        have hz1 := HB1.out.size
        clear hu hb1 HFA HO
        go_wp2_with (at_builtin; refine wpList_appB (base := w.heap.size) rfl _ _ rfl u3 u es0 fs rfl HO1.out rfl (HU.out.rd HFO.out (by omega)) (by omega) (by omega) ?_)
        intro v2 w2 h1 h2 h3
        have HO2 : Hid (OwB w2 w.heap.size v2 es) := Lib.hid (by rw [HNX.out]; exact h1)
        have HB2 := Lib.hid (HB1.out.grown h2 HB1.out.size (fun q hq => (World.ownsRow.lt HO1.out q hq).1))
        clear h1 h2 h3
        go_wp2_with fail
        go_roundw
        case rel => exact ⟨k + 1, by omega, by go_num, by rw [HES.out]; exact HO2, HB2⟩
        case measure =>
          simp [intOf]
          omega
    · have hke : k = l.length := by omega
      subst hke
      have HE : Hid (encS (l.take l.length) = encS l) := Lib.hid (by rw [List.take_length])
      have hi : ¬ ((l.length : Int) < (l.length : Int)) := by omega
      go_wp2_with fail
      go_ret
      exact ⟨⟨_, rfl, by rw [← HE.out]; exact HO.out⟩, HB.out⟩
theorem refencode_any (v : Value) (l : List Int) (w : World) (h : RR w v l) : Calls Try.prog 14 #[v] w fun e w' => (∃ u, e = .returned u ∧ OwB w' w.heap.size u (encS l)) ∧ Below w.heap.size w w' := by
  have hlen := h.len
  obtain ⟨hok, _, A, cap, rfl, hr, hnc, hlc, hcm⟩ := h
  have HR := Lib.hid hr
  have HOK := Lib.hid hok
  clear hr hok hnc
  go_enter Try.func14, Try.ntmps14
  go_wp2_with fail
  go_loopw [3, 4] (fun b i wr => ∃ k : Nat, k ≤ l.length ∧ i = .int .i64 k ∧ Hid (OwB wr w.heap.size b (encS (l.take k))) ∧ Hid (Below w.heap.size w wr)) (fun _ i _ => l.length - (intOf i).toNat)
  case atStart => exact ⟨0, Nat.zero_le _, rfl, Lib.hid (OwB.nil _ _), Lib.hid (Below.refl _ _)⟩
  case round =>
    obtain ⟨k, hk, rfl, HO, HB⟩ := hrel
    by_cases hlt : k < l.length
    · obtain ⟨b, off, rfl, hc⟩ := HR.out.2 (by omega)
      have hbl := HR.out.lt_ (by omega) rfl
      have cx : wr.cell? ⟨b, off + k, none⟩ = some (.int .i32 (l.getD k 0)) := ((bcell HB.out).1 b _ hbl).trans (hc k hlt)
      clear hc
      have HNX := Lib.hid (encS_next hlt)
      have hel := encS_len (l.take k)
      have hlk : (l.take k).length = k := by simp; omega
      rw [hlk] at hel
      have hcr := HOK.out.getD k
      have hpb := putC_b (l.getD k 0)
      have HFO := Lib.hid (formS_ok hpb)
      have hfl := formS_len (putC (l.getD k 0))
      have HFA := Lib.hid (fun W => refform_any (putC (l.getD k 0)) W hpb)
      obtain ⟨m, hm⟩ : ∃ m, mayC (l.getD k 0) = m := ⟨_, rfl⟩
      have HMA : Hid (∀ W, Calls Try.prog 8 #[.int .i32 (l.getD k 0)] W fun e w' => e = .returned (.bool m) ∧ w' = W) := Lib.hid (fun W => by rw [← hm]; exact rmay_any _ W)
      have HPC : Hid (putC (l.getD k 0) = if m = true then l.getD k 0 else 65533) := Lib.hid (by unfold putC; rw [hm])
      clear hm hlk hpb
      have hz := HB.out.size
      generalize l.getD k 0 = c at *
      generalize putC c = d at *
      go_wp2_with fail
      refine (HMA.out _).mono ?_
      rintro e w0 ⟨rfl, rfl⟩
      cases m
      · obtain rfl : d = 65533 := by rw [HPC.out]; simp
        clear HPC HMA
        generalize formS 65533 = fs at *
        obtain ⟨es, hes⟩ : ∃ es, encS (l.take (k + 1)) = es := ⟨_, rfl⟩
        rw [hes] at HNX
        have HES := Lib.hid hes
        clear hes
        generalize encS (l.take k) = es0 at *
        go_wp2_with fail
        refine (HFA.out w0).mono ?_
        rintro e w1 ⟨⟨u, rfl, hu⟩, hb1⟩
        have HU := Lib.hid hu
        have HO1 := Lib.hid (HO.out.below hb1)
        have HB1 := Lib.hid (bl_then HB.out HB.out.size hb1)
        have hz1 := HB1.out.size
        clear hu hb1 HFA HO
        go_wp2_with (at_builtin; refine wpList_appB (base := w.heap.size) rfl _ _ rfl u3 u es0 fs rfl HO1.out rfl (HU.out.rd HFO.out (by omega)) (by omega) (by omega) ?_)
        intro v2 w2 h1 h2 h3
        have HO2 : Hid (OwB w2 w.heap.size v2 es) := Lib.hid (by rw [HNX.out]; exact h1)
        have HB2 := Lib.hid (HB1.out.grown h2 HB1.out.size (fun q hq => (World.ownsRow.lt HO1.out q hq).1))
        clear h1 h2 h3
        go_wp2_with fail
        go_roundw
        case rel => exact ⟨k + 1, by omega, by go_num, by rw [HES.out]; exact HO2, HB2⟩
        case measure =>
          simp [intOf]
          omega
      · obtain rfl : d = c := by rw [HPC.out]; simp
        clear HPC HMA
        generalize formS d = fs at *
        obtain ⟨es, hes⟩ : ∃ es, encS (l.take (k + 1)) = es := ⟨_, rfl⟩
        rw [hes] at HNX
        have HES := Lib.hid hes
        clear hes
        generalize encS (l.take k) = es0 at *
        go_wp2_with fail
        refine (HFA.out w0).mono ?_
        rintro e w1 ⟨⟨u, rfl, hu⟩, hb1⟩
        have HU := Lib.hid hu
        have HO1 := Lib.hid (HO.out.below hb1)
        have HB1 := Lib.hid (bl_then HB.out HB.out.size hb1)
        have hz1 := HB1.out.size
        clear hu hb1 HFA HO
        go_wp2_with (at_builtin; refine wpList_appB (base := w.heap.size) rfl _ _ rfl u3 u es0 fs rfl HO1.out rfl (HU.out.rd HFO.out (by omega)) (by omega) (by omega) ?_)
        intro v2 w2 h1 h2 h3
        have HO2 : Hid (OwB w2 w.heap.size v2 es) := Lib.hid (by rw [HNX.out]; exact h1)
        have HB2 := Lib.hid (HB1.out.grown h2 HB1.out.size (fun q hq => (World.ownsRow.lt HO1.out q hq).1))
        clear h1 h2 h3
        go_wp2_with fail
        go_roundw
        case rel => exact ⟨k + 1, by omega, by go_num, by rw [HES.out]; exact HO2, HB2⟩
        case measure =>
          simp [intOf]
          omega
    · have hke : k = l.length := by omega
      subst hke
      have HE : Hid (encS (l.take l.length) = encS l) := Lib.hid (by rw [List.take_length])
      have hi : ¬ ((l.length : Int) < (l.length : Int)) := by omega
      go_wp2_with fail
      go_ret
      exact ⟨⟨_, rfl, by rw [← HE.out]; exact HO.out⟩, HB.out⟩
end Go.Proofs.Ytghadceeckbgpaa
