/- What is proved: the law VtFresh answers true; conditions: those typed. -/
import Derived.Test.YtecgipccippddaaVtK
import Derived.Test.YtecgipccippddaaVtC
set_option linter.unusedSimpArgs false
set_option linter.unusedVariables false
namespace Go.Proofs.Ytecgipccippddaa
open Go.RowKit
set_option maxRecDepth 100000
set_option maxHeartbeats 8000000
/-- A slice whose cells are there to be written. -/
def Pres (w : World) (v : Value) (n : Nat) : Prop := 0 < n → ∃ b off c cur e, v = .slice (some ⟨b, off, none⟩) n c ∧ w.heap[b]? = some (.cells cur e (0, 0)) ∧ off + n ≤ cur.size
theorem RdO.pres {k : IntKind} {e : TypeId} {w : World} {base : Nat} {v : Value} {xs : List Int} (h : RdO k e w base v xs) : Pres w v xs.length := by
  intro hn
  obtain ⟨A, c, h1, h2, h3, h4, h5, h6⟩ := h
  obtain ⟨b, off, hA, hc⟩ := h2.2 hn
  have hv : v.ownBlock = some b := by rw [h1, hA]; rfl
  obtain ⟨_, cur, hh⟩ := h6 b hv
  refine ⟨b, off, c, cur, e, by rw [h1, hA], hh, ?_⟩
  have := hc (xs.length - 1) (by omega)
  rw [cell_of_row _ _ _ _ _ _ hh] at this
  have := (Array.getElem?_eq_some_iff.1 this).1
  omega
theorem Pres.set {w : World} {v : Value} {n b i : Nat} {u : Value} (h : Pres w v n) : Pres (w.setCell ⟨b, i, none⟩ u) v n := by
  intro hn
  obtain ⟨b', off, c, cur, e, h1, h2, h3⟩ := h hn
  by_cases hb : b' = b
  · subst hb
    exact ⟨b', off, c, _, e, h1, heap_setCell_same _ _ _ _ _ _ h2, by simpa using h3⟩
  · exact ⟨b', off, c, cur, e, h1, (heap_setCell_other _ ⟨_, _, _⟩ _ _ (by simpa using hb)).trans h2, h3⟩
/-- A told action that is being spoilt. -/
structure Spo (w2 wq : World) (a : HA) (n2 n3 : Nat) : Prop where
  inv : Inv w2 (fun g => a.vp.ownBlock = some g ∨ a.vt.ownBlock = some g) gh0 wq
  p : Pres wq a.vp n2
  t : Pres wq a.vt n3
theorem Spo.set {w2 wq : World} {a : HA} {n2 n3 b i : Nat} {u : Value} (h : Spo w2 wq a n2 n3) (hb : a.vp.ownBlock = some b ∨ a.vt.ownBlock = some b) : Spo w2 (wq.setCell ⟨b, i, none⟩ u) a n2 n3 :=
  ⟨h.inv.then (Inv.ofSet (S := fun g => a.vp.ownBlock = some g ∨ a.vt.ownBlock = some g) hb) (fun g hg _ => hg), h.p.set, h.t.set⟩
theorem stepR {w W : World} {P R X : Nat} {s : VS} {r : RS} {c : Int} (h : J0 w P R X s r W) (ho : ROk r) :
    Calls Try.prog 15 #[.pointer (some ⟨R, 0, none⟩), .int .i32 c] W fun e w' => ∃ v, e = .returned v ∧ (∃ A n c, v = .slice A n c) ∧ J0 w P R X s (rtakeS r c).1 w' := by
  obtain ⟨vm, vp, vt, um, up, ut, h1, h2, h3⟩ := h
  have hj : J1 w P R X s r [] (.slice none 0 0) W := ⟨vm, vp, vt, um, up, ut, [], h1, h2, h3, ⟨OwA.nil _ _, rfl, by simp⟩, fun b hb => (by cases hb), by simp⟩
  refine (step2 (c := c) hj ho).mono ?_
  rintro e w' ⟨v, rfl, hv, hk⟩
  exact ⟨v, rfl, hv, hk.1⟩
theorem rok_run2 {l : List Int} (hl : ∀ c ∈ l, c ≤ 2147483647) (hn : l.length ≤ 281474976710656) : ROk (runR (freshR 0) l).1 :=
  (sim_run hl).1.rok (runS_acs hl (freshS_ok (by omega))).1 (by omega)
theorem J1.bel {w W : World} {P R X : Nat} {s : VS} {r : RS} {x : List Ac} {u : Value} (h : J1 w P R X s r x u W) : Below X w W := by
  obtain ⟨vm, vp, vt, um, up, ut, M, h1, _⟩ := h
  exact h1.bel
/-- Another parser takes: this one stays. -/
theorem AllSt.other {w W W' : World} {P X Q Z : Nat} {s s' : VS} {vm vp vt vm2 vp2 vt2 u : Value} {r : VS × List Ac} (h : AllSt w W P X (s, []) vm vp vt (.slice none 0 0) [] 0) (hlt : ∀ g, PB P vm vp vt g → g < Z) (hZ : X ≤ Z) (hq : PW W Q Z s' vm2 vp2 vt2) (hQ : Z ≤ Q) (ho : VOk r.1) (t : TakeOk W W' Q Z r vm2 vp2 vt2 u) :
    AllSt w W' P X (s, []) vm vp vt (.slice none 0 0) [] 0 ∧ ∃ vm3 vp3 vt3, PW W' Q Z r.1 vm3 vp3 vt3 ∧ VOk r.1 := by
  obtain ⟨vm3, vp3, vt3, L, h1, h2, _⟩ := t
  exact ⟨h.keep h2 (fun g hg hs => by have := hlt g hg; have := hq.ge hQ hs; omega) (fun g hg => by have := hq.ge hQ hg; omega), vm3, vp3, vt3, h1, ho⟩
theorem fresh_law (A A2 : Option Addr) (n cap n2 cap2 : Nat) (l m : List Int) (w : World) (h : RdI w .i32 A n l) (h2 : RdI w .i32 A2 n2 m) (hl : n ≤ 140737488355328) (hl2 : n2 ≤ 140737488355328) (hx : ∀ c ∈ l, c ≤ 2147483647) (hx2 : ∀ c ∈ m, c ≤ 2147483647) :
    Calls Try.prog 5 #[.slice A n cap, .slice A2 n2 cap2] w fun e w' => e = .returned (.bool true) ∧ Below w.heap.size w w' := by
  have HN := Lib.hid h.len
  have HN2 := Lib.hid h2.len
  have H := Lib.hid h
  have H2 := Lib.hid h2
  have HC := Lib.hid hx
  have HC2 := Lib.hid hx2
  clear h h2 hx hx2
  obtain ⟨X, hX⟩ : ∃ X, w.heap.size = X := ⟨_, rfl⟩
  have HST := Lib.hid (AllSt.start w)
  obtain ⟨W0, hW0⟩ : ∃ W, w.alloc (.cells (pcells (freshS 1) (.slice none 0 0) (.slice none 0 0) (.slice none 0 0)) 47) = W := ⟨_, rfl⟩
  rw [hW0, hX] at HST
  have HNEW := Lib.hid (new_any w)
  rw [hW0, hX] at HNEW
  rw [hX]
  clear hW0
  go_enter Try.func5, Try.ntmps5
  go_wp2_with fail
  refine HNEW.out.mono ?_
  rintro e w1 ⟨rfl, hw1⟩
  subst w1
  go_wp2_with fail
  go_loopw [6] (fun i wr => ∃ k : Nat, k ≤ n ∧ i = .int .i64 k ∧ Hid (∃ vm vp vt, AllSt w wr X X ((runS (freshS 1) (l.take k)).1, []) vm vp vt (.slice none 0 0) [] 0)) (fun i _ => n - (intOf i).toNat)
  case atStart => exact ⟨0, by omega, rfl, Lib.hid ⟨_, _, _, HST.out⟩⟩
  case round =>
    obtain ⟨k, hk, rfl, HS⟩ := hrel
    obtain ⟨vm, vp, vt, hs⟩ := HS.out
    by_cases hkn : k < n
    · have hki : (k : Int) < (n : Int) := by omega
      have hk0 : (0 : Int) ≤ (k : Int) := by omega
      obtain ⟨b, off, hA, hc⟩ := (H.out.blocks (w1 := wr) fun b off hn hA => hs.bel.block b (by have := H.out.lt_ hn hA; omega)).2 (by omega)
      have dx := hc k hkn
      subst hA
      obtain ⟨x, hx0⟩ : ∃ x, l.getD k 0 = x := ⟨_, rfl⟩
      rw [hx0] at dx
      have hget : l[k]? = some x := by
        rw [← hx0, List.getD_eq_getElem?_getD, List.getElem?_eq_getElem (by rw [HN.out]; exact hkn)]; rfl
      have HTK : Hid (l.take (k + 1) = l.take k ++ [x]) := Lib.hid (by rw [List.take_add_one, hget]; rfl)
      have HX : Hid (x ≤ 2147483647) := Lib.hid (HC.out x (List.mem_of_getElem? hget))
      obtain ⟨s, hsr⟩ : ∃ s, (runS (freshS 1) (l.take k)).1 = s := ⟨_, rfl⟩
      have HSR : Hid ((runS (freshS 1) (l.take (k + 1))).1 = (takeS s x).1) := Lib.hid (by rw [HTK.out, runS_snoc, hsr])
      rw [hsr] at hs
      have HTAKE := Lib.hid (take_any X X s vm vp vt x HX.out wr hs.pw hs.ok hs.hb)
      have HSS := Lib.hid hs
      clear hx0 hc hs HS hget hsr
      go_wp2_with fail
      refine HTAKE.out.mono ?_
      rintro e w2 ⟨u, rfl, ht⟩
      obtain ⟨vm2, vp2, vt2, M, h3, hn⟩ := HSS.out.took HX.out ht
      dsimp only at h3
      rw [← HSR.out] at h3
      have HS2 := Lib.hid h3
      have HNA := Lib.hid hn
      clear ht h3 hn HTAKE
      have hml := HNA.out.len
      match M, hml, HNA with
      | [], _, HNA =>
        obtain ⟨A3, c3, hu⟩ := HNA.out.own.slice
        simp only [List.length_nil] at hu
        subst hu
        clear HNA
        go_wp2_with fail
        go_loop [8] (fun j => j = .int .i64 0) (fun j => 0)
        case atStart => rfl
        case round =>
          subst hrel
          go_wp2_with fail
          go_roundw
          case rel =>
            first
              | exact ⟨k + 1, by omega, by go_num, Lib.hid ⟨_, _, _, HS2.out⟩⟩
              | ((repeat apply Exists.intro); refine ⟨?_, rfl⟩; exact ⟨k + 1, by omega, by go_num, Lib.hid ⟨_, _, _, HS2.out⟩⟩)
          case measure => first | (simp [intOf]; done) | (simp [intOf]; omega)
      | [a], _, HNA =>
        obtain ⟨haw, g, c3, hu, hcl⟩ := HNA.out.one2
        have hgo : ∃ cur, w2.heap[g]? = some (.cells cur 31 (0, 0)) := (HNA.out.own.blk (b := g) (by rw [hu]; rfl)).2
        have HGB := Lib.hid hgo
        have HAW := Lib.hid haw
        obtain ⟨B2, q2, g2⟩ := haw.p.slice
        obtain ⟨B3, q3, g3⟩ := haw.t.slice
        obtain ⟨p2, hp2⟩ : ∃ p, a.ps.length = p := ⟨_, rfl⟩
        obtain ⟨p3, hp3⟩ : ∃ p, a.tx.length = p := ⟨_, rfl⟩
        have HSP0 : Hid (Spo w2 w2 a p2 p3) := Lib.hid ⟨Inv.ofBelow (Below.refl _ _), by rw [← hp2]; exact haw.p.pres, by rw [← hp3]; exact haw.t.pres⟩
        have HLIM : Hid (p2 ≤ 16 ∧ p3 ≤ 256) := Lib.hid (by
          have hb := takeS_bo HSS.out.ok (c := x) a.ac (by have := HNA.out.acs; dsimp only at this; rw [← this]; exact List.mem_map_of_mem List.mem_cons_self)
          rw [← hp2, ← hp3]
          exact ⟨hb.ps.1, hb.tx⟩)
        rw [hp2] at g2
        rw [hp3] at g3
        have HV2 := Lib.hid g2
        have HV3 := Lib.hid g3
        subst hu
        have hp216 := HLIM.out.1
        have hp3256 := HLIM.out.2
        have HZ : Hid (∀ wq, Spo w2 wq a p2 p3 → g < wq.heap.size ∧ wq.cell? ⟨g, 5, none⟩ = some (.slice B2 p2 q2) ∧ wq.cell? ⟨g, 6, none⟩ = some (.slice B3 p3 q3)) := Lib.hid (fun wq hq => by
          obtain ⟨cur, hg⟩ := HGB.out
          have hgl := lt_of_heap hg
          have hf : wq.heap[g]? = w2.heap[g]? := hq.inv.far g hgl (fun hs => by
            obtain ⟨cur2, e2, hh2, hne, _⟩ := HAW.out.kind (b := g) (hs.elim (fun h => .inr (.inl h)) (fun h => .inr (.inr h)))
            rw [hg] at hh2
            simp only [Option.some.injEq, Obj.cells.injEq] at hh2
            exact hne hh2.2.1.symm)
          refine ⟨by have := hq.inv.size; omega, (cell_same hf).trans ?_, (cell_same hf).trans ?_⟩
          · rw [← HV2.out]; exact hcl 5 _ rfl
          · rw [← HV3.out]; exact hcl 6 _ rfl)
        have HEND : Hid (∀ wq, Spo w2 wq a p2 p3 → ∃ vm vp vt, AllSt w wq X X ((runS (freshS 1) (l.take (k + 1))).1, []) vm vp vt (.slice none 0 0) [] 0) := Lib.hid (fun wq hq =>
          ⟨_, _, _, HS2.out.keep hq.inv (fun g hg hs => HNA.out.far a List.mem_cons_self g (hs.elim (fun h => .inr (.inl h)) (fun h => .inr (.inr h))) hg) (fun g hs => HAW.out.ge (hs.elim (fun h => .inr (.inl h)) (fun h => .inr (.inr h))))⟩)
        clear hcl haw hgo hp2 hp3 g2 g3 HNA HS2 HSS
        go_wp2_with fail
        go_loopw [8] (fun j wq => (j = .int .i64 0 ∨ j = .int .i64 1) ∧ Hid (Spo w2 wq a p2 p3)) (fun j _ => 1 - (intOf j).toNat)
        case atStart => exact ⟨.inl rfl, HSP0⟩
        case round =>
          obtain ⟨hj, HQ⟩ := hrel
          obtain ⟨zg, z5, z6⟩ := HZ.out _ HQ.out
          rcases hj with rfl | rfl
          · clear HSP0
            go_wp2_with fail
            go_loopw [9] (fun j wq => ∃ q : Nat, q ≤ p2 ∧ j = .int .i64 q ∧ Hid (Spo w2 wq a p2 p3)) (fun j _ => p2 - (intOf j).toNat)
            case atStart => exact ⟨0, by omega, rfl, HQ⟩
            case round =>
              clear HQ z5 z6 zg
              obtain ⟨q, hq, rfl, HQ⟩ := hrel
              obtain ⟨zg, z5, z6⟩ := HZ.out _ HQ.out
              by_cases hqn : q < p2
              · have hqi : (q : Int) < (p2 : Int) := by omega
                have hq0 : (0 : Int) ≤ (q : Int) := by omega
                obtain ⟨b8, o8, c8, cur8, e8, hv8, hh8, hs8⟩ := HQ.out.p (by omega)
                have hvo : a.vp.ownBlock = some b8 := by rw [hv8]; rfl
                rw [HV2.out] at hv8
                simp only [Value.slice.injEq, true_and] at hv8
                obtain ⟨hB8, hc8⟩ := hv8
                subst hB8
                have dy := (cell_of_row wr b8 (o8 + q) _ _ _ hh8).trans (Array.getElem?_eq_getElem (show o8 + q < cur8.size by omega))
                obtain ⟨y8, hy8⟩ : ∃ y, cur8[o8 + q]'(show o8 + q < cur8.size by omega) = y := ⟨_, rfl⟩
                rw [hy8] at dy
                have hfy : wr.frozen? ⟨b8, o8 + q, none⟩ = false := frozen_of_row wr b8 (o8 + q) _ _ hh8
                have HQ2 : Hid (Spo w2 (wr.setCell ⟨b8, o8 + q, none⟩ (.int .i64 (-9))) a p2 p3) := Lib.hid (HQ.out.set (.inl hvo))
                clear hh8 hs8 hy8 hc8 hvo
                go_wp2_with fail
                go_roundw
                case rel =>
                  first
                    | exact ⟨q + 1, by omega, by go_num, HQ2⟩
                    | ((repeat apply Exists.intro); refine ⟨?_, rfl⟩; exact ⟨q + 1, by omega, by go_num, HQ2⟩)
                case measure => first | (simp [intOf]; done) | (simp [intOf]; omega)
              · have hqi : ¬ (q : Int) < (p2 : Int) := by omega
                go_wp2_with fail
                go_loopw [10] (fun j wq => ∃ q : Nat, q ≤ p3 ∧ j = .int .i64 q ∧ Hid (Spo w2 wq a p2 p3)) (fun j _ => p3 - (intOf j).toNat)
                case atStart => exact ⟨0, by omega, rfl, HQ⟩
                case round =>
                  clear HQ z5 z6 zg hq hqn hqi
                  obtain ⟨q, hq, rfl, HQ⟩ := hrel
                  obtain ⟨zg, z5, z6⟩ := HZ.out _ HQ.out
                  by_cases hqn : q < p3
                  · have hqi : (q : Int) < (p3 : Int) := by omega
                    have hq0 : (0 : Int) ≤ (q : Int) := by omega
                    obtain ⟨b8, o8, c8, cur8, e8, hv8, hh8, hs8⟩ := HQ.out.t (by omega)
                    have hvo : a.vt.ownBlock = some b8 := by rw [hv8]; rfl
                    rw [HV3.out] at hv8
                    simp only [Value.slice.injEq, true_and] at hv8
                    obtain ⟨hB8, hc8⟩ := hv8
                    subst hB8
                    have dy := (cell_of_row wr b8 (o8 + q) _ _ _ hh8).trans (Array.getElem?_eq_getElem (show o8 + q < cur8.size by omega))
                    obtain ⟨y8, hy8⟩ : ∃ y, cur8[o8 + q]'(show o8 + q < cur8.size by omega) = y := ⟨_, rfl⟩
                    rw [hy8] at dy
                    have hfy : wr.frozen? ⟨b8, o8 + q, none⟩ = false := frozen_of_row wr b8 (o8 + q) _ _ hh8
                    have HQ2 : Hid (Spo w2 (wr.setCell ⟨b8, o8 + q, none⟩ (.int .i32 1)) a p2 p3) := Lib.hid (HQ.out.set (.inr hvo))
                    clear hh8 hs8 hy8 hc8 hvo
                    go_wp2_with fail
                    go_roundw
                    case rel =>
                      first
                        | exact ⟨q + 1, by omega, by go_num, HQ2⟩
                        | ((repeat apply Exists.intro); refine ⟨?_, rfl⟩; exact ⟨q + 1, by omega, by go_num, HQ2⟩)
                    case measure => first | (simp [intOf]; done) | (simp [intOf]; omega)
                  · have hqi : ¬ (q : Int) < (p3 : Int) := by omega
                    go_wp2_with fail
                    go_roundw
                    case rel =>
                      first
                        | exact ⟨.inr rfl, HQ⟩
                        | ((repeat apply Exists.intro); refine ⟨?_, rfl⟩; exact ⟨.inr rfl, HQ⟩)
                    case measure => first | (simp [intOf]; done) | (simp [intOf]; omega)
          · have HE := Lib.hid (HEND.out _ HQ.out)
            go_wp2_with fail
            go_roundw
            case rel =>
              first
                | exact ⟨k + 1, by omega, by go_num, HE⟩
                | ((repeat apply Exists.intro); refine ⟨?_, rfl⟩; exact ⟨k + 1, by omega, by go_num, HE⟩)
            case measure => first | (simp [intOf]; done) | (simp [intOf]; omega)
    · have hki : ¬ (k : Int) < (n : Int) := by omega
      have hkl : l.take k = l := List.take_of_length_le (by have := HN.out; omega)
      rw [hkl] at hs
      clear HS hkl
      obtain ⟨s, hsr⟩ : ∃ s, (runS (freshS 1) l).1 = s := ⟨_, rfl⟩
      rw [hsr] at hs
      have HSR := Lib.hid hsr
      have HSS := Lib.hid hs
      clear hs hsr
      obtain ⟨Z, hZ⟩ : ∃ Z, wr.heap.size = Z := ⟨_, rfl⟩
      have HZL : Hid ((∀ g, PB X vm vp vt g → g < Z) ∧ X ≤ Z) := Lib.hid ⟨fun g hg => by rw [← hZ]; exact HSS.out.pw.lt hg, by rw [← hZ]; exact HSS.out.hb⟩
      go_wp2_with fail
      refine (copy_any X X s vm vp vt wr HSS.out.pw HSS.out.ok).mono ?_
      rintro e w2 ⟨⟨Q, vm2, vp2, vt2, rfl, hQ, hpq⟩, hb⟩
      rw [hZ] at hQ hpq
      have HQ := Lib.hid hQ
      have HPQ := Lib.hid hpq
      have HS2 : Hid (AllSt w w2 X X (s, []) vm vp vt (.slice none 0 0) [] 0) := Lib.hid (HSS.out.keep (Inv.ofBelow (S := fun _ => False) hb) (fun _ _ h => h) (fun _ h => h.elim))
      have HZ2 : Hid (Z ≤ w2.heap.size) := Lib.hid (by rw [← hZ]; exact hb.size)
      clear hQ hpq hb
      go_wp2_with fail
      refine (take_any Q Z s vm2 vp2 vt2 24 (by omega) w2 HPQ.out HSS.out.ok HZ2.out).mono ?_
      rintro e w3 ⟨u3, rfl, ht⟩
      obtain ⟨k1, vm3, vp3, vt3, k2, k3⟩ := HS2.out.other HZL.out.1 HZL.out.2 HPQ.out HQ.out (takeS_ok HSS.out.ok (by omega)) ht
      obtain ⟨_, _, _, _, _, hI3, _⟩ := ht
      have HS3 := Lib.hid k1
      have HP3 := Lib.hid k2
      have HO3 := Lib.hid k3
      have HZ3 : Hid (Z ≤ w3.heap.size) := Lib.hid (Nat.le_trans HZ2.out hI3.size)
      clear k1 k2 k3 hI3
      go_wp2_with fail
      refine (take_any Q Z _ vm3 vp3 vt3 65 (by omega) w3 HP3.out HO3.out HZ3.out).mono ?_
      rintro e w4 ⟨u4, rfl, ht⟩
      obtain ⟨k1, vm4, vp4, vt4, k2, k3⟩ := HS3.out.other HZL.out.1 HZL.out.2 HP3.out HQ.out (takeS_ok HO3.out (by omega)) ht
      have HS4 := Lib.hid k1
      clear k1 k2 k3 ht
      obtain ⟨Rb, hRb⟩ : ∃ R, w4.heap.size = R := ⟨_, rfl⟩
      obtain ⟨W5, hW5⟩ : ∃ W, w4.alloc (.cells #[.int .i64 0, .int .u8 0, .slice none 0 0, .slice none 0 0, .int .i64 0, .slice none 0 0, .bool false] 38) = W := ⟨_, rfl⟩
      have hb5 : Below w4.heap.size w4 W5 := by rw [← hW5]; exact Below.alloc (Below.refl _ _) (Nat.le_refl _) _
      have hs5 := HS4.out.keep (Inv.ofBelow (S := fun _ => False) hb5) (fun _ _ h => h) (fun _ h => h.elim)
      have HJ : Hid (J0 w X Rb X s (runR (freshR 0) (l.take 0)).1 W5) := Lib.hid ⟨_, _, _, .slice none 0 0, .slice none 0 0, .slice none 0 0, hs5, ⟨⟨by
          rw [← hW5, ← hRb]; exact heap_alloc_last _ _, OwK.nil _ _ _ _, OwK.nil _ _ _ _, OwK.nil _ _ _ _⟩, hs5.bel, OwA.nil _ _, rfl, by simp, by simp, hs5.hb, by have := HS4.out.hb; omega⟩, fun g hg hr => by
          have h1 := HS4.out.pw.lt hg
          have h2 := pb_nil hr
          omega⟩
      have hz : ∀ w, (zeroValue 38).run Try.prog w = .ok (.agg #[.int .i64 0, .int .u8 0, .slice none 0 0, .slice none 0 0, .int .i64 0, .slice none 0 0, .bool false]) w := zero_rpar
      clear hs5 hb5
      go_wp2_with fail
      go_loopw [13] (fun i wr => ∃ k : Nat, k ≤ n ∧ i = .int .i64 k ∧ Hid (J0 w X Rb X s (runR (freshR 0) (l.take k)).1 wr)) (fun i _ => n - (intOf i).toNat)
      case atStart => exact ⟨0, by omega, rfl, HJ⟩
      case round =>
        clear HJ hki hkn hk
        obtain ⟨k, hk, rfl, HJ⟩ := hrel
        by_cases hkn : k < n
        · have hki : (k : Int) < (n : Int) := by omega
          have hk0 : (0 : Int) ≤ (k : Int) := by omega
          obtain ⟨b, off, hA, hc⟩ := (H.out.blocks (w1 := wr) fun b off hn hA => HJ.out.bel.1.block b (by have := H.out.lt_ hn hA; omega)).2 (by omega)
          have dx := hc k hkn
          subst hA
          obtain ⟨x, hx0⟩ : ∃ x, l.getD k 0 = x := ⟨_, rfl⟩
          rw [hx0] at dx
          have hget : l[k]? = some x := by
            rw [← hx0, List.getD_eq_getElem?_getD, List.getElem?_eq_getElem (by rw [HN.out]; exact hkn)]; rfl
          have HTK : Hid (l.take (k + 1) = l.take k ++ [x]) := Lib.hid (by rw [List.take_add_one, hget]; rfl)
          have HROK : Hid (ROk (runR (freshR 0) (l.take k)).1) := Lib.hid (rok_run2 (fun c hc => HC.out c (List.mem_of_mem_take hc)) (by simp; omega))
          clear hx0 hget hc
          go_wp2_with fail
          refine (stepR (c := x) HJ.out HROK.out).mono ?_
          rintro e w6 ⟨v6, rfl, ⟨A6, n6, c6, rfl⟩, hj⟩
          have HJ6 : Hid (J0 w X Rb X s (runR (freshR 0) (l.take (k + 1))).1 w6) := Lib.hid (by rw [HTK.out, runR_snoc]; exact hj)
          clear hj
          go_wp2_with fail
          go_roundw
          case rel =>
            first
              | exact ⟨k + 1, by omega, by go_num, HJ6⟩
              | ((repeat apply Exists.intro); refine ⟨?_, rfl⟩; exact ⟨k + 1, by omega, by go_num, HJ6⟩)
          case measure => first | (simp [intOf]; done) | (simp [intOf]; omega)
        · have hki : ¬ (k : Int) < (n : Int) := by omega
          have HJ9 : Hid (J0 w X Rb X (runS (freshS 1) (l ++ m.take 0)).1 (runR (freshR 0) (l ++ m.take 0)).1 wr) := Lib.hid (by
            have := HJ.out
            rw [List.take_of_length_le (by have := HN.out; omega), ← HSR.out] at this
            rw [List.take_zero, List.append_nil]
            exact this)
          clear HJ
          go_wp2_with fail
          go_loopw [14] (fun i wr => ∃ k : Nat, k ≤ n2 ∧ i = .int .i64 k ∧ Hid (J0 w X Rb X (runS (freshS 1) (l ++ m.take k)).1 (runR (freshR 0) (l ++ m.take k)).1 wr)) (fun i _ => n2 - (intOf i).toNat)
          case atStart => exact ⟨0, by omega, rfl, HJ9⟩
          case round =>
            clear HJ9 hki hkn hk
            obtain ⟨k, hk, rfl, HJ⟩ := hrel
            by_cases hkn : k < n2
            · have hki : (k : Int) < (n2 : Int) := by omega
              have hk0 : (0 : Int) ≤ (k : Int) := by omega
              obtain ⟨b, off, hA, hc⟩ := H2.out.2 (by omega)
              subst hA
              obtain ⟨x, hx0⟩ : ∃ x, m.getD k 0 = x := ⟨_, rfl⟩
              have hdx := hc k hkn
              rw [hx0] at hdx
              have HF : Hid (∀ W, Below X w W → W.cell? ⟨b, off + k, none⟩ = some (.int .i32 x)) := Lib.hid (fun W hb => (cell_same (hb.block b (by have : b < w.heap.size := block_lt_of_cell hdx; omega))).trans hdx)
              have hget : m[k]? = some x := by
                rw [← hx0, List.getD_eq_getElem?_getD, List.getElem?_eq_getElem (by rw [HN2.out]; exact hkn)]; rfl
              have HTK : Hid (l ++ m.take (k + 1) = (l ++ m.take k) ++ [x]) := Lib.hid (by rw [List.take_add_one, hget, List.append_assoc]; rfl)
              have HX : Hid (x ≤ 2147483647) := Lib.hid (HC2.out x (List.mem_of_getElem? hget))
              have HLM : Hid (∀ c ∈ l ++ m.take k, c ≤ 2147483647) := Lib.hid (fun c hc => (List.mem_append.1 hc).elim (HC.out c) (fun hc => HC2.out c (List.mem_of_mem_take hc)))
              have HROK : Hid (ROk (runR (freshR 0) (l ++ m.take k)).1) := Lib.hid (rok_run2 HLM.out (by have := HN.out; simp; omega))
              have HSIM := Lib.hid (sim_run HLM.out).1
              obtain ⟨s7, hs7⟩ : ∃ s, (runS (freshS 1) (l ++ m.take k)).1 = s := ⟨_, rfl⟩
              obtain ⟨r7, hr7⟩ : ∃ r, (runR (freshR 0) (l ++ m.take k)).1 = r := ⟨_, rfl⟩
              have HNX : Hid ((runS (freshS 1) (l ++ m.take (k + 1))).1 = (takeS s7 x).1 ∧ (runR (freshR 0) (l ++ m.take (k + 1))).1 = (rtakeS r7 x).1) := Lib.hid (by rw [HTK.out, runS_snoc, runR_snoc, hs7, hr7]; exact ⟨rfl, rfl⟩)
              rw [hs7, hr7] at HJ HSIM
              rw [hr7] at HROK
              have HEQ : Hid ((takeS s7 x).2 = (rtakeS r7 x).2) := Lib.hid (sim_take HSIM.out HJ.out.bel.2.2 x).1
              have HAO : Hid (∀ a ∈ (takeS s7 x).2, AcOk a) := Lib.hid (takeS_acs HJ.out.bel.2.2)
              have HI0 : Hid (Below X w wr.drew ∧ StJ (J0 w X Rb X s7 r7) (J1 w X Rb X (takeS s7 x).1 r7 (takeS s7 x).2) (J2 w X Rb X (takeS s7 x).1 (rtakeS r7 x).1 (takeS s7 x).2 (takeS s7 x).2) (fun _ => gst 0 #[]) wr.drew) := Lib.hid ⟨bl_drew HJ.out.bel.1, (stJ0 rfl).2 (HJ.out.below (Below.drew (Below.refl _ _)))⟩
              clear hx0 hget hc hdx hs7 hr7
              go_wp2_with fail
              apply wp_region_effT (fun γ W => Below X w W ∧ StJ (J0 w X Rb X s7 r7) (J1 w X Rb X (takeS s7 x).1 r7 (takeS s7 x).2) (J2 w X Rb X (takeS s7 x).1 (rtakeS r7 x).1 (takeS s7 x).2 (takeS s7 x).2) γ W) (fun _ => gst 0 #[]) HI0.out (hm := by kernel_rfl)
              case h =>
                (apply SeqF.pure; (focus (first | rfl | (go_simp; done) | (simp [Region.wanted, yielded]; done))); (focus (intro w; go_simp; with_reducible rfl)); go_simp)
                (apply SeqF.pure; (focus (first | rfl | (go_simp; done) | (simp [Region.wanted, yielded]; done))); (focus (intro w; go_simp; with_reducible rfl)); go_simp)
                (apply SeqF.pure; (focus (first | rfl | (go_simp; done) | (simp [Region.wanted, yielded]; done))); (focus (intro w; go_simp; with_reducible rfl)); go_simp)
                (apply SeqF.pure; (focus (first | rfl | (go_simp; done) | (simp [Region.wanted, yielded]; done))); (focus (intro w; go_simp; with_reducible rfl)); go_simp)
                (apply SeqF.read []; (focus (first | rfl | (go_simp; done) | (simp [Region.wanted, yielded]; done))); (focus (intro γ' W hg hI; have x0 := HF.out W hI.1; go_simp; with_reducible rfl)); go_simp)
                apply SeqF.callE [0] (some 0) (fun _ v x => x = gst 1 #[v] ∧ ∃ A n m, v = .slice A n m) 9 #[.pointer (some ⟨X, 0, none⟩), .int .i32 x]
                · exact fun _ _ => rfl
                · (first | rfl | (go_simp; done) | (simp [Region.wanted, yielded]; done))
                · intro w; kernel_rfl
                · intro γ' W hg hI
                  have hj := (stJ0 (hg 0 (by simp))).1 hI.2
                  refine (step1 hj HX.out).mono ?_
                  rintro e w' ⟨u, rfl, hu, hj1⟩
                  exact ⟨u, gst 1 #[u], rfl, ⟨rfl, hu⟩, hj1.bel, (stJ1 (Gh.set_here _ _ _)).2 hj1⟩
                rintro u1 x1 ⟨rfl, A1, n1, m1, rfl⟩
                go_simp
                (apply SeqF.pure; (focus (first | rfl | (go_simp; done) | (simp [Region.wanted, yielded]; done))); (focus (intro w; go_simp; with_reducible rfl)); go_simp)
                (apply SeqF.pure; (focus (first | rfl | (go_simp; done) | (simp [Region.wanted, yielded]; done))); (focus (intro w; go_simp; with_reducible rfl)); go_simp)
                (apply SeqF.pure; (focus (first | rfl | (go_simp; done) | (simp [Region.wanted, yielded]; done))); (focus (intro w; go_simp; with_reducible rfl)); go_simp)
                (apply SeqF.read []; (focus (first | rfl | (go_simp; done) | (simp [Region.wanted, yielded]; done))); (focus (intro γ' W hg hI; have x0 := HF.out W hI.1; go_simp; with_reducible rfl)); go_simp)
                apply SeqF.callE [0] (some 0) (fun γ v x => x = gst 2 #[gu1 (γ 0), v] ∧ ∃ A n m, v = .slice A n m) 15 #[.pointer (some ⟨Rb, 0, none⟩), .int .i32 x]
                · exact fun γ' hg => by rw [hg 0 (by simp)]
                · (first | rfl | (go_simp; done) | (simp [Region.wanted, yielded]; done))
                · intro w; kernel_rfl
                · intro γ' W hg hI
                  have hg0 := hg 0 (by simp)
                  rw [Gh.set_here] at hg0
                  have hj := (stJ1 hg0).1 hI.2
                  refine (step2 (c := x) hj HROK.out).mono ?_
                  rintro e w' ⟨u, rfl, hu, hj2⟩
                  rw [← HEQ.out] at hj2
                  exact ⟨u, gst 2 #[.slice A1 n1 m1, u], rfl, ⟨rfl, hu⟩, hj2.1.bel.1, (stJ2 (Gh.set_here _ _ _)).2 hj2⟩
                rintro u2 x2 ⟨rfl, A2', n2', m2', rfl⟩
                simp only [Gh.set_here, gu1_gst]
                go_simp
                apply SeqF.call (v := .bool true) [0] 12 #[.slice A1 n1 m1, .slice A2' n2' m2']
                · (first | rfl | (go_simp; done) | (simp [Region.wanted, yielded]; done))
                · intro w; kernel_rfl
                · intro γ' W hg hI
                  have hg0 := hg 0 (by simp)
                  rw [Gh.set_here] at hg0
                  have hj := (stJ2 hg0).1 hI.2
                  refine (step3 hj HAO.out).mono ?_
                  rintro e w' ⟨rfl, hj2⟩
                  exact ⟨rfl, hj2.1.bel.1, (stJ2 hg0).2 hj2⟩
                go_simp
                (apply SeqF.pure; (focus (first | rfl | (go_simp; done) | (simp [Region.wanted, yielded]; done))); (focus (intro w; go_simp; with_reducible rfl)); go_simp)
                apply SeqF.done
                intro w9 hI9
                have HJ9 : Hid (J0 w X Rb X (runS (freshS 1) (l ++ m.take (k + 1))).1 (runR (freshR 0) (l ++ m.take (k + 1))).1 w9) := Lib.hid (by
                  rw [HNX.out.1, HNX.out.2]
                  exact ((stJ2 (Gh.set_here _ _ _)).1 hI9.2).1)
                clear hI9
                go_simp
                go_wp2_with fail
                go_roundw
                case rel =>
                  first
                    | exact ⟨k + 1, by omega, by go_num, HJ9⟩
                    | ((repeat apply Exists.intro); refine ⟨?_, rfl⟩; exact ⟨k + 1, by omega, by go_num, HJ9⟩)
                case measure => first | (simp [intOf]; done) | (simp [intOf]; omega)
              case hl => rfl
              case ho => kernel_rfl
            · have hki : ¬ (k : Int) < (n2 : Int) := by omega
              go_wp2_with fail
              refine (anchored_any wr).mono ?_
              rintro e w9 ⟨rfl, hb⟩
              have HBE : Hid (Below X w w9) := Lib.hid (bl_then HJ.out.bel.1 HJ.out.bel.2.1 hb)
              clear hb
              go_wp2_with fail
              go_ret
              exact ⟨rfl, HBE.out⟩
end Go.Proofs.Ytecgipccippddaa
