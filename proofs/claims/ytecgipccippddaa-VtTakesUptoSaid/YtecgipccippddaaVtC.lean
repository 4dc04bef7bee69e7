/- What is proved: the law VtBounds answers true on slices of at most 1048576 characters; conditions: those typed. -/
import Derived.Test.YtecgipccippddaaVtB
set_option linter.unusedSimpArgs false
set_option linter.unusedVariables false
namespace Go.Proofs.Ytecgipccippddaa
open Go.RowKit
set_option maxRecDepth 100000
set_option maxHeartbeats 8000000
/-- The limits of an action. -/
structure AcB (x : Ac) : Prop where
  mid : x.mid.length ≤ 2
  ps : x.ps.length ≤ 16 ∧ ∀ y ∈ x.ps, 0 ≤ y ∧ y ≤ 9999
  tx : x.tx.length ≤ 256
  k : 1 ≤ x.k ∧ x.k ≤ 5
def BO (r : VS × List Ac) : Prop := ∀ x ∈ r.2, AcB x
theorem BO.nil (s : VS) : BO (s, []) := by intro x hx; simp at hx
theorem BO.one (s : VS) {a : Ac} (h : AcB a) : BO (s, [a]) := by intro x hx; obtain rfl := List.mem_singleton.1 hx; exact h
theorem BO.ends (s s' : VS) {a : Ac} (h : AcB a) : BO (s', endR s a) := by
  unfold endR
  cases s.bad with
  | true => exact BO.nil _
  | false => exact BO.one _ h
theorem AcB.plain {k : Int} (hk : 1 ≤ k ∧ k ≤ 5) (ch pv fi : Int) : AcB ⟨k, ch, pv, fi, [], [], []⟩ := ⟨by simp, by simp, by simp, hk⟩
theorem escapedS_bo {s : VS} {c : Int} (h : VOk s) : BO (escapedS s c) := by
  have hm := h.mid
  have e4 : ∀ b c d, AcB ⟨3, b, c, d, s.mid, [], []⟩ := fun _ _ _ => ⟨hm.1, by simp, by simp, by simp⟩
  unfold escapedS
  repeat' split
  all_goals first | exact BO.nil _ | exact BO.ends _ _ (e4 _ _ _)
theorem controlS_bo {s : VS} {c : Int} (h : VOk s) : BO (controlS s c) := by
  have hm := h.mid
  have hp := h.ps
  have e2 : ∀ b c d, AcB ⟨4, b, c, d, s.mid, s.ps, []⟩ := fun _ _ _ => ⟨hm.1, hp, by simp, by simp⟩
  unfold controlS
  repeat' split
  all_goals first | exact BO.nil _ | exact BO.ends _ _ (e2 _ _ _)
theorem takeS_bo {s : VS} {c : Int} (h : VOk s) : BO (takeS s c) := by
  have ht := h.tx
  have e3 : ∀ b c d, AcB ⟨5, b, c, d, [], [], s.tx⟩ := fun _ _ _ => ⟨by simp, by simp, ht.1, by simp⟩
  unfold takeS
  dsimp only
  generalize (if c < 0 then (127 : Int) else c) = c'
  split
  · repeat' split
    all_goals first | exact BO.nil _ | exact BO.one _ (e3 _ _ _)
  · split
    · exact BO.one _ (AcB.plain (by omega) _ _ _)
    · split
      · split
        · exact BO.one _ (AcB.plain (by omega) _ _ _)
        · exact BO.nil _
      · split
        · exact escapedS_bo h
        · split
          · exact controlS_bo h
          · repeat' split
            all_goals first | exact BO.nil _ | exact BO.ends _ _ (e3 _ _ _)
theorem takeS_24 (s : VS) : takeS s 24 = (freshS 1, []) := by
  unfold takeS
  rw [if_neg (show ¬ (24 : Int) < 0 by omega)]
  simp
/-- An action alone, as it is read. -/
theorem NewAc.one2 {w' : World} {P base : Nat} {acs : List Ac} {vm vp vt u : Value} {a : HA} (h : NewAc w' P base acs vm vp vt u [a]) : AW w' base a ∧ ∃ g cap, u = .slice (some ⟨g, 0, none⟩) 1 cap ∧ ∀ j y, (arow a).toList[j]? = some y → w'.cell? ⟨g, j, none⟩ = some y := by
  obtain ⟨A, c, hu, hr⟩ := h.own.slice7
  obtain ⟨g, cur, rfl, hh, hc⟩ := hr 0 a rfl
  refine ⟨h.own.acts a List.mem_cons_self, g, c, hu, fun j y hy => ?_⟩
  rw [cell_of_row _ _ _ _ _ _ hh]
  have := hc j y hy
  rwa [Nat.zero_mul, Nat.zero_add] at this
theorem bounds_law (A A2 : Option Addr) (n cap n2 cap2 : Nat) (l m : List Int) (w : World) (h : RdI w .i32 A n l) (h2 : RdI w .i32 A2 n2 m) (hl : n ≤ 1048576) (hl2 : n2 ≤ 1048576) (hx : ∀ c ∈ l, c ≤ 2147483647) (hx2 : ∀ c ∈ m, c ≤ 2147483647) :
    Calls Try.prog 3 #[.slice A n cap, .slice A2 n2 cap2] w fun e w' => e = .returned (.bool true) ∧ Below w.heap.size w w' := by
  have HN := Lib.hid h.len
  have HN2 := Lib.hid h2.len
  have H := Lib.hid h
  have H2 := Lib.hid h2
  have HC := Lib.hid hx
  have HC2 := Lib.hid hx2
  clear h h2 hx hx2
  obtain ⟨X, hX⟩ : ∃ X, w.heap.size = X := ⟨_, rfl⟩
  have HST := Lib.hid (AllSt.start w)
  obtain ⟨W0, hW0⟩ : ∃ W, w.alloc (.cells (pcells (freshS 1) (.slice none 0 0) (.slice none 0 0) (.slice none 0 0)) 47) = W := ⟨_, rfl⟩
  rw [hW0, hX] at HST
  have HNEW := Lib.hid (new_any w)
  rw [hW0, hX] at HNEW
  rw [hX]
  clear hW0
  go_enter Try.func3, Try.ntmps3
  go_wp2_with fail
  refine HNEW.out.mono ?_
  rintro e w1 ⟨rfl, hw1⟩
  subst w1
  go_wp2_with fail
  go_loopw [6] (fun i wr => ∃ k : Nat, k ≤ n ∧ i = .int .i64 k ∧ Hid (∃ s vm vp vt, AllSt w wr X X (s, []) vm vp vt (.slice none 0 0) [] 0)) (fun i _ => n - (intOf i).toNat)
  case atStart => exact ⟨0, by omega, rfl, Lib.hid ⟨_, _, _, _, HST.out⟩⟩
  case round =>
    obtain ⟨k, hk, rfl, HS⟩ := hrel
    obtain ⟨s, vm, vp, vt, hs⟩ := HS.out
    by_cases hkn : k < n
    · have hki : (k : Int) < (n : Int) := by omega
      have hk0 : (0 : Int) ≤ (k : Int) := by omega
      obtain ⟨b, off, hA, hc⟩ := (H.out.blocks (w1 := wr) fun b off hn hA => hs.bel.block b (by have := H.out.lt_ hn hA; omega)).2 (by omega)
      have dx := hc k hkn
      subst hA
      obtain ⟨x, hx0⟩ : ∃ x, l.getD k 0 = x := ⟨_, rfl⟩
      rw [hx0] at dx
      have hget : l[k]? = some x := by
        rw [← hx0, List.getD_eq_getElem?_getD, List.getElem?_eq_getElem (by rw [HN.out]; exact hkn)]; rfl
      have HX : Hid (x ≤ 2147483647) := Lib.hid (HC.out x (List.mem_of_getElem? hget))
      have HTAKE := Lib.hid (take_any X X s vm vp vt x HX.out wr hs.pw hs.ok hs.hb)
      have HSS := Lib.hid hs
      clear hx0 hc hs HS hget
      go_wp2_with fail
      refine HTAKE.out.mono ?_
      rintro e w2 ⟨u, rfl, ht⟩
      obtain ⟨vm2, vp2, vt2, M, h3, hn⟩ := HSS.out.took HX.out ht
      have HS2 : Hid (∃ s vm vp vt, AllSt w w2 X X (s, []) vm vp vt (.slice none 0 0) [] 0) := Lib.hid ⟨_, _, _, _, h3⟩
      have HBO : Hid (∀ a ∈ M, AcB a.ac) := Lib.hid (fun a ha => takeS_bo HSS.out.ok _ (by have := hn.acs; dsimp only at this; rw [← this]; exact List.mem_map_of_mem ha))
      have HNA := Lib.hid hn
      clear ht h3 hn HTAKE
      have hml := HNA.out.len
      match M, hml, HBO, HNA with
      | [], _, HBO, HNA =>
        obtain ⟨A3, c3, hu⟩ := HNA.out.own.slice
        simp only [List.length_nil] at hu
        subst hu
        clear HBO HNA
        go_wp2_with fail
        go_loop [8] (fun j => j = .int .i64 0) (fun j => 0)
        case atStart => rfl
        case round =>
          subst hrel
          go_wp2_with fail
          go_roundw
          case rel =>
            first
              | exact ⟨k + 1, by omega, by go_num, HS2⟩
              | ((repeat apply Exists.intro); refine ⟨?_, rfl⟩; exact ⟨k + 1, by omega, by go_num, HS2⟩)
          case measure => first | (simp [intOf]; done) | (simp [intOf]; omega)
      | [a], _, HBO, HNA =>
        obtain ⟨haw, g, c3, hu, hcl⟩ := HNA.out.one2
        have hab := HBO.out a List.mem_cons_self
        obtain ⟨ak, ac, av, af, avm, avp, avt, am, ap, at'⟩ := a
        obtain ⟨B1, q1, g1, _⟩ := haw.m
        obtain ⟨B2, q2, g2, r2, _⟩ := haw.p
        obtain ⟨B3, q3, g3, _⟩ := haw.t
        dsimp only at g1 g2 g3 r2
        have b1 := hab.mid
        have b2 := hab.ps.1
        have HPS := Lib.hid hab.ps.2
        have b3 := hab.tx
        have b4 := hab.k.1
        have b5 := hab.k.2
        simp only [HA.ac] at b1 b2 b3 b4 b5 HPS
        obtain ⟨p1, hp1⟩ : ∃ p, am.length = p := ⟨_, rfl⟩
        obtain ⟨p2, hp2⟩ : ∃ p, ap.length = p := ⟨_, rfl⟩
        obtain ⟨p3, hp3⟩ : ∃ p, at'.length = p := ⟨_, rfl⟩
        rw [hp1] at b1 g1
        rw [hp2] at b2 g2 r2
        rw [hp3] at b3 g3
        have HR2 := Lib.hid r2
        have HP2 := Lib.hid hp2
        subst g1 g2 g3 hu
        have z0 : w2.cell? ⟨g, 0, none⟩ = some (.int .u8 ak) := hcl 0 _ rfl
        have z4 : w2.cell? ⟨g, 4, none⟩ = some (.slice B1 p1 q1) := hcl 4 _ rfl
        have z5 : w2.cell? ⟨g, 5, none⟩ = some (.slice B2 p2 q2) := hcl 5 _ rfl
        have z6 : w2.cell? ⟨g, 6, none⟩ = some (.slice B3 p3 q3) := hcl 6 _ rfl
        have i1 : ¬ (2 : Int) < (p1 : Int) := by omega
        have i2 : ¬ (16 : Int) < (p2 : Int) := by omega
        have i3 : ¬ (256 : Int) < (p3 : Int) := by omega
        have i4 : ¬ ak < 1 := by omega
        have i5 : ¬ 5 < ak := by omega
        clear HBO HNA hcl hab haw r2 hp1 hp2 hp3 b1 b3 b4 b5
        go_wp2_with fail
        go_loop [8] (fun j => j = .int .i64 0 ∨ j = .int .i64 1) (fun j => 1 - (intOf j).toNat)
        case atStart => exact .inl rfl
        case round =>
          rcases hrel with rfl | rfl
          · go_wp2_with fail
            go_loop [9] (fun j => ∃ q : Nat, q ≤ p2 ∧ j = .int .i64 q) (fun j => p2 - (intOf j).toNat)
            case atStart => exact ⟨0, by omega, rfl⟩
            case round =>
              obtain ⟨q, hq, rfl⟩ := hrel
              by_cases hqn : q < p2
              · have hqi : (q : Int) < (p2 : Int) := by omega
                have hq0 : (0 : Int) ≤ (q : Int) := by omega
                obtain ⟨b8, o8, hA, hc8⟩ := HR2.out.2 (by omega)
                have dy := hc8 q hqn
                subst hA
                have hyr : 0 ≤ ap.getD q 0 ∧ ap.getD q 0 ≤ 9999 := HPS.out _ (by
                  rw [List.getD_eq_getElem?_getD, List.getElem?_eq_getElem (by rw [HP2.out]; exact hqn)]
                  exact List.getElem_mem _)
                obtain ⟨y, hy⟩ : ∃ y, ap.getD q 0 = y := ⟨_, rfl⟩
                rw [hy] at dy hyr
                have j1 : ¬ y < 0 := by omega
                have j2 : ¬ 9999 < y := by omega
                clear hc8 hy hyr
                go_wp2_with fail
                go_round
                case rel =>
                  first
                    | exact ⟨q + 1, by omega, by go_num⟩
                    | ((repeat apply Exists.intro); refine ⟨?_, rfl⟩; exact ⟨q + 1, by omega, by go_num⟩)
                case measure => first | (simp [intOf]; done) | (simp [intOf]; omega)
              · have hqi : ¬ (q : Int) < (p2 : Int) := by omega
                go_wp2_with fail
                go_round
                case rel =>
                  first
                    | exact .inr rfl
                    | ((repeat apply Exists.intro); refine ⟨?_, rfl⟩; exact .inr rfl)
                case measure => first | (simp [intOf]; done) | (simp [intOf]; omega)
          · go_wp2_with fail
            go_roundw
            case rel =>
              first
                | exact ⟨k + 1, by omega, by go_num, HS2⟩
                | ((repeat apply Exists.intro); refine ⟨?_, rfl⟩; exact ⟨k + 1, by omega, by go_num, HS2⟩)
            case measure => first | (simp [intOf]; done) | (simp [intOf]; omega)
    · have hki : ¬ (k : Int) < (n : Int) := by omega
      have HTAKE := Lib.hid (take_any X X s vm vp vt 24 (by omega) wr hs.pw hs.ok hs.hb)
      have HSS := Lib.hid hs
      clear hs HS
      go_wp2_with fail
      refine HTAKE.out.mono ?_
      rintro e w2 ⟨u, rfl, ht⟩
      obtain ⟨vm2, vp2, vt2, M, h3, hn⟩ := HSS.out.took (by omega) ht
      dsimp only at h3
      rw [takeS_24] at h3
      have HS2 := Lib.hid h3
      clear ht h3 hn HTAKE HSS
      go_wp2_with fail
      refine (ground_any X X (freshS 1) vm2 vp2 vt2 w2 HS2.out.pw (by simp [freshS])).mono ?_
      rintro e w3 ⟨rfl, hw3⟩
      subst w3
      go_wp2_with fail
      go_loopw [10, 11] (fun o i wr => ∃ (k m1 : Nat) (B : Option Addr) (c : Nat), k ≤ n2 ∧ i = .int .i64 k ∧ o = .slice B m1 c ∧ Hid (∃ vm vp vt L, AllSt w wr X X (runS (freshS 1) (m.take k)) vm vp vt (.slice B m1 c) L k)) (fun _ i _ => n2 - (intOf i).toNat)
      case atStart => exact ⟨0, 0, none, 0, by omega, rfl, rfl, Lib.hid ⟨_, _, _, _, HS2.out⟩⟩
      case round =>
        clear HS2 hki hk
        obtain ⟨k, m1, B, cp, hk, rfl, rfl, HS⟩ := hrel
        by_cases hkn2 : k < n2
        · have hki : (k : Int) < (n2 : Int) := by omega
          have hk0 : (0 : Int) ≤ (k : Int) := by omega
          obtain ⟨vm, vp, vt, L, hs⟩ := HS.out
          obtain ⟨b, off, hA, hc⟩ := (H2.out.blocks (w1 := wr) fun b off hn hA => hs.bel.block b (by have := H2.out.lt_ hn hA; omega)).2 (by omega)
          have dx := hc k hkn2
          subst hA
          obtain ⟨x, hx0⟩ : ∃ x, m.getD k 0 = x := ⟨_, rfl⟩
          rw [hx0] at dx
          have hget : m[k]? = some x := by
            rw [← hx0, List.getD_eq_getElem?_getD, List.getElem?_eq_getElem (by rw [HN2.out]; exact hkn2)]; rfl
          have HTK : Hid (m.take (k + 1) = m.take k ++ [x]) := Lib.hid (by
            rw [List.take_add_one, hget]; rfl)
          have HX : Hid (x ≤ 2147483647) := Lib.hid (HC2.out x (List.mem_of_getElem? hget))
          have HTAKE := Lib.hid (take_any X X _ vm vp vt x HX.out wr hs.pw hs.ok hs.hb)
          have HSS := Lib.hid hs
          obtain ⟨r, hr⟩ : ∃ r, runS (freshS 1) (m.take k) = r := ⟨_, rfl⟩
          have HRS : Hid (runS (freshS 1) (m.take (k + 1)) = ((takeS r.1 x).1, r.2 ++ (takeS r.1 x).2)) := Lib.hid (by rw [HTK.out, runS_snoc, hr])
          rw [hr] at HTAKE HSS
          clear hx0 hget hc hs hr HS
          go_wp2_with fail
          refine HTAKE.out.mono ?_
          rintro e w2 ⟨u, rfl, ht⟩
          obtain ⟨vm2, vp2, vt2, M, h2, hn⟩ := HSS.out.took HX.out ht
          have HS2 := Lib.hid h2
          have HN3 := Lib.hid hn
          have HOW := Lib.hid h2.own
          have HOU := Lib.hid hn.own
          have HLE : Hid (L.length + M.length ≤ 1048577) := Lib.hid (by have := h2.len; have := hn.len; omega)
          have HBB := Lib.hid h2.hb
          obtain ⟨A3, c3, hu⟩ := hn.own.slice
          obtain ⟨m3, hm3⟩ : ∃ m, M.length = m := ⟨_, rfl⟩
          rw [hm3] at hu
          subst hu
          clear ht h2 hn HTAKE HSS hm3
          go_wp2_with (at_builtin; refine wpList_appA (base := X) (base2 := X) rfl _ _ rfl (.slice B m1 cp) (.slice A3 m3 c3) L M rfl HOW.out rfl HOU.out HLE.out HBB.out (Nat.le_refl _) ?_)
          intro v3 w3 k1 k2 k3
          have hs3 := HS2.out.app HN3.out k1 k2
          rw [← HRS.out] at hs3
          obtain ⟨A4, c4, hv⟩ := k1.slice
          obtain ⟨m4, hm4⟩ : ∃ m, (L ++ M).length = m := ⟨_, rfl⟩
          rw [hm4] at hv
          subst hv
          have HS3 : Hid (∃ vm vp vt L, AllSt w w3 X X (runS (freshS 1) (m.take (k + 1))) vm vp vt (.slice A4 m4 c4) L (k + 1)) := Lib.hid ⟨_, _, _, _, hs3⟩
          clear hs3 k1 k2 k3 hm4
          go_wp2_with fail
          go_roundw
          case rel =>
            first
              | exact ⟨k + 1, m4, A4, c4, by omega, by go_num, rfl, HS3⟩
              | ((repeat apply Exists.intro); refine ⟨?_, rfl⟩; exact ⟨k + 1, m4, A4, c4, by omega, by go_num, rfl, HS3⟩)
          case measure => first | (simp [intOf]; done) | (simp [intOf]; omega)
        · have hki : ¬ (k : Int) < (n2 : Int) := by omega
          have hkl : m.take k = m := List.take_of_length_le (by have := HN2.out; omega)
          rw [hkl] at HS
          clear hkl
          obtain ⟨vm, vp, vt, L, hs⟩ := HS.out
          have HSS := Lib.hid hs
          clear hs HS
          go_wp2_with fail
          refine (anchored_any wr).mono ?_
          rintro e w2 ⟨rfl, hb⟩
          have HB2 : Hid (Below X w w2) := Lib.hid (bl_then HSS.out.bel HSS.out.hb hb)
          have HO2 := Lib.hid (HSS.out.own.below hb)
          have HLE : Hid (X ≤ w2.heap.size) := Lib.hid (Nat.le_trans HSS.out.hb hb.size)
          have HRD := Lib.hid (H2.out.blocks (w1 := w2) fun b off hn hA => HB2.out.block b (by have := H2.out.lt_ hn hA; omega))
          clear hb
          go_wp2_with fail
          refine (all_any A2 n2 cap2 m w2 HRD.out (by omega) HC2.out).mono ?_
          rintro e w3 ⟨⟨v, L3, rfl, ho, ha, hk3⟩, hb⟩
          have HB3 : Hid (Below X w w3) := Lib.hid (bl_then HB2.out HLE.out hb)
          have HLE3 : Hid (X ≤ w3.heap.size) := Lib.hid (Nat.le_trans HLE.out hb.size)
          have HLI := Lib.hid (rlists_any X w2.heap.size (.slice B m1 cp) v L L3 w3 (HO2.out.below hb) ho (fun a ha2 => (runS_acs HC2.out (freshS_ok (n := 1) (by omega))).2 _ (by rw [← HSS.out.acs]; exact List.mem_map_of_mem ha2)) hk3 (by have := HSS.out.len; omega))
          have HEQ : Hid (L.map HA.ac = L3.map HA.ac) := Lib.hid (by rw [HSS.out.acs, ha])
          obtain ⟨A3, c3, hv⟩ := ho.slice
          obtain ⟨m3, hm3⟩ : ∃ m, L3.length = m := ⟨_, rfl⟩
          rw [hm3] at hv
          subst hv
          clear ho ha hk3 hb hm3
          go_wp2_with fail
          refine HLI.out.mono ?_
          rintro e w9 ⟨⟨r, rfl, hr⟩, hb⟩
          obtain rfl : r = true := hr.2 HEQ.out
          have HBE : Hid (Below X w w9) := Lib.hid (bl_then HB3.out HLE3.out hb)
          clear hr hb
          go_wp2_with fail
          go_ret
          exact ⟨rfl, HBE.out⟩
end Go.Proofs.Ytecgipccippddaa
