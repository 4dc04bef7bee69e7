/- What is proved: the law VtTakes answers true on at most 1048576 characters; conditions: those typed. -/
import Derived.Test.YtecgipccippddaaVtS
set_option linter.unusedSimpArgs false
set_option linter.unusedVariables false
namespace Go.Proofs.Ytecgipccippddaa
open Go.RowKit
set_option maxRecDepth 100000
set_option maxHeartbeats 8000000
/-- What a list of actions told by All holds. -/
def AllTold (W : World) (X : Nat) (x : List Ac) (u : Value) : Prop := ∃ L, OwA W X u L ∧ L.map HA.ac = x ∧ L.length ≤ 1048576 ∧ ∀ a ∈ L, AcOk a.ac
theorem AllTold.below {W W' : World} {X : Nat} {x : List Ac} {u : Value} (h : AllTold W X x u) (hb : Below W.heap.size W W') : AllTold W' X x u := by
  obtain ⟨L, h1, h2⟩ := h
  exact ⟨L, h1.below hb, h2⟩
def LO (r : VS × List Ac) : Prop := r.2.length ≤ 1
theorem LO.nil (s : VS) : LO (s, []) := by simp [LO]
theorem LO.one (s : VS) (a : Ac) : LO (s, [a]) := by simp [LO]
theorem LO.ends (s s' : VS) (a : Ac) : LO (s', endR s a) := by
  unfold LO endR
  cases s.bad <;> simp
theorem escapedS_lo (s : VS) (c : Int) : LO (escapedS s c) := by
  unfold escapedS
  repeat' split
  all_goals first | exact LO.nil _ | exact LO.ends _ _ _
theorem controlS_lo (s : VS) (c : Int) : LO (controlS s c) := by
  unfold controlS
  repeat' split
  all_goals first | exact LO.nil _ | exact LO.ends _ _ _
theorem takeS_lo (s : VS) (c : Int) : LO (takeS s c) := by
  unfold takeS
  dsimp only
  generalize (if c < 0 then (127 : Int) else c) = c'
  split
  · repeat' split
    all_goals first | exact LO.nil _ | exact LO.one _ _
  · split
    · exact LO.one _ _
    · split
      · split
        · exact LO.one _ _
        · exact LO.nil _
      · split
        · exact escapedS_lo s c'
        · split
          · exact controlS_lo s c'
          · repeat' split
            all_goals first | exact LO.nil _ | exact LO.ends _ _ _
theorem runS_len : ∀ (l : List Int) (p : VS × List Ac), (l.foldl (fun p c => ((takeS p.1 c).1, p.2 ++ (takeS p.1 c).2)) p).2.length ≤ p.2.length + l.length := by
  intro l
  induction l with
  | nil => intro p; simp
  | cons c l ih =>
    intro p
    have h := ih ((takeS p.1 c).1, p.2 ++ (takeS p.1 c).2)
    have h1 : (takeS p.1 c).2.length ≤ 1 := takeS_lo p.1 c
    simp only [List.foldl_cons, List.length_cons]
    rw [List.length_append] at h
    omega
theorem allTold_of {e : Ending} {W W' : World} {X B : Nat} {x : List Ac} (h : TellsA e W' B x) (hB : X ≤ B) (hl : x.length ≤ 1048576) : ∃ v, e = .returned v ∧ (∃ A n c, v = .slice A n c) ∧ AllTold W' X x v := by
  obtain ⟨v, L, h1, h2, h3, h4⟩ := h
  obtain ⟨A, c, hv⟩ := h2.slice
  exact ⟨v, h1, ⟨_, _, _, hv⟩, L, h2.mono hB, h3, by have := congrArg List.length h3; simp at this; omega, h4⟩
theorem lists_told {W : World} {X : Nat} {x : List Ac} {u v : Value} (h : AllTold W X x u) (k : AllTold W X x v) : Calls Try.prog 12 #[u, v] W fun e w' => e = .returned (.bool true) ∧ Below W.heap.size W w' := by
  obtain ⟨L, h1, h2, h3, h4⟩ := h
  obtain ⟨M, k1, k2, k3, k4⟩ := k
  refine (rlists_any X X u v L M W h1 k1 h4 k4 (by omega)).mono ?_
  rintro e w' ⟨⟨b, rfl, hb⟩, hbel⟩
  obtain rfl : b = true := hb.2 (by rw [h2, k2])
  exact ⟨rfl, hbel⟩
theorem takes_law (A : Option Addr) (n cap : Nat) (l : List Int) (x y : HA) (w : World) (h : RdI w .i32 A n l) (hx : AR w x) (hy : AR w y) (hl : n ≤ 1048576) (hlc : ∀ c ∈ l, c ≤ 2147483647) (fx : (∃ A n c, x.vm = .slice A n c) ∧ (∃ A n c, x.vp = .slice A n c) ∧ ∃ A n c, x.vt = .slice A n c) (fy : (∃ A n c, y.vm = .slice A n c) ∧ (∃ A n c, y.vp = .slice A n c) ∧ ∃ A n c, y.vt = .slice A n c) :
    Calls Try.prog 7 #[.slice A n cap, .agg (arow x), .agg (arow y)] w fun e w' => e = .returned (.bool true) ∧ Below w.heap.size w w' := by
  obtain ⟨ak, ac, av, af, avm, avp, avt, am, ap, at'⟩ := x
  obtain ⟨bk, bc, bv, bf, bvm, bvp, bvt, bm, bp, bt⟩ := y
  obtain ⟨⟨A1, n1, c1, g1⟩, ⟨A2, n2, c2, g2⟩, ⟨A3, n3, c3, g3⟩⟩ := fx
  obtain ⟨⟨B1, m1, d1, k1⟩, ⟨B2, m2, d2, k2⟩, ⟨B3, m3, d3, k3⟩⟩ := fy
  dsimp only at g1 g2 g3 k1 k2 k3
  subst g1 g2 g3 k1 k2 k3
  obtain ⟨X, hX⟩ : ∃ X, w.heap.size = X := ⟨_, rfl⟩
  obtain ⟨Wa, hWa⟩ : ∃ W, w.alloc (.cells #[.int .u8 ak, .int .i32 ac, .int .u8 av, .int .u8 af, .slice A1 n1 c1, .slice A2 n2 c2, .slice A3 n3 c3] 31) = W := ⟨_, rfl⟩
  have hXa : Wa.heap.size = X + 1 := by rw [← hWa, ← hX]; simp
  obtain ⟨Wb, hWb⟩ : ∃ W, Wa.alloc (.cells #[.int .u8 bk, .int .i32 bc, .int .u8 bv, .int .u8 bf, .slice B1 m1 d1, .slice B2 m2 d2, .slice B3 m3 d3] 31) = W := ⟨_, rfl⟩
  have hXb : Wb.heap.size = X + 2 := by rw [← hWb]; simp [hXa]
  have hb0 : Below w.heap.size w Wa := by rw [← hWa]; exact Below.alloc (Below.refl _ _) (Nat.le_refl _) _
  have HBW : Hid (Below w.heap.size w Wb) := Lib.hid (by rw [← hWb]; exact Below.alloc hb0 hb0.size _)
  have HR1 : Hid (Wb.heap[X]? = some (.cells #[.int .u8 ak, .int .i32 ac, .int .u8 av, .int .u8 af, .slice A1 n1 c1, .slice A2 n2 c2, .slice A3 n3 c3] 31 (0, 0))) := Lib.hid (by
    rw [← hWb, heap_alloc_old _ _ (by omega), ← hWa, ← hX]; exact heap_alloc_last _ _)
  have HR2 : Hid (Wb.heap[X + 1]? = some (.cells #[.int .u8 bk, .int .i32 bc, .int .u8 bv, .int .u8 bf, .slice B1 m1 d1, .slice B2 m2 d2, .slice B3 m3 d3] 31 (0, 0))) := Lib.hid (by
    rw [← hWb, ← hXa]; exact heap_alloc_last _ _)
  have HX := Lib.hid (hx.below HBW.out)
  have HY := Lib.hid (hy.below HBW.out)
  have H := Lib.hid (h.blocks fun b off hn hA => HBW.out.block b (h.lt_ hn hA))
  have HN := Lib.hid h.len
  have HC := Lib.hid hlc
  obtain ⟨Z, hZ⟩ : ∃ Z, Wb.heap.size = Z := ⟨_, rfl⟩
  have HST := Lib.hid (AllSt.start Wb)
  obtain ⟨W0, hW0⟩ : ∃ W, Wb.alloc (.cells (pcells (freshS 1) (.slice none 0 0) (.slice none 0 0) (.slice none 0 0)) 47) = W := ⟨_, rfl⟩
  rw [hW0, hZ] at HST
  have HNEW := Lib.hid (new_any Wb)
  rw [hW0, hZ] at HNEW
  simp only [arow]
  clear h hx hy hb0 hW0 hlc
  go_enter Try.func7, Try.ntmps7
  go_wp2_with fail
  refine HNEW.out.mono ?_
  rintro e w1 ⟨rfl, hw1⟩
  subst w1
  obtain ⟨Rb, hRb⟩ : ∃ R, W0.heap.size = R := ⟨_, rfl⟩
  obtain ⟨W5, hW5⟩ : ∃ W, W0.alloc (.cells #[.int .i64 0, .int .u8 0, .slice none 0 0, .slice none 0 0, .int .i64 0, .slice none 0 0, .bool false] 38) = W := ⟨_, rfl⟩
  have hb5 : Below W0.heap.size W0 W5 := by rw [← hW5]; exact Below.alloc (Below.refl _ _) (Nat.le_refl _) _
  have hs5 := HST.out.keep (Inv.ofBelow (S := fun _ => False) hb5) (fun _ _ h => h) (fun _ h => h.elim)
  have HJ : Hid (J0 Wb Z Rb Z (runS (freshS 1) (l.take 0)).1 (runR (freshR 0) (l.take 0)).1 W5) := Lib.hid ⟨_, _, _, .slice none 0 0, .slice none 0 0, .slice none 0 0, hs5, ⟨⟨by
      rw [← hW5, ← hRb]; exact heap_alloc_last _ _, OwK.nil _ _ _ _, OwK.nil _ _ _ _, OwK.nil _ _ _ _⟩, hs5.bel, OwA.nil _ _, rfl, by simp, by simp, hs5.hb, by have := HST.out.hb; omega⟩, fun g hg hr => by
      have h1 := HST.out.pw.lt hg
      have h2 := pb_nil hr
      omega⟩
  have hz : ∀ w, (zeroValue 38).run Try.prog w = .ok (.agg #[.int .i64 0, .int .u8 0, .slice none 0 0, .slice none 0 0, .int .i64 0, .slice none 0 0, .bool false]) w := zero_rpar
  clear hs5 hb5
  go_wp2_with fail
  go_loopw [9] (fun i wr => ∃ k : Nat, k ≤ n ∧ i = .int .i64 k ∧ Hid (J0 Wb Z Rb Z (runS (freshS 1) (l.take k)).1 (runR (freshR 0) (l.take k)).1 wr)) (fun i _ => n - (intOf i).toNat)
  case atStart => exact ⟨0, by omega, rfl, HJ⟩
  case round =>
    clear HJ
    obtain ⟨k, hk, rfl, HJ⟩ := hrel
    by_cases hkn : k < n
    · have hki : (k : Int) < (n : Int) := by omega
      have hk0 : (0 : Int) ≤ (k : Int) := by omega
      obtain ⟨b, off, hA, hc⟩ := H.out.2 (by omega)
      subst hA
      obtain ⟨x, hx0⟩ : ∃ x, l.getD k 0 = x := ⟨_, rfl⟩
      have hdx := hc k hkn
      rw [hx0] at hdx
      have HF : Hid (∀ W, Below Z Wb W → W.cell? ⟨b, off + k, none⟩ = some (.int .i32 x)) := Lib.hid (fun W hb => (cell_same (hb.block b (by have : b < Wb.heap.size := block_lt_of_cell hdx; omega))).trans hdx)
      have hget : l[k]? = some x := by
        rw [← hx0, List.getD_eq_getElem?_getD, List.getElem?_eq_getElem (by rw [HN.out]; exact hkn)]; rfl
      have HTK : Hid (l.take (k + 1) = l.take k ++ [x]) := Lib.hid (by rw [List.take_add_one, hget]; rfl)
      have HXC : Hid (x ≤ 2147483647) := Lib.hid (HC.out x (List.mem_of_getElem? hget))
      have HLM : Hid (∀ c ∈ l.take k, c ≤ 2147483647) := Lib.hid (fun c hc => HC.out c (List.mem_of_mem_take hc))
      have HROK : Hid (ROk (runR (freshR 0) (l.take k)).1) := Lib.hid (rok_run HLM.out (by simp; omega))
      have HSIM := Lib.hid (sim_run HLM.out).1
      obtain ⟨s7, hs7⟩ : ∃ s, (runS (freshS 1) (l.take k)).1 = s := ⟨_, rfl⟩
      obtain ⟨r7, hr7⟩ : ∃ r, (runR (freshR 0) (l.take k)).1 = r := ⟨_, rfl⟩
      have HNX : Hid ((runS (freshS 1) (l.take (k + 1))).1 = (takeS s7 x).1 ∧ (runR (freshR 0) (l.take (k + 1))).1 = (rtakeS r7 x).1) := Lib.hid (by rw [HTK.out, runS_snoc, runR_snoc, hs7, hr7]; exact ⟨rfl, rfl⟩)
      rw [hs7, hr7] at HJ HSIM
      rw [hr7] at HROK
      have HSIMO := Lib.hid (sim_take HSIM.out HJ.out.bel.2.2 x)
      have HEQ : Hid ((takeS s7 x).2 = (rtakeS r7 x).2) := Lib.hid HSIMO.out.1
      have HAO : Hid (∀ a ∈ (takeS s7 x).2, AcOk a) := Lib.hid (takeS_acs HJ.out.bel.2.2)
      obtain ⟨gb, hgb⟩ : ∃ b, ((takeS s7 x).1.st == 1) = b := ⟨_, rfl⟩
      have HGB : Hid (((takeS s7 x).1.st == 1) = gb ∧ ((rtakeS r7 x).1.st == 0) = gb) := Lib.hid ⟨hgb, by
        rw [← hgb]
        have := HSIMO.out.2.st
        rw [this, Bool.eq_iff_iff]
        simp⟩
      have HI0 : Hid (Below Z Wb wr.drew ∧ StJ (J0 Wb Z Rb Z s7 r7) (J1 Wb Z Rb Z (takeS s7 x).1 r7 (takeS s7 x).2) (J2 Wb Z Rb Z (takeS s7 x).1 (rtakeS r7 x).1 (takeS s7 x).2 (takeS s7 x).2) (fun _ => gst 0 #[]) wr.drew) := Lib.hid ⟨bl_drew HJ.out.bel.1, (stJ0 rfl).2 (HJ.out.below (Below.drew (Below.refl _ _)))⟩
      clear hx0 hget hc hdx hs7 hr7 hgb
      go_wp2_with fail
      apply wp_region_effT (fun γ W => Below Z Wb W ∧ StJ (J0 Wb Z Rb Z s7 r7) (J1 Wb Z Rb Z (takeS s7 x).1 r7 (takeS s7 x).2) (J2 Wb Z Rb Z (takeS s7 x).1 (rtakeS r7 x).1 (takeS s7 x).2 (takeS s7 x).2) γ W) (fun _ => gst 0 #[]) HI0.out (hm := by kernel_rfl)
      case h =>
        (apply SeqF.pure; (focus (first | rfl | (go_simp; done) | (simp [Region.wanted, yielded]; done))); (focus (intro w; go_simp; with_reducible rfl)); go_simp)
        (apply SeqF.pure; (focus (first | rfl | (go_simp; done) | (simp [Region.wanted, yielded]; done))); (focus (intro w; go_simp; with_reducible rfl)); go_simp)
        (apply SeqF.pure; (focus (first | rfl | (go_simp; done) | (simp [Region.wanted, yielded]; done))); (focus (intro w; go_simp; with_reducible rfl)); go_simp)
        (apply SeqF.pure; (focus (first | rfl | (go_simp; done) | (simp [Region.wanted, yielded]; done))); (focus (intro w; go_simp; with_reducible rfl)); go_simp)
        (apply SeqF.read []; (focus (first | rfl | (go_simp; done) | (simp [Region.wanted, yielded]; done))); (focus (intro γ' W hg hI; have x0 := HF.out W hI.1; go_simp; with_reducible rfl)); go_simp)
        apply SeqF.callE [0] (some 0) (fun _ v x => x = gst 1 #[v] ∧ ∃ A n m, v = .slice A n m) 9 #[.pointer (some ⟨Z, 0, none⟩), .int .i32 x]
        · exact fun _ _ => rfl
        · (first | rfl | (go_simp; done) | (simp [Region.wanted, yielded]; done))
        · intro w; kernel_rfl
        · intro γ' W hg hI
          have hj := (stJ0 (hg 0 (by simp))).1 hI.2
          refine (step1 hj HXC.out).mono ?_
          rintro e w' ⟨u, rfl, hu, hj1⟩
          exact ⟨u, gst 1 #[u], rfl, ⟨rfl, hu⟩, hj1.bel, (stJ1 (Gh.set_here _ _ _)).2 hj1⟩
        rintro u1 x1 ⟨rfl, E1, e1, f1, rfl⟩
        go_simp
        (apply SeqF.pure; (focus (first | rfl | (go_simp; done) | (simp [Region.wanted, yielded]; done))); (focus (intro w; go_simp; with_reducible rfl)); go_simp)
        (apply SeqF.pure; (focus (first | rfl | (go_simp; done) | (simp [Region.wanted, yielded]; done))); (focus (intro w; go_simp; with_reducible rfl)); go_simp)
        (apply SeqF.pure; (focus (first | rfl | (go_simp; done) | (simp [Region.wanted, yielded]; done))); (focus (intro w; go_simp; with_reducible rfl)); go_simp)
        (apply SeqF.read []; (focus (first | rfl | (go_simp; done) | (simp [Region.wanted, yielded]; done))); (focus (intro γ' W hg hI; have x0 := HF.out W hI.1; go_simp; with_reducible rfl)); go_simp)
        apply SeqF.callE [0] (some 0) (fun γ v x => x = gst 2 #[gu1 (γ 0), v] ∧ ∃ A n m, v = .slice A n m) 15 #[.pointer (some ⟨Rb, 0, none⟩), .int .i32 x]
        · exact fun γ' hg => by rw [hg 0 (by simp)]
        · (first | rfl | (go_simp; done) | (simp [Region.wanted, yielded]; done))
        · intro w; kernel_rfl
        · intro γ' W hg hI
          have hg0 := hg 0 (by simp)
          rw [Gh.set_here] at hg0
          have hj := (stJ1 hg0).1 hI.2
          refine (step2 (c := x) hj HROK.out).mono ?_
          rintro e w' ⟨u, rfl, hu, hj2⟩
          rw [← HEQ.out] at hj2
          exact ⟨u, gst 2 #[.slice E1 e1 f1, u], rfl, ⟨rfl, hu⟩, hj2.1.bel.1, (stJ2 (Gh.set_here _ _ _)).2 hj2⟩
        rintro u2 x2 ⟨rfl, E2, e2, f2, rfl⟩
        simp only [Gh.set_here, gu1_gst]
        go_simp
        apply SeqF.call (v := .bool true) [0] 12 #[.slice E1 e1 f1, .slice E2 e2 f2]
        · (first | rfl | (go_simp; done) | (simp [Region.wanted, yielded]; done))
        · intro w; kernel_rfl
        · intro γ' W hg hI
          have hg0 := hg 0 (by simp)
          rw [Gh.set_here] at hg0
          have hj := (stJ2 hg0).1 hI.2
          refine (step3 hj HAO.out).mono ?_
          rintro e w' ⟨rfl, hj2⟩
          exact ⟨rfl, hj2.1.bel.1, (stJ2 hg0).2 hj2⟩
        go_simp
        (apply SeqF.pure; (focus (first | rfl | (go_simp; done) | (simp [Region.wanted, yielded]; done))); (focus (intro w; go_simp; with_reducible rfl)); go_simp)
        (apply SeqF.pure; (focus (first | rfl | (go_simp; done) | (simp [Region.wanted, yielded]; done))); (focus (intro w; go_simp; with_reducible rfl)); go_simp)
        (apply SeqF.pure; (focus (first | rfl | (go_simp; done) | (simp [Region.wanted, yielded]; done))); (focus (intro w; go_simp; with_reducible rfl)); go_simp)
        apply SeqF.call (v := .bool gb) [0] 10 #[.pointer (some ⟨Z, 0, none⟩)]
        · (first | rfl | (go_simp; done) | (simp [Region.wanted, yielded]; done))
        · intro w; kernel_rfl
        · intro γ' W hg hI
          have hg0 := hg 0 (by simp)
          rw [Gh.set_here] at hg0
          have hj := (stJ2 hg0).1 hI.2
          refine (step4 hj.1).mono ?_
          rintro e w' ⟨rfl, rfl⟩
          exact ⟨by rw [HGB.out.1], hI⟩
        go_simp
        apply SeqF.call (v := .bool gb) [0] 16 #[.pointer (some ⟨Rb, 0, none⟩)]
        · (first | rfl | (go_simp; done) | (simp [Region.wanted, yielded]; done))
        · intro w; kernel_rfl
        · intro γ' W hg hI
          have hg0 := hg 0 (by simp)
          rw [Gh.set_here] at hg0
          have hj := (stJ2 hg0).1 hI.2
          refine (step5 hj.1).mono ?_
          rintro e w' ⟨rfl, rfl⟩
          exact ⟨by rw [HGB.out.2], hI⟩
        go_simp
        (apply SeqF.pure; (focus (first | rfl | (go_simp; done) | (simp [Region.wanted, yielded]; done))); (focus (intro w; go_simp; with_reducible rfl)); go_simp)
        (apply SeqF.pure; (focus (first | rfl | (go_simp; done) | (simp [Region.wanted, yielded]; done))); (focus (intro w; go_simp; with_reducible rfl)); go_simp)
        apply SeqF.done
        intro w9 hI9
        have HJ9 : Hid (J0 Wb Z Rb Z (runS (freshS 1) (l.take (k + 1))).1 (runR (freshR 0) (l.take (k + 1))).1 w9) := Lib.hid (by
          rw [HNX.out.1, HNX.out.2]
          exact ((stJ2 (Gh.set_here _ _ _)).1 hI9.2).1)
        clear hI9
        go_simp
        go_wp2_with fail
        go_roundw
        case rel =>
          first
            | exact ⟨k + 1, by omega, by go_num, HJ9⟩
            | ((repeat apply Exists.intro); refine ⟨?_, rfl⟩; exact ⟨k + 1, by omega, by go_num, HJ9⟩)
        case measure => first | (simp [intOf]; done) | (simp [intOf]; omega)
      case hl => rfl
      case ho => kernel_rfl
    · have hki : ¬ (k : Int) < (n : Int) := by omega
      have HB9 : Hid (Below Z Wb wr ∧ Z ≤ wr.heap.size) := Lib.hid ⟨HJ.out.bel.1, HJ.out.bel.2.1⟩
      clear HJ
      have HLEN : Hid ((runS (freshS 1) l).2.length ≤ 1048576) := Lib.hid (by have := runS_len l (freshS 1, []); have := HN.out; unfold runS; simp at *; omega)
      obtain ⟨acs, hacs⟩ : ∃ a, (runS (freshS 1) l).2 = a := ⟨_, rfl⟩
      have HACR : Hid ((runR (freshR 0) l).2 = acs) := Lib.hid (by rw [← (sim_run HC.out).2]; exact hacs)
      have HACS : Hid ((runS (freshS 1) l).2 = acs) := Lib.hid hacs
      rw [hacs] at HLEN
      have HRD : Hid (∀ W, Below Z Wb W → RdI W .i32 A n l) := Lib.hid (fun W hb => H.out.blocks fun b off hn hA => hb.block b (by have := H.out.lt_ hn hA; omega))
      have HRX : Hid (∀ W, Below Z Wb W → W.heap[X]? = some (.cells #[.int .u8 ak, .int .i32 ac, .int .u8 av, .int .u8 af, .slice A1 n1 c1, .slice A2 n2 c2, .slice A3 n3 c3] 31 (0, 0))) := Lib.hid (fun W hb => (hb.block X (by omega)).trans HR1.out)
      have HRY : Hid (∀ W, Below Z Wb W → W.heap[X + 1]? = some (.cells #[.int .u8 bk, .int .i32 bc, .int .u8 bv, .int .u8 bf, .slice B1 m1 d1, .slice B2 m2 d2, .slice B3 m3 d3] 31 (0, 0))) := Lib.hid (fun W hb => (hb.block (X + 1) (by omega)).trans HR2.out)
      have HXX : Hid (∀ W, Below Z Wb W → AR W (⟨ak, ac, av, af, .slice A1 n1 c1, .slice A2 n2 c2, .slice A3 n3 c3, am, ap, at'⟩ : HA) ∧ AR W (⟨bk, bc, bv, bf, .slice B1 m1 d1, .slice B2 m2 d2, .slice B3 m3 d3, bm, bp, bt⟩ : HA)) := Lib.hid (fun W hb => ⟨HX.out.below (by rw [hZ]; exact hb), HY.out.below (by rw [hZ]; exact hb)⟩)
      obtain ⟨q, hq⟩ : ∃ q, decide (HA.ac (⟨ak, ac, av, af, .slice A1 n1 c1, .slice A2 n2 c2, .slice A3 n3 c3, am, ap, at'⟩ : HA) = HA.ac (⟨bk, bc, bv, bf, .slice B1 m1 d1, .slice B2 m2 d2, .slice B3 m3 d3, bm, bp, bt⟩ : HA)) = q := ⟨_, rfl⟩
      have HQ := Lib.hid hq
      have HI0 : Hid (Below Z Wb wr.drew ∧ StJ (fun W => Z ≤ W.heap.size) (fun u W => Z ≤ W.heap.size ∧ AllTold W Z acs u) (fun u v W => Z ≤ W.heap.size ∧ AllTold W Z acs u ∧ AllTold W Z acs v) (fun _ => gst 0 #[]) wr.drew) := Lib.hid ⟨bl_drew HB9.out.1, (stJ0 rfl).2 HB9.out.2⟩
      clear hacs hq
      go_wp2_with fail
      apply wp_region_effT (fun γ W => Below Z Wb W ∧ StJ (fun W => Z ≤ W.heap.size) (fun u W => Z ≤ W.heap.size ∧ AllTold W Z acs u) (fun u v W => Z ≤ W.heap.size ∧ AllTold W Z acs u ∧ AllTold W Z acs v) γ W) (fun _ => gst 0 #[]) HI0.out (hm := by kernel_rfl)
      case h =>
        apply SeqF.call (v := .bool true) [0] 11 #[]
        · (first | rfl | (go_simp; done) | (simp [Region.wanted, yielded]; done))
        · intro w; kernel_rfl
        · intro γ' W hg hI
          have hj := (stJ0 (hg 0 (by simp))).1 hI.2
          refine (anchored_any W).mono ?_
          rintro e w' ⟨rfl, hb⟩
          exact ⟨rfl, bl_then hI.1 hj hb, (stJ0 (hg 0 (by simp))).2 (Nat.le_trans hj hb.size)⟩
        go_simp
        (apply SeqF.pure; (focus (first | rfl | (go_simp; done) | (simp [Region.wanted, yielded]; done))); (focus (intro w; go_simp; with_reducible rfl)); go_simp)
        (apply SeqF.pure; (focus (first | rfl | (go_simp; done) | (simp [Region.wanted, yielded]; done))); (focus (intro w; go_simp; with_reducible rfl)); go_simp)
        apply SeqF.callE [0] (some 0) (fun _ v x => x = gst 1 #[v] ∧ ∃ A n m, v = .slice A n m) 13 #[.slice A n cap]
        · exact fun _ _ => rfl
        · (first | rfl | (go_simp; done) | (simp [Region.wanted, yielded]; done))
        · intro w; kernel_rfl
        · intro γ' W hg hI
          have hj := (stJ0 (hg 0 (by simp))).1 hI.2
          refine (all_any A n cap l W (HRD.out W hI.1) hl HC.out).mono ?_
          rintro e w' ⟨ht, hb⟩
          rw [HACS.out] at ht
          obtain ⟨v, rfl, hv, hal⟩ := allTold_of (W := W) ht hj HLEN.out
          exact ⟨v, gst 1 #[v], rfl, ⟨rfl, hv⟩, bl_then hI.1 hj hb, (stJ1 (Gh.set_here _ _ _)).2 ⟨Nat.le_trans hj hb.size, hal⟩⟩
        rintro u1 x1 ⟨rfl, E1, e1, f1, rfl⟩
        go_simp
        (apply SeqF.pure; (focus (first | rfl | (go_simp; done) | (simp [Region.wanted, yielded]; done))); (focus (intro w; go_simp; with_reducible rfl)); go_simp)
        apply SeqF.callE [0] (some 0) (fun γ v x => x = gst 2 #[gu1 (γ 0), v] ∧ ∃ A n m, v = .slice A n m) 17 #[.slice A n cap]
        · exact fun γ' hg => by rw [hg 0 (by simp)]
        · (first | rfl | (go_simp; done) | (simp [Region.wanted, yielded]; done))
        · intro w; kernel_rfl
        · intro γ' W hg hI
          have hg0 := hg 0 (by simp)
          rw [Gh.set_here] at hg0
          obtain ⟨hj, hu⟩ := (stJ1 hg0).1 hI.2
          refine (rall_any A n cap l W (HRD.out W hI.1) hl HC.out).mono ?_
          rintro e w' ⟨ht, hb⟩
          rw [HACR.out] at ht
          obtain ⟨v, rfl, hv, hal⟩ := allTold_of (W := W) ht hj HLEN.out
          exact ⟨v, gst 2 #[.slice E1 e1 f1, v], rfl, ⟨rfl, hv⟩, bl_then hI.1 hj hb, (stJ2 (Gh.set_here _ _ _)).2 ⟨Nat.le_trans hj hb.size, hu.below hb, hal⟩⟩
        rintro u2 x2 ⟨rfl, E2, e2, f2, rfl⟩
        simp only [Gh.set_here, gu1_gst]
        go_simp
        apply SeqF.call (v := .bool true) [0] 12 #[.slice E1 e1 f1, .slice E2 e2 f2]
        · (first | rfl | (go_simp; done) | (simp [Region.wanted, yielded]; done))
        · intro w; kernel_rfl
        · intro γ' W hg hI
          have hg0 := hg 0 (by simp)
          rw [Gh.set_here] at hg0
          obtain ⟨hj, hu, hv⟩ := (stJ2 hg0).1 hI.2
          refine (lists_told hu hv).mono ?_
          rintro e w' ⟨rfl, hb⟩
          exact ⟨rfl, bl_then hI.1 hj hb, (stJ2 hg0).2 ⟨Nat.le_trans hj hb.size, hu.below hb, hv.below hb⟩⟩
        go_simp
        (apply SeqF.pure; (focus (first | rfl | (go_simp; done) | (simp [Region.wanted, yielded]; done))); (focus (intro w; go_simp; with_reducible rfl)); go_simp)
        (apply SeqF.pure; (focus (first | rfl | (go_simp; done) | (simp [Region.wanted, yielded]; done))); (focus (intro w; go_simp; with_reducible rfl)); go_simp)
        apply SeqF.read (v := .agg #[.int .u8 ak, .int .i32 ac, .int .u8 av, .int .u8 af, .slice A1 n1 c1, .slice A2 n2 c2, .slice A3 n3 c3]) []
        · (first | rfl | (go_simp; done) | (simp [Region.wanted, yielded]; done))
        · exact fun γ' W hg hI => exec_load rfl rfl (run_load_at actInfo actRow (HRX.out W hI.1) (own_row _))
        go_simp
        apply SeqF.read (v := .agg #[.int .u8 bk, .int .i32 bc, .int .u8 bv, .int .u8 bf, .slice B1 m1 d1, .slice B2 m2 d2, .slice B3 m3 d3]) []
        · (first | rfl | (go_simp; done) | (simp [Region.wanted, yielded]; done))
        · exact fun γ' W hg hI => exec_load rfl rfl (run_load_at actInfo actRow (HRY.out W hI.1) (own_row _))
        go_simp
        apply SeqF.call (v := .bool q) [0] 18 #[.agg #[.int .u8 ak, .int .i32 ac, .int .u8 av, .int .u8 af, .slice A1 n1 c1, .slice A2 n2 c2, .slice A3 n3 c3], .agg #[.int .u8 bk, .int .i32 bc, .int .u8 bv, .int .u8 bf, .slice B1 m1 d1, .slice B2 m2 d2, .slice B3 m3 d3]]
        · (first | rfl | (go_simp; done) | (simp [Region.wanted, yielded]; done))
        · intro w; kernel_rfl
        · intro γ' W hg hI
          have hg0 := hg 0 (by simp)
          rw [Gh.set_here] at hg0
          obtain ⟨hj, hu, hv⟩ := (stJ2 hg0).1 hI.2
          refine (same_any (⟨ak, ac, av, af, .slice A1 n1 c1, .slice A2 n2 c2, .slice A3 n3 c3, am, ap, at'⟩ : HA) (⟨bk, bc, bv, bf, .slice B1 m1 d1, .slice B2 m2 d2, .slice B3 m3 d3, bm, bp, bt⟩ : HA) W (HXX.out W hI.1).1 (HXX.out W hI.1).2).mono ?_
          rintro e w' ⟨⟨b, rfl, hbq⟩, hb⟩
          refine ⟨?_, bl_then hI.1 hj hb, (stJ2 hg0).2 ⟨Nat.le_trans hj hb.size, hu.below hb, hv.below hb⟩⟩
          rw [← HQ.out]; exact congrArg (fun b => Ending.returned (.bool b)) (by rw [Bool.eq_iff_iff, hbq, decide_eq_true_iff])
        go_simp
        apply SeqF.read (v := .agg #[.int .u8 ak, .int .i32 ac, .int .u8 av, .int .u8 af, .slice A1 n1 c1, .slice A2 n2 c2, .slice A3 n3 c3]) []
        · (first | rfl | (go_simp; done) | (simp [Region.wanted, yielded]; done))
        · exact fun γ' W hg hI => exec_load rfl rfl (run_load_at actInfo actRow (HRX.out W hI.1) (own_row _))
        go_simp
        apply SeqF.read (v := .agg #[.int .u8 bk, .int .i32 bc, .int .u8 bv, .int .u8 bf, .slice B1 m1 d1, .slice B2 m2 d2, .slice B3 m3 d3]) []
        · (first | rfl | (go_simp; done) | (simp [Region.wanted, yielded]; done))
        · exact fun γ' W hg hI => exec_load rfl rfl (run_load_at actInfo actRow (HRY.out W hI.1) (own_row _))
        go_simp
        apply SeqF.call (v := .bool q) [0] 19 #[.agg #[.int .u8 ak, .int .i32 ac, .int .u8 av, .int .u8 af, .slice A1 n1 c1, .slice A2 n2 c2, .slice A3 n3 c3], .agg #[.int .u8 bk, .int .i32 bc, .int .u8 bv, .int .u8 bf, .slice B1 m1 d1, .slice B2 m2 d2, .slice B3 m3 d3]]
        · (first | rfl | (go_simp; done) | (simp [Region.wanted, yielded]; done))
        · intro w; kernel_rfl
        · intro γ' W hg hI
          have hg0 := hg 0 (by simp)
          rw [Gh.set_here] at hg0
          obtain ⟨hj, hu, hv⟩ := (stJ2 hg0).1 hI.2
          refine (rsame_any (⟨ak, ac, av, af, .slice A1 n1 c1, .slice A2 n2 c2, .slice A3 n3 c3, am, ap, at'⟩ : HA) (⟨bk, bc, bv, bf, .slice B1 m1 d1, .slice B2 m2 d2, .slice B3 m3 d3, bm, bp, bt⟩ : HA) W (HXX.out W hI.1).1 (HXX.out W hI.1).2).mono ?_
          rintro e w' ⟨⟨b, rfl, hbq⟩, hb⟩
          refine ⟨?_, bl_then hI.1 hj hb, (stJ2 hg0).2 ⟨Nat.le_trans hj hb.size, hu.below hb, hv.below hb⟩⟩
          rw [← HQ.out]; exact congrArg (fun b => Ending.returned (.bool b)) (by rw [Bool.eq_iff_iff, hbq, decide_eq_true_iff])
        go_simp
        (apply SeqF.pure; (focus (first | rfl | (go_simp; done) | (simp [Region.wanted, yielded]; done))); (focus (intro w; go_simp; with_reducible rfl)); go_simp)
        (apply SeqF.pure; (focus (first | rfl | (go_simp; done) | (simp [Region.wanted, yielded]; done))); (focus (intro w; go_simp; with_reducible rfl)); go_simp)
        (apply SeqF.pure; (focus (first | rfl | (go_simp; done) | (simp [Region.wanted, yielded]; done))); (focus (intro w; go_simp; with_reducible rfl)); go_simp)
        apply SeqF.read (v := .agg #[.int .u8 ak, .int .i32 ac, .int .u8 av, .int .u8 af, .slice A1 n1 c1, .slice A2 n2 c2, .slice A3 n3 c3]) []
        · (first | rfl | (go_simp; done) | (simp [Region.wanted, yielded]; done))
        · exact fun γ' W hg hI => exec_load rfl rfl (run_load_at actInfo actRow (HRX.out W hI.1) (own_row _))
        go_simp
        apply SeqF.read (v := .agg #[.int .u8 ak, .int .i32 ac, .int .u8 av, .int .u8 af, .slice A1 n1 c1, .slice A2 n2 c2, .slice A3 n3 c3]) []
        · (first | rfl | (go_simp; done) | (simp [Region.wanted, yielded]; done))
        · exact fun γ' W hg hI => exec_load rfl rfl (run_load_at actInfo actRow (HRX.out W hI.1) (own_row _))
        go_simp
        apply SeqF.call (v := .bool true) [0] 18 #[.agg #[.int .u8 ak, .int .i32 ac, .int .u8 av, .int .u8 af, .slice A1 n1 c1, .slice A2 n2 c2, .slice A3 n3 c3], .agg #[.int .u8 ak, .int .i32 ac, .int .u8 av, .int .u8 af, .slice A1 n1 c1, .slice A2 n2 c2, .slice A3 n3 c3]]
        · (first | rfl | (go_simp; done) | (simp [Region.wanted, yielded]; done))
        · intro w; kernel_rfl
        · intro γ' W hg hI
          have hg0 := hg 0 (by simp)
          rw [Gh.set_here] at hg0
          obtain ⟨hj, hu, hv⟩ := (stJ2 hg0).1 hI.2
          refine (same_any (⟨ak, ac, av, af, .slice A1 n1 c1, .slice A2 n2 c2, .slice A3 n3 c3, am, ap, at'⟩ : HA) (⟨ak, ac, av, af, .slice A1 n1 c1, .slice A2 n2 c2, .slice A3 n3 c3, am, ap, at'⟩ : HA) W (HXX.out W hI.1).1 (HXX.out W hI.1).1).mono ?_
          rintro e w' ⟨⟨b, rfl, hbq⟩, hb⟩
          refine ⟨?_, bl_then hI.1 hj hb, (stJ2 hg0).2 ⟨Nat.le_trans hj hb.size, hu.below hb, hv.below hb⟩⟩
          rw [hbq.2 rfl]
        go_simp
        (apply SeqF.pure; (focus (first | rfl | (go_simp; done) | (simp [Region.wanted, yielded]; done))); (focus (intro w; go_simp; with_reducible rfl)); go_simp)
        (apply SeqF.pure; (focus (first | rfl | (go_simp; done) | (simp [Region.wanted, yielded]; done))); (focus (intro w; go_simp; with_reducible rfl)); go_simp)
        apply SeqF.done
        intro w9 hI9
        have HB8 : Hid (Below Z Wb w9) := Lib.hid hI9.1
        clear hI9
        have HBE : Hid (Below w.heap.size w w9) := Lib.hid (bl_then HBW.out HBW.out.size (by rw [hZ]; exact HB8.out))
        go_simp
        go_wp2_with fail
        go_ret
        exact ⟨rfl, by first | exact HBE.out | exact hX ▸ HBE.out⟩
      case hl => rfl
      case ho => kernel_rfl
end Go.Proofs.Ytecgipccippddaa
