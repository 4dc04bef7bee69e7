/- What is proved: both parsers side by side: they tell the same; what All of the reference answers; conditions: those typed. -/
import Derived.Test.YtecgipccippddaaVtR5
set_option linter.unusedSimpArgs false
set_option linter.unusedVariables false
namespace Go.Proofs.Ytecgipccippddaa
open Go.RowKit
set_option maxRecDepth 100000
set_option maxHeartbeats 8000000
def runR (r : RS) (l : List Int) : RS × List Ac := l.foldl (fun p c => ((rtakeS p.1 c).1, p.2 ++ (rtakeS p.1 c).2)) (r, [])
theorem runR_snoc (r : RS) (l : List Int) (c : Int) : runR r (l ++ [c]) = ((rtakeS (runR r l).1 c).1, (runR r l).2 ++ (rtakeS (runR r l).1 c).2) := by
  unfold runR
  rw [List.foldl_append]
  rfl
theorem sim_fold : ∀ (l : List Int) (p : VS × List Ac) (q : RS × List Ac) (K : Nat), (∀ c ∈ l, c ≤ 2147483647) → VOk p.1 → Sim p.1 q.1 K → p.2 = q.2 →
    Sim (l.foldl (fun p c => ((takeS p.1 c).1, p.2 ++ (takeS p.1 c).2)) p).1 (l.foldl (fun p c => ((rtakeS p.1 c).1, p.2 ++ (rtakeS p.1 c).2)) q).1 (K + 2 * l.length) ∧
    (l.foldl (fun p c => ((takeS p.1 c).1, p.2 ++ (takeS p.1 c).2)) p).2 = (l.foldl (fun p c => ((rtakeS p.1 c).1, p.2 ++ (rtakeS p.1 c).2)) q).2 := by
  intro l
  induction l with
  | nil => intro p q K _ _ h1 h2; exact ⟨h1, h2⟩
  | cons c l ih =>
    intro p q K hc ho h1 h2
    have hs := sim_take h1 ho c
    have := ih ((takeS p.1 c).1, p.2 ++ (takeS p.1 c).2) ((rtakeS q.1 c).1, q.2 ++ (rtakeS q.1 c).2) (K + 2) (fun x hx => hc x (List.mem_cons_of_mem _ hx)) (takeS_ok ho (hc c List.mem_cons_self)) hs.2 (by dsimp only; rw [h2, hs.1])
    simp only [List.foldl_cons, List.length_cons]
    rw [show K + 2 * (l.length + 1) = K + 2 + 2 * l.length by omega]
    exact this
theorem sim_run {l : List Int} (hl : ∀ c ∈ l, c ≤ 2147483647) : Sim (runS (freshS 1) l).1 (runR (freshR 0) l).1 (2 * l.length) ∧ (runS (freshS 1) l).2 = (runR (freshR 0) l).2 := by
  have := sim_fold l (freshS 1, []) (freshR 0, []) 0 hl (freshS_ok (by omega)) (Sim.fresh 0 0) rfl
  rw [Nat.zero_add] at this
  exact this
theorem rok_run {l : List Int} (hl : ∀ c ∈ l, c ≤ 2147483647) (hn : l.length ≤ 140737488355328) : ROk (runR (freshR 0) l).1 :=
  (sim_run hl).1.rok (runS_acs hl (freshS_ok (by omega))).1 (by omega)
theorem rall_any (A : Option Addr) (n cap : Nat) (l : List Int) (w : World) (h : RdI w .i32 A n l) (hl : n ≤ 1048576) (hc : ∀ c ∈ l, c ≤ 2147483647) :
    Calls Try.prog 17 #[.slice A n cap] w fun e w' => TellsA e w' w.heap.size (runR (freshR 0) l).2 ∧ Below w.heap.size w w' := by
  have hn := h.len
  have HN := Lib.hid hn
  have H := Lib.hid h
  have HC := Lib.hid hc
  clear h hn hc
  obtain ⟨X, hX⟩ : ∃ X, w.heap.size = X := ⟨_, rfl⟩
  have HST := Lib.hid (QAllSt.start w)
  obtain ⟨W0, hW0⟩ : ∃ W, w.alloc (.cells #[.int .i64 0, .int .u8 0, .slice none 0 0, .slice none 0 0, .int .i64 0, .slice none 0 0, .bool false] 38) = W := ⟨_, rfl⟩
  have HST2 : Hid (QAllSt w W0 X X (freshR 0, []) (.slice none 0 0) (.slice none 0 0) (.slice none 0 0) (.slice none 0 0) [] 0) := Lib.hid (by
    have := HST.out
    rw [show (qcells (freshR 0) (.slice none 0 0) (.slice none 0 0) (.slice none 0 0)) = #[.int .i64 0, .int .u8 0, .slice none 0 0, .slice none 0 0, .int .i64 0, .slice none 0 0, .bool false] from rfl, hW0, hX] at this
    exact this)
  have hz : ∀ w, (zeroValue 38).run Try.prog w = .ok (.agg #[.int .i64 0, .int .u8 0, .slice none 0 0, .slice none 0 0, .int .i64 0, .slice none 0 0, .bool false]) w := zero_rpar
  rw [hX]
  clear HST
  go_enter Try.func17, Try.ntmps17
  go_wp2_with fail
  go_loopw [4, 5] (fun o i wr => ∃ (k m : Nat) (B : Option Addr) (c : Nat), k ≤ n ∧ i = .int .i64 k ∧ o = .slice B m c ∧ Hid (∃ vm vp vt L, QAllSt w wr X X (runR (freshR 0) (l.take k)) vm vp vt (.slice B m c) L k)) (fun _ i _ => n - (intOf i).toNat)
  case atStart => exact ⟨0, 0, none, 0, by omega, rfl, rfl, Lib.hid ⟨_, _, _, _, HST2.out⟩⟩
  case round =>
    obtain ⟨k, m, B, cp, hk, rfl, rfl, HS⟩ := hrel
    by_cases hkn : k < n
    · have hki : (k : Int) < (n : Int) := by omega
      have hk0 : (0 : Int) ≤ (k : Int) := by omega
      obtain ⟨vm, vp, vt, L, hs⟩ := HS.out
      obtain ⟨b, off, hA, hc⟩ := (H.out.blocks (w1 := wr) fun b off hn hA => hs.bel.block b (by have := H.out.lt_ hn hA; omega)).2 (by omega)
      have dx := hc k hkn
      subst hA
      obtain ⟨x, hx0⟩ : ∃ x, l.getD k 0 = x := ⟨_, rfl⟩
      rw [hx0] at dx
      have hget : l[k]? = some x := by
        rw [← hx0, List.getD_eq_getElem?_getD, List.getElem?_eq_getElem (by rw [HN.out]; exact hkn)]; rfl
      have HTK : Hid (l.take (k + 1) = l.take k ++ [x]) := Lib.hid (by
        rw [List.take_add_one, hget]; rfl)
      have HX : Hid (x ≤ 2147483647) := Lib.hid (HC.out x (List.mem_of_getElem? hget))
      have HROK : Hid (ROk (runR (freshR 0) (l.take k)).1) := Lib.hid (rok_run (fun c hc => HC.out c (List.mem_of_mem_take hc)) (by simp; omega))
      have HTAKE := Lib.hid (rtake_any X X _ vm vp vt x wr hs.pw HROK.out hs.hb)
      have HSS := Lib.hid hs
      obtain ⟨r, hr⟩ : ∃ r, runR (freshR 0) (l.take k) = r := ⟨_, rfl⟩
      have HRS : Hid (runR (freshR 0) (l.take (k + 1)) = ((rtakeS r.1 x).1, r.2 ++ (rtakeS r.1 x).2)) := Lib.hid (by rw [HTK.out, runR_snoc, hr])
      rw [hr] at HTAKE HSS
      clear hx0 hget hc hs hr HS HROK
      go_wp2_with fail
      refine HTAKE.out.mono ?_
      rintro e w2 ⟨u, rfl, ht⟩
      obtain ⟨vm2, vp2, vt2, M, h2, hn⟩ := HSS.out.took HX.out ht
      have HS2 := Lib.hid h2
      have HN2 := Lib.hid hn
      have HOW := Lib.hid h2.own
      have HOU := Lib.hid hn.own
      have HLE : Hid (L.length + M.length ≤ 1048577) := Lib.hid (by have := h2.len; have := hn.len; omega)
      have HBB := Lib.hid h2.hb
      obtain ⟨A3, c3, hu⟩ := hn.own.slice
      obtain ⟨m3, hm3⟩ : ∃ m, M.length = m := ⟨_, rfl⟩
      rw [hm3] at hu
      subst hu
      clear ht h2 hn HTAKE HSS hm3
      go_wp2_with (at_builtin; refine wpList_appA (base := X) (base2 := X) rfl _ _ rfl (.slice B m cp) (.slice A3 m3 c3) L M rfl HOW.out rfl HOU.out HLE.out HBB.out (Nat.le_refl _) ?_)
      intro v3 w3 k1 k2 k3
      have hs3 := HS2.out.app HN2.out k1 k2
      rw [← HRS.out] at hs3
      obtain ⟨A4, c4, hv⟩ := k1.slice
      obtain ⟨m4, hm4⟩ : ∃ m, (L ++ M).length = m := ⟨_, rfl⟩
      rw [hm4] at hv
      subst hv
      have HS3 : Hid (∃ vm vp vt L, QAllSt w w3 X X (runR (freshR 0) (l.take (k + 1))) vm vp vt (.slice A4 m4 c4) L (k + 1)) := Lib.hid ⟨_, _, _, _, hs3⟩
      clear hs3 k1 k2 k3 hm4
      go_wp2_with fail
      go_roundw
      case rel =>
        first
          | exact ⟨k + 1, m4, A4, c4, by omega, by go_num, rfl, HS3⟩
          | ((repeat apply Exists.intro); refine ⟨?_, rfl⟩; exact ⟨k + 1, m4, A4, c4, by omega, by go_num, rfl, HS3⟩)
      case measure => first | (simp [intOf]; done) | (simp [intOf]; omega)
    · have hki : ¬ (k : Int) < (n : Int) := by omega
      have hkl : l.take k = l := List.take_of_length_le (by have := HN.out; omega)
      rw [hkl] at HS
      clear hkl
      go_wp2_with fail
      go_ret
      obtain ⟨vm, vp, vt, L, hs⟩ := HS.out
      refine ⟨⟨_, L, rfl, hs.own, hs.acs, fun a ha => ?_⟩, hs.bel⟩
      exact (runS_acs HC.out (freshS_ok (n := 1) (by omega))).2 _ (by rw [(sim_run HC.out).2, ← hs.acs]; exact List.mem_map_of_mem ha)
/-- Both parsers in one memory. -/
def J0 (w : World) (P R X : Nat) (s : VS) (r : RS) (W : World) : Prop :=
  ∃ vm vp vt um up ut, AllSt w W P X (s, []) vm vp vt (.slice none 0 0) [] 0 ∧ QAllSt w W R X (r, []) um up ut (.slice none 0 0) [] 0 ∧ ∀ g, PB P vm vp vt g → ¬ PB R um up ut g
/-- What one has told. -/
def Told (W : World) (X : Nat) (x : List Ac) (u : Value) (M : List HA) : Prop := OwA W X u M ∧ M.map HA.ac = x ∧ M.length ≤ 1
def J1 (w : World) (P R X : Nat) (s : VS) (r : RS) (x : List Ac) (u : Value) (W : World) : Prop :=
  ∃ vm vp vt um up ut M, AllSt w W P X (s, []) vm vp vt (.slice none 0 0) [] 0 ∧ QAllSt w W R X (r, []) um up ut (.slice none 0 0) [] 0 ∧ (∀ g, PB P vm vp vt g → ¬ PB R um up ut g) ∧ Told W X x u M ∧ (∀ b, u.ownBlock = some b → ¬ PB R um up ut b) ∧ ∀ a ∈ M, ∀ b, HB a b → ¬ PB R um up ut b
def J2 (w : World) (P R X : Nat) (s : VS) (r : RS) (x y : List Ac) (u v : Value) (W : World) : Prop :=
  J0 w P R X s r W ∧ (∃ M, Told W X x u M) ∧ ∃ M, Told W X y v M
theorem Told.below {W W' : World} {X : Nat} {x : List Ac} {u : Value} {M : List HA} (h : Told W X x u M) (hb : Below W.heap.size W W') : Told W' X x u M := ⟨h.1.below hb, h.2.1, h.2.2⟩
theorem AllSt.keep {w W W' : World} {P X : Nat} {s : VS} {vm vp vt : Value} (h : AllSt w W P X (s, []) vm vp vt (.slice none 0 0) [] 0) {S : Nat → Prop} (hI : Inv W S gh0 W') (hS : ∀ g, PB P vm vp vt g → ¬ S g) (hX : ∀ g, S g → X ≤ g) : AllSt w W' P X (s, []) vm vp vt (.slice none 0 0) [] 0 :=
  ⟨h.pw.far hI hS, hI.belowS h.bel h.hb hX, OwA.nil _ _, rfl, by simp, by simp, h.ok, Nat.le_trans h.hb hI.size, h.hP⟩
theorem QAllSt.keep {w W W' : World} {P X : Nat} {s : RS} {vm vp vt : Value} (h : QAllSt w W P X (s, []) vm vp vt (.slice none 0 0) [] 0) {S : Nat → Prop} (hI : Inv W S gh0 W') (hS : ∀ g, PB P vm vp vt g → ¬ S g) (hX : ∀ g, S g → X ≤ g) : QAllSt w W' P X (s, []) vm vp vt (.slice none 0 0) [] 0 :=
  ⟨h.pw.far hI hS, hI.belowS h.bel h.hb hX, OwA.nil _ _, rfl, by simp, by simp, Nat.le_trans h.hb hI.size, h.hP⟩
theorem J0.below {w W W' : World} {P R X : Nat} {s : VS} {r : RS} (h : J0 w P R X s r W) (hb : Below W.heap.size W W') : J0 w P R X s r W' := by
  obtain ⟨vm, vp, vt, um, up, ut, h1, h2, h3⟩ := h
  exact ⟨vm, vp, vt, um, up, ut, h1.keep (Inv.ofBelow (S := fun _ => False) hb) (fun _ _ h => h) (fun _ h => h.elim), h2.keep (Inv.ofBelow (S := fun _ => False) hb) (fun _ _ h => h) (fun _ h => h.elim), h3⟩
theorem J0.bel {w W : World} {P R X : Nat} {s : VS} {r : RS} (h : J0 w P R X s r W) : Below X w W ∧ X ≤ W.heap.size ∧ VOk s := by
  obtain ⟨vm, vp, vt, um, up, ut, h1, h2, h3⟩ := h
  exact ⟨h1.bel, h1.hb, h1.ok⟩
theorem step1 {w W : World} {P R X : Nat} {s : VS} {r : RS} {c : Int} (h : J0 w P R X s r W) (hc : c ≤ 2147483647) :
    Calls Try.prog 9 #[.pointer (some ⟨P, 0, none⟩), .int .i32 c] W fun e w' => ∃ v, e = .returned v ∧ (∃ A n c, v = .slice A n c) ∧ J1 w P R X (takeS s c).1 r (takeS s c).2 v w' := by
  obtain ⟨vm, vp, vt, um, up, ut, h1, h2, h3⟩ := h
  refine (take_any P X s vm vp vt c hc W h1.pw h1.ok h1.hb).mono ?_
  rintro e w' ⟨v, rfl, ht⟩
  have ht0 := ht
  obtain ⟨vm', vp', vt', M, k1, kn⟩ := h1.took hc ht
  obtain ⟨_, _, _, L, _, hI, _, _, _, _, _, _⟩ := ht0
  have hq := h2.keep hI (fun g hg hp => h3 g hp hg) (fun g hg => h1.pw.ge h1.hP hg)
  obtain ⟨A, c9, hv⟩ := kn.own.slice
  obtain ⟨vm2, vp2, vt2, L2, t1, t2, t3, t4, t5, t6, t7, t8⟩ := ht
  have hlt : ∀ g, PB R um up ut g → g < W.heap.size := fun g hg => h2.pw.lt hg
  exact ⟨v, rfl, ⟨_, _, _, hv⟩, vm2, vp2, vt2, um, up, ut, L2, ⟨t1, k1.bel, OwA.nil _ _, rfl, by simp, by simp, takeS_ok h1.ok hc, k1.hb, h1.hP⟩, hq, fun g hg hr => (t3 g hg).elim (fun h => h3 g h hr) (fun h => by have := hlt g hr; omega), ⟨t4, t5, t6⟩, fun b hb hr => by have := t7 b hb; have := hlt b hr; omega, fun a ha b hb hr => ((t8 a ha b hb).1).elim (fun h => h3 b h hr) (fun h => by have := hlt b hr; omega)⟩
theorem step2 {w W : World} {P R X : Nat} {s : VS} {r : RS} {c : Int} {x : List Ac} {u : Value} (h : J1 w P R X s r x u W) (ho : ROk r) :
    Calls Try.prog 15 #[.pointer (some ⟨R, 0, none⟩), .int .i32 c] W fun e w' => ∃ v, e = .returned v ∧ (∃ A n c, v = .slice A n c) ∧ J2 w P R X s (rtakeS r c).1 x (rtakeS r c).2 u v w' := by
  obtain ⟨vm, vp, vt, um, up, ut, M, h1, h2, h3, h4, h5, h6⟩ := h
  refine (rtake_any R X r um up ut c W h2.pw ho h2.hb).mono ?_
  rintro e w' ⟨v, rfl, um2, up2, ut2, L2, t1, t2, t3, t4, t5, t6, t7, t8⟩
  have hp := h1.keep t2 (fun g hg hr => h3 g hg hr) (fun g hg => h2.pw.ge h2.hP hg)
  obtain ⟨A, c9, hv⟩ := t4.slice
  refine ⟨v, rfl, ⟨_, _, _, hv⟩, ⟨vm, vp, vt, um2, up2, ut2, hp, ⟨t1, hp.bel, OwA.nil _ _, rfl, by simp, by simp, hp.hb, h2.hP⟩, fun g hg hr => (t3 g hr).elim (fun h => h3 g hg h) (fun h => by have := h1.pw.lt hg; omega)⟩, ⟨M, h4.1.keep fun b hb hlt => t2.far b hlt fun hr => ?_, h4.2⟩, L2, t4, t5, t6⟩
  rcases hb with hb | ⟨a, ha, hb⟩
  · exact h5 b hb hr
  · exact h6 a ha b hb hr
theorem step3 {w W : World} {P R X : Nat} {s : VS} {r : RS} {x : List Ac} {u v : Value} (h : J2 w P R X s r x x u v W) (hx : ∀ a ∈ x, AcOk a) :
    Calls Try.prog 12 #[u, v] W fun e w' => e = .returned (.bool true) ∧ J2 w P R X s r x x u v w' := by
  obtain ⟨h0, ⟨M, m1⟩, M2, m2⟩ := h
  refine (rlists_any X X u v M M2 W m1.1 m2.1 (fun a ha => hx _ (by rw [← m1.2.1]; exact List.mem_map_of_mem ha)) (fun a ha => hx _ (by rw [← m2.2.1]; exact List.mem_map_of_mem ha)) (by have := m1.2.2; omega)).mono ?_
  rintro e w' ⟨⟨b, rfl, hb⟩, hbel⟩
  obtain rfl : b = true := hb.2 (by rw [m1.2.1, m2.2.1])
  exact ⟨rfl, h0.below hbel, ⟨M, m1.below hbel⟩, M2, m2.below hbel⟩
theorem step4 {w W : World} {P R X : Nat} {s : VS} {r : RS} (h : J0 w P R X s r W) :
    Calls Try.prog 10 #[.pointer (some ⟨P, 0, none⟩)] W fun e w' => e = .returned (.bool (s.st == 1)) ∧ w' = W := by
  obtain ⟨vm, vp, vt, um, up, ut, h1, h2, h3⟩ := h
  exact ground_any P X s vm vp vt W h1.pw h1.ok.st
theorem step5 {w W : World} {P R X : Nat} {s : VS} {r : RS} (h : J0 w P R X s r W) :
    Calls Try.prog 16 #[.pointer (some ⟨R, 0, none⟩)] W fun e w' => e = .returned (.bool (r.st == 0)) ∧ w' = W := by
  obtain ⟨vm, vp, vt, um, up, ut, h1, h2, h3⟩ := h
  exact rground_any R X r um up ut W h2.pw
/-- Stages of a region that calls both. -/
def StJ (A0 : World → Prop) (A1 : Value → World → Prop) (A2 : Value → Value → World → Prop) (γ : Gh) (W : World) : Prop :=
  match γ 0 with
  | some (n, .cells cs _ _) => if n = 0 then A0 W else if n = 1 then A1 (cs.getD 0 undef) W else A2 (cs.getD 0 undef) (cs.getD 1 undef) W
  | _ => False
def gst (n : Nat) (cs : Array Value) : Option (Nat × Obj) := some (n, .cells cs 0 (0, 0))
theorem stJ0 {A0 : World → Prop} {A1 : Value → World → Prop} {A2 : Value → Value → World → Prop} {γ : Gh} {W : World} {cs : Array Value} (h : γ 0 = gst 0 cs) : StJ A0 A1 A2 γ W ↔ A0 W := by
  unfold StJ; rw [h]; exact Iff.rfl
theorem stJ1 {A0 : World → Prop} {A1 : Value → World → Prop} {A2 : Value → Value → World → Prop} {γ : Gh} {W : World} {u : Value} (h : γ 0 = gst 1 #[u]) : StJ A0 A1 A2 γ W ↔ A1 u W := by
  unfold StJ; rw [h]; exact Iff.rfl
theorem stJ2 {A0 : World → Prop} {A1 : Value → World → Prop} {A2 : Value → Value → World → Prop} {γ : Gh} {W : World} {u v : Value} (h : γ 0 = gst 2 #[u, v]) : StJ A0 A1 A2 γ W ↔ A2 u v W := by
  unfold StJ; rw [h]; exact Iff.rfl
def gu1 : Option (Nat × Obj) → Value
  | some (_, .cells cs _ _) => cs.getD 0 undef
  | _ => undef
theorem gu1_gst (n : Nat) (v : Value) (cs : List Value) : gu1 (gst n ((v :: cs).toArray)) = v := rfl
end Go.Proofs.Ytecgipccippddaa
