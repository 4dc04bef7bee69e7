/- What is proved: what All of package vt answers when it is called; anchored of the statements of vt answers true; the law VtNil answers true; conditions: those typed. -/
import Derived.Test.YtecgipccippddaaVt9
set_option linter.unusedSimpArgs false
set_option linter.unusedVariables false
namespace Go.Proofs.Ytecgipccippddaa
open Go.RowKit
set_option maxRecDepth 100000
set_option maxHeartbeats 8000000
def runS (s : VS) (l : List Int) : VS × List Ac := l.foldl (fun p c => ((takeS p.1 c).1, p.2 ++ (takeS p.1 c).2)) (s, [])
theorem runS_snoc (s : VS) (l : List Int) (c : Int) : runS s (l ++ [c]) = ((takeS (runS s l).1 c).1, (runS s l).2 ++ (takeS (runS s l).1 c).2) := by
  unfold runS
  rw [List.foldl_append]
  rfl
def AO (r : VS × List Ac) : Prop := ∀ x ∈ r.2, AcOk x
theorem AO.nil (s : VS) : AO (s, []) := by intro x hx; simp at hx
theorem AO.one (s : VS) {a : Ac} (h : AcOk a) : AO (s, [a]) := by intro x hx; obtain rfl := List.mem_singleton.1 hx; exact h
theorem AO.ends (s s' : VS) {a : Ac} (h : AcOk a) : AO (s', endR s a) := by
  unfold endR
  cases s.bad with
  | true => exact AO.nil _
  | false => exact AO.one _ h
theorem AcOk.plain (k ch pv fi : Int) : AcOk ⟨k, ch, pv, fi, [], [], []⟩ := ⟨⟨okB0, by simp⟩, by simp, by simp⟩
theorem escapedS_ao {s : VS} {c : Int} (h : VOk s) : AO (escapedS s c) := by
  have hm := h.mid
  have e4 : ∀ a b c d, AcOk ⟨a, b, c, d, s.mid, [], []⟩ := fun _ _ _ _ => ⟨⟨hm.2, by dsimp only; omega⟩, by simp, by simp⟩
  unfold escapedS
  repeat' split
  all_goals first | exact AO.nil _ | exact AO.ends _ _ (e4 _ _ _ _)
theorem controlS_ao {s : VS} {c : Int} (h : VOk s) : AO (controlS s c) := by
  have hm := h.mid
  have hp := h.ps
  have e2 : ∀ a b c d, AcOk ⟨a, b, c, d, s.mid, s.ps, []⟩ := fun _ _ _ _ => ⟨⟨hm.2, by dsimp only; omega⟩, by dsimp only; omega, by simp⟩
  unfold controlS
  repeat' split
  all_goals first | exact AO.nil _ | exact AO.ends _ _ (e2 _ _ _ _)
theorem takeS_acs {s : VS} {c : Int} (h : VOk s) : ∀ x ∈ (takeS s c).2, AcOk x := by
  have ht := h.tx
  have e3 : ∀ a b c d, AcOk ⟨a, b, c, d, [], [], s.tx⟩ := fun _ _ _ _ => ⟨⟨okB0, by simp⟩, by simp, by dsimp only; omega⟩
  show AO (takeS s c)
  unfold takeS
  dsimp only
  generalize (if c < 0 then (127 : Int) else c) = c'
  split
  · repeat' split
    all_goals first | exact AO.nil _ | exact AO.one _ (e3 _ _ _ _)
  · split
    · exact AO.one _ (AcOk.plain _ _ _ _)
    · split
      · split
        · exact AO.one _ (AcOk.plain _ _ _ _)
        · exact AO.nil _
      · split
        · exact escapedS_ao h
        · split
          · exact controlS_ao h
          · repeat' split
            all_goals first | exact AO.nil _ | exact AO.ends _ _ (e3 _ _ _ _)
theorem PW.kind {w : World} {P base : Nat} {s : VS} {vm vp vt : Value} (h : PW w P base s vm vp vt) {g : Nat} (hg : PB P vm vp vt g) : ∃ cur e, w.heap[g]? = some (.cells cur e (0, 0)) ∧ e ≠ 31 := by
  rcases hg with rfl | hg | hg | hg
  · exact ⟨_, _, h.hP, by decide⟩
  · obtain ⟨_, cur, hc⟩ := h.m.blk hg; exact ⟨cur, _, hc, by decide⟩
  · obtain ⟨_, cur, hc⟩ := h.p.blk hg; exact ⟨cur, _, hc, by decide⟩
  · obtain ⟨_, cur, hc⟩ := h.t.blk hg; exact ⟨cur, _, hc, by decide⟩
theorem PW.ge {w : World} {P base : Nat} {s : VS} {vm vp vt : Value} (h : PW w P base s vm vp vt) (hP : base ≤ P) {g : Nat} (hg : PB P vm vp vt g) : base ≤ g := by
  rcases hg with rfl | hg | hg | hg
  · exact hP
  · exact (h.m.blk hg).1
  · exact (h.p.blk hg).1
  · exact (h.t.blk hg).1
/-- A parser and the actions that it has told. -/
structure AllSt (w wr : World) (P base : Nat) (r : VS × List Ac) (vm vp vt v : Value) (L : List HA) (k : Nat) : Prop where
  pw : PW wr P base r.1 vm vp vt
  bel : Below base w wr
  own : OwA wr base v L
  acs : L.map HA.ac = r.2
  far : ∀ a ∈ L, ∀ b, HB a b → ¬ PB P vm vp vt b
  len : L.length ≤ k
  ok : VOk r.1
  hb : base ≤ wr.heap.size
  hP : base ≤ P
/-- What was told just now. -/
structure NewAc (w' : World) (P base : Nat) (acs : List Ac) (vm vp vt u : Value) (M : List HA) : Prop where
  own : OwA w' base u M
  acs : M.map HA.ac = acs
  len : M.length ≤ 1
  far : ∀ a ∈ M, ∀ b, HB a b → ¬ PB P vm vp vt b
theorem AllSt.took {w wr w' : World} {P base k : Nat} {r : VS × List Ac} {vm vp vt v u : Value} {L : List HA} {c : Int} (h : AllSt w wr P base r vm vp vt v L k) (hc : c ≤ 2147483647) (t : TakeOk wr w' P base (takeS r.1 c) vm vp vt u) :
    ∃ vm' vp' vt' M, AllSt w w' P base ((takeS r.1 c).1, r.2) vm' vp' vt' v L k ∧ NewAc w' P base (takeS r.1 c).2 vm' vp' vt' u M := by
  obtain ⟨vm', vp', vt', M, h1, h2, h3, h4, h5, h6, h7, h8⟩ := t
  refine ⟨vm', vp', vt', M, ⟨h1, h2.belowS h.bel h.hb fun g hg => h.pw.ge h.hP hg, h.own.keep fun b hb hlt => h2.far b hlt fun hp => ?_, h.acs, fun a ha b hb hp => ?_, h.len, takeS_ok h.ok hc, Nat.le_trans h.hb h2.size, h.hP⟩, ⟨h4, h5, h6, fun a ha b hb => (h8 a ha b hb).2⟩⟩
  · rcases hb with hb | ⟨a, ha, hb⟩
    · obtain ⟨_, _, hc1, hne⟩ := h.pw.kind hp
      obtain ⟨_, _, hc2⟩ := h.own.blk hb
      exact blk_ne hc1 hc2 hne rfl
    · exact h.far a ha b hb hp
  · rcases h3 b hp with hp | hp
    · exact h.far a ha b hb hp
    · have := (h.own.acts a ha).lt hb
      omega
theorem AllSt.app {w w' w2 : World} {P base k : Nat} {r : VS × List Ac} {acs : List Ac} {vm vp vt v u v2 : Value} {L M : List HA} (h : AllSt w w' P base r vm vp vt v L k) (n : NewAc w' P base acs vm vp vt u M) (h1 : OwA w2 base v2 (L ++ M)) (h2 : w'.grownBy w2 v.ownBlock) :
    AllSt w w2 P base (r.1, r.2 ++ acs) vm vp vt v2 (L ++ M) (k + 1) := by
  have hI : Inv w' (fun g => v.ownBlock = some g) gh0 w2 := Inv.ofGrown h2 (fun g hg => hg)
  refine ⟨h.pw.far hI fun g hg hv => ?_, hI.belowS h.bel h.hb fun g hg => (h.own.blk hg).1, h1, by rw [List.map_append, h.acs, n.acs], fun a ha => (List.mem_append.1 ha).elim (fun ha => h.far a ha) (fun ha => n.far a ha), by have := h.len; have := n.len; simp; omega, h.ok, Nat.le_trans h.hb hI.size, h.hP⟩
  obtain ⟨_, _, hc1, hne⟩ := h.pw.kind hg
  obtain ⟨_, _, hc2⟩ := h.own.blk hv
  exact blk_ne hc1 hc2 hne rfl
theorem AllSt.start (w : World) : AllSt w (w.alloc (.cells (pcells (freshS 1) (.slice none 0 0) (.slice none 0 0) (.slice none 0 0)) 47)) w.heap.size w.heap.size (freshS 1, []) (.slice none 0 0) (.slice none 0 0) (.slice none 0 0) (.slice none 0 0) [] 0 :=
  ⟨new_pw w w.heap.size, Below.alloc (Below.refl _ _) (Nat.le_refl _) _, OwA.nil _ _, rfl, by simp, by simp, freshS_ok (by omega), by simp, Nat.le_refl _⟩
/-- Actions that a call answers. -/
def TellsA (e : Ending) (w' : World) (base : Nat) (acs : List Ac) : Prop := ∃ v L, e = .returned v ∧ OwA w' base v L ∧ L.map HA.ac = acs ∧ ∀ a ∈ L, AcOk a.ac
theorem runS_acs {l : List Int} (hl : ∀ c ∈ l, c ≤ 2147483647) : ∀ {s : VS}, VOk s → VOk (runS s l).1 ∧ ∀ x ∈ (runS s l).2, AcOk x := by
  intro s hs
  suffices h : ∀ (l : List Int) (p : VS × List Ac), (∀ c ∈ l, c ≤ 2147483647) → VOk p.1 → (∀ x ∈ p.2, AcOk x) → VOk (l.foldl (fun p c => ((takeS p.1 c).1, p.2 ++ (takeS p.1 c).2)) p).1 ∧ ∀ x ∈ (l.foldl (fun p c => ((takeS p.1 c).1, p.2 ++ (takeS p.1 c).2)) p).2, AcOk x from h l (s, []) hl hs (by simp)
  intro l
  induction l with
  | nil => intro p _ h1 h2; exact ⟨h1, h2⟩
  | cons c l ih =>
    intro p hc h1 h2
    exact ih _ (fun c hc2 => hc c (List.mem_cons_of_mem _ hc2)) (takeS_ok h1 (hc c List.mem_cons_self)) (fun x hx => (List.mem_append.1 hx).elim (h2 x) (takeS_acs h1 x))
theorem all_any (A : Option Addr) (n cap : Nat) (l : List Int) (w : World) (h : RdI w .i32 A n l) (hl : n ≤ 1048576) (hc : ∀ c ∈ l, c ≤ 2147483647) :
    Calls Try.prog 13 #[.slice A n cap] w fun e w' => TellsA e w' w.heap.size (runS (freshS 1) l).2 ∧ Below w.heap.size w w' := by
  have hn := h.len
  have HN := Lib.hid hn
  have H := Lib.hid h
  have HC := Lib.hid hc
  clear h hn hc
  obtain ⟨X, hX⟩ : ∃ X, w.heap.size = X := ⟨_, rfl⟩
  have HST := Lib.hid (AllSt.start w)
  obtain ⟨W0, hW0⟩ : ∃ W, w.alloc (.cells (pcells (freshS 1) (.slice none 0 0) (.slice none 0 0) (.slice none 0 0)) 47) = W := ⟨_, rfl⟩
  rw [hW0, hX] at HST
  have HNEW := Lib.hid (new_any w)
  rw [hW0, hX] at HNEW
  rw [hX]
  clear hW0
  go_enter Try.func13, Try.ntmps13
  go_wp2_with fail
  refine HNEW.out.mono ?_
  rintro e w1 ⟨rfl, hw1⟩
  subst w1
  go_wp2_with fail
  go_loopw [4, 10] (fun o i wr => ∃ (k m : Nat) (B : Option Addr) (c : Nat), k ≤ n ∧ i = .int .i64 k ∧ o = .slice B m c ∧ Hid (∃ vm vp vt L, AllSt w wr X X (runS (freshS 1) (l.take k)) vm vp vt (.slice B m c) L k)) (fun _ i _ => n - (intOf i).toNat)
  case atStart => exact ⟨0, 0, none, 0, by omega, rfl, rfl, Lib.hid ⟨_, _, _, _, HST.out⟩⟩
  case round =>
    obtain ⟨k, m, B, cp, hk, rfl, rfl, HS⟩ := hrel
    by_cases hkn : k < n
    · have hki : (k : Int) < (n : Int) := by omega
      have hk0 : (0 : Int) ≤ (k : Int) := by omega
      obtain ⟨vm, vp, vt, L, hs⟩ := HS.out
      obtain ⟨b, off, hA, hc⟩ := (H.out.blocks (w1 := wr) fun b off hn hA => hs.bel.block b (by have := H.out.lt_ hn hA; omega)).2 (by omega)
      have dx := hc k hkn
      subst hA
      obtain ⟨x, hx0⟩ : ∃ x, l.getD k 0 = x := ⟨_, rfl⟩
      rw [hx0] at dx
      have hget : l[k]? = some x := by
        rw [← hx0, List.getD_eq_getElem?_getD, List.getElem?_eq_getElem (by rw [HN.out]; exact hkn)]; rfl
      have HTK : Hid (l.take (k + 1) = l.take k ++ [x]) := Lib.hid (by
        rw [List.take_add_one, hget]; rfl)
      have HX : Hid (x ≤ 2147483647) := Lib.hid (HC.out x (List.mem_of_getElem? hget))
      have HTAKE := Lib.hid (take_any X X _ vm vp vt x HX.out wr hs.pw hs.ok hs.hb)
      have HSS := Lib.hid hs
      obtain ⟨r, hr⟩ : ∃ r, runS (freshS 1) (l.take k) = r := ⟨_, rfl⟩
      have HRS : Hid (runS (freshS 1) (l.take (k + 1)) = ((takeS r.1 x).1, r.2 ++ (takeS r.1 x).2)) := Lib.hid (by rw [HTK.out, runS_snoc, hr])
      rw [hr] at HTAKE HSS
      clear hx0 hget hc hs hr HS
      go_wp2_with fail
      refine HTAKE.out.mono ?_
      rintro e w2 ⟨u, rfl, ht⟩
      obtain ⟨vm2, vp2, vt2, M, h2, hn⟩ := HSS.out.took HX.out ht
      have HS2 := Lib.hid h2
      have HN2 := Lib.hid hn
      have HOW := Lib.hid h2.own
      have HOU := Lib.hid hn.own
      have HLE : Hid (L.length + M.length ≤ 1048577) := Lib.hid (by have := h2.len; have := hn.len; omega)
      have HBB := Lib.hid h2.hb
      obtain ⟨A3, c3, hu⟩ := hn.own.slice
      obtain ⟨m3, hm3⟩ : ∃ m, M.length = m := ⟨_, rfl⟩
      rw [hm3] at hu
      subst hu
      clear ht h2 hn HTAKE HSS hm3
      go_wp2_with (at_builtin; refine wpList_appA (base := X) (base2 := X) rfl _ _ rfl (.slice B m cp) (.slice A3 m3 c3) L M rfl HOW.out rfl HOU.out HLE.out HBB.out (Nat.le_refl _) ?_)
      intro v3 w3 k1 k2 k3
      have hs3 := HS2.out.app HN2.out k1 k2
      rw [← HRS.out] at hs3
      obtain ⟨A4, c4, hv⟩ := k1.slice
      obtain ⟨m4, hm4⟩ : ∃ m, (L ++ M).length = m := ⟨_, rfl⟩
      rw [hm4] at hv
      subst hv
      have HS3 : Hid (∃ vm vp vt L, AllSt w w3 X X (runS (freshS 1) (l.take (k + 1))) vm vp vt (.slice A4 m4 c4) L (k + 1)) := Lib.hid ⟨_, _, _, _, hs3⟩
      clear hs3 k1 k2 k3 hm4
      go_wp2_with fail
      go_roundw
      case rel =>
        first
          | exact ⟨k + 1, m4, A4, c4, by omega, by go_num, rfl, HS3⟩
          | ((repeat apply Exists.intro); refine ⟨?_, rfl⟩; exact ⟨k + 1, m4, A4, c4, by omega, by go_num, rfl, HS3⟩)
      case measure => first | (simp [intOf]; done) | (simp [intOf]; omega)
    · have hki : ¬ (k : Int) < (n : Int) := by omega
      have hkl : l.take k = l := List.take_of_length_le (by have := HN.out; omega)
      rw [hkl] at HS
      clear hkl
      go_wp2_with fail
      go_ret
      obtain ⟨vm, vp, vt, L, hs⟩ := HS.out
      refine ⟨⟨_, L, rfl, hs.own, hs.acs, fun a ha => ?_⟩, hs.bel⟩
      exact (runS_acs HC.out (freshS_ok (n := 1) (by omega))).2 _ (by rw [← hs.acs]; exact List.mem_map_of_mem ha)
theorem anch_run : (runS (freshS 1) [97, 27, 91, 49, 59, 51, 49, 109, 27, 91, 63, 50, 53, 104, 27, 40, 66]).2 = [⟨1, 97, 0, 0, [], [], []⟩, ⟨4, 0, 0, 109, [], [1, 31], []⟩, ⟨4, 0, 63, 104, [], [25], []⟩, ⟨3, 0, 0, 66, [40], [], []⟩] := by kernel_rfl
theorem OwK.made (k : IntKind) (e : TypeId) {w : World} {base g : Nat} (xs : List Int) (hb : base ≤ g) (hl : xs.length ≤ 1000) (h : w.heap[g]? = some (.cells (xs.map (Value.int k)).toArray e (0, 0))) : OwK k e w base (.slice (some ⟨g, 0, none⟩) xs.length xs.length) xs :=
  ⟨by simp, .inr ⟨g, xs.length, _, rfl, hb, h, Nat.le_refl _, by unfold maxLen; omega, by simp, List.take_of_length_le (by simp)⟩⟩
theorem anchored_any (w : World) : Calls Try.prog 11 #[] w fun e w' => e = .returned (.bool true) ∧ Below w.heap.size w w' := by
  obtain ⟨X, hX⟩ : ∃ X, w.heap.size = X := ⟨_, rfl⟩
  obtain ⟨W0, hW0⟩ : ∃ W, w.alloc (.cells #[.int .i32 97, .int .i32 27, .int .i32 91, .int .i32 49, .int .i32 59, .int .i32 51, .int .i32 49, .int .i32 109, .int .i32 27, .int .i32 91, .int .i32 63, .int .i32 50, .int .i32 53, .int .i32 104, .int .i32 27, .int .i32 40, .int .i32 66] 21) = W := ⟨_, rfl⟩
  have HB0 : Hid (Below w.heap.size w W0) := Lib.hid (by rw [← hW0]; exact Below.alloc (Below.refl _ _) (Nat.le_refl _) _)
  have HRD : Hid (RdI W0 .i32 (some ⟨X, 0, none⟩) 17 [97, 27, 91, 49, 59, 51, 49, 109, 27, 91, 63, 50, 53, 104, 27, 40, 66]) := Lib.hid (by rw [← hW0, ← hX]; exact RdI.new w .i32 21 [97, 27, 91, 49, 59, 51, 49, 109, 27, 91, 63, 50, 53, 104, 27, 40, 66] 17 rfl)
  have HALL := Lib.hid (all_any (some ⟨X, 0, none⟩) 17 17 [97, 27, 91, 49, 59, 51, 49, 109, 27, 91, 63, 50, 53, 104, 27, 40, 66] W0 HRD.out (by omega) (by decide))
  rw [anch_run] at HALL
  obtain ⟨acs, hacs⟩ : ∃ a, ([⟨1, 97, 0, 0, [], [], []⟩, ⟨4, 0, 0, 109, [], [1, 31], []⟩, ⟨4, 0, 63, 104, [], [25], []⟩, ⟨3, 0, 0, 66, [40], [], []⟩] : List Ac) = a := ⟨_, rfl⟩
  rw [hacs] at HALL
  have HACS := Lib.hid hacs
  clear hacs
  have hz : ∀ w, (zeroValue 31).run Try.prog w = .ok (.agg #[.int .u8 0, .int .i32 0, .int .u8 0, .int .u8 0, .slice none 0 0, .slice none 0 0, .slice none 0 0]) w := zero_act
  go_enter Try.func11, Try.ntmps11
  go_wp2_with fail
  refine HALL.out.mono ?_
  rintro e w1 ⟨⟨v, L, rfl, ho, ha, hk⟩, hb⟩
  have HOW := Lib.hid ho
  have HAC := Lib.hid ha
  have HK := Lib.hid hk
  have HB1 : Hid (Below w.heap.size w w1) := Lib.hid (bl_then HB0.out HB0.out.size hb)
  have HL : Hid (L.length ≤ 1048577) := Lib.hid (by have h := congrArg List.length ha; rw [← HACS.out] at h; simp at h; omega)
  obtain ⟨A3, c3, hv⟩ := ho.slice
  obtain ⟨m3, hm3⟩ : ∃ m, L.length = m := ⟨_, rfl⟩
  rw [hm3] at hv
  subst hv
  obtain ⟨T, hT⟩ : ∃ T, w1.heap.size = T := ⟨_, rfl⟩
  have HT : Hid (X ≤ T) := Lib.hid (by have := HB1.out.size; omega)
  obtain ⟨U1, hU1⟩ : ∃ W, w1.alloc (.cells #[.int .i64 1, .int .i64 31] 3) = W := ⟨_, rfl⟩
  have hT1 : U1.heap.size = T + 1 := by rw [← hU1, ← hT]; simp
  obtain ⟨U2, hU2⟩ : ∃ W, U1.alloc (.cells #[.int .i64 25] 3) = W := ⟨_, rfl⟩
  have hT2 : U2.heap.size = T + 2 := by rw [← hU2]; simp [hT1]
  obtain ⟨U3, hU3⟩ : ∃ W, U2.alloc (.cells #[.int .u8 40] 5) = W := ⟨_, rfl⟩
  have hT3 : U3.heap.size = T + 3 := by rw [← hU3]; simp [hT2]
  obtain ⟨U4, hU4⟩ : ∃ W, U3.alloc (.cells #[.int .u8 1, .int .i32 97, .int .u8 0, .int .u8 0, .slice none 0 0, .slice none 0 0, .slice none 0 0, .int .u8 4, .int .i32 0, .int .u8 0, .int .u8 109, .slice none 0 0, .slice (some ⟨T, 0, none⟩) 2 2, .slice none 0 0, .int .u8 4, .int .i32 0, .int .u8 63, .int .u8 104, .slice none 0 0, .slice (some ⟨T + 1, 0, none⟩) 1 1, .slice none 0 0, .int .u8 3, .int .i32 0, .int .u8 0, .int .u8 66, .slice (some ⟨T + 2, 0, none⟩) 1 1, .slice none 0 0, .slice none 0 0] 31) = W := ⟨_, rfl⟩
  have hT4 : U4.heap.size = T + 4 := by rw [← hU4]; simp [hT3]
  have HB2 : Hid (Below w1.heap.size w1 U4) := Lib.hid (by
    rw [← hU4, ← hU3, ← hU2, ← hU1]
    exact Below.alloc (Below.alloc (Below.alloc (Below.alloc (Below.refl _ _) (Nat.le_refl _) _) (by simp) _) (by simp; omega) _) (by simp; omega) _)
  have HG0 : Hid (U4.heap[T]? = some (.cells #[.int .i64 1, .int .i64 31] 3 (0, 0))) := Lib.hid (by
    rw [← hU4, heap_alloc_old _ _ (by omega), ← hU3, heap_alloc_old _ _ (by omega), ← hU2, heap_alloc_old _ _ (by omega), ← hU1, ← hT]; exact heap_alloc_last _ _)
  have HG1 : Hid (U4.heap[T + 1]? = some (.cells #[.int .i64 25] 3 (0, 0))) := Lib.hid (by
    rw [← hU4, heap_alloc_old _ _ (by omega), ← hU3, heap_alloc_old _ _ (by omega), ← hU2, ← hT1]; exact heap_alloc_last _ _)
  have HG2 : Hid (U4.heap[T + 2]? = some (.cells #[.int .u8 40] 5 (0, 0))) := Lib.hid (by
    rw [← hU4, heap_alloc_old _ _ (by omega), ← hU3, ← hT2]; exact heap_alloc_last _ _)
  have HG3 : Hid (U4.heap[T + 3]? = some (.cells #[.int .u8 1, .int .i32 97, .int .u8 0, .int .u8 0, .slice none 0 0, .slice none 0 0, .slice none 0 0, .int .u8 4, .int .i32 0, .int .u8 0, .int .u8 109, .slice none 0 0, .slice (some ⟨T, 0, none⟩) 2 2, .slice none 0 0, .int .u8 4, .int .i32 0, .int .u8 63, .int .u8 104, .slice none 0 0, .slice (some ⟨T + 1, 0, none⟩) 1 1, .slice none 0 0, .int .u8 3, .int .i32 0, .int .u8 0, .int .u8 66, .slice (some ⟨T + 2, 0, none⟩) 1 1, .slice none 0 0, .slice none 0 0] 31 (0, 0))) := Lib.hid (by
    rw [← hU4, ← hT3]; exact heap_alloc_last _ _)
  have HM : Hid (OwA U4 T (.slice (some ⟨T + 3, 0, none⟩) 4 4) [⟨1, 97, 0, 0, .slice none 0 0, .slice none 0 0, .slice none 0 0, [], [], []⟩, ⟨4, 0, 0, 109, .slice none 0 0, .slice (some ⟨T, 0, none⟩) 2 2, .slice none 0 0, [], [1, 31], []⟩, ⟨4, 0, 63, 104, .slice none 0 0, .slice (some ⟨T + 1, 0, none⟩) 1 1, .slice none 0 0, [], [25], []⟩, ⟨3, 0, 0, 66, .slice (some ⟨T + 2, 0, none⟩) 1 1, .slice none 0 0, .slice none 0 0, [40], [], []⟩]) := Lib.hid ⟨⟨rfl, .inr ⟨T + 3, 4, _, rfl, by omega, HG3.out, Nat.le_refl _, by unfold maxLen; omega, rfl, rfl⟩⟩, fun a ha => by
    have hn := fun k e => RdO.nil k e U4 T
    simp only [List.mem_cons, List.not_mem_nil, or_false] at ha
    rcases ha with rfl | rfl | rfl | rfl
    · exact ⟨hn _ _, hn _ _, hn _ _⟩
    · exact ⟨hn _ _, (OwK.made .i64 3 [1, 31] (Nat.le_refl _) (by decide) HG0.out).rdo, hn _ _⟩
    · exact ⟨hn _ _, (OwK.made .i64 3 [25] (by omega) (by decide) HG1.out).rdo, hn _ _⟩
    · exact ⟨(OwK.made .u8 5 [40] (by omega) (by decide) HG2.out).rdo, hn _ _, hn _ _⟩⟩
  have HMO : Hid (∀ a ∈ ([⟨1, 97, 0, 0, .slice none 0 0, .slice none 0 0, .slice none 0 0, [], [], []⟩, ⟨4, 0, 0, 109, .slice none 0 0, .slice (some ⟨T, 0, none⟩) 2 2, .slice none 0 0, [], [1, 31], []⟩, ⟨4, 0, 63, 104, .slice none 0 0, .slice (some ⟨T + 1, 0, none⟩) 1 1, .slice none 0 0, [], [25], []⟩, ⟨3, 0, 0, 66, .slice (some ⟨T + 2, 0, none⟩) 1 1, .slice none 0 0, .slice none 0 0, [40], [], []⟩] : List HA), AcOk a.ac) := Lib.hid (fun a ha => by
    simp only [List.mem_cons, List.not_mem_nil, or_false] at ha
    rcases ha with rfl | rfl | rfl | rfl
    · exact ⟨⟨okB0, by simp [HA.ac]⟩, by simp [HA.ac], by simp [HA.ac]⟩
    · exact ⟨⟨okB0, by simp [HA.ac]⟩, by simp [HA.ac], by simp [HA.ac]⟩
    · exact ⟨⟨okB0, by simp [HA.ac]⟩, by simp [HA.ac], by simp [HA.ac]⟩
    · exact ⟨⟨by intro x hx; simp [HA.ac] at hx; omega, by simp [HA.ac]⟩, by simp [HA.ac], by simp [HA.ac]⟩)
  have HLI := Lib.hid (rlists_any X T (.slice A3 m3 c3) (.slice (some ⟨T + 3, 0, none⟩) 4 4) L [⟨1, 97, 0, 0, .slice none 0 0, .slice none 0 0, .slice none 0 0, [], [], []⟩, ⟨4, 0, 0, 109, .slice none 0 0, .slice (some ⟨T, 0, none⟩) 2 2, .slice none 0 0, [], [1, 31], []⟩, ⟨4, 0, 63, 104, .slice none 0 0, .slice (some ⟨T + 1, 0, none⟩) 1 1, .slice none 0 0, [], [25], []⟩, ⟨3, 0, 0, 66, .slice (some ⟨T + 2, 0, none⟩) 1 1, .slice none 0 0, .slice none 0 0, [40], [], []⟩] U4 (by have := HOW.out.below HB2.out; exact this.mono (by have := HB0.out.size; omega)) HM.out HK.out HMO.out HL.out)
  have HEQ : Hid (L.map HA.ac = ([⟨1, 97, 0, 0, .slice none 0 0, .slice none 0 0, .slice none 0 0, [], [], []⟩, ⟨4, 0, 0, 109, .slice none 0 0, .slice (some ⟨T, 0, none⟩) 2 2, .slice none 0 0, [], [1, 31], []⟩, ⟨4, 0, 63, 104, .slice none 0 0, .slice (some ⟨T + 1, 0, none⟩) 1 1, .slice none 0 0, [], [25], []⟩, ⟨3, 0, 0, 66, .slice (some ⟨T + 2, 0, none⟩) 1 1, .slice none 0 0, .slice none 0 0, [40], [], []⟩] : List HA).map HA.ac) := Lib.hid (by rw [HAC.out, ← HACS.out]; rfl)
  clear ho ha hk hb hm3
  go_wp2_with fail
  refine HLI.out.mono ?_
  rintro e w9 ⟨⟨r, rfl, hr⟩, hb⟩
  obtain rfl : r = true := hr.2 HEQ.out
  have HBE : Hid (Below X w w9) := Lib.hid (by rw [← hX]; exact bl_then (bl_then HB1.out HB1.out.size HB2.out) (Nat.le_trans HB1.out.size HB2.out.size) hb)
  clear hr hb
  go_wp2_with fail
  go_ret
  exact ⟨rfl, by first | exact HBE.out | (rw [hX]; exact HBE.out)⟩
theorem copy_nil (w : World) : Calls Try.prog 14 #[.pointer none] w fun e w' => e = .returned (.pointer none) ∧ w' = w := by
  go_enter Try.func14, Try.ntmps14
  go_wp2_with fail
  refine (there_nil w).mono ?_
  rintro e w1 ⟨rfl, rfl⟩
  go_wp2_with fail
  go_ret
  exact ⟨rfl, rfl⟩
theorem nil_law (c : Int) (w : World) : Calls Try.prog 6 #[.int .i32 c] w fun e w' => e = .returned (.bool true) ∧ Below w.heap.size w w' := by
  go_enter Try.func6, Try.ntmps6
  go_wp2_with fail
  refine (take_nil c w).mono ?_
  rintro e w1 ⟨rfl, rfl⟩
  go_wp2_with fail
  refine (ground_nil _).mono ?_
  rintro e w1 ⟨rfl, rfl⟩
  go_wp2_with fail
  refine (copy_nil _).mono ?_
  rintro e w1 ⟨rfl, rfl⟩
  go_wp2_with fail
  refine (anchored_any _).mono ?_
  rintro e w1 ⟨rfl, hb⟩
  have HB := Lib.hid hb
  clear hb
  go_wp2_with fail
  go_ret
  exact ⟨rfl, HB.out⟩
end Go.Proofs.Ytecgipccippddaa
