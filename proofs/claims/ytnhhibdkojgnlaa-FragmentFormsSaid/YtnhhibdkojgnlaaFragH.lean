/- What is proved: what Split of the reference answers when it is called; conditions: those typed. -/
import Derived.Test.YtnhhibdkojgnlaaFragG
set_option linter.unusedSimpArgs false
set_option linter.unusedVariables false
namespace Go.Proofs.Ytnhhibdkojgnlaa
open Go.RowKit
set_option maxRecDepth 100000
set_option maxHeartbeats 8000000
def fullS (bs : List Int) (z i : Nat) : Int × Bool × List Int := ((i : Int), false, (bs.take ((i + 1) * z)).drop (i * z))
/-- Parts while bytes are split: all but the last are full. -/
structure SP (w wr : World) (v : Value) (id : Int) (Q : List HP) (p : HP) (bs : List Int) (z k : Nat) : Prop where
  own : OwP wr w.heap.size v id (Q ++ [p])
  ap : ∀ q ∈ Q, ∀ b, q.v.ownBlock = some b → p.v.ownBlock ≠ some b
  sg : Q.map HP.sg = (List.range Q.length).map (fullS bs z)
  pn : p.n = Q.length
  pl : p.last = false
  pb : p.bs = (bs.take k).drop (Q.length * z)
  lo : Q.length * z ≤ k
  bel : Below w.heap.size w wr
theorem splitN_of {l z m : Nat} (hz : 0 < z) (h1 : m * z ≤ l) (h2 : l ≤ (m + 1) * z) (h3 : m = 0 ∨ m * z < l) : splitN l z = m + 1 := by
  unfold splitN
  rcases h3 with rfl | h3
  · have : (l + z - 1) / z ≤ 1 := by
      have h4 : l + z - 1 < 2 * z := by simp at h2; omega
      have := Nat.div_lt_of_lt_mul (m := l + z - 1) (n := z) (k := 2) (by omega)
      omega
    omega
  · have : (l + z - 1) / z = m + 1 := by
      refine Nat.div_eq_of_lt_le ?_ ?_
      · rw [Nat.add_mul, Nat.one_mul]; omega
      · rw [Nat.add_mul (m + 1), Nat.one_mul]; omega
    omega
theorem splitN_big {l z : Nat} (hz : 0 < z) (h : z * 256 < l) : 256 < splitN l z := by
  unfold splitN
  have : 257 ≤ (l + z - 1) / z := by
    refine (Nat.le_div_iff_mul_le hz).2 ?_
    omega
  omega
theorem SP.done {w wr : World} {v : Value} {id : Int} {Q : List HP} {p p' : HP} {bs : List Int} {z k : Nat} (h : SP w wr v id Q p bs z k) (hk : k = bs.length) (hz : 0 < z) (hi : k ≤ (Q.length + 1) * z) (st : Q.length = 0 ∨ Q.length * z < k) (hp : p' = { p with last := true }) :
    splitN bs.length z = Q.length + 1 ∧ (Q ++ [p']).map HP.sg = (List.range (splitN bs.length z)).map (partS bs z) := by
  subst hk
  have hn := splitN_of hz h.lo hi st
  refine ⟨hn, ?_⟩
  rw [hn, List.range_succ, List.map_append, List.map_append, h.sg]
  congr 1
  · refine List.map_congr_left fun i hi' => ?_
    have hi2 := List.mem_range.1 hi'
    have h1 : (i + 1) * z ≤ Q.length * z := Nat.mul_le_mul_right z hi2
    have h2 := h.lo
    unfold fullS partS
    rw [hn, Nat.min_eq_left (by omega)]
    simp
    omega
  · subst hp
    simp only [List.map_cons, List.map_nil, HP.sg, partS, hn, h.pn, h.pb]
    rw [Nat.min_eq_right hi]
    simp
theorem flatP_turn {id : Int} {Q : List HP} {p p' : HP} {j : Nat} {x : Value} (hp : (prow id p).toList.set j x = (prow id p').toList) : (flatP id (Q ++ [p])).set (Q.length * 4 + j) x = flatP id (Q ++ [p']) := by
  have e : ∀ p, flatP id [p] = (prow id p).toList := fun p => by simp [flatP]
  rw [flatP_app, flatP_app, e, e, List.set_append_right _ _ (by rw [flatP_len]; omega), flatP_len, Nat.add_sub_cancel_left, hp]
theorem OwP.turn {W W' : World} {base : Nat} {v : Value} {id : Int} {Q : List HP} {p p' : HP} {g cap j : Nat} {cur : Array Value} {x : Value} (h : OwP W base v id (Q ++ [p])) (hv : v = .slice (some ⟨g, 0, none⟩) (Q.length + 1) cap) (hg : W.heap[g]? = some (.cells cur 33 (0, 0)))
    (hp : (prow id p).toList.set j x = (prow id p').toList) (hg' : W'.heap[g]? = some (.cells (cur.setIfInBounds (Q.length * 4 + j) x) 33 (0, 0)))
    (hb : ∀ q ∈ Q ++ [p'], OwB W' base q.v q.bs ∧ okB q.bs ∧ q.bs.length ≤ 140737488355328) (ha : ∀ q ∈ Q ++ [p'], ∀ b, q.v.ownBlock = some b → v.ownBlock ≠ some b) : OwP W' base v id (Q ++ [p']) := by
  obtain ⟨hlen, ⟨h1, _⟩ | ⟨g0, cap0, cur0, e, hbse, hh, h4, h5, h6, h7⟩⟩ := h.row
  · rw [hv] at h1; cases h1
  · rw [hv] at e
    simp only [Value.slice.injEq, Option.some.injEq, Addr.mk.injEq, and_true] at e
    obtain ⟨rfl, hl, rfl⟩ := e
    rw [hg] at hh
    simp only [Option.some.injEq, Obj.cells.injEq, and_true] at hh
    subst hh
    refine ⟨⟨by rw [flatP_len], .inr ⟨g, cap, cur.setIfInBounds (Q.length * 4 + j) x, by rw [hv]; simp, hbse, hg', by simpa using h4, h5, by simpa using h6, ?_⟩⟩, hb, ha⟩
    rw [Array.toList_setIfInBounds, List.take_set, ← flatP_turn hp, ← h7]
    simp
theorem st_sb (x : Value) (hx : ∃ A n c, x = .slice A n c) (W : World) (a : Addr) (h1 : (W.cell? a).isSome = true) (h2 : W.frozen? a = false) : (Instr.storeAt 28 (.pointer (some a)) x).run Try.prog W = .ok () (W.setCell a x) := by
  obtain ⟨A, n, c, rfl⟩ := hx
  obtain ⟨u, hu⟩ := Option.isSome_iff_exists.1 h1
  go_simp
theorem lit1 {w : World} {g : Nat} {b : Int} (h : w.heap[g]? = some (.cells #[.int .u8 b] 5 (0, 0))) (hx : 0 ≤ b ∧ b ≤ 255) : BB w (.slice (some ⟨g, 0, none⟩) 1 1) [b] := by
  refine ⟨by intro x hx; obtain rfl := List.mem_singleton.1 hx; assumption, by simp, _, 1, rfl, ⟨rfl, fun _ => ⟨g, 0, rfl, fun j hj => ?_⟩⟩, fun h => by simp at h, Nat.le_refl _, by simp [maxLen]⟩
  simp at hj
  subst hj
  exact (cell_of_row w g 0 _ _ (0, 0) h).trans rfl
/-- A part alone, in a new block. -/
theorem OwP.one (w : World) (id : Int) : OwP (w.alloc (.cells #[.int .u64 id, .int .i64 0, .bool false, .slice none 0 0] 33)) w.heap.size (.slice (some ⟨w.heap.size, 0, none⟩) 1 1) id [⟨0, false, .slice none 0 0, []⟩] := by
  refine ⟨⟨rfl, .inr ⟨w.heap.size, 1, _, rfl, Nat.le_refl _, heap_alloc_last _ _, Nat.le_refl _, by simp [maxLen], rfl, rfl⟩⟩, ?_, ?_⟩
  · intro q hq
    obtain rfl := List.mem_singleton.1 hq
    exact ⟨OwB.nil _ _, by intro x hx; simp at hx, by simp⟩
  · intro q hq b hb
    obtain rfl := List.mem_singleton.1 hq
    cases hb
theorem SP.start (w : World) (id : Int) (bs : List Int) (z : Nat) : SP w (w.alloc (.cells #[.int .u64 id, .int .i64 0, .bool false, .slice none 0 0] 33)) (.slice (some ⟨w.heap.size, 0, none⟩) 1 1) id [] ⟨0, false, .slice none 0 0, []⟩ bs z 0 where
  own := OwP.one w id
  ap := by simp
  sg := rfl
  pn := rfl
  pl := rfl
  pb := by simp
  lo := by simp
  bel := by (repeat' (first | (with_reducible exact Below.refl _ _) | (with_reducible assumption) | (with_reducible refine Below.alloc ?_ ?_ _) | (with_reducible refine below_setRow ?_ ?_ _) | (with_reducible refine bl_drew ?_) | (with_reducible refine bl_drewN ?_ _) | (with_reducible refine Below.setCell ?_ ?_ _) | (with_reducible refine bl_then ?_ ?_ hb) | (with_reducible refine bl_then ?_ ?_ hb1) | (with_reducible refine bl_then ?_ ?_ hb2) | (with_reducible refine bl_then ?_ ?_ hb3) | (with_reducible refine bl_then ?_ ?_ hb4) | (with_reducible refine bl_then ?_ ?_ hb5) | (with_reducible refine bl_then ?_ ?_ hb6) | (with_reducible refine bl_then ?_ ?_ hb7) | (with_reducible refine bl_then ?_ ?_ hb8) | (with_reducible exact Nat.le_refl _) | omega | (simp only [World.size_alloc, World.size_setCell, World.size_drew, size_setRow]; omega) | (simp; omega) | (simp; done)))
/-- Where the last part lies. -/
theorem SP.last {w wr : World} {v : Value} {id : Int} {Q : List HP} {p : HP} {bs : List Int} {z k : Nat} (h : SP w wr v id Q p bs z k) : ∃ g cap cur, v = .slice (some ⟨g, 0, none⟩) (Q.length + 1) cap ∧ w.heap.size ≤ g ∧ wr.heap[g]? = some (.cells cur 33 (0, 0)) ∧ (∀ j u, (prow id p).toList[j]? = some u → cur[Q.length * 4 + j]? = some u) := by
  obtain ⟨g, cap, cur, h1, h2, h3, h4⟩ := h.own.cells (by simp)
  exact ⟨g, cap, cur, by simpa using h1, h2, h3, h4 Q.length p (by simp)⟩
theorem SP.bytes {w wr : World} {v : Value} {id : Int} {Q : List HP} {p : HP} {bs : List Int} {z k : Nat} (h : SP w wr v id Q p bs z k) : OwB wr w.heap.size p.v p.bs ∧ okB p.bs ∧ p.bs.length ≤ 140737488355328 := h.own.bytes p (by simp)
theorem SP.len {w wr : World} {v : Value} {id : Int} {Q : List HP} {p : HP} {bs : List Int} {z k : Nat} (h : SP w wr v id Q p bs z k) (hk : k ≤ bs.length) : p.bs.length = k - Q.length * z := by
  rw [h.pb, List.length_drop, List.length_take]
  omega
theorem rsplit_any (id : Int) (v : Value) (bs : List Int) (size : Int) (w : World) (hv : BB w v bs) :
    Calls Try.prog 19 #[.int .u64 id, v, .int .i64 size] w fun e w' => (∃ vr er, e = .returned (.tuple #[vr, .int .i64 er]) ∧ SplitOk w' w.heap.size id bs size vr er) ∧ Below w.heap.size w w' := by
  obtain ⟨l, hl⟩ : ∃ l, bs.length = l := ⟨_, rfl⟩
  have hlb := hv.len
  have HV := Lib.hid hv
  obtain ⟨hok, _, A, cap, e, _, _, hcp, hcm⟩ := hv
  rw [hl] at hlb e hcp
  subst e
  have HLN := Lib.hid hl
  have HOK := Lib.hid hok
  clear hl hok
  by_cases h1 : size < 1
  · go_enter Try.func19, Try.ntmps19
    go_wp2_with fail
    exact bodyPost_ret (v := .tuple #[.slice none 0 0, .int .i64 2]) (by simp [results, Try.results19, go_sem]) rfl ⟨⟨_, _, rfl, .inl ⟨.inl h1, rfl, rfl⟩⟩, Below.refl _ _⟩
  · by_cases h2 : 1024 < size
    · go_enter Try.func19, Try.ntmps19
      go_wp2_with fail
      exact bodyPost_ret (v := .tuple #[.slice none 0 0, .int .i64 2]) (by simp [results, Try.results19, go_sem]) rfl ⟨⟨_, _, rfl, .inl ⟨.inr h2, rfl, rfl⟩⟩, Below.refl _ _⟩
    · obtain ⟨z, rfl⟩ := Int.eq_ofNat_of_zero_le (show 0 ≤ size by omega)
      have hz0 : 0 < z := by omega
      have hz1 : z ≤ 1024 := by omega
      obtain ⟨zz, hzz⟩ : ∃ zz, z * 256 = zz := ⟨_, rfl⟩
      have hwz : IntKind.i64.wrap ((z : Int) * 256) = (zz : Int) := (IntWalk.i64_in _ (by omega)).trans (by omega)
      have HZZ := Lib.hid hzz
      by_cases h3 : zz < l
      · have h3i : (zz : Int) < (l : Int) := by omega
        clear hzz
        go_enter Try.func19, Try.ntmps19
        go_wp2_with fail
        exact bodyPost_ret (v := .tuple #[.slice none 0 0, .int .i64 4]) (by simp [results, Try.results19, go_sem]) rfl ⟨⟨_, _, rfl, .inr ⟨z, rfl, hz0, hz1, .inl ⟨by rw [HLN.out]; exact splitN_big hz0 (by have := HZZ.out; omega), rfl, rfl⟩⟩⟩, Below.refl _ _⟩
      · have h3i : ¬ (zz : Int) < (l : Int) := by omega
        obtain ⟨X, hX⟩ : ∃ X, w.heap.size = X := ⟨_, rfl⟩
        have H0 := Lib.hid (SP.start w id bs z)
        rw [hX] at H0
        have hlz : l ≤ 256 * z := by omega
        clear hzz
        go_enter Try.func19, Try.ntmps19
        go_wp2_with fail
        try rw [hX]
        go_loopw [9, 8] (fun i lv wr => ∃ k : Nat, k ≤ l ∧ i = .int .i64 k ∧ ∃ (Q : List HP) (p : HP), Hid (SP w wr lv id Q p bs z k ∧ k ≤ (Q.length + 1) * z ∧ (Q.length = 0 ∨ Q.length * z < k))) (fun i _ _ => l - (intOf i).toNat)
        case atStart => exact ⟨0, by omega, rfl, [], ⟨0, false, .slice none 0 0, []⟩, Lib.hid ⟨H0.out, by omega, .inl rfl⟩⟩
        case round =>
          obtain ⟨k, hk, rfl, Q, p, H⟩ := hrel
          clear H0
          obtain ⟨g, pc, cur, rfl, hgb, hg, hc⟩ := H.out.1.last
          obtain ⟨m, hm⟩ : ∃ m, Q.length = m := ⟨_, rfl⟩
          have HM := Lib.hid hm
          rw [hm] at hc
          have d3 : wr.cell? ⟨g, m * 4 + 3, none⟩ = some p.v := (cell_of_row _ _ _ _ _ _ hg).trans (hc 3 _ rfl)
          have d2 : wr.cell? ⟨g, m * 4 + 2, none⟩ = some (.bool false) := (cell_of_row _ _ _ _ _ _ hg).trans (hc 2 _ (by rw [← H.out.1.pl]; rfl))
          obtain ⟨A2, c2, hpv⟩ := H.out.1.bytes.1.slice
          have hpl := H.out.1.len (by rw [HLN.out]; exact hk)
          rw [hm] at hpl ⊢
          obtain ⟨n2, hn2⟩ : ∃ n2, p.bs.length = n2 := ⟨_, rfl⟩
          rw [hn2] at hpl hpv
          rw [hpv] at d3
          have hm256 : m ≤ 256 := by
            have h4 := H.out.2.2
            rw [hm] at h4
            rcases h4 with h4 | h4
            · omega
            · have : m * z < 256 * z := by omega
              exact Nat.le_of_lt (Nat.lt_of_mul_lt_mul_right this)
          have hlo := H.out.1.lo
          have hhi := H.out.2.1
          have hst := H.out.2.2
          rw [hm] at hlo hhi hst
          rw [Nat.add_mul, Nat.one_mul] at hhi
          obtain ⟨mz, hmz⟩ : ∃ mz, m * z = mz := ⟨_, rfl⟩
          rw [hmz] at hlo hhi hpl hst
          have hn2l : n2 ≤ z := by omega
          have HPL := Lib.hid hpl
          have HMZ := Lib.hid hmz
          have HN2 := Lib.hid hn2
          have HPV := Lib.hid hpv
          have HM256 : Hid (m + 1 ≤ 256) := Lib.hid (by
            rcases hst with h4 | h4
            · omega
            · have : m * z < 256 * z := by rw [HMZ.out]; omega
              have := Nat.lt_of_mul_lt_mul_right this
              omega)
          obtain ⟨q, hq⟩ : ∃ q, m + 1 = q := ⟨_, rfl⟩
          rw [hq]
          have hwq : IntKind.i64.wrap ((q : Int) - 1) = (m : Int) := (IntWalk.i64_in _ (by omega)).trans (by omega)
          have hmq : (m : Int) < (q : Int) := by omega
          have hm0 : (0 : Int) ≤ (m : Int) := by omega
          have HQ := Lib.hid hq
          clear hm hn2 hpv hmz hq hc hpl
          by_cases hkl : k < l
          · have hki : (k : Int) < (l : Int) := by omega
            have hk0 : (0 : Int) ≤ (k : Int) := by omega
            by_cases hfull : n2 = z
            · as_aux_lemma =>
                have hne : ((n2 : Int) == (z : Int)) = true := by simpa using (by omega : (n2 : Int) = (z : Int))
                have HFU : Hid (n2 = z) := Lib.hid hfull
                clear hfull
                have HS : Hid (SP w wr (.slice (some ⟨g, 0, none⟩) q pc) id Q p bs z k) := Lib.hid (by have := H.out.1; rwa [HM.out, HQ.out] at this)
                obtain ⟨XN, hXN⟩ : ∃ X, wr.heap.size = X := ⟨_, rfl⟩
                obtain ⟨pn, hpn⟩ : ∃ pn, pn = (⟨(q : Int), false, .slice none 0 0, []⟩ : HP) := ⟨_, rfl⟩
                have HPN := Lib.hid hpn
                clear hpn
                have hbx : Below wr.heap.size wr (wr.alloc (.cells #[.int .u64 id, .int .i64 q, .bool false, .slice none 0 0] 33)) := by (repeat' (first | (with_reducible exact Below.refl _ _) | (with_reducible assumption) | (with_reducible refine Below.alloc ?_ ?_ _) | (with_reducible refine below_setRow ?_ ?_ _) | (with_reducible refine bl_drew ?_) | (with_reducible refine bl_drewN ?_ _) | (with_reducible refine Below.setCell ?_ ?_ _) | (with_reducible refine bl_then ?_ ?_ hb) | (with_reducible refine bl_then ?_ ?_ hb1) | (with_reducible refine bl_then ?_ ?_ hb2) | (with_reducible refine bl_then ?_ ?_ hb3) | (with_reducible refine bl_then ?_ ?_ hb4) | (with_reducible refine bl_then ?_ ?_ hb5) | (with_reducible refine bl_then ?_ ?_ hb6) | (with_reducible refine bl_then ?_ ?_ hb7) | (with_reducible refine bl_then ?_ ?_ hb8) | (with_reducible exact Nat.le_refl _) | omega | (simp only [World.size_alloc, World.size_setCell, World.size_drew, size_setRow]; omega) | (simp; omega) | (simp; done)))
                have HBX := Lib.hid hbx
                clear hbx d2
                go_wp2_with (at_builtin; refine wpList_appP (base := w.heap.size) (id := id) rfl _ _ rfl (.slice (some ⟨g, 0, none⟩) q pc) (Q ++ [p]) pn XN 33 rfl ?_ ?_ ?_ ?_ ?_ ?_ ?_ ?_)
                · exact HS.out.own.below HBX.out
                · first | rfl | (rw [hXN])
                · rw [← hXN, HPN.out]; exact heap_alloc_last _ _
                · rw [HPN.out]; exact ⟨OwB.nil _ _, by intro x hx; simp at hx, by simp⟩
                · rw [HPN.out]; intro b hb; cases hb
                · have := HM.out; simp; omega
                · have := HS.out.bel.size; simp; omega
                · intro v' w' h1 h2
                  have hbw : Below w.heap.size w w' := (HS.out.bel.alloc HS.out.bel.size (.cells #[.int .u64 id, .int .i64 q, .bool false, .slice none 0 0] 33)).grown h2 (by have := HS.out.bel.size; simp; omega) (fun j hj => (rows_blk HS.out.own.row hj).1)
                  have hk2 : (m + 1) * z = k := by
                    rw [Nat.add_mul, Nat.one_mul, HMZ.out]
                    have := HPL.out
                    have := HFU.out
                    omega
                  have hl2 : (Q ++ [p]).length = q := by rw [List.length_append, HM.out]; exact HQ.out
                  have HS2 : Hid (SP w w' v' id (Q ++ [p]) pn bs z k) := Lib.hid {
                    own := by rw [List.append_assoc, hX]; exact h1
                    ap := by intro q9 h9 b hb e; rw [HPN.out] at e; cases e
                    sg := by
                      rw [List.map_append, List.length_append, List.length_singleton, List.range_succ, List.map_append, HS.out.sg]
                      congr 1
                      simp only [List.map_cons, List.map_nil, HP.sg, fullS, HS.out.pn, HS.out.pl, HS.out.pb, HM.out, hk2]
                    pn := by rw [HPN.out, hl2]
                    pl := by rw [HPN.out]
                    pb := by
                      rw [HPN.out, hl2, ← HQ.out, hk2, List.drop_eq_nil_iff.2 (by rw [List.length_take]; omega)]
                    lo := by rw [hl2, ← HQ.out, hk2]; exact Nat.le_refl _
                    bel := hbw }
                  have HQ2 : Hid ((Q ++ [p]).length = q) := Lib.hid hl2
                  obtain ⟨g2, pc2, cur2, hv2, hgb2, hg2, hc2⟩ := HS2.out.last
                  rw [hl2] at hv2 hc2
                  obtain ⟨Q2, hQ2⟩ : ∃ Q2, Q ++ [p] = Q2 := ⟨_, rfl⟩
                  rw [hQ2] at HS2 HQ2
                  obtain ⟨q2, hq2⟩ : ∃ q2, q + 1 = q2 := ⟨_, rfl⟩
                  rw [hq2] at hv2
                  subst hv2
                  have HQ3 := Lib.hid hq2
                  have HPV2 : Hid (pn.v = .slice none 0 0) := Lib.hid (by rw [HPN.out])
                  have HN22 : Hid (pn.bs.length = 0) := Lib.hid (by rw [HPN.out]; rfl)
                  have hC3 : cur2[q * 4 + 3]? = some (.slice none 0 0) := hc2 3 _ (by rw [HPN.out]; rfl)
                  have HKQ : Hid (q * z = k) := Lib.hid (by rw [← HQ.out]; exact hk2)
                  have hwq2 : IntKind.i64.wrap ((q2 : Int) - 1) = (q : Int) := (IntWalk.i64_in _ (by have := HQ.out; omega)).trans (by omega)
                  have hmq2 : (q : Int) < (q2 : Int) := by omega
                  have hq0 : (0 : Int) ≤ (q : Int) := by omega
                  have hG := hg2
                  clear hc2 h1 h2 hbw hk2 hl2 hQ2 hq2 hg2 d3 hwq hmq hm0 hne hg HS H HFU HBX hXN
                  obtain ⟨b, hb⟩ : ∃ b, bs.getD k 0 = b := ⟨_, rfl⟩
                  have HBY : Hid (bs.getD k 0 = b) := Lib.hid hb
                  have hbr : 0 ≤ b ∧ b ≤ 255 := by rw [← hb]; exact HOK.out.getD k
                  clear hb
                  obtain ⟨AB, AO, hA, HCELL⟩ : ∃ AB AO, A = some ⟨AB, AO, none⟩ ∧ Hid (AB < w.heap.size ∧ w.cell? ⟨AB, AO + k, none⟩ = some (.int .u8 b)) := by
                    obtain ⟨_, _, A', cap', e, hr, _⟩ := HV.out
                    simp only [Value.slice.injEq] at e
                    obtain ⟨rfl, _, _⟩ := e
                    rw [HLN.out] at hr
                    obtain ⟨b0, off, hA0, hcc⟩ := hr.2 (by omega)
                    exact ⟨b0, off, hA0, Lib.hid ⟨hr.lt_ (by omega) hA0, by rw [hcc k (by omega), HBY.out]⟩⟩
                  subst hA
                  obtain ⟨ys, hys⟩ : ∃ ys, pn.bs ++ [b] = ys := ⟨_, rfl⟩
                  have hyl : ys.length ≤ 140737488355328 := by rw [← hys, List.length_append, HN22.out]; simp; try omega
                  have HYS : Hid (pn.bs ++ [b] = ys) := Lib.hid hys
                  clear hys
                  obtain ⟨x, hx, hx2⟩ := OwX.of HS2.out.bytes.1
                  have hbk : (Value.slice none 0 0).ownBlock = x.map (·.1) := by have h := hx.block; rw [HPV2.out] at h; exact h
                  have hbm : ∀ g o, x = some (g, o) → (Value.slice none 0 0).ownBlock = some g := fun g o e => by rw [hbk, e]; rfl
                  have hapg : ∀ b, (Value.slice none 0 0).ownBlock = some b → b ≠ g2 := fun b hb e => HS2.out.own.ap pn (by simp) b (by rw [HPV2.out]; exact hb) (by rw [e]; rfl)
                  have hx' : OwXB (Value.slice none 0 0) x pn.bs := by rw [← HPV2.out]; exact hx
                  have hgr := lt_of_heap hG
                  have hx3 : ∀ g o, x = some (g, o) → w.heap.size ≤ g ∧ w'.heap[g]? = some o := fun g o e => ⟨(hx2 g o e).1, (hx2 g o e).2.1⟩
                  clear hx hx2 hbk
                  have HIS : Hid (Inv w' (fun b => b = g2 ∨ (Value.slice none 0 0).ownBlock = some b) (gh2 (some (g2, .cells cur2 33 (0, 0))) x) w'.drew) := Lib.hid (Inv.start2 hG (.inl rfl) (fun g o e => ⟨(hx3 g o e).2, hapg g (hbm g o e), .inr (hbm g o e)⟩))
                  go_wp2_with fail
                  apply wp_region_effT _ _ HIS.out (hm := by kernel_rfl)
                  case h =>
                    (apply SeqF.pure; (focus (first | rfl | (go_simp; done) | (simp [Region.wanted, yielded]; done))); (focus (intro w; go_simp; with_reducible rfl)); go_simp)
                    (apply SeqF.pure; (focus (first | rfl | (go_simp; done) | (simp [Region.wanted, yielded]; done))); (focus (intro w; go_simp; with_reducible rfl)); go_simp)
                    (apply SeqF.pure; (focus (first | rfl | (go_simp; done) | (simp [Region.wanted, yielded]; done))); (focus (intro w; go_simp; with_reducible rfl)); go_simp)
                    (apply SeqF.pure; (focus (first | rfl | (go_simp; done) | (simp [Region.wanted, yielded]; done))); (focus (intro w; go_simp; with_reducible rfl)); go_simp)
                    (apply SeqF.pure; (focus (first | rfl | (go_simp; done) | (simp [Region.wanted, yielded]; done))); (focus (intro w; go_simp; with_reducible rfl)); go_simp)
                    (apply SeqF.pure; (focus (first | rfl | (go_simp; done) | (simp [Region.wanted, yielded]; done))); (focus (intro w; go_simp; with_reducible rfl)); go_simp)
                    (apply SeqF.pure; (focus (first | rfl | (go_simp; done) | (simp [Region.wanted, yielded]; done))); (focus (intro w; go_simp; with_reducible rfl)); go_simp)
                    (apply SeqF.pure; (focus (first | rfl | (go_simp; done) | (simp [Region.wanted, yielded]; done))); (focus (intro w; go_simp; with_reducible rfl)); go_simp)
                    (apply SeqF.pure; (focus (first | rfl | (go_simp; done) | (simp [Region.wanted, yielded]; done))); (focus (intro w; go_simp; with_reducible rfl)); go_simp)
                    (apply SeqF.pure; (focus (first | rfl | (go_simp; done) | (simp [Region.wanted, yielded]; done))); (focus (intro w; go_simp; with_reducible rfl)); go_simp)
                    apply SeqF.read (v := (Value.slice none 0 0)) [0]
                    · (first | rfl | (go_simp; done) | (simp [Region.wanted, yielded]; done))
                    · intro γ' W hg hI
                      have x0 : W.cell? ⟨g2, q * 4 + 3, none⟩ = some (Value.slice none 0 0) := (cell_of_row _ _ _ _ _ _ (hI.here 0 g2 _ ((hg 0 (by simp)).trans rfl)).1).trans hC3
                      go_simp
                    go_simp
                    (apply SeqF.pure; (focus (first | rfl | (go_simp; done) | (simp [Region.wanted, yielded]; done))); (focus (intro w; go_simp; with_reducible rfl)); go_simp)
                    (apply SeqF.pure; (focus (first | rfl | (go_simp; done) | (simp [Region.wanted, yielded]; done))); (focus (intro w; go_simp; with_reducible rfl)); go_simp)
                    (apply SeqF.pure; (focus (first | rfl | (go_simp; done) | (simp [Region.wanted, yielded]; done))); (focus (intro w; go_simp; with_reducible rfl)); go_simp)
                    apply SeqF.read (v := .int .u8 b) []
                    · (first | rfl | (go_simp; done) | (simp [Region.wanted, yielded]; done))
                    · intro γ' W hg hI
                      have hAB := HCELL.out.1
                      have x0 : W.cell? ⟨AB, AO + k, none⟩ = some (.int .u8 b) := (cell_same (hI.far AB (by have := HS2.out.bel.size; omega) (fun e => e.elim (fun e => by omega) (fun e => by have := (HS2.out.bytes.1.own_blk (by rw [HPV2.out]; exact e)).1; omega)))).trans (((bcell HS2.out.bel).1 AB _ hAB).trans HCELL.out.2)
                      go_simp
                    go_simp
                    apply SeqF.new [] 2 (fun g => .slice (some ⟨g, 0, none⟩) 1 1) (fun _ => .cells #[.int .u8 b] 5 (0, 0))
                    · intro γ' _; rfl
                    · (first | rfl | (go_simp; done) | (simp [Region.wanted, yielded]; done))
                    · intro γ' V hg hI; kernel_rfl
                    intro X2 hX2
                    go_simp
                    apply SeqF.appB [1, 2] 1 (by simp) (.tmp 57) (.tmp 62) rfl rfl (Value.slice none 0 0) (.slice (some ⟨X2, 0, none⟩) 1 1) pn.bs [b] ys (by rw [Gh.set_far _ _ (by decide)]; exact hx') rfl rfl
                    · exact fun γ' W hg hI => lit1 (hI.here 2 X2 _ ((hg 2 (by simp)).trans (Gh.set_here _ _ _))).1 hbr
                    · rw [HN22.out]; simp; try omega
                    · exact HYS.out
                    intro v' x' hu hx9
                    obtain rfl := OwX.val hu (by decide)
                    obtain ⟨A9, c9, e9⟩ := OwX.form hu
                    have HE9 := Lib.hid e9
                    clear e9
                    go_simp
                    (apply SeqF.pure; (focus (first | rfl | (go_simp; done) | (simp [Region.wanted, yielded]; done))); (focus (intro w; go_simp; with_reducible rfl)); go_simp)
                    (apply SeqF.pure; (focus (first | rfl | (go_simp; done) | (simp [Region.wanted, yielded]; done))); (focus (intro w; go_simp; with_reducible rfl)); go_simp)
                    apply SeqF.store [0, 1] 0 g2 (.cells cur2 33 (0, 0)) rfl (by simp) (fun γ => .cells (cur2.setIfInBounds (q * 4 + 3) (rowVal 1 ys.length (γ 1))) 33 (0, 0))
                    · intro γ' hg; simp only [hg 1 (by simp)]
                    · (first | rfl | (go_simp; done) | (simp [Region.wanted, yielded]; done))
                    · intro γ' W hg hI hW
                      simp only [Gh.set_here]
                      exact exec_st1 (i := q * 4 + 3) (st_sb _ ⟨A9, _, c9, HE9.out⟩) rfl rfl rfl (Array.getElem?_eq_some_iff.1 hC3).1 rfl hW
                    go_simp
                    apply SeqF.done
                    intro w9 hI9
                    have hG9 := (hI9.here 0 g2 _ (Gh.set_here _ _ _)).1
                    simp only [Gh.set_here] at hG9
                    have hX9 : ∀ g o, x' = some (g, o) → w9.heap[g]? = some o := fun g o e => (hI9.here 1 g o (by rw [Gh.set_far _ _ (by decide), Gh.set_here]; exact e)).1
                    have hxo : ∀ g o, x' = some (g, o) → (Value.slice none 0 0).ownBlock = some g ∨ w'.heap.size ≤ g := fun g o e => by
                      rcases hx9 g o e with ⟨o', h⟩ | h
                      · exact .inl (hbm g o' (by simpa [Gh.set, gh2] using h))
                      · exact .inr h
                    have hbl2 : (rowVal 1 ys.length x').ownBlock = x'.map (·.1) := OwX.block hu
                    have hxo2 : ∀ b', (rowVal 1 ys.length x').ownBlock = some b' → (Value.slice none 0 0).ownBlock = some b' ∨ w'.heap.size ≤ b' := fun b' h => by
                      rw [hbl2] at h
                      obtain ⟨⟨g, o⟩, e, rfl⟩ := Option.map_eq_some_iff.1 h
                      exact hxo g o e
                    have hpvb : ∀ b', (Value.slice none 0 0).ownBlock = some b' → w.heap.size ≤ b' ∧ b' < w'.heap.size := fun b' h => HS2.out.bytes.1.own_blk (by rw [HPV2.out]; exact h)
                    have hsz := HS2.out.bel.size
                    have HN : Hid (SP w w9 (.slice (some ⟨g2, 0, none⟩) q2 pc2) id Q2 ⟨pn.n, pn.last, rowVal 1 ys.length x', ys⟩ bs z (k + 1)) := Lib.hid {
                      own := by
                        refine HS2.out.own.turn (j := 3) (x := rowVal 1 ys.length x') (by rw [HQ2.out]; exact (by rw [HQ3.out])) hG rfl (by rw [HQ2.out]; exact hG9) ?_ ?_
                        · intro q9 hq9
                          rcases List.mem_append.1 hq9 with h9 | h9
                          · have hb9 := HS2.out.own.bytes q9 (by simp [h9])
                            refine ⟨hb9.1.keep (fun b' h1 h2 => hI9.far b' h2 (fun e => ?_)), hb9.2⟩
                            rcases e with e | e
                            · exact HS2.out.own.ap q9 (by simp [h9]) b' h1 (by rw [e]; rfl)
                            · exact HS2.out.ap q9 h9 b' h1 (by rw [HPV2.out]; exact e)
                          · obtain rfl := List.mem_singleton.1 h9
                            refine ⟨OwX.owns hu fun g o e => ⟨?_, hX9 g o e⟩, ?_, ?_⟩
                            · rcases hxo g o e with h | h
                              · exact (hpvb g h).1
                              · omega
                            · show okB ys
                              rw [← HYS.out]
                              intro y hy
                              rcases List.mem_append.1 hy with hy | hy
                              · exact HS2.out.bytes.2.1 y hy
                              · obtain rfl := List.mem_singleton.1 hy
                                exact hbr
                            · exact hyl
                        · intro q9 hq9 b' h1 h2
                          have h2' : g2 = b' := by simpa [Value.ownBlock] using h2
                          rcases List.mem_append.1 hq9 with h9 | h9
                          · exact HS2.out.own.ap q9 (by simp [h9]) b' h1 h2
                          · obtain rfl := List.mem_singleton.1 h9
                            rcases hxo2 b' h1 with h3 | h3
                            · exact hapg b' h3 h2'.symm
                            · omega
                      ap := by
                        intro q9 h9 b' h1 h2
                        rcases hxo2 b' h2 with h3 | h3
                        · exact HS2.out.ap q9 h9 b' h1 (by rw [HPV2.out]; exact h3)
                        · have := ((HS2.out.own.bytes q9 (by simp [h9])).1.own_blk h1).2
                          omega
                      sg := HS2.out.sg
                      pn := HS2.out.pn
                      pl := HS2.out.pl
                      pb := by
                        show ys = _
                        rw [← HYS.out]
                        have hlk : k < bs.length := by rw [HLN.out]; omega
                        have h1 : bs[k]? = some b := by
                          rw [List.getElem?_eq_getElem hlk]
                          have h2 := HBY.out
                          rw [List.getD_eq_getElem?_getD, List.getElem?_eq_getElem hlk] at h2
                          exact congrArg some h2
                        rw [HS2.out.pb, List.take_add_one, h1, List.drop_append_of_le_length (by have := HS2.out.lo; rw [List.length_take]; omega)]
                        rfl
                      lo := by have := HS2.out.lo; omega
                      bel := hI9.belowS HS2.out.bel hsz (fun g' hg' => hg'.elim (fun e => by omega) (fun e => (hpvb g' e).1)) }
                    have HN1 : Hid (k + 1 ≤ (Q2.length + 1) * z ∧ (Q2.length = 0 ∨ Q2.length * z < k + 1)) := Lib.hid ⟨by rw [HQ2.out, Nat.add_mul, Nat.one_mul, HKQ.out]; omega, by rw [HQ2.out, HKQ.out]; omega⟩
                    clear hI9 hG9 hX9 hxo hbl2 hxo2 hpvb hsz hu hx9
                    go_simp
                    go_wp2_with fail
                    go_roundw
                    case rel =>
                      first
                        | exact ⟨k + 1, by omega, by go_num, _, _, Lib.hid ⟨HN.out, HN1.out⟩⟩
                        | ((repeat apply Exists.intro); refine ⟨?_, rfl⟩; exact ⟨k + 1, by omega, by go_num, _, _, Lib.hid ⟨HN.out, HN1.out⟩⟩)
                    case measure => first | (simp [intOf]; done) | (simp [intOf]; omega)
                  case hl => rfl
                  case ho => kernel_rfl
            · as_aux_lemma =>
                have hne : ((n2 : Int) == (z : Int)) = false := by simpa using (by omega : ¬ (n2 : Int) = (z : Int))
                have HS : Hid (SP w wr (.slice (some ⟨g, 0, none⟩) q pc) id Q p bs z k) := Lib.hid (by have := H.out.1; rwa [HM.out, HQ.out] at this)
                have hG := hg
                have hC3 : cur[m * 4 + 3]? = some (.slice A2 n2 c2) := by
                  have h := d3
                  rw [cell_of_row _ _ _ _ _ _ hg] at h
                  exact h
                clear d2
                obtain ⟨b, hb⟩ : ∃ b, bs.getD k 0 = b := ⟨_, rfl⟩
                have HBY : Hid (bs.getD k 0 = b) := Lib.hid hb
                have hbr : 0 ≤ b ∧ b ≤ 255 := by rw [← hb]; exact HOK.out.getD k
                clear hb
                obtain ⟨AB, AO, hA, HCELL⟩ : ∃ AB AO, A = some ⟨AB, AO, none⟩ ∧ Hid (AB < w.heap.size ∧ w.cell? ⟨AB, AO + k, none⟩ = some (.int .u8 b)) := by
                  obtain ⟨_, _, A', cap', e, hr, _⟩ := HV.out
                  simp only [Value.slice.injEq] at e
                  obtain ⟨rfl, _, _⟩ := e
                  rw [HLN.out] at hr
                  obtain ⟨b0, off, hA0, hcc⟩ := hr.2 (by omega)
                  exact ⟨b0, off, hA0, Lib.hid ⟨hr.lt_ (by omega) hA0, by rw [hcc k (by omega), HBY.out]⟩⟩
                subst hA
                obtain ⟨ys, hys⟩ : ∃ ys, p.bs ++ [b] = ys := ⟨_, rfl⟩
                have hyl : ys.length ≤ 140737488355328 := by rw [← hys, List.length_append, HN2.out]; simp; try omega
                have HYS : Hid (p.bs ++ [b] = ys) := Lib.hid hys
                clear hys
                obtain ⟨x, hx, hx2⟩ := OwX.of HS.out.bytes.1
                have hbk : (Value.slice A2 n2 c2).ownBlock = x.map (·.1) := by have h := hx.block; rw [HPV.out] at h; exact h
                have hbm : ∀ g o, x = some (g, o) → (Value.slice A2 n2 c2).ownBlock = some g := fun g o e => by rw [hbk, e]; rfl
                have hapg : ∀ b, (Value.slice A2 n2 c2).ownBlock = some b → b ≠ g := fun b hb e => HS.out.own.ap p (by simp) b (by rw [HPV.out]; exact hb) (by rw [e]; rfl)
                have hx' : OwXB (Value.slice A2 n2 c2) x p.bs := by rw [← HPV.out]; exact hx
                have hgr := lt_of_heap hG
                have hx3 : ∀ g o, x = some (g, o) → w.heap.size ≤ g ∧ wr.heap[g]? = some o := fun g o e => ⟨(hx2 g o e).1, (hx2 g o e).2.1⟩
                clear hx hx2 hbk
                have HIS : Hid (Inv wr (fun b => b = g ∨ (Value.slice A2 n2 c2).ownBlock = some b) (gh2 (some (g, .cells cur 33 (0, 0))) x) wr.drew) := Lib.hid (Inv.start2 hG (.inl rfl) (fun g o e => ⟨(hx3 g o e).2, hapg g (hbm g o e), .inr (hbm g o e)⟩))
                go_wp2_with fail
                apply wp_region_effT _ _ HIS.out (hm := by kernel_rfl)
                case h =>
                  (apply SeqF.pure; (focus (first | rfl | (go_simp; done) | (simp [Region.wanted, yielded]; done))); (focus (intro w; go_simp; with_reducible rfl)); go_simp)
                  (apply SeqF.pure; (focus (first | rfl | (go_simp; done) | (simp [Region.wanted, yielded]; done))); (focus (intro w; go_simp; with_reducible rfl)); go_simp)
                  (apply SeqF.pure; (focus (first | rfl | (go_simp; done) | (simp [Region.wanted, yielded]; done))); (focus (intro w; go_simp; with_reducible rfl)); go_simp)
                  (apply SeqF.pure; (focus (first | rfl | (go_simp; done) | (simp [Region.wanted, yielded]; done))); (focus (intro w; go_simp; with_reducible rfl)); go_simp)
                  (apply SeqF.pure; (focus (first | rfl | (go_simp; done) | (simp [Region.wanted, yielded]; done))); (focus (intro w; go_simp; with_reducible rfl)); go_simp)
                  (apply SeqF.pure; (focus (first | rfl | (go_simp; done) | (simp [Region.wanted, yielded]; done))); (focus (intro w; go_simp; with_reducible rfl)); go_simp)
                  (apply SeqF.pure; (focus (first | rfl | (go_simp; done) | (simp [Region.wanted, yielded]; done))); (focus (intro w; go_simp; with_reducible rfl)); go_simp)
                  (apply SeqF.pure; (focus (first | rfl | (go_simp; done) | (simp [Region.wanted, yielded]; done))); (focus (intro w; go_simp; with_reducible rfl)); go_simp)
                  (apply SeqF.pure; (focus (first | rfl | (go_simp; done) | (simp [Region.wanted, yielded]; done))); (focus (intro w; go_simp; with_reducible rfl)); go_simp)
                  (apply SeqF.pure; (focus (first | rfl | (go_simp; done) | (simp [Region.wanted, yielded]; done))); (focus (intro w; go_simp; with_reducible rfl)); go_simp)
                  apply SeqF.read (v := (Value.slice A2 n2 c2)) [0]
                  · (first | rfl | (go_simp; done) | (simp [Region.wanted, yielded]; done))
                  · intro γ' W hg hI
                    have x0 : W.cell? ⟨g, m * 4 + 3, none⟩ = some (Value.slice A2 n2 c2) := (cell_of_row _ _ _ _ _ _ (hI.here 0 g _ ((hg 0 (by simp)).trans rfl)).1).trans hC3
                    go_simp
                  go_simp
                  (apply SeqF.pure; (focus (first | rfl | (go_simp; done) | (simp [Region.wanted, yielded]; done))); (focus (intro w; go_simp; with_reducible rfl)); go_simp)
                  (apply SeqF.pure; (focus (first | rfl | (go_simp; done) | (simp [Region.wanted, yielded]; done))); (focus (intro w; go_simp; with_reducible rfl)); go_simp)
                  (apply SeqF.pure; (focus (first | rfl | (go_simp; done) | (simp [Region.wanted, yielded]; done))); (focus (intro w; go_simp; with_reducible rfl)); go_simp)
                  apply SeqF.read (v := .int .u8 b) []
                  · (first | rfl | (go_simp; done) | (simp [Region.wanted, yielded]; done))
                  · intro γ' W hg hI
                    have hAB := HCELL.out.1
                    have x0 : W.cell? ⟨AB, AO + k, none⟩ = some (.int .u8 b) := (cell_same (hI.far AB (by have := HS.out.bel.size; omega) (fun e => e.elim (fun e => by omega) (fun e => by have := (HS.out.bytes.1.own_blk (by rw [HPV.out]; exact e)).1; omega)))).trans (((bcell HS.out.bel).1 AB _ hAB).trans HCELL.out.2)
                    go_simp
                  go_simp
                  apply SeqF.new [] 2 (fun g => .slice (some ⟨g, 0, none⟩) 1 1) (fun _ => .cells #[.int .u8 b] 5 (0, 0))
                  · intro γ' _; rfl
                  · (first | rfl | (go_simp; done) | (simp [Region.wanted, yielded]; done))
                  · intro γ' V hg hI; kernel_rfl
                  intro X2 hX2
                  go_simp
                  apply SeqF.appB [1, 2] 1 (by simp) (.tmp 57) (.tmp 62) rfl rfl (Value.slice A2 n2 c2) (.slice (some ⟨X2, 0, none⟩) 1 1) p.bs [b] ys (by rw [Gh.set_far _ _ (by decide)]; exact hx') rfl rfl
                  · exact fun γ' W hg hI => lit1 (hI.here 2 X2 _ ((hg 2 (by simp)).trans (Gh.set_here _ _ _))).1 hbr
                  · rw [HN2.out]; simp; try omega
                  · exact HYS.out
                  intro v' x' hu hx9
                  obtain rfl := OwX.val hu (by decide)
                  obtain ⟨A9, c9, e9⟩ := OwX.form hu
                  have HE9 := Lib.hid e9
                  clear e9
                  go_simp
                  (apply SeqF.pure; (focus (first | rfl | (go_simp; done) | (simp [Region.wanted, yielded]; done))); (focus (intro w; go_simp; with_reducible rfl)); go_simp)
                  (apply SeqF.pure; (focus (first | rfl | (go_simp; done) | (simp [Region.wanted, yielded]; done))); (focus (intro w; go_simp; with_reducible rfl)); go_simp)
                  apply SeqF.store [0, 1] 0 g (.cells cur 33 (0, 0)) rfl (by simp) (fun γ => .cells (cur.setIfInBounds (m * 4 + 3) (rowVal 1 ys.length (γ 1))) 33 (0, 0))
                  · intro γ' hg; simp only [hg 1 (by simp)]
                  · (first | rfl | (go_simp; done) | (simp [Region.wanted, yielded]; done))
                  · intro γ' W hg hI hW
                    simp only [Gh.set_here]
                    exact exec_st1 (i := m * 4 + 3) (st_sb _ ⟨A9, _, c9, HE9.out⟩) rfl rfl rfl (Array.getElem?_eq_some_iff.1 hC3).1 rfl hW
                  go_simp
                  apply SeqF.done
                  intro w9 hI9
                  have hG9 := (hI9.here 0 g _ (Gh.set_here _ _ _)).1
                  simp only [Gh.set_here] at hG9
                  have hX9 : ∀ g o, x' = some (g, o) → w9.heap[g]? = some o := fun g o e => (hI9.here 1 g o (by rw [Gh.set_far _ _ (by decide), Gh.set_here]; exact e)).1
                  have hxo : ∀ g o, x' = some (g, o) → (Value.slice A2 n2 c2).ownBlock = some g ∨ wr.heap.size ≤ g := fun g o e => by
                    rcases hx9 g o e with ⟨o', h⟩ | h
                    · exact .inl (hbm g o' (by simpa [Gh.set, gh2] using h))
                    · exact .inr h
                  have hbl2 : (rowVal 1 ys.length x').ownBlock = x'.map (·.1) := OwX.block hu
                  have hxo2 : ∀ b', (rowVal 1 ys.length x').ownBlock = some b' → (Value.slice A2 n2 c2).ownBlock = some b' ∨ wr.heap.size ≤ b' := fun b' h => by
                    rw [hbl2] at h
                    obtain ⟨⟨g, o⟩, e, rfl⟩ := Option.map_eq_some_iff.1 h
                    exact hxo g o e
                  have hpvb : ∀ b', (Value.slice A2 n2 c2).ownBlock = some b' → w.heap.size ≤ b' ∧ b' < wr.heap.size := fun b' h => HS.out.bytes.1.own_blk (by rw [HPV.out]; exact h)
                  have hsz := HS.out.bel.size
                  have HN : Hid (SP w w9 (.slice (some ⟨g, 0, none⟩) q pc) id Q ⟨p.n, p.last, rowVal 1 ys.length x', ys⟩ bs z (k + 1)) := Lib.hid {
                    own := by
                      refine HS.out.own.turn (j := 3) (x := rowVal 1 ys.length x') (by rw [HM.out]; exact (by rw [HQ.out])) hG rfl (by rw [HM.out]; exact hG9) ?_ ?_
                      · intro q9 hq9
                        rcases List.mem_append.1 hq9 with h9 | h9
                        · have hb9 := HS.out.own.bytes q9 (by simp [h9])
                          refine ⟨hb9.1.keep (fun b' h1 h2 => hI9.far b' h2 (fun e => ?_)), hb9.2⟩
                          rcases e with e | e
                          · exact HS.out.own.ap q9 (by simp [h9]) b' h1 (by rw [e]; rfl)
                          · exact HS.out.ap q9 h9 b' h1 (by rw [HPV.out]; exact e)
                        · obtain rfl := List.mem_singleton.1 h9
                          refine ⟨OwX.owns hu fun g o e => ⟨?_, hX9 g o e⟩, ?_, ?_⟩
                          · rcases hxo g o e with h | h
                            · exact (hpvb g h).1
                            · omega
                          · show okB ys
                            rw [← HYS.out]
                            intro y hy
                            rcases List.mem_append.1 hy with hy | hy
                            · exact HS.out.bytes.2.1 y hy
                            · obtain rfl := List.mem_singleton.1 hy
                              exact hbr
                          · exact hyl
                      · intro q9 hq9 b' h1 h2
                        have h2' : g = b' := by simpa [Value.ownBlock] using h2
                        rcases List.mem_append.1 hq9 with h9 | h9
                        · exact HS.out.own.ap q9 (by simp [h9]) b' h1 h2
                        · obtain rfl := List.mem_singleton.1 h9
                          rcases hxo2 b' h1 with h3 | h3
                          · exact hapg b' h3 h2'.symm
                          · omega
                    ap := by
                      intro q9 h9 b' h1 h2
                      rcases hxo2 b' h2 with h3 | h3
                      · exact HS.out.ap q9 h9 b' h1 (by rw [HPV.out]; exact h3)
                      · have := ((HS.out.own.bytes q9 (by simp [h9])).1.own_blk h1).2
                        omega
                    sg := HS.out.sg
                    pn := HS.out.pn
                    pl := HS.out.pl
                    pb := by
                      show ys = _
                      rw [← HYS.out]
                      have hlk : k < bs.length := by rw [HLN.out]; omega
                      have h1 : bs[k]? = some b := by
                        rw [List.getElem?_eq_getElem hlk]
                        have h2 := HBY.out
                        rw [List.getD_eq_getElem?_getD, List.getElem?_eq_getElem hlk] at h2
                        exact congrArg some h2
                      rw [HS.out.pb, List.take_add_one, h1, List.drop_append_of_le_length (by have := HS.out.lo; rw [List.length_take]; omega)]
                      rfl
                    lo := by have := HS.out.lo; omega
                    bel := hI9.belowS HS.out.bel hsz (fun g' hg' => hg'.elim (fun e => by omega) (fun e => (hpvb g' e).1)) }
                  have HN1 : Hid (k + 1 ≤ (Q.length + 1) * z ∧ (Q.length = 0 ∨ Q.length * z < k + 1)) := Lib.hid ⟨by rw [HM.out, Nat.add_mul, Nat.one_mul, HMZ.out]; have := HPL.out; omega, by rw [HM.out, HMZ.out]; omega⟩
                  clear hI9 hG9 hX9 hxo hbl2 hxo2 hpvb hsz hu hx9
                  go_simp
                  go_wp2_with fail
                  go_roundw
                  case rel =>
                    first
                      | exact ⟨k + 1, by omega, by go_num, _, _, Lib.hid ⟨HN.out, HN1.out⟩⟩
                      | ((repeat apply Exists.intro); refine ⟨?_, rfl⟩; exact ⟨k + 1, by omega, by go_num, _, _, Lib.hid ⟨HN.out, HN1.out⟩⟩)
                  case measure => first | (simp [intOf]; done) | (simp [intOf]; omega)
                case hl => rfl
                case ho => kernel_rfl
          · have hki : ¬ (k : Int) < (l : Int) := by omega
            obtain rfl : k = l := by omega
            as_aux_lemma =>
              have hfz : wr.frozen? ⟨g, m * 4 + 2, none⟩ = false := frozen_of_row wr g (m * 4 + 2) _ _ hg
              have HS : Hid (SP w wr (.slice (some ⟨g, 0, none⟩) q pc) id Q p bs z k) := Lib.hid (by have := H.out.1; rwa [HM.out, HQ.out] at this)
              obtain ⟨p2, hp2⟩ : ∃ p2 : HP, p2 = { p with last := true } := ⟨_, rfl⟩
              have HD := Lib.hid (H.out.1.done (p' := p2) HLN.out.symm hz0 H.out.2.1 H.out.2.2 hp2)
              have HP2 := Lib.hid hp2
              clear hp2
              have HO : Hid (OwP (wr.setCell ⟨g, m * 4 + 2, none⟩ (.bool true)) w.heap.size (.slice (some ⟨g, 0, none⟩) q pc) id (Q ++ [p2])) := Lib.hid (by
                have ho := only_setCell (i := m * 4 + 2) (v := .bool true) hg
                refine HS.out.own.turn (j := 2) (x := .bool true) (by rw [HM.out, HQ.out]) hg (by rw [HP2.out]; rfl) (by rw [HM.out]; exact ho.inv hg |>.here 0 g _ rfl |>.1) ?_ ?_
                · intro q9 h9
                  have hb9 : OwB wr w.heap.size q9.v q9.bs ∧ okB q9.bs ∧ q9.bs.length ≤ 140737488355328 ∧ ∀ b, q9.v.ownBlock = some b → b ≠ g := by
                    rcases List.mem_append.1 h9 with h9 | h9
                    · exact ⟨(HS.out.own.bytes q9 (by simp [h9])).1, (HS.out.own.bytes q9 (by simp [h9])).2.1, (HS.out.own.bytes q9 (by simp [h9])).2.2, fun b hb e => HS.out.own.ap q9 (by simp [h9]) b hb (by rw [e]; rfl)⟩
                    · obtain rfl := List.mem_singleton.1 h9
                      rw [HP2.out]
                      exact ⟨HS.out.bytes.1, HS.out.bytes.2.1, HS.out.bytes.2.2, fun b hb e => HS.out.own.ap p (by simp) b hb (by rw [e]; rfl)⟩
                  exact ⟨hb9.1.keep (fun b hb hlt => heap_setCell_other _ ⟨_, _, _⟩ _ _ (by simpa using hb9.2.2.2 b hb)), hb9.2.1, hb9.2.2.1⟩
                · intro q9 h9 b hb
                  rcases List.mem_append.1 h9 with h9 | h9
                  · exact HS.out.own.ap q9 (by simp [h9]) b hb
                  · obtain rfl := List.mem_singleton.1 h9
                    rw [HP2.out] at hb
                    exact HS.out.own.ap p (by simp) b hb)
              have HBE : Hid (Below w.heap.size w (wr.setCell ⟨g, m * 4 + 2, none⟩ (.bool true))) := Lib.hid (by
                have hb := HS.out.bel
                refine Below.setCell hb ?_ _
                exact hgb)
              go_wp2_with fail
              exact bodyPost_ret (v := .tuple #[.slice (some ⟨g, 0, none⟩) q pc, .int .i64 0]) (by simp [results, Try.results19, go_sem]) rfl ⟨⟨_, _, rfl, .inr ⟨z, rfl, hz0, hz1, .inr ⟨by rw [HD.out.1, HM.out]; exact HM256.out, rfl, Q ++ [p2], by (try rw [← hX]); exact HO.out, HD.out.2⟩⟩⟩, by (try rw [← hX]); exact HBE.out⟩
end Go.Proofs.Ytnhhibdkojgnlaa
