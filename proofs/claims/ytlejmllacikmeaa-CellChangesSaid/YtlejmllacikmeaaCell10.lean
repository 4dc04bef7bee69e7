/- What is proved: what Change of package cell answers when it is called; conditions: the styles' flags are eight. -/
import Derived.Test.YtlejmllacikmeaaCell9
set_option linter.unusedSimpArgs false
set_option linter.unusedVariables false
namespace Go.Proofs.Ytlejmllacikmeaa
open Go.RowKit
set_option maxRecDepth 100000
set_option maxHeartbeats 4000000
section
variable {P : Program} {ops : Array Oper} {w0 : World} {S : Nat → Prop} {K : Act → Gh → Prop} {i : Nat} {o : Oper} {r : List Oper} {ss : List Ef} {a : Act} {γ : Gh}
/-- An append of what one resource holds (a slice that the call has made, nil or not) onto another's. -/
theorem SeqF.appO (use : List Nat) (t q : Nat) (ht : t ∈ use) (hq : q ∈ use) (s x : Operand) (ty e : TypeId) (it : TypeInfo) (z : Value) (size bytes : Nat) (hgd : o.guard = none) (ho : o.op = .call { callee := .builtin .append, args := #[s, x], argTypes := #[ty, ty] })
    (hty : P.underlying ty = some (.slice e)) (hi : P.info? e = some it) (hz : it.zero = some z) (hsize : it.size = size) (hby : it.bytes = bytes) (hzs : z.cells.size = size) (hsz : 0 < size)
    (v : Value) (n : Nat) (xs : List Value) (hs : a.eval s = v) (hrow : OwX e size v (γ t) n xs) (u : Value) (m : Nat) (ys : List Value) (hx : a.eval x = u) (hu : OwX e size u (γ q) m ys)
    (h1 : ∀ y ∈ ys, y.oneCell' = true) (h63 : n + m ≤ maxLen) (hbytes : (n + m) * bytes ≤ 140737488355328)
    (k : ∀ v' x', OwX e size v' x' (n + m) (xs ++ ys) → (∀ g ob, x' = some (g, ob) → (∃ o', γ t = some (g, o')) ∨ w0.heap.size ≤ g) → SeqF P ops (Inv w0 S) K (i + 1) r ss (a.put o.dst v') (γ.set (some t) x')) :
    SeqF P ops (Inv w0 S) K i (o :: r) (.eff use (some t) (fun γ v' x' => OwX e size v' x' (n + m) (xs ++ ys) ∧ ∀ g ob, x' = some (g, ob) → (∃ o', γ t = some (g, o')) ∨ w0.heap.size ≤ g) :: ss) a γ := by
  obtain ⟨hl, ⟨rfl, rfl, hγ⟩ | ⟨g, cap, cur, rfl, hγ, h4, h5, h6, h7⟩⟩ := hu
  · obtain rfl : ys = [] := List.eq_nil_of_length_eq_zero (by omega)
    refine SeqF.eff use (some t) _ (fun γ' hg => by simp only [hg t ht]) (by simp [Region.wanted, hgd]) (fun γ' w hg hI => ?_) (fun v' x' hx' => k v' x' hx'.1 hx'.2)
    have hown : w.ownsRow 0 e size v n xs := hrow.owns fun g ob hgo => ⟨Nat.zero_le _, (hI.here t g ob ((hg t ht).trans hgo)).1⟩
    have hrun := run_append_owned_none (P := P) (w := w) 0 ty o.type e it size hty hi v n xs hown
    refine ⟨v, γ t, w, .inl ?_, ⟨by rw [List.append_nil]; exact hrow, fun g ob hgo => .inl ⟨ob, hgo⟩⟩, ?_⟩
    · unfold execOp
      simp only [ho, resolve, invoke, builtin, Sem.run_bind, Sem.run_pure, Result.andThen_ok, List.map_toArray, List.map_cons, List.map_nil, hs, hx, hrun]
    · have e1 : γ'.set (some t) (γ t) = γ' := by
        funext j
        unfold Gh.set
        split
        · rename_i h
          obtain rfl := Option.some.inj h
          exact (hg j ht).symm
        · rfl
      rw [e1]
      exact hI
  · refine SeqF.append use t ht s x ty e it z size bytes hgd ho hty hi hz hsize hby hzs hsz v n xs hs hrow ⟨g, 0, none⟩ m cap ys hx hl ?_ h1 h63 hbytes (fun _ => xs ++ ys) (fun _ _ => rfl) rfl k
    intro γ' W hg hI
    exact news_take (hI.here q g _ ((hg q hq).trans hγ)).1 h7
end
def flagsL (b : Nat) : Nat → List Int
  | 0 => []
  | k + 1 => if tb b k then flagsL b k ++ [onT k] else flagsL b k
theorem flagsL_len (b : Nat) : ∀ k, (flagsL b k).length ≤ k
  | 0 => by simp [flagsL]
  | k + 1 => by
    have := flagsL_len b k
    unfold flagsL
    split
    · simp; omega
    · omega
theorem saysS_len (c k : Int) : (saysS c k).length ≤ 3 := by
  unfold saysS
  split
  · simp
  · split
    · simp
    · split <;> simp
def chgL (t : Sty) : List Int := ((0 :: flagsL t.b 8) ++ saysS t.fg 30) ++ saysS t.bg 40
def chgS (s t : Sty) : List Int := if eqS s t then [] else if maySt s then (if maySt t then chgL t else []) else []
theorem wpList_ldSh {ops : Array Oper} {rest : List Oper} {o : Oper} {a : Act} {Q : Exit → Act → World → Prop} {w : World} {g : Nat} {s : Sty} {t : TypeId} (hw : Region.wanted o (yielded ops a.tmps) = true) (x : Operand) (ho : o.op = .load 23 x)
    (hx : a.eval x = .pointer (some ⟨g, 0, none⟩)) (hg : w.heap[g]? = some (.cells s.row t (0, 0))) (h : wpList Try.prog ops Q rest (a.put o.dst s.val) w) : wpList Try.prog ops Q (o :: rest) a w := by
  unfold wpList
  rw [if_pos hw]
  refine .inl ?_
  have hr := exec_load (P := Try.prog) (o := o) (a := a) ho hx (run_load_sty hg)
  unfold Oper.wp
  rw [hr]
  exact h
theorem OwI.block {w : World} {base : Nat} {v : Value} {xs : List Int} (h : OwI w base v xs) {g : Nat} (hg : v.ownBlock = some g) : base ≤ g := by
  obtain ⟨_, h⟩ := h
  rcases h with ⟨rfl, _⟩ | ⟨g', cap, cur, rfl, hb, _⟩
  · cases hg
  · simp only [Value.ownBlock, Option.some.injEq] at hg
    omega
theorem change_any (s t : Sty) (hs : s.b < 256) (ht : t.b < 256) (w : World) : Calls Try.prog 9 #[s.val, t.val] w fun e w' => (∃ v, e = .returned v ∧ OwI w' w.heap.size v (chgS s t)) ∧ Below w.heap.size w w' := by
  obtain ⟨l, hl⟩ : ∃ l, chgS s t = l := ⟨_, rfl⟩
  obtain ⟨q, hq⟩ : ∃ q, eqS s t = q := ⟨_, rfl⟩
  obtain ⟨m1, hm1⟩ : ∃ m, maySt s = m := ⟨_, rfl⟩
  obtain ⟨m2, hm2⟩ : ∃ m, maySt t = m := ⟨_, rfl⟩
  have HL : Hid ((if q then [] else if m1 then (if m2 then chgL t else []) else []) = l) := Lib.hid (by rw [← hl, ← hq, ← hm1, ← hm2]; rfl)
  have heq : ∀ w, (binOp .eql 23 s.val t.val).run Try.prog w = .ok (.bool q) w := fun w => by rw [← hq]; exact eqSty w s t hs ht
  have hgd : ∀ w x y, (eqGuard .eql 23 x y s.val t.val).run Try.prog w = .ok () w := fun w x y => grdSty w .eql x y s t
  have HM1 := Lib.hid hm1
  have HM2 := Lib.hid hm2
  rw [hl]
  clear hl hq hm1 hm2
  obtain ⟨B, hB⟩ : ∃ B, w.heap.size = B := ⟨_, rfl⟩
  obtain ⟨V, hV⟩ : ∃ V, (w.alloc (.cells s.row 23)).alloc (.cells t.row 23) = V := ⟨_, rfl⟩
  have HA0 : Hid (V.heap[B]? = some (.cells s.row 23 (0, 0))) := Lib.hid (by rw [← hV, ← hB]; (simp only [heap_setRow_if, heap_alloc_if, heap_setCell_if, World.size_alloc, size_setRow, World.size_setCell]; simp) <;> (intros; omega))
  have HB0 : Hid (V.heap[B + 1]? = some (.cells t.row 23 (0, 0))) := Lib.hid (by rw [← hV, ← hB]; (simp only [heap_setRow_if, heap_alloc_if, heap_setCell_if, World.size_alloc, size_setRow, World.size_setCell]; simp) <;> (intros; omega))
  have HL0 : Hid (Below B w V) := Lib.hid (by rw [← hV, ← hB]; (repeat' (first | (with_reducible exact Below.refl _ _) | (with_reducible assumption) | (with_reducible refine Below.alloc ?_ ?_ _) | (with_reducible refine below_setRow ?_ ?_ _) | (with_reducible refine bl_drew ?_) | (with_reducible refine bl_drewN ?_ _) | (with_reducible refine Below.setCell ?_ ?_ _) | (with_reducible refine bl_then ?_ ?_ hb) | (with_reducible refine bl_then ?_ ?_ hb1) | (with_reducible refine bl_then ?_ ?_ hb2) | (with_reducible refine bl_then ?_ ?_ hb3) | (with_reducible refine bl_then ?_ ?_ hb4) | (with_reducible refine bl_then ?_ ?_ hb5) | (with_reducible refine bl_then ?_ ?_ hb6) | (with_reducible refine bl_then ?_ ?_ hb7) | (with_reducible refine bl_then ?_ ?_ hb8) | (with_reducible exact Nat.le_refl _) | omega | (simp only [World.size_alloc, World.size_setCell, World.size_drew, size_setRow]; omega) | (simp; omega) | (simp; done))))
  have e1 : s.val = .agg s.row := rfl
  have e2 : t.val = .agg t.row := rfl
  go_enter Try.func9, Try.ntmps9
  rw [e1, e2]
  clear e1 e2
  cases q
  · go_wp2_with (first | (with_reducible refine wpList_ldS rfl (.tmp 2) rfl rfl HA0.out ?_) | (with_reducible refine wpList_ldS rfl (.tmp 3) rfl rfl HB0.out ?_) | (with_reducible refine wpList_ldSh (by first | rfl | (simp [Region.wanted, yielded]; done)) (.tmp 2) rfl rfl HA0.out ?_) | (with_reducible refine wpList_ldSh (by first | rfl | (simp [Region.wanted, yielded]; done)) (.tmp 3) rfl rfl HB0.out ?_))
    refine (maystyle_any s _).mono ?_
    rintro e w1 ⟨rfl, hb⟩
    rw [HM1.out]
    have HA1 := Lib.hid ((hb.block B (lt_of_heap HA0.out)).trans HA0.out)
    have HB1 := Lib.hid ((hb.block (B + 1) (lt_of_heap HB0.out)).trans HB0.out)
    have HL1 := Lib.hid (bl_then HL0.out (by have := lt_of_heap HA0.out; omega) hb)
    clear hb HA0 HB0 HL0 hV
    cases m1
    · go_wp2_with fail
      go_ret
      exact ⟨⟨_, rfl, by rw [← HL.out]; exact OwI.nil _ _⟩, by rw [hB]; exact HL1.out⟩
    · go_wp2_with (first | (with_reducible refine wpList_ldS rfl (.tmp 2) rfl rfl HA1.out ?_) | (with_reducible refine wpList_ldS rfl (.tmp 3) rfl rfl HB1.out ?_) | (with_reducible refine wpList_ldSh (by first | rfl | (simp [Region.wanted, yielded]; done)) (.tmp 2) rfl rfl HA1.out ?_) | (with_reducible refine wpList_ldSh (by first | rfl | (simp [Region.wanted, yielded]; done)) (.tmp 3) rfl rfl HB1.out ?_))
      refine (maystyle_any t _).mono ?_
      rintro e w2 ⟨rfl, hb⟩
      rw [HM2.out]
      have HB2 := Lib.hid ((hb.block (B + 1) (lt_of_heap HB1.out)).trans HB1.out)
      have HL2 := Lib.hid (bl_then HL1.out (by have := lt_of_heap HA1.out; omega) hb)
      clear hb HA1 HB1 HL1
      cases m2
      · go_wp2_with fail
        go_ret
        exact ⟨⟨_, rfl, by rw [← HL.out]; exact OwI.nil _ _⟩, by rw [hB]; exact HL2.out⟩
      · have hc : (-1 ≤ t.fg ∧ t.fg ≤ 255) ∧ (-1 ≤ t.bg ∧ t.bg ≤ 255) := by
          have h := HM2.out
          simp only [maySt, colB, Bool.and_eq_true, decide_eq_true_eq] at h
          exact h
        have hl2 := lt_of_heap HB2.out
        go_wp2_with fail
        refine (ons_any _).mono ?_
        rintro e w3 ⟨rfl, hb⟩
        have HO3 : Hid (OwI w3 (B + 1 + 1) (.slice (some ⟨w2.heap.size, 0, none⟩) 1 1) (0 :: flagsL t.b 0)) := Lib.hid ((OwI.new w2 (B + 1 + 1) (by omega) [0] 1 rfl (by simp [maxLen])).below hb)
        have HB3 : Hid (w3.heap[B + 1]? = some (.cells t.row 23 (0, 0))) := Lib.hid ((hb.block (B + 1) (by simp; omega)).trans (by rw [heap_alloc_if, if_neg (by omega)]; exact HB2.out))
        have HL3 : Hid (Below B w w3) := Lib.hid (bl_then (HL2.out.alloc (by omega) _) (by simp; omega) hb)
        clear hb HB2 HL2 hl2
        go_wp2_with fail
        go_loopw [5, 23] (fun v i wr => ∃ k : Nat, k ≤ 8 ∧ i = .int .i64 k ∧ Hid (OwI wr (B + 1 + 1) v (0 :: flagsL t.b k)) ∧ Hid (wr.heap[B + 1]? = some (.cells t.row 23 (0, 0))) ∧ Hid (Below B w wr)) (fun _ i _ => 8 - (intOf i).toNat)
        case atStart => exact ⟨0, by omega, rfl, HO3, HB3, HL3⟩
        case round =>
          clear HO3 HB3 HL3
          obtain ⟨k, hk, rfl, HO, HB, HLW⟩ := hrel
          by_cases hk8 : k < 8
          · have hki : (k : Int) < 8 := by omega
            have hk0 : (0 : Int) ≤ (k : Int) := by omega
            have hix := fun w => run_index_on (w := w) hk8
            have hd : ((t.b : Int) / 2 ^ k) = ((t.b / 2 ^ k : Nat) : Int) := by simp
            have HF : Hid (flagsL t.b (k + 1) = if tb t.b k then flagsL t.b k ++ [onT k] else flagsL t.b k) := Lib.hid rfl
            have HFL := Lib.hid (flagsL_len t.b k)
            obtain ⟨m, hm⟩ : ∃ m, t.b / 2 ^ k = m := ⟨_, rfl⟩
            have hml : m < 256 := by rw [← hm]; exact Nat.lt_of_le_of_lt (Nat.div_le_self _ _) ht
            have HT : Hid (tb t.b k = (m % 2 == 1)) := Lib.hid (by unfold tb; rw [hm])
            rw [hm] at hd
            have hand := and_one m hml
            have hBI := fun w => bits_any t ht w
            obtain ⟨oc, hoc⟩ : ∃ oc, onT k = oc := ⟨_, rfl⟩
            rw [hoc] at hix HF
            clear hm hoc
            go_wp2_with (first | (with_reducible refine wpList_ldS rfl (.tmp 2) rfl rfl HB.out ?_) | (with_reducible refine wpList_ldS rfl (.tmp 3) rfl rfl HB.out ?_) | (with_reducible refine wpList_ldSh (by first | rfl | (simp [Region.wanted, yielded]; done)) (.tmp 2) rfl rfl HB.out ?_) | (with_reducible refine wpList_ldSh (by first | rfl | (simp [Region.wanted, yielded]; done)) (.tmp 3) rfl rfl HB.out ?_))
            refine (hBI _).mono ?_
            rintro e w4 ⟨rfl, hb⟩
            have HO4 := Lib.hid (HO.out.below hb)
            have HB4 := Lib.hid ((hb.block (B + 1) (lt_of_heap HB.out)).trans HB.out)
            have HL4 := Lib.hid (bl_then HLW.out (by have := lt_of_heap HB.out; omega) hb)
            have hl4 := lt_of_heap HB4.out
            clear hb HO HB HLW hBI
            by_cases hbit : m % 2 = 1
            · have hb1 : (((m % 2 : Nat) : Int) == 1) = true := by rw [hbit]; rfl
              have HF1 : Hid (flagsL t.b (k + 1) = flagsL t.b k ++ [oc]) := Lib.hid (by rw [HF.out, HT.out, hbit]; rfl)
              have HRN : Hid (RdI (w4.alloc (.cells #[.int .i64 oc] 3)) .i64 (some ⟨w4.heap.size, 0, none⟩) 1 [oc]) := Lib.hid (RdI.new w4 .i64 3 [oc] 1 rfl)
              have HO5 : Hid (OwI (w4.alloc (.cells #[.int .i64 oc] 3)) (B + 1 + 1) u5 (0 :: flagsL t.b k)) := Lib.hid (HO4.out.below (by (repeat' (first | (with_reducible exact Below.refl _ _) | (with_reducible assumption) | (with_reducible refine Below.alloc ?_ ?_ _) | (with_reducible refine below_setRow ?_ ?_ _) | (with_reducible refine bl_drew ?_) | (with_reducible refine bl_drewN ?_ _) | (with_reducible refine Below.setCell ?_ ?_ _) | (with_reducible refine bl_then ?_ ?_ hb) | (with_reducible refine bl_then ?_ ?_ hb1) | (with_reducible refine bl_then ?_ ?_ hb2) | (with_reducible refine bl_then ?_ ?_ hb3) | (with_reducible refine bl_then ?_ ?_ hb4) | (with_reducible refine bl_then ?_ ?_ hb5) | (with_reducible refine bl_then ?_ ?_ hb6) | (with_reducible refine bl_then ?_ ?_ hb7) | (with_reducible refine bl_then ?_ ?_ hb8) | (with_reducible exact Nat.le_refl _) | omega | (simp only [World.size_alloc, World.size_setCell, World.size_drew, size_setRow]; omega) | (simp; omega) | (simp; done)))))
              go_wp2_with (with_reducible refine wpList_appI rfl (.tmp 34) (.tmp 36) rfl _ _ _ [oc] rfl HO5.out rfl _ _ _ rfl HRN.out (by simp) (by have := HFL.out; simp; omega) (by simp; omega) ?_)
              intro v' w6 hO6 hgr hob
              have HO6 : Hid (OwI w6 (B + 1 + 1) v' (0 :: flagsL t.b (k + 1))) := Lib.hid (by rw [HF1.out]; exact hO6)
              have HB6 : Hid (w6.heap[B + 1]? = some (.cells t.row 23 (0, 0))) := Lib.hid ((hgr.block (B + 1) (by simp; omega) (fun e => by have := HO5.out.block e.symm; omega)).trans (by rw [heap_alloc_if, if_neg (by omega)]; exact HB4.out))
              have HL6 : Hid (Below B w w6) := Lib.hid (Below.grown (HL4.out.alloc (by omega) _) hgr (by simp; omega) (fun q e => by have := HO5.out.block e; omega))
              clear hO6 hgr hob HO5 HRN HO4 HB4 HL4
              go_wp2_with fail
              first
                | exact ⟨⟨k + 1, by omega, by go_num, HO6, HB6, HL6⟩, by simp [intOf]; omega⟩
                | (go_roundw; (case rel => (first | exact ⟨k + 1, by omega, by go_num, HO6, HB6, HL6⟩ | ((repeat apply Exists.intro); refine ⟨?_, rfl⟩; exact ⟨k + 1, by omega, by go_num, HO6, HB6, HL6⟩))); (case measure => (simp [intOf]; omega)))
            · have hb0 : (((m % 2 : Nat) : Int) == 1) = false := by
                have : m % 2 = 0 := by omega
                rw [this]; rfl
              have HF1 : Hid (OwI w4 (B + 1 + 1) u5 (0 :: flagsL t.b (k + 1))) := Lib.hid (by
                rw [HF.out, HT.out, show m % 2 = 0 by omega]
                exact HO4.out)
              go_wp2_with fail
              first
                | exact ⟨⟨k + 1, by omega, by go_num, HF1, HB4, HL4⟩, by simp [intOf]; omega⟩
                | (go_roundw; (case rel => (first | exact ⟨k + 1, by omega, by go_num, HF1, HB4, HL4⟩ | ((repeat apply Exists.intro); refine ⟨?_, rfl⟩; exact ⟨k + 1, by omega, by go_num, HF1, HB4, HL4⟩))); (case measure => (simp [intOf]; omega)))
          · obtain rfl : k = 8 := by omega
            obtain ⟨xs, hxs⟩ : ∃ xs, 0 :: flagsL t.b 8 = xs := ⟨_, rfl⟩
            have hxl : xs.length ≤ 9 := by rw [← hxs]; have := flagsL_len t.b 8; simp; omega
            have HCL : Hid (chgL t = (xs ++ saysS t.fg 30) ++ saysS t.bg 40) := Lib.hid (by unfold chgL; rw [hxs])
            rw [hxs] at HO
            clear hxs
            obtain ⟨ys, hys⟩ : ∃ ys, saysS t.fg 30 = ys := ⟨_, rfl⟩
            obtain ⟨zs, hzs⟩ : ∃ zs, saysS t.bg 40 = zs := ⟨_, rfl⟩
            have hyl : ys.length ≤ 3 := by rw [← hys]; exact saysS_len _ _
            have hzl : zs.length ≤ 3 := by rw [← hzs]; exact saysS_len _ _
            have HS1 : Hid (∀ W, Calls Try.prog 24 #[.int .i64 t.fg, .int .i64 30] W fun e w' => (∃ v, e = .returned v ∧ w'.ownsRow W.heap.size 3 1 v ys.length (ys.map (Value.int .i64))) ∧ Below W.heap.size W w') := Lib.hid (fun W => by rw [← hys]; exact says_any t.fg 30 W hc.1 (.inl rfl))
            have HS2 : Hid (∀ W, Calls Try.prog 24 #[.int .i64 t.bg, .int .i64 40] W fun e w' => (∃ v, e = .returned v ∧ w'.ownsRow W.heap.size 3 1 v zs.length (zs.map (Value.int .i64))) ∧ Below W.heap.size W w') := Lib.hid (fun W => by rw [← hzs]; exact says_any t.bg 40 W hc.2 (.inr rfl))
            rw [hys, hzs] at HCL
            clear hys hzs
            obtain ⟨x0, hX, hx⟩ := OwX.of HO.out
            obtain rfl := hX.val (by decide)
            have HI0 : Hid (Inv wr (fun q => ∃ o, x0 = some (q, o)) (gh2 x0 none) wr.drew) := Lib.hid (Inv.start wr _ _ (by
              intro j g o hj
              unfold gh2 at hj
              split at hj
              · exact ⟨(hx g o hj).2.1, o, hj⟩
              · split at hj <;> cases hj) (by
              intro j j' g g' o o' hj hj' hne
              unfold gh2 at hj hj'
              split at hj
              · split at hj'
                · omega
                · split at hj' <;> cases hj'
              · split at hj <;> cases hj))
            have HFB : Hid (∀ W γ', Inv wr (fun q => ∃ o, x0 = some (q, o)) γ' W → W.heap[B + 1]? = some (.cells t.row 23 (0, 0))) := Lib.hid (fun W γ' hI => (hI.far (B + 1) (lt_of_heap HB.out) (fun ⟨o, h⟩ => by have := (hx _ _ h).1; omega)).trans HB.out)
            have HXB : Hid (∀ g o, x0 = some (g, o) → B + 1 + 1 ≤ g) := Lib.hid (fun g o h => (hx g o h).1)
            have HX := Lib.hid hX
            clear hx hX
            obtain ⟨it, hit, hz, hs1, hs8⟩ : ∃ i, Try.prog.info? 3 = some i ∧ i.zero = some (.int .i64 0) ∧ i.size = 1 ∧ i.bytes = 8 := by
              obtain ⟨i, h, h2⟩ := Option.map_eq_some_iff.1 (show (Try.prog.info? 3).map (fun i => (i.zero, i.size, i.bytes)) = some (some (.int .i64 0), 1, 8) by kernel_rfl)
              simp only [Prod.mk.injEq] at h2
              exact ⟨i, h, h2⟩
            have hwsz : B + 1 + 1 ≤ wr.heap.size := lt_of_heap HB.out
            have one : ∀ l : List Int, ∀ y ∈ l.map (Value.int .i64), y.oneCell' = true := by
              intro l y hy
              obtain ⟨y, _, rfl⟩ := List.mem_map.1 hy
              rfl
            have ONE := Lib.hid one
            clear one
            obtain ⟨vr, hvr⟩ : ∃ vr, rowVal 1 xs.length x0 = vr := ⟨_, rfl⟩
            rw [hvr]
            have HVR := Lib.hid hvr
            clear hvr
            go_wp2_with fail
            apply wp_region_eff _ _ HI0.out (hm := by kernel_rfl)
            case h =>
              (apply SeqF.pure; (focus (first | rfl | (go_simp; done) | (simp [Region.wanted, yielded]; done))); (focus (intro w; go_simp; with_reducible rfl)); go_simp)
              (apply SeqF.pure; (focus (first | rfl | (go_simp; done) | (simp [Region.wanted, yielded]; done))); (focus (intro w; go_simp; with_reducible rfl)); go_simp)
              apply SeqF.read (v := .int .i64 t.fg) []
              · (first | rfl | (go_simp; done) | (simp [Region.wanted, yielded]; done))
              · intro γ' W hg hI
                have x0 : W.cell? ⟨B + 1, 0, none⟩ = some (.int .i64 t.fg) := (cell_of_row W (B + 1) 0 _ _ (0, 0) (HFB.out W γ' hI)).trans rfl
                go_simp
              go_simp
              apply SeqF.callNew [] 1 3 1 ys.length (ys.map (Value.int .i64)) 24 #[.int .i64 t.fg, .int .i64 30]
              · (first | rfl | (go_simp; done) | (simp [Region.wanted, yielded]; done))
              · intro w; kernel_rfl
              · exact fun γ' W _ hI => HS1.out W
              intro u1 x1 hu1 hx1
              go_simp
              have q0 : ((gh2 x0 none).set (some 1) x1) 0 = x0 := (Gh.set_far _ _ (by decide)).trans rfl
              have q1 : ((gh2 x0 none).set (some 1) x1) 1 = x1 := Gh.set_here _ _ _
              generalize ((gh2 x0 none).set (some 1) x1) = γ1 at q0 q1 ⊢
              apply SeqF.appO [0, 1] 0 1 (by simp) (by simp) (.tmp 39) (.tmp 42) 24 3 it (.int .i64 0) 1 8 rfl rfl Try.underlying24 hit hz hs1 hs8 rfl (by decide) vr xs.length (xs.map (Value.int .i64)) rfl (by rw [q0, ← HVR.out]; exact HX.out) u1 ys.length (ys.map (Value.int .i64)) rfl (by rw [q1]; exact hu1) (ONE.out ys) (by unfold maxLen; omega) (by omega)
              intro v2 x2 hv2 hx2
              obtain rfl := hv2.val (by decide)
              go_simp
              (apply SeqF.pure; (focus (first | rfl | (go_simp; done) | (simp [Region.wanted, yielded]; done))); (focus (intro w; go_simp; with_reducible rfl)); go_simp)
              apply SeqF.read (v := .int .i64 t.bg) []
              · (first | rfl | (go_simp; done) | (simp [Region.wanted, yielded]; done))
              · intro γ' W hg hI
                have x0 : W.cell? ⟨B + 1, 1, none⟩ = some (.int .i64 t.bg) := (cell_of_row W (B + 1) 1 _ _ (0, 0) (HFB.out W γ' hI)).trans rfl
                go_simp
              go_simp
              apply SeqF.callNew [] 2 3 1 zs.length (zs.map (Value.int .i64)) 24 #[.int .i64 t.bg, .int .i64 40]
              · (first | rfl | (go_simp; done) | (simp [Region.wanted, yielded]; done))
              · intro w; kernel_rfl
              · exact fun γ' W _ hI => HS2.out W
              intro u3 x3 hu3 hx3
              go_simp
              have r0 : ((γ1.set (some 0) x2).set (some 2) x3) 0 = x2 := (Gh.set_far _ _ (by decide)).trans (Gh.set_here _ _ _)
              have r2 : ((γ1.set (some 0) x2).set (some 2) x3) 2 = x3 := Gh.set_here _ _ _
              generalize ((γ1.set (some 0) x2).set (some 2) x3) = γ2 at r0 r2 ⊢
              apply SeqF.appO [0, 2] 0 2 (by simp) (by simp) (.tmp 43) (.tmp 46) 24 3 it (.int .i64 0) 1 8 rfl rfl Try.underlying24 hit hz hs1 hs8 rfl (by decide) (rowVal 1 (xs.length + ys.length) x2) (xs.length + ys.length) (xs.map (Value.int .i64) ++ ys.map (Value.int .i64)) rfl (by rw [r0]; exact hv2) u3 zs.length (zs.map (Value.int .i64)) rfl (by rw [r2]; exact hu3) (ONE.out zs) (by unfold maxLen; omega) (by omega)
              intro v4 x4 hv4 hx4
              obtain rfl := hv4.val (by decide)
              go_simp
              apply SeqF.dyn [0] (fun γ => rowVal 1 (xs.length + ys.length + zs.length) (γ 0))
              · intro γ' hg; simp only [hg 0 (by simp)]
              · (first | rfl | (go_simp; done) | (simp [Region.wanted, yielded]; done))
              · intro γ' V hg hI
                simp only [Gh.set_here]
                go_simp
              simp only [Gh.set_here]
              apply SeqF.done
              intro w9 hI9
              have HO9 : Hid (OwI w9 B (rowVal 1 (xs.length + ys.length + zs.length) x4) l) := Lib.hid (by
                have e : l = (xs ++ ys) ++ zs := HL.out.symm.trans HCL.out
                unfold OwI
                rw [e, List.length_append, List.length_append, List.map_append, List.map_append]
                refine hv4.owns fun g ob hgo => ⟨?_, (hI9.here 0 g ob (by rw [Gh.set_here]; exact hgo)).1⟩
                rcases hx4 g ob hgo with ⟨o', h⟩ | h
                · rw [r0] at h
                  rcases hx2 g o' h with ⟨o2, h2⟩ | h2
                  · rw [q0] at h2
                    have := HXB.out g o2 h2
                    omega
                  · omega
                · omega)
              have HL9 : Hid (Below B w w9) := Lib.hid (hI9.belowS HLW.out (by omega) (by rintro g ⟨o, h⟩; have := HXB.out g o h; omega))
              clear hI9 hx4 hv4 hx2 hv2 hu1 hu3
              generalize rowVal 1 (xs.length + ys.length + zs.length) x4 = vz at *
              go_simp
              go_wp2_with fail
              refine bodyPost_ret (v := vz) (by simp [results, Try.results9, go_sem]) rfl ⟨⟨_, rfl, ?_⟩, ?_⟩
              · (try rw [hB]); exact HO9.out
              · (try rw [hB]); exact HL9.out
            case hl => rfl
            case ho => kernel_rfl
  · go_wp2_with (first | (with_reducible refine wpList_ldS rfl (.tmp 2) rfl rfl HA0.out ?_) | (with_reducible refine wpList_ldS rfl (.tmp 3) rfl rfl HB0.out ?_))
    go_ret
    exact ⟨⟨_, rfl, by rw [← HL.out]; exact OwI.nil _ _⟩, by (try rw [hB]); exact HL0.out⟩
end Go.Proofs.Ytlejmllacikmeaa
