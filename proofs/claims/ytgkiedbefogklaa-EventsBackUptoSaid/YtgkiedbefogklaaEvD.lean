/- What is proved: what Diff, Apply and Since of events, of both packages, answer; conditions: those typed. -/
import Derived.Test.YtgkiedbefogklaaEvC
set_option linter.unusedSimpArgs false
set_option linter.unusedVariables false
namespace Go.Proofs.Ytgkiedbefogklaa
open Go.RowKit
set_option maxRecDepth 100000
set_option maxHeartbeats 8000000
/-- Events are put behind events. -/
theorem run_appEs {w : World} {base : Nat} {v u : Value} {P Q : List HE} (ty : TypeId) (hown : OwE w base v P) (hu : OwE w base u Q) (hq : ∀ p ∈ P, ∀ q ∈ Q, Apart p q) (hl : P.length + Q.length ≤ 2513169434916) (hbase : base ≤ w.heap.size) :
    ∃ v' w', (Builtin.append_ #[22, 22] ty #[v, u]).run Try.prog w = .ok v' w' ∧ OwE w' base v' (P ++ Q) ∧ w.grownBy w' v.ownBlock ∧ (v'.ownBlock = v.ownBlock ∨ v'.ownBlock = some w.heap.size) := by
  obtain ⟨i, hi, hz, h1, h8⟩ : ∃ i, Try.prog.info? 48 = some i ∧ i.zero = some (.agg #[.int .u8 0, .slice none 0 0, .int .i64 0, .int .i64 0, .int .u8 0]) ∧ i.size = 5 ∧ i.bytes = 56 := by
    obtain ⟨i, h, h2⟩ := Option.map_eq_some_iff.1 (show (Try.prog.info? 48).map (fun i => (i.zero, i.size, i.bytes)) = some (some (.agg #[.int .u8 0, .slice none 0 0, .int .i64 0, .int .i64 0, .int .u8 0]), 5, 56) by kernel_rfl)
    simp only [Prod.mk.injEq] at h2
    exact ⟨i, h, h2⟩
  have hrow := hu.row
  obtain ⟨hfl, ⟨g1, g2⟩ | ⟨g, cap, cur, g1, hb, hh, g4, g5, g6, g7⟩⟩ := hrow
  · have hQ : Q = [] := List.eq_nil_of_length_eq_zero g2
    subst hQ
    subst g1
    exact ⟨v, w, run_append_owned_none w base 22 ty 48 i 5 Try.underlying22 hi v _ _ hown.row, by rw [List.append_nil]; exact hown, ⟨rfl, rfl, rfl, Nat.le_refl _, fun _ _ _ => rfl⟩, .inl rfl⟩
  · subst g1
    obtain ⟨v', w', h2, h3, h4, _, h5⟩ := run_append_own_at (P := Try.prog) w base 22 ty 48 i _ 5 56 Try.underlying22 hi hz h1 h8 rfl (by decide) v _ _ hown.row ⟨g, 0, none⟩ Q.length cap (flatE Q) (by rw [flatE_len]) (by
      intro j x hj
      have hjl : j < Q.length * 5 := by rw [← flatE_len]; exact (List.getElem?_eq_some_iff.1 hj).1
      have e2 : (⟨g, 0, none⟩ : Addr).add j = ⟨g, 0 + j, none⟩ := by unfold Addr.add; split <;> simp_all
      have e := congrArg (fun l => l[j]?) g7
      simp only [List.getElem?_take] at e
      rw [if_pos hjl] at e
      rw [e2, cell_of_row _ _ _ _ _ _ hh, Nat.zero_add, ← Array.getElem?_toList, e]
      exact hj) (by
      intro x hx
      obtain ⟨p, hp, hx⟩ := List.mem_flatMap.1 hx
      exact erow_one (hu.ev p hp) x hx) (by unfold maxLen; omega) (by omega) hbase
    refine ⟨v', w', h2, ⟨?_, ?_, List.pairwise_append.2 ⟨hown.sep, hu.sep, hq⟩⟩, h4, h5⟩
    · rw [flatE_app, List.length_append]
      exact h3
    · intro p hp
      rcases List.mem_append.1 hp with hp | hp
      · exact (hown.ev p hp).keep fun b _ hlt hb => h4.block b hlt (fun e => hown.apart (hown.ev p hp).own hb e.symm)
      · exact (hu.ev p hp).keep fun b _ hlt hb => h4.block b hlt (fun e => hown.apart (hu.ev p hp).own hb e.symm)
theorem wpList_appEs {ops : Array Oper} {rest : List Oper} {o : Oper} {a : Act} {Q' : Exit → Act → World → Prop} {w : World} {base : Nat} {v u : Value} {P Q : List HE} (hgd : o.guard = none) (s x : Operand) (ho : o.op = .call { callee := .builtin .append, args := #[s, x], argTypes := #[22, 22] }) (hs : a.eval s = v) (hx : a.eval x = u)
    (hown : OwE w base v P) (hu : OwE w base u Q) (hq : ∀ p ∈ P, ∀ q ∈ Q, Apart p q) (hl : P.length + Q.length ≤ 2513169434916) (hbase : base ≤ w.heap.size)
    (h : ∀ v' w', OwE w' base v' (P ++ Q) → w.grownBy w' v.ownBlock → wpList Try.prog ops Q' rest (a.put o.dst v') w') : wpList Try.prog ops Q' (o :: rest) a w := by
  obtain ⟨v', w', hr, h2, h3, h4⟩ := run_appEs o.type hown hu hq hl hbase
  refine wpList_plain hgd fun K hK => ?_
  have he : (execOp a.eval o).run Try.prog w = .ok (.value v') w' := by
    unfold execOp
    simp only [ho, resolve, invoke, builtin, Sem.run_bind, Sem.run_pure, Result.andThen_ok, List.map_toArray, List.map_cons, List.map_nil, hs, hx, hr]
  unfold Oper.wp
  rw [he]
  exact hK _ _ (h v' w' h2 h3)
def diffS (A B : List Event) : List Int × Nat := if mayL A = false ∨ mayL B = false then ([], 2) else if beginsL A B = false then ([], 210) else writeEvS (B.drop A.length)
def applyS (A : List Event) (d : List Int) : Nat × List Event := if mayL A = false then (2, []) else if (readEvS d).1 ≠ 0 then ((readEvS d).1, []) else if 4096 < A.length + (readEvS d).2.length then (4, []) else (0, A ++ (readEvS d).2)
def sinceS (E : List Event) (n : Int) : Nat × List Event := if mayL E = false ∨ n < 0 ∨ (E.length : Int) < n then (2, []) else (0, E.drop n.toNat)
theorem beginsL_len {A B : List Event} (h : beginsL A B = true) : A.length ≤ B.length := by
  unfold beginsL at h
  simp only [Bool.and_eq_true, decide_eq_true_eq] at h
  exact h.1
/-- Events that are answered. -/
def EsPost (er : Nat) (E : List Event) (B0 : Nat) (e : Ending) (w' : World) : Prop := ∃ L P, e = .returned (.tuple #[L, .int .i64 er]) ∧ OwE w' B0 L P ∧ P.map HE.e = E
theorem EsPost.none (er B0 : Nat) (w' : World) : EsPost er [] B0 (.returned (.tuple #[.slice none 0 0, .int .i64 er])) w' := ⟨_, [], rfl, OwE.nil _ _, rfl⟩
theorem evdiff_any (A B : List Event) (u v : Value) (w : World) (hu : EvL w u A) (hv : EvL w v B) : Calls Try.prog 7 #[u, v] w fun e w' => (∃ q, e = .returned (.tuple #[q, .int .i64 (diffS A B).2]) ∧ OwB w' w.heap.size q (diffS A B).1) ∧ Below w.heap.size w w' := by
  have HU := Lib.hid hu
  have HV := Lib.hid hv
  obtain ⟨UA, UC, rfl⟩ : ∃ X c, u = .slice X A.length c := by obtain ⟨_, X, c, h, _⟩ := hu; exact ⟨_, _, h⟩
  obtain ⟨VA, VC, rfl⟩ : ∃ X c, v = .slice X B.length c := by obtain ⟨_, X, c, h, _⟩ := hv; exact ⟨_, _, h⟩
  obtain ⟨n, hn⟩ : ∃ n, A.length = n := ⟨_, rfl⟩
  obtain ⟨m, hm⟩ : ∃ n, B.length = n := ⟨_, rfl⟩
  obtain ⟨ma, hma⟩ : ∃ x, mayL A = x := ⟨_, rfl⟩
  obtain ⟨mb, hmb⟩ : ∃ x, mayL B = x := ⟨_, rfl⟩
  obtain ⟨bg, hbg⟩ : ∃ x, beginsL A B = x := ⟨_, rfl⟩
  have HM := Lib.hid hm
  have HD : Hid (diffS A B = if ma = false ∨ mb = false then ([], 2) else if bg = false then ([], 210) else writeEvS (B.drop n)) := Lib.hid (by unfold diffS; rw [hma, hmb, hbg, hn])
  have HLB : Hid (mb = true → m ≤ 4096) := Lib.hid (fun h => by rw [← hm]; exact mayL_len (by rw [hmb]; exact h))
  have HBG : Hid (bg = true → n ≤ m) := Lib.hid (fun h => by rw [← hn, ← hm]; exact beginsL_len (by rw [hbg]; exact h))
  have HC1 := Lib.hid (evmay_any _ A w HU.out)
  have HC2 : Hid (∀ W, Below w.heap.size w W → Calls Try.prog 18 #[.slice VA B.length VC] W fun e w' => e = .returned (.bool (mayL B)) ∧ Below W.heap.size W w') := Lib.hid (fun W h => evmay_any _ B W (HV.out.below h))
  have HC3 : Hid (∀ W, Below w.heap.size w W → Calls Try.prog 12 #[.slice UA A.length UC, .slice VA B.length VC] W fun e w' => e = .returned (.bool (beginsL A B)) ∧ Below W.heap.size W w') := Lib.hid (fun W h => evbegins_any A B _ _ W (HU.out.below h) (HV.out.below h))
  rw [hma, hn] at HC1
  rw [hmb, hm] at HC2
  rw [hbg, hn, hm] at HC3
  rw [hm] at HV
  rw [hn, hm]
  clear hma hmb hbg hu hv hn hm
  cases ma with
  | false =>
    have HF : Hid (diffS A B = ([], 2)) := Lib.hid (by rw [HD.out, if_pos (.inl rfl)])
    go_enter Try.func7, Try.ntmps7
    go_wp2_with fail
    refine HC1.out.mono ?_
    rintro e w1 ⟨rfl, hb⟩
    have HB := Lib.hid hb
    clear hb
    go_wp2_with fail
    refine bodyPost_ret (v := .tuple #[.slice none 0 0, .int .i64 2]) (by simp [results, Try.results7, go_sem]) rfl ?_
    rw [HF.out]
    exact ⟨⟨_, rfl, OwB.nil _ _⟩, HB.out⟩
  | true =>
    cases mb with
    | false =>
      have HF : Hid (diffS A B = ([], 2)) := Lib.hid (by rw [HD.out, if_pos (.inr rfl)])
      go_enter Try.func7, Try.ntmps7
      go_wp2_with fail
      refine HC1.out.mono ?_
      rintro e w1 ⟨rfl, hb⟩
      have HB := Lib.hid hb
      clear hb
      go_wp2_with fail
      refine (HC2.out w1 HB.out).mono ?_
      rintro e w2 ⟨rfl, hb⟩
      have HB2 := Lib.hid (bl_then HB.out HB.out.size hb)
      clear hb
      go_wp2_with fail
      refine bodyPost_ret (v := .tuple #[.slice none 0 0, .int .i64 2]) (by simp [results, Try.results7, go_sem]) rfl ?_
      rw [HF.out]
      exact ⟨⟨_, rfl, OwB.nil _ _⟩, HB2.out⟩
    | true =>
      have hm4 := HLB.out rfl
      cases bg with
      | false =>
        have HF : Hid (diffS A B = ([], 210)) := Lib.hid (by rw [HD.out, if_neg (by simp), if_pos rfl])
        go_enter Try.func7, Try.ntmps7
        go_wp2_with fail
        refine HC1.out.mono ?_
        rintro e w1 ⟨rfl, hb⟩
        have HB := Lib.hid hb
        clear hb
        go_wp2_with fail
        refine (HC2.out w1 HB.out).mono ?_
        rintro e w2 ⟨rfl, hb⟩
        have HB2 := Lib.hid (bl_then HB.out HB.out.size hb)
        clear hb
        go_wp2_with fail
        refine (HC3.out w2 HB2.out).mono ?_
        rintro e w3 ⟨rfl, hb⟩
        have HB3 := Lib.hid (bl_then HB2.out HB2.out.size hb)
        clear hb
        go_wp2_with fail
        refine bodyPost_ret (v := .tuple #[.slice none 0 0, .int .i64 210]) (by simp [results, Try.results7, go_sem]) rfl ?_
        rw [HF.out]
        exact ⟨⟨_, rfl, OwB.nil _ _⟩, HB3.out⟩
      | true =>
        have hnm := HBG.out rfl
        have HE : Hid (diffS A B = writeEvS (B.drop n)) := Lib.hid (by rw [HD.out, if_neg (by simp), if_neg (by simp)])
        have hrr : ∀ W, (Instr.sliceAt 22 (.slice VA m VC) (some (.int .i64 n)) none none).run Try.prog W = .ok (.slice (restE VA VC n) (m - n) (VC - n)) W := fun W => run_restE VA m VC n hnm W
        have HR := Lib.hid (HV.out.rest (m := n) hnm)
        have HDL : Hid ((B.drop n).length ≤ 1048576) := Lib.hid (by rw [List.length_drop, HM.out]; omega)
        go_enter Try.func7, Try.ntmps7
        go_wp2_with fail
        refine HC1.out.mono ?_
        rintro e w1 ⟨rfl, hb⟩
        have HB := Lib.hid hb
        clear hb
        go_wp2_with fail
        refine (HC2.out w1 HB.out).mono ?_
        rintro e w2 ⟨rfl, hb⟩
        have HB2 := Lib.hid (bl_then HB.out HB.out.size hb)
        clear hb
        go_wp2_with fail
        refine (HC3.out w2 HB2.out).mono ?_
        rintro e w3 ⟨rfl, hb⟩
        have HB3 := Lib.hid (bl_then HB2.out HB2.out.size hb)
        clear hb
        go_wp2_with fail
        refine (writeevents_any _ (B.drop n) w3 (HR.out.below HB3.out)).mono ?_
        rintro e w4 ⟨⟨q, rfl, ho⟩, hb⟩
        have HO := Lib.hid (ho.mono HB3.out.size)
        have HB4 := Lib.hid (bl_then HB3.out HB3.out.size hb)
        clear ho hb
        generalize writeEvS (B.drop n) = wr at HO HE ⊢
        obtain ⟨QA, QN, QC, rfl⟩ := HO.out.form
        go_wp2_with fail
        refine bodyPost_ret (v := .tuple #[.slice QA QN QC, .int .i64 wr.2]) (by simp [results, Try.results7, go_sem]) rfl ?_
        rw [HE.out]
        exact ⟨⟨_, rfl, HO.out⟩, HB4.out⟩
theorem rdiff_any (A B : List Event) (u v : Value) (w : World) (hu : EvL w u A) (hv : EvL w v B) : Calls Try.prog 13 #[u, v] w fun e w' => (∃ q, e = .returned (.tuple #[q, .int .i64 (diffS A B).2]) ∧ OwB w' w.heap.size q (diffS A B).1) ∧ Below w.heap.size w w' := by
  have HU := Lib.hid hu
  have HV := Lib.hid hv
  obtain ⟨UA, UC, rfl⟩ : ∃ X c, u = .slice X A.length c := by obtain ⟨_, X, c, h, _⟩ := hu; exact ⟨_, _, h⟩
  obtain ⟨VA, VC, rfl⟩ : ∃ X c, v = .slice X B.length c := by obtain ⟨_, X, c, h, _⟩ := hv; exact ⟨_, _, h⟩
  obtain ⟨n, hn⟩ : ∃ n, A.length = n := ⟨_, rfl⟩
  obtain ⟨m, hm⟩ : ∃ n, B.length = n := ⟨_, rfl⟩
  obtain ⟨ma, hma⟩ : ∃ x, mayL A = x := ⟨_, rfl⟩
  obtain ⟨mb, hmb⟩ : ∃ x, mayL B = x := ⟨_, rfl⟩
  obtain ⟨bg, hbg⟩ : ∃ x, beginsL A B = x := ⟨_, rfl⟩
  have HM := Lib.hid hm
  have HD : Hid (diffS A B = if ma = false ∨ mb = false then ([], 2) else if bg = false then ([], 210) else writeEvS (B.drop n)) := Lib.hid (by unfold diffS; rw [hma, hmb, hbg, hn])
  have HLB : Hid (mb = true → m ≤ 4096) := Lib.hid (fun h => by rw [← hm]; exact mayL_len (by rw [hmb]; exact h))
  have HBG : Hid (bg = true → n ≤ m) := Lib.hid (fun h => by rw [← hn, ← hm]; exact beginsL_len (by rw [hbg]; exact h))
  have HC1 := Lib.hid (revmay_any _ A w HU.out)
  have HC2 : Hid (∀ W, Below w.heap.size w W → Calls Try.prog 9 #[.slice VA B.length VC] W fun e w' => e = .returned (.bool (mayL B)) ∧ Below W.heap.size W w') := Lib.hid (fun W h => revmay_any _ B W (HV.out.below h))
  have HC3 : Hid (∀ W, Below w.heap.size w W → Calls Try.prog 19 #[.slice UA A.length UC, .slice VA B.length VC] W fun e w' => e = .returned (.bool (beginsL A B)) ∧ Below W.heap.size W w') := Lib.hid (fun W h => rbegins_any A B _ _ W (HU.out.below h) (HV.out.below h))
  rw [hma, hn] at HC1
  rw [hmb, hm] at HC2
  rw [hbg, hn, hm] at HC3
  rw [hm] at HV
  rw [hn, hm]
  clear hma hmb hbg hu hv hn hm
  cases ma with
  | false =>
    have HF : Hid (diffS A B = ([], 2)) := Lib.hid (by rw [HD.out, if_pos (.inl rfl)])
    go_enter Try.func13, Try.ntmps13
    go_wp2_with fail
    refine HC1.out.mono ?_
    rintro e w1 ⟨rfl, hb⟩
    have HB := Lib.hid hb
    clear hb
    go_wp2_with fail
    refine bodyPost_ret (v := .tuple #[.slice none 0 0, .int .i64 2]) (by simp [results, Try.results13, go_sem]) rfl ?_
    rw [HF.out]
    exact ⟨⟨_, rfl, OwB.nil _ _⟩, HB.out⟩
  | true =>
    cases mb with
    | false =>
      have HF : Hid (diffS A B = ([], 2)) := Lib.hid (by rw [HD.out, if_pos (.inr rfl)])
      go_enter Try.func13, Try.ntmps13
      go_wp2_with fail
      refine HC1.out.mono ?_
      rintro e w1 ⟨rfl, hb⟩
      have HB := Lib.hid hb
      clear hb
      go_wp2_with fail
      refine (HC2.out w1 HB.out).mono ?_
      rintro e w2 ⟨rfl, hb⟩
      have HB2 := Lib.hid (bl_then HB.out HB.out.size hb)
      clear hb
      go_wp2_with fail
      refine bodyPost_ret (v := .tuple #[.slice none 0 0, .int .i64 2]) (by simp [results, Try.results13, go_sem]) rfl ?_
      rw [HF.out]
      exact ⟨⟨_, rfl, OwB.nil _ _⟩, HB2.out⟩
    | true =>
      have hm4 := HLB.out rfl
      cases bg with
      | false =>
        have HF : Hid (diffS A B = ([], 210)) := Lib.hid (by rw [HD.out, if_neg (by simp), if_pos rfl])
        go_enter Try.func13, Try.ntmps13
        go_wp2_with fail
        refine HC1.out.mono ?_
        rintro e w1 ⟨rfl, hb⟩
        have HB := Lib.hid hb
        clear hb
        go_wp2_with fail
        refine (HC2.out w1 HB.out).mono ?_
        rintro e w2 ⟨rfl, hb⟩
        have HB2 := Lib.hid (bl_then HB.out HB.out.size hb)
        clear hb
        go_wp2_with fail
        refine (HC3.out w2 HB2.out).mono ?_
        rintro e w3 ⟨rfl, hb⟩
        have HB3 := Lib.hid (bl_then HB2.out HB2.out.size hb)
        clear hb
        go_wp2_with fail
        refine bodyPost_ret (v := .tuple #[.slice none 0 0, .int .i64 210]) (by simp [results, Try.results13, go_sem]) rfl ?_
        rw [HF.out]
        exact ⟨⟨_, rfl, OwB.nil _ _⟩, HB3.out⟩
      | true =>
        have hnm := HBG.out rfl
        have HE : Hid (diffS A B = writeEvS (B.drop n)) := Lib.hid (by rw [HD.out, if_neg (by simp), if_neg (by simp)])
        have hrr : ∀ W, (Instr.sliceAt 22 (.slice VA m VC) (some (.int .i64 n)) none none).run Try.prog W = .ok (.slice (restE VA VC n) (m - n) (VC - n)) W := fun W => run_restE VA m VC n hnm W
        have HR := Lib.hid (HV.out.rest (m := n) hnm)
        have HDL : Hid ((B.drop n).length ≤ 1048576) := Lib.hid (by rw [List.length_drop, HM.out]; omega)
        go_enter Try.func13, Try.ntmps13
        go_wp2_with fail
        refine HC1.out.mono ?_
        rintro e w1 ⟨rfl, hb⟩
        have HB := Lib.hid hb
        clear hb
        go_wp2_with fail
        refine (HC2.out w1 HB.out).mono ?_
        rintro e w2 ⟨rfl, hb⟩
        have HB2 := Lib.hid (bl_then HB.out HB.out.size hb)
        clear hb
        go_wp2_with fail
        refine (HC3.out w2 HB2.out).mono ?_
        rintro e w3 ⟨rfl, hb⟩
        have HB3 := Lib.hid (bl_then HB2.out HB2.out.size hb)
        clear hb
        go_wp2_with fail
        refine (rwriteevents_any _ (B.drop n) w3 (HR.out.below HB3.out) HDL.out).mono ?_
        rintro e w4 ⟨⟨q, rfl, ho⟩, hb⟩
        have HO := Lib.hid (ho.mono HB3.out.size)
        have HB4 := Lib.hid (bl_then HB3.out HB3.out.size hb)
        clear ho hb
        generalize writeEvS (B.drop n) = wr at HO HE ⊢
        obtain ⟨QA, QN, QC, rfl⟩ := HO.out.form
        go_wp2_with fail
        refine bodyPost_ret (v := .tuple #[.slice QA QN QC, .int .i64 wr.2]) (by simp [results, Try.results13, go_sem]) rfl ?_
        rw [HE.out]
        exact ⟨⟨_, rfl, HO.out⟩, HB4.out⟩
theorem evapply_any (A : List Event) (ds : List Int) (u v : Value) (w : World) (hu : EvL w u A) (hv : BB w v ds) : Calls Try.prog 10 #[u, v] w fun e w' => EsPost (applyS A ds).1 (applyS A ds).2 w.heap.size e w' ∧ Below w.heap.size w w' := by
  have HU := Lib.hid hu
  have HV := Lib.hid hv
  have HFEW := Lib.hid (readEv_few hv.ok)
  obtain ⟨UA, UC, rfl⟩ : ∃ X c, u = .slice X A.length c := by obtain ⟨_, X, c, h, _⟩ := hu; exact ⟨_, _, h⟩
  obtain ⟨VA, VN, VC, rfl⟩ : ∃ X n c, v = .slice X n c := by obtain ⟨_, _, X, c, h, _⟩ := hv; exact ⟨_, _, _, h⟩
  obtain ⟨n, hn⟩ : ∃ n, A.length = n := ⟨_, rfl⟩
  obtain ⟨ma, hma⟩ : ∃ x, mayL A = x := ⟨_, rfl⟩
  obtain ⟨er, her⟩ : ∃ e : Nat, (readEvS ds).1 = e := ⟨_, rfl⟩
  obtain ⟨F, hF⟩ : ∃ E, (readEvS ds).2 = E := ⟨_, rfl⟩
  have HA : Hid (applyS A ds = if ma = false then (2, []) else if er ≠ 0 then (er, []) else if 4096 < n + F.length then (4, []) else (0, A ++ F)) := Lib.hid (by unfold applyS; rw [hma, her, hF, hn])
  have HRE : Hid (∀ B0 e w', REPost ds B0 e w' → ∃ L P, e = .returned (.tuple #[L, .int .i64 er]) ∧ OwE w' B0 L P ∧ P.map HE.e = F ∧ P.length = F.length ∧ F.length ≤ 4096) := Lib.hid (by
    rintro B0 e w' ⟨L, P, h1, h2, h3⟩
    rw [her] at h1
    rw [hF] at h3
    exact ⟨L, P, h1, h2, h3, by rw [← h3, List.length_map], by rw [← hF]; exact HFEW.out.1⟩)
  have HLA : Hid (ma = true → n ≤ 4096) := Lib.hid (fun h => by rw [← hn]; exact mayL_len (by rw [hma]; exact h))
  have HN := Lib.hid hn
  have HC1 := Lib.hid (evmay_any _ A w HU.out)
  rw [hma, hn] at HC1
  rw [hn] at HU
  rw [hn]
  clear hma her hF hu hv hn HFEW
  cases ma with
  | false =>
    have HF : Hid (applyS A ds = (2, [])) := Lib.hid (by rw [HA.out, if_pos rfl])
    go_enter Try.func10, Try.ntmps10
    go_wp2_with fail
    refine HC1.out.mono ?_
    rintro e w1 ⟨rfl, hb⟩
    have HB := Lib.hid hb
    clear hb
    go_wp2_with fail
    refine bodyPost_ret (v := .tuple #[.slice none 0 0, .int .i64 2]) (by simp [results, Try.results10, go_sem]) rfl ?_
    rw [HF.out]
    exact ⟨EsPost.none _ _ _, HB.out⟩
  | true =>
    have hn4 := HLA.out rfl
    have HA1 : Hid ((er ≠ 0 → applyS A ds = (er, [])) ∧ (er = 0 → 4096 < n + F.length → applyS A ds = (4, [])) ∧ (er = 0 → ¬ 4096 < n + F.length → applyS A ds = (0, A ++ F))) := Lib.hid ⟨fun h => by rw [HA.out, if_neg (by simp), if_pos h], fun h h2 => by rw [HA.out, if_neg (by simp), if_neg (by simp [h]), if_pos h2], fun h h2 => by rw [HA.out, if_neg (by simp), if_neg (by simp [h]), if_neg h2]⟩
    clear HA
    go_enter Try.func10, Try.ntmps10
    go_wp2_with fail
    refine HC1.out.mono ?_
    rintro e w1 ⟨rfl, hb⟩
    have HB := Lib.hid hb
    clear hb
    go_wp2_with fail
    refine (readevents_any _ ds w1 (HV.out.below HB.out)).mono ?_
    rintro e w2 ⟨hr, hb⟩
    obtain ⟨L, P, rfl, ho, hp, hpl, hf4⟩ := HRE.out _ _ _ hr
    obtain ⟨LA, LC, hL⟩ := ho.form
    obtain ⟨l, hl⟩ : ∃ l, F.length = l := ⟨_, rfl⟩
    have HPL : Hid (P.length = l) := Lib.hid (hpl.trans hl)
    rw [HPL.out] at hL
    subst hL
    rw [hl] at hf4 HA1
    have HO2 := Lib.hid (ho.mono HB.out.size)
    have HO2' := Lib.hid ho
    have HP := Lib.hid hp
    have HB2 := Lib.hid (bl_then HB.out HB.out.size hb)
    clear hr hb ho hp hpl hl
    by_cases he : er = 0
    · have HA4 := Lib.hid (HA1.out.2.1 he)
      have HA0 := Lib.hid (HA1.out.2.2 he)
      subst he
      clear HA1
      have hws : IntKind.i64.wrap ((n : Int) + (l : Int)) = (n : Int) + (l : Int) := IntWalk.i64_in _ (by omega)
      by_cases hb : 4096 < n + l
      · have hbi : (4096 : Int) < (n : Int) + (l : Int) := by omega
        have HF := Lib.hid (HA4.out hb)
        clear HA4 HA0
        go_wp2_with fail
        refine bodyPost_ret (v := .tuple #[.slice none 0 0, .int .i64 4]) (by simp [results, Try.results10, go_sem]) rfl ?_
        rw [HF.out]
        exact ⟨EsPost.none _ _ _, HB2.out⟩
      · have hbi : ¬ (4096 : Int) < (n : Int) + (l : Int) := by omega
        have HF := Lib.hid (HA0.out hb)
        clear HA4 HA0
        go_wp2_with fail
        refine (evcopy_any A _ w2 (HU.out.below HB2.out) (by rw [HN.out]; omega)).mono ?_
        rintro e w3 ⟨⟨M, Q, rfl, hq, hqe⟩, hb3⟩
        obtain ⟨MA, MC, hM⟩ := hq.form
        obtain ⟨mn, hmn⟩ : ∃ l, Q.length = l := ⟨_, rfl⟩
        have HMN : Hid (Q.length = n) := Lib.hid (by rw [← List.length_map (f := HE.e), hqe, HN.out])
        rw [hmn] at hM
        subst hM
        have HB3 := Lib.hid (bl_then HB2.out HB2.out.size hb3)
        have HO3 := Lib.hid (HO2.out.below hb3)
        have HQ3 := Lib.hid (hq.mono HB2.out.size)
        have HAP : Hid (∀ q ∈ Q, ∀ p ∈ P, Apart q p) := Lib.hid (fun q hq2 p hp2 b h1 h2 => by
          have h3 := (own_typed (hq.ev q hq2).own h1).1
          have h4 := (World.ownsRow.lt (HO2.out.ev p hp2).own b h2).2
          omega)
        have HQE := Lib.hid hqe
        clear hq hqe hb3 hmn
        go_wp2_with (at_builtin; refine wpList_appEs (base := w.heap.size) (v := .slice MA mn MC) (u := .slice LA l LC) (P := Q) (Q := P) rfl _ _ rfl rfl rfl ?_ ?_ ?_ ?_ ?_ ?_)
        · exact HQ3.out
        · exact HO3.out
        · exact HAP.out
        · rw [HMN.out, HPL.out]; omega
        · exact HB3.out.size
        · intro v4 w4 h1 h2
          have HO4 := Lib.hid h1
          have HB4 := Lib.hid (HB3.out.grown h2 HB3.out.size (fun q hq => (own_typed HQ3.out.row hq).1))
          clear h1 h2
          obtain ⟨ZA, ZC, hZ⟩ := HO4.out.form
          obtain ⟨zn, hzn⟩ : ∃ l, (Q ++ P).length = l := ⟨_, rfl⟩
          rw [hzn] at hZ
          subst hZ
          clear hzn
          go_wp2_with fail
          refine bodyPost_ret (v := .tuple #[.slice ZA zn ZC, .int .i64 0]) (by simp [results, Try.results10, go_sem]) rfl ?_
          rw [HF.out]
          exact ⟨⟨_, Q ++ P, rfl, HO4.out, by rw [List.map_append, HQE.out, HP.out]⟩, HB4.out⟩
    · have hei : ¬ (er : Int) = 0 := by omega
      have heb : ((er : Int) == 0) = false := by simpa using he
      have HF := Lib.hid (HA1.out.1 he)
      clear HA1 he
      go_wp2_with fail
      refine bodyPost_ret (v := .tuple #[.slice none 0 0, .int .i64 er]) (by simp [results, Try.results10, go_sem]) rfl ?_
      rw [HF.out]
      exact ⟨EsPost.none _ _ _, HB2.out⟩
theorem rapply_any (A : List Event) (ds : List Int) (u v : Value) (w : World) (hu : EvL w u A) (hv : BB w v ds) : Calls Try.prog 14 #[u, v] w fun e w' => EsPost (applyS A ds).1 (applyS A ds).2 w.heap.size e w' ∧ Below w.heap.size w w' := by
  have HU := Lib.hid hu
  have HV := Lib.hid hv
  have HFEW := Lib.hid (readEv_few hv.ok)
  obtain ⟨UA, UC, rfl⟩ : ∃ X c, u = .slice X A.length c := by obtain ⟨_, X, c, h, _⟩ := hu; exact ⟨_, _, h⟩
  obtain ⟨VA, VN, VC, rfl⟩ : ∃ X n c, v = .slice X n c := by obtain ⟨_, _, X, c, h, _⟩ := hv; exact ⟨_, _, _, h⟩
  obtain ⟨n, hn⟩ : ∃ n, A.length = n := ⟨_, rfl⟩
  obtain ⟨ma, hma⟩ : ∃ x, mayL A = x := ⟨_, rfl⟩
  obtain ⟨er, her⟩ : ∃ e : Nat, (readEvS ds).1 = e := ⟨_, rfl⟩
  obtain ⟨F, hF⟩ : ∃ E, (readEvS ds).2 = E := ⟨_, rfl⟩
  have HA : Hid (applyS A ds = if ma = false then (2, []) else if er ≠ 0 then (er, []) else if 4096 < n + F.length then (4, []) else (0, A ++ F)) := Lib.hid (by unfold applyS; rw [hma, her, hF, hn])
  have HRE : Hid (∀ B0 e w', REPost ds B0 e w' → ∃ L P, e = .returned (.tuple #[L, .int .i64 er]) ∧ OwE w' B0 L P ∧ P.map HE.e = F ∧ P.length = F.length ∧ F.length ≤ 4096) := Lib.hid (by
    rintro B0 e w' ⟨L, P, h1, h2, h3⟩
    rw [her] at h1
    rw [hF] at h3
    exact ⟨L, P, h1, h2, h3, by rw [← h3, List.length_map], by rw [← hF]; exact HFEW.out.1⟩)
  have HLA : Hid (ma = true → n ≤ 4096) := Lib.hid (fun h => by rw [← hn]; exact mayL_len (by rw [hma]; exact h))
  have HN := Lib.hid hn
  have HC1 := Lib.hid (revmay_any _ A w HU.out)
  rw [hma, hn] at HC1
  rw [hn] at HU
  rw [hn]
  clear hma her hF hu hv hn HFEW
  cases ma with
  | false =>
    have HF : Hid (applyS A ds = (2, [])) := Lib.hid (by rw [HA.out, if_pos rfl])
    go_enter Try.func14, Try.ntmps14
    go_wp2_with fail
    refine HC1.out.mono ?_
    rintro e w1 ⟨rfl, hb⟩
    have HB := Lib.hid hb
    clear hb
    go_wp2_with fail
    refine bodyPost_ret (v := .tuple #[.slice none 0 0, .int .i64 2]) (by simp [results, Try.results14, go_sem]) rfl ?_
    rw [HF.out]
    exact ⟨EsPost.none _ _ _, HB.out⟩
  | true =>
    have hn4 := HLA.out rfl
    have HA1 : Hid ((er ≠ 0 → applyS A ds = (er, [])) ∧ (er = 0 → 4096 < n + F.length → applyS A ds = (4, [])) ∧ (er = 0 → ¬ 4096 < n + F.length → applyS A ds = (0, A ++ F))) := Lib.hid ⟨fun h => by rw [HA.out, if_neg (by simp), if_pos h], fun h h2 => by rw [HA.out, if_neg (by simp), if_neg (by simp [h]), if_pos h2], fun h h2 => by rw [HA.out, if_neg (by simp), if_neg (by simp [h]), if_neg h2]⟩
    clear HA
    go_enter Try.func14, Try.ntmps14
    go_wp2_with fail
    refine HC1.out.mono ?_
    rintro e w1 ⟨rfl, hb⟩
    have HB := Lib.hid hb
    clear hb
    go_wp2_with fail
    refine (rreadevents_any _ ds w1 (HV.out.below HB.out)).mono ?_
    rintro e w2 ⟨hr, hb⟩
    obtain ⟨L, P, rfl, ho, hp, hpl, hf4⟩ := HRE.out _ _ _ hr
    obtain ⟨LA, LC, hL⟩ := ho.form
    obtain ⟨l, hl⟩ : ∃ l, F.length = l := ⟨_, rfl⟩
    have HPL : Hid (P.length = l) := Lib.hid (hpl.trans hl)
    rw [HPL.out] at hL
    subst hL
    rw [hl] at hf4 HA1
    have HO2 := Lib.hid (ho.mono HB.out.size)
    have HO2' := Lib.hid ho
    have HP := Lib.hid hp
    have HB2 := Lib.hid (bl_then HB.out HB.out.size hb)
    clear hr hb ho hp hpl hl
    by_cases he : er = 0
    · have HA4 := Lib.hid (HA1.out.2.1 he)
      have HA0 := Lib.hid (HA1.out.2.2 he)
      subst he
      clear HA1
      have hws : IntKind.i64.wrap ((n : Int) + (l : Int)) = (n : Int) + (l : Int) := IntWalk.i64_in _ (by omega)
      by_cases hb : 4096 < n + l
      · have hbi : (4096 : Int) < (n : Int) + (l : Int) := by omega
        have HF := Lib.hid (HA4.out hb)
        clear HA4 HA0
        go_wp2_with fail
        refine bodyPost_ret (v := .tuple #[.slice none 0 0, .int .i64 4]) (by simp [results, Try.results14, go_sem]) rfl ?_
        rw [HF.out]
        exact ⟨EsPost.none _ _ _, HB2.out⟩
      · have hbi : ¬ (4096 : Int) < (n : Int) + (l : Int) := by omega
        have HF := Lib.hid (HA0.out hb)
        clear HA4 HA0
        go_wp2_with fail
        refine (rcopy_any A _ w2 (HU.out.below HB2.out) (by rw [HN.out]; omega)).mono ?_
        rintro e w3 ⟨⟨M, Q, rfl, hq, hqe⟩, hb3⟩
        obtain ⟨MA, MC, hM⟩ := hq.form
        obtain ⟨mn, hmn⟩ : ∃ l, Q.length = l := ⟨_, rfl⟩
        have HMN : Hid (Q.length = n) := Lib.hid (by rw [← List.length_map (f := HE.e), hqe, HN.out])
        rw [hmn] at hM
        subst hM
        have HB3 := Lib.hid (bl_then HB2.out HB2.out.size hb3)
        have HO3 := Lib.hid (HO2.out.below hb3)
        have HQ3 := Lib.hid (hq.mono HB2.out.size)
        have HAP : Hid (∀ q ∈ Q, ∀ p ∈ P, Apart q p) := Lib.hid (fun q hq2 p hp2 b h1 h2 => by
          have h3 := (own_typed (hq.ev q hq2).own h1).1
          have h4 := (World.ownsRow.lt (HO2.out.ev p hp2).own b h2).2
          omega)
        have HQE := Lib.hid hqe
        clear hq hqe hb3 hmn
        go_wp2_with (at_builtin; refine wpList_appEs (base := w.heap.size) (v := .slice MA mn MC) (u := .slice LA l LC) (P := Q) (Q := P) rfl _ _ rfl rfl rfl ?_ ?_ ?_ ?_ ?_ ?_)
        · exact HQ3.out
        · exact HO3.out
        · exact HAP.out
        · rw [HMN.out, HPL.out]; omega
        · exact HB3.out.size
        · intro v4 w4 h1 h2
          have HO4 := Lib.hid h1
          have HB4 := Lib.hid (HB3.out.grown h2 HB3.out.size (fun q hq => (own_typed HQ3.out.row hq).1))
          clear h1 h2
          obtain ⟨ZA, ZC, hZ⟩ := HO4.out.form
          obtain ⟨zn, hzn⟩ : ∃ l, (Q ++ P).length = l := ⟨_, rfl⟩
          rw [hzn] at hZ
          subst hZ
          clear hzn
          go_wp2_with fail
          refine bodyPost_ret (v := .tuple #[.slice ZA zn ZC, .int .i64 0]) (by simp [results, Try.results14, go_sem]) rfl ?_
          rw [HF.out]
          exact ⟨⟨_, Q ++ P, rfl, HO4.out, by rw [List.map_append, HQE.out, HP.out]⟩, HB4.out⟩
    · have hei : ¬ (er : Int) = 0 := by omega
      have heb : ((er : Int) == 0) = false := by simpa using he
      have HF := Lib.hid (HA1.out.1 he)
      clear HA1 he
      go_wp2_with fail
      refine bodyPost_ret (v := .tuple #[.slice none 0 0, .int .i64 er]) (by simp [results, Try.results14, go_sem]) rfl ?_
      rw [HF.out]
      exact ⟨EsPost.none _ _ _, HB2.out⟩
theorem evsince_any (E : List Event) (k : Int) (u : Value) (w : World) (hu : EvL w u E) : Calls Try.prog 15 #[u, .int .i64 k] w fun e w' => EsPost (sinceS E k).1 (sinceS E k).2 w.heap.size e w' ∧ Below w.heap.size w w' := by
  have HU := Lib.hid hu
  obtain ⟨UA, UC, rfl⟩ : ∃ X c, u = .slice X E.length c := by obtain ⟨_, X, c, h, _⟩ := hu; exact ⟨_, _, h⟩
  obtain ⟨n, hn⟩ : ∃ n, E.length = n := ⟨_, rfl⟩
  obtain ⟨ma, hma⟩ : ∃ x, mayL E = x := ⟨_, rfl⟩
  have HA : Hid (sinceS E k = if ma = false ∨ k < 0 ∨ (n : Int) < k then (2, []) else (0, E.drop k.toNat)) := Lib.hid (by unfold sinceS; rw [hma, hn])
  have HLA : Hid (ma = true → n ≤ 4096) := Lib.hid (fun h => by rw [← hn]; exact mayL_len (by rw [hma]; exact h))
  have HN := Lib.hid hn
  have HC1 := Lib.hid (evmay_any _ E w HU.out)
  rw [hma, hn] at HC1
  rw [hn] at HU
  rw [hn]
  clear hma hu hn
  cases ma with
  | false =>
    have HF : Hid (sinceS E k = (2, [])) := Lib.hid (by rw [HA.out, if_pos (.inl rfl)])
    go_enter Try.func15, Try.ntmps15
    go_wp2_with fail
    refine HC1.out.mono ?_
    rintro e w1 ⟨rfl, hb⟩
    have HB := Lib.hid hb
    clear hb
    go_wp2_with fail
    refine bodyPost_ret (v := .tuple #[.slice none 0 0, .int .i64 2]) (by simp [results, Try.results15, go_sem]) rfl ?_
    rw [HF.out]
    exact ⟨EsPost.none _ _ _, HB.out⟩
  | true =>
    have hn4 := HLA.out rfl
    by_cases hk : k < 0
    · have HF : Hid (sinceS E k = (2, [])) := Lib.hid (by rw [HA.out, if_pos (.inr (.inl hk))])
      go_enter Try.func15, Try.ntmps15
      go_wp2_with fail
      refine HC1.out.mono ?_
      rintro e w1 ⟨rfl, hb⟩
      have HB := Lib.hid hb
      clear hb
      go_wp2_with fail
      refine bodyPost_ret (v := .tuple #[.slice none 0 0, .int .i64 2]) (by simp [results, Try.results15, go_sem]) rfl ?_
      rw [HF.out]
      exact ⟨EsPost.none _ _ _, HB.out⟩
    · by_cases hk2 : (n : Int) < k
      · have HF : Hid (sinceS E k = (2, [])) := Lib.hid (by rw [HA.out, if_pos (.inr (.inr hk2))])
        go_enter Try.func15, Try.ntmps15
        go_wp2_with fail
        refine HC1.out.mono ?_
        rintro e w1 ⟨rfl, hb⟩
        have HB := Lib.hid hb
        clear hb
        go_wp2_with fail
        refine bodyPost_ret (v := .tuple #[.slice none 0 0, .int .i64 2]) (by simp [results, Try.results15, go_sem]) rfl ?_
        rw [HF.out]
        exact ⟨EsPost.none _ _ _, HB.out⟩
      · have HA2 : Hid (sinceS E k = (0, E.drop k.toNat)) := Lib.hid (by rw [HA.out, if_neg]; simp; omega)
        obtain ⟨m, rfl⟩ := Int.eq_ofNat_of_zero_le (show 0 ≤ k by omega)
        rw [Int.toNat_natCast] at HA2
        have hmn : m ≤ n := by omega
        have hrr : ∀ W, (Instr.sliceAt 22 (.slice UA n UC) (some (.int .i64 m)) none none).run Try.prog W = .ok (.slice (restE UA UC m) (n - m) (UC - m)) W := fun W => run_restE UA n UC m hmn W
        have HR := Lib.hid (HU.out.rest (m := m) hmn)
        have hk' : ¬ (m : Int) < 0 := by omega
        clear hk
        go_enter Try.func15, Try.ntmps15
        go_wp2_with fail
        refine HC1.out.mono ?_
        rintro e w1 ⟨rfl, hb⟩
        have HB := Lib.hid hb
        clear hb
        go_wp2_with fail
        refine (evcopy_any (E.drop m) _ w1 (HR.out.below HB.out) (by rw [List.length_drop, HN.out]; omega)).mono ?_
        rintro e w2 ⟨⟨M, Q, rfl, hq, hqe⟩, hb⟩
        obtain ⟨MA, MC, hM⟩ := hq.form
        obtain ⟨mn, hmn2⟩ : ∃ l, Q.length = l := ⟨_, rfl⟩
        rw [hmn2] at hM
        subst hM
        have HB2 := Lib.hid (bl_then HB.out HB.out.size hb)
        have HQ := Lib.hid (hq.mono HB.out.size)
        have HQE := Lib.hid hqe
        clear hq hqe hb hmn2
        go_wp2_with fail
        refine bodyPost_ret (v := .tuple #[.slice MA mn MC, .int .i64 0]) (by simp [results, Try.results15, go_sem]) rfl ?_
        rw [HA2.out]
        exact ⟨⟨_, Q, rfl, HQ.out, HQE.out⟩, HB2.out⟩
theorem rsince_any (E : List Event) (k : Int) (u : Value) (w : World) (hu : EvL w u E) : Calls Try.prog 16 #[u, .int .i64 k] w fun e w' => EsPost (sinceS E k).1 (sinceS E k).2 w.heap.size e w' ∧ Below w.heap.size w w' := by
  have HU := Lib.hid hu
  obtain ⟨UA, UC, rfl⟩ : ∃ X c, u = .slice X E.length c := by obtain ⟨_, X, c, h, _⟩ := hu; exact ⟨_, _, h⟩
  obtain ⟨n, hn⟩ : ∃ n, E.length = n := ⟨_, rfl⟩
  obtain ⟨ma, hma⟩ : ∃ x, mayL E = x := ⟨_, rfl⟩
  have HA : Hid (sinceS E k = if ma = false ∨ k < 0 ∨ (n : Int) < k then (2, []) else (0, E.drop k.toNat)) := Lib.hid (by unfold sinceS; rw [hma, hn])
  have HLA : Hid (ma = true → n ≤ 4096) := Lib.hid (fun h => by rw [← hn]; exact mayL_len (by rw [hma]; exact h))
  have HN := Lib.hid hn
  have HC1 := Lib.hid (revmay_any _ E w HU.out)
  rw [hma, hn] at HC1
  rw [hn] at HU
  rw [hn]
  clear hma hu hn
  cases ma with
  | false =>
    have HF : Hid (sinceS E k = (2, [])) := Lib.hid (by rw [HA.out, if_pos (.inl rfl)])
    go_enter Try.func16, Try.ntmps16
    go_wp2_with fail
    refine HC1.out.mono ?_
    rintro e w1 ⟨rfl, hb⟩
    have HB := Lib.hid hb
    clear hb
    go_wp2_with fail
    refine bodyPost_ret (v := .tuple #[.slice none 0 0, .int .i64 2]) (by simp [results, Try.results16, go_sem]) rfl ?_
    rw [HF.out]
    exact ⟨EsPost.none _ _ _, HB.out⟩
  | true =>
    have hn4 := HLA.out rfl
    by_cases hk : k < 0
    · have HF : Hid (sinceS E k = (2, [])) := Lib.hid (by rw [HA.out, if_pos (.inr (.inl hk))])
      go_enter Try.func16, Try.ntmps16
      go_wp2_with fail
      refine HC1.out.mono ?_
      rintro e w1 ⟨rfl, hb⟩
      have HB := Lib.hid hb
      clear hb
      go_wp2_with fail
      refine bodyPost_ret (v := .tuple #[.slice none 0 0, .int .i64 2]) (by simp [results, Try.results16, go_sem]) rfl ?_
      rw [HF.out]
      exact ⟨EsPost.none _ _ _, HB.out⟩
    · by_cases hk2 : (n : Int) < k
      · have HF : Hid (sinceS E k = (2, [])) := Lib.hid (by rw [HA.out, if_pos (.inr (.inr hk2))])
        go_enter Try.func16, Try.ntmps16
        go_wp2_with fail
        refine HC1.out.mono ?_
        rintro e w1 ⟨rfl, hb⟩
        have HB := Lib.hid hb
        clear hb
        go_wp2_with fail
        refine bodyPost_ret (v := .tuple #[.slice none 0 0, .int .i64 2]) (by simp [results, Try.results16, go_sem]) rfl ?_
        rw [HF.out]
        exact ⟨EsPost.none _ _ _, HB.out⟩
      · have HA2 : Hid (sinceS E k = (0, E.drop k.toNat)) := Lib.hid (by rw [HA.out, if_neg]; simp; omega)
        obtain ⟨m, rfl⟩ := Int.eq_ofNat_of_zero_le (show 0 ≤ k by omega)
        rw [Int.toNat_natCast] at HA2
        have hmn : m ≤ n := by omega
        have hrr : ∀ W, (Instr.sliceAt 22 (.slice UA n UC) (some (.int .i64 m)) none none).run Try.prog W = .ok (.slice (restE UA UC m) (n - m) (UC - m)) W := fun W => run_restE UA n UC m hmn W
        have HR := Lib.hid (HU.out.rest (m := m) hmn)
        have hk' : ¬ (m : Int) < 0 := by omega
        clear hk
        go_enter Try.func16, Try.ntmps16
        go_wp2_with fail
        refine HC1.out.mono ?_
        rintro e w1 ⟨rfl, hb⟩
        have HB := Lib.hid hb
        clear hb
        go_wp2_with fail
        refine (rcopy_any (E.drop m) _ w1 (HR.out.below HB.out) (by rw [List.length_drop, HN.out]; omega)).mono ?_
        rintro e w2 ⟨⟨M, Q, rfl, hq, hqe⟩, hb⟩
        obtain ⟨MA, MC, hM⟩ := hq.form
        obtain ⟨mn, hmn2⟩ : ∃ l, Q.length = l := ⟨_, rfl⟩
        rw [hmn2] at hM
        subst hM
        have HB2 := Lib.hid (bl_then HB.out HB.out.size hb)
        have HQ := Lib.hid (hq.mono HB.out.size)
        have HQE := Lib.hid hqe
        clear hq hqe hb hmn2
        go_wp2_with fail
        refine bodyPost_ret (v := .tuple #[.slice MA mn MC, .int .i64 0]) (by simp [results, Try.results16, go_sem]) rfl ?_
        rw [HA2.out]
        exact ⟨⟨_, Q, rfl, HQ.out, HQE.out⟩, HB2.out⟩
end Go.Proofs.Ytgkiedbefogklaa
