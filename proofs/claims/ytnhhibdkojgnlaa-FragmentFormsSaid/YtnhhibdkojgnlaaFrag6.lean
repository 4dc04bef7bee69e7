/- What is proved: what Split of package fragment answers when it is called; conditions: those typed. -/
import Derived.Test.YtnhhibdkojgnlaaFrag5
set_option linter.unusedSimpArgs false
set_option linter.unusedVariables false
namespace Go.Proofs.Ytnhhibdkojgnlaa
open Go.RowKit
set_option maxRecDepth 100000
set_option maxHeartbeats 8000000
/-- Where the rest of a slice begins. -/
def restA (A : Option Addr) (cap n : Nat) : Option Addr := if cap = n then A else A.map (·.add n)
theorem run_slice3 (A : Option Addr) (l cap n m : Nat) (hn : n ≤ m) (hm : m ≤ cap) (W : World) : (Instr.slice 28 (.slice A l cap) (some (.int .i64 n)) (some (.int .i64 m)) (some (.int .i64 m))).run Try.prog W = .ok (.slice (restA A m n) (m - n) (m - n)) W := by
  obtain ⟨i, hi, hz⟩ : ∃ i, Try.prog.info? 5 = some i ∧ i.size = 1 := by
    obtain ⟨i, h, h2⟩ := Option.map_eq_some_iff.1 (show (Try.prog.info? 5).map (fun i => i.size) = some 1 by kernel_rfl)
    exact ⟨i, h, h2⟩
  have h1 : (n : Int) ≤ m := by omega
  have h2 : (m : Int) ≤ cap := by omega
  simp [Instr.slice, run_underlying Try.underlying28, Instr.sliceBounds, run_sliceBound, sizeOf, typeInfo, hi, h1, h2, hz, restA]
theorem run_slice3At (A : Option Addr) (l cap n m : Nat) (hn : n ≤ m) (hm : m ≤ cap) (W : World) : (Instr.sliceAt 28 (.slice A l cap) (some (.int .i64 n)) (some (.int .i64 m)) (some (.int .i64 m))).run Try.prog W = .ok (.slice (restA A m n) (m - n) (m - n)) W := by
  rw [← run_slice3 A l cap n m hn hm W]
  simp [Instr.sliceAt, run_underlying Try.underlying28]
theorem BB.sub {w : World} {A : Option Addr} {cap : Nat} {bs : List Int} (h : BB w (.slice A bs.length cap) bs) {n m : Nat} (hn : n ≤ m) (hm : m ≤ bs.length) : BB w (.slice (restA A m n) (m - n) (m - n)) ((bs.take m).drop n) := by
  obtain ⟨h1, h2, A', cap', e, hr, h3, h4, h5⟩ := h
  simp only [Value.slice.injEq] at e
  obtain ⟨rfl, -, rfl⟩ := e
  have hl : ((bs.take m).drop n).length = m - n := by rw [List.length_drop, List.length_take]; omega
  refine ⟨(h1.take m).drop n, by omega, restA A m n, m - n, by rw [hl], ?_, ?_, by omega, by omega⟩
  · rw [hl]
    exact (hr.take hm).drop (c := m) hn (Nat.le_refl _)
  · intro e
    have hA : A = none := by
      unfold restA at e
      split at e
      · exact e
      · cases A
        · rfl
        · simp at e
    have := h3 hA
    omega
/-- How many parts. -/
def splitN (l z : Nat) : Nat := max 1 ((l + z - 1) / z)
theorem splitN_at {l z i : Nat} (hz : 0 < z) (hi : i < splitN l z) : i * z ≤ l ∧ i * z ≤ (i + 1) * z := by
  unfold splitN at hi
  refine ⟨?_, Nat.mul_le_mul_right _ (by omega)⟩
  rcases Nat.eq_zero_or_pos i with rfl | h0
  · simp
  · have h1 : i + 1 ≤ (l + z - 1) / z := by omega
    have h2 := Nat.mul_le_mul_right z h1
    have h3 := Nat.div_mul_le_self (l + z - 1) z
    rw [Nat.add_mul, Nat.one_mul] at h2
    omega
/-- A part of bytes that are split. -/
def partS (bs : List Int) (z i : Nat) : Int × Bool × List Int := ((i : Int), decide (i + 1 = splitN bs.length z), (bs.take (min ((i + 1) * z) bs.length)).drop (i * z))
def HP.sg (p : HP) : Int × Bool × List Int := (p.n, p.last, p.bs)
def flatP (id : Int) (P : List HP) : List Value := P.flatMap fun p => (prow id p).toList
/-- A slice of parts in the call's own memory. -/
structure OwP (w : World) (base : Nat) (v : Value) (id : Int) (P : List HP) : Prop where
  row : w.ownsRow base 33 4 v P.length (flatP id P)
  bytes : ∀ p ∈ P, OwB w base p.v p.bs ∧ okB p.bs ∧ p.bs.length ≤ 140737488355328
  ap : ∀ p ∈ P, ∀ b, p.v.ownBlock = some b → v.ownBlock ≠ some b
theorem rows_blk {w : World} {base size n : Nat} {e : TypeId} {v : Value} {xs : List Value} (h : w.ownsRow base e size v n xs) {b : Nat} (hv : v.ownBlock = some b) : base ≤ b ∧ b < w.heap.size := by
  obtain ⟨_, ⟨h1, _⟩ | ⟨g, cap, cur, h1, hb, hh, _⟩⟩ := h
  · rw [h1] at hv; cases hv
  · rw [h1] at hv
    obtain rfl : g = b := by simpa [Value.ownBlock] using hv
    exact ⟨hb, lt_of_heap hh⟩
theorem flatP_app (id : Int) (P Q : List HP) : flatP id (P ++ Q) = flatP id P ++ flatP id Q := by simp [flatP]
theorem flatP_len (id : Int) (P : List HP) : (flatP id P).length = P.length * 4 := by
  induction P with
  | nil => rfl
  | cons p P ih =>
    have e : flatP id (p :: P) = (prow id p).toList ++ flatP id P := rfl
    rw [e, List.length_append, ih, List.length_cons]
    simp [prow]
    omega
theorem OwP.nil (w : World) (base : Nat) (id : Int) : OwP w base (.slice none 0 0) id [] := ⟨World.ownsRow_nil _ _ _ _, by simp, by simp⟩
theorem OwP.below {w w1 : World} {base : Nat} {v : Value} {id : Int} {P : List HP} (h : OwP w base v id P) (hb : Below w.heap.size w w1) : OwP w1 base v id P :=
  ⟨owns_keep h.row (fun b _ hl => hb.block b hl), fun p hp => ⟨(h.bytes p hp).1.below hb, (h.bytes p hp).2⟩, h.ap⟩
theorem wpList_appP {ops : Array Oper} {rest : List Oper} {o : Oper} {a : Act} {Q : Exit → Act → World → Prop} {w : World} {base : Nat} {id : Int} (hgd : o.guard = none) (s x : Operand)
    (ho : o.op = .call { callee := .builtin .append, args := #[s, x], argTypes := #[22, 22] }) (v : Value) (P : List HP) (p : HP) (X : Nat) (t : TypeId) (hs : a.eval s = v) (hown : OwP w base v id P) (hx : a.eval x = .slice (some ⟨X, 0, none⟩) 1 1)
    (hX : w.heap[X]? = some (.cells (prow id p) t (0, 0))) (hp : OwB w base p.v p.bs ∧ okB p.bs ∧ p.bs.length ≤ 140737488355328) (hap : ∀ b, p.v.ownBlock = some b → v.ownBlock ≠ some b) (hl : P.length ≤ 1000000) (hbase : base ≤ w.heap.size)
    (h : ∀ v' w', OwP w' base v' id (P ++ [p]) → w.grownBy w' v.ownBlock → wpList Try.prog ops Q rest (a.put o.dst v') w') : wpList Try.prog ops Q (o :: rest) a w := by
  obtain ⟨i, hi, hz, h1, h8⟩ : ∃ i, Try.prog.info? 33 = some i ∧ i.zero = some (partV 0 0 false (.slice none 0 0)) ∧ i.size = 4 ∧ i.bytes = 48 := by
    obtain ⟨i, h, h2⟩ := Option.map_eq_some_iff.1 (show (Try.prog.info? 33).map (fun i => (i.zero, i.size, i.bytes)) = some (some (partV 0 0 false (.slice none 0 0)), 4, 48) by kernel_rfl)
    simp only [Prod.mk.injEq] at h2
    exact ⟨i, h, h2⟩
  refine wpList_append_own_at w hgd s x 22 ho base 33 i _ 4 48 Try.underlying22 hi hz h1 h8 rfl (by decide) v _ _ hs hown.row ⟨X, 0, none⟩ 1 1 (prow id p).toList hx rfl ?_ ?_ (by unfold maxLen; omega) (by omega) hbase ?_
  · intro j u hj
    have e2 : (⟨X, 0, none⟩ : Addr).add j = ⟨X, 0 + j, none⟩ := by unfold Addr.add; split <;> simp_all
    rw [e2, cell_of_row _ _ _ _ _ _ hX, Nat.zero_add, ← Array.getElem?_toList]
    exact hj
  · intro u hu
    have := prow_one (id := id) (p := p) (hp.1.rd hp.2.1 hp.2.2)
    rw [Array.all_eq_true_iff_forall_mem] at this
    exact this u (by simpa using hu)
  · intro v' w' k1 k2 _ k4
    refine h v' w' ⟨?_, ?_, ?_⟩ k2
    · rw [flatP_app, List.length_append]
      have e : flatP id [p] = (prow id p).toList := by simp [flatP]
      rw [e]
      exact k1
    · intro q hq
      rcases List.mem_append.1 hq with hq | hq
      · exact ⟨(hown.bytes q hq).1.keep (fun b hb hlt => k2.block b hlt (fun e => hown.ap q hq b hb e.symm)), (hown.bytes q hq).2⟩
      · obtain rfl := List.mem_singleton.1 hq
        exact ⟨hp.1.keep (fun b hb hlt => k2.block b hlt (fun e => hap b hb e.symm)), hp.2⟩
    · intro q hq b hb
      rcases k4 with k4 | k4
      · rw [k4]
        rcases List.mem_append.1 hq with hq | hq
        · exact hown.ap q hq b hb
        · obtain rfl := List.mem_singleton.1 hq
          exact hap b hb
      · rw [k4]
        intro e
        have hlt : b < w.heap.size := by
          rcases List.mem_append.1 hq with hq | hq
          · exact ((hown.bytes q hq).1.own_blk hb).2
          · obtain rfl := List.mem_singleton.1 hq
            exact (hp.1.own_blk hb).2
        simp only [Option.some.injEq] at e
        omega
/-- What Split answers. -/
def SplitOk (w' : World) (base : Nat) (id : Int) (bs : List Int) (size : Int) (vr : Value) (er : Int) : Prop :=
  ((size < 1 ∨ 1024 < size) ∧ er = 2 ∧ vr = .slice none 0 0) ∨ ∃ z : Nat, size = z ∧ 0 < z ∧ z ≤ 1024 ∧ ((256 < splitN bs.length z ∧ er = 4 ∧ vr = .slice none 0 0) ∨ (splitN bs.length z ≤ 256 ∧ er = 0 ∧ ∃ P : List HP, OwP w' base vr id P ∧ P.map HP.sg = (List.range (splitN bs.length z)).map (partS bs z)))
theorem split_any (id : Int) (v : Value) (bs : List Int) (size : Int) (w : World) (hv : BB w v bs) :
    Calls Try.prog 18 #[.int .u64 id, v, .int .i64 size] w fun e w' => (∃ vr er, e = .returned (.tuple #[vr, .int .i64 er]) ∧ SplitOk w' w.heap.size id bs size vr er) ∧ Below w.heap.size w w' := by
  obtain ⟨l, hl⟩ : ∃ l, bs.length = l := ⟨_, rfl⟩
  have hlb := hv.len
  have HV := Lib.hid hv
  obtain ⟨_, _, A, cap, e, _, _, hcp, hcm⟩ := hv
  rw [hl] at hlb e hcp
  subst e
  have HLN := Lib.hid hl
  clear hl
  by_cases h1 : size < 1
  · go_enter Try.func18, Try.ntmps18
    go_wp2_with fail
    exact bodyPost_ret (v := .tuple #[.slice none 0 0, .int .i64 2]) (by simp [results, Try.results18, go_sem]) rfl ⟨⟨_, _, rfl, .inl ⟨.inl h1, rfl, rfl⟩⟩, Below.refl _ _⟩
  · by_cases h2 : 1024 < size
    · go_enter Try.func18, Try.ntmps18
      go_wp2_with fail
      exact bodyPost_ret (v := .tuple #[.slice none 0 0, .int .i64 2]) (by simp [results, Try.results18, go_sem]) rfl ⟨⟨_, _, rfl, .inl ⟨.inr h2, rfl, rfl⟩⟩, Below.refl _ _⟩
    · obtain ⟨z, rfl⟩ := Int.eq_ofNat_of_zero_le (show 0 ≤ size by omega)
      have hz0 : 0 < z := by omega
      have hz1 : z ≤ 1024 := by omega
      have hzi : ¬ (z : Int) = 0 := by omega
      obtain ⟨q, hq⟩ : ∃ q, (l + z - 1) / z = q := ⟨_, rfl⟩
      obtain ⟨n, hn⟩ : ∃ n, splitN l z = n := ⟨_, rfl⟩
      have hnq : (if (1 : Int) < (q : Int) then (q : Int) else 1) = (n : Int) := by
        rw [← hn]
        unfold splitN
        rw [hq]
        split <;> omega
      have hql : q ≤ l + z - 1 := by rw [← hq]; exact Nat.div_le_self _ _
      have hw1 : IntKind.i64.wrap ((l : Int) + (z : Int)) = (l : Int) + (z : Int) := IntWalk.i64_in _ (by omega)
      have hw2 : IntKind.i64.wrap ((l : Int) + (z : Int) - 1) = ((l + z - 1 : Nat) : Int) := (IntWalk.i64_in _ (by omega)).trans (by omega)
      have hdv : Int.tdiv ((l + z - 1 : Nat) : Int) (z : Int) = (q : Int) := by rw [← hq]; exact (Int.ofNat_tdiv _ _)
      have hw3 : IntKind.i64.wrap (q : Int) = (q : Int) := IntWalk.i64_in _ (by omega)
      have HN := Lib.hid hn
      generalize l + z - 1 = lz at *
      clear hq hn
      go_enter Try.func18, Try.ntmps18
      by_cases h3 : 256 < n
      · have h3i : (256 : Int) < (n : Int) := by omega
        go_wp2_with fail
        exact bodyPost_ret (v := .tuple #[.slice none 0 0, .int .i64 4]) (by simp [results, Try.results18, go_sem]) rfl ⟨⟨_, _, rfl, .inr ⟨z, rfl, hz0, hz1, .inl ⟨by rw [HLN.out, HN.out]; exact h3, rfl, rfl⟩⟩⟩, Below.refl _ _⟩
      · have h3i : ¬ (256 : Int) < (n : Int) := by omega
        go_wp2_with fail
        have HV0 := HV
        go_loopw [30, 9] (fun i vv wr => ∃ k : Nat, k ≤ n ∧ i = .int .i64 k ∧ ∃ P : List HP, OwP wr w.heap.size vv id P ∧ P.map HP.sg = (List.range k).map (partS bs z) ∧ Below w.heap.size w wr) (fun i _ _ => n - (intOf i).toNat)
        case atStart => exact ⟨0, by omega, rfl, [], OwP.nil _ _ _, rfl, Below.refl _ _⟩
        case round =>
          obtain ⟨k, hk, rfl, P, hP, hsg, hL⟩ := hrel
          have HP0 := Lib.hid hP
          have HSG := Lib.hid hsg
          have HL := Lib.hid hL
          have hPl : P.length = k := by have := congrArg List.length hsg; simpa using this
          clear hP hsg hL
          by_cases hkn : k < n
          · have hki : (k : Int) < (n : Int) := by omega
            have hat := splitN_at (l := l) (i := k) hz0 (by rw [HN.out]; exact hkn)
            have hb1 : k * z ≤ 256 * 1024 := Nat.mul_le_mul (by omega) hz1
            have hb2 : (k + 1) * z ≤ 256 * 1024 := Nat.mul_le_mul (by omega) hz1
            obtain ⟨f, hf⟩ : ∃ f, k * z = f := ⟨_, rfl⟩
            obtain ⟨g, hg⟩ : ∃ g, (k + 1) * z = g := ⟨_, rfl⟩
            obtain ⟨t, ht⟩ : ∃ t, min g l = t := ⟨_, rfl⟩
            have HF := Lib.hid hf
            have HG := Lib.hid hg
            have HTT := Lib.hid ht
            rw [hf] at hat hb1
            rw [hg] at hat hb2
            have hft : f ≤ t := by omega
            have htl : t ≤ l := by omega
            have hmi : (if (l : Int) < (g : Int) then (l : Int) else (g : Int)) = (t : Int) := by split <;> omega
            have hmi2 : (if l < g then (l : Int) else (g : Int)) = (t : Int) := by split <;> omega
            have hwf : IntKind.i64.wrap ((k : Int) * (z : Int)) = (f : Int) := (IntWalk.i64_in _ (by rw [← hf] at hb1; have : ((k * z : Nat) : Int) = (k : Int) * (z : Int) := Int.natCast_mul _ _; omega)).trans (by rw [← hf]; exact (Int.natCast_mul _ _).symm)
            have hwk : IntKind.i64.wrap ((k : Int) + 1) = (k : Int) + 1 := IntWalk.i64_in _ (by omega)
            have hwg : IntKind.i64.wrap (((k : Int) + 1) * (z : Int)) = (g : Int) := by
              have e : ((k : Int) + 1) * (z : Int) = ((g : Nat) : Int) := by rw [← hg]; simp
              rw [e]
              exact IntWalk.i64_in _ (by omega)
            have hwn : IntKind.i64.wrap ((n : Int) - 1) = (n : Int) - 1 := IntWalk.i64_in _ (by omega)
            obtain ⟨b, hb⟩ : ∃ b, decide (k + 1 = n) = b := ⟨_, rfl⟩
            have hbe : ((k : Int) == (n : Int) - 1) = b := by
              rw [← hb, Bool.eq_iff_iff]
              simp only [beq_iff_eq, decide_eq_true_eq]
              omega
            have HB := Lib.hid hb
            have hs3 := fun W => run_slice3At A l cap f t hft (by omega) W
            have hbb : BB wr (.slice (restA A t f) (t - f) (t - f)) ((bs.take t).drop f) := by
              have := HV.out.below HL.out
              rw [← HLN.out] at this htl
              exact this.sub hft htl
            have HBB := Lib.hid hbb
            generalize restA A t f = A1 at *
            clear hbb hf hg ht hb hat hb1 hb2
            go_wp2_with fail
            refine (clone_bytes _ _ wr HBB.out).mono ?_
            rintro e wc ⟨⟨vc, rfl, ho⟩, hbc⟩
            have hP1 := HP0.out.below hbc
            have hL1 := bl_then HL.out HL.out.size hbc
            have ho2 := ho.mono (b' := w.heap.size) HL.out.size
            obtain ⟨A3, c3, hv3⟩ := ho.slice
            have hapc : ∀ b, vc.ownBlock = some b → u9.ownBlock ≠ some b := fun b hb e => by
              have h1 := (ho.own_blk hb).1
              have h2 := (rows_blk HP0.out.row e).2
              omega
            obtain ⟨bs2, hbs2⟩ : ∃ bs2, (bs.take t).drop f = bs2 := ⟨_, rfl⟩
            rw [hbs2] at ho2 HBB hv3
            have HPS : Hid (partS bs z k = ((k : Int), b, bs2)) := Lib.hid (by
              unfold partS
              rw [HLN.out, HN.out, HB.out, HF.out, HG.out, HTT.out, hbs2])
            have HO := Lib.hid ho2
            have HP1 := Lib.hid hP1
            have HL1 := Lib.hid hL1
            have HAP := Lib.hid hapc
            have HOK := Lib.hid HBB.out.ok
            have HLE := Lib.hid HBB.out.len
            have HSZ := Lib.hid hL1.size
            subst hv3
            clear hbc hP1 hL1 ho2 hapc ho hbs2 HBB HP0 HL HF HG HTT HB
            obtain ⟨X, hX⟩ : ∃ X, wc.heap.size = X := ⟨_, rfl⟩
            have hbx : Below wc.heap.size wc (wc.alloc (.cells #[.int .u64 id, .int .i64 k, .bool b, .slice A3 bs2.length c3] 33)) := by (repeat' (first | (with_reducible exact Below.refl _ _) | (with_reducible assumption) | (with_reducible refine Below.alloc ?_ ?_ _) | (with_reducible refine below_setRow ?_ ?_ _) | (with_reducible refine bl_drew ?_) | (with_reducible refine bl_drewN ?_ _) | (with_reducible refine Below.setCell ?_ ?_ _) | (with_reducible refine bl_then ?_ ?_ hb) | (with_reducible refine bl_then ?_ ?_ hb1) | (with_reducible refine bl_then ?_ ?_ hb2) | (with_reducible refine bl_then ?_ ?_ hb3) | (with_reducible refine bl_then ?_ ?_ hb4) | (with_reducible refine bl_then ?_ ?_ hb5) | (with_reducible refine bl_then ?_ ?_ hb6) | (with_reducible refine bl_then ?_ ?_ hb7) | (with_reducible refine bl_then ?_ ?_ hb8) | (with_reducible exact Nat.le_refl _) | omega | (simp only [World.size_alloc, World.size_setCell, World.size_drew, size_setRow]; omega) | (simp; omega) | (simp; done)))
            go_wp2_with (at_builtin; refine wpList_appP (base := w.heap.size) (id := id) rfl _ _ rfl u9 P ⟨(k : Int), b, .slice A3 bs2.length c3, bs2⟩ X 33 rfl ?_ ?_ ?_ ?_ ?_ ?_ ?_ ?_)
            · exact HP1.out.below hbx
            · first | rfl | (rw [hX])
            · rw [← hX]; exact heap_alloc_last _ _
            · exact ⟨HO.out.below hbx, HOK.out, HLE.out⟩
            · exact HAP.out
            · omega
            · have := HSZ.out; simp; omega
            · intro v' w' h1 h2
              have HL2 := Lib.hid ((HL1.out.alloc HSZ.out (.cells #[.int .u64 id, .int .i64 k, .bool b, .slice A3 bs2.length c3] 33)).grown h2 (by have := HSZ.out; simp; omega) (fun j hj => (rows_blk HP1.out.row hj).1))
              have hsg2 : (P ++ [(⟨(k : Int), b, .slice A3 bs2.length c3, bs2⟩ : HP)]).map HP.sg = (List.range (k + 1)).map (partS bs z) := by
                rw [List.map_append, HSG.out, List.range_succ, List.map_append, List.map_singleton, List.map_singleton, HPS.out]
                rfl
              clear h2
              go_wp2_with fail
              go_roundw
              case rel =>
                first
                  | exact ⟨k + 1, by omega, by go_num, _, h1, hsg2, HL2.out⟩
                  | ((repeat apply Exists.intro); refine ⟨?_, rfl⟩; exact ⟨k + 1, by omega, by go_num, _, h1, hsg2, HL2.out⟩)
              case measure => first | (simp [intOf]; done) | (simp [intOf]; omega)
          · obtain rfl : k = n := by omega
            obtain ⟨A0, c0, hv0⟩ : ∃ A c, u9 = .slice A P.length c := by
              obtain ⟨_, ⟨h1, h2⟩ | ⟨g, cap, cur, h1, _⟩⟩ := HP0.out.row
              · exact ⟨none, 0, by rw [h1, h2]⟩
              · exact ⟨_, _, h1⟩
            subst hv0
            go_wp2_with fail
            exact bodyPost_ret (v := .tuple #[.slice A0 P.length c0, .int .i64 0]) (by simp [results, Try.results18, go_sem]) rfl ⟨⟨_, _, rfl, .inr ⟨z, rfl, hz0, hz1, .inr ⟨by rw [HLN.out, HN.out]; omega, rfl, P, HP0.out, by rw [HLN.out, HN.out]; exact HSG.out⟩⟩⟩, HL.out⟩
end Go.Proofs.Ytnhhibdkojgnlaa
