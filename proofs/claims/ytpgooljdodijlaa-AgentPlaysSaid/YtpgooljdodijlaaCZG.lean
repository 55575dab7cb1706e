/-
  What is proved: what agents that count do. Conditions: those that each theorem names.
-/
import Derived.Test.YtpgooljdodijlaaCZF
namespace Go.Proofs.Ytpgooljdodijlaa
open Go Go.Sp Go.Conc Go.RowKit
attribute [local irreducible] Code.wps OpsS OpsL Oper.wps Sem.wpm CallM RunM
set_option linter.unusedSimpArgs false
set_option linter.unusedVariables false
theorem ag40 : aggOf Try.prog 40 = some false := by kernel_rfl
theorem sz40 : szOf Try.prog 40 = some 1 := by kernel_rfl
theorem zr40 : zeroOf Try.prog 40 = some (.pointer none) := by kernel_rfl
theorem zr3 : zeroOf Try.prog 3 = some (.int .i64 0) := by kernel_rfl
theorem bd16 : bodied Try.prog 16 = true := by kernel_rfl
theorem bd17 : bodied Try.prog 17 = true := by kernel_rfl
theorem bd18 : bodied Try.prog 18 = true := by kernel_rfl
theorem bodyD_panicF {P : Program} {n : Nat} {base : Nat → Value} {rs : List (Nat × Value)} {m : Mem} {fn : Func} {R : Ending → Mem → Prop} {d : Deferred} {f : FuncId} {cap : List Value} {args : List Value} {v : Value} (ht : d = ⟨.fn (.func f) cap.toArray, args.toArray⟩) (hbd : bodied P f = true)
    (hD : DeferM P f (args ++ cap).toArray m (some v) false (fun m1 => ∃ m'', m''.le m1 ∧ R (.panicked [{ v, recovered := false }]) m'')) : WayE (bodyD P fn R) (.panic [{ v, recovered := false }]) n base rs [d] m := fun a ha => by
  subst ht
  exact .inr ⟨_, f, _, v, rfl, ha.defers, rfl, hbd, .inr (by simpa using hD)⟩
/-- Whole numbers as memory has them. -/
def intsV (l : List Int) : Array Value := (l.map (Value.int .i64)).toArray
theorem intsV_get {l : List Int} {j : Nat} (h : j < l.length) : (intsV l)[j]? = some (.int .i64 (l.getD j 0)) := by simp [intsV, h]
theorem intsV_set (l : List Int) (j : Nat) (v : Int) : (intsV l).setIfInBounds j (.int .i64 v) = intsV (l.set j v) := by
  apply Array.ext'
  simp [intsV, List.map_set]
theorem intsV_inj {a b : List Int} (h : intsV a = intsV b) : a = b := by
  unfold intsV at h
  have := congrArg Array.toList h
  simp only at this
  exact (List.map_inj_right (fun x y h => by cases h; rfl)).1 this
/-- What agents that count share. -/
structure Ch where
  w : Int
  tc : Int
  la : Int
  en : List Int
def cS (ba bw be : Nat) (s : Ch) : Part := fun b => if b = ba then some (arB bw [s.w] s.tc s.la) else if b = bw then some (.cells (wordsV [s.w]) 31) else if b = be then some (.cells (intsV s.en) 3) else none
/-- One has ended. -/
def inc (i : Nat) (s : Ch) : Ch := { s with en := s.en.set i (IntKind.i64.wrap (s.en.getD i 0 + 1)) }
/-- One more. -/
def more (s : Ch) : Ch := { s with w := IntKind.u64.wrap (s.w + 1), tc := IntKind.u64.wrap (s.tc + 1), la := 0 }
def nxt (i r : Nat) (s : Ch) : Ch := if r = 0 then inc i s else s
theorem inc_len (i : Nat) (s : Ch) : (inc i s).en.length = s.en.length := by simp [inc]
theorem nxt_len (i r : Nat) (s : Ch) : (nxt i r s).en.length = s.en.length := by unfold nxt; split <;> simp [inc]
section
variable {ba bw be : Nat}
theorem cS_ba (s : Ch) : cS ba bw be s ba = some (arB bw [s.w] s.tc s.la) := if_pos rfl
theorem cS_bw (h : Three ba bw be) (s : Ch) : cS ba bw be s bw = some (.cells (wordsV [s.w]) 31) := by unfold cS; rw [if_neg h.n1.symm, if_pos rfl]
theorem cS_be (h : Three ba bw be) (s : Ch) : cS ba bw be s be = some (.cells (intsV s.en) 3) := by unfold cS; rw [if_neg h.n2.symm, if_neg h.n3.symm, if_pos rfl]
theorem cS_none {s : Ch} {b : Nat} : cS ba bw be s b = none ↔ b ≠ ba ∧ b ≠ bw ∧ b ≠ be := by
  unfold cS
  split
  · rename_i h; simp [h]
  · split
    · rename_i h; simp [h]
    · split
      · rename_i h; simp [h]
      · rename_i h1 h2 h3; simp [h1, h2, h3]
theorem cS_some {s : Ch} {b : Nat} {o : Obj} (h : cS ba bw be s b = some o) : (b = ba ∧ o = arB bw [s.w] s.tc s.la) ∨ (b = bw ∧ o = .cells (wordsV [s.w]) 31) ∨ (b = be ∧ o = .cells (intsV s.en) 3) := by
  unfold cS at h
  split at h
  · rename_i z; exact .inl ⟨z, (Option.some.inj h).symm⟩
  · split at h
    · rename_i z; exact .inr (.inl ⟨z, (Option.some.inj h).symm⟩)
    · split at h
      · rename_i z; exact .inr (.inr ⟨z, (Option.some.inj h).symm⟩)
      · cases h
theorem cS_has (h3 : Three ba bw be) (s : Ch) : HasAr ba bw (cS ba bw be s) [s.w] s.tc s.la := ⟨h3.n1, cS_ba s, cS_bw h3 s⟩
theorem cS_has_inj {s : Ch} {ws : List Int} {tc la : Int} (h3 : Three ba bw be) (h : HasAr ba bw (cS ba bw be s) ws tc la) : ws = [s.w] ∧ tc = s.tc ∧ la = s.la := by
  obtain ⟨_, e1, e2⟩ := h
  rw [cS_ba] at e1
  rw [cS_bw h3] at e2
  have e3 := wordsV_inj (Obj.cells.inj (Option.some.inj e2)).1
  have e4 := (Obj.cells.inj (Option.some.inj e1)).1
  simp only [Array.mk.injEq, List.cons.injEq, Value.int.injEq, true_and, and_true] at e4
  exact ⟨e3.symm, e4.2.1.symm, e4.2.2.symm⟩
theorem cS_inj {s t : Ch} (h3 : Three ba bw be) (h : cS ba bw be s = cS ba bw be t) : s = t := by
  have hA : HasAr ba bw (cS ba bw be t) [s.w] s.tc s.la := by rw [← h]; exact cS_has h3 s
  obtain ⟨e1, e2, e3⟩ := cS_has_inj h3 hA
  have e4 : some (Obj.cells (intsV s.en) 3) = some (Obj.cells (intsV t.en) 3) := by rw [← cS_be h3 s, ← cS_be h3 t, h]
  have e5 := intsV_inj (Obj.cells.inj (Option.some.inj e4)).1
  cases s; cases t
  simp only [List.cons.injEq, and_true] at e1 e2 e3 e5
  subst e1; subst e2; subst e3; subst e5; rfl
end
/-- The law of agents that count. -/
def countL (ba bw be nl : Nat) (ro : Part) (h3 : Three ba bw be) (h1 : ∀ b o, ro b = some o → RO o) (h2 : ∀ b o, ro b = some o → b ≠ ba ∧ b ≠ bw ∧ b ≠ be) : Lw where
  St := Nat × Nat
  tr := fun st S flag st' S' => match st.2 with
    | 0 => False
    | r + 1 => ∃ s, st' = (st.1, r) ∧ flag = (r == 0) ∧ S = cS ba bw be s ∧ S' = cS ba bw be (nxt st.1 r (more s))
  dd := fun st S S' => ∃ s, S = cS ba bw be s ∧ S' = cS ba bw be (inc st.1 s)
  inv := fun S => ∃ s, S = cS ba bw be s ∧ s.en.length = nl
  inv_bare := by
    rintro S ⟨s, rfl, e2⟩ b o h
    rcases cS_some h with ⟨_, rfl⟩ | ⟨_, rfl⟩ | ⟨_, rfl⟩
    · exact ⟨_, _, rfl⟩
    · exact ⟨_, _, rfl⟩
    · exact ⟨_, _, rfl⟩
  ro := ro
  ro_ro := h1
  ro_inv := by
    rintro S ⟨s, rfl, _⟩ b o h
    exact cS_none.2 (h2 b o h)
set_option maxRecDepth 20000 in
theorem c_endpp (t1 be i : Nat) (en : List Int) (rec : Option Value) (m : Mem) (h1 : m t1 = some (.cells #[.pointer (some ⟨be, i, none⟩)] 40)) (hbe : m be = some (.cells (intsV en) 3)) (hi : i < en.length) :
    DeferM Try.prog 17 #[.pointer (some ⟨t1, 0, none⟩)] m rec false (fun m1 => m1 = m.set be (.cells (intsV (en.set i (IntKind.i64.wrap (en.getD i 0 + 1)))) 3)) := by
  refine deferM_of_wps (args := #[.pointer (some ⟨t1, 0, none⟩)]) Try.func17 rfl ?_
  refine (?_ : CodeE _ _ _ _ _ _ _ _) _ (rep_args (args := [.pointer (some ⟨t1, 0, none⟩)]) rfl rfl)
  refine e_reg rfl ?_
  refine l_y (v := .pointer (some ⟨be, i, none⟩)) (y_loadB rfl ag40 h1 rfl) ?_
  refine l_y (v := .pointer (some ⟨be, i, none⟩)) (y_nilCheck rfl) ?_
  refine l_y (v := .int .i64 (en.getD i 0)) (y_loadB rfl ag3 hbe (intsV_get hi)) ?_
  refine l_y (v := .int .i64 (IntKind.i64.wrap (en.getD i 0 + 1))) (y_int (p := en.getD i 0) (q := 1) rfl rfl rfl) ?_
  refine l_y (v := .pointer (some ⟨be, i, none⟩)) (y_nilCheck rfl) ?_
  refine l_d (d_storeB (v := .int .i64 (IntKind.i64.wrap (en.getD i 0 + 1))) (c' := intsV (en.set i (IntKind.i64.wrap (en.getD i 0 + 1)))) rfl rfl sz3 hbe rfl rfl (by simp [intsV]; omega) (by rw [← intsV_set]; rfl)) ?_
  refine l_end ?_
  exact bodyV_end (l := []) resVals_nil (Mem.le_refl _) rfl
set_option maxRecDepth 20000 in
theorem c_plus1 (w : Int) (m : Mem) : CallM Try.prog 18 #[.int .u64 w] m (Ret (.int .u64 (IntKind.u64.wrap (w + 1))) m) := by
  refine callM_body (args := [.int .u64 w]) Try.func18 rfl rfl rfl ?_
  repeat (refine e_seq ?_)
  refine e_reg rfl ?_
  refine l_y (v := .int .u64 0) y_assign ?_
  refine l_end ?_
  refine e_then ?_
  repeat (refine e_seq ?_)
  refine e_reg rfl ?_
  refine l_y (v := .int .u64 w) y_move ?_
  refine l_y (v := .int .u64 (IntKind.u64.wrap (w + 1))) (y_int (p := w) (q := 1) rfl rfl rfl) ?_
  refine l_y (v := .int .u64 (IntKind.u64.wrap (w + 1))) y_assign ?_
  refine l_end ?_
  refine e_then ?_
  refine e_ret ?_
  exact body_ret (l := [.int .u64 (IntKind.u64.wrap (w + 1))]) (resVals_cons (resVal_tmp rfl) resVals_nil) (Mem.le_refl _) ⟨rfl, rfl⟩
section
variable {ba bw be nl : Nat} {ro : Part} {h3 : Three ba bw be} {h1 : ∀ b o, ro b = some o → RO o} {h2 : ∀ b o, ro b = some o → b ≠ ba ∧ b ≠ bw ∧ b ≠ be}
/-- What is shared is laid anew. -/
theorem carry_cS {ag : Ag} {M S M₁ M₂ : Part} {s1 s2 : Ch} (h : Carry (countL ba bw be nl ro h3 h1 h2) ag M S (cS ba bw be s1) M₁) (hb : ∀ b, b ≠ ba → b ≠ bw → b ≠ be → M₂ b = M₁ b)
    (ha : M₂ ba = some (arB bw [s2.w] s2.tc s2.la)) (hw : M₂ bw = some (.cells (wordsV [s2.w]) 31)) (hl : M₂ be = some (.cells (intsV s2.en) 3)) : Carry (countL ba bw be nl ro h3 h1 h2) ag M S (cS ba bw be s2) M₂ := by
  refine ⟨fun b o i1 i2 i3 i4 i5 => ?_, fun b o hs => ?_, fun b o hs => ?_, ?_, ?_⟩
  · obtain ⟨i6, i7⟩ := h.keep b o i1 i2 i3 i4 i5
    obtain ⟨j1, j2, j3⟩ := cS_none.1 i7
    exact ⟨by rw [hb b j1 j2 j3]; exact i6, cS_none.2 ⟨j1, j2, j3⟩⟩
  · rcases cS_some hs with ⟨rfl, rfl⟩ | ⟨rfl, rfl⟩ | ⟨rfl, rfl⟩
    · exact ha
    · exact hw
    · exact hl
  · obtain ⟨j1, j2, j3⟩ := h2 b o hs
    rw [hb b j1 j2 j3]; exact h.ro b o hs
  · obtain ⟨j1, j2, j3⟩ := cS_none.1 h.a.2
    rw [hb _ j1 j2 j3]; exact h.a.1
  · exact cS_none.2 (cS_none.1 h.a.2)
theorem count_has {S : Part} (h : (countL ba bw be nl ro h3 h1 h2).inv S) : ∃ ws tc la, HasAr ba bw S ws tc la := by
  obtain ⟨s, rfl, _⟩ := h
  exact ⟨[s.w], s.tc, s.la, cS_has h3 s⟩
set_option maxRecDepth 20000 in
set_option maxHeartbeats 4000000 in
/-- An agent that counts. -/
theorem c_count {ag : Ag} {pc M0 S0 : Part} {t1 t2 i n : Nat} {s00 : Ch} {Ob0 : Bool → Nat × Nat → Part → Prop} (hmi : ag.mi = .iface 23 (.pointer (some ⟨ba, 0, none⟩))) (hi : i < nl) (hbig : n < 2 ^ 62)
    (hc0 : Carry (countL ba bw be nl ro h3 h1 h2) ag M0 S0 S0 M0) (hS0 : S0 = cS ba bw be s00) (hlen : s00.en.length = nl) (hob0 : Ob0 (n == 0) (i, n) (cS ba bw be (nxt i n s00)))
    (ht1 : M0 t1 = some (.cells #[.pointer (some ⟨be, i, none⟩)] 40) ∧ S0 t1 = none) (ht2 : M0 t2 = some (.cells #[.int .i64 ((n : Nat) : Int)] 3) ∧ S0 t2 = none) :
    CallM Try.prog 16 #[.iface 133 (.agg #[.pointer (some ⟨ag.a, 0, none⟩)]), .pointer (some ⟨t1, 0, none⟩), .pointer (some ⟨t2, 0, none⟩)] ⟨M0, Zl (countL ba bw be nl ro h3 h1 h2) Try.prog kd ag Ob0⟩ (RunsTo (countL ba bw be nl ro h3 h1 h2) ag pc M0 S0) := by
  refine callM_bodyD (args := [.iface 133 (.agg #[.pointer (some ⟨ag.a, 0, none⟩)]), .pointer (some ⟨t1, 0, none⟩), .pointer (some ⟨t2, 0, none⟩)]) Try.func16 rfl rfl rfl ?_
  have hdone : ∀ (M : Part) (s : Ch) (Ob : Bool → Nat × Nat → Part → Prop) (st : Nat × Nat) (e : Ending), Carry (countL ba bw be nl ro h3 h1 h2) ag M0 S0 (cS ba bw be s) M → s.en.length = nl → Ob true st (cS ba bw be (inc i s)) → ((∃ v, e = .returned v) ∨ e = .panicked [{ v := .iface 130 (.agg #[]), recovered := false }]) →
      RunsTo (countL ba bw be nl ro h3 h1 h2) ag pc M0 S0 e ((⟨M, Zl (countL ba bw be nl ro h3 h1 h2) Try.prog kd ag Ob⟩ : Mem).set be (.cells (intsV (s.en.set i (IntKind.i64.wrap (s.en.getD i 0 + 1)))) 3)) := fun M s Ob st e k1 k2 k3 k4 => by
    have k5 := carry_cS (s2 := inc i s) (M₂ := ((⟨M, Zl (countL ba bw be nl ro h3 h1 h2) Try.prog kd ag Ob⟩ : Mem).set be (.cells (intsV (s.en.set i (IntKind.i64.wrap (s.en.getD i 0 + 1)))) 3)).at_) k1 (fun b j1 j2 j3 => Mem.set_ne _ _ j3)
      (by show ((⟨M, _⟩ : Mem).set be _) ba = _; rw [Mem.set_ne _ _ h3.n2]; exact k1.shared _ _ (cS_ba s)) (by show ((⟨M, _⟩ : Mem).set be _) bw = _; rw [Mem.set_ne _ _ h3.n3]; exact k1.shared _ _ (cS_bw h3 s)) (Mem.set_same _ _ _)
    exact ⟨Ob, st, _, _, k3, ⟨_, rfl, by rw [inc_len]; exact k2⟩, k5.shared, k5.a.1, k5.a.2, fun b o j1 j2 j3 j4 j5 _ => (k5.keep b o j1 j2 j3 j4 j5).1, rfl, k4⟩
  repeat (refine e_seq ?_)
  refine e_reg rfl ?_
  refine l_y (v := .func (.func 17) #[] #[.pointer (some ⟨t1, 0, none⟩)]) (y_makeFunc (l := []) (k := [.pointer (some ⟨t1, 0, none⟩)]) rfl rfl) ?_
  refine l_defer (d := ⟨.fn (.func 17) #[.pointer (some ⟨t1, 0, none⟩)], #[]⟩) (resolve_fn (first := []) (cap := [.pointer (some ⟨t1, 0, none⟩)]) (l := []) rfl rfl) ?_
  refine l_end ?_
  refine e_then ?_
  repeat (refine e_seq ?_)
  refine e_reg rfl ?_
  refine l_y (v := .int .i64 ((0 : Nat) : Int)) y_assign ?_
  refine l_end ?_
  refine e_then ?_
  refine e_block ?_
  refine e_loop (σ := PS (countL ba bw be nl ro h3 h1 h2)) (live := fun s => [(0, .iface 133 (.agg #[.pointer (some ⟨ag.a, 0, none⟩)])), (2, .pointer (some ⟨t2, 0, none⟩)), (4, .int .i64 ((s.k : Nat) : Int))])
    (mem := fun s => ⟨s.M, Zl (countL ba bw be nl ro h3 h1 h2) Try.prog kd ag s.Ob⟩)
    (I := fun s => s.k ≤ n ∧ Carry (countL ba bw be nl ro h3 h1 h2) ag M0 S0 s.S s.M ∧ ∃ s1, s.S = cS ba bw be s1 ∧ s1.en.length = nl ∧ s.Ob (n - s.k == 0) (i, n - s.k) (cS ba bw be (nxt i (n - s.k) s1))) (μ := fun s => n - s.k)
    ⟨0, M0, S0, Ob0⟩ ⟨Nat.zero_le _, hc0, s00, hS0, hlen, hob0⟩ rfl (live_cons rfl (live_cons rfl (live_cons rfl live_nil))) ?_
  rintro ⟨k, M, S, Ob⟩ base ⟨hk, hc, s0, hSs, hls0, hob⟩
  dsimp only at hk hc hSs hob ⊢
  have g1 := hc.keep t1 _ ht1.1 ht1.2 rfl rfl (ro_open _ _)
  have g2 := hc.keep t2 _ ht2.1 ht2.2 rfl rfl (ro_open _ _)
  subst hSs
  repeat (refine e_seq ?_)
  refine e_reg rfl ?_
  refine l_y (v := .int .i64 ((k : Nat) : Int)) y_move ?_
  refine l_y (v := .int .i64 ((n : Nat) : Int)) (y_loadB rfl ag3 g2.1 rfl) ?_
  refine l_y (v := .bool (decide (((k : Nat) : Int) < ((n : Nat) : Int)))) (y_int (p := ((k : Nat) : Int)) (q := ((n : Nat) : Int)) rfl rfl rfl) ?_
  refine l_end ?_
  refine e_then ?_
  refine e_if (t := decide (((k : Nat) : Int) < ((n : Nat) : Int))) rfl (fun hlt => ?_) (fun hlt => ?_)
  case refine_2 =>
    have hke : k = n := by simp at hlt; omega
    subst hke
    rw [Nat.sub_self] at hob
    refine e_exit ?_
    refine w_then rfl ?_
    refine w_then rfl ?_
    refine w_exit ?_
    refine bodyD_end (f := 17) (cap := [.pointer (some ⟨t1, 0, none⟩)]) (args := []) rfl bd17 (c_endpp t1 be i s0.en none _ g1.1 (hc.shared _ _ (cS_be h3 s0)) (by omega)) (fun m1 hm1 => ⟨[], m1, resVals_nil, Mem.le_refl _, ?_⟩)
    subst hm1
    exact hdone M s0 Ob _ _ hc hls0 hob (.inl ⟨_, rfl⟩)
  have hlt' : k < n := by simp at hlt; omega
  obtain ⟨r, hr⟩ : ∃ r, n - k = r + 1 := ⟨n - k - 1, by omega⟩
  have hr' : n - (k + 1) = r := by omega
  rw [hr] at hob
  have hob : Ob false (i, r + 1) (cS ba bw be s0) := by
    have e : nxt i (r + 1) s0 = s0 := if_neg (by omega)
    rw [e] at hob; exact hob
  refine e_skip ?_
  refine e_then ?_
  refine e_seq ?_
  refine e_block ?_
  repeat (refine e_seq ?_)
  refine e_reg rfl ?_
  have rd : Ready (countL ba bw be nl ro h3 h1 h2) ag ba bw Ob (i, r + 1) M (cS ba bw be s0) := ⟨hob, ⟨s0, rfl, hls0⟩, hc.shared, hc.a.1, hc.a.2, hc.ro, hmi, fun S hS => count_has hS⟩
  refine l_y (v := .iface 133 (.agg #[.pointer (some ⟨ag.a, 0, none⟩)])) y_move ?_
  refine l_c (e_invoke (l := [.int .i64 0, .func (.func 18) #[] #[]]) rfl mt133U bd108 rfl) (c_oUpdate 0 18 [] [] (fun _ w => IntKind.u64.wrap (w + 1)) bd18 rd (fun S₁ M₁ ws tc la j1 j2 j3 m1 j4 => c_plus1 _ _)) ?_
  rintro e m' ⟨S₁, M₁, ⟨s1, rfl, hl1⟩, hc1, (⟨ws, tc, la, hA, rfl, rfl⟩ | ⟨rfl, rfl⟩)⟩
  case inr =>
    repeat (first | refine w_block rfl ?_ | refine w_then rfl ?_)
    have hc2 := hc.trans hc1
    have g1' := hc2.keep t1 _ ht1.1 ht1.2 rfl rfl (ro_open _ _)
    refine bodyD_panicF (f := 17) (cap := [.pointer (some ⟨t1, 0, none⟩)]) (args := []) rfl bd17 ((c_endpp t1 be i s1.en _ _ g1'.1 (hc2.shared _ _ (cS_be h3 s1)) (by omega)).mono fun m1 hm1 => ⟨m1, Mem.le_refl _, ?_⟩)
    subst hm1
    exact hdone M₁ s1 _ (i, 0) _ hc2 hl1 ⟨rfl, s1, rfl, rfl⟩ (.inr rfl)
  obtain ⟨rfl, rfl, rfl⟩ := cS_has_inj h3 hA
  have hc2 : Carry (countL ba bw be nl ro h3 h1 h2) ag M0 S0 (cS ba bw be (more s1)) (((⟨M₁, Zl (countL ba bw be nl ro h3 h1 h2) Try.prog kd ag ((countL ba bw be nl ro h3 h1 h2).tr (i, r + 1) (cS ba bw be s1))⟩ : Mem).set ba (arB bw [(more s1).w] (more s1).tc (more s1).la)).set bw (.cells (wordsV [(more s1).w]) 31)).at_ :=
    carry_cS (hc.trans hc1) (fun b j1 j2 j3 => by
      show (((⟨M₁, _⟩ : Mem).set ba _).set bw _) b = _
      rw [Mem.set_ne _ _ j2, Mem.set_ne _ _ j1]) (by
      show (((⟨M₁, _⟩ : Mem).set ba _).set bw _) ba = _
      rw [Mem.set_ne _ _ h3.n1, Mem.set_same]) (Mem.set_same _ _ _) (by
      show (((⟨M₁, _⟩ : Mem).set ba _).set bw _) be = _
      rw [Mem.set_ne _ _ h3.n3.symm, Mem.set_ne _ _ h3.n2.symm]; exact hc1.shared _ _ (cS_be h3 s1))
  have hwrap : IntKind.i64.wrap (((k : Nat) : Int) + 1) = ((k + 1 : Nat) : Int) := by
    simp only [IntKind.wrap, IntKind.signed, IntKind.bits, Bool.true_and]
    split <;> simp_all <;> omega
  refine l_end ?_
  refine w_block rfl ?_
  refine e_then ?_
  refine e_reg rfl ?_
  refine l_y (v := .int .i64 ((k : Nat) : Int)) y_move ?_
  refine l_y (v := .int .i64 ((k + 1 : Nat) : Int)) (y_int (p := ((k : Nat) : Int)) (q := 1) rfl rfl (by rw [← hwrap]; rfl)) ?_
  refine l_y (v := .int .i64 ((k + 1 : Nat) : Int)) y_assign ?_
  refine l_end ?_
  refine Sp.w_round (σ := PS (countL ba bw be nl ro h3 h1 h2)) (s := ⟨k, M, cS ba bw be s0, Ob⟩) (s' := ⟨k + 1, (((⟨M₁, Zl (countL ba bw be nl ro h3 h1 h2) Try.prog kd ag ((countL ba bw be nl ro h3 h1 h2).tr (i, r + 1) (cS ba bw be s1))⟩ : Mem).set ba (arB bw [(more s1).w] (more s1).tc (more s1).la)).set bw (.cells (wordsV [(more s1).w]) 31)).at_, cS ba bw be (more s1), (countL ba bw be nl ro h3 h1 h2).tr (i, r + 1) (cS ba bw be s1)⟩) ?_ ?_ ?_ ?_
  · refine ⟨hlt', hc2, more s1, rfl, hl1, ?_⟩
    dsimp only
    rw [hr']
    exact ⟨s1, rfl, rfl, rfl, rfl⟩
  · dsimp only; omega
  · rfl
  · exact fun _ => live_cons rfl (live_cons rfl (live_cons rfl live_nil))
end
end Go.Proofs.Ytpgooljdodijlaa
