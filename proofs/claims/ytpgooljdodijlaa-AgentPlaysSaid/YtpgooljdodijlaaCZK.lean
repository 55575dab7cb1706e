/-
  What is proved: slices of the one who steps agents that count. Conditions: those that each theorem names.
-/
import Derived.Test.YtpgooljdodijlaaCZJ
namespace Go.Proofs.Ytpgooljdodijlaa
open Go Go.Sp Go.Conc Go.RowKit
attribute [local irreducible] Code.wps OpsS OpsL Oper.wps Sem.wpm CallM RunM
set_option linter.unusedSimpArgs false
set_option linter.unusedVariables false
structure B2 where
  k : Nat
  sum : Nat
  left : List Nat
  tc : Int
  la : Int
  tab : Nat → Option (Ag × (Nat × Nat))
  M : Part
theorem intRem {x y : Nat} (hy : y ≠ 0) : intOp .rem .i64 ((x : Nat) : Int) ((y : Nat) : Int) = some (.int .i64 ((x % y : Nat) : Int)) := by
  have h : ¬ ((y : Nat) : Int) = 0 := by omega
  show (if ((y : Nat) : Int) = 0 then none else some (Value.int .i64 (((x : Nat) : Int).tmod ((y : Nat) : Int)))) = _
  rw [if_neg h, Int.tmod_eq_emod_of_nonneg (Int.natCast_nonneg x)]
  rfl
theorem int_eq_self {k : IntKind} (x : Int) : intOp .eql k x x = some (.bool true) := by simp [intOp]
theorem u8s_set (l : List Nat) (j x : Nat) : (u8s l).set j (.int .u8 ((x : Nat) : Int)) = u8s (l.set j x) := by simp [u8s, List.map_set]
theorem u8s_get {l : List Nat} {j x : Nat} (h : l[j]? = some x) : (u8s l)[j]? = some (.int .u8 ((x : Nat) : Int)) := by simp [u8s, h]
theorem ptrs_get {gs : List Ag} {j : Nat} {a : Ag} (h : gs[j]? = some a) : (ptrs gs)[j]? = some (.pointer (some ⟨a.a, 0, none⟩)) := by simp [ptrs, h]
theorem ptrs_snoc (gs : List Ag) (a : Ag) : ptrs (gs ++ [a]) = ptrs gs ++ [.pointer (some ⟨a.a, 0, none⟩)] := by simp [ptrs]
section
variable {ba bw be : Nat} {tl : List Nat} {ro : Part} {h3 : Three ba bw be} {h1 : ∀ b o, ro b = some o → RO o} {h2 : ∀ b o, ro b = some o → b ≠ ba ∧ b ≠ bw ∧ b ≠ be}
variable {gs : List Ag} {av lv : Value} {ab lb : Option Nat} {ml left : List Nat} {sum : Nat} {tc la : Int} {tab : Nat → Option (Ag × (Nat × Nat))} {M : Part} {N : Nat} {W : World} {Post : Value → World → Prop}
/-- Goroutine 0 writes what is left. -/
theorem Co.wrote (C : Co ba bw be tl ro h3 h1 h2 gs av ab lv lb ml left sum tc la tab M) {b : Nat} {rest : List Value} {st : Stp} (hb : lb = some b) (hm : M b = some (.cells (u8s ml ++ rest).toArray 5)) {j x : Nat} :
    Co ba bw be tl ro h3 h1 h2 gs av ab lv lb (ml.set j x) left sum tc la tab ((Mem.mk M st).set b (.cells (u8s (ml.set j x) ++ rest).toArray 5)).at_ := by
  obtain ⟨j1, j2, j3, j4⟩ := C.ol b hb
  have hne : ∀ c o, M c = some o → c ≠ b → ((Mem.mk M st).set b (.cells (u8s (ml.set j x) ++ rest).toArray 5)) c = some o := fun c o h hc => Mem.miss hc h
  refine ⟨C.n1, C.n2, by simp [C.n3], C.small, C.mn.own fun c o h q => hne c o h fun e => ?_, C.sa.keep fun c o hc h => hne c o h fun e => ?_, ?_, C.oa, C.ol, C.nal⟩
  · subst e
    rcases q with q | q | ⟨a, ha, q⟩
    · have := cS_none (s := ⟨((sum : Nat) : Int), tc, la, enOf left⟩).2 ⟨j1, j2, j3⟩
      rw [this] at q; cases q
    · have := C.mn.ro c o q
      rw [hm] at this
      obtain rfl := Option.some.inj this
      exact ro_open _ _ (h1 _ _ q)
    · exact j4 a ha q
  · subst e; exact C.nal c hc hb
  · rcases C.sl with ⟨q, _⟩ | ⟨b', c, rest', q1, q2, q3, q4, q5, q6⟩
    · rw [hb] at q; cases q
    · obtain rfl : b = b' := Option.some.inj (hb.symm.trans q1)
      have hr : rest' = rest := by
        have e := q3.symm.trans hm
        have e2 := congrArg Array.toList (Obj.cells.inj (Option.some.inj e)).1
        simpa using e2
      subst hr
      exact .inr ⟨b, c, rest', q1, q2, Mem.set_same _ _ _, by simp [u8s] at q4 ⊢; exact q4, by simp [u8s] at q5 ⊢; exact q5, q6⟩
theorem Co.begin {st : Stp} {v : Value} {m' : Mem} (H : Mn (CL ba bw be tl ro h3 h1 h2) gs (stsOf (tl.take tl.length)) tab M (cS ba bw be (st1 tl tl.length))) (hgl : gs.length = tl.length) (hsm : ∀ x ∈ tl, x < 256)
    (sa : SlB ⟨M, fun _ _ _ _ _ => True⟩ 22 1 av tl.length ab (ptrs gs)) (oa : ∀ b, ab = some b → cS ba bw be (st1 tl tl.length) b = none ∧ ∀ a ∈ gs, b ≠ a.a) (happ : Appended ⟨M, st⟩ 5 1 0 tl.length none [] (u8s tl) v m') :
    ∃ lb M', m' = ⟨M', st⟩ ∧ Co ba bw be tl ro h3 h1 h2 gs av ab v lb tl tl 0 0 (-1) tab M' := by
  have e1 : st1 tl tl.length = ⟨((0 : Nat) : Int), 0, -1, enOf tl⟩ := by unfold st1; simp
  rw [List.take_length, e1] at H
  rw [e1] at oa
  have oa' : ∀ b, ab = some b → b ≠ ba ∧ b ≠ bw ∧ b ≠ be ∧ ∀ a ∈ gs, b ≠ a.a := fun b hb => ⟨(cS_none.1 (oa b hb).1).1, (cS_none.1 (oa b hb).1).2.1, (cS_none.1 (oa b hb).1).2.2, (oa b hb).2⟩
  rcases happ with ⟨_, _, hz, rfl, rfl⟩ | ⟨b, c, rest, rfl, rfl, hl, hc, hb⟩
  · have htl : tl = [] := by simpa [u8s] using hz
    subst htl
    exact ⟨none, M, rfl, hgl, rfl, rfl, hsm, H, sa, .inl ⟨rfl, rfl, rfl, rfl⟩, oa', fun _ h => (by cases h), fun b hb => by simp⟩
  · have hb : (Mem.mk M st) b = none := hb.resolve_left (by simp)
    have up : ∀ b' o, M b' = some o → ((Mem.mk M st).set b (.cells ([] ++ u8s tl ++ rest).toArray 5)) b' = some o := up_new (fun _ _ h => h) hb
    have hbS : ∀ {o}, M b ≠ some o := fun h => by rw [show M b = none from hb] at h; cases h
    refine ⟨some b, _, rfl, hgl, rfl, rfl, hsm, H.own fun b' o h _ => up b' o h, sa.keep fun b' o _ h => up b' o h, ?_, oa', ?_, ?_⟩
    · exact .inr ⟨b, c, rest, rfl, by rw [Nat.zero_add], Mem.set_same _ _ _, by simp [u8s], by simpa using hl, by simpa using hc⟩
    · intro b' h
      cases h
      refine ⟨fun e => ?_, fun e => ?_, fun e => ?_, fun a ha e => ?_⟩
      · subst e; exact hbS (H.sh _ _ (cS_ba _))
      · subst e; exact hbS (H.sh _ _ (cS_bw h3 _))
      · subst e; exact hbS (H.sh _ _ (cS_be h3 _))
      · obtain ⟨j, hj, rfl⟩ := List.getElem_of_mem ha
        have hl : j < (stsOf tl).length := by have e := H.len; rw [← e] at hj; exact hj
        have := (H.ag j _ _ (List.getElem?_eq_getElem hj) (List.getElem?_eq_getElem hl)).1
        rw [← e] at this
        exact hbS this
    · intro b' hb' e
      cases e
      obtain ⟨c', hc'⟩ := sa.cells hb'
      exact hbS hc'
/-- Behind a birth the slice of agents stands. -/
theorem count_sl {k : Nat} {M' : Part} {st : Stp} {b16 : Nat} {X : Obj} (sa : SlB ⟨M, fun _ _ _ _ _ => True⟩ 22 1 av k ab (ptrs gs)) (oa : ∀ b, ab = some b → cS ba bw be (st1 tl k) b = none ∧ ∀ a ∈ gs, b ≠ a.a)
    (K : ∀ b o, M b = some o → cS ba bw be (st1 tl k) b = none → o.isChan = false → ¬ RO o → M' b = some o ∧ cS ba bw be (st1 tl (k + 1)) b = none) (h16 : (Mem.mk M' st) b16 = none) : SlB ((Mem.mk M' st).set b16 X) 22 1 av k ab (ptrs gs) := by
  refine sa.keep fun b o hb h => ?_
  obtain ⟨c, hc⟩ := sa.cells hb
  rw [hc] at h; obtain rfl := Option.some.inj h
  have := (K b _ hc (oa b hb).1 rfl (ro_open _ _)).1
  exact Mem.miss (Mem.ne_none (m := ⟨M', st⟩) this h16) this
theorem count_next {k : Nat} {M' : Part} {st : Stp} {b16 : Nat} {ag : Ag} {tab' : Nat → Option (Ag × (Nat × Nat))} {v8 : Value} {m8 : Mem} (I : Inv1 (ba := ba) (bw := bw) (be := be) (tl := tl) (ro := ro) (h3 := h3) (h1 := h1) (h2 := h2) ⟨k, M, tab, gs, av, ab⟩) (hk : k < tl.length) (hfa : M ag.a = none)
    (H : Mn (CL ba bw be tl ro h3 h1 h2) (gs ++ [ag]) (stsOf (tl.take (k + 1))) tab' M' (cS ba bw be (st1 tl (k + 1))))
    (K : ∀ b o, M b = some o → cS ba bw be (st1 tl k) b = none → o.isChan = false → ¬ RO o → M' b = some o ∧ cS ba bw be (st1 tl (k + 1)) b = none) (h16 : (Mem.mk M' st) b16 = none)
    (happ : Appended ((Mem.mk M' st).set b16 (.cells #[.pointer (some ⟨ag.a, 0, none⟩)] 22)) 22 1 k 1 ab (ptrs gs) [.pointer (some ⟨ag.a, 0, none⟩)] v8 m8) :
    ∃ ab' M8, m8 = ⟨M8, st⟩ ∧ Inv1 (ba := ba) (bw := bw) (be := be) (tl := tl) (ro := ro) (h3 := h3) (h1 := h1) (h2 := h2) ⟨k + 1, M8, tab', gs ++ [ag], v8, ab'⟩ := by
  have hgl : gs.length = k := I.len
  have haM : ∀ a ∈ gs ++ [ag], ∃ o, M' a.a = some o := fun a ha => by
    obtain ⟨j, hj, rfl⟩ := List.getElem_of_mem ha
    have hl : j < (stsOf (tl.take (k + 1))).length := by have e := H.len; rw [← e] at hj; exact hj
    exact ⟨_, (H.ag j _ _ (List.getElem?_eq_getElem hj) (List.getElem?_eq_getElem hl)).1⟩
  have up1 : ∀ b o, M' b = some o → ((Mem.mk M' st).set b16 (.cells #[.pointer (some ⟨ag.a, 0, none⟩)] 22)) b = some o := up_new (fun _ _ h => h) h16
  rcases happ with ⟨_, _, hz, _⟩ | ⟨b, c, rest, rfl, rfl, hl, hc, hb⟩
  · cases hz
  have hbad : b ≠ ba ∧ b ≠ bw ∧ b ≠ be ∧ (∀ a ∈ gs ++ [ag], b ≠ a.a) ∧ ∀ o, ro b ≠ some o := by
    rcases hb with hb | hb
    · obtain ⟨i1, i2⟩ := I.off b hb
      obtain ⟨c', hc'⟩ := I.sl.cells hb
      obtain ⟨j1, j2, j3⟩ := cS_none.1 i1
      refine ⟨j1, j2, j3, fun a ha e => ?_, fun o e => ?_⟩
      · rcases List.mem_append.1 ha with ha | ha
        · exact i2 a ha e
        · obtain rfl : a = ag := by simpa using ha
          have hc'' : M b = _ := hc'
          rw [e, hfa] at hc''; cases hc''
      · have this : M b = some o := I.mn.ro b o e
        have hc'' : M b = _ := hc'
        rw [hc''] at this
        obtain rfl := Option.some.inj this
        exact ro_open _ _ (h1 _ _ e)
    · have hn : M' b = none := by
        cases e : M' b with
        | none => rfl
        | some o => have := up1 b o e; rw [hb] at this; cases this
      refine ⟨fun e => ?_, fun e => ?_, fun e => ?_, fun a ha e => ?_, fun o e => ?_⟩
      · have := H.sh _ _ (cS_ba (bw := bw) (be := be) (st1 tl (k + 1))); rw [← e, hn] at this; cases this
      · have := H.sh _ _ (cS_bw h3 (st1 tl (k + 1))); rw [← e, hn] at this; cases this
      · have := H.sh _ _ (cS_be h3 (st1 tl (k + 1))); rw [← e, hn] at this; cases this
      · obtain ⟨o, ho⟩ := haM a ha; rw [← e, hn] at ho; cases ho
      · have := H.ro b o e; rw [hn] at this; cases this
  refine ⟨some b, _, rfl, ⟨hk, by simp [hgl], H.own fun b' o h q => ?_, ?_, fun b' h => ?_⟩⟩
  · have hne : b' ≠ b := fun e => by
      subst e
      rcases q with q | q | ⟨a, ha, q⟩
      · have := cS_none (s := st1 tl (k + 1)).2 ⟨hbad.1, hbad.2.1, hbad.2.2.1⟩
        rw [this] at q; cases q
      · exact hbad.2.2.2.2 o q
      · exact hbad.2.2.2.1 a ha q
    exact Mem.miss hne (up1 b' o h)
  · exact .inr ⟨b, c, rest, rfl, rfl, by rw [ptrs_snoc]; exact Mem.set_same _ _ _, by simp [ptrs, hgl], by rw [ptrs_snoc]; exact hl, hc⟩
  · cases h
    exact ⟨cS_none.2 ⟨hbad.1, hbad.2.1, hbad.2.2.1⟩, hbad.2.2.2.1⟩
end
/-- No panic passes. -/
def calmS (Q : Exit → Act → Mem → Prop) : Exit → Act → Mem → Prop
  | .panic _, _, _ => False
  | e, a, m => Q e a m
theorem e_calm {P : Program} {c : Code} {Q : Exit → Act → Mem → Prop} {n : Nat} {base : Nat → Value} {rs : List (Nat × Value)} {ds : List Deferred} {m : Mem} (h : CodeE P c (calmS Q) n base rs ds m) : CodeE P c Q n base rs ds m := fun a ha =>
  wps_mono c (fun e _ _ q => by cases e <;> first | exact q | exact q.elim) (h a ha)
theorem w_calm {Q : Exit → Act → Mem → Prop} {n : Nat} {base : Nat → Value} {rs : List (Nat × Value)} {ds : List Deferred} {m : Mem} (h : WayE Q .normal n base rs ds m) : WayE (calmS Q) .normal n base rs ds m := h
end Go.Proofs.Ytpgooljdodijlaa
