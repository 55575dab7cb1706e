/-
  What is proved: a company of agents that one steps, as a list; what lay there before, as what is only read. Conditions: those that each theorem names.
-/
import Derived.Test.YtpgooljdodijlaaCZD
import Derived.Test.YtpgooljdodijlaaCI
namespace Go.Proofs.Ytpgooljdodijlaa
open Go Go.Sp Go.Conc Go.RowKit
attribute [local irreducible] Code.wps OpsS OpsL Oper.wps Sem.wpm CallM RunM
set_option linter.unusedSimpArgs false
set_option linter.unusedVariables false
/-- What lies in a world, gs what is only read. -/
def roW (W : World) : Part := fun b => match W.heap[b]? with
  | some (.cells c e _) => if c.size = 0 then none else some (.cells c e (0, c.size))
  | _ => none
theorem roW_some {W : World} {b : Nat} {o : Obj} (h : roW W b = some o) : ∃ c e f, W.heap[b]? = some (.cells c e f) ∧ c.size ≠ 0 ∧ o = .cells c e (0, c.size) := by
  unfold roW at h
  split at h
  · rename_i c e f hh
    split at h
    · cases h
    · rename_i h0; exact ⟨c, e, f, hh, h0, (Option.some.inj h).symm⟩
  · cases h
theorem roW_of {W : World} {b : Nat} {c : Array Value} {e : TypeId} {f : Nat × Nat} (h : W.heap[b]? = some (.cells c e f)) (h0 : c.size ≠ 0) : roW W b = some (.cells c e (0, c.size)) := by
  unfold roW; rw [h]; exact if_neg h0
theorem roW_ro {W : World} : ∀ b o, roW W b = some o → RO o := fun b o h => by
  obtain ⟨c, e, f, _, h0, rfl⟩ := roW_some h
  exact ⟨c, e, rfl, h0⟩
theorem roW_kr (W : World) : KR (roW W) W := fun b o h => by
  obtain ⟨c, e, f, h1, h0, rfl⟩ := roW_some h
  exact ⟨_, h1, .inr ⟨c, e, c.size, c, f, rfl, rfl, ⟨h0, .inr rfl⟩, fun _ _ h => h⟩⟩
section
variable {L : Lw} {N : Nat} {W : World} {Post : Value → World → Prop}
/-- Goroutine 0, with agents: the agents in the order of their births; the state of each (none: it has ended); what goroutine 0 has; what is shared. -/
structure Mn (L : Lw) (gs : List Ag) (sts : List (Option L.St)) (tab : Nat → Option (Ag × L.St)) (M S : Part) : Prop where
  len : sts.length = gs.length
  ag : ∀ (j : Nat) a st, gs[j]? = some a → sts[j]? = some st → M a.a = some (agB a st.isNone) ∧ S a.a = none ∧ tab a.a = st.map (fun s => (a, s))
  inj : ∀ (i j : Nat) a a', gs[i]? = some a → gs[j]? = some a' → a.a = a'.a → i = j
  only : ∀ b x, tab b = some x → ∃ (j : Nat) (a : Ag), gs[j]? = some a ∧ a.a = b
  sh : ∀ b o, S b = some o → M b = some o
  ro : ∀ b o, L.ro b = some o → M b = some o
  inv : L.inv S
/-- What goroutine 0 keeps through a yield. -/
def Keeps (gs : List Ag) (M S S' M' : Part) : Prop := ∀ b o, M b = some o → S b = none → o.isChan = false → ¬ RO o → (∀ a ∈ gs, b ≠ a.a) → M' b = some o ∧ S' b = none
variable {gs : List Ag} {sts : List (Option L.St)} {tab : Nat → Option (Ag × L.St)} {M S : Part}
theorem Mn.begin (hS : L.inv S) (hSM : ∀ b o, S b = some o → M b = some o) (hro : ∀ b o, L.ro b = some o → M b = some o) : Mn L [] [] (fun _ => none) M S :=
  ⟨rfl, fun _ _ _ h => by simp at h, fun _ _ _ _ h => by simp at h, fun _ _ h => (by cases h), hSM, hro, hS⟩
/-- Of its own blocks it may do gs it likes. -/
theorem Mn.own (H : Mn L gs sts tab M S) {M' : Part} (h : ∀ b o, M b = some o → (S b = some o ∨ L.ro b = some o ∨ ∃ a ∈ gs, b = a.a) → M' b = some o) : Mn L gs sts tab M' S :=
  ⟨H.len, fun j a st h1 h2 => ⟨h _ _ (H.ag j a st h1 h2).1 (.inr (.inr ⟨a, List.mem_of_getElem? h1, rfl⟩)), (H.ag j a st h1 h2).2⟩, H.inj, H.only, fun b o e => h b o (H.sh b o e) (.inl e), fun b o e => h b o (H.ro b o e) (.inr (.inl e)), H.inv⟩
theorem Mn.turned {j : Nat} {a : Ag} {st : L.St} {st' : Option L.St} {S' M' : Part} (H : Mn L gs sts tab M S) (hj : gs[j]? = some a) (hs : sts[j]? = some (some st)) (hi : L.inv S') (hK : Kept L a M S S' M' st'.isNone) :
    Mn L gs (sts.set j st') (tabPut tab a.a (st'.map fun s => (a, s))) M' S' ∧ Keeps gs M S S' M' := by
  refine ⟨⟨by simp [H.len], fun k b s h1 h2 => ?_, H.inj, fun b x h => ?_, hK.sh, hK.ro, hi⟩, fun b o i1 i2 i3 i4 i5 => hK.keep b o i1 i2 i3 i4 (i5 a (List.mem_of_getElem? hj))⟩
  · by_cases hk : j = k
    · subst hk
      obtain rfl : a = b := Option.some.inj (hj.symm.trans h1)
      have hl : j < sts.length := (List.getElem?_eq_some_iff.1 hs).1
      rw [List.getElem?_set_self hl] at h2
      obtain rfl := Option.some.inj h2
      exact ⟨hK.a, hK.sa, by unfold tabPut; rw [if_pos rfl]⟩
    · rw [List.getElem?_set_ne hk] at h2
      obtain ⟨i1, i2, i3⟩ := H.ag k b s h1 h2
      have hne : b.a ≠ a.a := fun e => hk (H.inj j k a b hj h1 e.symm)
      obtain ⟨i4, i5⟩ := hK.keep b.a _ i1 i2 rfl (agB_open _ _) hne
      exact ⟨i4, i5, by unfold tabPut; rw [if_neg hne]; exact i3⟩
  · unfold tabPut at h
    split at h
    · rename_i e; exact ⟨j, a, hj, e.symm⟩
    · exact H.only b x h
theorem Mn.step {j : Nat} {a : Ag} {st : L.St} (H : Mn L gs sts tab M S) (hj : gs[j]? = some a) (hs : sts[j]? = some (some st)) :
    CallM Try.prog 13 #[.pointer (some ⟨a.a, 0, none⟩)] ⟨M, Well L Try.prog kd N W Post tab⟩ (fun e m' => e = .returned (.int .i64 0) ∧ ∃ flag st' S' M' tab', L.tr st S flag st' S' ∧ Mn L gs (sts.set j (if flag = true then none else some st')) tab' M' S' ∧ Keeps gs M S S' M' ∧ m' = ⟨M', Well L Try.prog kd N W Post tab'⟩) := by
  obtain ⟨i1, i2, i3⟩ := H.ag j a _ hj hs
  refine (c_Step1 (ag := a) (st := st) i3 H.inv H.sh H.ro i1 i2).mono fun e m' ⟨h1, flag, st', S', M', h2, h3, h4, h5⟩ => ?_
  have := H.turned (st' := if flag = true then none else some st') hj hs h3 (by cases flag <;> exact h4)
  refine ⟨h1, flag, st', S', M', _, h2, this.1, this.2, ?_⟩
  rw [h5]
  cases flag <;> rfl
theorem Mn.stop {j : Nat} {a : Ag} {st : L.St} (H : Mn L gs sts tab M S) (hj : gs[j]? = some a) (hs : sts[j]? = some (some st)) :
    CallM Try.prog 9 #[.pointer (some ⟨a.a, 0, none⟩)] ⟨M, Well L Try.prog kd N W Post tab⟩ (fun e m' => e = .returned (.tuple #[]) ∧ ∃ S' M' tab', L.dd st S S' ∧ Mn L gs (sts.set j none) tab' M' S' ∧ Keeps gs M S S' M' ∧ m' = ⟨M', Well L Try.prog kd N W Post tab'⟩) := by
  obtain ⟨i1, i2, i3⟩ := H.ag j a _ hj hs
  refine (c_Stop1 (ag := a) (st := st) i3 H.inv H.sh H.ro i1 i2).mono fun e m' ⟨h1, S', M', h2, h3, h4, h5⟩ => ?_
  have := H.turned (st' := none) hj hs h3 h4
  exact ⟨h1, S', M', _, h2, this.1, this.2, h5⟩
theorem Mn.over {j : Nat} {a : Ag} (H : Mn L gs sts tab M S) (hj : gs[j]? = some a) (hs : sts[j]? = some none) : M a.a = some (.cells #[a.mi, .chan (some a.ct), .chan (some a.cr), .chan (some a.cd), .bool true] 104 (0, 4)) := (H.ag j a _ hj hs).1
theorem Mn.done {j : Nat} {a : Ag} {st : Option L.St} (H : Mn L gs sts tab M S) (hj : gs[j]? = some a) (hs : sts[j]? = some st) : CallM Try.prog 14 #[.pointer (some ⟨a.a, 0, none⟩)] ⟨M, Well L Try.prog kd N W Post tab⟩ (Ret (.bool st.isNone) ⟨M, Well L Try.prog kd N W Post tab⟩) :=
  c_Done a.a 4 _ _ _ _ _ _ (H.ag j a _ hj hs).1
/-- When all have ended there is nobody. -/
theorem Mn.fin (H : Mn L gs sts tab M S) (h : ∀ s ∈ sts, s = none) : tab = fun _ => none := by
  funext b
  cases e : tab b with
  | none => rfl
  | some x =>
    obtain ⟨j, a, h1, rfl⟩ := H.only b x e
    have hl : j < sts.length := by rw [H.len]; exact (List.getElem?_eq_some_iff.1 h1).1
    have h2 := (H.ag j a _ h1 (List.getElem?_eq_getElem hl)).2.2
    rw [h _ (List.getElem_mem hl), e] at h2
    cases h2
/-- What goroutine 0 keeps through a birth. -/
noncomputable def rest0 (M S pc : Part) : Part := fun b => open Classical in if S b = none ∧ pc b = none then (match M b with | some o => if o.isChan = false ∧ ¬ RO o then some o else none | none => none) else none
theorem rest0_some {M S pc : Part} {b : Nat} {o : Obj} (h : rest0 M S pc b = some o) : S b = none ∧ pc b = none ∧ M b = some o ∧ o.isChan = false ∧ ¬ RO o := by
  unfold rest0 at h
  split at h
  · rename_i hs
    split at h
    · rename_i x hx
      split at h
      · rename_i hc; obtain rfl := Option.some.inj h; exact ⟨hs.1, hs.2, hx, hc.1, hc.2⟩
      · cases h
    · cases h
  · cases h
theorem rest0_of {M S pc : Part} {b : Nat} {o : Obj} (hs : S b = none) (hp : pc b = none) (hm : M b = some o) (hc : o.isChan = false) (hr : ¬ RO o) : rest0 M S pc b = some o := by
  unfold rest0; rw [if_pos ⟨hs, hp⟩, hm]; exact if_pos ⟨hc, hr⟩
/-- A birth: 'pc' is what the agent takes along. -/
theorem Mn.birth {mt : TypeId} {mv : Value} {fid : FuncId} {fs cs' : List Value} {pc : Part} {Ob : Bool → L.St → Part → Prop} (H : Mn L gs sts tab M S) (hbd : bodied Try.prog fid = true)
    (hpM : ∀ b o, pc b = some o → M b = some o) (hpS : ∀ b o, pc b = some o → S b = none ∧ floor o = 0 ∧ o.isChan = false ∧ ¬ RO o) (hpa : ∀ a ∈ gs, pc a.a = none)
    (hrun : ∀ ag : Ag, ag.mi = .iface mt mv → S ag.a = none → pc ag.a = none → L.ro ag.a = none → ∀ M', (∀ b o, pc b = some o → M' b = some o) → (∀ b o, S b = some o → M' b = some o) → (∀ b o, L.ro b = some o → M' b = some o) → M' ag.a = some (ag.ro kd) →
      CallM Try.prog fid (fs ++ [(.iface 133 (.agg #[.pointer (some ⟨ag.a, 0, none⟩)]) : Value)] ++ cs').toArray ⟨M', Zl L Try.prog kd ag Ob⟩ (RunsTo L ag (pc.put ag.a (ag.ro kd)) M' S)) :
    CallM Try.prog 11 #[.iface mt mv, .func (.func fid) fs.toArray cs'.toArray] ⟨M, Well L Try.prog kd N W Post tab⟩ (fun e m' => ∃ ag flag st' S' M' tab', Ob flag st' S' ∧ e = .returned (.tuple #[.pointer (some ⟨ag.a, 0, none⟩), .int .i64 0]) ∧ M ag.a = none ∧
      Mn L (gs ++ [ag]) (sts ++ [if flag = true then none else some st']) tab' M' S' ∧ (∀ b o, M b = some o → S b = none → pc b = none → o.isChan = false → ¬ RO o → M' b = some o ∧ S' b = none) ∧ m' = ⟨M', Well L Try.prog kd N W Post tab'⟩) := by
  have haM : ∀ a ∈ gs, ∃ d, M a.a = some (agB a d) ∧ S a.a = none := fun a ha => by
    obtain ⟨j, hj, rfl⟩ := List.getElem_of_mem ha
    have hl : j < sts.length := by rw [H.len]; exact hj
    obtain ⟨i1, i2, _⟩ := H.ag j _ _ (List.getElem?_eq_getElem hj) (List.getElem?_eq_getElem hl)
    exact ⟨_, i1, i2⟩
  refine (c_New1 (L := L) (M := M) (M0 := rest0 M S pc) (S := S) (pc := pc) (Ob := Ob) hbd H.inv (fun b o h => ?_) H.ro (fun b x h => ?_) (fun b o h => ?_) hpS hrun).mono
    fun e m' ⟨ag, flag, st', S', M', h1, h2, h3, h4, h5, h6, h7⟩ => ⟨ag, flag, st', S', M', _, h3, h6, h2, ⟨by simp [H.len], fun k b s g1 g2 => ?_, fun k1 k2 b1 b2 g1 g2 g3 => ?_, fun b x g => ?_, h5.sh, h5.ro, h4⟩, fun b o i1 i2 i3 i4 i5 => h5.keep b o (rest0_of i2 i3 i1 i4 i5), h7⟩
  · rcases Part.join_cases h with h | ⟨_, h⟩
    · exact (rest0_some h).2.2.1
    · rcases Part.join_cases h with h | ⟨_, h⟩
      · exact hpM b o h
      · exact H.sh b o h
  · obtain ⟨j, a, g1, rfl⟩ := H.only b x h
    obtain ⟨d, g2, _⟩ := haM a (List.mem_of_getElem? g1)
    exact ⟨_, g2⟩
  · obtain ⟨i1, i2, _, i4, i5⟩ := rest0_some h
    exact ⟨i2, i1, i4, i5⟩
  · by_cases hk : k < gs.length
    · rw [List.getElem?_append_left hk] at g1
      rw [List.getElem?_append_left (by rw [H.len]; exact hk)] at g2
      obtain ⟨i1, i2, i3⟩ := H.ag k b s g1 g2
      obtain ⟨i4, i5⟩ := h5.keep b.a _ (rest0_of i2 (hpa b (List.mem_of_getElem? g1)) i1 rfl (agB_open _ _))
      have hne : b.a ≠ ag.a := fun e => by rw [e, h2] at i1; cases i1
      exact ⟨i4, i5, by unfold tabPut; rw [if_neg hne]; exact i3⟩
    · have hk' : k = gs.length := by
        have := (List.getElem?_eq_some_iff.1 g1).1
        simp at this; omega
      subst hk'
      rw [List.getElem?_append_right (Nat.le_refl _)] at g1
      rw [List.getElem?_append_right (by rw [H.len]; exact Nat.le_refl _), H.len] at g2
      simp at g1 g2
      subst g1; subst g2
      refine ⟨?_, h5.sa, ?_⟩
      · have := h5.a
        cases flag <;> exact this
      · unfold tabPut; rw [if_pos rfl]; cases flag <;> rfl
  · have key : ∀ (k : Nat) (b : Ag), (gs ++ [ag])[k]? = some b → (k < gs.length ∧ gs[k]? = some b) ∨ (k = gs.length ∧ b = ag) := fun k b g => by
      by_cases hk : k < gs.length
      · rw [List.getElem?_append_left hk] at g; exact .inl ⟨hk, g⟩
      · have hk' : k = gs.length := by
          have := (List.getElem?_eq_some_iff.1 g).1
          simp at this; omega
        subst hk'
        rw [List.getElem?_append_right (Nat.le_refl _)] at g
        simp at g
        exact .inr ⟨rfl, g.symm⟩
    have hold : ∀ (k : Nat) (b : Ag), gs[k]? = some b → b.a ≠ ag.a := fun k b g e => by
      obtain ⟨d, i1, _⟩ := haM b (List.mem_of_getElem? g)
      rw [e, h2] at i1; cases i1
    rcases key k1 b1 g1 with ⟨_, j1⟩ | ⟨rfl, rfl⟩ <;> rcases key k2 b2 g2 with ⟨_, j2⟩ | ⟨rfl, rfl⟩
    · exact H.inj k1 k2 b1 b2 j1 j2 g3
    · exact absurd g3 (hold k1 b1 j1)
    · exact absurd g3.symm (hold k2 b2 j2)
    · rfl
  · unfold tabPut at g
    split at g
    · rename_i e; exact ⟨gs.length, ag, by simp, e.symm⟩
    · obtain ⟨j, a, i1, i2⟩ := H.only b x g
      exact ⟨j, a, by rw [List.getElem?_append_left (List.getElem?_eq_some_iff.1 i1).1]; exact i1, i2⟩
end
end Go.Proofs.Ytpgooljdodijlaa
