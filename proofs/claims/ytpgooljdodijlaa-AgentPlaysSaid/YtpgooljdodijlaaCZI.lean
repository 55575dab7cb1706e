/-
  What is proved: what agents that count make of a company. Conditions: those that each theorem names.
-/
import Derived.Test.YtpgooljdodijlaaCZH
namespace Go.Proofs.Ytpgooljdodijlaa
open Go Go.Sp Go.Conc Go.RowKit
attribute [local irreducible] Code.wps OpsS OpsL Oper.wps Sem.wpm CallM RunM
set_option linter.unusedSimpArgs false
set_option linter.unusedVariables false
/-- Whether each has ended, by how much each has left. -/
def enOf (l : List Nat) : List Int := l.map fun r => if r = 0 then 1 else 0
def stsFrom (i : Nat) : List Nat → List (Option (Nat × Nat))
  | [] => []
  | r :: l => (if r = 0 then none else some (i, r)) :: stsFrom (i + 1) l
def stsOf (l : List Nat) : List (Option (Nat × Nat)) := stsFrom 0 l
theorem stsFrom_get : ∀ (l : List Nat) (i j : Nat), (stsFrom i l)[j]? = (l[j]?).map fun r => if r = 0 then none else some (i + j, r) := by
  intro l
  induction l with
  | nil => intro i j; simp [stsFrom]
  | cons r l ih =>
    intro i j
    cases j with
    | zero => simp [stsFrom]
    | succ j => simp only [stsFrom, List.getElem?_cons_succ, ih]; congr 1; funext r; congr 3; omega
theorem stsOf_get (l : List Nat) (j : Nat) : (stsOf l)[j]? = (l[j]?).map fun r => if r = 0 then none else some (j, r) := by
  rw [stsOf, stsFrom_get]; simp
theorem stsFrom_set : ∀ (l : List Nat) (i j r : Nat), (stsFrom i l).set j (if r = 0 then none else some (i + j, r)) = stsFrom i (l.set j r) := by
  intro l
  induction l with
  | nil => intro i j r; simp [stsFrom]
  | cons x l ih =>
    intro i j r
    cases j with
    | zero => simp [stsFrom]
    | succ j => simp only [stsFrom, List.set_cons_succ]; rw [← ih, show i + 1 + j = i + (j + 1) by omega]
theorem stsOf_set (l : List Nat) (j r : Nat) : (stsOf l).set j (if r = 0 then none else some (j, r)) = stsOf (l.set j r) := by
  have := stsFrom_set l 0 j r
  simpa [stsOf] using this
theorem stsFrom_snoc : ∀ (l : List Nat) (i r : Nat), stsFrom i (l ++ [r]) = stsFrom i l ++ [if r = 0 then none else some (i + l.length, r)] := by
  intro l
  induction l with
  | nil => intro i r; simp [stsFrom]
  | cons x l ih => intro i r; simp only [List.cons_append, stsFrom, ih, List.length_cons]; rw [show i + 1 + l.length = i + (l.length + 1) by omega]
theorem stsOf_snoc (l : List Nat) (r : Nat) : stsOf (l ++ [r]) = stsOf l ++ [if r = 0 then none else some (l.length, r)] := by
  have := stsFrom_snoc l 0 r
  simpa [stsOf] using this
theorem stsFrom_len (l : List Nat) (i : Nat) : (stsFrom i l).length = l.length := by
  induction l generalizing i with
  | nil => rfl
  | cons x l ih => simp [stsFrom, ih]
theorem enOf_set (l : List Nat) (j r : Nat) : (enOf l).set j (if r = 0 then 1 else 0) = enOf (l.set j r) := by simp [enOf, List.map_set]
/-- The state while agents are born. -/
def st1 (tl : List Nat) (k : Nat) : Ch := ⟨0, 0, -1, enOf (tl.take k) ++ List.replicate (tl.length - k) 0⟩
theorem st1_len {tl : List Nat} {k : Nat} (hk : k ≤ tl.length) : (st1 tl k).en.length = tl.length := by simp [st1, enOf]; omega
theorem st1_next {tl : List Nat} {k x : Nat} (hx : tl[k]? = some x) : nxt k x (st1 tl k) = st1 tl (k + 1) := by
  have hlt := (List.getElem?_eq_some_iff.1 hx).1
  have ht : tl.take (k + 1) = tl.take k ++ [x] := by rw [List.take_add_one, hx]; rfl
  have hr : List.replicate (tl.length - k) (0 : Int) = 0 :: List.replicate (tl.length - (k + 1)) 0 := by
    rw [← List.replicate_succ]; congr 1; omega
  have hl : (enOf (tl.take k)).length = k := by simp [enOf]; omega
  unfold nxt
  split
  · rename_i h0
    subst h0
    unfold inc st1
    simp only [Ch.mk.injEq, true_and]
    rw [ht, hr]
    have hg : (enOf (tl.take k) ++ 0 :: List.replicate (tl.length - (k + 1)) 0).getD k 0 = 0 := by
      rw [List.getD_eq_getElem?_getD, List.getElem?_append_right (by omega)]
      simp [hl]
    rw [hg, List.set_append_right _ _ (by omega), hl]
    simp [enOf, IntKind.wrap, IntKind.signed, IntKind.bits]
  · rename_i h0
    unfold st1
    simp only [Ch.mk.injEq, true_and]
    rw [ht, hr]
    simp [enOf, h0]
structure B1 (L : Lw) where
  k : Nat
  M : Part
  tab : Nat → Option (Ag × L.St)
  gs : List Ag
  av : Value
  ab : Option Nat
section
variable {ba bw be : Nat} {tl : List Nat} {ro : Part} {h3 : Three ba bw be} {h1 : ∀ b o, ro b = some o → RO o} {h2 : ∀ b o, ro b = some o → b ≠ ba ∧ b ≠ bw ∧ b ≠ be}
/-- What is so while agents are born. -/
structure Inv1 (s : B1 (countL ba bw be tl.length ro h3 h1 h2)) : Prop where
  k : s.k ≤ tl.length
  len : s.gs.length = s.k
  mn : Mn (countL ba bw be tl.length ro h3 h1 h2) s.gs (stsOf (tl.take s.k)) s.tab s.M (cS ba bw be (st1 tl s.k))
  sl : SlB ⟨s.M, fun _ _ _ _ _ => True⟩ 22 1 s.av s.k s.ab (ptrs s.gs)
  off : ∀ b, s.ab = some b → cS ba bw be (st1 tl s.k) b = none ∧ ∀ a ∈ s.gs, b ≠ a.a
/-- One more is born. -/
theorem count_birth {N : Nat} {W : World} {Post : Value → World → Prop} {gs : List Ag} {tab : Nat → Option (Ag × (Nat × Nat))} {M : Part} {st : Stp} {k x t11 t12 : Nat} (H : Mn (countL ba bw be tl.length ro h3 h1 h2) gs (stsOf (tl.take k)) tab M (cS ba bw be (st1 tl k))) (hx : tl[k]? = some x) (hx2 : x < 256) (hgl : gs.length = k)
    (h11 : (Mem.mk M st) t11 = none) (h12 : ((Mem.mk M st).set t11 (.cells #[.int .i64 ((x : Nat) : Int)] 3)) t12 = none) (hst : st = Well (countL ba bw be tl.length ro h3 h1 h2) Try.prog kd N W Post tab) :
    CallM Try.prog 11 #[.iface 23 (.pointer (some ⟨ba, 0, none⟩)), .func (.func 16) #[] #[.pointer (some ⟨t12, 0, none⟩), .pointer (some ⟨t11, 0, none⟩)]] (((Mem.mk M st).set t11 (.cells #[.int .i64 ((x : Nat) : Int)] 3)).set t12 (.cells #[.pointer (some ⟨be, k, none⟩)] 40)) (fun e m' => ∃ ag M' tab',
      e = .returned (.tuple #[.pointer (some ⟨ag.a, 0, none⟩), .int .i64 0]) ∧ M ag.a = none ∧ m' = ⟨M', Well (countL ba bw be tl.length ro h3 h1 h2) Try.prog kd N W Post tab'⟩ ∧ Mn (countL ba bw be tl.length ro h3 h1 h2) (gs ++ [ag]) (stsOf (tl.take (k + 1))) tab' M' (cS ba bw be (st1 tl (k + 1))) ∧
      (∀ b o, M b = some o → cS ba bw be (st1 tl k) b = none → o.isChan = false → ¬ RO o → M' b = some o ∧ cS ba bw be (st1 tl (k + 1)) b = none)) := by
  subst hst
  obtain ⟨n12, h12'⟩ := Mem.none_set h12
  have hlt := (List.getElem?_eq_some_iff.1 hx).1
  have ht : tl.take (k + 1) = tl.take k ++ [x] := by rw [List.take_add_one, hx]; rfl
  have up : ∀ b o, M b = some o → (((Mem.mk M (Well (countL ba bw be tl.length ro h3 h1 h2) Try.prog kd N W Post tab)).set t11 (.cells #[.int .i64 ((x : Nat) : Int)] 3)).set t12 (.cells #[.pointer (some ⟨be, k, none⟩)] 40)) b = some o := up_new (up_new (fun _ _ h => h) h11) h12
  have nS : ∀ t, (Mem.mk M (Well (countL ba bw be tl.length ro h3 h1 h2) Try.prog kd N W Post tab)) t = none → cS ba bw be (st1 tl k) t = none := fun t ht => by
    cases e : cS ba bw be (st1 tl k) t with
    | none => rfl
    | some o => have := H.sh t o e; rw [show M t = none from ht] at this; cases this
  let pc : Part := fun b => if b = t11 then some (.cells #[.int .i64 ((x : Nat) : Int)] 3) else if b = t12 then some (.cells #[.pointer (some ⟨be, k, none⟩)] 40) else none
  have pc_some : ∀ {b o}, pc b = some o → (b = t11 ∧ o = .cells #[.int .i64 ((x : Nat) : Int)] 3) ∨ (b = t12 ∧ o = .cells #[.pointer (some ⟨be, k, none⟩)] 40) := fun {b o} h => by
    simp only [pc] at h
    split at h
    · rename_i z; exact .inl ⟨z, (Option.some.inj h).symm⟩
    · split at h
      · rename_i z; exact .inr ⟨z, (Option.some.inj h).symm⟩
      · cases h
  have pc11 : pc t11 = some (.cells #[.int .i64 ((x : Nat) : Int)] 3) := if_pos rfl
  have pc12 : pc t12 = some (.cells #[.pointer (some ⟨be, k, none⟩)] 40) := by simp only [pc]; rw [if_neg n12, if_pos trivial]
  have pcM : ∀ b, (∃ o, M b = some o) → pc b = none := fun b ⟨o, h⟩ => by
    cases e : pc b with
    | none => rfl
    | some y => rcases pc_some e with ⟨rfl, _⟩ | ⟨rfl, _⟩
                · rw [show M b = none from h11] at h; cases h
                · rw [show M b = none from h12'] at h; cases h
  have H2 := H.own (M' := (((Mem.mk M (Well (countL ba bw be tl.length ro h3 h1 h2) Try.prog kd N W Post tab)).set t11 (.cells #[.int .i64 ((x : Nat) : Int)] 3)).set t12 (.cells #[.pointer (some ⟨be, k, none⟩)] 40)).at_) (fun b o h _ => up b o h)
  have hn := st1_next hx
  have haM : ∀ a ∈ gs, ∃ o, M a.a = some o := fun a ha => by
    obtain ⟨j, hj, rfl⟩ := List.getElem_of_mem ha
    have hl : j < (stsOf (tl.take k)).length := by have e := H.len; rw [← e] at hj; exact hj
    exact ⟨_, (H.ag j _ _ (List.getElem?_eq_getElem hj) (List.getElem?_eq_getElem hl)).1⟩
  refine (H2.birth (pc := pc) (fs := []) (cs' := [.pointer (some ⟨t12, 0, none⟩), .pointer (some ⟨t11, 0, none⟩)]) (Ob := fun flag st S' => flag = (x == 0) ∧ st = (k, x) ∧ S' = cS ba bw be (nxt k x (st1 tl k))) bd16 (fun b o h => ?_) (fun b o h => ?_) (fun a ha => pcM _ (haM a ha)) (fun ag hmi hSa hpa hra M' e1 e2 e3 e4 => ?_)).mono ?_
  · rcases pc_some h with ⟨rfl, rfl⟩ | ⟨rfl, rfl⟩
    · exact Mem.miss n12.symm (Mem.hit _ _ _)
    · exact Mem.hit _ _ _
  · rcases pc_some h with ⟨rfl, rfl⟩ | ⟨rfl, rfl⟩
    · exact ⟨nS _ h11, rfl, rfl, ro_open _ _⟩
    · exact ⟨nS _ h12', rfl, rfl, ro_open _ _⟩
  · exact c_count (h3 := h3) (i := k) (n := x) (s00 := st1 tl k) hmi hlt (by omega) ⟨fun b o i1 i2 _ _ _ => ⟨i1, i2⟩, e2, e3, e4, hSa⟩ rfl (st1_len (Nat.le_of_lt hlt)) ⟨rfl, rfl, rfl⟩ ⟨e1 _ _ pc12, nS _ h12'⟩ ⟨e1 _ _ pc11, nS _ h11⟩
  · rintro e m' ⟨ag, flag, st', S', M', tab', ⟨rfl, rfl, rfl⟩, rfl, hfa, hMn, hK, rfl⟩
    refine ⟨ag, M', tab', rfl, ?_, rfl, ?_, fun b o i1 i2 i3 i4 => ?_⟩
    · cases e : M ag.a with
      | none => rfl
      | some o => have := up _ _ e; rw [show _ = none from hfa] at this; cases this
    · rw [ht, stsOf_snoc, ← hn]
      have e : (tl.take k).length = k := by simp; omega
      rw [e]
      have e5 : (if (x == 0) = true then none else some (k, x) : Option (Nat × Nat)) = (if x = 0 then none else some (k, x)) := by simp
      rw [← e5]
      exact hMn
    · rw [← hn]
      exact hK b o (up b o i1) i2 (pcM b ⟨o, i1⟩) i3 i4
end
end Go.Proofs.Ytpgooljdodijlaa
