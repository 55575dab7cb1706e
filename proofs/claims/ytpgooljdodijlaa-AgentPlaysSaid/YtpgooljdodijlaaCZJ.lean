/-
  What is proved: steps, stops and looks of the one who steps agents that count. Conditions: those that each theorem names.
-/
import Derived.Test.YtpgooljdodijlaaCZI
namespace Go.Proofs.Ytpgooljdodijlaa
open Go Go.Sp Go.Conc Go.RowKit
attribute [local irreducible] Code.wps OpsS OpsL Oper.wps Sem.wpm CallM RunM
set_option linter.unusedSimpArgs false
set_option linter.unusedVariables false
/-- What is shared is laid anew by goroutine 0 itself. -/
theorem Mn.setS {L : Lw} {gs : List Ag} {sts : List (Option L.St)} {tab : Nat → Option (Ag × L.St)} {M M' S S' : Part} (H : Mn L gs sts tab M S) (hi : L.inv S') (hsh : ∀ b o, S' b = some o → M' b = some o) (hro : ∀ b o, L.ro b = some o → M' b = some o)
    (ha : ∀ a ∈ gs, M' a.a = M a.a ∧ S' a.a = none) : Mn L gs sts tab M' S' :=
  ⟨H.len, fun j a st h1 h2 => ⟨by rw [(ha a (List.mem_of_getElem? h1)).1]; exact (H.ag j a st h1 h2).1, (ha a (List.mem_of_getElem? h1)).2, (H.ag j a st h1 h2).2.2⟩, H.inj, H.only, hsh, hro, hi⟩
theorem Mn.sa {L : Lw} {gs : List Ag} {sts : List (Option L.St)} {tab : Nat → Option (Ag × L.St)} {M S : Part} (H : Mn L gs sts tab M S) {a : Ag} (h : a ∈ gs) : S a.a = none := by
  obtain ⟨j, hj, rfl⟩ := List.getElem_of_mem h
  have hl : j < sts.length := by rw [H.len]; exact hj
  exact (H.ag j _ _ (List.getElem?_eq_getElem hj) (List.getElem?_eq_getElem hl)).2.1
section
abbrev CL (ba bw be : Nat) (tl : List Nat) (ro : Part) (h3 : Three ba bw be) (h1 : ∀ b o, ro b = some o → RO o) (h2 : ∀ b o, ro b = some o → b ≠ ba ∧ b ≠ bw ∧ b ≠ be) : Lw := countL ba bw be tl.length ro h3 h1 h2
variable {ba bw be : Nat} {tl : List Nat} {ro : Part} {h3 : Three ba bw be} {h1 : ∀ b o, ro b = some o → RO o} {h2 : ∀ b o, ro b = some o → b ≠ ba ∧ b ≠ bw ∧ b ≠ be}
/-- What the one who steps agents that count has: the agents; their slice; the slice of what is left, as memory has it (ml); what each has left. -/
structure Co (ba bw be : Nat) (tl : List Nat) (ro : Part) (h3 : Three ba bw be) (h1 : ∀ b o, ro b = some o → RO o) (h2 : ∀ b o, ro b = some o → b ≠ ba ∧ b ≠ bw ∧ b ≠ be) (gs : List Ag) (av : Value) (ab : Option Nat) (lv : Value) (lb : Option Nat) (ml left : List Nat) (sum : Nat) (tc la : Int) (tab : Nat → Option (Ag × (Nat × Nat))) (M : Part) : Prop where
  n1 : gs.length = tl.length
  n2 : left.length = tl.length
  n3 : ml.length = tl.length
  small : ∀ r ∈ left, r < 256
  mn : Mn (countL ba bw be tl.length ro h3 h1 h2) gs (stsOf left) tab M (cS ba bw be ⟨((sum : Nat) : Int), tc, la, enOf left⟩)
  sa : SlB ⟨M, fun _ _ _ _ _ => True⟩ 22 1 av tl.length ab (ptrs gs)
  sl : SlB ⟨M, fun _ _ _ _ _ => True⟩ 5 1 lv tl.length lb (u8s ml)
  oa : ∀ b, ab = some b → b ≠ ba ∧ b ≠ bw ∧ b ≠ be ∧ ∀ a ∈ gs, b ≠ a.a
  ol : ∀ b, lb = some b → b ≠ ba ∧ b ≠ bw ∧ b ≠ be ∧ ∀ a ∈ gs, b ≠ a.a
  nal : ∀ b, ab = some b → lb ≠ some b
variable {gs : List Ag} {av lv : Value} {ab lb : Option Nat} {ml left : List Nat} {sum : Nat} {tc la : Int} {tab : Nat → Option (Ag × (Nat × Nat))} {M : Part} {N : Nat} {W : World} {Post : Value → World → Prop}
/-- Behind a yield. -/
theorem Co.yield (C : Co ba bw be tl ro h3 h1 h2 gs av ab lv lb ml left sum tc la tab M) {left' : List Nat} {sum' : Nat} {tc' la' : Int} {tab' : Nat → Option (Ag × (Nat × Nat))} {M' S' : Part} (hS' : S' = cS ba bw be ⟨((sum' : Nat) : Int), tc', la', enOf left'⟩) (hl : left'.length = left.length) (hs : ∀ r ∈ left', r < 256)
    (hmn : Mn (CL ba bw be tl ro h3 h1 h2) gs (stsOf left') tab' M' S') (hK : Keeps gs M (cS ba bw be ⟨((sum : Nat) : Int), tc, la, enOf left⟩) S' M') : Co ba bw be tl ro h3 h1 h2 gs av ab lv lb ml left' sum' tc' la' tab' M' := by
  subst hS'
  refine ⟨C.n1, hl.trans C.n2, C.n3, hs, hmn, C.sa.keep fun b o hb hm => ?_, C.sl.keep fun b o hb hm => ?_, C.oa, C.ol, C.nal⟩
  · obtain ⟨c, hc⟩ := C.sa.cells hb
    obtain ⟨j1, j2, j3, j4⟩ := C.oa b hb
    rw [hc] at hm; obtain rfl := Option.some.inj hm
    exact (hK b _ hc (cS_none.2 ⟨j1, j2, j3⟩) rfl (ro_open _ _) j4).1
  · obtain ⟨c, hc⟩ := C.sl.cells hb
    obtain ⟨j1, j2, j3, j4⟩ := C.ol b hb
    rw [hc] at hm; obtain rfl := Option.some.inj hm
    exact (hK b _ hc (cS_none.2 ⟨j1, j2, j3⟩) rfl (ro_open _ _) j4).1
theorem en_get {l : List Nat} {j r : Nat} (h : l[j]? = some r) : (enOf l).getD j 0 = if r = 0 then 1 else 0 := by
  simp [enOf, List.getD_eq_getElem?_getD, h]
theorem small_set {l : List Nat} (h : ∀ r ∈ l, r < 256) {j r : Nat} (hr : r < 256) : ∀ x ∈ l.set j r, x < 256 := fun x hx => by
  rcases List.mem_or_eq_of_mem_set hx with h' | rfl
  · exact h x h'
  · exact hr
theorem set_same' {l : List Nat} {j r : Nat} (h : l[j]? = some r) : l.set j r = l := by
  apply List.ext_getElem?
  intro i
  by_cases e : j = i
  · subst e
    have := (List.getElem?_eq_some_iff.1 h).1
    rw [List.getElem?_set_self this, h]
  · rw [List.getElem?_set_ne e]
/-- A step. -/
theorem Co.step (C : Co ba bw be tl ro h3 h1 h2 gs av ab lv lb ml left sum tc la tab M) (hsum : sum < 2 ^ 61) {j r : Nat} {a : Ag} (hj : gs[j]? = some a) (hr : left[j]? = some r) :
    CallM Try.prog 13 #[.pointer (some ⟨a.a, 0, none⟩)] ⟨M, Well (CL ba bw be tl ro h3 h1 h2) Try.prog kd N W Post tab⟩ (fun e m' => e = .returned (.int .i64 (if r = 0 then 6 else 0)) ∧ ∃ M' tab' tc' la', m' = ⟨M', Well (CL ba bw be tl ro h3 h1 h2) Try.prog kd N W Post tab'⟩ ∧
      Co ba bw be tl ro h3 h1 h2 gs av ab lv lb ml (left.set j (r - 1)) (if r = 0 then sum else sum + 1) tc' la' tab' M') := by
  have hsj : (stsOf left)[j]? = some (if r = 0 then none else some (j, r)) := by rw [stsOf_get, hr]; rfl
  have hrs := C.small r (List.mem_of_getElem? hr)
  by_cases h0 : r = 0
  · subst h0
    refine (c_Step_done a.a 4 _ _ _ _ ⟨M, Well (CL ba bw be tl ro h3 h1 h2) Try.prog kd N W Post tab⟩ (C.mn.over hj hsj)).mono fun e m' ⟨k1, k2⟩ => ⟨k1, M, tab, tc, la, k2, ?_⟩
    rw [show (0 : Nat) - 1 = 0 from rfl, set_same' hr]
    exact C
  · obtain ⟨q, rfl⟩ : ∃ q, r = q + 1 := ⟨r - 1, by omega⟩
    have hsj' : (stsOf left)[j]? = some (some (j, q + 1)) := by simpa [h0] using hsj
    refine (Mn.step (L := CL ba bw be tl ro h3 h1 h2) (N := N) (W := W) (Post := Post) (st := ((j, q + 1) : Nat × Nat)) C.mn hj hsj').mono fun e m' ⟨k1, flag, st', S', M', tab', ⟨s, k2, k3, k4, k5⟩, k6, k7, k8⟩ => ⟨by simpa using k1, M', tab', IntKind.u64.wrap (tc + 1), 0, k8, ?_⟩
    obtain rfl := cS_inj h3 k4
    rw [if_neg h0, Nat.add_sub_cancel]
    have e1 : (if flag = true then none else some st' : Option (Nat × Nat)) = if q = 0 then none else some (j, q) := by
      rw [k2, k3]; by_cases hq : q = 0 <;> simp [hq]
    have e2 : nxt j q (more ⟨((sum : Nat) : Int), tc, la, enOf left⟩) = ⟨((sum + 1 : Nat) : Int), IntKind.u64.wrap (tc + 1), 0, enOf (left.set j q)⟩ := by
      have hw : IntKind.u64.wrap (((sum : Nat) : Int) + 1) = ((sum + 1 : Nat) : Int) := by
        have := wrapu64 (x := sum + 1) (by omega)
        rw [← this]; congr 1
      have he : enOf (left.set j q) = (enOf left).set j (if q = 0 then 1 else 0) := (enOf_set _ _ _).symm
      have hg := en_get hr
      unfold nxt more inc
      rw [he]
      by_cases hq : q = 0
      · subst hq
        simp only [if_true, hw, hg]
        simp [IntKind.wrap, IntKind.signed, IntKind.bits]
      · simp only [hq, if_false, hw, Ch.mk.injEq, true_and]
        have : (enOf left)[j]? = some 0 := by simp [enOf, hr]
        apply List.ext_getElem?
        intro i
        by_cases e : j = i
        · subst e
          have hl := (List.getElem?_eq_some_iff.1 this).1
          rw [List.getElem?_set_self hl, this]
        · rw [List.getElem?_set_ne e]
    refine C.yield (k5.trans (by rw [e2])) (by simp) (small_set C.small (by omega)) ?_ k7
    have e3 : (stsOf left).set j (if flag = true then none else some (st' : Nat × Nat)) = stsOf (left.set j q) := by rw [← stsOf_set]; exact congrArg _ e1
    rw [← e3]
    exact k6
/-- A stop. -/
theorem Co.stop (C : Co ba bw be tl ro h3 h1 h2 gs av ab lv lb ml left sum tc la tab M) {j r : Nat} {a : Ag} (hj : gs[j]? = some a) (hr : left[j]? = some r) :
    CallM Try.prog 9 #[.pointer (some ⟨a.a, 0, none⟩)] ⟨M, Well (CL ba bw be tl ro h3 h1 h2) Try.prog kd N W Post tab⟩ (fun e m' => e = .returned (.tuple #[]) ∧ ∃ M' tab', m' = ⟨M', Well (CL ba bw be tl ro h3 h1 h2) Try.prog kd N W Post tab'⟩ ∧
      Co ba bw be tl ro h3 h1 h2 gs av ab lv lb ml (left.set j 0) sum tc la tab' M') := by
  have hsj : (stsOf left)[j]? = some (if r = 0 then none else some (j, r)) := by rw [stsOf_get, hr]; rfl
  by_cases h0 : r = 0
  · subst h0
    refine (c_Stop_done a.a 4 _ _ _ _ ⟨M, Well (CL ba bw be tl ro h3 h1 h2) Try.prog kd N W Post tab⟩ (C.mn.over hj hsj)).mono fun e m' ⟨k1, k2⟩ => ⟨k1, M, tab, k2, ?_⟩
    rw [set_same' hr]
    exact C
  · have hsj' : (stsOf left)[j]? = some (some (j, r)) := by simpa [h0] using hsj
    refine (Mn.stop (L := CL ba bw be tl ro h3 h1 h2) (N := N) (W := W) (Post := Post) (st := ((j, r) : Nat × Nat)) C.mn hj hsj').mono fun e m' ⟨k1, S', M', tab', ⟨s, k4, k5⟩, k6, k7, k8⟩ => ⟨k1, M', tab', k8, ?_⟩
    obtain rfl := cS_inj h3 k4
    have e2 : inc j ⟨((sum : Nat) : Int), tc, la, enOf left⟩ = ⟨((sum : Nat) : Int), tc, la, enOf (left.set j 0)⟩ := by
      have he : enOf (left.set j 0) = (enOf left).set j 1 := (enOf_set left j 0).symm
      have hg := en_get hr
      rw [if_neg h0] at hg
      unfold inc
      rw [he]
      simp only [hg]
      simp [IntKind.wrap, IntKind.signed, IntKind.bits]
    refine C.yield (k5.trans (by rw [← e2])) (by simp) (small_set C.small (by omega)) ?_ k7
    have := stsOf_set left j 0
    rw [if_pos rfl] at this
    rw [← this]
    exact k6
/-- Goroutine 0 reads the word. -/
theorem Co.read (C : Co ba bw be tl ro h3 h1 h2 gs av ab lv lb ml left sum tc la tab M) {st : Stp} :
    CallM Try.prog 19 #[.pointer (some ⟨ba, 0, none⟩), .int .i64 0] ⟨M, st⟩ (fun e m' => e = .returned (.int .u64 ((sum : Nat) : Int)) ∧ ∃ M' tc' la', m' = ⟨M', st⟩ ∧ Co ba bw be tl ro h3 h1 h2 gs av ab lv lb ml left sum tc' la' tab M' ∧ ∀ b, b ≠ ba → M' b = M b) := by
  refine (c_Read ba bw [((sum : Nat) : Int)] tc la 0 ⟨M, st⟩ (C.mn.sh _ _ (cS_ba _)) (C.mn.sh _ _ (cS_bw h3 _)) h3.n1).mono ?_
  rintro e m' ⟨rfl, rfl⟩
  have hne : ∀ b, b ≠ ba → ((Mem.mk M st).set ba (.cells #[.slice (some ⟨bw, 0, none⟩) [((sum : Nat) : Int)].length [((sum : Nat) : Int)].length, .int .u64 (tcW [((sum : Nat) : Int)] 0 tc), .int .i64 (laW [((sum : Nat) : Int)] 0 la)] 106)) b = M b := fun b hb => Mem.set_ne _ _ hb
  refine ⟨rfl, ((Mem.mk M st).set ba (arB bw [((sum : Nat) : Int)] (tcW [((sum : Nat) : Int)] 0 tc) (laW [((sum : Nat) : Int)] 0 la))).at_, tcW [((sum : Nat) : Int)] 0 tc, laW [((sum : Nat) : Int)] 0 la, rfl, ⟨C.n1, C.n2, C.n3, C.small, C.mn.setS ⟨_, rfl, ?_⟩ (fun b o h => ?_) (fun b o h => ?_) (fun a ha => ?_), C.sa.keep fun b o hb hm => ?_, C.sl.keep fun b o hb hm => ?_, C.oa, C.ol, C.nal⟩, hne⟩
  · simp [enOf, C.n2]
  · rcases cS_some h with ⟨rfl, rfl⟩ | ⟨rfl, rfl⟩ | ⟨rfl, rfl⟩
    · exact Mem.set_same _ _ _
    · exact (hne _ h3.n1.symm).trans (C.mn.sh _ _ (cS_bw h3 _))
    · exact (hne _ h3.n2.symm).trans (C.mn.sh _ _ (cS_be h3 _))
  · exact (hne _ (h2 b o h).1).trans (C.mn.ro b o h)
  · have := cS_none.1 (C.mn.sa ha)
    exact ⟨hne _ this.1, cS_none.2 this⟩
  · exact (hne _ (C.oa b hb).1).trans hm
  · exact (hne _ (C.ol b hb).1).trans hm
end
end Go.Proofs.Ytpgooljdodijlaa
