/-
  What is proved: births and steps of agents that play, what one who steps them has of its own. Conditions: those that each theorem names.
-/
import Derived.Test.YtpgooljdodijlaaCZO
namespace Go.Proofs.Ytpgooljdodijlaa
open Go Go.Sp Go.Conc Go.RowKit
attribute [local irreducible] Code.wps OpsS OpsL Oper.wps Sem.wpm CallM RunM
set_option linter.unusedSimpArgs false
set_option linter.unusedVariables false
def stP (i : Nat) (r : Rw) (p : Nat × Int) : Option (Nat × List Tch × Int) := if r.l.length ≤ p.1 then none else some (i, r.l.drop p.1, p.2)
def stsP (i : Nat) : List Rw → List (Nat × Int) → List (Option (Nat × List Tch × Int))
  | r :: rs, p :: ps => stP i r p :: stsP (i + 1) rs ps
  | _, _ => []
theorem stsP_get : ∀ (rs : List Rw) (ps : List (Nat × Int)) (i j : Nat) (r : Rw) (p : Nat × Int), rs[j]? = some r → ps[j]? = some p → (stsP i rs ps)[j]? = some (stP (i + j) r p) := by
  intro rs
  induction rs with
  | nil => intro ps i j r p h; simp at h
  | cons r0 rs ih => intro ps i j r p h1 h2; cases ps with
    | nil => simp at h2
    | cons p0 ps => cases j with
      | zero =>
        obtain rfl : r0 = r := by simpa using h1
        obtain rfl : p0 = p := by simpa using h2
        rfl
      | succ j =>
        have := ih ps (i + 1) j r p (by simpa using h1) (by simpa using h2)
        rw [show i + (j + 1) = i + 1 + j from by omega]
        exact this
theorem stsP_set : ∀ (rs : List Rw) (ps : List (Nat × Int)) (i j : Nat) (r : Rw) (p : Nat × Int), rs[j]? = some r → (stsP i rs ps).set j (stP (i + j) r p) = stsP i rs (ps.set j p) := by
  intro rs
  induction rs with
  | nil => intro ps i j r p h; simp at h
  | cons r0 rs ih => intro ps i j r p h1; cases ps with
    | nil => simp [stsP]
    | cons p0 ps => cases j with
      | zero =>
        obtain rfl : r0 = r := by simpa using h1
        rfl
      | succ j =>
        have := ih ps (i + 1) j r p (by simpa using h1)
        rw [show i + (j + 1) = i + 1 + j from by omega]
        show _ :: _ = _ :: _
        rw [this]
theorem stsP_snoc : ∀ (rs : List Rw) (ps : List (Nat × Int)) (i : Nat) (r : Rw) (p : Nat × Int), rs.length = ps.length → stsP i (rs ++ [r]) (ps ++ [p]) = stsP i rs ps ++ [stP (i + rs.length) r p] := by
  intro rs
  induction rs with
  | nil => intro ps i r p h; cases ps with
    | nil => rfl
    | cons p ps => simp at h
  | cons r0 rs ih => intro ps i r p h; cases ps with
    | nil => simp at h
    | cons p0 ps =>
      have := ih ps (i + 1) r p (by simpa using h)
      simp only [List.cons_append, stsP, this, List.length_cons]
      rw [show i + 1 + rs.length = i + (rs.length + 1) from by omega]
theorem stsP_len : ∀ (rs : List Rw) (ps : List (Nat × Int)) (i : Nat), rs.length = ps.length → (stsP i rs ps).length = rs.length := by
  intro rs
  induction rs with
  | nil => intro ps i h; cases ps <;> rfl
  | cons r0 rs ih => intro ps i h; cases ps with
    | nil => simp at h
    | cons p0 ps => simp [stsP, ih ps (i + 1) (by simpa using h)]
theorem set_self {α : Type} {l : List α} {j : Nat} {x : α} (h : l[j]? = some x) : l.set j x = l := by
  apply List.ext_getElem?
  intro i
  by_cases e : j = i
  · subst e; rw [List.getElem?_set_self (List.getElem?_eq_some_iff.1 h).1, h]
  · rw [List.getElem?_set_ne e]
section
variable {ba bw bl nw nl : Nat} {W : World} {h3 : Three ba bw bl} {h2 : ∀ b o, roW W b = some o → b ≠ ba ∧ b ≠ bw ∧ b ≠ bl}
abbrev PW (W : World) (ba bw bl nw nl : Nat) (h3 : Three ba bw bl) (h2 : ∀ b o, roW W b = some o → b ≠ ba ∧ b ≠ bw ∧ b ≠ bl) : Lw := PL ba bw bl nw nl (roW W) h3 roW_ro h2
/-- Agents that play, programs as far as they are. -/
structure Pl (W : World) (ba bw bl nw nl : Nat) (h3 : Three ba bw bl) (h2 : ∀ b o, roW W b = some o → b ≠ ba ∧ b ≠ bw ∧ b ≠ bl) (rs : List Rw) (gs : List Ag) (ps : List (Nat × Int)) (s : Sh) (tab : Nat → Option (Ag × (Nat × List Tch × Int))) (M O : Part) : Prop where
  n1 : gs.length = rs.length
  n2 : ps.length = rs.length
  hv : Hv (PW W ba bw bl nw nl h3 h2) gs (stsP 0 rs ps) tab M (plS ba bw bl s) O
  ls : ∀ (j : Nat) (p : Nat × Int), ps[j]? = some p → s.ls[j]? = some p.2
  lw : s.ws.length = nw
  ll : s.ls.length = nl
variable {rs : List Rw} {gs : List Ag} {ps : List (Nat × Int)} {s : Sh} {tab : Nat → Option (Ag × (Nat × List Tch × Int))} {M O : Part} {N : Nat} {Post : Value → World → Prop}
theorem Pl.new (H : Pl W ba bw bl nw nl h3 h2 rs gs ps s tab M O) {b : Nat} {st : Stp} (hb : (Mem.mk M st) b = none) {c : Array Value} {e : TypeId} : Pl W ba bw bl nw nl h3 h2 rs gs ps s tab ((Mem.mk M st).set b (.cells c e (0, 0))).at_ (O.put b (.cells c e (0, 0))) :=
  ⟨H.n1, H.n2, H.hv.new hb, H.ls, H.lw, H.ll⟩
theorem Pl.write (H : Pl W ba bw bl nw nl h3 h2 rs gs ps s tab M O) {b : Nat} {st : Stp} {o0 : Obj} (hO : O b = some o0) {c : Array Value} {e : TypeId} : Pl W ba bw bl nw nl h3 h2 rs gs ps s tab ((Mem.mk M st).set b (.cells c e (0, 0))).at_ (O.put b (.cells c e (0, 0))) :=
  ⟨H.n1, H.n2, H.hv.write hO, H.ls, H.lw, H.ll⟩
theorem Pl.ba' (H : Pl W ba bw bl nw nl h3 h2 rs gs ps s tab M O) : M ba = some (arB bw s.ws s.tc s.la) := H.hv.mn.sh _ _ (plS_ba s)
theorem Pl.bw' (H : Pl W ba bw bl nw nl h3 h2 rs gs ps s tab M O) : M bw = some (.cells (wordsV s.ws) 31) := H.hv.mn.sh _ _ (plS_bw h3 s)
theorem Pl.bl' (H : Pl W ba bw bl nw nl h3 h2 rs gs ps s tab M O) : M bl = some (.cells (wordsV s.ls) 31) := H.hv.mn.sh _ _ (plS_bl h3 s)
theorem stepT_ws (i : Nat) (last : Int) (x : Tch) (s : Sh) : (stepT i last x s).ws = refW x last s.ws := rfl
theorem stepT_ls (i : Nat) (last : Int) (x : Tch) (s : Sh) (h : s.ls[i]? = some last) : (stepT i last x s).ls[i]? = some (refL x last s.ws) ∧ ∀ j, j ≠ i → (stepT i last x s).ls[j]? = s.ls[j]? := by
  unfold stepT refL
  by_cases hd : x.d = 1
  · simp [hd, h]
  · simp only [hd, if_false]
    exact ⟨List.getElem?_set_self (List.getElem?_eq_some_iff.1 h).1, fun j hj => List.getElem?_set_ne (fun e => hj e.symm)⟩
/-- What a step makes of a program. -/
def nxP (r : Rw) (p : Nat × Int) (ws : List Int) : Nat × Int := match r.l[p.1]? with
  | some x => (p.1 + 1, refL x p.2 ws)
  | none => p
def nxS (i : Nat) (r : Rw) (p : Nat × Int) (s : Sh) : Sh := match r.l[p.1]? with
  | some x => stepT i p.2 x s
  | none => s
/-- A step. -/
theorem Pl.step (H : Pl W ba bw bl nw nl h3 h2 rs gs ps s tab M O) {j : Nat} {a : Ag} {r : Rw} {p : Nat × Int} (hj : gs[j]? = some a) (hr : rs[j]? = some r) (hp : ps[j]? = some p) :
    CallM Try.prog 13 #[.pointer (some ⟨a.a, 0, none⟩)] ⟨M, Well (PW W ba bw bl nw nl h3 h2) Try.prog kd N W Post tab⟩ (fun e m' => e = .returned (.int .i64 (if p.1 < r.l.length then 0 else 6)) ∧ ∃ M' tab', m' = ⟨M', Well (PW W ba bw bl nw nl h3 h2) Try.prog kd N W Post tab'⟩ ∧
      Pl W ba bw bl nw nl h3 h2 rs gs (ps.set j (nxP r p s.ws)) (nxS j r p s) tab' M' O) := by
  have hsj : (stsP 0 rs ps)[j]? = some (stP j r p) := by have := stsP_get rs ps 0 j r p hr hp; rwa [Nat.zero_add] at this
  by_cases h0 : p.1 < r.l.length
  · obtain ⟨x, hx⟩ : ∃ x, r.l[p.1]? = some x := ⟨_, List.getElem?_eq_getElem h0⟩
    have hdr : r.l.drop p.1 = x :: r.l.drop (p.1 + 1) := by
      rw [List.drop_eq_getElem_cons h0]
      rw [List.getElem?_eq_getElem h0] at hx
      rw [Option.some.inj hx]
    have hst : stP j r p = some (j, x :: r.l.drop (p.1 + 1), p.2) := by unfold stP; rw [if_neg (by omega), hdr]
    rw [hst] at hsj
    refine (Mn.step (L := PW W ba bw bl nw nl h3 h2) (N := N) (W := W) (Post := Post) (st := ((j, x :: r.l.drop (p.1 + 1), p.2) : Nat × List Tch × Int)) H.hv.mn hj hsj).mono fun e m' ⟨k1, flag, st', S', M', tab', ⟨s2, k2, k3, k4, k5⟩, k6, k7, k8⟩ => ?_
    obtain rfl := plS_inj h3 k4
    rw [if_pos h0]
    refine ⟨k1, M', tab', k8, ?_⟩
    have hl := H.ls j p hp
    obtain ⟨l1, l2⟩ := stepT_ls j p.2 x s hl
    have hnx : nxP r p s.ws = (p.1 + 1, refL x p.2 s.ws) := by unfold nxP; rw [hx]
    have hns : nxS j r p s = stepT j p.2 x s := by unfold nxS; rw [hx]
    rw [hnx, hns]
    have hpl := (List.getElem?_eq_some_iff.1 hp).1
    have e1 : (if flag = true then none else some st' : Option (Nat × List Tch × Int)) = stP j r (p.1 + 1, refL x p.2 s.ws) := by
      have hgd : (stepT j p.2 x s).ls.getD j 0 = refL x p.2 s.ws := by rw [List.getD_eq_getElem?_getD, l1]; rfl
      have k2' : st' = (j, r.l.drop (p.1 + 1), (stepT j p.2 x s).ls.getD j 0) := k2
      rw [k2', hgd]
      have k3' : flag = (r.l.drop (p.1 + 1)).isEmpty := k3
      unfold stP
      by_cases hz : r.l.length ≤ p.1 + 1
      · rw [if_pos hz, if_pos (by rw [k3', List.drop_eq_nil_of_le hz]; rfl)]
      · rw [if_neg hz, if_neg (by rw [k3']; intro h; rw [List.isEmpty_iff, List.drop_eq_nil_iff] at h; exact hz h)]
    have e2 := stsP_set rs ps 0 j r (p.1 + 1, refL x p.2 s.ws) hr
    rw [Nat.zero_add] at e2
    have e3 : (stsP 0 rs ps).set j (if flag = true then none else some (st' : Nat × List Tch × Int)) = stsP 0 rs (ps.set j (p.1 + 1, refL x p.2 s.ws)) := by rw [← e2]; exact congrArg _ e1
    have k5' : S' = plS ba bw bl (stepT j p.2 x s) := k5
    subst k5'
    obtain ⟨w1, w2⟩ := stepT_len j p.2 x s
    refine ⟨H.n1, by simp [H.n2], H.hv.yield (by rw [← e3]; exact k6) k7, fun j' p' hp' => ?_, w1.trans H.lw, w2.trans H.ll⟩
    by_cases e : j = j'
    · subst e
      rw [List.getElem?_set_self hpl] at hp'
      rw [← Option.some.inj hp']
      exact l1
    · rw [List.getElem?_set_ne e] at hp'
      rw [l2 j' (fun z => e z.symm)]
      exact H.ls j' p' hp'
  · have hst : stP j r p = none := if_pos (by omega)
    rw [hst] at hsj
    have hx : r.l[p.1]? = none := List.getElem?_eq_none (by omega)
    have hnx : nxP r p s.ws = p := by unfold nxP; rw [hx]
    have hns : nxS j r p s = s := by unfold nxS; rw [hx]
    rw [if_neg h0, hnx, hns, set_self hp]
    exact (c_Step_done a.a 4 _ _ _ _ ⟨M, Well (PW W ba bw bl nw nl h3 h2) Try.prog kd N W Post tab⟩ (H.hv.mn.over hj hsj)).mono fun e m' ⟨k1, k2⟩ => ⟨k1, M, tab, k2, H⟩
/-- A stop. -/
theorem Pl.stop (H : Pl W ba bw bl nw nl h3 h2 rs gs ps s tab M O) {j : Nat} {a : Ag} {r : Rw} {p : Nat × Int} (hj : gs[j]? = some a) (hr : rs[j]? = some r) (hp : ps[j]? = some p) :
    CallM Try.prog 9 #[.pointer (some ⟨a.a, 0, none⟩)] ⟨M, Well (PW W ba bw bl nw nl h3 h2) Try.prog kd N W Post tab⟩ (fun e m' => e = .returned (.tuple #[]) ∧ ∃ M' tab' n, m' = ⟨M', Well (PW W ba bw bl nw nl h3 h2) Try.prog kd N W Post tab'⟩ ∧ r.l.length ≤ n ∧
      Pl W ba bw bl nw nl h3 h2 rs gs (ps.set j (n, p.2)) s tab' M' O) := by
  have hsj : (stsP 0 rs ps)[j]? = some (stP j r p) := by have := stsP_get rs ps 0 j r p hr hp; rwa [Nat.zero_add] at this
  by_cases h0 : p.1 < r.l.length
  · have hst : stP j r p = some (j, r.l.drop p.1, p.2) := if_neg (by omega)
    rw [hst] at hsj
    refine (Mn.stop (L := PW W ba bw bl nw nl h3 h2) (N := N) (W := W) (Post := Post) (st := ((j, r.l.drop p.1, p.2) : Nat × List Tch × Int)) H.hv.mn hj hsj).mono fun e m' ⟨k1, S', M', tab', k4, k6, k7, k8⟩ => ?_
    have k4' : S' = plS ba bw bl s := k4
    subst k4'
    have e2 := stsP_set rs ps 0 j r (r.l.length, p.2) hr
    rw [Nat.zero_add, show stP j r (r.l.length, p.2) = none from if_pos (Nat.le_refl _)] at e2
    refine ⟨k1, M', tab', r.l.length, k8, Nat.le_refl _, H.n1, by simp [H.n2], H.hv.yield (by rw [← e2]; exact k6) k7, fun j' p' hp' => ?_, H.lw, H.ll⟩
    by_cases e : j = j'
    · subst e
      rw [List.getElem?_set_self (List.getElem?_eq_some_iff.1 hp).1] at hp'
      rw [← Option.some.inj hp']
      exact H.ls j p hp
    · rw [List.getElem?_set_ne e] at hp'
      exact H.ls j' p' hp'
  · have hst : stP j r p = none := if_pos (by omega)
    rw [hst] at hsj
    refine (c_Stop_done a.a 4 _ _ _ _ ⟨M, Well (PW W ba bw bl nw nl h3 h2) Try.prog kd N W Post tab⟩ (H.hv.mn.over hj hsj)).mono fun e m' ⟨k1, k2⟩ => ⟨k1, M, tab, p.1, k2, by omega, ?_⟩
    rw [show ((p.1, p.2) : Nat × Int) = p from rfl, set_self hp]
    exact H
/-- An agent's block. -/
theorem Pl.agB' (H : Pl W ba bw bl nw nl h3 h2 rs gs ps s tab M O) {j : Nat} {a : Ag} {r : Rw} {p : Nat × Int} (hj : gs[j]? = some a) (hr : rs[j]? = some r) (hp : ps[j]? = some p) :
    M a.a = some (agB a (decide (r.l.length ≤ p.1))) := by
  have hsj : (stsP 0 rs ps)[j]? = some (stP j r p) := by have := stsP_get rs ps 0 j r p hr hp; rwa [Nat.zero_add] at this
  have := (H.hv.mn.ag j a _ hj hsj).1
  have e : (stP j r p).isNone = decide (r.l.length ≤ p.1) := by unfold stP; split <;> simp_all
  exact this.trans (congrArg (fun z => some (agB a z)) e)
/-- When all have ended there is nobody. -/
theorem Pl.fin (H : Pl W ba bw bl nw nl h3 h2 rs gs ps s tab M O) (h : ∀ (j : Nat) (r : Rw) (p : Nat × Int), rs[j]? = some r → ps[j]? = some p → r.l.length ≤ p.1) : tab = fun _ => none := by
  refine H.hv.mn.fin fun x hx => ?_
  obtain ⟨j, hj, rfl⟩ := List.getElem_of_mem hx
  have hl : j < rs.length := Nat.lt_of_lt_of_eq hj (stsP_len rs ps 0 H.n2.symm)
  have hl2 : j < ps.length := by rw [H.n2]; exact hl
  have e := stsP_get rs ps 0 j _ _ (List.getElem?_eq_getElem hl) (List.getElem?_eq_getElem hl2)
  rw [show stP (0 + j) rs[j] ps[j] = none from if_pos (h j _ _ (List.getElem?_eq_getElem hl) (List.getElem?_eq_getElem hl2))] at e
  exact Option.some.inj ((List.getElem?_eq_getElem hj).symm.trans e)
end
end Go.Proofs.Ytpgooljdodijlaa
