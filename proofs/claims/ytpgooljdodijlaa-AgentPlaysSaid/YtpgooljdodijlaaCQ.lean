/-
  What is proved: what the one who steps agents is held to ('Well': the machine ends well from here), and that it may go on behind an agent's round. Conditions: those that each theorem names.
-/
import Derived.Test.YtpgooljdodijlaaCO
import Derived.Below
namespace Go.Sp
open Go.Conc Go.RowKit
open Go.ConcN (sumTo upd upd_ne upd_same)

/-- The machine ends from here, and well. -/
def EndsW (P : Program) (Post : Value → World → Prop) (m : Machine) (t : Trace) : Prop :=
  ∃ M last o w' t', runNT P (M + 1) m t = (.ended o w', t') ∧ runN P M m = .next last ∧ step P last = .ended o w' ∧ Good P Post last o w' t'
theorem EndsW.after {P : Program} {Post : Value → World → Prop} {m m' : Machine} {t t' : Trace} {N : Nat} (h : runNT P N m t = (.next m', t')) (he : EndsW P Post m' t') : EndsW P Post m t := by
  obtain ⟨M, last, o, w', t'', e1, e2, e3, e4⟩ := he
  refine ⟨N + M, last, o, w', t'', ?_, ?_, e3, e4⟩
  · rw [Nat.add_assoc, runNT_add, h]; exact e1
  · rw [runN_add, ← runNT_fst P _ _ t, h]; exact e2

section
variable (L : Lw) (P : Program) (kd : Kd) (N : Nat) (W : World) (Post : Value → World → Prop)
/-- What is held of the agents while goroutine 0 holds. -/
structure Tab (tab : Nat → Option (Ag × L.St)) (R : Part) (Inb : Nat → Option Seat) (ps : Nat → Part) (n : Nat) (w : World) (X : Nat → Option Nat) (s : Nat) : Prop where
  agent : ∀ a ag st, tab a = some (ag, st) → ag.a = a ∧ 0 < ag.j ∧ ag.j < n ∧ ag.ct ≠ ag.cd ∧ ag.cr ≠ ag.ct ∧ ag.cr ≠ ag.cd ∧ R a = some (ag.ro kd) ∧ Inb ag.j = some (seatA ag (Home L P (Zl L P kd ag) st (ps a))) ∧ ag.priv kd (ps a)
  own : ∀ a ag st, tab a = some (ag, st) → ∀ b o, ps a b = some o → b ≠ a → w.heap[b]? = some o ∧ R b = none ∧ b < s ∧ X b = none
  apart : ∀ a a' ag ag' st st', tab a = some (ag, st) → tab a' = some (ag', st') → a ≠ a' → ∀ b o o', ps a b = some o → ps a' b = some o' → b ≠ a → b ≠ a' → False
  rest : ∀ a ag st, tab a = some (ag, st) → (∃ cap k, w.heap[ag.cr]? = some (.chan cap #[] false k k false)) ∧ ag.cr < s ∧ X ag.cr = none ∧ (∀ i s', i ≠ 0 → Inb i = some s' → ¬ s'.has ag.cr) ∧ N ≤ ag.cr
  uniq : ∀ a a' ag ag' st st', tab a = some (ag, st) → tab a' = some (ag', st') → a ≠ a' → ag.cr ≠ ag'.cr ∧ ag.j ≠ ag'.j
  only : ∀ i, i ≠ 0 → Inb i = none ∨ ∃ a ag st, tab a = some (ag, st) ∧ i = ag.j
  ros : ROs R
  xr : ∀ b c e z, R b = some (.cells c e z) → b < s ∧ ∀ k, X b = some k → k ≠ 0 ∧ c.size ≤ k
  xs : ∀ i s' c, Inb i = some s' → s'.has c → c < s ∧ X c = none
  low : ∀ b, b < N → X b = none
  sN : N ≤ s
  sz : s ≤ w.heap.size
  ownN : ∀ a ag st, tab a = some (ag, st) → ∀ b o, ps a b = some o → b ≠ a → N ≤ b
  chN : ∀ a ag st, tab a = some (ag, st) → N ≤ ag.ct ∧ N ≤ ag.cd
  ros' : ∀ b o, L.ro b = some o → R b = some o
/-- What goroutine 0 is held to while it has these agents. -/
def Well (tab : Nat → Option (Ag × L.St)) : Stp := fun X s main g w => main = true →
  ∀ (T : Trace) (gs : Array Goroutine) (sl : Option (Nat × Nat)) (q : Nat → Nat) (R : Part) (Mm : Nat → Prop) (Inb : Nat → Option Seat) (ps : Nat → Part), gs[0]? = some g → Ring P (KR R) (StR R) w.heap.size Mm Inb 0 T gs w q → Mm 0 →
    Tab L P kd N tab R Inb ps gs.size w X s → Below N W w → EndsW P Post (crowd gs w sl) T
/-- What goroutine 0 may write. -/
noncomputable def mnX (tab : Nat → Option (Ag × L.St)) (R : Part) (Inb : Nat → Option Seat) (ps : Nat → Part) : Nat → Option Nat := fun b =>
  open Classical in
  if b < N ∨ (∃ a ag st o, tab a = some (ag, st) ∧ ps a b = some o ∧ b ≠ a) ∨ (∃ i s', Inb i = some s' ∧ s'.has b) ∨ (∃ a ag st, tab a = some (ag, st) ∧ b = ag.cr) then none
  else match R b with | some (.cells c _ _) => some (max 1 c.size) | _ => some 0
variable {L P kd N W Post}
variable {tab : Nat → Option (Ag × L.St)} {R : Part} {Inb : Nat → Option Seat} {ps : Nat → Part} {n : Nat} {w w' : World} {X : Nat → Option Nat} {s : Nat}
theorem mnX_none {b : Nat} (h : b < N ∨ (∃ a ag st o, tab a = some (ag, st) ∧ ps a b = some o ∧ b ≠ a) ∨ (∃ i s', Inb i = some s' ∧ s'.has b) ∨ (∃ a ag st, tab a = some (ag, st) ∧ b = ag.cr)) : mnX L N tab R Inb ps b = none := by
  unfold mnX; exact if_pos h
theorem mnX_some {b : Nat} (h : ¬ (b < N ∨ (∃ a ag st o, tab a = some (ag, st) ∧ ps a b = some o ∧ b ≠ a) ∨ (∃ i s', Inb i = some s' ∧ s'.has b) ∨ (∃ a ag st, tab a = some (ag, st) ∧ b = ag.cr))) :
    mnX L N tab R Inb ps b = match R b with | some (.cells c _ _) => some (max 1 c.size) | _ => some 0 := by
  unfold mnX; exact if_neg h
theorem mnX_r {b k : Nat} {c : Array Value} {e : TypeId} {z : Nat × Nat} (hr : R b = some (.cells c e z)) (h : mnX L N tab R Inb ps b = some k) : k ≠ 0 ∧ c.size ≤ k := by
  unfold mnX at h
  split at h
  · cases h
  · rw [hr] at h
    obtain rfl := Option.some.inj h
    omega
/-- What stands behind a run of goroutine 0's own. -/
theorem Tab.fr (H : Tab L P kd N tab R Inb ps n w X s) (hF : Fr X s w w') : Tab L P kd N tab R Inb ps n w' X s := by
  obtain ⟨es, hF⟩ := hF
  refine ⟨H.agent, fun a ag st h b o e hb => ?_, H.apart, fun a ag st h => ?_, H.uniq, H.only, H.ros, H.xr, H.xs, H.low, H.sN, Nat.le_trans H.sz hF.size, H.ownN, H.chN, H.ros'⟩
  · obtain ⟨h1, h2, h3, h4⟩ := H.own a ag st h b o e hb
    exact ⟨by rw [hF.frame b h3 h4]; exact h1, h2, h3, h4⟩
  · obtain ⟨⟨cap, k, h1⟩, h2, h3, h4⟩ := H.rest a ag st h
    exact ⟨⟨cap, k, by rw [hF.frame _ h2 h3]; exact h1⟩, h2, h3, h4⟩
theorem Tab.clear (H : Tab L P kd N tab R Inb ps n w X s) : Clear R Inb X s :=
  ⟨fun b o e => by obtain ⟨c, el, k, h, _⟩ := H.ros b o e; exact ⟨c, el, k, h⟩, fun b o e => by obtain ⟨c, el, k, rfl, _⟩ := H.ros b o e; exact (H.xr b _ _ _ e).1, fun b c e z j h1 h2 => (H.xr b c e z h1).2 j h2, H.xs⟩
/-- Goroutine 0 goes on. -/
theorem main_goes {T : Trace} {gs : Array Goroutine} {sl : Option (Nat × Nat)} {q : Nat → Nat} {Mm : Nat → Prop} {g : Goroutine} {M : Part} (C : Ring P (KR R) (StR R) w.heap.size Mm Inb 0 T gs w q) (hg : gs[0]? = some g) (hMm : Mm 0)
    (H : Tab L P kd N tab R Inb ps gs.size w X s) (hB : Below N W w) (hon : (Mem.mk M (Well L P kd N W Post tab)).on w.heap) (hown : Own X s ⟨M, Well L P kd N W Post tab⟩) (hrun : RunM P true g ⟨M, Well L P kd N W Post tab⟩) : EndsW P Post (crowd gs w sl) T := by
  obtain ⟨N1, gs1, a1, w1, sl1, T1, q1, r1, z1, h1, hstop, hF, C1⟩ := hold_run (h := 0) (sl := sl) H.clear (hrun X s w hon hown H.sz) hg C
  have hB1 : Below N w w1 := by
    obtain ⟨es, hF⟩ := hF
    exact ⟨hF.os, hF.tape, hF.output, hF.size, fun k hk => hF.frame k (Nat.lt_of_lt_of_le hk H.sN) (H.low k hk)⟩
  exact EndsW.after r1 (hstop rfl T1 gs1 sl1 q1 R Mm Inb ps h1 C1 hMm (z1 ▸ H.fr hF) (hB.trans hB1))

/-- ████ BEHIND AN AGENT's ROUND: goroutine 0 holds again, with the agents as they now are. ████ -/
theorem main_back {T' : Trace} {gs' : Array Goroutine} {sl' : Option (Nat × Nat)} {q' : Nat → Nat} {Mm' : Nat → Prop} {Inb' : Nat → Option Seat} {R' : Part} {ag : Ag} {st' : L.St} {S S' p p' M0 : Part} {flag : Bool} {g : Goroutine}
    (H : Tab L P kd N tab R Inb ps n w X s) (hn : n ≤ gs'.size) (hj : 0 < ag.j ∧ ag.j < gs'.size) (hct : ag.ct ≠ ag.cd ∧ ag.cr ≠ ag.ct ∧ ag.cr ≠ ag.cd)
    (hother : ∀ a ag' st, tab a = some (ag', st) → a ≠ ag.a → ag.cr ≠ ag'.cr ∧ ag.j ≠ ag'.j ∧ (ag'.cr ≠ ag.ct ∧ ag'.cr ≠ ag.cd) ∧ ∀ b o o', ps a b = some o → p b = some o' → b ≠ a → b ≠ ag.a → False)
    (hseats : ∀ i s', i ≠ 0 → i ≠ ag.j → Inb i = some s' → ¬ s'.has ag.cr) (honly : ∀ i, i ≠ 0 → i ≠ ag.j → Inb i = none ∨ ∃ a ag' st, tab a = some (ag', st) ∧ a ≠ ag.a ∧ i = ag'.j)
    (hKR : KR R w) (hM : (Mem.mk (M0.join S) (Well L P kd N W Post tab)).on w.heap) (hown : Own X s ⟨M0.join S, Well L P kd N W Post tab⟩) (hdis : ∀ b o, M0 b = some o → S b = none ∧ (p b = none ∨ b = ag.a) ∧ b ≠ ag.ct ∧ b ≠ ag.cd ∧ b ≠ ag.cr)
    (hinvS : L.inv S) (hinv : L.inv S') (hLp : ∀ b o, p b = some o → b ≠ ag.a → w.heap[b]? = some o ∧ R b = none ∧ o.isChan = false ∧ ¬ b < N)
    (C : Ring P (KR R') (StR R') w'.heap.size Mm' Inb' 0 T' gs' w' q') (hg : gs'[0]? = some g) (hMm : Mm' 0) (hI : ∀ i, i ≠ ag.j → Inb' i = Inb i) (hA : After ag p S R w R' w') (hcrN : N ≤ ag.cr ∧ N ≤ ag.ct ∧ N ≤ ag.cd) (hcr : ∃ cap k, w'.heap[ag.cr]? = some (.chan cap #[] false k k false))
    (hcr0 : ∃ cap k, w.heap[ag.cr]? = some (Obj.chan cap #[] false k k false)) (hI1 : flag = true → Inb' ag.j = none) (hI2 : flag = false → Inb' ag.j = some (seatA ag (Home L P (Zl L P kd ag) st' p')))
    (hS' : ∀ b o, S' b = some o → w'.heap[b]? = some o ∧ R' b = none ∧ ((∃ o, p b = some o ∧ b ≠ ag.a) ∨ (∃ o, S b = some o) ∨ w.heap.size ≤ b)) (hL : flag = false → Laid kd ag p' S' R' w' ∧ ∀ b o, p' b = some o → b ≠ ag.a → (∃ o, p b = some o) ∨ (∃ o, S b = some o) ∨ w.heap.size ≤ b)
    (hB : Below N W w) (hrun : (∀ b o, M0 b = some o → S' b = none) → RunM P true g ⟨(M0.join S').join L.ro, Well L P kd N W Post (fun a => if a = ag.a then (if flag = true then none else some (ag, st')) else tab a)⟩) :
    EndsW P Post (crowd gs' w' sl') T' := by
  have hrun := hrun fun b o h => by
    cases hs : S' b with
    | none => rfl
    | some x =>
      obtain ⟨hS0, hp0, _⟩ := hdis b o h
      rcases (hS' b x hs).2.2 with ⟨y, hy, hya⟩ | ⟨y, hy⟩ | hy
      · rcases hp0 with h0 | h0
        · rw [h0] at hy; cases hy
        · exact absurd h0 hya
      · rw [hS0] at hy; cases hy
      · have hlt : b < w.heap.size := lt_of_on hM (Part.join_l h)
        omega
  have hSX : ∀ b o, S b = some o → Wr X s b 0 ∧ w.heap[b]? = some o := fun b o e => by
    have hM0 : M0 b = none := by
      cases h : M0 b with
      | none => rfl
      | some x => rw [(hdis b x h).1] at e; cases e
    have e1 : (M0.join S) b = some o := by rw [Part.join_r hM0]; exact e
    obtain ⟨c, el, rfl⟩ := L.inv_bare S hinvS b o e
    obtain ⟨o', h1, h2⟩ := hM b _ e1
    rw [alike_flat h2 rfl] at h1
    refine ⟨?_, h1⟩
    rcases hown b _ e1 with ⟨c', e', h3, hne⟩ | h3
    · simp only [Obj.cells.injEq, Prod.mk.injEq] at h3
      obtain ⟨rfl, _, _, h4⟩ := h3
      exact absurd h4.symm hne
    · exact h3
  have hSs : ∀ b o, S b = some o → X b = none → b < s → False := fun b o e h1 h2 => by
    rcases (hSX b o e).1 with ⟨k, h3, _⟩ | h3
    · rw [h1] at h3; cases h3
    · omega
  -- a channel of the world is in nobody's part
  have hSch : ∀ c cap (buf : Array Value) cl a b tm, w.heap[c]? = some (Obj.chan cap buf cl a b tm) → S c = none := fun c cap buf cl a b tm e => by
    cases h : S c with
    | none => rfl
    | some o =>
      obtain ⟨c', el, rfl⟩ := L.inv_bare S hinvS c o h
      rw [(hSX c _ h).2] at e; cases e
  have hpch : ∀ c cap (buf : Array Value) cl a b tm, w.heap[c]? = some (Obj.chan cap buf cl a b tm) → p c = none ∨ c = ag.a := fun c cap buf cl a b tm e => by
    by_cases hc : c = ag.a
    · exact .inr hc
    · cases h : p c with
      | none => exact .inl rfl
      | some o =>
        obtain ⟨h1, _, h3, _⟩ := hLp c o h hc
        rw [h1] at e; obtain rfl := Option.some.inj e; cases h3
  have hnewR : ∀ b o, b < w.heap.size → R' b = some o → R b = some o := fun b o hb e => (hA.new b o e).resolve_right (by omega)
  -- blocks of the other agents stand
  have hold : ∀ a ag' st, tab a = some (ag', st) → a ≠ ag.a → ∀ b o, ps a b = some o → b ≠ a → w'.heap[b]? = some o ∧ R' b = none ∧ b < w'.heap.size := fun a ag' st e hne b o hb hba => by
    obtain ⟨h1, h2, h3, h4⟩ := H.own a ag' st e b o hb hba
    have hlt : b < w.heap.size := Nat.lt_of_lt_of_le h3 H.sz
    have hpriv := (H.agent a ag' st e).2.2.2.2.2.2.2.2
    have hag := (H.agent a ag' st e).1
    have hnc : o.isChan = false := (hpriv.2 b o hb (by rw [hag]; exact hba)).2
    have hS0 : S b = none := by
      cases h : S b with
      | none => rfl
      | some x => exact (hSs b x h h4 h3).elim
    have hp0 : p b = none ∨ b = ag.a := by
      by_cases hc : b = ag.a
      · exact .inr hc
      · left
        cases h : p b with
        | none => rfl
        | some x => exact ((hother a ag' st e hne).2.2.2 b o x hb h hba hc).elim
    have hcr1 : b ≠ ag.cr := fun z => by
      obtain ⟨cap, k, hk⟩ := hcr0
      rw [← z, h1] at hk
      obtain rfl := Option.some.inj hk
      cases hnc
    refine ⟨by rw [hA.frame b hlt hS0 hp0 hcr1]; exact h1, ?_, Nat.lt_of_lt_of_le hlt hA.size⟩
    cases h : R' b with
    | none => rfl
    | some x => rw [hnewR b x hlt h] at h2; cases h2
  have hchan : ∀ c (cap k : Nat), w.heap[c]? = some (Obj.chan cap #[] false k k false) → c ≠ ag.cr → w'.heap[c]? = some (Obj.chan cap #[] false k k false) := fun c cap k e hne => by
    rw [hA.frame c (Array.getElem?_eq_some_iff.1 e).1 (hSch _ _ _ _ _ _ _ e) (hpch _ _ _ _ _ _ _ e) hne]; exact e
  have hIs : ∀ i, i ≠ 0 → i ≠ ag.j → ∀ s', Inb' i = some s' → Inb i = some s' := fun i _ h2 s' e => by rw [← hI i h2]; exact e
  -- the channels of whoever sits are channels
  have hseat' : ∀ i s' c, Inb' i = some s' → s'.has c → ∃ cap k, w'.heap[c]? = some (Obj.chan cap #[] false k k false) := fun i s' c e hc => C.chans i s' c (fun z => z) e hc
  have hTab : Tab L P kd N (fun a => if a = ag.a then (if flag = true then none else some (ag, st')) else tab a) R' Inb' (fun a => if a = ag.a then p' else ps a) gs'.size w'
      (mnX L N (fun a => if a = ag.a then (if flag = true then none else some (ag, st')) else tab a) R' Inb' (fun a => if a = ag.a then p' else ps a)) w'.heap.size := by
    have hcase : ∀ a ag' st, (if a = ag.a then (if flag = true then none else some (ag, st')) else tab a) = some (ag', st) → (a = ag.a ∧ flag = false ∧ ag' = ag ∧ st = st') ∨ (a ≠ ag.a ∧ tab a = some (ag', st)) := fun a ag' st e => by
      split at e
      · rename_i ha
        split at e
        · cases e
        · rename_i hf; cases e; exact .inl ⟨ha, by simpa using hf, rfl, rfl⟩
      · rename_i ha; exact .inr ⟨ha, e⟩
    refine ⟨fun a ag' st e => ?_, fun a ag' st e b o hb hba => ?_, fun a a' ag1 ag2 st1 st2 e1 e2 hne b o o' h1 h2 h3 h4 => ?_, fun a ag' st e => ?_, fun a a' ag1 ag2 st1 st2 e1 e2 hne => ?_, fun i hi => ?_, hA.ros, fun b c e z h => ⟨KR.lt C.keep h, fun k hk => mnX_r h hk⟩, fun i s' c e hc => ⟨?_, mnX_none (.inr (.inr (.inl ⟨i, s', e, hc⟩)))⟩, fun b hb => mnX_none (.inl hb), Nat.le_trans (Nat.le_trans H.sN H.sz) hA.size, Nat.le_refl _, fun a ag' st e b o hb hba => ?_, fun a ag' st e => ?_, fun b o e => hA.more b o (H.ros' b o e)⟩
    · rcases hcase a ag' st e with ⟨rfl, hf, rfl, rfl⟩ | ⟨ha, e⟩
      · rw [if_pos rfl]
        obtain ⟨hL1, _⟩ := hL hf
        exact ⟨rfl, hj.1, hj.2, hct.1, hct.2.1, hct.2.2, hL1.ro, hI2 hf, hL1.priv⟩
      · rw [if_neg ha]
        obtain ⟨h1, h2, h3, h4, h5, h6, h7, h8, h9⟩ := H.agent a ag' st e
        exact ⟨h1, h2, Nat.lt_of_lt_of_le h3 hn, h4, h5, h6, hA.more _ _ h7, by rw [hI _ (fun z => (hother a ag' st e ha).2.1 z.symm)]; exact h8, h9⟩
    · have hX : mnX L N (fun a => if a = ag.a then (if flag = true then none else some (ag, st')) else tab a) R' Inb' (fun a => if a = ag.a then p' else ps a) b = none := mnX_none (.inr (.inl ⟨a, ag', st, o, e, hb, hba⟩))
      rcases hcase a ag' st e with ⟨rfl, hf, rfl, rfl⟩ | ⟨ha, e⟩
      · rw [if_pos rfl] at hb
        obtain ⟨hL1, _⟩ := hL hf
        obtain ⟨h1, h2⟩ := hL1.own b o hb hba
        exact ⟨h1, h2, (Array.getElem?_eq_some_iff.1 h1).1, hX⟩
      · rw [if_neg ha] at hb
        obtain ⟨h1, h2, h3⟩ := hold a ag' st e ha b o hb hba
        exact ⟨h1, h2, h3, hX⟩
    · have key : ∀ a ag' st b o o', a ≠ ag.a → tab a = some (ag', st) → flag = false → ps a b = some o → p' b = some o' → b ≠ a → b ≠ ag.a → False := fun a ag' st b o o' ha e hf hb hb' hba hba' => by
        obtain ⟨h1, h2, h3, h4⟩ := H.own a ag' st e b o hb hba
        rcases (hL hf).2 b o' hb' hba' with ⟨x, hx⟩ | ⟨x, hx⟩ | hx
        · exact (hother a ag' st e ha).2.2.2 b o x hb hx hba hba'
        · exact hSs b x hx h4 h3
        · have := H.sz; omega
      rcases hcase a ag1 st1 e1 with ⟨rfl, hf, _, _⟩ | ⟨ha, e1⟩ <;> rcases hcase a' ag2 st2 e2 with ⟨rfl, hf', _, _⟩ | ⟨ha', e2⟩
      · exact hne rfl
      · rw [if_pos rfl] at h1; rw [if_neg ha'] at h2
        exact key a' ag2 st2 b o' o ha' e2 hf h2 h1 h4 h3
      · rw [if_pos rfl] at h2; rw [if_neg ha] at h1
        exact key a ag1 st1 b o o' ha e1 hf' h1 h2 h3 h4
      · rw [if_neg ha] at h1; rw [if_neg ha'] at h2
        exact H.apart a a' ag1 ag2 st1 st2 e1 e2 hne b o o' h1 h2 h3 h4
    · have hX : mnX L N (fun a => if a = ag.a then (if flag = true then none else some (ag, st')) else tab a) R' Inb' (fun a => if a = ag.a then p' else ps a) ag'.cr = none := mnX_none (.inr (.inr (.inr ⟨a, ag', st, e, rfl⟩)))
      rcases hcase a ag' st e with ⟨rfl, hf, rfl, rfl⟩ | ⟨ha, e⟩
      · obtain ⟨cap, k, hk⟩ := hcr
        refine ⟨⟨cap, k, hk⟩, (Array.getElem?_eq_some_iff.1 hk).1, hX, fun i s' hi e => ?_, hcrN.1⟩
        by_cases hij : i = ag'.j
        · subst hij
          rw [hI2 hf] at e
          obtain rfl := Option.some.inj e
          intro hh
          rcases seatA_has hh with h | h
          · exact hct.2.1 h
          · exact hct.2.2 h
        · exact hseats i s' hi hij (hIs i hi hij s' e)
      · obtain ⟨⟨cap, k, h1⟩, h2, h3, h4, h4'⟩ := H.rest a ag' st e
        have h5 := hchan ag'.cr cap k h1 (fun z => (hother a ag' st e ha).1 z.symm)
        refine ⟨⟨cap, k, h5⟩, (Array.getElem?_eq_some_iff.1 h5).1, hX, fun i s' hi e' => ?_, h4'⟩
        by_cases hij : i = ag.j
        · subst hij
          cases hfl : flag with
          | true => rw [hI1 hfl] at e'; cases e'
          | false =>
            rw [hI2 hfl] at e'
            obtain rfl := Option.some.inj e'
            intro hh
            rcases seatA_has hh with h | h
            · exact (hother a ag' st e ha).2.2.1.1 h
            · exact (hother a ag' st e ha).2.2.1.2 h
        · exact h4 i s' hi (hIs i hi hij s' e')
    · rcases hcase a ag1 st1 e1 with ⟨i1, _, i2, _⟩ | ⟨ha, j1⟩ <;> rcases hcase a' ag2 st2 e2 with ⟨i3, _, i4, _⟩ | ⟨ha', j2⟩
      · exact absurd (i1.trans i3.symm) hne
      · rw [i2]; exact ⟨(hother a' ag2 st2 j2 ha').1, (hother a' ag2 st2 j2 ha').2.1⟩
      · rw [i4]; exact ⟨fun z => (hother a ag1 st1 j1 ha).1 z.symm, fun z => (hother a ag1 st1 j1 ha).2.1 z.symm⟩
      · exact H.uniq a a' ag1 ag2 st1 st2 j1 j2 hne
    · by_cases hij : i = ag.j
      · subst hij
        cases hfl : flag with
        | true => exact .inl (hI1 hfl)
        | false => exact .inr ⟨ag.a, ag, st', by simp, rfl⟩
      · rw [hI i hij]
        rcases honly i hi hij with h | ⟨a, ag', st, h1, h2, h3⟩
        · exact .inl h
        · exact .inr ⟨a, ag', st, by rw [if_neg h2]; exact h1, h3⟩
    · obtain ⟨cap, k, hk⟩ := hseat' i s' c e hc
      exact (Array.getElem?_eq_some_iff.1 hk).1
    · rcases hcase a ag' st e with ⟨rfl, hf, _, _⟩ | ⟨ha, e⟩
      · rw [if_pos rfl] at hb
        rcases (hL hf).2 b o hb hba with ⟨x, hx⟩ | ⟨x, hx⟩ | hx
        · exact Nat.le_of_not_lt (hLp b x hx hba).2.2.2
        · exact Nat.le_of_not_lt fun h => hSs b x hx (H.low b h) (Nat.lt_of_lt_of_le h H.sN)
        · exact Nat.le_trans (Nat.le_trans H.sN H.sz) hx
      · rw [if_neg ha] at hb
        exact H.ownN a ag' st e b o hb hba
    · rcases hcase a ag' st e with ⟨_, _, h, _⟩ | ⟨ha, e⟩
      · rw [h]; exact hcrN.2
      · exact H.chN a ag' st e
  have hon' : (Mem.mk ((M0.join S').join L.ro) (Well L P kd N W Post (fun a => if a = ag.a then (if flag = true then none else some (ag, st')) else tab a))).on w'.heap := fun b o e => by
    rcases Part.join_cases e with e | ⟨_, e⟩
    case inr => exact C.keep _ _ (hTab.ros' _ _ e)
    rcases Part.join_cases e with h1 | ⟨_, h1⟩
    · obtain ⟨hS0, hp0, hb1, hb2, hb3⟩ := hdis b o h1
      obtain ⟨o', h2, h3⟩ := hM b o (Part.join_l h1)
      exact ⟨o', by rw [hA.frame b (Array.getElem?_eq_some_iff.1 h2).1 hS0 hp0 hb3]; exact h2, h3⟩
    · exact ⟨o, (hS' b o h1).1, .refl _⟩
  refine main_goes C hg hMm hTab ⟨hA.os.trans hB.os, hA.tape.trans hB.tape, hA.output.trans hB.output, Nat.le_trans hB.size hA.size, fun k hk => ?_⟩ hon' (fun b o e => ?_) hrun
  · rw [← hB.block k hk]
    have hlt : k < w.heap.size := Nat.lt_of_lt_of_le hk (Nat.le_trans H.sN H.sz)
    refine hA.frame k hlt ?_ ?_ (by have := hcrN.1; omega)
    · cases h : S k with
      | none => rfl
      | some o => exact (hSs k o h (H.low k hk) (Nat.lt_of_lt_of_le hk H.sN)).elim
    · by_cases hka : k = ag.a
      · exact .inr hka
      · left
        cases h : p k with
        | none => rfl
        | some o => exact absurd hk (hLp k o h hka).2.2.2
  · rcases Part.join_cases e with e | ⟨_, e⟩
    case inr => exact .inl (L.ro_ro _ _ e)
    rcases Part.join_cases e with h1 | ⟨_, h1⟩
    · by_cases hro : RO o
      · exact .inl hro
      obtain ⟨hS0, hp0, hb1, hb2, hb3⟩ := hdis b o h1
      have hW := (hown b o (Part.join_l h1)).resolve_left hro
      have hlt : b < w.heap.size := lt_of_on hM (Part.join_l h1)
      have hXs : X b = none → b < s → False := fun h2 h3 => by
        rcases hW with ⟨k, h4, _⟩ | h4
        · rw [h2] at h4; cases h4
        · omega
      right; left
      have hnot : ¬ (b < N ∨ (∃ a ag'' st o, (if a = ag.a then (if flag = true then none else some (ag, st')) else tab a) = some (ag'', st) ∧ (if a = ag.a then p' else ps a) b = some o ∧ b ≠ a) ∨ (∃ i s', Inb' i = some s' ∧ s'.has b) ∨ (∃ a ag'' st, (if a = ag.a then (if flag = true then none else some (ag, st')) else tab a) = some (ag'', st) ∧ b = ag''.cr)) := by
        rintro (hN | ⟨a, ag', st, x, ha, hb, hba⟩ | ⟨i, s', hi, hh⟩ | ⟨a, ag', st, ha, hb⟩)
        · exact hXs (H.low b hN) (Nat.lt_of_lt_of_le hN H.sN)
        · by_cases haa : a = ag.a
          · subst haa
            rw [if_pos rfl] at ha hb
            split at ha
            · cases ha
            · rename_i hf
              rcases (hL (by simpa using hf)).2 b x hb hba with ⟨y, hy⟩ | ⟨y, hy⟩ | hy
              · rcases hp0 with h | h
                · rw [h] at hy; cases hy
                · exact hba h
              · rw [hS0] at hy; cases hy
              · omega
          · rw [if_neg haa] at ha hb
            obtain ⟨_, _, h3, h4⟩ := H.own a ag' st ha b x hb hba
            exact hXs h4 h3
        · by_cases hij : i = ag.j
          · subst hij
            cases hfl : flag with
            | true => rw [hI1 hfl] at hi; cases hi
            | false =>
              rw [hI2 hfl] at hi
              obtain rfl := Option.some.inj hi
              rcases seatA_has hh with h | h
              · exact hb1 h
              · exact hb2 h
          · rw [hI i hij] at hi
            obtain ⟨h3, h4⟩ := H.xs i s' b hi hh
            exact hXs h4 h3
        · by_cases haa : a = ag.a
          · subst haa
            rw [if_pos rfl] at ha
            split at ha
            · cases ha
            · cases ha; exact hb3 hb
          · rw [if_neg haa] at ha
            obtain ⟨_, h3, h4, _⟩ := H.rest a ag' st ha
            rw [← hb] at h3 h4
            exact hXs h4 h3
      have hmn := mnX_some (L := L) (N := N) (tab := fun a => if a = ag.a then (if flag = true then none else some (ag, st')) else tab a) (R := R') (Inb := Inb') (ps := fun a => if a = ag.a then p' else ps a) hnot
      cases hr : R' b with
      | none => rw [hr] at hmn; exact ⟨0, hmn, Nat.zero_le _⟩
      | some x =>
        obtain ⟨c, el, k, rfl, _⟩ := hA.ros b x hr
        rw [hr] at hmn
        obtain ⟨h2, h3⟩ := H.xr b c el _ (hnewR b _ hlt hr)
        rcases hW with ⟨k0, h4, h5⟩ | h4
        · obtain ⟨h6, h7⟩ := h3 k0 h4
          exact ⟨_, hmn, by omega⟩
        · omega
    · obtain ⟨h2, h3, hy⟩ := hS' b o h1
      obtain ⟨c, el, rfl⟩ := L.inv_bare S' hinv b o h1
      right; left
      refine ⟨0, ?_, Nat.zero_le _⟩
      have hnot : ¬ (b < N ∨ (∃ a ag'' st o, (if a = ag.a then (if flag = true then none else some (ag, st')) else tab a) = some (ag'', st) ∧ (if a = ag.a then p' else ps a) b = some o ∧ b ≠ a) ∨ (∃ i s', Inb' i = some s' ∧ s'.has b) ∨ (∃ a ag'' st, (if a = ag.a then (if flag = true then none else some (ag, st')) else tab a) = some (ag'', st) ∧ b = ag''.cr)) := by
        rintro (hN | ⟨a, ag', st, x, ha, hb, hba⟩ | ⟨i, s', hi, hh⟩ | ⟨a, ag', st, ha, hb⟩)
        · rcases hy with ⟨y, hy, hya⟩ | ⟨y, hy⟩ | hy
          · exact (hLp b y hy hya).2.2.2 hN
          · exact hSs b y hy (H.low b hN) (Nat.lt_of_lt_of_le hN H.sN)
          · have := H.sN; have := H.sz; omega
        · by_cases haa : a = ag.a
          · subst haa
            rw [if_pos rfl] at ha hb
            split at ha
            · cases ha
            · rename_i hf
              rw [(hL (by simpa using hf)).1.dis b x hb] at h1; cases h1
          · rw [if_neg haa] at ha hb
            obtain ⟨_, _, h3, h4⟩ := H.own a ag' st ha b x hb hba
            rcases hy with ⟨y, hy, hya⟩ | ⟨y, hy⟩ | hy
            · exact (hother a ag' st ha haa).2.2.2 b x y hb hy hba hya
            · exact hSs b y hy h4 h3
            · have := H.sz; omega
        · obtain ⟨cap, k, hk⟩ := hseat' i s' b hi hh
          rw [h2] at hk; cases hk
        · obtain ⟨⟨cap, k, hk⟩, _⟩ := hTab.rest a ag' st ha
          rw [← hb, h2] at hk; cases hk
      have hmn := mnX_some (L := L) (N := N) (tab := fun a => if a = ag.a then (if flag = true then none else some (ag, st')) else tab a) (R := R') (Inb := Inb') (ps := fun a => if a = ag.a then p' else ps a) hnot
      rw [h3] at hmn
      exact hmn
end
end Go.Sp
