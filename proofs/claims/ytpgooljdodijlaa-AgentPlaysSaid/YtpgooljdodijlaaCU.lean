/-
  What is proved: a birth: the one who steps agents makes an agent's block, and starts its goroutine. Conditions: those that each theorem names.
-/
import Derived.Test.YtpgooljdodijlaaCR
namespace Go.Sp
open Go.Conc Go.RowKit
open Go.ConcN (sumTo upd upd_ne upd_same)

section
variable {L : Lw} {P : Program} {kd : Kd} {N : Nat} {W : World} {Post : Value → World → Prop}
variable {tab : Nat → Option (Ag × L.St)}
variable (L P kd N W Post tab) in
/-- 'Well', where one block more is only read. -/
def WellN (b : Nat) (ro : Obj) : Stp := fun X s main g w => main = true →
  ∀ (T : Trace) (gs : Array Goroutine) (sl : Option (Nat × Nat)) (q : Nat → Nat) (R : Part) (Mm : Nat → Prop) (Inb : Nat → Option Seat) (ps : Nat → Part), gs[0]? = some g → Ring P (KR R) (StR R) w.heap.size Mm Inb 0 T gs w q → Mm 0 →
    Tab L P kd N tab R Inb ps gs.size w X s → R b = some ro → Below N W w → EndsW P Post (crowd gs w sl) T
/-- Goroutine 0 makes a block whose first cells are only read from then on. -/
theorem run_box {fr : Frame} {cs : List Frame} {nf : Nat → Frame} {M : Part} {c c4 : Array Value} {e : TypeId} {k : Nat} (hk : k ≠ 0) (hc4 : c4.size ≤ k) (hpre : ∀ (i : Nat) (v : Value), c4[i]? = some v → c[i]? = some v)
    (hst : ∀ w, stepG P true (G fr cs) w = .go (G (nf w.heap.size) cs) { w with heap := w.heap.push (.cells c e) } #[])
    (h : ∀ b, M b = none → RunM P true (G (nf b) cs) ⟨M.put b (.cells c e (0, k)), WellN L P kd N W Post tab b (.cells c4 e (0, k))⟩) : RunM P true (G fr cs) ⟨M, Well L P kd N W Post tab⟩ := by
  intro X s w hm ho hs
  refine .stop fun d => ?_
  intro _ T gs sl q R Mm Inb ps hg0 C hMm HT hB
  have hm : (Mem.mk M (Well L P kd N W Post tab)).on (w.at d).heap := hm
  generalize w.at d = w1 at *
  have hMb : M w1.heap.size = none := by
    cases hb : M w1.heap.size with
    | none => rfl
    | some o => exact absurd (lt_of_on hm hb) (Nat.lt_irrefl _)
  obtain ⟨N1, gs1, d1, sl1, T1, q1, r1, z1, h1, C1⟩ := hold_new (sl := sl) (h := 0) (o := .cells c e) (ro := .cells c4 e (0, k)) (.inr ⟨c4, e, k, c, (0, 0), rfl, rfl, ⟨hk, .inl rfl⟩, hpre⟩) HT.ros hst hg0 C
  have hpush : ∀ b, b < w1.heap.size → ({ (w1.at d1) with heap := w1.heap.push (.cells c e) } : World).heap[b]? = w1.heap[b]? := fun b hb => by
    show (w1.heap.push _)[b]? = _
    rw [Array.getElem?_push, if_neg (by omega)]
  have hlast : ({ (w1.at d1) with heap := w1.heap.push (.cells c e) } : World).heap[w1.heap.size]? = some (.cells c e) := by
    show (w1.heap.push _)[_]? = _
    simp
  have hsz : ({ (w1.at d1) with heap := w1.heap.push (.cells c e) } : World).heap.size = w1.heap.size + 1 := by simp
  have hos : ({ (w1.at d1) with heap := w1.heap.push (.cells c e) } : World).os = w1.os ∧ ({ (w1.at d1) with heap := w1.heap.push (.cells c e) } : World).tape = w1.tape ∧ ({ (w1.at d1) with heap := w1.heap.push (.cells c e) } : World).output = w1.output := ⟨rfl, rfl, rfl⟩
  rw [← hsz] at C1
  generalize ({ (w1.at d1) with heap := w1.heap.push (.cells c e) } : World) = w2 at *
  have hR1 : ∀ x, x ≠ w1.heap.size → (R.put w1.heap.size (.cells c4 e (0, k))) x = R x := fun x hx => by simp only [Part.put]; rw [if_neg hx]
  have hR1b : (R.put w1.heap.size (.cells c4 e (0, k))) w1.heap.size = some (.cells c4 e (0, k)) := by simp [Part.put]
  have hRlt : ∀ x o, R x = some o → x < w1.heap.size := fun x o hx => KR.lt C.keep hx
  generalize R.put w1.heap.size (.cells c4 e (0, k)) = R1 at *
  let X1 : Nat → Option Nat := fun x => if x = w1.heap.size then some k else if s ≤ x then some 0 else X x
  have hX1 : ∀ x, x < s → X1 x = X x := fun x hx => by
    have := HT.sz
    show (if x = w1.heap.size then some k else if s ≤ x then some 0 else X x) = _
    rw [if_neg (by omega), if_neg (by omega)]
  have hX1b : X1 w1.heap.size = some k := if_pos rfl
  have hX1s : ∀ x, x ≠ w1.heap.size → s ≤ x → X1 x = some 0 := fun x hx hs => by
    show (if x = w1.heap.size then some k else if s ≤ x then some 0 else X x) = _
    rw [if_neg hx, if_pos hs]
  have HT2 : Tab L P kd N tab R1 Inb ps gs1.size w2 X1 w2.heap.size := by
    have hsz1 := HT.sz
    refine ⟨fun a ag st e' => ?_, fun a ag st e' b o hb hba => ?_, HT.apart, fun a ag st e' => ?_, HT.uniq, HT.only, fun b o e' => ?_, fun b c' e' z h' => ?_, fun i s' c' e' hc' => ?_, fun b hb => ?_, Nat.le_trans HT.sN (by omega), Nat.le_refl _, HT.ownN, HT.chN, fun b o e' => by rw [hR1 b (fun z => by have := hRlt b o (HT.ros' b o e'); omega)]; exact HT.ros' b o e'⟩
    · obtain ⟨i1, i2, i3, i4, i5, i6, i7, i8, i9⟩ := HT.agent a ag st e'
      exact ⟨i1, i2, by omega, i4, i5, i6, by rw [hR1 a (fun z => by have := hRlt a _ i7; omega)]; exact i7, i8, i9⟩
    · obtain ⟨i1, i2, i3, i4⟩ := HT.own a ag st e' b o hb hba
      exact ⟨by rw [hpush b (by omega)]; exact i1, by rw [hR1 b (by omega)]; exact i2, by omega, by rw [hX1 b i3]; exact i4⟩
    · obtain ⟨⟨cap, j, i1⟩, i2, i3, i4⟩ := HT.rest a ag st e'
      exact ⟨⟨cap, j, by rw [hpush _ (by omega)]; exact i1⟩, by omega, by rw [hX1 _ i2]; exact i3, i4⟩
    · by_cases hb : b = w1.heap.size
      · rw [hb, hR1b] at e'; obtain rfl := Option.some.inj e'; exact ⟨_, _, k, rfl, hk, hc4⟩
      · rw [hR1 b hb] at e'; exact HT.ros b o e'
    · by_cases hb : b = w1.heap.size
      · rw [hb, hR1b] at h'
        cases h'
        refine ⟨by omega, fun j hj => ?_⟩
        rw [hb, hX1b] at hj
        cases hj
        exact ⟨hk, hc4⟩
      · rw [hR1 b hb] at h'
        obtain ⟨i1, i2⟩ := HT.xr b c' e' z h'
        exact ⟨by omega, fun j hj => i2 j (by rw [← hX1 b i1]; exact hj)⟩
    · obtain ⟨i1, i2⟩ := HT.xs i s' c' e' hc'
      exact ⟨by omega, by rw [hX1 _ i1]; exact i2⟩
    · rw [hX1 b (Nat.lt_of_lt_of_le hb HT.sN)]; exact HT.low b hb
  have hB2 : Below N W w2 := ⟨hos.1.trans hB.os, hos.2.1.trans hB.tape, hos.2.2.trans hB.output, by have := hB.size; omega, fun j hj => by rw [hpush j (Nat.lt_of_lt_of_le hj (Nat.le_trans HT.sN HT.sz))]; exact hB.block j hj⟩
  have hon : (Mem.mk (M.put w1.heap.size (.cells c e (0, k))) (WellN L P kd N W Post tab w1.heap.size (.cells c4 e (0, k)))).on w2.heap := fun x o hx => by
    have hy : M.put w1.heap.size (.cells c e (0, k)) x = some o := hx
    simp only [Part.put] at hy
    split at hy
    · rename_i z; subst z; obtain rfl := Option.some.inj hy
      exact ⟨_, hlast, .inr ⟨c, e, k, c, (0, 0), rfl, rfl, ⟨hk, .inl rfl⟩, fun _ _ h => h⟩⟩
    · obtain ⟨o', i1, i2⟩ := hm x o hy
      exact ⟨o', by rw [hpush x (Array.getElem?_eq_some_iff.1 i1).1]; exact i1, i2⟩
  have hown : Own X1 w2.heap.size (Mem.mk (M.put w1.heap.size (.cells c e (0, k))) (WellN L P kd N W Post tab w1.heap.size (.cells c4 e (0, k)))) := fun x o hx => by
    have hy : M.put w1.heap.size (.cells c e (0, k)) x = some o := hx
    simp only [Part.put] at hy
    split at hy
    · rename_i z; subst z; obtain rfl := Option.some.inj hy
      exact .inr (.inl ⟨k, hX1b, Nat.le_refl _⟩)
    · rename_i hne
      refine (ho x o hy).imp id fun hW => .inl ?_
      by_cases hsx : s ≤ x
      · exact ⟨0, hX1s x hne hsx, Nat.zero_le _⟩
      · rcases hW with ⟨j, i1, i2⟩ | i1
        · exact ⟨j, by rw [hX1 x (by omega)]; exact i1, i2⟩
        · exact absurd i1 hsx
  obtain ⟨N3, gs3, a3, w3, sl3, T3, q3, r3, z3, h3, hstop, hF, C3⟩ := hold_run (h := 0) (sl := sl1) HT2.clear (h w1.heap.size hMb X1 w2.heap.size w2 hon hown (Nat.le_refl _)) h1 C1
  have hB3 : Below N W w3 := by
    obtain ⟨es, hF⟩ := hF
    exact hB2.trans ⟨hF.os, hF.tape, hF.output, hF.size, fun j hj => hF.frame j (Nat.lt_of_lt_of_le hj HT2.sN) (HT2.low j hj)⟩
  exact EndsW.after (runNT_then r1 r3) (hstop rfl T3 gs3 sl3 q3 R1 Mm Inb ps h3 C3 hMm (z3 ▸ HT2.fr hF) hR1b hB3)

/-- ████ A BIRTH: goroutine 0 stands at the go statement; the child holds from its birth. ████ -/
theorem run_go {ag : Nat → Ag} (hag : ∀ j, (ag j).j = j ∧ (ag j).a = (ag 0).a ∧ (ag j).ct = (ag 0).ct ∧ (ag j).cr = (ag 0).cr ∧ (ag j).cd = (ag 0).cd ∧ (ag j).mi = (ag 0).mi) {M M0 S pc : Part} {g g' child : Goroutine} {hM : Goroutine → Prop} {Ob : Bool → L.St → Part → Prop}
    (htab : tab (ag 0).a = none) (hS : L.inv S) (hct : (ag 0).ct ≠ (ag 0).cd ∧ (ag 0).cr ≠ (ag 0).ct ∧ (ag 0).cr ≠ (ag 0).cd)
    (hM1 : ∀ b o, (M0.join (pc.join S)) b = some o → M b = some o) (hMc : ∀ c, c = (ag 0).ct ∨ c = (ag 0).cr ∨ c = (ag 0).cd → M c = some (.chan 0 #[] false 0 0 false))
    (hd1 : ∀ b o, M0 b = some o → pc b = none ∧ S b = none ∧ o.isChan = false ∧ ¬ RO o) (hd2 : ∀ b o, pc b = some o → S b = none ∧ b ≠ (ag 0).a ∧ floor o = 0 ∧ o.isChan = false ∧ ¬ RO o) (hSa : S (ag 0).a = none)
    (hrun : g.status = .running) (hat : ∀ w, stepG P true g w = .spawn g' child w #[])
    (hq : QGo P true (fun x => if x = (ag 0).a then some ((ag 0).ro kd) else none) (seatM (ag 0) hM) g')
    (hchild : ∀ j, RunM P false child ⟨((pc.put (ag 0).a ((ag 0).ro kd)).join S).join L.ro, Zl L P kd (ag j) Ob⟩)
    (hhome : ∀ j g₂, hM g₂ → ∀ flag st' S', Ob flag st' S' → L.inv S' → (∀ b o, M0 b = some o → S' b = none) → RunM P true (Go.Conc.served g₂ (.bool flag)) ⟨(M0.join S').join L.ro, Well L P kd N W Post (fun a => if a = (ag 0).a then (if flag = true then none else some (ag j, st')) else tab a)⟩) :
    RunM P true g ⟨M, WellN L P kd N W Post tab (ag 0).a ((ag 0).ro kd)⟩ := by
  intro X s w hm ho hs
  refine .stop fun d => ?_
  intro _ T gs sl q R Mm Inb ps hg0 C hMm HT hRa hB
  have hm : (Mem.mk M (WellN L P kd N W Post tab (ag 0).a ((ag 0).ro kd))).on (w.at d).heap := hm
  generalize w.at d = w1 at *
  -- WHAT IS GOROUTINE 0's
  have hW : ∀ b o, M b = some o → ¬ RO o → Wr X s b (floor o) := fun b o e hr => (ho b o e).resolve_left hr
  have hfree : ∀ b i, Wr X s b i → X b = none → b < s → False := fun b i hb h1 h2 => by
    rcases hb with ⟨k, h3, _⟩ | h3
    · rw [h1] at h3; cases h3
    · omega
  have hch : ∀ c, c = (ag 0).ct ∨ c = (ag 0).cr ∨ c = (ag 0).cd → w1.heap[c]? = some (Obj.chan 0 #[] false 0 0 false) ∧ Wr X s c 0 := fun c hc => by
    obtain ⟨o', h1, h2⟩ := hm c _ (hMc c hc)
    rw [alike_flat h2 rfl] at h1
    exact ⟨h1, hW c _ (hMc c hc) (fun ⟨_, _, h, _⟩ => by cases h)⟩
  have hN : ∀ b i, Wr X s b i → N ≤ b := fun b i hb => Nat.le_of_not_lt fun h => hfree b i hb (HT.low b h) (Nat.lt_of_lt_of_le h HT.sN)
  obtain ⟨hj0, ha0, hct0, hcr0, hcd0, hmi0⟩ := hag gs.size
  have hro0 : (ag gs.size).ro kd = (ag 0).ro kd := by unfold Ag.ro; rw [hct0, hcr0, hcd0, hmi0]
  have hgs : 0 < gs.size := (Array.getElem?_eq_some_iff.1 hg0).1
  have has : (ag 0).a < s := (HT.xr _ _ _ _ hRa).1
  have hjM : ∀ b o, M0 b = some o → M b = some o := fun b o e => hM1 b o (Part.join_l e)
  have hjp : ∀ b o, pc b = some o → M b = some o := fun b o e => hM1 b o (by
    have : M0 b = none := by
      cases h : M0 b with
      | none => rfl
      | some x => rw [(hd1 b x h).1] at e; cases e
    rw [Part.join_r this]; exact Part.join_l e)
  have hjS : ∀ b o, S b = some o → M b = some o := fun b o e => hM1 b o (by
    have h1 : M0 b = none := by
      cases h : M0 b with
      | none => rfl
      | some x => rw [(hd1 b x h).2.1] at e; cases e
    have h2 : pc b = none := by
      cases h : pc b with
      | none => rfl
      | some x => rw [(hd2 b x h).1] at e; cases e
    rw [Part.join_r h1, Part.join_r h2]; exact e)
  have hSb : ∀ b o, S b = some o → Wr X s b 0 ∧ w1.heap[b]? = some o ∧ ∃ c e, o = .cells c e (0, 0) := fun b o e => by
    obtain ⟨c, el, rfl⟩ := L.inv_bare S hS b o e
    obtain ⟨o', h1, h2⟩ := hm b _ (hjS b _ e)
    rw [alike_flat h2 rfl] at h1
    refine ⟨hW b _ (hjS b _ e) (fun ⟨c', e', h3, hne⟩ => ?_), h1, c, el, rfl⟩
    simp only [Obj.cells.injEq, Prod.mk.injEq] at h3
    obtain ⟨rfl, _, _, h4⟩ := h3
    exact hne h4.symm
  have hpb : ∀ b o, pc b = some o → Wr X s b 0 ∧ w1.heap[b]? = some o := fun b o e => by
    obtain ⟨h1, h2, h3, h4, h5⟩ := hd2 b o e
    obtain ⟨o', h6, h7⟩ := hm b _ (hjp b _ e)
    rw [alike_flat h7 h3] at h6
    have := hW b _ (hjp b _ e) h5
    rw [h3] at this
    exact ⟨this, h6⟩
  have hRn : ∀ b, Wr X s b 0 → R b = none := fun b hb => by
    cases h : R b with
    | none => rfl
    | some x =>
      obtain ⟨c1, e1, k1, rfl, _⟩ := HT.ros b x h
      obtain ⟨h4, h5⟩ := HT.xr b c1 e1 _ h
      rcases hb with ⟨k0, h6, h7⟩ | h6
      · exact absurd (h5 k0 h6).1 (by omega)
      · omega
  let sp : Nat → Prop := fun x => x = (ag 0).ct ∨ x = (ag 0).cr ∨ x = (ag 0).cd ∨ (pc x).isSome = true
  have hspd : ∀ x, Decidable (sp x) := fun x => by unfold sp; infer_instance
  let X1 : Nat → Option Nat := fun x => if sp x then none else if s ≤ x then some 0 else X x
  have hX1n : ∀ x, x < s → X x = none → X1 x = none := fun x h1 h2 => by
    show (if sp x then none else if s ≤ x then some 0 else X x) = none
    split
    · rfl
    · rw [if_neg (by omega)]; exact h2
  have hX1sp : ∀ x, sp x → X1 x = none := fun x h => if_pos h
  have hX1w : ∀ x i, ¬ sp x → Wr X s x i → ∃ k, X1 x = some k ∧ k ≤ i := fun x i h1 h2 => by
    show ∃ k, (if sp x then none else if s ≤ x then some 0 else X x) = some k ∧ k ≤ i
    rw [if_neg h1]
    by_cases hsx : s ≤ x
    · exact ⟨0, if_pos hsx, Nat.zero_le _⟩
    · rw [if_neg hsx]; exact h2.resolve_right hsx
  have hcrB := hch (ag 0).cr (.inr (.inl rfl))
  have C1 := C.reseat hMm (seatM (ag 0) hM) (Seat.one_wf _ _ _ _) (fun i s' c hi e hc hc' => by
      rw [seatM_has hc'] at hc
      obtain ⟨h1, h2⟩ := HT.xs i s' _ e hc
      exact hfree _ _ hcrB.2 h2 h1) (fun c hc => ⟨0, 0, by rw [seatM_has hc]; exact hcrB.1⟩) (fun c hc => by rw [seatM_has hc]; exact (Array.getElem?_eq_some_iff.1 hcrB.1).1)
  obtain ⟨n0, hsits⟩ := hq.sits
  have hqok : QOk (fun x => if x = (ag 0).a then some ((ag 0).ro kd) else none) (KR R) (StR R) w1.heap.size := by
    have key : ∀ b o, (if b = (ag 0).a then some ((ag 0).ro kd) else none) = some o → R b = some o := fun b o e => by
      split at e
      · rename_i z; rw [z, hRa]; exact e
      · cases e
    exact ⟨fun w hk b o e => hk b o (key b o e), fun l ⟨b, i, c, e, z, h1, h2, h3⟩ => ⟨b, i, c, e, z, h1, key _ _ h2, h3⟩, fun b o e => KR.lt C.keep (key b o e)⟩
  have hnone : Inb gs.size = none := by
    rcases HT.only gs.size (by omega) with h | ⟨a, ag', st, h1, h2⟩
    · exact h
    · have := (HT.agent a ag' st h1).2.2.1; omega
  obtain ⟨N2, gs2, d2, sl2, T2, q2, r2, z2, h2, C2⟩ := hire_give (sl := sl) (h := 0) (kr_at R) hMm hg0 hrun (fun d => hat (w1.at d)) (fun e he => by simp at he) C1 (by rw [upd_ne _ _ (by omega)]; exact hnone) (Inb' := upd Inb 0 (some (seatM (ag 0) hM))) (fun _ _ => rfl) (.inl rfl) (nh := n0) (fun T' _ => by rw [upd_same]; exact hsits _ _ _ hqok)
  have hT1 : Tab L P kd N tab R (upd Inb 0 (some (seatM (ag 0) hM))) ps gs.size (w1.at d2) X1 w1.heap.size := by
    have hsz1 := HT.sz
    refine ⟨fun a ag' st e => ?_, fun a ag' st e b o hb hba => ?_, HT.apart, fun a ag' st e => ?_, HT.uniq, fun i hi => ?_, HT.ros, fun b c e z h => ?_, fun i s' c e hc => ?_, fun b hb => hX1n b (Nat.lt_of_lt_of_le hb HT.sN) (HT.low b hb), Nat.le_trans HT.sN hsz1, Nat.le_refl _, HT.ownN, HT.chN, HT.ros'⟩
    · obtain ⟨i1, i2, i3, i4, i5, i6, i7, i8, i9⟩ := HT.agent a ag' st e
      exact ⟨i1, i2, i3, i4, i5, i6, i7, by rw [upd_ne _ _ (by omega)]; exact i8, i9⟩
    · obtain ⟨i1, i2, i3, i4⟩ := HT.own a ag' st e b o hb hba
      exact ⟨i1, i2, by omega, hX1n b i3 i4⟩
    · obtain ⟨i1, i2, i3, i4, i5⟩ := HT.rest a ag' st e
      exact ⟨i1, by omega, hX1n _ i2 i3, fun i s' hi e' => i4 i s' hi (by rw [upd_ne _ _ hi] at e'; exact e'), i5⟩
    · rw [upd_ne _ _ hi]; exact HT.only i hi
    · obtain ⟨i1, i2⟩ := HT.xr b c e z h
      refine ⟨by omega, fun j hj => i2 j ?_⟩
      have hj : (if sp b then none else if s ≤ b then some 0 else X b) = some j := hj
      split at hj
      · cases hj
      · rw [if_neg (by omega)] at hj; exact hj
    · by_cases hi : i = 0
      · subst hi; rw [upd_same] at e; obtain rfl := Option.some.inj e; rw [seatM_has hc]
        exact ⟨(Array.getElem?_eq_some_iff.1 hcrB.1).1, hX1sp _ (.inr (.inl rfl))⟩
      · rw [upd_ne _ _ hi] at e
        obtain ⟨i1, i2⟩ := HT.xs i s' c e hc
        exact ⟨by omega, hX1n c i1 i2⟩
  have hput : ∀ b o, (pc.put (ag 0).a ((ag 0).ro kd)) b = some o → (b = (ag 0).a ∧ o = (ag 0).ro kd) ∨ (b ≠ (ag 0).a ∧ pc b = some o) := fun b o e => by
    simp only [Part.put] at e
    split at e
    · rename_i z; exact .inl ⟨z, (Option.some.inj e).symm⟩
    · rename_i z; exact .inr ⟨z, e⟩
  have hLaid : Laid kd (ag gs.size) (pc.put (ag 0).a ((ag 0).ro kd)) S R (w1.at d2) := by
    refine ⟨⟨by rw [ha0, hro0]; simp [Part.put], fun b o e hb => ?_⟩, fun b o e => ?_, fun b o e hb => ?_, fun b o e => ?_, by rw [ha0, hro0]; exact hRa⟩
    · rw [ha0] at hb
      rcases hput b o e with ⟨h, _⟩ | ⟨_, h⟩
      · exact absurd h hb
      · exact ⟨(hd2 b o h).2.2.1, (hd2 b o h).2.2.2.1⟩
    · rcases hput b o e with ⟨h, _⟩ | ⟨_, h⟩
      · rw [h]; exact hSa
      · exact (hd2 b o h).1
    · rw [ha0] at hb
      rcases hput b o e with ⟨h, _⟩ | ⟨_, h⟩
      · exact absurd h hb
      · exact ⟨(hpb b o h).2, hRn b (hpb b o h).1⟩
    · obtain ⟨h1, h3, h4⟩ := hSb b o e
      exact ⟨h3, hRn b h1, h4⟩
  have hI0 : upd Inb 0 (some (seatM (ag 0) hM)) 0 = some (seatM (ag gs.size) hM) := by
    rw [upd_same]; unfold seatM; rw [hcr0]
  obtain ⟨N3, gs3, g₂, w3, sl3, T3, q3, R3, Mm3, Inb3, flag, st3, S3, p3, r3, z3, h3, hh3, hob, hinv3, C3, hMm3, hI3, hA, hcr3, hI31, hI32, hS3, hL3⟩ := agent_round (sl := sl2) (L := L) (kd := kd) (ag := ag gs.size) (Ob := Ob) (p := pc.put (ag 0).a ((ag 0).ro kd)) (S := S) (hM := hM) (hj0.symm ▸ C2) (by omega) (by omega) (hj0.symm ▸ h2) (by rw [hj0]; exact .inr rfl) hI0 HT.ros (by rw [hct0, hcd0]; exact hct.1) (hchild gs.size) hLaid HT.ros'
    (fun st' S' _ c hc => by
      have hc' : c = (ag 0).ct ∨ c = (ag 0).cr ∨ c = (ag 0).cd := by rw [hct0, hcd0] at hc; exact hc.elim .inl fun h => .inr (.inr h)
      refine ⟨⟨0, 0, (hch c hc').1⟩, fun i s' _ e hh => ?_⟩
      by_cases hi0 : i = 0
      · subst hi0; rw [upd_same] at e; obtain rfl := Option.some.inj e
        have := seatM_has hh
        rw [hct0, hcd0] at hc
        rcases hc with h | h
        · exact hct.2.1 (this.symm.trans h)
        · exact hct.2.2 (this.symm.trans h)
      · rw [upd_ne _ _ hi0] at e
        obtain ⟨h1, h2⟩ := HT.xs i s' c e hh
        exact hfree _ _ (hch c hc').2 h2 h1)
  have hctB := hch (ag 0).ct (.inl rfl)
  have hcdB := hch (ag 0).cd (.inr (.inr rfl))
  refine EndsW.after (runNT_then r2 r3) (main_back (L := L) (kd := kd) (st' := st3) (p := pc.put (ag 0).a ((ag 0).ro kd)) (p' := p3) (S := S) (S' := S3) (M0 := M0) (flag := flag) (tab := tab) (Inb := upd Inb 0 (some (seatM (ag 0) hM))) (ps := ps) (R := R) (w := w1.at d2) (X := X1) (s := w1.heap.size) (n := gs.size) (ag := ag gs.size)
    hT1 (by omega) ⟨by omega, by omega⟩ ⟨by rw [hct0, hcd0]; exact hct.1, by rw [hct0, hcr0]; exact hct.2.1, by rw [hcr0, hcd0]; exact hct.2.2⟩ (fun a ag' st' e hne => ?_) (fun i s' hi hij e hh => ?_) (fun i hi hij => ?_) C2.keep (fun b o e => ?_) (fun b o e => ?_) (fun b o e => ?_) hS hinv3 (fun b o e hb => ?_) C3 h3 hMm3 hI3 hA
    ⟨by rw [hcr0]; exact hN _ _ hcrB.2, by rw [hct0]; exact hN _ _ hctB.2, by rw [hcd0]; exact hN _ _ hcdB.2⟩ hcr3 ⟨0, 0, by rw [hcr0]; exact hcrB.1⟩ hI31 hI32 hS3 hL3 ⟨hB.os, hB.tape, hB.output, hB.size, hB.block⟩ (by rw [ha0]; exact hhome gs.size g₂ hh3 flag st3 S3 hob hinv3))
  · obtain ⟨_, h4, h5, _⟩ := HT.rest a ag' st' e
    have h6 := (HT.agent a ag' st' e).2.2.1
    refine ⟨fun z => ?_, by omega, ⟨fun z => ?_, fun z => ?_⟩, fun b o o' h7 h8 h9 h10 => ?_⟩
    · rw [hcr0] at z; rw [← z] at h4 h5; exact hfree _ _ hcrB.2 h5 h4
    · rw [hct0] at z; rw [z] at h4 h5; exact hfree _ _ hctB.2 h5 h4
    · rw [hcd0] at z; rw [z] at h4 h5; exact hfree _ _ hcdB.2 h5 h4
    · obtain ⟨_, _, i3, i4⟩ := HT.own a ag' st' e b o h7 h9
      rcases hput b o' h8 with ⟨h, _⟩ | ⟨_, h⟩
      · exact h10 (h.trans ha0.symm)
      · exact hfree _ _ (hpb b o' h).1 i4 i3
  · rw [upd_ne _ _ hi] at e
    rw [hcr0] at hh
    obtain ⟨h4, h5⟩ := HT.xs i s' _ e hh
    exact hfree _ _ hcrB.2 h5 h4
  · rw [upd_ne _ _ hi]
    rcases HT.only i hi with h | ⟨a, ag', st', h4, h5⟩
    · exact .inl h
    · refine .inr ⟨a, ag', st', h4, fun z => ?_, h5⟩
      rw [z, ha0, htab] at h4; cases h4
  · rcases Part.join_cases e with h4 | ⟨_, h4⟩
    · exact hm b o (hjM b o h4)
    · exact hm b o (hjS b o h4)
  · have hnsp : ∀ o, M b = some o → o.isChan = false → pc b = none → ¬ sp b := fun o h4 h5 h6 => by
      rintro (h | h | h | h)
      · rw [h, hMc _ (.inl rfl)] at h4; obtain rfl := Option.some.inj h4; cases h5
      · rw [h, hMc _ (.inr (.inl rfl))] at h4; obtain rfl := Option.some.inj h4; cases h5
      · rw [h, hMc _ (.inr (.inr rfl))] at h4; obtain rfl := Option.some.inj h4; cases h5
      · rw [h6] at h; cases h
    rcases Part.join_cases e with h4 | ⟨_, h4⟩
    · obtain ⟨h5, h6, h7, h8⟩ := hd1 b o h4
      exact .inr (.inl (hX1w b _ (hnsp o (hjM b o h4) h7 h5) (hW b o (hjM b o h4) h8)))
    · obtain ⟨h5, _, c, el, rfl⟩ := hSb b o h4
      have h6 : pc b = none := by
        cases h : pc b with
        | none => rfl
        | some x => rw [(hd2 b x h).1] at h4; cases h4
      exact .inr (.inl (hX1w b _ (hnsp _ (hjS b _ h4) rfl h6) h5))
  · obtain ⟨h5, h6, h7, h8⟩ := hd1 b o e
    refine ⟨h6, ?_, fun z => ?_, fun z => ?_, fun z => ?_⟩
    · by_cases hb : b = (ag 0).a
      · exact .inr (hb.trans ha0.symm)
      · left; simp only [Part.put]; rw [if_neg hb]; exact h5
    · rw [hct0] at z
      have := hjM b o e
      rw [z, hMc _ (.inl rfl)] at this; obtain rfl := Option.some.inj this; cases h7
    · rw [hcd0] at z
      have := hjM b o e
      rw [z, hMc _ (.inr (.inr rfl))] at this; obtain rfl := Option.some.inj this; cases h7
    · rw [hcr0] at z
      have := hjM b o e
      rw [z, hMc _ (.inr (.inl rfl))] at this; obtain rfl := Option.some.inj this; cases h7
  · rw [ha0] at hb
    rcases hput b o e with ⟨h, _⟩ | ⟨_, h⟩
    · exact absurd h hb
    · obtain ⟨h4, h5⟩ := hpb b o h
      exact ⟨h5, hRn b h4, (hd2 b o h).2.2.2.1, Nat.not_lt.2 (hN _ _ h4)⟩
end
end Go.Sp
