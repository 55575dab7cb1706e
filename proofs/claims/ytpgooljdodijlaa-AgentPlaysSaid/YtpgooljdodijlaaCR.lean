/-
  What is proved: the three yields of the one who steps agents: a turn, a death, a birth; and the end. Conditions: those that each theorem names.
-/
import Derived.Test.YtpgooljdodijlaaCQ
namespace Go.Sp
open Go.Conc Go.RowKit
open Go.ConcN (sumTo upd upd_ne upd_same)

theorem comm_turn (ag : Ag) (home : Goroutine → Prop) (v : Value) : commResult (seatA ag home).cases (seatA ag home).shape ((0 : Nat) : Int) v true = .tuple #[.int .i64 0, .bool true, v, .agg #[]] := by
  simp [seatA, commResult, rcase, List.zipIdx_cons, goInt]
theorem comm_kill (ag : Ag) (home : Goroutine → Prop) (v : Value) : commResult (seatA ag home).cases (seatA ag home).shape ((1 : Nat) : Int) v false = .tuple #[.int .i64 1, .bool false, .agg #[], v] := by
  simp [seatA, commResult, rcase, List.zipIdx_cons, goInt]
section
variable {L : Lw} {P : Program} {kd : Kd} {N : Nat} {W : World} {Post : Value → World → Prop}
variable {tab : Nat → Option (Ag × L.St)} {R : Part} {Inb : Nat → Option Seat} {ps : Nat → Part} {n : Nat} {w w' : World} {X : Nat → Option Nat} {s : Nat}
/-- Goroutine 0 takes a seat at an agent's channel; a channel is turned. -/
theorem Tab.turn (H : Tab L P kd N tab R Inb ps n w X s) {ag : Ag} {hM : Goroutine → Prop} {c : Nat} (hcr : ag.cr < s ∧ X ag.cr = none) (hc : ∀ (b : Nat) (o : Obj), w.heap[b]? = some o → o.isChan = false → w'.heap[b]? = some o) (hne : ∀ a ag' st, tab a = some (ag', st) → ag'.cr ≠ c)
    (hw : ∀ b, b ≠ c → w'.heap[b]? = w.heap[b]?) (hs : w'.heap.size = w.heap.size) : Tab L P kd N tab R (upd Inb 0 (some (seatM ag hM))) ps n w' X s := by
  refine ⟨fun a ag' st e => ?_, fun a ag' st e b o hb hba => ?_, H.apart, fun a ag' st e => ?_, H.uniq, fun i hi => ?_, H.ros, H.xr, fun i s' c' e hc' => ?_, H.low, H.sN, by rw [hs]; exact H.sz, H.ownN, H.chN, H.ros'⟩
  · obtain ⟨h1, h2, h3, h4, h5, h6, h7, h8, h9⟩ := H.agent a ag' st e
    exact ⟨h1, h2, h3, h4, h5, h6, h7, by rw [upd_ne _ _ (by omega)]; exact h8, h9⟩
  · obtain ⟨h1, h2, h3, h4⟩ := H.own a ag' st e b o hb hba
    have := (H.agent a ag' st e)
    exact ⟨hc b o h1 (this.2.2.2.2.2.2.2.2.2 b o hb (by rw [this.1]; exact hba)).2, h2, h3, h4⟩
  · obtain ⟨⟨cap, k, h1⟩, h2, h3, h4, h5⟩ := H.rest a ag' st e
    exact ⟨⟨cap, k, by rw [hw _ (hne a ag' st e)]; exact h1⟩, h2, h3, fun i s' hi e' => h4 i s' hi (by rw [← upd_ne Inb (some (seatM ag hM)) hi]; exact e'), h5⟩
  · rw [upd_ne _ _ hi]; exact H.only i hi
  · by_cases hi : i = 0
    · subst hi; rw [upd_same] at e; obtain rfl := Option.some.inj e; rw [seatM_has hc']; exact hcr
    · rw [upd_ne _ _ hi] at e; exact H.xs i s' c' e hc'

/-- ████ A TURN: goroutine 0 stands at the send of an agent's turn. ████ -/
theorem run_step {ag : Ag} {st : L.St} (hT : tab ag.a = some (ag, st)) {M0 S : Part} {g : Goroutine} {z' : Value} {hM : Goroutine → Prop} (hS : L.inv S) (hdS : ∀ b o, M0 b = some o → S b = none) (hnc : ∀ b o, M0 b = some o → o.isChan = false ∧ ¬ RO o)
    (hrun : g.status = .running) (hat : ∀ w, stepG P true g w = .comm g #[scase ag.ct (.agg #[]) z'] true .send w #[])
    (hq : QGo P true (fun x => if x = ag.a then some (ag.ro kd) else none) (seatM ag hM) (Go.Conc.served g undef))
    (hhome : ∀ g₂, hM g₂ → ∀ flag st' S', L.tr st S flag st' S' → L.inv S' → (∀ b o, M0 b = some o → S' b = none) → RunM P true (Go.Conc.served g₂ (.bool flag)) ⟨(M0.join S').join L.ro, Well L P kd N W Post (fun a => if a = ag.a then (if flag = true then none else some (ag, st')) else tab a)⟩) :
    RunM P true g ⟨M0.join S, Well L P kd N W Post tab⟩ := by
  intro X s w hm ho hs
  refine .stop fun d => ?_
  intro _ T gs sl q R Mm Inb ps hg0 C hMm HT hB
  have hm : (Mem.mk (M0.join S) (Well L P kd N W Post tab)).on (w.at d).heap := hm
  generalize w.at d = w1 at *
  obtain ⟨_, hj, hjn, hct, hcrt, hcrd, hRa, hInb, hpriv⟩ := HT.agent _ _ _ hT
  obtain ⟨⟨cap, k, hcr⟩, hcrs, hXcr, hnos, hNcr⟩ := HT.rest _ _ _ hT
  have hjs := HT.uniq
  -- IT TAKES ITS SEAT AND GIVES THE TURN
  have C1 := C.reseat hMm (seatM ag hM) (Seat.one_wf _ _ _ _) (fun i s' c hi e hc hc' => hnos i s' hi e (seatM_has hc' ▸ hc)) (fun c hc => ⟨cap, k, by rw [seatM_has hc]; exact hcr⟩) (fun c hc => by rw [seatM_has hc]; exact (Array.getElem?_eq_some_iff.1 hcr).1)
  obtain ⟨n0, hsits⟩ := hq.sits
  have hqok : QOk (fun x => if x = ag.a then some (ag.ro kd) else none) (KR R) (StR R) w1.heap.size := by
    have key : ∀ b o, (if b = ag.a then some (ag.ro kd) else none) = some o → R b = some o := fun b o e => by
      split at e
      · rename_i z; rw [z, hRa]; exact e
      · cases e
    exact ⟨fun w hk b o e => hk b o (key b o e), fun l ⟨b, i, c, e, z, h1, h2, h3⟩ => ⟨b, i, c, e, z, h1, key _ _ h2, h3⟩, fun b o e => KR.lt C.keep (key b o e)⟩
  have hInb1 : upd Inb 0 (some (seatM ag hM)) ag.j = some (seatA ag (Home L P (Zl L P kd ag) st (ps ag.a))) := by rw [upd_ne _ _ (by omega)]; exact hInb
  obtain ⟨N2, m2, T2, r2, gs2, g2, d2, k2, cap2, sl2, q2, rfl, z2, h2, hh2, hc2, C2⟩ := give (sl := sl) (h := 0) (j := ag.j) (s := seatA ag (Home L P (Zl L P kd ag) st (ps ag.a))) (c := ag.ct) (kk := 0) (z := .agg #[]) (Inb' := upd Inb 0 (some (seatM ag hM))) (nh := n0) (kr_at R)
    (fun w i s c cap buf cl a b tm e hc hk => by
      obtain ⟨cap', k', hk'⟩ := C1.chans i s c (fun z => z) e hc
      exact kr_setChan (ro_chan HT.ros C1.keep hk') hk cap buf cl a b tm)
    (by omega) hjn hInb1 rfl hMm hg0 hrun (fun d => hat (w1.at d)) (fun e he => by simp at he) C1 (fun _ _ => rfl) (.inl rfl) (fun T' _ => by rw [upd_same]; exact hsits _ _ _ hqok)
  have hsz2 : ((w1.at d2).setChan ag.ct cap2 #[] false (k2 + 1) (k2 + 1) false).heap.size = w1.heap.size := size_setChan _ _ _ _ _ _ _ _
  have hw2 : ∀ b, b ≠ ag.ct → ((w1.at d2).setChan ag.ct cap2 #[] false (k2 + 1) (k2 + 1) false).heap[b]? = w1.heap[b]? := fun b hb => heap_setChan_ne (w1.at d2) cap2 #[] false _ _ false hb.symm
  have hct2 : ((w1.at d2).setChan ag.ct cap2 #[] false (k2 + 1) (k2 + 1) false).heap[ag.ct]? = some (Obj.chan cap2 #[] false (k2 + 1) (k2 + 1) false) := heap_setChan_self (w1.at d2) hc2 _ _ _ _ _ _
  have hos2 : ((w1.at d2).setChan ag.ct cap2 #[] false (k2 + 1) (k2 + 1) false).os = w1.os ∧ ((w1.at d2).setChan ag.ct cap2 #[] false (k2 + 1) (k2 + 1) false).tape = w1.tape ∧ ((w1.at d2).setChan ag.ct cap2 #[] false (k2 + 1) (k2 + 1) false).output = w1.output := ⟨rfl, rfl, rfl⟩
  rw [← hsz2] at C2
  generalize (w1.at d2).setChan ag.ct cap2 #[] false (k2 + 1) (k2 + 1) false = w2 at *
  have hct1 : w1.heap[ag.ct]? = some (Obj.chan cap2 #[] false k2 k2 false) := hc2
  have hcells : ∀ (b : Nat) (o : Obj), w1.heap[b]? = some o → o.isChan = false → w2.heap[b]? = some o := fun b o e hn => by
    rw [hw2 b (fun z => by rw [z, hct1] at e; obtain rfl := Option.some.inj e; cases hn)]; exact e
  have hTw : Tab L P kd N tab R (upd Inb 0 (some (seatM ag hM))) ps gs.size w2 X s := HT.turn (c := ag.ct) ⟨hcrs, hXcr⟩ hcells (fun a ag' st' e z => by
    obtain ⟨_, _, _, h4, _⟩ := HT.rest a ag' st' e
    exact h4 ag.j _ (by omega) hInb ⟨0, .agg #[], by rw [z]; rfl⟩) hw2 hsz2
  -- WHAT IS WHOSE
  have hSb : ∀ b o, S b = some o → Wr X s b 0 ∧ w1.heap[b]? = some o ∧ R b = none ∧ ∃ c e, o = .cells c e (0, 0) := fun b o e => by
    have hM0 : M0 b = none := by
      cases h : M0 b with
      | none => rfl
      | some x => rw [hdS b x h] at e; cases e
    have e1 : (M0.join S) b = some o := by rw [Part.join_r hM0]; exact e
    obtain ⟨c, el, rfl⟩ := L.inv_bare S hS b o e
    obtain ⟨o', h1, h2⟩ := hm b _ e1
    rw [alike_flat h2 rfl] at h1
    have hW : Wr X s b 0 := by
      rcases ho b _ e1 with ⟨c', e', h3, hne⟩ | h3
      · simp only [Obj.cells.injEq, Prod.mk.injEq] at h3
        obtain ⟨rfl, _, _, h4⟩ := h3
        exact absurd h4.symm hne
      · exact h3
    refine ⟨hW, h1, ?_, c, el, rfl⟩
    cases h : R b with
    | none => rfl
    | some x =>
      obtain ⟨c1, e1, k1, rfl, _⟩ := HT.ros b x h
      obtain ⟨h4, h5⟩ := HT.xr b c1 e1 _ h
      rcases hW with ⟨k0, h6, h7⟩ | h6
      · exact absurd (h5 k0 h6).1 (by omega)
      · omega
  have hdp : ∀ b o, ps ag.a b = some o → S b = none := fun b o e => by
    cases h : S b with
    | none => rfl
    | some x =>
      obtain ⟨h1, _, h2, _⟩ := hSb b x h
      by_cases hb : b = ag.a
      · subst hb; rw [hRa] at h2; cases h2
      · obtain ⟨_, _, h3, h4⟩ := HT.own _ _ _ hT b o e hb
        rcases h1 with ⟨k0, h6, _⟩ | h6
        · rw [h4] at h6; cases h6
        · omega
  have hown' : ∀ b o, ps ag.a b = some o → b ≠ ag.a → w1.heap[b]? = some o ∧ R b = none ∧ o.isChan = false ∧ ¬ b < N := fun b o e hb => by
    obtain ⟨h1, h2, h3, h4⟩ := HT.own _ _ _ hT b o e hb
    exact ⟨h1, h2, (hpriv.2 b o e hb).2, Nat.not_lt.2 (HT.ownN _ _ _ hT b o e hb)⟩
  have hLaid : Laid kd ag (ps ag.a) S R w2 := ⟨hpriv, hdp, fun b o e hb => by
      obtain ⟨h1, h2, h3, _⟩ := hown' b o e hb
      exact ⟨hcells b o h1 h3, h2⟩, fun b o e => by
      obtain ⟨_, h1, h2, c, el, rfl⟩ := hSb b o e
      exact ⟨hcells b _ h1 rfl, h2, c, el, rfl⟩, hRa⟩
  rw [comm_turn] at h2
  obtain ⟨hrunT, _⟩ := hh2 S hS hdp
  have hcd : ∃ cap k, w2.heap[ag.cd]? = some (Obj.chan cap #[] false k k false) := by
    obtain ⟨cap', k', hk'⟩ := C.chans ag.j _ ag.cd (fun z => z) hInb ⟨1, .agg #[], rfl⟩
    exact ⟨cap', k', by rw [hw2 _ hct.symm]; exact hk'⟩
  have hcr2 : ∃ cap k, w2.heap[ag.cr]? = some (Obj.chan cap #[] false k k false) := ⟨cap, k, by rw [hw2 _ hcrt]; exact hcr⟩
  -- THE AGENT's ROUND
  obtain ⟨N3, gs3, g₂, w3, sl3, T3, q3, R3, Mm3, Inb3, flag, st3, S3, p3, r3, z3, h3, hh3, hob, hinv3, C3, hMm3, hI3, hA, hcr3, hI31, hI32, hS3, hL3⟩ := agent_round (sl := sl2) (ag := ag) (Ob := L.tr st S) (p := ps ag.a) (S := S) (hM := hM) C2 hj (by rw [z2]; omega) h2 ⟨(C1.mem ag.j _ hInb1).1, .inr rfl⟩ (upd_same _ _ _) HT.ros hct hrunT hLaid HT.ros'
    (fun st' S' _ c hc => ⟨by rcases hc with rfl | rfl
                              · exact ⟨_, _, hct2⟩
                              · exact hcd, fun i s' hi e hh => hi (C1.inj i ag.j s' _ c e hInb1 hh (by rcases hc with rfl | rfl
                                                                                                       · exact ⟨0, .agg #[], rfl⟩
                                                                                                       · exact ⟨1, .agg #[], rfl⟩))⟩)
  refine EndsW.after (runNT_then r2 r3) (main_back (L := L) (kd := kd) (st' := st3) (p := ps ag.a) (p' := p3) (S := S) (S' := S3) (M0 := M0) (flag := flag) (tab := tab) (Inb := upd Inb 0 (some (seatM ag hM))) (ps := ps) (R := R) (w := w2) (X := X) (s := s) (n := gs.size) (ag := ag)
    hTw (by omega) ⟨hj, by omega⟩ ⟨hct, hcrt, hcrd⟩ (fun a ag' st' e hne => ?_) (fun i s' hi hij e => ?_) (fun i hi hij => ?_) C2.keep (fun b o e => ?_) ho (fun b o e => ?_) hS hinv3 (fun b o e hb => ?_) C3 h3 hMm3 hI3 hA ⟨hNcr, (HT.chN _ _ _ hT).1, (HT.chN _ _ _ hT).2⟩ hcr3 hcr2 hI31 hI32 hS3 hL3 ⟨hos2.1.trans hB.os, hos2.2.1.trans hB.tape, hos2.2.2.trans hB.output, by rw [hsz2]; exact hB.size, fun k hk => ?_⟩ (hhome g₂ hh3 flag st3 S3 hob hinv3))
  · obtain ⟨h4, h5⟩ := HT.uniq ag.a a ag ag' st st' hT e hne.symm
    obtain ⟨_, _, _, h6, _⟩ := HT.rest a ag' st' e
    exact ⟨h4, h5, ⟨fun z => h6 ag.j _ (by omega) hInb ⟨0, .agg #[], by rw [z]; rfl⟩, fun z => h6 ag.j _ (by omega) hInb ⟨1, .agg #[], by rw [z]; rfl⟩⟩, fun b o o' h7 h8 h9 h10 => HT.apart a ag.a ag' ag st' st e hT hne b o o' h7 h8 h9 h10⟩
  · rw [upd_ne _ _ hi] at e; exact hnos i s' hi e
  · rw [upd_ne _ _ hi]
    rcases HT.only i hi with h | ⟨a, ag', st', h4, h5⟩
    · exact .inl h
    · refine .inr ⟨a, ag', st', h4, fun z => ?_, h5⟩
      subst z
      rw [hT] at h4
      cases h4
      exact hij h5
  · obtain ⟨o', h4, h5⟩ := hm b o e
    have hoc : o'.isChan = false := by
      rcases Part.join_cases e with h6 | ⟨_, h6⟩
      · rcases h5 with rfl | ⟨_, _, _, _, _, _, rfl, _⟩
        · exact (hnc b _ h6).1
        · rfl
      · obtain ⟨_, h7, _, c, el, rfl⟩ := hSb b o h6
        rw [h7] at h4; obtain rfl := Option.some.inj h4; rfl
    exact ⟨o', hcells b o' h4 hoc, h5⟩
  · obtain ⟨o', h4, h5⟩ := hm b o (Part.join_l e)
    have hW := (ho b o (Part.join_l e)).resolve_left (hnc b o e).2
    have hXs : X b = none → b < s → False := fun h6 h7 => by
      rcases hW with ⟨k0, h8, _⟩ | h8
      · rw [h6] at h8; cases h8
      · omega
    refine ⟨hdS b o e, ?_, fun z => ?_, fun z => ?_, fun z => ?_⟩
    · by_cases hb : b = ag.a
      · exact .inr hb
      · left
        cases h : ps ag.a b with
        | none => rfl
        | some x => obtain ⟨_, _, h6, h7⟩ := HT.own _ _ _ hT b x h hb; exact (hXs h7 h6).elim
    · obtain ⟨h6, h7⟩ := HT.xs ag.j _ ag.ct hInb ⟨0, .agg #[], rfl⟩; rw [← z] at h6 h7; exact hXs h7 h6
    · obtain ⟨h6, h7⟩ := HT.xs ag.j _ ag.cd hInb ⟨1, .agg #[], rfl⟩; rw [← z] at h6 h7; exact hXs h7 h6
    · rw [← z] at hXcr hcrs; exact hXs hXcr hcrs
  · obtain ⟨h4, h5, h6, h7⟩ := hown' b o e hb
    exact ⟨hcells b o h4 h6, h5, h6, h7⟩
  · rw [← hB.block k hk]
    exact hw2 k (fun z => by have := (HT.chN _ _ _ hT).1; omega)

/-- ████ A DEATH: goroutine 0 stands at the close of an agent's channel. ████ -/
theorem run_stop {ag : Ag} {st : L.St} (hT : tab ag.a = some (ag, st)) {M0 S : Part} {g g' : Goroutine} {hM : Goroutine → Prop} (hS : L.inv S) (hdS : ∀ b o, M0 b = some o → S b = none) (hnc : ∀ b o, M0 b = some o → o.isChan = false ∧ ¬ RO o)
    (hrun : g.status = .running) (hwake : mayWake P g = true) (hrun' : g'.status = .running) (hat : ∀ (w : World) (cap k : Nat), w.heap[ag.cd]? = some (Obj.chan cap #[] false k k false) → ∀ d, stepG P true g (w.at d) = .go g' ((w.at d).setChan ag.cd cap #[] true k k false) (closeEvents ag.cd))
    (hq : QGo P true (fun x => if x = ag.a then some (ag.ro kd) else none) (seatM ag hM) g')
    (hhome : ∀ g₂, hM g₂ → ∀ S', L.dd st S S' → L.inv S' → (∀ b o, M0 b = some o → S' b = none) → RunM P true (Go.Conc.served g₂ (.bool true)) ⟨(M0.join S').join L.ro, Well L P kd N W Post (fun a => if a = ag.a then none else tab a)⟩) :
    RunM P true g ⟨M0.join S, Well L P kd N W Post tab⟩ := by
  intro X s w hm ho hs
  refine .stop fun d => ?_
  intro _ T gs sl q R Mm Inb ps hg0 C hMm HT hB
  have hm : (Mem.mk (M0.join S) (Well L P kd N W Post tab)).on (w.at d).heap := hm
  generalize w.at d = w1 at *
  obtain ⟨_, hj, hjn, hct, hcrt, hcrd, hRa, hInb, hpriv⟩ := HT.agent _ _ _ hT
  obtain ⟨⟨cap, k, hcr⟩, hcrs, hXcr, hnos, hNcr⟩ := HT.rest _ _ _ hT
  have hjs := HT.uniq
  -- IT TAKES ITS SEAT AND GIVES THE TURN
  have C1 := C.reseat hMm (seatM ag hM) (Seat.one_wf _ _ _ _) (fun i s' c hi e hc hc' => hnos i s' hi e (seatM_has hc' ▸ hc)) (fun c hc => ⟨cap, k, by rw [seatM_has hc]; exact hcr⟩) (fun c hc => by rw [seatM_has hc]; exact (Array.getElem?_eq_some_iff.1 hcr).1)
  obtain ⟨n0, hsits⟩ := hq.sits
  have hqok : QOk (fun x => if x = ag.a then some (ag.ro kd) else none) (KR R) (StR R) w1.heap.size := by
    have key : ∀ b o, (if b = ag.a then some (ag.ro kd) else none) = some o → R b = some o := fun b o e => by
      split at e
      · rename_i z; rw [z, hRa]; exact e
      · cases e
    exact ⟨fun w hk b o e => hk b o (key b o e), fun l ⟨b, i, c, e, z, h1, h2, h3⟩ => ⟨b, i, c, e, z, h1, key _ _ h2, h3⟩, fun b o e => KR.lt C.keep (key b o e)⟩
  have hInb1 : upd Inb 0 (some (seatM ag hM)) ag.j = some (seatA ag (Home L P (Zl L P kd ag) st (ps ag.a))) := by rw [upd_ne _ _ (by omega)]; exact hInb
  obtain ⟨cap2, k2, hcd0⟩ := C.chans ag.j _ ag.cd (fun z => z) hInb ⟨1, .agg #[], rfl⟩
  obtain ⟨N2, gs2, g2, d2, sl2, T2, q2, r2, z2, h2, hh2, C2⟩ := give_close (sl := sl) (h := 0) (j := ag.j) (s := seatA ag (Home L P (Zl L P kd ag) st (ps ag.a))) (c := ag.cd) (kk := 1) (z := .agg #[]) (Inb' := upd (upd Inb 0 (some (seatM ag hM))) ag.j none) (nh := n0) (kr_at R)
    (fun w i s c cap buf cl a b tm e hc hk => by
      obtain ⟨cap', k', hk'⟩ := C1.chans i s c (fun z => z) e hc
      exact kr_setChan (ro_chan HT.ros C1.keep hk') hk cap buf cl a b tm)
    (by omega) hjn hInb1 rfl hMm hg0 hrun hwake hrun' hcd0 (hat w1 cap2 k2 hcd0) C1 (fun x _ hx => upd_ne _ _ hx) (.inl (by rw [upd_ne _ _ (by omega)])) (upd_same _ _ _) (fun T' _ => by rw [upd_ne _ _ (by omega), upd_same]; exact hsits _ _ _ hqok)
  have hsz2 : ((w1.at d2).setChan ag.cd cap2 #[] true k2 k2 false).heap.size = w1.heap.size := size_setChan _ _ _ _ _ _ _ _
  have hw2 : ∀ b, b ≠ ag.cd → ((w1.at d2).setChan ag.cd cap2 #[] true k2 k2 false).heap[b]? = w1.heap[b]? := fun b hb => heap_setChan_ne (w1.at d2) cap2 #[] true _ _ false hb.symm
  have hos2 : ((w1.at d2).setChan ag.cd cap2 #[] true k2 k2 false).os = w1.os ∧ ((w1.at d2).setChan ag.cd cap2 #[] true k2 k2 false).tape = w1.tape ∧ ((w1.at d2).setChan ag.cd cap2 #[] true k2 k2 false).output = w1.output := ⟨rfl, rfl, rfl⟩
  rw [← hsz2] at C2
  generalize (w1.at d2).setChan ag.cd cap2 #[] true k2 k2 false = w2 at *
  have hcells : ∀ (b : Nat) (o : Obj), w1.heap[b]? = some o → o.isChan = false → w2.heap[b]? = some o := fun b o e hn => by
    rw [hw2 b (fun z => by rw [z, hcd0] at e; obtain rfl := Option.some.inj e; cases hn)]; exact e
  have hTw : Tab L P kd N tab R (upd Inb 0 (some (seatM ag hM))) ps gs.size w2 X s := HT.turn (c := ag.cd) ⟨hcrs, hXcr⟩ hcells (fun a ag' st' e z => by
    obtain ⟨_, _, _, h4, _⟩ := HT.rest a ag' st' e
    exact h4 ag.j _ (by omega) hInb ⟨1, .agg #[], by rw [z]; rfl⟩) hw2 hsz2
  -- WHAT IS WHOSE
  have hSb : ∀ b o, S b = some o → Wr X s b 0 ∧ w1.heap[b]? = some o ∧ R b = none ∧ ∃ c e, o = .cells c e (0, 0) := fun b o e => by
    have hM0 : M0 b = none := by
      cases h : M0 b with
      | none => rfl
      | some x => rw [hdS b x h] at e; cases e
    have e1 : (M0.join S) b = some o := by rw [Part.join_r hM0]; exact e
    obtain ⟨c, el, rfl⟩ := L.inv_bare S hS b o e
    obtain ⟨o', h1, h2⟩ := hm b _ e1
    rw [alike_flat h2 rfl] at h1
    have hW : Wr X s b 0 := by
      rcases ho b _ e1 with ⟨c', e', h3, hne⟩ | h3
      · simp only [Obj.cells.injEq, Prod.mk.injEq] at h3
        obtain ⟨rfl, _, _, h4⟩ := h3
        exact absurd h4.symm hne
      · exact h3
    refine ⟨hW, h1, ?_, c, el, rfl⟩
    cases h : R b with
    | none => rfl
    | some x =>
      obtain ⟨c1, e1, k1, rfl, _⟩ := HT.ros b x h
      obtain ⟨h4, h5⟩ := HT.xr b c1 e1 _ h
      rcases hW with ⟨k0, h6, h7⟩ | h6
      · exact absurd (h5 k0 h6).1 (by omega)
      · omega
  have hdp : ∀ b o, ps ag.a b = some o → S b = none := fun b o e => by
    cases h : S b with
    | none => rfl
    | some x =>
      obtain ⟨h1, _, h2, _⟩ := hSb b x h
      by_cases hb : b = ag.a
      · subst hb; rw [hRa] at h2; cases h2
      · obtain ⟨_, _, h3, h4⟩ := HT.own _ _ _ hT b o e hb
        rcases h1 with ⟨k0, h6, _⟩ | h6
        · rw [h4] at h6; cases h6
        · omega
  have hown' : ∀ b o, ps ag.a b = some o → b ≠ ag.a → w1.heap[b]? = some o ∧ R b = none ∧ o.isChan = false ∧ ¬ b < N := fun b o e hb => by
    obtain ⟨h1, h2, h3, h4⟩ := HT.own _ _ _ hT b o e hb
    exact ⟨h1, h2, (hpriv.2 b o e hb).2, Nat.not_lt.2 (HT.ownN _ _ _ hT b o e hb)⟩
  have hLaid : Laid kd ag (ps ag.a) S R w2 := ⟨hpriv, hdp, fun b o e hb => by
      obtain ⟨h1, h2, h3, _⟩ := hown' b o e hb
      exact ⟨hcells b o h1 h3, h2⟩, fun b o e => by
      obtain ⟨_, h1, h2, c, el, rfl⟩ := hSb b o e
      exact ⟨hcells b _ h1 rfl, h2, c, el, rfl⟩, hRa⟩
  rw [comm_kill] at h2
  obtain ⟨_, hrunT⟩ := hh2 S hS hdp
  have hcr2 : ∃ cap k, w2.heap[ag.cr]? = some (Obj.chan cap #[] false k k false) := ⟨cap, k, by rw [hw2 _ hcrd]; exact hcr⟩
  -- THE AGENT's ROUND
  obtain ⟨N3, gs3, g₂, w3, sl3, T3, q3, R3, Mm3, Inb3, flag, st3, S3, p3, r3, z3, h3, hh3, hob, hinv3, C3, hMm3, hI3, hA, hcr3, hI31, hI32, hS3, hL3⟩ := agent_round (sl := sl2) (ag := ag) (Ob := fun flag _ S' => flag = true ∧ L.dd st S S') (p := ps ag.a) (S := S) (hM := hM) C2 hj (by rw [z2]; omega) h2 ⟨(C1.mem ag.j _ hInb1).1, .inr rfl⟩ (by rw [upd_ne _ _ (by omega)]; exact upd_same _ _ _) HT.ros hct hrunT hLaid HT.ros'
    (fun st' S' h => by cases h.1)
  obtain ⟨rfl, hob⟩ := hob
  refine EndsW.after (runNT_then r2 r3) (main_back (L := L) (kd := kd) (st' := st3) (p := ps ag.a) (p' := p3) (S := S) (S' := S3) (M0 := M0) (flag := true) (tab := tab) (Inb := upd Inb 0 (some (seatM ag hM))) (ps := ps) (R := R) (w := w2) (X := X) (s := s) (n := gs.size) (ag := ag)
    hTw (by omega) ⟨hj, by omega⟩ ⟨hct, hcrt, hcrd⟩ (fun a ag' st' e hne => ?_) (fun i s' hi hij e => ?_) (fun i hi hij => ?_) C2.keep (fun b o e => ?_) ho (fun b o e => ?_) hS hinv3 (fun b o e hb => ?_) C3 h3 hMm3 (fun i hi => by rw [hI3 i hi, upd_ne _ _ hi]) hA ⟨hNcr, (HT.chN _ _ _ hT).1, (HT.chN _ _ _ hT).2⟩ hcr3 hcr2 hI31 hI32 hS3 hL3 ⟨hos2.1.trans hB.os, hos2.2.1.trans hB.tape, hos2.2.2.trans hB.output, by rw [hsz2]; exact hB.size, fun k hk => ?_⟩ (by simpa using hhome g₂ hh3 S3 hob hinv3))
  · obtain ⟨h4, h5⟩ := HT.uniq ag.a a ag ag' st st' hT e hne.symm
    obtain ⟨_, _, _, h6, _⟩ := HT.rest a ag' st' e
    exact ⟨h4, h5, ⟨fun z => h6 ag.j _ (by omega) hInb ⟨0, .agg #[], by rw [z]; rfl⟩, fun z => h6 ag.j _ (by omega) hInb ⟨1, .agg #[], by rw [z]; rfl⟩⟩, fun b o o' h7 h8 h9 h10 => HT.apart a ag.a ag' ag st' st e hT hne b o o' h7 h8 h9 h10⟩
  · rw [upd_ne _ _ hi] at e; exact hnos i s' hi e
  · rw [upd_ne _ _ hi]
    rcases HT.only i hi with h | ⟨a, ag', st', h4, h5⟩
    · exact .inl h
    · refine .inr ⟨a, ag', st', h4, fun z => ?_, h5⟩
      subst z
      rw [hT] at h4
      cases h4
      exact hij h5
  · obtain ⟨o', h4, h5⟩ := hm b o e
    have hoc : o'.isChan = false := by
      rcases Part.join_cases e with h6 | ⟨_, h6⟩
      · rcases h5 with rfl | ⟨_, _, _, _, _, _, rfl, _⟩
        · exact (hnc b _ h6).1
        · rfl
      · obtain ⟨_, h7, _, c, el, rfl⟩ := hSb b o h6
        rw [h7] at h4; obtain rfl := Option.some.inj h4; rfl
    exact ⟨o', hcells b o' h4 hoc, h5⟩
  · obtain ⟨o', h4, h5⟩ := hm b o (Part.join_l e)
    have hW := (ho b o (Part.join_l e)).resolve_left (hnc b o e).2
    have hXs : X b = none → b < s → False := fun h6 h7 => by
      rcases hW with ⟨k0, h8, _⟩ | h8
      · rw [h6] at h8; cases h8
      · omega
    refine ⟨hdS b o e, ?_, fun z => ?_, fun z => ?_, fun z => ?_⟩
    · by_cases hb : b = ag.a
      · exact .inr hb
      · left
        cases h : ps ag.a b with
        | none => rfl
        | some x => obtain ⟨_, _, h6, h7⟩ := HT.own _ _ _ hT b x h hb; exact (hXs h7 h6).elim
    · obtain ⟨h6, h7⟩ := HT.xs ag.j _ ag.ct hInb ⟨0, .agg #[], rfl⟩; rw [← z] at h6 h7; exact hXs h7 h6
    · obtain ⟨h6, h7⟩ := HT.xs ag.j _ ag.cd hInb ⟨1, .agg #[], rfl⟩; rw [← z] at h6 h7; exact hXs h7 h6
    · rw [← z] at hXcr hcrs; exact hXs hXcr hcrs
  · obtain ⟨h4, h5, h6, h7⟩ := hown' b o e hb
    exact ⟨hcells b o h4 h6, h5, h6, h7⟩
  · rw [← hB.block k hk]
    exact hw2 k (fun z => by have := (HT.chN _ _ _ hT).2; omega)

/-- ████ THE END: goroutine 0 stands at its return, and has no agents. ████ -/
theorem run_fin {g : Goroutine} {M : Part} (h : ∀ w, (Mem.mk M (Well L P kd N W Post fun _ => none)).on w.heap → Below N W w → AtEnd P (fun _ => False) w.heap.size Post g w) : RunM P true g ⟨M, Well L P kd N W Post fun _ => none⟩ := by
  intro X s w hm ho hs
  refine .stop fun d => ?_
  intro _ T gs sl q R Mm Inb ps hg0 C hMm HT hB
  obtain ⟨hL, hP⟩ := ring_end C hMm fun i hi => by
    rcases HT.only i hi with h | ⟨a, ag, st, h, _⟩
    · exact h
    · cases h
  obtain ⟨M8, last, o, w', t', e1, e2, e3, e4⟩ := beside_ends (P := P) (Shun := fun _ => False) (B := (w.at d).heap.size) (D := fun _ _ es => ∀ e ∈ es, EvL (fun _ => False) (w.at d).heap.size e) (Post := Post) (sl := sl) (n := 0) (fun _ _ _ h => h) hg0 hL hP
    (w := w.at d) (fun w₁ hr => by
      obtain ⟨d', e⟩ := hr
      subst e
      exact h ((w.at d).at d') hm ⟨hB.os, hB.tape, hB.output, hB.size, hB.block⟩)
  exact ⟨M8, last, o, w', t', e1, e2, e3, e4⟩
end
end Go.Sp
