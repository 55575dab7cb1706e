/-
  What is proved: the calculus' runs in a company in which one holds the token; the still cells may grow by blocks that nobody has touched. Conditions: none beyond those that each theorem names.
-/
import Derived.Test.YtpgooljdodijlaaCF
import Derived.Conc.TokenWalk
namespace Go.Sp
open Go.Conc
open Go.ConcN (sumTo)

/-- What is only read, as the world has it. -/
def KR (R : Nat → Option Obj) (w : World) : Prop := ∀ b o, R b = some o → ∃ o', w.heap[b]? = some o' ∧ Alike o o'
/-- The cells that are only read. -/
def StR (R : Nat → Option Obj) (l : Loc) : Prop := ∃ b i c e z, l = .cell ⟨b, i, none⟩ ∧ R b = some (.cells c e z) ∧ i < c.size

theorem Goes.weak {P : Program} {main : Bool} {R R' : World → World → Prop} {D D' : World → World → Array Event → Prop} {S S' : Goroutine → World → Prop} (hR : ∀ w w₁, R' w w₁ → R w w₁) (hD : ∀ w w' es, D w w' es → D' w w' es) (hS : ∀ g w, S g w → S' g w) :
    ∀ (n : Nat) (g : Goroutine) (w : World), Goes P main R D S n g w → Goes P main R' D' S' n g w := by
  intro n
  induction n with
  | zero => exact fun g w h w₁ h₁ => hS _ _ (h w₁ (hR _ _ h₁))
  | succ n ih =>
    intro g w h
    rcases h with h | ⟨hs, h⟩
    · exact .inl fun w₁ h₁ => hS _ _ (h w₁ (hR _ _ h₁))
    · refine .inr ⟨hs, fun w₁ h₁ => ?_⟩
      have := h w₁ (hR _ _ h₁)
      cases hst : stepG P main g w₁ with
      | go g' w' es => rw [hst] at this; exact ⟨hD _ _ _ this.1, ih _ _ this.2⟩
      | _ => rw [hst] at this; exact this.elim
theorem Sits.weak {P : Program} {main : Bool} {K K' : World → Prop} {Still Still' : Loc → Prop} {B B' : Nat} {s : Seat} {n : Nat} {g : Goroutine} (hK : ∀ w, K' w → K w) (hS : ∀ l, Still l → Still' l) (hB : B ≤ B')
    (h : Sits P main K Still B s n g) : Sits P main K' Still' B' s n g := by
  have hev : ∀ e, EvC Still B e → EvC Still' B' e := fun e ⟨a, h1, h2, h3⟩ => ⟨a, h1, hS _ h2, Nat.lt_of_lt_of_le h3 hB⟩
  have hat : ∀ g g₂, AtIn P main K Still B s g g₂ → AtIn P main K' Still' B' s g g₂ := fun g g₂ ⟨h1, h2, h3, h4, h5, es, h6, h7⟩ => ⟨h1, h2, h3, h4, h5, es, fun e he => hev e (h6 e he), fun w hw => h7 w (hK w hw)⟩
  rcases h with ⟨k, w, hn, hg⟩ | ⟨hn, g₀, g₂, hg, ha⟩
  · exact .inl ⟨k, w, hn, Goes.weak (fun w w₁ h => hK w₁ h) (fun w w' es ⟨h1, h2⟩ => ⟨h1, fun e he => hev e (h2 e he)⟩) (fun g w ⟨g₂, h⟩ => ⟨g₂, hat g g₂ h⟩) k g w hg⟩
  · exact .inr ⟨hn, g₀, g₂, hg, hat _ _ ha⟩
theorem Idle.weak {P : Program} {K K' : World → Prop} {Still Still' : Loc → Prop} {B B' : Nat} {T : Trace} {i n : Nat} {g : Goroutine} {os : Option Seat} (hK : ∀ w, K' w → K w) (hS : ∀ l, Still l → Still' l) (hB : B ≤ B')
    (h : Idle P K Still B T i n g os) : Idle P K' Still' B' T i n g os := by
  cases os with
  | none => exact h
  | some s => exact Sits.weak hK hS hB h

section
variable {P : Program} {R R' : Nat → Option Obj} {B B' : Nat} {Mm : Nat → Prop} {Inb : Nat → Option Seat} {h : Nat} {T : Trace} {gs : Array Goroutine} {w : World} {q : Nat → Nat}
theorem kr_at (R : Nat → Option Obj) : ∀ (w : World) (d : Nat), KR R w → KR R (w.at d) := fun _ _ h => h
/-- More cells are only read: of blocks that nothing in the trace has touched. -/
theorem Ring.grow (C : Ring P (KR R) (StR R) B Mm Inb h T gs w q) (hB : B ≤ B') (hR : ∀ b o, R b = some o → R' b = some o) (hnew : ∀ b o, R' b = some o → R b = some o ∨ B ≤ b) (hk : KR R' w) :
    Ring P (KR R') (StR R') B' Mm Inb h T gs w q := by
  have hK : ∀ w, KR R' w → KR R w := fun w h b o e => h b o (hR b o e)
  have hS : ∀ l, StR R l → StR R' l := fun l ⟨b, i, c, e, z, h1, h2, h3⟩ => ⟨b, i, c, e, z, h1, hR _ _ h2, h3⟩
  refine ⟨fun i g hi hg => Idle.weak hK hS hB (C.idle i g hi hg), C.chans, C.wf, C.live, C.inj, C.above, fun i s e => ⟨(C.mem i s e).1, fun c hc => Nat.lt_of_lt_of_le ((C.mem i s e).2 c hc) hB⟩, C.nomem, C.lo, ?_, hk⟩
  have P0 := C.past
  refine ⟨P0.clean, fun i a ha hm => (P0.known i a ha hm).imp id fun ⟨x, y, z⟩ => ⟨x, hS _ y, z⟩, fun i a ha hw hst g hg => ?_, P0.hears, fun op hop => MemAct.low_mono hB (P0.seen op hop)⟩
  obtain ⟨b, j, c, e, z, h1, h2, h3⟩ := hst
  rcases hnew b _ h2 with h4 | h4
  · exact P0.wrote i a ha hw ⟨b, j, c, e, z, h1, h4, h3⟩ g hg
  · obtain ⟨x, hx, hxa⟩ := touch_of ha
    have hlow := P0.seen x (Array.mem_of_getElem? hx)
    cases hact : x.act with
    | access ev =>
      rw [hact] at hxa hlow
      simp only [MemAct.touch?, Option.some.injEq] at hxa
      have hl : ev.loc = .cell ⟨b, j, none⟩ := by rw [← h1, ← hxa]
      simp only [MemAct.low, hl, Loc.low] at hlow
      omega
    | mark mk =>
      rw [hact] at hxa hlow
      cases mk <;> simp only [MemAct.touch?, Option.some.injEq, reduceCtorEq] at hxa <;> (
        rw [← hxa] at h1
        cases h1
        simp only [MemAct.low] at hlow
        omega)
    | _ => rw [hact] at hxa; cases hxa

/-- What is between the world at the begin of a run of one's own and at its end. -/
def Fr (X : Nat → Option Nat) (s : Nat) (w w' : World) : Prop := ∃ es, Gd X s w w' es
theorem Fr.refl (X : Nat → Option Nat) (s : Nat) (w : World) : Fr X s w w := ⟨_, Gd.refl X s w⟩
/-- What may be written keeps clear of what is only read, and of the seats' channels. -/
structure Clear (R : Nat → Option Obj) (Inb : Nat → Option Seat) (X : Nat → Option Nat) (s : Nat) : Prop where
  ro : ∀ b o, R b = some o → ∃ c e k, o = .cells c e (0, k)
  old : ∀ b o, R b = some o → b < s
  apart : ∀ b c e z j, R b = some (.cells c e z) → X b = some j → j ≠ 0 ∧ c.size ≤ j
  seat : ∀ i st c, Inb i = some st → st.has c → c < s ∧ X c = none
theorem Clear.dh {X : Nat → Option Nat} {s : Nat} {w' : World} {es : Array Event} (H : Clear R Inb X s) (hg : Gd X s w w' es) : DH (KR R) (StR R) w'.heap.size Inb w w' es := by
  refine ⟨fun hk b o e => ?_, fun i st c e hc => hg.frame c (H.seat i st c e hc).1 (H.seat i st c e hc).2, fun e he => ?_⟩
  · obtain ⟨o', h1, h2⟩ := hk b o e
    obtain ⟨c, el, k, rfl⟩ := H.ro b o e
    cases hX : X b with
    | none => exact ⟨o', by rw [hg.frame b (H.old b _ e) hX]; exact h1, h2⟩
    | some j =>
      obtain ⟨hj, hc⟩ := H.apart b c el _ j e hX
      rcases h2 with rfl | ⟨c1, e1, k1, c', f2, h3, rfl, h5, h4⟩
      · obtain ⟨c2, h6, h7, h8⟩ := hg.low b j (H.old b _ e) hX hj c el _ h1
        have : c2 = c := by
          apply Array.ext
          · exact h7
          · intro i hi hi'
            have := h8 i (by omega)
            rw [Array.getElem?_eq_getElem hi, Array.getElem?_eq_getElem hi'] at this
            exact Option.some.inj this
        subst this
        exact ⟨_, h6, .refl _⟩
      · cases h3
        obtain ⟨c2, h6, h7, h8⟩ := hg.low b j (H.old b _ e) hX hj c' el _ h1
        refine ⟨_, h6, .inr ⟨c, el, k, c2, f2, rfl, rfl, h5, fun i v hv => ?_⟩⟩
        have hi := (Array.getElem?_eq_some_iff.1 hv).1
        rw [h8 i (by omega)]; exact h4 i v hv
  · have hev := hg.evs e he
    obtain ⟨loc, wr, sy⟩ := e
    unfold Ev at hev
    cases loc with
    | cell a =>
      obtain ⟨h1, h2, h3⟩ := hev
      dsimp only at h2 h3
      subst h2
      refine ⟨fun x hx hst => ?_, by simp, by simp, h1⟩
      rw [ofEvent_cell0] at hx
      simp only [MemAct.touch?, Option.some.injEq] at hx
      subst hx
      obtain ⟨b, i, c, el, z, h4, h5, h6⟩ := hst
      cases h4
      cases wr with
      | false => rfl
      | true =>
        exfalso
        rcases h3 rfl with ⟨k, h7, h8⟩ | h7
        · have := H.apart b c el z k h5 h7
          dsimp only at h8
          omega
        · have := H.old b _ h5
          dsimp only at h7
          omega
    | obj r =>
      obtain ⟨h1, h2, h3⟩ := hev
      dsimp only at h2
      subst h2
      refine ⟨fun x hx hst => ?_, by simp, by simp, ?_⟩
      · have : MemAct.ofEvent ⟨.obj r, wr, false⟩ = .access ⟨.obj r, wr, false⟩ := by cases wr <;> rfl
        rw [this] at hx
        simp only [MemAct.touch?, Option.some.injEq] at hx
        subst hx
        obtain ⟨b, i, c, el, z, h4, _⟩ := hst
        cases h4
      · have : MemAct.ofEvent ⟨.obj r, wr, false⟩ = .access ⟨.obj r, wr, false⟩ := by cases wr <;> rfl
        rw [this]; exact h1
    | mark mk =>
      dsimp only at hev
      subst hev
      exact ⟨fun x hx _ => (by cases hx), (by simp), (by simp), trivial⟩
    | _ => exact hev.elim

/-- ████ THE HOLDER's OWN RUN, ON WHATEVER TAPE. ████ -/
theorem hold_run {X : Nat → Option Nat} {s : Nat} {Stop : Goroutine → World → Prop} (H : Clear R Inb X s) {a : Goroutine} (hrun : Run P (h == 0) (Gd X s) Stop a w) :
    ∀ {T : Trace} {gs : Array Goroutine} {q : Nat → Nat} {sl : Option (Nat × Nat)}, gs[h]? = some a → Ring P (KR R) (StR R) w.heap.size Mm Inb h T gs w q →
    ∃ (N : Nat) (gs' : Array Goroutine) (a' : Goroutine) (w' : World) (sl' : Option (Nat × Nat)) (T' : Trace) (q' : Nat → Nat),
      runNT P N (crowd gs w sl) T = (.next (crowd gs' w' sl'), T') ∧ gs'.size = gs.size ∧ gs'[h]? = some a' ∧ Stop a' w' ∧ Fr X s w w' ∧ Ring P (KR R) (StR R) w'.heap.size Mm Inb h T' gs' w' q' := by
  induction hrun with
  | @stop a w hst =>
    intro T gs q sl ha C
    exact ⟨0, gs, a, w, sl, T, q, rfl, rfl, ha, hst w.drawn, Fr.refl _ _ _, C⟩
  | @step fr cs w nf nc nw ne hst k ih =>
    intro T gs q sl ha C
    obtain ⟨N1, gs1, d, d', sl1, sl2, T1, q1, r1, hs1, z1, ha1, C1⟩ := picked (sl := sl) (kr_at R) ha rfl C
    obtain ⟨hgo, hg⟩ := hst d'
    have hsz : w.heap.size ≤ (nw d').heap.size := hg.size
    have C2 : Ring P (KR R) (StR R) (nw d').heap.size Mm Inb h T1 gs1 (w.at d') q1 := Ring.mono C1 hsz fun i g hi hgi => Idle.weak (fun _ h => h) (fun _ h => h) hsz (C1.idle i g hi hgi)
    obtain ⟨C3, ha3⟩ := C2.own (a' := G (nf d') (nc d')) ha1 (H.dh hg)
    have hr := runT_crowd_go (P := P) (sl := sl2) ha1 hgo
    obtain ⟨N2, gs3, a3, w3, sl3, T3, q3, r3, z3, h3, hS, ⟨es3, hF⟩, C4⟩ := ih d' (sl := sl2) ha3 C3
    have r2 := runNT_succ_of r1 (hs1.trans hr)
    refine ⟨N1 + 1 + N2, gs3, a3, w3, sl3, T3, q3, runNT_then r2 r3, z3.trans (by simpa using z1), h3, hS, ⟨_, Gd.trans (a := w) (es := ne d') ⟨hg.os, hg.output, hg.tape, hg.size, hg.frame, hg.low, hg.evs⟩ hF⟩, C4⟩
end
end Go.Sp
