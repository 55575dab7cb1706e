/-
  What is proved: a round of an agent's: it is served, works, and serves the one who steps it. Conditions: those that the theorem names.
-/
import Derived.Test.YtpgooljdodijlaaCL
import Derived.Conc.TokenAlone
namespace Go.Sp
open Go.Conc
open Go.ConcN (sumTo upd upd_ne upd_same)

section
variable {P : Program} {R : Part} {Mm : Nat → Prop} {Inb : Nat → Option Seat} {h : Nat} {T : Trace} {gs : Array Goroutine} {w : World} {q : Nat → Nat} {sl : Option (Nat × Nat)}
/-- What is only read stands so. -/
def ROs (R : Part) : Prop := ∀ b o, R b = some o → ∃ c e k, o = .cells c e (0, k) ∧ k ≠ 0 ∧ c.size ≤ k
theorem KR.lt (hk : KR R w) {b : Nat} {o : Obj} (e : R b = some o) : b < w.heap.size := by
  obtain ⟨o', h1, _⟩ := hk b o e
  exact (Array.getElem?_eq_some_iff.1 h1).1
/-- The holder makes a block that is only read from its birth. -/
theorem hold_new {fr : Frame} {cs : List Frame} {nf : Nat → Frame} {o ro : Obj} (hro : Alike ro o) (hRO : ROs R)
    (hst : ∀ w, stepG P (h == 0) (G fr cs) w = .go (G (nf w.heap.size) cs) { w with heap := w.heap.push o } #[]) (ha : gs[h]? = some (G fr cs)) (C : Ring P (KR R) (StR R) w.heap.size Mm Inb h T gs w q) :
    ∃ (N : Nat) (gs' : Array Goroutine) (d : Nat) (sl' : Option (Nat × Nat)) (T' : Trace) (q' : Nat → Nat),
      runNT P N (crowd gs w sl) T = (.next (crowd gs' { (w.at d) with heap := w.heap.push o } sl'), T') ∧ gs'.size = gs.size ∧ gs'[h]? = some (G (nf w.heap.size) cs) ∧
        Ring P (KR (R.put w.heap.size ro)) (StR (R.put w.heap.size ro)) (w.heap.size + 1) Mm Inb h T' gs' { (w.at d) with heap := w.heap.push o } q' := by
  obtain ⟨N1, gs1, d, d', sl1, sl2, T1, q1, r1, hs1, z1, ha1, C1⟩ := picked (sl := sl) (kr_at R) ha rfl C
  have hgo := hst (w.at d')
  have hdh : DH (KR R) (StR R) w.heap.size Inb (w.at d') { (w.at d') with heap := w.heap.push o } #[] := by
    refine ⟨fun hk b x e => ?_, fun i s c e hc => ?_, fun e he => by simp at he⟩
    · obtain ⟨o', h1, h2⟩ := hk b x e
      refine ⟨o', ?_, h2⟩
      have := (Array.getElem?_eq_some_iff.1 h1).1
      show (w.heap.push o)[b]? = _
      have h3 : b ≠ w.heap.size := by
        have : b < w.heap.size := this
        omega
      rw [Array.getElem?_push, if_neg h3]; exact h1
    · have := (C1.mem i s e).2 c hc
      show (w.heap.push o)[c]? = w.heap[c]?
      rw [Array.getElem?_push, if_neg (by omega)]
  obtain ⟨C3, ha3⟩ := C1.own (a' := G (nf w.heap.size) cs) ha1 hdh
  have hr := runT_crowd_go (P := P) (sl := sl2) ha1 hgo
  refine ⟨N1 + 1, _, d', sl2, _, q1, runNT_succ_of r1 (hs1.trans hr), by simpa using z1, ha3, Ring.grow C3 (Nat.le_succ _) (fun b x e => ?_) (fun b x e => ?_) (fun b x e => ?_)⟩
  · have := KR.lt C.keep e
    simp only [Part.put]; rw [if_neg (by omega)]; exact e
  · simp only [Part.put] at e
    split at e
    · rename_i z; exact .inr (by omega)
    · exact .inl e
  · simp only [Part.put] at e
    split at e
    · rename_i z; subst z; obtain rfl := Option.some.inj e
      exact ⟨o, by show (w.heap.push o)[w.heap.size]? = _; simp, hro⟩
    · exact C3.keep b x e
end

theorem kr_setChan {R : Part} {w : World} {c : Nat} (hc : R c = none) (hk : KR R w) (cap : Nat) (buf : Array Value) (cl : Bool) (a b : Nat) (tm : Bool) : KR R (w.setChan c cap buf cl a b tm) := fun x o e => by
  obtain ⟨o', h1, h2⟩ := hk x o e
  refine ⟨o', ?_, h2⟩
  rw [heap_setChan_ne w cap buf cl a b tm (fun z => by rw [← z, hc] at e; cases e)]; exact h1
/-- A channel is nothing that is only read. -/
theorem ro_chan {R : Part} {w : World} (hR : ROs R) (hk : KR R w) {c : Nat} {cap : Nat} {buf : Array Value} {cl tm : Bool} {a b : Nat} (hc : w.heap[c]? = some (.chan cap buf cl a b tm)) : R c = none := by
  cases e : R c with
  | none => rfl
  | some o =>
    obtain ⟨cc, el, k, rfl, _⟩ := hR c o e
    obtain ⟨o', h1, h2⟩ := hk c _ e
    rw [hc] at h1
    obtain rfl := Option.some.inj h1
    rcases h2 with h2 | ⟨_, _, _, _, _, _, h2, _⟩ <;> cases h2
theorem size_setChan (w : World) (c cap : Nat) (buf : Array Value) (cl : Bool) (a b : Nat) (tm : Bool) : (w.setChan c cap buf cl a b tm).heap.size = w.heap.size := by simp [World.setChan]
theorem seatA_wf (g : Ag) (hne : g.ct ≠ g.cd) (home : Goroutine → Prop) : (seatA g home).Wf := by
  refine ⟨fun cc h => ?_, fun k m c z z' h1 h2 => ?_⟩
  · simp only [seatA, List.mem_toArray, List.mem_cons, List.not_mem_nil, or_false] at h
    rcases h with rfl | rfl
    · exact ⟨_, _, rfl⟩
    · exact ⟨_, _, rfl⟩
  · rcases k with _ | _ | k <;> rcases m with _ | _ | m <;> simp [seatA, rcase] at h1 h2 ⊢ <;> omega
theorem seatA_has {g : Ag} {home : Goroutine → Prop} {c : Nat} (h : (seatA g home).has c) : c = g.ct ∨ c = g.cd := by
  obtain ⟨k, z, hk⟩ := h
  rcases k with _ | _ | k <;> simp [seatA, rcase] at hk <;> omega
theorem seatM_has {g : Ag} {home : Goroutine → Prop} {c : Nat} (h : (seatM g home).has c) : c = g.cr := Seat.one_has.1 h
theorem alike_flat {o o' : Obj} (h : Alike o o') (hf : floor o = 0) : o' = o := by
  rcases h with h | ⟨c, e, k, c', f2, rfl, _, h5, _⟩
  · exact h
  · exact absurd hf h5.1
theorem Part.join_l {p S : Part} {b : Nat} {o : Obj} (h : p b = some o) : p.join S b = some o := by simp [Part.join, h]
theorem Part.join_r {p S : Part} {b : Nat} (h : p b = none) : p.join S b = S b := by simp [Part.join, h]
theorem Part.join_cases {p S : Part} {b : Nat} {o : Obj} (h : p.join S b = some o) : p b = some o ∨ (p b = none ∧ S b = some o) := by
  unfold Part.join at h
  cases hp : p b with
  | some x => rw [hp] at h; exact .inl h
  | none => rw [hp] at h; exact .inr ⟨rfl, h⟩

/-- What an agent may write while it holds: what is shared, and its own. -/
def agX (ag : Ag) (p S : Part) : Nat → Option Nat := fun b => if ((S b).isSome || ((p b).isSome && !(b == ag.a))) = true then some 0 else none
theorem agX_some {ag : Ag} {p S : Part} {b k : Nat} (h : agX ag p S b = some k) : k = 0 ∧ ((∃ o, S b = some o) ∨ ((∃ o, p b = some o) ∧ b ≠ ag.a)) := by
  unfold agX at h
  split at h
  · rename_i z
    simp only [Bool.or_eq_true, Bool.and_eq_true, Bool.not_eq_true', beq_eq_false_iff_ne, Option.isSome_iff_exists] at z
    exact ⟨(Option.some.inj h).symm, z⟩
  · cases h
theorem agX_S {ag : Ag} {p S : Part} {b : Nat} {o : Obj} (h : S b = some o) : agX ag p S b = some 0 := by unfold agX; simp [h]
theorem agX_p {ag : Ag} {p S : Part} {b : Nat} {o : Obj} (h : p b = some o) (hb : b ≠ ag.a) : agX ag p S b = some 0 := by unfold agX; simp [h, hb]
theorem agX_none {ag : Ag} {p S : Part} {b : Nat} (h1 : S b = none) (h2 : p b = none ∨ b = ag.a) : agX ag p S b = none := by
  unfold agX; rcases h2 with h2 | h2
  · simp [h1, h2]
  · subst h2; simp [h1]

/-- An agent's part of the heap and what is shared, as the world has them. -/
structure Laid (kd : Kd) (ag : Ag) (p S R : Part) (w : World) : Prop where
  priv : ag.priv kd p
  dis : ∀ b o, p b = some o → S b = none
  own : ∀ b o, p b = some o → b ≠ ag.a → w.heap[b]? = some o ∧ R b = none
  shared : ∀ b o, S b = some o → w.heap[b]? = some o ∧ R b = none ∧ ∃ c e, o = .cells c e (0, 0)
  ro : R ag.a = some (ag.ro kd)
/-- What a round leaves. -/
structure AfterX (ag : Ag) (X : Nat → Option Nat) (s : Nat) (R : Part) (w : World) (R' : Part) (w' : World) : Prop where
  ros : ROs R'
  more : ∀ b o, R b = some o → R' b = some o
  new : ∀ b o, R' b = some o → R b = some o ∨ w.heap.size ≤ b
  frame : ∀ b, b < w.heap.size → ¬ Wr X s b 0 → b ≠ ag.cr → w'.heap[b]? = w.heap[b]?
  size : w.heap.size ≤ w'.heap.size
  os : w'.os = w.os
  tape : w'.tape = w.tape
  output : w'.output = w.output
section
variable (L : Lw) (P : Program) (kd : Kd) (ag : Ag)
/-- How a round ends. -/
def RoundC (hM : Goroutine → Prop) (Ob : Bool → L.St → Part → Prop) (R : Part) (Inb : Nat → Option Seat) (X : Nat → Option Nat) (s : Nat) (T : Trace) (gs : Array Goroutine) (w : World) (sl : Option (Nat × Nat)) : Prop :=
  ∃ (N : Nat) (gs' : Array Goroutine) (g₂ : Goroutine) (w' : World) (sl' : Option (Nat × Nat)) (T' : Trace) (q' : Nat → Nat) (R' : Part) (Mm' : Nat → Prop) (Inb' : Nat → Option Seat) (flag : Bool) (st : L.St) (S' p' : Part),
      runNT P N (crowd gs w sl) T = (.next (crowd gs' w' sl'), T') ∧ gs'.size = gs.size ∧ gs'[0]? = some (Go.Conc.served g₂ (.bool flag)) ∧ hM g₂ ∧ Ob flag st S' ∧ L.inv S' ∧
        Ring P (KR R') (StR R') w'.heap.size Mm' Inb' 0 T' gs' w' q' ∧ Mm' 0 ∧ (∀ i, i ≠ ag.j → Inb' i = Inb i) ∧ AfterX ag X s R w R' w' ∧ (∃ cap k, w'.heap[ag.cr]? = some (.chan cap #[] false k k false)) ∧
        (flag = true → Inb' ag.j = none) ∧ (flag = false → Inb' ag.j = some (seatA ag (Home L P (Zl L P kd ag) st p'))) ∧
        (∀ b o, S' b = some o → w'.heap[b]? = some o ∧ R' b = none ∧ (Wr X s b 0 ∨ w.heap.size ≤ b)) ∧
        (flag = false → Laid kd ag p' S' R' w' ∧ ∀ b o, p' b = some o → b ≠ ag.a → Wr X s b 0 ∨ w.heap.size ≤ b)
/-- An agent that holds makes a round. -/
def RG (Ob : Bool → L.St → Part → Prop) : Stp := fun X s main g w => main = false →
  ∀ (R : Part) (Mm : Nat → Prop) (Inb : Nat → Option Seat) (T : Trace) (gs : Array Goroutine) (q : Nat → Nat) (sl : Option (Nat × Nat)) (hM : Goroutine → Prop), Ring P (KR R) (StR R) w.heap.size Mm Inb ag.j T gs w q → 0 < ag.j → 0 < gs.size → gs[ag.j]? = some g → Mm ag.j →
    Inb 0 = some (seatM ag hM) → ROs R → ag.ct ≠ ag.cd → R ag.a = some (ag.ro kd) → (∀ b o, L.ro b = some o → R b = some o) → (∀ b, Wr X s b 0 → R b = none) →
    (∀ st S', Ob false st S' → ∀ c, c = ag.ct ∨ c = ag.cd → (∃ cap k, w.heap[c]? = some (.chan cap #[] false k k false)) ∧ ∀ i s', i ≠ ag.j → Inb i = some s' → ¬ s'.has c) → RoundC L P kd ag hM Ob R Inb X s T gs w sl
end
section
variable {L : Lw} {P : Program} {kd : Kd} {ag : Ag}
/-- It goes till its next stop, and on. -/
theorem round_go {Z : Stp} {Ob : Bool → L.St → Part → Prop} (hZ : ∀ X s main g w, Z X s main g w → RG L P kd ag Ob X s main g w) {p S R : Part} {Mm : Nat → Prop} {Inb : Nat → Option Seat} {T : Trace} {gs : Array Goroutine} {w : World} {q : Nat → Nat} {sl : Option (Nat × Nat)} {g : Goroutine} {hM : Goroutine → Prop}
    (C : Ring P (KR R) (StR R) w.heap.size Mm Inb ag.j T gs w q) (hj : 0 < ag.j) (h0 : 0 < gs.size) (hg : gs[ag.j]? = some g) (hMj : Mm ag.j) (hI0 : Inb 0 = some (seatM ag hM)) (hRO : ROs R) (hne : ag.ct ≠ ag.cd)
    (hrun : RunM P false g ⟨(p.join S).join L.ro, Z⟩) (hL : Laid kd ag p S R w) (hro : ∀ b o, L.ro b = some o → R b = some o)
    (hch : ∀ st S', Ob false st S' → ∀ c, c = ag.ct ∨ c = ag.cd → (∃ cap k, w.heap[c]? = some (.chan cap #[] false k k false)) ∧ ∀ i s', i ≠ ag.j → Inb i = some s' → ¬ s'.has c) :
    RoundC L P kd ag hM Ob R Inb (agX ag p S) w.heap.size T gs w sl := by
  have hK := C.keep
  have hRlt : ∀ b o, R b = some o → b < w.heap.size := fun b o e => KR.lt hK e
  have hXR : ∀ b k, agX ag p S b = some k → R b = none := fun b k e => by
    rcases (agX_some e).2 with ⟨o, h1⟩ | ⟨⟨o, h1⟩, h2⟩
    · exact (hL.shared b o h1).2.1
    · exact (hL.own b o h1 h2).2
  have hcl : Clear R Inb (agX ag p S) w.heap.size := by
    refine ⟨fun b o e => ?_, hRlt, fun b c e z j h1 h2 => ?_, fun i s c e hc => ⟨(C.mem i s e).2 c hc, ?_⟩⟩
    · obtain ⟨c, el, k, h, _⟩ := hRO b o e; exact ⟨c, el, k, h⟩
    · rw [hXR b j h2] at h1; cases h1
    · obtain ⟨cap, k, hk⟩ := C.chans i s c (fun z => z) e hc
      refine agX_none ?_ ?_
      · cases hS : S c with
        | none => rfl
        | some o =>
          obtain ⟨h1, _, c1, e1, rfl⟩ := hL.shared c o hS
          rw [hk] at h1; cases h1
      · by_cases hca : c = ag.a
        · exact .inr hca
        · left
          cases hp : p c with
          | none => rfl
          | some o =>
            obtain ⟨h1, _⟩ := hL.own c o hp hca
            have h2 := (hL.priv.2 c o hp hca).2
            rw [hk] at h1
            obtain rfl := Option.some.inj h1
            cases h2
  have hon : (Mem.mk ((p.join S).join L.ro) Z).on w.heap := fun b o e => by
    rcases Part.join_cases e with e | ⟨_, e⟩
    case inr => exact hK _ _ (hro _ _ e)
    rcases Part.join_cases e with h1 | ⟨_, h1⟩
    · by_cases hb : b = ag.a
      · subst hb
        rw [hL.priv.1] at h1
        obtain rfl := Option.some.inj h1
        exact hK _ _ hL.ro
      · exact ⟨o, (hL.own b o h1 hb).1, .refl _⟩
    · exact ⟨o, (hL.shared b o h1).1, .refl _⟩
  have hown : Own (agX ag p S) w.heap.size ⟨(p.join S).join L.ro, Z⟩ := fun b o e => by
    rcases Part.join_cases e with e | ⟨_, e⟩
    case inr => exact .inl (L.ro_ro _ _ e)
    rcases Part.join_cases e with h1 | ⟨_, h1⟩
    · by_cases hb : b = ag.a
      · subst hb
        rw [hL.priv.1] at h1
        obtain rfl := Option.some.inj h1
        exact .inl ⟨_, _, rfl, by simp⟩
      · exact .inr (.inl ⟨0, agX_p h1 hb, Nat.zero_le _⟩)
    · exact .inr (.inl ⟨0, agX_S h1, Nat.zero_le _⟩)
  have hjm : (ag.j == 0) = false := by simp; omega
  -- IT WORKS TILL ITS NEXT WAIT, OR TO ITS END
  obtain ⟨N1, gs1, a1, w1, sl1, T1, q1, r1, z1, h1, hstop, ⟨es1, hF1⟩, C1⟩ := hold_run (sl := sl) hcl (hjm ▸ hrun (agX ag p S) w.heap.size w hon hown (Nat.le_refl _)) hg C
  have hRnone : ∀ b, Wr (agX ag p S) w.heap.size b 0 → R b = none := fun b hb => by
    rcases hb with ⟨k, h2, _⟩ | h2
    · exact hXR b k h2
    · cases e : R b with
      | none => rfl
      | some o => exact absurd (hRlt b o e) (by omega)
  have hfr1 : ∀ b, b < w.heap.size → S b = none → (p b = none ∨ b = ag.a) → w1.heap[b]? = w.heap[b]? := fun b hb h2 h3 => hF1.frame b hb (agX_none h2 h3)
  have hch1 : ∀ (c cap k : Nat), w.heap[c]? = some (Obj.chan cap #[] false k k false) → w1.heap[c]? = some (Obj.chan cap #[] false k k false) := fun c cap k hk => by
    rw [hfr1 c (Array.getElem?_eq_some_iff.1 hk).1 ?_ ?_]
    · exact hk
    · cases hS : S c with
      | none => rfl
      | some o =>
        obtain ⟨h1, _, c1, e1, rfl⟩ := hL.shared c o hS
        rw [hk] at h1; cases h1
    · by_cases hca : c = ag.a
      · exact .inr hca
      · left
        cases hp : p c with
        | none => rfl
        | some o =>
          obtain ⟨h1, _⟩ := hL.own c o hp hca
          have h2 := (hL.priv.2 c o hp hca).2
          rw [hk] at h1
          obtain rfl := Option.some.inj h1
          cases h2
  have hsz1 := hF1.size
  obtain ⟨N, gs', g₂, w', sl', T', q', R', Mm', Inb', flag, st, S', p', e1, e2, e3, e4, e5, e6, e7, e8, e9, e10, e11, e12, e13, e14, e15⟩ := hZ _ _ _ _ _ hstop hjm R Mm Inb T1 gs1 q1 sl1 hM C1 hj (by omega) h1 hMj hI0 hRO hne hL.ro hro hRnone (fun st S' ho c hc => by
    obtain ⟨⟨cap, k, h2⟩, h3⟩ := hch st S' ho c hc
    exact ⟨⟨cap, k, hch1 c cap k h2⟩, h3⟩)
  refine ⟨N1 + N, gs', g₂, w', sl', T', q', R', Mm', Inb', flag, st, S', p', runNT_then r1 e1, e2.trans z1, e3, e4, e5, e6, e7, e8, e9, ⟨e10.ros, e10.more, fun b o e => (e10.new b o e).imp id (Nat.le_trans hsz1), fun b hb h2 h3 => ?_, Nat.le_trans hsz1 e10.size, e10.os.trans hF1.os, e10.tape.trans hF1.tape, e10.output.trans hF1.output⟩, e11, e12, e13, fun b o e => ⟨(e14 b o e).1, (e14 b o e).2.1, (e14 b o e).2.2.imp id (Nat.le_trans hsz1)⟩, fun hf => ⟨(e15 hf).1, fun b o e hb => ?_⟩⟩
  · rw [e10.frame b (Nat.lt_of_lt_of_le hb hsz1) h2 h3]
    refine hF1.frame b hb ?_
    cases hX : agX ag p S b with
    | none => rfl
    | some k => exact absurd (.inl ⟨k, hX, by rw [(agX_some hX).1]; exact Nat.le_refl _⟩) h2
  · rcases (e15 hf).2 b o e hb with h2 | h2
    · exact .inl h2
    · exact .inr (Nat.le_trans hsz1 h2)
/-- WHATEVER IS HELD TO 'Zl' MAKES ITS ROUND. -/
theorem round_all {Ob : Bool → L.St → Part → Prop} {X : Nat → Option Nat} {s : Nat} {main : Bool} {g : Goroutine} {w : World} (hz : Zl L P kd ag Ob X s main g w) : RG L P kd ag Ob X s main g w := by
  refine Zl.ind (Y := RG L P kd ag) (fun Ob X s main a1 w1 hzf => ?_) hz
  intro hmain R Mm Inb T1 gs1 q1 sl1 hM C1 hj h0 h1 hMj hI0 hRO hne hRa hro hRnone hch
  have hjm : (ag.j == 0) = false := by simp; omega
  obtain ⟨S', p', hinv', hdis', hon', hpriv', hwp, hwS, hs1, hcase⟩ := hzf hmain
  have hp1 : ∀ b o, p' b = some o → b ≠ ag.a → w1.heap[b]? = some o ∧ R b = none := fun b o e hb => by
    obtain ⟨o', h2, h3⟩ := hon' b o (Part.join_l e)
    rw [alike_flat h3 (hpriv'.2 b o e hb).1] at h2
    exact ⟨h2, hRnone b (hwp b o e hb)⟩
  have hS1 : ∀ b o, S' b = some o → w1.heap[b]? = some o ∧ R b = none ∧ ∃ c e, o = .cells c e (0, 0) := fun b o e => by
    have hpn : p' b = none := by
      cases hp : p' b with
      | none => rfl
      | some x => rw [hdis' b x hp] at e; cases e
    obtain ⟨o', h2, h3⟩ := hon' b o (by show p'.join S' b = _; rw [Part.join_r hpn]; exact e)
    obtain ⟨c, el, rfl⟩ := L.inv_bare S' hinv' b o e
    rw [alike_flat h3 rfl] at h2
    exact ⟨h2, hRnone b (hwS b _ e), c, el, rfl⟩
  have hI0' : ∀ o, upd Inb ag.j o 0 = some (seatM ag hM) := fun o => by rw [upd_ne _ _ (by omega)]; exact hI0
  rcases hcase with ⟨st, hob, hrun1, z', hsend, n, hQ⟩ | hcase | hcase
  · have hX0 : True := trivial
    obtain ⟨N2, m2, T2, r2, gs2, g₂, d2, k2, cap2, sl2, q2, rfl, z2, h2, hh2, hc2, C2⟩ := give (sl := sl1) (j := 0) (s := seatM ag hM) (c := ag.cr) (kk := 0) (z := .bool false) (Inb' := upd Inb ag.j none) (nh := n) (kr_at R)
      (fun w i s c cap buf cl a b tm e hc hk => by
        obtain ⟨cap', k', hk'⟩ := C1.chans i s c (fun z => z) e hc
        exact kr_setChan (ro_chan hRO C1.keep hk') hk cap buf cl a b tm)
      (by omega) (by omega) hI0 rfl hMj h1 hrun1 (fun d => by rw [hjm]; exact hsend d) (fun e he => by simp at he) C1
      (fun x hx => upd_ne _ _ hx) (.inr (upd_same _ _ _)) (fun T' hd => by rw [upd_same]; exact ⟨hj, hd ▸ hQ⟩)
    have hsz2 : ((w1.at d2).setChan ag.cr cap2 #[] false (k2 + 1) (k2 + 1) false).heap.size = w1.heap.size := size_setChan _ _ _ _ _ _ _ _
    have hcr : ∀ b, b ≠ ag.cr → ((w1.at d2).setChan ag.cr cap2 #[] false (k2 + 1) (k2 + 1) false).heap[b]? = w1.heap[b]? := fun b hb => heap_setChan_ne (w1.at d2) cap2 #[] false _ _ false hb.symm
    refine ⟨N2, gs2, g₂, _, sl2, T2, q2, R, _, _, true, st, S', p', r2, z2, h2, hh2, hob, hinv', hsz2.symm ▸ C2, ⟨(C1.mem 0 _ hI0).1, .inr rfl⟩, fun i hi => upd_ne _ _ hi, ⟨hRO, fun _ _ e => e, fun _ _ e => .inl e, fun b hb h4 h5 => ?_, ?_, rfl, rfl, rfl⟩, ⟨cap2, k2 + 1, ?_⟩, fun _ => upd_same _ _ _, fun z => (by cases z), fun b o e => ?_, fun z => (by cases z)⟩
    · exact hcr b h5
    · rw [hsz2]; exact Nat.le_refl _
    · exact heap_setChan_self (w1.at d2) hc2 _ _ _ _ _ _
    · obtain ⟨h3, h4, c, el, rfl⟩ := hS1 b o e
      refine ⟨?_, h4, .inl (hwS b _ e)⟩
      rw [hcr b (fun z => by subst z; rw [hc2] at h3; cases h3)]; exact h3
  · obtain ⟨st, hob, fr, cs, nf, rfl, hst, hr⟩ := hcase
    have hal : Alike (ag.box kd) (.cells #[.pointer (some ⟨ag.a, 0, none⟩)] kd.tO) := .inr ⟨_, _, 1, _, (0, 0), rfl, rfl, ⟨by simp, .inl rfl⟩, fun i v h => h⟩
    obtain ⟨N2, gs2, d2, sl2, T2, q2, r2, z2, h2, C2⟩ := hold_new (sl := sl1) hal hRO (fun w => by rw [hjm]; exact hst w) h1 C1
    have hsz2 : ({ (w1.at d2) with heap := w1.heap.push (.cells #[.pointer (some ⟨ag.a, 0, none⟩)] kd.tO) } : World).heap.size = w1.heap.size + 1 := by simp
    have hpush : ∀ b, b < w1.heap.size → ({ (w1.at d2) with heap := w1.heap.push (.cells #[.pointer (some ⟨ag.a, 0, none⟩)] kd.tO) } : World).heap[b]? = w1.heap[b]? := fun b hb => by
      show (w1.heap.push _)[b]? = _
      rw [Array.getElem?_push, if_neg (by omega)]
    generalize hw2 : ({ (w1.at d2) with heap := w1.heap.push (.cells #[.pointer (some ⟨ag.a, 0, none⟩)] kd.tO) } : World) = w2 at *
    have hos2 : w2.os = w1.os ∧ w2.tape = w1.tape ∧ w2.output = w1.output := by subst hw2; exact ⟨rfl, rfl, rfl⟩
    have hRlt1 : ∀ b o, R b = some o → b < w1.heap.size := fun b o e => KR.lt C1.keep e
    have hRO1 : ROs (R.put w1.heap.size (ag.box kd)) := fun b o e => by
      simp only [Part.put] at e
      split at e
      · obtain rfl := Option.some.inj e; exact ⟨_, _, 1, rfl, by simp, by simp⟩
      · exact hRO b o e
    have hR1 : ∀ b, b ≠ w1.heap.size → (R.put w1.heap.size (ag.box kd)) b = R b := fun b hb => by simp only [Part.put]; rw [if_neg hb]
    have hmore : ∀ b o, R b = some o → (R.put w1.heap.size (ag.box kd)) b = some o := fun b o e => by rw [hR1 b (fun z => by have := hRlt1 b o e; omega)]; exact e
    have hR1b : (R.put w1.heap.size (ag.box kd)) w1.heap.size = some (ag.box kd) := by simp [Part.put]
    generalize hR1e : R.put w1.heap.size (ag.box kd) = R1 at *
    rw [← hsz2] at C2
    have heyes : ∀ b o, ag.eyes kd w1.heap.size b = some o → R1 b = some o := fun b o e => by
      unfold Ag.eyes at e
      split at e
      · rename_i z; subst z; obtain rfl := Option.some.inj e; exact hR1b
      · split at e
        · rename_i z; subst z; obtain rfl := Option.some.inj e; exact hmore _ _ hRa
        · cases e
    have hcl2 : Clear R1 Inb (fun _ => none) w2.heap.size :=
      ⟨fun b o e => by obtain ⟨c, el, k, h, _⟩ := hRO1 b o e; exact ⟨c, el, k, h⟩, fun b o e => KR.lt C2.keep e, fun _ _ _ _ _ _ h => (by cases h), fun i s c e hc => ⟨(C2.mem i s e).2 c hc, rfl⟩⟩
    have hown2 : ∀ st, Own (fun _ => none) w2.heap.size ⟨ag.eyes kd w1.heap.size, st⟩ := fun st b o e => by
      have e : ag.eyes kd w1.heap.size b = some o := e
      unfold Ag.eyes at e
      split at e
      · obtain rfl := Option.some.inj e; exact .inl ⟨_, _, rfl, by simp⟩
      · split at e
        · obtain rfl := Option.some.inj e; exact .inl ⟨_, _, rfl, by simp⟩
        · cases e
    have hrun2 := hr w1.heap.size (fun z => by have := hRlt1 _ _ hRa; omega) (fun _ => none) w2.heap.size w2 (fun b o e => C2.keep b o (heyes b o e)) (hown2 _) (Nat.le_refl _)
    obtain ⟨N3, gs3, a3, w3, sl3, T3, q3, r3, z3, h3, ⟨hrun3, z', hsend, hQ⟩, ⟨es3, hF3⟩, C3⟩ := hold_run (h := ag.j) (sl := sl2) (Stop := fun g w => AtSend P false ag.cr (.bool false) (fun g' => QGo P false (ag.eyes kd w1.heap.size) (seatA ag (Home L P (Zl L P kd ag) st p')) g') g w) hcl2 (by rw [hjm]; exact Run.weak hrun2 fun _ _ hx => hx.weak fun _ hq => hq.weakHome fun _ hx => hx.weak fun _ _ _ _ _ _ hy => hy.1) h2 C2
    have hfr3 : ∀ b, b < w1.heap.size → w3.heap[b]? = w1.heap[b]? := fun b hb => by rw [hF3.frame b (by omega) rfl, hpush b hb]
    have hch3 : ∀ (c cap k : Nat), w1.heap[c]? = some (Obj.chan cap #[] false k k false) → w3.heap[c]? = some (Obj.chan cap #[] false k k false) := fun c cap k hk => by
      rw [hfr3 c (Array.getElem?_eq_some_iff.1 hk).1]; exact hk
    have C4 := C3.reseat hMj (seatA ag (Home L P (Zl L P kd ag) st p')) (seatA_wf ag hne _) (fun i s' c hi e hc hc' => (hch st S' hob c (seatA_has hc')).2 i s' hi e hc)
      (fun c hc => by obtain ⟨cap, k, hk⟩ := (hch st S' hob c (seatA_has hc)).1; exact ⟨cap, k, hch3 c cap k hk⟩)
      (fun c hc => by obtain ⟨cap, k, hk⟩ := (hch st S' hob c (seatA_has hc)).1; exact (Array.getElem?_eq_some_iff.1 (hch3 c cap k hk)).1)
    obtain ⟨n, hsits⟩ := hQ.sits
    have hqok : QOk (ag.eyes kd w1.heap.size) (KR R1) (StR R1) w3.heap.size := ⟨fun w hk b o e => hk b o (heyes b o e), fun l ⟨b, i, c, e, z, h1, h2, h3⟩ => ⟨b, i, c, e, z, h1, heyes _ _ h2, h3⟩, fun b o e => KR.lt C3.keep (heyes b o e)⟩
    obtain ⟨N5, m5, T5, r5, gs5, g₂, d5, k5, cap5, sl5, q5, rfl, z5, h5, hh5, hc5, C5⟩ := give (sl := sl3) (j := 0) (s := seatM ag hM) (c := ag.cr) (kk := 0) (z := .bool false) (Inb' := upd Inb ag.j (some (seatA ag (Home L P (Zl L P kd ag) st p')))) (nh := n) (kr_at R1)
      (fun w i s c cap buf cl a b tm e hc hk => by
        obtain ⟨cap', k', hk'⟩ := C4.chans i s c (fun z => z) e hc
        exact kr_setChan (ro_chan hRO1 C4.keep hk') hk cap buf cl a b tm)
      (by omega) (by omega) (hI0' _) rfl hMj h3 hrun3 (fun d => by rw [hjm]; exact hsend d) (fun e he => by simp at he) C4
      (fun _ _ => rfl) (.inl rfl) (fun T' _ => by rw [upd_same]; show Sits P (ag.j == 0) _ _ _ _ _ _; rw [hjm]; exact hsits _ _ _ hqok)
    have hsz5 : ((w3.at d5).setChan ag.cr cap5 #[] false (k5 + 1) (k5 + 1) false).heap.size = w3.heap.size := size_setChan _ _ _ _ _ _ _ _
    have hcr : ∀ b, b ≠ ag.cr → ((w3.at d5).setChan ag.cr cap5 #[] false (k5 + 1) (k5 + 1) false).heap[b]? = w3.heap[b]? := fun b hb => heap_setChan_ne (w3.at d5) cap5 #[] false _ _ false hb.symm
    have hfin : ∀ (b : Nat) (o : Obj), w1.heap[b]? = some o → o.isChan = false → ((w3.at d5).setChan ag.cr cap5 #[] false (k5 + 1) (k5 + 1) false).heap[b]? = some o := fun b o e hn => by
      have h6 := hfr3 b (Array.getElem?_eq_some_iff.1 e).1
      rw [hcr b (fun z => by subst z; rw [hc5, e] at h6; rw [← Option.some.inj h6] at hn; cases hn), h6]; exact e
    have hR1n : ∀ (b : Nat) (o : Obj), w1.heap[b]? = some o → R b = none → R1 b = none := fun b o e hn => by
      rw [hR1 b (fun z => by have := (Array.getElem?_eq_some_iff.1 e).1; omega)]; exact hn
    have hS5 : ∀ b o, S' b = some o → ((w3.at d5).setChan ag.cr cap5 #[] false (k5 + 1) (k5 + 1) false).heap[b]? = some o ∧ R1 b = none ∧ ∃ c e, o = .cells c e (0, 0) := fun b o e => by
      obtain ⟨h6, h7, c, el, rfl⟩ := hS1 b o e
      exact ⟨hfin b _ h6 rfl, hR1n b _ h6 h7, c, el, rfl⟩
    refine ⟨N2 + N3 + N5, gs5, g₂, _, sl5, T5, q5, R1, _, _, false, st, S', p', runNT_then (runNT_then r2 r3) r5, by omega, h5, hh5, hob, hinv', hsz5.symm ▸ C5, ⟨(C1.mem 0 _ hI0).1, .inr rfl⟩, fun i hi => upd_ne _ _ hi,
      ⟨hRO1, hmore, fun b o e => ?_, fun b hb h7 h8 => ?_, ?_, ?_, ?_, ?_⟩, ⟨cap5, k5 + 1, heap_setChan_self (w3.at d5) hc5 _ _ _ _ _ _⟩, fun z => (by cases z), fun _ => upd_same _ _ _, fun b o e => ⟨(hS5 b o e).1, (hS5 b o e).2.1, .inl (hwS b o e)⟩, fun _ => ⟨⟨hpriv', hdis', fun b o e hb => ?_, hS5, hmore _ _ hRa⟩, fun b o e hb => ?_⟩⟩
    · by_cases hb : b = w1.heap.size
      · exact .inr (by rw [hb]; exact Nat.le_refl _)
      · rw [hR1 b hb] at e; exact .inl e
    · rw [hcr b h8]; exact hfr3 b hb
    · rw [hsz5]; have h7 := hF3.size; omega
    · exact hF3.os.trans hos2.1
    · exact hF3.tape.trans hos2.2.1
    · exact hF3.output.trans hos2.2.2
    · obtain ⟨h6, h7⟩ := hp1 b o e hb
      exact ⟨hfin b o h6 (hpriv'.2 b o e hb).2, hR1n b o h6 h7⟩
    · exact .inl (hwp b o e hb)
  · obtain ⟨st, z, hob, hrun1, hst, hk⟩ := hcase
    have hchd := hch st S' hob
    obtain ⟨⟨cap, k, hcd⟩, hcdn⟩ := hchd ag.cd (.inr rfl)
    have hnil : ∀ c, ¬ ({ cases := #[], shape := .select, home := fun _ => True } : Seat).has c := fun c ⟨k, z, h⟩ => by simp at h
    have C2 := C1.reseat hMj { cases := #[], shape := .select, home := fun _ => True } ⟨fun cc h => by simp at h, fun k m c z z' h => by simp at h⟩ (fun i s' c _ _ _ h => hnil c h) (fun c h => absurd h (hnil c)) (fun c h => absurd h (hnil c))
    obtain ⟨N2, gs2, d2, sl2, T2, q2, r2, z2, h2, C3⟩ := hold_default (sl := sl1) (h := ag.j) (c := ag.cd) (z := z) (shape := .select) (es := #[]) (kr_at R) h1 hrun1 C2 (fun i s' e hh => by
      by_cases hi : i = ag.j
      · subst hi; rw [upd_same] at e; obtain rfl := Option.some.inj e; exact hnil _ hh
      · rw [upd_ne _ _ hi] at e; exact hcdn i s' hi e hh) (fun d => by rw [hjm]; exact hst (w1.at d)) (fun e he => by simp at he) hcd
    obtain ⟨N, gs', g₂, w', sl', T', q', R', Mm', Inb', flag, st', S2, p2, e1, e2, e3, e4, e5, e6, e7, e8, e9, e10, e11, e12, e13, e14, e15⟩ := round_go (L := L) (kd := kd) (Ob := Ob) (hM := hM) (S := S') (p := p') (sl := sl2) (w := w1.at d2) (Inb := upd Inb ag.j (some { cases := #[], shape := .select, home := fun _ => True })) (fun X s main g w hx => hx.2) C3 hj (by omega) h2 hMj (by rw [upd_ne _ _ (by omega)]; exact hI0) hRO hne hk ⟨hpriv', hdis', hp1, hS1, hRa⟩ hro
      (fun st S' ho c hc => ⟨(hch st S' ho c hc).1, fun i s' hi e => (hch st S' ho c hc).2 i s' hi (by rw [upd_ne _ _ hi] at e; exact e)⟩)
    have hWW : ∀ b, Wr (agX ag p' S') w1.heap.size b 0 → Wr X s b 0 ∨ w1.heap.size ≤ b := fun b hb => by
      rcases hb with ⟨k, h6, _⟩ | h6
      · rcases (agX_some h6).2 with ⟨o, h7⟩ | ⟨⟨o, h7⟩, h8⟩
        · exact .inl (hwS b o h7)
        · exact .inl (hwp b o h7 h8)
      · exact .inr h6
    refine ⟨N2 + N, gs', g₂, w', sl', T', q', R', Mm', Inb', flag, st', S2, p2, runNT_then r2 e1, e2.trans z2, e3, e4, e5, e6, e7, e8, fun i hi => (e9 i hi).trans (upd_ne _ _ hi), ⟨e10.ros, e10.more, e10.new, fun b hb h6 h7 => e10.frame b hb (fun h => (hWW b h).elim h6 (fun h8 => by
      have hb : b < w1.heap.size := hb
      omega)) h7, e10.size, e10.os, e10.tape, e10.output⟩, e11, e12, e13, fun b o e => ⟨(e14 b o e).1, (e14 b o e).2.1, (e14 b o e).2.2.elim (fun h => hWW b h) .inr⟩, fun hf => ⟨(e15 hf).1, fun b o e hb => (e15 hf).2 b o e hb |>.elim (fun h => hWW b h) .inr⟩⟩
/-- What a round leaves, by what the agent had at its begin. -/
structure After (ag : Ag) (p S R : Part) (w : World) (R' : Part) (w' : World) : Prop where
  ros : ROs R'
  more : ∀ b o, R b = some o → R' b = some o
  new : ∀ b o, R' b = some o → R b = some o ∨ w.heap.size ≤ b
  frame : ∀ b, b < w.heap.size → S b = none → (p b = none ∨ b = ag.a) → b ≠ ag.cr → w'.heap[b]? = w.heap[b]?
  size : w.heap.size ≤ w'.heap.size
  os : w'.os = w.os
  tape : w'.tape = w.tape
  output : w'.output = w.output
/-- ████ AN AGENT's ROUND: it holds, works till its next wait or to its end, and serves whoever steps it. ████ -/
theorem agent_round {Ob : Bool → L.St → Part → Prop} {p S R : Part} {Mm : Nat → Prop} {Inb : Nat → Option Seat} {T : Trace} {gs : Array Goroutine} {w : World} {q : Nat → Nat} {sl : Option (Nat × Nat)} {g : Goroutine} {hM : Goroutine → Prop}
    (C : Ring P (KR R) (StR R) w.heap.size Mm Inb ag.j T gs w q) (hj : 0 < ag.j) (h0 : 0 < gs.size) (hg : gs[ag.j]? = some g) (hMj : Mm ag.j) (hI0 : Inb 0 = some (seatM ag hM)) (hRO : ROs R) (hne : ag.ct ≠ ag.cd)
    (hrun : RunM P false g ⟨(p.join S).join L.ro, Zl L P kd ag Ob⟩) (hL : Laid kd ag p S R w) (hro : ∀ b o, L.ro b = some o → R b = some o)
    (hch : ∀ st S', Ob false st S' → ∀ c, c = ag.ct ∨ c = ag.cd → (∃ cap k, w.heap[c]? = some (.chan cap #[] false k k false)) ∧ ∀ i s', i ≠ ag.j → Inb i = some s' → ¬ s'.has c) :
    ∃ (N : Nat) (gs' : Array Goroutine) (g₂ : Goroutine) (w' : World) (sl' : Option (Nat × Nat)) (T' : Trace) (q' : Nat → Nat) (R' : Part) (Mm' : Nat → Prop) (Inb' : Nat → Option Seat) (flag : Bool) (st : L.St) (S' p' : Part),
      runNT P N (crowd gs w sl) T = (.next (crowd gs' w' sl'), T') ∧ gs'.size = gs.size ∧ gs'[0]? = some (Go.Conc.served g₂ (.bool flag)) ∧ hM g₂ ∧ Ob flag st S' ∧ L.inv S' ∧
        Ring P (KR R') (StR R') w'.heap.size Mm' Inb' 0 T' gs' w' q' ∧ Mm' 0 ∧ (∀ i, i ≠ ag.j → Inb' i = Inb i) ∧ After ag p S R w R' w' ∧ (∃ cap k, w'.heap[ag.cr]? = some (.chan cap #[] false k k false)) ∧
        (flag = true → Inb' ag.j = none) ∧ (flag = false → Inb' ag.j = some (seatA ag (Home L P (Zl L P kd ag) st p'))) ∧
        (∀ b o, S' b = some o → w'.heap[b]? = some o ∧ R' b = none ∧ ((∃ o, p b = some o ∧ b ≠ ag.a) ∨ (∃ o, S b = some o) ∨ w.heap.size ≤ b)) ∧
        (flag = false → Laid kd ag p' S' R' w' ∧ ∀ b o, p' b = some o → b ≠ ag.a → (∃ o, p b = some o) ∨ (∃ o, S b = some o) ∨ w.heap.size ≤ b) := by
  obtain ⟨N, gs', g₂, w', sl', T', q', R', Mm', Inb', flag, st, S', p', e1, e2, e3, e4, e5, e6, e7, e8, e9, e10, e11, e12, e13, e14, e15⟩ := round_go (sl := sl) (hM := hM) (fun _ _ _ _ _ h => round_all h) C hj h0 hg hMj hI0 hRO hne hrun hL hro hch
  refine ⟨N, gs', g₂, w', sl', T', q', R', Mm', Inb', flag, st, S', p', e1, e2, e3, e4, e5, e6, e7, e8, e9, ⟨e10.ros, e10.more, e10.new, fun b hb h1 h2 h3 => e10.frame b hb (fun h => ?_) h3, e10.size, e10.os, e10.tape, e10.output⟩, e11, e12, e13, fun b o e => ⟨(e14 b o e).1, (e14 b o e).2.1, ?_⟩, fun hf => ⟨(e15 hf).1, fun b o e hb => ?_⟩⟩
  · rcases h with ⟨k, h4, _⟩ | h4
    · rw [agX_none h1 h2] at h4; cases h4
    · omega
  · rcases (e14 b o e).2.2 with (⟨k, h4, _⟩ | h4) | h4
    · rcases (agX_some h4).2 with h5 | ⟨⟨o, h5⟩, h6⟩
      · exact .inr (.inl h5)
      · exact .inl ⟨o, h5, h6⟩
    · exact .inr (.inr h4)
    · exact .inr (.inr h4)
  · rcases (e15 hf).2 b o e hb with (⟨k, h4, _⟩ | h4) | h4
    · rcases (agX_some h4).2 with h5 | ⟨h5, _⟩
      · exact .inr (.inl h5)
      · exact .inl h5
    · exact .inr (.inr h4)
    · exact .inr (.inr h4)
end
end Go.Sp
