/-
  What is proved: the protocol of agents that one steps: what an agent is held to at its next wait ('Zl'), folded and unfolded. Conditions: none beyond those that each theorem names.
-/
import Derived.Test.YtpgooljdodijlaaCN
namespace Go.Sp
open Go.Conc

abbrev Part := Nat → Option Obj
abbrev Stp := (Nat → Option Nat) → Nat → Bool → Goroutine → World → Prop
def Part.join (p S : Part) : Part := fun b => match p b with | some o => some o | none => S b
def Part.put (p : Part) (b : Nat) (o : Obj) : Part := fun x => if x = b then some o else p x

theorem Run.weak {P : Program} {main : Bool} {D : World → World → Array Event → Prop} {S S' : Goroutine → World → Prop} {g : Goroutine} {w : World} (h : Run P main D S g w) (hS : ∀ g w, S g w → S' g w) : Run P main D S' g w := by
  induction h with
  | stop h => exact .stop fun d => hS _ _ (h d)
  | step nf nc nw ne h k ih => exact .step nf nc nw ne h ih
theorem RunM.weak {P : Program} {main : Bool} {g : Goroutine} {p : Part} {st st' : Stp} (h : RunM P main g ⟨p, st⟩) (hS : ∀ X s main g w, st X s main g w → st' X s main g w) : RunM P main g ⟨p, st'⟩ := fun X s w hm ho hs =>
  Run.weak (h X s w hm ho hs) (hS X s main)

/-- An agent: its goroutine, its block, its channels (turn, rest, dead), its memory. -/
structure Ag where
  j : Nat
  a : Nat
  ct : Nat
  cr : Nat
  cd : Nat
  mi : Value
/-- The numbers of two types: of an agent's struct, of its own memory. -/
structure Kd where
  tA : TypeId
  tO : TypeId
def Ag.ro (kd : Kd) (g : Ag) : Obj := .cells #[g.mi, .chan (some g.ct), .chan (some g.cr), .chan (some g.cd)] kd.tA (0, 4)
def Ag.box (kd : Kd) (g : Ag) : Obj := .cells #[.pointer (some ⟨g.a, 0, none⟩)] kd.tO (0, 1)
/-- What it reads on its way to its seat: its struct's first four cells, its own memory. -/
def Ag.eyes (kd : Kd) (g : Ag) (b : Nat) : Part := fun x => if x = b then some (g.box kd) else if x = g.a then some (g.ro kd) else none
def seatA (g : Ag) (home : Goroutine → Prop) : Seat := { cases := #[rcase g.ct (.agg #[]), rcase g.cd (.agg #[])], shape := .select, home := home }
def seatM (g : Ag) (home : Goroutine → Prop) : Seat := Seat.one g.cr (.bool false) false home
/-- What a select hands an agent: its turn; its death. -/
def turned : Value := .tuple #[.int .i64 0, .bool true, .agg #[], .agg #[]]
def killed : Value := .tuple #[.int .i64 1, .bool false, .agg #[], .agg #[]]

/-- An agent's own part of the heap: its struct's first four cells, only read; all else is its own. -/
def Ag.priv (kd : Kd) (g : Ag) (p : Part) : Prop := p g.a = some (g.ro kd) ∧ ∀ b o, p b = some o → b ≠ g.a → floor o = 0 ∧ o.isChan = false
/-- What a law says of its agents: their states; a turn; a death; what is shared. -/
structure Lw where
  St : Type
  tr : St → Part → Bool → St → Part → Prop
  dd : St → Part → Part → Prop
  inv : Part → Prop
  inv_bare : ∀ S, inv S → ∀ b o, S b = some o → ∃ c e, o = .cells c e (0, 0)
  ro : Part
  ro_ro : ∀ b o, ro b = some o → RO o
  ro_inv : ∀ S, inv S → ∀ b o, ro b = some o → S b = none

/-- It stands at a send of v on channel c. -/
def AtSend (P : Program) (main : Bool) (c : Nat) (v : Value) (After : Goroutine → Prop) (g : Goroutine) (w : World) : Prop :=
  g.status = .running ∧ ∃ z', (∀ d, stepG P main g (w.at d) = .comm g #[scase c v z'] true .send (w.at d) #[]) ∧ After (Go.Conc.served g undef)
theorem AtSend.weak {P : Program} {main : Bool} {c : Nat} {v : Value} {A A' : Goroutine → Prop} {g : Goroutine} {w : World} (h : AtSend P main c v A g w) (hA : ∀ g, A g → A' g) : AtSend P main c v A' g w :=
  ⟨h.1, h.2.choose, h.2.choose_spec.1, hA _ h.2.choose_spec.2⟩
theorem QGo.weakHome {P : Program} {main : Bool} {R : Part} {ag : Ag} {H H' : Goroutine → Prop} {g : Goroutine} (h : QGo P main R (seatA ag H) g) (hH : ∀ g, H g → H' g) : QGo P main R (seatA ag H') g := by
  obtain ⟨k, h⟩ := h
  refine ⟨k, fun K Still B w hq => Goes.weak (fun _ _ h => h) (fun _ _ _ h => h) (fun g w ⟨g₂, h1, h2, h3, h4, h5, h6⟩ => ⟨g₂, h1, h2, h3, h4, hH _ h5, h6⟩) k g w (h K Still B w hq)⟩

section
variable (L : Lw) (P : Program) (kd : Kd) (ag : Ag)
/-- What is known of an agent that sits: what it does when it is served. -/
def Home (Z : (Bool → L.St → Part → Prop) → Stp) (st : L.St) (p : Part) (g : Goroutine) : Prop :=
  ∀ S, L.inv S → (∀ b o, p b = some o → S b = none) →
    RunM P false (Go.Conc.served g turned) ⟨(p.join S).join L.ro, Z (L.tr st S)⟩ ∧ RunM P false (Go.Conc.served g killed) ⟨(p.join S).join L.ro, Z (fun flag _ S' => flag = true ∧ L.dd st S S')⟩
/-- What an agent has made ready when it looks whether it is alive, waits, or is at its end. -/
def ZF (Z : (Bool → L.St → Part → Prop) → Stp) (Ob : Bool → L.St → Part → Prop) : Stp := fun X s main g w => main = false →
  ∃ (S p : Part), L.inv S ∧ (∀ b o, p b = some o → S b = none) ∧ (Mem.mk (p.join S) fun _ _ _ _ _ => True).on w.heap ∧
    ag.priv kd p ∧ (∀ b o, p b = some o → b ≠ ag.a → Wr X s b 0) ∧ (∀ b o, S b = some o → Wr X s b 0) ∧ s ≤ w.heap.size ∧
    ((∃ st, Ob true st S ∧ AtSend P false ag.cr (.bool true) (fun g' => ∃ n, QuitsD P n 0 g') g w) ∨
     (∃ st, Ob false st S ∧ ∃ fr cs, ∃ nf : Nat → Frame, g = G fr cs ∧ (∀ w, stepG P false (G fr cs) w = .go (G (nf w.heap.size) cs) { w with heap := w.heap.push (.cells #[.pointer (some ⟨ag.a, 0, none⟩)] kd.tO) } #[]) ∧
        ∀ b, b ≠ ag.a → RunM P false (G (nf b) cs) ⟨ag.eyes kd b, fun _ _ _ g w => AtSend P false ag.cr (.bool false) (fun g' => QGo P false (ag.eyes kd b) (seatA ag (Home L P Z st p)) g') g w⟩) ∨
     (∃ st z, Ob false st S ∧ g.status = .running ∧ (∀ w, stepG P false g w = .comm g #[rcase ag.cd z] false .select w #[]) ∧ RunM P false (g.finishComm P #[rcase ag.cd z] .select (-1) undef false) ⟨(p.join S).join L.ro, Z Ob⟩))
variable {L P kd ag}
theorem Home.weak {Z Z' : (Bool → L.St → Part → Prop) → Stp} (h : ∀ Ob X s main g w, Z Ob X s main g w → Z' Ob X s main g w) {st : L.St} {p : Part} {g : Goroutine} (hh : Home L P Z st p g) : Home L P Z' st p g := fun S h1 h2 =>
  ⟨RunM.weak (hh S h1 h2).1 (h _), RunM.weak (hh S h1 h2).2 (h _)⟩
theorem ZF.weak {Z Z' : (Bool → L.St → Part → Prop) → Stp} (h : ∀ Ob X s main g w, Z Ob X s main g w → Z' Ob X s main g w) {Ob : Bool → L.St → Part → Prop} {X : Nat → Option Nat} {s : Nat} {main : Bool} {g : Goroutine} {w : World}
    (hh : ZF L P kd ag Z Ob X s main g w) : ZF L P kd ag Z' Ob X s main g w := fun hm => by
  obtain ⟨S, p, h1, h2, h3, h4, h5, h6, h7, h9⟩ := hh hm
  refine ⟨S, p, h1, h2, h3, h4, h5, h6, h7, ?_⟩
  rcases h9 with h9 | ⟨st, ho, fr, cs, nf, e, hs, hr⟩ | ⟨st, z, ho, hr, hs, hk⟩
  · exact .inl h9
  · exact .inr (.inl ⟨st, ho, fr, cs, nf, e, hs, fun b hb => RunM.weak (hr b hb) fun _ _ _ _ _ hx => hx.weak fun _ hq => hq.weakHome fun _ hx => hx.weak h⟩)
  · exact .inr (.inr ⟨st, z, ho, hr, hs, RunM.weak hk (h Ob)⟩)
variable (L P kd ag)
/-- What an agent is held to at its next wait: the least that is closed. -/
def Zl (Ob : Bool → L.St → Part → Prop) : Stp := fun X s main g w =>
  ∀ Z : (Bool → L.St → Part → Prop) → Stp, (∀ Ob X s main g w, ZF L P kd ag Z Ob X s main g w → Z Ob X s main g w) → Z Ob X s main g w
variable {L P kd ag}
theorem Zl.fold {Ob : Bool → L.St → Part → Prop} {X : Nat → Option Nat} {s : Nat} {main : Bool} {g : Goroutine} {w : World} (h : ZF L P kd ag (Zl L P kd ag) Ob X s main g w) : Zl L P kd ag Ob X s main g w := fun Z hZ =>
  hZ _ _ _ _ _ _ (h.weak fun _ _ _ _ _ _ hx => hx Z hZ)
theorem Zl.unfold {Ob : Bool → L.St → Part → Prop} {X : Nat → Option Nat} {s : Nat} {main : Bool} {g : Goroutine} {w : World} (h : Zl L P kd ag Ob X s main g w) : ZF L P kd ag (Zl L P kd ag) Ob X s main g w :=
  h (fun Ob => ZF L P kd ag (Zl L P kd ag) Ob) fun _ _ _ _ _ _ hx => hx.weak fun _ _ _ _ _ _ hy => Zl.fold hy
/-- What is so of every agent that is held to 'Zl': it may be shown along the way. -/
theorem Zl.ind {Y : (Bool → L.St → Part → Prop) → Stp} (h : ∀ Ob X s main g w, ZF L P kd ag (fun Ob X s main g w => Zl L P kd ag Ob X s main g w ∧ Y Ob X s main g w) Ob X s main g w → Y Ob X s main g w) {Ob : Bool → L.St → Part → Prop} {X : Nat → Option Nat} {s : Nat} {main : Bool} {g : Goroutine} {w : World}
    (hz : Zl L P kd ag Ob X s main g w) : Y Ob X s main g w :=
  (hz (fun Ob X s main g w => Zl L P kd ag Ob X s main g w ∧ Y Ob X s main g w) fun Ob X s main g w hx => ⟨Zl.fold (hx.weak fun _ _ _ _ _ _ hy => hy.1), h Ob X s main g w hx⟩).2
end
end Go.Sp
