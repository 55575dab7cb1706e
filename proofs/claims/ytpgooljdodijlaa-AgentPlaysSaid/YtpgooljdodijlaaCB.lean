/-
  What is proved: the calculus of sub-heaps for code. Conditions: none beyond those that each theorem names.
  Part B: a goroutine's own run to a stop, whatever the tape answers and whatever the others draw ('Run'); what a piece of code asks of a part of the heap ('Code.wps'); that the machine keeps to it.
-/
import Derived.Test.YtpgooljdodijlaaCA
namespace Go.Sp
open Go.Conc

/-- A goroutine comes, by steps of its own, to a stop, whatever the tape answers ahead of each step. -/
inductive Run (P : Program) (main : Bool) (D : World → World → Array Event → Prop) (Stop : Goroutine → World → Prop) : Goroutine → World → Prop
  | stop {g : Goroutine} {w : World} (h : ∀ d, Stop g (w.at d)) : Run P main D Stop g w
  | step {fr : Frame} {cs : List Frame} {w : World} (nf : Nat → Frame) (nc : Nat → List Frame) (nw : Nat → World) (ne : Nat → Array Event)
      (h : ∀ d, stepG P main (G fr cs) (w.at d) = .go (G (nf d) (nc d)) (nw d) (ne d) ∧ D (w.at d) (nw d) (ne d))
      (k : ∀ d, Run P main D Stop (G (nf d) (nc d)) (nw d)) : Run P main D Stop (G fr cs) w

theorem Run.step' {P : Program} {main : Bool} {D : World → World → Array Event → Prop} {Stop : Goroutine → World → Prop} {fr : Frame} {cs : List Frame} {w : World}
    (h : ∀ d, ∃ fr' cs' w' es, stepG P main (G fr cs) (w.at d) = .go (G fr' cs') w' es ∧ D (w.at d) w' es ∧ Run P main D Stop (G fr' cs') w') : Run P main D Stop (G fr cs) w := by
  refine .step (fun d => (h d).choose) (fun d => (h d).choose_spec.choose) (fun d => (h d).choose_spec.choose_spec.choose) (fun d => (h d).choose_spec.choose_spec.choose_spec.choose) (fun d => ?_) (fun d => ?_)
  · have := (h d).choose_spec.choose_spec.choose_spec.choose_spec
    exact ⟨this.1, this.2.1⟩
  · have := (h d).choose_spec.choose_spec.choose_spec.choose_spec
    exact this.2.2

/-- .. from whatever world holds this part of the heap. -/
def RunM (P : Program) (main : Bool) (g : Goroutine) (m : Mem) : Prop :=
  ∀ (X : Nat → Option Nat) (s : Nat) (w : World), m.on w.heap → Own X s m → s ≤ w.heap.size → Run P main (Gd X s) (m.stop X s main) g w

section
variable {P : Program} {main : Bool}
theorem RunM.le {g : Goroutine} {m m' : Mem} (h : RunM P main g m) (hl : m.le m') : RunM P main g m' :=
  fun X s w hm ho hs => hl.1.symm ▸ h X s w (Mem.on_le hl hm) (ho.le hl) hs
/-- A move of control. -/
theorem RunM.ctl {fr fr' : Frame} {cs cs' : List Frame} {m : Mem} (hst : ∀ w, stepG P main (G fr cs) w = .go (G fr' cs') w #[]) (h : RunM P main (G fr' cs') m) : RunM P main (G fr cs) m :=
  fun X s w hm ho hsz => .step' fun d => ⟨fr', cs', w.at d, #[], hst _, ⟨rfl, rfl, rfl, Nat.le_refl _, fun _ _ _ => rfl, fun _ _ _ _ _ c _ _ h => ⟨c, h, rfl, fun _ _ => rfl⟩, fun _ z => by simp at z⟩, h X s (w.at d) hm ho hsz⟩
/-- .. used where the stop is told. -/
theorem RunM.use {g : Goroutine} {m m' : Mem} (h : RunM P main g m') (hst : m'.stop = m.stop) {X : Nat → Option Nat} {s : Nat} {w : World} (hm : m'.on w.heap) (ho : Own X s m') (hs : s ≤ w.heap.size) : Run P main (Gd X s) (m.stop X s main) g w := hst ▸ h X s w hm ho hs
end

theorem seen_sub (P : Program) (fn : FuncId) (es : Array Event) : ∀ e ∈ seen P fn es, e ∈ es := by
  have key : ∀ (l : List Event) (q : Bool) (kept : Array Event) (f : Bool × Array Event → Event → Bool × Array Event),
      (∀ x e, (f x e).2 = x.2 ∨ (f x e).2 = x.2.push e) → ∀ e ∈ (l.foldl f (q, kept)).2, e ∈ kept ∨ e ∈ l := by
    intro l
    induction l with
    | nil => exact fun q kept f _ e he => .inl he
    | cons x l ih =>
      intro q kept f hf e he
      simp only [List.foldl_cons] at he
      have h2 := ih (f (q, kept) x).1 (f (q, kept) x).2 f hf e he
      rcases h2 with h2 | h2
      · rcases hf (q, kept) x with h3 | h3
        · rw [h3] at h2; exact .inl h2
        · rw [h3] at h2
          rcases Array.mem_push.1 h2 with h4 | h4
          · exact .inl h4
          · exact .inr (h4 ▸ List.mem_cons_self)
      · exact .inr (List.mem_cons_of_mem _ h2)
  intro e he
  unfold seen at he
  dsimp only at he
  rw [← Array.foldl_toList] at he
  have := key es.toList _ #[] _ (fun x e => by
    split
    · exact .inl rfl
    · split
      · exact .inl rfl
      · exact .inr rfl) e he
  rcases this with h | h
  · simp at h
  · exact Array.mem_toList_iff.1 h

theorem Gd.fewer {X : Nat → Option Nat} {s : Nat} {w w' : World} {es es' : Array Event} (h : Gd X s w w' es) (hs : ∀ e ∈ es', e ∈ es) : Gd X s w w' es' :=
  ⟨h.os, h.output, h.tape, h.size, h.frame, h.low, fun e he => h.evs e (hs e he)⟩

/-- What is asked of a call: wherever it stands, it comes back as 'R' says. -/
def CallM (P : Program) (f : FuncId) (args : Array Value) (m : Mem) (R : Ending → Mem → Prop) : Prop :=
  ∀ (main : Bool) (c : Frame) (cs : List Frame),
    (∀ v m', R (.returned v) m' → RunM P main (G (c.finish v) cs) m') →
    (∀ ch m', R (.panicked ch) m' → RunM P main (G (c.raise ch) cs) m') →
    RunM P main (G (Frame.enter P f args .normal) (c :: cs)) m

theorem CallM.mono {P : Program} {f : FuncId} {args : Array Value} {m : Mem} {R R' : Ending → Mem → Prop} (h : CallM P f args m R) (hr : ∀ e m', R e m' → R' e m') : CallM P f args m R' :=
  fun main c cs h1 h2 => h main c cs (fun v m' r => h1 v m' (hr _ _ r)) (fun ch m' r => h2 ch m' (hr _ _ r))
theorem CallM.le {P : Program} {f : FuncId} {args : Array Value} {m m' : Mem} {R : Ending → Mem → Prop} (h : CallM P f args m R) (hl : m.le m') : CallM P f args m' R :=
  fun main c cs h1 h2 => (h main c cs h1 h2).le hl

/-- What is asked once an operation has yielded this. -/
def uponS (P : Program) (dst : Option Tmp) (a : Act) (K : Act → Mem → Prop) (Qp : List PanicEntry → Act → Mem → Prop) : Next → Mem → Prop
  | .value v, m => K (a.put dst v) m
  | .skip, m => K (a.put dst undef) m
  | .defer d, m => K ({ a with defers := d :: a.defers }.put dst undef) m
  | .enter f args, m => CallM P f args m fun e m' => match e with
      | .returned v => K (a.put dst v) m'
      | .panicked ch => Qp ch a m'
      | .outgrown => False
  | _, _ => False
/-- What an operation asks. -/
def _root_.Go.Oper.wps (P : Program) (o : Oper) (a : Act) (K : Act → Mem → Prop) (Qp : List PanicEntry → Act → Mem → Prop) (m : Mem) : Prop :=
  (execOp a.eval o).wpm P (fun v m' => Qp [{ v, recovered := false }] a m') (uponS P o.dst a K Qp) m
/-- What operations ask, in this order. -/
def OpsS (P : Program) (ops : Array Oper) (Q : Exit → Act → Mem → Prop) : List Nat → Act → Mem → Prop
  | [], a, m => Q .normal a m
  | i :: rest, a, m => match ops[i]? with
    | none => OpsS P ops Q rest a m
    | some o => if Region.wanted o (yielded ops a.tmps) = true then o.wps P a (OpsS P ops Q rest) (fun ch => Q (.panic ch)) m else OpsS P ops Q rest (a.put o.dst undef) m

def thenS (K : Act → Mem → Prop) (Q : Exit → Act → Mem → Prop) : Exit → Act → Mem → Prop
  | .normal, a, m => K a m
  | e, a, m => Q e a m
def blockS (id : Nat) (Q : Exit → Act → Mem → Prop) : Exit → Act → Mem → Prop
  | .exit id', a, m => if id' = id then Q .normal a m else Q (.exit id') a m
  | e, a, m => Q e a m

/-- What a piece of code asks of a part of the heap, so that it is left as 'Q' says. -/
def _root_.Go.Code.wps (P : Program) : Code → (Exit → Act → Mem → Prop) → Act → Mem → Prop
  | .skip, Q, a, m => Q .normal a m
  | .label _, Q, a, m => Q .normal a m
  | .region _ ops draw, Q, a, m => if draw = true then ∀ t, OpsS P ops Q (Region.schedule (P.follows .mixedOrders) ops t) a m else OpsS P ops Q (List.range ops.size) a m
  | .seq x y, Q, a, m => x.wps P (thenS (y.wps P Q) Q) a m
  | .cond c x y, Q, a, m => (match a.eval c with | .bool t => (t = true → x.wps P Q a m) ∧ (t = false → y.wps P Q a m) | _ => False)
  | .block id body, Q, a, m => body.wps P (blockS id Q) a m
  | .loop body, Q, a, m => ∃ (I : Nat → Act → Mem → Prop) (n : Nat), I n a m ∧ ∀ n a m, I n a m → body.wps P (thenS (fun a' m' => ∃ n', n' < n ∧ I n' a' m') Q) a m
  | .exit id, Q, a, m => Q (.exit id) a m
  | .ret, Q, a, m => Q .ret a m
  | _, _, _, _ => False

section
variable {P : Program}
theorem uponS_mono {dst : Option Tmp} {a : Act} {K K' : Act → Mem → Prop} {Qp Qp' : List PanicEntry → Act → Mem → Prop} (hK : ∀ a m, K a m → K' a m) (hQ : ∀ c a m, Qp c a m → Qp' c a m) :
    ∀ n m, uponS P dst a K Qp n m → uponS P dst a K' Qp' n m := by
  intro n m h
  cases n with
  | enter f args => simp only [uponS] at h ⊢; exact CallM.mono h fun e m' r => by cases e <;> first | exact hK _ _ r | exact hQ _ _ _ r | exact r
  | value v => exact hK _ _ h
  | skip => exact hK _ _ h
  | defer d => exact hK _ _ h
  | _ => exact h.elim
theorem wpsOp_mono {o : Oper} {a : Act} {m : Mem} {K K' : Act → Mem → Prop} {Qp Qp' : List PanicEntry → Act → Mem → Prop} (hK : ∀ a m, K a m → K' a m) (hQ : ∀ c a m, Qp c a m → Qp' c a m)
    (h : o.wps P a K Qp m) : o.wps P a K' Qp' m := wpm_mono (fun _ _ q => hQ _ _ _ q) _ (uponS_mono hK hQ) h
theorem OpsS_mono {ops : Array Oper} {Q Q' : Exit → Act → Mem → Prop} (hQ : ∀ e a m, Q e a m → Q' e a m) : ∀ (l : List Nat) (a : Act) (m : Mem), OpsS P ops Q l a m → OpsS P ops Q' l a m := by
  intro l
  induction l with
  | nil => exact fun a m h => hQ _ _ _ h
  | cons i rest ih =>
    intro a m h
    simp only [OpsS] at h ⊢
    cases ho : ops[i]? with
    | none => rw [ho] at h; exact ih _ _ h
    | some o =>
      rw [ho] at h
      dsimp only at h ⊢
      split
      · rename_i hw; rw [if_pos hw] at h; exact wpsOp_mono ih (fun c => hQ (.panic c)) h
      · rename_i hw; rw [if_neg hw] at h; exact ih _ _ h
theorem thenS_mono {K K' : Act → Mem → Prop} {Q Q' : Exit → Act → Mem → Prop} (hK : ∀ a m, K a m → K' a m) (hQ : ∀ e a m, Q e a m → Q' e a m) : ∀ e a m, thenS K Q e a m → thenS K' Q' e a m := by
  intro e a m h
  cases e <;> first | exact hK _ _ h | exact hQ _ _ _ h
theorem blockS_mono {id : Nat} {Q Q' : Exit → Act → Mem → Prop} (hQ : ∀ e a m, Q e a m → Q' e a m) : ∀ e a m, blockS id Q e a m → blockS id Q' e a m := by
  intro e a m h
  cases e <;> first | exact hQ _ _ _ h | skip
  simp only [blockS] at h ⊢
  split
  · rename_i x; rw [if_pos x] at h; exact hQ _ _ _ h
  · rename_i x; rw [if_neg x] at h; exact hQ _ _ _ h
theorem wps_mono (c : Code) : ∀ {Q Q' : Exit → Act → Mem → Prop}, (∀ e a m, Q e a m → Q' e a m) → ∀ {a : Act} {m : Mem}, c.wps P Q a m → c.wps P Q' a m := by
  induction c with
  | skip => exact fun hQ _ _ h => hQ _ _ _ h
  | label l => exact fun hQ _ _ h => hQ _ _ _ h
  | region id ops draw =>
    intro Q Q' hQ a m h
    simp only [Code.wps] at h ⊢
    split
    · rename_i hd; rw [if_pos hd] at h; exact fun t => OpsS_mono hQ _ _ _ (h t)
    · rename_i hd; rw [if_neg hd] at h; exact OpsS_mono hQ _ _ _ h
  | seq x y ihx ihy => exact fun hQ _ _ h => ihx (thenS_mono (fun _ _ => ihy hQ) hQ) h
  | cond c x y ihx ihy =>
    intro Q Q' hQ a m h
    simp only [Code.wps] at h ⊢
    split <;> rename_i he <;> simp only [he] at h
    exact ⟨fun t => ihx hQ (h.1 t), fun t => ihy hQ (h.2 t)⟩
  | block id body ih => exact fun hQ _ _ h => ih (blockS_mono hQ) h
  | loop body ih => exact fun hQ _ _ ⟨I, n, h0, hr⟩ => ⟨I, n, h0, fun n a m hI => ih (thenS_mono (fun _ _ h => h) hQ) (hr n a m hI)⟩
  | exit id => exact fun hQ _ _ h => hQ _ _ _ h
  | ret => exact fun hQ _ _ h => hQ _ _ _ h
  | _ => exact fun _ _ _ h => h.elim
end

/-- What is asked of the machine where a piece of code has been left. -/
def AfterS (P : Program) (main : Bool) (b : Frame) (k : List Item) (cs : List Frame) : Exit → Act → Mem → Prop
  | .normal, a, m => RunM P main (G (b.at a k) cs) m
  | .exit id, a, m => ∃ k', exitTo id k = some k' ∧ RunM P main (G (b.at a k') cs) m
  | .ret, a, m => ∀ todo, RunM P main (G { b.at a todo with mode := .returning } cs) m
  | .panic ch, a, m => ∀ todo, RunM P main (G { b.at a todo with mode := .panicking ch } cs) m
  | _, _, _ => True

section
variable {P : Program} {main : Bool} {b : Frame} {cs : List Frame}

theorem stepG_defer {ops : Array Oper} {i : Nat} {rest : List Nat} {k : List Item} {a : Act} {o : Oper} {d : Deferred} {w w' : World} (ho : ops[i]? = some o) (hw : Region.wanted o (yielded ops a.tmps) = true)
    (hk : b.kind ≠ .early) (hr : (execOp a.eval o).run P w = .ok (.defer d) w') :
    stepG P main (G (b.at a (.inRegion ops (i :: rest) :: k)) cs) w = .go (G (b.at ({ a with defers := d :: a.defers }.put o.dst undef) (.inRegion ops rest :: k)) cs) w' (listed P b.fn a o w) := by
  have hfin : ({ b.at a (.inRegion ops (i :: rest) :: k) with defers := d :: a.defers } : Frame).finish undef = b.at ({ a with defers := d :: a.defers }.put o.dst undef) (.inRegion ops rest :: k) := by
    have := Frame.finish_at b { a with defers := d :: a.defers } ops i rest k undef
    rw [ho] at this; exact this
  have hk' : (b.kind == CallKind.early) = false := by simpa using hk
  rw [stepG_oper ho hw, ← hfin]
  simp [stepG.apply, hr, G, Frame.at, hk', GStep.after, listed]
theorem stepG_enter {ops : Array Oper} {i : Nat} {rest : List Nat} {k : List Item} {a : Act} {o : Oper} {f : FuncId} {args : Array Value} {w w' : World} (ho : ops[i]? = some o) (hw : Region.wanted o (yielded ops a.tmps) = true)
    (hk : b.kind ≠ .early) (hr : (execOp a.eval o).run P w = .ok (.enter f args) w') :
    stepG P main (G (b.at a (.inRegion ops (i :: rest) :: k)) cs) w = .go (G (Frame.enter P f args .normal) (b.at a (.inRegion ops (i :: rest) :: k) :: cs)) w' (listed P b.fn a o w) := by
  have hk' : (b.kind == CallKind.early) = false := by simpa using hk
  rw [stepG_oper ho hw]
  simp [stepG.apply, hr, G, Frame.at, hk', GStep.after, listed]
theorem stepG_panic {ops : Array Oper} {i : Nat} {rest : List Nat} {k : List Item} {a : Act} {o : Oper} {v : Value} {w w' : World} (ho : ops[i]? = some o) (hw : Region.wanted o (yielded ops a.tmps) = true)
    (hk : b.kind ≠ .early) (hr : (execOp a.eval o).run P w = .halt (.panic v) w') :
    stepG P main (G (b.at a (.inRegion ops (i :: rest) :: k)) cs) w = .go (G { b.at a (.inRegion ops (i :: rest) :: k) with mode := .panicking [{ v, recovered := false }] } cs) w' (listed P b.fn a o w) := by
  have hk' : (b.kind == CallKind.early) = false := by simpa using hk
  rw [stepG_oper ho hw]
  simp [stepG.apply, hr, G, Frame.at, hk', GStep.after, listed, Frame.raise]

/-- The step of an operation that is carried out, over a part of the heap. -/
theorem runM_oper {ops : Array Oper} {i : Nat} {rest : List Nat} {k : List Item} {o : Oper} {a : Act} {m : Mem} (hk : b.kind ≠ .early) (ho : ops[i]? = some o) (hw : Region.wanted o (yielded ops a.tmps) = true)
    {K : Act → Mem → Prop} {Qp : List PanicEntry → Act → Mem → Prop} (h : o.wps P a K Qp m)
    (hK : ∀ a' m', K a' m' → RunM P main (G (b.at a' (.inRegion ops rest :: k)) cs) m')
    (hQ : ∀ c a' m', Qp c a' m' → ∀ todo, RunM P main (G { b.at a' todo with mode := .panicking c } cs) m') :
    RunM P main (G (b.at a (.inRegion ops (i :: rest) :: k)) cs) m := by
  intro X s w hm hown hs
  refine .step' fun d => ?_
  have hrun := wpm_run (X := X) (s := s) _ _ m h (w.at d) hm hown hs
  have hev : ((execOp a.eval o).runT P (w.at d) #[]).2 = (execOp a.eval o).events P (w.at d) #[] := rfl
  rw [hev] at hrun
  have hsub : ∀ e ∈ listed P b.fn a o (w.at d), e ∈ (execOp a.eval o).events P (w.at d) #[] := seen_sub P b.fn _
  cases hr : (execOp a.eval o).run P (w.at d) with
  | ok nx w' =>
    rw [hr] at hrun
    obtain ⟨m', q, ho', hw', hst, g⟩ := hrun
    have g' := g.fewer hsub
    cases nx with
    | value v => exact ⟨_, _, w', _, stepG_value ho hw hk hr, g', (hK _ _ q).use hst ho' hw' (Nat.le_trans hs g.size)⟩
    | skip => exact ⟨_, _, w', _, stepG_none ho hw hk hr, g', (hK _ _ q).use hst ho' hw' (Nat.le_trans hs g.size)⟩
    | defer dd => exact ⟨_, _, w', _, stepG_defer ho hw hk hr, g', (hK _ _ q).use hst ho' hw' (Nat.le_trans hs g.size)⟩
    | enter f args =>
      refine ⟨_, _, w', _, stepG_enter ho hw hk hr, g', ?_⟩
      simp only [uponS] at q
      refine RunM.use (q main _ cs (fun v m'' r => ?_) (fun ch m'' r => ?_)) hst ho' hw' (Nat.le_trans hs g.size)
      · rw [Frame.finish_at, ho]; exact hK _ _ r
      · exact hQ _ _ _ r _
    | _ => exact q.elim
  | halt x w' =>
    rw [hr] at hrun
    cases x with
    | panic v =>
      obtain ⟨m', q, ho', hw', hst, g⟩ := hrun
      exact ⟨_, _, w', _, stepG_panic ho hw hk hr, g.fewer hsub, (hQ _ _ _ q _).use hst ho' hw' (Nat.le_trans hs g.size)⟩
    | _ => exact hrun.elim

theorem stepG_op_skip {ops : Array Oper} {i : Nat} {rest : List Nat} {k : List Item} {a : Act} {w : World} (h : ((ops[i]?).map (Region.wanted · (yielded ops a.tmps))).getD false = false) :
    stepG P main (G (b.at a (.inRegion ops (i :: rest) :: k)) cs) w = .go (G (b.at (a.put ((ops[i]?).bind (·.dst)) undef) (.inRegion ops rest :: k)) cs) w #[] := by
  rw [← Frame.finish_at]
  have h' := h
  simp only [Frame.at] at *
  simp [stepG, stepG.exec, h', G]

theorem runM_ops {ops : Array Oper} {k : List Item} {Q : Exit → Act → Mem → Prop} (hk : b.kind ≠ .early) (hQ : ∀ e a m, Q e a m → AfterS P main b k cs e a m) :
    ∀ (l : List Nat) (a : Act) (m : Mem), OpsS P ops Q l a m → RunM P main (G (b.at a (.inRegion ops l :: k)) cs) m := by
  intro l
  induction l with
  | nil => exact fun a m h => RunM.ctl (fun w => stepG_region_end) (hQ _ _ _ h)
  | cons i rest ih =>
    intro a m h
    simp only [OpsS] at h
    cases ho : ops[i]? with
    | none =>
      rw [ho] at h
      refine RunM.ctl (fun w => stepG_op_skip (by simp [ho])) ?_
      simp only [ho, Option.bind_none, Act.put]
      exact ih _ _ h
    | some o =>
      rw [ho] at h
      dsimp only at h
      by_cases hw : Region.wanted o (yielded ops a.tmps) = true
      · rw [if_pos hw] at h
        exact runM_oper hk ho hw h ih (fun c a' m' q => hQ _ _ _ q)
      · rw [if_neg hw] at h
        refine RunM.ctl (fun w => stepG_op_skip (by simp [ho]; simpa using hw)) ?_
        simp only [ho, Option.bind_some]
        exact ih _ _ h

theorem AfterS.push {x : Item} {k : List Item} {e : Exit} {a : Act} {m : Mem} (hx : x.plain = true) (he : e ≠ .normal) (h : AfterS P main b k cs e a m) : AfterS P main b (x :: k) cs e a m := by
  cases e with
  | normal => exact absurd rfl he
  | exit id => obtain ⟨k', hk, h⟩ := h; exact ⟨k', by cases x <;> simp_all [exitTo, Item.plain], h⟩
  | ret => exact h
  | panic ch => exact h
  | goto l => trivial
  | outgrown => trivial

/-- THE MACHINE KEEPS TO WHAT THE CODE ASKS. -/
theorem runM_code (c : Code) : ∀ (Q : Exit → Act → Mem → Prop) (a : Act) (m : Mem), c.wps P Q a m → ∀ (b : Frame) (k : List Item) (cs : List Frame), b.kind ≠ .early →
    (∀ e a m, Q e a m → AfterS P main b k cs e a m) → RunM P main (G (b.at a (.code c :: k)) cs) m := by
  induction c with
  | skip => exact fun Q a m h b k cs hk hQ => RunM.ctl (fun w => stepG_skip) (hQ _ _ _ h)
  | label l => exact fun Q a m h b k cs hk hQ => RunM.ctl (fun w => stepG_label) (hQ _ _ _ h)
  | region id ops draw =>
    intro Q a m h b k cs hk hQ
    simp only [Code.wps] at h
    cases draw with
    | false => exact RunM.ctl (fun w => stepG_region) (runM_ops hk hQ _ _ _ h)
    | true =>
      intro X s w hm ho hs
      refine .step' fun d => ⟨b.at a (.inRegion ops (Region.schedule (P.follows .mixedOrders) ops (w.tape d (.order b.fn id))) :: k), cs, { w.at d with drawn := d + 1 }, #[], ?_, ?_, ?_⟩
      · simp [G, stepG, stepG.exec, Frame.at, choose, Sem.run, Question.forced, Question.cut, World.at]
      · exact ⟨rfl, rfl, rfl, Nat.le_refl _, fun _ _ _ => rfl, fun _ _ _ _ _ c _ _ h => ⟨c, h, rfl, fun _ _ => rfl⟩, fun _ z => by simp at z⟩
      · exact runM_ops hk hQ _ _ _ (h _) X s _ hm ho hs
  | seq x y ihx ihy =>
    intro Q a m h b k cs hk hQ
    refine RunM.ctl (fun w => stepG_seq) (ihx _ _ _ h b (.code y :: k) cs hk fun e a' m' q => ?_)
    cases e with
    | normal => exact ihy _ _ _ q b k cs hk hQ
    | _ => exact AfterS.push rfl (by simp) (hQ _ _ _ q)
  | cond c x y ihx ihy =>
    intro Q a m h b k cs hk hQ
    simp only [Code.wps] at h
    generalize hv : a.eval c = v at h
    cases v with
    | bool t =>
      refine RunM.ctl (fun w => stepG_cond hv) ?_
      cases t with
      | true => exact ihx _ _ _ (h.1 rfl) b k cs hk hQ
      | false => exact ihy _ _ _ (h.2 rfl) b k cs hk hQ
    | _ => exact h.elim
  | block id body ih =>
    intro Q a m h b k cs hk hQ
    refine RunM.ctl (fun w => stepG_block) (ih _ _ _ h b (.inBlock id :: k) cs hk fun e a' m' q => ?_)
    cases e with
    | normal => exact RunM.ctl (fun w => stepG_inBlock) (hQ _ _ _ q)
    | exit id' =>
      simp only [blockS] at q
      by_cases hid : id' = id
      · rw [if_pos hid] at q
        exact ⟨k, by simp [exitTo, hid], hQ _ _ _ q⟩
      · rw [if_neg hid] at q
        have hb : (id == id') = false := by simp; exact fun z => hid z.symm
        obtain ⟨k', hk', h'⟩ := hQ _ _ _ q
        exact ⟨k', by simpa [exitTo, hb] using hk', h'⟩
    | ret => exact hQ _ _ _ q
    | panic ch => exact hQ _ _ _ q
    | goto l => trivial
    | outgrown => trivial
  | loop body ih =>
    intro Q a m h b k cs hk hQ
    obtain ⟨I, n, h0, hr⟩ := h
    have key : ∀ n a m, I n a m → RunM P main (G (b.at a (.code body :: .inLoop body :: k)) cs) m := by
      intro n
      induction n using Nat.strongRecOn with
      | _ n ihn =>
        intro a m hI
        refine ih _ _ _ (hr n a m hI) b (.inLoop body :: k) cs hk fun e a' m' q => ?_
        cases e with
        | normal => obtain ⟨n', hn', hI'⟩ := q; exact RunM.ctl (fun w => stepG_inLoop) (ihn n' hn' a' m' hI')
        | _ => exact AfterS.push rfl (by simp) (hQ _ _ _ q)
    exact RunM.ctl (fun w => stepG_loop) (key n a m h0)
  | exit id =>
    intro Q a m h b k cs hk hQ
    obtain ⟨k', he, q⟩ := hQ _ _ _ h
    exact RunM.ctl (fun w => stepG_exit he) q
  | ret =>
    intro Q a m h b k cs hk hQ
    exact RunM.ctl (fun w => by simp [G, stepG, stepG.exec, Frame.at]; rfl) (hQ _ _ _ h _)
  | _ => exact fun Q a m h => h.elim
end
end Go.Sp
