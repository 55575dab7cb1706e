/-
  What is proved: the calculus of sub-heaps for calls, for regions that draw their order, and its two ends: the machine of one goroutine ('Calls'), and any company ('Run'). Conditions: none beyond those that each theorem names.
-/
import Derived.Test.YtpgooljdodijlaaCB
import Derived.OrdersHeld
import Derived.Laws.Sem
import Derived.Below
namespace Go.Sp
open Go.Conc

/-! ### Bodies and calls -/
def bodyS (P : Program) (fn : Func) (R : Ending → Mem → Prop) : Exit → Act → Mem → Prop
  | .normal, a, m => a.defers = [] ∧ (results fn a.tmps).wpm P (fun _ _ => False) (fun v m' => ∃ m'', m''.le m' ∧ R (.returned v) m'') m
  | .ret, a, m => a.defers = [] ∧ (results fn a.tmps).wpm P (fun _ _ => False) (fun v m' => ∃ m'', m''.le m' ∧ R (.returned v) m'') m
  | .panic ch, a, m => a.defers = [] ∧ ∃ m'', m''.le m ∧ R (.panicked ch) m''
  | _, _, _ => False

section
variable {P : Program} {main : Bool}
theorem runM_return {fr c : Frame} {cs : List Frame} {fn : Func} {m : Mem} {R : Value → Mem → Prop} (hm : fr.mode = .returning) (hd : fr.defers = []) (hk : fr.kind = .normal ∨ fr.kind = .wrapped) (hf : P.funcs[fr.fn]? = some fn)
    (hr : (results fn fr.tmps).wpm P (fun _ _ => False) R m) (h : ∀ v m', R v m' → RunM P main (G (c.finish v) cs) m') : RunM P main (G fr (c :: cs)) m := by
  intro X s w hmw ho hs
  refine .step' fun d => ?_
  have hrun := wpm_run (X := X) (s := s) _ _ m hr (w.at d) hmw ho hs
  have hev : ((results fn fr.tmps).runT P (w.at d) #[]).2 = (results fn fr.tmps).events P (w.at d) #[] := rfl
  rw [hev] at hrun
  cases hrr : (results fn fr.tmps).run P (w.at d) with
  | ok v w' =>
    rw [hrr] at hrun
    obtain ⟨m', q, ho', hw', hst, g⟩ := hrun
    refine ⟨c.finish v, cs, w', seen P fr.fn ((results fn fr.tmps).events P (w.at d) #[]), ?_, g.fewer (seen_sub P fr.fn _), (h v m' q).use hst ho' hw' (Nat.le_trans hs g.size)⟩
    rcases hk with hk | hk <;> simp [G, stepG, unwind, doReturn, hm, hd, hk, hf, hrr, GStep.after]
  | halt x w' => rw [hrr] at hrun; cases x <;> first | exact hrun.elim | (obtain ⟨_, z, _⟩ := hrun; exact z.elim)
theorem runM_raise {fr c : Frame} {cs : List Frame} {fn : Func} {m : Mem} {ch : List PanicEntry} (hm : fr.mode = .panicking ch) (hd : fr.defers = []) (hf : P.funcs[fr.fn]? = some fn)
    (h : RunM P main (G (c.raise ch) cs) m) : RunM P main (G fr (c :: cs)) m :=
  RunM.ctl (fun w => by simp [G, stepG, unwind, Frame.catches, hm, hd, hf]) h
end

theorem callM_of_wps {P : Program} {f : FuncId} {fn : Func} {c : Code} {args : Array Value} {m : Mem} {R : Ending → Mem → Prop} (hf : P.funcs[f]? = some fn) (hb : fn.body = some c)
    (h : c.wps P (bodyS P fn R) { tmps := args ++ Array.replicate (fn.ntmps - args.size) undef, defers := [] } m) : CallM P f args m R := by
  intro main c' cs h1 h2
  let b : Frame := { (default : Frame) with fn := f, kind := .normal }
  have henter : Frame.enter P f args .normal = b.at { tmps := args ++ Array.replicate (fn.ntmps - args.size) undef, defers := [] } [.code c] := by
    simp [Frame.enter, Frame.at, hf, hb, b]
  rw [henter]
  refine runM_code c _ _ _ h b [] (c' :: cs) (by simp [b]) fun e a m q => ?_
  cases e with
  | normal =>
    obtain ⟨hd, hr⟩ := q
    refine RunM.ctl (fun w => stepG_end) (runM_return rfl hd (.inl rfl) hf hr fun v m' ⟨m'', hl, r⟩ => (h1 v m'' r).le hl)
  | ret =>
    obtain ⟨hd, hr⟩ := q
    exact fun todo => runM_return rfl hd (.inl rfl) hf hr fun v m' ⟨m'', hl, r⟩ => (h1 v m'' r).le hl
  | panic ch =>
    obtain ⟨hd, m'', hl, r⟩ := q
    exact fun todo => runM_raise rfl hd hf ((h2 ch m'' r).le hl)
  | exit id => exact q.elim
  | goto l => exact q.elim
  | outgrown => exact q.elim

/-! ### Terms that only look -/
def quiet {α : Type} : Sem α → Prop
  | .pure _ => True
  | .load _ _ k => ∀ v, quiet (k v)
  | .shape _ k => ∀ v, quiet (k v)
  | .frozen _ k => ∀ v, quiet (k v)
  | .getObj _ k => ∀ v, quiet (k v)
  | .program k => ∀ v, quiet (k v)
  | .mark _ k => quiet k
  | .halt _ => True
  | _ => False
theorem quiet_run {α : Type} {P : Program} {e : Sem α} : ∀ {w w' : World} {a : α}, quiet e → e.run P w = .ok a w' → w' = w := by
  induction e with
  | pure a => intro w w' b _ h; simp only [Sem.run, Result.ok.injEq] at h; exact h.2.symm
  | load md a k ih =>
    intro w w' b q h
    simp only [Sem.run] at h
    split at h
    · exact ih _ (q _) h
    · split at h
      · exact ih _ (q _) h
      · cases h
  | shape r k ih => intro w w' b q h; exact ih _ (q _) h
  | frozen a k ih => intro w w' b q h; exact ih _ (q _) h
  | getObj r k ih =>
    intro w w' b q h
    simp only [Sem.run] at h
    split at h
    · cases h
    · exact ih _ (q _) h
    · cases h
  | program k ih => intro w w' b q h; exact ih _ (q _) h
  | mark m k ih => intro w w' b q h; exact ih q h
  | halt x => intro w w' b _ h; simp [Sem.run] at h
  | _ => intro w w' b q; exact q.elim
theorem quiet_bind {α β : Type} {e : Sem α} {f : α → Sem β} (h : quiet e) (hf : ∀ a, quiet (f a)) : quiet (e.bind f) := by
  induction e with
  | pure a => exact hf a
  | load md a k ih => exact fun v => ih v (h v)
  | shape r k ih => exact fun v => ih v (h v)
  | frozen r k ih => exact fun v => ih v (h v)
  | getObj r k ih => exact fun v => ih v (h v)
  | program k ih => exact fun v => ih v (h v)
  | mark m k ih => exact ih h
  | halt x => trivial
  | _ => exact h.elim
theorem quiet_loadCells (a : Addr) (n : Nat) : ∀ i acc, quiet (loadCellsFrom a i n acc) := by
  induction n with
  | zero => exact fun _ _ => trivial
  | succ n ih => exact fun i acc => quiet_bind (fun _ => trivial) fun v => ih _ _
theorem quiet_underlying (t : TypeId) : quiet (underlying t) := quiet_bind (e := program) (fun _ => trivial) fun p => by split <;> trivial
theorem quiet_typeInfo (t : TypeId) : quiet (typeInfo t) := quiet_bind (e := program) (fun _ => trivial) fun p => by split <;> trivial
theorem quiet_loadVar (t : TypeId) (a : Addr) : quiet (loadVar t a) := by
  refine quiet_bind (e := isAgg t) (quiet_bind (quiet_underlying t) fun d => by split <;> trivial) fun b => ?_
  split
  · exact quiet_bind (e := sizeOf t) (quiet_bind (quiet_typeInfo t) fun _ => trivial) fun n => quiet_bind (quiet_loadCells a n 0 #[]) fun _ => trivial
  · exact fun _ => trivial
theorem quiet_mapM {α β : Type} (f : α → Sem β) (h : ∀ a, quiet (f a)) (l : List α) : quiet (l.mapM f) := by
  induction l with
  | nil => simp; exact trivial
  | cons x l ih => rw [List.mapM_cons]; exact quiet_bind (h x) fun b => quiet_bind ih fun bs => trivial
theorem quiet_asAddr (v : Value) : quiet (asAddr v) := by
  cases v <;> first | trivial | skip
  rename_i a
  cases a with
  | some a => trivial
  | none => exact fun p => trivial
theorem bind_assoc' {α β γ : Type} (x : Sem α) (f : α → Sem β) (g : β → Sem γ) : (x.bind f).bind g = x.bind fun a => (f a).bind g :=
  LawfulMonad.bind_assoc (m := Sem) x f g
theorem quiet_results (fn : Func) (tmps : Array Value) : quiet (results fn tmps) := by
  unfold results
  refine quiet_bind ?_ fun vs => trivial
  rw [Array.mapM_eq_mapM_toList]
  refine quiet_bind (quiet_mapM _ (fun r => ?_) _) fun _ => trivial
  cases r with
  | tmp t => trivial
  | cell a t => exact quiet_bind (quiet_asAddr _) fun a => quiet_loadVar t a

/-! ### The machine of one goroutine -/
theorem Run.lone {P : Program} {X : Nat → Option Nat} {s : Nat} {Stop : Goroutine → World → Prop} {g : Goroutine} {w : World} (h : Run P true (Gd X s) Stop g w) :
    ∀ fr cs, g = G fr cs → ∃ fr' cs' w' es, Stop (G fr' cs') w' ∧ Steps P (lone fr cs w) (lone fr' cs' w') ∧ Gd X s w w' es := by
  induction h with
  | @stop g w h =>
    intro fr cs hg
    subst hg
    exact ⟨fr, cs, w, #[], h w.drawn, .refl _ _, Gd.refl _ _ _⟩
  | @step fr₀ cs₀ w nf nc nw ne h k ih =>
    intro fr cs hg
    obtain ⟨rfl, rfl⟩ : fr₀ = fr ∧ cs₀ = cs := by
      simp only [G, Goroutine.mk.injEq] at hg; exact ⟨hg.1, hg.2.1⟩
    obtain ⟨hst, hd⟩ := h w.drawn
    have hw : w.at w.drawn = w := rfl
    rw [hw] at hst hd
    obtain ⟨fr', cs', w', es, h1, h2, h3⟩ := ih w.drawn _ _ rfl
    refine ⟨fr', cs', w', (ne w.drawn) ++ es, h1, .head (step_lone_go ?_) h2, hd.trans h3⟩
    have : stepG P true { frame := fr₀, callers := cs₀, status := .running, dying := none } w = stepG P true (G fr₀ cs₀) w := rfl
    rw [this, hst]
    rfl

/-- What is told of a block that may be written is what the heap has. -/
theorem Mem.on_eq {m : Mem} {h : Array Obj} (hm : m.on h) {b : Nat} {o : Obj} (e : m b = some o) (hr : ∀ c e k, o ≠ .cells c e (0, k + 1)) : h[b]? = some o := by
  obtain ⟨o', h1, h2⟩ := hm b o e
  rcases h2 with rfl | ⟨c, el, k, c', f2, h3, _, h5, _⟩
  · exact h1
  · obtain ⟨k, rfl⟩ : ∃ j, k = j + 1 := ⟨k - 1, by have := h5.1; omega⟩
    exact absurd h3 (hr c el k)
/-- All that a heap has. -/
def heapMem (w : World) (st : (Nat → Option Nat) → Nat → Bool → Goroutine → World → Prop) : Mem := ⟨fun b => w.heap[b]?, st⟩
/-- A body's walk gives the contract of the machine of one goroutine. -/
theorem calls_of_wps {P : Program} {f : FuncId} {fn : Func} {c : Code} {args : Array Value} {w : World} {R : ((Nat → Option Nat) → Nat → Bool → Goroutine → World → Prop) → Ending → Mem → Prop} (hf : P.funcs[f]? = some fn) (hb : fn.body = some c) (hR : ∀ st e m', R st e m' → m'.stop = st)
    (h : ∀ st, c.wps P (bodyS P fn (R st)) { tmps := args ++ Array.replicate (fn.ntmps - args.size) undef, defers := [] } (heapMem w st)) :
    Calls P f args w fun e w' => ∃ st m', R st e m' ∧ m'.on w'.heap ∧ w'.os = w.os ∧ w'.tape = w.tape ∧ w'.output = w.output ∧ w.heap.size ≤ w'.heap.size := by
  intro cs
  let b : Frame := { (default : Frame) with fn := f, kind := .normal }
  have henter : Frame.enter P f args .normal = b.at { tmps := args ++ Array.replicate (fn.ntmps - args.size) undef, defers := [] } [.code c] := by
    simp [Frame.enter, Frame.at, hf, hb, b]
  let Stop : (Nat → Option Nat) → Nat → Bool → Goroutine → World → Prop := fun _ _ _ g w' => ∃ st fr e m', g = G fr cs ∧ fr.fn = f ∧ fr.leaving P w' e ∧ R st e m' ∧ m'.on w'.heap ∧ (e ≠ .outgrown)
  have hleave : ∀ (fr : Frame) (m : Mem), fr.mode = .returning → fr.defers = [] → fr.kind = .normal → fr.fn = f →
      (results fn fr.tmps).wpm P (fun _ _ => False) (fun v m' => ∃ m'', m''.le m' ∧ R Stop (.returned v) m'') m → RunM P true (G fr cs) m := by
    intro fr m h1 h2 h3 h4 hr X s w1 hm ho hs
    refine .stop fun d => ?_
    have hrun := wpm_run (X := X) (s := s) _ _ m hr (w1.at d) hm ho hs
    cases hrr : (results fn fr.tmps).run P (w1.at d) with
    | halt x w' => rw [hrr] at hrun; cases x <;> first | exact hrun.elim | (obtain ⟨_, z, _⟩ := hrun; exact z.elim)
    | ok v w' =>
      rw [hrr] at hrun
      obtain ⟨m', ⟨m'', hl, r⟩, ho', hw', hst, g⟩ := hrun
      obtain rfl : w' = w1.at d := quiet_run (quiet_results fn fr.tmps) hrr
      have e1 : m.stop = Stop := by rw [← hst, hl.1]; exact hR _ _ _ r
      rw [e1]
      exact ⟨Stop, fr, .returned v, m'', rfl, h4, ⟨h1, h2, h3, fn, by rw [h4]; exact hf, hrr⟩, r, Mem.on_le hl ho', by simp⟩
  have hrun : RunM P true (G (Frame.enter P f args .normal) cs) (heapMem w Stop) := by
    rw [henter]
    refine runM_code c _ _ _ (h Stop) b [] cs (by simp [b]) fun e a m q => ?_
    cases e with
    | normal => exact RunM.ctl (fun w => stepG_end) (hleave _ _ rfl q.1 rfl rfl q.2)
    | ret => exact fun todo => hleave _ _ rfl q.1 rfl rfl q.2
    | panic ch =>
      obtain ⟨hd, m'', hl, r⟩ := q
      intro todo X s w1 hm ho hs
      have e1 : m.stop = Stop := by rw [hl.1]; exact hR _ _ _ r
      rw [e1]
      exact .stop fun d => ⟨Stop, _, .panicked ch, m'', rfl, rfl, ⟨rfl, hd, fn, hf⟩, r, Mem.on_le hl hm, by simp⟩
    | exit id => exact q.elim
    | goto l => exact q.elim
    | outgrown => exact q.elim
  obtain ⟨fr', cs', w', es, ⟨st, fr, e, m', hg, h1, h2, h3, h4, h5⟩, hst, g⟩ := Run.lone (hrun (fun _ => some 0) w.heap.size w (fun b o e => ⟨o, e, .refl o⟩) (fun b o e => .inr (.inl ⟨0, rfl, Nat.zero_le _⟩)) (Nat.le_refl _)) _ _ rfl
  obtain ⟨rfl, rfl⟩ : fr' = fr ∧ cs' = cs := by
    simp only [G, Goroutine.mk.injEq] at hg; exact ⟨hg.1, hg.2.1⟩
  refine ⟨e, w', fr', ⟨st, m', h3, h4, g.os, g.tape, g.output, g.size⟩, ?_, h1, h2⟩
  cases e with
  | outgrown => exact absurd rfl h5
  | _ => exact hst

/-! ### Regions that draw their order -/
section
variable {P : Program} {ops : Array Oper} {md : Region.Mode}
/-- What operation number i asks. -/
def opS (P : Program) (ops : Array Oper) (Q : Exit → Act → Mem → Prop) (i : Nat) (K : Act → Mem → Prop) (a : Act) (m : Mem) : Prop :=
  match ops[i]? with
  | none => K a m
  | some o => if Region.wanted o (yielded ops a.tmps) = true then o.wps P a K (fun ch => Q (.panic ch)) m else K (a.put o.dst undef) m
theorem OpsS_cons {Q : Exit → Act → Mem → Prop} (i : Nat) (rest : List Nat) (a : Act) (m : Mem) : OpsS P ops Q (i :: rest) a m = opS P ops Q i (OpsS P ops Q rest) a m := by
  cases h : ops[i]? <;> simp [OpsS, opS, h]
theorem opS_mono {Q : Exit → Act → Mem → Prop} {i : Nat} {a : Act} {m : Mem} {K K' : Act → Mem → Prop} (h : ∀ a m, K a m → K' a m) (hh : opS P ops Q i K a m) : opS P ops Q i K' a m := by
  unfold opS at *
  split
  · rename_i ho; rw [ho] at hh; exact h _ _ hh
  · rename_i o ho
    rw [ho] at hh
    dsimp only at hh
    split
    · rename_i hw; rw [if_pos hw] at hh; exact wpsOp_mono h (fun _ _ _ q => q) hh
    · rename_i hw; rw [if_neg hw] at hh; exact h _ _ hh
/-- Whatever order is picked from here on. -/
def AnyS (P : Program) (md : Region.Mode) (ops : Array Oper) (Q : Exit → Act → Mem → Prop) : Nat → Array Bool → Act → Mem → Prop
  | 0, listed, a, m => Region.ready md ops listed = [] ∧ Q .normal a m
  | fuel + 1, listed, a, m =>
    (Region.ready md ops listed = [] → Q .normal a m) ∧
    ∀ i ∈ Region.ready md ops listed, opS P ops Q i (AnyS P md ops Q fuel (listed.setIfInBounds i true)) a m
theorem AnyS_sound {Q : Exit → Act → Mem → Prop} : ∀ (fuel t : Nat) (listed : Array Bool) (a : Act) (m : Mem), AnyS P md ops Q fuel listed a m →
    OpsS P ops Q (Region.linearise.go md ops fuel t listed []) a m := by
  intro fuel
  induction fuel with
  | zero => intro t listed a m h; simpa [Region.linearise.go, OpsS] using h.2
  | succ fuel ih =>
    intro t listed a m h
    obtain ⟨h₀, h₁⟩ := h
    simp only [Region.linearise.go]
    change OpsS P ops Q (match (Region.ready md ops listed)[t % (Region.ready md ops listed).length]? with
      | some i => Region.linearise.go md ops fuel (t / (Region.ready md ops listed).length) (listed.setIfInBounds i true) [i]
      | none => [].reverse) a m
    cases hi : (Region.ready md ops listed)[t % (Region.ready md ops listed).length]? with
    | none =>
      have hnil : Region.ready md ops listed = [] := by
        cases hr : Region.ready md ops listed with
        | nil => rfl
        | cons x xs =>
          rw [hr] at hi
          have hlt : t % (x :: xs).length < (x :: xs).length := Nat.mod_lt _ (by simp)
          simp at hi
          simp at hlt
          omega
      simpa [OpsS] using h₀ hnil
    | some i =>
      simp only []
      rw [linearise_go_acc, List.reverse_singleton, List.singleton_append, OpsS_cons]
      exact opS_mono (fun a m => ih _ _ a m) (h₁ i (List.mem_of_getElem? hi))

/-- In this state, from whatever part of the heap that meets 'S', the operation leaves v in its slot and does nothing else. -/
def MuteS (P : Program) (ops : Array Oper) (S : Mem → Prop) (o : Oper) (v : Value) (a : Act) : Prop :=
  if Region.wanted o (yielded ops a.tmps) = true then
    ∀ m, S m → (execOp a.eval o).wpm P (fun _ _ => False) (fun nx m' => match nx with
      | .value u => u = v ∧ m' = m
      | .enter f args => CallM P f args m' fun e m'' => e = .returned v ∧ m'' = m
      | _ => False) m
  else v = undef
theorem MuteS.of_same {S : Mem → Prop} {o : Oper} {v : Value} {a a' : Act} (hy : MuteS P ops S o v a) (he : execOp a'.eval o = execOp a.eval o)
    (hw : Region.wanted o (yielded ops a'.tmps) = Region.wanted o (yielded ops a.tmps)) : MuteS P ops S o v a' := by
  unfold MuteS at *
  rw [he, hw]
  exact hy
theorem MuteS.opS {S : Mem → Prop} {Q : Exit → Act → Mem → Prop} {i : Nat} {o : Oper} {v : Value} {a : Act} (hi : ops[i]? = some o) (hy : MuteS P ops S o v a)
    {K : Act → Mem → Prop} {m : Mem} (hS : S m) (h : K (a.put o.dst v) m) : opS P ops Q i K a m := by
  unfold MuteS at hy
  unfold Go.Sp.opS
  simp only [hi]
  split
  · rename_i hw
    rw [if_pos hw] at hy
    refine wpm_mono (fun _ _ z => z.elim) _ (fun nx m' q => ?_) (hy m hS)
    cases nx with
    | value u => obtain ⟨rfl, rfl⟩ := q; exact h
    | enter f args => simp only [uponS]; exact CallM.mono q fun e m'' ⟨h1, h2⟩ => by subst h1; subst h2; exact h
    | _ => exact q.elim
  · rename_i hw
    rw [if_neg hw] at hy
    subst hy
    exact h

theorem opS_putIf {S : Mem → Prop} {Q : Exit → Act → Mem → Prop} {j : Nat} {oi oj : Oper} {v : Value} (hj : ops[j]? = some oj) (hap : oi.apart ops oj = true)
    (hsi : ∀ cs b, oi.op ≠ .select cs b) (hsj : ∀ cs b, oj.op ≠ .select cs b)
    (hQ : ∀ c a m, Q (.panic c) (a.put oi.dst v) m → Q (.panic c) a m) {K : Act → Mem → Prop} {a : Act} {m : Mem}
    (hy : MuteS P ops S oi v a) (h : opS P ops Q j K (a.put oi.dst v) m) :
    opS P ops Q j (fun a' m' => MuteS P ops S oi v a' ∧ K (a'.put oi.dst v) m') a m := by
  obtain ⟨h1, h2, h3⟩ := Oper.apart_spec hap
  have keep : ∀ (a : Act), MuteS P ops S oi v a → ∀ u, MuteS P ops S oi v (a.put oj.dst u) := fun a hy u =>
    hy.of_same (execOp_put oi hsi a oj.dst u h3) (wanted_put oi a oj.dst u h3)
  have keepD : ∀ d, MuteS P ops S oi v { a with defers := d :: a.defers } := fun d => hy.of_same rfl rfl
  unfold opS at *
  simp only [hj] at *
  rw [wanted_put oj a oi.dst v h1] at h
  split
  · rename_i hw
    rw [if_pos hw] at h
    unfold Oper.wps at *
    rw [execOp_put oj hsj a oi.dst v h1] at h
    refine wpm_mono (fun _ _ q => hQ _ _ _ q) _ (fun nx m' q => ?_) h
    cases nx with
    | value u => exact ⟨keep a hy u, by rw [← Act.put_comm a v u h2]; exact q⟩
    | skip => exact ⟨keep a hy _, by rw [← Act.put_comm a v undef h2]; exact q⟩
    | defer d =>
      refine ⟨keep _ (keepD d) _, ?_⟩
      rw [← Act.put_comm _ v undef h2, ← Act.put_defers]
      exact q
    | enter f args =>
      simp only [uponS] at q ⊢
      refine CallM.mono q fun e m'' he => ?_
      cases e with
      | returned u => exact ⟨keep a hy u, by rw [← Act.put_comm a v u h2]; exact he⟩
      | panicked c => exact hQ _ _ _ he
      | outgrown => exact he
    | _ => exact q.elim
  · rename_i hw
    rw [if_neg hw] at h
    exact ⟨keep a hy _, by rw [← Act.put_comm a v undef h2]; exact h⟩

/-- Whatever order is picked from here on, and 'S' holds behind every operation that is carried out. -/
def AnyH (P : Program) (md : Region.Mode) (ops : Array Oper) (Q : Exit → Act → Mem → Prop) (S : Mem → Prop) : Nat → Array Bool → Act → Mem → Prop
  | 0, listed, a, m => Region.ready md ops listed = [] ∧ Q .normal a m
  | fuel + 1, listed, a, m =>
    (Region.ready md ops listed = [] → Q .normal a m) ∧
    ∀ i ∈ Region.ready md ops listed, opS P ops Q i (fun a' m' => S m' ∧ AnyH P md ops Q S fuel (listed.setIfInBounds i true) a' m') a m
theorem AnyS_of_held {Q : Exit → Act → Mem → Prop} {S : Mem → Prop} : ∀ (fuel : Nat) (listed : Array Bool) (a : Act) (m : Mem), AnyH P md ops Q S fuel listed a m → AnyS P md ops Q fuel listed a m
  | 0, _, _, _, h => h
  | fuel + 1, _, _, _, h => ⟨h.1, fun i hi => opS_mono (fun a' m' h' => AnyS_of_held fuel _ a' m' h'.2) (h.2 i hi)⟩
theorem AnyH_first {Q : Exit → Act → Mem → Prop} {S : Mem → Prop} {i : Nat} {oi : Oper} {v : Value} (hi : ops[i]? = some oi) (hsel : ∀ (j : Nat) (o : Oper) cs b, ops[j]? = some o → o.op ≠ .select cs b)
    (hQ : ∀ c a m, Q (.panic c) (a.put oi.dst v) m → Q (.panic c) a m) :
    ∀ (fuel : Nat) (listed : Array Bool) (a : Act) (m : Mem),
      (∀ j oj, ops[j]? = some oj → j ≠ i → listed.getD j true = false → (∀ e ∈ oj.after, Region.binds md e = true → e.on ≠ i) → oi.apart ops oj = true) →
      i ∈ Region.ready md ops listed → MuteS P ops S oi v a → S m →
      AnyH P md ops Q S fuel (listed.setIfInBounds i true) (a.put oi.dst v) m → AnyH P md ops Q S (fuel + 1) listed a m := by
  intro fuel
  induction fuel with
  | zero =>
    intro listed a m _ hr hy hS H
    refine ⟨fun h => (by rw [h] at hr; cases hr), fun j hj => ?_⟩
    by_cases hji : j = i
    · subst hji; exact hy.opS hi hS ⟨hS, H⟩
    · have := ready_mono hj hji
      rw [H.1] at this
      cases this
  | succ fuel ih =>
    intro listed a m hfree hr hy hS H
    refine ⟨fun h => (by rw [h] at hr; cases hr), fun j hj => ?_⟩
    by_cases hji : j = i
    · subst hji; exact hy.opS hi hS ⟨hS, H⟩
    · have h1 := H.2 j (ready_mono hj hji)
      obtain ⟨hjun, oj, hoj, hall⟩ := mem_ready.1 hj
      have hnot : ∀ e ∈ oj.after, Region.binds md e = true → e.on ≠ i := fun e he hb heq => by
        have h1 := hall e he hb
        have h0 := (mem_ready.1 hr).1
        rw [heq] at h1
        rcases Nat.lt_or_ge i listed.size with h' | h'
        · simp [h'] at h0 h1; rw [h0] at h1; cases h1
        · simp [Array.getElem?_eq_none h'] at h1
      have h2 := opS_putIf hoj (hfree j oj hoj hji hjun hnot) (fun cs b => hsel i oi cs b hi) (fun cs b => hsel j oj cs b hoj) hQ hy h1
      have hfree' : ∀ k ok, ops[k]? = some ok → k ≠ i → (listed.setIfInBounds j true).getD k true = false →
          (∀ e ∈ ok.after, Region.binds md e = true → e.on ≠ i) → oi.apart ops ok = true := fun k ok hk hki hun hno => by
        refine hfree k ok hk hki ?_ hno
        by_cases hjk : j = k
        · subst hjk; exact hjun
        · rw [getD_set_ne true hjk] at hun; exact hun
      refine opS_mono (fun a' m' h3 => ⟨h3.2.1, ih (listed.setIfInBounds j true) a' m' hfree' (ready_mono hr (Ne.symm hji)) h3.1 h3.2.1 ?_⟩) h2
      rw [Array.setIfInBounds_comm _ _ hji]
      exact h3.2.2

/-- An order to walk in: each number with whether it is taken first ('true'), or is the one that may come up. -/
def DrawS (P : Program) (ops : Array Oper) (Q : Exit → Act → Mem → Prop) (S : Mem → Prop) : List (Nat × Bool) → Act → Mem → Prop
  | [], a, m => Q .normal a m
  | (i, true) :: rest, a, m => match ops[i]? with
    | some o => ∃ v, MuteS P ops S o v a ∧ DrawS P ops Q S rest (a.put o.dst v) m
    | none => False
  | (i, false) :: rest, a, m => opS P ops Q i (fun a' m' => S m' ∧ DrawS P ops Q S rest a' m') a m
/-- The order fits the edges. -/
def drawFits (ops : Array Oper) : List (Nat × Bool) → Array Bool → Bool
  | [], listed => (Region.ready .any ops listed).isEmpty
  | (i, true) :: rest, listed => Region.free .any ops listed i && (Region.ready .any ops listed).contains i && drawFits ops rest (listed.setIfInBounds i true)
  | (i, false) :: rest, listed => Region.ready .any ops listed == [i] && drawFits ops rest (listed.setIfInBounds i true)
theorem AnyH_of_draw {Q : Exit → Act → Mem → Prop} {S : Mem → Prop} (hs : Region.noSelect ops = true) (hQ : ∀ c a d v m, Q (.panic c) (Act.put a d v) m → Q (.panic c) a m) :
    ∀ (l : List (Nat × Bool)) (listed : Array Bool) (a : Act) (m : Mem), drawFits ops l listed = true → S m → DrawS P ops Q S l a m →
      ∀ n, AnyH P .any ops Q S (l.length + n) listed a m := by
  intro l
  induction l with
  | nil =>
    intro listed a m hf _ h n
    have hr : Region.ready .any ops listed = [] := by simpa [drawFits] using hf
    cases n with
    | zero => exact ⟨hr, h⟩
    | succ n => simp only [List.length_nil, Nat.zero_add]; exact ⟨fun _ => h, by rw [hr]; simp⟩
  | cons x rest ih =>
    intro listed a m hf hS h n
    obtain ⟨i, q⟩ := x
    rw [List.length_cons, Nat.add_right_comm]
    cases q with
    | true =>
      simp only [drawFits, Bool.and_eq_true] at hf
      simp only [DrawS] at h
      cases ho : ops[i]? with
      | none => rw [ho] at h; exact h.elim
      | some o =>
        rw [ho] at h
        obtain ⟨v, hy, h⟩ := h
        exact AnyH_first ho (Region.noSelect_spec hs) (fun c a m => hQ c a _ _ m) _ listed a m (Region.free_spec ho hf.1.1) (by simpa using hf.1.2) hy hS (ih _ _ _ hf.2 hS h n)
    | false =>
      simp only [drawFits, Bool.and_eq_true, beq_iff_eq] at hf
      simp only [DrawS] at h
      refine ⟨fun h0 => (by rw [hf.1] at h0; cases h0), fun j hj => ?_⟩
      rw [hf.1] at hj
      obtain rfl : j = i := by simpa using hj
      exact opS_mono (fun a' m' ⟨h1, h2⟩ => ⟨h1, ih _ _ _ hf.2 h1 h2 n⟩) h
/-- A region that draws: along one order that fits, with 'S' held. -/
theorem wps_draw {Q : Exit → Act → Mem → Prop} {id : Nat} {a : Act} {m : Mem} (S : Mem → Prop) (l : List (Nat × Bool)) (hm : P.follows .mixedOrders = true) (hl : (l.length ≤ ops.size && Region.noSelect ops && drawFits ops l (Array.replicate ops.size false)) = true)
    (hS : S m) (hQ : ∀ c a d v m, Q (.panic c) (Act.put a d v) m → Q (.panic c) a m) (h : DrawS P ops Q S l a m) : (Code.region id ops true).wps P Q a m := by
  simp only [Bool.and_eq_true, decide_eq_true_eq] at hl
  simp only [Code.wps, if_true]
  intro t
  simp only [Region.schedule, hm, Bool.true_or, if_true]
  have := AnyH_of_draw (P := P) hl.1.2 hQ l _ a m hl.2 hS h (ops.size - l.length)
  rw [Nat.add_sub_cancel' hl.1.1] at this
  exact AnyS_sound _ t _ a m (AnyS_of_held _ _ _ _ this)
end
end Go.Sp
