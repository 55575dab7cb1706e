/-
  What is proved: small facts for the contracts of the agents' package. Conditions: none beyond those that each theorem names.
-/
import Derived.Test.YtpgooljdodijlaaCU
import Derived.Test.YtpgooljdodijlaaCH
namespace Go.Sp
open Go.Conc Go.RowKit

section
variable {L : Lw} {P : Program} {kd : Kd} {N : Nat} {W : World} {Post : Value → World → Prop} {tab : Nat → Option (Ag × L.St)}
/-- Of another goroutine 'Well' asks nothing. -/
theorem well_other {g : Goroutine} {M : Part} : RunM P false g ⟨M, Well L P kd N W Post tab⟩ := fun _ _ _ _ _ _ => .stop fun _ h => by cases h
theorem wellN_other {g : Goroutine} {M : Part} {b : Nat} {ro : Obj} : RunM P false g ⟨M, WellN L P kd N W Post tab b ro⟩ := fun _ _ _ _ _ _ => .stop fun _ h => by cases h
/-- Of goroutine 0 'Zl' asks nothing. -/
theorem zl_other {ag : Ag} {Ob : Bool → L.St → Part → Prop} {g : Goroutine} {M : Part} : RunM P true g ⟨M, Zl L P kd ag Ob⟩ := fun _ _ _ _ _ _ => .stop fun _ => Zl.fold fun h => by cases h
end
/-- What of a part is carried through a yield: no channels, nothing that is only read, nothing that is shared. -/
noncomputable def keepM (M S : Part) : Part := fun b => open Classical in if S b = none then (match M b with | some o => if o.isChan = false ∧ ¬ RO o then some o else none | none => none) else none
theorem keepM_some {M S : Part} {b : Nat} {o : Obj} (h : keepM M S b = some o) : S b = none ∧ M b = some o ∧ o.isChan = false ∧ ¬ RO o := by
  unfold keepM at h
  split at h
  · rename_i hs
    split at h
    · rename_i x hx
      split at h
      · rename_i hc; obtain rfl := Option.some.inj h; exact ⟨hs, hx, hc.1, hc.2⟩
      · cases h
    · cases h
  · cases h
theorem keepM_of {M S : Part} {b : Nat} {o : Obj} (hs : S b = none) (hm : M b = some o) (hc : o.isChan = false) (hr : ¬ RO o) : keepM M S b = some o := by
  unfold keepM; rw [if_pos hs, hm]; exact if_pos ⟨hc, hr⟩
theorem keep_le {M S : Part} {st : Stp} (hS : ∀ b o, S b = some o → M b = some o) : (Mem.mk ((keepM M S).join S) st).le ⟨M, st⟩ := ⟨rfl, fun b o e => by
  rcases Part.join_cases e with h | ⟨_, h⟩
  · exact (keepM_some h).2.1
  · exact hS b o h⟩
theorem ro_open (c : Array Value) (e : TypeId) : ¬ RO (.cells c e (0, 0)) := fun ⟨c', e', h, hne⟩ => by
  simp only [Obj.cells.injEq, Prod.mk.injEq] at h
  obtain ⟨rfl, _, _, h4⟩ := h
  exact hne h4.symm
theorem ro_less {c : Array Value} {e : TypeId} {k : Nat} (hk : k < c.size) : ¬ RO (.cells c e (0, k)) := fun ⟨c', e', h, _⟩ => by
  simp only [Obj.cells.injEq, Prod.mk.injEq] at h
  obtain ⟨rfl, _, _, h4⟩ := h
  omega
/-- A function is entered. -/
theorem r_enter {P : Program} {main : Bool} {f : FuncId} {fn : Func} {body : Code} {args : List Value} {n : Nat} {kind : CallKind} {cs : List Frame} {m : Mem} (hf : P.funcs[f]? = some fn) (hb : fn.body = some body) (hn : fn.ntmps = n) (hl : Nat.ble args.length n = true)
    (h : AtF P main { (default : Frame) with fn := f, kind := kind } [.code body] cs n (argBase args) [] [] m) : RunM P main (G (Frame.enter P f args.toArray kind) cs) m := by
  have henter : Frame.enter P f args.toArray kind = ({ (default : Frame) with fn := f, kind := kind } : Frame).at { tmps := args.toArray ++ Array.replicate (fn.ntmps - args.toArray.size) undef, defers := [] } [.code body] := by
    simp [Frame.enter, Frame.at, hf, hb]
  rw [henter]
  exact h _ (rep_args hn hl)
section
variable {P : Program} {main : Bool} {b c : Frame} {k : List Item} {cs : List Frame} {n : Nat} {base : Nat → Value} {rs : List (Nat × Value)} {m m' : Mem} {fn : Func} {l : List Value}
theorem res_run {a : Act} (ha : Rep a n base rs []) (hr : resVals P m (look base rs) fn.results.toList = some l) (hl : m'.le m) {R : Value → Prop} (hR : R (oneOf l)) : (results fn a.tmps).wpm P (fun _ _ => False) (fun v m1 => R v ∧ m'.le m1) m := by
  rw [wpm_results (l := l) (by rw [show (fun x => a.tmps.getD x undef) = look base rs from funext ha.slots]; exact hr)]
  exact ⟨hR, hl⟩
/-- It returns to its caller. -/
theorem r_ret (hf : P.funcs[b.fn]? = some fn) (hk : b.kind = .normal ∨ b.kind = .wrapped) (hr : resVals P m (look base rs) fn.results.toList = some l) (hl : m'.le m) (h : RunM P main (G (c.finish (oneOf l)) cs) m') :
    WayE (AfterS P main b k (c :: cs)) .ret n base rs [] m := fun a ha todo =>
  runM_return (R := fun v m1 => v = oneOf l ∧ m'.le m1) rfl ha.defers hk hf (res_run ha hr hl rfl) fun v m1 ⟨h1, h2⟩ => by subst h1; exact h.le h2
theorem r_fin (hf : P.funcs[b.fn]? = some fn) (hk : b.kind = .normal ∨ b.kind = .wrapped) (hr : resVals P m (look base rs) fn.results.toList = some l) (hl : m'.le m) (h : RunM P main (G (c.finish (oneOf l)) cs) m') :
    AtF P main b [] (c :: cs) n base rs [] m := fun a ha =>
  RunM.ctl (fun _ => stepG_end) (runM_return (R := fun v m1 => v = oneOf l ∧ m'.le m1) rfl ha.defers hk hf (res_run ha hr hl rfl) fun v m1 ⟨h1, h2⟩ => by subst h1; exact h.le h2)
/-- It panics, and has deferred nothing. -/
theorem r_raise {ch : List PanicEntry} (hf : P.funcs[b.fn]? = some fn) (hl : m'.le m) (h : RunM P main (G (c.raise ch) cs) m') : WayE (AfterS P main b k (c :: cs)) (.panic ch) n base rs [] m := fun a ha todo =>
  runM_raise rfl ha.defers hf (h.le hl)
end
/-- A call, at a frame. -/
theorem r_c {P : Program} {main : Bool} {b : Frame} {k : List Item} {cs : List Frame} {n : Nat} {base : Nat → Value} {rs : List (Nat × Value)} {ds : List Deferred} {m : Mem} {ops : Array Oper} {i : Nat} {rest : List Nat} {dst : Option Tmp} {op : Op} {ty : TypeId} {pos : String} {after : Array Edge} {f : FuncId} {args : Array Value} {R : Ending → Mem → Prop}
    (ho : ops[i]? = some ⟨dst, op, ty, pos, after, none⟩) (hk : b.kind ≠ .early) (hd : dstOk n ⟨dst, op, ty, pos, after, none⟩ = true) (hy : Enters P ⟨dst, op, ty, pos, after, none⟩ (ev base rs) m f args) (hc : CallM P f args m R)
    (hO : ∀ m', ¬ R .outgrown m') (hK : ∀ v m', R (.returned v) m' → AtF P main b (.inRegion ops rest :: k) cs n base (outE dst v rs) ds m')
    (hQ : ∀ ch m', R (.panicked ch) m' → ∀ a, Rep a n base rs ds → ∀ todo, RunM P main (G { b.at a todo with mode := .panicking ch } cs) m') : AtF P main b (.inRegion ops (i :: rest) :: k) cs n base rs ds m := fun a ha =>
  runM_oper (K := fun a' m'' => ∃ v, R (.returned v) m'' ∧ Rep a' n base (outE dst v rs) ds) (Qp := fun ch a' m'' => R (.panicked ch) m'' ∧ Rep a' n base rs ds) hk ho rfl ((ha.eval ▸ hy).wps hc fun e m' r => by
    cases e with
    | returned v => exact ⟨v, r, ha.put hd v⟩
    | panicked ch => exact ⟨r, ha⟩
    | outgrown => exact hO _ r) (fun a' m'' ⟨v, h1, h2⟩ => hK v m'' h1 a' h2) (fun ch a' m'' ⟨h1, h2⟩ todo => hQ ch m'' h1 a' h2 todo)
/-- An operation that makes a block, at a frame. -/
theorem r_n {P : Program} {main : Bool} {b : Frame} {k : List Item} {cs : List Frame} {n : Nat} {base : Nat → Value} {rs : List (Nat × Value)} {ds : List Deferred} {m : Mem} {ops : Array Oper} {i : Nat} {rest : List Nat} {dst : Option Tmp} {op : Op} {ty : TypeId} {pos : String} {after : Array Edge} {v : Nat → Value} {x : Obj}
    (ho : ops[i]? = some ⟨dst, op, ty, pos, after, none⟩) (hk : b.kind ≠ .early) (hd : dstOk n ⟨dst, op, ty, pos, after, none⟩ = true) (hy : Makes P ⟨dst, op, ty, pos, after, none⟩ (ev base rs) m v x)
    (h : ∀ z, m z = none → AtF P main b (.inRegion ops rest :: k) cs n base (outE dst (v z) rs) ds (m.set z x)) : AtF P main b (.inRegion ops (i :: rest) :: k) cs n base rs ds m := fun a ha =>
  runM_oper (K := fun a' m'' => ∃ z, m z = none ∧ m'' = m.set z x ∧ Rep a' n base (outE dst (v z) rs) ds) (Qp := fun _ _ _ => False) hk ho rfl ((ha.eval ▸ hy).wps fun z hz => ⟨z, hz, rfl, ha.put hd (v z)⟩) (fun a' m'' ⟨z, h1, h2, h3⟩ => by subst h2; exact h z h1 a' h3) (fun _ _ _ z => z.elim)
/-- A channel without a buffer. -/
theorem n_makeChan {P : Program} {ρ : Operand → Value} {m : Mem} {dst : Option Tmp} {ty : TypeId} {pos : String} {after : Array Edge} {g : Option (Nat × Bool)} {t e : TypeId} {d : TypeDesc} {x : Operand} {by_ : Nat} (hx : ρ x = .int .i64 0) (ht : P.underlying t = some d) (hd : (match d with | .chan _ e' => e' == e | _ => false) = true) (hb : byOfS P e = some by_) :
    Makes P ⟨dst, .makeChan t x, ty, pos, after, g⟩ ρ m (fun b => .chan (some b)) (.chan 0 #[] false 0 0 false) := by
  obtain ⟨i, hi, rfl⟩ := Option.map_eq_some_iff.1 hb
  cases d <;> first | (cases hd; done) | skip
  rename_i dir e'
  have he : e' = e := by simpa using hd
  subst he
  have h1 : ¬ ((0 : Int) < 0 ∨ (0 : Int) > IntKind.i64.max ∨ (i.bytes : Int) * 0 > 2 ^ 48 - 112) := by simp [IntKind.max, IntKind.signed, IntKind.bits]
  simp only [Makes, execOp, Instr.makeChan, hx, asInt, wpm_bindM, wpm_asIntOf, wpm_underlying ht, wpm_pureM, wpm_typeInfo hi, h1, if_false, wpm_newObj]
  exact fun b hb => ⟨b, hb, rfl, rfl⟩
/-- The orders that a region may draw. -/
def ordersOf (md : Region.Mode) (ops : Array Oper) : Nat → Array Bool → List (List Nat)
  | 0, _ => [[]]
  | fuel + 1, listed => if (Region.ready md ops listed).isEmpty then [[]] else (Region.ready md ops listed).flatMap fun i => (ordersOf md ops fuel (listed.setIfInBounds i true)).map (i :: ·)
theorem linearise_mem {md : Region.Mode} {ops : Array Oper} : ∀ (fuel t : Nat) (listed : Array Bool), Region.linearise.go md ops fuel t listed [] ∈ ordersOf md ops fuel listed := by
  intro fuel
  induction fuel with
  | zero => intro t listed; simp [Region.linearise.go, ordersOf]
  | succ fuel ih =>
    intro t listed
    simp only [Region.linearise.go]
    change (match (Region.ready md ops listed)[t % (Region.ready md ops listed).length]? with
      | some i => Region.linearise.go md ops fuel (t / (Region.ready md ops listed).length) (listed.setIfInBounds i true) [i]
      | none => [].reverse) ∈ _
    simp only [ordersOf]
    cases hr : Region.ready md ops listed with
    | nil => simp
    | cons x xs =>
      have hlt : t % (x :: xs).length < (x :: xs).length := Nat.mod_lt _ (by simp)
      rw [List.getElem?_eq_getElem hlt]
      simp only [List.isEmpty_cons, Bool.false_eq_true, if_false, List.mem_flatMap]
      refine ⟨_, List.getElem_mem hlt, ?_⟩
      rw [linearise_go_acc, List.reverse_singleton, List.singleton_append]
      exact List.mem_map_of_mem (ih _ _)
/-- A region that draws, at a frame. -/
theorem r_draw {P : Program} {main : Bool} {b : Frame} {k : List Item} {cs : List Frame} {n : Nat} {base : Nat → Value} {rs : List (Nat × Value)} {ds : List Deferred} {m : Mem} {ops : Array Oper} {id : Nat} (l : List (List Nat)) (hm : P.follows .mixedOrders = true) (hl : ordersOf .any ops ops.size (Array.replicate ops.size false) = l)
    (h : ∀ x ∈ l, AtF P main b (.inRegion ops x :: k) cs n base rs ds m) : AtF P main b (.code (.region id ops true) :: k) cs n base rs ds m := by
  intro a ha X s w hmw ho hs
  refine .step' fun d => ⟨b.at a (.inRegion ops (Region.schedule (P.follows .mixedOrders) ops (w.tape d (.order b.fn id))) :: k), cs, { w.at d with drawn := d + 1 }, #[], ?_, ?_, ?_⟩
  · simp [G, stepG, stepG.exec, Frame.at, choose, Sem.run, Question.forced, Question.cut, World.at]
  · exact ⟨rfl, rfl, rfl, Nat.le_refl _, fun _ _ _ => rfl, fun _ _ _ _ _ c _ _ h => ⟨c, h, rfl, fun _ _ => rfl⟩, fun _ z => by simp at z⟩
  · refine h _ ?_ a ha X s _ hmw ho hs
    simp only [Region.schedule, hm, Bool.true_or, if_true]
    rw [← hl]
    exact linearise_mem _ _ _
theorem r_drawT {P : Program} {main : Bool} {b : Frame} {k : List Item} {cs : List Frame} {n : Nat} {base : Nat → Value} {rs : List (Nat × Value)} {ds : List Deferred} {m : Mem} {ops : Array Oper} {id : Nat} (l : List (List Nat)) (tail : List Nat) (Q : List (Nat × Value) → Mem → Prop) (hm : P.follows .mixedOrders = true) (hl : ordersOf .any ops ops.size (Array.replicate ops.size false) = l)
    (hQ : ∀ rs' m', Q rs' m' → AtF P main b (.inRegion ops tail :: k) cs n base rs' ds m')
    (h : (∀ rs' m', Q rs' m' → AtF P main b (.inRegion ops tail :: k) cs n base rs' ds m') → ∀ x ∈ l, AtF P main b (.inRegion ops x :: k) cs n base rs ds m) : AtF P main b (.code (.region id ops true) :: k) cs n base rs ds m :=
  r_draw l hm hl (h hQ)
theorem r_pin {P : Program} {main : Bool} {b : Frame} {kk : List Item} {cs : List Frame} {n : Nat} {base : Nat → Value} {rs : List (Nat × Value)} {ds : List Deferred} {m : Mem} {t : Nat} {v : Value} (hv : look base rs t = v) (h : AtF P main b kk cs n base ((t, v) :: rs) ds m) : AtF P main b kk cs n base rs ds m := fun a ha => h a (ha.pin hv)
/-- A go statement, at a frame. -/
theorem go_at {P : Program} {main : Bool} {b : Frame} {a : Act} {ops : Array Oper} {i : Nat} {rest : List Nat} {k : List Item} {cs : List Frame} {n : Nat} {base : Nat → Value} {rs : List (Nat × Value)} {ds : List Deferred} {dst : Option Tmp} {ty : TypeId} {pos : String} {after : Array Edge} {c : Call} {d : Deferred} {f : Fn} {cap : Array Value}
    (ho : ops[i]? = some ⟨dst, .go c, ty, pos, after, none⟩) (hk : b.kind ≠ .early) (ha : Rep a n base rs ds) (hd : resolve (ev base rs) c ty = pure d) (ht : d.target = .fn f cap) (w : World) :
    stepG P main (G (b.at a (.inRegion ops (i :: rest) :: k)) cs) w = .spawn (G (b.at (a.put dst undef) (.inRegion ops rest :: k)) cs) (born P d) w #[] := by
  have hs : (execOp a.eval ⟨dst, .go c, ty, pos, after, none⟩).runT P w #[] = (.ok (.spawn d) w, #[]) := by
    rw [ha.eval]; unfold execOp; simp only [hd]; rfl
  rw [stepG_spawn ho rfl hk (by rw [← Sem.runT_fst P _ w #[], hs]) ht, listed_none (by show ((execOp a.eval _).runT P w #[]).2 = _; rw [hs])]
/-- A store into a cell behind those that are shut. -/
theorem d_store1F {P : Program} {ρ : Operand → Value} {m : Mem} {dst : Option Tmp} {ty : TypeId} {pos : String} {after : Array Edge} {g : Option (Nat × Bool)} {t : TypeId} {x y : Operand} {b o k : Nat} {c : Array Value} {e : TypeId} {v : Value} (hx : ρ x = .pointer (some ⟨b, o, none⟩)) (hy : ρ y = v) (hv : v.cells = #[v]) (hf : Value.flat v = true)
    (hn : szOf P t = some 1) (hb : m b = some (.cells c e (0, k))) (ho : o < c.size) (hk : k ≤ o) : Does P ⟨dst, .store t x y, ty, pos, after, g⟩ ρ m (m.set b (.cells (c.setIfInBounds o v) e (0, k))) := by
  have hadd : (⟨b, o, none⟩ : Addr).add 0 = ⟨b, o, none⟩ := by rw [add_off]; rfl
  have hput : m.put ⟨b, o, none⟩ v = m.set b (.cells (c.setIfInBounds o v) e (0, k)) := by simp [Mem.put, hb]
  have hlays : m.lays ⟨b, o, none⟩ 0 [v] = true := by
    simp only [Mem.lays, hadd, hf, Mem.cell, Mem.frz, hb, Bool.true_and, Bool.and_true]
    simp [ho]; omega
  have := d_store (P := P) (dst := dst) (ty := ty) (pos := pos) (after := after) (g := g) (m := m) hx hy hn (by rw [hv]; rfl) (by rw [hv]; exact hlays)
  rw [hv] at this
  simpa [Mem.lay, hadd, hput] using this
/-- The terms of the communications. -/
theorem run_send {P : Program} {ρ : Operand → Value} {dst : Option Tmp} {ty : TypeId} {pos : String} {after : Array Edge} {g : Option (Nat × Bool)} {ch x : Operand} {c : Nat} {v : Value} (hc : ρ ch = .chan (some c)) (hx : ρ x = v) (w : World) :
    (execOp ρ ⟨dst, .send ch x, ty, pos, after, g⟩).runT P w #[] = (.ok (.comm #[scase c v (.tuple #[])] true .send) w, #[]) := by
  subst hx
  simp only [execOp, hc]
  rfl
theorem run_recv {P : Program} {ρ : Operand → Value} {dst : Option Tmp} {ty : TypeId} {pos : String} {after : Array Edge} {g : Option (Nat × Bool)} {ch : Operand} {t e : TypeId} {d : TypeDesc} {c : Nat} {z : Value} {ok : Bool} (hc : ρ ch = .chan (some c)) (ht : P.underlying t = some d) (hd : (match d with | .chan _ e' => e' == e | _ => false) = true) (hz : zeroOf P e = some z) (w : World) :
    (execOp ρ ⟨dst, .recv t ch ok, ty, pos, after, g⟩).runT P w #[] = (.ok (.comm #[rcase c z] true (.recv ok)) w, #[]) := by
  obtain ⟨i, hi, hzi⟩ := Option.bind_eq_some_iff.1 hz
  cases d <;> first | (cases hd; done) | skip
  rename_i dir e'
  have he : e' = e := by simpa using hd
  subst he
  have h1 : execOp ρ ⟨dst, .recv t ch ok, ty, pos, after, g⟩ = (underlying t).bind fun d => match d with
    | .chan _ elem => (zeroValue elem).bind fun z => pure (.comm #[{ chan := ρ ch, send := none, zero := z }] true (.recv ok))
    | _ => stuck "receive: channel type expected" := rfl
  rw [h1]
  show Sem.runT P ((Sem.bind program _).bind _) w #[] = _
  simp only [program, Sem.bind, Sem.runT, ht]
  show Sem.runT P ((zeroValue e').bind _) w #[] = _
  show Sem.runT P ((Sem.bind (Sem.bind program _) _).bind _) w #[] = _
  simp only [program, Sem.bind, Sem.runT, hi]
  show Sem.runT P (Sem.bind (match i.zero with | some z => pure z | none => _) _) w #[] = _
  rw [hzi]
  show (Result.ok _ w, #[]) = _
  rw [hc]
  rfl
/-- A frame that stands at a send. -/
theorem send_at {P : Program} {main : Bool} {b : Frame} {a : Act} {ops : Array Oper} {i : Nat} {rest : List Nat} {k : List Item} {cs : List Frame} {n : Nat} {base : Nat → Value} {rs : List (Nat × Value)} {ds : List Deferred} {dst : Option Tmp} {ty : TypeId} {pos : String} {after : Array Edge} {ch x : Operand} {c : Nat} {v : Value}
    (ho : ops[i]? = some ⟨dst, .send ch x, ty, pos, after, none⟩) (hk : b.kind ≠ .early) (ha : Rep a n base rs ds) (hc : ev base rs ch = .chan (some c)) (hx : ev base rs x = v) (w : World) :
    stepG P main (G (b.at a (.inRegion ops (i :: rest) :: k)) cs) w = .comm (G (b.at a (.inRegion ops (i :: rest) :: k)) cs) #[scase c v (.tuple #[])] true .send w #[] := by
  have hs : (execOp a.eval ⟨dst, .send ch x, ty, pos, after, none⟩).runT P w #[] = (.ok (.comm #[scase c v (.tuple #[])] true .send) w, #[]) := by rw [ha.eval]; exact run_send hc hx w
  rw [stepG_comm ho rfl hk (by rw [← Sem.runT_fst P _ w #[], hs]), listed_none (by show ((execOp a.eval _).runT P w #[]).2 = _; rw [hs])]
/-- A frame that stands at a close. -/
theorem close_at {P : Program} {main : Bool} {b : Frame} {a : Act} {ops : Array Oper} {i : Nat} {rest : List Nat} {k : List Item} {cs : List Frame} {n : Nat} {base : Nat → Value} {rs : List (Nat × Value)} {ds : List Deferred} {dst : Option Tmp} {ty : TypeId} {pos : String} {after : Array Edge} {x : Operand} {ats : Array TypeId} {c : Nat}
    (ho : ops[i]? = some ⟨dst, .call ⟨.builtin .close, #[x], ats⟩, ty, pos, after, none⟩) (hk : b.kind ≠ .early) (ha : Rep a n base rs ds) (hx : ev base rs x = .chan (some c)) (hq : (P.funcs[b.fn]?).any (·.norace) = false) (w : World) (cap kk : Nat) (hc : w.heap[c]? = some (Obj.chan cap #[] false kk kk false)) (d : Nat) :
    stepG P main (G (b.at a (.inRegion ops (i :: rest) :: k)) cs) (w.at d) = .go (G (b.at (a.put dst (.tuple #[])) (.inRegion ops rest :: k)) cs) ((w.at d).setChan c cap #[] true kk kk false) (closeEvents c) :=
  stepG_close (w := w.at d) ho rfl hk rfl (by rw [ha.eval]; exact hx) hc hq
theorem runT_zeroValue {P : Program} {e : TypeId} {z : Value} (hz : zeroOf P e = some z) {α : Type} (f : Value → Sem α) (w : World) (es : Array Event) : ((zeroValue e).bind f).runT P w es = (f z).runT P w es := by
  obtain ⟨i, hi, hzi⟩ := Option.bind_eq_some_iff.1 hz
  show Sem.runT P ((Sem.bind (Sem.bind program _) _).bind _) w es = _
  simp only [program, Sem.bind, Sem.runT, hi]
  show Sem.runT P (Sem.bind (match i.zero with | some z => pure z | none => _) _) w es = _
  rw [hzi]
  rfl
theorem run_select1 {P : Program} {ρ : Operand → Value} {dst : Option Tmp} {ty : TypeId} {pos : String} {after : Array Edge} {g : Option (Nat × Bool)} {s1 : SelectCase} {c1 : Nat} {z : Value} {bl : Bool} (h1 : ρ s1.chan = .chan (some c1)) (n1 : s1.send = none) (hz : zeroOf P s1.elem = some z) (w : World) :
    (execOp ρ ⟨dst, .select #[s1] bl, ty, pos, after, g⟩).runT P w #[] = (.ok (.comm #[rcase c1 z] bl .select) w, #[]) := by
  have : execOp ρ ⟨dst, .select #[s1] bl, ty, pos, after, g⟩ = (zeroValue s1.elem).bind fun z => pure (.comm #[{ chan := ρ s1.chan, send := s1.send.map ρ, zero := z }] bl .select) := by
    simp only [execOp, Array.mapM_eq_mapM_toList, map_eq_pure_bind, bind_assoc, pure_bind, List.mapM_cons, List.mapM_nil]
    rfl
  rw [this, runT_zeroValue hz, h1, n1]
  rfl
theorem run_select2 {P : Program} {ρ : Operand → Value} {dst : Option Tmp} {ty : TypeId} {pos : String} {after : Array Edge} {g : Option (Nat × Bool)} {s1 s2 : SelectCase} {c1 c2 : Nat} {z1 z2 : Value} {bl : Bool} (h1 : ρ s1.chan = .chan (some c1)) (n1 : s1.send = none) (hz1 : zeroOf P s1.elem = some z1) (h2 : ρ s2.chan = .chan (some c2)) (n2 : s2.send = none) (hz2 : zeroOf P s2.elem = some z2) (w : World) :
    (execOp ρ ⟨dst, .select #[s1, s2] bl, ty, pos, after, g⟩).runT P w #[] = (.ok (.comm #[rcase c1 z1, rcase c2 z2] bl .select) w, #[]) := by
  have : execOp ρ ⟨dst, .select #[s1, s2] bl, ty, pos, after, g⟩ = (zeroValue s1.elem).bind fun z => (zeroValue s2.elem).bind fun z' => pure (.comm #[{ chan := ρ s1.chan, send := s1.send.map ρ, zero := z }, { chan := ρ s2.chan, send := s2.send.map ρ, zero := z' }] bl .select) := by
    simp only [execOp, Array.mapM_eq_mapM_toList, map_eq_pure_bind, bind_assoc, pure_bind, List.mapM_cons, List.mapM_nil]
    rfl
  rw [this, runT_zeroValue hz1, runT_zeroValue hz2, h1, n1, h2, n2]
  rfl
/-- A frame that makes a block. -/
theorem box_at {P : Program} {main : Bool} {b : Frame} {a : Act} {ops : Array Oper} {i : Nat} {rest : List Nat} {k : List Item} {cs : List Frame} {n : Nat} {base : Nat → Value} {rs : List (Nat × Value)} {ds : List Deferred} {dst : Option Tmp} {ty t : TypeId} {pos : String} {after : Array Edge} {x : Operand} {v : Value}
    (ho : ops[i]? = some ⟨dst, .box t x, ty, pos, after, none⟩) (hk : b.kind ≠ .early) (ha : Rep a n base rs ds) (hx : ev base rs x = v) (w : World) :
    stepG P main (G (b.at a (.inRegion ops (i :: rest) :: k)) cs) w = .go (G (b.at (a.put dst (.pointer (some ⟨w.heap.size, 0, none⟩))) (.inRegion ops rest :: k)) cs) { w with heap := w.heap.push (.cells v.cells t) } #[] := by
  have hs : (execOp a.eval ⟨dst, .box t x, ty, pos, after, none⟩).runT P w #[] = (.ok (.value (.pointer (some ⟨w.heap.size, 0, none⟩))) { w with heap := w.heap.push (.cells v.cells t) }, #[]) := by rw [ha.eval, ← hx]; rfl
  rw [stepG_value ho rfl hk (by rw [← Sem.runT_fst P _ w #[], hs]), listed_none (by show ((execOp a.eval _).runT P w #[]).2 = _; rw [hs])]
end Go.Sp
